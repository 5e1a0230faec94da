/- The contracts of package result: Check, and Of where nothing is wrong over lists of three and two (or two and three), and where something is wrong. -/
import Derived.Test.YtcbpkjmmacgmfaaFull
import Derived.Test.YtcbpkjmmacgmfaaGround
namespace Go.Proofs.Ytcbpkjmmacgmfaa
open Go.RowKit

section
variable (w : World) (A A' : Option Addr) (m m' cf cg : Nat) (f g : List Int) (B : Nat)
theorem c_rsCheck_range (hf : Rd w B A m f) (h1 : 1 ≤ m) (h2 : 1 ≤ m') (b1 : m ≤ 9) (af : anyB f 0 9972 = true) :
    Calls Try.prog 18 #[.slice A m cf, .slice A' m' cg] w fun e w' => e = .returned (.iface 38 (.int .i64 1)) ∧ w = w' := by
  have CA : Hid (Calls Try.prog 13 #[.slice A m cf, .int .i64 0, .int .i64 9972] w fun e w' => e = .returned (.bool (anyB f 0 9972)) ∧ w = w') := c_Any _ _ _ _ _ _ _ _ hf (by omega)
  rw [af] at CA
  have t1 : ((m : Int) == 0) = false := by simp; omega
  have t2 : ((m' : Int) == 0) = false := by simp; omega
  clear hf af
  go_enter Try.func18, Try.ntmps18
  go_wp2_with (go_at_call 13; refine CA.out.mono ?_; rintro e w' ⟨rfl, rfl⟩)
  go_ret
  exact ⟨rfl, rfl⟩
theorem c_rsCheck_shape (hf : Rd w B A m f) (hg : Rd w B A' m' g) (h1 : 1 ≤ m) (h2 : 1 ≤ m') (b1 : m ≤ 9) (b2 : m' ≤ 9) (af : anyB f 0 9972 = false) (ag : anyB g 0 9972 = false) (z : nth f (m - 1) = 0) :
    Calls Try.prog 18 #[.slice A m cf, .slice A' m' cg] w fun e w' => e = .returned (.iface 38 (.int .i64 3)) ∧ w = w' := by
  obtain ⟨k, rfl⟩ : ∃ k, m = k + 1 := ⟨m - 1, by omega⟩
  rw [Nat.add_sub_cancel] at z
  have CA : Hid (Calls Try.prog 13 #[.slice A (k + 1) cf, .int .i64 0, .int .i64 9972] w fun e w' => e = .returned (.bool (anyB f 0 9972)) ∧ w = w') := c_Any _ _ _ _ _ _ _ _ hf (by omega)
  have CG : Hid (Calls Try.prog 13 #[.slice A' m' cg, .int .i64 0, .int .i64 9972] w fun e w' => e = .returned (.bool (anyB g 0 9972)) ∧ w = w') := c_Any _ _ _ _ _ _ _ _ hg (by omega)
  rw [af] at CA
  rw [ag] at CG
  obtain ⟨b, off, rfl, hc⟩ := hf.at_ (k := k) (by omega)
  rw [z] at hc
  have t1 : ((k : Int) + 1 == 0) = false := by simp; omega
  have t2 : ((m' : Int) == 0) = false := by simp; omega
  clear hf hg af ag z
  go_enter Try.func18, Try.ntmps18
  go_wp2_with fail
  refine CA.out.mono ?_
  rintro e w' ⟨rfl, rfl⟩
  go_wp2_with fail
  refine CG.out.mono ?_
  rintro e w' ⟨rfl, rfl⟩
  go_wp2
  go_ret
  exact ⟨rfl, rfl⟩
theorem c_rsCheck_ok (hf : Rd w B A m f) (hg : Rd w B A' m' g) (h1 : 1 ≤ m) (h2 : 1 ≤ m') (h3 : 3 ≤ m + m') (h4 : m + m' ≤ 7) (af : anyB f 0 9972 = false) (ag : anyB g 0 9972 = false) (zf : nth f (m - 1) ≠ 0) (zg : nth g (m' - 1) ≠ 0) :
    Calls Try.prog 18 #[.slice A m cf, .slice A' m' cg] w fun e w' => e = .returned .nilIface ∧ w = w' := by
  obtain ⟨k, rfl⟩ : ∃ k, m = k + 1 := ⟨m - 1, by omega⟩
  obtain ⟨k', rfl⟩ : ∃ k', m' = k' + 1 := ⟨m' - 1, by omega⟩
  rw [Nat.add_sub_cancel] at zf zg
  have CA : Hid (Calls Try.prog 13 #[.slice A (k + 1) cf, .int .i64 0, .int .i64 9972] w fun e w' => e = .returned (.bool (anyB f 0 9972)) ∧ w = w') := c_Any _ _ _ _ _ _ _ _ hf (by omega)
  have CG : Hid (Calls Try.prog 13 #[.slice A' (k' + 1) cg, .int .i64 0, .int .i64 9972] w fun e w' => e = .returned (.bool (anyB g 0 9972)) ∧ w = w') := c_Any _ _ _ _ _ _ _ _ hg (by omega)
  rw [af] at CA
  rw [ag] at CG
  have CO : Hid (Calls Try.prog 12 #[.int .i64 ((k : Int) + (k' : Int)), .int .i64 1, .int .i64 5] w fun e w' => e = .returned (.bool (outB ((k : Int) + (k' : Int)) 1 5)) ∧ w = w') := c_Out _ _ _ _
  rw [outB_false (by omega) (by omega)] at CO
  obtain ⟨b, off, rfl, hc⟩ := hf.at_ (k := k) (by omega)
  obtain ⟨b', off', rfl, hc'⟩ := hg.at_ (k := k') (by omega)
  obtain ⟨x, hx⟩ : ∃ x, x = nth f k := ⟨_, rfl⟩
  obtain ⟨y, hy⟩ : ∃ y, y = nth g k' := ⟨_, rfl⟩
  rw [← hx] at hc zf
  rw [← hy] at hc' zg
  have t1 : ((k : Int) + 1 == 0) = false := by simp; omega
  have t2 : ((k' : Int) + 1 == 0) = false := by simp; omega
  have t3 : (x == 0) = false := by simp; exact zf
  have t4 : (y == 0) = false := by simp; exact zg
  have t5 : IntKind.i64.wrap ((k : Int) + 1 + ((k' : Int) + 1)) = (k : Int) + 1 + ((k' : Int) + 1) := IntWalk.i64_in _ (by omega)
  have t6 : (k : Int) + 1 + ((k' : Int) + 1) - 2 = (k : Int) + (k' : Int) := by omega
  clear hf hg af ag zf zg hx hy
  go_enter Try.func18, Try.ntmps18
  go_wp2_with fail
  refine CA.out.mono ?_
  rintro e w' ⟨rfl, rfl⟩
  go_wp2_with fail
  refine CG.out.mono ?_
  rintro e w' ⟨rfl, rfl⟩
  go_wp2_with fail
  refine CO.out.mono ?_
  rintro e w' ⟨rfl, rfl⟩
  go_wp2
  go_ret
  exact ⟨rfl, rfl⟩
theorem c_rsOf_bad (E : Int) (h : Calls Try.prog 18 #[.slice A m cf, .slice A' m' cg] w fun e w' => e = .returned (.iface 38 (.int .i64 E)) ∧ w = w') :
    Calls Try.prog 9 #[.slice A m cf, .slice A' m' cg] w fun e w' => e = .returned (.tuple #[.int .i64 0, .iface 38 (.int .i64 E)]) ∧ Below w.heap.size w w' := by
  have CK := Lib.hid h
  have hb : Hid (Below w.heap.size w w) := Below.refl _ _
  clear h
  go_enter Try.func9, Try.ntmps9
  go_wp2_with fail
  refine CK.out.mono ?_
  rintro e w' ⟨rfl, rfl⟩
  go_wp2
  go_ret2
  exact ⟨rfl, hb.out⟩
theorem c_rsOf_ok (hf : Rd w w.heap.size A m f) (hg : Rd w w.heap.size A' m' g) (hm : (m = 3 ∧ m' = 2) ∨ (m = 2 ∧ m' = 3)) (af : anyB f 0 9972 = false) (ag : anyB g 0 9972 = false) (zf : nth f (m - 1) ≠ 0) (zg : nth g (m' - 1) ≠ 0) (hr : RG (syl f g)) :
    Calls Try.prog 9 #[.slice A m cf, .slice A' m' cg] w fun e w' => e = .returned (.tuple #[.int .i64 (tr 0 (syl f g) % 9973), .nilIface]) ∧ Below w.heap.size w w' := by
  have CK : Hid (Calls Try.prog 18 #[.slice A m cf, .slice A' m' cg] w fun e w' => e = .returned .nilIface ∧ w = w') := c_rsCheck_ok w A A' m m' cf cg f g _ hf hg (by omega) (by omega) (by omega) (by omega) af ag zf zg
  have CF : Hid (Calls Try.prog 20 #[.slice A m cf, .slice A' m' cg] w _) := c_full w A A' m m' cf cg f g hf hg hm
  have HR := Lib.hid hr
  clear hf hg hm af ag zf zg hr
  go_enter Try.func9, Try.ntmps9
  go_wp2_with fail
  refine CK.out.mono ?_
  rintro e w' ⟨rfl, rfl⟩
  go_wp2_with fail
  refine CF.out.mono ?_
  rintro e w1 ⟨G, r, c, rfl, hP, hb⟩
  have HP := Lib.hid hP
  clear hP
  go_wp2_with fail
  refine (c_detOf w1 _ G r c _ HP.out HR.out).mono ?_
  rintro e w2 ⟨rfl, hb2⟩
  have HB := hb.trans (hb2.mono hb.size)
  go_wp2
  go_ret2
  exact ⟨rfl, HB⟩
end
end Go.Proofs.Ytcbpkjmmacgmfaa
