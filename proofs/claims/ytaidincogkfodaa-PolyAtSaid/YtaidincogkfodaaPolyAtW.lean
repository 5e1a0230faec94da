/- The walk of the statement PolyAt: the law returns true for all arguments. -/
import Derived.Test.YtaidincogkfodaaPolyR
namespace Go.Proofs.Ytaidincogkfodaa
open Go.RowKit

theorem c_RModP (n : Int) (w : World) (h1 : 0 ≤ n) (h2 : n ≤ 9223372036854775807) :
    Calls Try.prog 19 #[.int .i64 n] w fun e w' => e = .returned (.int .i64 (n % 9973)) ∧ w = w' := by
  go_enter Try.func19, Try.ntmps19
  go_wp2
  go_ret
  exact ⟨rfl, rfl⟩
/-- At, whatever it is asked: some number and some error. -/
theorem c_PAt_any (A : Option Addr) (n c : Nat) (L : List Int) (x : Int) (B : Nat) (w : World) (hL : Rd w B A n L) :
    Calls Try.prog 18 #[.slice A n c, .int .i64 x] w fun e w' => (∃ (v : Int) (er : Value), e = .returned (.tuple #[.int .i64 v, er])) ∧ w = w' := by
  by_cases h : POk L
  · by_cases hx : 0 ≤ x ∧ x ≤ 9972
    · exact (c_PAt_ok A n c L x B w hL h hx).mono fun e w' ⟨a, b⟩ => ⟨⟨_, _, a⟩, b⟩
    · exact (c_PAt_far A n c L x B w hL h hx).mono fun e w' ⟨a, b⟩ => ⟨⟨_, _, a⟩, b⟩
  · exact (c_PAt_bad A n c L x B w hL h).mono fun e w' ⟨a, b⟩ => ⟨⟨_, _, a⟩, b⟩
section
variable (A A' : Option Addr) (n n' c c' : Nat) (f g : List Int) (x : Int) (w : World)
theorem pat_bad (hL : Rd w w.heap.size A n f) (hM : Rd w w.heap.size A' n' g) (h : ¬ (POk f ∧ 0 ≤ x ∧ x ≤ 9972)) :
    Calls Try.prog 7 #[.slice A n c, .slice A' n' c', .int .i64 x] w fun e w' => e = .returned (.bool true) ∧ Below w.heap.size w w' := by
  have HL := Lib.hid hL
  have HM := Lib.hid hM
  have HX : Hid (∀ (B : Nat) (w : World), Rd w B A n f → Calls Try.prog 18 #[.slice A n c, .int .i64 x] w fun e w' => (∃ y : Int, e = .returned (.tuple #[.int .i64 0, .iface 44 (.int .i64 y)])) ∧ w = w') := fun B w hr => by
    by_cases h1 : POk f
    · exact (c_PAt_far A n c f x B w hr h1 (fun h2 => h ⟨h1, h2⟩)).mono fun e w' ⟨a, b⟩ => ⟨⟨_, a⟩, b⟩
    · exact (c_PAt_bad A n c f x B w hr h1).mono fun e w' ⟨a, b⟩ => ⟨⟨_, a⟩, b⟩
  clear hL hM h
  go_enter Try.func7, Try.ntmps7
  go_wp2_with fail
  refine (c_polyFact _).mono ?_
  rintro e w1 ⟨rfl, hb1⟩
  go_wp2_with fail
  refine (HX.out _ _ (HL.out.below hb1)).mono ?_
  rintro e w' ⟨⟨y, rfl⟩, rfl⟩
  go_wp2_with fail
  refine (c_PAt_any _ _ _ g x _ _ (HM.out.below hb1)).mono ?_
  rintro e w' ⟨⟨v, er, rfl⟩, rfl⟩
  go_wp2
  go_ret
  exact ⟨rfl, hb1⟩
theorem pat_half (hL : Rd w w.heap.size A n f) (hM : Rd w w.heap.size A' n' g) (h : POk f) (hx : 0 ≤ x ∧ x ≤ 9972) (h' : ¬ POk g) :
    Calls Try.prog 7 #[.slice A n c, .slice A' n' c', .int .i64 x] w fun e w' => e = .returned (.bool true) ∧ Below w.heap.size w w' := by
  have HL := Lib.hid hL
  have HM := Lib.hid hM
  have H := Lib.hid h
  have H' := Lib.hid h'
  clear hL hM h h'
  go_enter Try.func7, Try.ntmps7
  go_wp2_with fail
  refine (c_polyFact _).mono ?_
  rintro e w1 ⟨rfl, hb1⟩
  go_wp2_with fail
  refine (c_PAt_ok _ _ _ f x _ _ (HL.out.below hb1) H.out hx).mono ?_
  rintro e w' ⟨rfl, rfl⟩
  go_wp2_with fail
  refine (c_PAt_bad _ _ _ g x _ _ (HM.out.below hb1) H'.out).mono ?_
  rintro e w' ⟨rfl, rfl⟩
  go_wp2
  go_ret
  exact ⟨rfl, hb1⟩
set_option maxHeartbeats 2000000 in
theorem pat_all (hL : Rd w w.heap.size A n f) (hM : Rd w w.heap.size A' n' g) (h : POk f) (hx : 0 ≤ x ∧ x ≤ 9972) (h' : POk g) :
    Calls Try.prog 7 #[.slice A n c, .slice A' n' c', .int .i64 x] w fun e w' => e = .returned (.bool true) ∧ Below w.heap.size w w' := by
  have HL := Lib.hid hL
  have HM := Lib.hid hM
  have H := Lib.hid h
  have H' := Lib.hid h'
  have hn : n ≤ 12 := by rw [← hL.1]; exact h.1
  have hn' : n' ≤ 12 := by rw [← hM.1]; exact h'.1
  have hlf := Lib.hid hL.1
  have hlg := Lib.hid hM.1
  have ba := pat_bd f x
  have bb := pat_bd g x
  have EM := Lib.hid (pat_mul f g x)
  have EA := Lib.hid (pat_add f g x)
  obtain ⟨a, ha⟩ : ∃ a, a = pat f x := ⟨_, rfl⟩
  obtain ⟨b, hb⟩ : ∃ b, b = pat g x := ⟨_, rfl⟩
  have HA := Lib.hid ha.symm
  have HB := Lib.hid hb.symm
  rw [← ha] at ba EM EA
  rw [← hb] at bb EM EA
  clear hL hM h h' ha hb
  have i1 : inB a 0 9972 = true := by unfold inB; simp; omega
  have i2 : inB b 0 9972 = true := by unfold inB; simp; omega
  have bm := mul_bd a b 9973 ba.1 ba.2 bb.1 bb.2
  by_cases hlen : 12 < n + n'
  · have hlen' : (12 : Int) < (n : Int) + (n' : Int) := by omega
    go_enter Try.func7, Try.ntmps7
    go_wp2_with fail
    refine (c_polyFact _).mono ?_
    rintro e w1 ⟨rfl, hb1⟩
    go_wp2_with fail
    refine (c_PAt_ok _ _ _ f x _ _ (HL.out.below hb1) H.out hx).mono ?_
    rintro e w' ⟨rfl, rfl⟩
    go_wp2_with fail
    refine (c_PAt_ok _ _ _ g x _ _ (HM.out.below hb1) H'.out hx).mono ?_
    rintro e w' ⟨rfl, rfl⟩
    go_wp2
    go_ret
    exact ⟨rfl, hb1⟩
  · have PM : Hid (POk (pmul f g)) := ⟨by have := pmul_len f g; rw [hlf.out, hlg.out] at this; omega, pmul_pl f g⟩
    have PA : Hid (POk (padd f g)) := ⟨by have := padd_len f g; rw [hlf.out, hlg.out] at this; omega, padd_pl f g⟩
    have hlen' : ¬ (12 : Int) < (n : Int) + (n' : Int) := by omega
    go_enter Try.func7, Try.ntmps7
    go_wp2_with fail
    refine (c_polyFact _).mono ?_
    rintro e w1 ⟨rfl, hb1⟩
    go_wp2_with fail
    refine (c_PAt_ok _ _ _ f x _ _ (HL.out.below hb1) H.out hx).mono ?_
    rintro e w' ⟨rfl, rfl⟩
    rw [HA.out]
    go_wp2_with fail
    refine (c_PAt_ok _ _ _ g x _ _ (HM.out.below hb1) H'.out hx).mono ?_
    rintro e w' ⟨rfl, rfl⟩
    rw [HB.out]
    go_wp2_with fail
    refine (c_PMul_ok _ _ _ _ _ _ f g _ ((HL.out.below hb1).more hb1.size) ((HM.out.below hb1).more hb1.size) H.out H'.out).mono ?_
    rintro e w2 ⟨A2, c2, rfl, o2, hb2⟩
    have O2 := Lib.hid o2
    have T2 := hb1.trans (hb2.mono hb1.size)
    clear o2 hb2
    go_wp2_with fail
    refine (c_PAdd_ok _ _ _ _ _ _ f g _ ((HL.out.below T2).more T2.size) ((HM.out.below T2).more T2.size) H.out H'.out).mono ?_
    rintro e w3 ⟨A3, c3, rfl, o3, hb3⟩
    have O3 := Lib.hid o3
    have O2' := Lib.hid (O2.out.keep hb3)
    have T3 := T2.trans (hb3.mono T2.size)
    clear o3 hb3 O2
    go_wp2_with fail
    refine (c_PAt_ok _ _ _ (pmul f g) x _ _ O2'.out.rd PM.out hx).mono ?_
    rintro e w' ⟨rfl, rfl⟩
    rw [EM.out]
    go_wp2_with fail
    refine (c_PAt_ok _ _ _ (padd f g) x _ _ O3.out.rd PA.out hx).mono ?_
    rintro e w' ⟨rfl, rfl⟩
    rw [EA.out]
    go_wp2_with (first | (go_at_call 21; refine (c_in _ _ _ _).mono ?_; rintro e w' ⟨rfl, rfl⟩) | (go_at_call 19; refine (c_RModP _ _ (by omega) (by omega)).mono ?_; rintro e w' ⟨rfl, rfl⟩))
    go_ret
    exact ⟨rfl, T3⟩
end
theorem frame_PolyAt (A : Option Addr) (n c : Nat) (f : List Int) (A' : Option Addr) (n' c' : Nat) (g : List Int) (x : Int) (w : World)
    (hL : Rd w w.heap.size A n f) (_ : n ≤ c ∧ c ≤ 9223372036854775807) (_ : ∀ x ∈ f, Fits x) (hM : Rd w w.heap.size A' n' g) (_ : n' ≤ c' ∧ c' ≤ 9223372036854775807) (_ : ∀ x ∈ g, Fits x) (_ : Fits x) :
    Calls Try.prog 7 #[.slice A n c, .slice A' n' c', .int .i64 x] w fun e w' => e = .returned (.bool true) ∧ Below w.heap.size w w' := by
  by_cases h : POk f ∧ 0 ≤ x ∧ x ≤ 9972
  · by_cases h' : POk g
    · exact pat_all A A' n n' c c' f g x w hL hM h.1 h.2 h'
    · exact pat_half A A' n n' c c' f g x w hL hM h.1 h.2 h'
  · exact pat_bad A A' n n' c c' f g x w hL hM h
end Go.Proofs.Ytaidincogkfodaa
