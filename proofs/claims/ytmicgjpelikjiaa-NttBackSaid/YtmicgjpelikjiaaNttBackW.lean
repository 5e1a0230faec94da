/- The walk of the statement NttBack: the law returns true for all arguments. -/
import Derived.Test.YtmicgjpelikjiaaNttFact
namespace Go.Proofs.Ytmicgjpelikjiaa
open Go.RowKit

theorem back_bad (A : Option Addr) (n c : Nat) (L : List Int) (w : World) (hL : Rd w w.heap.size A n L) (h8 : ¬ Eight L) :
    Calls Try.prog 3 #[.slice A n c] w fun e w' => e = .returned (.bool true) ∧ Below w.heap.size w w' := by
  have H8 := Lib.hid h8
  clear h8
  go_enter Try.func3, Try.ntmps3
  go_wp2_with (first | (go_at_call 9; refine (c_nttFact _).mono ?_; rintro e w1 ⟨rfl, hb1⟩) | (go_at_call 10; refine (more (by assumption) (c_There_bad _ _ _ L _ _ (hL.below (by assumption)) H8.out)).mono ?_; rintro e w2 ⟨rfl, hb2⟩))
  go_ret
  exact ⟨rfl, by assumption⟩
set_option maxHeartbeats 2000000 in
theorem back_ok (A : Option Addr) (c : Nat) (L : List Int) (w : World) (hL : Rd w w.heap.size A 8 L) (h8 : Eight L) :
    Calls Try.prog 3 #[.slice A 8 c] w fun e w' => e = .returned (.bool true) ∧ Below w.heap.size w w' := by
  have HL := Lib.hid hL
  have H8 := Lib.hid h8
  clear hL h8
  have T8 : ∀ M, Eight (turnL 64 1 M) := fun M => turnL_eight 64 1 M
  have B8 : ∀ M, Eight (turnL 253 225 M) := fun M => turnL_eight 253 225 M
  have HT := Lib.hid T8
  have HB := Lib.hid B8
  clear T8 B8
  go_enter Try.func3, Try.ntmps3
  go_wp2_with fail
  refine (c_nttFact _).mono ?_
  rintro e w1 ⟨rfl, hb1⟩
  go_wp2_with fail
  -- l := There(a)
  refine (c_There_ok _ _ _ L _ _ (HL.out.below hb1) hb1.size H8.out).mono ?_
  rintro e w2 ⟨gl, rfl, ol, hb⟩
  have hb2 := hb1.trans (hb.mono hb1.size)
  have Ol := Lib.hid ol
  clear ol hb
  go_wp2_with fail
  -- m := Back(l)
  refine (c_Back_ok _ _ _ _ _ _ Ol.out.rd (Nat.le_refl _) (HT.out _)).mono ?_
  rintro e w3 ⟨gm, rfl, om, hb⟩
  have hb3 := hb2.trans (hb.mono hb2.size)
  rw [back_there L H8.out] at om
  have Om := Lib.hid om
  have Ol3 := Lib.hid (Ol.out.keep hb)
  clear om hb Ol
  go_wp2_with fail
  -- k := Back(a)
  refine (c_Back_ok _ _ _ L _ _ (HL.out.below hb3) hb3.size H8.out).mono ?_
  rintro e w4 ⟨gk, rfl, ok, hb⟩
  have hb4 := hb3.trans (hb.mono hb3.size)
  have Ok := Lib.hid ok
  have Om4 := Lib.hid (Om.out.keep hb)
  have Ol4 := Lib.hid (Ol3.out.keep hb)
  clear ok hb Om Ol3
  go_wp2_with fail
  -- Ints(m, a)
  refine (c_Ints _ _ _ _ _ _ _ _ _ _ _ Om4.out.rd (HL.out.below hb4) (by omega)).mono ?_
  rintro e w5 ⟨rfl, q5, rfl⟩
  rw [eqL_true rfl]
  have hb5 := below_drewN hb4 q5
  go_wp2_with fail
  -- n := There(k)
  refine (c_There_ok _ _ _ _ _ _ (Ok.out.drewN q5).rd (Nat.le_refl _) (HB.out _)).mono ?_
  rintro e w6 ⟨gn, rfl, on, hb⟩
  have hb6 := hb5.trans (hb.mono hb5.size)
  rw [there_back L H8.out] at on
  have On := Lib.hid on
  have Ol6 := Lib.hid ((Ol4.out.drewN q5).keep hb)
  clear on hb Ol4 Ok Om4
  go_wp2_with fail
  -- Ints(n, a)
  refine (c_Ints _ _ _ _ _ _ _ _ _ _ _ On.out.rd (HL.out.below hb6) (by omega)).mono ?_
  rintro e w7 ⟨rfl, q7, rfl⟩
  rw [eqL_true rfl]
  have hb7 := below_drewN hb6 q7
  go_wp2_with fail
  -- x := There(l)
  refine (c_There_ok _ _ _ _ _ _ (Ol6.out.drewN q7).rd (Nat.le_refl _) (HT.out _)).mono ?_
  rintro e w8 ⟨gx, rfl, ox, hb⟩
  have hb8 := hb7.trans (hb.mono hb7.size)
  have Ox := Lib.hid ox
  clear ox hb Ol6 On
  go_wp2_with fail
  -- y := There(x)
  refine (c_There_ok _ _ _ _ _ _ Ox.out.rd (Nat.le_refl _) (HT.out _)).mono ?_
  rintro e w9 ⟨gy, rfl, oy, hb⟩
  have hb9 := hb8.trans (hb.mono hb8.size)
  have Oy := Lib.hid oy
  clear oy hb Ox
  go_wp2_with fail
  -- z := There(y)
  refine (c_There_ok _ _ _ _ _ _ Oy.out.rd (Nat.le_refl _) (HT.out _)).mono ?_
  rintro e w10 ⟨gz, rfl, oz, hb⟩
  have hb10 := hb9.trans (hb.mono hb9.size)
  have Oz := Lib.hid oz
  clear oz hb Oy hb1 hb2 hb3 hb4 hb5 hb6 hb7 hb8 hb9
  have HZ : Hid (∀ k, k < 8 → w10.cell? ⟨gz, k, none⟩ = some (.int .i64 (nth L k * 64 % 257))) := fun k hk => by
    rw [Oz.out.cell hk, there_four L hk]
  have HA : Hid (Rd w10 w.heap.size A 8 L) := HL.out.below hb10
  clear Oz
  go_wp2
  go_loopw [14] (fun i wr => ∃ k : Nat, k ≤ 8 ∧ i = .int .i64 k ∧ ∃ q, wr = w10.drewN q) (fun i _ => 8 - (intOf i).toNat)
  case atStart => exact ⟨0, Nat.zero_le _, rfl, 0, rfl⟩
  case round =>
    obtain ⟨k, hk, rfl, q, rfl⟩ := hrel
    by_cases hlt : k < 8
    · obtain ⟨b, off, rfl, hc⟩ := HA.out.at_ hlt
      have hz := HZ.out k hlt
      have hx := H8.out.2 k hlt
      obtain ⟨x, hxx⟩ : ∃ x, x = nth L k := ⟨_, rfl⟩
      rw [← hxx] at hc hz hx
      clear hxx
      have e1 : IntKind.i64.wrap (x * 64) = x * 64 := IntWalk.i64_in _ (by omega)
      have e2 : (x * 64).tmod 257 = x * 64 % 257 := Int.tmod_eq_emod_of_nonneg (by omega)
      have e3 : (x * 64 % 257 != x * 64 % 257) = false := by simp
      go_wp2
      go_quiet (fail)
      clear e1 e2
      go_wp2
      go_roundw
      case rel => exact ⟨k + 1, by omega, by go_num, _, rfl⟩
      case measure => simp [intOf]; omega
    · go_wp2
      go_ret
      exact ⟨rfl, below_drewN hb10 q⟩
theorem frame_NttBack (A : Option Addr) (n c : Nat) (L : List Int) (w : World) (hL : Rd w w.heap.size A n L) (_ : n ≤ 9223372036854775807) (_ : ∀ x ∈ L, Fits x) :
    Calls Try.prog 3 #[.slice A n c] w fun e w' => e = .returned (.bool true) ∧ Below w.heap.size w w' := by
  by_cases h : Eight L
  · obtain rfl : n = 8 := by rw [← hL.1]; exact h.1
    exact back_ok A c L w hL h
  · exact back_bad A n c L w hL h
end Go.Proofs.Ytmicgjpelikjiaa
