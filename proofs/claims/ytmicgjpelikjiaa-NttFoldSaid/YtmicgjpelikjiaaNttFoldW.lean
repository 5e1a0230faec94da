/- The walk of the statement NttFold: the law returns true for all arguments. -/
import Derived.Test.YtmicgjpelikjiaaNttFact
namespace Go.Proofs.Ytmicgjpelikjiaa
open Go.RowKit

section
variable (A A' : Option Addr) (n c n' c' : Nat) (L M : List Int) (w : World)
theorem fold_bad1 (hL : Rd w w.heap.size A n L) (hM : Rd w w.heap.size A' n' M) (h8 : ¬ Eight L) :
    Calls Try.prog 5 #[.slice A n c, .slice A' n' c'] w fun e w' => e = .returned (.bool true) ∧ Below w.heap.size w w' := by
  have H8 := Lib.hid h8
  clear h8
  go_enter Try.func5, Try.ntmps5
  go_wp2_with (first | (go_at_call 9; refine (c_nttFact _).mono ?_; rintro e w1 ⟨rfl, hb1⟩) | (go_at_call 15; refine (more (by assumption) (c_NFold_bad1 _ _ _ _ _ _ L M _ _ _ (hL.below (by assumption)) (hM.below (by assumption)) H8.out)).mono ?_; rintro e w2 ⟨rfl, hb2⟩))
  go_ret
  exact ⟨rfl, by assumption⟩
theorem fold_bad2 (hL : Rd w w.heap.size A n L) (hM : Rd w w.heap.size A' n' M) (h8 : Eight L) (h8' : ¬ Eight M) :
    Calls Try.prog 5 #[.slice A n c, .slice A' n' c'] w fun e w' => e = .returned (.bool true) ∧ Below w.heap.size w w' := by
  have H8 := Lib.hid h8
  have H8' := Lib.hid h8'
  clear h8 h8'
  go_enter Try.func5, Try.ntmps5
  go_wp2_with (first | (go_at_call 9; refine (c_nttFact _).mono ?_; rintro e w1 ⟨rfl, hb1⟩) | (go_at_call 15; refine (more (by assumption) (c_NFold_bad2 _ _ _ _ _ _ L M _ _ _ (hL.below (by assumption)) (hM.below (by assumption)) H8.out H8'.out)).mono ?_; rintro e w2 ⟨rfl, hb2⟩))
  go_ret
  exact ⟨rfl, by assumption⟩
set_option maxHeartbeats 2000000 in
theorem fold_ok (hL : Rd w w.heap.size A 8 L) (hM : Rd w w.heap.size A' 8 M) (h8 : Eight L) (h8' : Eight M) :
    Calls Try.prog 5 #[.slice A 8 c, .slice A' 8 c'] w fun e w' => e = .returned (.bool true) ∧ Below w.heap.size w w' := by
  have HL := Lib.hid hL
  have HM := Lib.hid hM
  have H8 := Lib.hid h8
  have H8' := Lib.hid h8'
  clear hL h8 hM h8'
  go_enter Try.func5, Try.ntmps5
  go_wp2_with fail
  refine (c_nttFact _).mono ?_
  rintro e w1 ⟨rfl, hb1⟩
  go_wp2_with fail
  -- c := Fold(a, b)
  refine (c_NFold_ok _ _ _ _ _ _ L M _ _ _ (HL.out.below hb1) (HM.out.below hb1) hb1.size hb1.size H8.out H8'.out).mono ?_
  rintro e w2 ⟨gc, rfl, oc, hb⟩
  have hb2 := hb1.trans (hb.mono hb1.size)
  have Oc := Lib.hid oc
  clear oc hb
  go_wp2_with fail
  -- d := Fold(b, a)
  refine (c_NFold_ok _ _ _ _ _ _ M L _ _ _ (HM.out.below hb2) (HL.out.below hb2) hb2.size hb2.size H8'.out H8.out).mono ?_
  rintro e w3 ⟨gd, rfl, od, hb⟩
  have hb3 := hb2.trans (hb.mono hb2.size)
  rw [fold_comm M L] at od
  have Od := Lib.hid od
  have Oc3 := Lib.hid (Oc.out.keep hb)
  clear od hb Oc
  go_wp2_with fail
  -- x := There(a)
  refine (c_There_ok _ _ _ L _ _ (HL.out.below hb3) hb3.size H8.out).mono ?_
  rintro e w4 ⟨gx, rfl, ox, hb⟩
  have hb4 := hb3.trans (hb.mono hb3.size)
  have Ox := Lib.hid ox
  have Oc4 := Lib.hid (Oc3.out.keep hb)
  have Od4 := Lib.hid (Od.out.keep hb)
  clear ox hb Oc3 Od
  go_wp2_with fail
  -- y := There(b)
  refine (c_There_ok _ _ _ M _ _ (HM.out.below hb4) hb4.size H8'.out).mono ?_
  rintro e w5 ⟨gy, rfl, oy, hb⟩
  have hb5 := hb4.trans (hb.mono hb4.size)
  have Oy := Lib.hid oy
  have Ox5 := Lib.hid (Ox.out.keep hb)
  have Oc5 := Lib.hid (Oc4.out.keep hb)
  have Od5 := Lib.hid (Od4.out.keep hb)
  clear oy hb Oc4 Od4 Ox
  go_wp2_with fail
  -- z := There(c)
  refine (c_There_ok _ _ _ _ _ _ Oc5.out.rd (Nat.le_refl _) (turnL_eight _ _ _)).mono ?_
  rintro e w6 ⟨gz, rfl, oz, hb⟩
  have hb6 := hb5.trans (hb.mono hb5.size)
  have Oz := Lib.hid oz
  have Oy6 := Lib.hid (Oy.out.keep hb)
  have Ox6 := Lib.hid (Ox5.out.keep hb)
  have Oc6 := Lib.hid (Oc5.out.keep hb)
  have Od6 := Lib.hid (Od5.out.keep hb)
  clear oz hb Oc5 Od5 Ox5 Oy
  go_wp2_with fail
  refine (c_Ints _ _ _ _ _ _ _ _ _ _ _ Oc6.out.rd Od6.out.rd (by omega)).mono ?_
  rintro e w7 ⟨rfl, q, rfl⟩
  rw [eqL_true rfl]
  have hb7 := below_drewN hb6 q
  have HX : Hid (∀ k, k < 8 → w6.cell? ⟨gx, k, none⟩ = some (.int .i64 (nth (turnL 64 1 L) k))) := fun k hk => Ox6.out.cell hk
  have HY : Hid (∀ k, k < 8 → w6.cell? ⟨gy, k, none⟩ = some (.int .i64 (nth (turnL 64 1 M) k))) := fun k hk => Oy6.out.cell hk
  have HZ : Hid (∀ k, k < 8 → w6.cell? ⟨gz, k, none⟩ = some (.int .i64 (nth (turnL 64 1 L) k * nth (turnL 64 1 M) k % 257))) := fun k hk => by rw [Oz.out.cell hk, there_fold L M hk]
  have HX8 : Hid (Eight (turnL 64 1 L)) := turnL_eight _ _ _
  have HY8 : Hid (Eight (turnL 64 1 M)) := turnL_eight _ _ _
  clear Oz Oy6 Ox6 Oc6 Od6 hb1 hb2 hb3 hb4 hb5
  go_wp2
  go_loopw [16] (fun i wr => ∃ k : Nat, k ≤ 8 ∧ i = .int .i64 k ∧ ∃ q', wr = w6.drewN q') (fun i _ => 8 - (intOf i).toNat)
  case atStart => exact ⟨0, Nat.zero_le _, rfl, _, rfl⟩
  case round =>
    obtain ⟨k, hk, rfl, q', rfl⟩ := hrel
    by_cases hlt : k < 8
    · have c1 := HX.out k hlt
      have c2 := HY.out k hlt
      have c3 := HZ.out k hlt
      have b1 := HX8.out.2 k hlt
      have b2 := HY8.out.2 k hlt
      obtain ⟨x, hx⟩ : ∃ x, x = nth (turnL 64 1 L) k := ⟨_, rfl⟩
      obtain ⟨y, hy⟩ : ∃ y, y = nth (turnL 64 1 M) k := ⟨_, rfl⟩
      rw [← hx] at c1 c3 b1
      rw [← hy] at c2 c3 b2
      clear hx hy
      have i1 : inB x 0 256 = true := by unfold inB; simp; omega
      have i2 : inB y 0 256 = true := by unfold inB; simp; omega
      have hp := prod_bd x y b1 b2
      have e4 : IntKind.i64.wrap (x * y) = x * y := IntWalk.i64_in _ (by omega)
      have e5 : (x * y).tmod 257 = x * y % 257 := Int.tmod_eq_emod_of_nonneg (by omega)
      have e6 : (x * y % 257 != x * y % 257) = false := by simp
      go_wp2
      go_quiet ((go_at_call 14; first | exact quiet_left (c_in _ _ _ _) | exact quiet_add_left (c_in _ _ _ _)))
      clear e4 e5
      go_wp2
      go_roundw
      case rel => exact ⟨k + 1, by omega, by go_num, _, rfl⟩
      case measure => simp [intOf]; omega
    · go_wp2
      go_ret
      exact ⟨rfl, below_drewN hb6 _⟩
end
theorem frame_NttFold (A : Option Addr) (n c : Nat) (L : List Int) (A' : Option Addr) (n' c' : Nat) (M : List Int) (w : World) (hL : Rd w w.heap.size A n L) (_ : n ≤ c ∧ c ≤ 9223372036854775807) (_ : ∀ x ∈ L, Fits x)
    (hM : Rd w w.heap.size A' n' M) (_ : n' ≤ c' ∧ c' ≤ 9223372036854775807) (_ : ∀ x ∈ M, Fits x) :
    Calls Try.prog 5 #[.slice A n c, .slice A' n' c'] w fun e w' => e = .returned (.bool true) ∧ Below w.heap.size w w' := by
  by_cases h : Eight L
  · by_cases h' : Eight M
    · obtain rfl : n = 8 := by rw [← hL.1]; exact h.1
      obtain rfl : n' = 8 := by rw [← hM.1]; exact h'.1
      exact fold_ok A A' c c' L M w hL hM h h'
    · exact fold_bad2 A A' n c n' c' L M w hL hM h h'
  · exact fold_bad1 A A' n c n' c' L M w hL hM h
end Go.Proofs.Ytmicgjpelikjiaa
