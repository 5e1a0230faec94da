/- The walk of the statement KaraSays: the law returns true for all arguments. -/
import Derived.Test.YtmicgjpelikjiaaDoorKaraRefB
import Derived.Test.YtmicgjpelikjiaaDoorSame
import Derived.Test.YtmicgjpelikjiaaDoorAs
namespace Go.Proofs.YtmicgjpelikjiaaDoor
open Go.RowKit
set_option linter.unusedVariables false

theorem c_sameK (A A' : Option Addr) (n n' c c' : Nat) (L : List Int) (B B' : Nat) (w : World) (hl : Rd w B A n L) (hm : Rd w B' A' n' L) (hn : n ≤ 9223372036854775807) :
    Calls Tryd.prog 10 #[.slice A n c, .slice A' n' c'] w fun e w' => e = .returned (.bool true) ∧ Below w.heap.size w w' := by
  refine (c_Ints A A' n n' c c' L L B B' w hl hm hn).mono ?_
  rintro e w' ⟨rfl, q, rfl⟩
  exact ⟨by rw [eqL_true rfl], below_drewN (Below.refl _ _) q⟩
theorem karaE_ne (L M : List Int) : (karaE L M == 0) = false := by
  unfold karaE
  split <;> (try split) <;> (try split) <;> rfl
theorem rd_nilK (w : World) : Rd w w.heap.size none 0 [] := (Own.nil w w.heap.size).rd
set_option maxHeartbeats 4000000 in
theorem kara_says_bad (A A' : Option Addr) (n c n' c' : Nat) (L M : List Int) (w : World) (hg : Handle w) (hL : Rd w w.heap.size A n L) (hM : Rd w w.heap.size A' n' M) (h : ¬ KOk L M) :
    Calls Tryd.prog 4 #[.slice A n c, .slice A' n' c'] w fun e w' => e = .returned (.bool true) ∧ Below w.heap.size w w' := by
  have hgd : Hid (Handle w) := hg
  have HL := Lib.hid hL
  have HM := Lib.hid hM
  have H := Lib.hid h
  have hE := karaE_ne L M
  clear hg hL hM h
  go_enter Tryd.func4, Tryd.ntmps4
  go_wp2_with fail
  refine (c_RLong_bad _ _ _ _ _ _ L M _ _ _ HL.out HM.out H.out).mono ?_
  rintro e w' ⟨rfl, rfl⟩
  go_wp2_with fail
  refine (c_KCheck_bad _ _ _ _ _ _ L M _ _ _ HL.out HM.out H.out).mono ?_
  rintro e w' ⟨rfl, rfl⟩
  go_wp2_with fail
  refine (c_Error_some _ _ _ hgd.out).mono ?_
  rintro e w1 ⟨rfl, T0⟩
  go_wp2_with fail
  refine (c_KMul_bad _ _ _ _ _ _ L M _ _ _ (HL.out.below T0) (HM.out.below T0) H.out).mono ?_
  rintro e w2 ⟨rfl, hb⟩
  have T0 := T0.trans (hb.mono T0.size)
  go_wp2_with fail
  refine (c_Error_some _ _ _ (hgd.out.below T0)).mono ?_
  rintro e w3 ⟨rfl, hb⟩
  have T0 := T0.trans (hb.mono T0.size)
  go_wp2_with fail
  refine (c_sameK _ _ _ _ _ _ [] _ _ _ (rd_nilK _) (rd_nilK _) (by omega)).mono ?_
  rintro e w4 ⟨rfl, hb⟩
  have T0 := T0.trans (hb.mono T0.size)
  go_wp2
  go_ret
  exact ⟨rfl, T0⟩
set_option maxHeartbeats 4000000 in
theorem kara_says_ok (A A' : Option Addr) (n c c' : Nat) (L M : List Int) (w : World) (hg : Handle w) (hL : Rd w w.heap.size A n L) (hM : Rd w w.heap.size A' n M) (hc : n ≤ c) (hc' : n ≤ c') (h : KOk L M) :
    Calls Tryd.prog 4 #[.slice A n c, .slice A' n c'] w fun e w' => e = .returned (.bool true) ∧ Below w.heap.size w w' := by
  have hgd : Hid (Handle w) := hg
  have HL := Lib.hid hL
  have HM := Lib.hid hM
  have H := Lib.hid h
  have k1 := h.1
  rw [hL.1] at k1
  have h16 : 1 ≤ n ∧ n ≤ 16 := by unfold Pow2 at k1; omega
  have h4 := (halv_pow k1).2
  clear hg hL hM h k1
  go_enter Tryd.func4, Tryd.ntmps4
  go_wp2_with fail
  refine (c_RLong_ok _ _ _ _ _ _ L M _ _ _ HL.out HM.out H.out).mono ?_
  rintro e w' ⟨rfl, rfl⟩
  go_wp2_with fail
  refine (c_KCheck_ok _ _ _ _ _ _ L M _ _ _ HL.out HM.out H.out).mono ?_
  rintro e w' ⟨rfl, rfl⟩
  go_wp2_with fail
  refine (c_Error_nil _ _).mono ?_
  rintro e w1 ⟨rfl, T0⟩
  go_wp2_with fail
  refine (c_RProduct _ _ _ _ _ L M _ ((HL.out.below T0).more T0.size) ((HM.out.below T0).more T0.size) h16.1 h16.2 (bnd_of (by omega) H.out.2.2.1) (bnd_of (by omega) H.out.2.2.2)).mono ?_
  rintro e w2 ⟨Ap, cp, rfl, o, hb⟩
  have T0 := T0.trans (hb.mono T0.size)
  have RP := Lib.hid o.rd
  clear o hb
  obtain ⟨hv, hhv⟩ : ∃ hv, hv = halv n := ⟨_, rfl⟩
  have HV := Lib.hid hhv
  rw [← hhv] at h4 ⊢
  clear hhv
  go_wp2
  go_loopw [9, 10] (fun p t wr => ∃ (j m : Nat), j ≤ hv ∧ Hid (m = 3 ^ j) ∧ m ≤ 81 ∧ t = .int .i64 j ∧ p = .int .i64 m ∧ w2 = wr) (fun _ t _ => 5 - (intOf t).toNat)
  case atStart => exact ⟨0, 1, Nat.zero_le _, rfl, by omega, rfl, rfl, rfl⟩
  case round =>
    obtain ⟨j, m, hj, HJ, hm, rfl, rfl, rfl⟩ := hrel
    by_cases hlt : j < hv
    · have hn : Hid (3 * m = 3 ^ (j + 1)) := by rw [Hid, HJ.out, Nat.pow_succ]; omega
      have hm2 : 3 * m ≤ 81 := by
        have : 3 ^ (j + 1) ≤ 3 ^ 4 := Nat.pow_le_pow_right (by omega) (by omega)
        rw [hn.out]; omega
      go_wp2
      go_roundw
      case rel => exact ⟨j + 1, 3 * m, by omega, hn, hm2, by go_num, by go_num, trivial⟩
      case measure => simp [intOf]; omega
    · have e : j = hv := by omega
      have hcm : Hid (cnt (halv n) = m) := by rw [Hid, HJ.out, e, HV.out]; rfl
      go_wp2_with fail
      refine (c_KMul_ok _ _ _ _ _ _ L M _ _ _ (HL.out.below T0) (HM.out.below T0) T0.size T0.size hc hc' H.out).mono ?_
      rintro e w3 ⟨g, rfl, o, hb⟩
      rw [hcm.out]
      have T1 := T0.trans (hb.mono T0.size)
      have hs3 := hb.size
      have RP3 := Lib.hid (RP.out.below hb)
      have RG := Lib.hid o.rd
      clear o hb
      go_wp2_with fail
      refine (c_Error_nil _ _).mono ?_
      rintro e w4 ⟨rfl, hb⟩
      have T2 := T1.trans (hb.mono T1.size)
      have RG4 := Lib.hid (RG.out.below hb)
      have RP4 := Lib.hid (RP3.out.below (hb.mono hs3))
      clear hb
      go_wp2_with fail
      refine (c_sameK _ _ _ _ _ _ _ _ _ _ RG4.out RP4.out (by omega)).mono ?_
      rintro e w5 ⟨rfl, hb⟩
      have T3 := T2.trans (hb.mono T2.size)
      go_wp2
      go_ret
      exact ⟨rfl, T3⟩
theorem frame_KaraSays (A : Option Addr) (n c : Nat) (L : List Int) (A' : Option Addr) (n' c' : Nat) (M : List Int) (w : World)
    (hL : Rd w w.heap.size A n L) (b1 : n ≤ c ∧ c ≤ 9223372036854775807) (_ : ∀ x ∈ L, Fits x) (hM : Rd w w.heap.size A' n' M) (b2 : n' ≤ c' ∧ c' ≤ 9223372036854775807) (_ : ∀ x ∈ M, Fits x) (hg : Handle w) :
    Calls Tryd.prog 4 #[.slice A n c, .slice A' n' c'] w fun e w' => e = .returned (.bool true) ∧ Below w.heap.size w w' := by
  by_cases h : KOk L M
  · have e : n' = n := by rw [← hL.1, ← hM.1]; exact h.2.1
    subst e
    exact kara_says_ok A A' n' c c' L M w hg hL hM b1.1 b2.1 h
  · exact kara_says_bad A A' n c n' c' L M w hg hL hM h
end Go.Proofs.YtmicgjpelikjiaaDoor
