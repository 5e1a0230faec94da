/- The walk of the statement PolySays: the law returns true for all arguments. (Printed by gen_polysays.py.) -/
import Derived.Test.YtaidincogkfodaaDoorPolyRef
import Derived.Test.YtaidincogkfodaaDoorViewZ
import Derived.Test.YtaidincogkfodaaDoorAs
namespace Go.Proofs.YtaidincogkfodaaDoor
open Go.RowKit

theorem bothE_ok {f g : List Int} (h : POk f) : bothE f g = polyE g := by
  unfold bothE
  rw [if_neg]
  rintro (h1 | h1)
  · have := h.1; omega
  · rw [pl_any h.2] at h1; cases h1
theorem inP_true {n lo hi : Int} (h : lo ≤ n ∧ n ≤ hi) : inB n lo hi = true := by unfold inB; simp [h]
theorem inP_false {n lo hi : Int} (h : ¬ (lo ≤ n ∧ n ≤ hi)) : inB n lo hi = false := by
  cases e : inB n lo hi
  · rfl
  · unfold inB at e; simp at e; exact absurd e h
section
variable (A A' : Option Addr) (n n' c c' : Nat) (f g : List Int) (x : Int) (w : World)
set_option maxHeartbeats 4000000 in
set_option maxRecDepth 100000 in
theorem psays_a (hg : Handle w) (hL : Rd w w.heap.size A n f) (hM : Rd w w.heap.size A' n' g) (hc : n ≤ c ∧ c ≤ 9223372036854775807) (hc' : n' ≤ c' ∧ c' ≤ 9223372036854775807) (hz : A = none → c = 0) (hz' : A' = none → c' = 0) (hf : ¬ POk f) :
    Calls Tryd.prog 3 #[.slice A n c, .slice A' n' c', .int .i64 x] w fun e w' => e = .returned (.bool true) ∧ Below w.heap.size w w' := by
  have hgd : Hid (Handle w) := hg
  have HL := Lib.hid hL
  have HM := Lib.hid hM
  have HZ := Lib.hid hz
  have HZ' := Lib.hid hz'
  have RN : Hid (∀ w1 : World, Rd w1 w1.heap.size none 0 []) := fun w1 => ⟨rfl, fun h => absurd h (by omega)⟩
  have T : Below w.heap.size w w := Below.refl _ _
  obtain ⟨hc1, hc2⟩ := hc
  obtain ⟨hc1', hc2'⟩ := hc'
  have hbad : ¬ (POk f ∧ POk g) := fun h => hf h.1
  obtain ⟨d, hd⟩ : ∃ d, d = polyE f := ⟨_, rfl⟩
  have ED : bothE f g = d := by rw [hd]; exact bothE_one hf
  have FE := factE_bad hf
  rw [← hd] at FE
  have d0 : (d == 0) = false := by rw [← FE.1]; simp [FE.2]
  have CA : Hid (∀ w1 : World, Below w.heap.size w w1 → Calls Tryd.prog 11 #[.slice A n c, .slice A' n' c'] w1 fun e w' => e = .returned (.tuple #[.slice none 0 0, .iface 46 (.int .i64 d)]) ∧ Below w1.heap.size w1 w') := fun w1 hb => by
    rw [← ED]; exact c_PAdd_bad _ _ _ _ _ _ f g _ _ w1 (HL.out.below hb) (HM.out.below hb) hbad
  have CM : Hid (∀ w1 : World, Below w.heap.size w w1 → Calls Tryd.prog 13 #[.slice A n c, .slice A' n' c'] w1 fun e w' => e = .returned (.tuple #[.slice none 0 0, .iface 46 (.int .i64 d)]) ∧ Below w1.heap.size w1 w') := fun w1 hb => by
    rw [← ED]; exact c_PMul_bad _ _ _ _ _ _ f g _ _ w1 (HL.out.below hb) (HM.out.below hb) hbad
  have CG : Hid (∀ w1 : World, Below w.heap.size w w1 → Calls Tryd.prog 14 #[.slice A n c, .slice A' n' c'] w1 fun e w' => e = .returned (.tuple #[.slice none 0 0, .iface 46 (.int .i64 d)]) ∧ Below w1.heap.size w1 w') := fun w1 hb => by
    rw [← ED]; exact c_PGcd_bad A A' n n' c c' f g w1 ((HL.out.below hb).more hb.size) ((HM.out.below hb).more hb.size) hbad
  have CD : Hid (∀ w1 : World, Below w.heap.size w w1 → Calls Tryd.prog 17 #[.slice A n c, .slice A' n' c'] w1 fun e w' => e = .returned (.tuple #[.slice none 0 0, .slice none 0 0, .iface 46 (.int .i64 d)]) ∧ Below w1.heap.size w1 w') := fun w1 hb => by
    rw [← ED]; exact c_PDiv_bad A A' n n' c c' f g w1 ((HL.out.below hb).more hb.size) ((HM.out.below hb).more hb.size) hbad
  have CF : Hid (∀ w1 : World, Below w.heap.size w w1 → Calls Tryd.prog 5 #[.slice A n c] w1 fun e w' => e = .returned (.int .i64 d) ∧ w1 = w') := fun w1 hb => by
    rw [← FE.1]; exact c_RFactors A n c f _ w1 (HL.out.below hb) (by omega)
  have CC : Hid (∀ w1 : World, Below w.heap.size w w1 → Calls Tryd.prog 7 #[.slice A n c] w1 fun e w' => e = .returned (.iface 46 (.int .i64 d)) ∧ w1 = w') := fun w1 hb => by
    rw [hd]; exact c_PCheck_bad A n c f _ w1 (HL.out.below hb) hf
  have CP : Hid (∀ w1 : World, Below w.heap.size w w1 → Calls Tryd.prog 20 #[.slice A n c, .int .i64 x] w1 fun e w' => e = .returned (.tuple #[.int .i64 0, .iface 46 (.int .i64 d)]) ∧ w1 = w') := fun w1 hb => by
    rw [hd]; exact c_PAt_bad A n c f x _ w1 (HL.out.below hb) hf
  clear hg hL hM hz hz' hf hbad hd ED FE
  go_enter Tryd.func3, Tryd.ntmps3
  go_wp2_with fail
  refine (CF.out _ T).mono ?_
  rintro e w' ⟨rfl, rfl⟩
  go_wp2_with fail
  refine (CC.out _ T).mono ?_
  rintro e w' ⟨rfl, rfl⟩
  go_wp2_with fail
  refine (c_Error_some _ _ _ (hgd.out.below T)).mono ?_
  rintro e w1 ⟨rfl, hb⟩
  replace T := T.trans (hb.mono T.size)
  clear hb
  go_wp2_with fail
  refine (CA.out _ T).mono ?_
  rintro e w1 ⟨rfl, hb⟩
  replace T := T.trans (hb.mono T.size)
  clear hb
  go_wp2_with fail
  refine (c_Error_some _ _ _ (hgd.out.below T)).mono ?_
  rintro e w1 ⟨rfl, hb⟩
  replace T := T.trans (hb.mono T.size)
  clear hb
  go_wp2_with fail
  refine (c_sameP _ _ _ _ _ _ [] [] _ _ _ rfl (RN.out _) (RN.out _) (by omega)).mono ?_
  rintro e w1 ⟨rfl, hb⟩
  replace T := T.trans (hb.mono T.size)
  clear hb
  go_wp2_with fail
  refine (CM.out _ T).mono ?_
  rintro e w1 ⟨rfl, hb⟩
  replace T := T.trans (hb.mono T.size)
  clear hb
  go_wp2_with fail
  refine (c_Error_some _ _ _ (hgd.out.below T)).mono ?_
  rintro e w1 ⟨rfl, hb⟩
  replace T := T.trans (hb.mono T.size)
  clear hb
  go_wp2_with fail
  refine (c_sameP _ _ _ _ _ _ [] [] _ _ _ rfl (RN.out _) (RN.out _) (by omega)).mono ?_
  rintro e w1 ⟨rfl, hb⟩
  replace T := T.trans (hb.mono T.size)
  clear hb
  go_wp2_with fail
  refine (CG.out _ T).mono ?_
  rintro e w1 ⟨rfl, hb⟩
  replace T := T.trans (hb.mono T.size)
  clear hb
  go_wp2_with fail
  refine (c_Error_some _ _ _ (hgd.out.below T)).mono ?_
  rintro e w1 ⟨rfl, hb⟩
  replace T := T.trans (hb.mono T.size)
  clear hb
  go_wp2_with fail
  refine (c_sameP _ _ _ _ _ _ [] [] _ _ _ rfl (RN.out _) (RN.out _) (by omega)).mono ?_
  rintro e w1 ⟨rfl, hb⟩
  replace T := T.trans (hb.mono T.size)
  clear hb
  go_wp2_with fail
  refine (CD.out _ T).mono ?_
  rintro e w1 ⟨rfl, hb⟩
  replace T := T.trans (hb.mono T.size)
  clear hb
  go_wp2_with fail
  refine (c_Error_some _ _ _ (hgd.out.below T)).mono ?_
  rintro e w1 ⟨rfl, hb⟩
  replace T := T.trans (hb.mono T.size)
  clear hb
  go_wp2_with fail
  refine (c_sameP _ _ _ _ _ _ [] [] _ _ _ rfl (RN.out _) (RN.out _) (by omega)).mono ?_
  rintro e w1 ⟨rfl, hb⟩
  replace T := T.trans (hb.mono T.size)
  clear hb
  go_wp2_with fail
  refine (c_sameP _ _ _ _ _ _ [] [] _ _ _ rfl (RN.out _) (RN.out _) (by omega)).mono ?_
  rintro e w1 ⟨rfl, hb⟩
  replace T := T.trans (hb.mono T.size)
  clear hb
  go_wp2_with fail
  refine (CP.out _ T).mono ?_
  rintro e w' ⟨rfl, rfl⟩
  go_wp2_with fail
  refine (c_Error_some _ _ _ (hgd.out.below T)).mono ?_
  rintro e w1 ⟨rfl, hb⟩
  replace T := T.trans (hb.mono T.size)
  clear hb
  go_wp2
  go_ret
  exact ⟨rfl, T⟩
set_option maxHeartbeats 4000000 in
set_option maxRecDepth 100000 in
theorem psays_b (hg : Handle w) (hL : Rd w w.heap.size A n f) (hM : Rd w w.heap.size A' n' g) (hc : n ≤ c ∧ c ≤ 9223372036854775807) (hc' : n' ≤ c' ∧ c' ≤ 9223372036854775807) (hz : A = none → c = 0) (hz' : A' = none → c' = 0) (hf : POk f) (hk : ¬ POk g) :
    Calls Tryd.prog 3 #[.slice A n c, .slice A' n' c', .int .i64 x] w fun e w' => e = .returned (.bool true) ∧ Below w.heap.size w w' := by
  have hgd : Hid (Handle w) := hg
  have HL := Lib.hid hL
  have HM := Lib.hid hM
  have HZ := Lib.hid hz
  have HZ' := Lib.hid hz'
  have RN : Hid (∀ w1 : World, Rd w1 w1.heap.size none 0 []) := fun w1 => ⟨rfl, fun h => absurd h (by omega)⟩
  have T : Below w.heap.size w w := Below.refl _ _
  obtain ⟨hc1, hc2⟩ := hc
  obtain ⟨hc1', hc2'⟩ := hc'
  have hn : n ≤ 12 := by rw [← hL.1]; exact hf.1
  have hbad : ¬ (POk f ∧ POk g) := fun h => hk h.2
  have HF := Lib.hid hf
  obtain ⟨d, hd⟩ : ∃ d, d = polyE g := ⟨_, rfl⟩
  have ED : bothE f g = d := by rw [hd]; exact bothE_ok hf
  have FE := factE_bad hk
  rw [← hd] at FE
  have d0 : (d == 0) = false := by rw [← FE.1]; simp [FE.2]
  have CA : Hid (∀ w1 : World, Below w.heap.size w w1 → Calls Tryd.prog 11 #[.slice A n c, .slice A' n' c'] w1 fun e w' => e = .returned (.tuple #[.slice none 0 0, .iface 46 (.int .i64 d)]) ∧ Below w1.heap.size w1 w') := fun w1 hb => by
    rw [← ED]; exact c_PAdd_bad _ _ _ _ _ _ f g _ _ w1 (HL.out.below hb) (HM.out.below hb) hbad
  have CM : Hid (∀ w1 : World, Below w.heap.size w w1 → Calls Tryd.prog 13 #[.slice A n c, .slice A' n' c'] w1 fun e w' => e = .returned (.tuple #[.slice none 0 0, .iface 46 (.int .i64 d)]) ∧ Below w1.heap.size w1 w') := fun w1 hb => by
    rw [← ED]; exact c_PMul_bad _ _ _ _ _ _ f g _ _ w1 (HL.out.below hb) (HM.out.below hb) hbad
  have CG : Hid (∀ w1 : World, Below w.heap.size w w1 → Calls Tryd.prog 14 #[.slice A n c, .slice A' n' c'] w1 fun e w' => e = .returned (.tuple #[.slice none 0 0, .iface 46 (.int .i64 d)]) ∧ Below w1.heap.size w1 w') := fun w1 hb => by
    rw [← ED]; exact c_PGcd_bad A A' n n' c c' f g w1 ((HL.out.below hb).more hb.size) ((HM.out.below hb).more hb.size) hbad
  have CD : Hid (∀ w1 : World, Below w.heap.size w w1 → Calls Tryd.prog 17 #[.slice A n c, .slice A' n' c'] w1 fun e w' => e = .returned (.tuple #[.slice none 0 0, .slice none 0 0, .iface 46 (.int .i64 d)]) ∧ Below w1.heap.size w1 w') := fun w1 hb => by
    rw [← ED]; exact c_PDiv_bad A A' n n' c c' f g w1 ((HL.out.below hb).more hb.size) ((HM.out.below hb).more hb.size) hbad
  have CF : Hid (∀ w1 : World, Below w.heap.size w w1 → Calls Tryd.prog 5 #[.slice A n c] w1 fun e w' => e = .returned (.int .i64 0) ∧ w1 = w') := fun w1 hb => by
    rw [← factE_ok hf]; exact c_RFactors A n c f _ w1 (HL.out.below hb) (by omega)
  have CF2 : Hid (∀ w1 : World, Below w.heap.size w w1 → Calls Tryd.prog 5 #[.slice A' n' c'] w1 fun e w' => e = .returned (.int .i64 d) ∧ w1 = w') := fun w1 hb => by
    rw [← FE.1]; exact c_RFactors A' n' c' g _ w1 (HM.out.below hb) (by omega)
  have CC : Hid (∀ w1 : World, Below w.heap.size w w1 → Calls Tryd.prog 7 #[.slice A n c] w1 fun e w' => e = .returned .nilIface ∧ w1 = w') := fun w1 hb => c_PCheck_ok A n c f _ w1 (HL.out.below hb) hf
  clear hg hL hM hz hz' hf hk hbad hd ED FE
  go_enter Tryd.func3, Tryd.ntmps3
  go_wp2_with fail
  refine (CF.out _ T).mono ?_
  rintro e w' ⟨rfl, rfl⟩
  go_wp2_with fail
  refine (CC.out _ T).mono ?_
  rintro e w' ⟨rfl, rfl⟩
  go_wp2_with fail
  refine (c_Error_nil _ _).mono ?_
  rintro e w1 ⟨rfl, hb⟩
  replace T := T.trans (hb.mono T.size)
  clear hb
  go_wp2_with fail
  refine (CF2.out _ T).mono ?_
  rintro e w' ⟨rfl, rfl⟩
  go_wp2_with fail
  refine (CA.out _ T).mono ?_
  rintro e w1 ⟨rfl, hb⟩
  replace T := T.trans (hb.mono T.size)
  clear hb
  go_wp2_with fail
  refine (c_Error_some _ _ _ (hgd.out.below T)).mono ?_
  rintro e w1 ⟨rfl, hb⟩
  replace T := T.trans (hb.mono T.size)
  clear hb
  go_wp2_with fail
  refine (c_sameP _ _ _ _ _ _ [] [] _ _ _ rfl (RN.out _) (RN.out _) (by omega)).mono ?_
  rintro e w1 ⟨rfl, hb⟩
  replace T := T.trans (hb.mono T.size)
  clear hb
  go_wp2_with fail
  refine (CM.out _ T).mono ?_
  rintro e w1 ⟨rfl, hb⟩
  replace T := T.trans (hb.mono T.size)
  clear hb
  go_wp2_with fail
  refine (c_Error_some _ _ _ (hgd.out.below T)).mono ?_
  rintro e w1 ⟨rfl, hb⟩
  replace T := T.trans (hb.mono T.size)
  clear hb
  go_wp2_with fail
  refine (c_sameP _ _ _ _ _ _ [] [] _ _ _ rfl (RN.out _) (RN.out _) (by omega)).mono ?_
  rintro e w1 ⟨rfl, hb⟩
  replace T := T.trans (hb.mono T.size)
  clear hb
  go_wp2_with fail
  refine (CG.out _ T).mono ?_
  rintro e w1 ⟨rfl, hb⟩
  replace T := T.trans (hb.mono T.size)
  clear hb
  go_wp2_with fail
  refine (c_Error_some _ _ _ (hgd.out.below T)).mono ?_
  rintro e w1 ⟨rfl, hb⟩
  replace T := T.trans (hb.mono T.size)
  clear hb
  go_wp2_with fail
  refine (c_sameP _ _ _ _ _ _ [] [] _ _ _ rfl (RN.out _) (RN.out _) (by omega)).mono ?_
  rintro e w1 ⟨rfl, hb⟩
  replace T := T.trans (hb.mono T.size)
  clear hb
  go_wp2_with fail
  refine (CD.out _ T).mono ?_
  rintro e w1 ⟨rfl, hb⟩
  replace T := T.trans (hb.mono T.size)
  clear hb
  go_wp2_with fail
  refine (c_Error_some _ _ _ (hgd.out.below T)).mono ?_
  rintro e w1 ⟨rfl, hb⟩
  replace T := T.trans (hb.mono T.size)
  clear hb
  go_wp2_with fail
  refine (c_sameP _ _ _ _ _ _ [] [] _ _ _ rfl (RN.out _) (RN.out _) (by omega)).mono ?_
  rintro e w1 ⟨rfl, hb⟩
  replace T := T.trans (hb.mono T.size)
  clear hb
  go_wp2_with fail
  refine (c_sameP _ _ _ _ _ _ [] [] _ _ _ rfl (RN.out _) (RN.out _) (by omega)).mono ?_
  rintro e w1 ⟨rfl, hb⟩
  replace T := T.trans (hb.mono T.size)
  clear hb
  by_cases hx : 0 ≤ x ∧ x ≤ 9972
  · have i1 : inB x 0 9972 = true := inP_true hx
    have CR : Hid (∀ w1 : World, Below w.heap.size w w1 → Calls Tryd.prog 19 #[.slice A n c, .int .i64 x] w1 fun e w' => e = .returned (.int .i64 (pat f x)) ∧ ∃ q, w1.drewN q = w') := fun w1 hb => c_RAt A n c f x _ w1 (HL.out.below hb) (by omega) HF.out.2 hx
    have CP : Hid (∀ w1 : World, Below w.heap.size w w1 → Calls Tryd.prog 20 #[.slice A n c, .int .i64 x] w1 fun e w' => e = .returned (.tuple #[.int .i64 (pat f x), .nilIface]) ∧ w1 = w') := fun w1 hb => c_PAt_ok A n c f x _ w1 (HL.out.below hb) HF.out hx
    obtain ⟨y, hy⟩ : ∃ y, y = pat f x := ⟨_, rfl⟩
    rw [← hy] at CR CP
    clear hy hx
    go_wp2_with fail
    refine (c_in _ _ _ _).mono ?_
    rintro e w' ⟨rfl, rfl⟩
    rw [i1]
    go_wp2_with fail
    refine (CR.out _ T).mono ?_
    rintro e w2 ⟨rfl, q, rfl⟩
    replace T := below_drewN T q
    go_wp2_with fail
    refine (CP.out _ T).mono ?_
    rintro e w' ⟨rfl, rfl⟩
    go_wp2_with fail
    refine (c_Error_nil _ _).mono ?_
    rintro e w1 ⟨rfl, hb⟩
    replace T := T.trans (hb.mono T.size)
    clear hb
    go_wp2
    go_ret
    exact ⟨rfl, T⟩
  · have i1 : inB x 0 9972 = false := inP_false hx
    have CP : Hid (∀ w1 : World, Below w.heap.size w w1 → Calls Tryd.prog 20 #[.slice A n c, .int .i64 x] w1 fun e w' => e = .returned (.tuple #[.int .i64 0, .iface 46 (.int .i64 1)]) ∧ w1 = w') := fun w1 hb => c_PAt_far A n c f x _ w1 (HL.out.below hb) HF.out hx
    clear hx
    go_wp2_with fail
    refine (c_in _ _ _ _).mono ?_
    rintro e w' ⟨rfl, rfl⟩
    rw [i1]
    go_wp2_with fail
    refine (CP.out _ T).mono ?_
    rintro e w' ⟨rfl, rfl⟩
    go_wp2_with fail
    refine (c_Error_some _ _ _ (hgd.out.below T)).mono ?_
    rintro e w1 ⟨rfl, hb⟩
    replace T := T.trans (hb.mono T.size)
    clear hb
    go_wp2
    go_ret
    exact ⟨rfl, T⟩
set_option maxHeartbeats 8000000 in
set_option maxRecDepth 100000 in
theorem psays_c (hg : Handle w) (hL : Rd w w.heap.size A n f) (hM : Rd w w.heap.size A' n' g) (hc : n ≤ c ∧ c ≤ 9223372036854775807) (hc' : n' ≤ c' ∧ c' ≤ 9223372036854775807) (hz : A = none → c = 0) (hz' : A' = none → c' = 0) (hf : POk f) (hk : POk g) :
    Calls Tryd.prog 3 #[.slice A n c, .slice A' n' c', .int .i64 x] w fun e w' => e = .returned (.bool true) ∧ Below w.heap.size w w' := by
  have hgd : Hid (Handle w) := hg
  have HL := Lib.hid hL
  have HM := Lib.hid hM
  have HZ := Lib.hid hz
  have HZ' := Lib.hid hz'
  have RN : Hid (∀ w1 : World, Rd w1 w1.heap.size none 0 []) := fun w1 => ⟨rfl, fun h => absurd h (by omega)⟩
  have T : Below w.heap.size w w := Below.refl _ _
  obtain ⟨hc1, hc2⟩ := hc
  obtain ⟨hc1', hc2'⟩ := hc'
  have hn : n ≤ 12 := by rw [← hL.1]; exact hf.1
  have hn' : n' ≤ 12 := by rw [← hM.1]; exact hk.1
  have HF := Lib.hid hf
  have HG := Lib.hid hk
  have CF : Hid (∀ w1 : World, Below w.heap.size w w1 → Calls Tryd.prog 5 #[.slice A n c] w1 fun e w' => e = .returned (.int .i64 0) ∧ w1 = w') := fun w1 hb => by
    rw [← factE_ok hf]; exact c_RFactors A n c f _ w1 (HL.out.below hb) (by omega)
  have CF2 : Hid (∀ w1 : World, Below w.heap.size w w1 → Calls Tryd.prog 5 #[.slice A' n' c'] w1 fun e w' => e = .returned (.int .i64 0) ∧ w1 = w') := fun w1 hb => by
    rw [← factE_ok hk]; exact c_RFactors A' n' c' g _ w1 (HM.out.below hb) (by omega)
  have CC : Hid (∀ w1 : World, Below w.heap.size w w1 → Calls Tryd.prog 7 #[.slice A n c] w1 fun e w' => e = .returned .nilIface ∧ w1 = w') := fun w1 hb => c_PCheck_ok A n c f _ w1 (HL.out.below hb) hf
  have PA := Lib.hid (plu_add f g)
  have CT2 : Hid (∀ w1 : World, Below w.heap.size w w1 → Calls Tryd.prog 15 #[.slice A' n' c'] w1 fun e w' => e = .returned (.slice A' (trm g).length c') ∧ w1 = w') := fun w1 hb => c_RTrim A' n' c' g _ w1 (HM.out.below hb) ⟨hc1', hc2'⟩
  clear hg hL hM hz hz' hf hk
  go_enter Tryd.func3, Tryd.ntmps3
  go_wp2_with fail
  refine (CF.out _ T).mono ?_
  rintro e w' ⟨rfl, rfl⟩
  go_wp2_with fail
  refine (CC.out _ T).mono ?_
  rintro e w' ⟨rfl, rfl⟩
  go_wp2_with fail
  refine (c_Error_nil _ _).mono ?_
  rintro e w1 ⟨rfl, hb⟩
  replace T := T.trans (hb.mono T.size)
  clear hb
  go_wp2_with fail
  refine (CF2.out _ T).mono ?_
  rintro e w' ⟨rfl, rfl⟩
  go_wp2_with fail
  refine (c_RPlus A A' n n' c c' f g 1 0 _ _ _ ((HL.out.below T).more T.size) ((HM.out.below T).more T.size) (Nat.le_refl _) (Nat.le_refl _) (by omega) (by omega) (by omega) (by omega) HF.out.2 HG.out.2).mono ?_
  rintro e w1 ⟨A1, c1, rfl, o, hb⟩
  rw [PA.out] at o ⊢
  have O1 := Lib.hid o
  clear o
  replace T := T.trans (hb.mono T.size)
  clear hb
  go_wp2_with fail
  refine (c_RTimes A A' n n' c c' f g _ _ _ ((HL.out.below T).more T.size) ((HM.out.below T).more T.size) (Nat.le_refl _) (Nat.le_refl _) (by omega) (by omega) HF.out.2 HG.out.2).mono ?_
  rintro e w2 ⟨A2, c2, rfl, o, hb⟩
  have O2 := Lib.hid o
  clear o
  replace O1 := Lib.hid (O1.out.keep hb)
  replace T := T.trans (hb.mono T.size)
  clear hb
  go_wp2_with fail
  refine (c_RCommon ((trm g).length + 1) A A' n n' c c' f g _ (Nat.lt_succ_self _) ((HL.out.below T).more T.size) ((HM.out.below T).more T.size) ⟨hc1, hc2⟩ ⟨hc1', hc2'⟩ (by omega) (by omega) HF.out.2 HG.out.2).mono ?_
  rintro e w3 ⟨u, A3, c3, rfl, he, o, hb⟩
  have O3 := Lib.hid o
  have HU := Lib.hid he
  clear o he
  replace O1 := Lib.hid (O1.out.keep hb)
  replace O2 := Lib.hid (O2.out.keep hb)
  replace T := T.trans (hb.mono T.size)
  clear hb
  obtain ⟨la, hla⟩ : ∃ l, l = (padd f g).length := ⟨_, rfl⟩
  rw [← hla] at O1 ⊢
  have HLA := Lib.hid hla
  clear hla
  obtain ⟨lb, hlb⟩ : ∃ l, l = (pmul f g).length := ⟨_, rfl⟩
  rw [← hlb] at O2 ⊢
  have HLB := Lib.hid hlb
  clear hlb
  obtain ⟨lc, hlc⟩ : ∃ l, l = (mon u).length := ⟨_, rfl⟩
  rw [← hlc] at O3 ⊢
  have HLC := Lib.hid hlc
  clear hlc
  go_wp2_with fail
  refine (c_PAdd_ok A A' n n' c c' f g _ ((HL.out.below T).more T.size) ((HM.out.below T).more T.size) HF.out HG.out).mono ?_
  rintro e w4 ⟨A4, c4, rfl, o, hb⟩
  rw [← HLA.out] at o ⊢
  have O4 := Lib.hid o
  clear o
  replace O1 := Lib.hid (O1.out.keep hb)
  replace O2 := Lib.hid (O2.out.keep hb)
  replace O3 := Lib.hid (O3.out.keep hb)
  replace T := T.trans (hb.mono T.size)
  clear hb
  go_wp2_with fail
  refine (c_Error_nil _ _).mono ?_
  rintro e w1 ⟨rfl, hb⟩
  replace O1 := Lib.hid (O1.out.keep hb)
  replace O2 := Lib.hid (O2.out.keep hb)
  replace O3 := Lib.hid (O3.out.keep hb)
  replace O4 := Lib.hid (O4.out.keep hb)
  replace T := T.trans (hb.mono T.size)
  clear hb
  go_wp2_with fail
  refine (c_sameP _ _ _ _ _ _ _ _ _ _ _ rfl O4.out.rd O1.out.rd (by have := O4.out.nilcap; omega)).mono ?_
  rintro e w1 ⟨rfl, hb⟩
  replace O1 := Lib.hid (O1.out.keep hb)
  replace O2 := Lib.hid (O2.out.keep hb)
  replace O3 := Lib.hid (O3.out.keep hb)
  replace O4 := Lib.hid (O4.out.keep hb)
  replace T := T.trans (hb.mono T.size)
  clear hb
  clear O4 O1
  go_wp2_with fail
  refine (c_PMul_ok A A' n n' c c' f g _ ((HL.out.below T).more T.size) ((HM.out.below T).more T.size) HF.out HG.out).mono ?_
  rintro e w5 ⟨A5, c5, rfl, o, hb⟩
  rw [← HLB.out] at o ⊢
  have O5 := Lib.hid o
  clear o
  replace O2 := Lib.hid (O2.out.keep hb)
  replace O3 := Lib.hid (O3.out.keep hb)
  replace T := T.trans (hb.mono T.size)
  clear hb
  go_wp2_with fail
  refine (c_Error_nil _ _).mono ?_
  rintro e w1 ⟨rfl, hb⟩
  replace O2 := Lib.hid (O2.out.keep hb)
  replace O3 := Lib.hid (O3.out.keep hb)
  replace O5 := Lib.hid (O5.out.keep hb)
  replace T := T.trans (hb.mono T.size)
  clear hb
  go_wp2_with fail
  refine (c_sameP _ _ _ _ _ _ _ _ _ _ _ rfl O5.out.rd O2.out.rd (by have := O5.out.nilcap; omega)).mono ?_
  rintro e w1 ⟨rfl, hb⟩
  replace O2 := Lib.hid (O2.out.keep hb)
  replace O3 := Lib.hid (O3.out.keep hb)
  replace O5 := Lib.hid (O5.out.keep hb)
  replace T := T.trans (hb.mono T.size)
  clear hb
  clear O5 O2
  go_wp2_with fail
  refine (c_PGcd_ok A A' n n' c c' f g _ ((HL.out.below T).more T.size) ((HM.out.below T).more T.size) hc1 HZ.out hc1' HZ'.out HF.out HG.out).mono ?_
  rintro e w6 ⟨u', A6, c6, rfl, he, o, hb⟩
  obtain rfl : u = u' := euc_uniq HU.out (pl_trm HG.out.2) (tr_trm g) he
  rw [← HLC.out] at o ⊢
  have O6 := Lib.hid o
  clear o he
  replace O3 := Lib.hid (O3.out.keep hb)
  replace T := T.trans (hb.mono T.size)
  clear hb
  go_wp2_with fail
  refine (c_Error_nil _ _).mono ?_
  rintro e w1 ⟨rfl, hb⟩
  replace O3 := Lib.hid (O3.out.keep hb)
  replace O6 := Lib.hid (O6.out.keep hb)
  replace T := T.trans (hb.mono T.size)
  clear hb
  go_wp2_with fail
  refine (c_sameP _ _ _ _ _ _ _ _ _ _ _ rfl O6.out.rd O3.out.rd (by have := O6.out.nilcap; omega)).mono ?_
  rintro e w1 ⟨rfl, hb⟩
  replace O3 := Lib.hid (O3.out.keep hb)
  replace O6 := Lib.hid (O6.out.keep hb)
  replace T := T.trans (hb.mono T.size)
  clear hb
  clear O6 O3
  go_wp2_with fail
  refine (CT2.out _ T).mono ?_
  rintro e w' ⟨rfl, rfl⟩
  by_cases h0 : trm g = []
  · have L0 : Hid ((trm g).length = 0) := by rw [Hid, h0]; rfl
    have CD : Hid (∀ w1 : World, Below w.heap.size w w1 → Calls Tryd.prog 17 #[.slice A n c, .slice A' n' c'] w1 fun e w' => e = .returned (.tuple #[.slice none 0 0, .slice none 0 0, .iface 46 (.int .i64 5)]) ∧ Below w1.heap.size w1 w') := fun w1 hb => c_PDiv_nul A A' n n' c c' f g w1 ((HL.out.below hb).more hb.size) ((HM.out.below hb).more hb.size) hc1' HZ'.out HF.out HG.out h0
    rw [L0.out]
    clear h0
    go_wp2_with fail
    refine (CD.out _ T).mono ?_
    rintro e w1 ⟨rfl, hb⟩
    replace T := T.trans (hb.mono T.size)
    clear hb
    go_wp2_with fail
    refine (c_Error_some _ _ _ (hgd.out.below T)).mono ?_
    rintro e w1 ⟨rfl, hb⟩
    replace T := T.trans (hb.mono T.size)
    clear hb
    go_wp2_with fail
    refine (c_sameP _ _ _ _ _ _ [] [] _ _ _ rfl (RN.out _) (RN.out _) (by omega)).mono ?_
    rintro e w1 ⟨rfl, hb⟩
    replace T := T.trans (hb.mono T.size)
    clear hb
    go_wp2_with fail
    refine (c_sameP _ _ _ _ _ _ [] [] _ _ _ rfl (RN.out _) (RN.out _) (by omega)).mono ?_
    rintro e w1 ⟨rfl, hb⟩
    replace T := T.trans (hb.mono T.size)
    clear hb
    by_cases hx : 0 ≤ x ∧ x ≤ 9972
    · have i1 : inB x 0 9972 = true := inP_true hx
      have CR : Hid (∀ w1 : World, Below w.heap.size w w1 → Calls Tryd.prog 19 #[.slice A n c, .int .i64 x] w1 fun e w' => e = .returned (.int .i64 (pat f x)) ∧ ∃ q, w1.drewN q = w') := fun w1 hb => c_RAt A n c f x _ w1 (HL.out.below hb) (by omega) HF.out.2 hx
      have CP : Hid (∀ w1 : World, Below w.heap.size w w1 → Calls Tryd.prog 20 #[.slice A n c, .int .i64 x] w1 fun e w' => e = .returned (.tuple #[.int .i64 (pat f x), .nilIface]) ∧ w1 = w') := fun w1 hb => c_PAt_ok A n c f x _ w1 (HL.out.below hb) HF.out hx
      obtain ⟨y, hy⟩ : ∃ y, y = pat f x := ⟨_, rfl⟩
      rw [← hy] at CR CP
      clear hy hx
      go_wp2_with fail
      refine (c_in _ _ _ _).mono ?_
      rintro e w' ⟨rfl, rfl⟩
      rw [i1]
      go_wp2_with fail
      refine (CR.out _ T).mono ?_
      rintro e w2 ⟨rfl, q, rfl⟩
      replace T := below_drewN T q
      go_wp2_with fail
      refine (CP.out _ T).mono ?_
      rintro e w' ⟨rfl, rfl⟩
      go_wp2_with fail
      refine (c_Error_nil _ _).mono ?_
      rintro e w1 ⟨rfl, hb⟩
      replace T := T.trans (hb.mono T.size)
      clear hb
      go_wp2
      go_ret
      exact ⟨rfl, T⟩
    · have i1 : inB x 0 9972 = false := inP_false hx
      have CP : Hid (∀ w1 : World, Below w.heap.size w w1 → Calls Tryd.prog 20 #[.slice A n c, .int .i64 x] w1 fun e w' => e = .returned (.tuple #[.int .i64 0, .iface 46 (.int .i64 1)]) ∧ w1 = w') := fun w1 hb => c_PAt_far A n c f x _ w1 (HL.out.below hb) HF.out hx
      clear hx
      go_wp2_with fail
      refine (c_in _ _ _ _).mono ?_
      rintro e w' ⟨rfl, rfl⟩
      rw [i1]
      go_wp2_with fail
      refine (CP.out _ T).mono ?_
      rintro e w' ⟨rfl, rfl⟩
      go_wp2_with fail
      refine (c_Error_some _ _ _ (hgd.out.below T)).mono ?_
      rintro e w1 ⟨rfl, hb⟩
      replace T := T.trans (hb.mono T.size)
      clear hb
      go_wp2
      go_ret
      exact ⟨rfl, T⟩
  · have lg := len_pos h0
    have H0 := Lib.hid h0
    obtain ⟨lt, hlt⟩ : ∃ l, l = (trm g).length := ⟨_, rfl⟩
    rw [← hlt] at lg ⊢
    have t0 : ((lt : Int) == 0) = false := by simp; omega
    clear h0 hlt
    go_wp2_with fail
    refine (c_RDivide A A' n n' c c' f g _ ((HL.out.below T).more T.size) ((HM.out.below T).more T.size) ⟨hc1, hc2⟩ ⟨hc1', hc2'⟩ (by omega) (by omega) HF.out.2 HG.out.2 H0.out).mono ?_
    rintro e w7 ⟨q1, r1, Aq, cq, Ar, cr, rfl, hd, rq, rr, hcr, hb⟩
    have RQ := Lib.hid rq
    have RR := Lib.hid rr
    have HD := Lib.hid hd
    clear rq rr hd hcr
    replace T := T.trans (hb.mono T.size)
    clear hb
    obtain ⟨lq, hlq⟩ : ∃ l, l = q1.length := ⟨_, rfl⟩
    obtain ⟨lr, hlr⟩ : ∃ l, l = r1.length := ⟨_, rfl⟩
    rw [← hlq] at RQ ⊢
    rw [← hlr] at RR ⊢
    have HLQ := Lib.hid hlq
    have HLR := Lib.hid hlr
    clear hlq hlr
    go_wp2_with fail
    refine (c_PDiv_ok A A' n n' c c' f g _ ((HL.out.below T).more T.size) ((HM.out.below T).more T.size) hc1 HZ.out hc1' HZ'.out HF.out HG.out H0.out).mono ?_
    rintro e w8 ⟨q2, r2, Aq2, cq2, Ar2, cr2, rfl, hd, oq, orr, _, _, hb⟩
    obtain ⟨rfl, rfl⟩ := div_uniq (pl_trm HG.out.2) (tr_trm g) HD.out hd
    rw [← HLQ.out] at oq ⊢
    rw [← HLR.out] at orr ⊢
    have OQ := Lib.hid oq
    have OR := Lib.hid orr
    clear oq orr hd
    replace RQ := Lib.hid ((RQ.out.below hb).more hb.size)
    replace RR := Lib.hid ((RR.out.below hb).more hb.size)
    replace T := T.trans (hb.mono T.size)
    clear hb
    go_wp2_with fail
    refine (c_Error_nil _ _).mono ?_
    rintro e w1 ⟨rfl, hb⟩
    replace RQ := Lib.hid ((RQ.out.below hb).more hb.size)
    replace RR := Lib.hid ((RR.out.below hb).more hb.size)
    replace OQ := Lib.hid (OQ.out.keep hb)
    replace OR := Lib.hid (OR.out.keep hb)
    replace T := T.trans (hb.mono T.size)
    clear hb
    go_wp2_with fail
    refine (c_sameP _ _ _ _ _ _ _ _ _ _ _ rfl OQ.out.rd RQ.out (by have := OQ.out.nilcap; omega)).mono ?_
    rintro e w1 ⟨rfl, hb⟩
    replace RQ := Lib.hid ((RQ.out.below hb).more hb.size)
    replace RR := Lib.hid ((RR.out.below hb).more hb.size)
    replace OQ := Lib.hid (OQ.out.keep hb)
    replace OR := Lib.hid (OR.out.keep hb)
    replace T := T.trans (hb.mono T.size)
    clear hb
    go_wp2_with fail
    refine (c_sameP _ _ _ _ _ _ _ _ _ _ _ rfl OR.out.rd RR.out (by have := OR.out.nilcap; omega)).mono ?_
    rintro e w1 ⟨rfl, hb⟩
    replace RQ := Lib.hid ((RQ.out.below hb).more hb.size)
    replace RR := Lib.hid ((RR.out.below hb).more hb.size)
    replace OQ := Lib.hid (OQ.out.keep hb)
    replace OR := Lib.hid (OR.out.keep hb)
    replace T := T.trans (hb.mono T.size)
    clear hb
    clear OQ OR RQ RR
    by_cases hx : 0 ≤ x ∧ x ≤ 9972
    · have i1 : inB x 0 9972 = true := inP_true hx
      have CR : Hid (∀ w1 : World, Below w.heap.size w w1 → Calls Tryd.prog 19 #[.slice A n c, .int .i64 x] w1 fun e w' => e = .returned (.int .i64 (pat f x)) ∧ ∃ q, w1.drewN q = w') := fun w1 hb => c_RAt A n c f x _ w1 (HL.out.below hb) (by omega) HF.out.2 hx
      have CP : Hid (∀ w1 : World, Below w.heap.size w w1 → Calls Tryd.prog 20 #[.slice A n c, .int .i64 x] w1 fun e w' => e = .returned (.tuple #[.int .i64 (pat f x), .nilIface]) ∧ w1 = w') := fun w1 hb => c_PAt_ok A n c f x _ w1 (HL.out.below hb) HF.out hx
      obtain ⟨y, hy⟩ : ∃ y, y = pat f x := ⟨_, rfl⟩
      rw [← hy] at CR CP
      clear hy hx
      go_wp2_with fail
      refine (c_in _ _ _ _).mono ?_
      rintro e w' ⟨rfl, rfl⟩
      rw [i1]
      go_wp2_with fail
      refine (CR.out _ T).mono ?_
      rintro e w2 ⟨rfl, q, rfl⟩
      replace T := below_drewN T q
      go_wp2_with fail
      refine (CP.out _ T).mono ?_
      rintro e w' ⟨rfl, rfl⟩
      go_wp2_with fail
      refine (c_Error_nil _ _).mono ?_
      rintro e w1 ⟨rfl, hb⟩
      replace T := T.trans (hb.mono T.size)
      clear hb
      go_wp2
      go_ret
      exact ⟨rfl, T⟩
    · have i1 : inB x 0 9972 = false := inP_false hx
      have CP : Hid (∀ w1 : World, Below w.heap.size w w1 → Calls Tryd.prog 20 #[.slice A n c, .int .i64 x] w1 fun e w' => e = .returned (.tuple #[.int .i64 0, .iface 46 (.int .i64 1)]) ∧ w1 = w') := fun w1 hb => c_PAt_far A n c f x _ w1 (HL.out.below hb) HF.out hx
      clear hx
      go_wp2_with fail
      refine (c_in _ _ _ _).mono ?_
      rintro e w' ⟨rfl, rfl⟩
      rw [i1]
      go_wp2_with fail
      refine (CP.out _ T).mono ?_
      rintro e w' ⟨rfl, rfl⟩
      go_wp2_with fail
      refine (c_Error_some _ _ _ (hgd.out.below T)).mono ?_
      rintro e w1 ⟨rfl, hb⟩
      replace T := T.trans (hb.mono T.size)
      clear hb
      go_wp2
      go_ret
      exact ⟨rfl, T⟩
end
theorem frame_PolySays (A : Option Addr) (n c : Nat) (f : List Int) (A' : Option Addr) (n' c' : Nat) (g : List Int) (x : Int) (w : World)
    (hL : Rd w w.heap.size A n f) (hc : n ≤ c ∧ c ≤ 9223372036854775807 ∧ (A = none → c = 0)) (_ : ∀ x ∈ f, Fits x) (hM : Rd w w.heap.size A' n' g) (hc' : n' ≤ c' ∧ c' ≤ 9223372036854775807 ∧ (A' = none → c' = 0)) (_ : ∀ x ∈ g, Fits x) (_ : Fits x) (hg : Handle w) :
    Calls Tryd.prog 3 #[.slice A n c, .slice A' n' c', .int .i64 x] w fun e w' => e = .returned (.bool true) ∧ Below w.heap.size w w' := by
  by_cases h1 : POk f
  · by_cases h2 : POk g
    · exact psays_c A A' n n' c c' f g x w hg hL hM ⟨hc.1, hc.2.1⟩ ⟨hc'.1, hc'.2.1⟩ hc.2.2 hc'.2.2 h1 h2
    · exact psays_b A A' n n' c c' f g x w hg hL hM ⟨hc.1, hc.2.1⟩ ⟨hc'.1, hc'.2.1⟩ hc.2.2 hc'.2.2 h1 h2
  · exact psays_a A A' n n' c c' f g x w hg hL hM ⟨hc.1, hc.2.1⟩ ⟨hc'.1, hc'.2.1⟩ hc.2.2 hc'.2.2 h1
end Go.Proofs.YtaidincogkfodaaDoor
