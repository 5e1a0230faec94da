/- The walk of the statement NttSays: the law returns true for all arguments. (Printed by gen_nttsays.py.) -/
import Derived.Test.YtmicgjpelikjiaaDoorNttRefF
import Derived.Test.YtmicgjpelikjiaaDoorAs
namespace Go.Proofs.YtmicgjpelikjiaaDoor
open Go.RowKit
set_option linter.unusedVariables false

theorem c_same (A A' : Option Addr) (n n' c c' : Nat) (L : List Int) (B B' : Nat) (w : World) (hl : Rd w B A n L) (hm : Rd w B' A' n' L) (hn : n ≤ 9223372036854775807) :
    Calls Tryd.prog 10 #[.slice A n c, .slice A' n' c'] w fun e w' => e = .returned (.bool true) ∧ Below w.heap.size w w' := by
  refine (c_Ints A A' n n' c c' L L B B' w hl hm hn).mono ?_
  rintro e w' ⟨rfl, q, rfl⟩
  exact ⟨by rw [eqL_true rfl], below_drewN (Below.refl _ _) q⟩
theorem eightE_ne (L : List Int) : (eightE L == 0) = false := by
  unfold eightE
  split <;> rfl
theorem rd_nil (w : World) : Rd w w.heap.size none 0 [] := (Own.nil w w.heap.size).rd

set_option maxHeartbeats 4000000 in
theorem ntt_says_bad1 (A A' : Option Addr) (n c n' c' : Nat) (L M : List Int) (w : World) (hg : Handle w) (hL : Rd w w.heap.size A n L) (hM : Rd w w.heap.size A' n' M) (hn : n ≤ 9223372036854775807) (hn' : n' ≤ 9223372036854775807) (h : ¬ Eight L) :
    Calls Tryd.prog 3 #[.slice A n c, .slice A' n' c'] w fun e w' => e = .returned (.bool true) ∧ Below w.heap.size w w' := by
  have hgd : Hid (Handle w) := hg
  have HL := Lib.hid hL
  have HM := Lib.hid hM
  clear hg hL hM
  have H := Lib.hid h
  clear h
  have hE := eightE_ne L
  go_enter Tryd.func3, Tryd.ntmps3
  have T0 : Below w.heap.size w w := Below.refl _ _
  go_wp2_with fail
  refine (c_REight_bad _ _ _ L _ _ (HL.out.below T0) hn H.out).mono ?_
  rintro e w' ⟨rfl, rfl⟩
  go_wp2_with fail
  refine (c_NCheck_bad _ _ _ L _ _ (HL.out.below T0) H.out).mono ?_
  rintro e w' ⟨rfl, rfl⟩
  go_wp2_with fail
  refine (c_Error_some _ _ _ (hgd.out.below T0)).mono ?_
  rintro e w1 ⟨rfl, hb⟩
  have T0 := T0.trans (hb.mono T0.size)
  clear hb
  go_wp2_with fail
  refine (c_There_bad _ _ _ L _ _ (HL.out.below T0) H.out).mono ?_
  rintro e w2 ⟨rfl, hb⟩
  have T0 := T0.trans (hb.mono T0.size)
  clear hb
  go_wp2_with fail
  refine (c_Error_some _ _ _ (hgd.out.below T0)).mono ?_
  rintro e w3 ⟨rfl, hb⟩
  have T0 := T0.trans (hb.mono T0.size)
  clear hb
  go_wp2_with fail
  refine (c_same _ _ _ _ _ _ [] _ _ _ (rd_nil _) (rd_nil _) (by omega)).mono ?_
  rintro e w4 ⟨rfl, hb⟩
  have T0 := T0.trans (hb.mono T0.size)
  clear hb
  go_wp2_with fail
  refine (c_Back_bad _ _ _ L _ _ (HL.out.below T0) H.out).mono ?_
  rintro e w5 ⟨rfl, hb⟩
  have T0 := T0.trans (hb.mono T0.size)
  clear hb
  go_wp2_with fail
  refine (c_Error_some _ _ _ (hgd.out.below T0)).mono ?_
  rintro e w6 ⟨rfl, hb⟩
  have T0 := T0.trans (hb.mono T0.size)
  clear hb
  go_wp2_with fail
  refine (c_same _ _ _ _ _ _ [] _ _ _ (rd_nil _) (rd_nil _) (by omega)).mono ?_
  rintro e w7 ⟨rfl, hb⟩
  have T0 := T0.trans (hb.mono T0.size)
  clear hb
  go_wp2_with fail
  refine (c_NFold_bad1 _ _ _ _ _ _ L M _ _ _ (HL.out.below T0) (HM.out.below T0) H.out).mono ?_
  rintro e w8 ⟨rfl, hb⟩
  have T0 := T0.trans (hb.mono T0.size)
  clear hb
  go_wp2_with fail
  refine (c_Error_some _ _ _ (hgd.out.below T0)).mono ?_
  rintro e w9 ⟨rfl, hb⟩
  have T0 := T0.trans (hb.mono T0.size)
  clear hb
  go_wp2_with fail
  refine (c_same _ _ _ _ _ _ [] _ _ _ (rd_nil _) (rd_nil _) (by omega)).mono ?_
  rintro e w10 ⟨rfl, hb⟩
  have T0 := T0.trans (hb.mono T0.size)
  clear hb
  go_wp2
  go_ret
  exact ⟨rfl, T0⟩
set_option maxHeartbeats 4000000 in
theorem ntt_says_bad2 (A A' : Option Addr) (n c n' c' : Nat) (L M : List Int) (w : World) (hg : Handle w) (hL : Rd w w.heap.size A n L) (hM : Rd w w.heap.size A' n' M) (hn : n ≤ 9223372036854775807) (hn' : n' ≤ 9223372036854775807) (e8 : n = 8) (h : Eight L) (h' : ¬ Eight M) :
    Calls Tryd.prog 3 #[.slice A n c, .slice A' n' c'] w fun e w' => e = .returned (.bool true) ∧ Below w.heap.size w w' := by
  have hgd : Hid (Handle w) := hg
  have HL := Lib.hid hL
  have HM := Lib.hid hM
  clear hg hL hM
  have H := Lib.hid h
  have H' := Lib.hid h'
  clear h h'
  subst e8
  have hE := eightE_ne M
  go_enter Tryd.func3, Tryd.ntmps3
  have T0 : Below w.heap.size w w := Below.refl _ _
  go_wp2_with fail
  refine (c_REight_ok _ _ _ L _ _ (HL.out.below T0) H.out).mono ?_
  rintro e w' ⟨rfl, rfl⟩
  go_wp2_with fail
  refine (c_NCheck_ok _ _ _ L _ _ (HL.out.below T0) H.out).mono ?_
  rintro e w' ⟨rfl, rfl⟩
  go_wp2_with fail
  refine (c_Error_nil _ _).mono ?_
  rintro e w1 ⟨rfl, hb⟩
  have T0 := T0.trans (hb.mono T0.size)
  clear hb
  go_wp2_with fail
  refine (c_RTurned _ _ L 64 1 _ ((HL.out.below T0).more T0.size) H.out (.inl rfl) (by omega)).mono ?_
  rintro e w2 ⟨A2, c2, rfl, o, hb⟩
  have T0 := T0.trans (hb.mono T0.size)
  have Ra := Lib.hid o.rd
  have Ua : Below w2.heap.size w2 w2 := Below.refl _ _
  clear o
  clear hb
  go_wp2_with fail
  refine (c_RTurned _ _ L 253 225 _ ((HL.out.below T0).more T0.size) H.out (.inr rfl) (by omega)).mono ?_
  rintro e w3 ⟨A3, c3, rfl, o, hb⟩
  have T0 := T0.trans (hb.mono T0.size)
  have Ua := Ua.trans (hb.mono Ua.size)
  have Rb := Lib.hid o.rd
  have Ub : Below w3.heap.size w3 w3 := Below.refl _ _
  clear o
  clear hb
  go_wp2_with fail
  refine (c_There_ok _ _ _ L _ _ (HL.out.below T0) T0.size H.out).mono ?_
  rintro e w4 ⟨g4, rfl, o, hb⟩
  have T0 := T0.trans (hb.mono T0.size)
  have Ua := Ua.trans (hb.mono Ua.size)
  have Ub := Ub.trans (hb.mono Ub.size)
  have Rd := Lib.hid o.rd
  have Ud : Below w4.heap.size w4 w4 := Below.refl _ _
  clear o
  clear hb
  go_wp2_with fail
  refine (c_Error_nil _ _).mono ?_
  rintro e w5 ⟨rfl, hb⟩
  have T0 := T0.trans (hb.mono T0.size)
  have Ua := Ua.trans (hb.mono Ua.size)
  have Ub := Ub.trans (hb.mono Ub.size)
  have Ud := Ud.trans (hb.mono Ud.size)
  clear hb
  go_wp2_with fail
  refine (c_same _ _ _ _ _ _ _ _ _ _ (Rd.out.below Ud) (Ra.out.below Ua) (by omega)).mono ?_
  rintro e w6 ⟨rfl, hb⟩
  have T0 := T0.trans (hb.mono T0.size)
  have Ua := Ua.trans (hb.mono Ua.size)
  have Ub := Ub.trans (hb.mono Ub.size)
  have Ud := Ud.trans (hb.mono Ud.size)
  clear hb
  go_wp2_with fail
  refine (c_Back_ok _ _ _ L _ _ (HL.out.below T0) T0.size H.out).mono ?_
  rintro e w7 ⟨g7, rfl, o, hb⟩
  have T0 := T0.trans (hb.mono T0.size)
  have Ua := Ua.trans (hb.mono Ua.size)
  have Ub := Ub.trans (hb.mono Ub.size)
  have Ud := Ud.trans (hb.mono Ud.size)
  have Rf := Lib.hid o.rd
  have Uf : Below w7.heap.size w7 w7 := Below.refl _ _
  clear o
  clear hb
  go_wp2_with fail
  refine (c_Error_nil _ _).mono ?_
  rintro e w8 ⟨rfl, hb⟩
  have T0 := T0.trans (hb.mono T0.size)
  have Ua := Ua.trans (hb.mono Ua.size)
  have Ub := Ub.trans (hb.mono Ub.size)
  have Ud := Ud.trans (hb.mono Ud.size)
  have Uf := Uf.trans (hb.mono Uf.size)
  clear hb
  go_wp2_with fail
  refine (c_same _ _ _ _ _ _ _ _ _ _ (Rf.out.below Uf) (Rb.out.below Ub) (by omega)).mono ?_
  rintro e w9 ⟨rfl, hb⟩
  have T0 := T0.trans (hb.mono T0.size)
  have Ua := Ua.trans (hb.mono Ua.size)
  have Ub := Ub.trans (hb.mono Ub.size)
  have Ud := Ud.trans (hb.mono Ud.size)
  have Uf := Uf.trans (hb.mono Uf.size)
  clear hb
  go_wp2_with fail
  refine (c_REight_bad _ _ _ M _ _ (HM.out.below T0) hn' H'.out).mono ?_
  rintro e w' ⟨rfl, rfl⟩
  go_wp2_with fail
  refine (c_NFold_bad2 _ _ _ _ _ _ L M _ _ _ (HL.out.below T0) (HM.out.below T0) H.out H'.out).mono ?_
  rintro e w10 ⟨rfl, hb⟩
  have T0 := T0.trans (hb.mono T0.size)
  have Ua := Ua.trans (hb.mono Ua.size)
  have Ub := Ub.trans (hb.mono Ub.size)
  have Ud := Ud.trans (hb.mono Ud.size)
  have Uf := Uf.trans (hb.mono Uf.size)
  clear hb
  go_wp2_with fail
  refine (c_Error_some _ _ _ (hgd.out.below T0)).mono ?_
  rintro e w11 ⟨rfl, hb⟩
  have T0 := T0.trans (hb.mono T0.size)
  have Ua := Ua.trans (hb.mono Ua.size)
  have Ub := Ub.trans (hb.mono Ub.size)
  have Ud := Ud.trans (hb.mono Ud.size)
  have Uf := Uf.trans (hb.mono Uf.size)
  clear hb
  go_wp2_with fail
  refine (c_same _ _ _ _ _ _ [] _ _ _ (rd_nil _) (rd_nil _) (by omega)).mono ?_
  rintro e w12 ⟨rfl, hb⟩
  have T0 := T0.trans (hb.mono T0.size)
  have Ua := Ua.trans (hb.mono Ua.size)
  have Ub := Ub.trans (hb.mono Ub.size)
  have Ud := Ud.trans (hb.mono Ud.size)
  have Uf := Uf.trans (hb.mono Uf.size)
  clear hb
  go_wp2
  go_ret
  exact ⟨rfl, T0⟩
set_option maxHeartbeats 4000000 in
theorem ntt_says_ok (A A' : Option Addr) (n c n' c' : Nat) (L M : List Int) (w : World) (hg : Handle w) (hL : Rd w w.heap.size A n L) (hM : Rd w w.heap.size A' n' M) (hn : n ≤ 9223372036854775807) (hn' : n' ≤ 9223372036854775807) (e8 : n = 8) (e8' : n' = 8) (h : Eight L) (h' : Eight M) :
    Calls Tryd.prog 3 #[.slice A n c, .slice A' n' c'] w fun e w' => e = .returned (.bool true) ∧ Below w.heap.size w w' := by
  have hgd : Hid (Handle w) := hg
  have HL := Lib.hid hL
  have HM := Lib.hid hM
  clear hg hL hM
  have H := Lib.hid h
  have H' := Lib.hid h'
  clear h h'
  subst e8
  subst e8'
  go_enter Tryd.func3, Tryd.ntmps3
  have T0 : Below w.heap.size w w := Below.refl _ _
  go_wp2_with fail
  refine (c_REight_ok _ _ _ L _ _ (HL.out.below T0) H.out).mono ?_
  rintro e w' ⟨rfl, rfl⟩
  go_wp2_with fail
  refine (c_NCheck_ok _ _ _ L _ _ (HL.out.below T0) H.out).mono ?_
  rintro e w' ⟨rfl, rfl⟩
  go_wp2_with fail
  refine (c_Error_nil _ _).mono ?_
  rintro e w1 ⟨rfl, hb⟩
  have T0 := T0.trans (hb.mono T0.size)
  clear hb
  go_wp2_with fail
  refine (c_RTurned _ _ L 64 1 _ ((HL.out.below T0).more T0.size) H.out (.inl rfl) (by omega)).mono ?_
  rintro e w2 ⟨A2, c2, rfl, o, hb⟩
  have T0 := T0.trans (hb.mono T0.size)
  have Ra := Lib.hid o.rd
  have Ua : Below w2.heap.size w2 w2 := Below.refl _ _
  clear o
  clear hb
  go_wp2_with fail
  refine (c_RTurned _ _ L 253 225 _ ((HL.out.below T0).more T0.size) H.out (.inr rfl) (by omega)).mono ?_
  rintro e w3 ⟨A3, c3, rfl, o, hb⟩
  have T0 := T0.trans (hb.mono T0.size)
  have Ua := Ua.trans (hb.mono Ua.size)
  have Rb := Lib.hid o.rd
  have Ub : Below w3.heap.size w3 w3 := Below.refl _ _
  clear o
  clear hb
  go_wp2_with fail
  refine (c_There_ok _ _ _ L _ _ (HL.out.below T0) T0.size H.out).mono ?_
  rintro e w4 ⟨g4, rfl, o, hb⟩
  have T0 := T0.trans (hb.mono T0.size)
  have Ua := Ua.trans (hb.mono Ua.size)
  have Ub := Ub.trans (hb.mono Ub.size)
  have Rd := Lib.hid o.rd
  have Ud : Below w4.heap.size w4 w4 := Below.refl _ _
  clear o
  clear hb
  go_wp2_with fail
  refine (c_Error_nil _ _).mono ?_
  rintro e w5 ⟨rfl, hb⟩
  have T0 := T0.trans (hb.mono T0.size)
  have Ua := Ua.trans (hb.mono Ua.size)
  have Ub := Ub.trans (hb.mono Ub.size)
  have Ud := Ud.trans (hb.mono Ud.size)
  clear hb
  go_wp2_with fail
  refine (c_same _ _ _ _ _ _ _ _ _ _ (Rd.out.below Ud) (Ra.out.below Ua) (by omega)).mono ?_
  rintro e w6 ⟨rfl, hb⟩
  have T0 := T0.trans (hb.mono T0.size)
  have Ua := Ua.trans (hb.mono Ua.size)
  have Ub := Ub.trans (hb.mono Ub.size)
  have Ud := Ud.trans (hb.mono Ud.size)
  clear hb
  go_wp2_with fail
  refine (c_Back_ok _ _ _ L _ _ (HL.out.below T0) T0.size H.out).mono ?_
  rintro e w7 ⟨g7, rfl, o, hb⟩
  have T0 := T0.trans (hb.mono T0.size)
  have Ua := Ua.trans (hb.mono Ua.size)
  have Ub := Ub.trans (hb.mono Ub.size)
  have Ud := Ud.trans (hb.mono Ud.size)
  have Rf := Lib.hid o.rd
  have Uf : Below w7.heap.size w7 w7 := Below.refl _ _
  clear o
  clear hb
  go_wp2_with fail
  refine (c_Error_nil _ _).mono ?_
  rintro e w8 ⟨rfl, hb⟩
  have T0 := T0.trans (hb.mono T0.size)
  have Ua := Ua.trans (hb.mono Ua.size)
  have Ub := Ub.trans (hb.mono Ub.size)
  have Ud := Ud.trans (hb.mono Ud.size)
  have Uf := Uf.trans (hb.mono Uf.size)
  clear hb
  go_wp2_with fail
  refine (c_same _ _ _ _ _ _ _ _ _ _ (Rf.out.below Uf) (Rb.out.below Ub) (by omega)).mono ?_
  rintro e w9 ⟨rfl, hb⟩
  have T0 := T0.trans (hb.mono T0.size)
  have Ua := Ua.trans (hb.mono Ua.size)
  have Ub := Ub.trans (hb.mono Ub.size)
  have Ud := Ud.trans (hb.mono Ud.size)
  have Uf := Uf.trans (hb.mono Uf.size)
  clear hb
  go_wp2_with fail
  refine (c_REight_ok _ _ _ M _ _ (HM.out.below T0) H'.out).mono ?_
  rintro e w' ⟨rfl, rfl⟩
  go_wp2_with fail
  refine (c_RFolded _ _ _ _ L M _ ((HL.out.below T0).more T0.size) ((HM.out.below T0).more T0.size) H.out H'.out).mono ?_
  rintro e w10 ⟨g10, rfl, o, hb⟩
  have T0 := T0.trans (hb.mono T0.size)
  have Ua := Ua.trans (hb.mono Ua.size)
  have Ub := Ub.trans (hb.mono Ub.size)
  have Ud := Ud.trans (hb.mono Ud.size)
  have Uf := Uf.trans (hb.mono Uf.size)
  have Rh := Lib.hid o.rd
  have Uh : Below w10.heap.size w10 w10 := Below.refl _ _
  clear o
  clear hb
  go_wp2_with fail
  refine (c_NFold_ok _ _ _ _ _ _ L M _ _ _ (HL.out.below T0) (HM.out.below T0) T0.size T0.size H.out H'.out).mono ?_
  rintro e w11 ⟨g11, rfl, o, hb⟩
  have T0 := T0.trans (hb.mono T0.size)
  have Ua := Ua.trans (hb.mono Ua.size)
  have Ub := Ub.trans (hb.mono Ub.size)
  have Ud := Ud.trans (hb.mono Ud.size)
  have Uf := Uf.trans (hb.mono Uf.size)
  have Uh := Uh.trans (hb.mono Uh.size)
  have Ri := Lib.hid o.rd
  have Ui : Below w11.heap.size w11 w11 := Below.refl _ _
  clear o
  clear hb
  go_wp2_with fail
  refine (c_Error_nil _ _).mono ?_
  rintro e w12 ⟨rfl, hb⟩
  have T0 := T0.trans (hb.mono T0.size)
  have Ua := Ua.trans (hb.mono Ua.size)
  have Ub := Ub.trans (hb.mono Ub.size)
  have Ud := Ud.trans (hb.mono Ud.size)
  have Uf := Uf.trans (hb.mono Uf.size)
  have Uh := Uh.trans (hb.mono Uh.size)
  have Ui := Ui.trans (hb.mono Ui.size)
  clear hb
  go_wp2_with fail
  refine (c_same _ _ _ _ _ _ _ _ _ _ (Ri.out.below Ui) (Rh.out.below Uh) (by omega)).mono ?_
  rintro e w13 ⟨rfl, hb⟩
  have T0 := T0.trans (hb.mono T0.size)
  have Ua := Ua.trans (hb.mono Ua.size)
  have Ub := Ub.trans (hb.mono Ub.size)
  have Ud := Ud.trans (hb.mono Ud.size)
  have Uf := Uf.trans (hb.mono Uf.size)
  have Uh := Uh.trans (hb.mono Uh.size)
  have Ui := Ui.trans (hb.mono Ui.size)
  clear hb
  go_wp2
  go_ret
  exact ⟨rfl, T0⟩
theorem frame_NttSays (A : Option Addr) (n c : Nat) (L : List Int) (A' : Option Addr) (n' c' : Nat) (M : List Int) (w : World)
    (hL : Rd w w.heap.size A n L) (b1 : n ≤ c ∧ c ≤ 9223372036854775807) (_ : ∀ x ∈ L, Fits x) (hM : Rd w w.heap.size A' n' M) (b2 : n' ≤ c' ∧ c' ≤ 9223372036854775807) (_ : ∀ x ∈ M, Fits x) (hg : Handle w) :
    Calls Tryd.prog 3 #[.slice A n c, .slice A' n' c'] w fun e w' => e = .returned (.bool true) ∧ Below w.heap.size w w' := by
  by_cases h : Eight L
  · have e8 : n = 8 := by rw [← hL.1]; exact h.1
    by_cases h' : Eight M
    · have e8' : n' = 8 := by rw [← hM.1]; exact h'.1
      exact ntt_says_ok A A' n c n' c' L M w hg hL hM (by omega) (by omega) e8 e8' h h'
    · exact ntt_says_bad2 A A' n c n' c' L M w hg hL hM (by omega) (by omega) e8 h h'
  · exact ntt_says_bad1 A A' n c n' c' L M w hg hL hM (by omega) (by omega) h
end Go.Proofs.YtmicgjpelikjiaaDoor
