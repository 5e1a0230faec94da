/- The walk of the statement ContSays: the law returns true for all arguments. (Printed by gen_contsays.py.) -/
import Derived.Test.YtpfbbalhhldghaaDoorContRefN
import Derived.Test.YtpfbbalhhldghaaDoorView
import Derived.Test.YtpfbbalhhldghaaDoorAs
namespace Go.Proofs.YtpfbbalhhldghaaDoor
open Go.RowKit

set_option maxHeartbeats 1000000 in
theorem c_Best_bad (a b most : Int) (w : World) (h : ¬ (FrOk a b ∧ 1 ≤ most ∧ most ≤ 1000000)) :
    Calls Tryd.prog 20 #[.agg #[.int .i64 a, .int .i64 b], .int .i64 most] w fun e w' => e = .returned (.tuple #[.agg #[.int .i64 0, .int .i64 0], .iface 58 (.int .i64 1)]) ∧ Below w.heap.size w w' := by
  by_cases h1 : FrOk a b
  · have o1 : outB most 1 1000000 = true := outB_true (by
      rcases Int.lt_or_le most 1 with h2 | h2
      · exact .inl h2
      · rcases Int.lt_or_le 1000000 most with h3 | h3
        · exact .inr h3
        · exact absurd ⟨h1, h2, h3⟩ h)
    have H := Lib.hid h1
    clear h h1
    go_enter Tryd.func20, Tryd.ntmps20
    go_wp2_with fail
    refine (c_fcheck_ok _ _ _ H.out).mono ?_
    rintro e w1 ⟨rfl, hb1⟩
    obtain ⟨⟨k1, k2⟩, ⟨z1, z2⟩, ⟨f1, f2⟩, hb1', hs1⟩ := box4 hb1
    clear hb1
    go_wp2_with (go_at_call 37; refine (c_Out _ _ _ _).mono ?_; rintro e w' ⟨rfl, rfl⟩)
    have z := p2_set (x' := 0) (y' := 0) (show P2 w1 (w.heap.size + 1) 0 0 from ⟨z1, z2⟩)
    have e1 := hb1'.setCell (p := ⟨w.heap.size + 1, 0, none⟩) (show w.heap.size ≤ w.heap.size + 1 by omega) (.int .i64 0)
    have e2 := e1.setCell (p := ⟨w.heap.size + 1, 1, none⟩) (show w.heap.size ≤ w.heap.size + 1 by omega) (.int .i64 0)
    refine bodyPost_ret (v := .tuple #[.agg #[.int .i64 0, .int .i64 0], .iface 58 (.int .i64 1)]) (by have z1 := z.1; have z2 := z.2; simp [results, Tryd.results20, go_sem, z1, z2]) rfl ⟨rfl, e2⟩
  · have H := Lib.hid h1
    clear h h1
    go_enter Tryd.func20, Tryd.ntmps20
    go_wp2_with fail
    refine (c_fcheck_bad _ _ _ H.out).mono ?_
    rintro e w1 ⟨rfl, hb1⟩
    obtain ⟨⟨k1, k2⟩, ⟨z1, z2⟩, ⟨f1, f2⟩, hb1', hs1⟩ := box4 hb1
    clear hb1
    go_wp2
    have z := p2_set (x' := 0) (y' := 0) (show P2 w1 (w.heap.size + 1) 0 0 from ⟨z1, z2⟩)
    have e1 := hb1'.setCell (p := ⟨w.heap.size + 1, 0, none⟩) (show w.heap.size ≤ w.heap.size + 1 by omega) (.int .i64 0)
    have e2 := e1.setCell (p := ⟨w.heap.size + 1, 1, none⟩) (show w.heap.size ≤ w.heap.size + 1 by omega) (.int .i64 0)
    refine bodyPost_ret (v := .tuple #[.agg #[.int .i64 0, .int .i64 0], .iface 58 (.int .i64 1)]) (by have z1 := z.1; have z2 := z.2; simp [results, Tryd.results20, go_sem, z1, z2]) rfl ⟨rfl, e2⟩
/-- An error of a number. -/
def EV (ev : Value) (d : Int) : Prop := (ev = .nilIface ∧ d = 0) ∨ ev = .iface 58 (.int .i64 d)
/-- Near, by the program and by the reference: one list and one number of what is wrong. -/
theorem near_both (n : Nat) (L : List Int) : ∃ (F : List (Int × Int)) (d : Int), F.length ≤ n ∧
    (∀ (A : Option Addr) (c : Nat) (w : World), Rd w w.heap.size A n L → (n ≤ c ∧ c ≤ 9223372036854775807) → Calls Tryd.prog 17 #[.slice A n c] w fun e w' => ∃ A' c', e = .returned (.tuple #[.slice A' F.length c', .int .i64 d]) ∧ OwnF w' w.heap.size A' F.length c' F ∧ Below w.heap.size w w') ∧
    (∀ (A : Option Addr) (c : Nat) (w : World), Rd w w.heap.size A n L → (n ≤ c ∧ c ≤ 9223372036854775807) → Calls Tryd.prog 18 #[.slice A n c] w fun e w' => ∃ A' c' ev, e = .returned (.tuple #[.slice A' F.length c', ev]) ∧ EV ev d ∧ OwnF w' w.heap.size A' F.length c' F ∧ Below w.heap.size w w') := by
  by_cases hT : TOk L
  · by_cases hC : CfAll L n
    · refine ⟨cfs L n, 0, by rw [cfs_len]; exact Nat.le_refl _, fun A c w hL hc => ?_, fun A c w hL hc => ?_⟩
      · refine (rnear_loop A n c L w hL hc hT).mono ?_
        rintro e w' ⟨⟨_, A', c', rfl, ho⟩ | ⟨hC', rfl⟩, hb⟩
        · rw [cfs_len]; exact ⟨A', c', rfl, ho, hb⟩
        · exact absurd hC hC'
      · refine (c_Near_ok A n c L w hL hc hT).mono ?_
        rintro e w' ⟨⟨_, A', c', rfl, ho⟩ | ⟨hC', rfl⟩, hb⟩
        · rw [cfs_len]; exact ⟨A', c', _, rfl, .inl ⟨rfl, rfl⟩, ho, hb⟩
        · exact absurd hC hC'
    · refine ⟨[], 4, Nat.zero_le _, fun A c w hL hc => ?_, fun A c w hL hc => ?_⟩
      · refine (rnear_loop A n c L w hL hc hT).mono ?_
        rintro e w' ⟨⟨hC', A', c', rfl, ho⟩ | ⟨_, rfl⟩, hb⟩
        · exact absurd hC' hC
        · exact ⟨none, 0, rfl, OwnF.nil _ _, hb⟩
      · refine (c_Near_ok A n c L w hL hc hT).mono ?_
        rintro e w' ⟨⟨hC', A', c', rfl, ho⟩ | ⟨_, rfl⟩, hb⟩
        · exact absurd hC' hC
        · exact ⟨none, 0, _, rfl, .inr rfl, OwnF.nil _ _, hb⟩
  · refine ⟨[], nearE L, Nat.zero_le _, fun A c w hL hc => ?_, fun A c w hL hc => ?_⟩
    · refine (c_RNear_bad A n c L w hL hc hT).mono ?_
      rintro e w' ⟨rfl, rfl⟩
      exact ⟨none, 0, rfl, OwnF.nil _ _, Below.refl _ _⟩
    · refine (c_Near_bad A n c L w hL hc hT).mono ?_
      rintro e w' ⟨rfl, rfl⟩
      exact ⟨none, 0, _, rfl, .inr rfl, OwnF.nil _ _, Below.refl _ _⟩
theorem c_Error_ev (ev : Value) (d : Int) (w : World) (hg : Handle w) (h : EV ev d) : Calls Tryd.prog 9 #[ev, .int .i64 d] w fun e w' => e = .returned (.bool true) ∧ Below w.heap.size w w' := by
  rcases h with ⟨rfl, rfl⟩ | rfl
  · exact (c_Error_nil 0 w).mono fun e w' ⟨h1, h2⟩ => ⟨by rw [h1]; rfl, h2⟩
  · exact (c_Error_some d d w hg).mono fun e w' ⟨h1, h2⟩ => ⟨by rw [h1]; simp, h2⟩
theorem c_sameI (A A' : Option Addr) (n n' c c' : Nat) (L : List Int) (B B' : Nat) (w : World) (hl : Rd w B A n L) (hm : Rd w B' A' n' L) (hn : n ≤ 9223372036854775807) :
    Calls Tryd.prog 16 #[.slice A n c, .slice A' n' c'] w fun e w' => e = .returned (.bool true) ∧ Below w.heap.size w w' := by
  refine (c_Ints A A' n n' c c' L L B B' w hl hm hn).mono ?_
  rintro e w' ⟨rfl, q, rfl⟩
  exact ⟨by rw [eqL_true rfl], below_drewN (Below.refl _ _) q⟩
theorem c_sameF (A A' : Option Addr) (n n' c c' : Nat) (L : List (Int × Int)) (B B' : Nat) (w : World) (hl : RdF w B A n L) (hm : RdF w B' A' n' L) (hn : n ≤ 9223372036854775807) :
    Calls Tryd.prog 19 #[.slice A n c, .slice A' n' c'] w fun e w' => e = .returned (.bool true) ∧ Below w.heap.size w w' := by
  refine (c_Fracs A A' n n' c c' L L B B' w hl hm hn).mono ?_
  rintro e w' ⟨rfl, q, rfl⟩
  exact ⟨by rw [eqF_true rfl], below_drewN (Below.refl _ _) q⟩
theorem rd_nil' (w : World) : Rd w w.heap.size none 0 [] := ⟨rfl, fun h => absurd h (by omega)⟩
theorem own_cap {w : World} {base n c : Nat} {A : Option Addr} {L : List Int} (h : Own w base A n c L) : n ≤ c ∧ c ≤ 9223372036854775807 := by
  rcases h.2.2 with ⟨hv, h0⟩ | ⟨_, _, _, hv, _, _, h0, h1, _⟩
  · injection hv with _ _ h3
    omega
  · injection hv with _ _ h3
    unfold maxLen at h1
    omega
theorem below_box (w : World) (o : Obj) : Below w.heap.size w (w.alloc o) := (Below.refl _ w).alloc (Nat.le_refl _) o
section
variable (A : Option Addr) (n c : Nat) (L : List Int) (most : Int) (w : World)
set_option maxHeartbeats 4000000 in
set_option maxRecDepth 100000 in
theorem csays_a (a b : Int) (hg : Handle w) (hL : Rd w w.heap.size A n L) (hc : n ≤ c ∧ c ≤ 9223372036854775807) (h : ¬ FrOk a b) :
    Calls Tryd.prog 4 #[.agg #[.int .i64 a, .int .i64 b], .slice A n c, .int .i64 most] w fun e w' => e = .returned (.bool true) ∧ Below w.heap.size w w' := by
  obtain ⟨w0, hw0⟩ : ∃ w0, w0 = w.alloc (.cells #[.int .i64 a, .int .i64 b] 35) := ⟨_, rfl⟩
  have HL : Hid (Rd w0 w0.heap.size A n L) := by rw [Hid, hw0]; exact (hL.alloc (Nat.le_refl _) _).more (by simp)
  have HG : Hid (Handle w0) := by rw [Hid, hw0]; exact hg.below (below_box w _)
  have BW : Hid (Below w.heap.size w w0) := by rw [Hid, hw0]; exact below_box w _
  have PB : Hid (∀ wr : World, Below w0.heap.size w0 wr → wr.cell? ⟨w.heap.size, 0, none⟩ = some (.int .i64 a) ∧ wr.cell? ⟨w.heap.size, 1, none⟩ = some (.int .i64 b)) := fun wr hb => by
    subst hw0
    exact ⟨(hb.cell (p := ⟨w.heap.size, 0, none⟩) (by simp)).trans (by simp), (hb.cell (p := ⟨w.heap.size, 1, none⟩) (by simp)).trans (by simp)⟩
  have T : Below w0.heap.size w0 w0 := Below.refl _ _
  obtain ⟨hc1, hc2⟩ := hc
  have H := Lib.hid h
  have H2 : Hid (¬ (FrOk a b ∧ 1 ≤ most ∧ most ≤ 1000000)) := fun h2 => h h2.1
  clear h
  obtain ⟨F, d, hFn, hRN, hCN⟩ := near_both n L
  have CRN := Lib.hid hRN
  have CCN := Lib.hid hCN
  clear hL hg hRN hCN
  go_enter Tryd.func4, Tryd.ntmps4
  go_wp2_with fail
  rw [← hw0]
  clear hw0
  refine (c_RFraction_bad a b _ H.out).mono ?_
  rintro e w1 ⟨rfl, hb⟩
  replace T := T.trans (hb.mono T.size)
  clear hb
  obtain ⟨k1, k2⟩ := PB.out _ T
  go_wp2_with fail
  refine (c_Terms_bad a b _ H.out).mono ?_
  rintro e w2 ⟨rfl, hb⟩
  replace T := T.trans (hb.mono T.size)
  clear hb
  clear k1 k2
  go_wp2_with fail
  refine (c_Error_some _ _ _ (HG.out.below T)).mono ?_
  rintro e w3 ⟨rfl, hb⟩
  replace T := T.trans (hb.mono T.size)
  clear hb
  go_wp2_with fail
  refine (c_sameI _ _ _ _ _ _ [] _ _ _ (rd_nil' _) (rd_nil' _) (by omega)).mono ?_
  rintro e w3 ⟨rfl, hb⟩
  replace T := T.trans (hb.mono T.size)
  clear hb
  go_wp2_with fail
  refine (CRN.out A c _ ((HL.out.below T).more T.size) ⟨hc1, hc2⟩).mono ?_
  rintro e w4 ⟨A4, c4, rfl, o, hb⟩
  have O4 := Lib.hid o
  clear o
  replace T := T.trans (hb.mono T.size)
  clear hb
  obtain ⟨ln, hln⟩ : ∃ l, l = F.length := ⟨_, rfl⟩
  rw [← hln] at O4 hFn ⊢
  have HLN := Lib.hid hln
  have LN : ln ≤ 9223372036854775807 := by omega
  clear hln hFn
  go_wp2_with fail
  refine (CCN.out A c _ ((HL.out.below T).more T.size) ⟨hc1, hc2⟩).mono ?_
  rintro e w5 ⟨A5, c5, ev, rfl, hev, o, hb⟩
  rw [← HLN.out] at o ⊢
  have O5 := Lib.hid o
  have EVD := Lib.hid hev
  clear o hev
  replace O4 := Lib.hid (O4.out.keep hb)
  replace T := T.trans (hb.mono T.size)
  clear hb
  go_wp2_with fail
  refine (c_Error_ev ev d _ (HG.out.below T) EVD.out).mono ?_
  rintro e w6 ⟨rfl, hb⟩
  replace O4 := Lib.hid (O4.out.keep hb)
  replace O5 := Lib.hid (O5.out.keep hb)
  replace T := T.trans (hb.mono T.size)
  clear hb
  go_wp2_with fail
  refine (c_sameF _ _ _ _ _ _ _ _ _ _ O5.out.rd O4.out.rd LN).mono ?_
  rintro e w7 ⟨rfl, hb⟩
  replace T := T.trans (hb.mono T.size)
  clear hb
  clear O4 O5
  have n1 : ∀ o, (w7.alloc o).cell? ⟨w.heap.size, 0, none⟩ = some (.int .i64 a) := fun o => (PB.out _ (T.alloc T.size o)).1
  have n2 : ∀ o, (w7.alloc o).cell? ⟨w.heap.size, 1, none⟩ = some (.int .i64 b) := fun o => (PB.out _ (T.alloc T.size o)).2
  go_wp2_with fail
  refine (c_Best_bad a b most _ H2.out).mono ?_
  rintro e w9 ⟨rfl, hb⟩
  obtain ⟨g1, g2, hb9, hs9⟩ := box2 hb
  replace T := T.trans (hb9.mono T.size)
  clear hb hb9 n1 n2
  go_wp2_with fail
  refine (c_Error_some _ _ _ ((HG.out.below T).below (below_box w9 _))).mono ?_
  rintro e w10 ⟨rfl, hb⟩
  obtain ⟨q1, q2, hb10, hs10⟩ := box2 hb
  have r1 := (hb10.cell (p := ⟨w7.heap.size, 0, none⟩) hs9).trans g1
  have r2 := (hb10.cell (p := ⟨w7.heap.size, 1, none⟩) hs9).trans g2
  replace T := T.trans (hb10.mono T.size)
  clear hb hb10 g1 g2
  go_wp2
  go_ret
  exact ⟨rfl, BW.out.trans (T.mono BW.out.size)⟩
set_option maxHeartbeats 4000000 in
set_option maxRecDepth 100000 in
theorem csays_b (a b : Nat) (hg : Handle w) (hL : Rd w w.heap.size A n L) (hc : n ≤ c ∧ c ≤ 9223372036854775807) (h : FrOk a b) (hm : ¬ (1 ≤ most ∧ most ≤ 1000000)) :
    Calls Tryd.prog 4 #[.agg #[.int .i64 a, .int .i64 b], .slice A n c, .int .i64 most] w fun e w' => e = .returned (.bool true) ∧ Below w.heap.size w w' := by
  obtain ⟨w0, hw0⟩ : ∃ w0, w0 = w.alloc (.cells #[.int .i64 a, .int .i64 b] 35) := ⟨_, rfl⟩
  have HL : Hid (Rd w0 w0.heap.size A n L) := by rw [Hid, hw0]; exact (hL.alloc (Nat.le_refl _) _).more (by simp)
  have HG : Hid (Handle w0) := by rw [Hid, hw0]; exact hg.below (below_box w _)
  have BW : Hid (Below w.heap.size w w0) := by rw [Hid, hw0]; exact below_box w _
  have PB : Hid (∀ wr : World, Below w0.heap.size w0 wr → wr.cell? ⟨w.heap.size, 0, none⟩ = some (.int .i64 a) ∧ wr.cell? ⟨w.heap.size, 1, none⟩ = some (.int .i64 b)) := fun wr hb => by
    subst hw0
    exact ⟨(hb.cell (p := ⟨w.heap.size, 0, none⟩) (by simp)).trans (by simp), (hb.cell (p := ⟨w.heap.size, 1, none⟩) (by simp)).trans (by simp)⟩
  have T : Below w0.heap.size w0 w0 := Below.refl _ _
  obtain ⟨hc1, hc2⟩ := hc
  have H := Lib.hid h
  unfold FrOk at h
  have ha : a ≤ 1000000 := by omega
  have hb1 : b ≤ 1000000 := by omega
  have hst := st_le ha hb1
  have i1 := inC_false hm
  have H2 : Hid (¬ (FrOk a b ∧ 1 ≤ most ∧ most ≤ 1000000)) := fun h2 => hm h2.2
  clear h hm
  obtain ⟨F, d, hFn, hRN, hCN⟩ := near_both n L
  have CRN := Lib.hid hRN
  have CCN := Lib.hid hCN
  clear hL hg hRN hCN
  go_enter Tryd.func4, Tryd.ntmps4
  go_wp2_with fail
  rw [← hw0]
  clear hw0
  refine (c_RFraction_ok a b _ H.out).mono ?_
  rintro e w1 ⟨rfl, hb⟩
  replace T := T.trans (hb.mono T.size)
  clear hb
  obtain ⟨k1, k2⟩ := PB.out _ T
  go_wp2_with fail
  refine (c_RTerms a b _ ha hb1).mono ?_
  rintro e w2 ⟨A2, c2, rfl, o, hb⟩
  have O2 := Lib.hid o
  clear o
  replace T := T.trans (hb.mono T.size)
  clear hb
  clear k1 k2
  obtain ⟨k1, k2⟩ := PB.out _ T
  obtain ⟨N, hN⟩ : ∃ N, N = st a b := ⟨_, rfl⟩
  rw [← hN] at O2 hst ⊢
  have HN := Lib.hid hN
  clear hN
  go_wp2_with fail
  refine (c_Terms_ok a b _ H.out).mono ?_
  rintro e w3 ⟨A3, c3, rfl, o, hb⟩
  rw [← HN.out] at o ⊢
  have O3 := Lib.hid o
  clear o
  replace O2 := Lib.hid (O2.out.keep hb)
  replace T := T.trans (hb.mono T.size)
  clear hb
  clear k1 k2
  go_wp2_with fail
  refine (c_Error_nil _ _).mono ?_
  rintro e w3 ⟨rfl, hb⟩
  replace O2 := Lib.hid (O2.out.keep hb)
  replace O3 := Lib.hid (O3.out.keep hb)
  replace T := T.trans (hb.mono T.size)
  clear hb
  go_wp2_with fail
  refine (c_sameI _ _ _ _ _ _ _ _ _ _ O3.out.rd O2.out.rd (by omega)).mono ?_
  rintro e w3 ⟨rfl, hb⟩
  replace O2 := Lib.hid (O2.out.keep hb)
  replace T := T.trans (hb.mono T.size)
  clear hb
  clear O3
  go_wp2_with fail
  refine (CRN.out A c _ ((HL.out.below T).more T.size) ⟨hc1, hc2⟩).mono ?_
  rintro e w4 ⟨A4, c4, rfl, o, hb⟩
  have O4 := Lib.hid o
  clear o
  replace O2 := Lib.hid (O2.out.keep hb)
  replace T := T.trans (hb.mono T.size)
  clear hb
  obtain ⟨ln, hln⟩ : ∃ l, l = F.length := ⟨_, rfl⟩
  rw [← hln] at O4 hFn ⊢
  have HLN := Lib.hid hln
  have LN : ln ≤ 9223372036854775807 := by omega
  clear hln hFn
  go_wp2_with fail
  refine (CCN.out A c _ ((HL.out.below T).more T.size) ⟨hc1, hc2⟩).mono ?_
  rintro e w5 ⟨A5, c5, ev, rfl, hev, o, hb⟩
  rw [← HLN.out] at o ⊢
  have O5 := Lib.hid o
  have EVD := Lib.hid hev
  clear o hev
  replace O2 := Lib.hid (O2.out.keep hb)
  replace O4 := Lib.hid (O4.out.keep hb)
  replace T := T.trans (hb.mono T.size)
  clear hb
  go_wp2_with fail
  refine (c_Error_ev ev d _ (HG.out.below T) EVD.out).mono ?_
  rintro e w6 ⟨rfl, hb⟩
  replace O2 := Lib.hid (O2.out.keep hb)
  replace O4 := Lib.hid (O4.out.keep hb)
  replace O5 := Lib.hid (O5.out.keep hb)
  replace T := T.trans (hb.mono T.size)
  clear hb
  go_wp2_with fail
  refine (c_sameF _ _ _ _ _ _ _ _ _ _ O5.out.rd O4.out.rd LN).mono ?_
  rintro e w7 ⟨rfl, hb⟩
  replace O2 := Lib.hid (O2.out.keep hb)
  replace T := T.trans (hb.mono T.size)
  clear hb
  clear O4 O5
  go_wp2_with fail
  refine (c_in _ _ _ _).mono ?_
  rintro e w' ⟨rfl, rfl⟩
  rw [i1]
  clear O2
  have n1 : ∀ o, (w7.alloc o).cell? ⟨w.heap.size, 0, none⟩ = some (.int .i64 a) := fun o => (PB.out _ (T.alloc T.size o)).1
  have n2 : ∀ o, (w7.alloc o).cell? ⟨w.heap.size, 1, none⟩ = some (.int .i64 b) := fun o => (PB.out _ (T.alloc T.size o)).2
  go_wp2_with fail
  refine (c_Best_bad a b most _ H2.out).mono ?_
  rintro e w9 ⟨rfl, hb⟩
  obtain ⟨g1, g2, hb9, hs9⟩ := box2 hb
  replace T := T.trans (hb9.mono T.size)
  clear hb hb9 n1 n2
  go_wp2_with fail
  refine (c_Error_some _ _ _ ((HG.out.below T).below (below_box w9 _))).mono ?_
  rintro e w10 ⟨rfl, hb⟩
  obtain ⟨q1, q2, hb10, hs10⟩ := box2 hb
  have r1 := (hb10.cell (p := ⟨w7.heap.size, 0, none⟩) hs9).trans g1
  have r2 := (hb10.cell (p := ⟨w7.heap.size, 1, none⟩) hs9).trans g2
  replace T := T.trans (hb10.mono T.size)
  clear hb hb10 g1 g2
  go_wp2
  go_ret
  exact ⟨rfl, BW.out.trans (T.mono BW.out.size)⟩
set_option maxHeartbeats 4000000 in
set_option maxRecDepth 100000 in
theorem csays_c (a b : Nat) (hg : Handle w) (hL : Rd w w.heap.size A n L) (hc : n ≤ c ∧ c ≤ 9223372036854775807) (h : FrOk a b) (hm : 1 ≤ most ∧ most ≤ 1000000) :
    Calls Tryd.prog 4 #[.agg #[.int .i64 a, .int .i64 b], .slice A n c, .int .i64 most] w fun e w' => e = .returned (.bool true) ∧ Below w.heap.size w w' := by
  obtain ⟨w0, hw0⟩ : ∃ w0, w0 = w.alloc (.cells #[.int .i64 a, .int .i64 b] 35) := ⟨_, rfl⟩
  have HL : Hid (Rd w0 w0.heap.size A n L) := by rw [Hid, hw0]; exact (hL.alloc (Nat.le_refl _) _).more (by simp)
  have HG : Hid (Handle w0) := by rw [Hid, hw0]; exact hg.below (below_box w _)
  have BW : Hid (Below w.heap.size w w0) := by rw [Hid, hw0]; exact below_box w _
  have PB : Hid (∀ wr : World, Below w0.heap.size w0 wr → wr.cell? ⟨w.heap.size, 0, none⟩ = some (.int .i64 a) ∧ wr.cell? ⟨w.heap.size, 1, none⟩ = some (.int .i64 b)) := fun wr hb => by
    subst hw0
    exact ⟨(hb.cell (p := ⟨w.heap.size, 0, none⟩) (by simp)).trans (by simp), (hb.cell (p := ⟨w.heap.size, 1, none⟩) (by simp)).trans (by simp)⟩
  have T : Below w0.heap.size w0 w0 := Below.refl _ _
  obtain ⟨hc1, hc2⟩ := hc
  have H := Lib.hid h
  unfold FrOk at h
  have ha : a ≤ 1000000 := by omega
  have hb1 : b ≤ 1000000 := by omega
  have hst := st_le ha hb1
  have i1 := inC_true hm
  have hT : TOk (tms a b) := tms_ok ha (by omega) hb1
  have hC : CfAll (tms a b) (st a b) := fun j h1 h2 => tms_cv ha (by omega) hb1 j h1 (by rw [tms_length]; exact h2)
  have HT := Lib.hid hT
  have HC := Lib.hid hC
  clear h hT hC
  obtain ⟨F, d, hFn, hRN, hCN⟩ := near_both n L
  have CRN := Lib.hid hRN
  have CCN := Lib.hid hCN
  clear hL hg hRN hCN
  go_enter Tryd.func4, Tryd.ntmps4
  go_wp2_with fail
  rw [← hw0]
  clear hw0
  refine (c_RFraction_ok a b _ H.out).mono ?_
  rintro e w1 ⟨rfl, hb⟩
  replace T := T.trans (hb.mono T.size)
  clear hb
  obtain ⟨k1, k2⟩ := PB.out _ T
  go_wp2_with fail
  refine (c_RTerms a b _ ha hb1).mono ?_
  rintro e w2 ⟨A2, c2, rfl, o, hb⟩
  have O2 := Lib.hid o
  clear o
  replace T := T.trans (hb.mono T.size)
  clear hb
  clear k1 k2
  obtain ⟨k1, k2⟩ := PB.out _ T
  obtain ⟨N, hN⟩ : ∃ N, N = st a b := ⟨_, rfl⟩
  rw [← hN] at O2 hst ⊢
  have HN := Lib.hid hN
  clear hN
  go_wp2_with fail
  refine (c_Terms_ok a b _ H.out).mono ?_
  rintro e w3 ⟨A3, c3, rfl, o, hb⟩
  rw [← HN.out] at o ⊢
  have O3 := Lib.hid o
  clear o
  replace O2 := Lib.hid (O2.out.keep hb)
  replace T := T.trans (hb.mono T.size)
  clear hb
  clear k1 k2
  go_wp2_with fail
  refine (c_Error_nil _ _).mono ?_
  rintro e w3 ⟨rfl, hb⟩
  replace O2 := Lib.hid (O2.out.keep hb)
  replace O3 := Lib.hid (O3.out.keep hb)
  replace T := T.trans (hb.mono T.size)
  clear hb
  go_wp2_with fail
  refine (c_sameI _ _ _ _ _ _ _ _ _ _ O3.out.rd O2.out.rd (by omega)).mono ?_
  rintro e w3 ⟨rfl, hb⟩
  replace O2 := Lib.hid (O2.out.keep hb)
  replace T := T.trans (hb.mono T.size)
  clear hb
  clear O3
  go_wp2_with fail
  refine (CRN.out A c _ ((HL.out.below T).more T.size) ⟨hc1, hc2⟩).mono ?_
  rintro e w4 ⟨A4, c4, rfl, o, hb⟩
  have O4 := Lib.hid o
  clear o
  replace O2 := Lib.hid (O2.out.keep hb)
  replace T := T.trans (hb.mono T.size)
  clear hb
  obtain ⟨ln, hln⟩ : ∃ l, l = F.length := ⟨_, rfl⟩
  rw [← hln] at O4 hFn ⊢
  have HLN := Lib.hid hln
  have LN : ln ≤ 9223372036854775807 := by omega
  clear hln hFn
  go_wp2_with fail
  refine (CCN.out A c _ ((HL.out.below T).more T.size) ⟨hc1, hc2⟩).mono ?_
  rintro e w5 ⟨A5, c5, ev, rfl, hev, o, hb⟩
  rw [← HLN.out] at o ⊢
  have O5 := Lib.hid o
  have EVD := Lib.hid hev
  clear o hev
  replace O2 := Lib.hid (O2.out.keep hb)
  replace O4 := Lib.hid (O4.out.keep hb)
  replace T := T.trans (hb.mono T.size)
  clear hb
  go_wp2_with fail
  refine (c_Error_ev ev d _ (HG.out.below T) EVD.out).mono ?_
  rintro e w6 ⟨rfl, hb⟩
  replace O2 := Lib.hid (O2.out.keep hb)
  replace O4 := Lib.hid (O4.out.keep hb)
  replace O5 := Lib.hid (O5.out.keep hb)
  replace T := T.trans (hb.mono T.size)
  clear hb
  go_wp2_with fail
  refine (c_sameF _ _ _ _ _ _ _ _ _ _ O5.out.rd O4.out.rd LN).mono ?_
  rintro e w7 ⟨rfl, hb⟩
  replace O2 := Lib.hid (O2.out.keep hb)
  replace T := T.trans (hb.mono T.size)
  clear hb
  clear O4 O5
  go_wp2_with fail
  refine (c_in _ _ _ _).mono ?_
  rintro e w' ⟨rfl, rfl⟩
  rw [i1]
  rw [← HN.out] at HC
  have CN : Hid (2 ≤ 2 → N ≤ c2 ∧ c2 ≤ 9223372036854775807) := fun _ => own_cap O2.out
  have O2a := Lib.hid (O2.out.alloc (.cells #[.int .i64 0, .int .i64 0] 35))
  have CB : Hid (∀ wr : World, Calls Tryd.prog 20 #[.agg #[.int .i64 a, .int .i64 b], .int .i64 most] wr fun e w' => e = .returned (.tuple #[.agg #[.int .i64 (bst (tms a b) most N).1, .int .i64 (bst (tms a b) most N).2], .nilIface]) ∧ Below wr.heap.size wr w') := fun wr => by
    rw [HN.out]; exact c_Best_ok a b most wr H.out hm
  obtain ⟨L2, hL2⟩ : ∃ L2, L2 = tms a b := ⟨_, rfl⟩
  rw [← hL2] at HT HC O2a CB
  clear hL2 O2
  go_wp2_with fail
  refine (rnear_loop _ _ _ L2 _ O2a.out.rd (CN.out (Nat.le_refl _)) HT.out).mono ?_
  rintro e w8 ⟨⟨_, A8, c8, rfl, o⟩ | ⟨hC, rfl⟩, hb⟩
  · obtain ⟨G, hG⟩ : ∃ G, G = w7.heap.size := ⟨_, rfl⟩
    have O8 : Hid (OwnF w8 (G + 1) A8 N c8 (cfs L2 N)) := by
      rw [Hid, hG]
      exact o.base_le (by simp)
    have f1 : w8.frozen? ⟨G, 0, none⟩ = false := by rw [hG]; exact (hb.frozen (p := ⟨w7.heap.size, 0, none⟩) (by simp)).trans (by simp)
    have f2 : w8.frozen? ⟨G, 1, none⟩ = false := by rw [hG]; exact (hb.frozen (p := ⟨w7.heap.size, 1, none⟩) (by simp)).trans (by simp)
    obtain ⟨g1, g2, hb8, hs8⟩ := box2 hb
    have hG0 : w0.heap.size ≤ G := by rw [hG]; exact T.size
    replace T := T.trans (hb8.mono T.size)
    rw [← hG] at g1 g2 hs8 ⊢
    clear o hb hb8 hG O2a CN
    go_wp2
    go_loopw [19] (fun i wr => ∃ (k : Nat) (p q : Int), k ≤ N ∧ i = .int .i64 k ∧ Hid (bst L2 most k = (p, q)) ∧ Hid (OwnF wr (G + 1) A8 N c8 (cfs L2 N)) ∧ P2 wr G p q ∧ wr.frozen? ⟨G, 0, none⟩ = false ∧ wr.frozen? ⟨G, 1, none⟩ = false ∧ G < wr.heap.size ∧ Below w0.heap.size w0 wr) (fun i _ => N - (intOf i).toNat)
    case atStart => exact ⟨0, 0, 0, Nat.zero_le _, rfl, rfl, O8.out, ⟨g1, g2⟩, f1, f2, hs8, T⟩
    case round =>
      obtain ⟨k, p, q, hk, rfl, HP, HO, ⟨m1, m2⟩, f1, f2, hsz, hbr⟩ := hrel
      by_cases hlt : k < N
      · obtain ⟨bb, off, rfl, hc1', hc2'⟩ := HO.out.rd.at_ hlt
        rw [cfs_nf L2 hlt] at hc1' hc2'
        have HS : Hid (bst L2 most (k + 1) = if cq L2 (k + 1) ≤ most then (cp L2 (k + 1), cq L2 (k + 1)) else bst L2 most k) := rfl
        obtain ⟨X, hX⟩ : ∃ P, P = cp L2 (k + 1) := ⟨_, rfl⟩
        obtain ⟨Y, hY⟩ : ∃ Q, Q = cq L2 (k + 1) := ⟨_, rfl⟩
        rw [← hX, ← hY] at hc1' hc2' HS
        clear hX hY
        by_cases hle : Y ≤ most
        · have HP' : Hid (bst L2 most (k + 1) = (X, Y)) := by rw [Hid, HS.out, if_pos hle]
          have Z := Lib.hid (p2_set (x' := X) (y' := Y) ⟨m1, m2⟩)
          have a1 := HO.out.set_below (p := ⟨G, 0, none⟩) (Nat.lt_succ_self _) (.int .i64 X)
          have O2' := Lib.hid (a1.set_below (p := ⟨G, 1, none⟩) (Nat.lt_succ_self _) (.int .i64 Y))
          have c1' := hbr.setCell (p := ⟨G, 0, none⟩) hG0 (.int .i64 X)
          have C2 := Lib.hid (c1'.setCell (p := ⟨G, 1, none⟩) hG0 (.int .i64 Y))
          have F2 : Hid (((wr.setCell ⟨G, 0, none⟩ (.int .i64 X)).setCell ⟨G, 1, none⟩ (.int .i64 Y)).frozen? ⟨G, 0, none⟩ = false ∧ ((wr.setCell ⟨G, 0, none⟩ (.int .i64 X)).setCell ⟨G, 1, none⟩ (.int .i64 Y)).frozen? ⟨G, 1, none⟩ = false ∧ G < ((wr.setCell ⟨G, 0, none⟩ (.int .i64 X)).setCell ⟨G, 1, none⟩ (.int .i64 Y)).heap.size) := by
            refine ⟨?_, ?_, ?_⟩
            · rw [World.frozen?_setCell, World.frozen?_setCell]; exact f1
            · rw [World.frozen?_setCell, World.frozen?_setCell]; exact f2
            · rw [World.size_setCell, World.size_setCell]; exact hsz
          clear a1 c1' hbr
          go_wp2
          go_roundw
          case rel => exact ⟨k + 1, X, Y, by omega, by go_num, HP'.out, O2'.out, Z.out, F2.out.1, F2.out.2.1, F2.out.2.2, C2.out⟩
          case measure => simp [intOf]; omega
        · have HP' : Hid (bst L2 most (k + 1) = (p, q)) := by rw [Hid, HS.out, if_neg hle]; exact HP.out
          have hle' : decide (Y ≤ most) = false := by simp; omega
          go_wp2
          go_roundw
          case rel => exact ⟨k + 1, p, q, by omega, by go_num, HP'.out, HO.out, ⟨m1, m2⟩, f1, f2, hsz, hbr⟩
          case measure => simp [intOf]; omega
      · obtain rfl : k = N := by omega
        obtain ⟨k1, k2⟩ := PB.out _ hbr
        have CB2 := CB.out wr
        rw [HP.out] at CB2
        have CB3 := Lib.hid CB2
        clear CB2 HO
        go_wp2_with fail
        refine CB3.out.mono ?_
        rintro e w9 ⟨rfl, hb⟩
        have m1' := (hb.cell (p := ⟨G, 0, none⟩) hsz).trans m1
        have m2' := (hb.cell (p := ⟨G, 1, none⟩) hsz).trans m2
        have hs9 := hb.size
        have T9 := hbr.trans (hb.mono hbr.size)
        clear hb hbr m1 m2 k1 k2 f1 f2
        go_wp2_with fail
        refine (c_Error_nil _ _).mono ?_
        rintro e w10 ⟨rfl, hb⟩
        obtain ⟨q1, q2, hb10, hs10⟩ := box2 hb
        have r1 := (hb10.cell (p := ⟨G, 0, none⟩) (by show G < w9.heap.size; omega)).trans m1'
        have r2 := (hb10.cell (p := ⟨G, 1, none⟩) (by show G < w9.heap.size; omega)).trans m2'
        have T10 := T9.trans (hb10.mono T9.size)
        clear hb hb10 m1' m2'
        go_wp2
        go_ret
        exact ⟨rfl, BW.out.trans (T10.mono BW.out.size)⟩
  · exact absurd HC.out hC
end
theorem frame_ContSays (a b : Int) (A : Option Addr) (n c : Nat) (L : List Int) (most : Int) (w : World) (_ : Fits a) (_ : Fits b)
    (hL : Rd w w.heap.size A n L) (hc : n ≤ c ∧ c ≤ 9223372036854775807) (_ : ∀ x ∈ L, Fits x) (_ : Fits most) (hg : Handle w) :
    Calls Tryd.prog 4 #[.agg #[.int .i64 a, .int .i64 b], .slice A n c, .int .i64 most] w fun e w' => e = .returned (.bool true) ∧ Below w.heap.size w w' := by
  by_cases h : FrOk a b
  · obtain ⟨x, rfl⟩ : ∃ x : Nat, a = x := ⟨a.toNat, by have := h; unfold FrOk at this; omega⟩
    obtain ⟨y, rfl⟩ : ∃ y : Nat, b = y := ⟨b.toNat, by have := h; unfold FrOk at this; omega⟩
    by_cases hm : 1 ≤ most ∧ most ≤ 1000000
    · exact csays_c A n c L most w x y hg hL hc h hm
    · exact csays_b A n c L most w x y hg hL hc h hm
  · exact csays_a A n c L most w a b hg hL hc h
end Go.Proofs.YtpfbbalhhldghaaDoor
