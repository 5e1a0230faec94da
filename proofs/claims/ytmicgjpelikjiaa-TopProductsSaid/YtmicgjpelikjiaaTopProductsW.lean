/- The walk of the statement TopProducts: the law returns true for all arguments. -/
import Derived.Test.YtmicgjpelikjiaaTopProdM
import Derived.Test.YtmicgjpelikjiaaNttFact
import Derived.Test.YtmicgjpelikjiaaKaraC
import Derived.Test.YtmicgjpelikjiaaTrimC
import Derived.Test.YtmicgjpelikjiaaApp
namespace Go.Proofs.Ytmicgjpelikjiaa
open Go.RowKit

theorem tp_e1 : Eight [1, 0, 0, 0, 0, 0, 0, 0] := ⟨rfl, by decide⟩
theorem tp_e5 : Eight [5, 0, 0, 0, 0, 0, 0, 0] := ⟨rfl, by decide⟩
theorem tp_f : foldL [1, 0, 0, 0, 0, 0, 0, 0] [5, 0, 0, 0, 0, 0, 0, 0] = [5, 0, 0, 0, 0, 0, 0, 0] := by decide +kernel
theorem below_two' (w : World) (o o' : Obj) : Below w.heap.size w ((w.alloc o).alloc o') := ((Below.refl _ w).alloc (Nat.le_refl _) o).alloc (by simp) o'
section
variable (A A' : Option Addr) (n n' c c' : Nat) (L M : List Int) (w : World)
/-- The law's first step: a closed product. -/
theorem tp_start (w : World) : Rd ((w.alloc (.cells #[.int .i64 1, .int .i64 0, .int .i64 0, .int .i64 0, .int .i64 0, .int .i64 0, .int .i64 0, .int .i64 0] 3)).alloc (.cells #[.int .i64 5, .int .i64 0, .int .i64 0, .int .i64 0, .int .i64 0, .int .i64 0, .int .i64 0, .int .i64 0] 3)) (w.heap.size + 2) (some ⟨w.heap.size, 0, none⟩) 8 [1, 0, 0, 0, 0, 0, 0, 0] ∧
    Rd ((w.alloc (.cells #[.int .i64 1, .int .i64 0, .int .i64 0, .int .i64 0, .int .i64 0, .int .i64 0, .int .i64 0, .int .i64 0] 3)).alloc (.cells #[.int .i64 5, .int .i64 0, .int .i64 0, .int .i64 0, .int .i64 0, .int .i64 0, .int .i64 0, .int .i64 0] 3)) (w.heap.size + 2) (some ⟨w.heap.size + 1, 0, none⟩) 8 [5, 0, 0, 0, 0, 0, 0, 0] := by
  refine ⟨((rd_eight w 1 0 0 0 0 0 0 0).alloc (by simp) _).more (by omega), ?_⟩
  have := rd_eight (w.alloc (.cells #[.int .i64 1, .int .i64 0, .int .i64 0, .int .i64 0, .int .i64 0, .int .i64 0, .int .i64 0, .int .i64 0] 3)) 5 0 0 0 0 0 0 0
  simpa using this
set_option maxHeartbeats 1000000 in
set_option maxRecDepth 100000 in
theorem tp_out (hL : Rd w w.heap.size A n L) (hM : Rd w w.heap.size A' n' M) (hn : n ≤ 9223372036854775807) (hn' : n' ≤ 9223372036854775807)
    (h : n ≠ 4 ∨ (n = 4 ∧ n' ≠ 4) ∨ (n = 4 ∧ n' = 4 ∧ allB L 0 7 = false) ∨ (n = 4 ∧ n' = 4 ∧ allB L 0 7 = true ∧ allB M 0 7 = false)) :
    Calls Try.prog 8 #[.slice A n c, .slice A' n' c'] w fun e w' => e = .returned (.bool true) ∧ Below w.heap.size w w' := by
  have TS := Lib.hid (tp_start w)
  have T0 := Lib.hid (below_two' w (.cells #[.int .i64 1, .int .i64 0, .int .i64 0, .int .i64 0, .int .i64 0, .int .i64 0, .int .i64 0, .int .i64 0] 3) (.cells #[.int .i64 5, .int .i64 0, .int .i64 0, .int .i64 0, .int .i64 0, .int .i64 0, .int .i64 0, .int .i64 0] 3))
  have HL := Lib.hid hL
  have HM := Lib.hid hM
  clear hL hM
  go_enter Try.func8, Try.ntmps8
  go_wp2_with fail
  refine (c_NFold_ok _ _ _ _ _ _ _ _ _ _ _ TS.out.1 TS.out.2 (by simp) (by simp) tp_e1 tp_e5).mono ?_
  rintro e w1 ⟨g, rfl, o, hb⟩
  rw [tp_f] at o
  have x0 := o.cell (j := 0) (by omega)
  have x0' : w1.cell? ⟨g, 0, none⟩ = some (.int .i64 5) := x0
  have T1 := Lib.hid (T0.out.trans (hb.mono T0.out.size))
  clear x0 o hb TS
  rcases h with h | ⟨h, h'⟩ | ⟨h, h', h2⟩ | ⟨h, h', h2, h3⟩
  · have t1 : ((n : Int) != 4) = true := by simp; omega
    clear h
    go_wp2
    go_ret
    exact ⟨rfl, T1.out⟩
  · subst h
    have t1 : ((n' : Int) != 4) = true := by simp; omega
    clear h'
    go_wp2
    go_ret
    exact ⟨rfl, T1.out⟩
  · subst h; subst h'
    go_wp2_with fail
    refine (c_All _ _ _ L 0 7 _ _ (HL.out.below T1.out) hn).mono ?_
    rintro e w' ⟨rfl, rfl⟩
    rw [h2]
    go_wp2
    go_ret
    exact ⟨rfl, T1.out⟩
  · subst h; subst h'
    go_wp2_with fail
    refine (c_All _ _ _ L 0 7 _ _ (HL.out.below T1.out) hn).mono ?_
    rintro e w' ⟨rfl, rfl⟩
    rw [h2]
    go_wp2_with fail
    refine (c_All _ _ _ M 0 7 _ _ (HM.out.below T1.out) hn').mono ?_
    rintro e w' ⟨rfl, rfl⟩
    rw [h3]
    go_wp2
    go_ret
    exact ⟨rfl, T1.out⟩
set_option maxHeartbeats 4000000 in
set_option maxRecDepth 100000 in
theorem tp_in (hL : Rd w w.heap.size A 4 L) (hM : Rd w w.heap.size A' 4 M) (hc : 4 ≤ c) (hc' : 4 ≤ c') (aL : allB L 0 7 = true) (aM : allB M 0 7 = true) :
    Calls Try.prog 8 #[.slice A 4 c, .slice A' 4 c'] w fun e w' => e = .returned (.bool true) ∧ Below w.heap.size w w' := by
  have TS := Lib.hid (tp_start w)
  have T0 := Lib.hid (below_two' w (.cells #[.int .i64 1, .int .i64 0, .int .i64 0, .int .i64 0, .int .i64 0, .int .i64 0, .int .i64 0, .int .i64 0] 3) (.cells #[.int .i64 5, .int .i64 0, .int .i64 0, .int .i64 0, .int .i64 0, .int .i64 0, .int .i64 0, .int .i64 0] 3))
  have bL : ∀ x ∈ L, 0 ≤ x ∧ x ≤ 7 := anyB_false (by have := aL; rw [allB_not] at this; simpa using this)
  have bM : ∀ x ∈ M, 0 ≤ x ∧ x ≤ 7 := anyB_false (by have := aM; rw [allB_not] at this; simpa using this)
  have TP := tp_all hL.1 hM.1 bL bM
  have FZ := Lib.hid TP.1
  have E1 := Lib.hid TP.2.2.1
  have E2 := Lib.hid TP.2.2.2
  have PM := Lib.hid (tp_mul hL.1 hM.1 TP.2.1)
  have KK : Hid (KOk L M) := ⟨by rw [hL.1]; exact .inr (.inr (.inl rfl)), by rw [hL.1, hM.1], fun x hx => by have := bL x hx; omega, fun x hx => by have := bM x hx; omega⟩
  have P1 : Hid (POk L) := ⟨by rw [hL.1]; omega, pl_of fun x hx => by have := bL x hx; omega⟩
  have P2 : Hid (POk M) := ⟨by rw [hM.1]; omega, pl_of fun x hx => by have := bM x hx; omega⟩
  have CL : Hid ((convL 4 L M).length = 7) := convL_len 4 L M
  have HL := Lib.hid hL
  have HM := Lib.hid hM
  clear hL hM TP bL bM
  go_enter Try.func8, Try.ntmps8
  go_wp2_with fail
  refine (c_NFold_ok _ _ _ _ _ _ _ _ _ _ _ TS.out.1 TS.out.2 (by simp) (by simp) tp_e1 tp_e5).mono ?_
  rintro e w1 ⟨g, rfl, o, hb⟩
  rw [tp_f] at o
  have x0 := o.cell (j := 0) (by omega)
  have x0' : w1.cell? ⟨g, 0, none⟩ = some (.int .i64 5) := x0
  have T := T0.out.trans (hb.mono T0.out.size)
  clear x0 o hb TS T0
  go_wp2_with fail
  refine (c_All _ _ _ L 0 7 _ _ (HL.out.below T) (by omega)).mono ?_
  rintro e w' ⟨rfl, rfl⟩
  rw [aL]
  go_wp2_with fail
  refine (c_All _ _ _ M 0 7 _ _ (HM.out.below T) (by omega)).mono ?_
  rintro e w' ⟨rfl, rfl⟩
  rw [aM]
  clear x0' aL aM
  go_wp2_with fail
  refine (c_KMul_ok _ _ _ _ _ _ L M _ _ _ (HL.out.below T) (HM.out.below T) T.size T.size hc hc' KK.out).mono ?_
  rintro e w2 ⟨gx, rfl, o, hb⟩
  have OX := Lib.hid o
  replace T := T.trans (hb.mono T.size)
  clear o hb
  go_wp2_with fail
  refine (c_PMul_ok _ _ _ _ _ _ L M _ ((HL.out.below T).more T.size) ((HM.out.below T).more T.size) P1.out P2.out).mono ?_
  rintro e w3 ⟨A3, c3, rfl, o, hb⟩
  have OY := Lib.hid o
  replace OX := Lib.hid (OX.out.keep hb)
  replace T := T.trans (hb.mono T.size)
  clear o hb
  obtain ⟨b1, f1, rfl, hb1, k1⟩ := HL.out.at' (k := 0) (by omega)
  obtain ⟨b2, f2, rfl, hb2, k2⟩ := HM.out.at' (k := 0) (by omega)
  clear k1 k2
  have R1 := Lib.hid ((HL.out.below T).more T.size)
  have ON := Lib.hid (Own.nil w3 w3.heap.size)
  have s03 := T.size
  go_wp2_with (at_builtin; refine wp_append_list rfl (.tmp 66) (.tmp 67) rfl w3.heap.size rfl rfl ON.out R1.out (by omega) (by omega) (Nat.le_refl _) ?_)
  intro A4 c4 w4 o4 hb4
  have OC := Lib.hid o4
  obtain ⟨gc, rfl, gc1, gc2⟩ := OC.out.form (by omega)
  have s34 := hb4.size
  have T4 := Lib.hid (T.trans (hb4.mono T.size))
  have R2 := Lib.hid ((HM.out.below T4.out).more T4.out.size)
  clear o4 R1 ON
  have ON := Lib.hid (Own.nil w4 w4.heap.size)
  go_wp2_with (at_builtin; refine wp_append_list rfl (.tmp 69) (.tmp 70) rfl w4.heap.size rfl rfl ON.out R2.out (by omega) (by omega) (Nat.le_refl _) ?_)
  intro A5 c5 w5 o5 hb5
  have OD := Lib.hid o5
  have OC5 := Lib.hid (OC.out.keep hb5)
  obtain ⟨gd, rfl, gd1, gd2⟩ := OD.out.form (by omega)
  have s45 := hb5.size
  have B5 := hb4.trans (hb5.mono hb4.size)
  clear o5 hb5 hb4 R2 ON OC T4
  have z4 : ∀ (W : World) (j : Nat), j < 4 → (W.alloc (.cells #[.int .i64 0, .int .i64 0, .int .i64 0, .int .i64 0] 3)).cell? ⟨W.heap.size, 0 + j, none⟩ = some (.int .i64 (nth [0, 0, 0, 0] j)) := fun W j hj => by
    match j, hj with
    | 0, _ => simp [nth]
    | 1, _ => simp [nth]
    | 2, _ => simp [nth]
    | 3, _ => simp [nth]
  have Z4 := Lib.hid z4
  have OC1 := Lib.hid (OC5.out.alloc (.cells #[.int .i64 0, .int .i64 0, .int .i64 0, .int .i64 0] 3))
  have OD1 := Lib.hid (OD.out.alloc (.cells #[.int .i64 0, .int .i64 0, .int .i64 0, .int .i64 0] 3))
  have B5a := Lib.hid (B5.alloc B5.size (.cells #[.int .i64 0, .int .i64 0, .int .i64 0, .int .i64 0] 3))
  have zc := Lib.hid (Z4.out w5)
  have sz5 : (w5.alloc (.cells #[.int .i64 0, .int .i64 0, .int .i64 0, .int .i64 0] 3)).heap.size = w5.heap.size + 1 := by simp
  have SZ5 := Lib.hid sz5
  clear z4 OC5 OD B5 sz5
  go_wp2_with (at_builtin; refine wpl_append2 rfl (.tmp 73) (.tmp 74) rfl w3.heap.size rfl rfl OC1.out rfl zc.out (by omega) (by omega) (by rw [SZ5.out]; omega) ?_)
  intro gc' c6 w6 o6 hg6 hne6
  have OC6 := Lib.hid o6
  have OD6 := Lib.hid (own_grown OD1.out hg6 (show gd ≠ gc by omega))
  have B6 := B5a.out.trans (below_grown hg6 (B := w3.heap.size) (by rw [SZ5.out]; omega) gc1)
  have s56 := hg6.size
  rw [SZ5.out] at s56
  have OC2 := Lib.hid (OC6.out.alloc (.cells #[.int .i64 0, .int .i64 0, .int .i64 0, .int .i64 0] 3))
  have OD2 := Lib.hid (OD6.out.alloc (.cells #[.int .i64 0, .int .i64 0, .int .i64 0, .int .i64 0] 3))
  have B6a := Lib.hid (B6.alloc B6.size (.cells #[.int .i64 0, .int .i64 0, .int .i64 0, .int .i64 0] 3))
  have zd := Lib.hid (Z4.out w6)
  have SZ6 : Hid ((w6.alloc (.cells #[.int .i64 0, .int .i64 0, .int .i64 0, .int .i64 0] 3)).heap.size = w6.heap.size + 1) := by rw [Hid]; simp
  have HG6 := Lib.hid hg6
  clear o6 hg6 OC1 OD1 B5a zc OC6 OD6 B6
  go_wp2_with (at_builtin; refine wpl_append2 rfl (.tmp 76) (.tmp 77) rfl w4.heap.size rfl rfl OD2.out rfl zd.out (by omega) (by omega) (by rw [SZ6.out]; omega) ?_)
  intro gd' c7 w7 o7 hg7 hne7
  have OD7 := Lib.hid o7
  have OC7 := Lib.hid (own_grown OC2.out hg7 (show gc' ≠ gd by omega))
  have B7 := B6a.out.trans (below_grown hg7 (B := w3.heap.size) (by rw [SZ6.out]; omega) (by omega))
  have OX7 := Lib.hid (OX.out.keep B7)
  have OY7 := Lib.hid (OY.out.keep B7)
  have T7 := T.trans (B7.mono T.size)
  clear o7 hg7 OC2 OD2 B6a zd HG6 OX OY B7 T hne6 hne7
  go_wp2_with fail
  refine (c_NFold_ok _ _ _ _ _ _ (L ++ [0, 0, 0, 0]) (M ++ [0, 0, 0, 0]) _ _ _ OC7.out.rd OD7.out.rd (Nat.le_refl _) (Nat.le_refl _) E1.out E2.out).mono ?_
  rintro e w8 ⟨gz, rfl, o, hb⟩
  rw [FZ.out] at o
  have OZ8 := Lib.hid o
  have OX8 := Lib.hid (OX7.out.keep hb)
  have OY8 := Lib.hid (OY7.out.keep hb)
  have T8 := T7.trans (hb.mono T7.size)
  clear o hb OC7 OD7 OX7 OY7 T7
  obtain ⟨lp, hlp⟩ : ∃ l, l = (pmul L M).length := ⟨_, rfl⟩
  rw [← hlp] at OY8 ⊢
  have HLP := Lib.hid hlp
  clear hlp
  go_wp2_with fail
  refine (c_RTrim _ _ _ _ _ _ OX8.out.rd (by omega)).mono ?_
  rintro e w' ⟨rfl, rfl⟩
  have RX := Lib.hid (rd_trm OX8.out.rd)
  have TL : Hid ((trm (convL 4 L M)).length ≤ 7) := by have := trm_le (convL 4 L M); rw [CL.out] at this; exact this
  go_wp2_with fail
  refine (c_sameP _ _ _ _ _ _ _ _ _ _ _ PM.out RX.out OY8.out.rd (by have := TL.out; omega)).mono ?_
  rintro e w9 ⟨rfl, hb⟩
  have OX9 := Lib.hid (OX8.out.keep hb)
  have OZ9 := Lib.hid (OZ8.out.keep hb)
  have T9 := T8.trans (hb.mono T8.size)
  clear hb OX8 OY8 OZ8 RX T8
  have RZ : Hid (Rd w9 w9.heap.size (some ⟨gz, 0, none⟩) 7 (convL 4 L M)) := by
    have h := rd_take OZ9.out.rd 7 (by omega)
    have e : (convL 4 L M ++ [0]).take 7 = convL 4 L M := by rw [← CL.out]; exact List.take_left
    rw [e] at h
    exact h
  go_wp2_with fail
  refine (c_sameP _ _ _ _ _ _ _ _ _ _ _ rfl RZ.out OX9.out.rd (by omega)).mono ?_
  rintro e w10 ⟨rfl, hb⟩
  have OZ10 := Lib.hid (OZ9.out.keep hb)
  have T10 := T9.trans (hb.mono T9.size)
  have z7 := OZ10.out.cell (j := 7) (by omega)
  have e7 : nth (convL 4 L M ++ [0]) 7 = 0 := by
    unfold nth
    rw [List.getD, List.getElem?_append_right (by rw [CL.out]; omega), CL.out]
    rfl
  rw [e7] at z7
  clear hb OX9 OZ9 RZ T9 e7
  go_wp2
  go_ret
  exact ⟨rfl, T10⟩
end
theorem frame_TopProducts (A : Option Addr) (n c : Nat) (L : List Int) (A' : Option Addr) (n' c' : Nat) (M : List Int) (w : World)
    (hL : Rd w w.heap.size A n L) (hc : n ≤ c ∧ c ≤ 9223372036854775807) (_ : ∀ x ∈ L, Fits x) (hM : Rd w w.heap.size A' n' M) (hc' : n' ≤ c' ∧ c' ≤ 9223372036854775807) (_ : ∀ x ∈ M, Fits x) :
    Calls Try.prog 8 #[.slice A n c, .slice A' n' c'] w fun e w' => e = .returned (.bool true) ∧ Below w.heap.size w w' := by
  by_cases h1 : n = 4
  · by_cases h2 : n' = 4
    · cases h3 : allB L 0 7
      · exact tp_out A A' n n' c c' L M w hL hM (by omega) (by omega) (.inr (.inr (.inl ⟨h1, h2, h3⟩)))
      · cases h4 : allB M 0 7
        · exact tp_out A A' n n' c c' L M w hL hM (by omega) (by omega) (.inr (.inr (.inr ⟨h1, h2, h3, h4⟩)))
        · subst h1; subst h2
          exact tp_in A A' c c' L M w hL hM hc.1 hc'.1 h3 h4
    · exact tp_out A A' n n' c c' L M w hL hM (by omega) (by omega) (.inr (.inl ⟨h1, h2⟩))
  · exact tp_out A A' n n' c c' L M w hL hM (by omega) (by omega) (.inl h1)
end Go.Proofs.Ytmicgjpelikjiaa
