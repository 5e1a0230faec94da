/- The walk of the statement CrtOrder: the law returns true for all arguments. -/
import Derived.Test.YtpamlngkhjnboaaCrt
import Derived.Test.YtpamlngkhjnboaaCrtR
import Derived.Test.YtpamlngkhjnboaaTurned
import Derived.Test.YtpamlngkhjnboaaApp
import Derived.Deep.RegionLaw
namespace Go.Proofs.Ytpamlngkhjnboaa
open Go.RowKit

theorem trn_rev (L : List Int) (n : Nat) (h : L.length = n) : trn L n n = L.reverse := by
  subst h
  refine list_ext (by rw [trn_len, List.length_reverse]) fun k hk => ?_
  rw [trn_len] at hk
  rw [nth_reverse L k hk]
  unfold trn
  rw [mk_nth' _ hk]
theorem nth_app (L : List Int) (x : Int) {k : Nat} (h : k < L.length) : nth (L ++ [x]) k = nth L k := by
  unfold nth
  simp [List.getD, List.getElem?_append_left h]
theorem nth_app_end (L : List Int) (x : Int) : nth (L ++ [x]) L.length = x := by
  unfold nth
  simp [List.getD]
section
variable {r m : List Int}
theorem ok_more (h : CrtOk r m) (h0 : 0 < m.length) (h5 : m.length < 5) : CrtOk (r ++ [nth r 0]) (m ++ [nth m 0]) := by
  obtain ⟨h1, h2, h3⟩ := h
  refine ⟨by simp; omega, by simp [h2], fun k hk => ?_⟩
  simp at hk
  by_cases e : k = m.length
  · subst e
    rw [nth_app_end]
    conv => arg 2; arg 2; rw [← h2, nth_app_end]
    exact h3 0 h0
  · rw [nth_app m _ (by omega), nth_app r _ (by omega)]
    exact h3 k (by omega)
theorem sol_more (h2 : r.length = m.length) (h0 : 0 < m.length) (y : Int) : Sol (r ++ [nth r 0]) (m ++ [nth m 0]) (m.length + 1) y ↔ Sol r m m.length y := by
  unfold Sol
  constructor
  · intro H i hi
    have := H i (by omega)
    rw [nth_app m _ hi, nth_app r _ (by omega)] at this
    exact this
  · intro H i hi
    by_cases e : i = m.length
    · subst e
      rw [nth_app_end]
      conv => rhs; rw [← h2, nth_app_end]
      exact H 0 h0
    · rw [nth_app m _ (by omega), nth_app r _ (by omega)]
      exact H i (by omega)
theorem stp_congr {a b : List Int} : ∀ k, (∀ i, i < k → nth a i = nth b i) → stp a k = stp b k := by
  intro k
  induction k with
  | zero => intro _; rfl
  | succ k ih =>
    intro h
    show Nat.lcm (stp a k) (nth a k).toNat = Nat.lcm (stp b k) (nth b k).toNat
    rw [ih fun i hi => h i (by omega), h k (by omega)]
theorem stp_more (h0 : 0 < m.length) : stp (m ++ [nth m 0]) (m.length + 1) = stp m m.length := by
  show Nat.lcm (stp (m ++ [nth m 0]) m.length) (nth (m ++ [nth m 0]) m.length).toNat = _
  rw [stp_congr (b := m) m.length fun i hi => nth_app m _ hi, nth_app_end]
  exact Nat.dvd_antisymm (Nat.lcm_dvd (Nat.dvd_refl _) (dvd_stp m h0)) (Nat.dvd_lcm_left _ _)
end
/-- A row that is the call's own, behind a new block and a draw. -/
theorem own_dr {w : World} {base n c : Nat} {A : Option Addr} {L : List Int} (h : Own w base A n c L) (z : Int) : Own (w.alloc (.cells #[.int .i64 z] 3)).drew base A n c L := (h.alloc _).drew
theorem cell_al (w : World) (z : Int) : ∀ j, j < 1 → (w.alloc (.cells #[.int .i64 z] 3)).cell? ⟨w.heap.size, 0 + j, none⟩ = some (.int .i64 (nth [z] j)) := fun j hj => by
  obtain rfl : j = 0 := by omega
  simp [nth]
theorem cell_two1 (w : World) (z y : Int) : ∀ j, j < 1 → ((w.alloc (.cells #[.int .i64 z] 3)).alloc (.cells #[.int .i64 y] 3)).drew.cell? ⟨w.heap.size, 0 + j, none⟩ = some (.int .i64 (nth [z] j)) := fun j hj => by
  obtain rfl : j = 0 := by omega
  show ((w.alloc _).alloc _).cell? _ = _
  rw [World.cell?_alloc_lt _ _ _ (by simp)]
  simp [nth]
theorem cell_two2 (w : World) (z y : Int) : ∀ j, j < 1 → ((w.alloc (.cells #[.int .i64 z] 3)).alloc (.cells #[.int .i64 y] 3)).drew.cell? ⟨w.heap.size + 1, 0 + j, none⟩ = some (.int .i64 (nth [y] j)) := fun j hj => by
  obtain rfl : j = 0 := by omega
  have := cell_al (w.alloc (.cells #[.int .i64 z] 3)) y 0 (by omega)
  simpa using this
theorem cell_dr (w : World) (z : Int) : ∀ j, j < 1 → (w.alloc (.cells #[.int .i64 z] 3)).drew.cell? ⟨w.heap.size, 0 + j, none⟩ = some (.int .i64 (nth [z] j)) := fun j hj => by
  obtain rfl : j = 0 := by omega
  simp [nth]
section
variable (Ar Am : Option Addr) (nr nm cr cm : Nat) (r m : List Int) (w : World)
theorem order_bad (hr : Rd w w.heap.size Ar nr r) (hm : Rd w w.heap.size Am nm m) (h : ¬ CrtOk r m) :
    Calls Try.prog 6 #[.slice Ar nr cr, .slice Am nm cm] w fun e w' => e = .returned (.bool true) ∧ Below w.heap.size w w' := by
  have H := Lib.hid h
  clear h
  go_enter Try.func6, Try.ntmps6
  go_wp2_with fail
  refine (c_crtFact _).mono ?_
  rintro e w1 ⟨rfl, hb1⟩
  go_wp2_with fail
  refine (crt_solve_bad _ _ _ _ _ _ r m _ _ (hr.below hb1) (hm.below hb1) H.out).mono ?_
  rintro e w2 ⟨rfl, rfl⟩
  go_wp2
  go_ret
  exact ⟨rfl, hb1⟩
set_option maxHeartbeats 4000000 in
set_option maxRecDepth 100000 in
theorem order_ok (hr : Rd w w.heap.size Ar nr r) (hm : Rd w w.heap.size Am nr m) (h : CrtOk r m) :
    Calls Try.prog 6 #[.slice Ar nr cr, .slice Am nr cm] w fun e w' => e = .returned (.bool true) ∧ Below w.heap.size w w' := by
  have hlm := Lib.hid hm.1
  have hlr := Lib.hid hr.1
  have hn : nr ≤ 5 := by rw [← hlm.out]; exact h.1
  have H := Lib.hid h
  have HT : Hid (CrtOk (trn r nr nr) (trn m nr nr)) := by
    rw [Hid, trn_rev r nr hlr.out, trn_rev m nr hlm.out]; exact crtOk_reverse h
  have ST : Hid (∀ y, Sol (trn r nr nr) (trn m nr nr) nr y ↔ Sol r m nr y) := fun y => by
    rw [trn_rev r nr hlr.out, trn_rev m nr hlm.out, ← hlm.out]
    exact sol_reverse r m h.2.1 y
  have EP : Hid (stp (trn m nr nr) nr = stp m nr) := by
    rw [Hid, trn_rev m nr hlm.out, ← hlm.out]
    exact stp_reverse m
  have UQ : Hid (∀ y z, Sol r m nr y → Sol r m nr z → z % (stp m nr : Int) = y % (stp m nr : Int)) := fun y z hy hz => (sol_iff h nr (by rw [hlm.out]; omega) y hy z).1 hz
  have HR := Lib.hid hr
  have HM := Lib.hid hm
  clear h hr hm
  go_enter Try.func6, Try.ntmps6
  go_wp2_with fail
  refine (c_crtFact _).mono ?_
  rintro e w1 ⟨rfl, hb1⟩
  go_wp2_with fail
  refine (crt_solve_any _ _ _ _ _ r m _ _ (HR.out.below hb1) (HM.out.below hb1) H.out).mono ?_
  rintro e w2 ⟨⟨y, hy, rfl⟩ | ⟨hno, rfl⟩, q, rfl⟩
  · have HY := Lib.hid hy
    have T := below_drewN hb1 q
    obtain ⟨w2, hw2⟩ : ∃ w2, w2 = w1.drewN q := ⟨_, rfl⟩
    rw [← hw2] at T ⊢
    obtain ⟨S, hS⟩ : ∃ S, S = stp m nr := ⟨_, rfl⟩
    rw [← hS] at UQ EP ⊢
    obtain ⟨x, hx⟩ : ∃ x, x = y % (S : Int) := ⟨_, rfl⟩
    have UX : Hid (∀ z, Sol r m nr z → z % (S : Int) = x) := fun z hz => by rw [hx]; exact UQ.out y z HY.out hz
    rw [← hx]
    have HS := Lib.hid hS
    clear hy hw2 hx hS UQ
    go_wp2_with fail
    refine (c_Turned _ _ _ r _ _ (HR.out.below T) T.size (by omega)).mono ?_
    rintro e w3 ⟨A3, c3, rfl, o, hb⟩
    have O3 := Lib.hid o
    have T3 := T.trans (hb.mono T.size)
    clear o hb
    go_wp2_with fail
    refine (c_Turned _ _ _ m _ _ (HM.out.below T3) T3.size (by omega)).mono ?_
    rintro e w4 ⟨A4, c4, rfl, o, hb⟩
    have O4 := Lib.hid o
    have O34 := Lib.hid (O3.out.keep hb)
    have T4 := T3.trans (hb.mono T3.size)
    clear o hb O3 T3 T
    go_wp2_with fail
    refine (crt_solve_any _ _ _ _ _ (trn r nr nr) (trn m nr nr) _ _ O34.out.rd O4.out.rd HT.out).mono ?_
    rintro e w5 ⟨⟨y2, hy2, rfl⟩ | ⟨hno, rfl⟩, q2, rfl⟩
    · have T5 := below_drewN T4 q2
      have E2 : y2 % (stp (trn m nr nr) nr : Int) = x := by rw [EP.out]; exact UX.out y2 ((ST.out y2).1 hy2)
      rw [E2, EP.out]
      obtain ⟨w5, hw5⟩ : ∃ w5, w5 = w4.drewN q2 := ⟨_, rfl⟩
      rw [← hw5] at T5 ⊢
      clear hw5 E2 hy2 O34 O4 T4
      by_cases h0 : nr = 0
      · have t0 : ((nr : Int) == 0) = true := by simp [h0]
        clear h0
        go_wp2
        go_ret
        exact ⟨rfl, T5⟩
      · have t0 : ((nr : Int) == 0) = false := by simp; omega
        by_cases h5 : nr = 5
        · have t5 : ((nr : Int) == 5) = true := by simp [h5]
          clear h5 h0
          go_wp2
          go_ret
          exact ⟨rfl, T5⟩
        · have t5 : ((nr : Int) == 5) = false := by simp; omega
          obtain ⟨b1, f1, rfl, hb1', k1⟩ := HR.out.at' (k := 0) (by omega)
          obtain ⟨b2, f2, rfl, hb2', k2⟩ := HM.out.at' (k := 0) (by omega)
          have OK2 : Hid (CrtOk (r ++ [nth r 0]) (m ++ [nth m 0])) := ok_more H.out (by rw [hlm.out]; omega) (by rw [hlm.out]; omega)
          have SM : Hid (∀ y, Sol (r ++ [nth r 0]) (m ++ [nth m 0]) (nr + 1) y ↔ Sol r m nr y) := fun y => by
            rw [← hlm.out]; exact sol_more H.out.2.1 (by rw [hlm.out]; omega) y
          have PM : Hid (stp (m ++ [nth m 0]) (nr + 1) = S) := by
            rw [Hid, HS.out, ← hlm.out]; exact stp_more (by rw [hlm.out]; omega)
          have k1' : w5.cell? ⟨b1, f1 + 0, none⟩ = some (.int .i64 (nth r 0)) := (T5.cell (p := ⟨b1, f1 + 0, none⟩) hb1').trans k1
          have k2' : w5.cell? ⟨b2, f2 + 0, none⟩ = some (.int .i64 (nth m 0)) := (T5.cell (p := ⟨b2, f2 + 0, none⟩) hb2').trans k2
          obtain ⟨r0, hr0⟩ : ∃ z, z = nth r 0 := ⟨_, rfl⟩
          obtain ⟨m0, hm0⟩ : ∃ z, z = nth m 0 := ⟨_, rfl⟩
          rw [← hr0] at k1' OK2 SM
          rw [← hm0] at k2' OK2 SM PM
          clear hr0 hm0 k1 k2
          have R1 := Lib.hid ((HR.out.below T5).more T5.size)
          have ON := Lib.hid (Own.nil w5 w5.heap.size)
          go_wp2_with (at_builtin; refine wp_append_list rfl (.tmp 74) (.tmp 75) rfl w5.heap.size rfl rfl ON.out R1.out (by omega) (by omega) (Nat.le_refl _) ?_)
          intro A6 c6 w6 o6 hb6
          have OC := Lib.hid o6
          obtain ⟨gc, rfl, gc1, gc2⟩ := OC.out.form (by omega)
          have T6 := Lib.hid (T5.trans (hb6.mono T5.size))
          have R2 := Lib.hid ((HM.out.below T6.out).more T6.out.size)
          clear o6 R1 ON
          have ON := Lib.hid (Own.nil w6 w6.heap.size)
          go_wp2_with (at_builtin; refine wp_append_list rfl (.tmp 77) (.tmp 78) rfl w6.heap.size rfl rfl ON.out R2.out (by omega) (by omega) (Nat.le_refl _) ?_)
          intro A7 c7 w7 o7 hb7
          have OD := Lib.hid o7
          have OC7 := Lib.hid (OC.out.keep hb7)
          obtain ⟨gd, rfl, gd1, gd2⟩ := OD.out.form (by omega)
          have B7 := hb6.trans (hb7.mono hb6.size)
          have j1 : w7.cell? ⟨b1, f1 + 0, none⟩ = some (.int .i64 r0) := (B7.cell (p := ⟨b1, f1 + 0, none⟩) (by show b1 < w5.heap.size; have := T5.size; omega)).trans k1'
          have j2 : w7.cell? ⟨b2, f2 + 0, none⟩ = some (.int .i64 m0) := (B7.cell (p := ⟨b2, f2 + 0, none⟩) (by show b2 < w5.heap.size; have := T5.size; omega)).trans k2'
          rw [Nat.add_zero] at j1 j2
          clear o7 hb7 hb6 R2 ON OC T6 k1' k2'
          have hpos : 0 < nr := by omega
          have hcd : gc ≠ gd := by omega
          have hs05 := T5.size
          have hb1c : b1 ≠ gc ∧ b1 ≠ gd := by omega
          have hb2c : b2 ≠ gc ∧ b2 ≠ gd := by omega
          have HSZ : Hid (w5.heap.size ≤ w7.heap.size ∧ w6.heap.size ≤ w7.heap.size ∧ w.heap.size ≤ w5.heap.size ∧ w5.heap.size ≤ w6.heap.size) := ⟨B7.size, by omega, hs05, by omega⟩
          have HB7 := Lib.hid B7
          have HT5 := Lib.hid T5
          have ocr := Lib.hid (own_dr OC7.out r0)
          have odr := Lib.hid (own_dr OD.out r0)
          have ocm := Lib.hid (own_dr OC7.out m0)
          have odm := Lib.hid (own_dr OD.out m0)
          have zr := Lib.hid (cell_dr w7 r0)
          have zm := Lib.hid (cell_dr w7 m0)
          have J1 := Lib.hid j1
          have J2 := Lib.hid j2
          have CS : Hid (∀ (W : World) (g1 c1 g2 c2 B1 B2 : Nat), Own W B1 (some ⟨g1, 0, none⟩) (nr + 1) c1 (r ++ [r0]) → Own W B2 (some ⟨g2, 0, none⟩) (nr + 1) c2 (m ++ [m0]) → Calls Try.prog 11 #[.slice (some ⟨g1, 0, none⟩) (nr + 1) c1, .slice (some ⟨g2, 0, none⟩) (nr + 1) c2] W fun e w' => e = .returned (.tuple #[.int .i64 x, .int .i64 (S : Int), .nilIface]) ∧ Below W.heap.size W w') := fun W g1 c1 g2 c2 B1 B2 o1 o2 => by
            refine (crt_solve_any _ _ _ _ _ (r ++ [r0]) (m ++ [m0]) _ W o1.rd o2.rd OK2.out).mono ?_
            rintro e w' ⟨⟨z, hz, rfl⟩ | ⟨hn, rfl⟩, q, rfl⟩
            · rw [PM.out, UX.out z ((SM.out z).1 hz)]
              exact ⟨rfl, below_drewN (Below.refl _ _) q⟩
            · exact absurd ((SM.out y).2 HY.out) (hn y)
          have j3 : (w7.alloc (.cells #[.int .i64 r0] 3)).cell? ⟨b2, f2, none⟩ = some (.int .i64 m0) := (World.cell?_alloc_lt _ _ ⟨b2, f2, none⟩ (by have := HSZ.out; show b2 < w7.heap.size; omega)).trans J2.out
          have j4 : (w7.alloc (.cells #[.int .i64 m0] 3)).cell? ⟨b1, f1, none⟩ = some (.int .i64 r0) := (World.cell?_alloc_lt _ _ ⟨b1, f1, none⟩ (by have := HSZ.out; show b1 < w7.heap.size; omega)).trans J1.out
          have ocr0 := Lib.hid OC7.out
          have odr0 := Lib.hid OD.out
          have j3d : Hid ((w7.alloc (.cells #[.int .i64 r0] 3)).drew.cell? ⟨b2, f2, none⟩ = some (.int .i64 m0)) := j3
          have ocr2 : Hid (Own ((w7.alloc (.cells #[.int .i64 r0] 3)).alloc (.cells #[.int .i64 m0] 3)).drew w5.heap.size (some ⟨gc, 0, none⟩) nr c6 r) := (ocr0.out.alloc (.cells #[.int .i64 r0] 3)).alloc (.cells #[.int .i64 m0] 3)
          have odr2 : Hid (Own ((w7.alloc (.cells #[.int .i64 r0] 3)).alloc (.cells #[.int .i64 m0] 3)).drew w6.heap.size (some ⟨gd, 0, none⟩) nr c7 m) := (odr0.out.alloc (.cells #[.int .i64 r0] 3)).alloc (.cells #[.int .i64 m0] 3)
          have ocr3 : Hid (Own ((w7.alloc (.cells #[.int .i64 m0] 3)).alloc (.cells #[.int .i64 r0] 3)).drew w5.heap.size (some ⟨gc, 0, none⟩) nr c6 r) := (ocr0.out.alloc (.cells #[.int .i64 m0] 3)).alloc (.cells #[.int .i64 r0] 3)
          have odr3 : Hid (Own ((w7.alloc (.cells #[.int .i64 m0] 3)).alloc (.cells #[.int .i64 r0] 3)).drew w6.heap.size (some ⟨gd, 0, none⟩) nr c7 m) := (odr0.out.alloc (.cells #[.int .i64 m0] 3)).alloc (.cells #[.int .i64 r0] 3)
          have zr2 := Lib.hid (cell_two1 w7 r0 m0)
          have zm2 := Lib.hid (cell_two2 w7 r0 m0)
          have zm3 := Lib.hid (cell_two1 w7 m0 r0)
          have zr3 := Lib.hid (cell_two2 w7 m0 r0)
          clear OC7 OD B7 T5 hs05
          go_wp2_with fail
          go_region_law (first
            | (refine step_append2 rfl (.tmp 81) (.tmp 85) rfl (base := w5.heap.size) (g := gc) (n := nr) (L := r) (off := 0) (m := 1) (cm := 1) (M := [r0]) (b := w7.heap.size) (by rfl) (by rfl) ocr.out rfl zr.out (by omega) (by omega) (by have := HSZ.out; simp; omega) ?_
               intro g8 c8 w8 o8 hg8 hne8
               have HS8 : Hid (w7.heap.size ≤ w8.heap.size ∧ gd < w7.heap.size ∧ w5.heap.size ≤ gc) := ⟨by have := hg8.size; simp at this; omega, gd2, gc1⟩
               have NE8 : Hid (g8 ≠ gd) := by
                 rcases hne8 with h | h
                 · rw [Hid, h]; exact hcd
                 · simp at h; rw [Hid]; omega
               have OR1 := Lib.hid o8
               have OM1 := Lib.hid (own_grown odr.out hg8 (fun e => hcd e.symm))
               have BB1 : Hid (Below w5.heap.size w5 w8) := ((HB7.out.alloc HSZ.out.1 (.cells #[.int .i64 r0] 3)).drew).trans (below_grown hg8 (by have := HSZ.out; simp; omega) gc1)
               have z1 := Lib.hid (cell_al w8 m0)
               replace OR1 := Lib.hid (OR1.out.alloc (.cells #[.int .i64 m0] 3))
               replace OM1 := Lib.hid (OM1.out.alloc (.cells #[.int .i64 m0] 3))
               replace BB1 := Lib.hid (BB1.out.alloc BB1.out.size (.cells #[.int .i64 m0] 3))
               have j2' := hg8.cell (a := ⟨b2, f2, none⟩) j3d.out (fun e => hb2c.1 (by injection e))
               clear o8 hg8 hne8)
            | (refine step_append2 rfl (.tmp 81) (.tmp 85) rfl (base := w5.heap.size) (g := gc) (n := nr) (L := r) (off := 0) (m := 1) (cm := 1) (M := [r0]) (b := w7.heap.size) (by rfl) (by rfl) ocr2.out rfl zr2.out (by omega) (by omega) (by have := HSZ.out; simp; omega) ?_
               intro g8 c8 w8 o8 hg8 hne8
               have HS8 : Hid (w7.heap.size ≤ w8.heap.size ∧ gd < w7.heap.size ∧ w5.heap.size ≤ gc) := ⟨by have := hg8.size; simp at this; omega, gd2, gc1⟩
               have NE8 : Hid (g8 ≠ gd) := by
                 rcases hne8 with h | h
                 · rw [Hid, h]; exact hcd
                 · simp at h; rw [Hid]; omega
               have OR2 := Lib.hid o8
               have OM2 := Lib.hid (own_grown odr2.out hg8 (fun e => hcd e.symm))
               have BB2 : Hid (Below w5.heap.size w5 w8) := (((HB7.out.alloc HSZ.out.1 (.cells #[.int .i64 r0] 3)).alloc (by have := HSZ.out; simp; omega) (.cells #[.int .i64 m0] 3)).drew).trans (below_grown hg8 (by have := HSZ.out; simp; omega) gc1)
               have z2 : Hid (∀ j, j < 1 → w8.cell? ⟨w7.heap.size + 1, 0 + j, none⟩ = some (.int .i64 (nth [m0] j))) := fun j hj => hg8.cell (zm2.out j hj) (fun e => by injection e with e; have : w7.heap.size + 1 = gc := e; omega)
               clear o8 hg8 hne8)
            | (refine step_append2 rfl (.tmp 81) (.tmp 85) rfl (base := w5.heap.size) (g := gc) (n := nr) (L := r) (off := 0) (m := 1) (cm := 1) (M := [r0]) (b := w7.heap.size + 1) (by rfl) (by rfl) ocr3.out rfl zr3.out (by omega) (by omega) (by have := HSZ.out; simp; omega) ?_
               intro g8 c8 w8 o8 hg8 hne8
               have HS8 : Hid (w7.heap.size ≤ w8.heap.size ∧ gd < w7.heap.size ∧ w5.heap.size ≤ gc) := ⟨by have := hg8.size; simp at this; omega, gd2, gc1⟩
               have NE8 : Hid (g8 ≠ gd) := by
                 rcases hne8 with h | h
                 · rw [Hid, h]; exact hcd
                 · simp at h; rw [Hid]; omega
               have OR3 := Lib.hid o8
               have OM3 := Lib.hid (own_grown odr3.out hg8 (fun e => hcd e.symm))
               have BB3 : Hid (Below w5.heap.size w5 w8) := (((HB7.out.alloc HSZ.out.1 (.cells #[.int .i64 m0] 3)).alloc (by have := HSZ.out; simp; omega) (.cells #[.int .i64 r0] 3)).drew).trans (below_grown hg8 (by have := HSZ.out; simp; omega) gc1)
               have z3 : Hid (∀ j, j < 1 → w8.cell? ⟨w7.heap.size, 0 + j, none⟩ = some (.int .i64 (nth [m0] j))) := fun j hj => hg8.cell (zm3.out j hj) (fun e => by injection e with e; have : w7.heap.size = gc := e; omega)
               clear o8 hg8 hne8)
            | (refine step_append2 rfl (.tmp 87) (.tmp 91) rfl (base := w6.heap.size) (g := gd) (n := nr) (L := m) (off := 0) (m := 1) (cm := 1) (M := [m0]) (b := w8.heap.size) (by rfl) (by rfl) OM1.out rfl z1.out (by omega) (by omega) (by have := HSZ.out; have := HS8.out; first | omega | (simp; omega)) ?_
               intro g9 c9 w9 o9 hg9 hne9
               have OMM := Lib.hid o9
               have ORR := Lib.hid (own_grown OR1.out hg9 NE8.out)
               have BB9 : Hid (Below w5.heap.size w5 w9) := BB1.out.trans (below_grown hg9 (by have := HSZ.out; have := HS8.out; first | omega | (simp; omega)) (by have := HSZ.out; omega))
               clear o9 hg9 hne9 OR1 OM1 BB1)
            | (refine step_append2 rfl (.tmp 87) (.tmp 91) rfl (base := w6.heap.size) (g := gd) (n := nr) (L := m) (off := 0) (m := 1) (cm := 1) (M := [m0]) (b := w7.heap.size + 1) (by rfl) (by rfl) OM2.out rfl z2.out (by omega) (by omega) (by have := HSZ.out; have := HS8.out; first | omega | (simp; omega)) ?_
               intro g9 c9 w9 o9 hg9 hne9
               have OMM := Lib.hid o9
               have ORR := Lib.hid (own_grown OR2.out hg9 NE8.out)
               have BB9 : Hid (Below w5.heap.size w5 w9) := BB2.out.trans (below_grown hg9 (by have := HSZ.out; have := HS8.out; first | omega | (simp; omega)) (by have := HSZ.out; omega))
               clear o9 hg9 hne9 OR2 OM2 BB2)
            | (refine step_append2 rfl (.tmp 87) (.tmp 91) rfl (base := w6.heap.size) (g := gd) (n := nr) (L := m) (off := 0) (m := 1) (cm := 1) (M := [m0]) (b := w7.heap.size) (by rfl) (by rfl) OM3.out rfl z3.out (by omega) (by omega) (by have := HSZ.out; have := HS8.out; first | omega | (simp; omega)) ?_
               intro g9 c9 w9 o9 hg9 hne9
               have OMM := Lib.hid o9
               have ORR := Lib.hid (own_grown OR3.out hg9 NE8.out)
               have BB9 : Hid (Below w5.heap.size w5 w9) := BB3.out.trans (below_grown hg9 (by have := HSZ.out; have := HS8.out; first | omega | (simp; omega)) (by have := HSZ.out; omega))
               clear o9 hg9 hne9 OR3 OM3 BB3)
            | (go_simp; go_at_call 11; refine (CS.out _ _ _ _ _ _ _ ORR.out OMM.out).mono ?_; rintro e w10 ⟨rfl, hb10⟩))
          all_goals
            have T10 := Lib.hid ((HT5.out.trans (BB9.out.mono HT5.out.size)).trans (hb10.mono (HT5.out.trans (BB9.out.mono HT5.out.size)).size))
            clear hb10
            go_wp2
            go_ret
            exact ⟨rfl, T10.out⟩
    · exact absurd ((ST.out y).2 HY.out) (hno y)
  · go_wp2
    go_ret
    exact ⟨rfl, below_drewN hb1 q⟩
end
theorem frame_CrtOrder (Ar : Option Addr) (nr cr : Nat) (r : List Int) (Am : Option Addr) (nm cm : Nat) (m : List Int) (w : World)
    (hr : Rd w w.heap.size Ar nr r) (_ : nr ≤ cr ∧ cr ≤ 9223372036854775807) (_ : ∀ x ∈ r, Fits x) (hm : Rd w w.heap.size Am nm m) (_ : nm ≤ cm ∧ cm ≤ 9223372036854775807) (_ : ∀ x ∈ m, Fits x) :
    Calls Try.prog 6 #[.slice Ar nr cr, .slice Am nm cm] w fun e w' => e = .returned (.bool true) ∧ Below w.heap.size w w' := by
  by_cases h : CrtOk r m
  · have e : nr = nm := by rw [← hr.1, ← hm.1]; exact h.2.1
    subst e
    exact order_ok Ar Am nr cr cm r m w hr hm h
  · exact order_bad Ar Am nr nm cr cm r m w hr hm h
end Go.Proofs.Ytpamlngkhjnboaa
