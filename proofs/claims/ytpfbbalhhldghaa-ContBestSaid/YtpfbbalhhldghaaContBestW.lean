/- The walk of the statement ContBest: the law returns true for all arguments. -/
import Derived.Test.YtpfbbalhhldghaaContG
import Derived.Test.YtpfbbalhhldghaaView
namespace Go.Proofs.Ytpfbbalhhldghaa
open Go.RowKit

set_option maxHeartbeats 1000000 in
theorem c_Best_bad (a b most : Int) (w : World) (h : ¬ (FrOk a b ∧ 1 ≤ most ∧ most ≤ 1000000)) :
    Calls Try.prog 20 #[.agg #[.int .i64 a, .int .i64 b], .int .i64 most] w fun e w' => e = .returned (.tuple #[.agg #[.int .i64 0, .int .i64 0], .iface 49 (.int .i64 1)]) ∧ Below w.heap.size w w' := by
  by_cases h1 : FrOk a b
  · have o1 : outB most 1 1000000 = true := outB_true (by
      rcases Int.lt_or_le most 1 with h2 | h2
      · exact .inl h2
      · rcases Int.lt_or_le 1000000 most with h3 | h3
        · exact .inr h3
        · exact absurd ⟨h1, h2, h3⟩ h)
    have H := Lib.hid h1
    clear h h1
    go_enter Try.func20, Try.ntmps20
    go_wp2_with fail
    refine (c_fcheck_ok _ _ _ H.out).mono ?_
    rintro e w1 ⟨rfl, hb1⟩
    obtain ⟨⟨k1, k2⟩, ⟨z1, z2⟩, ⟨f1, f2⟩, hb1', hs1⟩ := box4 hb1
    clear hb1
    go_wp2_with (go_at_call 32; refine (c_Out _ _ _ _).mono ?_; rintro e w' ⟨rfl, rfl⟩)
    have z := p2_set (x' := 0) (y' := 0) (show P2 w1 (w.heap.size + 1) 0 0 from ⟨z1, z2⟩)
    have e1 := hb1'.setCell (p := ⟨w.heap.size + 1, 0, none⟩) (show w.heap.size ≤ w.heap.size + 1 by omega) (.int .i64 0)
    have e2 := e1.setCell (p := ⟨w.heap.size + 1, 1, none⟩) (show w.heap.size ≤ w.heap.size + 1 by omega) (.int .i64 0)
    refine bodyPost_ret (v := .tuple #[.agg #[.int .i64 0, .int .i64 0], .iface 49 (.int .i64 1)]) (by have z1 := z.1; have z2 := z.2; simp [results, Try.results20, go_sem, z1, z2]) rfl ⟨rfl, e2⟩
  · have H := Lib.hid h1
    clear h h1
    go_enter Try.func20, Try.ntmps20
    go_wp2_with fail
    refine (c_fcheck_bad _ _ _ H.out).mono ?_
    rintro e w1 ⟨rfl, hb1⟩
    obtain ⟨⟨k1, k2⟩, ⟨z1, z2⟩, ⟨f1, f2⟩, hb1', hs1⟩ := box4 hb1
    clear hb1
    go_wp2
    have z := p2_set (x' := 0) (y' := 0) (show P2 w1 (w.heap.size + 1) 0 0 from ⟨z1, z2⟩)
    have e1 := hb1'.setCell (p := ⟨w.heap.size + 1, 0, none⟩) (show w.heap.size ≤ w.heap.size + 1 by omega) (.int .i64 0)
    have e2 := e1.setCell (p := ⟨w.heap.size + 1, 1, none⟩) (show w.heap.size ≤ w.heap.size + 1 by omega) (.int .i64 0)
    refine bodyPost_ret (v := .tuple #[.agg #[.int .i64 0, .int .i64 0], .iface 49 (.int .i64 1)]) (by have z1 := z.1; have z2 := z.2; simp [results, Try.results20, go_sem, z1, z2]) rfl ⟨rfl, e2⟩
theorem cbest_bad (a b most p q : Int) (w : World) (h : ¬ (FrOk a b ∧ 1 ≤ most ∧ most ≤ 1000000)) :
    Calls Try.prog 8 #[.agg #[.int .i64 a, .int .i64 b], .int .i64 most, .int .i64 p, .int .i64 q] w fun e w' => e = .returned (.bool true) ∧ Below w.heap.size w w' := by
  have H := Lib.hid h
  clear h
  go_enter Try.func8, Try.ntmps8
  go_wp2_with fail
  refine (c_contFact _).mono ?_
  rintro e w1 ⟨rfl, hb1⟩
  obtain ⟨k1, k2, k3, k4⟩ := box2 hb1
  clear hb1
  go_wp2_with fail
  refine (c_Best_bad _ _ _ _ H.out).mono ?_
  rintro e w2 ⟨rfl, hb2⟩
  have k5 := k3.trans (hb2.mono k3.size)
  clear hb2
  go_wp2
  go_ret
  exact ⟨rfl, k5.alloc k5.size _⟩
theorem inB_true {n lo hi : Int} (h : lo ≤ n ∧ n ≤ hi) : inB n lo hi = true := by unfold inB; simp [h]
theorem inB_false {n lo hi : Int} (h : ¬ (lo ≤ n ∧ n ≤ hi)) : inB n lo hi = false := by
  cases e : inB n lo hi
  · rfl
  · unfold inB at e; simp at e; exact absurd e h
/-- What Best answers, and how near it is. -/
theorem best_facts {a b : Nat} {most : Int} (h : FrOk a b) (hm : 1 ≤ most ∧ most ≤ 1000000) : ∃ P Q : Int, bst (tms a b) most (st a b) = (P, Q) ∧ (0 ≤ P ∧ P ≤ 1000000) ∧ (1 ≤ Q ∧ Q ≤ most) ∧
    (Q ≠ 1 → ∀ p q : Int, 1 ≤ q → q ≤ Q → ((a : Int) * Q - P * b).natAbs ≤ ((a : Int) * q - p * b).natAbs) := by
  unfold FrOk at h
  have ha : a ≤ 1000000 := by omega
  have hb : b ≤ 1000000 := by omega
  have hb1 : 1 ≤ b := by omega
  have hT := tms_ok ha hb1 hb
  have hn : 1 ≤ st a b := by rw [← tms_length]; exact hT.1
  obtain ⟨k, hk⟩ : ∃ k, st a b = k + 1 := ⟨st a b - 1, by omega⟩
  obtain ⟨j, h1, h2, h3, h4⟩ := bst_is (L := tms a b) hm.1 k
  have hjl : j ≤ (tms a b).length := by rw [tms_length]; omega
  obtain ⟨b0, _, b2, _, b4, _⟩ := cv_bd hT j hjl
  have c := tms_cv ha hb1 hb j h1 hjl
  rw [hk]
  refine ⟨_, _, h3, ⟨b0, c.1⟩, ⟨b4 h1, h4⟩, fun hq p q q1 q2 => lagrange ha hb1 hb h1 (by omega) hq q1 q2⟩
set_option maxHeartbeats 2000000 in
set_option maxRecDepth 100000 in
theorem cbest_ok (a b : Nat) (most p q : Int) (w : World) (h : FrOk a b) (hm : 1 ≤ most ∧ most ≤ 1000000) :
    Calls Try.prog 8 #[.agg #[.int .i64 a, .int .i64 b], .int .i64 most, .int .i64 p, .int .i64 q] w fun e w' => e = .returned (.bool true) ∧ Below w.heap.size w w' := by
  obtain ⟨P, Q, hbst, hP, hQ, hL⟩ := best_facts h hm
  have HE : Hid (∀ w : World, Calls Try.prog 20 #[.agg #[.int .i64 a, .int .i64 b], .int .i64 most] w fun e w' => e = .returned (.tuple #[.agg #[.int .i64 P, .int .i64 Q], .nilIface]) ∧ Below w.heap.size w w') := fun w => by
    have := c_Best_ok a b most w h hm
    rw [hbst] at this
    exact this
  have i1 : inB P 0 1000000 = true := inB_true hP
  have i2 : inB Q 1 most = true := inB_true hQ
  have HL := Lib.hid hL
  have HF := Lib.hid h
  clear hL hbst h
  by_cases c1 : 1 ≤ q ∧ q ≤ Q
  · have i3 : inB q 1 Q = true := inB_true c1
    by_cases c2 : 0 ≤ p ∧ p ≤ 1000000
    · have i4 : inB p 0 1000000 = true := inB_true c2
      by_cases c3 : Q = 1
      · have e3 : (Q == 1) = true := by simp [c3]
        have C3 := Lib.hid c3
        clear c3
        go_enter Try.func8, Try.ntmps8
        go_wp2_with fail
        refine (c_contFact _).mono ?_
        rintro e w1 ⟨rfl, hb1⟩
        obtain ⟨k1, k2, k3, k4⟩ := box2 hb1
        clear hb1
        go_wp2_with fail
        refine (HE.out _).mono ?_
        rintro e w2 ⟨rfl, hb2⟩
        have k5 := k3.trans (hb2.mono k3.size)
        clear hb2
        go_wp2_with (go_at_call 12; refine (c_in _ _ _ _).mono ?_; rintro e w' ⟨rfl, rfl⟩)
        go_ret
        exact ⟨rfl, k5.alloc k5.size _⟩
      · have e3 : (Q == 1) = false := by simp [c3]
        have hle := HL.out c3 p q c1.1 c1.2
        have hF := HF.out
        unfold FrOk at hF
        have v1 := term_bd (t := (a : Int)) (p := Q) (by omega) (by omega)
        have v2 := term_bd (t := P) (p := (b : Int)) (by omega) (by omega)
        have v3 := term_bd (t := (a : Int)) (p := q) (by omega) (by omega)
        have v4 := term_bd (t := p) (p := (b : Int)) (by omega) (by omega)
        have hle' : (((a : Int) * Q - P * b).natAbs : Int) ≤ (((a : Int) * q - p * b).natAbs : Int) := by omega
        have HLE := Lib.hid hle
        clear hle
        go_enter Try.func8, Try.ntmps8
        go_wp2_with fail
        refine (c_contFact _).mono ?_
        rintro e w1 ⟨rfl, hb1⟩
        obtain ⟨k1, k2, k3, k4⟩ := box2 hb1
        clear hb1
        go_wp2_with fail
        refine (HE.out _).mono ?_
        rintro e w2 ⟨rfl, hb2⟩
        have k5 := k3.trans (hb2.mono k3.size)
        have k6 := Nat.lt_of_lt_of_le k4 hb2.size
        have n1 : ∀ o, (w2.alloc o).cell? ⟨w.heap.size, 0, none⟩ = some (.int .i64 a) := fun o => (World.cell?_alloc_lt _ _ ⟨w.heap.size, 0, none⟩ k6).trans ((hb2.cell (p := ⟨w.heap.size, 0, none⟩) k4).trans k1)
        have n2 : ∀ o, (w2.alloc o).cell? ⟨w.heap.size, 1, none⟩ = some (.int .i64 b) := fun o => (World.cell?_alloc_lt _ _ ⟨w.heap.size, 1, none⟩ k6).trans ((hb2.cell (p := ⟨w.heap.size, 1, none⟩) k4).trans k2)
        clear hb2
        go_wp2_with (first | (go_at_call 12; refine (c_in _ _ _ _).mono ?_; rintro e w' ⟨rfl, rfl⟩) | (go_at_call 15; refine (c_RAbs _ _ (by omega) (by omega)).mono ?_; rintro e w' ⟨rfl, rfl⟩))
        go_ret
        exact ⟨rfl, k5.alloc k5.size _⟩
    · have i4 : inB p 0 1000000 = false := inB_false c2
      clear c2
      go_enter Try.func8, Try.ntmps8
      go_wp2_with fail
      refine (c_contFact _).mono ?_
      rintro e w1 ⟨rfl, hb1⟩
      obtain ⟨k1, k2, k3, k4⟩ := box2 hb1
      clear hb1
      go_wp2_with fail
      refine (HE.out _).mono ?_
      rintro e w2 ⟨rfl, hb2⟩
      have k5 := k3.trans (hb2.mono k3.size)
      clear hb2
      go_wp2_with (go_at_call 12; refine (c_in _ _ _ _).mono ?_; rintro e w' ⟨rfl, rfl⟩)
      go_ret
      exact ⟨rfl, k5.alloc k5.size _⟩
  · have i3 : inB q 1 Q = false := inB_false c1
    clear c1
    go_enter Try.func8, Try.ntmps8
    go_wp2_with fail
    refine (c_contFact _).mono ?_
    rintro e w1 ⟨rfl, hb1⟩
    obtain ⟨k1, k2, k3, k4⟩ := box2 hb1
    clear hb1
    go_wp2_with fail
    refine (HE.out _).mono ?_
    rintro e w2 ⟨rfl, hb2⟩
    have k5 := k3.trans (hb2.mono k3.size)
    clear hb2
    go_wp2_with (go_at_call 12; refine (c_in _ _ _ _).mono ?_; rintro e w' ⟨rfl, rfl⟩)
    go_ret
    exact ⟨rfl, k5.alloc k5.size _⟩
theorem frame_ContBest (a b most p q : Int) (w : World) (_ : Fits a) (_ : Fits b) (_ : Fits most) (_ : Fits p) (_ : Fits q) :
    Calls Try.prog 8 #[.agg #[.int .i64 a, .int .i64 b], .int .i64 most, .int .i64 p, .int .i64 q] w fun e w' => e = .returned (.bool true) ∧ Below w.heap.size w w' := by
  by_cases h : FrOk a b ∧ 1 ≤ most ∧ most ≤ 1000000
  · obtain ⟨x, rfl⟩ : ∃ x : Nat, a = x := ⟨a.toNat, by have := h.1; unfold FrOk at this; omega⟩
    obtain ⟨y, rfl⟩ : ∃ y : Nat, b = y := ⟨b.toNat, by have := h.1; unfold FrOk at this; omega⟩
    exact cbest_ok x y most p q w h.1 h.2
  · exact cbest_bad a b most p q w h
end Go.Proofs.Ytpfbbalhhldghaa
