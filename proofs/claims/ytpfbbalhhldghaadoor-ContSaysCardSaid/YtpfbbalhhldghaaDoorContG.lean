/- The closed fact of package cont, and the contract of Best. -/
import Derived.Test.YtpfbbalhhldghaaDoorContF
namespace Go.Proofs.YtpfbbalhhldghaaDoor
open Go.RowKit

theorem rd_three' (w : World) (a b c : Int) (t : TypeId) : Rd (w.alloc (.cells #[.int .i64 a, .int .i64 b, .int .i64 c] t)) (w.heap.size + 1) (some ⟨w.heap.size, 0, none⟩) 3 [a, b, c] := by
  refine ⟨rfl, fun _ => ⟨_, _, rfl, by omega, fun j hj => ?_⟩⟩
  match j, hj with
  | 0, _ => simp [nth]
  | 1, _ => simp [nth]
  | 2, _ => simp [nth]
theorem rd_four' (w : World) (a b c d : Int) (t : TypeId) : Rd (w.alloc (.cells #[.int .i64 a, .int .i64 b, .int .i64 c, .int .i64 d] t)) (w.heap.size + 1) (some ⟨w.heap.size, 0, none⟩) 4 [a, b, c, d] := by
  refine ⟨rfl, fun _ => ⟨_, _, rfl, by omega, fun j hj => ?_⟩⟩
  match j, hj with
  | 0, _ => simp [nth]
  | 1, _ => simp [nth]
  | 2, _ => simp [nth]
  | 3, _ => simp [nth]
theorem rdF_three (w : World) (a b c d e f : Int) (t : TypeId) : RdF (w.alloc (.cells #[.int .i64 a, .int .i64 b, .int .i64 c, .int .i64 d, .int .i64 e, .int .i64 f] t)) (w.heap.size + 1) (some ⟨w.heap.size, 0, none⟩) 3 [(a, b), (c, d), (e, f)] := by
  refine ⟨rfl, fun _ => ⟨_, _, rfl, by omega, fun j hj => ?_⟩⟩
  match j, hj with
  | 0, _ => simp [nf]
  | 1, _ => simp [nf]
  | 2, _ => simp [nf]
theorem tok_123 : TOk [1, 2, 3] := by
  refine ⟨by decide, by decide, by decide, fun k h1 h2 => ?_⟩
  match k, h1, h2 with
  | 1, _, _ => decide
  | 2, _, _ => decide
theorem cfall_123 : CfAll [1, 2, 3] 3 := by
  intro j h1 h2
  match j, h1, h2 with
  | 1, _, _ => decide
  | 2, _, _ => decide
  | 3, _, _ => decide
/-- The box of the fraction and the result's slot, behind a call that turns nothing old. -/
theorem box4 {w w1 : World} {a b : Int} {t : TypeId} (hb : Below ((w.alloc (.cells #[.int .i64 a, .int .i64 b] t)).alloc (.cells #[.int .i64 0, .int .i64 0] t)).heap.size ((w.alloc (.cells #[.int .i64 a, .int .i64 b] t)).alloc (.cells #[.int .i64 0, .int .i64 0] t)) w1) :
    (w1.cell? ⟨w.heap.size, 0, none⟩ = some (.int .i64 a) ∧ w1.cell? ⟨w.heap.size, 1, none⟩ = some (.int .i64 b)) ∧ P2 w1 (w.heap.size + 1) 0 0 ∧ (w1.frozen? ⟨w.heap.size + 1, 0, none⟩ = false ∧ w1.frozen? ⟨w.heap.size + 1, 1, none⟩ = false) ∧ Below w.heap.size w w1 ∧ w.heap.size + 2 ≤ w1.heap.size := by
  refine ⟨⟨?_, ?_⟩, ⟨?_, ?_⟩, ⟨?_, ?_⟩, ?_, ?_⟩
  · exact (hb.cell (p := ⟨w.heap.size, 0, none⟩) (by simp; omega)).trans (by simp)
  · exact (hb.cell (p := ⟨w.heap.size, 1, none⟩) (by simp; omega)).trans (by simp)
  · exact (hb.cell (p := ⟨w.heap.size + 1, 0, none⟩) (by simp)).trans (by simp)
  · exact (hb.cell (p := ⟨w.heap.size + 1, 1, none⟩) (by simp)).trans (by simp)
  · exact (hb.frozen (p := ⟨w.heap.size + 1, 0, none⟩) (by simp)).trans (by simp)
  · exact (hb.frozen (p := ⟨w.heap.size + 1, 1, none⟩) (by simp)).trans (by simp)
  · exact (((Below.refl _ w).alloc (Nat.le_refl _) _).alloc (by simp) _).trans (hb.mono (by simp; omega))
  · have := hb.size; simp at this; omega
/-- The two boxes behind a new block and a call that turns nothing old. -/
theorem boxG {w1 w2 : World} {W : Nat} {t : TypeId} (hs : W + 2 ≤ w1.heap.size) (z : P2 w1 (W + 1) 0 0) (f : w1.frozen? ⟨W + 1, 0, none⟩ = false ∧ w1.frozen? ⟨W + 1, 1, none⟩ = false)
    (hb : Below (w1.alloc (.cells #[.int .i64 0, .int .i64 0] t)).heap.size (w1.alloc (.cells #[.int .i64 0, .int .i64 0] t)) w2) :
    P2 w2 (W + 1) 0 0 ∧ P2 w2 w1.heap.size 0 0 ∧ (w2.frozen? ⟨W + 1, 0, none⟩ = false ∧ w2.frozen? ⟨W + 1, 1, none⟩ = false) ∧ (w2.frozen? ⟨w1.heap.size, 0, none⟩ = false ∧ w2.frozen? ⟨w1.heap.size, 1, none⟩ = false) ∧ w1.heap.size < w2.heap.size ∧ Below w1.heap.size w1 w2 := by
  have e0 : (w1.alloc (.cells #[.int .i64 0, .int .i64 0] t)).heap.size = w1.heap.size + 1 := by simp
  have q1 : ∀ j, w2.cell? ⟨W + 1, j, none⟩ = w1.cell? ⟨W + 1, j, none⟩ := fun j =>
    (hb.cell (p := ⟨W + 1, j, none⟩) (by rw [e0]; show W + 1 < _; omega)).trans (World.cell?_alloc_lt _ _ ⟨W + 1, j, none⟩ (by show W + 1 < _; omega))
  have q2 : ∀ j, w2.frozen? ⟨W + 1, j, none⟩ = w1.frozen? ⟨W + 1, j, none⟩ := fun j =>
    (hb.frozen (p := ⟨W + 1, j, none⟩) (by rw [e0]; show W + 1 < _; omega)).trans (World.frozen?_alloc_old _ _ ⟨W + 1, j, none⟩ (by show W + 1 ≠ _; omega))
  refine ⟨⟨(q1 0).trans z.1, (q1 1).trans z.2⟩, ⟨?_, ?_⟩, ⟨(q2 0).trans f.1, (q2 1).trans f.2⟩, ⟨?_, ?_⟩, ?_, ?_⟩
  · exact (hb.cell (p := ⟨w1.heap.size, 0, none⟩) (by simp)).trans (by simp)
  · exact (hb.cell (p := ⟨w1.heap.size, 1, none⟩) (by simp)).trans (by simp)
  · exact (hb.frozen (p := ⟨w1.heap.size, 0, none⟩) (by simp)).trans (by simp)
  · exact (hb.frozen (p := ⟨w1.heap.size, 1, none⟩) (by simp)).trans (by simp)
  · have := hb.size; rw [e0] at this; omega
  · exact ((Below.refl _ w1).alloc (Nat.le_refl _) _).trans (hb.mono (by rw [e0]; omega))
theorem P2.below {w w' : World} {W B : Nat} {x y : Int} (h : P2 w W x y) (hb : Below B w w') (hW : W < B) : P2 w' W x y :=
  ⟨(hb.cell (p := ⟨W, 0, none⟩) hW).trans h.1, (hb.cell (p := ⟨W, 1, none⟩) hW).trans h.2⟩
/-- What the loop of Best keeps in memory. -/
def BestSt (w wr : World) (G : Nat) (A : Option Addr) (N c : Nat) (F : List (Int × Int)) (p q : Int) : Prop :=
  OwnF wr (G + 1) A N c F ∧ P2 wr G p q ∧ P2 wr (w.heap.size + 1) 0 0 ∧ (wr.frozen? ⟨w.heap.size + 1, 0, none⟩ = false ∧ wr.frozen? ⟨w.heap.size + 1, 1, none⟩ = false ∧ wr.frozen? ⟨G, 0, none⟩ = false ∧ wr.frozen? ⟨G, 1, none⟩ = false) ∧ G < wr.heap.size ∧ Below w.heap.size w wr
theorem P2.alloc {w : World} {W : Nat} {x y : Int} (h : P2 w W x y) (hW : W < w.heap.size) (o : Obj) : P2 (w.alloc o) W x y :=
  ⟨(World.cell?_alloc_lt _ _ ⟨W, 0, none⟩ hW).trans h.1, (World.cell?_alloc_lt _ _ ⟨W, 1, none⟩ hW).trans h.2⟩
theorem BestSt.alloc {w wr : World} {G N c : Nat} {A : Option Addr} {F : List (Int × Int)} {p q : Int} (h : BestSt w wr G A N c F p q) (hG : w.heap.size + 2 ≤ G) (o : Obj) : BestSt w (wr.alloc o) G A N c F p q := by
  obtain ⟨h1, h2, h3, ⟨f1, f2, f3, f4⟩, h4, h5⟩ := h
  have e : ∀ W j, W < wr.heap.size → (wr.alloc o).frozen? ⟨W, j, none⟩ = wr.frozen? ⟨W, j, none⟩ := fun W j hW => World.frozen?_alloc_old _ _ ⟨W, j, none⟩ (Nat.ne_of_lt hW)
  refine ⟨h1.alloc o, h2.alloc h4 o, h3.alloc (by omega) o, ⟨?_, ?_, ?_, ?_⟩, ?_, h5.alloc h5.size o⟩
  · exact (e _ 0 (by omega)).trans f1
  · exact (e _ 1 (by omega)).trans f2
  · exact (e _ 0 (by omega)).trans f3
  · exact (e _ 1 (by omega)).trans f4
  · simp; omega
theorem BestSt.set {w wr : World} {G N c : Nat} {A : Option Addr} {F : List (Int × Int)} {p q : Int} (h : BestSt w wr G A N c F p q) (hG : w.heap.size + 2 ≤ G) (P Q : Int) : BestSt w ((wr.setCell ⟨G, 0, none⟩ (.int .i64 P)).setCell ⟨G, 1, none⟩ (.int .i64 Q)) G A N c F P Q := by
  obtain ⟨h1, h2, h3, ⟨f1, f2, f3, f4⟩, h4, h5⟩ := h
  have a1 := h1.set_below (p := ⟨G, 0, none⟩) (Nat.lt_succ_self _) (.int .i64 P)
  have a2 := a1.set_below (p := ⟨G, 1, none⟩) (Nat.lt_succ_self _) (.int .i64 Q)
  have b1 := p2_keep (p := ⟨G, 0, none⟩) (u := .int .i64 P) h3 (show G ≠ w.heap.size + 1 by omega)
  have b2 := p2_keep (p := ⟨G, 1, none⟩) (u := .int .i64 Q) b1 (show G ≠ w.heap.size + 1 by omega)
  have c1 := h5.setCell (p := ⟨G, 0, none⟩) (show w.heap.size ≤ G by omega) (.int .i64 P)
  have c2 := c1.setCell (p := ⟨G, 1, none⟩) (show w.heap.size ≤ G by omega) (.int .i64 Q)
  refine ⟨a2, p2_set h2, b2, ⟨?_, ?_, ?_, ?_⟩, ?_, c2⟩
  · rw [World.frozen?_setCell, World.frozen?_setCell]; exact f1
  · rw [World.frozen?_setCell, World.frozen?_setCell]; exact f2
  · rw [World.frozen?_setCell, World.frozen?_setCell]; exact f3
  · rw [World.frozen?_setCell, World.frozen?_setCell]; exact f4
  · rw [World.size_setCell, World.size_setCell]; exact h4
set_option maxHeartbeats 4000000 in
theorem c_Best_ok (a b : Nat) (most : Int) (w : World) (h : FrOk a b) (hm : 1 ≤ most ∧ most ≤ 1000000) :
    Calls Tryd.prog 20 #[.agg #[.int .i64 a, .int .i64 b], .int .i64 most] w fun e w' => e = .returned (.tuple #[.agg #[.int .i64 (bst (tms a b) most (st a b)).1, .int .i64 (bst (tms a b) most (st a b)).2], .nilIface]) ∧ Below w.heap.size w w' := by
  have H := Lib.hid h
  unfold FrOk at h
  have ha : a ≤ 1000000 := by omega
  have hb : b ≤ 1000000 := by omega
  have hT : TOk (tms a b) := tms_ok ha (by omega) hb
  have hC : CfAll (tms a b) (st a b) := fun j h1 h2 => tms_cv ha (by omega) hb j h1 (by rw [tms_length]; exact h2)
  have HT := Lib.hid hT
  have HC := Lib.hid hC
  have hst := st_le ha hb
  obtain ⟨N, hN⟩ : ∃ N, N = st a b := ⟨_, rfl⟩
  obtain ⟨L, hL⟩ : ∃ L, L = tms a b := ⟨_, rfl⟩
  have EX : Hid (∀ w : World, Calls Tryd.prog 34 #[.agg #[.int .i64 a, .int .i64 b]] w fun e w' => ∃ A c, e = .returned (.slice A N c) ∧ Own w' w.heap.size A N c L ∧ Below w.heap.size w w') := fun w => by
    rw [hN, hL]; exact c_expand a b w ha hb
  rw [← hN] at hst HC ⊢
  rw [← hL] at HT HC ⊢
  have o1 : outB most 1 1000000 = false := outB_false hm.1 hm.2
  clear hT hC hN hL h
  go_enter Tryd.func20, Tryd.ntmps20
  go_wp2_with fail
  refine (c_fcheck_ok _ _ _ H.out).mono ?_
  rintro e w1 ⟨rfl, hb1⟩
  obtain ⟨⟨k1, k2⟩, ⟨z1, z2⟩, ⟨f1, f2⟩, hb1', hs1⟩ := box4 hb1
  clear hb1
  have k3 : ∀ o, (w1.alloc o).cell? ⟨w.heap.size, 0, none⟩ = some (.int .i64 a) := fun o => (World.cell?_alloc_lt _ _ ⟨w.heap.size, 0, none⟩ (by show w.heap.size < _; omega)).trans k1
  have k4 : ∀ o, (w1.alloc o).cell? ⟨w.heap.size, 1, none⟩ = some (.int .i64 b) := fun o => (World.cell?_alloc_lt _ _ ⟨w.heap.size, 1, none⟩ (by show w.heap.size < _; omega)).trans k2
  go_wp2_with (go_at_call 37; refine (c_Out _ _ _ _).mono ?_; rintro e w' ⟨rfl, rfl⟩)
  refine (EX.out _).mono ?_
  rintro e w2 ⟨A, c, rfl, ho, hb2⟩
  obtain ⟨y1, y2, g1, g2, hs2, hb2'⟩ := boxG (W := w.heap.size) hs1 ⟨z1, z2⟩ ⟨f1, f2⟩ hb2
  have R2 := Lib.hid ho.rd
  have B2 := Lib.hid (hb1'.trans (hb2'.mono (by omega)))
  obtain ⟨G, hG⟩ : ∃ G, G = w1.heap.size := ⟨_, rfl⟩
  rw [← hG] at y2 g2 hs2 hs1 ⊢
  clear ho hb2 hb2' hb1' k1 k2 k3 k4 z1 z2 f1 f2 hG
  go_wp2_with fail
  refine (c_convergents _ _ _ L _ _ R2.out (Nat.le_refl _) HT.out).mono ?_
  rintro e w3 ⟨⟨_, A', c', rfl, ho⟩ | ⟨hC, rfl⟩, hb3⟩
  · have O3 := Lib.hid (ho.base_le (show G + 1 ≤ w2.heap.size by omega))
    have B3 := Lib.hid (B2.out.trans (hb3.mono B2.out.size))
    have Y1 := Lib.hid (y1.below hb3 (by omega))
    have Y2 := Lib.hid (y2.below hb3 (by omega))
    have h3 := hb3.size
    have e1 := (hb3.frozen (p := ⟨w.heap.size + 1, 0, none⟩) (by show w.heap.size + 1 < _; omega)).trans g1.1
    have e2 := (hb3.frozen (p := ⟨w.heap.size + 1, 1, none⟩) (by show w.heap.size + 1 < _; omega)).trans g1.2
    have e3 := (hb3.frozen (p := ⟨G, 0, none⟩) hs2).trans g2.1
    have e4 := (hb3.frozen (p := ⟨G, 1, none⟩) hs2).trans g2.2
    clear ho hb3 y1 y2 g1 g2 B2 R2
    go_wp2
    go_loopw [30] (fun i wr => ∃ (k : Nat) (p q : Int), k ≤ N ∧ i = .int .i64 k ∧ Hid (bst L most k = (p, q)) ∧ Hid (BestSt w wr G A' N c' (cfs L N) p q)) (fun i _ => N - (intOf i).toNat)
    case atStart => exact ⟨0, 0, 0, Nat.zero_le _, rfl, rfl, O3.out, Y2.out, Y1.out, ⟨e1, e2, e3, e4⟩, by omega, B3.out⟩
    case round =>
      obtain ⟨k, p, q, hk, rfl, HP, HB⟩ := hrel
      obtain ⟨ho, ⟨m1, m2⟩, ⟨m3, m4⟩, ⟨e1, e2, e3, e4⟩, hsz, hbr⟩ := HB.out
      by_cases hlt : k < N
      · obtain ⟨bb, off, rfl, hc1, hc2⟩ := ho.rd.at_ hlt
        rw [cfs_nf L hlt] at hc1 hc2
        have HS : Hid (bst L most (k + 1) = if cq L (k + 1) ≤ most then (cp L (k + 1), cq L (k + 1)) else bst L most k) := rfl
        obtain ⟨P, hP⟩ : ∃ P, P = cp L (k + 1) := ⟨_, rfl⟩
        obtain ⟨Q, hQ⟩ : ∃ Q, Q = cq L (k + 1) := ⟨_, rfl⟩
        rw [← hP, ← hQ] at hc1 hc2 HS
        clear hP hQ m3 m4 e1 e2 ho hbr
        have n1 : ∀ o, (wr.alloc o).cell? ⟨G, 0, none⟩ = some (.int .i64 p) := fun o => (World.cell?_alloc_lt _ _ ⟨G, 0, none⟩ hsz).trans m1
        have n2 : ∀ o, (wr.alloc o).cell? ⟨G, 1, none⟩ = some (.int .i64 q) := fun o => (World.cell?_alloc_lt _ _ ⟨G, 1, none⟩ hsz).trans m2
        have n3 : ∀ o, (wr.alloc o).frozen? ⟨G, 0, none⟩ = false := fun o => (World.frozen?_alloc_old _ _ ⟨G, 0, none⟩ (Nat.ne_of_lt hsz)).trans e3
        have n4 : ∀ o, (wr.alloc o).frozen? ⟨G, 1, none⟩ = false := fun o => (World.frozen?_alloc_old _ _ ⟨G, 1, none⟩ (Nat.ne_of_lt hsz)).trans e4
        by_cases hle : Q ≤ most
        · have HP' : Hid (bst L most (k + 1) = (P, Q)) := by rw [Hid, HS.out, if_pos hle]
          have HB' := Lib.hid ((HB.out.set hs1 P Q).alloc hs1 (.cells #[.int .i64 P, .int .i64 Q] 35))
          go_wp2
          go_roundw
          case rel => exact ⟨k + 1, P, Q, by omega, by go_num, HP'.out, HB'.out⟩
          case measure => simp [intOf]; omega
        · have HP' : Hid (bst L most (k + 1) = (p, q)) := by rw [Hid, HS.out, if_neg hle]; exact HP.out
          have HB' := Lib.hid (HB.out.alloc hs1 (.cells #[.int .i64 P, .int .i64 Q] 35))
          have hle' : decide (Q ≤ most) = false := by simp; omega
          go_wp2
          go_roundw
          case rel => exact ⟨k + 1, p, q, by omega, by go_num, HP'.out, HB'.out⟩
          case measure => simp [intOf]; omega
      · obtain rfl : k = N := by omega
        have z := p2_set (x' := p) (y' := q) ⟨m3, m4⟩
        have c1 := hbr.setCell (p := ⟨w.heap.size + 1, 0, none⟩) (show w.heap.size ≤ w.heap.size + 1 by omega) (.int .i64 p)
        have c2 := c1.setCell (p := ⟨w.heap.size + 1, 1, none⟩) (show w.heap.size ≤ w.heap.size + 1 by omega) (.int .i64 q)
        have C2 := Lib.hid c2
        have Z := Lib.hid z
        clear c1 c2 z hbr ho
        go_wp2
        refine bodyPost_ret (v := .tuple #[.agg #[.int .i64 p, .int .i64 q], .nilIface]) (by have z1 := Z.out.1; have z2 := Z.out.2; simp [results, Tryd.results20, go_sem, z1, z2]) rfl ⟨by rw [HP.out], C2.out⟩
  · exact absurd HC.out hC
end Go.Proofs.YtpfbbalhhldghaaDoor
