/- Small words for the contract of convergents: its numbers, its two boxes. -/
import Derived.Test.YtpfbbalhhldghaaDoorContA
namespace Go.Proofs.YtpfbbalhhldghaaDoor
open Go.RowKit

/-- The first k convergents. -/
def cfs (L : List Int) (k : Nat) : List (Int × Int) := (List.range k).map fun j => (cp L (j + 1), cq L (j + 1))
theorem cfs_len (L : List Int) (k : Nat) : (cfs L k).length = k := by simp [cfs]
theorem cfs_succ (L : List Int) (k : Nat) : cfs L k ++ [(cp L (k + 1), cq L (k + 1))] = cfs L (k + 1) := by
  unfold cfs; rw [List.range_succ, List.map_append]; rfl
theorem cfs_nf (L : List Int) {k j : Nat} (h : j < k) : nf (cfs L k) j = (cp L (j + 1), cq L (j + 1)) := by
  unfold nf cfs; simp [List.getD, h]
/-- None is too great. -/
def CfAll (L : List Int) (n : Nat) : Prop := ∀ j, 1 ≤ j → j ≤ n → cp L j ≤ 1000000 ∧ cq L j ≤ 1000000
theorem OwnF.set_below {w : World} {base n c : Nat} {A : Option Addr} {L : List (Int × Int)} (h : OwnF w base A n c L) {p : Addr} (hp : p.block < base) (u : Value) : OwnF (w.setCell p u) base A n c L := by
  refine ⟨h.1, h.2.1, ?_⟩
  rcases h.2.2 with hn | ⟨g', cap, cur, hv, hg, hh, r⟩
  · exact .inl hn
  · exact .inr ⟨g', cap, cur, hv, hg, by rw [Below.heap_setCell _ _ _ _ (by omega)]; exact hh, r⟩
/-- A product of a term and a number that is not too great. -/
theorem term_bd {t p : Int} (ht : 0 ≤ t ∧ t ≤ 1000000) (hp : 0 ≤ p ∧ p ≤ 1000000) : 0 ≤ t * p ∧ t * p ≤ 1000000000000 :=
  ⟨Int.mul_nonneg ht.1 hp.1, by have := Int.mul_le_mul ht.2 hp.2 hp.1 (by omega); omega⟩
/-- The numbers that the k-th step meets. -/
theorem cv_small {L : List Int} {n k : Nat} (hT : TOk L) (hn : L.length = n) (hk : k < n) (hall : ∀ j, 1 ≤ j → j ≤ k → cp L j ≤ 1000000 ∧ cq L j ≤ 1000000) :
    (0 ≤ nth L k ∧ nth L k ≤ 1000000) ∧ (0 ≤ cp L k ∧ cp L k ≤ 1000000) ∧ (0 ≤ cp' L k ∧ cp' L k ≤ 1000000) ∧ (0 ≤ cq L k ∧ cq L k ≤ 1000000) ∧ (0 ≤ cq' L k ∧ cq' L k ≤ 1000000) := by
  obtain ⟨b1, b2, b3, b4, _⟩ := cv_bd hT k (by omega)
  have ht : 0 ≤ nth L k ∧ nth L k ≤ 1000000 := by
    by_cases h0 : k = 0
    · subst h0; exact hT.2.2.1
    · have := hT.2.2.2 k (by omega) (by omega); omega
  refine ⟨ht, ⟨b1, ?_⟩, ⟨b2, ?_⟩, ⟨b3, ?_⟩, ⟨b4, ?_⟩⟩
  · match k with
    | 0 => rw [cp_zero]; omega
    | k + 1 => exact (hall (k + 1) (by omega) (by omega)).1
  · match k with
    | 0 => rw [cp'_zero]; omega
    | 1 => rw [cp'_succ, cp_zero]; omega
    | k + 2 => rw [cp'_succ]; exact (hall (k + 1) (by omega) (by omega)).1
  · match k with
    | 0 => rw [cq_zero]; omega
    | k + 1 => exact (hall (k + 1) (by omega) (by omega)).2
  · match k with
    | 0 => rw [cq'_zero]; omega
    | 1 => rw [cq'_succ, cq_zero]; omega
    | k + 2 => rw [cq'_succ]; exact (hall (k + 1) (by omega) (by omega)).2
/-- A block's first two cells. -/
def P2 (w : World) (W : Nat) (x y : Int) : Prop := w.cell? ⟨W, 0, none⟩ = some (.int .i64 x) ∧ w.cell? ⟨W, 1, none⟩ = some (.int .i64 y)
theorem p2_set {w : World} {W : Nat} {x y x' y' : Int} (h : P2 w W x y) : P2 ((w.setCell ⟨W, 0, none⟩ (.int .i64 x')).setCell ⟨W, 1, none⟩ (.int .i64 y')) W x' y' := by
  refine ⟨?_, ?_⟩
  · rw [World.cell?_setCell_other _ _ _ _ (by intro e; injection e with _ e _; omega)]
    exact World.cell?_setCell_same _ _ _ h.1
  · exact World.cell?_setCell_same _ _ _ ((World.cell?_setCell_other _ _ _ _ (by intro e; injection e with _ e _; omega)).trans h.2)
theorem p2_keep {w : World} {W : Nat} {x y : Int} {p : Addr} {u : Value} (h : P2 w W x y) (hne : p.block ≠ W) : P2 (w.setCell p u) W x y :=
  ⟨(World.cell?_setCell_other _ _ _ _ (by intro e; rw [e] at hne; exact hne rfl)).trans h.1, (World.cell?_setCell_other _ _ _ _ (by intro e; rw [e] at hne; exact hne rfl)).trans h.2⟩
theorem own4 {wr : World} {W k c' : Nat} {A' : Option Addr} {F : List (Int × Int)} (p q P Q : Value) (ho : OwnF wr (W + 2) A' k c' F) :
    OwnF ((((wr.setCell ⟨W, 0, none⟩ p).setCell ⟨W, 1, none⟩ q).setCell ⟨W + 1, 0, none⟩ P).setCell ⟨W + 1, 1, none⟩ Q) (W + 2) A' k c' F := by
  have a1 := ho.set_below (p := ⟨W, 0, none⟩) (show W < W + 2 by omega) p
  have a2 := a1.set_below (p := ⟨W, 1, none⟩) (show W < W + 2 by omega) q
  have a3 := a2.set_below (p := ⟨W + 1, 0, none⟩) (show W + 1 < W + 2 by omega) P
  exact a3.set_below (p := ⟨W + 1, 1, none⟩) (show W + 1 < W + 2 by omega) Q
theorem below4 {w wr : World} {W : Nat} (p q P Q : Value) (hW : w.heap.size ≤ W) (hb : Below w.heap.size w wr) :
    Below w.heap.size w ((((wr.setCell ⟨W, 0, none⟩ p).setCell ⟨W, 1, none⟩ q).setCell ⟨W + 1, 0, none⟩ P).setCell ⟨W + 1, 1, none⟩ Q) := by
  have a1 := hb.setCell (p := ⟨W, 0, none⟩) hW p
  have a2 := a1.setCell (p := ⟨W, 1, none⟩) hW q
  have a3 := a2.setCell (p := ⟨W + 1, 0, none⟩) (Nat.le_succ_of_le hW) P
  exact a3.setCell (p := ⟨W + 1, 1, none⟩) (Nat.le_succ_of_le hW) Q
theorem pair4 {wr : World} {W : Nat} {p' q' p0 q0 : Int} (p q P Q : Int) (h1 : P2 wr W p' q') (h2 : P2 wr (W + 1) p0 q0) :
    P2 ((((wr.setCell ⟨W, 0, none⟩ (.int .i64 p)).setCell ⟨W, 1, none⟩ (.int .i64 q)).setCell ⟨W + 1, 0, none⟩ (.int .i64 P)).setCell ⟨W + 1, 1, none⟩ (.int .i64 Q)) W p q ∧
    P2 ((((wr.setCell ⟨W, 0, none⟩ (.int .i64 p)).setCell ⟨W, 1, none⟩ (.int .i64 q)).setCell ⟨W + 1, 0, none⟩ (.int .i64 P)).setCell ⟨W + 1, 1, none⟩ (.int .i64 Q)) (W + 1) P Q := by
  constructor
  · have a1 := p2_set (x' := p) (y' := q) h1
    have a2 := p2_keep (p := ⟨W + 1, 0, none⟩) (u := .int .i64 P) a1 (show W + 1 ≠ W by omega)
    exact p2_keep (p := ⟨W + 1, 1, none⟩) (u := .int .i64 Q) a2 (show W + 1 ≠ W by omega)
  · have a1 := p2_keep (p := ⟨W, 0, none⟩) (u := .int .i64 p) h2 (show W ≠ W + 1 by omega)
    have a2 := p2_keep (p := ⟨W, 1, none⟩) (u := .int .i64 q) a1 (show W ≠ W + 1 by omega)
    exact p2_set (x' := P) (y' := Q) a2
theorem size4 {wr : World} {W n : Nat} (p q P Q : Value) (h : n ≤ wr.heap.size) : n ≤ ((((wr.setCell ⟨W, 0, none⟩ p).setCell ⟨W, 1, none⟩ q).setCell ⟨W + 1, 0, none⟩ P).setCell ⟨W + 1, 1, none⟩ Q).heap.size := by
  rw [World.size_setCell, World.size_setCell, World.size_setCell, World.size_setCell]; exact h
theorem froz4 {wr : World} {W : Nat} {a : Addr} (p q P Q : Value) (h : wr.frozen? a = false) : ((((wr.setCell ⟨W, 0, none⟩ p).setCell ⟨W, 1, none⟩ q).setCell ⟨W + 1, 0, none⟩ P).setCell ⟨W + 1, 1, none⟩ Q).frozen? a = false := by
  rw [World.frozen?_setCell, World.frozen?_setCell, World.frozen?_setCell, World.frozen?_setCell]; exact h
theorem store4 {w wr : World} {W k c' : Nat} {A' : Option Addr} {F : List (Int × Int)} {p' q' p q P Q : Int} (hW : W = w.heap.size) (ho : OwnF wr (W + 2) A' k c' F) (h1 : P2 wr W p' q') (h2 : P2 wr (W + 1) p q)
    (hf : wr.frozen? ⟨W, 0, none⟩ = false ∧ wr.frozen? ⟨W, 1, none⟩ = false ∧ wr.frozen? ⟨W + 1, 0, none⟩ = false ∧ wr.frozen? ⟨W + 1, 1, none⟩ = false) (hs : W + 2 ≤ wr.heap.size) (hb : Below w.heap.size w wr) {w5 w6 : World}
    (hw : w6 = ((((wr.setCell ⟨W, 0, none⟩ (.int .i64 p)).setCell ⟨W, 1, none⟩ (.int .i64 q)).setCell ⟨W + 1, 0, none⟩ (.int .i64 P)).setCell ⟨W + 1, 1, none⟩ (.int .i64 Q))) (hd : w5 = w6.drew) :
    OwnF w5 (W + 2) A' k c' F ∧ P2 w5 W p q ∧ P2 w5 (W + 1) P Q ∧
    (w5.frozen? ⟨W, 0, none⟩ = false ∧ w5.frozen? ⟨W, 1, none⟩ = false ∧ w5.frozen? ⟨W + 1, 0, none⟩ = false ∧ w5.frozen? ⟨W + 1, 1, none⟩ = false) ∧ W + 2 ≤ w5.heap.size ∧ Below w.heap.size w w5 := by
  have e1 := own4 (.int .i64 p) (.int .i64 q) (.int .i64 P) (.int .i64 Q) ho
  have e2 := pair4 p q P Q h1 h2
  have e3 : ∀ a, wr.frozen? a = false → w6.frozen? a = false := fun a h => by rw [hw]; exact froz4 _ _ _ _ h
  have e4 := size4 (W := W) (.int .i64 p) (.int .i64 q) (.int .i64 P) (.int .i64 Q) hs
  have e5 := below4 (W := W) (.int .i64 p) (.int .i64 q) (.int .i64 P) (.int .i64 Q) (Nat.le_of_eq hW.symm) hb
  rw [← hw] at e1 e2 e4 e5
  clear hw
  subst hd
  exact ⟨e1.drew, e2.1, e2.2, ⟨e3 _ hf.1, e3 _ hf.2.1, e3 _ hf.2.2.1, e3 _ hf.2.2.2⟩, e4, e5.drew⟩
end Go.Proofs.YtpfbbalhhldghaaDoor
