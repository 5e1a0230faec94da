/- A matrix of three rows of three in memory of the call's own: rows made one by one, stores, exchanges. -/
import Derived.Test.YtcbpkjmmacgmfaaApp
namespace Go.Proofs.Ytcbpkjmmacgmfaa
open Go.RowKit

/-- The outer block G holds n rows so far, the rest of its three cells is nil; row i is the block 'r i', the call's own, and holds 'L i'. -/
def PX (w : World) (base G n : Nat) (r c : Nat → Nat) (L : Nat → List Int) : Prop :=
  (∀ i, i < n → w.cell? ⟨G, i, none⟩ = some (.slice (some ⟨r i, 0, none⟩) 3 (c i))) ∧ (∀ i, n ≤ i → i < 3 → w.cell? ⟨G, i, none⟩ = some (.slice none 0 0)) ∧ (∀ i, i < 3 → w.frozen? ⟨G, i, none⟩ = false) ∧
  (∀ i, i < n → Own w base (some ⟨r i, 0, none⟩) 3 (c i) (L i)) ∧ (∀ i j, i < n → j < n → i ≠ j → r i ≠ r j) ∧ (∀ i, i < n → r i ≠ G) ∧ base ≤ G ∧ G < w.heap.size
/-- One value turned. -/
def upd {α : Type} (f : Nat → α) (n : Nat) (v : α) (i : Nat) : α := if i = n then v else f i
theorem upd_same {α : Type} (f : Nat → α) (n : Nat) (v : α) : upd f n v n = v := if_pos rfl
theorem upd_other {α : Type} (f : Nat → α) {n i : Nat} (v : α) (h : i ≠ n) : upd f n v i = f i := if_neg h
/-- Two values exchanged. -/
def sw {α : Type} (i k : Nat) (f : Nat → α) (j : Nat) : α := if j = i then f k else if j = k then f i else f j
section
variable {w w' : World} {base G n : Nat} {r c : Nat → Nat} {L : Nat → List Int}
theorem PX.keep (h : PX w base G n r c L) (hb : Below w.heap.size w w') : PX w' base G n r c L := by
  obtain ⟨h1, h2, h3, h4, h5, h6, h7, h8⟩ := h
  exact ⟨fun i hi => (hb.cell (p := ⟨G, i, none⟩) h8).trans (h1 i hi), fun i hi hi' => (hb.cell (p := ⟨G, i, none⟩) h8).trans (h2 i hi hi'), fun i hi => (hb.frozen (p := ⟨G, i, none⟩) h8).trans (h3 i hi), fun i hi => (h4 i hi).keep hb, h5, h6, h7, by have := hb.size; omega⟩
theorem PX.alloc (h : PX w base G n r c L) (o : Obj) : PX (w.alloc o) base G n r c L := h.keep ((Below.refl _ _).alloc (Nat.le_refl _) o)
theorem PX.drew (h : PX w base G n r c L) : PX w.drew base G n r c L := h
theorem PX.drewN (h : PX w base G n r c L) (q : Nat) : PX (w.drewN q) base G n r c L := h
theorem PX.congr {L' : Nat → List Int} (h : PX w base G n r c L) (e : ∀ i, i < n → L i = L' i) : PX w base G n r c L' := by
  obtain ⟨h1, h2, h3, h4, h5⟩ := h
  exact ⟨h1, h2, h3, fun i hi => by rw [← e i hi]; exact h4 i hi, h5⟩
theorem PX.lt (h : PX w base G n r c L) {i : Nat} (hi : i < n) : base ≤ r i ∧ r i < w.heap.size := (h.2.2.2.1 i hi).lt
/-- A store elsewhere. -/
theorem PX.off (h : PX w base G n r c L) {p : Addr} (hG : p.block ≠ G) (hr : ∀ i, i < n → p.block ≠ r i) (u : Value) : PX (w.setCell p u) base G n r c L := by
  obtain ⟨h1, h2, h3, h4, h5, h6, h7, h8⟩ := h
  have e : ∀ i, (w.setCell p u).cell? ⟨G, i, none⟩ = w.cell? ⟨G, i, none⟩ := fun i => World.cell?_setCell_other _ _ _ _ (by intro e; rw [e] at hG; exact hG rfl)
  exact ⟨fun i hi => (e i).trans (h1 i hi), fun i hi hi' => (e i).trans (h2 i hi hi'), fun i hi => by rw [World.frozen?_setCell]; exact h3 i hi, fun i hi => (h4 i hi).keep_set (hr i hi) u, h5, h6, h7, by rw [World.size_setCell]; exact h8⟩
/-- A store into a row. -/
theorem PX.set (h : PX w base G n r c L) {p : Nat} (hp : p < n) (q : Nat) (z : Int) : PX (w.setCell ⟨r p, q, none⟩ (.int .i64 z)) base G n r c (upd L p ((L p).set q z)) := by
  obtain ⟨h1, h2, h3, h4, h5, h6, h7, h8⟩ := h
  have e : ∀ i, (w.setCell ⟨r p, q, none⟩ (.int .i64 z)).cell? ⟨G, i, none⟩ = w.cell? ⟨G, i, none⟩ := fun i => World.cell?_setCell_other _ _ _ _ (by intro e; injection e with e _ _; exact h6 p hp e)
  refine ⟨fun i hi => (e i).trans (h1 i hi), fun i hi hi' => (e i).trans (h2 i hi hi'), fun i hi => by rw [World.frozen?_setCell]; exact h3 i hi, fun i hi => ?_, h5, h6, h7, by rw [World.size_setCell]; exact h8⟩
  by_cases e : i = p
  · subst e; rw [upd_same]; exact (h4 i hi).set q z
  · rw [upd_other _ _ e]; exact (h4 i hi).keep_set (h5 p i hp hi (fun h => e h.symm)) _
/-- One row more. -/
theorem PX.next (h : PX w base G n r c L) (hn : n < 3) {g cc : Nat} {R : List Int} (ho : Own w base (some ⟨g, 0, none⟩) 3 cc R) (hg : ∀ i, i < n → g ≠ r i) (hG : g ≠ G) : PX (w.setCell ⟨G, n, none⟩ (.slice (some ⟨g, 0, none⟩) 3 cc)) base G (n + 1) (upd r n g) (upd c n cc) (upd L n R) := by
  obtain ⟨h1, h2, h3, h4, h5, h6, h7, h8⟩ := h
  have e : ∀ i, i ≠ n → (w.setCell ⟨G, n, none⟩ (.slice (some ⟨g, 0, none⟩) 3 cc)).cell? ⟨G, i, none⟩ = w.cell? ⟨G, i, none⟩ := fun i hi => World.cell?_setCell_other _ _ _ _ (by intro e; injection e with _ e _; exact hi e.symm)
  refine ⟨fun i hi => ?_, fun i hi hi' => (e i (by omega)).trans (h2 i (by omega) hi'), fun i hi => by rw [World.frozen?_setCell]; exact h3 i hi, fun i hi => ?_, fun i j hi hj hne => ?_, fun i hi => ?_, h7, by rw [World.size_setCell]; exact h8⟩
  · by_cases ei : i = n
    · subst ei; rw [upd_same, upd_same]; exact World.cell?_setCell_same _ _ _ (h2 i (Nat.le_refl _) hn)
    · rw [upd_other _ _ ei, upd_other _ _ ei]; exact (e i ei).trans (h1 i (by omega))
  · by_cases ei : i = n
    · subst ei; rw [upd_same, upd_same, upd_same]; exact ho.keep_set (fun h => hG h.symm) _
    · rw [upd_other _ _ ei, upd_other _ _ ei, upd_other _ _ ei]; exact (h4 i (by omega)).keep_set (fun h => h6 i (by omega) h.symm) _
  · by_cases ei : i = n
    · subst ei; rw [upd_same, upd_other _ _ (fun h => hne h.symm)]; exact hg j (by omega)
    · rw [upd_other _ _ ei]
      by_cases ej : j = n
      · subst ej; rw [upd_same]; exact fun h => hg i (by omega) h.symm
      · rw [upd_other _ _ ej]; exact h5 i j (by omega) (by omega) hne
  · by_cases ei : i = n
    · subst ei; rw [upd_same]; exact hG
    · rw [upd_other _ _ ei]; exact h6 i (by omega)
/-- The outer block, new. -/
theorem PX.start {w : World} {base : Nat} (hb : base ≤ w.heap.size) (r c : Nat → Nat) (L : Nat → List Int) (t : TypeId) : PX (w.alloc (.cells #[.slice none 0 0, .slice none 0 0, .slice none 0 0] t)) base w.heap.size 0 r c L := by
  refine ⟨fun i hi => absurd hi (by omega), fun i _ hi => ?_, fun i hi => ?_, fun i hi => absurd hi (by omega), fun i j hi => absurd hi (by omega), fun i hi => absurd hi (by omega), hb, by simp⟩
  · have : i = 0 ∨ i = 1 ∨ i = 2 := by omega
    rcases this with rfl | rfl | rfl <;> simp
  · have : i = 0 ∨ i = 1 ∨ i = 2 := by omega
    rcases this with rfl | rfl | rfl <;> simp
/-- Two rows exchanged. -/
theorem PX.swap (h : PX w base G 3 r c L) {i k : Nat} (hi : i < 3) (hk : k < 3) (hne : i ≠ k) : PX ((w.setCell ⟨G, i, none⟩ (.slice (some ⟨r k, 0, none⟩) 3 (c k))).setCell ⟨G, k, none⟩ (.slice (some ⟨r i, 0, none⟩) 3 (c i))) base G 3 (sw i k r) (sw i k c) (sw i k L) := by
  obtain ⟨h1, h2, h3, h4, h5, h6, h7, h8⟩ := h
  have es : ∀ j, j < 3 → ∃ j', j' < 3 ∧ (∀ {α : Type} (f : Nat → α), sw i k f j = f j') ∧ (j' = if j = i then k else if j = k then i else j) := fun j hj => by
    unfold sw
    by_cases e1 : j = i
    · exact ⟨k, hk, fun f => by rw [if_pos e1], by rw [if_pos e1]⟩
    · by_cases e2 : j = k
      · exact ⟨i, hi, fun f => by rw [if_neg e1, if_pos e2], by rw [if_neg e1, if_pos e2]⟩
      · exact ⟨j, hj, fun f => by rw [if_neg e1, if_neg e2], by rw [if_neg e1, if_neg e2]⟩
  have c1 : (w.setCell ⟨G, i, none⟩ (.slice (some ⟨r k, 0, none⟩) 3 (c k))).cell? ⟨G, i, none⟩ = some (.slice (some ⟨r k, 0, none⟩) 3 (c k)) := World.cell?_setCell_same _ _ _ (h1 i hi)
  refine ⟨fun j hj => ?_, fun j hj hj' => absurd hj (by omega), fun j hj => by rw [World.frozen?_setCell, World.frozen?_setCell]; exact h3 j hj, fun j hj => ?_, fun a b ha hb hab => ?_, fun j hj => ?_, h7, by rw [World.size_setCell, World.size_setCell]; exact h8⟩
  · by_cases e2 : j = k
    · subst e2
      have : ∀ {α : Type} (f : Nat → α), sw i j f j = f i := fun f => by unfold sw; rw [if_neg (fun h => hne h.symm), if_pos rfl]
      rw [this, this]
      exact World.cell?_setCell_same _ _ _ ((World.cell?_setCell_other _ _ _ _ (by intro e; injection e with _ e _; exact hne e)).trans (h1 j hj))
    · refine (World.cell?_setCell_other _ _ _ _ (by intro e; injection e with _ e _; exact e2 e.symm)).trans ?_
      by_cases e1 : j = i
      · subst e1
        have : ∀ {α : Type} (f : Nat → α), sw j k f j = f k := fun f => by unfold sw; rw [if_pos rfl]
        rw [this, this]
        exact c1
      · have : ∀ {α : Type} (f : Nat → α), sw i k f j = f j := fun f => by unfold sw; rw [if_neg e1, if_neg e2]
        rw [this, this]
        exact (World.cell?_setCell_other _ _ _ _ (by intro e; injection e with _ e _; exact e1 e.symm)).trans (h1 j hj)
  · obtain ⟨j', hj', e, _⟩ := es j hj
    rw [e r, e c, e L]
    exact ((h4 j' hj').keep_set (fun h => h6 j' hj' h.symm) _).keep_set (fun h => h6 j' hj' h.symm) _
  · obtain ⟨a', ha', ea, da⟩ := es a ha
    obtain ⟨b', hb', eb, db⟩ := es b hb
    rw [ea r, eb r]
    refine h5 a' b' ha' hb' fun e => ?_
    rw [da, db] at e
    split at e <;> split at e <;> (try split at e) <;> (try split at e) <;> omega
  · obtain ⟨j', hj', e, _⟩ := es j hj
    rw [e r]
    exact h6 j' hj'
end
end Go.Proofs.Ytcbpkjmmacgmfaa
