/- The contract of det.of over three rows of three: elimination. -/
import Derived.Test.YtcbpkjmmacgmfaaDetM
import Derived.Test.YtcbpkjmmacgmfaaMatG
import Derived.Test.YtcbpkjmmacgmfaaBand
import Derived.BigRegion
import Derived.StillTailTactics
namespace Go.Proofs.Ytcbpkjmmacgmfaa
open Go.RowKit

/-- What det.of keeps in memory: the matrix, the box of its slice, the box of what has come out so far. -/
def DS (w : World) (base G Bm Bo : Nat) (r c : Nat → Nat) (L : Nat → List Int) (x : Int) : Prop :=
  PX w base G 3 r c L ∧ w.cell? ⟨Bm, 0, none⟩ = some (.slice (some ⟨G, 0, none⟩) 3 3) ∧ w.cell? ⟨Bo, 0, none⟩ = some (.int .i64 x) ∧ w.frozen? ⟨Bo, 0, none⟩ = false ∧ Bm < base ∧ base ≤ Bo ∧ Bo < w.heap.size ∧ Bo ≠ G ∧ (∀ i, i < 3 → Bo ≠ r i)
section
variable {w : World} {base G Bm Bo : Nat} {r c : Nat → Nat} {L L' : Nat → List Int} {x : Int}
theorem DS.drew (h : DS w base G Bm Bo r c L x) : DS w.drew base G Bm Bo r c L x := h
theorem DS.congr (h : DS w base G Bm Bo r c L x) (e : ∀ i, i < 3 → L i = L' i) : DS w base G Bm Bo r c L' x := ⟨h.1.congr e, h.2⟩
theorem DS.set (h : DS w base G Bm Bo r c L x) {p : Nat} (hp : p < 3) (q : Nat) (z : Int) : DS (w.setCell ⟨r p, q, none⟩ (.int .i64 z)) base G Bm Bo r c (upd L p ((L p).set q z)) x := by
  obtain ⟨h1, h2, h3, h4, h5, h6, h7, h8, h9⟩ := h
  have hl := h1.lt hp
  refine ⟨h1.set hp q z, (World.cell?_setCell_other _ _ _ _ (by intro e; injection e with e _ _; omega)).trans h2, (World.cell?_setCell_other _ _ _ _ (by intro e; injection e with e _ _; exact h9 p hp e.symm)).trans h3, by rw [World.frozen?_setCell]; exact h4, h5, h6, by rw [World.size_setCell]; exact h7, h8, h9⟩
theorem DS.out' (h : DS w base G Bm Bo r c L x) (z : Int) : DS (w.setCell ⟨Bo, 0, none⟩ (.int .i64 z)) base G Bm Bo r c L z := by
  obtain ⟨h1, h2, h3, h4, h5, h6, h7, h8, h9⟩ := h
  exact ⟨h1.off h8 h9 _, (World.cell?_setCell_other _ _ _ _ (by intro e; injection e with e _ _; omega)).trans h2, World.cell?_setCell_same _ _ _ h3, by rw [World.frozen?_setCell]; exact h4, h5, h6, by rw [World.size_setCell]; exact h7, h8, h9⟩
theorem DS.swap (h : DS w base G Bm Bo r c L x) {i k : Nat} (hi : i < 3) (hk : k < 3) (hne : i ≠ k) : DS ((w.setCell ⟨G, i, none⟩ (.slice (some ⟨r k, 0, none⟩) 3 (c k))).setCell ⟨G, k, none⟩ (.slice (some ⟨r i, 0, none⟩) 3 (c i))) base G Bm Bo (sw i k r) (sw i k c) (sw i k L) x := by
  obtain ⟨h1, h2, h3, h4, h5, h6, h7, h8, h9⟩ := h
  have hG := h1.2.2.2.2.2.2.1
  refine ⟨h1.swap hi hk hne, ?_, ?_, by rw [World.frozen?_setCell, World.frozen?_setCell]; exact h4, h5, h6, by rw [World.size_setCell, World.size_setCell]; exact h7, h8, fun j hj => ?_⟩
  · exact (World.cell?_setCell_other _ _ _ _ (by intro e; injection e with e _ _; omega)).trans ((World.cell?_setCell_other _ _ _ _ (by intro e; injection e with e _ _; omega)).trans h2)
  · exact (World.cell?_setCell_other _ _ _ _ (by intro e; injection e with e _ _; exact h8 e.symm)).trans ((World.cell?_setCell_other _ _ _ _ (by intro e; injection e with e _ _; exact h8 e.symm)).trans h3)
  · unfold sw
    split
    · exact h9 k hk
    · split
      · exact h9 i hi
      · exact h9 j hj
end
set_option maxHeartbeats 2000000 in
theorem c_exch (w : World) (base G Bm Bo : Nat) (r c : Nat → Nat) (L : Nat → List Int) (x : Int) (i k : Nat) (h : DS w base G Bm Bo r c L x) (hx : 0 ≤ x ∧ x < 9973) (hi : i < 3) (hk : k < 3) :
    Calls Try.prog 29 #[.int .i64 i, .int .i64 k, .pointer (some ⟨Bm, 0, none⟩), .pointer (some ⟨Bo, 0, none⟩)] w fun e w' => e = .returned (.tuple #[]) ∧ (∃ (r1 c1 : Nat → Nat) (L1 : Nat → List Int) (x1 : Int), DS w' base G Bm Bo r1 c1 L1 x1 ∧ ((i = k ∧ L1 = L ∧ x1 = x) ∨ (i ≠ k ∧ L1 = sw i k L ∧ x1 = (-x) % 9973))) ∧ Below base w w' := by
  have HD := Lib.hid h
  by_cases he : i = k
  · have t0 : ((i : Int) != (k : Int)) = false := by simp [he]
    have HE := Lib.hid he
    have hbw : Hid (Below base w w) := Below.refl _ _
    clear h he
    go_enter Try.func29, Try.ntmps29
    go_wp2
    go_end0
    exact ⟨rfl, ⟨r, c, L, x, HD.out, .inl ⟨HE.out, rfl, rfl⟩⟩, hbw.out⟩
  · have t1 : ((i : Int) != (k : Int)) = true := by simp; omega
    obtain ⟨h1, h2, h3, h4, h5, h6, h7, h8, h9⟩ := h
    have y1 := h1.1 i hi
    have y2 := h1.1 k hk
    have y3 := h1.2.2.1 i hi
    have y4 := h1.2.2.1 k hk
    have HS := Lib.hid (HD.out.swap hi hk he)
    have hG := h1.2.2.2.2.2.2.1
    have HB : Hid (Below base w ((w.setCell ⟨G, i, none⟩ (.slice (some ⟨r k, 0, none⟩) 3 (c k))).setCell ⟨G, k, none⟩ (.slice (some ⟨r i, 0, none⟩) 3 (c i)))) := ((Below.refl _ _).setCell (p := ⟨G, i, none⟩) hG _).setCell (p := ⟨G, k, none⟩) hG _
    obtain ⟨ri, hri⟩ : ∃ v, v = r i := ⟨_, rfl⟩
    obtain ⟨rk, hrk⟩ : ∃ v, v = r k := ⟨_, rfl⟩
    obtain ⟨ci, hci⟩ : ∃ v, v = c i := ⟨_, rfl⟩
    obtain ⟨ck, hck⟩ : ∃ v, v = c k := ⟨_, rfl⟩
    rw [← hri, ← hrk, ← hci, ← hck] at HS HB
    rw [← hri, ← hci] at y1
    rw [← hrk, ← hck] at y2
    have hki : ¬ k = i := fun e => he e.symm
    have hBG : ¬ Bm = G := by omega
    have hGB : ¬ G = Bm := by omega
    have hi3 : (i : Int) < 3 := by omega
    have hk3 : (k : Int) < 3 := by omega
    clear h1 h9 hri hrk hci hck h3 h4 h5 h6 h7 h8
    go_enter Try.func29, Try.ntmps29
    go_wp2
    go_region
    obtain ⟨w5, hw5⟩ : ∃ w5, w5 = ((w.setCell ⟨G, i, none⟩ (.slice (some ⟨rk, 0, none⟩) 3 ck)).setCell ⟨G, k, none⟩ (.slice (some ⟨ri, 0, none⟩) 3 ci)).drew := ⟨_, rfl⟩
    have HS5 : Hid (DS w5 base G Bm Bo (sw i k r) (sw i k c) (sw i k L) x) := by rw [Hid, hw5]; exact HS.out.drew
    have HB5 : Hid (Below base w w5) := by rw [Hid, hw5]; exact HB.out.drew
    rw [← hw5]
    have z1 := HS5.out.2.2.1
    have z2 := HS5.out.2.2.2.1
    have CF : Hid (Calls Try.prog 16 #[.int .i64 (-x)] w5 fun e w' => e = .returned (.int .i64 ((-x) % 9973)) ∧ w5 = w') := c_BField _ _ (by omega) (by omega)
    obtain ⟨y, hy⟩ : ∃ y, y = (-x) % 9973 := ⟨_, rfl⟩
    rw [← hy] at CF
    have HS6 := Lib.hid (HS5.out.out' y)
    have HB6 := Lib.hid (HB5.out.setCell (p := ⟨Bo, 0, none⟩) HS5.out.2.2.2.2.2.1 (.int .i64 y))
    have HE := Lib.hid he
    have HY := Lib.hid hy
    clear hw5 y1 y2 y3 y4 h2 hy he
    go_wp2_with fail
    refine CF.out.mono ?_
    rintro e w' ⟨rfl, rfl⟩
    go_wp2
    go_end0
    exact ⟨rfl, ⟨_, _, _, y, HS6.out, .inr ⟨HE.out, rfl, HY.out⟩⟩, HB6.out⟩
end Go.Proofs.Ytcbpkjmmacgmfaa
