/- The reference's way to a convergent: from the last term back. No program in sight. -/
import Derived.Test.YtpfbbalhhldghaaDoorContP
namespace Go.Proofs.YtpfbbalhhldghaaDoor

/-- The fraction of the first k terms, j of the terms ahead of the last one gone through. -/
def frb (L : List Int) (k : Nat) : Nat → Int × Int
  | 0 => (nth L (k - 1), 1)
  | j + 1 => (nth L (k - 2 - j) * (frb L k j).1 + (frb L k j).2, (frb L k j).1)
theorem frb_zero (L : List Int) (k : Nat) : frb L k 0 = (nth L (k - 1), 1) := rfl
theorem frb_succ (L : List Int) (k j : Nat) : frb L k (j + 1) = (nth L (k - 2 - j) * (frb L k j).1 + (frb L k j).2, (frb L k j).1) := rfl
theorem frb_cv (L : List Int) {k : Nat} (hk : 1 ≤ k) (j : Nat) (hj : j + 1 ≤ k) :
    cp L k = cp L (k - 1 - j) * (frb L k j).1 + cp' L (k - 1 - j) * (frb L k j).2 ∧ cq L k = cq L (k - 1 - j) * (frb L k j).1 + cq' L (k - 1 - j) * (frb L k j).2 := by
  induction j with
  | zero =>
    obtain ⟨m, rfl⟩ : ∃ m, k = m + 1 := ⟨k - 1, by omega⟩
    rw [frb_zero, Nat.sub_zero, Nat.add_sub_cancel, cp_succ, cq_succ]
    constructor <;> grind
  | succ j ih =>
    obtain ⟨e1, e2⟩ := ih (by omega)
    obtain ⟨i, hi⟩ : ∃ i, k - 1 - j = i + 1 := ⟨k - 2 - j, by omega⟩
    rw [hi] at e1 e2
    rw [frb_succ, show k - 1 - (j + 1) = i by omega, show k - 2 - j = i by omega]
    rw [cp_succ, cp'_succ] at e1
    rw [cq_succ, cq'_succ] at e2
    rw [e1, e2]
    constructor <;> grind
theorem frb_all (L : List Int) {k : Nat} (hk : 1 ≤ k) : frb L k (k - 1) = (cp L k, cq L k) := by
  obtain ⟨e1, e2⟩ := frb_cv L hk (k - 1) (by omega)
  rw [Nat.sub_self, cp_zero, cp'_zero] at e1
  rw [Nat.sub_self, cq_zero, cq'_zero] at e2
  rw [e1, e2]
  have : ∀ p : Int × Int, p = (1 * p.1 + 0 * p.2, 0 * p.1 + 1 * p.2) := fun p => by simp
  exact this _
theorem frb_nonneg {L : List Int} (h : TOk L) {k : Nat} (hk : 1 ≤ k) (hl : k ≤ L.length) (j : Nat) (hj : j + 1 ≤ k) : 0 ≤ (frb L k j).1 ∧ 0 ≤ (frb L k j).2 := by
  have t : ∀ i, i < L.length → 0 ≤ nth L i := fun i hi => by
    rcases Nat.eq_zero_or_pos i with e | e
    · subst e; exact h.2.2.1.1
    · have := h.2.2.2 i e hi; omega
  induction j with
  | zero => exact ⟨t _ (by omega), show (0 : Int) ≤ 1 by omega⟩
  | succ j ih =>
    obtain ⟨i1, i2⟩ := ih (by omega)
    have := Int.mul_nonneg (t (k - 2 - j) (by omega)) i1
    rw [frb_succ]
    exact ⟨by show 0 ≤ _ + _; omega, i1⟩
/-- Nothing runs over on the way, if the convergents before were small. -/
theorem frb_bd {L : List Int} (h : TOk L) {k : Nat} (hk : 1 ≤ k) (hl : k ≤ L.length) (hs : ∀ i, 1 ≤ i → i < k → cp L i ≤ 1000000 ∧ cq L i ≤ 1000000) (j : Nat) (hj : j + 1 ≤ k) :
    0 ≤ (frb L k j).1 ∧ (frb L k j).1 ≤ 1000002000000 ∧ 0 ≤ (frb L k j).2 ∧ (frb L k j).2 ≤ 1000002000000 := by
  have top : cp L k ≤ 1000002000000 ∧ cq L k ≤ 1000002000000 := by
    obtain ⟨m, rfl⟩ : ∃ m, k = m + 1 := ⟨k - 1, by omega⟩
    obtain ⟨b1, b2, b3, b4, _⟩ := cv_bd h m (by omega)
    have s : cp L m ≤ 1000000 ∧ cq L m ≤ 1000000 := by
      rcases Nat.eq_zero_or_pos m with e | e
      · subst e; rw [cp_zero, cq_zero]; omega
      · exact hs m e (by omega)
    have s' : cp' L m ≤ 1000000 ∧ cq' L m ≤ 1000000 := by
      rcases Nat.eq_zero_or_pos m with e | e
      · subst e; rw [cp'_zero, cq'_zero]; omega
      · obtain ⟨i, rfl⟩ : ∃ i, m = i + 1 := ⟨m - 1, by omega⟩
        rw [cp'_succ, cq'_succ]
        rcases Nat.eq_zero_or_pos i with e | e
        · subst e; rw [cp_zero, cq_zero]; omega
        · exact hs i e (by omega)
    have t : 0 ≤ nth L m ∧ nth L m ≤ 1000000 := by
      rcases Nat.eq_zero_or_pos m with e | e
      · subst e; exact h.2.2.1
      · have := h.2.2.2 m e (by omega); omega
    have m1 := Int.mul_le_mul (a := nth L m) (b := cp L m) (c := 1000000) (d := 1000000) t.2 s.1 b1 (by omega)
    have m2 := Int.mul_le_mul (a := nth L m) (b := cq L m) (c := 1000000) (d := 1000000) t.2 s.2 b3 (by omega)
    rw [cp_succ, cq_succ]
    omega
  have one : ∀ j, j + 1 ≤ k → (frb L k j).1 ≤ 1000002000000 := fun j hj => by
    obtain ⟨e1, e2⟩ := frb_cv L hk j hj
    obtain ⟨p1, p2⟩ := frb_nonneg h hk hl j hj
    obtain ⟨b1, b2, b3, b4, b5, _⟩ := cv_bd h (k - 1 - j) (by omega)
    rcases Nat.eq_zero_or_pos (k - 1 - j) with e | e
    · rw [e, cp_zero, cp'_zero] at e1; omega
    · have m1 := Int.mul_le_mul_of_nonneg_right (b5 e) p1
      have m2 := Int.mul_nonneg b4 p2
      omega
  obtain ⟨p1, p2⟩ := frb_nonneg h hk hl j hj
  refine ⟨p1, one j hj, p2, ?_⟩
  match j with
  | 0 => show (1 : Int) ≤ 1000002000000; omega
  | j + 1 => rw [frb_succ]; exact one j (by omega)
end Go.Proofs.YtpfbbalhhldghaaDoor
