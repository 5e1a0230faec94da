/- The determinant of a tridiagonal matrix by its recurrence; with 1 above and -1 below it is a continued fraction's upper number. No program in sight. -/
import Derived.Test.YtcbpkjmmacgmfaaContM
namespace Go.Proofs.Ytcbpkjmmacgmfaa

/-- The determinant of the first k rows. -/
def bdt (L U V : List Int) : Nat → Int
  | 0 => 1
  | 1 => nth L 0
  | k + 2 => (nth L (k + 1) * bdt L U V (k + 1) - nth U k * nth V k % 9973 * bdt L U V k) % 9973
theorem bdt_succ (L U V : List Int) (k : Nat) : bdt L U V (k + 2) = (nth L (k + 1) * bdt L U V (k + 1) - nth U k * nth V k % 9973 * bdt L U V k) % 9973 := rfl
theorem bdt_bd {L U V : List Int} (h : 0 ≤ nth L 0 ∧ nth L 0 < 9973) (k : Nat) : 0 ≤ bdt L U V k ∧ bdt L U V k < 9973 := by
  match k with
  | 0 => show (0 : Int) ≤ 1 ∧ (1 : Int) < 9973; omega
  | 1 => exact h
  | k + 2 => rw [bdt_succ]; omega
theorem bdt_cp {L U V : List Int} {n : Nat} (hU : ∀ k, k + 1 < n → nth U k = 1) (hV : ∀ k, k + 1 < n → nth V k = 9972) : ∀ k, k ≤ n → bdt L U V k % 9973 = cp L k % 9973 ∧ (1 ≤ k → bdt L U V (k - 1) % 9973 = cp' L k % 9973) := by
  intro k
  induction k with
  | zero => intro _; exact ⟨rfl, fun h => absurd h (by omega)⟩
  | succ k ih =>
    intro hk
    obtain ⟨i1, i2⟩ := ih (by omega)
    refine ⟨?_, fun _ => i1⟩
    rw [cp_succ]
    match k with
    | 0 => rw [cp_zero, cp'_zero, Int.mul_one, Int.add_zero]; rfl
    | k + 1 =>
      have i2' := i2 (by omega)
      rw [Nat.add_sub_cancel] at i2'
      rw [bdt_succ, hU k (by omega), hV k (by omega), Int.emod_emod]
      rw [show (1 : Int) * 9972 % 9973 = 9972 by decide]
      have e1 : nth L (k + 1) * bdt L U V (k + 1) % 9973 = nth L (k + 1) * cp L (k + 1) % 9973 := by
        rw [Int.mul_emod, i1, ← Int.mul_emod]
      omega
end Go.Proofs.Ytcbpkjmmacgmfaa
