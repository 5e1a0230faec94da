/- Fermat's little theorem at the prime 9973, by the kernel's own reckoning of all powers; and what follows from it. No program in sight. -/
import Derived.Test.YtcbpkjmmacgmfaaMath
namespace Go.Proofs.Ytcbpkjmmacgmfaa

theorem pw_nat (a n : Nat) : pw (a : Int) n = ((a ^ n % 9973 : Nat) : Int) := by unfold pw; rw [← Int.natCast_pow, Int.natCast_emod]; rfl
def fchk (lo : Nat) : Nat → Bool
  | 0 => lo ^ 9972 % 9973 == 1 || 9973 ≤ lo
  | n + 1 => fchk lo n && fchk (lo + 2 ^ n) n
theorem fchk_of (n : Nat) : ∀ (lo x : Nat), fchk lo n = true → lo ≤ x → x < lo + 2 ^ n → x < 9973 → x ^ 9972 % 9973 = 1 := by
  induction n with
  | zero =>
    intro lo x h h1 h2 h3
    have : x = lo := by simp at h2; omega
    subst this
    simp only [fchk, Bool.or_eq_true, beq_iff_eq, decide_eq_true_eq] at h
    omega
  | succ n ih =>
    intro lo x h h1 h2 h3
    simp only [fchk, Bool.and_eq_true] at h
    by_cases hx : x < lo + 2 ^ n
    · exact ih lo x h.1 h1 hx h3
    · exact ih (lo + 2 ^ n) x h.2 (by omega) (by rw [Nat.pow_succ] at h2; omega) h3
theorem fchk_all : fchk 1 14 = true := by decide +kernel
theorem fermat (a : Int) (h1 : 0 < a) (h2 : a < 9973) : pw a 9972 = 1 := by
  obtain ⟨x, rfl⟩ := Int.eq_ofNat_of_zero_le (show 0 ≤ a by omega)
  rw [pw_nat, fchk_of 14 1 x fchk_all (by omega) (by omega) (by omega)]; rfl
theorem pw_zero_base (n : Nat) (h : 0 < n) : pw 0 n = 0 := by
  unfold pw; rw [Int.zero_pow (by omega)]; rfl
/-- The reciprocal. -/
theorem over_mul (a : Int) (h1 : 0 < a) (h2 : a < 9973) : a * pw a 9971 % 9973 = 1 := by
  have h := pw_add a 1 9971
  rw [show 1 + 9971 = 9972 by rfl, fermat a h1 h2] at h
  have e : pw a 1 = a := by
    have : a ^ 1 = a := by rw [Int.pow_succ, Int.pow_zero, Int.one_mul]
    unfold pw; rw [this]; omega
  rw [e] at h
  exact h.symm
/-- No two elements that are not 0 have product 0. -/
theorem no_zero_div (a b : Int) (h : a * b % 9973 = 0) : a % 9973 = 0 ∨ b % 9973 = 0 := by
  by_cases ha : a % 9973 = 0
  · exact .inl ha
  · right
    have h1 := over_mul (a % 9973) (by omega) (by omega)
    have e : b % 9973 = (a % 9973 * pw (a % 9973) 9971) * b % 9973 := by
      rw [Int.mul_emod, h1]; omega
    rw [e, Int.mul_comm (a % 9973), Int.mul_assoc, Int.mul_emod, Int.mul_emod (a % 9973), Int.emod_emod, ← Int.mul_emod a b, h]
    simp
/-- Squares have two roots. -/
theorem two_roots (a b : Int) (ha1 : 0 ≤ a) (ha2 : a < 9973) (hb1 : 0 ≤ b) (hb2 : b < 9973) (ha : a ≠ 0) : b * b % 9973 = a * a % 9973 ↔ (b = a ∨ b = 9973 - a) := by
  constructor
  · intro h
    have : (b - a) * (b + a) % 9973 = 0 := by
      rw [show (b - a) * (b + a) = b * b - a * a by grind]
      omega
    rcases no_zero_div _ _ this with h | h <;> omega
  · rintro (rfl | rfl)
    · rfl
    · have : (9973 - a) * (9973 - a) = a * a + 9973 * (9973 - 2 * a) := by grind
      rw [this]; omega
/-- The power of half of one less than the prime is 1 or -1, and of a square 1. -/
theorem half_power (a : Int) (h1 : 0 < a) (h2 : a < 9973) : pw a 4986 = 1 ∨ pw a 4986 = 9972 := by
  have h := pw_add a 4986 4986
  rw [show 4986 + 4986 = 9972 by rfl, fermat a h1 h2] at h
  obtain ⟨b1, b2⟩ := pw_bd a 4986
  have := (two_roots 1 (pw a 4986) (by omega) (by omega) b1 b2 (by omega)).1 (by omega)
  omega
theorem half_square (a : Int) (h1 : 0 < a) (h2 : a < 9973) : pw (a * a % 9973) 4986 = 1 := by
  rw [pw_emod]
  unfold pw
  rw [sq_pow]
  exact fermat a h1 h2
end Go.Proofs.Ytcbpkjmmacgmfaa
