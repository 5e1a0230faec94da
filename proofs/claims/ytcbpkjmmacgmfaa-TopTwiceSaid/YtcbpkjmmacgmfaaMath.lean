/- Plain facts on numbers: powers in the prime field, remainders, greatest common divisors. No program in sight. -/
namespace Go.Proofs.Ytcbpkjmmacgmfaa

/-- A power in the prime field. -/
def pw (a : Int) (n : Nat) : Int := a ^ n % 9973

theorem mul_bd (x y p : Int) (hx0 : 0 ≤ x) (hx : x < p) (hy0 : 0 ≤ y) (hy : y < p) : 0 ≤ x * y ∧ x * y ≤ p * p :=
  ⟨Int.mul_nonneg hx0 hy0, Int.mul_le_mul (by omega) (by omega) hy0 (by omega)⟩
theorem emod_mul (x a p : Int) : x % p * a % p = x * a % p := by rw [Int.mul_emod, Int.emod_emod, ← Int.mul_emod]
theorem mul_emod' (x a p : Int) : a * (x % p) % p = a * x % p := by rw [Int.mul_emod, Int.emod_emod, ← Int.mul_emod]
theorem pw_zero (a : Int) : pw a 0 = 1 := by simp [pw]
theorem pw_bd (a : Int) (n : Nat) : 0 ≤ pw a n ∧ pw a n < 9973 := by unfold pw; omega
theorem pow_emod (a p : Int) (n : Nat) : (a % p) ^ n % p = a ^ n % p := by
  induction n with
  | zero => simp
  | succ n ih => rw [Int.pow_succ, Int.pow_succ, Int.mul_emod, ih, Int.emod_emod, ← Int.mul_emod]
theorem sq_pow (y : Int) (k : Nat) : (y * y) ^ k = y ^ (2 * k) := by
  rw [Int.pow_mul, show y ^ 2 = y * y by rw [Int.pow_succ, Int.pow_succ, Int.pow_zero, Int.one_mul]]
/-- One round of repeated squaring: an odd exponent. -/
theorem sq_odd (x y : Int) (m : Nat) (h : m % 2 = 1) : (x * y % 9973) * (y * y % 9973) ^ (m / 2) % 9973 = x * y ^ m % 9973 := by
  rw [Int.mul_emod, pow_emod, Int.emod_emod, ← Int.mul_emod, sq_pow, Int.mul_assoc, ← Int.pow_succ', show 2 * (m / 2) + 1 = m by omega]
theorem sq_even (x y : Int) (m : Nat) (h : m % 2 ≠ 1) : x * (y * y % 9973) ^ (m / 2) % 9973 = x * y ^ m % 9973 := by
  rw [Int.mul_emod, pow_emod, ← Int.mul_emod, sq_pow, show 2 * (m / 2) = m by omega]
theorem pw_add (a : Int) (n m : Nat) : pw a (n + m) = pw a n * pw a m % 9973 := by
  unfold pw; rw [Int.pow_add, Int.mul_emod]
theorem pw_emod (a : Int) (n : Nat) : pw (a % 9973) n = pw a n := pow_emod a 9973 n

end Go.Proofs.Ytcbpkjmmacgmfaa
