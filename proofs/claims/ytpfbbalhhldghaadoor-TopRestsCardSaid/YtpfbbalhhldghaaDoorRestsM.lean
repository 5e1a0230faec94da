/- Two congruences are met by Bezout's coefficients. No program in sight. -/
import Derived.Test.YtpfbbalhhldghaaDoorCrtM
import Derived.Test.YtpfbbalhhldghaaDoorEucM
namespace Go.Proofs.YtpfbbalhhldghaaDoor
open Go.RowKit

section
variable {a b m n : Int}
theorem rests_iff (ha : 0 ≤ a ∧ a < m) (hb : 0 ≤ b ∧ b < n) (z : Int) : Sol [a, b] [m, n] 2 z ↔ m ∣ z - a ∧ n ∣ z - b := by
  have e1 : a % m = a := Int.emod_eq_of_lt ha.1 ha.2
  have e2 : b % n = b := Int.emod_eq_of_lt hb.1 hb.2
  rw [← emod_eq_iff, ← emod_eq_iff, e1, e2]
  constructor
  · intro h; exact ⟨h 0 (by omega), h 1 (by omega)⟩
  · rintro ⟨h1, h2⟩ i hi
    match i, hi with
    | 0, _ => exact h1
    | 1, _ => exact h2
theorem rests_ok (ha : 0 ≤ a ∧ a < m) (hb : 0 ≤ b ∧ b < n) (hm : m ≤ 100) (hn : n ≤ 100) : CrtOk [a, b] [m, n] := by
  refine ⟨show 2 ≤ 5 by omega, rfl, fun k hk => ?_⟩
  have : k = 0 ∨ k = 1 := by simp at hk; omega
  rcases this with rfl | rfl
  · show 1 ≤ m ∧ m ≤ 100 ∧ 0 ≤ a ∧ a ≤ m - 1; omega
  · show 1 ≤ n ∧ n ≤ 100 ∧ 0 ≤ b ∧ b ≤ n - 1; omega
/-- There is one just if the divisor of both divides what the rests are apart. -/
theorem rests_has (ha : 0 ≤ a ∧ a < m) (hb : 0 ≤ b ∧ b < n) {x y g : Int} (hg : m * x + n * y = g) (hd : g ∣ a - b) : ∃ z, Sol [a, b] [m, n] 2 z := by
  obtain ⟨t, ht⟩ := hd
  refine ⟨a - m * x * t, (rests_iff ha hb _).2 ⟨⟨-(x * t), by grind⟩, ⟨y * t, ?_⟩⟩⟩
  rw [← hg] at ht
  grind
theorem rests_not (ha : 0 ≤ a ∧ a < m) (hb : 0 ≤ b ∧ b < n) {g z : Int} (h1 : g ∣ m) (h2 : g ∣ n) (h : Sol [a, b] [m, n] 2 z) : g ∣ a - b := by
  obtain ⟨d1, d2⟩ := (rests_iff ha hb z).1 h
  have := Int.dvd_sub (Int.dvd_trans h2 d2) (Int.dvd_trans h1 d1)
  rwa [show z - b - (z - a) = a - b by omega] at this
theorem rests_want (ha : 0 ≤ a ∧ a < m) (hb : 0 ≤ b ∧ b < n) {x y : Int} (hg : m * x + n * y = 1) : Sol [a, b] [m, n] 2 (a * n * y + b * m * x) := by
  refine (rests_iff ha hb _).2 ⟨⟨x * (b - a), ?_⟩, ⟨y * (a - b), ?_⟩⟩
  · rw [show a * n * y + b * m * x - a = a * (n * y - 1) + b * m * x by grind, show n * y - 1 = -(m * x) by omega]
    grind
  · rw [show a * n * y + b * m * x - b = b * (m * x - 1) + a * n * y by grind, show m * x - 1 = -(n * y) by omega]
    grind
theorem rests_stp (hm : 1 ≤ m) (hn : 1 ≤ n) (hg : Int.gcd m n = 1) : (stp [m, n] 2 : Int) = m * n := by
  obtain ⟨p, rfl⟩ := Int.eq_ofNat_of_zero_le (show 0 ≤ m by omega)
  obtain ⟨q, rfl⟩ := Int.eq_ofNat_of_zero_le (show 0 ≤ n by omega)
  have h : Nat.gcd p q = 1 := hg
  show ((Nat.lcm (Nat.lcm 1 p) q : Nat) : Int) = _
  rw [Nat.lcm_one_left, Nat.lcm, h, Nat.div_one]
  exact Int.natCast_mul p q
/-- A remainder made not negative. -/
theorem tmod_up {z M : Int} (hM : 0 < M) : (0 ≤ z.tmod M → z.tmod M = z % M) ∧ (z.tmod M < 0 → z.tmod M + M = z % M) := by
  have h1 := Int.lt_tmod_of_pos z hM
  have h2 := Int.tmod_lt_of_pos z hM
  have h3 : z % M = z.tmod M % M := by
    have e := Int.tmod_add_mul_tdiv z M
    conv => lhs; rw [← e]
    exact Int.add_mul_emod_self_left _ _ _
  refine ⟨fun h => by rw [h3]; exact (Int.emod_eq_of_lt h h2).symm, fun h => ?_⟩
  rw [h3, ← Int.add_emod_right]
  exact (Int.emod_eq_of_lt (by omega) (by omega)).symm
end
end Go.Proofs.YtpfbbalhhldghaaDoor
