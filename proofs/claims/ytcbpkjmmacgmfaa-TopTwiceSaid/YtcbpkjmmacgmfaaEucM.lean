/- Plain facts on division steps (Euclid, Lame) and on coefficients (Bezout). No program in sight. -/
namespace Go.Proofs.Ytcbpkjmmacgmfaa

/-- How often one divides, by at most k steps. -/
def stF : Nat → Nat → Nat → Nat
  | 0, _, _ => 0
  | k + 1, a, b => if b = 0 then 0 else 1 + stF k b (a % b)
/-- How often one divides. -/
def st (a b : Nat) : Nat := stF (b + 1) a b
theorem stF_eq (k : Nat) : ∀ k' a b, b < k → b < k' → stF k a b = stF k' a b := by
  induction k with
  | zero => intro k' a b h; omega
  | succ k ih =>
    intro k' a b h h'
    obtain ⟨m, rfl⟩ : ∃ m, k' = m + 1 := ⟨k' - 1, by omega⟩
    unfold stF
    by_cases h0 : b = 0
    · rw [if_pos h0, if_pos h0]
    · rw [if_neg h0, if_neg h0]
      have := Nat.mod_lt a (show 0 < b by omega)
      rw [ih m b (a % b) (by omega) (by omega)]
theorem st_zero (a : Nat) : st a 0 = 0 := rfl
theorem st_pos {a b : Nat} (h : b ≠ 0) : st a b = 1 + st b (a % b) := by
  unfold st
  rw [stF, if_neg h]
  have := Nat.mod_lt a (show 0 < b by omega)
  rw [stF_eq b (a % b + 1) b (a % b) (by omega) (by omega)]
theorem st_ne {a b : Nat} (h : 1 ≤ st a b) : b ≠ 0 := by
  intro e; subst e; rw [st_zero] at h; omega
theorem st_flip {a b : Nat} (h : a < b) : st a b = 1 + st b a := by
  rw [st_pos (by omega), Nat.mod_eq_of_lt h]

/-- Fibonacci's numbers. -/
def fib : Nat → Nat
  | 0 => 0
  | 1 => 1
  | n + 2 => fib n + fib (n + 1)
theorem fib_two (n : Nat) : fib (n + 2) = fib n + fib (n + 1) := rfl
theorem fib_le (n : Nat) : fib n ≤ fib (n + 1) := by
  match n with
  | 0 => decide
  | m + 1 => rw [fib_two]; omega
theorem fib_dbl (n : Nat) : fib (n + 2) ≤ 2 * fib (n + 1) := by
  have := fib_two n
  have := fib_le n
  omega
theorem fib_ten (d : Nat) : 10 ^ d ≤ fib (5 * d + 2) := by
  induction d with
  | zero => decide
  | succ d ih =>
    rw [Nat.pow_succ]
    have h0 := fib_dbl (5 * d)
    have h1 := fib_two (5 * d)
    have h2 := fib_two (5 * d + 1)
    have h3 := fib_two (5 * d + 2)
    have h4 := fib_two (5 * d + 3)
    have h5 := fib_two (5 * d + 4)
    have h6 := fib_two (5 * d + 5)
    simp only [Nat.add_assoc, Nat.reduceAdd] at *
    rw [show 5 * (d + 1) + 2 = 5 * d + 7 by omega]
    omega

/-- Lame: who divides n times divides by no less than the row's number. -/
theorem lame (k : Nat) : ∀ a b n, b < k → b ≤ a → 1 ≤ n → n ≤ st a b → fib (n + 1) ≤ b := by
  induction k with
  | zero => intro a b n h; omega
  | succ k ih =>
    intro a b n hk hab h1 hn
    have hb : b ≠ 0 := st_ne (a := a) (by omega)
    rw [st_pos hb] at hn
    have hm := Nat.mod_lt a (show 0 < b by omega)
    match n, h1, hn with
    | 1, _, _ => rw [show fib (1 + 1) = 1 from rfl]; omega
    | 2, _, hn =>
      have hr : a % b ≠ 0 := st_ne (a := b) (by omega)
      rw [show fib (2 + 1) = 2 from rfl]; omega
    | n + 3, _, hn =>
      have hr : a % b ≠ 0 := st_ne (a := b) (by omega)
      have i1 := ih b (a % b) (n + 2) (by omega) (by omega) (by omega) (by omega)
      rw [st_pos hr] at hn
      have hm2 := Nat.mod_lt b (show 0 < a % b by omega)
      have i2 := ih (a % b) (b % (a % b)) (n + 1) (by omega) (by omega) (by omega) (by omega)
      have e := Nat.div_add_mod b (a % b)
      have q : 1 ≤ b / (a % b) := Nat.div_pos (by omega) (by omega)
      have q' : a % b * 1 ≤ a % b * (b / (a % b)) := Nat.mul_le_mul_left _ q
      have := fib_two (n + 2)
      simp only [Nat.add_assoc, Nat.reduceAdd] at *
      omega
theorem lame_ten {a b d : Nat} (hab : b ≤ a) (hb : b < 10 ^ d) : st a b ≤ 5 * d := by
  rcases Nat.lt_or_ge (5 * d) (st a b) with h | h
  · have := lame (b + 1) a b (5 * d + 1) (by omega) hab (by omega) (by omega)
    have := fib_ten d
    simp only [Nat.add_assoc, Nat.reduceAdd] at *
    omega
  · exact h
theorem fib31 : fib 31 = 1346269 := by simp [fib]
theorem fib32 : fib 32 = 2178309 := by simp [fib]
/-- No more than 30 divisions of numbers up to a million. -/
theorem st_le {a b : Nat} (ha : a ≤ 1000000) (hb : b ≤ 1000000) : st a b ≤ 30 := by
  rcases Nat.lt_or_ge 30 (st a b) with h | h
  · rcases Nat.lt_or_ge a b with hab | hab
    · rw [st_flip hab] at h
      have := lame (a + 1) b a 30 (by omega) (by omega) (by omega) (by omega)
      rw [fib31] at this; omega
    · have := lame (b + 1) a b 31 (by omega) hab (by omega) (by omega)
      rw [fib32] at this; omega
  · exact h
theorem st_none {a b : Nat} : st a b = 0 ↔ b = 0 := by
  constructor
  · intro h
    rcases Nat.eq_zero_or_pos b with h0 | h0
    · exact h0
    · rw [st_pos (by omega)] at h; omega
  · intro h; subst h; rfl

/-- What a divides b by and what is left, for numbers from 0 on. -/
theorem tdiv_nn {a b : Int} (ha : 0 ≤ a) : a.tdiv b = a / b := Int.tdiv_eq_ediv_of_nonneg ha

theorem dvd_cop {k m n : Int} (h : k ∣ m * n) (hc : Int.gcd k m = 1) : k ∣ n := by
  have h' := Int.natAbs_dvd_natAbs.2 h
  rw [Int.natAbs_mul] at h'
  exact Int.natAbs_dvd_natAbs.1 (Nat.Coprime.dvd_of_dvd_mul_left (k := k.natAbs) (m := m.natAbs) hc h')
/-- Bezout coefficients, the first one as small as can be. -/
def BezOk (a b x y : Int) : Prop :=
  (b = 0 → x = a.sign ∧ y = 0) ∧ (b ≠ 0 → 0 ≤ x ∧ x < (b.natAbs / Int.gcd a b : Nat) ∧ a * x + b * y = (Int.gcd a b : Nat))
theorem bez_uniq {a b x y x' y' : Int} (h : BezOk a b x y) (h' : BezOk a b x' y') : x = x' ∧ y = y' := by
  by_cases hb : b = 0
  · obtain ⟨h1, h2⟩ := h.1 hb
    obtain ⟨h3, h4⟩ := h'.1 hb
    exact ⟨h1.trans h3.symm, h2.trans h4.symm⟩
  · obtain ⟨x0, x1, e⟩ := h.2 hb
    obtain ⟨x0', x1', e'⟩ := h'.2 hb
    have g0 : 0 < Int.gcd a b := Int.gcd_pos_of_ne_zero_right _ hb
    have d1 : ((b.natAbs / Int.gcd a b : Nat) : Int) ∣ (x - x') := by
      have h1 : a * (x - x') = b * (y' - y) := by rw [Int.mul_sub, Int.mul_sub]; omega
      obtain ⟨u, hu⟩ := Int.gcd_dvd_left a b
      obtain ⟨v, hv⟩ := Int.gcd_dvd_right a b
      have hv' : b.natAbs / Int.gcd a b = v.natAbs := by
        have : b.natAbs = Int.gcd a b * v.natAbs := by
          conv => lhs; rw [hv, Int.natAbs_mul, Int.natAbs_natCast]
        rw [this, Nat.mul_div_cancel_left _ g0]
      rw [hv']
      have hgc : Int.gcd u v = 1 := by
        have := Int.gcd_mul_left (Int.gcd a b : Int) u v
        rw [← hu, ← hv, Int.natAbs_natCast] at this
        have h2 : Int.gcd a b * 1 = Int.gcd a b * Int.gcd u v := by rw [Nat.mul_one]; exact this
        exact (Nat.eq_of_mul_eq_mul_left g0 h2).symm
      have h3 : u * (x - x') = v * (y' - y) := by
        have h4 : (Int.gcd a b : Int) * (u * (x - x')) = (Int.gcd a b : Int) * (v * (y' - y)) := by
          rw [← Int.mul_assoc, ← Int.mul_assoc, ← hu, ← hv]; exact h1
        exact Int.eq_of_mul_eq_mul_left (by omega) h4
      have h5 : v ∣ u * (x - x') := ⟨_, h3⟩
      have h6 : v ∣ (x - x') := dvd_cop h5 (by rw [Int.gcd_comm]; exact hgc)
      exact Int.natAbs_dvd.2 h6
    have hx : x = x' := by
      obtain ⟨k, hk⟩ := d1
      generalize ((b.natAbs / Int.gcd a b : Nat) : Int) = m at *
      rcases Int.lt_trichotomy k 0 with hk0 | hk0 | hk0
      · have := Int.mul_le_mul_of_nonneg_left (show k ≤ -1 by omega) (show 0 ≤ m by omega)
        omega
      · subst hk0; omega
      · have := Int.mul_le_mul_of_nonneg_left (show 1 ≤ k by omega) (show 0 ≤ m by omega)
        omega
    subst hx
    refine ⟨rfl, ?_⟩
    exact Int.eq_of_mul_eq_mul_left hb (by omega)

/-- A number's parts without the greatest common divisor. -/
theorem gcd_parts (a b : Int) (hb : b ≠ 0) : ∃ g u v : Int, g = (Int.gcd a b : Nat) ∧ 0 < g ∧ a = g * u ∧ b = g * v ∧ Int.gcd u v = 1 ∧ v ≠ 0 ∧ ((b.natAbs / Int.gcd a b : Nat) : Int) = v.natAbs ∧ a.tdiv g = u := by
  have g0 : 0 < Int.gcd a b := Int.gcd_pos_of_ne_zero_right _ hb
  obtain ⟨u, hu⟩ := Int.gcd_dvd_left a b
  obtain ⟨v, hv⟩ := Int.gcd_dvd_right a b
  refine ⟨_, u, v, rfl, by omega, hu, hv, ?_, ?_, ?_, ?_⟩
  · have := Int.gcd_mul_left (Int.gcd a b : Int) u v
    rw [← hu, ← hv, Int.natAbs_natCast] at this
    have h2 : Int.gcd a b * 1 = Int.gcd a b * Int.gcd u v := by rw [Nat.mul_one]; exact this
    exact (Nat.eq_of_mul_eq_mul_left g0 h2).symm
  · intro h; subst h; simp at hv; exact hb hv
  · have : b.natAbs = Int.gcd a b * v.natAbs := by
      conv => lhs; rw [hv, Int.natAbs_mul, Int.natAbs_natCast]
    rw [this, Nat.mul_div_cancel_left _ g0]
  · exact Int.tdiv_eq_of_eq_mul_right (by omega) hu
/-- What is made of an inverse of the one part modulo the other. -/
theorem bez_fin {a b g u v x : Int} (hg : g = (Int.gcd a b : Nat)) (ha : a = g * u) (hb : b = g * v) (h0 : b ≠ 0) (hm : ((b.natAbs / Int.gcd a b : Nat) : Int) = v.natAbs)
    (hx0 : 0 ≤ x) (hx1 : x < v.natAbs) (hd : v ∣ u * x - 1) : BezOk a b x ((g - a * x).tdiv b) := by
  refine ⟨fun h => absurd h h0, fun _ => ⟨hx0, by rw [hm]; exact hx1, ?_⟩⟩
  obtain ⟨k, hk⟩ := hd
  have e : g - a * x = b * (-k) := by
    rw [hb, ha, show g - g * u * x = g * -(u * x - 1) by grind, hk]; grind
  rw [e, Int.mul_tdiv_cancel_left _ h0, ← hg]
  omega
/-- How great the coefficients are. -/
theorem bez_bd {a b x y : Int} (h : BezOk a b x y) (hb : b ≠ 0) : 0 ≤ x ∧ x < b.natAbs ∧ -(a.natAbs : Int) - 1 ≤ y ∧ y ≤ (a.natAbs : Int) + 1 := by
  obtain ⟨x0, x1, e⟩ := h.2 hb
  have h1 : b.natAbs / Int.gcd a b ≤ b.natAbs := Nat.div_le_self _ _
  have hx : x < b.natAbs := by omega
  have hg : Int.gcd a b ≤ b.natAbs := Nat.le_of_dvd (by omega) (Int.gcd_dvd_natAbs_right a b)
  refine ⟨x0, hx, ?_⟩
  have e2 : b.natAbs * y.natAbs ≤ b.natAbs + a.natAbs * b.natAbs := by
    have : (b * y).natAbs = ((Int.gcd a b : Nat) - a * x).natAbs := by congr 1; omega
    rw [← Int.natAbs_mul, this]
    have h2 : (a * x).natAbs ≤ a.natAbs * b.natAbs := by
      rw [Int.natAbs_mul]; exact Nat.mul_le_mul_left _ (by omega)
    omega
  have e3 : y.natAbs ≤ a.natAbs + 1 := by
    have : b.natAbs * y.natAbs ≤ b.natAbs * (a.natAbs + 1) := by rw [Nat.mul_add, Nat.mul_comm b.natAbs a.natAbs]; omega
    exact Nat.le_of_mul_le_mul_left this (by omega)
  omega
end Go.Proofs.Ytcbpkjmmacgmfaa
