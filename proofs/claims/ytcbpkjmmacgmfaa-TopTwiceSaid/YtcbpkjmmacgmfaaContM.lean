/- Plain facts on continued fractions: terms, convergents, what is left. No program in sight. -/
import Derived.Test.YtcbpkjmmacgmfaaBase
import Derived.Test.YtcbpkjmmacgmfaaEucM
namespace Go.Proofs.Ytcbpkjmmacgmfaa

/-- The terms of a fraction, at most k. -/
def tmF : Nat → Nat → Nat → List Int
  | 0, _, _ => []
  | k + 1, a, b => if b = 0 then [] else ((a / b : Nat) : Int) :: tmF k b (a % b)
def tms (a b : Nat) : List Int := tmF (b + 1) a b
theorem tmF_eq (k : Nat) : ∀ k' a b, b < k → b < k' → tmF k a b = tmF k' a b := by
  induction k with
  | zero => intro k' a b h; omega
  | succ k ih =>
    intro k' a b h h'
    obtain ⟨m, rfl⟩ : ∃ m, k' = m + 1 := ⟨k' - 1, by omega⟩
    unfold tmF
    by_cases h0 : b = 0
    · rw [if_pos h0, if_pos h0]
    · rw [if_neg h0, if_neg h0]
      have := Nat.mod_lt a (show 0 < b by omega)
      rw [ih m b (a % b) (by omega) (by omega)]
theorem tms_zero (a : Nat) : tms a 0 = [] := rfl
theorem tms_pos {a b : Nat} (h : b ≠ 0) : tms a b = ((a / b : Nat) : Int) :: tms b (a % b) := by
  unfold tms
  rw [tmF, if_neg h]
  have := Nat.mod_lt a (show 0 < b by omega)
  rw [tmF_eq b (a % b + 1) b (a % b) (by omega) (by omega)]
theorem tms_len (k : Nat) : ∀ a b, b < k → (tms a b).length = st a b := by
  induction k with
  | zero => intro a b h; omega
  | succ k ih =>
    intro a b h
    by_cases h0 : b = 0
    · subst h0; rfl
    · have := Nat.mod_lt a (show 0 < b by omega)
      rw [tms_pos h0, st_pos h0, List.length_cons, ih b (a % b) (by omega)]
      omega
theorem tms_length (a b : Nat) : (tms a b).length = st a b := tms_len (b + 1) a b (by omega)

/-- What is left behind k terms: two numbers. -/
def rr (a b : Nat) : Nat → Nat × Nat
  | 0 => (a, b)
  | k + 1 => ((rr a b k).2, (rr a b k).1 % (rr a b k).2)
theorem rr_shift (a b k : Nat) : rr a b (k + 1) = rr b (a % b) k := by
  induction k with
  | zero => rfl
  | succ k ih =>
    have : rr a b (k + 1 + 1) = ((rr a b (k + 1)).2, (rr a b (k + 1)).1 % (rr a b (k + 1)).2) := rfl
    rw [this, ih]; rfl
theorem nth_cons_zero (x : Int) (L : List Int) : nth (x :: L) 0 = x := rfl
theorem nth_cons_succ (x : Int) (L : List Int) (k : Nat) : nth (x :: L) (k + 1) = nth L k := by unfold nth; simp [List.getD]
/-- The k-th term; and nothing is left behind all. -/
theorem tms_nth (k : Nat) : ∀ a b, k < st a b → (rr a b k).2 ≠ 0 ∧ nth (tms a b) k = (((rr a b k).1 / (rr a b k).2 : Nat) : Int) := by
  induction k with
  | zero =>
    intro a b h
    have hb : b ≠ 0 := st_ne (a := a) (by omega)
    exact ⟨hb, by rw [tms_pos hb, nth_cons_zero]; rfl⟩
  | succ k ih =>
    intro a b h
    have hb : b ≠ 0 := st_ne (a := a) (by omega)
    rw [st_pos hb] at h
    rw [rr_shift, tms_pos hb, nth_cons_succ]
    exact ih b (a % b) (by omega)
theorem rr_end (n : Nat) : ∀ a b, n = st a b → (rr a b n).2 = 0 := by
  induction n with
  | zero => intro a b h; exact st_none.1 h.symm
  | succ n ih =>
    intro a b h
    have hb : b ≠ 0 := st_ne (a := a) (by omega)
    rw [st_pos hb] at h
    rw [rr_shift]
    exact ih b (a % b) (by omega)
theorem rr_gcd (a b k : Nat) : Nat.gcd (rr a b k).1 (rr a b k).2 = Nat.gcd a b := by
  induction k with
  | zero => rfl
  | succ k ih =>
    rw [← ih]
    show Nat.gcd (rr a b k).2 ((rr a b k).1 % (rr a b k).2) = _
    rw [Nat.gcd_comm, ← Nat.gcd_rec, Nat.gcd_comm]
theorem rr_fst {a b k : Nat} (h : k < st a b) : 1 ≤ (rr a b (k + 1)).1 := by
  have := (tms_nth k a b h).1
  show 1 ≤ (rr a b k).2
  omega
theorem rr_lt {a b k : Nat} (h : k < st a b) : (rr a b (k + 1)).2 < (rr a b (k + 1)).1 := by
  have := (tms_nth k a b h).1
  show (rr a b k).1 % (rr a b k).2 < (rr a b k).2
  exact Nat.mod_lt _ (by omega)

/-- The last one and the one before it, from a start. -/
def cvn (L : List Int) (s t : Int) : Nat → Int × Int
  | 0 => (t, s)
  | k + 1 => (nth L k * (cvn L s t k).1 + (cvn L s t k).2, (cvn L s t k).1)
def cp (L : List Int) (k : Nat) : Int := (cvn L 0 1 k).1
def cp' (L : List Int) (k : Nat) : Int := (cvn L 0 1 k).2
def cq (L : List Int) (k : Nat) : Int := (cvn L 1 0 k).1
def cq' (L : List Int) (k : Nat) : Int := (cvn L 1 0 k).2
section
variable (L : List Int)
theorem cp_zero : cp L 0 = 1 := rfl
theorem cp'_zero : cp' L 0 = 0 := rfl
theorem cq_zero : cq L 0 = 0 := rfl
theorem cq'_zero : cq' L 0 = 1 := rfl
theorem cp_succ (k : Nat) : cp L (k + 1) = nth L k * cp L k + cp' L k := rfl
theorem cp'_succ (k : Nat) : cp' L (k + 1) = cp L k := rfl
theorem cq_succ (k : Nat) : cq L (k + 1) = nth L k * cq L k + cq' L k := rfl
theorem cq'_succ (k : Nat) : cq' L (k + 1) = cq L k := rfl
end
theorem cvn_take (L : List Int) (s t : Int) (m k : Nat) (h : k ≤ m) : cvn (L.take m) s t k = cvn L s t k := by
  induction k with
  | zero => rfl
  | succ k ih =>
    have : nth (L.take m) k = nth L k := by unfold nth; simp [List.getD, show k < m by omega]
    rw [cvn, cvn, ih (by omega), this]
/-- 1 or -1 by turns. -/
def sgn (k : Nat) : Int := if k % 2 = 0 then 1 else -1
theorem sgn_succ (k : Nat) : sgn (k + 1) = -sgn k := by
  unfold sgn
  rcases Nat.mod_two_eq_zero_or_one k with h | h
  · have h' : ¬ (k + 1) % 2 = 0 := by omega
    rw [if_pos h, if_neg h']
  · have h1 : ¬ k % 2 = 0 := by omega
    have h2 : (k + 1) % 2 = 0 := by omega
    rw [if_neg h1, if_pos h2]; rfl
theorem sgn_sq (k : Nat) : sgn k * sgn k = 1 := by unfold sgn; split <;> rfl
theorem cv_det (L : List Int) (k : Nat) : cp L k * cq' L k - cp' L k * cq L k = sgn k := by
  induction k with
  | zero => rfl
  | succ k ih =>
    rw [cp_succ, cp'_succ, cq_succ, cq'_succ, sgn_succ, ← ih]
    grind

/-- Terms that may be asked. -/
def TOk (L : List Int) : Prop := 1 ≤ L.length ∧ L.length ≤ 30 ∧ (0 ≤ nth L 0 ∧ nth L 0 ≤ 1000000) ∧ ∀ k, 1 ≤ k → k < L.length → 1 ≤ nth L k ∧ nth L k ≤ 1000000
theorem cv_bd {L : List Int} (h : TOk L) (k : Nat) (hk : k ≤ L.length) :
    0 ≤ cp L k ∧ 0 ≤ cp' L k ∧ 0 ≤ cq L k ∧ 0 ≤ cq' L k ∧ (1 ≤ k → 1 ≤ cq L k) ∧ (2 ≤ k → 1 ≤ cq' L k) ∧ (1 ≤ k → cq' L k ≤ cq L k) := by
  induction k with
  | zero => rw [cp_zero, cp'_zero, cq_zero, cq'_zero]; omega
  | succ k ih =>
    obtain ⟨i1, i2, i3, i4, i5, i6, i7⟩ := ih (by omega)
    rw [cp_succ, cp'_succ, cq_succ, cq'_succ]
    by_cases h0 : k = 0
    · subst h0
      have := h.2.2.1
      rw [cp_zero, cp'_zero, cq_zero, cq'_zero]
      omega
    · obtain ⟨t1, t2⟩ := h.2.2.2 k (by omega) (by omega)
      have m1 : 0 ≤ nth L k * cp L k := Int.mul_nonneg (by omega) i1
      have m2 : 1 * cq L k ≤ nth L k * cq L k := Int.mul_le_mul_of_nonneg_right t1 i3
      have := i5 (by omega)
      refine ⟨by omega, by omega, by omega, by omega, fun _ => by omega, fun _ => by omega, fun _ => by omega⟩
/-- What the terms make of what is left is the fraction. -/
theorem cv_rest (a b k : Nat) (hk : k ≤ st a b) :
    (a : Int) = cp (tms a b) k * ((rr a b k).1 : Int) + cp' (tms a b) k * ((rr a b k).2 : Int) ∧ (b : Int) = cq (tms a b) k * ((rr a b k).1 : Int) + cq' (tms a b) k * ((rr a b k).2 : Int) := by
  induction k with
  | zero => rw [cp_zero, cp'_zero, cq_zero, cq'_zero]; constructor <;> simp [rr]
  | succ k ih =>
    obtain ⟨h1, h2⟩ := ih (by omega)
    obtain ⟨_, e⟩ := tms_nth k a b (by omega)
    rw [cp_succ, cp'_succ, cq_succ, cq'_succ, e]
    have d := Nat.div_add_mod (rr a b k).1 (rr a b k).2
    have e1 : (rr a b (k + 1)).1 = (rr a b k).2 := rfl
    have e2 : (rr a b (k + 1)).2 = (rr a b k).1 % (rr a b k).2 := rfl
    rw [e1, e2]
    generalize (rr a b k).1 / (rr a b k).2 = t at *
    generalize (rr a b k).1 % (rr a b k).2 = r at *
    have d' : ((rr a b k).1 : Int) = ((rr a b k).2 : Int) * (t : Int) + (r : Int) := by rw [← d]; simp
    rw [d'] at h1 h2
    constructor
    · rw [h1]; grind
    · rw [h2]; grind
theorem tms_ok {a b : Nat} (ha : a ≤ 1000000) (hb : 1 ≤ b) (hb' : b ≤ 1000000) : TOk (tms a b) := by
  have hl := tms_length a b
  have h1 : 1 ≤ st a b := by rw [st_pos (by omega)]; omega
  refine ⟨by omega, by rw [hl]; exact st_le ha hb', ?_, fun k hk1 hk => ?_⟩
  · obtain ⟨_, e⟩ := tms_nth 0 a b (by omega)
    rw [e]
    show 0 ≤ ((a / b : Nat) : Int) ∧ ((a / b : Nat) : Int) ≤ 1000000
    have := Nat.div_le_self a b
    generalize a / b = t at *
    omega
  · obtain ⟨m, rfl⟩ : ∃ m, k = m + 1 := ⟨k - 1, by omega⟩
    obtain ⟨hn, e⟩ := tms_nth (m + 1) a b (by omega)
    have h2 := rr_lt (a := a) (b := b) (k := m) (by omega)
    have h3 : 1 ≤ (rr a b (m + 1)).1 / (rr a b (m + 1)).2 := Nat.div_pos (by omega) (by omega)
    have h4 := Nat.div_le_self (rr a b (m + 1)).1 (rr a b (m + 1)).2
    have h5 : ∀ j, (rr a b j).1 ≤ 1000000 ∧ (rr a b j).2 ≤ 1000000 := by
      intro j
      induction j with
      | zero => exact ⟨ha, hb'⟩
      | succ j ih => exact ⟨ih.2, Nat.le_trans (Nat.mod_le _ _) ih.1⟩
    have := (h5 (m + 1)).1
    rw [e]
    omega
theorem tms_cv {a b : Nat} (ha : a ≤ 1000000) (hb : 1 ≤ b) (hb' : b ≤ 1000000) (k : Nat) (h1 : 1 ≤ k) (hk : k ≤ (tms a b).length) : cp (tms a b) k ≤ 1000000 ∧ cq (tms a b) k ≤ 1000000 := by
  obtain ⟨b1, b2, b3, b4, _⟩ := cv_bd (tms_ok ha hb hb') k hk
  rw [tms_length] at hk
  obtain ⟨e1, e2⟩ := cv_rest a b k hk
  obtain ⟨m, rfl⟩ : ∃ m, k = m + 1 := ⟨k - 1, by omega⟩
  have hx := rr_fst (a := a) (b := b) (k := m) (by omega)
  have m1 := Int.mul_le_mul_of_nonneg_left (show (1 : Int) ≤ ((rr a b (m + 1)).1 : Int) by omega) b1
  have m2 := Int.mul_le_mul_of_nonneg_left (show (1 : Int) ≤ ((rr a b (m + 1)).1 : Int) by omega) b3
  have n1 := Int.mul_nonneg b2 (show (0 : Int) ≤ ((rr a b (m + 1)).2 : Int) by omega)
  have n2 := Int.mul_nonneg b4 (show (0 : Int) ≤ ((rr a b (m + 1)).2 : Int) by omega)
  omega
/-- The last convergent is the fraction in lowest terms. -/
theorem tms_last (a b : Nat) : cp (tms a b) (st a b) * (Nat.gcd a b : Nat) = a ∧ cq (tms a b) (st a b) * (Nat.gcd a b : Nat) = b := by
  obtain ⟨e1, e2⟩ := cv_rest a b (st a b) (Nat.le_refl _)
  have h0 := rr_end (st a b) a b rfl
  have hg := rr_gcd a b (st a b)
  rw [h0, Nat.gcd_zero_right] at hg
  rw [h0, hg] at e1 e2
  constructor <;> omega
/-- The last of several terms is greater than 1. -/
theorem tms_top {a b : Nat} (h : 2 ≤ st a b) : 1 < nth (tms a b) (st a b - 1) := by
  obtain ⟨m, hm⟩ : ∃ m, st a b = m + 2 := ⟨st a b - 2, by omega⟩
  have h0 := rr_end (m + 2) a b hm.symm
  obtain ⟨hn, e⟩ := tms_nth (m + 1) a b (by omega)
  rw [hm, show m + 2 - 1 = m + 1 by omega, e]
  have hl := rr_lt (a := a) (b := b) (k := m) (by omega)
  have h0' : (rr a b (m + 1)).1 % (rr a b (m + 1)).2 = 0 := h0
  have d := Nat.div_add_mod (rr a b (m + 1)).1 (rr a b (m + 1)).2
  rw [h0', Nat.add_zero] at d
  rcases Nat.lt_or_ge 1 ((rr a b (m + 1)).1 / (rr a b (m + 1)).2) with h1 | h1
  · omega
  · have := Nat.mul_le_mul_left (rr a b (m + 1)).2 h1
    omega
/-- The best of the first k. -/
def bst (L : List Int) (most : Int) : Nat → Int × Int
  | 0 => (0, 0)
  | k + 1 => if cq L (k + 1) ≤ most then (cp L (k + 1), cq L (k + 1)) else bst L most k
theorem bst_is {L : List Int} {most : Int} (hm : 1 ≤ most) (k : Nat) : ∃ j, 1 ≤ j ∧ j ≤ k + 1 ∧ bst L most (k + 1) = (cp L j, cq L j) ∧ cq L j ≤ most := by
  induction k with
  | zero =>
    refine ⟨1, by omega, by omega, ?_, ?_⟩
    · rw [bst, if_pos]; rw [cq_succ, cq_zero, cq'_zero]; omega
    · rw [cq_succ, cq_zero, cq'_zero]; omega
  | succ k ih =>
    by_cases h : cq L (k + 1 + 1) ≤ most
    · exact ⟨k + 1 + 1, by omega, by omega, by rw [bst, if_pos h], h⟩
    · obtain ⟨j, h1, h2, h3, h4⟩ := ih
      exact ⟨j, h1, by omega, by rw [bst, if_neg h]; exact h3, h4⟩
theorem natAbs_sgn (k : Nat) (x : Int) : (sgn k * x).natAbs = x.natAbs := by
  unfold sgn; split
  · rw [Int.one_mul]
  · rw [show (-1 : Int) * x = -x by omega, Int.natAbs_neg]
/-- Lagrange: no fraction with a denominator that is not greater is nearer. -/
theorem lagrange {a b j : Nat} (ha : a ≤ 1000000) (hb : 1 ≤ b) (hb' : b ≤ 1000000) (h1 : 1 ≤ j) (hj : j ≤ st a b) (hq : cq (tms a b) j ≠ 1) {p q : Int} (hq1 : 1 ≤ q) (hq2 : q ≤ cq (tms a b) j) :
    ((a : Int) * cq (tms a b) j - cp (tms a b) j * b).natAbs ≤ ((a : Int) * q - p * b).natAbs := by
  have hT := tms_ok ha hb hb'
  have hl := tms_length a b
  obtain ⟨e1, e2⟩ := cv_rest a b j hj
  have hd := cv_det (tms a b) j
  have D : ((a : Int) * cq (tms a b) j - cp (tms a b) j * b) = -(sgn j * ((rr a b j).2 : Int)) := by
    rw [e1, e2, ← hd]; grind
  rcases Nat.lt_or_ge j (st a b) with hlt | hge
  · obtain ⟨b1, b2, b3, b4, b5, b6, b7⟩ := cv_bd hT j (by omega)
    have hj2 : 2 ≤ j := by
      rcases Nat.lt_or_ge j 2 with h | h
      · obtain rfl : j = 1 := by omega
        exact absurd (show cq (tms a b) 1 = 1 by rw [cq_succ, cq_zero, cq'_zero]; omega) hq
      · exact h
    obtain ⟨f1, f2⟩ := cv_rest a b (j + 1) (by omega)
    have hd2 := cv_det (tms a b) (j + 1)
    have hs := sgn_succ j
    have hq3 : cq (tms a b) j + 1 ≤ cq (tms a b) (j + 1) := by
      rw [cq_succ]
      have t := (hT.2.2.2 j (by omega) (by omega)).1
      have := Int.mul_le_mul_of_nonneg_right t b3
      have := b6 hj2
      omega
    simp only [cp'_succ, cq'_succ] at f1 f2 hd2
    rw [D, Int.natAbs_neg, natAbs_sgn]
    have hss := sgn_sq j
    have hy : (rr a b (j + 1)).1 = (rr a b j).2 := rfl
    rw [hy] at f1 f2
    generalize (rr a b j).2 = y at *
    generalize (rr a b (j + 1)).2 = z at *
    generalize cp (tms a b) j = pk at *
    generalize cq (tms a b) j = qk at *
    generalize cp (tms a b) (j + 1) = pn at *
    generalize cq (tms a b) (j + 1) = qn at *
    generalize sgn (j + 1) = s' at *
    subst hs
    have hE : (a : Int) * q - p * b = -(sgn j * (sgn j * (p * qn - q * pn) * y - sgn j * (q * pk - p * qk) * z)) := by
      rw [f1, f2]; grind
    have hQ : q = sgn j * (p * qn - q * pn) * qk + sgn j * (q * pk - p * qk) * qn := by grind
    rw [hE, Int.natAbs_neg, natAbs_sgn]
    generalize sgn j * (p * qn - q * pn) = u at *
    generalize sgn j * (q * pk - p * qk) = v at *
    have hqk : 1 ≤ qk := b5 (by omega)
    have hy0 : (0 : Int) ≤ (y : Int) := by omega
    have hz0 : (0 : Int) ≤ (z : Int) := by omega
    rcases Int.lt_trichotomy v 0 with hv | hv | hv
    · have hu : 1 ≤ u := by
        rcases Int.lt_or_le 0 u with h | h
        · omega
        · have := Int.mul_le_mul_of_nonneg_right h (show 0 ≤ qk by omega)
          have := Int.mul_le_mul_of_nonneg_right (show v ≤ 0 by omega) (show 0 ≤ qn by omega)
          omega
      have m1 := Int.mul_le_mul_of_nonneg_right hu hy0
      have m2 := Int.mul_le_mul_of_nonneg_right (show v ≤ 0 by omega) hz0
      omega
    · subst hv
      have hu : 1 ≤ u := by
        rcases Int.lt_or_le 0 u with h | h
        · omega
        · have := Int.mul_le_mul_of_nonneg_right h (show 0 ≤ qk by omega)
          omega
      have m1 := Int.mul_le_mul_of_nonneg_right hu hy0
      omega
    · have m0 := Int.mul_le_mul_of_nonneg_right (show 1 ≤ v by omega) (show 0 ≤ qn by omega)
      have hu : u ≤ -1 := by
        rcases Int.lt_or_le u 0 with h | h
        · omega
        · have := Int.mul_nonneg h (show 0 ≤ qk by omega)
          omega
      have m1 := Int.mul_le_mul_of_nonneg_right hu hy0
      have m2 := Int.mul_le_mul_of_nonneg_right (show 0 ≤ v by omega) hz0
      omega
  · obtain rfl : j = st a b := by omega
    rw [D, rr_end (st a b) a b rfl]
    simp
end Go.Proofs.Ytcbpkjmmacgmfaa
