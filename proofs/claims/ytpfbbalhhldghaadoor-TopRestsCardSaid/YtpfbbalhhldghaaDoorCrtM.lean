/- Systems of congruences: what solves them, by what all solutions are apart. No program in sight. -/
import Derived.Test.YtpfbbalhhldghaaDoorBase
namespace Go.Proofs.YtpfbbalhhldghaaDoor
open Go.RowKit

/-- y leaves the first k remainders. -/
def Sol (r m : List Int) (k : Nat) (y : Int) : Prop := ∀ i, i < k → y % nth m i = nth r i
/-- The least common multiple of the first k moduli. -/
def stp (m : List Int) : Nat → Nat
  | 0 => 1
  | k + 1 => Nat.lcm (stp m k) (nth m k).toNat
/-- A system that may be asked. -/
def CrtOk (r m : List Int) : Prop := m.length ≤ 5 ∧ r.length = m.length ∧ ∀ k, k < m.length → 1 ≤ nth m k ∧ nth m k ≤ 100 ∧ 0 ≤ nth r k ∧ nth r k ≤ nth m k - 1

theorem emod_eq_iff (d y z : Int) : z % d = y % d ↔ d ∣ z - y := by
  rw [Int.emod_eq_emod_iff_emod_sub_eq_zero, Int.dvd_iff_emod_eq_zero]
theorem lcm_emod (a b : Nat) (y z : Int) : z % (Nat.lcm a b : Int) = y % (Nat.lcm a b : Int) ↔ z % (a : Int) = y % (a : Int) ∧ z % (b : Int) = y % (b : Int) := by
  rw [emod_eq_iff, emod_eq_iff, emod_eq_iff, Int.ofNat_dvd_left, Int.ofNat_dvd_left, Int.ofNat_dvd_left]
  constructor
  · intro h
    exact ⟨Nat.dvd_trans (Nat.dvd_lcm_left a b) h, Nat.dvd_trans (Nat.dvd_lcm_right a b) h⟩
  · rintro ⟨h1, h2⟩
    exact Nat.lcm_dvd h1 h2
theorem sol_succ (r m : List Int) (k : Nat) (y : Int) : Sol r m (k + 1) y ↔ Sol r m k y ∧ y % nth m k = nth r k := by
  unfold Sol
  constructor
  · intro h
    exact ⟨fun i hi => h i (by omega), h k (by omega)⟩
  · rintro ⟨h1, h2⟩ i hi
    by_cases e : i = k
    · subst e; exact h2
    · exact h1 i (by omega)
section
variable {r m : List Int}
theorem stp_pos (h : CrtOk r m) : ∀ k, k ≤ m.length → 0 < stp m k := by
  intro k
  induction k with
  | zero => intro _; exact Nat.one_pos
  | succ k ih =>
    intro hk
    have := (h.2.2 k (by omega)).1
    exact Nat.lcm_pos (ih (by omega)) (by omega)
theorem stp_le (h : CrtOk r m) : ∀ k, k ≤ m.length → stp m k ≤ 100 ^ k := by
  intro k
  induction k with
  | zero => intro _; exact Nat.le_refl _
  | succ k ih =>
    intro hk
    have h1 := h.2.2 k (by omega)
    have h2 : Nat.lcm (stp m k) (nth m k).toNat ≤ stp m k * (nth m k).toNat := Nat.div_le_self _ _
    have h3 : stp m k * (nth m k).toNat ≤ 100 ^ k * 100 := Nat.mul_le_mul (ih (by omega)) (by omega)
    rw [Nat.pow_succ]
    exact Nat.le_trans h2 h3
theorem stp_bd (h : CrtOk r m) (k : Nat) (hk : k ≤ m.length) : 0 < stp m k ∧ stp m k ≤ 10000000000 := by
  refine ⟨stp_pos h k hk, Nat.le_trans (stp_le h k hk) ?_⟩
  have := h.1
  exact Nat.le_trans (Nat.pow_le_pow_right (by omega) (show k ≤ 5 by omega)) (by decide)
/-- ALL SOLUTIONS ARE CONGRUENT modulo the least common multiple, and what is congruent to a solution is one. -/
theorem sol_iff (h : CrtOk r m) : ∀ k, k ≤ m.length → ∀ y, Sol r m k y → ∀ z, Sol r m k z ↔ z % (stp m k : Int) = y % (stp m k : Int) := by
  intro k
  induction k with
  | zero =>
    intro _ y _ z
    have : (stp m 0 : Int) = 1 := rfl
    rw [this, Int.emod_one, Int.emod_one]
    exact ⟨fun _ => rfl, fun _ i hi => absurd hi (by omega)⟩
  | succ k ih =>
    intro hk y hy z
    have h1 := h.2.2 k (by omega)
    have e : ((nth m k).toNat : Int) = nth m k := by omega
    rw [sol_succ] at hy ⊢
    show _ ↔ z % (Nat.lcm (stp m k) (nth m k).toNat : Int) = y % (Nat.lcm (stp m k) (nth m k).toNat : Int)
    rw [lcm_emod, ih (by omega) y hy.1 z, e, hy.2]
theorem dvd_stp (m : List Int) {i k : Nat} (hi : i < k) : (nth m i).toNat ∣ stp m k := by
  induction k with
  | zero => omega
  | succ k ih =>
    by_cases e : i = k
    · subst e; exact Nat.dvd_lcm_right _ _
    · exact Nat.dvd_trans (ih (by omega)) (Nat.dvd_lcm_left _ _)
/-- If there is a solution y of the first k + 1 then one of x, x + step, x + 2 step .. (fewer than m of them) leaves the next remainder. -/
theorem seek_end {x step md y : Int} (hx : x = y % step) (t : Nat) (ht : (t : Int) = (y / step) % md) : (x + t * step) % md = y % md := by
  have e : x + t * step = y - md * ((y / step) / md * step) := by
    have h1 := Int.emod_add_mul_ediv y step
    have h2 := Int.emod_add_mul_ediv (y / step) md
    rw [hx, ht]
    generalize y / step = q at *
    generalize q / md = s at *
    generalize q % md = u at *
    generalize y % step = v at *
    subst h1
    rw [← h2]
    grind
  rw [e, Int.sub_mul_emod_self_left]
/-- The search so far: z is x and j steps more, and none of those before leaves the remainder. -/
def Seek (x S md rk z : Int) (j : Nat) : Prop := z = x + j * S ∧ ∀ i : Nat, i < j → (x + i * S) % md ≠ rk
theorem seek_zero (x S md rk : Int) : Seek x S md rk x 0 := ⟨by simp, fun i hi => absurd hi (by omega)⟩
theorem seek_next {x S md rk z : Int} {j : Nat} (h : Seek x S md rk z j) (hne : z % md ≠ rk) : Seek x S md rk (z + S) (j + 1) := by
  obtain ⟨h1, h2⟩ := h
  refine ⟨by rw [h1]; push_cast; grind, fun i hi => ?_⟩
  by_cases e : i = j
  · subst e; rw [← h1]; exact hne
  · exact h2 i (by omega)
/-- Where the search has gone through all there is no solution. -/
theorem seek_none (h : CrtOk r m) {k n : Nat} (hk : k < n) (hn : n ≤ m.length) {y z : Int} {j : Nat} (hy : Sol r m k y) (hs : Seek (y % (stp m k : Int)) (stp m k) (nth m k) (nth r k) z j) (hj : nth m k ≤ j) : ∀ y', ¬ Sol r m n y' := by
  intro y' hy'
  have g := h.2.2 k (by omega)
  have h1 : Sol r m (k + 1) y' := fun i hi => hy' i (by omega)
  rw [sol_succ] at h1
  have h2 := (sol_iff h k (by omega) y hy y').1 h1.1
  have hp : 0 ≤ (y' / (stp m k : Int)) % nth m k ∧ (y' / (stp m k : Int)) % nth m k < nth m k := ⟨Int.emod_nonneg _ (by omega), Int.emod_lt_of_pos _ (by omega)⟩
  have h3 := seek_end (x := y % (stp m k : Int)) (step := (stp m k : Int)) (md := nth m k) (y := y') h2.symm ((y' / (stp m k : Int)) % nth m k).toNat (by omega)
  exact hs.2 ((y' / (stp m k : Int)) % nth m k).toNat (by omega) (by rw [h3]; exact h1.2)
/-- Where the search has found one it solves the next congruence, too. -/
theorem seek_found (h : CrtOk r m) {k : Nat} (hk : k < m.length) {y z : Int} {j : Nat} (hy : Sol r m k y) (hs : Seek (y % (stp m k : Int)) (stp m k) (nth m k) (nth r k) z j) (hz : z % nth m k = nth r k) : Sol r m (k + 1) z := by
  rw [sol_succ]
  refine ⟨(sol_iff h k (by omega) y hy z).2 ?_, hz⟩
  rw [hs.1, Int.add_mul_emod_self_right, Int.emod_emod]
theorem lcm_eq (S : Nat) (md : Int) (hm : 1 ≤ md) : (S : Int) / (Int.gcd S md : Int) * md = (Nat.lcm S md.toNat : Int) := by
  obtain ⟨d, rfl⟩ := Int.eq_ofNat_of_zero_le (show 0 ≤ md by omega)
  have e : Int.gcd (S : Int) (d : Int) = Nat.gcd S d := rfl
  rw [e, Int.toNat_natCast]
  unfold Nat.lcm
  rw [← Int.natCast_ediv, ← Int.natCast_mul, Nat.mul_comm S d, Nat.mul_div_assoc d (Nat.gcd_dvd_left S d), Nat.mul_comm]
/-- All that a round of Solve wants to know, its numbers under names of their own. -/
theorem crt_round (h : CrtOk r m) {k n : Nat} (hk : k < n) (hn : n ≤ m.length) {y x : Int} {S : Nat} (hy : Sol r m k y) (hx : x = y % (stp m k : Int)) (hS : S = stp m k) :
    ∃ (S' : Nat) (md rk : Int), Hid (md = nth m k) ∧ Hid (rk = nth r k) ∧ Hid (S' = stp m (k + 1)) ∧ 1 ≤ md ∧ md ≤ 100 ∧ 0 < S ∧ S ≤ 10000000000 ∧ 0 ≤ x ∧ x < S ∧ 1 ≤ (Int.gcd S md : Int) ∧
      0 ≤ (S : Int) / (Int.gcd S md : Int) ∧ (S : Int) / (Int.gcd S md : Int) ≤ 10000000000 ∧ 0 < (S : Int) / (Int.gcd S md : Int) * md ∧ (S : Int) / (Int.gcd S md : Int) * md ≤ 10000000000 ∧
      Hid ((S : Int) / (Int.gcd S md : Int) * md = S') ∧ Seek x S md rk x 0 ∧ Hid (∀ z j, Seek x S md rk z j → z % md = rk → Sol r m (k + 1) z) ∧ Hid (∀ z (j : Nat), Seek x S md rk z j → md ≤ j → ∀ y', ¬ Sol r m n y') := by
  subst hx; subst hS
  obtain ⟨g1, g2, g3, g4⟩ := h.2.2 k (by omega)
  obtain ⟨s1, s2⟩ := stp_bd h k (by omega)
  obtain ⟨t1, t2⟩ := stp_bd h (k + 1) (by omega)
  have e : (stp m k : Int) / (Int.gcd (stp m k) (nth m k) : Int) * nth m k = (stp m (k + 1) : Int) := lcm_eq (stp m k) (nth m k) g1
  have q1 : 1 ≤ (Int.gcd (stp m k) (nth m k) : Int) := by
    have := Int.gcd_pos_of_ne_zero_left (nth m k) (show (stp m k : Int) ≠ 0 by omega); omega
  have q3 : (stp m k : Int) / (Int.gcd (stp m k) (nth m k) : Int) ≤ (stp m k : Int) := Int.ediv_le_self _ (by omega)
  exact ⟨stp m (k + 1), nth m k, nth r k, rfl, rfl, rfl, g1, g2, s1, s2, Int.emod_nonneg _ (by omega), Int.emod_lt_of_pos _ (by omega), q1, Int.ediv_nonneg (by omega) (by omega), by omega, by omega, by omega, e, seek_zero _ _ _ _,
    fun z j hs hz => seek_found h (by omega) hy hs hz, fun z j hs hj => seek_none h hk hn hy hs hj⟩
/-- The number of what is wrong with a system. -/
def crtE (r m : List Int) : Int := if 5 < m.length then 4 else if r.length ≠ m.length then 3 else 1
theorem crtE_full (h : 5 < m.length) : crtE r m = 4 := by unfold crtE; rw [if_pos h]
theorem crtE_shape (h : ¬ 5 < m.length) (h2 : r.length ≠ m.length) : crtE r m = 3 := by unfold crtE; rw [if_neg h, if_pos h2]
theorem crtE_range (h : ¬ 5 < m.length) (h2 : r.length = m.length) : crtE r m = 1 := by unfold crtE; rw [if_neg h, if_neg (by simp [h2])]
theorem crtE_ne : crtE r m ≠ 0 := by unfold crtE; split <;> (try split) <;> decide
end
end Go.Proofs.YtpfbbalhhldghaaDoor
