/- Systems of congruences gone through from the end; the order does not matter. No program in sight. -/
import Derived.Test.YtpamlngkhjnboaaCrtM
namespace Go.Proofs.Ytpamlngkhjnboaa
open Go.RowKit

theorem nth_reverse (L : List Int) (k : Nat) (h : k < L.length) : nth L.reverse k = nth L (L.length - 1 - k) := by
  unfold nth
  simp [List.getD, List.getElem?_reverse h]
theorem sol_reverse (r m : List Int) (h : r.length = m.length) (y : Int) : Sol r.reverse m.reverse m.length y ↔ Sol r m m.length y := by
  unfold Sol
  constructor
  · intro H i hi
    have := H (m.length - 1 - i) (by omega)
    rw [nth_reverse m _ (by omega), nth_reverse r _ (by omega), h, show m.length - 1 - (m.length - 1 - i) = i by omega] at this
    exact this
  · intro H i hi
    rw [nth_reverse m _ (by omega), nth_reverse r _ (by omega), h]
    exact H _ (by omega)
theorem crtOk_reverse {r m : List Int} (h : CrtOk r m) : CrtOk r.reverse m.reverse := by
  obtain ⟨h1, h2, h3⟩ := h
  refine ⟨by simpa using h1, by simpa using h2, fun k hk => ?_⟩
  simp at hk
  rw [nth_reverse m _ (by omega), nth_reverse r _ (by omega), h2]
  exact h3 _ (by omega)
theorem stp_dvd_iff (m : List Int) (z : Nat) : ∀ k, stp m k ∣ z ↔ ∀ i, i < k → (nth m i).toNat ∣ z := by
  intro k
  induction k with
  | zero => exact ⟨fun _ i hi => absurd hi (by omega), fun _ => Nat.one_dvd _⟩
  | succ k ih =>
    show Nat.lcm _ _ ∣ z ↔ _
    constructor
    · intro h i hi
      by_cases e : i = k
      · subst e; exact Nat.dvd_trans (Nat.dvd_lcm_right _ _) h
      · exact (ih.1 (Nat.dvd_trans (Nat.dvd_lcm_left _ _) h)) i (by omega)
    · intro h
      exact Nat.lcm_dvd (ih.2 fun i hi => h i (by omega)) (h k (by omega))
theorem stp_reverse (m : List Int) : stp m.reverse m.length = stp m m.length := by
  apply Nat.dvd_antisymm
  · rw [stp_dvd_iff]
    intro i hi
    rw [nth_reverse m i hi]
    exact dvd_stp m (by omega)
  · rw [stp_dvd_iff]
    intro i hi
    have := dvd_stp m.reverse (show m.length - 1 - i < m.length by omega)
    rw [nth_reverse m _ (by omega), show m.length - 1 - (m.length - 1 - i) = i by omega] at this
    exact this

section
variable {r m : List Int}
theorem seek_none' (h : CrtOk r m) {k n : Nat} (hk : k < n) (hn : n ≤ m.length) {x z : Int} {j : Nat} (hx : Sol r m k x) (hs : Seek x (stp m k) (nth m k) (nth r k) z j) (hj : nth m k ≤ j) : ∀ y', ¬ Sol r m n y' := by
  intro y' hy'
  have g := h.2.2 k (by omega)
  have h1 : Sol r m (k + 1) y' := fun i hi => hy' i (by omega)
  rw [sol_succ] at h1
  have h2 := (sol_iff h k (by omega) x hx y').1 h1.1
  obtain ⟨q, hq⟩ := (emod_eq_iff _ _ _).1 h2
  have hp : 0 ≤ q % nth m k ∧ q % nth m k < nth m k := ⟨Int.emod_nonneg _ (by omega), Int.emod_lt_of_pos _ (by omega)⟩
  have e : (x + ((q % nth m k).toNat : Int) * (stp m k : Int)) % nth m k = y' % nth m k := by
    have e1 : ((q % nth m k).toNat : Int) = q % nth m k := by omega
    have e2 := Int.emod_add_mul_ediv q (nth m k)
    have e3 : x + q % nth m k * (stp m k : Int) = y' - nth m k * (q / nth m k * (stp m k : Int)) := by
      have e4 : y' = x + (stp m k : Int) * q := by omega
      rw [e4]
      generalize q / nth m k = s at *
      generalize q % nth m k = u at *
      rw [← e2]
      grind
    rw [e1, e3, Int.sub_mul_emod_self_left]
  exact hs.2 (q % nth m k).toNat (by omega) (by rw [e]; exact h1.2)
theorem seek_found' (h : CrtOk r m) {k : Nat} (hk : k < m.length) {x z : Int} {j : Nat} (hx : Sol r m k x) (hs : Seek x (stp m k) (nth m k) (nth r k) z j) (hz : z % nth m k = nth r k) : Sol r m (k + 1) z := by
  rw [sol_succ]
  refine ⟨(sol_iff h k (by omega) x hx z).2 ?_, hz⟩
  rw [hs.1, Int.add_mul_emod_self_right]
theorem seek_bd (h : CrtOk r m) {k : Nat} (hk : k < m.length) {x z : Int} {j : Nat} (x1 : x < 100 ^ k) (hs : Seek x (stp m k) (nth m k) (nth r k) z j) (hj : (j : Int) < nth m k) : z < 100 ^ (k + 1) := by
  have g := h.2.2 k hk
  have hS := stp_le h k (by omega)
  have hS' : (stp m k : Int) ≤ 100 ^ k := by exact_mod_cast hS
  have hm : (j : Int) * (stp m k : Int) ≤ 99 * 100 ^ k := Int.mul_le_mul (by omega) hS' (by omega) (by omega)
  rw [hs.1, Int.pow_succ]
  omega
theorem hundred_bd {k : Nat} (hk : k ≤ 5) : (100 : Int) ^ k ≤ 10000000000 := by
  have : 100 ^ k ≤ 100 ^ 5 := Nat.pow_le_pow_right (by omega) hk
  have h2 : ((100 ^ k : Nat) : Int) ≤ ((100 ^ 5 : Nat) : Int) := by omega
  simpa using h2
/-- All that a round of the reference wants to know, its numbers under names of their own. -/
theorem ref_round (h : CrtOk r m) {k n : Nat} (hk : k < n) (hn : n ≤ m.length) {x : Int} {S : Nat} (hx : Sol r m k x) (x2 : x < 100 ^ k) (hS : S = stp m k) :
    ∃ (S' : Nat) (md rk : Int), Hid (md = nth m k) ∧ Hid (rk = nth r k) ∧ Hid (S' = stp m (k + 1)) ∧ 1 ≤ md ∧ md ≤ 100 ∧ 0 < S ∧ S ≤ 10000000000 ∧ x ≤ 10000000000 ∧ 1 ≤ (Int.gcd S md : Int) ∧
      0 ≤ (S : Int) / (Int.gcd S md : Int) ∧ (S : Int) / (Int.gcd S md : Int) ≤ 10000000000 ∧ 0 < (S : Int) / (Int.gcd S md : Int) * md ∧ (S : Int) / (Int.gcd S md : Int) * md ≤ 10000000000 ∧
      Hid ((S : Int) / (Int.gcd S md : Int) * md = S') ∧ Seek x S md rk x 0 ∧ Hid (∀ z (j : Nat), Seek x S md rk z j → (j : Int) < md → z % md = rk → Sol r m (k + 1) z ∧ z < 100 ^ (k + 1)) ∧ Hid (∀ z (j : Nat), Seek x S md rk z j → md ≤ j → ∀ y', ¬ Sol r m n y') := by
  subst hS
  obtain ⟨g1, g2, g3, g4⟩ := h.2.2 k (by omega)
  obtain ⟨s1, s2⟩ := stp_bd h k (by omega)
  obtain ⟨t1, t2⟩ := stp_bd h (k + 1) (by omega)
  have hb := hundred_bd (show k ≤ 5 by have := h.1; omega)
  have e : (stp m k : Int) / (Int.gcd (stp m k) (nth m k) : Int) * nth m k = (stp m (k + 1) : Int) := lcm_eq (stp m k) (nth m k) g1
  have q1 : 1 ≤ (Int.gcd (stp m k) (nth m k) : Int) := by
    have := Int.gcd_pos_of_ne_zero_left (nth m k) (show (stp m k : Int) ≠ 0 by omega); omega
  have q3 : (stp m k : Int) / (Int.gcd (stp m k) (nth m k) : Int) ≤ (stp m k : Int) := Int.ediv_le_self _ (by omega)
  exact ⟨stp m (k + 1), nth m k, nth r k, rfl, rfl, rfl, g1, g2, s1, s2, by omega, q1, Int.ediv_nonneg (by omega) (by omega), by omega, by omega, by omega, e, seek_zero _ _ _ _,
    fun z j hs hj hz => ⟨seek_found' h (by omega) hx hs hz, seek_bd h (by omega) x2 hs hj⟩, fun z j hs hj => seek_none' h hk hn hx hs hj⟩
end
end Go.Proofs.Ytpamlngkhjnboaa
