/- The walk of the statement EuclidBezout: the law returns true for all arguments. -/
import Derived.Test.YtpfbbalhhldghaaEucS
namespace Go.Proofs.Ytpfbbalhhldghaa
open Go.RowKit

theorem ebez_bad (a b d : Int) (w : World) (h : ¬ (-1000000 ≤ a ∧ a ≤ 1000000 ∧ -1000000 ≤ b ∧ b ≤ 1000000)) :
    Calls Try.prog 3 #[.int .i64 a, .int .i64 b, .int .i64 d] w fun e w' => e = .returned (.bool true) ∧ Below w.heap.size w w' := by
  have H := Lib.hid h
  clear h
  go_enter Try.func3, Try.ntmps3
  go_wp2_with fail
  refine (c_euclidFact _).mono ?_
  rintro e w1 ⟨rfl, hb1⟩
  go_wp2_with fail
  refine (c_Bezout_bad a b _ H.out).mono ?_
  rintro e w2 ⟨rfl, hb2⟩
  go_wp2
  go_ret
  exact ⟨rfl, hb1.trans (hb2.mono hb1.size)⟩
/-- What the law asks of the coefficients. -/
theorem ebez_facts {a b x y : Int} (h : BezOk a b x y) (ha : -1000000 ≤ a ∧ a ≤ 1000000 ∧ -1000000 ≤ b ∧ b ≤ 1000000) :
    (0 ≤ x + 1 ∧ x ≤ 1000000) ∧ (-2000000 ≤ y ∧ y ≤ 2000000) ∧ (-1000000000000 ≤ a * x ∧ a * x ≤ 1000000000000) ∧ (-10000000000000 ≤ b * y ∧ b * y ≤ 10000000000000) ∧ a * x + b * y = (Int.gcd a b : Nat) := by
  by_cases hb : b = 0
  · obtain ⟨rfl, rfl⟩ := h.1 hb
    subst hb
    rw [Int.mul_sign_self, Int.gcd_zero_right]
    have : -1 ≤ a.sign ∧ a.sign ≤ 1 := by
      rcases Int.lt_trichotomy a 0 with h | h | h
      · rw [Int.sign_eq_neg_one_of_neg h]; omega
      · subst h; decide
      · rw [Int.sign_eq_one_of_pos h]; omega
    omega
  · obtain ⟨b1, b2, b3, b4⟩ := bez_bd h hb
    have e := (h.2 hb).2.2
    have g := gcd_small ha.1 ha.2.1 ha.2.2.1 ha.2.2.2
    have ax : -1000000000000 ≤ a * x ∧ a * x ≤ 1000000000000 := by
      have : (a * x).natAbs = a.natAbs * x.natAbs := Int.natAbs_mul _ _
      have h2 := Nat.mul_le_mul (show a.natAbs ≤ 1000000 by omega) (show x.natAbs ≤ 1000000 by omega)
      omega
    omega
theorem tmod_zero_iff (a d : Int) : a.tmod d = 0 ↔ d ∣ a := Int.dvd_iff_tmod_eq_zero.symm
set_option maxHeartbeats 1000000 in
theorem ebez_ok (a b d : Int) (w : World) (h : -1000000 ≤ a ∧ a ≤ 1000000 ∧ -1000000 ≤ b ∧ b ≤ 1000000) :
    Calls Try.prog 3 #[.int .i64 a, .int .i64 b, .int .i64 d] w fun e w' => e = .returned (.bool true) ∧ Below w.heap.size w w' := by
  go_enter Try.func3, Try.ntmps3
  go_wp2_with fail
  refine (c_euclidFact _).mono ?_
  rintro e w1 ⟨rfl, hb1⟩
  go_wp2_with fail
  refine (c_Bezout_ok a b _ h).mono ?_
  rintro e w2 ⟨⟨x, y, rfl, hB⟩, hb2⟩
  have hb := hb1.trans (hb2.mono hb1.size)
  obtain ⟨⟨x1, x2⟩, ⟨y1, y2⟩, ⟨p1, p2⟩, ⟨q1, q2⟩, e⟩ := ebez_facts hB h
  have i1 : inB x (-1) 1000000 = true := by unfold inB; simp; omega
  have i2 : inB y (-2000000) 2000000 = true := by unfold inB; simp; omega
  obtain ⟨g, hg⟩ : ∃ g : Nat, g = Int.gcd a b := ⟨_, rfl⟩
  rw [← hg] at e ⊢
  have e' : (a * x + b * y != (g : Int)) = false := by simp [e]
  have HG := Lib.hid hg
  have HE := Lib.hid e
  clear hB hb1 hb2 hg e
  by_cases hg0 : g = 0
  · have e0 : Int.gcd a b = 0 := by rw [← HG.out]; exact hg0
    obtain ⟨rfl, rfl⟩ := Int.gcd_eq_zero_iff.1 e0
    subst hg0
    clear e0
    go_wp2_with (go_at_call 12; refine (c_in _ _ _ _).mono ?_; rintro e w' ⟨rfl, rfl⟩)
    go_ret
    exact ⟨rfl, hb⟩
  · have g1 : ((g : Int) == 0) = false := by simp; omega
    have g2 : ¬ (g : Int) = 0 := by omega
    have g3 : a.tmod (g : Int) = 0 := by rw [HG.out]; exact (tmod_zero_iff _ _).2 (Int.gcd_dvd_left a b)
    have g4 : b.tmod (g : Int) = 0 := by rw [HG.out]; exact (tmod_zero_iff _ _).2 (Int.gcd_dvd_right a b)
    by_cases hd : d = 0
    · subst hd
      go_wp2_with (go_at_call 12; refine (c_in _ _ _ _).mono ?_; rintro e w' ⟨rfl, rfl⟩)
      go_ret
      exact ⟨rfl, hb⟩
    · have d1 : (d == 0) = false := by simp [hd]
      by_cases ha : a.tmod d = 0
      · have a1 : (a.tmod d != 0) = false := by simp [ha]
        by_cases hb' : b.tmod d = 0
        · have b1 : (b.tmod d != 0) = false := by simp [hb']
          have c1 : (g : Int).tmod d = 0 := by
            rw [HG.out]
            exact (tmod_zero_iff _ _).2 (Int.dvd_coe_gcd ((tmod_zero_iff _ _).1 ha) ((tmod_zero_iff _ _).1 hb'))
          have c2 : (g : Int) % d = 0 := by rw [← Int.tmod_eq_emod_of_nonneg (by omega)]; exact c1
          have HA := Lib.hid ha
          have HB := Lib.hid hb'
          clear c1 ha hb'
          go_wp2_with (go_at_call 12; refine (c_in _ _ _ _).mono ?_; rintro e w' ⟨rfl, rfl⟩)
          go_ret
          exact ⟨rfl, hb⟩
        · have b1 : (b.tmod d != 0) = true := by simp [hb']
          have HA := Lib.hid ha
          have HB := Lib.hid hb'
          clear ha hb'
          go_wp2_with (go_at_call 12; refine (c_in _ _ _ _).mono ?_; rintro e w' ⟨rfl, rfl⟩)
          go_ret
          exact ⟨rfl, hb⟩
      · have a1 : (a.tmod d != 0) = true := by simp [ha]
        have HA := Lib.hid ha
        clear ha
        go_wp2_with (go_at_call 12; refine (c_in _ _ _ _).mono ?_; rintro e w' ⟨rfl, rfl⟩)
        go_ret
        exact ⟨rfl, hb⟩
theorem frame_EuclidBezout (a b d : Int) (w : World) (_ : Fits a) (_ : Fits b) (_ : Fits d) :
    Calls Try.prog 3 #[.int .i64 a, .int .i64 b, .int .i64 d] w fun e w' => e = .returned (.bool true) ∧ Below w.heap.size w w' := by
  by_cases h : -1000000 ≤ a ∧ a ≤ 1000000 ∧ -1000000 ≤ b ∧ b ≤ 1000000
  · exact ebez_ok a b d w h
  · exact ebez_bad a b d w h
end Go.Proofs.Ytpfbbalhhldghaa
