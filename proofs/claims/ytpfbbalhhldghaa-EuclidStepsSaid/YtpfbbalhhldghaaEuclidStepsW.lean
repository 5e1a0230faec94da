/- The walk of the statement EuclidSteps: the law returns true for all arguments. -/
import Derived.Test.YtpfbbalhhldghaaEucS
namespace Go.Proofs.Ytpfbbalhhldghaa
open Go.RowKit

theorem esteps_bad (a b : Int) (w : World) (h : ¬ (0 ≤ a ∧ a ≤ 1000000 ∧ 0 ≤ b ∧ b ≤ 1000000)) :
    Calls Try.prog 4 #[.int .i64 a, .int .i64 b] w fun e w' => e = .returned (.bool true) ∧ Below w.heap.size w w' := by
  have H := Lib.hid h
  clear h
  go_enter Try.func4, Try.ntmps4
  go_wp2_with fail
  refine (c_euclidFact _).mono ?_
  rintro e w1 ⟨rfl, hb1⟩
  go_wp2_with fail
  refine (c_Steps_bad a b _ H.out).mono ?_
  rintro e w2 ⟨rfl, hb2⟩
  go_wp2
  go_ret
  exact ⟨rfl, hb1.trans (hb2.mono hb1.size)⟩
theorem cut_zero {m d : Nat} (h : m / 10 ^ d = 0) : m < 10 ^ d := (Nat.div_eq_zero_iff_lt (Nat.pow_pos (by omega))).1 h
theorem cut_small {m d : Nat} (h : m / 10 ^ d ≠ 0) (hm : m ≤ 1000000) : d ≤ 6 := by
  rcases Nat.lt_or_ge 6 d with h1 | h1
  · have h2 : 10 ^ 7 ≤ 10 ^ d := Nat.pow_le_pow_right (by omega) h1
    exact absurd (Nat.div_eq_of_lt (by omega)) h
  · exact h1
set_option maxHeartbeats 1000000 in
theorem esteps_ok (a b : Nat) (w : World) (ha : a ≤ 1000000) (hb : b ≤ 1000000) :
    Calls Try.prog 4 #[.int .i64 a, .int .i64 b] w fun e w' => e = .returned (.bool true) ∧ Below w.heap.size w w' := by
  obtain ⟨N, hN⟩ : ∃ N, N = st (max a b) (min a b) := ⟨_, rfl⟩
  have hs : N ≤ 30 := by rw [hN]; exact st_le (by omega) (by omega)
  have HL : Hid (∀ d, min a b < 10 ^ d → N ≤ 5 * d) := fun d hd => by rw [hN]; exact lame_ten (by omega) hd
  have hz : N = 0 ↔ min a b = 0 := by rw [hN]; exact st_none
  obtain ⟨m, hm⟩ : ∃ m, m = min a b := ⟨_, rfl⟩
  rw [← hm] at HL hz
  have hm1 : m ≤ 1000000 := by omega
  have HN := Lib.hid hN
  clear hN
  have hcase : (a ≤ b ∧ m = a) ∨ (b < a ∧ m = b) := by omega
  have hm0 : N = 0 ∧ a = 0 ∨ N = 0 ∧ ¬ a = 0 ∧ b = 0 ∨ ¬ N = 0 ∧ ¬ a = 0 ∧ ¬ b = 0 := by omega
  clear hm
  have hend : Hid (∀ d, m / 10 ^ d = 0 → N ≤ 5 * d) := fun d h => HL.out d (cut_zero h)
  have hcount : Hid (∀ d, m / 10 ^ d ≠ 0 → d ≤ 6) := fun d h => cut_small h hm1
  have hnext : Hid (∀ d, m / 10 ^ d / 10 = m / 10 ^ (d + 1)) := fun d => by rw [Nat.div_div_eq_div_mul, Nat.pow_succ]
  have H0 := Lib.hid hm0
  clear hz HL hm0
  rcases hcase with ⟨hc, hm⟩ | ⟨hc, hm⟩
  all_goals
    have HM := Lib.hid hm
    clear hm
    go_enter Try.func4, Try.ntmps4
    go_wp2_with fail
    refine (c_euclidFact _).mono ?_
    rintro e w1 ⟨rfl, hb1⟩
    go_wp2_with fail
    refine (c_Steps_ok a b _ ha hb).mono ?_
    rintro e w2 ⟨rfl, hb2⟩
    rw [← HN.out]
    have hb2 := hb1.trans (hb2.mono hb1.size)
    go_wp2
    go_loopw [8, 9] (fun u v wr => ∃ (d x : Nat), d ≤ 7 ∧ x ≤ 1000000 ∧ u = .int .i64 x ∧ v = .int .i64 d ∧ Hid (x = m / 10 ^ d) ∧ w2 = wr) (fun u _ _ => (intOf u).toNat)
    case atStart => first | exact ⟨0, a, by omega, by omega, rfl, rfl, (by rw [Hid, Nat.pow_zero, Nat.div_one, HM.out]), rfl⟩ | exact ⟨0, b, by omega, by omega, rfl, rfl, (by rw [Hid, Nat.pow_zero, Nat.div_one, HM.out]), rfl⟩
    case round =>
      obtain ⟨d, x, hd, hx, rfl, rfl, HX, rfl⟩ := hrel
      by_cases hx0 : x = 0
      · have h5 := hend.out d (by rw [← HX.out]; exact hx0)
        rcases H0.out with ⟨k1, k2⟩ | ⟨k1, k2, k3⟩ | ⟨k1, k2, k3⟩
        · have q1 : ((N : Int) == 0) = true := by simp [k1]
          have q2 : ((a : Int) == 0) = true := by simp [k2]
          have K1 := Lib.hid k1
          have K2 := Lib.hid k2
          clear k1 k2
          go_wp2
          go_ret
          exact ⟨rfl, hb2⟩
        · have q1 : ((N : Int) == 0) = true := by simp [k1]
          have q2 : ((a : Int) == 0) = false := by simp; omega
          have q3 : ((b : Int) == 0) = true := by simp [k3]
          have K1 := Lib.hid k1
          have K3 := Lib.hid k3
          clear k1 k3
          go_wp2
          go_ret
          exact ⟨rfl, hb2⟩
        · have q1 : ((N : Int) == 0) = false := by simp; omega
          have q2 : ((a : Int) == 0) = false := by simp; omega
          have q3 : ((b : Int) == 0) = false := by simp; omega
          go_wp2
          go_ret
          exact ⟨rfl, hb2⟩
      · have h6 := hcount.out d (by rw [← HX.out]; exact hx0)
        have HX' : Hid (x / 10 = m / 10 ^ (d + 1)) := by rw [Hid, HX.out]; exact hnext.out d
        go_wp2
        go_roundw
        case rel => exact ⟨d + 1, x / 10, by omega, by omega, by go_num, by go_num, HX'.out, trivial⟩
        case measure => simp [intOf]; omega
theorem frame_EuclidSteps (a b : Int) (w : World) (_ : Fits a) (_ : Fits b) :
    Calls Try.prog 4 #[.int .i64 a, .int .i64 b] w fun e w' => e = .returned (.bool true) ∧ Below w.heap.size w w' := by
  by_cases h : 0 ≤ a ∧ a ≤ 1000000 ∧ 0 ≤ b ∧ b ≤ 1000000
  · obtain ⟨x, rfl⟩ : ∃ x : Nat, a = x := ⟨a.toNat, by omega⟩
    obtain ⟨y, rfl⟩ : ∃ y : Nat, b = y := ⟨b.toNat, by omega⟩
    exact esteps_ok x y w (by omega) (by omega)
  · exact esteps_bad a b w h
end Go.Proofs.Ytpfbbalhhldghaa
