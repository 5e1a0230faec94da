/- The walk of the statement FieldSquares: the law returns true for all arguments. -/
import Derived.Test.YtpamlngkhjnboaaField
namespace Go.Proofs.Ytpamlngkhjnboaa
open Go.RowKit

theorem squares_bad (a b : Int) (w : World) (h : ¬ (0 ≤ a ∧ a ≤ 9972)) :
    Calls Try.prog 8 #[.int .i64 a, .int .i64 b] w fun e w' => e = .returned (.bool true) ∧ Below w.heap.size w w' := by
  have hi : inB a 0 9972 = false := by unfold inB; simp; omega
  have H := Lib.hid h
  clear h
  go_enter Try.func8, Try.ntmps8
  go_wp2_with (first | (go_at_call 16; refine (c_fieldFact _).mono ?_; rintro e w1 ⟨rfl, hb1⟩) | (go_at_call 17; refine (c_Pow_bad _ _ _ (by have := H.out; omega)).mono ?_; rintro e w2 ⟨rfl, hb2⟩) | (go_at_call 12; refine (c_in _ _ _ _).mono ?_; rintro e w' ⟨rfl, rfl⟩))
  go_ret
  exact ⟨rfl, hb1.trans (hb2.mono hb1.size)⟩
theorem squares_zero (b : Int) (w : World) :
    Calls Try.prog 8 #[.int .i64 0, .int .i64 b] w fun e w' => e = .returned (.bool true) ∧ Below w.heap.size w w' := by
  have hp : pw 0 4986 = 0 := pw_zero_base _ (by omega)
  go_enter Try.func8, Try.ntmps8
  go_wp2_with (first | (go_at_call 16; refine (c_fieldFact _).mono ?_; rintro e w1 ⟨rfl, hb1⟩) | (go_at_call 17; refine (c_Pow_ok _ 4986 _ (by omega)).mono ?_; rintro e w2 ⟨rfl, hb2⟩))
  go_ret
  exact ⟨rfl, hb1.trans (hb2.mono hb1.size)⟩
theorem squares_far (a b : Int) (w : World) (h1 : 0 < a) (h2 : a ≤ 9972) (h : ¬ (0 ≤ b ∧ b ≤ 9972)) :
    Calls Try.prog 8 #[.int .i64 a, .int .i64 b] w fun e w' => e = .returned (.bool true) ∧ Below w.heap.size w w' := by
  have hi : inB b 0 9972 = false := by unfold inB; simp; omega
  have hs := half_square a h1 (by omega)
  have bs : 0 ≤ a * a % 9973 ∧ a * a % 9973 ≤ 9972 := by omega
  have H := Lib.hid h
  clear h
  rcases half_power a h1 (by omega) with hp | hp
  all_goals
    go_enter Try.func8, Try.ntmps8
    go_wp2_with (go_at_call 16; refine (c_fieldFact _).mono ?_; rintro e w1 ⟨rfl, hb1⟩)
    refine (c_Pow_ok _ 4986 _ (by omega)).mono ?_
    rintro e w2 ⟨rfl, hb2⟩
    go_wp2_with fail
    refine (c_mul_ok _ _ _ (by omega)).mono ?_
    rintro e w3 ⟨rfl, hb3⟩
    go_wp2_with fail
    refine (c_Pow_ok _ 4986 _ (by omega)).mono ?_
    rintro e w4 ⟨rfl, hb4⟩
    go_wp2_with (go_at_call 12; refine (c_in _ _ _ _).mono ?_; rintro e w' ⟨rfl, rfl⟩)
    go_ret
    have s1 := hb1.trans (hb2.mono hb1.size)
    have s2 := s1.trans (hb3.mono s1.size)
    exact ⟨rfl, s2.trans (hb4.mono s2.size)⟩
theorem squares_near (a b : Int) (w : World) (h1 : 0 < a) (h2 : a ≤ 9972) (h3 : 0 ≤ b) (h4 : b ≤ 9972) :
    Calls Try.prog 8 #[.int .i64 a, .int .i64 b] w fun e w' => e = .returned (.bool true) ∧ Below w.heap.size w w' := by
  have hi : inB b 0 9972 = true := by unfold inB; simp; omega
  have hs := half_square a h1 (by omega)
  have bs : 0 ≤ a * a % 9973 ∧ a * a % 9973 ≤ 9972 := by omega
  have ht := two_roots a b (by omega) (by omega) (by omega) (by omega) (by omega)
  have hc : (b * b % 9973 == a * a % 9973) = true ∧ (b == a) = true ∨ (b * b % 9973 == a * a % 9973) = true ∧ (b == a) = false ∧ (b == 9973 - a) = true ∨ (b * b % 9973 == a * a % 9973) = false ∧ (b == a) = false ∧ (b == 9973 - a) = false := by
    simp only [beq_iff_eq, beq_eq_false_iff_ne, ne_eq]
    rw [ht]
    by_cases q1 : b = a
    · exact .inl ⟨.inl q1, q1⟩
    · by_cases q2 : b = 9973 - a
      · exact .inr (.inl ⟨.inr q2, q1, q2⟩)
      · exact .inr (.inr ⟨fun h => h.elim q1 q2, q1, q2⟩)
  clear ht
  rcases hc with ⟨k1, k2⟩ | ⟨k1, k2, k3⟩ | ⟨k1, k2, k3⟩
  all_goals
    rcases half_power a h1 (by omega) with hp | hp
    all_goals
      go_enter Try.func8, Try.ntmps8
      go_wp2_with (go_at_call 16; refine (c_fieldFact _).mono ?_; rintro e w1 ⟨rfl, hb1⟩)
      refine (c_Pow_ok _ 4986 _ (by omega)).mono ?_
      rintro e w2 ⟨rfl, hb2⟩
      go_wp2_with fail
      refine (c_mul_ok _ _ _ (by omega)).mono ?_
      rintro e w3 ⟨rfl, hb3⟩
      go_wp2_with fail
      refine (c_Pow_ok _ 4986 _ (by omega)).mono ?_
      rintro e w4 ⟨rfl, hb4⟩
      go_wp2_with (go_at_call 12; refine (c_in _ _ _ _).mono ?_; rintro e w' ⟨rfl, rfl⟩)
      refine (c_mul_ok _ _ _ (by omega)).mono ?_
      rintro e w5 ⟨rfl, hb5⟩
      go_wp2
      go_ret
      have s1 := hb1.trans (hb2.mono hb1.size)
      have s2 := s1.trans (hb3.mono s1.size)
      have s3 := s2.trans (hb4.mono s2.size)
      exact ⟨rfl, s3.trans (hb5.mono s3.size)⟩
theorem frame_FieldSquares (a b : Int) (w : World) (_ : Fits a) (_ : Fits b) :
    Calls Try.prog 8 #[.int .i64 a, .int .i64 b] w fun e w' => e = .returned (.bool true) ∧ Below w.heap.size w w' := by
  by_cases h : 0 ≤ a ∧ a ≤ 9972
  · by_cases h0 : a = 0
    · subst h0; exact squares_zero b w
    · by_cases h' : 0 ≤ b ∧ b ≤ 9972
      · exact squares_near a b w (by omega) h.2 h'.1 h'.2
      · exact squares_far a b w (by omega) h.2 h'
  · exact squares_bad a b w h
end Go.Proofs.Ytpamlngkhjnboaa
