/- The walk of the statement FieldFermat: the law returns true for all arguments. -/
import Derived.Test.YtpamlngkhjnboaaField
namespace Go.Proofs.Ytpamlngkhjnboaa
open Go.RowKit

theorem fermat_law_bad (a n m : Int) (w : World) (h : ¬ (0 ≤ a ∧ a ≤ 9972)) :
    Calls Try.prog 7 #[.int .i64 a, .int .i64 n, .int .i64 m] w fun e w' => e = .returned (.bool true) ∧ Below w.heap.size w w' := by
  have hi : inB a 0 9972 = false := by unfold inB; simp; omega
  have H := Lib.hid h
  clear h
  go_enter Try.func7, Try.ntmps7
  go_wp2_with (first | (go_at_call 16; refine (c_fieldFact _).mono ?_; rintro e w1 ⟨rfl, hb1⟩) | (go_at_call 17; refine (c_Pow_bad _ _ _ (by have := H.out; omega)).mono ?_; rintro e w2 ⟨rfl, hb2⟩) | (go_at_call 12; refine (c_in _ _ _ _).mono ?_; rintro e w' ⟨rfl, rfl⟩))
  go_ret
  exact ⟨rfl, hb1.trans (hb2.mono hb1.size)⟩

theorem fermat_law_far (a n m : Int) (w : World) (h1 : 0 ≤ a) (h2 : a ≤ 9972) (h : ¬ (0 ≤ n ∧ n ≤ 500000 ∧ 0 ≤ m ∧ m ≤ 500000)) :
    Calls Try.prog 7 #[.int .i64 a, .int .i64 n, .int .i64 m] w fun e w' => e = .returned (.bool true) ∧ Below w.heap.size w w' := by
  have hz : a = 0 ∧ pw a 9972 = 0 ∨ ¬ a = 0 ∧ pw a 9972 = 1 := by
    by_cases h0 : a = 0
    · subst h0; exact .inl ⟨rfl, pw_zero_base _ (by omega)⟩
    · exact .inr ⟨h0, fermat a (by omega) (by omega)⟩
  rcases hz with ⟨rfl, hp⟩ | ⟨h0, hp⟩
  all_goals
    by_cases hn : 0 ≤ n ∧ n ≤ 500000
    · have hi : inB n 0 500000 = true := by unfold inB; simp; omega
      have hi2 : inB m 0 500000 = false := by unfold inB; simp; omega
      have H := Lib.hid h
      clear h hn
      go_enter Try.func7, Try.ntmps7
      go_wp2_with (first | (go_at_call 16; refine (c_fieldFact _).mono ?_; rintro e w1 ⟨rfl, hb1⟩) | (go_at_call 17; refine (c_Pow_ok _ 9972 _ (by omega)).mono ?_; rintro e w2 ⟨rfl, hb2⟩) | (go_at_call 12; refine (c_in _ _ _ _).mono ?_; rintro e w' ⟨rfl, rfl⟩))
      go_ret
      exact ⟨rfl, hb1.trans (hb2.mono hb1.size)⟩
    · have hi : inB n 0 500000 = false := by unfold inB; simp; omega
      have H := Lib.hid h
      clear h hn
      go_enter Try.func7, Try.ntmps7
      go_wp2_with (first | (go_at_call 16; refine (c_fieldFact _).mono ?_; rintro e w1 ⟨rfl, hb1⟩) | (go_at_call 17; refine (c_Pow_ok _ 9972 _ (by omega)).mono ?_; rintro e w2 ⟨rfl, hb2⟩) | (go_at_call 12; refine (c_in _ _ _ _).mono ?_; rintro e w' ⟨rfl, rfl⟩))
      go_ret
      exact ⟨rfl, hb1.trans (hb2.mono hb1.size)⟩

theorem fermat_law_near (a : Int) (n m : Nat) (w : World) (h1 : 0 ≤ a) (h2 : a ≤ 9972) (hn : n ≤ 500000) (hm : m ≤ 500000) :
    Calls Try.prog 7 #[.int .i64 a, .int .i64 n, .int .i64 m] w fun e w' => e = .returned (.bool true) ∧ Below w.heap.size w w' := by
  have hz : a = 0 ∧ pw a 9972 = 0 ∨ ¬ a = 0 ∧ pw a 9972 = 1 := by
    by_cases h0 : a = 0
    · subst h0; exact .inl ⟨rfl, pw_zero_base _ (by omega)⟩
    · exact .inr ⟨h0, fermat a (by omega) (by omega)⟩
  have bn := pw_bd a n
  have bm := pw_bd a m
  have hi : inB n 0 500000 = true := by unfold inB; simp; omega
  have hi2 : inB m 0 500000 = true := by unfold inB; simp; omega
  have e1 : (pw a n * pw a m % 9973 == pw a (n + m)) = true := by rw [pw_add]; simp
  rcases hz with ⟨rfl, hp⟩ | ⟨h0, hp⟩
  all_goals
    go_enter Try.func7, Try.ntmps7
    go_wp2_with (first | (go_at_call 16; refine (c_fieldFact _).mono ?_; rintro e w1 ⟨rfl, hb1⟩) | (go_at_call 12; refine (c_in _ _ _ _).mono ?_; rintro e w' ⟨rfl, rfl⟩))
    refine (c_Pow_ok _ 9972 _ (by omega)).mono ?_
    rintro e w2 ⟨rfl, hb2⟩
    go_wp2_with (go_at_call 12; refine (c_in _ _ _ _).mono ?_; rintro e w' ⟨rfl, rfl⟩)
    refine (c_Pow_ok _ n _ (by omega)).mono ?_
    rintro e w3 ⟨rfl, hb3⟩
    go_wp2_with fail
    refine (c_Pow_ok _ m _ (by omega)).mono ?_
    rintro e w4 ⟨rfl, hb4⟩
    go_wp2_with fail
    refine (c_Pow_ok _ (n + m) _ (by omega)).mono ?_
    rintro e w5 ⟨rfl, hb5⟩
    go_wp2_with fail
    refine (c_mul_ok _ _ _ (by omega)).mono ?_
    rintro e w6 ⟨rfl, hb6⟩
    go_wp2
    go_ret
    have s1 := hb1.trans (hb2.mono hb1.size)
    have s2 := s1.trans (hb3.mono s1.size)
    have s3 := s2.trans (hb4.mono s2.size)
    have s4 := s3.trans (hb5.mono s3.size)
    exact ⟨rfl, s4.trans (hb6.mono s4.size)⟩

theorem frame_FieldFermat (a n m : Int) (w : World) (_ : Fits a) (_ : Fits n) (_ : Fits m) :
    Calls Try.prog 7 #[.int .i64 a, .int .i64 n, .int .i64 m] w fun e w' => e = .returned (.bool true) ∧ Below w.heap.size w w' := by
  by_cases h : 0 ≤ a ∧ a ≤ 9972
  · by_cases h' : 0 ≤ n ∧ n ≤ 500000 ∧ 0 ≤ m ∧ m ≤ 500000
    · obtain ⟨x, rfl⟩ := Int.eq_ofNat_of_zero_le h'.1
      obtain ⟨y, rfl⟩ := Int.eq_ofNat_of_zero_le h'.2.2.1
      exact fermat_law_near a x y w h.1 h.2 (by omega) (by omega)
    · exact fermat_law_far a n m w h.1 h.2 h'
  · exact fermat_law_bad a n m w h
end Go.Proofs.Ytpamlngkhjnboaa
