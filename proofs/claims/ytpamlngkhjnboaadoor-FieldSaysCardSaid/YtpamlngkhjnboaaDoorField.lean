/- The contracts of package field, and of the law's own mul. An error is 'api.Errno' number 1 (ErrRange) or 5 (ErrNone). -/
import Derived.Test.YtpamlngkhjnboaaDoorNum
import Derived.Test.YtpamlngkhjnboaaDoorFermat
namespace Go.Proofs.YtpamlngkhjnboaaDoor
open Go.RowKit

theorem any_two {a b : Int} (h : 0 ≤ a ∧ a ≤ 9972 ∧ 0 ≤ b ∧ b ≤ 9972) : anyB [a, b] 0 9972 = false :=
  anyB_false_of (by intro n hn; simp at hn; omega)
theorem any_two_not {a b : Int} (h : ¬ (0 ≤ a ∧ a ≤ 9972 ∧ 0 ≤ b ∧ b ≤ 9972)) : anyB [a, b] 0 9972 = true := by
  cases e : anyB [a, b] 0 9972
  · have := anyB_false e
    have h1 := this a (by simp)
    have h2 := this b (by simp)
    omega
  · rfl

theorem rd_two (w : World) (a b : Int) (t : TypeId) : Rd (w.alloc (.cells #[.int .i64 a, .int .i64 b] t)) (w.heap.size + 1) (some ⟨w.heap.size, 0, none⟩) 2 [a, b] := by
  refine ⟨rfl, fun _ => ⟨_, _, rfl, by omega, fun j hj => ?_⟩⟩
  match j, hj with
  | 0, _ => simp [nth]
  | 1, _ => simp [nth]
theorem c_pair_ok (a b : Int) (w : World) (h : 0 ≤ a ∧ a ≤ 9972 ∧ 0 ≤ b ∧ b ≤ 9972) :
    Calls Tryd.prog 24 #[.int .i64 a, .int .i64 b] w fun e w' => e = .returned .nilIface ∧ Below w.heap.size w w' := by
  have hf := any_two h
  clear h
  go_enter Tryd.func24, Tryd.ntmps24
  go_wp2_with (go_at_call 31; refine (c_Any _ 2 2 [a, b] 0 9972 _ _ (rd_two w a b _) (by omega)).mono ?_; rintro e w' ⟨rfl, rfl⟩)
  go_ret
  exact ⟨rfl, by go_grown⟩
theorem c_pair_bad (a b : Int) (w : World) (h : ¬ (0 ≤ a ∧ a ≤ 9972 ∧ 0 ≤ b ∧ b ≤ 9972)) :
    Calls Tryd.prog 24 #[.int .i64 a, .int .i64 b] w fun e w' => e = .returned (.iface 38 (.int .i64 1)) ∧ Below w.heap.size w w' := by
  have hf := any_two_not h
  clear h
  go_enter Tryd.func24, Tryd.ntmps24
  go_wp2_with (go_at_call 31; refine (c_Any _ 2 2 [a, b] 0 9972 _ _ (rd_two w a b _) (by omega)).mono ?_; rintro e w' ⟨rfl, rfl⟩)
  go_ret
  exact ⟨rfl, by go_grown⟩
theorem c_Add_ok (a b : Int) (w : World) (h : 0 ≤ a ∧ a ≤ 9972 ∧ 0 ≤ b ∧ b ≤ 9972) :
    Calls Tryd.prog 12 #[.int .i64 a, .int .i64 b] w fun e w' => e = .returned (.tuple #[.int .i64 ((a + b) % 9973), .nilIface]) ∧ Below w.heap.size w w' := by
  have b1 := mul_bd a b 9973 (by omega) (by omega) (by omega) (by omega)
  go_enter Tryd.func12, Tryd.ntmps12
  go_wp2_with (go_at_call 24; refine (c_pair_ok _ _ _ (by omega)).mono ?_; rintro e w' ⟨rfl, hb⟩)
  go_ret2
  exact ⟨rfl, by assumption⟩
theorem c_Add_bad (a b : Int) (w : World) (h : ¬ (0 ≤ a ∧ a ≤ 9972 ∧ 0 ≤ b ∧ b ≤ 9972)) :
    Calls Tryd.prog 12 #[.int .i64 a, .int .i64 b] w fun e w' => e = .returned (.tuple #[.int .i64 0, .iface 38 (.int .i64 1)]) ∧ Below w.heap.size w w' := by
  have H := Lib.hid h
  clear h
  go_enter Tryd.func12, Tryd.ntmps12
  go_wp2_with (go_at_call 24; refine (c_pair_bad _ _ _ H.out).mono ?_; rintro e w' ⟨rfl, hb⟩)
  go_ret2
  exact ⟨rfl, by assumption⟩
theorem c_Mul_ok (a b : Int) (w : World) (h : 0 ≤ a ∧ a ≤ 9972 ∧ 0 ≤ b ∧ b ≤ 9972) :
    Calls Tryd.prog 15 #[.int .i64 a, .int .i64 b] w fun e w' => e = .returned (.tuple #[.int .i64 ((a * b) % 9973), .nilIface]) ∧ Below w.heap.size w w' := by
  have b1 := mul_bd a b 9973 (by omega) (by omega) (by omega) (by omega)
  go_enter Tryd.func15, Tryd.ntmps15
  go_wp2_with (go_at_call 24; refine (c_pair_ok _ _ _ (by omega)).mono ?_; rintro e w' ⟨rfl, hb⟩)
  go_ret2
  exact ⟨rfl, by assumption⟩
theorem c_Mul_bad (a b : Int) (w : World) (h : ¬ (0 ≤ a ∧ a ≤ 9972 ∧ 0 ≤ b ∧ b ≤ 9972)) :
    Calls Tryd.prog 15 #[.int .i64 a, .int .i64 b] w fun e w' => e = .returned (.tuple #[.int .i64 0, .iface 38 (.int .i64 1)]) ∧ Below w.heap.size w w' := by
  have H := Lib.hid h
  clear h
  go_enter Tryd.func15, Tryd.ntmps15
  go_wp2_with (go_at_call 24; refine (c_pair_bad _ _ _ H.out).mono ?_; rintro e w' ⟨rfl, hb⟩)
  go_ret2
  exact ⟨rfl, by assumption⟩
theorem c_Div_ok (a b : Int) (w : World) (h : 0 ≤ a ∧ a ≤ 9972 ∧ 0 < b ∧ b ≤ 9972) :
    Calls Tryd.prog 13 #[.int .i64 a, .int .i64 b] w fun e w' => e = .returned (.tuple #[.int .i64 (a * pw b 9971 % 9973), .nilIface]) ∧ Below w.heap.size w w' := by
  have b0 := pw_bd b 9971
  have b1 := mul_bd a (pw b 9971) 9973 (by omega) (by omega) (by omega) (by omega)
  go_enter Tryd.func13, Tryd.ntmps13
  go_wp2_with (first | (go_at_call 24; refine (c_pair_ok _ _ _ (by omega)).mono ?_; rintro e w' ⟨rfl, hb⟩) | (go_at_call 25; refine (c_Over _ _ (by omega) (by omega)).mono ?_; rintro e w' ⟨rfl, rfl⟩))
  go_ret2
  exact ⟨rfl, by assumption⟩
theorem c_Div_zero (a : Int) (w : World) (h : 0 ≤ a ∧ a ≤ 9972) :
    Calls Tryd.prog 13 #[.int .i64 a, .int .i64 0] w fun e w' => e = .returned (.tuple #[.int .i64 0, .iface 38 (.int .i64 5)]) ∧ Below w.heap.size w w' := by
  go_enter Tryd.func13, Tryd.ntmps13
  go_wp2_with (go_at_call 24; refine (c_pair_ok _ _ _ (by omega)).mono ?_; rintro e w' ⟨rfl, hb⟩)
  go_ret2
  exact ⟨rfl, by assumption⟩
theorem c_Div_nul (a b : Int) (w : World) (hb : b = 0) (h : 0 ≤ a ∧ a ≤ 9972) :
    Calls Tryd.prog 13 #[.int .i64 a, .int .i64 b] w fun e w' => e = .returned (.tuple #[.int .i64 0, .iface 38 (.int .i64 5)]) ∧ Below w.heap.size w w' := by
  subst hb; exact c_Div_zero a w h
theorem c_Div_bad (a b : Int) (w : World) (h : ¬ (0 ≤ a ∧ a ≤ 9972 ∧ 0 ≤ b ∧ b ≤ 9972)) :
    Calls Tryd.prog 13 #[.int .i64 a, .int .i64 b] w fun e w' => e = .returned (.tuple #[.int .i64 0, .iface 38 (.int .i64 1)]) ∧ Below w.heap.size w w' := by
  have H := Lib.hid h
  clear h
  go_enter Tryd.func13, Tryd.ntmps13
  go_wp2_with (go_at_call 24; refine (c_pair_bad _ _ _ H.out).mono ?_; rintro e w' ⟨rfl, hb⟩)
  go_ret2
  exact ⟨rfl, by assumption⟩
theorem c_Pow_ok (a : Int) (n : Nat) (w : World) (h : 0 ≤ a ∧ a ≤ 9972 ∧ n ≤ 1000000) :
    Calls Tryd.prog 18 #[.int .i64 a, .int .i64 n] w fun e w' => e = .returned (.tuple #[.int .i64 (pw a n), .nilIface]) ∧ Below w.heap.size w w' := by
  have o1 : outB a 0 9972 = false := outB_false (by omega) (by omega)
  have o2 : outB n 0 1000000 = false := outB_false (by omega) (by omega)
  go_enter Tryd.func18, Tryd.ntmps18
  go_wp2_with (first | (go_at_call 26; refine (c_Out _ _ _ _).mono ?_; rintro e w' ⟨rfl, rfl⟩) | (go_at_call 27; refine (c_Power a n _ (by omega) (by omega) (by omega)).mono ?_; rintro e w' ⟨rfl, rfl⟩))
  go_ret2
  exact ⟨rfl, by go_grown⟩
theorem c_Pow_bad (a n : Int) (w : World) (h : ¬ (0 ≤ a ∧ a ≤ 9972 ∧ 0 ≤ n ∧ n ≤ 1000000)) :
    Calls Tryd.prog 18 #[.int .i64 a, .int .i64 n] w fun e w' => e = .returned (.tuple #[.int .i64 0, .iface 38 (.int .i64 1)]) ∧ Below w.heap.size w w' := by
  have H := Lib.hid h
  clear h
  by_cases h1 : a < 0 ∨ 9972 < a
  · have o1 : outB a 0 9972 = true := outB_true h1
    clear h1
    go_enter Tryd.func18, Tryd.ntmps18
    go_wp2_with (go_at_call 26; refine (c_Out _ _ _ _).mono ?_; rintro e w' ⟨rfl, rfl⟩)
    go_ret2
    exact ⟨rfl, by go_grown⟩
  · have o1 : outB a 0 9972 = false := outB_false (by omega) (by omega)
    have o2 : outB n 0 1000000 = true := outB_true (by have := H.out; omega)
    clear h1
    go_enter Tryd.func18, Tryd.ntmps18
    go_wp2_with (go_at_call 26; refine (c_Out _ _ _ _).mono ?_; rintro e w' ⟨rfl, rfl⟩)
    go_ret2
    exact ⟨rfl, by go_grown⟩
theorem c_mul_ok (a b : Int) (w : World) (h : 0 ≤ a ∧ a ≤ 9972 ∧ 0 ≤ b ∧ b ≤ 9972) :
    Calls Tryd.prog 11 #[.int .i64 a, .int .i64 b] w fun e w' => e = .returned (.int .i64 (a * b % 9973)) ∧ Below w.heap.size w w' := by
  go_enter Tryd.func11, Tryd.ntmps11
  go_wp2_with (go_at_call 15; refine (c_Mul_ok _ _ _ (by omega)).mono ?_; rintro e w' ⟨rfl, hb⟩)
  go_ret
  exact ⟨rfl, by assumption⟩
theorem c_mul_bad (a b : Int) (w : World) (h : ¬ (0 ≤ a ∧ a ≤ 9972 ∧ 0 ≤ b ∧ b ≤ 9972)) :
    Calls Tryd.prog 11 #[.int .i64 a, .int .i64 b] w fun e w' => e = .returned (.int .i64 (-1)) ∧ Below w.heap.size w w' := by
  have H := Lib.hid h
  clear h
  go_enter Tryd.func11, Tryd.ntmps11
  go_wp2_with (go_at_call 15; refine (c_Mul_bad _ _ _ H.out).mono ?_; rintro e w' ⟨rfl, hb⟩)
  go_ret
  exact ⟨rfl, by assumption⟩
theorem pw_2 : 1 * pw 2 9971 % 9973 = 4987 := by
  rw [show (2 : Int) = ((2 : Nat) : Int) by rfl, pw_nat, show 2 ^ 9971 % 9973 = 4987 by decide +kernel]; rfl
theorem c_fieldFact (w : World) :
    Calls Tryd.prog 9 #[] w fun e w' => e = .returned (.bool true) ∧ Below w.heap.size w w' := by
  go_enter Tryd.func9, Tryd.ntmps9
  go_wp2_with fail
  refine (c_Mul_ok _ _ _ (by omega)).mono ?_
  rintro e w1 ⟨rfl, hb1⟩
  go_wp2_with fail
  refine (c_Div_ok _ _ _ (by omega)).mono ?_
  rintro e w2 ⟨rfl, hb2⟩
  rw [pw_2]
  go_wp2
  go_ret
  exact ⟨rfl, hb1.trans (hb2.mono hb1.size)⟩
end Go.Proofs.YtpamlngkhjnboaaDoor
