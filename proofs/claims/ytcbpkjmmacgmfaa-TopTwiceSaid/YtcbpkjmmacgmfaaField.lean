/- The contracts of package field, and of the law's own mul. An error is 'api.Errno' number 1 (ErrRange) or 5 (ErrNone). -/
import Derived.Test.YtcbpkjmmacgmfaaNum
import Derived.Test.YtcbpkjmmacgmfaaFermat
namespace Go.Proofs.Ytcbpkjmmacgmfaa
open Go.RowKit

theorem any_two {a b : Int} (h : 0 ≤ a ∧ a ≤ 9972 ∧ 0 ≤ b ∧ b ≤ 9972) : anyB [a, b] 0 9972 = false :=
  anyB_false_of (by intro n hn; simp at hn; omega)
theorem any_two_not {a b : Int} (h : ¬ (0 ≤ a ∧ a ≤ 9972 ∧ 0 ≤ b ∧ b ≤ 9972)) : anyB [a, b] 0 9972 = true := by
  cases e : anyB [a, b] 0 9972
  · have := anyB_false e
    have h1 := this a (by simp)
    have h2 := this b (by simp)
    omega
  · rfl

theorem rd_two (w : World) (a b : Int) (t : TypeId) : Rd (w.alloc (.cells #[.int .i64 a, .int .i64 b] t)) (w.heap.size + 1) (some ⟨w.heap.size, 0, none⟩) 2 [a, b] := by
  refine ⟨rfl, fun _ => ⟨_, _, rfl, by omega, fun j hj => ?_⟩⟩
  match j, hj with
  | 0, _ => simp [nth]
  | 1, _ => simp [nth]
theorem c_pair_ok (a b : Int) (w : World) (h : 0 ≤ a ∧ a ≤ 9972 ∧ 0 ≤ b ∧ b ≤ 9972) :
    Calls Try.prog 21 #[.int .i64 a, .int .i64 b] w fun e w' => e = .returned .nilIface ∧ Below w.heap.size w w' := by
  have hf := any_two h
  clear h
  go_enter Try.func21, Try.ntmps21
  go_wp2_with (go_at_call 13; refine (c_Any _ 2 2 [a, b] 0 9972 _ _ (rd_two w a b _) (by omega)).mono ?_; rintro e w' ⟨rfl, rfl⟩)
  go_ret
  exact ⟨rfl, by go_grown⟩
theorem c_pair_bad (a b : Int) (w : World) (h : ¬ (0 ≤ a ∧ a ≤ 9972 ∧ 0 ≤ b ∧ b ≤ 9972)) :
    Calls Try.prog 21 #[.int .i64 a, .int .i64 b] w fun e w' => e = .returned (.iface 38 (.int .i64 1)) ∧ Below w.heap.size w w' := by
  have hf := any_two_not h
  clear h
  go_enter Try.func21, Try.ntmps21
  go_wp2_with (go_at_call 13; refine (c_Any _ 2 2 [a, b] 0 9972 _ _ (rd_two w a b _) (by omega)).mono ?_; rintro e w' ⟨rfl, rfl⟩)
  go_ret
  exact ⟨rfl, by go_grown⟩
theorem c_Mul_ok (a b : Int) (w : World) (h : 0 ≤ a ∧ a ≤ 9972 ∧ 0 ≤ b ∧ b ≤ 9972) :
    Calls Try.prog 11 #[.int .i64 a, .int .i64 b] w fun e w' => e = .returned (.tuple #[.int .i64 ((a * b) % 9973), .nilIface]) ∧ Below w.heap.size w w' := by
  have b1 := mul_bd a b 9973 (by omega) (by omega) (by omega) (by omega)
  go_enter Try.func11, Try.ntmps11
  go_wp2_with (go_at_call 21; refine (c_pair_ok _ _ _ (by omega)).mono ?_; rintro e w' ⟨rfl, hb⟩)
  go_ret2
  exact ⟨rfl, by assumption⟩
theorem c_Mul_bad (a b : Int) (w : World) (h : ¬ (0 ≤ a ∧ a ≤ 9972 ∧ 0 ≤ b ∧ b ≤ 9972)) :
    Calls Try.prog 11 #[.int .i64 a, .int .i64 b] w fun e w' => e = .returned (.tuple #[.int .i64 0, .iface 38 (.int .i64 1)]) ∧ Below w.heap.size w w' := by
  have H := Lib.hid h
  clear h
  go_enter Try.func11, Try.ntmps11
  go_wp2_with (go_at_call 21; refine (c_pair_bad _ _ _ H.out).mono ?_; rintro e w' ⟨rfl, hb⟩)
  go_ret2
  exact ⟨rfl, by assumption⟩
end Go.Proofs.Ytcbpkjmmacgmfaa
