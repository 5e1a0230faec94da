/- The walk of the statement EuclidTimes: the law returns true for all arguments. -/
import Derived.Test.YtpfbbalhhldghaaEucS
namespace Go.Proofs.Ytpfbbalhhldghaa
open Go.RowKit

theorem etimes_far (a b k : Int) (w : World) (h : ¬ ((-900 ≤ a ∧ a ≤ 900) ∧ (-900 ≤ b ∧ b ≤ 900) ∧ -900 ≤ k ∧ k ≤ 900)) :
    Calls Try.prog 5 #[.int .i64 a, .int .i64 b, .int .i64 k] w fun e w' => e = .returned (.bool true) ∧ Below w.heap.size w w' := by
  have H := Lib.hid h
  clear h
  by_cases h1 : -900 ≤ a ∧ a ≤ 900
  · have i1 : inB a (-900) 900 = true := by unfold inB; simp; omega
    by_cases h2 : -900 ≤ b ∧ b ≤ 900
    · have i2 : inB b (-900) 900 = true := by unfold inB; simp; omega
      have i3 : inB k (-900) 900 = false := by
        cases e : inB k (-900) 900
        · rfl
        · unfold inB at e; simp at e; exact absurd ⟨h1, h2, e⟩ H.out
      clear h1 h2
      go_enter Try.func5, Try.ntmps5
      go_wp2_with fail
      refine (c_euclidFact _).mono ?_
      rintro e w1 ⟨rfl, hb1⟩
      go_wp2_with (go_at_call 12; refine (c_in _ _ _ _).mono ?_; rintro e w' ⟨rfl, rfl⟩)
      go_ret
      exact ⟨rfl, hb1⟩
    · have i2 : inB b (-900) 900 = false := by
        cases e : inB b (-900) 900
        · rfl
        · unfold inB at e; simp at e; exact absurd e h2
      clear h1 h2
      go_enter Try.func5, Try.ntmps5
      go_wp2_with fail
      refine (c_euclidFact _).mono ?_
      rintro e w1 ⟨rfl, hb1⟩
      go_wp2_with (go_at_call 12; refine (c_in _ _ _ _).mono ?_; rintro e w' ⟨rfl, rfl⟩)
      go_ret
      exact ⟨rfl, hb1⟩
  · have i1 : inB a (-900) 900 = false := by
      cases e : inB a (-900) 900
      · rfl
      · unfold inB at e; simp at e; exact absurd e h1
    clear h1
    go_enter Try.func5, Try.ntmps5
    go_wp2_with fail
    refine (c_euclidFact _).mono ?_
    rintro e w1 ⟨rfl, hb1⟩
    go_wp2_with (go_at_call 12; refine (c_in _ _ _ _).mono ?_; rintro e w' ⟨rfl, rfl⟩)
    go_ret
    exact ⟨rfl, hb1⟩
theorem prod_bd {x y : Int} (hx : -900 ≤ x ∧ x ≤ 900) (hy : -900 ≤ y ∧ y ≤ 900) : -810000 ≤ x * y ∧ x * y ≤ 810000 := by
  have : (x * y).natAbs = x.natAbs * y.natAbs := Int.natAbs_mul _ _
  have h2 := Nat.mul_le_mul (show x.natAbs ≤ 900 by omega) (show y.natAbs ≤ 900 by omega)
  omega
set_option maxHeartbeats 1000000 in
theorem etimes_near (a b k : Int) (w : World) (h1 : -900 ≤ a ∧ a ≤ 900) (h2 : -900 ≤ b ∧ b ≤ 900) (h3 : -900 ≤ k ∧ k ≤ 900) :
    Calls Try.prog 5 #[.int .i64 a, .int .i64 b, .int .i64 k] w fun e w' => e = .returned (.bool true) ∧ Below w.heap.size w w' := by
  have i1 : inB a (-900) 900 = true := by unfold inB; simp; omega
  have i2 : inB b (-900) 900 = true := by unfold inB; simp; omega
  have i3 : inB k (-900) 900 = true := by unfold inB; simp; omega
  have p1 := prod_bd h3 h1
  have p2 := prod_bd h3 h2
  have E1 : Hid (Int.gcd (k * a) (k * b) = k.natAbs * Int.gcd a b) := Int.gcd_mul_left _ _ _
  have E2 : Hid (Int.gcd b a = Int.gcd a b) := Int.gcd_comm _ _
  have E3 : Hid (Int.gcd (a + k * b) b = Int.gcd a b) := by rw [Hid, Int.gcd_add_mul_right_left]
  have g0 := gcd_small (show -1000000 ≤ a by omega) (by omega) (show -1000000 ≤ b by omega) (by omega)
  obtain ⟨g, hg⟩ : ∃ g : Nat, g = Int.gcd a b := ⟨_, rfl⟩
  have HG := Lib.hid hg
  have g0' : g ≤ 1000000 := by omega
  have pk : (k.natAbs : Int) * (g : Int) ≤ 900000000 ∧ 0 ≤ (k.natAbs : Int) * (g : Int) := by
    have := Nat.mul_le_mul (show k.natAbs ≤ 900 by omega) g0'
    rw [← Int.natCast_mul]; omega
  have e1 : ((k.natAbs : Int) * (g : Int) != (k.natAbs : Int) * (g : Int)) = false := by simp
  clear hg g0
  go_enter Try.func5, Try.ntmps5
  go_wp2_with fail
  refine (c_euclidFact _).mono ?_
  rintro e w1 ⟨rfl, hb1⟩
  go_wp2_with (go_at_call 12; refine (c_in _ _ _ _).mono ?_; rintro e w' ⟨rfl, rfl⟩)
  refine (c_EGcd_ok a b _ (by omega)).mono ?_
  rintro e w2 ⟨rfl, hb2⟩
  have hb2 := hb1.trans (hb2.mono hb1.size)
  rw [← HG.out]
  go_wp2_with fail
  refine (c_EGcd_ok (k * a) (k * b) _ (by omega)).mono ?_
  rintro e w3 ⟨rfl, hb3⟩
  have hb3 := hb2.trans (hb3.mono hb2.size)
  rw [E1.out, ← HG.out, Int.natCast_mul]
  go_wp2_with fail
  refine (c_EGcd_ok b a _ (by omega)).mono ?_
  rintro e w4 ⟨rfl, hb4⟩
  have hb4 := hb3.trans (hb4.mono hb3.size)
  rw [E2.out, ← HG.out]
  go_wp2_with fail
  refine (c_EGcd_ok (a + k * b) b _ (by omega)).mono ?_
  rintro e w5 ⟨rfl, hb5⟩
  have hb5 := hb4.trans (hb5.mono hb4.size)
  rw [E3.out, ← HG.out]
  go_wp2_with (go_at_call 15; refine (c_RAbs _ _ (by omega) (by omega)).mono ?_; rintro e w' ⟨rfl, rfl⟩)
  go_ret
  exact ⟨rfl, hb5⟩
theorem frame_EuclidTimes (a b k : Int) (w : World) (_ : Fits a) (_ : Fits b) (_ : Fits k) :
    Calls Try.prog 5 #[.int .i64 a, .int .i64 b, .int .i64 k] w fun e w' => e = .returned (.bool true) ∧ Below w.heap.size w w' := by
  by_cases h : (-900 ≤ a ∧ a ≤ 900) ∧ (-900 ≤ b ∧ b ≤ 900) ∧ -900 ≤ k ∧ k ≤ 900
  · exact etimes_near a b k w h.1 h.2.1 h.2.2
  · exact etimes_far a b k w h
end Go.Proofs.Ytpfbbalhhldghaa
