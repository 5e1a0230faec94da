/- The walk of the statement FieldLaws: the law returns true for all arguments. -/
import Derived.Test.YtpamlngkhjnboaaDoorField
import Derived.Test.YtpamlngkhjnboaaDoorAs
namespace Go.Proofs.YtpamlngkhjnboaaDoor
open Go.RowKit

theorem inB_true {n lo hi : Int} (h : lo ≤ n ∧ n ≤ hi) : inB n lo hi = true := by unfold inB; simp; omega
theorem inB_false {n lo hi : Int} (h : n < lo ∨ hi < n) : inB n lo hi = false := by unfold inB; simp; omega
theorem laws_out (a b c : Int) (w : World) (h : (a < 0 ∨ 9972 < a) ∨ ((0 ≤ a ∧ a ≤ 9972) ∧ (b < 0 ∨ 9972 < b)) ∨ ((0 ≤ a ∧ a ≤ 9972) ∧ (0 ≤ b ∧ b ≤ 9972) ∧ (c < 0 ∨ 9972 < c))) :
    Calls Tryd.prog 4 #[.int .i64 a, .int .i64 b, .int .i64 c] w fun e w' => e = .returned (.bool true) ∧ Below w.heap.size w w' := by
  have hb0 := Below.refl w.heap.size w
  rcases h with h | ⟨h1, h⟩ | ⟨h1, h2, h⟩
  · have i1 := inB_false h
    have H : Hid (¬ (0 ≤ a ∧ a ≤ 9972 ∧ 0 ≤ b ∧ b ≤ 9972)) := by show ¬ _; omega
    clear h
    go_enter Tryd.func4, Tryd.ntmps4
    go_wp2_with (first | (go_at_call 9; refine (more (by assumption) (c_fieldFact _)).mono ?_; rintro e w1 ⟨rfl, hb1⟩) | (go_at_call 10; refine (c_in _ _ _ _).mono ?_; rintro e w' ⟨rfl, rfl⟩) | (go_at_call 11; refine (more (by assumption) (c_mul_bad _ _ _ H.out)).mono ?_; rintro e w2 ⟨rfl, hb2⟩))
    go_ret
    exact ⟨rfl, by assumption⟩
  · have i1 := inB_true h1
    have i2 := inB_false h
    have H : Hid (¬ (0 ≤ a ∧ a ≤ 9972 ∧ 0 ≤ b ∧ b ≤ 9972)) := by show ¬ _; omega
    clear h h1
    go_enter Tryd.func4, Tryd.ntmps4
    go_wp2_with (first | (go_at_call 9; refine (more (by assumption) (c_fieldFact _)).mono ?_; rintro e w1 ⟨rfl, hb1⟩) | (go_at_call 10; refine (c_in _ _ _ _).mono ?_; rintro e w' ⟨rfl, rfl⟩) | (go_at_call 11; refine (more (by assumption) (c_mul_bad _ _ _ H.out)).mono ?_; rintro e w2 ⟨rfl, hb2⟩))
    go_ret
    exact ⟨rfl, by assumption⟩
  · have i1 := inB_true h1
    have i2 := inB_true h2
    have i3 := inB_false h
    have H : Hid (¬ (0 ≤ b ∧ b ≤ 9972 ∧ 0 ≤ c ∧ c ≤ 9972)) := by show ¬ _; omega
    have e1 : (a * b % 9973 == -1) = false := by simp; omega
    clear h
    go_enter Tryd.func4, Tryd.ntmps4
    go_wp2_with (first | (go_at_call 9; refine (more (by assumption) (c_fieldFact _)).mono ?_; rintro e w1 ⟨rfl, hb1⟩) | (go_at_call 10; refine (c_in _ _ _ _).mono ?_; rintro e w' ⟨rfl, rfl⟩))
    refine (more (by assumption) (c_mul_ok _ _ _ (by omega))).mono ?_
    rintro e w2 ⟨rfl, hb2⟩
    go_wp2_with fail
    refine (more (by assumption) (c_mul_bad _ _ _ H.out)).mono ?_
    rintro e w3 ⟨rfl, hb3⟩
    go_wp2
    go_ret
    exact ⟨rfl, by assumption⟩
theorem law_dist (a b c : Int) : a * ((b + c) % 9973) % 9973 = (a * b % 9973 + a * c % 9973) % 9973 := by
  rw [mul_emod', Int.mul_add]; omega
theorem law_assoc (a b c : Int) : a * b % 9973 * c % 9973 = a * (b * c % 9973) % 9973 := by
  rw [emod_mul, mul_emod', Int.mul_assoc]
theorem law_div (a b : Int) (ha1 : 0 ≤ a) (ha2 : a < 9973) (hb1 : 0 < b) (hb2 : b < 9973) : a * pw b 9971 % 9973 * b % 9973 = a := by
  rw [emod_mul, Int.mul_assoc, Int.mul_comm (pw b 9971), Int.mul_emod, over_mul b hb1 hb2]; omega
set_option maxHeartbeats 1000000 in
theorem laws_in (a b c : Int) (w : World) (hg : Handle w) (h1 : 0 ≤ a ∧ a ≤ 9972) (h2 : 0 ≤ b ∧ b ≤ 9972) (h3 : 0 ≤ c ∧ c ≤ 9972) :
    Calls Tryd.prog 4 #[.int .i64 a, .int .i64 b, .int .i64 c] w fun e w' => e = .returned (.bool true) ∧ Below w.heap.size w w' := by
  have hb0 := Below.refl w.heap.size w
  have i1 := inB_true h1
  have i2 := inB_true h2
  have i3 := inB_true h3
  obtain ⟨a1, a2⟩ := h1
  obtain ⟨b1, b2⟩ := h2
  obtain ⟨c1, c2⟩ := h3
  have t1 : ((b + c) % 9973 != (c + b) % 9973) = false := by rw [Int.add_comm]; simp
  have t2 : (a * ((b + c) % 9973) % 9973 != (a * b + a * c) % 9973) = false := by rw [law_dist]; simp
  have t3 : (a * b % 9973 * c % 9973 != a * (b * c % 9973) % 9973) = false := by rw [law_assoc]; simp
  have t4 : (a * b % 9973 != b * a % 9973) = false := by rw [Int.mul_comm]; simp
  have hgd : Hid (Handle w) := hg
  clear hg
  by_cases hz : b = 0
  · have tb : (b == 0) = true := by simp [hz]
    have HZ := Lib.hid hz
    clear hz
    go_enter Tryd.func4, Tryd.ntmps4
    go_wp2_with (first | (go_at_call 9; refine (more (by assumption) (c_fieldFact _)).mono ?_; rintro e w1 ⟨rfl, hb1⟩) | (go_at_call 10; refine (c_in _ _ _ _).mono ?_; rintro e w' ⟨rfl, rfl⟩) | (go_at_call 11; refine (more (by assumption) (c_mul_ok _ _ _ (by omega))).mono ?_; rintro e w2 ⟨rfl, hb2⟩) | (go_at_call 12; refine (more (by assumption) (c_Add_ok _ _ _ (by omega))).mono ?_; rintro e w2 ⟨rfl, hb2⟩) | (go_at_call 13; refine (more (by assumption) (c_Div_nul _ _ _ HZ.out (by omega))).mono ?_; rintro e w3 ⟨rfl, hb3⟩))
    refine (more (by assumption) (c_Error_some 5 5 _ (hgd.out.below (by assumption)))).mono ?_
    rintro e w4 ⟨rfl, hb4⟩
    go_wp2
    go_ret
    exact ⟨rfl, by assumption⟩
  · have tb : (b == 0) = false := by simp [hz]
    have t5 : (a * pw b 9971 % 9973 * b % 9973 == a) = true := by rw [law_div a b a1 (by omega) (by omega) (by omega)]; simp
    have p1 := pw_bd b 9971
    go_enter Tryd.func4, Tryd.ntmps4
    go_wp2_with (first | (go_at_call 9; refine (more (by assumption) (c_fieldFact _)).mono ?_; rintro e w1 ⟨rfl, hb1⟩) | (go_at_call 10; refine (c_in _ _ _ _).mono ?_; rintro e w' ⟨rfl, rfl⟩) | (go_at_call 11; refine (more (by assumption) (c_mul_ok _ _ _ (by omega))).mono ?_; rintro e w2 ⟨rfl, hb2⟩) | (go_at_call 12; refine (more (by assumption) (c_Add_ok _ _ _ (by omega))).mono ?_; rintro e w2 ⟨rfl, hb2⟩) | (go_at_call 13; refine (more (by assumption) (c_Div_ok _ _ _ (by omega))).mono ?_; rintro e w3 ⟨rfl, hb3⟩))
    go_ret
    exact ⟨rfl, by assumption⟩
theorem frame_FieldLaws (a b c : Int) (w : World) (_ : Fits a) (_ : Fits b) (_ : Fits c) (hg : Handle w) :
    Calls Tryd.prog 4 #[.int .i64 a, .int .i64 b, .int .i64 c] w fun e w' => e = .returned (.bool true) ∧ Below w.heap.size w w' := by
  by_cases h1 : 0 ≤ a ∧ a ≤ 9972
  · by_cases h2 : 0 ≤ b ∧ b ≤ 9972
    · by_cases h3 : 0 ≤ c ∧ c ≤ 9972
      · exact laws_in a b c w hg h1 h2 h3
      · exact laws_out a b c w (by omega)
    · exact laws_out a b c w (by omega)
  · exact laws_out a b c w (by omega)
end Go.Proofs.YtpamlngkhjnboaaDoor
