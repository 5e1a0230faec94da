/- The walk of the statement FieldSays: the law returns true for all arguments. (Printed by gen_fieldsays.py.) -/
import Derived.Test.YtpamlngkhjnboaaDoorField
import Derived.Test.YtpamlngkhjnboaaDoorRef
import Derived.Test.YtpamlngkhjnboaaDoorAs
namespace Go.Proofs.YtpamlngkhjnboaaDoor
open Go.RowKit

theorem inB_true {n lo hi : Int} (h : lo ≤ n ∧ n ≤ hi) : inB n lo hi = true := by unfold inB; simp; omega
theorem inB_false {n lo hi : Int} (h : n < lo ∨ hi < n) : inB n lo hi = false := by unfold inB; simp; omega
theorem mulBd (a b : Int) (h1 : 0 ≤ a ∧ a ≤ 9972) (h2 : 0 ≤ b ∧ b ≤ 9972) : 0 ≤ a * b ∧ a * b ≤ 99460729 := mul_bd a b 9973 (by omega) (by omega) (by omega) (by omega)
set_option maxHeartbeats 1000000 in
theorem says_in_zero_ok (a b : Int) (n : Nat) (w : World) (hg : Handle w) (ha : 0 ≤ a ∧ a ≤ 9972) (hb : 0 ≤ b ∧ b ≤ 9972) (hz : b = 0) (hn : n ≤ 1000000) :
    Calls Tryd.prog 5 #[.int .i64 a, .int .i64 b, .int .i64 n] w fun e w' => e = .returned (.bool true) ∧ Below w.heap.size w w' := by
  have hb0 := Below.refl w.heap.size w
  have hgd : Hid (Handle w) := hg
  clear hg
  have m1 := mulBd a b ha hb
  have i1 := inB_true ha
  have i2 := inB_true hb
  obtain ⟨a1, a2⟩ := ha
  obtain ⟨b1, b2⟩ := hb
  have tb : (b == 0) = true := by simp [hz]
  have HZ := Lib.hid hz
  clear hz
  have i3 : inB (n : Int) 0 1000000 = true := inB_true (by omega)
  have p2 := pw_bd a n
  go_enter Tryd.func5, Tryd.ntmps5
  go_wp2_with (first | (go_at_call 10; refine (c_in _ _ _ _).mono ?_; rintro e w' ⟨rfl, rfl⟩) | (go_at_call 8; first | ((with_reducible refine (more (by assumption) (c_Error_nil _ _)).mono ?_); rintro e w3 ⟨rfl, hb3⟩) | ((with_reducible refine (more (by assumption) (c_Error_some _ _ _ (hgd.out.below (by assumption)))).mono ?_); rintro e w3 ⟨rfl, hb3⟩)) | (go_at_call 14; refine (c_RMod _ _ (by omega) (by omega)).mono ?_; rintro e w' ⟨rfl, rfl⟩) | (go_at_call 12; refine (more (by assumption) (c_Add_ok _ _ _ (by omega))).mono ?_; rintro e w2 ⟨rfl, hb2⟩) | (go_at_call 15; refine (more (by assumption) (c_Mul_ok _ _ _ (by omega))).mono ?_; rintro e w2 ⟨rfl, hb2⟩) | (go_at_call 13; refine (more (by assumption) (c_Div_nul _ _ _ HZ.out (by omega))).mono ?_; rintro e w2 ⟨rfl, hb2⟩) | (go_at_call 18; refine (more (by assumption) (c_Pow_ok _ n _ (by omega))).mono ?_; rintro e w2 ⟨rfl, hb2⟩) | (go_at_call 17; refine (c_RPow 1000001 a n _ (by omega) (by omega) (by omega) (by omega)).mono ?_; rintro e w' ⟨rfl, rfl⟩))
  go_ret
  exact ⟨rfl, by assumption⟩
set_option maxHeartbeats 1000000 in
theorem says_in_some_ok (a b : Int) (n : Nat) (w : World) (hg : Handle w) (ha : 0 ≤ a ∧ a ≤ 9972) (hb : 0 ≤ b ∧ b ≤ 9972) (hz : ¬ b = 0) (hn : n ≤ 1000000) :
    Calls Tryd.prog 5 #[.int .i64 a, .int .i64 b, .int .i64 n] w fun e w' => e = .returned (.bool true) ∧ Below w.heap.size w w' := by
  have hb0 := Below.refl w.heap.size w
  have hgd : Hid (Handle w) := hg
  clear hg
  have m1 := mulBd a b ha hb
  have i1 := inB_true ha
  have i2 := inB_true hb
  obtain ⟨a1, a2⟩ := ha
  obtain ⟨b1, b2⟩ := hb
  have tb : (b == 0) = false := by simp [hz]
  have p1 := pw_bd b 9971
  have i3 : inB (n : Int) 0 1000000 = true := inB_true (by omega)
  have p2 := pw_bd a n
  go_enter Tryd.func5, Tryd.ntmps5
  go_wp2_with (first | (go_at_call 10; refine (c_in _ _ _ _).mono ?_; rintro e w' ⟨rfl, rfl⟩) | (go_at_call 8; first | ((with_reducible refine (more (by assumption) (c_Error_nil _ _)).mono ?_); rintro e w3 ⟨rfl, hb3⟩) | ((with_reducible refine (more (by assumption) (c_Error_some _ _ _ (hgd.out.below (by assumption)))).mono ?_); rintro e w3 ⟨rfl, hb3⟩)) | (go_at_call 14; refine (c_RMod _ _ (by omega) (by omega)).mono ?_; rintro e w' ⟨rfl, rfl⟩) | (go_at_call 12; refine (more (by assumption) (c_Add_ok _ _ _ (by omega))).mono ?_; rintro e w2 ⟨rfl, hb2⟩) | (go_at_call 15; refine (more (by assumption) (c_Mul_ok _ _ _ (by omega))).mono ?_; rintro e w2 ⟨rfl, hb2⟩) | (go_at_call 13; refine (more (by assumption) (c_Div_ok _ _ _ (by omega))).mono ?_; rintro e w2 ⟨rfl, hb2⟩) | (go_at_call 16; refine (c_RDiv a b _ (by omega) (by omega) (by omega) (by omega)).mono ?_; rintro e w' ⟨rfl, rfl⟩) | (go_at_call 18; refine (more (by assumption) (c_Pow_ok _ n _ (by omega))).mono ?_; rintro e w2 ⟨rfl, hb2⟩) | (go_at_call 17; refine (c_RPow 1000001 a n _ (by omega) (by omega) (by omega) (by omega)).mono ?_; rintro e w' ⟨rfl, rfl⟩))
  go_ret
  exact ⟨rfl, by assumption⟩
set_option maxHeartbeats 1000000 in
theorem says_b_ok (a b : Int) (n : Nat) (w : World) (hg : Handle w) (ha : 0 ≤ a ∧ a ≤ 9972) (hb : b < 0 ∨ 9972 < b) (hn : n ≤ 1000000) :
    Calls Tryd.prog 5 #[.int .i64 a, .int .i64 b, .int .i64 n] w fun e w' => e = .returned (.bool true) ∧ Below w.heap.size w w' := by
  have hb0 := Below.refl w.heap.size w
  have hgd : Hid (Handle w) := hg
  clear hg
  have i1 := inB_true ha
  have i2 := inB_false hb
  have H : Hid (¬ (0 ≤ a ∧ a ≤ 9972 ∧ 0 ≤ b ∧ b ≤ 9972)) := by show ¬ _; omega
  have i3 : inB (n : Int) 0 1000000 = true := inB_true (by omega)
  have p2 := pw_bd a n
  clear hb
  go_enter Tryd.func5, Tryd.ntmps5
  go_wp2_with (first | (go_at_call 10; refine (c_in _ _ _ _).mono ?_; rintro e w' ⟨rfl, rfl⟩) | (go_at_call 8; first | ((with_reducible refine (more (by assumption) (c_Error_nil _ _)).mono ?_); rintro e w3 ⟨rfl, hb3⟩) | ((with_reducible refine (more (by assumption) (c_Error_some _ _ _ (hgd.out.below (by assumption)))).mono ?_); rintro e w3 ⟨rfl, hb3⟩)) | (go_at_call 12; refine (more (by assumption) (c_Add_bad _ _ _ H.out)).mono ?_; rintro e w2 ⟨rfl, hb2⟩) | (go_at_call 15; refine (more (by assumption) (c_Mul_bad _ _ _ H.out)).mono ?_; rintro e w2 ⟨rfl, hb2⟩) | (go_at_call 13; refine (more (by assumption) (c_Div_bad _ _ _ H.out)).mono ?_; rintro e w2 ⟨rfl, hb2⟩) | (go_at_call 18; refine (more (by assumption) (c_Pow_ok _ n _ (by omega))).mono ?_; rintro e w2 ⟨rfl, hb2⟩) | (go_at_call 17; refine (c_RPow 1000001 a n _ (by omega) (by omega) (by omega) (by omega)).mono ?_; rintro e w' ⟨rfl, rfl⟩))
  go_ret
  exact ⟨rfl, by assumption⟩
set_option maxHeartbeats 1000000 in
theorem says_in_zero_bad (a b : Int) (n : Int) (w : World) (hg : Handle w) (ha : 0 ≤ a ∧ a ≤ 9972) (hb : 0 ≤ b ∧ b ≤ 9972) (hz : b = 0) (hn : n < 0 ∨ 1000000 < n) :
    Calls Tryd.prog 5 #[.int .i64 a, .int .i64 b, .int .i64 n] w fun e w' => e = .returned (.bool true) ∧ Below w.heap.size w w' := by
  have hb0 := Below.refl w.heap.size w
  have hgd : Hid (Handle w) := hg
  clear hg
  have m1 := mulBd a b ha hb
  have i1 := inB_true ha
  have i2 := inB_true hb
  obtain ⟨a1, a2⟩ := ha
  obtain ⟨b1, b2⟩ := hb
  have tb : (b == 0) = true := by simp [hz]
  have HZ := Lib.hid hz
  clear hz
  have i3 : inB n 0 1000000 = false := inB_false hn
  have HP : Hid (¬ (0 ≤ a ∧ a ≤ 9972 ∧ 0 ≤ n ∧ n ≤ 1000000)) := by show ¬ _; omega
  clear hn
  go_enter Tryd.func5, Tryd.ntmps5
  go_wp2_with (first | (go_at_call 10; refine (c_in _ _ _ _).mono ?_; rintro e w' ⟨rfl, rfl⟩) | (go_at_call 8; first | ((with_reducible refine (more (by assumption) (c_Error_nil _ _)).mono ?_); rintro e w3 ⟨rfl, hb3⟩) | ((with_reducible refine (more (by assumption) (c_Error_some _ _ _ (hgd.out.below (by assumption)))).mono ?_); rintro e w3 ⟨rfl, hb3⟩)) | (go_at_call 14; refine (c_RMod _ _ (by omega) (by omega)).mono ?_; rintro e w' ⟨rfl, rfl⟩) | (go_at_call 12; refine (more (by assumption) (c_Add_ok _ _ _ (by omega))).mono ?_; rintro e w2 ⟨rfl, hb2⟩) | (go_at_call 15; refine (more (by assumption) (c_Mul_ok _ _ _ (by omega))).mono ?_; rintro e w2 ⟨rfl, hb2⟩) | (go_at_call 13; refine (more (by assumption) (c_Div_nul _ _ _ HZ.out (by omega))).mono ?_; rintro e w2 ⟨rfl, hb2⟩) | (go_at_call 18; refine (more (by assumption) (c_Pow_bad _ _ _ HP.out)).mono ?_; rintro e w2 ⟨rfl, hb2⟩))
  go_ret
  exact ⟨rfl, by assumption⟩
set_option maxHeartbeats 1000000 in
theorem says_in_some_bad (a b : Int) (n : Int) (w : World) (hg : Handle w) (ha : 0 ≤ a ∧ a ≤ 9972) (hb : 0 ≤ b ∧ b ≤ 9972) (hz : ¬ b = 0) (hn : n < 0 ∨ 1000000 < n) :
    Calls Tryd.prog 5 #[.int .i64 a, .int .i64 b, .int .i64 n] w fun e w' => e = .returned (.bool true) ∧ Below w.heap.size w w' := by
  have hb0 := Below.refl w.heap.size w
  have hgd : Hid (Handle w) := hg
  clear hg
  have m1 := mulBd a b ha hb
  have i1 := inB_true ha
  have i2 := inB_true hb
  obtain ⟨a1, a2⟩ := ha
  obtain ⟨b1, b2⟩ := hb
  have tb : (b == 0) = false := by simp [hz]
  have p1 := pw_bd b 9971
  have i3 : inB n 0 1000000 = false := inB_false hn
  have HP : Hid (¬ (0 ≤ a ∧ a ≤ 9972 ∧ 0 ≤ n ∧ n ≤ 1000000)) := by show ¬ _; omega
  clear hn
  go_enter Tryd.func5, Tryd.ntmps5
  go_wp2_with (first | (go_at_call 10; refine (c_in _ _ _ _).mono ?_; rintro e w' ⟨rfl, rfl⟩) | (go_at_call 8; first | ((with_reducible refine (more (by assumption) (c_Error_nil _ _)).mono ?_); rintro e w3 ⟨rfl, hb3⟩) | ((with_reducible refine (more (by assumption) (c_Error_some _ _ _ (hgd.out.below (by assumption)))).mono ?_); rintro e w3 ⟨rfl, hb3⟩)) | (go_at_call 14; refine (c_RMod _ _ (by omega) (by omega)).mono ?_; rintro e w' ⟨rfl, rfl⟩) | (go_at_call 12; refine (more (by assumption) (c_Add_ok _ _ _ (by omega))).mono ?_; rintro e w2 ⟨rfl, hb2⟩) | (go_at_call 15; refine (more (by assumption) (c_Mul_ok _ _ _ (by omega))).mono ?_; rintro e w2 ⟨rfl, hb2⟩) | (go_at_call 13; refine (more (by assumption) (c_Div_ok _ _ _ (by omega))).mono ?_; rintro e w2 ⟨rfl, hb2⟩) | (go_at_call 16; refine (c_RDiv a b _ (by omega) (by omega) (by omega) (by omega)).mono ?_; rintro e w' ⟨rfl, rfl⟩) | (go_at_call 18; refine (more (by assumption) (c_Pow_bad _ _ _ HP.out)).mono ?_; rintro e w2 ⟨rfl, hb2⟩))
  go_ret
  exact ⟨rfl, by assumption⟩
set_option maxHeartbeats 1000000 in
theorem says_b_bad (a b : Int) (n : Int) (w : World) (hg : Handle w) (ha : 0 ≤ a ∧ a ≤ 9972) (hb : b < 0 ∨ 9972 < b) (hn : n < 0 ∨ 1000000 < n) :
    Calls Tryd.prog 5 #[.int .i64 a, .int .i64 b, .int .i64 n] w fun e w' => e = .returned (.bool true) ∧ Below w.heap.size w w' := by
  have hb0 := Below.refl w.heap.size w
  have hgd : Hid (Handle w) := hg
  clear hg
  have i1 := inB_true ha
  have i2 := inB_false hb
  have H : Hid (¬ (0 ≤ a ∧ a ≤ 9972 ∧ 0 ≤ b ∧ b ≤ 9972)) := by show ¬ _; omega
  have i3 : inB n 0 1000000 = false := inB_false hn
  have HP : Hid (¬ (0 ≤ a ∧ a ≤ 9972 ∧ 0 ≤ n ∧ n ≤ 1000000)) := by show ¬ _; omega
  clear hn
  clear hb
  go_enter Tryd.func5, Tryd.ntmps5
  go_wp2_with (first | (go_at_call 10; refine (c_in _ _ _ _).mono ?_; rintro e w' ⟨rfl, rfl⟩) | (go_at_call 8; first | ((with_reducible refine (more (by assumption) (c_Error_nil _ _)).mono ?_); rintro e w3 ⟨rfl, hb3⟩) | ((with_reducible refine (more (by assumption) (c_Error_some _ _ _ (hgd.out.below (by assumption)))).mono ?_); rintro e w3 ⟨rfl, hb3⟩)) | (go_at_call 12; refine (more (by assumption) (c_Add_bad _ _ _ H.out)).mono ?_; rintro e w2 ⟨rfl, hb2⟩) | (go_at_call 15; refine (more (by assumption) (c_Mul_bad _ _ _ H.out)).mono ?_; rintro e w2 ⟨rfl, hb2⟩) | (go_at_call 13; refine (more (by assumption) (c_Div_bad _ _ _ H.out)).mono ?_; rintro e w2 ⟨rfl, hb2⟩) | (go_at_call 18; refine (more (by assumption) (c_Pow_bad _ _ _ HP.out)).mono ?_; rintro e w2 ⟨rfl, hb2⟩))
  go_ret
  exact ⟨rfl, by assumption⟩
set_option maxHeartbeats 1000000 in
theorem says_a (a b n : Int) (w : World) (hg : Handle w) (ha : a < 0 ∨ 9972 < a) :
    Calls Tryd.prog 5 #[.int .i64 a, .int .i64 b, .int .i64 n] w fun e w' => e = .returned (.bool true) ∧ Below w.heap.size w w' := by
  have hb0 := Below.refl w.heap.size w
  have hgd : Hid (Handle w) := hg
  clear hg
  have i1 := inB_false ha
  have H : Hid (¬ (0 ≤ a ∧ a ≤ 9972 ∧ 0 ≤ b ∧ b ≤ 9972)) := by show ¬ _; omega
  have HP : Hid (¬ (0 ≤ a ∧ a ≤ 9972 ∧ 0 ≤ n ∧ n ≤ 1000000)) := by show ¬ _; omega
  clear ha
  go_enter Tryd.func5, Tryd.ntmps5
  go_wp2_with (first | (go_at_call 10; refine (c_in _ _ _ _).mono ?_; rintro e w' ⟨rfl, rfl⟩) | (go_at_call 8; first | ((with_reducible refine (more (by assumption) (c_Error_nil _ _)).mono ?_); rintro e w3 ⟨rfl, hb3⟩) | ((with_reducible refine (more (by assumption) (c_Error_some _ _ _ (hgd.out.below (by assumption)))).mono ?_); rintro e w3 ⟨rfl, hb3⟩)) | (go_at_call 12; refine (more (by assumption) (c_Add_bad _ _ _ H.out)).mono ?_; rintro e w2 ⟨rfl, hb2⟩) | (go_at_call 15; refine (more (by assumption) (c_Mul_bad _ _ _ H.out)).mono ?_; rintro e w2 ⟨rfl, hb2⟩) | (go_at_call 13; refine (more (by assumption) (c_Div_bad _ _ _ H.out)).mono ?_; rintro e w2 ⟨rfl, hb2⟩) | (go_at_call 18; refine (more (by assumption) (c_Pow_bad _ _ _ HP.out)).mono ?_; rintro e w2 ⟨rfl, hb2⟩))
  go_ret
  exact ⟨rfl, by assumption⟩
theorem frame_FieldSays (a b n : Int) (w : World) (_ : Fits a) (_ : Fits b) (_ : Fits n) (hg : Handle w) :
    Calls Tryd.prog 5 #[.int .i64 a, .int .i64 b, .int .i64 n] w fun e w' => e = .returned (.bool true) ∧ Below w.heap.size w w' := by
  by_cases h1 : 0 ≤ a ∧ a ≤ 9972
  · by_cases h3 : 0 ≤ n ∧ n ≤ 1000000
    · obtain ⟨n, rfl⟩ := Int.eq_ofNat_of_zero_le h3.1
      by_cases h2 : 0 ≤ b ∧ b ≤ 9972
      · by_cases hz : b = 0
        · exact says_in_zero_ok a b n w hg h1 h2 hz (by omega)
        · exact says_in_some_ok a b n w hg h1 h2 hz (by omega)
      · exact says_b_ok a b n w hg h1 (by omega) (by omega)
    · by_cases h2 : 0 ≤ b ∧ b ≤ 9972
      · by_cases hz : b = 0
        · exact says_in_zero_bad a b n w hg h1 h2 hz (by omega)
        · exact says_in_some_bad a b n w hg h1 h2 hz (by omega)
      · exact says_b_bad a b n w hg h1 (by omega) (by omega)
  · exact says_a a b n w hg (by omega)
end Go.Proofs.YtpamlngkhjnboaaDoor
