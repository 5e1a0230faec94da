/- The walk of the statement TopTwice: the law returns true for all arguments. -/
import Derived.Test.YtcbpkjmmacgmfaaTwiceM
import Derived.Test.YtcbpkjmmacgmfaaRef
import Derived.Test.YtcbpkjmmacgmfaaField
namespace Go.Proofs.Ytcbpkjmmacgmfaa
open Go.RowKit

theorem c_Tin (n lo hi : Int) (w : World) :
    Calls Try.prog 10 #[.int .i64 n, .int .i64 lo, .int .i64 hi] w fun e w' => e = .returned (.bool (inB n lo hi)) ∧ w = w' := by
  unfold inB
  by_cases h1 : lo ≤ n
  · by_cases h2 : n ≤ hi
    · go_enter Try.func10, Try.ntmps10
      go_wp2
      go_ret
      exact ⟨ret_bool (by simp; omega), rfl⟩
    · go_enter Try.func10, Try.ntmps10
      go_wp2
      go_ret
      exact ⟨ret_bool (by simp; omega), rfl⟩
  · go_enter Try.func10, Try.ntmps10
    go_wp2
    go_ret
    exact ⟨ret_bool (by simp; omega), rfl⟩
theorem inB_iff (n lo hi : Int) : inB n lo hi = true ↔ (lo ≤ n ∧ n ≤ hi) := by unfold inB; simp
theorem inB_no {n lo hi : Int} (h : ¬ (lo ≤ n ∧ n ≤ hi)) : inB n lo hi = false := by
  cases e : inB n lo hi
  · rfl
  · exact absurd ((inB_iff _ _ _).1 e) h
theorem wrap_fits (n : Int) : -9223372036854775808 ≤ wrap64 n ∧ wrap64 n ≤ 9223372036854775807 := by unfold wrap64; omega
theorem any_fits (n : Int) : -9223372036854775808 ≤ IntKind.i64.wrap n ∧ IntKind.i64.wrap n ≤ 9223372036854775807 := by rw [IntWalk.i64_left]; exact wrap_fits n
section
variable (a b c : Int) (w : World)
set_option maxHeartbeats 1000000 in
set_option maxRecDepth 100000 in
theorem twice_out (h : ¬ ((1 ≤ a ∧ a ≤ 9972) ∧ (0 ≤ b ∧ b ≤ 9972) ∧ (0 ≤ c ∧ c ≤ 9972))) :
    Calls Try.prog 4 #[.int .i64 a, .int .i64 b, .int .i64 c] w fun e w' => e = .returned (.bool true) ∧ Below w.heap.size w w' := by
  have H := Lib.hid h
  have hor : (inB a 1 9972 = false) ∨ (inB a 1 9972 = true ∧ inB b 0 9972 = false) ∨ (inB a 1 9972 = true ∧ inB b 0 9972 = true ∧ inB c 0 9972 = false) := by
    by_cases h1 : 1 ≤ a ∧ a ≤ 9972
    · have e1 := (inB_iff a 1 9972).2 h1
      by_cases h2 : 0 ≤ b ∧ b ≤ 9972
      · have e2 := (inB_iff b 0 9972).2 h2
        exact .inr (.inr ⟨e1, e2, inB_no fun h3 => h ⟨h1, h2, h3⟩⟩)
      · exact .inr (.inl ⟨e1, inB_no h2⟩)
    · exact .inl (inB_no h1)
  have WF := Lib.hid (any_fits (a * 2))
  obtain ⟨z, hz⟩ : ∃ z, IntKind.i64.wrap (a * 2) = z := ⟨_, rfl⟩
  have hz' : wrap64 (a * 2) = z := by rw [← IntWalk.i64_left]; exact hz
  rw [hz] at WF
  clear h
  go_enter Try.func4, Try.ntmps4
  go_wp2_with fail
  refine (twice_one w).mono ?_
  rintro e w1 ⟨rfl, hb1⟩
  go_wp2_with fail
  refine (c_RMod z _ WF.out.1 WF.out.2).mono ?_
  rintro e w' ⟨rfl, rfl⟩
  go_wp2_with fail
  refine (twice_bad a b c (z % 9973) w1 (by omega) H.out).mono ?_
  rintro e w2 ⟨⟨E, rfl⟩, hb2⟩
  have HB := hb1.trans (hb2.mono hb1.size)
  clear hb1 hb2 hz hz'
  rcases hor with i1 | ⟨i1, i2⟩ | ⟨i1, i2, i3⟩
  all_goals
    go_wp2_with (go_at_call 10; refine (c_Tin _ _ _ _).mono ?_; rintro e w' ⟨rfl, rfl⟩)
    go_ret
    exact ⟨rfl, HB⟩
set_option maxHeartbeats 1000000 in
set_option maxRecDepth 100000 in
theorem twice_in (ha : 1 ≤ a ∧ a ≤ 9972) (hb : 0 ≤ b ∧ b ≤ 9972) (hc : 0 ≤ c ∧ c ≤ 9972) :
    Calls Try.prog 4 #[.int .i64 a, .int .i64 b, .int .i64 c] w fun e w' => e = .returned (.bool true) ∧ Below w.heap.size w w' := by
  have i1 := (inB_iff a 1 9972).2 ha
  have i2 := (inB_iff b 0 9972).2 hb
  have i3 := (inB_iff c 0 9972).2 hc
  have m1 := mul_bB (x := a) (y := c) (by omega) (by omega)
  obtain ⟨m, hm⟩ : ∃ m, m = b * b % 9973 := ⟨_, rfl⟩
  obtain ⟨x, hx⟩ : ∃ x, x = a * c % 9973 := ⟨_, rfl⟩
  obtain ⟨y, hy⟩ : ∃ y, y = (m - 4 * x) % 9973 := ⟨_, rfl⟩
  have m2 := mul_bB (x := a) (y := y) (by omega) (by omega)
  have em : -a * y = -(a * y) := Int.neg_mul a y
  obtain ⟨n, hn⟩ : ∃ n, n = -a * y % 9973 := ⟨_, rfl⟩
  have CM : Hid (∀ W, Calls Try.prog 11 #[.int .i64 b, .int .i64 b] W fun e w' => e = .returned (.tuple #[.int .i64 m, .nilIface]) ∧ Below W.heap.size W w') := fun W => by rw [hm]; exact c_Mul_ok b b W (by omega)
  have C1 : Hid (∀ W, Calls Try.prog 8 #[.int .i64 (a * c)] W fun e w' => e = .returned (.int .i64 x) ∧ W = w') := fun W => by rw [hx]; exact c_RMod _ _ (by omega) (by omega)
  have C2 : Hid (∀ W, Calls Try.prog 8 #[.int .i64 (m - 4 * x)] W fun e w' => e = .returned (.int .i64 y) ∧ W = w') := fun W => by rw [hy]; exact c_RMod _ _ (by omega) (by omega)
  have C3 : Hid (∀ W, Calls Try.prog 8 #[.int .i64 (-a * y)] W fun e w' => e = .returned (.int .i64 n) ∧ W = w') := fun W => by rw [hn]; exact c_RMod _ _ (by omega) (by omega)
  have CT : Hid (∀ W, Calls Try.prog 9 #[.slice (some ⟨W.heap.size, 0, none⟩) 3 3, .slice (some ⟨W.heap.size + 1, 0, none⟩) 2 2] ((W.alloc (.cells #[.int .i64 c, .int .i64 b, .int .i64 a] 3)).alloc (.cells #[.int .i64 b, .int .i64 (a * 2 % 9973)] 3)) fun e w' => e = .returned (.tuple #[.int .i64 n, .nilIface]) ∧ Below W.heap.size W w') := fun W => by
    rw [hn, hy, hm, hx]; exact twice_ok a b c _ W ha hb hc rfl
  have mb : 0 ≤ m ∧ m < 9973 := by omega
  have xb : 0 ≤ x ∧ x < 9973 := by omega
  have yb : 0 ≤ y ∧ y < 9973 := by omega
  have mb3 : -99460729 ≤ -a * y ∧ -a * y ≤ 0 := by omega
  clear hm hx hy hn m2 em
  go_enter Try.func4, Try.ntmps4
  go_wp2_with fail
  refine (twice_one w).mono ?_
  rintro e w1 ⟨rfl, hb1⟩
  go_wp2_with fail
  refine (c_RMod (a * 2) _ (by omega) (by omega)).mono ?_
  rintro e w' ⟨rfl, rfl⟩
  go_wp2_with fail
  refine (CT.out w1).mono ?_
  rintro e w2 ⟨rfl, hb2⟩
  have HB := hb1.trans (hb2.mono hb1.size)
  clear hb1 hb2
  go_wp2_with (go_at_call 10; refine (c_Tin _ _ _ _).mono ?_; rintro e w' ⟨rfl, rfl⟩)
  refine (CM.out w2).mono ?_
  rintro e w3 ⟨rfl, hb3⟩
  have HB3 := HB.trans (hb3.mono HB.size)
  clear HB hb3
  go_wp2_with fail
  refine (C1.out w3).mono ?_
  rintro e w' ⟨rfl, rfl⟩
  go_wp2_with fail
  refine (C2.out w3).mono ?_
  rintro e w' ⟨rfl, rfl⟩
  go_wp2_with fail
  refine (C3.out w3).mono ?_
  rintro e w' ⟨rfl, rfl⟩
  go_wp2
  go_ret
  exact ⟨rfl, HB3⟩
end
theorem frame_TopTwice (a b c : Int) (w : World) (_ : Fits a) (_ : Fits b) (_ : Fits c) :
    Calls Try.prog 4 #[.int .i64 a, .int .i64 b, .int .i64 c] w fun e w' => e = .returned (.bool true) ∧ Below w.heap.size w w' := by
  by_cases h : (1 ≤ a ∧ a ≤ 9972) ∧ (0 ≤ b ∧ b ≤ 9972) ∧ (0 ≤ c ∧ c ≤ 9972)
  · exact twice_in a b c w h.1 h.2.1 h.2.2
  · exact twice_out a b c w h
end Go.Proofs.Ytcbpkjmmacgmfaa
