/- The walk of the statement TopRests: the law returns true for all arguments. -/
import Derived.Test.YtpfbbalhhldghaaDoorRestsM
import Derived.Test.YtpfbbalhhldghaaDoorCrt
import Derived.Test.YtpfbbalhhldghaaDoorEucS
import Derived.Test.YtpfbbalhhldghaaDoorAs
import Derived.StillTailTactics
namespace Go.Proofs.YtpfbbalhhldghaaDoor
open Go.RowKit

theorem c_Tin (n lo hi : Int) (w : World) :
    Calls Tryd.prog 22 #[.int .i64 n, .int .i64 lo, .int .i64 hi] w fun e w' => e = .returned (.bool (inB n lo hi)) ∧ w = w' := by
  unfold inB
  by_cases h1 : lo ≤ n
  · by_cases h2 : n ≤ hi
    · go_enter Tryd.func22, Tryd.ntmps22
      go_wp2
      go_ret
      exact ⟨ret_bool (by simp; omega), rfl⟩
    · go_enter Tryd.func22, Tryd.ntmps22
      go_wp2
      go_ret
      exact ⟨ret_bool (by simp; omega), rfl⟩
  · go_enter Tryd.func22, Tryd.ntmps22
    go_wp2
    go_ret
    exact ⟨ret_bool (by simp; omega), rfl⟩
theorem inT_true {n lo hi : Int} (h : lo ≤ n ∧ n ≤ hi) : inB n lo hi = true := by unfold inB; simp [h]
theorem inT_false {n lo hi : Int} (h : ¬ (lo ≤ n ∧ n ≤ hi)) : inB n lo hi = false := by
  cases e : inB n lo hi
  · rfl
  · unfold inB at e; simp at e; exact absurd e h
theorem tr_ok : CrtOk [1] [4] := by
  refine ⟨by decide, rfl, fun k hk => ?_⟩
  match k, hk with
  | 0, _ => decide
theorem tr_stp : stp [4] 1 = 4 := by decide +kernel
theorem tr_sol {y : Int} (h : Sol [1] [4] 1 y) : y % 4 = 1 := h 0 (by omega)
theorem tr_has : Sol [1] [4] 1 1 := fun k hk => by
  match k, hk with
  | 0, _ => decide
/-- The second coefficient is small where both numbers are. -/
theorem bez_small {m n x y : Int} (h : BezOk m n x y) (hm : 1 ≤ m ∧ m ≤ 100) (hn : 1 ≤ n ∧ n ≤ 100) : (0 ≤ x ∧ x ≤ 100) ∧ (-100 ≤ y ∧ y ≤ 100) ∧ m * x + n * y = (Int.gcd m n : Nat) := by
  obtain ⟨b1, b2, _, _⟩ := bez_bd h (by omega)
  obtain ⟨x0, x1, e⟩ := h.2 (by omega)
  have hg : Int.gcd m n ≤ n.natAbs := Nat.le_of_dvd (by omega) (Int.gcd_dvd_natAbs_right m n)
  have hx : x ≤ n - 1 := by omega
  have m1 := Int.mul_le_mul_of_nonneg_left hx (show 0 ≤ m by omega)
  have m0 := Int.mul_nonneg (show 0 ≤ m by omega) x0
  have m2 : m * (n - 1) = m * n - m := by rw [Int.mul_sub, Int.mul_one]
  refine ⟨by omega, ⟨?_, ?_⟩, e⟩
  · rcases Int.lt_or_le y (-100) with hy | hy
    · have := Int.mul_le_mul_of_nonneg_left (show y ≤ -m by omega) (show 0 ≤ n by omega)
      have e2 : n * -m = -(m * n) := by rw [Int.mul_neg, Int.mul_comm]
      omega
    · exact hy
  · rcases Int.lt_or_le 100 y with hy | hy
    · have := Int.mul_le_mul_of_nonneg_left (show 2 ≤ y by omega) (show 0 ≤ n by omega)
      omega
    · exact hy
theorem rd_pair (w : World) (a b m n : Int) (t : TypeId) : Rd ((w.alloc (.cells #[.int .i64 a, .int .i64 b] t)).alloc (.cells #[.int .i64 m, .int .i64 n] t)) (w.heap.size + 2) (some ⟨w.heap.size, 0, none⟩) 2 [a, b] ∧
    Rd ((w.alloc (.cells #[.int .i64 a, .int .i64 b] t)).alloc (.cells #[.int .i64 m, .int .i64 n] t)) (w.heap.size + 2) (some ⟨w.heap.size + 1, 0, none⟩) 2 [m, n] := by
  refine ⟨((rd_two' w a b t).alloc (by simp) _).more (by omega), ?_⟩
  have := rd_two' (w.alloc (.cells #[.int .i64 a, .int .i64 b] t)) m n t
  simpa using this
theorem rd_single (w : World) (a : Int) (t : TypeId) : Rd (w.alloc (.cells #[.int .i64 a] t)) (w.heap.size + 1) (some ⟨w.heap.size, 0, none⟩) 1 [a] := by
  refine ⟨rfl, fun _ => ⟨_, _, rfl, by omega, fun j hj => ?_⟩⟩
  obtain rfl : j = 0 := by omega
  simp [nth]
theorem rd_singles (w : World) (a b : Int) (t : TypeId) : Rd ((w.alloc (.cells #[.int .i64 a] t)).alloc (.cells #[.int .i64 b] t)) (w.heap.size + 2) (some ⟨w.heap.size, 0, none⟩) 1 [a] ∧
    Rd ((w.alloc (.cells #[.int .i64 a] t)).alloc (.cells #[.int .i64 b] t)) (w.heap.size + 2) (some ⟨w.heap.size + 1, 0, none⟩) 1 [b] := by
  refine ⟨((rd_single w a t).alloc (by simp) _).more (by omega), ?_⟩
  have := rd_single (w.alloc (.cells #[.int .i64 a] t)) b t
  simpa using this
theorem below_2 (w : World) (o o' : Obj) : Below w.heap.size w ((w.alloc o).alloc o') := ((Below.refl _ w).alloc (Nat.le_refl _) o).alloc (by simp) o'
/-- The first step: a closed question. -/
theorem tr_first (w : World) : Calls Tryd.prog 21 #[.slice (some ⟨w.heap.size, 0, none⟩) 1 1, .slice (some ⟨w.heap.size + 1, 0, none⟩) 1 1] ((w.alloc (.cells #[.int .i64 1] 3)).alloc (.cells #[.int .i64 4] 3)) fun e w' => e = .returned (.tuple #[.int .i64 1, .int .i64 4, .nilIface]) ∧ Below w.heap.size w w' := by
  have h := rd_singles w 1 4 3
  refine (crt_solve_any _ _ 1 1 1 [1] [4] _ _ h.1 h.2 tr_ok).mono ?_
  rintro e w' ⟨⟨y, hy, rfl⟩ | ⟨hno, rfl⟩, q, rfl⟩
  · rw [tr_stp]
    have e1 : y % ((4 : Nat) : Int) = 1 := tr_sol hy
    rw [e1]
    exact ⟨rfl, below_drewN (below_2 _ _ _) q⟩
  · exact absurd tr_has (hno 1)
section
variable (a b m n : Int) (w : World)
set_option maxHeartbeats 1000000 in
set_option maxRecDepth 100000 in
theorem rests_bad (h : ¬ (-1000000 ≤ m ∧ m ≤ 1000000 ∧ -1000000 ≤ n ∧ n ≤ 1000000)) :
    Calls Tryd.prog 5 #[.int .i64 a, .int .i64 b, .int .i64 m, .int .i64 n] w fun e w' => e = .returned (.bool true) ∧ Below w.heap.size w w' := by
  have H := Lib.hid h
  clear h
  go_enter Tryd.func5, Tryd.ntmps5
  go_wp2_with fail
  refine (tr_first w).mono ?_
  rintro e w1 ⟨rfl, hb1⟩
  go_wp2_with fail
  refine (c_Bezout_bad m n _ H.out).mono ?_
  rintro e w2 ⟨rfl, hb2⟩
  go_wp2
  go_ret
  exact ⟨rfl, hb1.trans (hb2.mono hb1.size)⟩
set_option maxHeartbeats 4000000 in
set_option maxRecDepth 100000 in
theorem rests_out (h : -1000000 ≤ m ∧ m ≤ 1000000 ∧ -1000000 ≤ n ∧ n ≤ 1000000)
    (hi : inB m 1 100 = false ∨ (inB m 1 100 = true ∧ inB n 1 100 = false) ∨ (inB m 1 100 = true ∧ inB n 1 100 = true ∧ inB a 0 (m - 1) = false) ∨ (inB m 1 100 = true ∧ inB n 1 100 = true ∧ inB a 0 (m - 1) = true ∧ inB b 0 (n - 1) = false)) :
    Calls Tryd.prog 5 #[.int .i64 a, .int .i64 b, .int .i64 m, .int .i64 n] w fun e w' => e = .returned (.bool true) ∧ Below w.heap.size w w' := by
  go_enter Tryd.func5, Tryd.ntmps5
  go_wp2_with fail
  refine (tr_first w).mono ?_
  rintro e w1 ⟨rfl, hb1⟩
  go_wp2_with fail
  refine (c_Bezout_ok m n _ h).mono ?_
  rintro e w2 ⟨⟨x, y, rfl, _⟩, hb2⟩
  have T := hb1.trans (hb2.mono hb1.size)
  clear hb1 hb2
  obtain ⟨g, hg⟩ : ∃ g : Nat, g = Int.gcd m n := ⟨_, rfl⟩
  rw [← hg]
  clear hg
  obtain ⟨h1, h2, h3, h4⟩ := h
  rcases hi with i1 | ⟨i1, i2⟩ | ⟨i1, i2, i3⟩ | ⟨i1, i2, i3, i4⟩
  all_goals
    go_wp2_with (go_at_call 22; refine (c_Tin _ _ _ _).mono ?_; rintro e w' ⟨rfl, rfl⟩)
    go_ret
    exact ⟨rfl, T⟩
set_option maxHeartbeats 2000000 in
set_option maxRecDepth 100000 in
theorem rests_in (hg : Handle w) (hm : 1 ≤ m ∧ m ≤ 100) (hn : 1 ≤ n ∧ n ≤ 100) (ha : 0 ≤ a ∧ a ≤ m - 1) (hb : 0 ≤ b ∧ b ≤ n - 1) :
    Calls Tryd.prog 5 #[.int .i64 a, .int .i64 b, .int .i64 m, .int .i64 n] w fun e w' => e = .returned (.bool true) ∧ Below w.heap.size w w' := by
  have hgd : Hid (Handle w) := hg
  have OK : Hid (CrtOk [a, b] [m, n]) := rests_ok (by omega) (by omega) hm.2 hn.2
  have i1 := inT_true hm
  have i2 := inT_true hn
  have i3 := inT_true ha
  have i4 := inT_true hb
  have ha' : 0 ≤ a ∧ a < m := by omega
  have hb' : 0 ≤ b ∧ b < n := by omega
  have DM : Hid (((Int.gcd m n : Nat) : Int) ∣ m) := Int.gcd_dvd_left m n
  have DN : Hid (((Int.gcd m n : Nat) : Int) ∣ n) := Int.gcd_dvd_right m n
  have hg1 : 1 ≤ Int.gcd m n := by
    have := Int.gcd_pos_of_ne_zero_left n (show m ≠ 0 by omega); omega
  have hg2 : Int.gcd m n ≤ 100 := by
    have := Nat.le_of_dvd (by omega) (Int.gcd_dvd_natAbs_left m n); omega
  have RS : Hid (Int.gcd m n = 1 → (stp [m, n] 2 : Int) = m * n) := rests_stp hm.1 hn.1
  clear hg
  go_enter Tryd.func5, Tryd.ntmps5
  go_wp2_with fail
  refine (tr_first w).mono ?_
  rintro e w1 ⟨rfl, hb1⟩
  go_wp2_with fail
  refine (c_Bezout_ok m n _ (by omega)).mono ?_
  rintro e w2 ⟨⟨x, y, rfl, hB⟩, hb2⟩
  have T := hb1.trans (hb2.mono hb1.size)
  obtain ⟨⟨x1, x2⟩, ⟨y1, y2⟩, e9⟩ := bez_small hB hm hn
  obtain ⟨g, hg⟩ : ∃ g : Nat, g = Int.gcd m n := ⟨_, rfl⟩
  rw [← hg] at e9 DM DN hg1 hg2 RS ⊢
  have E9 := Lib.hid e9
  have i5 := inT_true (n := x) (lo := 0) (hi := 100) ⟨x1, x2⟩
  have i6 := inT_true (n := y) (lo := -100) (hi := 100) ⟨y1, y2⟩
  clear hb1 hb2 hB e9 hg
  go_wp2_with (go_at_call 22; refine (c_Tin _ _ _ _).mono ?_; rintro e w' ⟨rfl, rfl⟩)
  have RP := Lib.hid (rd_pair w2 a b m n 3)
  have T2 := T.trans ((below_2 w2 (.cells #[.int .i64 a, .int .i64 b] 3) (.cells #[.int .i64 m, .int .i64 n] 3)).mono T.size)
  clear T
  refine (crt_solve_any _ _ 2 2 2 [a, b] [m, n] _ _ RP.out.1 RP.out.2 OK.out).mono ?_
  rintro e w3 ⟨⟨z, hz, rfl⟩ | ⟨hno, rfl⟩, q, rfl⟩
  · have T3 := below_drewN T2 q
    have HZ := Lib.hid hz
    have DV := Lib.hid (rests_not ha' hb' DM.out DN.out hz)
    have SI : Hid (∀ v, Sol [a, b] [m, n] 2 v → v % (stp [m, n] 2 : Int) = z % (stp [m, n] 2 : Int)) := fun v hv => (sol_iff OK.out 2 (Nat.le_refl 2) z hz v).1 hv
    obtain ⟨w3, hw3⟩ : ∃ w3, w3 = ((w2.alloc (.cells #[.int .i64 a, .int .i64 b] 3)).alloc (.cells #[.int .i64 m, .int .i64 n] 3)).drewN q := ⟨_, rfl⟩
    rw [← hw3] at T3 ⊢
    obtain ⟨S, hS⟩ : ∃ S, S = stp [m, n] 2 := ⟨_, rfl⟩
    rw [← hS] at RS SI ⊢
    obtain ⟨v, hv⟩ : ∃ v, v = z % (S : Int) := ⟨_, rfl⟩
    rw [← hv] at SI ⊢
    clear hz hw3 hS hv T2 RP
    by_cases h1 : g = 1
    · subst h1
      have RW := SI.out _ (rests_want ha' hb' E9.out)
      have ES := RS.out rfl
      rw [ES] at RW ⊢
      have hM : 0 < m * n := Int.mul_pos (by omega) (by omega)
      have tu := tmod_up (z := a * n * y + b * m * x) hM
      have tb1 := Int.lt_tmod_of_pos (a * n * y + b * m * x) hM
      have tb2 := Int.tmod_lt_of_pos (a * n * y + b * m * x) hM
      have an := Int.mul_le_mul (a := a) (b := n) (c := 100) (d := 100) (by omega) (by omega) (by omega) (by omega)
      have an0 := Int.mul_nonneg ha'.1 (show 0 ≤ n by omega)
      have bm := Int.mul_le_mul (a := b) (b := m) (c := 100) (d := 100) (by omega) (by omega) (by omega) (by omega)
      have bm0 := Int.mul_nonneg hb'.1 (show 0 ≤ m by omega)
      have mn := Int.mul_le_mul (a := m) (b := n) (c := 100) (d := 100) (by omega) (by omega) (by omega) (by omega)
      have p1 := Int.mul_le_mul_of_nonneg_left y2 an0
      have p2 := Int.mul_le_mul_of_nonneg_left y1 an0
      have p3 := Int.mul_le_mul (a := b * m) (b := x) (c := 10000) (d := 100) (by omega) (by omega) (by omega) (by omega)
      have p30 := Int.mul_nonneg bm0 x1
      obtain ⟨W, hW⟩ : ∃ W, W = a * n * y + b * m * x := ⟨_, rfl⟩
      have W1 : -1000000 ≤ a * n * y ∧ a * n * y ≤ 1000000 := by omega
      have W2 : 0 ≤ b * m * x ∧ b * m * x ≤ 1000000 := by omega
      have W3 : a * n * y + b * m * x = W := hW.symm
      rw [← hW] at RW tu tb1 tb2
      have hW' : -1000000 ≤ W ∧ W ≤ 2000000 := by omega
      obtain ⟨M, hMM⟩ : ∃ M, M = m * n := ⟨_, rfl⟩
      have M3 : m * n = M := hMM.symm
      rw [← hMM] at RW tu tb1 tb2 hM mn ⊢
      obtain ⟨t, ht⟩ : ∃ t, t = W.tmod M := ⟨_, rfl⟩
      have t3 : W.tmod M = t := ht.symm
      rw [← ht] at tu tb1 tb2
      have hM0 : ¬ M = 0 := by omega
      have TU := Lib.hid tu
      have HRW := Lib.hid RW
      clear p1 p2 p3 p30 ht hMM hW tu RW
      have w1 : IntKind.i64.wrap t = t := IntWalk.i64_in _ (by omega)
      by_cases ht0 : t < 0
      · have e1 : t + M = v := by rw [← HRW.out]; exact TU.out.2 ht0
        have e2 : v = t + M := e1.symm
        have e3 : ((M : Int) == m * n) = true := by simp [M3]
        clear e1
        rw [e2]
        go_wp2
        go_ret
        exact ⟨rfl, T3⟩
      · have e1 : t = v := by rw [← HRW.out]; exact TU.out.1 (by omega)
        rw [← e1]
        have e3 : ((M : Int) == m * n) = true := by simp [M3]
        go_wp2
        go_ret
        exact ⟨rfl, T3⟩
    · have g1 : ((g : Int) != 1) = true := by simp; omega
      have gz : ¬ (g : Int) = 0 := by omega
      have d1 : (a - b).tmod (g : Int) = 0 := Int.dvd_iff_tmod_eq_zero.1 DV.out
      have w1 : IntKind.i64.wrap (a - b) = a - b := IntWalk.i64_in _ (by omega)
      clear h1
      go_wp2_with fail
      go_quiet (fail)
      go_wp2
      go_ret
      exact ⟨rfl, below_drewN T3 _⟩
  · have T3 := below_drewN T2 q
    have ND : Hid (¬ (g : Int) ∣ a - b) := fun hd => by
      obtain ⟨z, hz⟩ := rests_has ha' hb' E9.out hd
      exact hno z hz
    obtain ⟨w3, hw3⟩ : ∃ w3, w3 = ((w2.alloc (.cells #[.int .i64 a, .int .i64 b] 3)).alloc (.cells #[.int .i64 m, .int .i64 n] 3)).drewN q := ⟨_, rfl⟩
    rw [← hw3] at T3 ⊢
    have h1 : ¬ g = 1 := fun e => ND.out (by rw [e]; exact Int.one_dvd _)
    have g1 : ((g : Int) != 1) = true := by simp; omega
    have gz : ¬ g = 0 := by omega
    have d1 : ((a - b).tmod (g : Int) == 0) = false := by
      have : ¬ (a - b).tmod (g : Int) = 0 := fun e => ND.out (Int.dvd_iff_tmod_eq_zero.2 e)
      simp [this]
    have w1 : IntKind.i64.wrap (a - b) = a - b := IntWalk.i64_in _ (by omega)
    have HG3 := Lib.hid (hgd.out.below T3)
    clear h1 hw3 hno T2 RP
    go_wp2_with fail
    refine wp_region_still_tail 14 (by kernel_rfl) (by kernel_rfl) ?_
    simp only [List.take_succ_cons, List.take_zero, List.drop_succ_cons, List.drop_zero]
    repeat still_step
    refine wpStill_nil ?_
    change wpList _ _ _ _ _ w3.drew
    have HG4 : Hid (Handle w3.drew) := HG3.out
    go_wp2_with fail
    refine (c_Error_some _ _ _ HG4.out).mono ?_
    rintro e w9 ⟨rfl, hb⟩
    have T9 := (T3.drew).trans (hb.mono T3.size)
    go_wp2
    go_ret
    exact ⟨rfl, T9⟩
end
theorem frame_TopRests (a b m n : Int) (w : World) (_ : Fits a) (_ : Fits b) (_ : Fits m) (_ : Fits n) (hg : Handle w) :
    Calls Tryd.prog 5 #[.int .i64 a, .int .i64 b, .int .i64 m, .int .i64 n] w fun e w' => e = .returned (.bool true) ∧ Below w.heap.size w w' := by
  by_cases h : -1000000 ≤ m ∧ m ≤ 1000000 ∧ -1000000 ≤ n ∧ n ≤ 1000000
  · by_cases h1 : 1 ≤ m ∧ m ≤ 100
    · by_cases h2 : 1 ≤ n ∧ n ≤ 100
      · by_cases h3 : 0 ≤ a ∧ a ≤ m - 1
        · by_cases h4 : 0 ≤ b ∧ b ≤ n - 1
          · exact rests_in a b m n w hg h1 h2 h3 h4
          · exact rests_out a b m n w h (.inr (.inr (.inr ⟨inT_true h1, inT_true h2, inT_true h3, inT_false h4⟩)))
        · exact rests_out a b m n w h (.inr (.inr (.inl ⟨inT_true h1, inT_true h2, inT_false h3⟩)))
      · exact rests_out a b m n w h (.inr (.inl ⟨inT_true h1, inT_false h2⟩))
    · exact rests_out a b m n w h (.inl (inT_false h1))
  · exact rests_bad a b m n w h
end Go.Proofs.YtpfbbalhhldghaaDoor
