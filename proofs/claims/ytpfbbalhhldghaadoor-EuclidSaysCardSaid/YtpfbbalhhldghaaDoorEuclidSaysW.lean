/- The walk of the statement EuclidSays: the law returns true for all arguments. -/
import Derived.Test.YtpfbbalhhldghaaDoorEucRef
import Derived.Test.YtpfbbalhhldghaaDoorAs
namespace Go.Proofs.YtpfbbalhhldghaaDoor
open Go.RowKit

theorem c_RSteps (k : Nat) : ∀ (a b : Nat) (w : World), b < k → b ≤ a → a ≤ 1000000 →
    Calls Tryd.prog 11 #[.int .i64 a, .int .i64 b] w fun e w' => e = .returned (.int .i64 (st a b : Nat)) ∧ w = w' := by
  induction k with
  | zero => intro a b w hk; omega
  | succ k ih =>
    intro a b w hk hab ha
    by_cases h0 : b = 0
    · subst h0
      go_enter Tryd.func11, Tryd.ntmps11
      go_wp2_with fail
      go_ret
      exact ⟨rfl, rfl⟩
    · have e0 : ((b : Int) == 0) = false := by simp; omega
      have hb1 : ¬ (b : Int) = 0 := by omega
      have hm := Nat.mod_lt a (show 0 < b by omega)
      have hs := st_le ha (show b ≤ 1000000 by omega)
      rw [st_pos h0] at hs ⊢
      have HI : Hid (∀ w : World, Calls Tryd.prog 11 #[.int .i64 b, .int .i64 (a % b : Nat)] w fun e w' => e = .returned (.int .i64 (st b (a % b) : Nat)) ∧ w = w') := fun w => ih b (a % b) w (by omega) (by omega) (by omega)
      have hz' : (a : Int) % (b : Int) = ((a % b : Nat) : Int) := by simp
      obtain ⟨r, hr⟩ : ∃ r, r = a % b := ⟨_, rfl⟩
      rw [← hr] at HI hz' hs hm ⊢
      obtain ⟨s, hs'⟩ : ∃ s, s = st b r := ⟨_, rfl⟩
      rw [← hs'] at HI hs ⊢
      clear hr hs' h0
      go_enter Tryd.func11, Tryd.ntmps11
      go_wp2_with fail
      rw [hz']
      refine (HI.out _).mono ?_
      rintro e w' ⟨rfl, rfl⟩
      go_wp2_with fail
      go_ret
      exact ⟨ret_int (by omega), rfl⟩
theorem c_RSteps_any (a b : Nat) (w : World) (ha : a ≤ 1000000) (hb : b ≤ 1000000) :
    Calls Tryd.prog 11 #[.int .i64 a, .int .i64 b] w fun e w' => e = .returned (.int .i64 (st (max a b) (min a b) : Nat)) ∧ w = w' := by
  by_cases h : a < b
  · rw [Nat.max_eq_right (by omega), Nat.min_eq_left (by omega)]
    go_enter Tryd.func11, Tryd.ntmps11
    go_wp2_with fail
    refine (c_RSteps (a + 1) b a _ (by omega) (by omega) hb).mono ?_
    rintro e w' ⟨rfl, rfl⟩
    go_wp2_with fail
    go_ret
    exact ⟨rfl, rfl⟩
  · rw [Nat.max_eq_left (by omega), Nat.min_eq_right (by omega)]
    exact c_RSteps (b + 1) a b w (by omega) (by omega) ha
theorem inB_true' {n lo hi : Int} (h : lo ≤ n ∧ n ≤ hi) : inB n lo hi = true := by unfold inB; simp [h]
theorem inB_false' {n lo hi : Int} (h : ¬ (lo ≤ n ∧ n ≤ hi)) : inB n lo hi = false := by
  cases e : inB n lo hi
  · rfl
  · unfold inB at e; simp at e; exact absurd e h
/-- The two tests of bounds, one behind the other. -/
theorem in_both {a b lo hi : Int} (h : lo ≤ a ∧ a ≤ hi ∧ lo ≤ b ∧ b ≤ hi) : inB a lo hi = true ∧ inB b lo hi = true := ⟨inB_true' ⟨h.1, h.2.1⟩, inB_true' h.2.2⟩
theorem in_not {a b lo hi : Int} (h : ¬ (lo ≤ a ∧ a ≤ hi ∧ lo ≤ b ∧ b ≤ hi)) : inB a lo hi = false ∨ (inB a lo hi = true ∧ inB b lo hi = false) := by
  by_cases h1 : lo ≤ a ∧ a ≤ hi
  · exact .inr ⟨inB_true' h1, inB_false' fun h2 => h ⟨h1.1, h1.2, h2⟩⟩
  · exact .inl (inB_false' h1)
set_option maxHeartbeats 4000000 in
set_option maxRecDepth 100000 in
theorem esays_ok (a b : Int) (w : World) (hg : Handle w) (h : -1000000 ≤ a ∧ a ≤ 1000000 ∧ -1000000 ≤ b ∧ b ≤ 1000000) :
    Calls Tryd.prog 3 #[.int .i64 a, .int .i64 b] w fun e w' => e = .returned (.bool true) ∧ Below w.heap.size w w' := by
  have hgd : Hid (Handle w) := hg
  obtain ⟨i1, i2⟩ := in_both h
  clear hg
  go_enter Tryd.func3, Tryd.ntmps3
  go_wp2_with (go_at_call 6; refine (c_in _ _ _ _).mono ?_; rintro e w' ⟨rfl, rfl⟩)
  refine (c_RBezout a b _ h).mono ?_
  rintro e w' ⟨⟨x, y, rfl, hB⟩, q, rfl⟩
  have T0 : Below w.heap.size w (w.drewN q) := below_drewN (Below.refl _ _) q
  have HB := Lib.hid hB
  clear hB
  go_wp2_with fail
  refine (c_EGcd_ok a b _ h).mono ?_
  rintro e w1 ⟨rfl, hb⟩
  have T0 := T0.trans (hb.mono T0.size)
  clear hb
  go_wp2_with fail
  refine (c_Error_nil _ _).mono ?_
  rintro e w2 ⟨rfl, hb⟩
  have T0 := T0.trans (hb.mono T0.size)
  clear hb
  go_wp2_with fail
  refine (c_Bezout_ok a b _ h).mono ?_
  rintro e w3 ⟨⟨x', y', rfl, hB'⟩, hb⟩
  obtain ⟨rfl, rfl⟩ := bez_uniq hB' HB.out
  have T0 := T0.trans (hb.mono T0.size)
  clear hb hB'
  go_wp2_with fail
  refine (c_Error_nil _ _).mono ?_
  rintro e w4 ⟨rfl, hb⟩
  have T0 := T0.trans (hb.mono T0.size)
  clear hb
  by_cases h' : 0 ≤ a ∧ a ≤ 1000000 ∧ 0 ≤ b ∧ b ≤ 1000000
  · obtain ⟨j1, j2⟩ := in_both h'
    have SA : Hid (∀ w : World, Calls Tryd.prog 11 #[.int .i64 a, .int .i64 b] w fun e w' => e = .returned (.int .i64 (st (max a.toNat b.toNat) (min a.toNat b.toNat) : Nat)) ∧ w = w') := fun w => by
      have := c_RSteps_any a.toNat b.toNat w (by omega) (by omega)
      rw [show ((a.toNat : Nat) : Int) = a by omega, show ((b.toNat : Nat) : Int) = b by omega] at this
      exact this
    have SB : Hid (∀ w : World, Calls Tryd.prog 12 #[.int .i64 a, .int .i64 b] w fun e w' => e = .returned (.tuple #[.int .i64 (st (max a.toNat b.toNat) (min a.toNat b.toNat) : Nat), .nilIface]) ∧ Below w.heap.size w w') := fun w => by
      have := c_Steps_ok a.toNat b.toNat w (by omega) (by omega)
      rw [show ((a.toNat : Nat) : Int) = a by omega, show ((b.toNat : Nat) : Int) = b by omega] at this
      exact this
    obtain ⟨s, hs⟩ : ∃ s, s = st (max a.toNat b.toNat) (min a.toNat b.toNat) := ⟨_, rfl⟩
    rw [← hs] at SA SB
    clear hs
    go_wp2_with (go_at_call 6; refine (c_in _ _ _ _).mono ?_; rintro e w' ⟨rfl, rfl⟩)
    refine (SA.out _).mono ?_
    rintro e w' ⟨rfl, rfl⟩
    go_wp2_with fail
    refine (SB.out _).mono ?_
    rintro e w5 ⟨rfl, hb⟩
    have T0 := T0.trans (hb.mono T0.size)
    clear hb
    go_wp2_with fail
    refine (c_Error_nil _ _).mono ?_
    rintro e w6 ⟨rfl, hb⟩
    have T0 := T0.trans (hb.mono T0.size)
    go_wp2
    go_ret
    exact ⟨rfl, T0⟩
  · have SB := Lib.hid h'
    rcases in_not h' with j1 | ⟨j1, j2⟩
    all_goals
      clear h'
      go_wp2_with (go_at_call 6; refine (c_in _ _ _ _).mono ?_; rintro e w' ⟨rfl, rfl⟩)
      refine (c_Steps_bad a b _ SB.out).mono ?_
      rintro e w5 ⟨rfl, hb⟩
      have T0 := T0.trans (hb.mono T0.size)
      clear hb
      go_wp2_with fail
      refine (c_Error_some _ _ _ (hgd.out.below T0)).mono ?_
      rintro e w6 ⟨rfl, hb⟩
      have T0 := T0.trans (hb.mono T0.size)
      go_wp2
      go_ret
      exact ⟨rfl, T0⟩
set_option maxHeartbeats 4000000 in
set_option maxRecDepth 100000 in
theorem esays_bad (a b : Int) (w : World) (hg : Handle w) (h : ¬ (-1000000 ≤ a ∧ a ≤ 1000000 ∧ -1000000 ≤ b ∧ b ≤ 1000000)) :
    Calls Tryd.prog 3 #[.int .i64 a, .int .i64 b] w fun e w' => e = .returned (.bool true) ∧ Below w.heap.size w w' := by
  have hgd : Hid (Handle w) := hg
  have H := Lib.hid h
  have H2 : Hid (¬ (0 ≤ a ∧ a ≤ 1000000 ∧ 0 ≤ b ∧ b ≤ 1000000)) := fun h' => h ⟨by omega, by omega, by omega, by omega⟩
  have T0 : Below w.heap.size w w := Below.refl _ _
  have hi := in_not h
  have hj := in_not H2.out
  clear hg h
  rcases hi with i1 | ⟨i1, i2⟩
  all_goals
    rcases hj with j1 | ⟨j1, j2⟩
    all_goals
      go_enter Tryd.func3, Tryd.ntmps3
      go_wp2_with (go_at_call 6; refine (c_in _ _ _ _).mono ?_; rintro e w' ⟨rfl, rfl⟩)
      refine (c_EGcd_bad a b _ H.out).mono ?_
      rintro e w1 ⟨rfl, hb⟩
      have T0 := T0.trans (hb.mono T0.size)
      clear hb
      go_wp2_with fail
      refine (c_Error_some _ _ _ (hgd.out.below T0)).mono ?_
      rintro e w2 ⟨rfl, hb⟩
      have T0 := T0.trans (hb.mono T0.size)
      clear hb
      go_wp2_with fail
      refine (c_Bezout_bad a b _ H.out).mono ?_
      rintro e w3 ⟨rfl, hb⟩
      have T0 := T0.trans (hb.mono T0.size)
      clear hb
      go_wp2_with fail
      refine (c_Error_some _ _ _ (hgd.out.below T0)).mono ?_
      rintro e w4 ⟨rfl, hb⟩
      have T0 := T0.trans (hb.mono T0.size)
      clear hb
      go_wp2_with (go_at_call 6; refine (c_in _ _ _ _).mono ?_; rintro e w' ⟨rfl, rfl⟩)
      refine (c_Steps_bad a b _ H2.out).mono ?_
      rintro e w5 ⟨rfl, hb⟩
      have T0 := T0.trans (hb.mono T0.size)
      clear hb
      go_wp2_with fail
      refine (c_Error_some _ _ _ (hgd.out.below T0)).mono ?_
      rintro e w6 ⟨rfl, hb⟩
      have T0 := T0.trans (hb.mono T0.size)
      go_wp2
      go_ret
      exact ⟨rfl, T0⟩
theorem frame_EuclidSays (a b : Int) (w : World) (_ : Fits a) (_ : Fits b) (hg : Handle w) :
    Calls Tryd.prog 3 #[.int .i64 a, .int .i64 b] w fun e w' => e = .returned (.bool true) ∧ Below w.heap.size w w' := by
  by_cases h : -1000000 ≤ a ∧ a ≤ 1000000 ∧ -1000000 ≤ b ∧ b ≤ 1000000
  · exact esays_ok a b w hg h
  · exact esays_bad a b w hg h
end Go.Proofs.YtpfbbalhhldghaaDoor
