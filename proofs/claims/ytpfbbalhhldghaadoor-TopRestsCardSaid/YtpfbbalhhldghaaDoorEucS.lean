/- The contracts of package euclid: what is refused, the steps, the closed fact. -/
import Derived.Test.YtpfbbalhhldghaaDoorEuc
namespace Go.Proofs.YtpfbbalhhldghaaDoor
open Go.RowKit

theorem c_Bezout_bad (a b : Int) (w : World) (h : ¬ (-1000000 ≤ a ∧ a ≤ 1000000 ∧ -1000000 ≤ b ∧ b ≤ 1000000)) :
    Calls Tryd.prog 10 #[.int .i64 a, .int .i64 b] w fun e w' => e = .returned (.tuple #[.int .i64 0, .int .i64 0, .int .i64 0, .iface 58 (.int .i64 1)]) ∧ Below w.heap.size w w' := by
  have hf := any_two'_not h
  clear h
  go_enter Tryd.func10, Tryd.ntmps10
  go_wp2_with fail
  refine (c_Any _ 2 2 [a, b] (-1000000) 1000000 _ _ (rd_two' w a b _) (by omega)).mono ?_
  rintro e w' ⟨rfl, rfl⟩
  go_wp2
  refine bodyPost_ret (results_tmp4 rfl _ _ _) rfl ?_
  exact ⟨rfl, by go_grown⟩
/-- The loop of Steps, for numbers that are already in order. -/
theorem c_Steps_ok (a b : Nat) (w : World) (ha : a ≤ 1000000) (hb : b ≤ 1000000) :
    Calls Tryd.prog 12 #[.int .i64 a, .int .i64 b] w fun e w' => e = .returned (.tuple #[.int .i64 (st (max a b) (min a b) : Nat), .nilIface]) ∧ Below w.heap.size w w' := by
  have hf : anyB [(a : Int), (b : Int)] 0 1000000 = false := any_two' (by omega)
  by_cases h0 : a = 0
  · subst h0
    have e : st (max 0 b) (min 0 b) = 0 := by rw [Nat.zero_min]; rfl
    have hf' : anyB [(0 : Int), (b : Int)] 0 1000000 = false := any_two' (by omega)
    rw [e]
    clear e hf
    go_enter Tryd.func12, Tryd.ntmps12
    go_wp2_with fail
    refine (c_Any _ 2 2 [(0 : Int), b] 0 1000000 _ _ (rd_two' w _ b _) (by omega)).mono ?_
    rintro e w' ⟨rfl, rfl⟩
    go_wp2
    go_ret2
    exact ⟨rfl, by go_grown⟩
  · have e0 : ((a : Int) == 0) = false := by simp; omega
    obtain ⟨N, hN⟩ : ∃ N, N = st (max a b) (min a b) := ⟨_, rfl⟩
    rw [← hN]
    have hs : N ≤ 30 := by rw [hN]; exact st_le (by omega) (by omega)
    have hcase : (a < b ∧ N = st b a) ∨ (b < a ∧ N = st a b) ∨ (b = a ∧ N = st a b) := by
      rcases Nat.lt_trichotomy a b with h | h | h
      · rw [Nat.max_eq_right (by omega), Nat.min_eq_left (by omega)] at hN; exact .inl ⟨h, hN⟩
      · subst h; rw [Nat.max_self, Nat.min_self] at hN; exact .inr (.inr ⟨rfl, hN⟩)
      · rw [Nat.max_eq_left (by omega), Nat.min_eq_right (by omega)] at hN; exact .inr (.inl ⟨h, hN⟩)
    clear hN
    rcases hcase with ⟨hc, hN⟩ | ⟨hc, hN⟩ | ⟨hc, hN⟩
    all_goals (try subst hc)
    all_goals
      have HN := Lib.hid hN
      clear hN
      go_enter Tryd.func12, Tryd.ntmps12
      go_wp2_with fail
      refine (c_Any _ 2 2 [(_ : Int), _] 0 1000000 _ _ (rd_two' w _ _ _) (by omega)).mono ?_
      rintro e w' ⟨rfl, rfl⟩
      go_wp2
      go_loopw [0, 1, 6] (fun u v t wr => ∃ (x y n : Nat), x ≤ 1000000 ∧ y ≤ 1000000 ∧ n ≤ 30 ∧ u = .int .i64 x ∧ v = .int .i64 y ∧ t = .int .i64 n ∧ Hid (n + st x y = N) ∧ Below w.heap.size w wr) (fun _ v _ _ => (intOf v).toNat)
      case atStart => first | exact ⟨a, b, 0, ha, hb, by omega, rfl, rfl, rfl, (by rw [Hid, HN.out, Nat.zero_add]), by go_grown⟩ | exact ⟨b, a, 0, hb, ha, by omega, rfl, rfl, rfl, (by rw [Hid, HN.out, Nat.zero_add]), by go_grown⟩ | exact ⟨b, b, 0, hb, hb, by omega, rfl, rfl, rfl, (by rw [Hid, HN.out, Nat.zero_add]), by go_grown⟩
      case round =>
        obtain ⟨x, y, n, hx, hy, hn, rfl, rfl, rfl, HS, hbr⟩ := hrel
        by_cases hy0 : y = 0
        · subst hy0
          have e := HS.out
          rw [st_zero, Nat.add_zero] at e
          subst e
          go_wp2
          go_ret2
          exact ⟨rfl, hbr⟩
        · have hy1 : ¬ (y : Int) = 0 := by omega
          have hm := Nat.mod_lt x (show 0 < y by omega)
          have e := HS.out
          rw [st_pos hy0] at e
          have E := Lib.hid (show n + 1 + st y (x % y) = N by omega)
          have hn1 : n + 1 ≤ 30 := by omega
          clear e
          obtain ⟨z, hz⟩ : ∃ z, z = x % y := ⟨_, rfl⟩
          have hz' : (x : Int) % (y : Int) = (z : Int) := by rw [hz]; simp
          rw [← hz] at hm E
          clear hz
          go_wp2
          go_region
          all_goals
            go_wp2
            go_roundw
            case rel => exact ⟨y, z, n + 1, by omega, by omega, hn1, rfl, by rw [hz'], by go_num, E.out, below_drewN hbr 1⟩
            case measure => simp [intOf]; omega
theorem c_Steps_bad (a b : Int) (w : World) (h : ¬ (0 ≤ a ∧ a ≤ 1000000 ∧ 0 ≤ b ∧ b ≤ 1000000)) :
    Calls Tryd.prog 12 #[.int .i64 a, .int .i64 b] w fun e w' => e = .returned (.tuple #[.int .i64 0, .iface 58 (.int .i64 1)]) ∧ Below w.heap.size w w' := by
  have hf := any_two'_not h
  clear h
  go_enter Tryd.func12, Tryd.ntmps12
  go_wp2_with fail
  refine (c_Any _ 2 2 [a, b] 0 1000000 _ _ (rd_two' w a b _) (by omega)).mono ?_
  rintro e w' ⟨rfl, rfl⟩
  go_wp2
  go_ret2
  exact ⟨rfl, by go_grown⟩
end Go.Proofs.YtpfbbalhhldghaaDoor
