/- The contract of package recur's Row at the row that TopGolden asks: Fibonacci's. -/
import Derived.Test.YtpfbbalhhldghaaEucS
import Derived.Test.YtpfbbalhhldghaaContG
namespace Go.Proofs.Ytpfbbalhhldghaa
open Go.RowKit

def fibL : List Int := [1, 1, 2, 3, 5, 8, 13, 21, 34, 55, 89, 144, 233, 377, 610, 987, 1597, 2584, 4181]
theorem fibL_step : ∀ k, k < 19 → 2 ≤ k → nth fibL (k - 1) + nth fibL (k - 1 - 1) = nth fibL k := by decide
theorem fibL_bd : ∀ k, k < 19 → 0 ≤ nth fibL k ∧ nth fibL k ≤ 4181 := by decide
theorem fibL_take : ∀ k, k < 19 → fibL.take k ++ [nth fibL k] = fibL.take (k + 1) := by decide
def lenOf : Value → Nat
  | .slice _ n _ => n
  | _ => 0
theorem ones_any : anyB [1, 1] 0 9972 = false := by decide
theorem c_Tin (n lo hi : Int) (w : World) :
    Calls Try.prog 22 #[.int .i64 n, .int .i64 lo, .int .i64 hi] w fun e w' => e = .returned (.bool (inB n lo hi)) ∧ w = w' := by
  unfold inB
  by_cases h1 : lo ≤ n
  · by_cases h2 : n ≤ hi
    · go_enter Try.func22, Try.ntmps22
      go_wp2
      go_ret
      exact ⟨ret_bool (by simp; omega), rfl⟩
    · go_enter Try.func22, Try.ntmps22
      go_wp2
      go_ret
      exact ⟨ret_bool (by simp; omega), rfl⟩
  · go_enter Try.func22, Try.ntmps22
    go_wp2
    go_ret
    exact ⟨ret_bool (by simp; omega), rfl⟩
theorem c_rcheck (A A' : Option Addr) (c c' B B' : Nat) (w : World) (h1 : Rd w B A 2 [1, 1]) (h2 : Rd w B' A' 2 [1, 1]) :
    Calls Try.prog 34 #[.slice A 2 c, .slice A' 2 c'] w fun e w' => e = .returned .nilIface ∧ w = w' := by
  have ha := ones_any
  go_enter Try.func34, Try.ntmps34
  go_wp2_with fail
  refine (c_Any _ _ _ [1, 1] 0 9972 _ _ h1 (by omega)).mono ?_
  rintro e w' ⟨rfl, rfl⟩
  go_wp2_with fail
  refine (c_Any _ _ _ [1, 1] 0 9972 _ _ h2 (by omega)).mono ?_
  rintro e w' ⟨rfl, rfl⟩
  go_wp2
  go_ret
  exact ⟨rfl, rfl⟩
set_option maxHeartbeats 1000000 in
theorem c_fibrow (A A' : Option Addr) (c c' : Nat) (w : World) (h1 : Rd w w.heap.size A 2 [1, 1]) (h2 : Rd w w.heap.size A' 2 [1, 1]) (hc : 2 ≤ c') :
    Calls Try.prog 35 #[.slice A 2 c, .slice A' 2 c', .int .i64 19] w fun e w' => ∃ A2 c2, e = .returned (.slice A2 19 c2) ∧ Own w' w.heap.size A2 19 c2 fibL ∧ Below w.heap.size w w' := by
  obtain ⟨b, off, rfl, hb, hcell⟩ := h2.at' (k := 0) (by omega)
  have H1 := Lib.hid h1
  have H2 := Lib.hid h2
  have HR := Lib.hid (rd_take h2 2 (Nat.le_refl _))
  clear h1 h2 hcell
  go_enter Try.func35, Try.ntmps35
  go_wp2_with (at_builtin; refine wp_append_list rfl (.const (.slice none 0 0)) (.tmp 16) rfl w.heap.size rfl rfl (Own.nil _ _) H2.out (by omega) (by omega) (Nat.le_refl _) ?_)
  intro A1 c1 w1 o1 hb1
  have O1 := Lib.hid o1
  clear o1
  go_wp2
  go_loopw [7] (fun o wr => ∃ (k : Nat) (A2 : Option Addr) (c2 : Nat), 2 ≤ k ∧ k ≤ 19 ∧ o = .slice A2 k c2 ∧ Hid (Own wr w.heap.size A2 k c2 (fibL.take k)) ∧ Below w.heap.size w wr) (fun o _ => 19 - lenOf o)
  case atStart => exact ⟨2, A1, c1, by omega, by omega, rfl, O1.out, hb1⟩
  case round =>
    obtain ⟨k, A2, c2, hk2, hk, rfl, HO, hbr⟩ := hrel
    by_cases hlt : k < 19
    · obtain ⟨g, rfl, hg1, hg2⟩ := HO.out.form (by omega)
      obtain ⟨bf, of, rfl, hbf, f0⟩ := (H1.out.below hbr).at' (k := 0) (by omega)
      obtain ⟨bf', of', e', _, f1⟩ := (H1.out.below hbr).at' (k := 1) (by omega)
      injection e' with e'
      injection e' with e1 e2 _
      subst e1; subst e2
      rw [Nat.add_zero, show nth [1, 1] 0 = 1 from rfl] at f0
      rw [show nth [1, 1] 1 = 1 from rfl] at f1
      have x1 := HO.out.cell (j := k - 1) (by omega)
      have x2 := HO.out.cell (j := k - 1 - 1) (by omega)
      have q1 : nth (fibL.take k) (k - 1) = nth fibL (k - 1) := by unfold nth; simp [List.getD, show k - 1 < k by omega]
      have q2 : nth (fibL.take k) (k - 1 - 1) = nth fibL (k - 1 - 1) := by unfold nth; simp [List.getD, show k - 1 - 1 < k by omega]
      rw [q1] at x1
      rw [q2] at x2
      have b1 := fibL_bd (k - 1) (by omega)
      have b2 := fibL_bd (k - 1 - 1) (by omega)
      have b3 := fibL_bd k (by omega)
      have hs := fibL_step k hlt hk2
      have HT := Lib.hid (fibL_take k hlt)
      obtain ⟨z1, hz1⟩ : ∃ z, z = nth fibL (k - 1) := ⟨_, rfl⟩
      obtain ⟨z2, hz2⟩ : ∃ z, z = nth fibL (k - 1 - 1) := ⟨_, rfl⟩
      obtain ⟨z, hz⟩ : ∃ z, z = nth fibL k := ⟨_, rfl⟩
      rw [← hz1] at x1 b1 hs
      rw [← hz2] at x2 b2 hs
      rw [← hz] at hs HT b3
      have hsz := hbr.size
      have hm : z % 9973 = z := by omega
      clear q1 q2 hz1 hz2 hz
      go_wp2
      refine wp_loop_rounds 3 ?_
      rw [rounds_succ]
      go_wp2
      rw [rounds_succ]
      go_wp2
      rw [rounds_succ]
      go_wp2_with (at_builtin; refine wp_push rfl (.tmp 42) (.tmp 45) rfl w.heap.size rfl rfl HO.out (by omega) hsz ?_)
      intro A3 c3 w3 o3 hb3
      have O3 : Hid (Own w3 w.heap.size A3 (k + 1) c3 (fibL.take (k + 1))) := by rw [Hid, ← HT.out]; exact o3
      have B3 := Lib.hid (hbr.trans hb3)
      clear o3 hb3
      go_wp2
      go_roundw
      case rel => exact ⟨k + 1, A3, c3, by omega, by omega, rfl, O3.out, B3.out⟩
      case measure => simp [lenOf]; omega
    · obtain rfl : k = 19 := by omega
      go_wp2
      go_ret
      exact ⟨A2, c2, rfl, HO.out, hbr⟩
end Go.Proofs.Ytpfbbalhhldghaa
