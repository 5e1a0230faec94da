/- The reference's lengths: the walk of Long. -/
import Derived.Test.YtmicgjpelikjiaaDoorKaraRef
namespace Go.Proofs.YtmicgjpelikjiaaDoor
open Go.RowKit

theorem all_of {L : List Int} {lo hi : Int} (h : ∀ x ∈ L, lo ≤ x ∧ x ≤ hi) : allB L lo hi = true := by rw [allB_not, anyB_false_of h]; rfl
theorem all_not {L : List Int} {lo hi : Int} (h : ¬ ∀ x ∈ L, lo ≤ x ∧ x ≤ hi) : allB L lo hi = false := by
  rw [allB_not]
  cases e : anyB L lo hi
  · exact absurd (anyB_false e) h
  · rfl
/-- The least power of two that is no smaller, and its exponent. -/
def up2 (n : Nat) : Nat := if n ≤ 1 then 0 else if n ≤ 2 then 1 else if n ≤ 4 then 2 else if n ≤ 8 then 3 else 4
theorem up2_lt : ∀ n, n ≤ 16 → ∀ j, j < up2 n → 2 ^ j < n := by decide
theorem up2_ge : ∀ n, n ≤ 16 → n ≤ 2 ^ up2 n := by decide
theorem up2_pow : ∀ n, n ≤ 16 → Pow2 n → 2 ^ up2 n = n ∧ up2 n = halv n := by decide
theorem up2_no : ∀ n, n ≤ 16 → ¬ Pow2 n → 2 ^ up2 n ≠ n := by decide
theorem up2_le (n : Nat) : up2 n ≤ 4 := by unfold up2; split <;> (try split) <;> (try split) <;> (try split) <;> omega
set_option maxHeartbeats 2000000 in
theorem c_RLong_ok (A A' : Option Addr) (n c n' c' : Nat) (L M : List Int) (B B' : Nat) (w : World) (hL : Rd w B A n L) (hM : Rd w B' A' n' M) (h : KOk L M) :
    Calls Tryd.prog 14 #[.slice A n c, .slice A' n' c'] w fun e w' => e = .returned (.tuple #[.int .i64 0, .int .i64 (halv n : Nat)]) ∧ w = w' := by
  obtain ⟨k1, k2, k3, k4⟩ := h
  rw [hM.1, hL.1] at k2
  rw [hL.1] at k1
  obtain rfl : n' = n := k2
  have h16 : 1 ≤ n' ∧ n' ≤ 16 := by unfold Pow2 at k1; omega
  have a1 := all_of k3
  have a2 := all_of k4
  obtain ⟨u1, u2⟩ := up2_pow n' h16.2 k1
  have u3 := up2_le n'
  have U1 := Lib.hid u1
  have U2 := Lib.hid u2
  have U4 : Hid (∀ j, j < up2 n' → 2 ^ j < n') := up2_lt n' h16.2
  clear k1 k3 k4 u1 u2
  go_enter Tryd.func14, Tryd.ntmps14
  go_wp2
  go_loop [6, 7] (fun h p => ∃ (j m : Nat), j ≤ up2 n' ∧ Hid (m = 2 ^ j) ∧ m ≤ 16 ∧ h = .int .i64 j ∧ p = .int .i64 m) (fun h _ => 5 - (intOf h).toNat)
  case atStart => exact ⟨0, 1, Nat.zero_le _, rfl, by omega, rfl, rfl⟩
  case round =>
    obtain ⟨j, m, hj, HJ, hm, rfl, rfl⟩ := hrel
    by_cases hlt : m < n'
    · have hj' : j < up2 n' := by
        rcases Nat.lt_or_ge j (up2 n') with h | h
        · exact h
        · have : j = up2 n' := by omega
          rw [HJ.out, this, U1.out] at hlt; omega
      have hn : Hid (2 * m = 2 ^ (j + 1)) := by rw [Hid, HJ.out, Nat.pow_succ]; omega
      have hm2 : 2 * m ≤ 16 := by
        have : 2 ^ (j + 1) ≤ 2 ^ 4 := Nat.pow_le_pow_right (by omega) (by omega)
        rw [hn.out]; omega
      go_wp2
      go_round
      case rel => exact ⟨j + 1, 2 * m, by omega, hn, hm2, by go_num, by go_num⟩
      case measure => simp [intOf]; omega
    · have hj' : j = up2 n' := by
        rcases Nat.lt_or_ge j (up2 n') with h | h
        · have := U4.out j h; rw [← HJ.out] at this; omega
        · omega
      have hmn : m = n' := by rw [HJ.out, hj', U1.out]
      have hjh : Hid (j = halv n') := by rw [Hid, hj', U2.out]
      clear hj' HJ U1 U2 U4
      subst hmn
      go_wp2_with fail
      refine (c_All _ _ _ L _ _ _ _ hL (by omega)).mono ?_
      rintro e w' ⟨rfl, rfl⟩
      go_wp2_with fail
      refine (c_All _ _ _ M _ _ _ _ hM (by omega)).mono ?_
      rintro e w' ⟨rfl, rfl⟩
      go_wp2
      go_ret2
      exact ⟨by rw [← hjh.out]; rfl, rfl⟩
end Go.Proofs.YtmicgjpelikjiaaDoor
