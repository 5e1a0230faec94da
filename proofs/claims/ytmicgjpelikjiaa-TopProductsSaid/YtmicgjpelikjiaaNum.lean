/- The contracts of the small checks of packages num, rankmereref1 and rankmerelaw1: bounds of one number and of a list. -/
import Derived.Test.YtmicgjpelikjiaaProg
import Derived.Test.YtmicgjpelikjiaaBase
import Derived.Test.YtmicgjpelikjiaaMath
namespace Go.Proofs.Ytmicgjpelikjiaa
open Go.RowKit

theorem c_Out (n lo hi : Int) (w : World) :
    Calls Try.prog 34 #[.int .i64 n, .int .i64 lo, .int .i64 hi] w fun e w' => e = .returned (.bool (outB n lo hi)) ∧ w = w' := by
  unfold outB
  by_cases h1 : n < lo
  · go_enter Try.func34, Try.ntmps34
    go_wp2
    go_ret
    exact ⟨by simp [h1], rfl⟩
  · by_cases h2 : hi < n
    · go_enter Try.func34, Try.ntmps34
      go_wp2
      go_ret
      exact ⟨by simp, rfl⟩
    · go_enter Try.func34, Try.ntmps34
      go_wp2
      go_ret
      exact ⟨by simp [h1]; omega, rfl⟩
theorem c_Any (A : Option Addr) (n c : Nat) (L : List Int) (lo hi : Int) (B : Nat) (w : World) (hr : Rd w B A n L) (hn : n ≤ 9223372036854775807) :
    Calls Try.prog 29 #[.slice A n c, .int .i64 lo, .int .i64 hi] w fun e w' => e = .returned (.bool (anyB L lo hi)) ∧ w = w' := by
  have hl := Lib.hid hr.1
  go_enter Try.func29, Try.ntmps29
  go_wp2
  go_loop [11] (fun i => ∃ k : Nat, k ≤ n ∧ i = .int .i64 k ∧ anyB (L.take k) lo hi = false) (fun i => n - (intOf i).toNat)
  case atStart => exact ⟨0, Nat.zero_le _, rfl, rfl⟩
  case round =>
    obtain ⟨k, hk, rfl, hno⟩ := hrel
    by_cases hlt : k < n
    · obtain ⟨b, off, rfl, hc⟩ := hr.at_ hlt
      have H := Lib.hid hno
      clear hno
      by_cases ho : outB (nth L k) lo hi = true
      · go_wp2_with (go_at_call 34; refine (c_Out _ _ _ _).mono ?_; rintro e w' ⟨rfl, rfl⟩)
        go_ret
        exact ⟨ret_bool (anyB_hit (by rw [hl.out]; exact hlt) ho).symm, rfl⟩
      · have ho' : outB (nth L k) lo hi = false := by simpa using ho
        clear ho
        go_wp2_with (go_at_call 34; refine (c_Out _ _ _ _).mono ?_; rintro e w' ⟨rfl, rfl⟩)
        go_round
        case rel => exact ⟨k + 1, by omega, by go_num, anyB_take_succ (by rw [hl.out]; exact hlt) H.out ho'⟩
        case measure => simp [intOf]; omega
    · have H := Lib.hid hno
      clear hno
      go_wp2
      go_ret
      exact ⟨ret_bool (by rw [← anyB_take_all (show k = L.length by rw [hl.out]; omega), H.out]), rfl⟩
theorem c_Rin (n lo hi : Int) (w : World) :
    Calls Try.prog 26 #[.int .i64 n, .int .i64 lo, .int .i64 hi] w fun e w' => e = .returned (.bool (inB n lo hi)) ∧ w = w' := by
  unfold inB
  by_cases h1 : lo ≤ n
  · by_cases h2 : n ≤ hi
    · go_enter Try.func26, Try.ntmps26
      go_wp2
      go_ret
      exact ⟨ret_bool (by simp; omega), rfl⟩
    · go_enter Try.func26, Try.ntmps26
      go_wp2
      go_ret
      exact ⟨ret_bool (by simp; omega), rfl⟩
  · go_enter Try.func26, Try.ntmps26
    go_wp2
    go_ret
    exact ⟨ret_bool (by simp; omega), rfl⟩
theorem c_in (n lo hi : Int) (w : World) :
    Calls Try.prog 14 #[.int .i64 n, .int .i64 lo, .int .i64 hi] w fun e w' => e = .returned (.bool (inB n lo hi)) ∧ w = w' := by
  unfold inB
  by_cases h1 : lo ≤ n
  · by_cases h2 : n ≤ hi
    · go_enter Try.func14, Try.ntmps14
      go_wp2
      go_ret
      exact ⟨ret_bool (by simp; omega), rfl⟩
    · go_enter Try.func14, Try.ntmps14
      go_wp2
      go_ret
      exact ⟨ret_bool (by simp; omega), rfl⟩
  · go_enter Try.func14, Try.ntmps14
    go_wp2
    go_ret
    exact ⟨ret_bool (by simp; omega), rfl⟩
theorem c_All (A : Option Addr) (n c : Nat) (L : List Int) (lo hi : Int) (B : Nat) (w : World) (hr : Rd w B A n L) (hn : n ≤ 9223372036854775807) :
    Calls Try.prog 18 #[.slice A n c, .int .i64 lo, .int .i64 hi] w fun e w' => e = .returned (.bool (allB L lo hi)) ∧ w = w' := by
  have hl := Lib.hid hr.1
  rw [allB_not]
  go_enter Try.func18, Try.ntmps18
  go_wp2
  go_loop [7] (fun i => ∃ k : Nat, k ≤ n ∧ i = .int .i64 k ∧ anyB (L.take k) lo hi = false) (fun i => n - (intOf i).toNat)
  case atStart => exact ⟨0, Nat.zero_le _, rfl, rfl⟩
  case round =>
    obtain ⟨k, hk, rfl, hno⟩ := hrel
    by_cases hlt : k < n
    · obtain ⟨b, off, rfl, hc⟩ := hr.at_ hlt
      have H := Lib.hid hno
      clear hno
      by_cases ho : outB (nth L k) lo hi = true
      · have hi' : inB (nth L k) lo hi = false := by rw [inB_not, ho]; rfl
        have HO := Lib.hid ho
        clear ho
        go_wp2_with (go_at_call 26; refine (c_Rin _ _ _ _).mono ?_; rintro e w' ⟨rfl, rfl⟩)
        go_ret
        exact ⟨ret_bool (by rw [anyB_hit (by rw [hl.out]; exact hlt) HO.out]; rfl), rfl⟩
      · have ho' : outB (nth L k) lo hi = false := by simpa using ho
        have hi' : inB (nth L k) lo hi = true := by rw [inB_not, ho']; rfl
        have HO := Lib.hid ho'
        clear ho ho'
        go_wp2_with (go_at_call 26; refine (c_Rin _ _ _ _).mono ?_; rintro e w' ⟨rfl, rfl⟩)
        go_round
        case rel => exact ⟨k + 1, by omega, by go_num, anyB_take_succ (by rw [hl.out]; exact hlt) H.out HO.out⟩
        case measure => simp [intOf]; omega
    · have H := Lib.hid hno
      clear hno
      go_wp2
      go_ret
      exact ⟨ret_bool (by rw [← anyB_take_all (show k = L.length by rw [hl.out]; omega), H.out]; rfl), rfl⟩
end Go.Proofs.Ytmicgjpelikjiaa
