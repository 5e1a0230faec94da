/- The contracts of the small checks of packages num, rankmereref1 and rankmerelaw1: bounds of one number and of a list. -/
import Derived.Test.YtcbpkjmmacgmfaaProg
import Derived.Test.YtcbpkjmmacgmfaaBase
import Derived.Test.YtcbpkjmmacgmfaaMath
namespace Go.Proofs.Ytcbpkjmmacgmfaa
open Go.RowKit

theorem c_Out (n lo hi : Int) (w : World) :
    Calls Try.prog 12 #[.int .i64 n, .int .i64 lo, .int .i64 hi] w fun e w' => e = .returned (.bool (outB n lo hi)) ∧ w = w' := by
  unfold outB
  by_cases h1 : n < lo
  · go_enter Try.func12, Try.ntmps12
    go_wp2
    go_ret
    exact ⟨by simp [h1], rfl⟩
  · by_cases h2 : hi < n
    · go_enter Try.func12, Try.ntmps12
      go_wp2
      go_ret
      exact ⟨by simp, rfl⟩
    · go_enter Try.func12, Try.ntmps12
      go_wp2
      go_ret
      exact ⟨by simp [h1]; omega, rfl⟩
theorem c_Any (A : Option Addr) (n c : Nat) (L : List Int) (lo hi : Int) (B : Nat) (w : World) (hr : Rd w B A n L) (hn : n ≤ 9223372036854775807) :
    Calls Try.prog 13 #[.slice A n c, .int .i64 lo, .int .i64 hi] w fun e w' => e = .returned (.bool (anyB L lo hi)) ∧ w = w' := by
  have hl := Lib.hid hr.1
  go_enter Try.func13, Try.ntmps13
  go_wp2
  go_loop [11] (fun i => ∃ k : Nat, k ≤ n ∧ i = .int .i64 k ∧ anyB (L.take k) lo hi = false) (fun i => n - (intOf i).toNat)
  case atStart => exact ⟨0, Nat.zero_le _, rfl, rfl⟩
  case round =>
    obtain ⟨k, hk, rfl, hno⟩ := hrel
    by_cases hlt : k < n
    · obtain ⟨b, off, rfl, hc⟩ := hr.at_ hlt
      have H := Lib.hid hno
      clear hno
      by_cases ho : outB (nth L k) lo hi = true
      · go_wp2_with (go_at_call 12; refine (c_Out _ _ _ _).mono ?_; rintro e w' ⟨rfl, rfl⟩)
        go_ret
        exact ⟨ret_bool (anyB_hit (by rw [hl.out]; exact hlt) ho).symm, rfl⟩
      · have ho' : outB (nth L k) lo hi = false := by simpa using ho
        clear ho
        go_wp2_with (go_at_call 12; refine (c_Out _ _ _ _).mono ?_; rintro e w' ⟨rfl, rfl⟩)
        go_round
        case rel => exact ⟨k + 1, by omega, by go_num, anyB_take_succ (by rw [hl.out]; exact hlt) H.out ho'⟩
        case measure => simp [intOf]; omega
    · have H := Lib.hid hno
      clear hno
      go_wp2
      go_ret
      exact ⟨ret_bool (by rw [← anyB_take_all (show k = L.length by rw [hl.out]; omega), H.out]), rfl⟩
theorem c_Power (a : Int) (n : Nat) (w : World) (ha1 : 0 ≤ a) (ha2 : a < 9973) (hn : n ≤ 9223372036854775807) :
    Calls Try.prog 32 #[.int .i64 a, .int .i64 n] w fun e w' => e = .returned (.int .i64 (pw a n)) ∧ w = w' := by
  go_enter Try.func32, Try.ntmps32
  go_wp2
  go_loop [0, 1, 5] (fun u v t => ∃ (x y : Int) (m : Nat), 0 ≤ x ∧ x < 9973 ∧ 0 ≤ y ∧ y < 9973 ∧ m ≤ 9223372036854775807 ∧ t = .int .i64 x ∧ u = .int .i64 y ∧ v = .int .i64 m ∧ x * y ^ m % 9973 = pw a n) (fun _ v _ => (intOf v).toNat)
  case atStart => exact ⟨1, a, n, by omega, by omega, ha1, ha2, hn, rfl, rfl, rfl, by simp [pw]⟩
  case round =>
    obtain ⟨x, y, m, hx1, hx2, hy1, hy2, hm, rfl, rfl, rfl, hg⟩ := hrel
    have H := Lib.hid hg
    clear hg
    by_cases h0 : m = 0
    · subst h0
      go_wp2
      go_ret
      exact ⟨ret_int (by rw [← H.out]; simp; omega), rfl⟩
    · have b1 := mul_bd x y 9973 hx1 hx2 hy1 hy2
      have b2 := mul_bd y y 9973 hy1 hy2 hy1 hy2
      by_cases h1 : m % 2 = 1
      · have h1' : ((m : Int) % 2 == 1) = true := by simp; omega
        go_wp2
        go_round
        case rel => exact ⟨x * y % 9973, y * y % 9973, m / 2, by omega, by omega, by omega, by omega, by omega, rfl, rfl, by go_num, by rw [← H.out]; exact sq_odd x y m h1⟩
        case measure => simp [intOf]; omega
      · have h1' : ((m : Int) % 2 == 1) = false := by simp; omega
        go_wp2
        go_round
        case rel => exact ⟨x, y * y % 9973, m / 2, by omega, by omega, by omega, by omega, by omega, rfl, rfl, by go_num, by rw [← H.out]; exact sq_even x y m h1⟩
        case measure => simp [intOf]; omega
theorem c_Over (a : Int) (w : World) (ha1 : 0 ≤ a) (ha2 : a < 9973) :
    Calls Try.prog 30 #[.int .i64 a] w fun e w' => e = .returned (.int .i64 (pw a 9971)) ∧ w = w' := by
  go_enter Try.func30, Try.ntmps30
  go_wp2_with (go_at_call 32; refine (c_Power a 9971 _ ha1 ha2 (by omega)).mono ?_; rintro e w' ⟨rfl, rfl⟩)
  go_ret
  exact ⟨rfl, rfl⟩
theorem c_Rin (n lo hi : Int) (w : World) :
    Calls Try.prog 17 #[.int .i64 n, .int .i64 lo, .int .i64 hi] w fun e w' => e = .returned (.bool (inB n lo hi)) ∧ w = w' := by
  unfold inB
  by_cases h1 : lo ≤ n
  · by_cases h2 : n ≤ hi
    · go_enter Try.func17, Try.ntmps17
      go_wp2
      go_ret
      exact ⟨ret_bool (by simp; omega), rfl⟩
    · go_enter Try.func17, Try.ntmps17
      go_wp2
      go_ret
      exact ⟨ret_bool (by simp; omega), rfl⟩
  · go_enter Try.func17, Try.ntmps17
    go_wp2
    go_ret
    exact ⟨ret_bool (by simp; omega), rfl⟩
theorem c_All (A : Option Addr) (n c : Nat) (L : List Int) (lo hi : Int) (B : Nat) (w : World) (hr : Rd w B A n L) (hn : n ≤ 9223372036854775807) :
    Calls Try.prog 7 #[.slice A n c, .int .i64 lo, .int .i64 hi] w fun e w' => e = .returned (.bool (allB L lo hi)) ∧ w = w' := by
  have hl := Lib.hid hr.1
  rw [allB_not]
  go_enter Try.func7, Try.ntmps7
  go_wp2
  go_loop [7] (fun i => ∃ k : Nat, k ≤ n ∧ i = .int .i64 k ∧ anyB (L.take k) lo hi = false) (fun i => n - (intOf i).toNat)
  case atStart => exact ⟨0, Nat.zero_le _, rfl, rfl⟩
  case round =>
    obtain ⟨k, hk, rfl, hno⟩ := hrel
    by_cases hlt : k < n
    · obtain ⟨b, off, rfl, hc⟩ := hr.at_ hlt
      have H := Lib.hid hno
      clear hno
      by_cases ho : outB (nth L k) lo hi = true
      · have hi' : inB (nth L k) lo hi = false := by rw [inB_not, ho]; rfl
        have HO := Lib.hid ho
        clear ho
        go_wp2_with (go_at_call 17; refine (c_Rin _ _ _ _).mono ?_; rintro e w' ⟨rfl, rfl⟩)
        go_ret
        exact ⟨ret_bool (by rw [anyB_hit (by rw [hl.out]; exact hlt) HO.out]; rfl), rfl⟩
      · have ho' : outB (nth L k) lo hi = false := by simpa using ho
        have hi' : inB (nth L k) lo hi = true := by rw [inB_not, ho']; rfl
        have HO := Lib.hid ho'
        clear ho ho'
        go_wp2_with (go_at_call 17; refine (c_Rin _ _ _ _).mono ?_; rintro e w' ⟨rfl, rfl⟩)
        go_round
        case rel => exact ⟨k + 1, by omega, by go_num, anyB_take_succ (by rw [hl.out]; exact hlt) H.out HO.out⟩
        case measure => simp [intOf]; omega
    · have H := Lib.hid hno
      clear hno
      go_wp2
      go_ret
      exact ⟨ret_bool (by rw [← anyB_take_all (show k = L.length by rw [hl.out]; omega), H.out]; rfl), rfl⟩
end Go.Proofs.Ytcbpkjmmacgmfaa
