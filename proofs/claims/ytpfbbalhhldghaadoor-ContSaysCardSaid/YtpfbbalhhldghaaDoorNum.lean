/- The contracts of the small checks of packages num, rankmereref1 and rankmerelaw1: bounds of one number and of a list. -/
import Derived.Test.YtpfbbalhhldghaaDoorProg
import Derived.Test.YtpfbbalhhldghaaDoorBase
import Derived.Test.YtpfbbalhhldghaaDoorMath
namespace Go.Proofs.YtpfbbalhhldghaaDoor
open Go.RowKit

theorem c_Out (n lo hi : Int) (w : World) :
    Calls Tryd.prog 37 #[.int .i64 n, .int .i64 lo, .int .i64 hi] w fun e w' => e = .returned (.bool (outB n lo hi)) ∧ w = w' := by
  unfold outB
  by_cases h1 : n < lo
  · go_enter Tryd.func37, Tryd.ntmps37
    go_wp2
    go_ret
    exact ⟨by simp [h1], rfl⟩
  · by_cases h2 : hi < n
    · go_enter Tryd.func37, Tryd.ntmps37
      go_wp2
      go_ret
      exact ⟨by simp, rfl⟩
    · go_enter Tryd.func37, Tryd.ntmps37
      go_wp2
      go_ret
      exact ⟨by simp [h1]; omega, rfl⟩
theorem c_Any (A : Option Addr) (n c : Nat) (L : List Int) (lo hi : Int) (B : Nat) (w : World) (hr : Rd w B A n L) (hn : n ≤ 9223372036854775807) :
    Calls Tryd.prog 26 #[.slice A n c, .int .i64 lo, .int .i64 hi] w fun e w' => e = .returned (.bool (anyB L lo hi)) ∧ w = w' := by
  have hl := Lib.hid hr.1
  go_enter Tryd.func26, Tryd.ntmps26
  go_wp2
  go_loop [11] (fun i => ∃ k : Nat, k ≤ n ∧ i = .int .i64 k ∧ anyB (L.take k) lo hi = false) (fun i => n - (intOf i).toNat)
  case atStart => exact ⟨0, Nat.zero_le _, rfl, rfl⟩
  case round =>
    obtain ⟨k, hk, rfl, hno⟩ := hrel
    by_cases hlt : k < n
    · obtain ⟨b, off, rfl, hc⟩ := hr.at_ hlt
      have H := Lib.hid hno
      clear hno
      by_cases ho : outB (nth L k) lo hi = true
      · go_wp2_with (go_at_call 37; refine (c_Out _ _ _ _).mono ?_; rintro e w' ⟨rfl, rfl⟩)
        go_ret
        exact ⟨ret_bool (anyB_hit (by rw [hl.out]; exact hlt) ho).symm, rfl⟩
      · have ho' : outB (nth L k) lo hi = false := by simpa using ho
        clear ho
        go_wp2_with (go_at_call 37; refine (c_Out _ _ _ _).mono ?_; rintro e w' ⟨rfl, rfl⟩)
        go_round
        case rel => exact ⟨k + 1, by omega, by go_num, anyB_take_succ (by rw [hl.out]; exact hlt) H.out ho'⟩
        case measure => simp [intOf]; omega
    · have H := Lib.hid hno
      clear hno
      go_wp2
      go_ret
      exact ⟨ret_bool (by rw [← anyB_take_all (show k = L.length by rw [hl.out]; omega), H.out]), rfl⟩
theorem c_Abs (n : Int) (w : World) (h1 : -9223372036854775807 ≤ n) (h2 : n ≤ 9223372036854775807) :
    Calls Tryd.prog 31 #[.int .i64 n] w fun e w' => e = .returned (.int .i64 (n.natAbs : Int)) ∧ w = w' := by
  go_enter Tryd.func31, Tryd.ntmps31
  go_wp2
  all_goals
    go_ret
    exact ⟨ret_int (by omega), rfl⟩
theorem c_RAbs (n : Int) (w : World) (h1 : -9223372036854775807 ≤ n) (h2 : n ≤ 9223372036854775807) :
    Calls Tryd.prog 25 #[.int .i64 n] w fun e w' => e = .returned (.int .i64 (n.natAbs : Int)) ∧ w = w' := by
  go_enter Tryd.func25, Tryd.ntmps25
  go_wp2
  all_goals
    go_ret
    exact ⟨ret_int (by omega), rfl⟩
theorem c_Gcd (a b : Int) (w : World) (ha1 : -9223372036854775807 ≤ a) (ha2 : a ≤ 9223372036854775807) (hb1 : -9223372036854775807 ≤ b) (hb2 : b ≤ 9223372036854775807) :
    Calls Tryd.prog 27 #[.int .i64 a, .int .i64 b] w fun e w' => e = .returned (.int .i64 (Int.gcd a b : Int)) ∧ ∃ m, w.drewN m = w' := by
  go_enter Tryd.func27, Tryd.ntmps27
  go_wp2_with (go_at_call 31; refine (c_Abs _ _ (by omega) (by omega)).mono ?_; rintro e w' ⟨rfl, rfl⟩)
  go_loopw [0, 1] (fun u v wr => ∃ x y : Nat, x ≤ 9223372036854775807 ∧ y ≤ 9223372036854775807 ∧ u = .int .i64 x ∧ v = .int .i64 y ∧ Nat.gcd x y = Int.gcd a b ∧ ∃ m, w.drewN m = wr) (fun _ v _ => (intOf v).toNat)
  case atStart => exact ⟨a.natAbs, b.natAbs, by omega, by omega, rfl, rfl, rfl, 0, rfl⟩
  case round =>
    obtain ⟨x, y, hx, hy, rfl, rfl, hg, m, rfl⟩ := hrel
    have H := Lib.hid hg
    clear hg
    by_cases h0 : y = 0
    · subst h0
      go_wp2
      go_ret
      exact ⟨ret_int (by rw [← H.out]; simp), m, rfl⟩
    · have hy0 : ¬ (y : Int) = 0 := by omega
      go_wp2
      go_region
      all_goals
        go_wp2
        go_roundw
        case rel => exact ⟨y, x % y, by omega, by have := Nat.mod_lt x (show 0 < y by omega); omega, rfl, by go_num, by rw [← H.out, Nat.gcd_comm y, ← Nat.gcd_rec, Nat.gcd_comm], m + 1, rfl⟩
        case measure => simp [intOf]; have := Nat.mod_lt x (show 0 < y by omega); omega
theorem c_Rin (n lo hi : Int) (w : World) :
    Calls Tryd.prog 32 #[.int .i64 n, .int .i64 lo, .int .i64 hi] w fun e w' => e = .returned (.bool (inB n lo hi)) ∧ w = w' := by
  unfold inB
  by_cases h1 : lo ≤ n
  · by_cases h2 : n ≤ hi
    · go_enter Tryd.func32, Tryd.ntmps32
      go_wp2
      go_ret
      exact ⟨ret_bool (by simp; omega), rfl⟩
    · go_enter Tryd.func32, Tryd.ntmps32
      go_wp2
      go_ret
      exact ⟨ret_bool (by simp; omega), rfl⟩
  · go_enter Tryd.func32, Tryd.ntmps32
    go_wp2
    go_ret
    exact ⟨ret_bool (by simp; omega), rfl⟩
theorem c_in (n lo hi : Int) (w : World) :
    Calls Tryd.prog 6 #[.int .i64 n, .int .i64 lo, .int .i64 hi] w fun e w' => e = .returned (.bool (inB n lo hi)) ∧ w = w' := by
  unfold inB
  by_cases h1 : lo ≤ n
  · by_cases h2 : n ≤ hi
    · go_enter Tryd.func6, Tryd.ntmps6
      go_wp2
      go_ret
      exact ⟨ret_bool (by simp; omega), rfl⟩
    · go_enter Tryd.func6, Tryd.ntmps6
      go_wp2
      go_ret
      exact ⟨ret_bool (by simp; omega), rfl⟩
  · go_enter Tryd.func6, Tryd.ntmps6
    go_wp2
    go_ret
    exact ⟨ret_bool (by simp; omega), rfl⟩
theorem c_All (A : Option Addr) (n c : Nat) (L : List Int) (lo hi : Int) (B : Nat) (w : World) (hr : Rd w B A n L) (hn : n ≤ 9223372036854775807) :
    Calls Tryd.prog 35 #[.slice A n c, .int .i64 lo, .int .i64 hi] w fun e w' => e = .returned (.bool (allB L lo hi)) ∧ w = w' := by
  have hl := Lib.hid hr.1
  rw [allB_not]
  go_enter Tryd.func35, Tryd.ntmps35
  go_wp2
  go_loop [7] (fun i => ∃ k : Nat, k ≤ n ∧ i = .int .i64 k ∧ anyB (L.take k) lo hi = false) (fun i => n - (intOf i).toNat)
  case atStart => exact ⟨0, Nat.zero_le _, rfl, rfl⟩
  case round =>
    obtain ⟨k, hk, rfl, hno⟩ := hrel
    by_cases hlt : k < n
    · obtain ⟨b, off, rfl, hc⟩ := hr.at_ hlt
      have H := Lib.hid hno
      clear hno
      by_cases ho : outB (nth L k) lo hi = true
      · have hi' : inB (nth L k) lo hi = false := by rw [inB_not, ho]; rfl
        have HO := Lib.hid ho
        clear ho
        go_wp2_with (go_at_call 32; refine (c_Rin _ _ _ _).mono ?_; rintro e w' ⟨rfl, rfl⟩)
        go_ret
        exact ⟨ret_bool (by rw [anyB_hit (by rw [hl.out]; exact hlt) HO.out]; rfl), rfl⟩
      · have ho' : outB (nth L k) lo hi = false := by simpa using ho
        have hi' : inB (nth L k) lo hi = true := by rw [inB_not, ho']; rfl
        have HO := Lib.hid ho'
        clear ho ho'
        go_wp2_with (go_at_call 32; refine (c_Rin _ _ _ _).mono ?_; rintro e w' ⟨rfl, rfl⟩)
        go_round
        case rel => exact ⟨k + 1, by omega, by go_num, anyB_take_succ (by rw [hl.out]; exact hlt) H.out HO.out⟩
        case measure => simp [intOf]; omega
    · have H := Lib.hid hno
      clear hno
      go_wp2
      go_ret
      exact ⟨ret_bool (by rw [← anyB_take_all (show k = L.length by rw [hl.out]; omega), H.out]; rfl), rfl⟩
theorem c_RGcd (k : Nat) : ∀ (a b : Int) (w : World), b.natAbs < k → -9223372036854775807 ≤ a → a ≤ 9223372036854775807 → -9223372036854775807 ≤ b → b ≤ 9223372036854775807 →
    Calls Tryd.prog 23 #[.int .i64 a, .int .i64 b] w fun e w' => e = .returned (.int .i64 (Int.gcd a b : Int)) ∧ w = w' := by
  induction k with
  | zero => intro a b w hk; omega
  | succ k ih =>
    intro a b w hk ha1 ha2 hb1 hb2
    by_cases h0 : b = 0
    · subst h0
      go_enter Tryd.func23, Tryd.ntmps23
      go_wp2_with (go_at_call 25; refine (c_RAbs _ _ (by omega) (by omega)).mono ?_; rintro e w' ⟨rfl, rfl⟩)
      go_ret
      exact ⟨ret_int (by simp), rfl⟩
    · have hlt : (a.tmod b).natAbs < b.natAbs := by
        rw [Int.natAbs_tmod]; exact Nat.mod_lt _ (by omega)
      have e : Int.gcd b (a.tmod b) = Int.gcd a b := by
        rw [Int.gcd_eq_natAbs_gcd_natAbs, Int.natAbs_tmod, Nat.gcd_comm, ← Nat.gcd_rec, Nat.gcd_comm, ← Int.gcd_eq_natAbs_gcd_natAbs]
      have E := Lib.hid e
      clear e
      go_enter Tryd.func23, Tryd.ntmps23
      go_wp2_with (go_at_call 23; refine (ih b (a.tmod b) _ (by omega) (by omega) (by omega) (by omega) (by omega)).mono ?_; rintro e w' ⟨rfl, rfl⟩)
      go_ret
      exact ⟨ret_int (by rw [E.out]), rfl⟩
end Go.Proofs.YtpfbbalhhldghaaDoor
