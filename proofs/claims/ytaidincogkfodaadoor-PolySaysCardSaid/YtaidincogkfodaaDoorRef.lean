/- The contracts of the reference's arithmetic in the prime field: Mod, Pow, Div. -/
import Derived.Test.YtaidincogkfodaaDoorNum
import Derived.Test.YtaidincogkfodaaDoorFermat
namespace Go.Proofs.YtaidincogkfodaaDoor
open Go.RowKit

theorem tmod_neg (n : Int) (h : n < 0) : n.tmod 9973 = -((-n) % 9973) := by
  have := Int.neg_tmod (-n) 9973
  rw [Int.neg_neg] at this
  rw [this, Int.tmod_eq_emod_of_nonneg (by omega)]
theorem c_RMod (n : Int) (w : World) (h1 : -9223372036854775808 ≤ n) (h2 : n ≤ 9223372036854775807) :
    Calls Tryd.prog 29 #[.int .i64 n] w fun e w' => e = .returned (.int .i64 (n % 9973)) ∧ w = w' := by
  by_cases h : 0 ≤ n
  · go_enter Tryd.func29, Tryd.ntmps29
    go_wp2
    go_ret
    exact ⟨rfl, rfl⟩
  · have e := tmod_neg n (by omega)
    obtain ⟨r, hr⟩ : ∃ r, r = n.tmod 9973 := ⟨_, rfl⟩
    by_cases h0 : (-n) % 9973 = 0
    · have hz : n.tmod 9973 = 0 := by omega
      have H1 := Lib.hid e
      have H2 := Lib.hid hr
      have H3 := Lib.hid h0
      clear e hr h0
      go_enter Tryd.func29, Tryd.ntmps29
      go_wp2
      go_ret
      exact ⟨ret_int (by have := H3.out; omega), rfl⟩
    · have b1 : n.tmod 9973 < 0 := by omega
      have b2 : -9973 < n.tmod 9973 := by omega
      have H1 := Lib.hid e
      have H2 := Lib.hid hr
      have H3 := Lib.hid h0
      clear e hr h0
      go_enter Tryd.func29, Tryd.ntmps29
      go_wp2
      go_ret
      exact ⟨ret_int (by have := H1.out; have := H3.out; omega), rfl⟩
theorem c_RPow (k : Nat) : ∀ (a : Int) (n : Nat) (w : World), n < k → 0 ≤ a → a < 9973 → n ≤ 9223372036854775807 →
    Calls Tryd.prog 36 #[.int .i64 a, .int .i64 n] w fun e w' => e = .returned (.int .i64 (pw a n)) ∧ w = w' := by
  induction k with
  | zero => intro a n w hk; omega
  | succ k ih =>
    intro a n w hk ha1 ha2 hn
    by_cases h0 : n = 0
    · subst h0
      go_enter Tryd.func36, Tryd.ntmps36
      go_wp2_with fail
      go_ret
      exact ⟨ret_int (pw_zero a).symm, rfl⟩
    · have b1 := mul_bd a a 9973 ha1 ha2 ha1 ha2
      obtain ⟨m, hm⟩ : ∃ m, m = n / 2 := ⟨_, rfl⟩
      have hm' : (n : Int) / 2 = (m : Int) := by omega
      have b2 := pw_bd (a * a % 9973) m
      have b3 := mul_bd (pw (a * a % 9973) m) a 9973 (by omega) (by omega) ha1 ha2
      have hc := ih (a * a % 9973) m w (by omega) (by omega) (by omega) (by omega)
      have HC := Lib.hid hc
      have HM := Lib.hid hm
      clear hc hm
      by_cases h1 : n % 2 = 1
      · have h1' : ((n : Int) % 2 == 1) = true := by simp; omega
        have HE : Hid (pw (a * a % 9973) m * a % 9973 = pw a n) := by
          show _ = _
          rw [HM.out]
          unfold pw
          rw [pow_emod, sq_pow, emod_mul, ← Int.pow_succ, show (2 * (n / 2)).succ = n by omega]
        go_enter Tryd.func36, Tryd.ntmps36
        go_wp2_with (go_at_call 36; refine HC.out.mono ?_; rintro e w' ⟨rfl, rfl⟩)
        go_ret
        exact ⟨ret_int HE.out, rfl⟩
      · have h1' : ((n : Int) % 2 == 1) = false := by simp; omega
        have HE : Hid (pw (a * a % 9973) m = pw a n) := by
          show _ = _
          rw [HM.out]
          unfold pw
          rw [pow_emod, sq_pow, show 2 * (n / 2) = n by omega]
        go_enter Tryd.func36, Tryd.ntmps36
        go_wp2_with (go_at_call 36; refine HC.out.mono ?_; rintro e w' ⟨rfl, rfl⟩)
        go_ret
        exact ⟨ret_int HE.out, rfl⟩
/-- The quotient in the field is the only number whose product is right. -/
theorem div_unique (a b x : Int) (ha1 : 0 ≤ a) (ha2 : a < 9973) (hb1 : 0 < b) (hb2 : b < 9973) (hx1 : 0 ≤ x) (hx2 : x < 9973) : x * b % 9973 = a ↔ x = a * pw b 9971 % 9973 := by
  have ho := over_mul b hb1 hb2
  constructor
  · intro h
    rw [← h, Int.mul_emod, Int.emod_emod, ← Int.mul_emod, Int.mul_assoc, Int.mul_emod, ho]
    omega
  · rintro rfl
    rw [Int.mul_emod, Int.emod_emod, ← Int.mul_emod, Int.mul_assoc, Int.mul_comm (pw b 9971), Int.mul_emod, ho]
    omega
theorem c_RDiv (a b : Int) (w : World) (ha1 : 0 ≤ a) (ha2 : a < 9973) (hb1 : 0 < b) (hb2 : b < 9973) :
    Calls Tryd.prog 31 #[.int .i64 a, .int .i64 b] w fun e w' => e = .returned (.int .i64 (a * pw b 9971 % 9973)) ∧ w = w' := by
  have HU : Hid (∀ x, 0 ≤ x → x < 9973 → (x * b % 9973 = a ↔ x = a * pw b 9971 % 9973)) := fun x h1 h2 => div_unique a b x ha1 ha2 hb1 hb2 h1 h2
  obtain ⟨d, hd⟩ : ∃ d, d = a * pw b 9971 % 9973 := ⟨_, rfl⟩
  have d1 : 0 ≤ d := by omega
  have d2 : d < 9973 := by omega
  rw [← hd] at HU ⊢
  clear hd
  go_enter Tryd.func31, Tryd.ntmps31
  go_wp2
  go_loop [5] (fun u => ∃ x : Int, 0 ≤ x ∧ x ≤ d ∧ u = .int .i64 x) (fun u => (d - intOf u).toNat)
  case atStart => exact ⟨0, by omega, d1, rfl⟩
  case round =>
    obtain ⟨x, x1, x2, rfl⟩ := hrel
    have b1 := mul_bd x b 9973 x1 (by omega) (by omega) hb2
    by_cases he : x = d
    · have ht : (x * b % 9973 != a) = false := by
        have := (HU.out x x1 (by omega)).2 he
        simp [this]
      have HE := Lib.hid he
      clear he
      go_wp2
      go_ret
      exact ⟨ret_int HE.out, rfl⟩
    · have ht : (x * b % 9973 != a) = true := by
        have : ¬ x * b % 9973 = a := fun h => he ((HU.out x x1 (by omega)).1 h)
        simp [this]
      have hlt : x < d := by omega
      clear he
      go_wp2
      go_round
      case rel => exact ⟨x + 1, by omega, by omega, rfl⟩
      case measure => simp [intOf]; omega
end Go.Proofs.YtaidincogkfodaaDoor
