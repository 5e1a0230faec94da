/- The contracts of the reference's arithmetic in the prime field: Mod, Pow, Div. -/
import Derived.Test.YtcbpkjmmacgmfaaNum
import Derived.Test.YtcbpkjmmacgmfaaFermat
namespace Go.Proofs.Ytcbpkjmmacgmfaa
open Go.RowKit

theorem tmod_neg (n : Int) (h : n < 0) : n.tmod 9973 = -((-n) % 9973) := by
  have := Int.neg_tmod (-n) 9973
  rw [Int.neg_neg] at this
  rw [this, Int.tmod_eq_emod_of_nonneg (by omega)]
theorem c_RMod (n : Int) (w : World) (h1 : -9223372036854775808 ≤ n) (h2 : n ≤ 9223372036854775807) :
    Calls Try.prog 8 #[.int .i64 n] w fun e w' => e = .returned (.int .i64 (n % 9973)) ∧ w = w' := by
  by_cases h : 0 ≤ n
  · go_enter Try.func8, Try.ntmps8
    go_wp2
    go_ret
    exact ⟨rfl, rfl⟩
  · have e := tmod_neg n (by omega)
    obtain ⟨r, hr⟩ : ∃ r, r = n.tmod 9973 := ⟨_, rfl⟩
    by_cases h0 : (-n) % 9973 = 0
    · have hz : n.tmod 9973 = 0 := by omega
      have H1 := Lib.hid e
      have H2 := Lib.hid hr
      have H3 := Lib.hid h0
      clear e hr h0
      go_enter Try.func8, Try.ntmps8
      go_wp2
      go_ret
      exact ⟨ret_int (by have := H3.out; omega), rfl⟩
    · have b1 : n.tmod 9973 < 0 := by omega
      have b2 : -9973 < n.tmod 9973 := by omega
      have H1 := Lib.hid e
      have H2 := Lib.hid hr
      have H3 := Lib.hid h0
      clear e hr h0
      go_enter Try.func8, Try.ntmps8
      go_wp2
      go_ret
      exact ⟨ret_int (by have := H1.out; have := H3.out; omega), rfl⟩
/-- The quotient in the field is the only number whose product is right. -/
theorem div_unique (a b x : Int) (ha1 : 0 ≤ a) (ha2 : a < 9973) (hb1 : 0 < b) (hb2 : b < 9973) (hx1 : 0 ≤ x) (hx2 : x < 9973) : x * b % 9973 = a ↔ x = a * pw b 9971 % 9973 := by
  have ho := over_mul b hb1 hb2
  constructor
  · intro h
    rw [← h, Int.mul_emod, Int.emod_emod, ← Int.mul_emod, Int.mul_assoc, Int.mul_emod, ho]
    omega
  · rintro rfl
    rw [Int.mul_emod, Int.emod_emod, ← Int.mul_emod, Int.mul_assoc, Int.mul_comm (pw b 9971), Int.mul_emod, ho]
    omega
end Go.Proofs.Ytcbpkjmmacgmfaa
