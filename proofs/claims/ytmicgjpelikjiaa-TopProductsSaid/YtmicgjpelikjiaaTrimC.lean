/- The contract of the reference's Trim, for a seat without package poly's division. -/
import Derived.Test.YtmicgjpelikjiaaPolyC
namespace Go.Proofs.Ytmicgjpelikjiaa
open Go.RowKit

/-- A slice's head that reads as the trimmed row. -/
theorem rd_trm {w : World} {B n : Nat} {A : Option Addr} {L : List Int} (h : Rd w B A n L) : Rd w B A (trm L).length (trm L) := by
  have h1 := trm_le L
  have h2 := rd_take h (trm L).length (by rw [← h.1]; exact h1)
  have e : L.take (trm L).length = trm L := by rw [trm_len]; rfl
  rw [e] at h2
  exact h2
set_option maxHeartbeats 1000000 in
theorem c_RTrim (A : Option Addr) (n c : Nat) (L : List Int) (B : Nat) (w : World) (hL : Rd w B A n L) (hc : n ≤ c ∧ c ≤ 9223372036854775807) :
    Calls Try.prog 20 #[.slice A n c] w fun e w' => e = .returned (.slice A (trm L).length c) ∧ w = w' := by
  have HT : Hid ((trm L).length = tnF L n) := by rw [Hid, trm_len, hL.1]
  have HL := Lib.hid hL
  obtain ⟨hc1, hc2⟩ := hc
  clear hL
  go_enter Try.func20, Try.ntmps20
  go_wp2
  go_loop [3] (fun t => ∃ k : Nat, k ≤ n ∧ t = .int .i64 k ∧ Hid (tnF L k = tnF L n)) (fun t => (intOf t).toNat)
  case atStart => exact ⟨n, Nat.le_refl _, rfl, rfl⟩
  case round =>
    obtain ⟨k, hk, rfl, HK⟩ := hrel
    have hkc : k ≤ c := by omega
    by_cases hk0 : k = 0
    · subst hk0
      have HX : Hid ((trm L).length = 0) := by rw [Hid, HT.out, ← HK.out]; rfl
      go_wp2
      go_ret
      exact ⟨by rw [HX.out]; rfl, rfl⟩
    · have hk1 : 0 < k := by omega
      obtain ⟨b, off, rfl, hcell⟩ := HL.out.at_ (k := k - 1) (by omega)
      by_cases hv : nth L (k - 1) = 0
      · have HK' : Hid (tnF L (k - 1) = tnF L n) := by rw [Hid, ← tnF_step hk1 hv]; exact HK.out
        rw [hv] at hcell
        clear hv
        go_wp2
        go_round
        case rel => exact ⟨k - 1, by omega, by go_num, HK'.out⟩
        case measure => simp [intOf]; omega
      · have HX : Hid ((trm L).length = k) := by rw [Hid, HT.out, ← HK.out, tnF_stop hk1 hv]
        have hv' : (nth L (k - 1) == 0) = false := by simp [hv]
        clear hv
        go_wp2
        go_ret
        exact ⟨by rw [HX.out]; rfl, rfl⟩
/-- Two lists compared, what is compared being known to be one. -/
theorem c_sameP (A A' : Option Addr) (n n' c c' : Nat) (L M : List Int) (B B' : Nat) (w : World) (e : L = M) (hl : Rd w B A n L) (hm : Rd w B' A' n' M) (hn : n ≤ 9223372036854775807) :
    Calls Try.prog 12 #[.slice A n c, .slice A' n' c'] w fun e w' => e = .returned (.bool true) ∧ Below w.heap.size w w' := by
  refine (c_Ints A A' n n' c c' L M B B' w hl hm hn).mono ?_
  rintro e w' ⟨rfl, q, rfl⟩
  exact ⟨by rw [eqL_true e], below_drewN (Below.refl _ _) q⟩
end Go.Proofs.Ytmicgjpelikjiaa
