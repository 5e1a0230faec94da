/- The reference's lengths: the walk of Long where something is wrong. -/
import Derived.Test.YtmicgjpelikjiaaDoorKaraRefL
namespace Go.Proofs.YtmicgjpelikjiaaDoor
open Go.RowKit
set_option linter.unusedVariables false

set_option maxHeartbeats 2000000 in
theorem c_RLong_bad (A A' : Option Addr) (n c n' c' : Nat) (L M : List Int) (B B' : Nat) (w : World) (hL : Rd w B A n L) (hM : Rd w B' A' n' M) (h : ¬ KOk L M) :
    Calls Tryd.prog 14 #[.slice A n c, .slice A' n' c'] w fun e w' => e = .returned (.tuple #[.int .i64 (karaE L M), .int .i64 0]) ∧ w = w' := by
  have hl := hL.1
  have hm := hM.1
  by_cases h0 : n = 0
  · have HE : Hid (karaE L M = 5) := by unfold karaE; rw [if_pos (by omega)]; rfl
    have e0 : ((n : Int) == 0) = true := by simp [h0]
    clear h hl hm h0
    go_enter Tryd.func14, Tryd.ntmps14
    go_wp2
    go_ret2
    exact ⟨by rw [HE.out]; rfl, rfl⟩
  · have e0 : ((n : Int) == 0) = false := by simp; omega
    by_cases h1 : 16 < n
    · have HE : Hid (karaE L M = 4) := by unfold karaE; rw [if_neg (by omega), if_pos (by omega)]; rfl
      clear h hl hm h0
      go_enter Tryd.func14, Tryd.ntmps14
      go_wp2
      go_ret2
      exact ⟨by rw [HE.out]; rfl, rfl⟩
    · have u3 := up2_le n
      have U4 : Hid (∀ j, j < up2 n → 2 ^ j < n) := up2_lt n (by omega)
      have U5 : Hid (n ≤ 2 ^ up2 n) := up2_ge n (by omega)
      have H := Lib.hid h
      have HL := Lib.hid hl
      have HM := Lib.hid hm
      clear h hl hm
      go_enter Tryd.func14, Tryd.ntmps14
      go_wp2
      go_loop [6, 7] (fun h p => ∃ (j m : Nat), j ≤ up2 n ∧ Hid (m = 2 ^ j) ∧ m ≤ 16 ∧ h = .int .i64 j ∧ p = .int .i64 m) (fun h _ => 5 - (intOf h).toNat)
      case atStart => exact ⟨0, 1, Nat.zero_le _, rfl, by omega, rfl, rfl⟩
      case round =>
        obtain ⟨j, m, hj, HJ, hm, rfl, rfl⟩ := hrel
        by_cases hlt : m < n
        · have hj' : j < up2 n := by
            rcases Nat.lt_or_ge j (up2 n) with h | h
            · exact h
            · have e : j = up2 n := by omega
              have := U5.out
              rw [← e, ← HJ.out] at this; omega
          have hn : Hid (2 * m = 2 ^ (j + 1)) := by rw [Hid, HJ.out, Nat.pow_succ]; omega
          have hm2 : 2 * m ≤ 16 := by
            have : 2 ^ (j + 1) ≤ 2 ^ 4 := Nat.pow_le_pow_right (by omega) (by omega)
            rw [hn.out]; omega
          go_wp2
          go_round
          case rel => exact ⟨j + 1, 2 * m, by omega, hn, hm2, by go_num, by go_num⟩
          case measure => simp [intOf]; omega
        · have hj' : j = up2 n := by
            rcases Nat.lt_or_ge j (up2 n) with h | h
            · have := U4.out j h; rw [← HJ.out] at this; omega
            · omega
          have hm' : Hid (m = 2 ^ up2 n) := by rw [Hid, HJ.out, hj']
          clear hj' HJ U4 U5
          by_cases h2 : n' = n
          · subst h2
            by_cases h3 : Pow2 n'
            · have HE : Hid (karaE L M = 1) := by unfold karaE; rw [HL.out, HM.out, if_neg (by omega), if_neg (by omega), if_pos ⟨rfl, h3⟩]; rfl
              have hmn : m = n' := by rw [hm'.out]; exact (up2_pow n' (by omega) h3).1
              clear hm'
              subst hmn
              by_cases a1 : ∀ x ∈ L, -1000 ≤ x ∧ x ≤ 1000
              · have b1 := all_of a1
                have b2 : allB M (-1000) 1000 = false := all_not fun a2 => H.out ⟨by rw [HL.out]; exact h3, by rw [HL.out, HM.out], a1, a2⟩
                clear a1 h3
                go_wp2_with fail
                refine (c_All _ _ _ L _ _ _ _ hL (by omega)).mono ?_
                rintro e w' ⟨rfl, rfl⟩
                go_wp2_with fail
                refine (c_All _ _ _ M _ _ _ _ hM (by omega)).mono ?_
                rintro e w' ⟨rfl, rfl⟩
                go_wp2
                go_ret2
                exact ⟨by rw [HE.out]; rfl, rfl⟩
              · have b1 := all_not a1
                clear a1 h3
                go_wp2_with fail
                refine (c_All _ _ _ L _ _ _ _ hL (by omega)).mono ?_
                rintro e w' ⟨rfl, rfl⟩
                go_wp2
                go_ret2
                exact ⟨by rw [HE.out]; rfl, rfl⟩
            · have HE : Hid (karaE L M = 3) := by unfold karaE; rw [HL.out, HM.out, if_neg (by omega), if_neg (by omega), if_neg (fun h => h3 h.2)]; rfl
              have hmn : m ≠ n' := by rw [hm'.out]; exact up2_no n' (by omega) h3
              have e3 : ((m : Int) != (n' : Int)) = true := by simp; omega
              clear hm' h3
              go_wp2
              go_ret2
              exact ⟨by rw [HE.out]; rfl, rfl⟩
          · have HE : Hid (karaE L M = 3) := by unfold karaE; rw [HL.out, HM.out, if_neg (by omega), if_neg (by omega), if_neg (fun h => h2 h.1)]; rfl
            have e3 : ((n : Int) != (n' : Int)) = true := by simp; omega
            go_wp2
            go_ret2
            exact ⟨by rw [HE.out]; rfl, rfl⟩
end Go.Proofs.YtmicgjpelikjiaaDoor
