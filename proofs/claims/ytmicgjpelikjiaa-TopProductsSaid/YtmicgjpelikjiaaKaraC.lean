/- The contracts of kara.Check and kara.Mul. -/
import Derived.Test.YtmicgjpelikjiaaKaraMul
namespace Go.Proofs.Ytmicgjpelikjiaa
open Go.RowKit

/-- A power of two, at most 16. -/
def Pow2 (n : Nat) : Prop := n = 1 ∨ n = 2 ∨ n = 4 ∨ n = 8 ∨ n = 16
instance (n : Nat) : Decidable (Pow2 n) := by unfold Pow2; infer_instance
/-- Two rows that may be multiplied. -/
def KOk (L M : List Int) : Prop := Pow2 L.length ∧ M.length = L.length ∧ (∀ x ∈ L, -1000 ≤ x ∧ x ≤ 1000) ∧ ∀ x ∈ M, -1000 ≤ x ∧ x ≤ 1000
/-- The number of what is wrong with two rows. -/
def karaE (L M : List Int) : Int := if L.length = 0 then 5 else if 16 < L.length then 4 else if M.length = L.length ∧ Pow2 L.length then 1 else 3
theorem bits_yes {n : Nat} (h : Pow2 n) : (bits BinOp.and IntKind.i64 (n : Int) ((n : Int) - 1) != 0) = false := by
  rcases h with rfl | rfl | rfl | rfl | rfl <;> decide +kernel
theorem bits_no {n : Nat} (h1 : 0 < n) (h2 : n ≤ 16) (h : ¬ Pow2 n) : (bits BinOp.and IntKind.i64 (n : Int) ((n : Int) - 1) != 0) = true := by
  have : n = 3 ∨ n = 5 ∨ n = 6 ∨ n = 7 ∨ n = 9 ∨ n = 10 ∨ n = 11 ∨ n = 12 ∨ n = 13 ∨ n = 14 ∨ n = 15 := by unfold Pow2 at h; omega
  rcases this with rfl | rfl | rfl | rfl | rfl | rfl | rfl | rfl | rfl | rfl | rfl <;> decide +kernel
section
variable (A A' : Option Addr) (n c n' c' : Nat) (L M : List Int) (B B' : Nat) (w : World)
theorem c_KCheck_ok (hL : Rd w B A n L) (hM : Rd w B' A' n' M) (h : KOk L M) :
    Calls Try.prog 24 #[.slice A n c, .slice A' n' c'] w fun e w' => e = .returned .nilIface ∧ w = w' := by
  obtain ⟨k1, k2, k3, k4⟩ := h
  rw [hM.1, hL.1] at k2
  rw [hL.1] at k1
  obtain rfl : n' = n := k2
  have hb := bits_yes k1
  have h16 : 1 ≤ n' ∧ n' ≤ 16 := by unfold Pow2 at k1; omega
  have a1 := anyB_false_of k3
  have a2 := anyB_false_of k4
  have e0 : ((n' : Int) == 0) = false := by simp; omega
  clear k1 k3 k4
  go_enter Try.func24, Try.ntmps24
  go_wp2_with fail
  refine (c_Any _ _ _ L _ _ _ _ hL (by omega)).mono ?_
  rintro e w' ⟨rfl, rfl⟩
  go_wp2_with fail
  refine (c_Any _ _ _ M _ _ _ _ hM (by omega)).mono ?_
  rintro e w' ⟨rfl, rfl⟩
  go_wp2
  go_ret
  exact ⟨rfl, rfl⟩
theorem c_KCheck_bad (hL : Rd w B A n L) (hM : Rd w B' A' n' M) (h : ¬ KOk L M) :
    Calls Try.prog 24 #[.slice A n c, .slice A' n' c'] w fun e w' => e = .returned (.iface 44 (.int .i64 (karaE L M))) ∧ w = w' := by
  have hl := hL.1
  have hm := hM.1
  by_cases h0 : n = 0
  · have HE : Hid (karaE L M = 5) := by unfold karaE; rw [if_pos (by omega)]; rfl
    have e0 : ((n : Int) == 0) = true := by simp [h0]
    clear h hl hm h0
    go_enter Try.func24, Try.ntmps24
    go_wp2
    go_ret
    exact ⟨by rw [HE.out]; rfl, rfl⟩
  · have e0 : ((n : Int) == 0) = false := by simp; omega
    by_cases h1 : 16 < n
    · have HE : Hid (karaE L M = 4) := by unfold karaE; rw [if_neg (by omega), if_pos (by omega)]; rfl
      clear h hl hm h0
      go_enter Try.func24, Try.ntmps24
      go_wp2
      go_ret
      exact ⟨by rw [HE.out]; rfl, rfl⟩
    · by_cases h2 : n' = n ∧ Pow2 n
      · have HE : Hid (karaE L M = 1) := by unfold karaE; rw [if_neg (by omega), if_neg (by omega), if_pos (by rw [hl, hm]; exact h2)]; rfl
        obtain ⟨rfl, h3⟩ := h2
        have hb := bits_yes h3
        by_cases a1 : anyB L (-1000) 1000 = true
        · clear h hl hm h0 h3
          go_enter Try.func24, Try.ntmps24
          go_wp2_with (go_at_call 29; refine (c_Any _ _ _ L _ _ _ _ hL (by omega)).mono ?_; rintro e w' ⟨rfl, rfl⟩)
          go_ret
          exact ⟨by rw [HE.out]; rfl, rfl⟩
        · have a1' : anyB L (-1000) 1000 = false := by simpa using a1
          have a2 : anyB M (-1000) 1000 = true := by
            cases e : anyB M (-1000) 1000
            · exact absurd ⟨by rw [hl]; exact h3, by rw [hl, hm], anyB_false a1', anyB_false e⟩ h
            · rfl
          clear h hl hm h0 h3 a1
          go_enter Try.func24, Try.ntmps24
          go_wp2_with fail
          refine (c_Any _ _ _ L _ _ _ _ hL (by omega)).mono ?_
          rintro e w' ⟨rfl, rfl⟩
          go_wp2_with fail
          refine (c_Any _ _ _ M _ _ _ _ hM (by omega)).mono ?_
          rintro e w' ⟨rfl, rfl⟩
          go_wp2
          go_ret
          exact ⟨by rw [HE.out]; rfl, rfl⟩
      · have HE : Hid (karaE L M = 3) := by unfold karaE; rw [if_neg (by omega), if_neg (by omega), if_neg (by rw [hl, hm]; exact h2)]; rfl
        by_cases h3 : n' = n
        · have hb := bits_no (show 0 < n by omega) (by omega) (fun hp => h2 ⟨h3, hp⟩)
          subst h3
          clear h hl hm h0 h2
          go_enter Try.func24, Try.ntmps24
          go_wp2
          go_ret
          exact ⟨by rw [HE.out]; rfl, rfl⟩
        · have e3 : ((n' : Int) != (n : Int)) = true := by simp; omega
          clear h hl hm h0 h2
          go_enter Try.func24, Try.ntmps24
          go_wp2
          go_ret
          exact ⟨by rw [HE.out]; rfl, rfl⟩
/-- How often a row can be halved. -/
def halv (n : Nat) : Nat := if n = 1 then 0 else if n = 2 then 1 else if n = 4 then 2 else if n = 8 then 3 else 4
theorem halv_pow {n : Nat} (h : Pow2 n) : n = 2 ^ halv n ∧ halv n ≤ 4 := by
  rcases h with rfl | rfl | rfl | rfl | rfl <;> exact ⟨by decide, by decide⟩
theorem bnd_of {L : List Int} {X : Int} (hX : 0 ≤ X) (h : ∀ x ∈ L, -X ≤ x ∧ x ≤ X) : Bnd (nth L) X := fun j => by
  by_cases hj : j < L.length
  · exact h _ (nth_mem hj)
  · rw [sup_nth L j (by omega)]; omega
theorem c_KMul_bad (hL : Rd w B A n L) (hM : Rd w B' A' n' M) (h : ¬ KOk L M) :
    Calls Try.prog 17 #[.slice A n c, .slice A' n' c'] w fun e w' => e = .returned (.tuple #[.slice none 0 0, .int .i64 0, .iface 44 (.int .i64 (karaE L M))]) ∧ Below w.heap.size w w' := by
  have H := Lib.hid h
  clear h
  go_enter Try.func17, Try.ntmps17
  go_wp2_with (go_at_call 24; refine (c_KCheck_bad _ _ _ _ _ _ L M _ _ _ hL hM H.out).mono ?_; rintro e w' ⟨rfl, rfl⟩)
  go_ret3
  exact ⟨rfl, Below.refl _ _⟩
theorem c_KMul_ok (hL : Rd w B A n L) (hM : Rd w B' A' n' M) (hB : B ≤ w.heap.size) (hB' : B' ≤ w.heap.size) (hc : n ≤ c) (hc' : n' ≤ c') (h : KOk L M) :
    Calls Try.prog 17 #[.slice A n c, .slice A' n' c'] w fun e w' => ∃ g, e = .returned (.tuple #[.slice (some ⟨g, 0, none⟩) (2 * n - 1) (2 * n - 1), .int .i64 (cnt (halv n) : Int), .nilIface]) ∧ Own w' w.heap.size (some ⟨g, 0, none⟩) (2 * n - 1) (2 * n - 1) (convL n L M) ∧ Below w.heap.size w w' := by
  obtain rfl : n' = n := by rw [← hM.1, ← hL.1]; exact h.2.1
  obtain ⟨p1, p2⟩ := halv_pow (n := n') (by rw [← hL.1]; exact h.1)
  have h16 : n' ≤ 16 := by have := h.1; rw [hL.1] at this; unfold Pow2 at this; omega
  have HP := Lib.hid p1
  have H := Lib.hid h
  clear h p1
  go_enter Try.func17, Try.ntmps17
  go_wp2_with (go_at_call 24; refine (c_KCheck_ok _ _ _ _ _ _ L M _ _ _ hL hM H.out).mono ?_; rintro e w' ⟨rfl, rfl⟩)
  refine (c_kmul (halv n') n' _ _ _ _ L M 1000 _ _ _ p2 HP.out (by omega) (by omega) (bnd_of (by omega) H.out.2.2.1) (bnd_of (by omega) H.out.2.2.2) hL hM hB hB' hc hc').mono ?_
  rintro e w1 ⟨g, rfl, o, hb⟩
  go_wp2
  go_ret3
  exact ⟨g, rfl, o, hb⟩
end
end Go.Proofs.Ytmicgjpelikjiaa
