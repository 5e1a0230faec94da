/- The contracts of the reference's Factors and Trim, and of the closed fact of package poly. -/
import Derived.Test.YtaidincogkfodaaDoorPolyI
import Derived.Test.YtaidincogkfodaaDoorPolyD
namespace Go.Proofs.YtaidincogkfodaaDoor
open Go.RowKit

/-- What is wrong with a row of coefficients; 0: nothing. -/
def factE (L : List Int) : Int := if 12 < L.length then 4 else if allB L 0 9972 = true then 0 else 1
theorem factE_ok {L : List Int} (h : POk L) : factE L = 0 := by
  unfold factE
  rw [if_neg (by have := h.1; omega), if_pos (by rw [allB_not, pl_any h.2]; rfl)]
theorem factE_bad {L : List Int} (h : ¬ POk L) : factE L = polyE L ∧ factE L ≠ 0 := by
  unfold factE polyE
  by_cases h1 : 12 < L.length
  · rw [if_pos h1, if_pos h1]; exact ⟨rfl, by decide⟩
  · rw [if_neg h1, if_neg h1, if_neg]
    · exact ⟨rfl, by decide⟩
    · intro h2
      rw [allB_not] at h2
      exact h ⟨by omega, pl_of_any (by simpa using h2)⟩
theorem c_RFactors (A : Option Addr) (n c : Nat) (L : List Int) (B : Nat) (w : World) (hL : Rd w B A n L) (hn : n ≤ 9223372036854775807) :
    Calls Tryd.prog 5 #[.slice A n c] w fun e w' => e = .returned (.int .i64 (factE L)) ∧ w = w' := by
  have hl := hL.1
  by_cases h1 : 12 < n
  · have HE : Hid (factE L = 4) := by unfold factE; rw [if_pos (by omega)]; rfl
    rw [HE.out]
    clear hl
    go_enter Tryd.func5, Tryd.ntmps5
    go_wp2
    go_ret
    exact ⟨rfl, rfl⟩
  · by_cases h2 : allB L 0 9972 = true
    · have HE : Hid (factE L = 0) := by unfold factE; rw [if_neg (by omega), if_pos h2]; rfl
      rw [HE.out]
      clear hl
      go_enter Tryd.func5, Tryd.ntmps5
      go_wp2_with (go_at_call 26; refine (c_All _ _ _ L 0 9972 _ _ hL hn).mono ?_; rintro e w' ⟨rfl, rfl⟩)
      go_ret
      exact ⟨rfl, rfl⟩
    · have HE : Hid (factE L = 1) := by unfold factE; rw [if_neg (by omega), if_neg h2]; rfl
      have h2' : allB L 0 9972 = false := by simpa using h2
      rw [HE.out]
      clear hl h2
      go_enter Tryd.func5, Tryd.ntmps5
      go_wp2_with (go_at_call 26; refine (c_All _ _ _ L 0 9972 _ _ hL hn).mono ?_; rintro e w' ⟨rfl, rfl⟩)
      go_ret
      exact ⟨rfl, rfl⟩
/-- A slice's head that reads as the trimmed row. -/
theorem rd_trm {w : World} {B n : Nat} {A : Option Addr} {L : List Int} (h : Rd w B A n L) : Rd w B A (trm L).length (trm L) := by
  have h1 := trm_le L
  have h2 := rd_take h (trm L).length (by rw [← h.1]; exact h1)
  have e : L.take (trm L).length = trm L := by rw [trm_len]; rfl
  rw [e] at h2
  exact h2
set_option maxHeartbeats 1000000 in
theorem c_RTrim (A : Option Addr) (n c : Nat) (L : List Int) (B : Nat) (w : World) (hL : Rd w B A n L) (hc : n ≤ c ∧ c ≤ 9223372036854775807) :
    Calls Tryd.prog 15 #[.slice A n c] w fun e w' => e = .returned (.slice A (trm L).length c) ∧ w = w' := by
  have HT : Hid ((trm L).length = tnF L n) := by rw [Hid, trm_len, hL.1]
  have HL := Lib.hid hL
  obtain ⟨hc1, hc2⟩ := hc
  clear hL
  go_enter Tryd.func15, Tryd.ntmps15
  go_wp2
  go_loop [3] (fun t => ∃ k : Nat, k ≤ n ∧ t = .int .i64 k ∧ Hid (tnF L k = tnF L n)) (fun t => (intOf t).toNat)
  case atStart => exact ⟨n, Nat.le_refl _, rfl, rfl⟩
  case round =>
    obtain ⟨k, hk, rfl, HK⟩ := hrel
    have hkc : k ≤ c := by omega
    by_cases hk0 : k = 0
    · subst hk0
      have HX : Hid ((trm L).length = 0) := by rw [Hid, HT.out, ← HK.out]; rfl
      go_wp2
      go_ret
      exact ⟨by rw [HX.out]; rfl, rfl⟩
    · have hk1 : 0 < k := by omega
      obtain ⟨b, off, rfl, hcell⟩ := HL.out.at_ (k := k - 1) (by omega)
      by_cases hv : nth L (k - 1) = 0
      · have HK' : Hid (tnF L (k - 1) = tnF L n) := by rw [Hid, ← tnF_step hk1 hv]; exact HK.out
        rw [hv] at hcell
        clear hv
        go_wp2
        go_round
        case rel => exact ⟨k - 1, by omega, by go_num, HK'.out⟩
        case measure => simp [intOf]; omega
      · have HX : Hid ((trm L).length = k) := by rw [Hid, HT.out, ← HK.out, tnF_stop hk1 hv]
        have hv' : (nth L (k - 1) == 0) = false := by simp [hv]
        clear hv
        go_wp2
        go_ret
        exact ⟨by rw [HX.out]; rfl, rfl⟩
/-- The same modulo the prime: enough to look at the first n. -/
theorem eqm_fin {f g : Nat → Int} (n : Nat) (hf : Sup f n) (hg : Sup g n) (h : ∀ k, k < n → f k % 9973 = g k % 9973) : Eqm f g := fun k => by
  rcases Nat.lt_or_ge k n with hk | hk
  · exact h k hk
  · rw [hf k hk, hg k hk]
theorem fact_div : DivOk [5, 0, 1] (trm [1, 1]) [9972, 1] [6] := by
  rw [show trm [1, 1] = [1, 1] by decide]
  refine ⟨pl_of (by decide), fun _ => by decide, pl_of (by decide), fun _ => by decide, by decide, ?_⟩
  refine eqm_fin 4 (sup_nth [5, 0, 1] |>.mono (by decide)) (fun k hk => ?_) (by decide)
  show cv (nth [9972, 1]) (nth [1, 1]) k + nth [6] k = 0
  rw [cv_sup (sup_nth [9972, 1]) (sup_nth [1, 1]) k (by simp; omega), sup_nth [6] k (by simp; omega)]; rfl
theorem rd_two'' (w : World) (a b : Int) (t : TypeId) : Rd (w.alloc (.cells #[.int .i64 a, .int .i64 b] t)) (w.heap.size + 1) (some ⟨w.heap.size, 0, none⟩) 2 [a, b] := by
  refine ⟨rfl, fun _ => ⟨_, _, rfl, by omega, fun j hj => ?_⟩⟩
  match j, hj with
  | 0, _ => simp [nth]
  | 1, _ => simp [nth]
theorem rd_three'' (w : World) (a b c : Int) (t : TypeId) : Rd (w.alloc (.cells #[.int .i64 a, .int .i64 b, .int .i64 c] t)) (w.heap.size + 1) (some ⟨w.heap.size, 0, none⟩) 3 [a, b, c] := by
  refine ⟨rfl, fun _ => ⟨_, _, rfl, by omega, fun j hj => ?_⟩⟩
  match j, hj with
  | 0, _ => simp [nth]
  | 1, _ => simp [nth]
  | 2, _ => simp [nth]
theorem rd_one'' (w : World) (a : Int) (t : TypeId) : Rd (w.alloc (.cells #[.int .i64 a] t)) (w.heap.size + 1) (some ⟨w.heap.size, 0, none⟩) 1 [a] := by
  refine ⟨rfl, fun _ => ⟨_, _, rfl, by omega, fun j hj => ?_⟩⟩
  match j, hj with
  | 0, _ => simp [nth]
theorem pok_small {L : List Int} (h1 : L.length ≤ 12) (h : ∀ x ∈ L, 0 ≤ x ∧ x ≤ 9972) : POk L := ⟨h1, pl_of h⟩
theorem below_two (w : World) (o o' : Obj) : Below w.heap.size w ((w.alloc o).alloc o') := ((Below.refl _ w).alloc (Nat.le_refl _) o).alloc (by simp) o'
theorem below_one (w : World) (o : Obj) : Below w.heap.size w (w.alloc o) := (Below.refl _ w).alloc (Nat.le_refl _) o
/-- Two lists compared, what is compared being known to be one. -/
theorem c_sameP (A A' : Option Addr) (n n' c c' : Nat) (L M : List Int) (B B' : Nat) (w : World) (e : L = M) (hl : Rd w B A n L) (hm : Rd w B' A' n' M) (hn : n ≤ 9223372036854775807) :
    Calls Tryd.prog 12 #[.slice A n c, .slice A' n' c'] w fun e w' => e = .returned (.bool true) ∧ Below w.heap.size w w' := by
  refine (c_Ints A A' n n' c c' L M B B' w hl hm hn).mono ?_
  rintro e w' ⟨rfl, q, rfl⟩
  exact ⟨by rw [eqL_true e], below_drewN (Below.refl _ _) q⟩
end Go.Proofs.YtaidincogkfodaaDoor
