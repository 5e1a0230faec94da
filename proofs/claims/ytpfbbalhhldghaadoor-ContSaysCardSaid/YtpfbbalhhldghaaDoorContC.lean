/- The contracts of package cont: Near, Best; the list of fractions compared; the closed fact. -/
import Derived.Test.YtpfbbalhhldghaaDoorContB
import Derived.Test.YtpfbbalhhldghaaDoorSame
namespace Go.Proofs.YtpfbbalhhldghaaDoor
open Go.RowKit

theorem tok_any {L : List Int} (h : TOk L) : anyB (L.drop 1) 1 1000000 = false := by
  refine anyB_false_of fun x hx => ?_
  obtain ⟨i, hi, rfl⟩ := List.getElem_of_mem hx
  have hi' : i + 1 < L.length := by simp at hi; omega
  have := h.2.2.2 (i + 1) (by omega) hi'
  unfold nth at this
  simpa [List.getD, List.getElem?_eq_getElem hi'] using this
theorem tok_of_any {L : List Int} (h0 : 1 ≤ L.length) (h1 : L.length ≤ 30) (h2 : 0 ≤ nth L 0 ∧ nth L 0 ≤ 1000000) (h : anyB (L.drop 1) 1 1000000 = false) : TOk L := by
  refine ⟨h0, h1, h2, fun k k1 k2 => ?_⟩
  obtain ⟨m, rfl⟩ : ∃ m, k = m + 1 := ⟨k - 1, by omega⟩
  refine anyB_false h _ ?_
  have e : nth L (m + 1) = (L.drop 1)[m]'(by simp; omega) := by
    unfold nth
    simp [List.getD, List.getElem?_eq_getElem k2]
  rw [e]
  exact List.getElem_mem _
/-- What is wrong with terms; 0: nothing. -/
def nearE (L : List Int) : Int := if L.length = 0 then 5 else if 30 < L.length then 4 else if ¬ (0 ≤ nth L 0 ∧ nth L 0 ≤ 1000000) ∨ anyB (L.drop 1) 1 1000000 = true then 1 else 4
theorem rd_tail {w : World} {B n b off : Nat} {L : List Int} (h : Rd w B (some ⟨b, off, none⟩) n L) (hn : 1 ≤ n) : Rd w B (some ⟨b, off + 1, none⟩) (n - 1) (L.drop 1) := by
  rcases Nat.lt_or_ge 1 n with h1 | h1
  · exact rd_drop h 1 h1
  · exact ⟨by simp [h.1], fun h0 => absurd h0 (by omega)⟩
theorem rd_tail0 {w : World} {B b off : Nat} {L : List Int} (h : Rd w B (some ⟨b, off, none⟩) 1 L) : Rd w B (some ⟨b, off, none⟩) 0 (L.drop 1) :=
  ⟨by simp [h.1], fun h0 => absurd h0 (by omega)⟩
set_option maxHeartbeats 1000000 in
/-- Near, where the first test of the terms is passed: the check of the others, whatever the capacity. -/
theorem c_Near_ok (A : Option Addr) (n c : Nat) (L : List Int) (w : World) (hL : Rd w w.heap.size A n L) (hc : n ≤ c ∧ c ≤ 9223372036854775807) (hT : TOk L) :
    Calls Tryd.prog 18 #[.slice A n c] w fun e w' => ((CfAll L n ∧ ∃ A' c', e = .returned (.tuple #[.slice A' n c', .nilIface]) ∧ OwnF w' w.heap.size A' n c' (cfs L n)) ∨ (¬ CfAll L n ∧ e = .returned (.tuple #[.slice none 0 0, .iface 58 (.int .i64 4)]))) ∧ Below w.heap.size w w' := by
  have hn : 1 ≤ n ∧ n ≤ 30 := by rw [← hL.1]; exact ⟨hT.1, hT.2.1⟩
  obtain ⟨b, off, rfl, h0⟩ := hL.at_ (k := 0) (by omega)
  rw [Nat.add_zero] at h0
  have o1 : outB (nth L 0) 0 1000000 = false := outB_false hT.2.2.1.1 hT.2.2.1.2
  have a1 := tok_any hT
  rw [List.drop_one] at a1
  have HT := Lib.hid hT
  have e0 : ((n : Int) == 0) = false := by simp; omega
  obtain ⟨hc1, hc2⟩ := hc
  by_cases hcc : c = 1
  · subst hcc
    obtain rfl : n = 1 := by omega
    have HL := Lib.hid hL
    have HA := Lib.hid (rd_tail0 hL)
    clear hL hT
    go_enter Tryd.func18, Tryd.ntmps18
    go_wp2_with (first | (go_at_call 37; refine (c_Out _ _ _ _).mono ?_; rintro e w' ⟨rfl, rfl⟩) | (go_at_call 26; refine (c_Any _ _ _ (L.drop 1) 1 1000000 _ _ HA.out (by omega)).mono ?_; rintro e w' ⟨rfl, rfl⟩))
    refine (c_convergents _ _ _ L _ _ HL.out (Nat.le_refl _) HT.out).mono ?_
    rintro e w1 ⟨⟨hC, A', c', rfl, ho⟩ | ⟨hC, rfl⟩, hb⟩
    · go_wp2
      go_ret2
      exact ⟨.inl ⟨hC, A', c', rfl, ho⟩, hb⟩
    · go_wp2
      go_ret2
      exact ⟨.inr ⟨hC, rfl⟩, hb⟩
  · have hcc' : 1 < c := by omega
    have HL := Lib.hid hL
    have HA := Lib.hid (rd_tail hL hn.1)
    clear hL hT
    go_enter Tryd.func18, Tryd.ntmps18
    go_wp2_with (first | (go_at_call 37; refine (c_Out _ _ _ _).mono ?_; rintro e w' ⟨rfl, rfl⟩) | (go_at_call 26; refine (c_Any _ _ _ (L.drop 1) 1 1000000 _ _ HA.out (by omega)).mono ?_; rintro e w' ⟨rfl, rfl⟩))
    refine (c_convergents _ _ _ L _ _ HL.out (Nat.le_refl _) HT.out).mono ?_
    rintro e w1 ⟨⟨hC, A', c', rfl, ho⟩ | ⟨hC, rfl⟩, hb⟩
    · go_wp2
      go_ret2
      exact ⟨.inl ⟨hC, A', c', rfl, ho⟩, hb⟩
    · go_wp2
      go_ret2
      exact ⟨.inr ⟨hC, rfl⟩, hb⟩
set_option maxHeartbeats 1000000 in
theorem c_Near_bad (A : Option Addr) (n c : Nat) (L : List Int) (w : World) (hL : Rd w w.heap.size A n L) (hc : n ≤ c ∧ c ≤ 9223372036854775807) (hT : ¬ TOk L) :
    Calls Tryd.prog 18 #[.slice A n c] w fun e w' => e = .returned (.tuple #[.slice none 0 0, .iface 58 (.int .i64 (nearE L))]) ∧ w = w' := by
  have hl := hL.1
  obtain ⟨hc1, hc2⟩ := hc
  by_cases h0 : n = 0
  · have HE : Hid (nearE L = 5) := by unfold nearE; rw [if_pos (by omega)]; rfl
    have e0 : ((n : Int) == 0) = true := by simp [h0]
    rw [HE.out]
    clear hT h0 hl
    go_enter Tryd.func18, Tryd.ntmps18
    go_wp2
    go_ret2
    exact ⟨rfl, rfl⟩
  · have e0 : ((n : Int) == 0) = false := by simp; omega
    by_cases h1 : 30 < n
    · have HE : Hid (nearE L = 4) := by unfold nearE; rw [if_neg (by omega), if_pos (by omega)]; rfl
      rw [HE.out]
      clear hT hl
      go_enter Tryd.func18, Tryd.ntmps18
      go_wp2
      go_ret2
      exact ⟨rfl, rfl⟩
    · obtain ⟨b, off, rfl, hcell⟩ := hL.at_ (k := 0) (by omega)
      rw [Nat.add_zero] at hcell
      by_cases h2 : 0 ≤ nth L 0 ∧ nth L 0 ≤ 1000000
      · have o1 : outB (nth L 0) 0 1000000 = false := outB_false h2.1 h2.2
        have a1 : anyB (L.drop 1) 1 1000000 = true := by
          cases e : anyB (L.drop 1) 1 1000000
          · exact absurd (tok_of_any (by omega) (by omega) h2 e) hT
          · rfl
        have HE : Hid (nearE L = 1) := by unfold nearE; rw [if_neg (by omega), if_neg (by omega), if_pos (.inr a1)]; rfl
        rw [List.drop_one] at a1
        rw [HE.out]
        by_cases hcc : c = 1
        · subst hcc
          obtain rfl : n = 1 := by omega
          have HA := Lib.hid (rd_tail0 hL)
          clear hT h2 hl
          go_enter Tryd.func18, Tryd.ntmps18
          go_wp2_with (first | (go_at_call 37; refine (c_Out _ _ _ _).mono ?_; rintro e w' ⟨rfl, rfl⟩) | (go_at_call 26; refine (c_Any _ _ _ (L.drop 1) 1 1000000 _ _ HA.out (by omega)).mono ?_; rintro e w' ⟨rfl, rfl⟩))
          go_ret2
          exact ⟨rfl, rfl⟩
        · have hcc' : 1 < c := by omega
          have HA := Lib.hid (rd_tail hL (by omega))
          clear hT h2 hl
          go_enter Tryd.func18, Tryd.ntmps18
          go_wp2_with (first | (go_at_call 37; refine (c_Out _ _ _ _).mono ?_; rintro e w' ⟨rfl, rfl⟩) | (go_at_call 26; refine (c_Any _ _ _ (L.drop 1) 1 1000000 _ _ HA.out (by omega)).mono ?_; rintro e w' ⟨rfl, rfl⟩))
          go_ret2
          exact ⟨rfl, rfl⟩
      · have o1 : outB (nth L 0) 0 1000000 = true := outB_true (by omega)
        have HE : Hid (nearE L = 1) := by unfold nearE; rw [if_neg (by omega), if_neg (by omega), if_pos (.inl h2)]; rfl
        rw [HE.out]
        clear hT h2 hl
        go_enter Tryd.func18, Tryd.ntmps18
        go_wp2_with (go_at_call 37; refine (c_Out _ _ _ _).mono ?_; rintro e w' ⟨rfl, rfl⟩)
        go_ret2
        exact ⟨rfl, rfl⟩
end Go.Proofs.YtpfbbalhhldghaaDoor
