/- The contracts of the reference's Has, Dots. -/
import Derived.Test.YtaidincogkfodaaDoorIpolA
import Derived.Test.YtaidincogkfodaaDoorSame
namespace Go.Proofs.YtaidincogkfodaaDoor
open Go.RowKit

theorem c_RHas_no (A : Option Addr) (n c : Nat) (L : List Int) (z : Int) (B : Nat) (w : World) (hL : Rd w B A n L) (hn : n ≤ 9223372036854775807) (h : ∀ k, k < n → nth L k ≠ z) :
    Calls Tryd.prog 38 #[.slice A n c, .int .i64 z] w fun e w' => e = .returned (.bool false) ∧ w = w' := by
  have H := Lib.hid h
  clear h
  go_enter Tryd.func38, Tryd.ntmps38
  go_wp2
  go_loop [5] (fun i => ∃ k : Nat, k ≤ n ∧ i = .int .i64 k) (fun i => n - (intOf i).toNat)
  case atStart => exact ⟨0, Nat.zero_le _, rfl⟩
  case round =>
    obtain ⟨k, hk, rfl⟩ := hrel
    by_cases hlt : k < n
    · obtain ⟨b, off, rfl, hc⟩ := hL.at_ hlt
      have hne : (nth L k == z) = false := by simp [H.out k hlt]
      go_wp2
      go_round
      case rel => exact ⟨k + 1, by omega, by go_num⟩
      case measure => simp [intOf]; omega
    · go_wp2
      go_ret
      exact ⟨rfl, rfl⟩
theorem c_RHas_yes (A : Option Addr) (n c : Nat) (L : List Int) (z : Int) (B : Nat) (w : World) (hL : Rd w B A n L) (hn : n ≤ 9223372036854775807) (h : ¬ ∀ k, k < n → nth L k ≠ z) :
    Calls Tryd.prog 38 #[.slice A n c, .int .i64 z] w fun e w' => e = .returned (.bool true) ∧ w = w' := by
  have H := Lib.hid h
  clear h
  go_enter Tryd.func38, Tryd.ntmps38
  go_wp2
  go_loop [5] (fun i => ∃ k : Nat, k ≤ n ∧ i = .int .i64 k ∧ Hid (∀ j, j < k → nth L j ≠ z)) (fun i => n - (intOf i).toNat)
  case atStart => exact ⟨0, Nat.zero_le _, rfl, fun j hj => absurd hj (by omega)⟩
  case round =>
    obtain ⟨k, hk, rfl, HA⟩ := hrel
    by_cases hlt : k < n
    · obtain ⟨b, off, rfl, hc⟩ := hL.at_ hlt
      by_cases he : nth L k = z
      · have hne : (nth L k == z) = true := by simp [he]
        clear he
        go_wp2
        go_ret
        exact ⟨rfl, rfl⟩
      · have hne : (nth L k == z) = false := by simp [he]
        have HA' : Hid (∀ j, j < k + 1 → nth L j ≠ z) := fun j hj => by
          by_cases e : j = k
          · subst e; exact he
          · exact HA.out j (by omega)
        clear he
        go_wp2
        go_round
        case rel => exact ⟨k + 1, by omega, by go_num, HA'.out⟩
        case measure => simp [intOf]; omega
    · obtain rfl : k = n := by omega
      exact absurd HA.out H.out
section
variable (A A' : Option Addr) (n n' c c' : Nat) (xs ys : List Int) (B B' : Nat) (w : World)
set_option maxHeartbeats 1000000 in
theorem c_RDots_ok (hL : Rd w B A n xs) (hM : Rd w B' A' n' ys) (hc : n ≤ c) (h : IOk xs ys) :
    Calls Tryd.prog 21 #[.slice A n c, .slice A' n' c'] w fun e w' => e = .returned (.int .i64 0) ∧ ∃ q, w.drewN q = w' := by
  obtain ⟨h1, h2, h3, h4, h5⟩ := h
  rw [hL.1] at h1
  rw [hM.1, hL.1] at h2
  rw [hL.1] at h5
  subst h2
  have a1 : allB xs 0 9972 = true := by rw [allB_not, pl_any h3]; rfl
  have a2 : allB ys 0 9972 = true := by rw [allB_not, pl_any h4]; rfl
  have HD := Lib.hid h5
  have HL := Lib.hid hL
  clear h3 h4 h5
  go_enter Tryd.func21, Tryd.ntmps21
  go_wp2_with fail
  refine (c_All _ _ _ xs 0 9972 _ _ hL (by omega)).mono ?_
  rintro e w' ⟨rfl, rfl⟩
  go_wp2_with fail
  refine (c_All _ _ _ ys 0 9972 _ _ hM (by omega)).mono ?_
  rintro e w' ⟨rfl, rfl⟩
  clear hL hM
  go_wp2
  go_loopw [5] (fun u wr => ∃ i : Nat, i ≤ n' ∧ u = .int .i64 i ∧ ∃ q, wr = w.drewN q) (fun u _ => n' - (intOf u).toNat)
  case atStart => exact ⟨0, Nat.zero_le _, rfl, 0, rfl⟩
  case round =>
    obtain ⟨i, hi, rfl, q, rfl⟩ := hrel
    by_cases hlt : i < n'
    · obtain ⟨b, off, rfl, hc0⟩ := HL.out.at_ hlt
      have hic : i ≤ c := by omega
      have CH : Hid (∀ q, Calls Tryd.prog 38 #[.slice (some ⟨b, off, none⟩) i c, .int .i64 (nth xs i)] (w.drewN q) fun e w' => e = .returned (.bool false) ∧ w.drewN q = w') := fun q => by
        refine c_RHas_no _ i c (xs.take i) _ B (w.drewN q) (rd_drewN (rd_take HL.out i (by omega)) q) (by omega) fun k hk => ?_
        rw [take_nth, if_pos hk]
        exact HD.out k i hk hlt
      obtain ⟨x, hx⟩ : ∃ x, x = nth xs i := ⟨_, rfl⟩
      rw [← hx] at hc0 CH
      clear hx
      go_wp2_with fail
      go_quiet ((go_at_call 38; first | exact quiet_left (CH.out _) | exact quiet_add_left (CH.out _)))
      go_wp2
      go_roundw
      case rel => exact ⟨i + 1, by omega, by go_num, _, rfl⟩
      case measure => simp [intOf]; omega
    · go_wp2
      go_ret
      exact ⟨rfl, _, rfl⟩
set_option maxHeartbeats 1000000 in
theorem c_RDots_bad (hL : Rd w B A n xs) (hM : Rd w B' A' n' ys) (hc : n ≤ c) (hn : n' ≤ 9223372036854775807) (h : ¬ IOk xs ys) :
    Calls Tryd.prog 21 #[.slice A n c, .slice A' n' c'] w fun e w' => e = .returned (.int .i64 (dotE xs ys)) ∧ ∃ q, w.drewN q = w' := by
  have l1 := hL.1
  have l2 := hM.1
  by_cases h1 : 6 < n
  · have e : Hid (dotE xs ys = 4) := by unfold dotE; rw [if_pos (by omega)]; rfl
    rw [e.out]
    clear h l1 l2
    go_enter Tryd.func21, Tryd.ntmps21
    go_wp2
    go_ret
    exact ⟨rfl, 0, rfl⟩
  · by_cases h2 : n ≠ n'
    · have e : Hid (dotE xs ys = 3) := by unfold dotE; rw [if_neg (by omega), if_pos (by omega)]; rfl
      have e2 : ((n : Int) != (n' : Int)) = true := by simp; omega
      rw [e.out]
      clear h l1 l2 h2
      go_enter Tryd.func21, Tryd.ntmps21
      go_wp2
      go_ret
      exact ⟨rfl, 0, rfl⟩
    · have h2' : n' = n := Classical.byContradiction fun e => h2 fun e' => e e'.symm
      subst h2'
      clear h2
      cases a1 : anyB xs 0 9972
      · have b1 : allB xs 0 9972 = true := by rw [allB_not, a1]; rfl
        cases a2 : anyB ys 0 9972
        · have b2 : allB ys 0 9972 = true := by rw [allB_not, a2]; rfl
          have e : Hid (dotE xs ys = 6) := by unfold dotE; rw [if_neg (by omega), if_neg (by omega), if_neg (by rw [a1, a2]; simp)]; rfl
          have HB : Hid (¬ ∀ i j, i < j → j < n' → nth xs i ≠ nth xs j) := fun hd => h ⟨by omega, by omega, pl_of_any a1, pl_of_any a2, by rw [l1]; exact hd⟩
          have HL := Lib.hid hL
          rw [e.out]
          clear h l1 l2 e a1 a2
          go_enter Tryd.func21, Tryd.ntmps21
          go_wp2_with fail
          refine (c_All _ _ _ xs 0 9972 _ _ hL (by omega)).mono ?_
          rintro e w' ⟨rfl, rfl⟩
          go_wp2_with fail
          refine (c_All _ _ _ ys 0 9972 _ _ hM (by omega)).mono ?_
          rintro e w' ⟨rfl, rfl⟩
          clear hL hM
          go_wp2
          go_loopw [5] (fun u wr => ∃ i : Nat, i ≤ n' ∧ u = .int .i64 i ∧ Hid (∀ a b, a < b → b < i → nth xs a ≠ nth xs b) ∧ ∃ q, wr = w.drewN q) (fun u _ => n' - (intOf u).toNat)
          case atStart => exact ⟨0, Nat.zero_le _, rfl, fun a b _ hb => absurd hb (by omega), 0, rfl⟩
          case round =>
            obtain ⟨i, hi, rfl, HI, q, rfl⟩ := hrel
            by_cases hlt : i < n'
            · obtain ⟨b, off, rfl, hc0⟩ := HL.out.at_ hlt
              have hic : i ≤ c := by omega
              by_cases hx9 : ∀ k, k < i → nth xs k ≠ nth xs i
              · have HI' : Hid (∀ a b, a < b → b < i + 1 → nth xs a ≠ nth xs b) := fun a b hab hb => by
                  by_cases e : b = i
                  · subst e; exact hx9 a hab
                  · exact HI.out a b hab (by omega)
                have CH : Hid (∀ q, Calls Tryd.prog 38 #[.slice (some ⟨b, off, none⟩) i c, .int .i64 (nth xs i)] (w.drewN q) fun e w' => e = .returned (.bool false) ∧ w.drewN q = w') := fun q => by
                  refine c_RHas_no _ i c (xs.take i) _ B (w.drewN q) (rd_drewN (rd_take HL.out i (by omega)) q) (by omega) fun k hk => ?_
                  rw [take_nth, if_pos hk]
                  exact hx9 k hk
                obtain ⟨x, hx⟩ : ∃ x, x = nth xs i := ⟨_, rfl⟩
                rw [← hx] at hc0 CH
                clear hx hx9
                go_wp2_with fail
                go_quiet ((go_at_call 38; first | exact quiet_left (CH.out _) | exact quiet_add_left (CH.out _)))
                go_wp2
                go_roundw
                case rel => exact ⟨i + 1, by omega, by go_num, HI'.out, _, rfl⟩
                case measure => simp [intOf]; omega
              · have CH : Hid (∀ q, Calls Tryd.prog 38 #[.slice (some ⟨b, off, none⟩) i c, .int .i64 (nth xs i)] (w.drewN q) fun e w' => e = .returned (.bool true) ∧ w.drewN q = w') := fun q => by
                  refine c_RHas_yes _ i c (xs.take i) _ B (w.drewN q) (rd_drewN (rd_take HL.out i (by omega)) q) (by omega) fun h => hx9 fun k hk => ?_
                  have := h k hk
                  rw [take_nth, if_pos hk] at this
                  exact this
                obtain ⟨x, hx⟩ : ∃ x, x = nth xs i := ⟨_, rfl⟩
                rw [← hx] at hc0 CH
                clear hx hx9
                go_wp2_with fail
                go_quiet ((go_at_call 38; first | exact quiet_left (CH.out _) | exact quiet_add_left (CH.out _)))
                go_wp2
                go_ret
                exact ⟨rfl, drews _ _ _⟩
            · obtain rfl : i = n' := by omega
              exact absurd HI.out HB.out
        · have b2 : allB ys 0 9972 = false := by rw [allB_not, a2]; rfl
          have e : Hid (dotE xs ys = 1) := by unfold dotE; rw [if_neg (by omega), if_neg (by omega), if_pos (.inr a2)]; rfl
          rw [e.out]
          clear h l1 l2 a1 a2
          go_enter Tryd.func21, Tryd.ntmps21
          go_wp2_with fail
          refine (c_All _ _ _ xs 0 9972 _ _ hL (by omega)).mono ?_
          rintro e w' ⟨rfl, rfl⟩
          go_wp2_with fail
          refine (c_All _ _ _ ys 0 9972 _ _ hM (by omega)).mono ?_
          rintro e w' ⟨rfl, rfl⟩
          go_wp2
          go_ret
          exact ⟨rfl, 0, rfl⟩
      · have b1 : allB xs 0 9972 = false := by rw [allB_not, a1]; rfl
        have e : Hid (dotE xs ys = 1) := by unfold dotE; rw [if_neg (by omega), if_neg (by omega), if_pos (.inl a1)]; rfl
        rw [e.out]
        clear h l1 l2 a1
        go_enter Tryd.func21, Tryd.ntmps21
        go_wp2_with fail
        refine (c_All _ _ _ xs 0 9972 _ _ hL (by omega)).mono ?_
        rintro e w' ⟨rfl, rfl⟩
        go_wp2
        go_ret
        exact ⟨rfl, 0, rfl⟩
end
end Go.Proofs.YtaidincogkfodaaDoor
