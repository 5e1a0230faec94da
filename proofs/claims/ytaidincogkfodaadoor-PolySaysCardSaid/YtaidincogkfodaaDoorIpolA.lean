/- The contracts of package ipol: Check, steps. -/
import Derived.Test.YtaidincogkfodaaDoorPolyF
import Derived.Test.YtaidincogkfodaaDoorPolyC
import Derived.Test.YtaidincogkfodaaDoorIpolM
import Derived.StillTailTactics
namespace Go.Proofs.YtaidincogkfodaaDoor
open Go.RowKit

/-- Points that may be asked. -/
def IOk (xs ys : List Int) : Prop := xs.length ≤ 6 ∧ ys.length = xs.length ∧ PL xs ∧ PL ys ∧ ∀ i j, i < j → j < xs.length → nth xs i ≠ nth xs j
/-- What is wrong with points that may not. -/
def dotE (xs ys : List Int) : Int := if 6 < xs.length then 4 else if ys.length ≠ xs.length then 3 else if anyB xs 0 9972 = true ∨ anyB ys 0 9972 = true then 1 else 6
section
variable (A A' : Option Addr) (n n' c c' : Nat) (xs ys : List Int) (B B' : Nat) (w : World)
set_option maxHeartbeats 1000000 in
theorem c_ICheck_ok (hL : Rd w B A n xs) (hM : Rd w B' A' n' ys) (hc : n ≤ c) (h : IOk xs ys) :
    Calls Tryd.prog 22 #[.slice A n c, .slice A' n' c'] w fun e w' => e = .returned .nilIface ∧ w = w' := by
  obtain ⟨h1, h2, h3, h4, h5⟩ := h
  rw [hL.1] at h1
  rw [hM.1, hL.1] at h2
  rw [hL.1] at h5
  subst h2
  have a1 := pl_any h3
  have a2 := pl_any h4
  have HD := Lib.hid h5
  clear h3 h4 h5
  go_enter Tryd.func22, Tryd.ntmps22
  go_wp2_with fail
  refine (c_Any _ _ _ xs 0 9972 _ _ hL (by omega)).mono ?_
  rintro e w' ⟨rfl, rfl⟩
  go_wp2_with fail
  refine (c_Any _ _ _ ys 0 9972 _ _ hM (by omega)).mono ?_
  rintro e w' ⟨rfl, rfl⟩
  go_wp2
  go_loop [31] (fun u => ∃ i : Nat, i ≤ n' ∧ u = .int .i64 i) (fun u => n' - (intOf u).toNat)
  case atStart => exact ⟨0, Nat.zero_le _, rfl⟩
  case round =>
    obtain ⟨i, hi, rfl⟩ := hrel
    by_cases hlt : i < n'
    · obtain ⟨b, off, rfl, hc0⟩ := hL.at_ hlt
      have hic : i ≤ c := by omega
      obtain ⟨x, hx⟩ : ∃ x, x = nth xs i := ⟨_, rfl⟩
      have HX := Lib.hid hx
      rw [← hx] at hc0
      clear hx
      go_wp2
      go_loop [40] (fun u => ∃ j : Nat, j ≤ i ∧ u = .int .i64 j) (fun u => i - (intOf u).toNat)
      case atStart => exact ⟨0, Nat.zero_le _, rfl⟩
      case round =>
        obtain ⟨j, hj, rfl⟩ := hrel
        by_cases hlt' : j < i
        · obtain ⟨b2, off2, e2, hc1⟩ := hL.at_ (k := j) (by omega)
          injection e2 with e2
          injection e2 with e3 e4 _
          subst e3; subst e4
          have hne : (x == nth xs j) = false := by
            have := HD.out j i hlt' hlt
            rw [← HX.out] at this
            simp; exact fun e => this e.symm
          go_wp2
          go_round
          case rel => exact ⟨j + 1, by omega, by go_num⟩
          case measure => simp [intOf]; omega
        · obtain rfl : j = i := by omega
          go_wp2
          go_round
          case rel => exact ⟨j + 1, by omega, by go_num⟩
          case measure => simp [intOf]; omega
    · go_wp2
      go_ret
      exact ⟨rfl, rfl⟩
set_option maxHeartbeats 1000000 in
theorem c_ICheck_bad (hL : Rd w B A n xs) (hM : Rd w B' A' n' ys) (hc : n ≤ c) (h : ¬ IOk xs ys) :
    Calls Tryd.prog 22 #[.slice A n c, .slice A' n' c'] w fun e w' => e = .returned (.iface 46 (.int .i64 (dotE xs ys))) ∧ w = w' := by
  have l1 := hL.1
  have l2 := hM.1
  by_cases h1 : 6 < n
  · have e : Hid (dotE xs ys = 4) := by unfold dotE; rw [if_pos (by omega)]; rfl
    rw [e.out]
    clear h l1 l2
    go_enter Tryd.func22, Tryd.ntmps22
    go_wp2
    go_ret
    exact ⟨rfl, rfl⟩
  · by_cases h2 : n' ≠ n
    · have e : Hid (dotE xs ys = 3) := by unfold dotE; rw [if_neg (by omega), if_pos (by omega)]; rfl
      have e2 : ((n' : Int) != (n : Int)) = true := by simp; omega
      rw [e.out]
      clear h l1 l2 h2
      go_enter Tryd.func22, Tryd.ntmps22
      go_wp2
      go_ret
      exact ⟨rfl, rfl⟩
    · have h2' : n' = n := Classical.byContradiction h2
      subst h2'
      clear h2
      cases a1 : anyB xs 0 9972
      · cases a2 : anyB ys 0 9972
        · have e : Hid (dotE xs ys = 6) := by unfold dotE; rw [if_neg (by omega), if_neg (by omega), if_neg (by rw [a1, a2]; simp)]; rfl
          have HB : Hid (¬ ∀ i j, i < j → j < n' → nth xs i ≠ nth xs j) := fun hd => h ⟨by omega, by omega, pl_of_any a1, pl_of_any a2, by rw [l1]; exact hd⟩
          rw [e.out]
          clear h l1 l2 e
          go_enter Tryd.func22, Tryd.ntmps22
          go_wp2_with fail
          refine (c_Any _ _ _ xs 0 9972 _ _ hL (by omega)).mono ?_
          rintro e w' ⟨rfl, rfl⟩
          go_wp2_with fail
          refine (c_Any _ _ _ ys 0 9972 _ _ hM (by omega)).mono ?_
          rintro e w' ⟨rfl, rfl⟩
          go_wp2
          go_loop [31] (fun u => ∃ i : Nat, i ≤ n' ∧ u = .int .i64 i ∧ Hid (∀ a b, a < b → b < i → nth xs a ≠ nth xs b)) (fun u => n' - (intOf u).toNat)
          case atStart => exact ⟨0, Nat.zero_le _, rfl, fun a b _ hb => absurd hb (by omega)⟩
          case round =>
            obtain ⟨i, hi, rfl, HI⟩ := hrel
            by_cases hlt : i < n'
            · obtain ⟨b, off, rfl, hc0⟩ := hL.at_ hlt
              have hic : i ≤ c := by omega
              obtain ⟨x, hx⟩ : ∃ x, x = nth xs i := ⟨_, rfl⟩
              have HX := Lib.hid hx
              rw [← hx] at hc0
              clear hx
              go_wp2
              go_loop [40] (fun u => ∃ j : Nat, j ≤ i ∧ u = .int .i64 j ∧ Hid (∀ a, a < j → nth xs a ≠ nth xs i)) (fun u => i - (intOf u).toNat)
              case atStart => exact ⟨0, Nat.zero_le _, rfl, fun a ha => absurd ha (by omega)⟩
              case round =>
                obtain ⟨j, hj, rfl, HJ⟩ := hrel
                by_cases hlt' : j < i
                · obtain ⟨b2, off2, e2, hc1⟩ := hL.at_ (k := j) (by omega)
                  injection e2 with e2
                  injection e2 with e3 e4 _
                  subst e3; subst e4
                  by_cases hxy : x = nth xs j
                  · have hne : (x == nth xs j) = true := by simp [hxy]
                    clear hxy
                    go_wp2
                    go_ret
                    exact ⟨rfl, rfl⟩
                  · have hne : (x == nth xs j) = false := by simp [hxy]
                    have HJ' : Hid (∀ a, a < j + 1 → nth xs a ≠ nth xs i) := fun a ha => by
                      by_cases e : a = j
                      · subst e; exact fun e' => hxy (by rw [HX.out, e'])
                      · exact HJ.out a (by omega)
                    clear hxy
                    go_wp2
                    go_round
                    case rel => exact ⟨j + 1, by omega, by go_num, HJ'.out⟩
                    case measure => simp [intOf]; omega
                · obtain rfl : j = i := by omega
                  have HI' : Hid (∀ a b, a < b → b < j + 1 → nth xs a ≠ nth xs b) := fun a b hab hb => by
                    by_cases e : b = j
                    · subst e; exact HJ.out a hab
                    · exact HI.out a b hab (by omega)
                  go_wp2
                  go_round
                  case rel => exact ⟨j + 1, by omega, by go_num, HI'.out⟩
                  case measure => simp [intOf]; omega
            · obtain rfl : i = n' := by omega
              exact absurd HI.out HB.out
        · have e : Hid (dotE xs ys = 1) := by unfold dotE; rw [if_neg (by omega), if_neg (by omega), if_pos (.inr a2)]; rfl
          rw [e.out]
          clear h l1 l2
          go_enter Tryd.func22, Tryd.ntmps22
          go_wp2_with fail
          refine (c_Any _ _ _ xs 0 9972 _ _ hL (by omega)).mono ?_
          rintro e w' ⟨rfl, rfl⟩
          go_wp2_with fail
          refine (c_Any _ _ _ ys 0 9972 _ _ hM (by omega)).mono ?_
          rintro e w' ⟨rfl, rfl⟩
          go_wp2
          go_ret
          exact ⟨rfl, rfl⟩
      · have e : Hid (dotE xs ys = 1) := by unfold dotE; rw [if_neg (by omega), if_neg (by omega), if_pos (.inl a1)]; rfl
        rw [e.out]
        clear h l1 l2
        go_enter Tryd.func22, Tryd.ntmps22
        go_wp2_with fail
        refine (c_Any _ _ _ xs 0 9972 _ _ hL (by omega)).mono ?_
        rintro e w' ⟨rfl, rfl⟩
        go_wp2
        go_ret
        exact ⟨rfl, rfl⟩
end
end Go.Proofs.YtaidincogkfodaaDoor
