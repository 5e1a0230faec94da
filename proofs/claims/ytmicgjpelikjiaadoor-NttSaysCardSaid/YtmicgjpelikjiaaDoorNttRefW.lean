/- The walks of the reference's functions on transforms. -/
import Derived.Test.YtmicgjpelikjiaaDoorNtt
import Derived.Test.YtmicgjpelikjiaaDoorNttRef
namespace Go.Proofs.YtmicgjpelikjiaaDoor
open Go.RowKit

theorem eight_all {L : List Int} (h : Eight L) : allB L 0 256 = true := by rw [allB_not, eight_any h]; rfl
theorem eight_all_not {L : List Int} (hl : L.length = 8) (h : ¬ Eight L) : allB L 0 256 = false := by rw [allB_not, eight_any_not hl h]; rfl
theorem c_REight_ok (A : Option Addr) (n c : Nat) (L : List Int) (B : Nat) (w : World) (hL : Rd w B A n L) (h8 : Eight L) :
    Calls Tryd.prog 5 #[.slice A n c] w fun e w' => e = .returned (.int .i64 0) ∧ w = w' := by
  have ha := eight_all h8
  obtain rfl : n = 8 := by rw [← hL.1]; exact h8.1
  have H8 := Lib.hid h8
  clear h8
  go_enter Tryd.func5, Tryd.ntmps5
  go_wp2_with (go_at_call 18; refine (c_All _ _ _ L _ _ _ _ hL (by omega)).mono ?_; rintro e w' ⟨rfl, rfl⟩)
  go_ret
  exact ⟨rfl, rfl⟩
theorem c_REight_bad (A : Option Addr) (n c : Nat) (L : List Int) (B : Nat) (w : World) (hL : Rd w B A n L) (hn : n ≤ 9223372036854775807) (h8 : ¬ Eight L) :
    Calls Tryd.prog 5 #[.slice A n c] w fun e w' => e = .returned (.int .i64 (eightE L)) ∧ w = w' := by
  by_cases h : n = 8
  · subst h
    have ha := eight_all_not hL.1 h8
    have HE : Hid (eightE L = 1) := by unfold eightE; rw [if_neg (by simp [hL.1])]; rfl
    have H8 := Lib.hid h8
    clear h8
    go_enter Tryd.func5, Tryd.ntmps5
    go_wp2_with (go_at_call 18; refine (c_All _ _ _ L _ _ _ _ hL (by omega)).mono ?_; rintro e w' ⟨rfl, rfl⟩)
    go_ret
    exact ⟨by rw [HE.out]; rfl, rfl⟩
  · have HE : Hid (eightE L = 3) := by unfold eightE; rw [if_pos (by rw [hL.1]; exact h)]; rfl
    have H8 := Lib.hid h8
    have HL := Lib.hid hL
    clear h8 hL
    go_enter Tryd.func5, Tryd.ntmps5
    go_wp2
    go_ret
    exact ⟨by rw [HE.out]; rfl, rfl⟩

set_option maxHeartbeats 4000000 in
theorem c_RTurned (A : Option Addr) (c : Nat) (L : List Int) (r f : Int) (w : World) (hL : Rd w w.heap.size A 8 L) (h8 : Eight L) (hr : r = 64 ∨ r = 253) (hf : 0 ≤ f ∧ f ≤ 256) :
    Calls Tryd.prog 8 #[.slice A 8 c, .int .i64 r, .int .i64 f] w fun e w' => ∃ A' c', e = .returned (.slice A' 8 c') ∧ Own w' w.heap.size A' 8 c' (turnL r f L) ∧ Below w.heap.size w w' := by
  have H8 := Lib.hid h8
  have HL := Lib.hid hL
  have HR := Lib.hid hr
  have hr' : 0 ≤ r ∧ r ≤ 256 := by omega
  clear h8 hL hr
  go_enter Tryd.func8, Tryd.ntmps8
  go_wp2
  go_loopw [7, 8] (fun v i wr => ∃ (k : Nat) (A' : Option Addr) (c' : Nat), k ≤ 8 ∧ i = .int .i64 k ∧ v = .slice A' k c' ∧ Hid (Own wr w.heap.size A' k c' (turnP r f L k)) ∧ Below w.heap.size w wr) (fun _ i _ => 8 - (intOf i).toNat)
  case atStart => exact ⟨0, none, 0, Nat.zero_le _, rfl, rfl, Own.nil _ _, Below.refl _ _⟩
  case round =>
    obtain ⟨k, A', c', hk, rfl, rfl, ho, hbr⟩ := hrel
    by_cases hlt : k < 8
    · go_wp2
      go_loopw [10, 11] (fun p t w1 => ∃ (j : Nat) (y : Int), j ≤ k ∧ t = .int .i64 j ∧ p = .int .i64 y ∧ Hid (y = pwl r j) ∧ wr = w1) (fun _ t _ => k - (intOf t).toNat)
      case atStart => exact ⟨0, 1, Nat.zero_le _, rfl, rfl, rfl, rfl⟩
      case round =>
        obtain ⟨j, y, hj, rfl, rfl, HY, rfl⟩ := hrel
        have hy := pwl_bd r j
        rw [← HY.out] at hy
        by_cases hlt2 : j < k
        · have hb := prod_bd y r hy hr'
          have HN : Hid (y * r % 257 = pwl r (j + 1)) := by rw [Hid, HY.out]; rfl
          go_wp2
          go_roundw
          case rel => exact ⟨j + 1, y * r % 257, by omega, by go_num, rfl, HN, trivial⟩
          case measure => simp [intOf]; omega
        · obtain rfl : j = k := by omega
          go_wp2
          go_loopw [9, 12, 13] (fun s p t w2 => ∃ (m : Nat) (x z : Int), m ≤ 8 ∧ t = .int .i64 m ∧ s = .int .i64 x ∧ p = .int .i64 z ∧ Hid (x = rsum r L j m) ∧ Hid (z = pwl y m) ∧ wr = w2) (fun _ _ t _ => 8 - (intOf t).toNat)
          case atStart => exact ⟨0, 0, 1, Nat.zero_le _, rfl, rfl, rfl, rfl, rfl, rfl⟩
          case round =>
            obtain ⟨m, x, z, hm, rfl, rfl, rfl, HX, HZ, rfl⟩ := hrel
            have hx := rsum_bd r L j m
            rw [← HX.out] at hx
            have hz := pwl_bd y m
            rw [← HZ.out] at hz
            by_cases hlt3 : m < 8
            · obtain ⟨b, off, rfl, hbB, hc⟩ := (HL.out.below hbr).at' hlt3
              have hu := H8.out.2 m hlt3
              have HN : Hid ((x + nth L m * z) % 257 = rsum r L j (m + 1)) := by rw [Hid, HX.out, HZ.out, HY.out]; rfl
              have HN2 : Hid (z * y % 257 = pwl y (m + 1)) := by rw [Hid, HZ.out]; rfl
              have hb1 := prod_bd z y hz hy
              obtain ⟨u, hu'⟩ : ∃ u, u = nth L m := ⟨_, rfl⟩
              rw [← hu'] at hc hu HN
              have hb2 := prod_bd u z hu hz
              clear hu'
              go_wp2
              go_roundw
              case rel => exact ⟨m + 1, (x + u * z) % 257, z * y % 257, by omega, by go_num, rfl, rfl, HN, HN2, trivial⟩
              case measure => simp [intOf]; omega
            · obtain rfl : m = 8 := by omega
              have hb1 := prod_bd x f hx hf
              have HN : Hid (x * f % 257 = dft r f L j) := by rw [Hid, HX.out, rsum_dft HR.out f L hlt]
              have HG := Lib.hid (turnP_succ r f L j)
              go_wp2_with (at_builtin; refine wp_push rfl (.tmp 44) (.tmp 49) rfl w.heap.size rfl rfl ho.out (by omega) hbr.size ?_)
              intro A2 c2 w2 hown2 hb2
              have HO : Hid (Own w2 w.heap.size A2 (j + 1) c2 (turnP r f L (j + 1))) := by rw [Hid, HG.out, ← HN.out]; exact hown2
              clear hown2
              go_wp2
              go_roundw
              case rel => exact ⟨j + 1, A2, c2, by omega, by go_num, rfl, HO, hbr.trans hb2⟩
              case measure => simp [intOf]; omega
    · obtain rfl : k = 8 := by omega
      go_wp2
      go_ret
      exact ⟨A', c', rfl, ho.out, hbr⟩
end Go.Proofs.YtmicgjpelikjiaaDoor
