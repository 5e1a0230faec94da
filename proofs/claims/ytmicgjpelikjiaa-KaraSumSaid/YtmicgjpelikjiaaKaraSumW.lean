/- The walk of the statement KaraSum: the law returns true for all arguments. -/
import Derived.Test.YtmicgjpelikjiaaKaraFewW
import Derived.Deep.RegionLaw
import Derived.Deep.RegionHeld3
namespace Go.Proofs.Ytmicgjpelikjiaa
open Go.RowKit

theorem sum_conv {n : Nat} {L M : List Int} (h1 : 1 ≤ n) (hL : L.length = n) (hM : M.length = n) : sumL (convL n L M) = sumL L * sumL M := by
  have e : ∀ L : List Int, sumL L = sm L.length (nth L) := fun L => by
    have := sumL_sm L L.length (Nat.le_refl _)
    rw [List.take_length] at this
    exact this
  rw [e, e L, e M, convL_len, hL, hM, ← sm_conv h1 (hL ▸ sup_nth L) (hM ▸ sup_nth M)]
  exact sm_congr _ fun i _ => convL_nth hL hM i
theorem sumL_bnd {L : List Int} {n : Nat} (hl : L.length = n) (hn : n ≤ 16) (h : Bnd (nth L) 1000) : -16000 ≤ sumL L ∧ sumL L ≤ 16000 := by
  have e : sumL L = sm L.length (nth L) := by
    have := sumL_sm L L.length (Nat.le_refl _)
    rw [List.take_length] at this
    exact this
  have := sm_bnd n fun i _ => h i
  rw [e, hl]
  omega
/-- The sum so far, as a list that grows. -/
def gro (M K : List Int) (k : Nat) : List Int := mk k fun i => nth M i + nth K i
theorem gro_succ (M K : List Int) (k : Nat) : gro M K k ++ [nth M k + nth K k] = gro M K (k + 1) := by
  unfold gro mk
  rw [List.range_succ, List.map_append]
  rfl
section
variable (A1 A2 A3 : Option Addr) (n1 c1 n2 c2 n3 c3 : Nat) (L M K : List Int) (w : World)
theorem ksum_bad (hL : Rd w w.heap.size A1 n1 L) (hM : Rd w w.heap.size A2 n2 M) (hK : Rd w w.heap.size A3 n3 K) (hc1 : n1 ≤ c1) (hc3 : n3 ≤ c3) (h : ¬ KOk L M) :
    Calls Try.prog 7 #[.slice A1 n1 c1, .slice A2 n2 c2, .slice A3 n3 c3] w fun e w' => e = .returned (.bool true) ∧ Below w.heap.size w w' := by
  have H := Lib.hid h
  clear h
  by_cases h' : KOk L K
  · have H' := Lib.hid h'
    clear h'
    go_enter Try.func7, Try.ntmps7
    go_wp2_with fail
    refine (c_karaFact _).mono ?_
    rintro e w1 ⟨rfl, hb1⟩
    go_wp2_with fail
    refine (more hb1 (c_KMul_bad _ _ _ _ _ _ L M _ _ _ (hL.below hb1) (hM.below hb1) H.out)).mono ?_
    rintro e w2 ⟨rfl, hb2⟩
    go_wp2_with fail
    refine (c_KMul_ok _ _ _ _ _ _ L K _ _ _ (hL.below hb2) (hK.below hb2) hb2.size hb2.size hc1 hc3 H'.out).mono ?_
    rintro e w3 ⟨g, rfl, _, hb3⟩
    go_wp2
    go_ret
    exact ⟨rfl, hb2.trans (hb3.mono hb2.size)⟩
  · have H' := Lib.hid h'
    clear h'
    go_enter Try.func7, Try.ntmps7
    go_wp2_with fail
    refine (c_karaFact _).mono ?_
    rintro e w1 ⟨rfl, hb1⟩
    go_wp2_with fail
    refine (more hb1 (c_KMul_bad _ _ _ _ _ _ L M _ _ _ (hL.below hb1) (hM.below hb1) H.out)).mono ?_
    rintro e w2 ⟨rfl, hb2⟩
    go_wp2_with fail
    refine (more hb2 (c_KMul_bad _ _ _ _ _ _ L K _ _ _ (hL.below hb2) (hK.below hb2) H'.out)).mono ?_
    rintro e w3 ⟨rfl, hb3⟩
    go_wp2
    go_ret
    exact ⟨rfl, hb3⟩
theorem ksum_half (hL : Rd w w.heap.size A1 n1 L) (hM : Rd w w.heap.size A2 n2 M) (hK : Rd w w.heap.size A3 n3 K) (hc1 : n1 ≤ c1) (hc2 : n2 ≤ c2) (h : KOk L M) (h' : ¬ KOk L K) :
    Calls Try.prog 7 #[.slice A1 n1 c1, .slice A2 n2 c2, .slice A3 n3 c3] w fun e w' => e = .returned (.bool true) ∧ Below w.heap.size w w' := by
  have H := Lib.hid h
  have H' := Lib.hid h'
  clear h h'
  go_enter Try.func7, Try.ntmps7
  go_wp2_with fail
  refine (c_karaFact _).mono ?_
  rintro e w1 ⟨rfl, hb1⟩
  go_wp2_with fail
  refine (c_KMul_ok _ _ _ _ _ _ L M _ _ _ (hL.below hb1) (hM.below hb1) hb1.size hb1.size hc1 hc2 H.out).mono ?_
  rintro e w2 ⟨g, rfl, _, hb⟩
  have hb2 := hb1.trans (hb.mono hb1.size)
  clear hb
  go_wp2_with fail
  refine (more hb2 (c_KMul_bad _ _ _ _ _ _ L K _ _ _ (hL.below hb2) (hK.below hb2) H'.out)).mono ?_
  rintro e w3 ⟨rfl, hb3⟩
  go_wp2
  go_ret
  exact ⟨rfl, hb3⟩
end
set_option maxHeartbeats 4000000 in
theorem ksum_ok (A1 A2 A3 : Option Addr) (n c1 c2 c3 : Nat) (L M K : List Int) (w : World) (hL : Rd w w.heap.size A1 n L) (hM : Rd w w.heap.size A2 n M) (hK : Rd w w.heap.size A3 n K) (hc1 : n ≤ c1) (hc2 : n ≤ c2) (hc3 : n ≤ c3) (h : KOk L M) (h' : KOk L K) :
    Calls Try.prog 7 #[.slice A1 n c1, .slice A2 n c2, .slice A3 n c3] w fun e w' => e = .returned (.bool true) ∧ Below w.heap.size w w' := by
  have hn16 : 1 ≤ n ∧ n ≤ 16 := by have := h.1; rw [hL.1] at this; unfold Pow2 at this; omega
  have BL : Hid (Bnd (nth L) 1000) := bnd_of (by omega) h.2.2.1
  have BM : Hid (Bnd (nth M) 1000) := bnd_of (by omega) h.2.2.2
  have BK : Hid (Bnd (nth K) 1000) := bnd_of (by omega) h'.2.2.2
  have lL := Lib.hid hL.1
  have lM := Lib.hid hM.1
  have lK := Lib.hid hK.1
  have HL := Lib.hid hL
  have HM := Lib.hid hM
  have HK := Lib.hid hK
  have H := Lib.hid h
  have H' := Lib.hid h'
  clear hL hM hK h h'
  go_enter Try.func7, Try.ntmps7
  go_wp2_with fail
  refine (c_karaFact _).mono ?_
  rintro e w1 ⟨rfl, hb1⟩
  go_wp2_with fail
  refine (c_KMul_ok _ _ _ _ _ _ L M _ _ _ (HL.out.below hb1) (HM.out.below hb1) hb1.size hb1.size hc1 hc2 H.out).mono ?_
  rintro e w2 ⟨gx, rfl, ox, hb⟩
  have hb2 := hb1.trans (hb.mono hb1.size)
  have Ox := Lib.hid ox
  clear ox hb
  go_wp2_with fail
  refine (c_KMul_ok _ _ _ _ _ _ L K _ _ _ (HL.out.below hb2) (HK.out.below hb2) hb2.size hb2.size hc1 hc3 H'.out).mono ?_
  rintro e w3 ⟨gy, rfl, oy, hb⟩
  have hb3 := hb2.trans (hb.mono hb2.size)
  have Oy := Lib.hid oy
  have Ox3 := Lib.hid (Ox.out.keep hb)
  clear oy hb Ox hb1 hb2
  go_wp2
  go_loopw [14, 15] (fun v i wr => ∃ (k : Nat) (A' : Option Addr) (c' : Nat), k ≤ n ∧ i = .int .i64 k ∧ v = .slice A' k c' ∧ Hid (Own wr w3.heap.size A' k c' (gro M K k)) ∧ Below w3.heap.size w3 wr) (fun _ i _ => n - (intOf i).toNat)
  case atStart => exact ⟨0, none, 0, Nat.zero_le _, rfl, rfl, Own.nil _ _, Below.refl _ _⟩
  case round =>
    obtain ⟨k, A', c', hk, rfl, rfl, ho, hbr⟩ := hrel
    have hwr := hb3.trans (hbr.mono hb3.size)
    by_cases hlt : k < n
    · obtain ⟨b, off, rfl, hbB, hcc⟩ := (HM.out.below hwr).at' hlt
      obtain ⟨b', off', rfl, hbB', hcc'⟩ := (HK.out.below hwr).at' hlt
      have b1 := BM.out k
      have b2 := BK.out k
      have HG := Lib.hid (gro_succ M K k)
      obtain ⟨x, hx⟩ : ∃ x, x = nth M k := ⟨_, rfl⟩
      obtain ⟨y, hy⟩ : ∃ y, y = nth K k := ⟨_, rfl⟩
      rw [← hx] at hcc b1 HG
      rw [← hy] at hcc' b2 HG
      clear hx hy
      have hsz := hbr.size
      have e1 : IntKind.i64.wrap (x + y) = x + y := IntWalk.i64_in _ (by omega)
      have q1 : Own (wr.alloc (.cells #[.int .i64 (x + y)] 3)).drew w3.heap.size A' k c' (gro M K k) := (ho.out.alloc _).drew
      have q2 : (wr.alloc (.cells #[.int .i64 (x + y)] 3)).drew.cell? ⟨wr.heap.size, 0, none⟩ = some (.int .i64 (x + y)) := by simp
      have q3 : w3.heap.size ≤ (wr.alloc (.cells #[.int .i64 (x + y)] 3)).drew.heap.size := by simp; omega
      have q4 : k ≤ 1000000 := by omega
      have Q2 := Lib.hid q2
      have Q3 := Lib.hid q3
      clear q2 q3
      go_wp2
      go_region_law (refine step_push rfl (.tmp 56) (.tmp 66) rfl w3.heap.size (by rfl) (by rfl) q1 Q2.out q4 Q3.out ?_; intro A4 c4 w4 hown4 hb4)
      all_goals
        have HB4 : Hid (Below w3.heap.size w3 w4) := hbr.trans ((((Below.refl _ wr).alloc hsz _).drew).trans hb4)
        have HO4 : Hid (Own w4 w3.heap.size A4 (k + 1) c4 (gro M K (k + 1))) := by rw [Hid, ← HG.out]; exact hown4
        clear hown4 hb4 q1
        go_wp2
        go_roundw
        case rel => exact ⟨k + 1, A4, c4, by omega, by go_num, rfl, HO4.out, HB4.out⟩
        case measure => simp [intOf]; omega
    · obtain rfl : k = n := by omega
      have Os : Hid (Own wr w3.heap.size A' k c' (addL k M K)) := ho.out
      have ls : Hid ((addL k M K).length = k) := mk_len _ _
      have Oxr := Lib.hid (Ox3.out.keep hbr)
      have Oyr := Lib.hid (Oy.out.keep hbr)
      have sX := Lib.hid (sum_conv hn16.1 lL.out lM.out)
      have bX : Hid (Bnd (nth (convL k L M)) 256000000) := conv_bnd (X := 1000) (by omega) hn16.1 (by omega) BL.out BM.out lL.out lM.out
      have bY : Hid (Bnd (nth (convL k L K)) 256000000) := conv_bnd (X := 1000) (by omega) hn16.1 (by omega) BL.out BK.out lL.out lK.out
      have s1 := sumL_bnd lL.out hn16.2 BL.out
      have s2 := sumL_bnd lM.out hn16.2 BM.out
      have sp := mul_bnd (x := sumL L) (y := sumL M) (X := 16000) (Y := 16000) ⟨by omega, by omega⟩ ⟨by omega, by omega⟩ (by omega) (by omega)
      have HLr := Lib.hid (HL.out.below hwr)
      have HMr := Lib.hid (HM.out.below hwr)
      have e2 : (sumL L * sumL M != sumL L * sumL M) = false := by simp
      clear ho Ox3 Oy
      go_wp2_with fail
      refine (c_Sum _ _ _ _ _ _ Oxr.out.rd (by omega) (fun j _ => by have := bX.out j; omega)).mono ?_
      rintro e w' ⟨rfl, rfl⟩
      rw [sX.out]
      go_wp2_with fail
      refine (c_Sum _ _ _ L _ _ HLr.out (by omega) (fun j _ => by have := BL.out j; omega)).mono ?_
      rintro e w' ⟨rfl, rfl⟩
      go_wp2_with fail
      refine (c_Sum _ _ _ M _ _ HMr.out (by omega) (fun j _ => by have := BM.out j; omega)).mono ?_
      rintro e w' ⟨rfl, rfl⟩
      by_cases hs : KOk L (addL k M K)
      · have HS := Lib.hid hs
        clear hs
        have hkc : k ≤ c' := by
          rcases Os.out.2.2 with ⟨_, h0⟩ | ⟨g, cap, cur, hv, _, _, h0, _⟩
          · omega
          · injection hv with _ _ hcap; omega
        go_wp2_with fail
        refine (c_KMul_ok _ _ _ _ _ _ L (addL k M K) _ _ _ HLr.out Os.out.rd hwr.size (Nat.le_refl _) hc1 hkc HS.out).mono ?_
        rintro e w5 ⟨gz, rfl, oz, hb⟩
        have hb5 := hwr.trans (hb.mono hwr.size)
        have Oz := Lib.hid oz
        have Ox5 := Lib.hid (Oxr.out.keep hb)
        have Oy5 := Lib.hid (Oyr.out.keep hb)
        have HC : Hid (∀ j, nth (convL k L (addL k M K)) j = nth (convL k L M) j + nth (convL k L K) j) := fun j => conv_add lL.out lM.out lK.out j
        clear oz hb Oxr Oyr Os hbr
        go_wp2
        go_loopw [19] (fun i wr' => ∃ j : Nat, j ≤ 2 * k - 1 ∧ i = .int .i64 j ∧ ∃ q, wr' = w5.drewN q) (fun i _ => (2 * k - 1) - (intOf i).toNat)
        case atStart => exact ⟨0, Nat.zero_le _, rfl, 0, rfl⟩
        case round =>
          obtain ⟨j, hj, rfl, q, rfl⟩ := hrel
          by_cases hlt : j < 2 * k - 1
          · have z1 := Oz.out.cell hlt
            have x1 := Ox5.out.cell hlt
            have y1 := Oy5.out.cell hlt
            rw [HC.out] at z1
            have bx := bX.out j
            have by' := bY.out j
            obtain ⟨x, hx⟩ : ∃ x, x = nth (convL k L M) j := ⟨_, rfl⟩
            obtain ⟨y, hy⟩ : ∃ y, y = nth (convL k L K) j := ⟨_, rfl⟩
            rw [← hx] at z1 x1 bx
            rw [← hy] at z1 y1 by'
            clear hx hy
            have e5 : IntKind.i64.wrap (x + y) = x + y := IntWalk.i64_in _ (by omega)
            have e6 : (x + y != x + y) = false := by simp
            go_wp2
            go_quiet (fail)
            clear e5
            go_wp2
            go_roundw
            case rel => exact ⟨j + 1, by omega, by go_num, _, rfl⟩
            case measure => simp [intOf]; omega
          · go_wp2
            go_ret
            exact ⟨rfl, below_drewN hb5 q⟩
      · have HS := Lib.hid hs
        have hall : allB (addL k M K) (-1000) 1000 = false := by
          cases e : allB (addL k M K) (-1000) 1000
          · rfl
          · rw [allB_not] at e
            exact absurd ⟨H.out.1, by rw [ls.out, lL.out], H.out.2.2.1, anyB_false (by simpa using e)⟩ HS.out
        clear hs
        go_wp2_with fail
        refine (c_KMul_bad _ _ _ _ _ _ L (addL k M K) _ _ _ HLr.out Os.out.rd HS.out).mono ?_
        rintro e w5 ⟨rfl, hb⟩
        have hb5 := hwr.trans (hb.mono hwr.size)
        have Os5 := Lib.hid ((Os.out.keep hb).rd)
        clear hb
        go_wp2_with fail
        refine (c_All _ _ _ (addL k M K) _ _ _ _ Os5.out (by omega)).mono ?_
        rintro e w' ⟨rfl, rfl⟩
        go_wp2
        go_ret
        exact ⟨rfl, hb5⟩
theorem frame_KaraSum (A1 : Option Addr) (n1 c1 : Nat) (L : List Int) (A2 : Option Addr) (n2 c2 : Nat) (M : List Int) (A3 : Option Addr) (n3 c3 : Nat) (K : List Int) (w : World)
    (hL : Rd w w.heap.size A1 n1 L) (hc1 : n1 ≤ c1 ∧ c1 ≤ 9223372036854775807) (_ : ∀ x ∈ L, Fits x) (hM : Rd w w.heap.size A2 n2 M) (hc2 : n2 ≤ c2 ∧ c2 ≤ 9223372036854775807) (_ : ∀ x ∈ M, Fits x)
    (hK : Rd w w.heap.size A3 n3 K) (hc3 : n3 ≤ c3 ∧ c3 ≤ 9223372036854775807) (_ : ∀ x ∈ K, Fits x) :
    Calls Try.prog 7 #[.slice A1 n1 c1, .slice A2 n2 c2, .slice A3 n3 c3] w fun e w' => e = .returned (.bool true) ∧ Below w.heap.size w w' := by
  by_cases h : KOk L M
  · by_cases h' : KOk L K
    · obtain rfl : n2 = n1 := by rw [← hM.1, ← hL.1]; exact h.2.1
      obtain rfl : n3 = n2 := by rw [← hK.1, ← hL.1]; exact h'.2.1
      exact ksum_ok A1 A2 A3 n3 c1 c2 c3 L M K w hL hM hK hc1.1 hc2.1 hc3.1 h h'
    · exact ksum_half A1 A2 A3 n1 c1 n2 c2 n3 c3 L M K w hL hM hK hc1.1 hc2.1 h h'
  · exact ksum_bad A1 A2 A3 n1 c1 n2 c2 n3 c3 L M K w hL hM hK hc1.1 hc3.1 h
end Go.Proofs.Ytmicgjpelikjiaa
