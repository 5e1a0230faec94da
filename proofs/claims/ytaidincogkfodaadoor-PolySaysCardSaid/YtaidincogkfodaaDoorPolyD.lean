/- The contracts of package poly: Add, At. -/
import Derived.Test.YtaidincogkfodaaDoorPolyC
import Derived.Test.YtaidincogkfodaaDoorPolyE
namespace Go.Proofs.YtaidincogkfodaaDoor
open Go.RowKit

/-- The sum so far: the first row up to i, the second added up to k. -/
def addP (L M : List Int) (i k : Nat) : List Int := mk (max L.length M.length) fun j => if j < k then (nth L j + nth M j) % 9973 else if j < i then nth L j else 0
theorem addP_zero (L M : List Int) : addP L M 0 0 = List.replicate (max L.length M.length) 0 := by
  refine list_ext (by rw [addP, mk_len, List.length_replicate]) fun j hj => ?_
  rw [addP, mk_len] at hj
  rw [addP, mk_nth' _ hj, nth_replicate _ _ _ hj, if_neg (by omega), if_neg (by omega)]
theorem addP_one (L M : List Int) (i : Nat) : (addP L M i 0).set i (nth L i) = addP L M (i + 1) 0 := by
  unfold addP
  rw [mk_set]
  refine mk_congr fun j _ => ?_
  rw [if_neg (show ¬ j < 0 by omega), if_neg (show ¬ j < 0 by omega)]
  by_cases e : j = i
  · subst e; rw [if_pos rfl, if_pos (by omega)]
  · rw [if_neg e]
    by_cases h : j < i
    · rw [if_pos h, if_pos (by omega)]
    · rw [if_neg h, if_neg (by omega)]
theorem addP_at (L M : List Int) (k : Nat) (hk : k < max L.length M.length) : nth (addP L M L.length k) k = nth L k := by
  unfold addP
  rw [mk_nth' _ hk, if_neg (by omega)]
  split
  · rfl
  · rw [sup_nth L k (by omega)]
theorem addP_two (L M : List Int) (k : Nat) : (addP L M L.length k).set k ((nth L k + nth M k) % 9973) = addP L M L.length (k + 1) := by
  unfold addP
  rw [mk_set]
  refine mk_congr fun j _ => ?_
  by_cases e : j = k
  · subst e; rw [if_pos rfl, if_pos (by omega)]
  · rw [if_neg e]
    by_cases h : j < k
    · rw [if_pos h, if_pos (by omega)]
    · rw [if_neg h, if_neg (show ¬ j < k + 1 by omega)]
theorem addP_all {L M : List Int} (hL : PL L) : trm (addP L M L.length M.length) = padd L M := by
  unfold padd
  congr 1
  unfold addP
  refine mk_congr fun j _ => ?_
  by_cases h : j < M.length
  · rw [if_pos h]
  · rw [if_neg h, sup_nth M j (by omega), Int.add_zero, pl_emod hL]
    split
    · rfl
    · rw [sup_nth L j (by omega)]
set_option maxHeartbeats 2000000 in
theorem c_PAdd_ok (A A' : Option Addr) (n n' c c' : Nat) (L M : List Int) (w : World) (hL : Rd w w.heap.size A n L) (hM : Rd w w.heap.size A' n' M) (h : POk L) (h' : POk M) :
    Calls Tryd.prog 11 #[.slice A n c, .slice A' n' c'] w fun e w' => ∃ A2 c2, e = .returned (.tuple #[.slice A2 (padd L M).length c2, .nilIface]) ∧ Own w' w.heap.size A2 (padd L M).length c2 (padd L M) ∧ Below w.heap.size w w' := by
  have hn : n ≤ 12 := by rw [← hL.1]; exact h.1
  have hn' : n' ≤ 12 := by rw [← hM.1]; exact h'.1
  have hl : Hid (L.length = n) := hL.1
  have hm : Hid (M.length = n') := hM.1
  have HL := Lib.hid hL
  have HM := Lib.hid hM
  have H := Lib.hid h
  have H' := Lib.hid h'
  obtain ⟨N, hN⟩ : ∃ N, N = max n n' := ⟨_, rfl⟩
  have hN1 : n ≤ N := by omega
  have hN2 : n' ≤ N := by omega
  have hN3 : N ≤ 12 := by omega
  have hmax : max (n : Int) (n' : Int) = (N : Int) := by omega
  have hNl : Hid (max L.length M.length = N) := by rw [Hid, hl.out, hm.out, hN]
  have hcase : (n < n' ∧ N = n') ∨ (n' < n ∧ N = n) ∨ ((n ≤ n' ∧ n' ≤ n) ∧ N = n) := by omega
  clear hL hM h h' hN
  rcases hcase with ⟨hc1, hc2⟩ | ⟨hc1, hc2⟩ | ⟨hc1, hc2⟩
  all_goals
    have HC := Lib.hid hc2
    clear hc2
    go_enter Tryd.func11, Tryd.ntmps11
    go_wp2_with fail
    refine (c_both_ok _ _ _ _ _ _ L M _ _ _ HL.out HM.out H.out H'.out).mono ?_
    rintro e w1 ⟨rfl, hb1⟩
    go_wp2_with (at_make; refine wp_make rfl _ _ rfl N _ rfl rfl (by have := HC.out; omega) (by omega) ?_)
    intro w2 own hb hlt2
    have e0 : Own w2 w1.heap.size (some ⟨w1.heap.size, 0, none⟩) N N (addP L M 0 0) := by rw [addP_zero, hNl.out]; exact own
    obtain ⟨g, hg⟩ : ∃ g, g = w1.heap.size := ⟨_, rfl⟩
    have hs1 := hb1.size
    have B2 := Lib.hid (hb1.trans (hb.mono hs1))
    rw [← hg] at e0 hlt2 ⊢
    have O2 := Lib.hid (e0.base_le (show w.heap.size ≤ g by omega))
    have hgw : w.heap.size ≤ g := by omega
    clear own hb e0 hb1 hs1 hg
    go_wp2
    go_loopw [26] (fun u wr => ∃ i : Nat, i ≤ n ∧ u = .int .i64 i ∧ Hid (Own wr w.heap.size (some ⟨g, 0, none⟩) N N (addP L M i 0)) ∧ Below w.heap.size w wr) (fun u _ => n - (intOf u).toNat)
    case atStart => exact ⟨0, Nat.zero_le _, rfl, O2.out, B2.out⟩
    case round =>
      obtain ⟨i, hi, rfl, HO, hbr⟩ := hrel
      by_cases hlt : i < n
      · obtain ⟨b, off, rfl, hc⟩ := (HL.out.below hbr).at_ hlt
        have hiN : i < N := by omega
        have cc := HO.out.cell hiN
        have cf := HO.out.free i
        have HN : Hid (Own (wr.setCell ⟨g, i, none⟩ (.int .i64 (nth L i))) w.heap.size (some ⟨g, 0, none⟩) N N (addP L M (i + 1) 0)) := own_set HO.out (addP_one L M i)
        have HB := Lib.hid (hbr.setCell (p := ⟨g, i, none⟩) hgw (.int .i64 (nth L i)))
        go_wp2
        go_roundw
        case rel => exact ⟨i + 1, by omega, by go_num, HN.out, HB.out⟩
        case measure => simp [intOf]; omega
      · obtain rfl : i = n := by omega
        have HO' : Hid (Own wr w.heap.size (some ⟨g, 0, none⟩) N N (addP L M L.length 0)) := by rw [Hid, hl.out]; exact HO.out
        go_wp2
        go_loopw [38] (fun u wr => ∃ k : Nat, k ≤ n' ∧ u = .int .i64 k ∧ Hid (Own wr w.heap.size (some ⟨g, 0, none⟩) N N (addP L M L.length k)) ∧ Below w.heap.size w wr) (fun u _ => n' - (intOf u).toNat)
        case atStart => exact ⟨0, Nat.zero_le _, rfl, HO'.out, hbr⟩
        case round =>
          obtain ⟨k, hk, rfl, HQ, hbq⟩ := hrel
          by_cases hlt' : k < n'
          · obtain ⟨b', off', rfl, hc'⟩ := (HM.out.below hbq).at_ hlt'
            have hkN : k < N := by omega
            have cc := HQ.out.cell hkN
            have cf := HQ.out.free k
            rw [addP_at L M k (by rw [hNl.out]; exact hkN)] at cc
            have bx := H.out.2 k
            have by' := H'.out.2 k
            have HS := Lib.hid (addP_two L M k)
            obtain ⟨x, hx⟩ : ∃ x, x = nth L k := ⟨_, rfl⟩
            obtain ⟨y, hy⟩ : ∃ y, y = nth M k := ⟨_, rfl⟩
            rw [← hx] at cc bx HS
            rw [← hy] at hc' by' HS
            clear hx hy
            have HN : Hid (Own (wr.setCell ⟨g, k, none⟩ (.int .i64 ((x + y) % 9973))) w.heap.size (some ⟨g, 0, none⟩) N N (addP L M L.length (k + 1))) := own_set HQ.out HS.out
            have HB := Lib.hid (hbq.setCell (p := ⟨g, k, none⟩) hgw (.int .i64 ((x + y) % 9973)))
            go_wp2
            go_roundw
            case rel => exact ⟨k + 1, by omega, by go_num, HN.out, HB.out⟩
            case measure => simp [intOf]; omega
          · obtain rfl : k = n' := by omega
            have HT : Hid (trm (addP L M L.length k) = padd L M) := by rw [Hid, ← addP_all H.out.2, hm.out]
            go_wp2_with fail
            refine (c_trim _ _ _ _ _ HQ.out.rd (Nat.le_refl _) (by omega) (fun h => by cases h)).mono ?_
            rintro e w3 ⟨A3, c3, rfl, o3, hb3⟩
            rw [HT.out] at o3 ⊢
            have O3 := Lib.hid (o3.base_le hbq.size)
            have B3 := Lib.hid (hbq.trans (hb3.mono hbq.size))
            clear o3 hb3
            go_wp2
            go_ret2
            exact ⟨A3, c3, rfl, O3.out, B3.out⟩
theorem c_PAdd_bad (A A' : Option Addr) (n n' c c' : Nat) (L M : List Int) (B B' : Nat) (w : World) (hL : Rd w B A n L) (hM : Rd w B' A' n' M) (h : ¬ (POk L ∧ POk M)) :
    Calls Tryd.prog 11 #[.slice A n c, .slice A' n' c'] w fun e w' => e = .returned (.tuple #[.slice none 0 0, .iface 46 (.int .i64 (bothE L M))]) ∧ Below w.heap.size w w' := by
  have H := Lib.hid h
  clear h
  go_enter Tryd.func11, Tryd.ntmps11
  go_wp2_with fail
  refine (c_both_bad _ _ _ _ _ _ L M _ _ _ hL hM H.out).mono ?_
  rintro e w1 ⟨rfl, hb1⟩
  go_wp2
  go_ret2
  exact ⟨rfl, hb1⟩
set_option maxHeartbeats 1000000 in
theorem c_PAt_ok (A : Option Addr) (n c : Nat) (L : List Int) (x : Int) (B : Nat) (w : World) (hL : Rd w B A n L) (h : POk L) (hx : 0 ≤ x ∧ x ≤ 9972) :
    Calls Tryd.prog 20 #[.slice A n c, .int .i64 x] w fun e w' => e = .returned (.tuple #[.int .i64 (pat L x), .nilIface]) ∧ w = w' := by
  have hn : n ≤ 12 := by rw [← hL.1]; exact h.1
  have hl : Hid (L.length = n) := hL.1
  have o1 : outB x 0 9972 = false := outB_false hx.1 hx.2
  have HL := Lib.hid hL
  have H := Lib.hid h
  have HZ : Hid (hor L x 0 = pat L x) := hor_zero L x
  have HE : Hid (hor L x n = 0) := by rw [Hid, ← hl.out]; exact hor_end L x
  clear hL h
  go_enter Tryd.func20, Tryd.ntmps20
  go_wp2_with fail
  refine (c_PCheck_ok _ _ _ L _ _ HL.out H.out).mono ?_
  rintro e w' ⟨rfl, rfl⟩
  go_wp2_with (go_at_call 37; refine (c_Out _ _ _ _).mono ?_; rintro e w' ⟨rfl, rfl⟩)
  go_loop [7, 8] (fun o i => ∃ (k : Nat) (z : Int), k ≤ n ∧ i = .int .i64 ((k : Int) - 1) ∧ o = .int .i64 z ∧ 0 ≤ z ∧ z < 9973 ∧ Hid (hor L x k = z)) (fun _ i => (intOf i + 1).toNat)
  case atStart => exact ⟨n, 0, Nat.le_refl _, rfl, rfl, by omega, by omega, HE.out⟩
  case round =>
    obtain ⟨k, z, hk, rfl, rfl, z1, z2, HK⟩ := hrel
    by_cases h0 : k = 0
    · subst h0
      have HP : Hid (pat L x = z) := by rw [Hid, ← HZ.out]; exact HK.out
      go_wp2
      go_ret2
      exact ⟨by rw [HP.out]; rfl, rfl⟩
    · obtain ⟨m, rfl⟩ : ∃ m, k = m + 1 := ⟨k - 1, by omega⟩
      obtain ⟨b, off, rfl, hc⟩ := HL.out.at_ (k := m) (by omega)
      have bx := H.out.2 m
      have HS : Hid (hor L x m = (z * x + nth L m) % 9973) := by rw [Hid, hor_step L x m (by rw [hl.out]; omega), HK.out]
      obtain ⟨y, hy⟩ : ∃ y, y = nth L m := ⟨_, rfl⟩
      rw [← hy] at hc bx HS
      clear hy
      have bm := mul_bd z x 9973 z1 z2 hx.1 (by omega)
      have ei : ((m + 1 : Nat) : Int) - 1 = (m : Int) := by omega
      rw [ei]
      go_wp2
      go_round
      case rel => exact ⟨m, (z * x + y) % 9973, by omega, by go_num, by go_num, by omega, by omega, HS.out⟩
      case measure => simp [intOf]
theorem c_PAt_bad (A : Option Addr) (n c : Nat) (L : List Int) (x : Int) (B : Nat) (w : World) (hL : Rd w B A n L) (h : ¬ POk L) :
    Calls Tryd.prog 20 #[.slice A n c, .int .i64 x] w fun e w' => e = .returned (.tuple #[.int .i64 0, .iface 46 (.int .i64 (polyE L))]) ∧ w = w' := by
  have H := Lib.hid h
  clear h
  go_enter Tryd.func20, Tryd.ntmps20
  go_wp2_with fail
  refine (c_PCheck_bad _ _ _ L _ _ hL H.out).mono ?_
  rintro e w' ⟨rfl, rfl⟩
  go_wp2
  go_ret2
  exact ⟨rfl, rfl⟩
theorem c_PAt_far (A : Option Addr) (n c : Nat) (L : List Int) (x : Int) (B : Nat) (w : World) (hL : Rd w B A n L) (h : POk L) (hx : ¬ (0 ≤ x ∧ x ≤ 9972)) :
    Calls Tryd.prog 20 #[.slice A n c, .int .i64 x] w fun e w' => e = .returned (.tuple #[.int .i64 0, .iface 46 (.int .i64 1)]) ∧ w = w' := by
  have o1 : outB x 0 9972 = true := outB_true (by omega)
  have H := Lib.hid h
  clear h hx
  go_enter Tryd.func20, Tryd.ntmps20
  go_wp2_with fail
  refine (c_PCheck_ok _ _ _ L _ _ hL H.out).mono ?_
  rintro e w' ⟨rfl, rfl⟩
  go_wp2_with (go_at_call 37; refine (c_Out _ _ _ _).mono ?_; rintro e w' ⟨rfl, rfl⟩)
  go_ret2
  exact ⟨rfl, rfl⟩
end Go.Proofs.YtaidincogkfodaaDoor
