/- The contracts of package poly: Mul, Add. -/
import Derived.Test.YtmicgjpelikjiaaPolyB
namespace Go.Proofs.Ytmicgjpelikjiaa
open Go.RowKit

theorem Own.nilcap {w : World} {base n c : Nat} {A : Option Addr} {L : List Int} (h : Own w base A n c L) : n ≤ c ∧ c ≤ 9223372036854775807 ∧ (A = none → c = 0) := by
  rcases h.2.2 with ⟨hv, h0⟩ | ⟨g, cap, cur, hv, _, _, h0, h1, _⟩
  · injection hv with e1 e2 e3
    omega
  · injection hv with e1 e2 e3
    unfold maxLen at h1
    subst e3
    refine ⟨h0, h1, fun h => ?_⟩
    rw [h] at e1; cases e1
/-- The product so far: all of the first i rows, and k places of the next. -/
def mulP (L M : List Int) (i k : Nat) : List Int := mk (L.length + M.length) fun j => (sm i (fun a => if a ≤ j ∧ j - a < M.length then nth L a * nth M (j - a) else 0) + (if i ≤ j ∧ j - i < k then nth L i * nth M (j - i) else 0)) % 9973
theorem mulP_zero (L M : List Int) : mulP L M 0 0 = List.replicate (L.length + M.length) 0 := by
  refine list_ext (by rw [mulP, mk_len, List.length_replicate]) fun j hj => ?_
  rw [mulP, mk_len] at hj
  rw [mulP, mk_nth' _ hj, nth_replicate _ _ _ hj, if_neg (by omega)]
  rfl
theorem mulP_next (L M : List Int) (i : Nat) : mulP L M i M.length = mulP L M (i + 1) 0 := by
  unfold mulP
  refine mk_congr fun j _ => ?_
  rw [if_neg (show ¬ (i + 1 ≤ j ∧ j - (i + 1) < 0) by omega)]
  show (sm i _ + _) % 9973 = (sm i _ + _ + 0) % 9973
  rw [Int.add_zero]
theorem mulP_step (L M : List Int) (i k : Nat) (hi : i < L.length) (hk : k < M.length) : (mulP L M i k).set (i + k) ((nth (mulP L M i k) (i + k) + nth L i * nth M k) % 9973) = mulP L M i (k + 1) := by
  have hj : i + k < L.length + M.length := by omega
  have e0 : nth (mulP L M i k) (i + k) = (sm i (fun a => if a ≤ i + k ∧ i + k - a < M.length then nth L a * nth M (i + k - a) else 0)) % 9973 := by
    unfold mulP
    rw [mk_nth' _ hj, if_neg (show ¬ (i ≤ i + k ∧ i + k - i < k) by omega), Int.add_zero]
  rw [e0]
  unfold mulP
  rw [mk_set]
  refine mk_congr fun j _ => ?_
  by_cases e : j = i + k
  · subst e
    rw [if_pos rfl, if_pos (show i ≤ i + k ∧ i + k - i < k + 1 by omega), show i + k - i = k by omega, Int.add_emod, Int.emod_emod, ← Int.add_emod]
  · rw [if_neg e]
    by_cases h1 : i ≤ j ∧ j - i < k
    · rw [if_pos h1, if_pos (show i ≤ j ∧ j - i < k + 1 by omega)]
    · rw [if_neg h1, if_neg (show ¬ (i ≤ j ∧ j - i < k + 1) by omega)]
theorem mulP_all (L M : List Int) : trm (mulP L M L.length 0) = pmul L M := by
  unfold pmul
  congr 1
  unfold mulP
  refine mk_congr fun j _ => ?_
  rw [if_neg (by omega), Int.add_zero]
  congr 1
  have h1 := sm_split (fun a => if a ≤ j ∧ j - a < M.length then nth L a * nth M (j - a) else 0) L.length (j + 1)
  have h2 := sm_split (fun a => if a ≤ j ∧ j - a < M.length then nth L a * nth M (j - a) else 0) (j + 1) L.length
  have z1 : sm (j + 1) (fun i => if L.length + i ≤ j ∧ j - (L.length + i) < M.length then nth L (L.length + i) * nth M (j - (L.length + i)) else 0) = 0 := sm_zero _ fun i _ => by
    split
    · rw [sup_nth L (L.length + i) (by omega), Int.zero_mul]
    · rfl
  have z2 : sm L.length (fun i => if j + 1 + i ≤ j ∧ j - (j + 1 + i) < M.length then nth L (j + 1 + i) * nth M (j - (j + 1 + i)) else 0) = 0 := sm_zero _ fun i _ => by rw [if_neg (by omega)]
  have h3 : sm (j + 1) (fun a => if a ≤ j ∧ j - a < M.length then nth L a * nth M (j - a) else 0) = cv (nth L) (nth M) j := sm_congr _ fun a ha => by
    by_cases h : j - a < M.length
    · rw [if_pos ⟨by omega, h⟩]
    · rw [if_neg (fun h' => h h'.2), sup_nth M (j - a) (by omega), Int.mul_zero]
  rw [show j + 1 + L.length = L.length + (j + 1) by omega] at h2
  omega
theorem mulP_len (L M : List Int) (i k : Nat) : (mulP L M i k).length = L.length + M.length := mk_len _ _
theorem mulP_bd (L M : List Int) (i k j : Nat) : 0 ≤ nth (mulP L M i k) j ∧ nth (mulP L M i k) j < 9973 := by
  unfold mulP
  rw [mk_nth]
  split
  · exact emod_pl _
  · omega
set_option maxHeartbeats 2000000 in
theorem c_PMul_ok (A A' : Option Addr) (n n' c c' : Nat) (L M : List Int) (w : World) (hL : Rd w w.heap.size A n L) (hM : Rd w w.heap.size A' n' M) (h : POk L) (h' : POk M) :
    Calls Try.prog 19 #[.slice A n c, .slice A' n' c'] w fun e w' => ∃ A2 c2, e = .returned (.tuple #[.slice A2 (pmul L M).length c2, .nilIface]) ∧ Own w' w.heap.size A2 (pmul L M).length c2 (pmul L M) ∧ Below w.heap.size w w' := by
  have hn : n ≤ 12 := by rw [← hL.1]; exact h.1
  have hn' : n' ≤ 12 := by rw [← hM.1]; exact h'.1
  have hl : Hid (L.length = n) := hL.1
  have hm : Hid (M.length = n') := hM.1
  have HL := Lib.hid hL
  have HM := Lib.hid hM
  have H := Lib.hid h
  have H' := Lib.hid h'
  clear hL hM h h'
  go_enter Try.func19, Try.ntmps19
  go_wp2_with fail
  refine (c_both_ok _ _ _ _ _ _ L M _ _ _ HL.out HM.out H.out H'.out).mono ?_
  rintro e w1 ⟨rfl, hb1⟩
  go_wp2_with (at_make; refine wp_make rfl _ _ rfl (n + n') _ rfl rfl (by omega) (by omega) ?_)
  intro w2 own hb hlt2
  have e0 : Own w2 w1.heap.size (some ⟨w1.heap.size, 0, none⟩) (n + n') (n + n') (mulP L M 0 0) := by rw [mulP_zero, hl.out, hm.out]; exact own
  obtain ⟨g, hg⟩ : ∃ g, g = w1.heap.size := ⟨_, rfl⟩
  have hs1 := hb1.size
  have B2 := Lib.hid (hb1.trans (hb.mono hs1))
  rw [← hg] at e0 hlt2 ⊢
  have O2 := Lib.hid (e0.base_le (show w.heap.size ≤ g by omega))
  have hgw : w.heap.size ≤ g := by omega
  clear own hb e0 hb1 hs1 hg
  go_wp2
  go_loopw [26] (fun u wr => ∃ i : Nat, i ≤ n ∧ u = .int .i64 i ∧ Hid (Own wr w.heap.size (some ⟨g, 0, none⟩) (n + n') (n + n') (mulP L M i 0)) ∧ Below w.heap.size w wr) (fun u _ => n - (intOf u).toNat)
  case atStart => exact ⟨0, Nat.zero_le _, rfl, O2.out, B2.out⟩
  case round =>
    obtain ⟨i, hi, rfl, HO, hbr⟩ := hrel
    by_cases hlt : i < n
    · obtain ⟨b, off, rfl, hc⟩ := (HL.out.below hbr).at_ hlt
      have bx := H.out.2 i
      obtain ⟨x, hx⟩ : ∃ x, x = nth L i := ⟨_, rfl⟩
      have HX := Lib.hid hx
      rw [← hx] at hc bx
      clear hx
      go_wp2
      go_loopw [33] (fun v wq => ∃ k : Nat, k ≤ n' ∧ v = .int .i64 k ∧ Hid (Own wq w.heap.size (some ⟨g, 0, none⟩) (n + n') (n + n') (mulP L M i k)) ∧ Below w.heap.size w wq) (fun v _ => n' - (intOf v).toNat)
      case atStart => exact ⟨0, Nat.zero_le _, rfl, HO.out, hbr⟩
      case round =>
        obtain ⟨k, hk, rfl, HQ, hbq⟩ := hrel
        by_cases hlt' : k < n'
        · obtain ⟨b', off', rfl, hc'⟩ := (HM.out.below hbq).at_ hlt'
          have by' := H'.out.2 k
          have hik : i + k < n + n' := by omega
          have cc := HQ.out.cell hik
          have cf := HQ.out.free (i + k)
          have bz := mulP_bd L M i k (i + k)
          have HS := Lib.hid (mulP_step L M i k (by rw [hl.out]; exact hlt) (by rw [hm.out]; exact hlt'))
          rw [← HX.out] at HS
          obtain ⟨y, hy⟩ : ∃ y, y = nth M k := ⟨_, rfl⟩
          obtain ⟨z, hz⟩ : ∃ z, z = nth (mulP L M i k) (i + k) := ⟨_, rfl⟩
          rw [← hy] at hc' by' HS
          rw [← hz] at cc bz HS
          clear hy hz
          have bm := mul_bd x y 9973 bx.1 bx.2 by'.1 by'.2
          have HN : Hid (Own (wr.setCell ⟨g, i + k, none⟩ (.int .i64 ((z + x * y) % 9973))) w.heap.size (some ⟨g, 0, none⟩) (n + n') (n + n') (mulP L M i (k + 1))) := own_set HQ.out HS.out
          have HB := Lib.hid (hbq.setCell (p := ⟨g, i + k, none⟩) hgw (.int .i64 ((z + x * y) % 9973)))
          go_wp2
          go_roundw
          case rel => exact ⟨k + 1, by omega, by go_num, HN.out, HB.out⟩
          case measure => simp [intOf]; omega
        · obtain rfl : k = n' := by omega
          have HN : Hid (Own wr w.heap.size (some ⟨g, 0, none⟩) (n + k) (n + k) (mulP L M (i + 1) 0)) := by
            rw [Hid, ← mulP_next, hm.out]; exact HQ.out
          go_wp2
          go_roundw
          case rel => exact ⟨i + 1, by omega, by go_num, HN.out, hbq⟩
          case measure => simp [intOf]; omega
    · obtain rfl : i = n := by omega
      have HT : Hid (trm (mulP L M i 0) = pmul L M) := by rw [Hid, ← mulP_all, hl.out]
      go_wp2_with fail
      refine (c_trim _ _ _ _ _ HO.out.rd (Nat.le_refl _) (by omega) (fun h => by cases h)).mono ?_
      rintro e w3 ⟨A3, c3, rfl, o3, hb3⟩
      rw [HT.out] at o3 ⊢
      have O3 := Lib.hid (o3.base_le hbr.size)
      have B3 := Lib.hid (hbr.trans (hb3.mono hbr.size))
      clear o3 hb3
      go_wp2
      go_ret2
      exact ⟨A3, c3, rfl, O3.out, B3.out⟩
theorem c_PMul_bad (A A' : Option Addr) (n n' c c' : Nat) (L M : List Int) (B B' : Nat) (w : World) (hL : Rd w B A n L) (hM : Rd w B' A' n' M) (h : ¬ (POk L ∧ POk M)) :
    Calls Try.prog 19 #[.slice A n c, .slice A' n' c'] w fun e w' => e = .returned (.tuple #[.slice none 0 0, .iface 44 (.int .i64 (bothE L M))]) ∧ Below w.heap.size w w' := by
  have H := Lib.hid h
  clear h
  go_enter Try.func19, Try.ntmps19
  go_wp2_with fail
  refine (c_both_bad _ _ _ _ _ _ L M _ _ _ hL hM H.out).mono ?_
  rintro e w1 ⟨rfl, hb1⟩
  go_wp2
  go_ret2
  exact ⟨rfl, hb1⟩
end Go.Proofs.Ytmicgjpelikjiaa
