/- The reference's product of two rows: the sums, and the walk. -/
import Derived.Test.YtmicgjpelikjiaaDoorKaraC
namespace Go.Proofs.YtmicgjpelikjiaaDoor
open Go.RowKit

/-- The term at place i of the k-th sum. -/
def pt (n : Nat) (L M : List Int) (k i : Nat) : Int := if i ≤ k ∧ k - i < n then nth L i * nth M (k - i) else 0
theorem pt_sum {n : Nat} {L M : List Int} (hL : L.length = n) (hM : M.length = n) (k : Nat) : sm n (pt n L M k) = cv (nth L) (nth M) k := by
  have e : ∀ i, pt n L M k i = if i ≤ k then nth L i * nth M (k - i) else 0 := fun i => by
    unfold pt
    by_cases h1 : i ≤ k
    · by_cases h2 : k - i < n
      · rw [if_pos ⟨h1, h2⟩, if_pos h1]
      · rw [if_neg (fun h => h2 h.2), if_pos h1, sup_nth M (k - i) (by omega), Int.mul_zero]
    · rw [if_neg (fun h => h1 h.1), if_neg h1]
  have h1 := sm_split (pt n L M k) n (k + 1)
  have h2 := sm_split (pt n L M k) (k + 1) n
  have z1 : sm (k + 1) (fun i => pt n L M k (n + i)) = 0 := sm_zero _ fun i _ => by
    rw [e]
    by_cases h : n + i ≤ k
    · rw [if_pos h, sup_nth L (n + i) (by omega), Int.zero_mul]
    · rw [if_neg h]
  have z2 : sm n (fun i => pt n L M k (k + 1 + i)) = 0 := sm_zero _ fun i _ => by rw [e, if_neg (by omega)]
  have h3 : sm (k + 1) (pt n L M k) = cv (nth L) (nth M) k := sm_congr _ fun i hi => by rw [e, if_pos (by omega)]
  rw [show k + 1 + n = n + (k + 1) by omega] at h2
  omega
theorem pt_bd {n : Nat} {L M : List Int} (bL : Bnd (nth L) 1000) (bM : Bnd (nth M) 1000) (k i : Nat) : -1000000 ≤ pt n L M k i ∧ pt n L M k i ≤ 1000000 := by
  unfold pt
  split
  · have := mul_bnd (bL i) (bM (k - i)) (by omega) (by omega); omega
  · omega
theorem ptsum_bd {n : Nat} {L M : List Int} (bL : Bnd (nth L) 1000) (bM : Bnd (nth M) 1000) (k : Nat) (j : Nat) (hj : j ≤ 16) : -16000000 ≤ sm j (pt n L M k) ∧ sm j (pt n L M k) ≤ 16000000 := by
  have := sm_bnd (C := 1000000) j fun i _ => pt_bd (n := n) bL bM k i
  omega
/-- The product's first k places. -/
def prodP (L M : List Int) (k : Nat) : List Int := mk k (cv (nth L) (nth M))
theorem prodP_succ (L M : List Int) (k : Nat) : prodP L M k ++ [cv (nth L) (nth M) k] = prodP L M (k + 1) := by
  unfold prodP mk
  rw [List.range_succ, List.map_append]
  rfl

set_option maxHeartbeats 4000000 in
theorem c_RProduct (A A' : Option Addr) (n c c' : Nat) (L M : List Int) (w : World) (hL : Rd w w.heap.size A n L) (hM : Rd w w.heap.size A' n M) (h1 : 1 ≤ n) (h16 : n ≤ 16) (bL : Bnd (nth L) 1000) (bM : Bnd (nth M) 1000) :
    Calls Tryd.prog 16 #[.slice A n c, .slice A' n c'] w fun e w' => ∃ A2 c2, e = .returned (.slice A2 (2 * n - 1) c2) ∧ Own w' w.heap.size A2 (2 * n - 1) c2 (convL n L M) ∧ Below w.heap.size w w' := by
  have HL := Lib.hid hL
  have HM := Lib.hid hM
  have BL := Lib.hid bL
  have BM := Lib.hid bM
  clear hL hM bL bM
  go_enter Tryd.func16, Tryd.ntmps16
  go_wp2
  go_loopw [5, 6] (fun v i wr => ∃ (k : Nat) (A2 : Option Addr) (c2 : Nat), k ≤ 2 * n - 1 ∧ i = .int .i64 k ∧ v = .slice A2 k c2 ∧ Hid (Own wr w.heap.size A2 k c2 (prodP L M k)) ∧ Below w.heap.size w wr) (fun _ i _ => 2 * n - 1 - (intOf i).toNat)
  case atStart => exact ⟨0, none, 0, Nat.zero_le _, rfl, rfl, Own.nil _ _, Below.refl _ _⟩
  case round =>
    obtain ⟨k, A2, c2, hk, rfl, rfl, ho, hbr⟩ := hrel
    by_cases hlt : k < 2 * n - 1
    · have hd : decide ((k : Int) < 2 * (n : Int) - 1) = true := decide_eq_true (by omega)
      go_wp2
      go_loopw [7, 8] (fun s t w2 => ∃ (i : Nat) (x : Int), i ≤ n ∧ t = .int .i64 i ∧ s = .int .i64 x ∧ Hid (x = sm i (pt n L M k)) ∧ ∃ q, wr.drewN q = w2) (fun _ t _ => n - (intOf t).toNat)
      case atStart => exact ⟨0, 0, Nat.zero_le _, rfl, rfl, rfl, 0, rfl⟩
      case round =>
        obtain ⟨i, x, hi, rfl, rfl, HX, q, rfl⟩ := hrel
        have hx := ptsum_bd (n := n) BL.out BM.out k i (by omega)
        rw [← HX.out] at hx
        have hb2 := below_drewN hbr q
        by_cases hlt2 : i < n
        · by_cases hin : i ≤ k ∧ k - i < n
          · obtain ⟨b, off, rfl, hbB, hc⟩ := (HL.out.below hbr).at' hlt2
            obtain ⟨b', off', rfl, hbB', hc'⟩ := (HM.out.below hbr).at' hin.2
            have hb3 := mul_bnd (BL.out i) (BM.out (k - i)) (by omega) (by omega)
            have HN : Hid (x + nth L i * nth M (k - i) = sm (i + 1) (pt n L M k)) := by
              show _ = sm i (pt n L M k) + pt n L M k i
              rw [HX.out]; unfold pt; rw [if_pos hin]
            have hin' : inB ((k : Int) - (i : Int)) 0 ((n : Int) - 1) = true := by unfold inB; simp; omega
            obtain ⟨u, hu⟩ : ∃ u, u = nth L i := ⟨_, rfl⟩
            obtain ⟨v, hv⟩ : ∃ v, v = nth M (k - i) := ⟨_, rfl⟩
            rw [← hu] at hc hb3 HN
            rw [← hv] at hc' hb3 HN
            clear hu hv
            go_wp2_with (go_at_call 23; refine (c_Rin _ _ _ _).mono ?_; rintro e w' ⟨rfl, rfl⟩)
            go_region
            go_wp2
            go_roundw
            case rel => exact ⟨i + 1, x + u * v, by omega, by go_num, rfl, HN, q + 1, rfl⟩
            case measure => simp [intOf]; omega
          · have HN : Hid (x = sm (i + 1) (pt n L M k)) := by
              show _ = sm i (pt n L M k) + pt n L M k i
              rw [HX.out]; unfold pt; rw [if_neg hin, Int.add_zero]
            have hin' : inB ((k : Int) - (i : Int)) 0 ((n : Int) - 1) = false := by unfold inB; simp; omega
            clear hin
            go_wp2_with (go_at_call 23; refine (c_Rin _ _ _ _).mono ?_; rintro e w' ⟨rfl, rfl⟩)
            go_roundw
            case rel => exact ⟨i + 1, x, by omega, by go_num, rfl, HN, q, rfl⟩
            case measure => simp [intOf]; omega
        · obtain rfl : i = n := by omega
          have HN : Hid (x = cv (nth L) (nth M) k) := by rw [Hid, HX.out, pt_sum HL.out.1 HM.out.1]
          have HG := Lib.hid (prodP_succ L M k)
          go_wp2_with (at_builtin; refine wp_push rfl (.tmp 43) (.tmp 45) rfl w.heap.size rfl rfl (Own.drewN ho.out q) (by omega) hb2.size ?_)
          intro A3 c3 w3 hown3 hb3
          have HO : Hid (Own w3 w.heap.size A3 (k + 1) c3 (prodP L M (k + 1))) := by rw [Hid, ← HG.out, ← HN.out]; exact hown3
          clear hown3
          go_wp2
          go_roundw
          case rel => exact ⟨k + 1, A3, c3, by omega, by go_num, rfl, HO, hb2.trans hb3⟩
          case measure => simp [intOf]; omega
    · obtain rfl : k = 2 * n - 1 := by omega
      go_wp2
      go_ret
      exact ⟨A2, c2, rfl, ho.out, hbr⟩
end Go.Proofs.YtmicgjpelikjiaaDoor
