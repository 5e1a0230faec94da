/- The contracts of package kara. -/
import Derived.Test.YtmicgjpelikjiaaMem
import Derived.Test.YtmicgjpelikjiaaNum
import Derived.Test.YtmicgjpelikjiaaKaraM
import Derived.BigQuiet
import Derived.Deep.QuietTactic
import Derived.Deep.RegionWith
namespace Go.Proofs.Ytmicgjpelikjiaa
open Go.RowKit

/-- The sum so far. -/
def addK (n : Nat) (L M : List Int) (k : Nat) : List Int := mk n fun i => if i < k then nth L i + nth M i else 0
theorem addK_zero (n : Nat) (L M : List Int) : addK n L M 0 = List.replicate n 0 := by
  refine list_ext (by rw [addK, mk_len, List.length_replicate]) fun k hk => ?_
  rw [addK, mk_len] at hk
  rw [addK, mk_nth' _ hk, if_neg (by omega), nth_replicate n k 0 hk]
theorem addK_all (n : Nat) (L M : List Int) : addK n L M n = addL n L M := mk_congr fun k hk => by rw [if_pos hk]
theorem addK_succ (n : Nat) (L M : List Int) (k : Nat) : (addK n L M k).set k (nth L k + nth M k) = addK n L M (k + 1) := by
  unfold addK
  rw [mk_set]
  refine mk_congr fun j _ => ?_
  by_cases e : j = k
  · subst e; rw [if_pos rfl, if_pos (by omega)]
  · rw [if_neg e]
    by_cases hj : j < k
    · rw [if_pos hj, if_pos (by omega)]
    · rw [if_neg hj, if_neg (by omega)]
theorem c_ksum (A A' : Option Addr) (n c c' : Nat) (L M : List Int) (B B' : Nat) (w : World) (hL : Rd w B A n L) (hM : Rd w B' A' n M) (hB : B ≤ w.heap.size) (hB' : B' ≤ w.heap.size) (hn : n ≤ 1000) (bL : Bnd (nth L) 1000000) (bM : Bnd (nth M) 1000000) :
    Calls Try.prog 31 #[.slice A n c, .slice A' n c'] w fun e w' => ∃ g, e = .returned (.slice (some ⟨g, 0, none⟩) n n) ∧ Own w' w.heap.size (some ⟨g, 0, none⟩) n n (addL n L M) ∧ Below w.heap.size w w' := by
  have HL := Lib.hid hL
  have HM := Lib.hid hM
  have BL := Lib.hid bL
  have BM := Lib.hid bM
  clear hL hM bL bM
  go_enter Try.func31, Try.ntmps31
  go_wp2_with (at_make; refine wp_make rfl _ _ rfl n n rfl rfl rfl (by omega) ?_)
  intro w1 own hb hlt1
  rw [← addK_zero n L M] at own
  have O1 := Lib.hid own
  obtain ⟨g, hg⟩ : ∃ g, g = w.heap.size := ⟨_, rfl⟩
  have hg1 : w.heap.size ≤ g := by omega
  have hg2 : g < w1.heap.size := by omega
  rw [← hg] at O1 ⊢
  clear own hg
  go_wp2
  go_loopw [12] (fun i wr => ∃ k : Nat, k ≤ n ∧ i = .int .i64 k ∧ Hid (Own wr w.heap.size (some ⟨g, 0, none⟩) n n (addK n L M k)) ∧ Below w.heap.size w wr) (fun i _ => n - (intOf i).toNat)
  case atStart => exact ⟨0, Nat.zero_le _, rfl, O1.out.base_le (by omega), hb⟩
  case round =>
    obtain ⟨k, hk, rfl, ho, hbr⟩ := hrel
    by_cases hlt : k < n
    · obtain ⟨b, off, rfl, hc⟩ := (HL.out.keep fun p hp => hbr.cell (by omega)).at_ hlt
      obtain ⟨b', off', rfl, hc'⟩ := (HM.out.keep fun p hp => hbr.cell (by omega)).at_ hlt
      have c1 := ho.out.cell hlt
      have c2 := ho.out.free k
      have b1 := BL.out k
      have b2 := BM.out k
      have HS := Lib.hid (addK_succ n L M k)
      obtain ⟨x, hx⟩ : ∃ x, x = nth L k := ⟨_, rfl⟩
      obtain ⟨y, hy⟩ : ∃ y, y = nth M k := ⟨_, rfl⟩
      obtain ⟨z, hz⟩ : ∃ z, z = nth (addK n L M k) k := ⟨_, rfl⟩
      rw [← hx] at hc b1 HS
      rw [← hy] at hc' b2 HS
      rw [← hz] at c1
      clear hx hy hz
      go_wp2
      go_region
      go_wp2
      go_roundw
      case rel => exact ⟨k + 1, by omega, by go_num, by rw [← HS.out]; exact ho.out.set k _, (hbr.setCell (p := ⟨g, k, none⟩) (show w.heap.size ≤ g from hg1) _).drew⟩
      case measure => simp [intOf]; omega
    · obtain rfl : k = n := by omega
      rw [addK_all] at ho
      go_wp2
      go_ret
      exact ⟨g, rfl, ho.out, hbr⟩
/-- The addition so far. -/
def addAtK (N : Nat) (T : List Int) (at' : Nat) (M : List Int) (t : Int) (k : Nat) : List Int := mk N fun i => nth T i + t * (if at' ≤ i ∧ i < at' + k then nth M (i - at') else 0)
theorem addAtK_zero (N : Nat) (T : List Int) (at' : Nat) (M : List Int) (t : Int) (hT : T.length = N) : addAtK N T at' M t 0 = T := by
  rw [← mk_of T N hT]
  refine mk_congr fun k hk => ?_
  rw [if_neg (by omega), mk_nth' _ hk, Int.mul_zero, Int.add_zero]
theorem addAtK_all (N : Nat) (T : List Int) (at' : Nat) (M : List Int) (t : Int) (m : Nat) (hM : M.length = m) : addAtK N T at' M t m = addAt N T at' M t := by
  refine mk_congr fun k _ => ?_
  congr 2
  unfold sh
  by_cases h : k < at'
  · rw [if_pos h, if_neg (by omega)]
  · rw [if_neg h]
    by_cases h' : k < at' + m
    · rw [if_pos (by omega)]
    · rw [if_neg (by omega), sup_nth M _ (by omega)]
theorem addAtK_nth (N : Nat) (T : List Int) (at' : Nat) (M : List Int) (t : Int) (k : Nat) (h : at' + k < N) : nth (addAtK N T at' M t k) (at' + k) = nth T (at' + k) := by
  rw [addAtK, mk_nth' _ h, if_neg (by omega), Int.mul_zero, Int.add_zero]
theorem addAtK_succ (N : Nat) (T : List Int) (at' : Nat) (M : List Int) (t : Int) (k : Nat) (v : Int) (hv : v = nth T (at' + k) + t * nth M k) : (addAtK N T at' M t k).set (at' + k) v = addAtK N T at' M t (k + 1) := by
  unfold addAtK
  rw [mk_set]
  refine mk_congr fun j _ => ?_
  by_cases e : j = at' + k
  · subst e
    rw [if_pos rfl, if_pos (by omega), hv, show at' + k - at' = k by omega]
  · rw [if_neg e]
    congr 2
    by_cases hj : at' ≤ j ∧ j < at' + k
    · rw [if_pos hj, if_pos (by omega)]
    · rw [if_neg hj, if_neg (by omega)]
theorem c_kadd1 (g N cN at' m cm : Nat) (A : Option Addr) (T M : List Int) (base B : Nat) (w : World) (hT : Own w base (some ⟨g, 0, none⟩) N cN T) (hM : Rd w B A m M) (hne : ∀ b off, A = some ⟨b, off, none⟩ → b ≠ g) (hat : at' + m ≤ N) (hN : N ≤ 1000)
    (bT : Bnd (nth T) 1000000000000) (bM : Bnd (nth M) 1000000000000) :
    Calls Try.prog 32 #[.slice (some ⟨g, 0, none⟩) N cN, .int .i64 at', .slice A m cm, .int .i64 1] w fun e w' => e = .returned (.tuple #[]) ∧ Own w' base (some ⟨g, 0, none⟩) N cN (addAt N T at' M 1) ∧ w.grownBy w' (some g) := by
  have HT := Lib.hid hT
  have HM := Lib.hid hM
  have HN := Lib.hid hne
  have BT := Lib.hid bT
  have BM := Lib.hid bM
  have hgl := hT.lt.2
  clear hT hM hne bT bM
  go_enter Try.func32, Try.ntmps32
  go_wp2
  go_loopw [12] (fun i wr => ∃ k : Nat, k ≤ m ∧ i = .int .i64 k ∧ Hid (Own wr base (some ⟨g, 0, none⟩) N cN (addAtK N T at' M 1 k)) ∧ Hid (w.grownBy wr (some g))) (fun i _ => m - (intOf i).toNat)
  case atStart => exact ⟨0, Nat.zero_le _, rfl, by rw [addAtK_zero _ _ _ _ _ HT.out.1]; exact HT.out, World.grownBy.refl _ _⟩
  case round =>
    obtain ⟨k, hk, rfl, ho, hgr⟩ := hrel
    by_cases hlt : k < m
    · obtain ⟨b, off, rfl, hc⟩ := (rd_grown HM.out hgr.out HN.out).at_ hlt
      have c1 := ho.out.cell (show at' + k < N by omega)
      rw [addAtK_nth _ _ _ _ _ _ (by omega)] at c1
      have c2 := ho.out.free (at' + k)
      have b1 := BT.out (at' + k)
      have b2 := BM.out k
      have HS := Lib.hid (fun (v : Int) (hv : v = nth T (at' + k) + 1 * nth M k) => addAtK_succ N T at' M 1 k v hv)
      obtain ⟨x, hx⟩ : ∃ x, x = nth M k := ⟨_, rfl⟩
      obtain ⟨z, hz⟩ : ∃ z, z = nth T (at' + k) := ⟨_, rfl⟩
      rw [← hx] at hc b2 HS
      rw [← hz] at c1 b1 HS
      clear hx hz
      go_wp2
      go_roundw
      case rel => exact ⟨k + 1, by omega, by go_num, own_set ho.out (HS.out _ (by omega)), grown_set hgr.out _ _⟩
      case measure => simp [intOf]; omega
    · obtain rfl : k = m := by omega
      rw [addAtK_all _ _ _ _ _ _ HM.out.1] at ho
      go_wp2
      go_end0
      exact ⟨rfl, ho.out, hgr.out⟩
theorem c_kaddm (g N cN at' m cm : Nat) (A : Option Addr) (T M : List Int) (base B : Nat) (w : World) (hT : Own w base (some ⟨g, 0, none⟩) N cN T) (hM : Rd w B A m M) (hne : ∀ b off, A = some ⟨b, off, none⟩ → b ≠ g) (hat : at' + m ≤ N) (hN : N ≤ 1000)
    (bT : Bnd (nth T) 1000000000000) (bM : Bnd (nth M) 1000000000000) :
    Calls Try.prog 32 #[.slice (some ⟨g, 0, none⟩) N cN, .int .i64 at', .slice A m cm, .int .i64 (-1)] w fun e w' => e = .returned (.tuple #[]) ∧ Own w' base (some ⟨g, 0, none⟩) N cN (addAt N T at' M (-1)) ∧ w.grownBy w' (some g) := by
  have HT := Lib.hid hT
  have HM := Lib.hid hM
  have HN := Lib.hid hne
  have BT := Lib.hid bT
  have BM := Lib.hid bM
  have hgl := hT.lt.2
  clear hT hM hne bT bM
  go_enter Try.func32, Try.ntmps32
  go_wp2
  go_loopw [12] (fun i wr => ∃ k : Nat, k ≤ m ∧ i = .int .i64 k ∧ Hid (Own wr base (some ⟨g, 0, none⟩) N cN (addAtK N T at' M (-1) k)) ∧ Hid (w.grownBy wr (some g))) (fun i _ => m - (intOf i).toNat)
  case atStart => exact ⟨0, Nat.zero_le _, rfl, by rw [addAtK_zero _ _ _ _ _ HT.out.1]; exact HT.out, World.grownBy.refl _ _⟩
  case round =>
    obtain ⟨k, hk, rfl, ho, hgr⟩ := hrel
    by_cases hlt : k < m
    · obtain ⟨b, off, rfl, hc⟩ := (rd_grown HM.out hgr.out HN.out).at_ hlt
      have c1 := ho.out.cell (show at' + k < N by omega)
      rw [addAtK_nth _ _ _ _ _ _ (by omega)] at c1
      have c2 := ho.out.free (at' + k)
      have b1 := BT.out (at' + k)
      have b2 := BM.out k
      have HS := Lib.hid (fun (v : Int) (hv : v = nth T (at' + k) + (-1) * nth M k) => addAtK_succ N T at' M (-1) k v hv)
      obtain ⟨x, hx⟩ : ∃ x, x = nth M k := ⟨_, rfl⟩
      obtain ⟨z, hz⟩ : ∃ z, z = nth T (at' + k) := ⟨_, rfl⟩
      rw [← hx] at hc b2 HS
      rw [← hz] at c1 b1 HS
      clear hx hz
      go_wp2
      go_roundw
      case rel => exact ⟨k + 1, by omega, by go_num, own_set ho.out (HS.out _ (by omega)), grown_set hgr.out _ _⟩
      case measure => simp [intOf]; omega
    · obtain rfl : k = m := by omega
      rw [addAtK_all _ _ _ _ _ _ HM.out.1] at ho
      go_wp2
      go_end0
      exact ⟨rfl, ho.out, hgr.out⟩

theorem c_kmul_one (A A' : Option Addr) (c c' : Nat) (L M : List Int) (B B' : Nat) (w : World) (hL : Rd w B A 1 L) (hM : Rd w B' A' 1 M) (bL : Bnd (nth L) 16000) (bM : Bnd (nth M) 16000) :
    Calls Try.prog 25 #[.slice A 1 c, .slice A' 1 c'] w fun e w' => ∃ g, e = .returned (.tuple #[.slice (some ⟨g, 0, none⟩) 1 1, .int .i64 1]) ∧ Own w' w.heap.size (some ⟨g, 0, none⟩) 1 1 (convL 1 L M) ∧ Below w.heap.size w w' := by
  obtain ⟨b, off, rfl, hc⟩ := hL.at_ (k := 0) (by omega)
  obtain ⟨b', off', rfl, hc'⟩ := hM.at_ (k := 0) (by omega)
  have b1 := bL 0
  have b2 := bM 0
  have hp := mul_bnd b1 b2 (by omega) (by omega)
  have HE : Hid (convL 1 L M = [nth L 0 * nth M 0]) := by
    show [cv (nth L) (nth M) 0] = _
    show [0 + nth L 0 * nth M 0] = _
    rw [Int.zero_add]
  obtain ⟨x, hx⟩ : ∃ x, x = nth L 0 := ⟨_, rfl⟩
  obtain ⟨y, hy⟩ : ∃ y, y = nth M 0 := ⟨_, rfl⟩
  rw [← hx] at hc hp HE b1
  rw [← hy] at hc' hp HE b2
  clear hx hy bL bM hL hM
  simp only [Nat.add_zero] at hc hc'
  go_enter Try.func25, Try.ntmps25
  go_wp2
  go_region
  all_goals
    go_wp2
    go_ret2
    refine ⟨w.heap.size, rfl, ?_, by go_grown⟩
    rw [HE.out]
    have h1 := own_new w [x * y] 1 rfl (by omega)
    have h2 : Own (w.alloc (.cells #[.int .i64 (x * y)] 3)) w.heap.size (some ⟨w.heap.size, 0, none⟩) 1 1 [x * y] := by simpa using h1
    exact h2
end Go.Proofs.Ytmicgjpelikjiaa
