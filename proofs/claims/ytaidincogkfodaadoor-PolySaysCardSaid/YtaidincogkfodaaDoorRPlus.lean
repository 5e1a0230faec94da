/- The contracts of the reference's factor, Plus, Times. -/
import Derived.Test.YtaidincogkfodaaDoorIpolC
import Derived.Test.YtaidincogkfodaaDoorPolyR
import Derived.Test.YtaidincogkfodaaDoorRef
import Derived.Deep.RegionLaw
namespace Go.Proofs.YtaidincogkfodaaDoor
open Go.RowKit

theorem c_Rfactor (A : Option Addr) (n c : Nat) (L : List Int) (z : Int) (B : Nat) (w : World) (hL : Rd w B A n L) :
    Calls Tryd.prog 30 #[.slice A n c, .int .i64 z] w fun e w' => e = .returned (.int .i64 (if z < 0 then 0 else nth L z.toNat)) ∧ w = w' := by
  by_cases h1 : z < 0
  · rw [if_pos h1]
    go_enter Tryd.func30, Tryd.ntmps30
    go_wp2
    go_ret
    exact ⟨rfl, rfl⟩
  · rw [if_neg h1]
    obtain ⟨k, rfl⟩ : ∃ k : Nat, z = k := ⟨z.toNat, by omega⟩
    rw [Int.toNat_natCast]
    by_cases h2 : k < n
    · obtain ⟨b, off, rfl, hc⟩ := hL.at_ h2
      obtain ⟨x, hx⟩ : ∃ x, x = nth L k := ⟨_, rfl⟩
      rw [← hx] at hc ⊢
      clear hx h1
      have h3 : ¬ n ≤ k := by omega
      go_enter Tryd.func30, Tryd.ntmps30
      go_wp2
      go_ret
      exact ⟨rfl, rfl⟩
    · have e : nth L k = 0 := sup_nth L k (by rw [hL.1]; omega)
      rw [e]
      have h3 : n ≤ k := by omega
      clear e h1 h2
      go_enter Tryd.func30, Tryd.ntmps30
      go_wp2
      go_ret
      exact ⟨rfl, rfl⟩
/-- The sum so far: one, and another one so many times, so many places up. -/
def plp (f g : List Int) (t : Int) (up k : Nat) : List Int := mk k fun j => (nth f j + t * sh up (nth g) j) % 9973
theorem plp_succ (f g : List Int) (t : Int) (up k : Nat) : plp f g t up k ++ [(nth f k + t * sh up (nth g) k) % 9973] = plp f g t up (k + 1) := by
  unfold plp mk
  rw [List.range_succ, List.map_append]
  rfl
theorem plp_len (f g : List Int) (t : Int) (up k : Nat) : (plp f g t up k).length = k := mk_len _ _
/-- One, and another one so many times, so many places up. -/
def plu (f g : List Int) (t : Int) (up : Nat) : List Int := trm (plp f g t up (max f.length (g.length + up)))
theorem plu_nth (f g : List Int) (t : Int) (up k : Nat) : nth (plu f g t up) k = (nth f k + t * sh up (nth g) k) % 9973 := by
  unfold plu plp
  rw [trm_nth, mk_nth]
  split
  · rfl
  · rw [sup_nth f k (by omega)]
    unfold sh
    split
    · simp
    · rw [sup_nth g (k - up) (by omega)]; simp
theorem plu_pl (f g : List Int) (t : Int) (up : Nat) : PL (plu f g t up) := fun k => by rw [plu_nth]; exact emod_pl _
theorem plu_tr (f g : List Int) (t : Int) (up : Nat) : Tr (plu f g t up) := tr_trm _
theorem plu_len (f g : List Int) (t : Int) (up : Nat) : (plu f g t up).length ≤ max f.length (g.length + up) := by
  unfold plu
  have := trm_le (plp f g t up (max f.length (g.length + up)))
  rw [plp_len] at this
  exact this
set_option maxHeartbeats 4000000 in
theorem c_RPlusN (A A' : Option Addr) (n n' c c' : Nat) (f g : List Int) (t : Int) (up : Nat) (B B' : Nat) (w : World) (hL : Rd w B A n f) (hM : Rd w B' A' n' g) (hB : B ≤ w.heap.size) (hB' : B' ≤ w.heap.size) (hn : n ≤ 100) (hn' : n' ≤ 100) (hu : up ≤ 100) (ht : -9973 < t ∧ t < 9973) (pf : PL f) (pg : PL g) :
    Calls Tryd.prog 8 #[.slice A n c, .slice A' n' c', .int .i64 t, .int .i64 up] w fun e w' => ∃ A2 c2, e = .returned (.slice A2 (plu f g t up).length c2) ∧ Own w' w.heap.size A2 (plu f g t up).length c2 (plu f g t up) ∧ Below w.heap.size w w' := by
  obtain ⟨N, hN⟩ : ∃ N, N = max n (n' + up) := ⟨_, rfl⟩
  have EP : Hid (plu f g t up = trm (plp f g t up N)) := by rw [Hid, hN]; unfold plu; rw [hL.1, hM.1]
  have hN1 : n ≤ N ∧ n' + up ≤ N ∧ N ≤ 200 := by omega
  have HN : Hid (∀ k, k < N → k < n ∨ k < n' + up) := fun k hk => by omega
  have HL := Lib.hid (hL.more hB)
  have HM := Lib.hid (hM.more hB')
  have PF := Lib.hid pf
  have PG := Lib.hid pg
  rw [EP.out]
  clear hL hM hN pf pg hB hB'
  go_enter Tryd.func8, Tryd.ntmps8
  go_wp2
  go_loopw [9, 10] (fun v i wr => ∃ (k : Nat) (A2 : Option Addr) (c2 : Nat), k ≤ N ∧ i = .int .i64 k ∧ v = .slice A2 k c2 ∧ Hid (Own wr w.heap.size A2 k c2 (plp f g t up k)) ∧ Below w.heap.size w wr) (fun _ i _ => N - (intOf i).toNat)
  case atStart => exact ⟨0, none, 0, Nat.zero_le _, rfl, rfl, Own.nil _ _, Below.refl _ _⟩
  case round =>
    obtain ⟨k, A2, c2, hk, rfl, rfl, ho, hbr⟩ := hrel
    by_cases hlt : k < N
    · have h9 : k < n ∨ (¬ k < n ∧ (k : Int) < (n' : Int) + (up : Int)) := by
        rcases HN.out k hlt with h | h
        · exact .inl h
        · by_cases h' : k < n
          · exact .inl h'
          · exact .inr ⟨h', by omega⟩
      have HG := Lib.hid (plp_succ f g t up k)
      have b1 := PF.out k
      have ef : (if (k : Int) < 0 then (0 : Int) else nth f (k : Int).toNat) = nth f k := by rw [if_neg (by omega), Int.toNat_natCast]
      have eg : (if (k : Int) - (up : Int) < 0 then (0 : Int) else nth g ((k : Int) - (up : Int)).toNat) = sh up (nth g) k := by
        unfold sh
        by_cases h : k < up
        · rw [if_pos (by omega), if_pos h]
        · rw [if_neg (by omega), if_neg h]; congr 1; omega
      have b2 : 0 ≤ sh up (nth g) k ∧ sh up (nth g) k < 9973 := by
        unfold sh
        split
        · omega
        · exact PG.out _
      obtain ⟨x, hx⟩ : ∃ x, x = nth f k := ⟨_, rfl⟩
      obtain ⟨y, hy⟩ : ∃ y, y = sh up (nth g) k := ⟨_, rfl⟩
      have C1 : Hid (Calls Tryd.prog 30 #[.slice A n c, .int .i64 k] wr fun e w' => e = .returned (.int .i64 x) ∧ wr = w') := by
        rw [Hid, hx, ← ef]; exact c_Rfactor A n c f k _ wr (HL.out.below hbr)
      have C2 : Hid (Calls Tryd.prog 30 #[.slice A' n' c', .int .i64 ((k : Int) - (up : Int))] wr fun e w' => e = .returned (.int .i64 y) ∧ wr = w') := by
        rw [Hid, hy, ← eg]; exact c_Rfactor A' n' c' g _ _ wr (HM.out.below hbr)
      rw [← hx] at b1 HG
      rw [← hy] at b2 HG
      clear hx hy ef eg
      have hsz := hbr.size
      have bm := mul_bnd (x := t) (y := y) (X := 9973) (Y := 9973) ⟨by omega, by omega⟩ ⟨by omega, by omega⟩ (by omega) (by omega)
      rcases h9 with h9 | ⟨h9, h8⟩
      all_goals
        go_wp2_with fail
        refine C1.out.mono ?_
        rintro e w' ⟨rfl, rfl⟩
        go_wp2_with fail
        refine C2.out.mono ?_
        rintro e w' ⟨rfl, rfl⟩
        go_wp2_with fail
        refine (c_RMod _ _ (by omega) (by omega)).mono ?_
        rintro e w' ⟨rfl, rfl⟩
        go_wp2_with (at_builtin; refine wp_push rfl (.tmp 25) (.tmp 38) rfl w.heap.size rfl rfl ho.out (by omega) hsz ?_)
        intro A6 c6 w4 hown4 hb4
        have HB4 : Hid (Below w.heap.size w w4) := hbr.trans hb4
        have HO4 : Hid (Own w4 w.heap.size A6 (k + 1) c6 (plp f g t up (k + 1))) := by rw [Hid, ← HG.out]; exact hown4
        clear hown4 hb4
        go_wp2
        go_roundw
        case rel => exact ⟨k + 1, A6, c6, by omega, by go_num, rfl, HO4, HB4.out⟩
        case measure => simp [intOf]; omega
    · obtain rfl : k = N := by omega
      have nc := ho.out.nilcap
      have h8 : ¬ k < n := by omega
      have h9 : ¬ (k : Int) < (n' : Int) + (up : Int) := by omega
      go_wp2_with fail
      refine (c_RTrim _ _ _ _ _ _ ho.out.rd ⟨nc.1, nc.2.1⟩).mono ?_
      rintro e w' ⟨rfl, rfl⟩
      go_wp2
      go_ret
      refine ⟨A2, c2, rfl, ?_, hbr⟩
      have e1 : (plp f g t up k).take (trm (plp f g t up k)).length = trm (plp f g t up k) := by rw [trm_len]; rfl
      have h1 := trm_le (plp f g t up k)
      rw [plp_len] at h1
      have := ho.out.take _ h1
      rw [e1] at this
      exact this
theorem c_RPlus (A A' : Option Addr) (n n' c c' : Nat) (f g : List Int) (t : Int) (up : Nat) (B B' : Nat) (w : World) (hL : Rd w B A n f) (hM : Rd w B' A' n' g) (hB : B ≤ w.heap.size) (hB' : B' ≤ w.heap.size) (hn : n ≤ 100) (hn' : n' ≤ 100) (hu : up ≤ 100) (ht : 0 ≤ t ∧ t < 9973) (pf : PL f) (pg : PL g) :
    Calls Tryd.prog 8 #[.slice A n c, .slice A' n' c', .int .i64 t, .int .i64 up] w fun e w' => ∃ A2 c2, e = .returned (.slice A2 (plu f g t up).length c2) ∧ Own w' w.heap.size A2 (plu f g t up).length c2 (plu f g t up) ∧ Below w.heap.size w w' :=
  c_RPlusN A A' n n' c c' f g t up B B' w hL hM hB hB' hn hn' hu ⟨by omega, ht.2⟩ pf pg
/-- The product so far. -/
def ptm (f g : List Int) : Nat → List Int
  | 0 => []
  | k + 1 => plu (ptm f g k) g (nth f k) k
theorem ptm_pl (f g : List Int) : ∀ k, PL (ptm f g k)
  | 0 => pl_nil
  | _ + 1 => plu_pl _ _ _ _
theorem ptm_tr (f g : List Int) : ∀ k, Tr (ptm f g k)
  | 0 => tr_nil
  | _ + 1 => plu_tr _ _ _ _
theorem ptm_len (f g : List Int) (k : Nat) : (ptm f g k).length ≤ g.length + k := by
  induction k with
  | zero => exact Nat.zero_le _
  | succ k ih =>
    have := plu_len (ptm f g k) g (nth f k) k
    show (plu (ptm f g k) g (nth f k) k).length ≤ _
    omega
theorem ptm_nth (f g : List Int) (k j : Nat) : nth (ptm f g k) j = sm k (fun i => nth f i * sh i (nth g) j) % 9973 := by
  induction k with
  | zero => rfl
  | succ k ih =>
    show nth (plu (ptm f g k) g (nth f k) k) j = (sm k _ + _) % 9973
    rw [plu_nth, ih, Int.add_emod, Int.emod_emod, ← Int.add_emod]
theorem cv_sh (f g : List Int) (j : Nat) : cv (nth f) (nth g) j = sm f.length (fun i => nth f i * sh i (nth g) j) := by
  have h1 := sm_split (fun i => nth f i * sh i (nth g) j) f.length (j + 1)
  have h2 := sm_split (fun i => nth f i * sh i (nth g) j) (j + 1) f.length
  have z1 : sm (j + 1) (fun i => nth f (f.length + i) * sh (f.length + i) (nth g) j) = 0 := sm_zero _ fun i _ => by rw [sup_nth f (f.length + i) (by omega), Int.zero_mul]
  have z2 : sm f.length (fun i => nth f (j + 1 + i) * sh (j + 1 + i) (nth g) j) = 0 := sm_zero _ fun i _ => by
    unfold sh
    rw [if_pos (by omega), Int.mul_zero]
  have h3 : sm (j + 1) (fun i => nth f i * sh i (nth g) j) = cv (nth f) (nth g) j := sm_congr _ fun i hi => by
    show nth f i * sh i (nth g) j = nth f i * nth g (j - i)
    unfold sh
    rw [if_neg (by omega)]
  rw [Nat.add_comm (j + 1)] at h2
  rw [← h3]
  omega
theorem ptm_all (f g : List Int) : ptm f g f.length = pmul f g :=
  canon (ptm_tr _ _ _) (pmul_tr _ _) fun j => by rw [ptm_nth, pmul_nth, cv_sh]
set_option maxHeartbeats 2000000 in
theorem c_RTimes (A A' : Option Addr) (n n' c c' : Nat) (f g : List Int) (B B' : Nat) (w : World) (hL : Rd w B A n f) (hM : Rd w B' A' n' g) (hB : B ≤ w.heap.size) (hB' : B' ≤ w.heap.size) (hn : n ≤ 50) (hn' : n' ≤ 50) (pf : PL f) (pg : PL g) :
    Calls Tryd.prog 9 #[.slice A n c, .slice A' n' c'] w fun e w' => ∃ A2 c2, e = .returned (.slice A2 (pmul f g).length c2) ∧ Own w' w.heap.size A2 (pmul f g).length c2 (pmul f g) ∧ Below w.heap.size w w' := by
  have EP : Hid (pmul f g = ptm f g n) := by rw [Hid, ← hL.1, ptm_all]
  have HLN : Hid (∀ k, (ptm f g k).length ≤ n' + k) := fun k => by have := ptm_len f g k; rw [hM.1] at this; exact this
  have HL := Lib.hid (hL.more hB)
  have HM := Lib.hid (hM.more hB')
  have PF := Lib.hid pf
  have PG := Lib.hid pg
  have PT := Lib.hid (ptm_pl f g)
  have TT := Lib.hid (ptm_tr f g)
  rw [EP.out]
  clear hL hM pf pg hB hB'
  go_enter Tryd.func9, Tryd.ntmps9
  go_wp2
  go_loopw [5, 6] (fun v i wr => ∃ (k m : Nat) (A2 : Option Addr) (c2 : Nat), k ≤ n ∧ i = .int .i64 k ∧ v = .slice A2 m c2 ∧ Hid (m = (ptm f g k).length) ∧ Hid (Own wr w.heap.size A2 m c2 (ptm f g k)) ∧ Below w.heap.size w wr) (fun _ i _ => n - (intOf i).toNat)
  case atStart => exact ⟨0, 0, none, 0, Nat.zero_le _, rfl, rfl, rfl, Own.nil _ _, Below.refl _ _⟩
  case round =>
    obtain ⟨k, m, A2, c2, hk, rfl, rfl, hm, ho, hbr⟩ := hrel
    by_cases hlt : k < n
    · obtain ⟨b, off, rfl, hcc⟩ := (HL.out.below hbr).at_ hlt
      have bt := PF.out k
      have hs := hbr.size
      have hm1 : m ≤ 100 := by have := HLN.out k; rw [← hm.out] at this; omega
      have HS : Hid (ptm f g (k + 1) = plu (ptm f g k) g (nth f k) k) := rfl
      obtain ⟨x, hx⟩ : ∃ x, x = nth f k := ⟨_, rfl⟩
      rw [← hx] at hcc bt HS
      clear hx
      go_wp2_with fail
      refine (c_RPlus _ _ _ _ _ _ (ptm f g k) g x k _ _ _ ho.out.rd (HM.out.below hbr) (Nat.le_refl _) hs hm1 (by omega) (by omega) bt (PT.out k) PG.out).mono ?_
      rintro e w2 ⟨A3, c3, rfl, o, hb⟩
      rw [← HS.out] at o ⊢
      have O := Lib.hid (o.base_le hs)
      have HB := Lib.hid (hbr.trans (hb.mono hs))
      obtain ⟨m2, hm2⟩ : ∃ m2, m2 = (ptm f g (k + 1)).length := ⟨_, rfl⟩
      have HM2 := Lib.hid hm2
      rw [← hm2] at O ⊢
      clear hm2 o hb
      go_wp2
      go_roundw
      case rel => exact ⟨k + 1, m2, A3, c3, by omega, by go_num, rfl, HM2, O, HB.out⟩
      case measure => simp [intOf]; omega
    · obtain rfl : k = n := by omega
      have nc := ho.out.nilcap
      go_wp2_with fail
      refine (c_RTrim _ _ _ _ _ _ ho.out.rd ⟨nc.1, nc.2.1⟩).mono ?_
      rintro e w' ⟨rfl, rfl⟩
      rw [trm_id (TT.out k), ← hm.out]
      go_wp2
      go_ret
      exact ⟨A2, c2, by rw [← hm.out]; rfl, by rw [← hm.out]; exact ho.out, hbr⟩
end Go.Proofs.YtaidincogkfodaaDoor
