/- The walk of the statement TopGolden: the law returns true for all arguments. -/
import Derived.Test.YtpfbbalhhldghaaGold
import Derived.Deep.RegionWith
import Derived.Deep.RegionLaw
namespace Go.Proofs.Ytpfbbalhhldghaa
open Go.RowKit

theorem c_fibRow (A A' : Option Addr) (c c' : Nat) (w : World) (h1 : Rd w w.heap.size A 2 [1, 1]) (h2 : Rd w w.heap.size A' 2 [1, 1]) (hc : 2 ≤ c') :
    Calls Try.prog 21 #[.slice A 2 c, .slice A' 2 c', .int .i64 19] w fun e w' => ∃ A2 c2, e = .returned (.tuple #[.slice A2 19 c2, .nilIface]) ∧ Own w' w.heap.size A2 19 c2 fibL ∧ Below w.heap.size w w' := by
  have o1 : outB 19 0 1000 = false := outB_false (by omega) (by omega)
  have H1 := Lib.hid h1
  have H2 := Lib.hid h2
  clear h1 h2
  go_enter Try.func21, Try.ntmps21
  go_wp2_with fail
  refine (c_rcheck _ _ _ _ _ _ _ H1.out H2.out).mono ?_
  rintro e w' ⟨rfl, rfl⟩
  go_wp2_with (go_at_call 32; refine (c_Out _ _ _ _).mono ?_; rintro e w' ⟨rfl, rfl⟩)
  refine (c_fibrow _ _ _ _ _ H1.out H2.out hc).mono ?_
  rintro e w1 ⟨A2, c2, rfl, o, hb⟩
  have O := Lib.hid o
  clear o
  go_wp2
  go_ret2
  exact ⟨A2, c2, rfl, O.out, hb⟩
/-- So many ones. -/
def ones (k : Nat) : List Int := List.replicate k 1
theorem ones_nth {m k : Nat} (h : k < m) : nth (ones m) k = 1 := by unfold nth ones; simp [List.getD, h]
theorem ones_succ (k : Nat) : ones k ++ [1] = ones (k + 1) := by unfold ones; exact List.replicate_succ'.symm
theorem fib_rec : ∀ k, k < 17 → nth fibL (k + 1) + nth fibL k = nth fibL (k + 2) := by decide
theorem ones_cv (m k : Nat) (h : k + 1 ≤ m) (h' : k + 1 < 19) : cp (ones m) (k + 1) = nth fibL (k + 1) ∧ cp' (ones m) (k + 1) = nth fibL k ∧ cq (ones m) (k + 1) = nth fibL k ∧ (cq' (ones m) (k + 1) = if k = 0 then 0 else nth fibL (k - 1)) := by
  induction k with
  | zero =>
    rw [cp_succ, cp'_succ, cq_succ, cq'_succ, cp_zero, cp'_zero, cq_zero, cq'_zero, ones_nth (by omega)]
    decide
  | succ k ih =>
    obtain ⟨i1, i2, i3, i4⟩ := ih (by omega) (by omega)
    have r := fib_rec k (by omega)
    rw [cp_succ _ (k + 1), cp'_succ _ (k + 1), cq_succ _ (k + 1), cq'_succ _ (k + 1), i1, i2, i3, i4, ones_nth (m := m) (k := k + 1) (by omega)]
    refine ⟨?_, rfl, ?_, (if_neg (Nat.succ_ne_zero k)).symm⟩
    · show _ = nth fibL (k + 2)
      omega
    · by_cases h0 : k = 0
      · subst h0; decide
      · rw [if_neg h0]
        have r2 := fib_rec (k - 1) (by omega)
        rw [show k - 1 + 1 = k by omega, show k - 1 + 2 = k + 1 by omega] at r2
        omega
theorem ones_ok {m : Nat} (h1 : 1 ≤ m) (h2 : m ≤ 18) : TOk (ones m) ∧ CfAll (ones m) m := by
  have hl : (ones m).length = m := by simp [ones]
  refine ⟨⟨by omega, by omega, by rw [ones_nth (by omega)]; omega, fun k a b => by rw [ones_nth (by omega)]; omega⟩, fun j a b => ?_⟩
  obtain ⟨k, rfl⟩ : ∃ k, j = k + 1 := ⟨j - 1, by omega⟩
  obtain ⟨i1, _, i3, _⟩ := ones_cv m k (by omega) (by omega)
  have e1 := fibL_bd (k + 1) (by omega)
  have e2 := fibL_bd k (by omega)
  rw [i1, i3]; omega
theorem gold_steps : ∀ n, n < 18 → 2 ≤ n → st (max (nth fibL (n + 1)).toNat (nth fibL n).toNat) (min (nth fibL (n + 1)).toNat (nth fibL n).toNat) = n := by decide +kernel
set_option maxHeartbeats 4000000 in
set_option maxRecDepth 100000 in
theorem golden_all (n : Int) (w : World) :
    Calls Try.prog 9 #[.int .i64 n] w fun e w' => e = .returned (.bool true) ∧ Below w.heap.size w w' := by
  have r1 : Rd ((w.alloc (.cells #[.int .i64 1, .int .i64 1] 3)).alloc (.cells #[.int .i64 1, .int .i64 1] 3)) (w.heap.size + 2) (some ⟨w.heap.size, 0, none⟩) 2 [1, 1] :=
    ((rd_two' w 1 1 _).alloc (by simp) _).more (by omega)
  have r2 : Rd ((w.alloc (.cells #[.int .i64 1, .int .i64 1] 3)).alloc (.cells #[.int .i64 1, .int .i64 1] 3)) (w.heap.size + 2) (some ⟨w.heap.size + 1, 0, none⟩) 2 [1, 1] := by
    have := rd_two' (w.alloc (.cells #[.int .i64 1, .int .i64 1] 3)) 1 1 3
    simpa using this
  have R1 : Hid (Rd ((w.alloc (.cells #[.int .i64 1, .int .i64 1] 3)).alloc (.cells #[.int .i64 1, .int .i64 1] 3)) ((w.alloc (.cells #[.int .i64 1, .int .i64 1] 3)).alloc (.cells #[.int .i64 1, .int .i64 1] 3)).heap.size (some ⟨w.heap.size, 0, none⟩) 2 [1, 1]) := r1.more (by simp)
  have R2 : Hid (Rd ((w.alloc (.cells #[.int .i64 1, .int .i64 1] 3)).alloc (.cells #[.int .i64 1, .int .i64 1] 3)) ((w.alloc (.cells #[.int .i64 1, .int .i64 1] 3)).alloc (.cells #[.int .i64 1, .int .i64 1] 3)).heap.size (some ⟨w.heap.size + 1, 0, none⟩) 2 [1, 1]) := r2.more (by simp)
  have HB : Hid (Below w.heap.size w ((w.alloc (.cells #[.int .i64 1, .int .i64 1] 3)).alloc (.cells #[.int .i64 1, .int .i64 1] 3))) := by rw [Hid]; go_grown
  clear r1 r2
  go_enter Try.func9, Try.ntmps9
  go_wp2_with fail
  refine (c_fibRow _ _ _ _ _ R1.out R2.out (Nat.le_refl _)).mono ?_
  rintro e w1 ⟨A2, c2, rfl, o1, hb1⟩
  have B1 := Lib.hid (HB.out.trans (hb1.mono HB.out.size))
  obtain ⟨g, rfl, hg1, hg2⟩ := o1.form (by omega)
  have O1 := Lib.hid o1
  have x18 := o1.cell (j := 18) (by omega)
  rw [show nth fibL 18 = 4181 from rfl] at x18
  clear o1 hb1 R1 R2 HB
  by_cases hn : 2 ≤ n ∧ n ≤ 17
  · have i1 : inB n 2 17 = true := by unfold inB; simp [hn]
    obtain ⟨m, rfl⟩ : ∃ m : Nat, n = m := ⟨n.toNat, by omega⟩
    have hm2 : 2 ≤ m := by omega
    have hm17 : m ≤ 17 := by omega
    obtain ⟨x, hx⟩ : ∃ x : Nat, (x : Int) = nth fibL (m + 1) := ⟨(nth fibL (m + 1)).toNat, by have := fibL_bd (m + 1) (by omega); omega⟩
    obtain ⟨y, hy⟩ : ∃ y : Nat, (y : Int) = nth fibL m := ⟨(nth fibL m).toNat, by have := fibL_bd m (by omega); omega⟩
    have c1 := O1.out.cell (j := m + 1) (by omega)
    have cy := O1.out.cell (j := m) (by omega)
    rw [← hx] at c1
    rw [← hy] at cy
    have hxb : x ≤ 1000000 := by have := fibL_bd (m + 1) (by omega); omega
    have hyb : y ≤ 1000000 := by have := fibL_bd m (by omega); omega
    have hst : Hid (st (max x y) (min x y) = m) := by
      have := gold_steps m (by omega) hm2
      rw [← hx, ← hy] at this
      exact this
    have HX := Lib.hid hx
    have HY := Lib.hid hy
    have e1 : IntKind.i64.wrap ((m : Int) + 1) = (m : Int) + 1 := IntWalk.i64_in _ (by omega)
    have e2 : (m : Int) + 1 < 19 := by omega
    have e3 : (m : Int) < 19 := by omega
    have e4 : (0 : Int) ≤ (m : Int) + 1 := by omega
    clear hx hy hn
    go_wp2_with (go_at_call 22; refine (c_Tin _ _ _ _).mono ?_; rintro e w' ⟨rfl, rfl⟩)
    go_region_law (go_simp; go_at_call 13; refine (c_Steps_ok x y _ hxb hyb).mono ?_; rintro e w5 ⟨rfl, hb5⟩)
    all_goals
      have hb5' : Below w1.heap.size w1 w5 := ((Below.refl _ w1).drew).trans hb5
      have B5 := Lib.hid (B1.out.trans (hb5'.mono B1.out.size))
      have O5 := Lib.hid (O1.out.keep hb5')
      rw [hst.out]
      have hs5 := hb5'.size
      clear hb5 hb5' c1 cy x18
      go_wp2
      go_loopw [7, 8] (fun o i wr => ∃ (k : Nat) (A' : Option Addr) (c' : Nat), k ≤ m + 1 ∧ i = .int .i64 k ∧ o = .slice A' k c' ∧ Hid (Own wr w5.heap.size A' k c' (ones k)) ∧ Below w5.heap.size w5 wr) (fun _ i _ => m + 1 - (intOf i).toNat)
      case atStart => exact ⟨0, none, 0, Nat.zero_le _, rfl, rfl, Own.nil _ _, Below.refl _ _⟩
      case round =>
        obtain ⟨k, A', c', hk, rfl, rfl, ho, hbr⟩ := hrel
        by_cases hlt : k ≤ m
        · have HS := Lib.hid (ones_succ k)
          have hsz := hbr.size
          go_wp2_with (at_builtin; refine wp_push rfl (.tmp 57) (.tmp 58) rfl w5.heap.size rfl rfl ho.out (by omega) hsz ?_)
          intro A6 c6 w6 o6 hb6
          have O6 : Hid (Own w6 w5.heap.size A6 (k + 1) c6 (ones (k + 1))) := by rw [Hid, ← HS.out]; exact o6
          have B6 := Lib.hid (hbr.trans hb6)
          clear o6 hb6
          go_wp2
          go_roundw
          case rel => exact ⟨k + 1, A6, c6, by omega, by go_num, rfl, O6.out, B6.out⟩
          case measure => simp [intOf]; omega
        · obtain rfl : k = m + 1 := by omega
          obtain ⟨t1, t2⟩ := ones_ok (m := m + 1) (by omega) (by omega)
          obtain ⟨v1, _, v3, _⟩ := ones_cv (m + 1) m (Nat.le_refl _) (by omega)
          rw [← HX.out] at v1
          rw [← HY.out] at v3
          have T1 := Lib.hid t1
          have T2 := Lib.hid t2
          have V1 := Lib.hid v1
          have V3 := Lib.hid v3
          have hcc : m + 1 ≤ c' ∧ c' ≤ 9223372036854775807 := by
            rcases ho.out.2.2 with ⟨_, h0⟩ | ⟨_, _, _, hv, _, _, h0, h1, _⟩
            · omega
            · injection hv with _ _ hcap
              unfold maxLen at h1
              omega
          clear t1 t2 v1 v3 hlt
          go_wp2_with fail
          refine (c_Near_ok _ (m + 1) _ (ones (m + 1)) _ ho.out.rd hcc T1.out).mono ?_
          rintro e w7 ⟨⟨_, A7, c7, rfl, o7⟩ | ⟨hC, rfl⟩, hb7⟩
          · obtain ⟨b7, off7, rfl, p1, p2⟩ := o7.rd.at_ (k := m) (by omega)
            rw [cfs_nf _ (Nat.lt_succ_self m)] at p1 p2
            have p1' : w7.cell? ⟨b7, off7 + m * 2, none⟩ = some (.int .i64 x) := by rw [p1, ← V1.out]
            have p2' : w7.cell? ⟨b7, off7 + m * 2 + 1, none⟩ = some (.int .i64 y) := by rw [p2, ← V3.out]
            have hb57 : Below w5.heap.size w5 w7 := hbr.trans (hb7.mono hbr.size)
            have O7 := O5.out.keep hb57
            have l1 := O7.cell (j := m + 1) (by omega)
            have l2 := O7.cell (j := m) (by omega)
            rw [← HX.out] at l1
            rw [← HY.out] at l2
            have B7 := Lib.hid (B5.out.trans (hb57.mono B5.out.size))
            clear p1 p2 o7 hb7 hb57 O7
            go_wp2
            go_quiet (fail)
            go_wp2
            go_ret
            exact ⟨rfl, below_drewN B7.out _⟩
          · exact absurd T2.out hC
  · have i1 : inB n 2 17 = false := by
      cases e : inB n 2 17
      · rfl
      · unfold inB at e; simp at e; exact absurd e hn
    go_wp2_with (go_at_call 22; refine (c_Tin _ _ _ _).mono ?_; rintro e w' ⟨rfl, rfl⟩)
    go_ret
    exact ⟨rfl, B1.out⟩
theorem frame_TopGolden (n : Int) (w : World) (_ : Fits n) :
    Calls Try.prog 9 #[.int .i64 n] w fun e w' => e = .returned (.bool true) ∧ Below w.heap.size w w' := golden_all n w
end Go.Proofs.Ytpfbbalhhldghaa
