/- The walk of the statement IpolThrough: the law returns true for all arguments. -/
import Derived.Test.YtaidincogkfodaaIpolE
import Derived.Test.YtaidincogkfodaaViewZ
namespace Go.Proofs.Ytaidincogkfodaa
open Go.RowKit

/-- The values so far. -/
def wor (f xs : List Int) (k : Nat) : List Int := mk k fun i => pat f (nth xs i)
theorem wor_succ (f xs : List Int) (k : Nat) : wor f xs k ++ [pat f (nth xs k)] = wor f xs (k + 1) := by
  unfold wor mk
  rw [List.range_succ, List.map_append]
  rfl
theorem wor_iok {xs ys : List Int} (f : List Int) (h : IOk xs ys) : IOk xs (wor f xs xs.length) :=
  ⟨h.1, mk_len _ _, h.2.2.1, pl_mk fun _ _ => pat_bd _ _, h.2.2.2.2⟩
theorem thr_wor {xs ys f : List Int} (h : IOk xs ys) (pf : PL f) (hl : f.length ≤ xs.length) : thr xs (wor f xs xs.length) = trm f :=
  thr_uniq (wor_iok f h) pf hl fun i hi => by unfold wor; rw [mk_nth' _ hi]
section
variable (A A' A3 : Option Addr) (n n' n3 c c' c3 : Nat) (xs ys f : List Int) (w : World)
theorem ithr_bad (hL : Rd w w.heap.size A n xs) (hM : Rd w w.heap.size A' n' ys) (hc : n ≤ c) (h : ¬ IOk xs ys) :
    Calls Try.prog 9 #[.slice A n c, .slice A' n' c', .slice A3 n3 c3] w fun e w' => e = .returned (.bool true) ∧ Below w.heap.size w w' := by
  have H := Lib.hid h
  clear h
  go_enter Try.func9, Try.ntmps9
  go_wp2_with fail
  refine (c_ipolFact _).mono ?_
  rintro e w1 ⟨rfl, hb1⟩
  go_wp2_with fail
  refine (c_IThrough_bad _ _ _ _ _ _ xs ys _ _ _ (hL.below hb1) (hM.below hb1) hc H.out).mono ?_
  rintro e w' ⟨rfl, rfl⟩
  go_wp2
  go_ret
  exact ⟨rfl, hb1⟩
set_option maxHeartbeats 4000000 in
set_option maxRecDepth 100000 in
theorem ithr_ok (hL : Rd w w.heap.size A n xs) (hM : Rd w w.heap.size A' n' ys) (hK : Rd w w.heap.size A3 n3 f) (hc : n ≤ c) (hc' : n' ≤ c') (hz : A' = none → c' = 0) (hc3 : n3 ≤ c3 ∧ c3 ≤ 9223372036854775807) (h : IOk xs ys) :
    Calls Try.prog 9 #[.slice A n c, .slice A' n' c', .slice A3 n3 c3] w fun e w' => e = .returned (.bool true) ∧ Below w.heap.size w w' := by
  have hn6 := h.1
  have e2 := h.2.1
  rw [hL.1] at hn6 e2
  rw [hM.1] at e2
  subst e2
  have PX := Lib.hid h.2.2.1
  have PY := Lib.hid h.2.2.2.1
  have HV : Hid (∀ i, i < n' → pat (thr xs ys) (nth xs i) = nth ys i) := by rw [Hid, ← hL.1]; exact fun i hi => thr_pat h hi
  have HO : Hid (IOk xs (wor f xs n')) := by rw [Hid, ← hL.1]; exact wor_iok f h
  have HW : Hid (PL f → f.length ≤ n' → thr xs (wor f xs n') = trm f) := by rw [Hid, ← hL.1]; exact thr_wor h
  have P1 := Lib.hid (thr_pok h)
  have L0 := thr_len xs ys
  rw [hL.1] at L0
  have LX := Lib.hid hL.1
  have LF := Lib.hid hK.1
  have HL := Lib.hid hL
  have HM := Lib.hid hM
  have HK := Lib.hid hK
  have H := Lib.hid h
  have HZ := Lib.hid hz
  have HC3 := Lib.hid hc3
  clear h hz hL hM hK hc3
  go_enter Try.func9, Try.ntmps9
  go_wp2_with fail
  refine (c_ipolFact _).mono ?_
  rintro e w1 ⟨rfl, hb1⟩
  go_wp2_with fail
  refine (c_ITh _ _ _ _ _ _ xs ys _ ((HL.out.below hb1).more hb1.size) ((HM.out.below hb1).more hb1.size) hc hc' HZ.out H.out).mono ?_
  rintro e w2 ⟨A4, c4, rfl, o, hb⟩
  have Oa := Lib.hid o
  have hb2 := hb1.trans (hb.mono hb1.size)
  clear o hb hb1
  obtain ⟨la, hla⟩ : ∃ l, l = (thr xs ys).length := ⟨_, rfl⟩
  rw [← hla] at Oa L0 ⊢
  clear hla
  have HL2 := Lib.hid (HL.out.below hb2)
  have HM2 := Lib.hid (HM.out.below hb2)
  have HK2 := Lib.hid (HK.out.below hb2)
  have L9 : decide (n' < la) = false := by simp; omega
  go_wp2
  try simp only [L9]
  go_loop [10] (fun u => ∃ i : Nat, i ≤ n' ∧ u = .int .i64 i) (fun u => n' - (intOf u).toNat)
  case atStart => exact ⟨0, Nat.zero_le _, rfl⟩
  case round =>
    obtain ⟨i, hi, rfl⟩ := hrel
    by_cases hlt : i < n'
    · obtain ⟨b, off, rfl, hcc⟩ := HL2.out.at_ hlt
      obtain ⟨b', off', rfl, hcc'⟩ := HM2.out.at_ hlt
      have bx := PX.out i
      have hv := Lib.hid (HV.out i hlt)
      obtain ⟨x, hx⟩ : ∃ x, x = nth xs i := ⟨_, rfl⟩
      obtain ⟨y, hy⟩ : ∃ y, y = nth ys i := ⟨_, rfl⟩
      rw [← hx] at hcc bx hv
      rw [← hy] at hcc' hv
      clear hx hy
      go_wp2_with fail
      refine (c_PAt_ok _ _ _ (thr xs ys) x _ _ Oa.out.rd P1.out ⟨bx.1, by omega⟩).mono ?_
      rintro e w' ⟨rfl, rfl⟩
      rw [hv.out]
      go_wp2
      go_round
      case rel => exact ⟨i + 1, by omega, by go_num⟩
      case measure => simp [intOf]; omega
    · by_cases hf : n3 ≤ n'
      · by_cases hp : POk f
        · have HP := Lib.hid hp
          have f0 : Hid (factE f = 0) := factE_ok hp
          have HT : Hid (thr xs (wor f xs n') = trm f) := HW.out hp.2 (by rw [LF.out]; exact hf)
          clear hp HW
          go_wp2_with fail
          refine (c_RFactors _ _ _ f _ _ HK2.out (by have := HC3.out; omega)).mono ?_
          rintro e w' ⟨rfl, rfl⟩
          rw [f0.out]
          have L8 : decide (n' < n3) = false := by simp; omega
          go_wp2
          try simp only [L8]
          go_loopw [13, 14] (fun v i wr => ∃ (k : Nat) (A' : Option Addr) (c' : Nat), k ≤ n' ∧ i = .int .i64 k ∧ v = .slice A' k c' ∧ Hid (Own wr w2.heap.size A' k c' (wor f xs k)) ∧ Below w2.heap.size w2 wr) (fun _ i _ => n' - (intOf i).toNat)
          case atStart => exact ⟨0, none, 0, Nat.zero_le _, rfl, rfl, Own.nil _ _, Below.refl _ _⟩
          case round =>
            obtain ⟨k, A', c', hk, rfl, rfl, ho, hbr⟩ := hrel
            have hwr := hb2.trans (hbr.mono hb2.size)
            by_cases hlt2 : k < n'
            · obtain ⟨b, off, rfl, hcc⟩ := (HL.out.below hwr).at_ hlt2
              have bx := PX.out k
              have HG := Lib.hid (wor_succ f xs k)
              obtain ⟨x, hx⟩ : ∃ x, x = nth xs k := ⟨_, rfl⟩
              rw [← hx] at hcc bx HG
              clear hx
              have hsz := hbr.size
              obtain ⟨y, hy⟩ : ∃ y, y = pat f x := ⟨_, rfl⟩
              have HY := Lib.hid hy.symm
              rw [← hy] at HG
              clear hy
              go_wp2_with fail
              refine (c_PAt_ok _ _ _ f x _ _ (HK.out.below hwr) HP.out ⟨bx.1, by omega⟩).mono ?_
              rintro e w' ⟨rfl, rfl⟩
              rw [HY.out]
              go_wp2_with (at_builtin; refine wp_push rfl (.tmp 89) (.tmp 91) rfl w2.heap.size rfl rfl ho.out (by omega) hsz ?_)
              intro A6 c6 w4 hown4 hb4
              have HB4 : Hid (Below w2.heap.size w2 w4) := hbr.trans hb4
              have HO4 : Hid (Own w4 w2.heap.size A6 (k + 1) c6 (wor f xs (k + 1))) := by rw [Hid, ← HG.out]; exact hown4
              clear hown4 hb4
              go_wp2
              go_roundw
              case rel => exact ⟨k + 1, A6, c6, by omega, by go_num, rfl, HO4, HB4.out⟩
              case measure => simp [intOf]; omega
            · obtain rfl : k = n' := by omega
              have nc := ho.out.nilcap
              have NC := Lib.hid nc.2.2
              have nc1 := nc.1
              have L1 := thr_len xs (wor f xs k)
              rw [LX.out] at L1
              clear nc
              go_wp2_with fail
              refine (c_ITh _ _ _ _ _ _ xs (wor f xs k) _ ((HL.out.below hwr).more hwr.size) (ho.out.rd) hc nc1 NC.out HO.out).mono ?_
              rintro e w5 ⟨A7, c7, rfl, o, hb⟩
              have Oc := Lib.hid o
              have hb5 := hwr.trans (hb.mono hwr.size)
              clear o hb
              rw [HT.out] at Oc L1 ⊢
              go_wp2_with fail
              refine (c_RTrim _ _ _ f _ _ (HK.out.below hb5) HC3.out).mono ?_
              rintro e w' ⟨rfl, rfl⟩
              obtain ⟨lc, hlc⟩ : ∃ l, l = (trm f).length := ⟨_, rfl⟩
              have RT := Lib.hid (rd_trm (HK.out.below hb5))
              rw [← hlc] at Oc L1 RT ⊢
              clear hlc
              go_wp2_with fail
              refine (c_sameP _ _ _ _ _ _ _ _ _ _ _ rfl Oc.out.rd RT.out (by omega)).mono ?_
              rintro e w7 ⟨rfl, hb⟩
              have hb7 := hb5.trans (hb.mono hb5.size)
              clear hb
              go_wp2
              go_ret
              exact ⟨rfl, hb7⟩
        · have f0 := (factE_bad hp).2
          have f1 : (factE f != 0) = true := by simp [f0]
          clear f0 hp
          go_wp2_with fail
          refine (c_RFactors _ _ _ f _ _ HK2.out (by have := HC3.out; omega)).mono ?_
          rintro e w' ⟨rfl, rfl⟩
          go_wp2
          go_ret
          exact ⟨rfl, hb2⟩
      · have hf' : n' < n3 := by omega
        go_wp2
        go_ret
        exact ⟨rfl, hb2⟩
end
theorem frame_IpolThrough (A : Option Addr) (n c : Nat) (xs : List Int) (A' : Option Addr) (n' c' : Nat) (ys : List Int) (A3 : Option Addr) (n3 c3 : Nat) (zs : List Int) (w : World)
    (hL : Rd w w.heap.size A n xs) (hc : n ≤ c ∧ c ≤ 9223372036854775807 ∧ (A = none → c = 0)) (_ : ∀ x ∈ xs, Fits x) (hM : Rd w w.heap.size A' n' ys) (hc' : n' ≤ c' ∧ c' ≤ 9223372036854775807 ∧ (A' = none → c' = 0)) (_ : ∀ x ∈ ys, Fits x) (hK : Rd w w.heap.size A3 n3 zs) (hc3 : n3 ≤ c3 ∧ c3 ≤ 9223372036854775807 ∧ (A3 = none → c3 = 0)) (_ : ∀ x ∈ zs, Fits x) :
    Calls Try.prog 9 #[.slice A n c, .slice A' n' c', .slice A3 n3 c3] w fun e w' => e = .returned (.bool true) ∧ Below w.heap.size w w' := by
  by_cases h1 : IOk xs ys
  · exact ithr_ok A A' A3 n n' n3 c c' c3 xs ys zs w hL hM hK hc.1 hc'.1 hc'.2.2 ⟨hc3.1, hc3.2.1⟩ h1
  · exact ithr_bad A A' A3 n n' n3 c c' c3 xs ys w hL hM hc.1 h1
end Go.Proofs.Ytaidincogkfodaa
