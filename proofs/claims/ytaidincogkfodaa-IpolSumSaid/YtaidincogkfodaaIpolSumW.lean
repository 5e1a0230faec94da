/- The walk of the statement IpolSum: the law returns true for all arguments. -/
import Derived.Test.YtaidincogkfodaaIpolE
import Derived.Test.YtaidincogkfodaaRef
import Derived.Test.YtaidincogkfodaaViewZ
import Derived.Deep.RegionLaw
namespace Go.Proofs.Ytaidincogkfodaa
open Go.RowKit

/-- The sums so far. -/
def grp (M K : List Int) (k : Nat) : List Int := mk k fun i => (nth M i + nth K i) % 9973
theorem grp_succ (M K : List Int) (k : Nat) : grp M K k ++ [(nth M k + nth K k) % 9973] = grp M K (k + 1) := by
  unfold grp mk
  rw [List.range_succ, List.map_append]
  rfl
theorem grp_len (M K : List Int) (k : Nat) : (grp M K k).length = k := mk_len _ _
theorem grp_iok {xs ys : List Int} (zs : List Int) (h : IOk xs ys) : IOk xs (grp ys zs xs.length) :=
  ⟨h.1, grp_len _ _ _, h.2.2.1, pl_mk fun _ _ => emod_pl _, h.2.2.2.2⟩
theorem thr_sum {xs ys zs : List Int} (h : IOk xs ys) (h' : IOk xs zs) : thr xs (grp ys zs xs.length) = padd (thr xs ys) (thr xs zs) := by
  rw [thr_uniq (P := padd (thr xs ys) (thr xs zs)) (grp_iok zs h) (padd_pl _ _) (by have := padd_len (thr xs ys) (thr xs zs); have := thr_len xs ys; have := thr_len xs zs; omega) fun i hi => ?_, trm_id (padd_tr _ _)]
  rw [pat_add, thr_pat h hi, thr_pat h' hi]
  unfold grp
  rw [mk_nth' _ hi]
section
variable (A A' A3 : Option Addr) (n n' n3 c c' c3 : Nat) (xs ys zs : List Int) (w : World)
theorem isum_bad (hL : Rd w w.heap.size A n xs) (hM : Rd w w.heap.size A' n' ys) (hK : Rd w w.heap.size A3 n3 zs) (hc : n ≤ c) (hc3 : n3 ≤ c3) (hz3 : A3 = none → c3 = 0) (h : ¬ IOk xs ys) :
    Calls Try.prog 10 #[.slice A n c, .slice A' n' c', .slice A3 n3 c3] w fun e w' => e = .returned (.bool true) ∧ Below w.heap.size w w' := by
  have H := Lib.hid h
  have HZ := Lib.hid hz3
  clear h hz3
  by_cases h' : IOk xs zs
  · have H' := Lib.hid h'
    clear h'
    go_enter Try.func10, Try.ntmps10
    go_wp2_with fail
    refine (c_ipolFact _).mono ?_
    rintro e w1 ⟨rfl, hb1⟩
    go_wp2_with fail
    refine (c_IThrough_bad _ _ _ _ _ _ xs ys _ _ _ (hL.below hb1) (hM.below hb1) hc H.out).mono ?_
    rintro e w' ⟨rfl, rfl⟩
    go_wp2_with fail
    refine (c_ITh _ _ _ _ _ _ xs zs _ ((hL.below hb1).more hb1.size) ((hK.below hb1).more hb1.size) hc hc3 HZ.out H'.out).mono ?_
    rintro e w3 ⟨A4, c4, rfl, _, hb3⟩
    go_wp2
    go_ret
    exact ⟨rfl, hb1.trans (hb3.mono hb1.size)⟩
  · have H' := Lib.hid h'
    clear h'
    go_enter Try.func10, Try.ntmps10
    go_wp2_with fail
    refine (c_ipolFact _).mono ?_
    rintro e w1 ⟨rfl, hb1⟩
    go_wp2_with fail
    refine (c_IThrough_bad _ _ _ _ _ _ xs ys _ _ _ (hL.below hb1) (hM.below hb1) hc H.out).mono ?_
    rintro e w' ⟨rfl, rfl⟩
    go_wp2_with fail
    refine (c_IThrough_bad _ _ _ _ _ _ xs zs _ _ _ (hL.below hb1) (hK.below hb1) hc H'.out).mono ?_
    rintro e w' ⟨rfl, rfl⟩
    go_wp2
    go_ret
    exact ⟨rfl, hb1⟩
theorem isum_half (hL : Rd w w.heap.size A n xs) (hM : Rd w w.heap.size A' n' ys) (hK : Rd w w.heap.size A3 n3 zs) (hc : n ≤ c) (hc' : n' ≤ c') (hz : A' = none → c' = 0) (h : IOk xs ys) (h' : ¬ IOk xs zs) :
    Calls Try.prog 10 #[.slice A n c, .slice A' n' c', .slice A3 n3 c3] w fun e w' => e = .returned (.bool true) ∧ Below w.heap.size w w' := by
  have H := Lib.hid h
  have H' := Lib.hid h'
  have HZ := Lib.hid hz
  clear h h' hz
  go_enter Try.func10, Try.ntmps10
  go_wp2_with fail
  refine (c_ipolFact _).mono ?_
  rintro e w1 ⟨rfl, hb1⟩
  go_wp2_with fail
  refine (c_ITh _ _ _ _ _ _ xs ys _ ((hL.below hb1).more hb1.size) ((hM.below hb1).more hb1.size) hc hc' HZ.out H.out).mono ?_
  rintro e w2 ⟨A4, c4, rfl, _, hb⟩
  have hb2 := hb1.trans (hb.mono hb1.size)
  go_wp2_with fail
  refine (c_IThrough_bad _ _ _ _ _ _ xs zs _ _ _ (hL.below hb2) (hK.below hb2) hc H'.out).mono ?_
  rintro e w' ⟨rfl, rfl⟩
  go_wp2
  go_ret
  exact ⟨rfl, hb2⟩
set_option maxHeartbeats 4000000 in
theorem isum_ok (hL : Rd w w.heap.size A n xs) (hM : Rd w w.heap.size A' n' ys) (hK : Rd w w.heap.size A3 n3 zs) (hc : n ≤ c) (hc' : n' ≤ c') (hz : A' = none → c' = 0) (hc3 : n3 ≤ c3) (hz3 : A3 = none → c3 = 0) (h : IOk xs ys) (h' : IOk xs zs) :
    Calls Try.prog 10 #[.slice A n c, .slice A' n' c', .slice A3 n3 c3] w fun e w' => e = .returned (.bool true) ∧ Below w.heap.size w w' := by
  have hn6 := h.1
  have e2 := h.2.1
  have e3 := h'.2.1
  rw [hL.1] at hn6 e2 e3
  rw [hM.1] at e2
  rw [hK.1] at e3
  subst e2; subst n3
  have PY := Lib.hid h.2.2.2.1
  have PZ := Lib.hid h'.2.2.2.1
  have HS : Hid (thr xs (grp ys zs n') = padd (thr xs ys) (thr xs zs)) := by rw [Hid, ← hL.1]; exact thr_sum h h'
  have HO : Hid (IOk xs (grp ys zs n')) := by rw [Hid, ← hL.1]; exact grp_iok zs h
  have P1 := Lib.hid (thr_pok h)
  have P2 := Lib.hid (thr_pok h')
  have L1 := Lib.hid (thr_len xs (grp ys zs n'))
  have LX := Lib.hid hL.1
  have HL := Lib.hid hL
  have HM := Lib.hid hM
  have HK := Lib.hid hK
  have H := Lib.hid h
  have H' := Lib.hid h'
  have HZ := Lib.hid hz
  have HZ3 := Lib.hid hz3
  clear h h' hz hz3 hL hM hK
  go_enter Try.func10, Try.ntmps10
  go_wp2_with fail
  refine (c_ipolFact _).mono ?_
  rintro e w1 ⟨rfl, hb1⟩
  go_wp2_with fail
  refine (c_ITh _ _ _ _ _ _ xs ys _ ((HL.out.below hb1).more hb1.size) ((HM.out.below hb1).more hb1.size) hc hc' HZ.out H.out).mono ?_
  rintro e w2 ⟨A4, c4, rfl, o, hb⟩
  have Oa := Lib.hid o
  have hb2 := hb1.trans (hb.mono hb1.size)
  clear o hb
  go_wp2_with fail
  refine (c_ITh _ _ _ _ _ _ xs zs _ ((HL.out.below hb2).more hb2.size) ((HK.out.below hb2).more hb2.size) hc hc3 HZ3.out H'.out).mono ?_
  rintro e w3 ⟨A5, c5, rfl, o, hb⟩
  have Ob := Lib.hid o
  have Oa3 := Lib.hid (Oa.out.keep hb)
  have hb3 := hb2.trans (hb.mono hb2.size)
  clear o hb Oa hb1 hb2
  obtain ⟨la, hla⟩ : ∃ l, l = (thr xs ys).length := ⟨_, rfl⟩
  obtain ⟨lb, hlb⟩ : ∃ l, l = (thr xs zs).length := ⟨_, rfl⟩
  rw [← hla] at Oa3 ⊢
  rw [← hlb] at Ob ⊢
  clear hla hlb
  go_wp2
  go_loopw [12, 13] (fun v i wr => ∃ (k : Nat) (A' : Option Addr) (c' : Nat), k ≤ n' ∧ i = .int .i64 k ∧ v = .slice A' k c' ∧ Hid (Own wr w3.heap.size A' k c' (grp ys zs k)) ∧ Below w3.heap.size w3 wr) (fun _ i _ => n' - (intOf i).toNat)
  case atStart => exact ⟨0, none, 0, Nat.zero_le _, rfl, rfl, Own.nil _ _, Below.refl _ _⟩
  case round =>
    obtain ⟨k, A', c', hk, rfl, rfl, ho, hbr⟩ := hrel
    have hwr := hb3.trans (hbr.mono hb3.size)
    by_cases hlt : k < n'
    · obtain ⟨b, off, rfl, hbB, hcc⟩ := (HM.out.below hwr).at' hlt
      obtain ⟨b', off', rfl, hbB', hcc'⟩ := (HK.out.below hwr).at' hlt
      have b1 := PY.out k
      have b2 := PZ.out k
      have HG := Lib.hid (grp_succ ys zs k)
      obtain ⟨x, hx⟩ : ∃ x, x = nth ys k := ⟨_, rfl⟩
      obtain ⟨y, hy⟩ : ∃ y, y = nth zs k := ⟨_, rfl⟩
      rw [← hx] at hcc b1 HG
      rw [← hy] at hcc' b2 HG
      clear hx hy
      have hsz := hbr.size
      have e1 : IntKind.i64.wrap (x + y) = x + y := IntWalk.i64_in _ (by omega)
      have q1 : Own (wr.alloc (.cells #[.int .i64 ((x + y) % 9973)] 3)).drew w3.heap.size A' k c' (grp ys zs k) := (ho.out.alloc _).drew
      have q2 : (wr.alloc (.cells #[.int .i64 ((x + y) % 9973)] 3)).drew.cell? ⟨wr.heap.size, 0, none⟩ = some (.int .i64 ((x + y) % 9973)) := by simp
      have q3 : w3.heap.size ≤ (wr.alloc (.cells #[.int .i64 ((x + y) % 9973)] 3)).drew.heap.size := by simp; omega
      have q4 : k ≤ 1000000 := by omega
      have Q2 := Lib.hid q2
      have Q3 := Lib.hid q3
      clear q2 q3
      go_wp2
      go_region_law (first | (refine step_push rfl (.tmp 50) (.tmp 61) rfl w3.heap.size (by rfl) (by rfl) q1 Q2.out q4 Q3.out ?_; intro A6 c6 w4 hown4 hb4) | (go_simp; go_at_call 19; refine (c_RMod _ _ (by omega) (by omega)).mono ?_; rintro e w' ⟨rfl, rfl⟩))
      all_goals
        have HB4 : Hid (Below w3.heap.size w3 w4) := hbr.trans ((((Below.refl _ wr).alloc hsz _).drew).trans hb4)
        have HO4 : Hid (Own w4 w3.heap.size A6 (k + 1) c6 (grp ys zs (k + 1))) := by rw [Hid, ← HG.out]; exact hown4
        clear hown4 hb4 q1
        go_wp2
        go_roundw
        case rel => exact ⟨k + 1, A6, c6, by omega, by go_num, rfl, HO4, HB4.out⟩
        case measure => simp [intOf]; omega
    · obtain rfl : k = n' := by omega
      have nc := ho.out.nilcap
      have NC := Lib.hid nc.2.2
      have nc1 := nc.1
      have Oa4 := Lib.hid (Oa3.out.keep hbr)
      have Ob4 := Lib.hid (Ob.out.keep hbr)
      clear nc Oa3 Ob hlt
      go_wp2_with fail
      refine (c_ITh _ _ _ _ _ _ xs (grp ys zs k) _ ((HL.out.below hwr).more hwr.size) ho.out.rd hc nc1 NC.out HO.out).mono ?_
      rintro e w5 ⟨A7, c7, rfl, o, hb⟩
      have Oc := Lib.hid o
      have Oa5 := Lib.hid (Oa4.out.keep hb)
      have Ob5 := Lib.hid (Ob4.out.keep hb)
      have hb5 := hwr.trans (hb.mono hwr.size)
      have LL := L1.out
      rw [LX.out] at LL
      clear o hb Oa4 Ob4 ho
      rw [HS.out] at Oc LL ⊢
      go_wp2_with fail
      refine (c_PAdd_ok _ _ _ _ _ _ (thr xs ys) (thr xs zs) _ Oa5.out.rd Ob5.out.rd P1.out P2.out).mono ?_
      rintro e w6 ⟨A8, c8, rfl, o, hb⟩
      have Od := Lib.hid o
      have Oc6 := Lib.hid (Oc.out.keep hb)
      have hb6 := hb5.trans (hb.mono hb5.size)
      clear o hb Oc Oa5 Ob5
      obtain ⟨lc, hlc⟩ : ∃ l, l = (padd (thr xs ys) (thr xs zs)).length := ⟨_, rfl⟩
      rw [← hlc] at Od Oc6 LL ⊢
      clear hlc
      go_wp2_with fail
      refine (c_sameP _ _ _ _ _ _ _ _ _ _ _ rfl Oc6.out.rd Od.out.rd (by omega)).mono ?_
      rintro e w7 ⟨rfl, hb⟩
      have hb7 := hb6.trans (hb.mono hb6.size)
      clear hb
      go_wp2
      go_ret
      exact ⟨rfl, hb7⟩
end
theorem frame_IpolSum (A : Option Addr) (n c : Nat) (xs : List Int) (A' : Option Addr) (n' c' : Nat) (ys : List Int) (A3 : Option Addr) (n3 c3 : Nat) (zs : List Int) (w : World)
    (hL : Rd w w.heap.size A n xs) (hc : n ≤ c ∧ c ≤ 9223372036854775807 ∧ (A = none → c = 0)) (_ : ∀ x ∈ xs, Fits x) (hM : Rd w w.heap.size A' n' ys) (hc' : n' ≤ c' ∧ c' ≤ 9223372036854775807 ∧ (A' = none → c' = 0)) (_ : ∀ x ∈ ys, Fits x) (hK : Rd w w.heap.size A3 n3 zs) (hc3 : n3 ≤ c3 ∧ c3 ≤ 9223372036854775807 ∧ (A3 = none → c3 = 0)) (_ : ∀ x ∈ zs, Fits x) :
    Calls Try.prog 10 #[.slice A n c, .slice A' n' c', .slice A3 n3 c3] w fun e w' => e = .returned (.bool true) ∧ Below w.heap.size w w' := by
  by_cases h1 : IOk xs ys
  · by_cases h2 : IOk xs zs
    · exact isum_ok A A' A3 n n' n3 c c' c3 xs ys zs w hL hM hK hc.1 hc'.1 hc'.2.2 hc3.1 hc3.2.2 h1 h2
    · exact isum_half A A' A3 n n' n3 c c' c3 xs ys zs w hL hM hK hc.1 hc'.1 hc'.2.2 h1 h2
  · exact isum_bad A A' A3 n n' n3 c c' c3 xs ys zs w hL hM hK hc.1 hc3.1 hc3.2.2 h1
end Go.Proofs.Ytaidincogkfodaa
