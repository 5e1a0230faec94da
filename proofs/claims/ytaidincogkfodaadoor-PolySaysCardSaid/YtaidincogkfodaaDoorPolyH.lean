/- The contract of package poly's divide. -/
import Derived.Test.YtaidincogkfodaaDoorPolyF
import Derived.Test.YtaidincogkfodaaDoorPolyC
namespace Go.Proofs.YtaidincogkfodaaDoor
open Go.RowKit

theorem Own.elsewhere {w : World} {base n c gq : Nat} {A : Option Addr} {L : List Int} (h : Own w base A n c L) (hA : ∀ g off, A = some ⟨g, off, none⟩ → g ≠ gq) (j : Nat) (u : Value) : Own (w.setCell ⟨gq, j, none⟩ u) base A n c L := by
  refine ⟨h.1, h.2.1, ?_⟩
  rcases h.2.2 with hn | ⟨g', cap, cur, hv, hg, hh, r⟩
  · exact .inl hn
  · injection hv with e1 e2 e3
    subst e1; subst e3
    exact .inr ⟨g', _, cur, rfl, hg, by rw [Below.heap_setCell _ _ _ _ (fun e => hA g' 0 rfl (show gq = g' from e.symm).symm)]; exact hh, r⟩
theorem Own.block_lt {w : World} {base n c : Nat} {A : Option Addr} {L : List Int} (h : Own w base A n c L) : ∀ g off, A = some ⟨g, off, none⟩ → base ≤ g ∧ g < w.heap.size := by
  intro g off hA
  subst hA
  rcases h.2.2 with ⟨hv, _⟩ | ⟨g', cap, cur, hv, hg, hh, _⟩
  · cases hv
  · injection hv with e1 _ _
    injection e1 with e1
    injection e1 with e1 _ _
    subst e1
    refine ⟨hg, ?_⟩
    rcases Nat.lt_or_ge g w.heap.size with hlt | hge
    · exact hlt
    · rw [Array.getElem?_eq_none hge] at hh; cases hh
/-- How long a slice is. -/
def lenV : Value → Nat
  | .slice _ n _ => n
  | _ => 0
set_option maxHeartbeats 4000000 in
theorem c_divide (A A' : Option Addr) (n n' c c' : Nat) (f g : List Int) (w : World) (hL : Rd w w.heap.size A n f) (hM : Rd w w.heap.size A' n' g) (hc : n ≤ c) (hz : A = none → c = 0) (hn : n ≤ 30) (hn' : n' ≤ 30) (pf : PL f) (pg : PL g) (tg : Tr g) (hg : g ≠ []) :
    Calls Tryd.prog 34 #[.slice A n c, .slice A' n' c'] w fun e w' => ∃ (q r : List Int) (Aq : Option Addr) (cq : Nat) (Ar : Option Addr) (cr : Nat), e = .returned (.tuple #[.slice Aq q.length cq, .slice Ar r.length cr]) ∧ DivOk f g q r ∧ Own w' w.heap.size Aq q.length cq q ∧ Own w' w.heap.size Ar r.length cr r ∧ r.length ≤ n ∧ q.length + n' ≤ n + 1 + n' ∧ (q ≠ [] → q.length + n' ≤ n + 1) ∧ Below w.heap.size w w' := by
  have hl : Hid (f.length = n) := hL.1
  have hm : Hid (g.length = n') := hM.1
  have lg := len_pos hg
  rw [hM.1] at lg
  have l1 := tr_lead pg tg hg
  obtain ⟨b', off', rfl, hb', hc0⟩ := hM.at' (k := n' - 1) (by omega)
  rw [hM.1] at l1
  have hR0 := trm_le f
  rw [hL.1] at hR0
  obtain ⟨R0, hR⟩ : ∃ R0, R0 = (trm f).length := ⟨_, rfl⟩
  rw [← hR] at hR0
  have HR : Hid ((trm f).length = R0) := hR.symm
  have HL := Lib.hid hL
  have HM := Lib.hid hM
  have PF := Lib.hid pf
  have PG := Lib.hid pg
  have TG := Lib.hid tg
  have NG := Lib.hid hg
  obtain ⟨ld, hld⟩ : ∃ ld, ld = nth g (n' - 1) := ⟨_, rfl⟩
  have HLD := Lib.hid hld
  rw [← hld] at hc0 l1
  obtain ⟨_, l2, l3⟩ := l1
  obtain ⟨ov, hov⟩ : ∃ ov, ov = pw ld 9971 := ⟨_, rfl⟩
  have hob := pw_bd ld 9971
  rw [← hov] at hob
  have OV : Hid (∀ w : World, Calls Tryd.prog 35 #[.int .i64 ld] w fun e w' => e = .returned (.int .i64 ov) ∧ w = w') := fun w => by rw [hov]; exact c_Over ld w (by omega) l3
  have HOV : Hid (ov = pw (nth g (g.length - 1)) 9971) := by rw [Hid, hov, hm.out, ← HLD.out]
  have HZ := Lib.hid hz
  clear hL hM hR hld hov pf pg tg hg hz
  go_enter Tryd.func34, Tryd.ntmps34
  go_wp2_with fail
  refine (c_trim _ _ _ _ _ HL.out hc (by omega) HZ.out).mono ?_
  rintro e w1 ⟨A1, c1, rfl, o1, hb1⟩
  rw [HR.out] at o1 ⊢
  have hc1 : w1.cell? ⟨b', off' + (n' - 1), none⟩ = some (.int .i64 ld) := (hb1.cell (p := ⟨b', off' + (n' - 1), none⟩) hb').trans hc0
  have O1 := Lib.hid o1
  clear o1
  go_wp2_with fail
  refine (OV.out _).mono ?_
  rintro e w' ⟨rfl, rfl⟩
  by_cases hsh : R0 < n'
  · have HD : Hid (DivOk f g [] (trm f)) := div_short PF.out (by rw [HR.out, hm.out]; exact hsh)
    have hlt : ¬ n' ≤ R0 := by omega
    have HN : Hid (Own w1 w.heap.size none ([] : List Int).length 0 []) := Own.nil _ _
    go_wp2
    refine wp_loop_rounds 1 ?_
    rw [rounds_succ]
    go_wp2
    go_ret2
    exact ⟨[], trm f, none, 0, A1, c1, by rw [HR.out]; rfl, HD.out, HN.out, by rw [HR.out]; exact O1.out, by rw [HR.out]; exact hR0, by simp, fun h => absurd rfl h, hb1⟩
  · have hge : n' ≤ R0 := by omega
    have HS : Hid (DivSt f g (List.replicate (R0 - n' + 1) 0) (trm f) R0) := by
      have := div_start (f := f) (g := g) PF.out
      rw [HR.out, hm.out] at this
      exact this
    have hcast : (R0 : Int) - (n' : Int) + 1 = ((R0 - n' + 1 : Nat) : Int) := by omega
    go_wp2_with (at_make; refine wp_make rfl _ _ rfl (R0 - n' + 1) _ rfl rfl (by omega) (by omega) ?_)
    intro w2 own hb hlt2
    obtain ⟨gq, hgq⟩ : ∃ gq, gq = w1.heap.size := ⟨_, rfl⟩
    have hs1 := hb1.size
    have B2 := Lib.hid (hb1.trans (hb.mono hs1))
    have OR := Lib.hid (O1.out.keep hb)
    have NE : Hid (∀ g off, A1 = some ⟨g, off, none⟩ → g ≠ gq) := fun g off e => by have := O1.out.block_lt g off e; omega
    rw [← hgq] at own hlt2 ⊢
    have OQ := Lib.hid (own.base_le (show w.heap.size ≤ gq by omega))
    have hgw : w.heap.size ≤ gq := by omega
    have hcM : Hid (Rd w w.heap.size (some ⟨b', off', none⟩) n' g) := HM.out
    clear own hb hb1 hs1 hgq hc1 O1
    go_wp2
    go_loopw [5] (fun s wr => ∃ (q r : List Int) (Ar : Option Addr) (cr R : Nat), s = .slice Ar R cr ∧ R ≤ R0 ∧ Hid (r.length = R) ∧ Hid (DivSt f g q r R0) ∧ Hid (Own wr w.heap.size (some ⟨gq, 0, none⟩) (R0 - n' + 1) (R0 - n' + 1) q) ∧ Hid (Own wr w.heap.size Ar R cr r) ∧ Hid (∀ g off, Ar = some ⟨g, off, none⟩ → g ≠ gq) ∧ gq < wr.heap.size ∧ Below w.heap.size w wr) (fun s _ => lenV s)
    case atStart => exact ⟨_, _, A1, c1, R0, rfl, Nat.le_refl _, HR.out, HS.out, OQ.out, OR.out, NE.out, hlt2, B2.out⟩
    case round =>
      obtain ⟨q, r, Ar, cr, R, rfl, hRR, hr, HD, HQ, HO, HNE, hsz, hbr⟩ := hrel
      by_cases hlt : R < n'
      · have HE : Hid (DivOk f g q r) := div_end HD.out (by rw [hm.out]; exact hge) (by rw [hr.out, hm.out]; exact hlt)
        have hql : Hid (q.length = R0 - n' + 1) := HQ.out.1
        have hlt' : ¬ n' ≤ R := by omega
        go_wp2
        go_ret2
        exact ⟨q, r, _, _, Ar, cr, by rw [hql.out, hr.out]; rfl, HE.out, by rw [hql.out]; exact HQ.out, by rw [hr.out]; exact HO.out, by rw [hr.out]; omega, by rw [hql.out]; omega, fun _ => by rw [hql.out]; omega, hbr⟩
      · have hgeR : n' ≤ R := by omega
        obtain ⟨gr, rfl, hgr1, hgr2⟩ := HO.out.form (by omega)
        have hne : gr ≠ gq := HNE.out gr 0 rfl
        have x1 := HO.out.cell (j := R - 1) (by omega)
        obtain ⟨lr, hlr⟩ : ∃ lr, lr = nth r (R - 1) := ⟨_, rfl⟩
        have bl : 0 ≤ lr ∧ lr < 9973 := by rw [hlr]; exact HD.out.2.1 (R - 1)
        rw [← hlr] at x1
        have bm := mul_bd lr ov 9973 bl.1 bl.2 hob.1 hob.2
        obtain ⟨k, hk⟩ : ∃ k, k = lr * ov % 9973 := ⟨_, rfl⟩
        have hkb : 0 ≤ k ∧ k < 9973 := by rw [hk]; exact emod_pl _
        have HK := Lib.hid (div_next (c := k) PG.out TG.out NG.out HD.out (by rw [hm.out, hr.out]; exact hgeR) (by rw [hk, hr.out, ← HOV.out, ← hlr]))
        have hk' : lr * ov % 9973 = k := hk.symm
        have y1 := HQ.out.cell (j := R - n') (by omega)
        have y2 := HQ.out.free (R - n')
        have HQ2 := Lib.hid (HQ.out.set (R - n') k)
        have HO2 := Lib.hid (HO.out.elsewhere HNE.out (R - n') (.int .i64 k))
        have HB2 := Lib.hid (hbr.setCell (p := ⟨gq, R - n', none⟩) hgw (.int .i64 k))
        have hcR : (R : Int) - (n' : Int) = ((R - n' : Nat) : Int) := by omega
        clear hk hlr
        go_wp2
        rw [hk']
        have SZ := Lib.hid (subP_zero r g k (R - n'))
        have hpr := Lib.hid HD.out.2.1
        have hgr3 : gr ≠ gq := hne
        clear hk' bm x1 y1 y2 HQ HO hbr hne
        go_loopw [57] (fun v wr => ∃ i : Nat, i ≤ n' ∧ v = .int .i64 i ∧ Hid (Own wr w.heap.size (some ⟨gr, 0, none⟩) R cr (subP r g k (R - n') i)) ∧ Hid (Own wr w.heap.size (some ⟨gq, 0, none⟩) (R0 - n' + 1) (R0 - n' + 1) (q.set (R - n') k)) ∧ gq < wr.heap.size ∧ Below w.heap.size w wr) (fun v _ => n' - (intOf v).toNat)
        case atStart => exact ⟨0, Nat.zero_le _, rfl, by rw [SZ.out]; exact HO2.out, HQ2.out, by simpa using hsz, HB2.out⟩
        case round =>
          obtain ⟨i, hi, rfl, HS, HQ, hsz, hbr⟩ := hrel
          by_cases hlt' : i < n'
          · obtain ⟨b2, off2, e2, hcg⟩ := (hcM.out.below hbr).at_ hlt'
            injection e2 with e2
            injection e2 with e3 e4 _
            subst e3; subst e4
            have hai : (R - n') + i < R := by omega
            have z1 := HS.out.cell hai
            have z2 := HS.out.free ((R - n') + i)
            rw [subP_at r g k (R - n') i (by rw [hr.out]; exact hai)] at z1
            have by' := PG.out i
            have bz := hpr.out ((R - n') + i)
            have HT := Lib.hid (subP_step r g k (R - n') i)
            obtain ⟨y, hy⟩ : ∃ y, y = nth g i := ⟨_, rfl⟩
            obtain ⟨z, hz⟩ : ∃ z, z = nth r ((R - n') + i) := ⟨_, rfl⟩
            rw [← hy] at hcg by' HT
            rw [← hz] at z1 bz HT
            clear hy hz
            have bm := mul_bd k y 9973 hkb.1 hkb.2 by'.1 by'.2
            have HN : Hid (Own (wr.setCell ⟨gr, (R - n') + i, none⟩ (.int .i64 ((z - k * y) % 9973))) w.heap.size (some ⟨gr, 0, none⟩) R cr (subP r g k (R - n') (i + 1))) := own_set HS.out HT.out
            have HQ' := Lib.hid (HQ.out.keep_set (p := ⟨gr, (R - n') + i, none⟩) hgr3 (.int .i64 ((z - k * y) % 9973)))
            have HB := Lib.hid (hbr.setCell (p := ⟨gr, (R - n') + i, none⟩) hgr1 (.int .i64 ((z - k * y) % 9973)))
            go_wp2_with (go_at_call 40; refine (c_NField _ _ (by omega) (by omega)).mono ?_; rintro e w' ⟨rfl, rfl⟩)
            go_roundw
            case rel => exact ⟨i + 1, by omega, by go_num, HN.out, HQ'.out, by simpa using hsz, HB.out⟩
            case measure => simp [intOf]; omega
          · obtain rfl : i = n' := by omega
            obtain ⟨d1, d2⟩ := HK.out
            rw [hr.out, hm.out] at d1 d2
            have D1 := Lib.hid d1
            have hs0 := hbr.size
            clear d1
            go_wp2_with fail
            refine (c_trim _ _ _ _ _ HS.out.rd HS.out.nilcap.1 (by omega) (fun h => by cases h)).mono ?_
            rintro e w3 ⟨A3, c3, rfl, o3, hb3⟩
            have NE3 : Hid (∀ g off, A3 = some ⟨g, off, none⟩ → g ≠ gq) := fun g off e => by have := o3.block_lt g off e; omega
            obtain ⟨R', hR'⟩ : ∃ R', R' = (trm (subP r g k (R - i) i)).length := ⟨_, rfl⟩
            have HR' : Hid ((trm (subP r g k (R - i) i)).length = R') := hR'.symm
            rw [← hR'] at o3 d2 ⊢
            have O3 := Lib.hid (o3.base_le hs0)
            have Q3 := Lib.hid (HQ.out.keep hb3)
            have B3 := Lib.hid (hbr.trans (hb3.mono hs0))
            have s3 : gq < w3.heap.size := by have := hb3.size; omega
            clear o3 hb3 hR'
            go_wp2
            go_roundw
            case rel => exact ⟨_, _, A3, c3, R', rfl, by omega, HR'.out, D1.out, Q3.out, O3.out, NE3.out, s3, B3.out⟩
            case measure => simp [lenV]; omega
end Go.Proofs.YtaidincogkfodaaDoor
