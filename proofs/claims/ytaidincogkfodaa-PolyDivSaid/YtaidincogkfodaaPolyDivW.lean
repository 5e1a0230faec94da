/- The walk of the statement PolyDiv: the law returns true for all arguments. -/
import Derived.Test.YtaidincogkfodaaPolyR
import Derived.Test.YtaidincogkfodaaViewZ
namespace Go.Proofs.Ytaidincogkfodaa
open Go.RowKit

theorem Rd.on {w w' : World} {A : Option Addr} {n : Nat} {L : List Int} (h : Rd w w.heap.size A n L) (hb : Below w.heap.size w w') : Rd w' w'.heap.size A n L := (h.below hb).more hb.size
/-- Quotient times divisor plus remainder is the dividend. -/
theorem div_back {f g q r : List Int} (pf : PL f) (hd : DivOk f g q r) : padd (pmul g q) r = trm f :=
  canon (padd_tr _ _) (tr_trm f) fun k => by
    have e : nth f k % 9973 = (cv (nth q) (nth g) k + nth r k) % 9973 := hd.2.2.2.2.2 k
    rw [padd_nth, pmul_nth, trm_nth, ← pl_emod pf k, e, cv_comm, Int.add_emod, Int.emod_emod, ← Int.add_emod]
/-- Of a product nothing is left. -/
theorem div_prod {f g : List Int} (pf : PL f) (hg : trm g ≠ []) : DivOk (pmul f g) (trm g) (trm f) [] :=
  ⟨pl_trm pf, tr_trm f, pl_nil, tr_nil, len_pos hg, fun k => by
    show nth (pmul f g) k % 9973 = (cv (nth (trm f)) (nth (trm g)) k + 0) % 9973
    rw [pmul_eqm f g k, Int.add_zero, cv_congr k (fun i _ => trm_nth f i) (fun i _ => trm_nth g i)]⟩
section
variable (A A' : Option Addr) (n n' c c' : Nat) (f g : List Int) (w : World)
theorem pdiv_bad (hL : Rd w w.heap.size A n f) (hM : Rd w w.heap.size A' n' g) (hc' : n' ≤ c') (hz' : A' = none → c' = 0) (h : ¬ (POk f ∧ POk g ∧ trm g ≠ [])) :
    Calls Try.prog 4 #[.slice A n c, .slice A' n' c'] w fun e w' => e = .returned (.bool true) ∧ Below w.heap.size w w' := by
  have HL := Lib.hid hL
  have HM := Lib.hid hM
  have HD : Hid (∀ w : World, Rd w w.heap.size A n f → Rd w w.heap.size A' n' g → Calls Try.prog 16 #[.slice A n c, .slice A' n' c'] w fun e w' => (∃ y : Int, e = .returned (.tuple #[.slice none 0 0, .slice none 0 0, .iface 44 (.int .i64 y)])) ∧ Below w.heap.size w w') := fun w r1 r2 => by
    by_cases h1 : POk f ∧ POk g
    · have h0 : trm g = [] := Classical.byContradiction fun h2 => h ⟨h1.1, h1.2, h2⟩
      exact (c_PDiv_nul A A' n n' c c' f g w r1 r2 hc' hz' h1.1 h1.2 h0).mono fun e w' ⟨a, b⟩ => ⟨⟨_, a⟩, b⟩
    · exact (c_PDiv_bad A A' n n' c c' f g w r1 r2 h1).mono fun e w' ⟨a, b⟩ => ⟨⟨_, a⟩, b⟩
  clear hL hM h hz'
  go_enter Try.func4, Try.ntmps4
  go_wp2_with fail
  refine (c_polyFact _).mono ?_
  rintro e w1 ⟨rfl, T1⟩
  go_wp2_with fail
  refine (HD.out _ (HL.out.on T1) (HM.out.on T1)).mono ?_
  rintro e w2 ⟨⟨y, rfl⟩, hb⟩
  go_wp2
  go_ret
  exact ⟨rfl, T1.trans (hb.mono T1.size)⟩
set_option maxHeartbeats 4000000 in
set_option maxRecDepth 100000 in
theorem pdiv_ok (hL : Rd w w.heap.size A n f) (hM : Rd w w.heap.size A' n' g) (hc : n ≤ c ∧ c ≤ 9223372036854775807 ∧ (A = none → c = 0)) (hc' : n' ≤ c' ∧ c' ≤ 9223372036854775807 ∧ (A' = none → c' = 0)) (h : POk f) (h' : POk g) (h0 : trm g ≠ []) :
    Calls Try.prog 4 #[.slice A n c, .slice A' n' c'] w fun e w' => e = .returned (.bool true) ∧ Below w.heap.size w w' := by
  have HL := Lib.hid hL
  have HM := Lib.hid hM
  have HF := Lib.hid h
  have HG := Lib.hid h'
  have H0 := Lib.hid h0
  have HC := Lib.hid hc
  have HC' := Lib.hid hc'
  have m1 : n ≤ 12 := by rw [← hL.1]; exact h.1
  have m2 : n' ≤ 12 := by rw [← hM.1]; exact h'.1
  have hlg := trm_le g
  rw [hM.1] at hlg
  have LF := Lib.hid hL.1
  have LG := Lib.hid hM.1
  obtain ⟨tg, htg⟩ : ∃ t, t = (trm g).length := ⟨_, rfl⟩
  have HTG : Hid ((trm g).length = tg) := htg.symm
  rw [← htg] at hlg
  have htg0 : 0 < tg := by rw [htg]; exact len_pos h0
  clear hL hM h h' h0 hc hc' htg
  go_enter Try.func4, Try.ntmps4
  go_wp2_with fail
  refine (c_polyFact _).mono ?_
  rintro e w1 ⟨rfl, T1⟩
  go_wp2_with fail
  refine (c_PDiv_ok _ _ _ _ _ _ f g _ (HL.out.on T1) (HM.out.on T1) HC.out.1 HC.out.2.2 HC'.out.1 HC'.out.2.2 HF.out HG.out H0.out).mono ?_
  rintro e w2 ⟨q, r, Aq, cq, Ar, cr, rfl, hd, oq, or', hrn, hqn, hb⟩
  have T2 := T1.trans (hb.mono T1.size)
  have Rq := Lib.hid oq.rd
  have Rr := Lib.hid or'.rd
  have BK := Lib.hid (div_back HF.out.2 hd)
  have hrl : r.length < tg := by have := hd.2.2.2.2.1; rw [HTG.out] at this; exact this
  have hql : q.length + tg ≤ 13 := by
    by_cases hq : q = []
    · rw [hq]; simp; omega
    · have := hqn hq
      rw [HTG.out] at this
      omega
  have Pq : Hid (POk q) := ⟨by omega, hd.1⟩
  have Pr : Hid (POk r) := ⟨by omega, hd.2.2.1⟩
  have Ptg : Hid (POk (trm g)) := ⟨by rw [HTG.out]; omega, pl_trm HG.out.2⟩
  have Pp : Hid (POk (pmul (trm g) q)) := ⟨by have := pmul_len (trm g) q; rw [HTG.out] at this; omega, pmul_pl _ _⟩
  obtain ⟨lq, hlq⟩ : ∃ l, l = q.length := ⟨_, rfl⟩
  obtain ⟨lr, hlr⟩ : ∃ l, l = r.length := ⟨_, rfl⟩
  rw [← hlq] at hql Rq ⊢
  rw [← hlr] at hrl Rr ⊢
  clear oq or' hb hd hqn hlq hlr
  go_wp2_with fail
  refine (c_RTrim _ _ _ g _ _ (HM.out.on T2) ⟨HC'.out.1, HC'.out.2.1⟩).mono ?_
  rintro e w' ⟨rfl, rfl⟩
  rw [HTG.out]
  have e1 : ¬ tg ≤ lr := by omega
  have e2 : ¬ (13 : Int) < (lq : Int) + (tg : Int) := by omega
  go_wp2_with fail
  refine (c_RTrim _ _ _ g _ _ (HM.out.on T2) ⟨HC'.out.1, HC'.out.2.1⟩).mono ?_
  rintro e w' ⟨rfl, rfl⟩
  rw [HTG.out]
  go_wp2_with fail
  refine (c_RTrim _ _ _ g _ _ (HM.out.on T2) ⟨HC'.out.1, HC'.out.2.1⟩).mono ?_
  rintro e w' ⟨rfl, rfl⟩
  have Rtg : Hid (Rd w2 w2.heap.size A' (trm g).length (trm g)) := rd_trm (HM.out.on T2)
  go_wp2_with fail
  refine (c_PMul_ok _ _ _ _ _ _ (trm g) q _ Rtg.out Rq.out Ptg.out Pq.out).mono ?_
  rintro e w3 ⟨Ap, cp', rfl, o, hb⟩
  have Rp := Lib.hid o.rd
  have Rr := Lib.hid (Rr.out.on hb)
  have T3 := T2.trans (hb.mono T2.size)
  clear o hb Rq Rtg
  go_wp2_with fail
  refine (c_PAdd_ok _ _ _ _ _ _ (pmul (trm g) q) r _ Rp.out Rr.out Pp.out Pr.out).mono ?_
  rintro e w4 ⟨As, cs, rfl, o, hb⟩
  have Rs := Lib.hid o.rd
  have T4 := T3.trans (hb.mono T3.size)
  clear o hb Rp Rr
  go_wp2_with fail
  refine (c_RTrim _ _ _ f _ _ (HL.out.on T4) ⟨HC.out.1, HC.out.2.1⟩).mono ?_
  rintro e w' ⟨rfl, rfl⟩
  go_wp2_with fail
  refine (c_sameP _ _ _ _ _ _ _ (trm f) _ _ _ BK.out Rs.out (rd_trm (HL.out.on T4)) (by have := padd_len (pmul (trm g) q) r; have := Pp.out.1; have := Pr.out.1; omega)).mono ?_
  rintro e w5 ⟨rfl, hb⟩
  have T5 := T4.trans (hb.mono T4.size)
  clear hb Rs
  by_cases hs : 12 < n + n'
  · have hs' : (12 : Int) < (n : Int) + (n' : Int) := by omega
    go_wp2
    go_ret
    exact ⟨rfl, T5⟩
  · have hs' : ¬ (12 : Int) < (n : Int) + (n' : Int) := by omega
    have Pm : Hid (POk (pmul f g)) := ⟨by have := pmul_len f g; rw [LF.out, LG.out] at this; omega, pmul_pl f g⟩
    have DP := Lib.hid (div_prod HF.out.2 H0.out)
    go_wp2_with fail
    refine (c_PMul_ok _ _ _ _ _ _ f g _ (HL.out.on T5) (HM.out.on T5) HF.out HG.out).mono ?_
    rintro e w6 ⟨Am, cm, rfl, o, hb⟩
    have Om := Lib.hid o
    have T6 := T5.trans (hb.mono T5.size)
    clear o hb
    go_wp2_with fail
    refine (c_PDiv_ok _ _ _ _ _ _ (pmul f g) g _ Om.out.rd (HM.out.on T6) Om.out.nilcap.1 Om.out.nilcap.2.2 HC'.out.1 HC'.out.2.2 Pm.out HG.out H0.out).mono ?_
    rintro e w7 ⟨a, b, Aa, ca, Ab, cb, rfl, hd, oa, ob, _, _, hb⟩
    obtain ⟨rfl, rfl⟩ := div_uniq (pl_trm HG.out.2) (tr_trm g) hd DP.out
    have Ra := Lib.hid oa.rd
    have T7 := T6.trans (hb.mono T6.size)
    clear oa ob hb hd
    go_wp2_with fail
    refine (c_RTrim _ _ _ f _ _ (HL.out.on T7) ⟨HC.out.1, HC.out.2.1⟩).mono ?_
    rintro e w' ⟨rfl, rfl⟩
    go_wp2_with fail
    refine (c_sameP _ _ _ _ _ _ (trm f) (trm f) _ _ _ rfl Ra.out (rd_trm (HL.out.on T7)) (by have := trm_le f; have := HF.out.1; omega)).mono ?_
    rintro e w8 ⟨rfl, hb⟩
    have T8 := T7.trans (hb.mono T7.size)
    go_wp2
    go_ret
    exact ⟨rfl, T8⟩
end
theorem frame_PolyDiv (A : Option Addr) (n c : Nat) (f : List Int) (A' : Option Addr) (n' c' : Nat) (g : List Int) (w : World)
    (hL : Rd w w.heap.size A n f) (hc : n ≤ c ∧ c ≤ 9223372036854775807 ∧ (A = none → c = 0)) (_ : ∀ x ∈ f, Fits x) (hM : Rd w w.heap.size A' n' g) (hc' : n' ≤ c' ∧ c' ≤ 9223372036854775807 ∧ (A' = none → c' = 0)) (_ : ∀ x ∈ g, Fits x) :
    Calls Try.prog 4 #[.slice A n c, .slice A' n' c'] w fun e w' => e = .returned (.bool true) ∧ Below w.heap.size w w' := by
  by_cases h : POk f ∧ POk g ∧ trm g ≠ []
  · exact pdiv_ok A A' n n' c c' f g w hL hM hc hc' h.1 h.2.1 h.2.2
  · exact pdiv_bad A A' n n' c c' f g w hL hM hc'.1 hc'.2.2 h
end Go.Proofs.Ytaidincogkfodaa
