/- The walk of the statement PolyGcd: the law returns true for all arguments. -/
import Derived.Test.YtaidincogkfodaaPolyR
import Derived.Test.YtaidincogkfodaaViewZ
namespace Go.Proofs.Ytaidincogkfodaa
open Go.RowKit

theorem Rd.on {w w' : World} {A : Option Addr} {n : Nat} {L : List Int} (h : Rd w w.heap.size A n L) (hb : Below w.heap.size w w') : Rd w' w'.heap.size A n L := (h.below hb).more hb.size
theorem dv_untrim {c f : List Int} (h : Dv c (trm f)) : Dv c f := by
  obtain ⟨a, ha⟩ := h
  exact ⟨a, fun k => by rw [← trm_nth]; exact ha k⟩
theorem trm_pmul (f h : List Int) : trm (pmul f h) = pmul (trm f) (trm h) := by
  rw [trm_id (pmul_tr f h), pmul_trm, pmul_comm, ← pmul_trm h f, pmul_comm]
theorem mon_trm {u : List Int} (p : PL u) (t : Tr u) : trm (mon u) = mon u := trm_id (mon_tr p t)
/-- What the law asks of the greatest common divisor. -/
theorem gcd_facts {f g u : List Int} (pf : POk f) (pg : POk g) (h : Euc (trm f) (trm g) u) :
    PL u ∧ Tr u ∧ u.length ≤ max f.length g.length ∧ (u = [] → trm f = [] ∧ trm g = []) ∧ (u ≠ [] → Dv (mon u) f ∧ Dv (mon u) g) := by
  obtain ⟨p, t, l⟩ := euc_ok h (pl_trm pf.2) (tr_trm f) (pl_trm pg.2) (tr_trm g)
  have l1 := trm_le f
  have l2 := trm_le g
  refine ⟨p, t, by omega, fun e => euc_nil h e, fun hu => ?_⟩
  obtain ⟨d1, d2⟩ := euc_dvd h
  exact ⟨dv_mon p t hu (dv_untrim d1), dv_mon p t hu (dv_untrim d2)⟩
/-- The algorithm at the products. -/
theorem gcd_prod {f g h u u2 : List Int} (pg : POk g) (ph : POk h) (hh : trm h ≠ []) (he : Euc (trm f) (trm g) u) (he2 : Euc (trm (pmul f h)) (trm (pmul g h)) u2) : u2 = pmul u (trm h) := by
  have h1 := euc_times he (pl_trm pg.2) (tr_trm g) (pl_trm ph.2) (tr_trm h) hh
  rw [← trm_pmul, ← trm_pmul] at h1
  exact euc_uniq he2 (pl_trm (pmul_pl g h)) (tr_trm _) h1
section
variable (A A' A3 : Option Addr) (n n' n3 c c' c3 : Nat) (f g h : List Int) (w : World)
set_option maxRecDepth 100000 in
theorem pgcd_bad (hL : Rd w w.heap.size A n f) (hM : Rd w w.heap.size A' n' g) (hb : ¬ (POk f ∧ POk g)) :
    Calls Try.prog 6 #[.slice A n c, .slice A' n' c', .slice A3 n3 c3] w fun e w' => e = .returned (.bool true) ∧ Below w.heap.size w w' := by
  have HL := Lib.hid hL
  have HM := Lib.hid hM
  have HB := Lib.hid hb
  clear hL hM hb
  go_enter Try.func6, Try.ntmps6
  go_wp2_with fail
  refine (c_polyFact _).mono ?_
  rintro e w1 ⟨rfl, T1⟩
  go_wp2_with fail
  refine (c_PGcd_bad _ _ _ _ _ _ f g _ (HL.out.on T1) (HM.out.on T1) HB.out).mono ?_
  rintro e w2 ⟨rfl, hb⟩
  go_wp2
  go_ret
  exact ⟨rfl, T1.trans (hb.mono T1.size)⟩
set_option maxHeartbeats 4000000 in
set_option maxRecDepth 100000 in
theorem pgcd_ok (hL : Rd w w.heap.size A n f) (hM : Rd w w.heap.size A' n' g) (hK : Rd w w.heap.size A3 n3 h) (hc : n ≤ c ∧ c ≤ 9223372036854775807 ∧ (A = none → c = 0)) (hc' : n' ≤ c' ∧ c' ≤ 9223372036854775807 ∧ (A' = none → c' = 0)) (hc3 : n3 ≤ c3 ∧ c3 ≤ 9223372036854775807 ∧ (A3 = none → c3 = 0)) (h1 : POk f) (h2 : POk g) :
    Calls Try.prog 6 #[.slice A n c, .slice A' n' c', .slice A3 n3 c3] w fun e w' => e = .returned (.bool true) ∧ Below w.heap.size w w' := by
  have HL := Lib.hid hL
  have HM := Lib.hid hM
  have HK := Lib.hid hK
  have HF := Lib.hid h1
  have HG := Lib.hid h2
  have HC := Lib.hid hc
  have HC' := Lib.hid hc'
  have HC3 := Lib.hid hc3
  have m1 : n ≤ 12 := by rw [← hL.1]; exact h1.1
  have m2 : n' ≤ 12 := by rw [← hM.1]; exact h2.1
  have LF := Lib.hid hL.1
  have LG := Lib.hid hM.1
  have LH := Lib.hid hK.1
  clear hL hM hK h1 h2 hc hc' hc3
  go_enter Try.func6, Try.ntmps6
  go_wp2_with fail
  refine (c_polyFact _).mono ?_
  rintro e w1 ⟨rfl, T1⟩
  go_wp2_with fail
  refine (c_PGcd_ok _ _ _ _ _ _ f g _ (HL.out.on T1) (HM.out.on T1) HC.out.1 HC.out.2.2 HC'.out.1 HC'.out.2.2 HF.out HG.out).mono ?_
  rintro e w2 ⟨u, Ac, cc, rfl, he, oc, hb⟩
  have T2 := T1.trans (hb.mono T1.size)
  have HE := Lib.hid he
  obtain ⟨pu, tu, lu, u0, u1⟩ := gcd_facts HF.out HG.out he
  have Oc := Lib.hid oc
  have PU := Lib.hid pu
  have TU := Lib.hid tu
  have U0 := Lib.hid u0
  have U1 := Lib.hid u1
  have LU := Lib.hid lu
  clear he oc hb pu tu u0 u1 lu
  by_cases hu : u = []
  · have z1 : Hid ((trm f).length = 0) := by rw [Hid, (U0.out hu).1]; rfl
    have z2 : Hid ((trm g).length = 0) := by rw [Hid, (U0.out hu).2]; rfl
    have z3 : Hid ((mon u).length = 0) := by rw [Hid, hu]; rfl
    rw [z3.out]
    clear hu
    go_wp2_with fail
    refine (c_RTrim _ _ _ f _ _ (HL.out.on T2) ⟨HC.out.1, HC.out.2.1⟩).mono ?_
    rintro e w' ⟨rfl, rfl⟩
    rw [z1.out]
    go_wp2_with fail
    refine (c_RTrim _ _ _ g _ _ (HM.out.on T2) ⟨HC'.out.1, HC'.out.2.1⟩).mono ?_
    rintro e w' ⟨rfl, rfl⟩
    rw [z2.out]
    go_wp2
    go_ret
    exact ⟨rfl, T2⟩
  · have HU := Lib.hid hu
    obtain ⟨lc, hlc⟩ : ∃ l, l = (mon u).length := ⟨_, rfl⟩
    have HLC : Hid ((mon u).length = lc) := hlc.symm
    have hlc0 : 0 < lc := by rw [hlc]; exact len_pos (mon_ne hu)
    have hlcu : Hid (u.length = lc) := by rw [Hid, hlc, mon_len]
    have hlc12 : lc ≤ 12 := by have := LU.out; have h1 := hlcu.out; have := HF.out.1; have := HG.out.1; omega
    have hlcm : lc ≤ max n n' := by have := LU.out; have h1 := hlcu.out; rw [LF.out, LG.out] at this; omega
    rw [← hlc] at Oc ⊢
    have Pc : Hid (POk (mon u)) := ⟨by rw [HLC.out]; exact hlc12, mon_pl u⟩
    have Tc : Hid (trm (mon u) = mon u) := mon_trm PU.out TU.out
    have Nc : Hid (trm (mon u) ≠ []) := by rw [Hid, Tc.out]; exact mon_ne hu
    have D1 := Lib.hid (U1.out hu).1
    have D2 := Lib.hid (U1.out hu).2
    have TOP : Hid (nth (mon u) (lc - 1) = 1) := by rw [Hid, ← hlcu.out]; exact mon_top PU.out TU.out hu
    have e0 : ((lc : Int) == 0) = false := by simp; omega
    clear hlc hu
    go_wp2_with fail
    refine (c_PDiv_ok _ _ _ _ _ _ f (mon u) _ (HL.out.on T2) Oc.out.rd HC.out.1 HC.out.2.2 Oc.out.nilcap.1 Oc.out.nilcap.2.2 HF.out Pc.out Nc.out).mono ?_
    rintro e w3 ⟨q, r, Aq, cq, Ar, cr, rfl, hd, oq, or', _, _, hb⟩
    rw [Tc.out] at hd
    obtain rfl := dv_rest Pc.out.2 (mon_tr PU.out TU.out) (mon_ne HU.out) D1.out hd
    have Oc := Lib.hid (Oc.out.keep hb)
    have T3 := T2.trans (hb.mono T2.size)
    clear oq or' hb hd
    go_wp2_with fail
    refine (c_PDiv_ok _ _ _ _ _ _ g (mon u) _ (HM.out.on T3) Oc.out.rd HC'.out.1 HC'.out.2.2 Oc.out.nilcap.1 Oc.out.nilcap.2.2 HG.out Pc.out Nc.out).mono ?_
    rintro e w4 ⟨q2, r2, Aq2, cq2, Ar2, cr2, rfl, hd, oq, or', _, _, hb⟩
    rw [Tc.out] at hd
    obtain rfl := dv_rest Pc.out.2 (mon_tr PU.out TU.out) (mon_ne HU.out) D2.out hd
    have Oc := Lib.hid (Oc.out.keep hb)
    have T4 := T3.trans (hb.mono T3.size)
    clear oq or' hb hd
    obtain ⟨gc, rfl, _, _⟩ := Oc.out.form hlc0
    have x1 := Oc.out.cell (j := lc - 1) (by omega)
    rw [TOP.out] at x1
    by_cases hh : POk h
    · have m3 : n3 ≤ 12 := by have := hh.1; rw [LH.out] at this; exact this
      have f0 := factE_ok hh
      have HH := Lib.hid hh
      clear hh
      by_cases l1 : 12 < n + n3
      · have l1' : (12 : Int) < (n : Int) + (n3 : Int) := by omega
        go_wp2_with fail
        refine (c_RFactors _ _ _ h _ _ (HK.out.on T4) (by omega)).mono ?_
        rintro e w' ⟨rfl, rfl⟩
        rw [f0]
        go_wp2
        go_ret
        exact ⟨rfl, T4⟩
      · by_cases l2 : 12 < n' + n3
        · have l1' : ¬ (12 : Int) < (n : Int) + (n3 : Int) := by omega
          have l2' : (12 : Int) < (n' : Int) + (n3 : Int) := by omega
          go_wp2_with fail
          refine (c_RFactors _ _ _ h _ _ (HK.out.on T4) (by omega)).mono ?_
          rintro e w' ⟨rfl, rfl⟩
          rw [f0]
          go_wp2
          go_ret
          exact ⟨rfl, T4⟩
        · have l1' : ¬ (12 : Int) < (n : Int) + (n3 : Int) := by omega
          have l2' : ¬ (12 : Int) < (n' : Int) + (n3 : Int) := by omega
          by_cases ht : trm h = []
          · have ht0 : Hid ((trm h).length = 0) := by rw [Hid, ht]; rfl
            clear ht
            go_wp2_with fail
            refine (c_RFactors _ _ _ h _ _ (HK.out.on T4) (by omega)).mono ?_
            rintro e w' ⟨rfl, rfl⟩
            rw [f0]
            go_wp2_with fail
            refine (c_RTrim _ _ _ h _ _ (HK.out.on T4) ⟨HC3.out.1, HC3.out.2.1⟩).mono ?_
            rintro e w' ⟨rfl, rfl⟩
            rw [ht0.out]
            go_wp2
            go_ret
            exact ⟨rfl, T4⟩
          · have NT := Lib.hid ht
            obtain ⟨th, hth⟩ : ∃ t, t = (trm h).length := ⟨_, rfl⟩
            have HTH : Hid ((trm h).length = th) := hth.symm
            have hth0 : 0 < th := by rw [hth]; exact len_pos ht
            have hth1 : ((th : Int) == 0) = false := by simp; omega
            have Pm : Hid (POk (pmul f h)) := ⟨by have := pmul_len f h; rw [LF.out, LH.out] at this; omega, pmul_pl f h⟩
            have Pn : Hid (POk (pmul g h)) := ⟨by have := pmul_len g h; rw [LG.out, LH.out] at this; omega, pmul_pl g h⟩
            have Pk : Hid (POk (pmul (mon u) h)) := ⟨by have := pmul_len (mon u) h; rw [HLC.out, LH.out] at this; omega, pmul_pl (mon u) h⟩
            have KE : Hid (pmul (mon u) h = pmul (mon u) (trm h)) := by rw [Hid, pmul_comm, ← pmul_trm, pmul_comm]
            have Nk : Hid (pmul (mon u) h ≠ []) := by rw [Hid, KE.out]; exact (pmul_len_eq (mon_pl u) (pl_trm HH.out.2) (mon_tr PU.out TU.out) (tr_trm h) (mon_ne HU.out) NT.out).2
            have GP : Hid (∀ u2, Euc (trm (pmul f h)) (trm (pmul g h)) u2 → u2 = pmul u (trm h)) := fun u2 h2 => gcd_prod HG.out HH.out NT.out HE.out h2
            have NU : Hid ((pmul u (trm h)).length = u.length + (trm h).length - 1 ∧ pmul u (trm h) ≠ []) := pmul_len_eq PU.out (pl_trm HH.out.2) TU.out (tr_trm h) HU.out NT.out
            clear ht hth
            go_wp2_with fail
            refine (c_RFactors _ _ _ h _ _ (HK.out.on T4) (by omega)).mono ?_
            rintro e w' ⟨rfl, rfl⟩
            rw [f0]
            go_wp2_with fail
            refine (c_RTrim _ _ _ h _ _ (HK.out.on T4) ⟨HC3.out.1, HC3.out.2.1⟩).mono ?_
            rintro e w' ⟨rfl, rfl⟩
            rw [HTH.out]
            go_wp2_with fail
            refine (c_PMul_ok _ _ _ _ _ _ f h _ (HL.out.on T4) (HK.out.on T4) HF.out HH.out).mono ?_
            rintro e w5 ⟨Am, cm, rfl, o, hb⟩
            have Om := Lib.hid o
            have Oc := Lib.hid (Oc.out.keep hb)
            have T5 := T4.trans (hb.mono T4.size)
            clear o hb
            go_wp2_with fail
            refine (c_PMul_ok _ _ _ _ _ _ g h _ (HM.out.on T5) (HK.out.on T5) HG.out HH.out).mono ?_
            rintro e w6 ⟨An, cn, rfl, o, hb⟩
            have On := Lib.hid o
            have Om := Lib.hid (Om.out.keep hb)
            have Oc := Lib.hid (Oc.out.keep hb)
            have T6 := T5.trans (hb.mono T5.size)
            clear o hb
            go_wp2_with fail
            refine (c_PGcd_ok _ _ _ _ _ _ (pmul f h) (pmul g h) _ Om.out.rd On.out.rd Om.out.nilcap.1 Om.out.nilcap.2.2 On.out.nilcap.1 On.out.nilcap.2.2 Pm.out Pn.out).mono ?_
            rintro e w7 ⟨u2, Ad, cd, rfl, he2, o, hb⟩
            obtain rfl := GP.out u2 he2
            have Od := Lib.hid o
            have Oc := Lib.hid (Oc.out.keep hb)
            have T7 := T6.trans (hb.mono T6.size)
            clear o hb he2 Om On
            go_wp2_with fail
            refine (c_PMul_ok _ _ _ _ _ _ (mon u) h _ Oc.out.rd (HK.out.on T7) Pc.out HH.out).mono ?_
            rintro e w8 ⟨Ak, ck, rfl, o, hb⟩
            have Ok := Lib.hid o
            have Od := Lib.hid (Od.out.keep hb)
            have T8 := T7.trans (hb.mono T7.size)
            clear o hb Oc
            obtain ⟨lk, hlk⟩ : ∃ l, l = (pmul (mon u) h).length := ⟨_, rfl⟩
            have hlk0 : ((lk : Int) == 0) = false := by
              have := len_pos Nk.out
              simp; omega
            rw [← hlk] at Ok ⊢
            clear hlk
            have Pd : Hid (POk (mon (pmul u (trm h)))) := ⟨by
              have h1 := NU.out.1
              have h2 := hlcu.out
              have h3 := HTH.out
              have h4 := trm_le h
              have h5 := LH.out
              rw [mon_len]
              omega, mon_pl _⟩
            have Td : Hid (trm (mon (pmul u (trm h))) = mon (pmul u (trm h))) := mon_trm (pmul_pl _ _) (pmul_tr _ _)
            have Nd : Hid (trm (mon (pmul u (trm h))) ≠ []) := by rw [Hid, Td.out]; exact mon_ne NU.out.2
            go_wp2_with fail
            refine (c_PDiv_ok _ _ _ _ _ _ (pmul (mon u) h) (mon (pmul u (trm h))) _ Ok.out.rd Od.out.rd Ok.out.nilcap.1 Ok.out.nilcap.2.2 Od.out.nilcap.1 Od.out.nilcap.2.2 Pk.out Pd.out Nd.out).mono ?_
            rintro e w9 ⟨q3, r3, Aq3, cq3, Ar3, cr3, rfl, hd, oq, or', _, _, hb⟩
            rw [Td.out, KE.out] at hd
            obtain ⟨d1, rfl⟩ := gcd_times PU.out TU.out HU.out (pl_trm HH.out.2) (tr_trm h) NT.out hd
            rw [d1]
            have T9 := T8.trans (hb.mono T8.size)
            clear oq or' hb hd d1
            go_wp2
            go_ret
            exact ⟨rfl, T9⟩
    · have f0 := (factE_bad hh).2
      have f1 : (factE h != 0) = true := by simp [f0]
      clear f0 hh
      go_wp2_with fail
      refine (c_RFactors _ _ _ h _ _ (HK.out.on T4) (by have := HC3.out; omega)).mono ?_
      rintro e w' ⟨rfl, rfl⟩
      go_wp2
      go_ret
      exact ⟨rfl, T4⟩
end
theorem frame_PolyGcd (A : Option Addr) (n c : Nat) (f : List Int) (A' : Option Addr) (n' c' : Nat) (g : List Int) (A3 : Option Addr) (n3 c3 : Nat) (h : List Int) (w : World)
    (hL : Rd w w.heap.size A n f) (hc : n ≤ c ∧ c ≤ 9223372036854775807 ∧ (A = none → c = 0)) (_ : ∀ x ∈ f, Fits x) (hM : Rd w w.heap.size A' n' g) (hc' : n' ≤ c' ∧ c' ≤ 9223372036854775807 ∧ (A' = none → c' = 0)) (_ : ∀ x ∈ g, Fits x) (hK : Rd w w.heap.size A3 n3 h) (hc3 : n3 ≤ c3 ∧ c3 ≤ 9223372036854775807 ∧ (A3 = none → c3 = 0)) (_ : ∀ x ∈ h, Fits x) :
    Calls Try.prog 6 #[.slice A n c, .slice A' n' c', .slice A3 n3 c3] w fun e w' => e = .returned (.bool true) ∧ Below w.heap.size w w' := by
  by_cases h1 : POk f ∧ POk g
  · exact pgcd_ok A A' A3 n n' n3 c c' c3 f g h w hL hM hK hc hc' hc3 h1.1 h1.2
  · exact pgcd_bad A A' A3 n n' n3 c c' c3 f g w hL hM h1
end Go.Proofs.Ytaidincogkfodaa
