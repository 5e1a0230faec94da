/- The contracts of package poly: Div, Gcd. -/
import Derived.Test.YtaidincogkfodaaDoorPolyH
namespace Go.Proofs.YtaidincogkfodaaDoor
open Go.RowKit

section
variable (A A' : Option Addr) (n n' c c' : Nat) (f g : List Int) (w : World)
theorem c_PDiv_bad (hL : Rd w w.heap.size A n f) (hM : Rd w w.heap.size A' n' g) (h : ¬ (POk f ∧ POk g)) :
    Calls Tryd.prog 17 #[.slice A n c, .slice A' n' c'] w fun e w' => e = .returned (.tuple #[.slice none 0 0, .slice none 0 0, .iface 46 (.int .i64 (bothE f g))]) ∧ Below w.heap.size w w' := by
  have H := Lib.hid h
  clear h
  go_enter Tryd.func17, Tryd.ntmps17
  go_wp2_with fail
  refine (c_both_bad _ _ _ _ _ _ f g _ _ _ hL hM H.out).mono ?_
  rintro e w1 ⟨rfl, hb1⟩
  go_wp2
  go_ret3
  exact ⟨rfl, hb1⟩
theorem c_PDiv_nul (hL : Rd w w.heap.size A n f) (hM : Rd w w.heap.size A' n' g) (hc' : n' ≤ c') (hz' : A' = none → c' = 0) (h : POk f) (h' : POk g) (h0 : trm g = []) :
    Calls Tryd.prog 17 #[.slice A n c, .slice A' n' c'] w fun e w' => e = .returned (.tuple #[.slice none 0 0, .slice none 0 0, .iface 46 (.int .i64 5)]) ∧ Below w.heap.size w w' := by
  have H := Lib.hid h
  have H' := Lib.hid h'
  have HL := Lib.hid hL
  have HM := Lib.hid hM
  have hn' : n' ≤ 12 := by rw [← hM.1]; exact h'.1
  have HZ : Hid ((trm g).length = 0) := by rw [Hid, h0]; rfl
  have HZ' := Lib.hid hz'
  clear h h' hL hM h0 hz'
  go_enter Tryd.func17, Tryd.ntmps17
  go_wp2_with fail
  refine (c_both_ok _ _ _ _ _ _ f g _ _ _ HL.out HM.out H.out H'.out).mono ?_
  rintro e w1 ⟨rfl, hb1⟩
  go_wp2_with fail
  refine (c_trim _ _ _ _ _ ((HM.out.below hb1).more hb1.size) hc' (by omega) HZ'.out).mono ?_
  rintro e w2 ⟨A2, c2, rfl, o2, hb2⟩
  rw [HZ.out]
  have B2 := Lib.hid (hb1.trans (hb2.mono hb1.size))
  clear o2 hb1 hb2
  go_wp2
  go_ret3
  exact ⟨rfl, B2.out⟩
set_option maxHeartbeats 1000000 in
theorem c_PDiv_ok (hL : Rd w w.heap.size A n f) (hM : Rd w w.heap.size A' n' g) (hc : n ≤ c) (hz : A = none → c = 0) (hc' : n' ≤ c') (hz' : A' = none → c' = 0) (h : POk f) (h' : POk g) (h0 : trm g ≠ []) :
    Calls Tryd.prog 17 #[.slice A n c, .slice A' n' c'] w fun e w' => ∃ (q r : List Int) (Aq : Option Addr) (cq : Nat) (Ar : Option Addr) (cr : Nat), e = .returned (.tuple #[.slice Aq q.length cq, .slice Ar r.length cr, .nilIface]) ∧ DivOk f (trm g) q r ∧ Own w' w.heap.size Aq q.length cq q ∧ Own w' w.heap.size Ar r.length cr r ∧ r.length ≤ n ∧ (q ≠ [] → q.length + (trm g).length ≤ n + 1) ∧ Below w.heap.size w w' := by
  have H := Lib.hid h
  have H' := Lib.hid h'
  have HL := Lib.hid hL
  have HM := Lib.hid hM
  have hn : n ≤ 12 := by rw [← hL.1]; exact h.1
  have hn' : n' ≤ 12 := by rw [← hM.1]; exact h'.1
  have HZ := Lib.hid hz
  have HZ' := Lib.hid hz'
  have H0 := Lib.hid h0
  have hl := len_pos h0
  have hl2 := trm_le g
  rw [hM.1] at hl2
  obtain ⟨m, hm⟩ : ∃ m, m = (trm g).length := ⟨_, rfl⟩
  rw [← hm] at hl hl2
  have HM' : Hid ((trm g).length = m) := hm.symm
  clear h h' hL hM h0 hz' hz hm
  go_enter Tryd.func17, Tryd.ntmps17
  go_wp2_with fail
  refine (c_both_ok _ _ _ _ _ _ f g _ _ _ HL.out HM.out H.out H'.out).mono ?_
  rintro e w1 ⟨rfl, hb1⟩
  go_wp2_with fail
  refine (c_trim _ _ _ _ _ ((HM.out.below hb1).more hb1.size) hc' (by omega) HZ'.out).mono ?_
  rintro e w2 ⟨A2, c2, rfl, o2, hb2⟩
  rw [HM'.out] at o2 ⊢
  have B2 := Lib.hid (hb1.trans (hb2.mono hb1.size))
  have O2 := Lib.hid o2
  have e0 : ((m : Int) == 0) = false := by simp; omega
  clear o2 hb1 hb2
  go_wp2_with fail
  refine (c_divide _ _ _ _ _ _ f (trm g) _ ((HL.out.below B2.out).more B2.out.size) O2.out.rd hc HZ.out (by omega) (by omega) H.out.2 (pl_trm H'.out.2) (tr_trm g) H0.out).mono ?_
  rintro e w3 ⟨q, r, Aq, cq, Ar, cr, rfl, hd, oq, or', hrn, _, hqn, hb3⟩
  have OQ := Lib.hid (oq.base_le B2.out.size)
  have OR := Lib.hid (or'.base_le B2.out.size)
  have B3 := Lib.hid (B2.out.trans (hb3.mono B2.out.size))
  have HD := Lib.hid hd
  have HQ := Lib.hid hqn
  clear oq or' hb3 hd hqn
  go_wp2
  go_ret3
  exact ⟨q, r, Aq, cq, Ar, cr, rfl, HD.out, OQ.out, OR.out, hrn, fun h => by rw [HM'.out]; exact HQ.out h, B3.out⟩
theorem c_PGcd_bad (hL : Rd w w.heap.size A n f) (hM : Rd w w.heap.size A' n' g) (h : ¬ (POk f ∧ POk g)) :
    Calls Tryd.prog 14 #[.slice A n c, .slice A' n' c'] w fun e w' => e = .returned (.tuple #[.slice none 0 0, .iface 46 (.int .i64 (bothE f g))]) ∧ Below w.heap.size w w' := by
  have H := Lib.hid h
  clear h
  go_enter Tryd.func14, Tryd.ntmps14
  go_wp2_with fail
  refine (c_both_bad _ _ _ _ _ _ f g _ _ _ hL hM H.out).mono ?_
  rintro e w1 ⟨rfl, hb1⟩
  go_wp2
  go_ret2
  exact ⟨rfl, hb1⟩
/-- The first k coefficients scaled. -/
def monP (u : List Int) (k : Nat) : List Int := mk u.length fun j => if j < k then nth u j * ovl u % 9973 else nth u j
theorem monP_zero (u : List Int) : monP u 0 = u := by
  unfold monP
  conv => rhs; rw [← mk_of u u.length rfl]
  exact mk_congr fun j _ => by rw [if_neg (by omega)]
theorem monP_at (u : List Int) (k : Nat) (h : k < u.length) : nth (monP u k) k = nth u k := by
  unfold monP; rw [mk_nth' _ h, if_neg (by omega)]
theorem monP_step (u : List Int) (k : Nat) : (monP u k).set k (nth u k * ovl u % 9973) = monP u (k + 1) := by
  unfold monP
  rw [mk_set]
  refine mk_congr fun j _ => ?_
  by_cases e : j = k
  · subst e; rw [if_pos rfl, if_pos (by omega)]
  · rw [if_neg e]
    by_cases h : j < k
    · rw [if_pos h, if_pos (by omega)]
    · rw [if_neg h, if_neg (by omega)]
theorem monP_all (u : List Int) : monP u u.length = mon u := by
  unfold monP mon
  exact mk_congr fun j hj => by rw [if_pos hj]
set_option maxHeartbeats 4000000 in
theorem c_PGcd_ok (hL : Rd w w.heap.size A n f) (hM : Rd w w.heap.size A' n' g) (hc : n ≤ c) (hz : A = none → c = 0) (hc' : n' ≤ c') (hz' : A' = none → c' = 0) (h : POk f) (h' : POk g) :
    Calls Tryd.prog 14 #[.slice A n c, .slice A' n' c'] w fun e w' => ∃ (u : List Int) (A2 : Option Addr) (c2 : Nat), e = .returned (.tuple #[.slice A2 (mon u).length c2, .nilIface]) ∧ Euc (trm f) (trm g) u ∧ Own w' w.heap.size A2 (mon u).length c2 (mon u) ∧ Below w.heap.size w w' := by
  have H := Lib.hid h
  have H' := Lib.hid h'
  have HL := Lib.hid hL
  have HM := Lib.hid hM
  have hn : n ≤ 12 := by rw [← hL.1]; exact h.1
  have hn' : n' ≤ 12 := by rw [← hM.1]; exact h'.1
  have HZ := Lib.hid hz
  have HZ' := Lib.hid hz'
  have hl1 := trm_le f
  have hl2 := trm_le g
  rw [hL.1] at hl1
  rw [hM.1] at hl2
  obtain ⟨m1, hm1⟩ : ∃ m, m = (trm f).length := ⟨_, rfl⟩
  obtain ⟨m2, hm2⟩ : ∃ m, m = (trm g).length := ⟨_, rfl⟩
  rw [← hm1] at hl1
  rw [← hm2] at hl2
  have HM1 : Hid ((trm f).length = m1) := hm1.symm
  have HM2 : Hid ((trm g).length = m2) := hm2.symm
  clear h h' hL hM hz' hz hm1 hm2
  go_enter Tryd.func14, Tryd.ntmps14
  go_wp2_with fail
  refine (c_both_ok _ _ _ _ _ _ f g _ _ _ HL.out HM.out H.out H'.out).mono ?_
  rintro e w1 ⟨rfl, hb1⟩
  go_wp2_with fail
  refine (c_trim _ _ _ _ _ ((HL.out.below hb1).more hb1.size) hc (by omega) HZ.out).mono ?_
  rintro e w2 ⟨A2, c2, rfl, o2, hb2⟩
  rw [HM1.out] at o2 ⊢
  have B2 := Lib.hid (hb1.trans (hb2.mono hb1.size))
  have O2 := Lib.hid (o2.base_le hb1.size)
  clear o2 hb1 hb2
  go_wp2_with fail
  refine (c_trim _ _ _ _ _ ((HM.out.below B2.out).more B2.out.size) hc' (by omega) HZ'.out).mono ?_
  rintro e w3 ⟨A3, c3, rfl, o3, hb3⟩
  rw [HM2.out] at o3 ⊢
  have B3 := Lib.hid (B2.out.trans (hb3.mono B2.out.size))
  have O3 := Lib.hid (o3.base_le B2.out.size)
  have O2' := Lib.hid (O2.out.keep hb3)
  clear o3 hb3
  go_wp2
  go_loopw [0, 1] (fun s t wr => ∃ (F G : List Int) (a0 : Option Addr) (k0 : Nat) (a1 : Option Addr) (k1 : Nat) (l0 l1 : Nat), s = .slice a0 l0 k0 ∧ t = .slice a1 l1 k1 ∧ l0 ≤ 12 ∧ l1 ≤ 12 ∧ Hid (F.length = l0 ∧ G.length = l1 ∧ PL F ∧ Tr F ∧ PL G ∧ Tr G) ∧ Hid (∀ u, Euc F G u → Euc (trm f) (trm g) u) ∧ Hid (Own wr w.heap.size a0 l0 k0 F) ∧ Hid (Own wr w.heap.size a1 l1 k1 G) ∧ Below w.heap.size w wr) (fun _ t _ => lenV t)
  case atStart => exact ⟨trm f, trm g, A2, c2, A3, c3, m1, m2, rfl, rfl, by omega, by omega, ⟨HM1.out, HM2.out, pl_trm H.out.2, tr_trm f, pl_trm H'.out.2, tr_trm g⟩, fun u h => h, O2'.out, O3.out, B3.out⟩
  case round =>
    obtain ⟨F, G, a0, k0, a1, k1, l0, l1, rfl, rfl, h0, h1, HP, HE, HF, HG, hbr⟩ := hrel
    by_cases hl : l1 = 0
    · have hG : Hid (G = []) := List.eq_nil_of_length_eq_zero (by rw [HP.out.2.1]; exact hl)
      have HE' : Hid (Euc (trm f) (trm g) F) := HE.out F (by rw [hG.out]; exact Euc.done F)
      have hlz : ¬ 0 < l1 := by omega
      have HLZ := Lib.hid hl
      clear hl
      by_cases hf0 : l0 = 0
      · have hF : Hid (F = []) := List.eq_nil_of_length_eq_zero (by rw [HP.out.1]; exact hf0)
        have e0 : ((l0 : Int) == 0) = true := by simp [hf0]
        have ON : Hid (Own wr w.heap.size none (mon ([] : List Int)).length 0 (mon [])) := Own.nil _ _
        have HE0 : Hid (Euc (trm f) (trm g) []) := by rw [Hid, ← hF.out]; exact HE'.out
        clear hf0
        go_wp2
        go_ret2
        exact ⟨[], none, 0, rfl, HE0.out, ON.out, hbr⟩
      · have e0 : ((l0 : Int) == 0) = false := by simp; omega
        obtain ⟨gf, rfl, hg1, hg2⟩ := HF.out.form (by omega)
        have x1 := HF.out.cell (j := l0 - 1) (by omega)
        have hlb := HP.out.2.2.1 (l0 - 1)
        have HOV : Hid (∀ w : World, Calls Tryd.prog 35 #[.int .i64 (nth F (l0 - 1))] w fun e w' => e = .returned (.int .i64 (ovl F)) ∧ w = w') := fun w => by
          unfold ovl
          rw [HP.out.1]
          exact c_Over _ w hlb.1 hlb.2
        have hob := ovl_bd F
        obtain ⟨ld, hld⟩ : ∃ ld, ld = nth F (l0 - 1) := ⟨_, rfl⟩
        obtain ⟨ov, hov⟩ : ∃ ov, ov = ovl F := ⟨_, rfl⟩
        rw [← hld] at x1 HOV
        rw [← hov] at HOV hob
        have HOVV := Lib.hid hov
        clear hld hov hlb
        go_wp2_with fail
        refine (HOV.out _).mono ?_
        rintro e w' ⟨rfl, rfl⟩
        have HF0 : Hid (Own wr w.heap.size (some ⟨gf, 0, none⟩) l0 k0 (monP F 0)) := by rw [Hid, monP_zero]; exact HF.out
        go_wp2
        go_loopw [44] (fun v wr => ∃ k : Nat, k ≤ l0 ∧ v = .int .i64 k ∧ Hid (Own wr w.heap.size (some ⟨gf, 0, none⟩) l0 k0 (monP F k)) ∧ Below w.heap.size w wr) (fun v _ => l0 - (intOf v).toNat)
        case atStart => exact ⟨0, Nat.zero_le _, rfl, HF0.out, hbr⟩
        case round =>
          obtain ⟨k, hk, rfl, HO, hbr⟩ := hrel
          by_cases hlt : k < l0
          · have z1 := HO.out.cell hlt
            have z2 := HO.out.free k
            rw [monP_at F k (by rw [HP.out.1]; exact hlt)] at z1
            have bz := HP.out.2.2.1 k
            have HT := Lib.hid (monP_step F k)
            rw [← HOVV.out] at HT
            obtain ⟨z, hz⟩ : ∃ z, z = nth F k := ⟨_, rfl⟩
            rw [← hz] at z1 bz HT
            clear hz
            have bm := mul_bd z ov 9973 bz.1 bz.2 hob.1 hob.2
            have HN : Hid (Own (wr.setCell ⟨gf, k, none⟩ (.int .i64 (z * ov % 9973))) w.heap.size (some ⟨gf, 0, none⟩) l0 k0 (monP F (k + 1))) := own_set HO.out HT.out
            have HB := Lib.hid (hbr.setCell (p := ⟨gf, k, none⟩) hg1 (.int .i64 (z * ov % 9973)))
            go_wp2
            go_roundw
            case rel => exact ⟨k + 1, by omega, by go_num, HN.out, HB.out⟩
            case measure => simp [intOf]; omega
          · obtain rfl : k = l0 := by omega
            have HX : Hid ((mon F).length = k) := by rw [Hid, mon_len, HP.out.1]
            have HO' : Hid (Own wr w.heap.size (some ⟨gf, 0, none⟩) k k0 (mon F)) := by rw [Hid, ← monP_all, HP.out.1]; exact HO.out
            go_wp2
            go_ret2
            exact ⟨F, some ⟨gf, 0, none⟩, k0, by rw [HX.out]; rfl, HE'.out, by rw [HX.out]; exact HO'.out, hbr⟩
    · have hlp : 0 < l1 := by omega
      have hGn : Hid (G ≠ []) := fun e => by have := HP.out.2.1; rw [e] at this; simp at this; omega
      go_wp2_with fail
      refine (c_divide _ _ _ _ _ _ F G _ HF.out.rd HG.out.rd HF.out.nilcap.1 HF.out.nilcap.2.2 (by omega) (by omega) HP.out.2.2.1 HP.out.2.2.2.2.1 HP.out.2.2.2.2.2 hGn.out).mono ?_
      rintro e w4 ⟨q, r, Aq, cq, Ar, cr, rfl, hd, oq, or', hrn, _, _, hb4⟩
      have hrl : r.length < l1 := by have := hd.2.2.2.2.1; rw [HP.out.2.1] at this; exact this
      obtain ⟨lr, hlr⟩ : ∃ lr, lr = r.length := ⟨_, rfl⟩
      have HE4 : Hid (∀ u, Euc G r u → Euc (trm f) (trm g) u) := fun u h => HE.out u (Euc.step hGn.out hd h)
      have HP4 : Hid (G.length = l1 ∧ r.length = lr ∧ PL G ∧ Tr G ∧ PL r ∧ Tr r) := ⟨HP.out.2.1, hlr.symm, HP.out.2.2.2.2.1, HP.out.2.2.2.2.2, hd.2.2.1, hd.2.2.2.1⟩
      rw [← hlr] at or' hrl ⊢
      have OR := Lib.hid (or'.base_le hbr.size)
      have OG := Lib.hid (HG.out.keep hb4)
      have B4 := Lib.hid (hbr.trans (hb4.mono hbr.size))
      clear oq or' hb4 hd hlr
      go_wp2
      go_roundw
      case rel => exact ⟨G, r, a1, k1, Ar, cr, l1, lr, rfl, rfl, h1, by omega, HP4.out, HE4.out, OG.out, OR.out, B4.out⟩
      case measure => simp [lenV]; omega
end
end Go.Proofs.YtaidincogkfodaaDoor
