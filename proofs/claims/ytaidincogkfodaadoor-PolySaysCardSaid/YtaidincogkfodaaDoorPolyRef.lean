/- The contracts of the reference's At, Divide, Common. -/
import Derived.Test.YtaidincogkfodaaDoorPolyRM
namespace Go.Proofs.YtaidincogkfodaaDoor
open Go.RowKit

set_option maxHeartbeats 1000000 in
theorem c_RAt (A : Option Addr) (n c : Nat) (L : List Int) (x : Int) (B : Nat) (w : World) (hL : Rd w B A n L) (hn : n ≤ 100) (pl : PL L) (hx : 0 ≤ x ∧ x ≤ 9972) :
    Calls Tryd.prog 19 #[.slice A n c, .int .i64 x] w fun e w' => e = .returned (.int .i64 (pat L x)) ∧ ∃ q, w.drewN q = w' := by
  have HL := Lib.hid hL
  have HP := Lib.hid pl
  have HE : Hid (evp L x n = pat L x) := by rw [Hid, ← hL.1]; rfl
  have HB : Hid (∀ k, 0 ≤ evp L x k ∧ evp L x k < 9973) := fun k => emod_pl _
  have E0 : Hid (evp L x 0 = 0) := rfl
  clear hL pl
  go_enter Tryd.func19, Tryd.ntmps19
  go_wp2
  go_loopw [5, 6] (fun s i wr => ∃ (k : Nat) (z : Int), k ≤ n ∧ i = .int .i64 k ∧ s = .int .i64 z ∧ Hid (z = evp L x k) ∧ ∃ q, wr = w.drewN q) (fun _ i _ => n - (intOf i).toNat)
  case atStart => exact ⟨0, 0, Nat.zero_le _, rfl, rfl, E0.out.symm, 0, rfl⟩
  case round =>
    obtain ⟨k, z, hk, rfl, rfl, hz, q, rfl⟩ := hrel
    by_cases hlt : k < n
    · obtain ⟨b, off, rfl, hc⟩ := HL.out.at_ hlt
      have b1 := HP.out k
      have b2 := pw_bd x k
      have b3 := HB.out k
      rw [← hz.out] at b3
      have HS : Hid ((z + nth L k * pw x k) % 9973 = evp L x (k + 1)) := by rw [Hid, hz.out]; exact evp_succ L x k
      obtain ⟨y, hy⟩ : ∃ y, y = nth L k := ⟨_, rfl⟩
      obtain ⟨p, hp⟩ : ∃ p, p = pw x k := ⟨_, rfl⟩
      have CP : Hid (∀ q, Calls Tryd.prog 36 #[.int .i64 x, .int .i64 k] (w.drewN q) fun e w' => e = .returned (.int .i64 p) ∧ w.drewN q = w') := fun q => by
        rw [hp]; exact c_RPow (k + 1) x k _ (by omega) hx.1 (by omega) (by omega)
      rw [← hy] at hc b1 HS
      rw [← hp] at b2 HS
      have bm := mul_bd y p 9973 b1.1 b1.2 b2.1 b2.2
      have CM : Hid (∀ q, Calls Tryd.prog 29 #[.int .i64 (z + y * p)] (w.drewN q) fun e w' => e = .returned (.int .i64 ((z + y * p) % 9973)) ∧ w.drewN q = w') := fun q => c_RMod _ _ (by omega) (by omega)
      have W1 : IntKind.i64.wrap (y * p) = y * p := IntWalk.i64_in _ (by omega)
      have W2 : IntKind.i64.wrap (z + y * p) = z + y * p := IntWalk.i64_in _ (by omega)
      clear hy hp
      go_wp2_with fail
      go_quiet (first | (go_at_call 36; first | exact quiet_left (CP.out _) | exact quiet_add_left (CP.out _)) | (go_at_call 29; first | exact quiet_left (CM.out _) | exact quiet_add_left (CM.out _)))
      go_wp2
      go_roundw
      case rel => exact ⟨k + 1, _, by omega, by go_num, rfl, HS.out, _, rfl⟩
      case measure => simp [intOf]; omega
    · obtain rfl : k = n := by omega
      go_wp2
      go_ret
      exact ⟨ret_int (by rw [hz.out, HE.out]), _, rfl⟩
set_option maxHeartbeats 4000000 in
set_option maxRecDepth 100000 in
theorem c_RDivide (A A' : Option Addr) (n n' c c' : Nat) (f g : List Int) (w : World) (hL : Rd w w.heap.size A n f) (hM : Rd w w.heap.size A' n' g) (hc : n ≤ c ∧ c ≤ 9223372036854775807) (hc' : n' ≤ c' ∧ c' ≤ 9223372036854775807) (hn : n ≤ 30) (hn' : n' ≤ 30) (pf : PL f) (pg : PL g) (h0 : trm g ≠ []) :
    Calls Tryd.prog 16 #[.slice A n c, .slice A' n' c'] w fun e w' => ∃ (q r : List Int) (Aq : Option Addr) (cq : Nat) (Ar : Option Addr) (cr : Nat), e = .returned (.tuple #[.slice Aq q.length cq, .slice Ar r.length cr]) ∧ DivOk f (trm g) q r ∧ Rd w' w'.heap.size Aq q.length q ∧ Rd w' w'.heap.size Ar r.length r ∧ (r.length ≤ cr ∧ cr ≤ 9223372036854775807) ∧ Below w.heap.size w w' := by
  have l1 := tr_lead (pl_trm pg) (tr_trm g) h0
  have lg0 := len_pos h0
  have hlf := trm_le f
  have hlg := trm_le g
  rw [hL.1] at hlf
  rw [hM.1] at hlg
  have HRF := rd_trm hL
  have HRG := rd_trm hM
  have PG := Lib.hid (pl_trm pg)
  have TG := Lib.hid (tr_trm g)
  have NG := Lib.hid h0
  have DS : Hid (DivR f (trm g) [] (trm f) 30) := divr_start pf (by omega)
  have DN : Hid (∀ q r c, DivR f (trm g) q r 30 → (trm g).length ≤ r.length → c = nth r (r.length - 1) * pw (nth (trm g) ((trm g).length - 1)) 9971 % 9973 → DivR f (trm g) (plu q [c] 1 (r.length - (trm g).length)) (plu r (trm g) (-c) (r.length - (trm g).length)) 30 ∧ (plu r (trm g) (-c) (r.length - (trm g).length)).length < r.length) := fun q r c h1 h2 h3 => divr_next (pl_trm pg) (tr_trm g) h0 h1 h2 h3
  have DE : Hid (∀ q r, DivR f (trm g) q r 30 → r.length < (trm g).length → DivOk f (trm g) q r) := fun q r h1 h2 => divr_end h1 h2
  have CT1 : Hid (∀ w1 : World, Below w.heap.size w w1 → Calls Tryd.prog 15 #[.slice A n c] w1 fun e w' => e = .returned (.slice A (trm f).length c) ∧ w1 = w') := fun w1 hb => c_RTrim A n c f _ w1 (hL.below hb) hc
  have CT2 : Hid (∀ w1 : World, Below w.heap.size w w1 → Calls Tryd.prog 15 #[.slice A' n' c'] w1 fun e w' => e = .returned (.slice A' (trm g).length c') ∧ w1 = w') := fun w1 hb => c_RTrim A' n' c' g _ w1 (hM.below hb) hc'
  obtain ⟨F, hF⟩ : ∃ F, F = trm f := ⟨_, rfl⟩
  obtain ⟨G, hG⟩ : ∃ G, G = trm g := ⟨_, rfl⟩
  rw [← hF] at hlf HRF DS CT1
  rw [← hG] at l1 lg0 hlg HRG PG TG NG DS DN DE CT2 ⊢
  obtain ⟨lf, elf⟩ : ∃ l, l = F.length := ⟨_, rfl⟩
  obtain ⟨lg, elg⟩ : ∃ l, l = G.length := ⟨_, rfl⟩
  rw [← elf] at hlf HRF CT1
  rw [← elg] at l1 lg0 hlg HRG DN DE CT2
  have ELF := Lib.hid elf
  have ELG := Lib.hid elg
  obtain ⟨ld, hld⟩ : ∃ ld, ld = nth G (lg - 1) := ⟨_, rfl⟩
  rw [← hld] at l1 DN
  have HLD := Lib.hid hld
  obtain ⟨_, l2, l3⟩ := l1
  have HF := Lib.hid HRF
  have HG := Lib.hid HRG
  clear hF hG elf elg hld hL hM HRF HRG pf pg h0
  go_enter Tryd.func16, Tryd.ntmps16
  go_wp2_with fail
  refine (CT1.out _ (Below.refl _ _)).mono ?_
  rintro e w' ⟨rfl, rfl⟩
  go_wp2_with fail
  refine (CT2.out _ (Below.refl _ _)).mono ?_
  rintro e w' ⟨rfl, rfl⟩
  go_wp2_with (at_make; refine wp_make rfl _ _ rfl 0 _ rfl rfl (by omega) (by omega) ?_)
  intro w2 own hb hlt2
  have OQ : Hid (Own w2 w.heap.size (some ⟨w.heap.size, 0, none⟩) 0 0 []) := own
  have R2 := Lib.hid ((HF.out.below hb).more hb.size)
  clear own
  go_wp2
  go_loopw [0, 6] (fun s t wr => ∃ (q r : List Int) (Ar : Option Addr) (cr lr : Nat) (Aq : Option Addr) (cq lq : Nat), s = .slice Ar lr cr ∧ t = .slice Aq lq cq ∧ lr ≤ 30 ∧ lq ≤ 30 ∧ (lr ≤ cr ∧ cr ≤ 9223372036854775807) ∧ Hid (r.length = lr ∧ q.length = lq) ∧ Hid (DivR f G q r 30) ∧ Hid (Own wr w.heap.size Aq lq cq q) ∧ Hid (Rd wr wr.heap.size Ar lr r) ∧ Below w.heap.size w wr) (fun s _ _ => match s with | .slice _ l _ => l | _ => 0)
  case atStart => exact ⟨[], F, A, c, lf, _, 0, 0, rfl, rfl, by omega, by omega, ⟨by omega, hc.2⟩, ⟨ELF.out.symm, rfl⟩, DS.out, OQ.out, R2.out, hb⟩
  case round =>
    obtain ⟨q, r, Ar, cr, lr, Aq, cq, lq, rfl, rfl, hr30, hq30, hcr, HLN, HD, HQ, HR, hbr⟩ := hrel
    by_cases hge : lg ≤ lr
    · obtain ⟨b, off, rfl, x1⟩ := HR.out.at_ (k := lr - 1) (by omega)
      obtain ⟨b', off', rfl, y1⟩ := (HG.out.below hbr).at_ (k := lg - 1) (by omega)
      have bl := HD.out.2.2.1 (lr - 1)
      have HN := DN.out q r
      rw [HLN.out.1] at HN
      obtain ⟨t, ht⟩ : ∃ t, t = nth r (lr - 1) := ⟨_, rfl⟩
      rw [← ht] at x1 bl HN
      rw [← HLD.out] at y1
      have hN2 := HN (t * pw ld 9971 % 9973) HD.out hge rfl
      have DV : Hid (∀ q, Calls Tryd.prog 31 #[.int .i64 t, .int .i64 ld] (wr.drewN q) fun e w' => e = .returned (.int .i64 (t * pw ld 9971 % 9973)) ∧ wr.drewN q = w') := fun q => c_RDiv t ld _ bl.1 bl.2 l2 l3
      have bk := emod_pl (t * pw ld 9971)
      obtain ⟨k, hk⟩ : ∃ k, k = t * pw ld 9971 % 9973 := ⟨_, rfl⟩
      rw [← hk] at hN2 DV bk
      have W1 : IntKind.i64.wrap ((lr : Int) - 1) = ((lr - 1 : Nat) : Int) := by rw [IntWalk.i64_in _ (by omega)]; omega
      have W2 : IntKind.i64.wrap ((lg : Int) - 1) = ((lg - 1 : Nat) : Int) := by rw [IntWalk.i64_in _ (by omega)]; omega
      have W3 : (lr : Int) - (lg : Int) = ((lr - lg : Nat) : Int) := by omega
      have LT1 : lr - 1 < lr := by omega
      have LT2 : lg - 1 < lg := by omega
      have N1 := Lib.hid hN2.1
      have N2 := hN2.2
      obtain ⟨u, hu⟩ : ∃ u, u = lr - lg := ⟨_, rfl⟩
      have hu30 : u ≤ 30 := by omega
      rw [← hu] at W3 N1 N2
      have HDV := Lib.hid hu
      clear hN2 HN ht hk hu
      go_wp2_with fail
      go_quiet ((go_at_call 31; first | exact quiet_left (DV.out _) | exact quiet_add_left (DV.out _)))
      have hbr1 := below_drewN hbr nq
      have Q1 := Lib.hid (HQ.out.drewN nq)
      have R1 : Hid (Rd (wr.drewN nq) (wr.drewN nq).heap.size (some ⟨b, off, none⟩) lr r) := HR.out
      obtain ⟨w3, hw3⟩ : ∃ w3, w3 = wr.drewN nq := ⟨_, rfl⟩
      rw [← hw3] at hbr1 Q1 R1 ⊢
      clear hw3 DV W1 W2 LT1 LT2 x1 y1 hbr HQ HR
      have hs3 := hbr1.size
      have r1 := Lib.hid ((rd_one'' w3 k 3).more (B' := (w3.alloc (.cells #[.int .i64 k] 3)).heap.size) (by simp))
      have S1 := below_one w3 (.cells #[.int .i64 k] 3)
      have hbr2 := hbr1.trans (S1.mono hs3)
      have Q2 := Lib.hid (Q1.out.keep S1)
      have R2 := Lib.hid ((R1.out.below S1).more S1.size)
      have pk : Hid (PL [k]) := pl_of (by intro z hz; simp at hz; omega)
      have hs2 := hbr2.size
      clear S1 Q1 R1
      go_wp2_with fail
      refine (c_RPlus _ _ _ _ _ _ q [k] 1 u _ _ _ Q2.out.rd r1.out (Nat.le_refl _) (Nat.le_refl _) (by omega) (by omega) (by omega) (by omega) HD.out.1 pk.out).mono ?_
      rintro e w4 ⟨A4, c4, rfl, o, hb⟩
      have Q4 := Lib.hid (o.base_le hs2)
      have hbr4 := hbr2.trans (hb.mono hs2)
      have R4 := Lib.hid ((R2.out.below hb).more hb.size)
      have hs4 := hbr4.size
      obtain ⟨lq', hlq⟩ : ∃ l, l = (plu q [k] 1 u).length := ⟨_, rfl⟩
      have HLQ := Lib.hid hlq
      have hq5 := N1.out.2.2.2.2.1
      rw [← hlq] at Q4 hq5 ⊢
      clear o hb Q2 R2 r1 hlq hbr2
      go_wp2_with fail
      refine (c_RPlusN _ _ _ _ _ _ r G (-k) u _ _ _ R4.out ((HG.out.below hbr4).more hs4) (Nat.le_refl _) (Nat.le_refl _) (by omega) (by omega) (by omega) (by omega) HD.out.2.2.1 PG.out).mono ?_
      rintro e w5 ⟨A5, c5, rfl, o, hb⟩
      have R5 := Lib.hid o.rd
      have nc := o.nilcap
      have Q5 := Lib.hid (Q4.out.keep hb)
      have hbr5 := Lib.hid (hbr4.trans (hb.mono hs4))
      obtain ⟨lr', hlr⟩ : ∃ l, l = (plu r G (-k) u).length := ⟨_, rfl⟩
      have HLR := Lib.hid hlr
      rw [← hlr] at R5 N2 nc ⊢
      have nc1 := nc.1
      have nc2 := nc.2.1
      clear o hb Q4 R4 hlr hbr4 nc
      go_wp2
      go_roundw
      case rel => exact ⟨plu q [k] 1 u, plu r G (-k) u, A5, c5, lr', A4, c4, lq', rfl, rfl, by omega, hq5, ⟨nc1, nc2⟩, ⟨HLR.out.symm, HLQ.out.symm⟩, N1.out, Q5.out, R5.out, hbr5.out⟩
      case measure => simp; omega
    · have HE : Hid (DivOk f G q r) := DE.out q r HD.out (by rw [HLN.out.1]; omega)
      go_wp2
      go_ret2
      exact ⟨q, r, Aq, cq, Ar, cr, by rw [HLN.out.1, HLN.out.2]; rfl, HE.out, by rw [HLN.out.2]; exact HQ.out.rd, by rw [HLN.out.1]; exact HR.out, by rw [HLN.out.1]; exact hcr, hbr⟩
set_option maxHeartbeats 4000000 in
set_option maxRecDepth 100000 in
theorem c_RCommon (m : Nat) : ∀ (A A' : Option Addr) (n n' c c' : Nat) (f g : List Int) (w : World), (trm g).length < m → Rd w w.heap.size A n f → Rd w w.heap.size A' n' g → (n ≤ c ∧ c ≤ 9223372036854775807) → (n' ≤ c' ∧ c' ≤ 9223372036854775807) → n ≤ 30 → n' ≤ 30 → PL f → PL g →
    Calls Tryd.prog 10 #[.slice A n c, .slice A' n' c'] w fun e w' => ∃ (u : List Int) (A2 : Option Addr) (c2 : Nat), e = .returned (.slice A2 (mon u).length c2) ∧ Euc (trm f) (trm g) u ∧ Own w' w.heap.size A2 (mon u).length c2 (mon u) ∧ Below w.heap.size w w' := by
  induction m with
  | zero => intro _ _ _ _ _ _ _ _ _ h; omega
  | succ m ih =>
    intro A A' n n' c c' f g w hm hL hM hc hc' hn hn' pf pg
    have hlf := trm_le f
    have hlg := trm_le g
    rw [hL.1] at hlf
    rw [hM.1] at hlg
    have HRF := rd_trm hL
    have HRG := rd_trm hM
    have PF := Lib.hid (pl_trm pf)
    have TF := Lib.hid (tr_trm f)
    have PG := Lib.hid (pl_trm pg)
    have TG := Lib.hid (tr_trm g)
    have CT1 : Hid (Calls Tryd.prog 15 #[.slice A n c] w fun e w' => e = .returned (.slice A (trm f).length c) ∧ w = w') := c_RTrim A n c f _ w hL hc
    have CT2 : Hid (Calls Tryd.prog 15 #[.slice A' n' c'] w fun e w' => e = .returned (.slice A' (trm g).length c') ∧ w = w') := c_RTrim A' n' c' g _ w hM hc'
    have IH := Lib.hid ih
    obtain ⟨F, hF⟩ : ∃ F, F = trm f := ⟨_, rfl⟩
    obtain ⟨G, hG⟩ : ∃ G, G = trm g := ⟨_, rfl⟩
    rw [← hF] at hlf HRF PF TF CT1 ⊢
    rw [← hG] at hm hlg HRG PG TG CT2 ⊢
    obtain ⟨lf, elf⟩ : ∃ l, l = F.length := ⟨_, rfl⟩
    obtain ⟨lg, elg⟩ : ∃ l, l = G.length := ⟨_, rfl⟩
    rw [← elf] at hlf HRF CT1
    rw [← elg] at hm hlg HRG CT2
    have ELF := Lib.hid elf
    have ELG := Lib.hid elg
    have HF := Lib.hid HRF
    have HG := Lib.hid HRG
    clear hF hG elf elg hL hM HRF HRG pf pg ih
    by_cases h0 : lg = 0
    · have GN : Hid (G = []) := List.eq_nil_of_length_eq_zero (by rw [← ELG.out]; exact h0)
      have t0 : ((lg : Int) == 0) = true := by simp [h0]
      by_cases hf0 : lf = 0
      · have FN : Hid (F = []) := List.eq_nil_of_length_eq_zero (by rw [← ELF.out]; exact hf0)
        have t1 : ((lf : Int) == 0) = true := by simp [hf0]
        have ON : Hid (Own w w.heap.size none (mon ([] : List Int)).length 0 (mon [])) := Own.nil _ _
        have HE : Hid (Euc F G []) := by rw [Hid, FN.out, GN.out]; exact Euc.done []
        clear h0 hf0
        go_enter Tryd.func10, Tryd.ntmps10
        go_wp2_with fail
        refine CT1.out.mono ?_
        rintro e w' ⟨rfl, rfl⟩
        go_wp2_with fail
        refine CT2.out.mono ?_
        rintro e w' ⟨rfl, rfl⟩
        go_wp2
        go_ret
        exact ⟨[], none, 0, rfl, HE.out, ON.out, Below.refl _ _⟩
      · have t1 : ((lf : Int) == 0) = false := by simp; omega
        have FN : Hid (F ≠ []) := fun e => hf0 (by rw [ELF.out, e]; rfl)
        have HE : Hid (Euc F G F) := by rw [Hid, GN.out]; exact Euc.done F
        have l1 := tr_lead PF.out TF.out FN.out
        rw [← ELF.out] at l1
        obtain ⟨_, l2, l3⟩ := l1
        obtain ⟨b, off, rfl, x1⟩ := HF.out.at_ (k := lf - 1) (by omega)
        have HP := Lib.hid (pmul_mon F PF.out TF.out)
        have bo := ovl_bd F
        have EO : Hid (1 * pw (nth F (lf - 1)) 9971 % 9973 = ovl F) := by
          rw [Hid, ELF.out, Int.one_mul]
          have := ovl_bd F
          unfold ovl at this ⊢
          omega
        obtain ⟨ld, hld⟩ : ∃ ld, ld = nth F (lf - 1) := ⟨_, rfl⟩
        obtain ⟨v, hv⟩ : ∃ v, v = ovl F := ⟨_, rfl⟩
        rw [← hld] at x1 l2 l3 EO
        rw [← hv] at EO HP bo
        have DV : Hid (∀ w, Calls Tryd.prog 31 #[.int .i64 1, .int .i64 ld] w fun e w' => e = .returned (.int .i64 v) ∧ w = w') := fun w => by
          have h9 := c_RDiv 1 ld w (by omega) (by omega) l2 l3
          rw [EO.out] at h9
          exact h9
        have W3 : (lf : Int) - 1 = ((lf - 1 : Nat) : Int) := by omega
        have pk : Hid (PL [v]) := pl_of (by intro z hz; simp at hz; omega)
        clear h0 hf0 hld hv
        go_enter Tryd.func10, Tryd.ntmps10
        go_wp2_with fail
        refine CT1.out.mono ?_
        rintro e w' ⟨rfl, rfl⟩
        go_wp2_with fail
        refine CT2.out.mono ?_
        rintro e w' ⟨rfl, rfl⟩
        go_wp2_with fail
        refine (DV.out _).mono ?_
        rintro e w' ⟨rfl, rfl⟩
        have r1 := Lib.hid ((rd_one'' w v 3).more (B' := (w.alloc (.cells #[.int .i64 v] 3)).heap.size) (by simp))
        have S1 := below_one w (.cells #[.int .i64 v] 3)
        have R2 := Lib.hid ((HF.out.below S1).more S1.size)
        have hs := S1.size
        go_wp2_with fail
        refine (c_RTimes _ _ _ _ _ _ F [v] _ _ _ R2.out r1.out (Nat.le_refl _) (Nat.le_refl _) (by omega) (by omega) PF.out pk.out).mono ?_
        rintro e w4 ⟨A4, c4, rfl, o, hb⟩
        rw [HP.out] at o ⊢
        have O4 := Lib.hid (o.base_le hs)
        have B4 := S1.trans (hb.mono hs)
        clear o hb
        go_wp2
        go_ret
        exact ⟨F, A4, c4, rfl, HE.out, O4.out, B4⟩
    · have t0 : ((lg : Int) == 0) = false := by simp; omega
      have GN : Hid (G ≠ []) := fun e => h0 (by rw [ELG.out, e]; rfl)
      have EG := Lib.hid (trm_id TG.out)
      clear h0
      go_enter Tryd.func10, Tryd.ntmps10
      go_wp2_with fail
      refine CT1.out.mono ?_
      rintro e w' ⟨rfl, rfl⟩
      go_wp2_with fail
      refine CT2.out.mono ?_
      rintro e w' ⟨rfl, rfl⟩
      go_wp2_with fail
      refine (c_RDivide A A' lf lg c c' F G _ HF.out HG.out (by omega) (by omega) (by omega) (by omega) PF.out PG.out (by rw [EG.out]; exact GN.out)).mono ?_
      rintro e w1 ⟨q, r, Aq, cq, Ar, cr, rfl, hd, _, rr, hcr, hb⟩
      rw [EG.out] at hd
      have hl := hd.2.2.2.2.1
      rw [← ELG.out] at hl
      have RR := Lib.hid rr
      have ER := Lib.hid (trm_id hd.2.2.2.1)
      have HD := Lib.hid hd
      have G1 := Lib.hid ((HG.out.below hb).more hb.size)
      obtain ⟨lr, elr⟩ : ∃ l, l = r.length := ⟨_, rfl⟩
      rw [← elr] at RR hl hcr ⊢
      have ELR := Lib.hid elr
      clear hd rr elr
      go_wp2_with fail
      refine (IH.out A' Ar lg lr c' cr G r w1 (by rw [ER.out, ← ELR.out]; omega) G1.out RR.out (by omega) hcr (by omega) (by omega) PG.out HD.out.2.2.1).mono ?_
      rintro e w2 ⟨u, A2, c2, rfl, he, o, hb2⟩
      rw [EG.out, ER.out] at he
      have O2 := Lib.hid (o.base_le hb.size)
      have B2 := hb.trans (hb2.mono hb.size)
      have HE : Hid (Euc F G u) := Euc.step GN.out HD.out he
      clear o hb2 he
      go_wp2
      go_ret
      exact ⟨u, A2, c2, rfl, HE.out, O2.out, B2⟩
end Go.Proofs.YtaidincogkfodaaDoor
