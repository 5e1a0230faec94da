/- The contract of package ipol's Through. -/
import Derived.Test.YtaidincogkfodaaDoorIpolC
namespace Go.Proofs.YtaidincogkfodaaDoor
open Go.RowKit

set_option maxHeartbeats 4000000 in
theorem c_IThrough_ok (A A' : Option Addr) (n n' c c' : Nat) (xs ys : List Int) (w : World) (hL : Rd w w.heap.size A n xs) (hM : Rd w w.heap.size A' n' ys) (hc : n ≤ c) (hc' : n' ≤ c') (hz : A' = none → c' = 0) (h : IOk xs ys) :
    Calls Tryd.prog 24 #[.slice A n c, .slice A' n' c'] w fun e w' => ∃ (Ad : Option Addr) (cd : Nat), e = .returned (.tuple #[.slice Ad (trm (hnl (nth xs) (nth ys) n n)).length cd, .nilIface]) ∧ Own w' w.heap.size Ad (trm (hnl (nth xs) (nth ys) n n)).length cd (trm (hnl (nth xs) (nth ys) n n)) ∧ Below w.heap.size w w' := by
  have H := Lib.hid h
  obtain ⟨h1, h2, h3, h4, h5⟩ := h
  rw [hL.1] at h1 h5
  rw [hM.1, hL.1] at h2
  subst h2
  have H3 := Lib.hid h3
  have H4 := Lib.hid h4
  have H5 := Lib.hid h5
  have DD := Lib.hid (fun k i => dd_bd (x := nth xs) (y := nth ys) h4 k i)
  have HL := Lib.hid hL
  have HM := Lib.hid hM
  have HZ := Lib.hid hz
  clear h3 h4 h5 hL hM hz
  go_enter Tryd.func24, Tryd.ntmps24
  go_wp2_with fail
  refine (c_ICheck_ok _ _ _ _ _ _ xs ys _ _ _ HL.out HM.out hc H.out).mono ?_
  rintro e w' ⟨rfl, rfl⟩
  go_wp2_with fail
  refine (c_dsteps A n' c c' xs ys w A' h1 HL.out H3.out H4.out H5.out HZ.out HM.out hc hc').mono ?_
  rintro e w1 ⟨Ad, cd, rfl, o1, hb1⟩
  have O1 := Lib.hid o1
  have hs1 := hb1.size
  clear o1
  go_wp2
  have ON : Hid (Own w1 w.heap.size none 0 0 (hnl (nth xs) (nth ys) n' 0)) := Own.nil _ _
  go_loopw [8, 9] (fun s t wr => ∃ (j : Nat) (Ao : Option Addr) (co : Nat), j ≤ n' ∧ t = .int .i64 ((n' : Int) - j - 1) ∧ s = .slice Ao j co ∧ Hid (Own wr w.heap.size Ao j co (hnl (nth xs) (nth ys) n' j)) ∧ Hid (Own wr w.heap.size Ad n' cd (mk n' fun j => dd (nth xs) (nth ys) j j)) ∧ Below w.heap.size w wr) (fun _ t _ => (intOf t + 1).toNat)
  case atStart => exact ⟨0, none, 0, Nat.zero_le _, by go_num, rfl, ON, O1, hb1⟩
  case round =>
    obtain ⟨j, Ao, co, hj, rfl, rfl, HO, HD, hbr⟩ := hrel
    clear ON O1 hb1 hs1
    by_cases hlt : j < n'
    · obtain ⟨kk, hkk⟩ : ∃ kk, kk = n' - (j + 1) := ⟨_, rfl⟩
      have e9 : (n' : Int) - (j : Int) - 1 = (kk : Int) := by omega
      have hkn : kk < n' := by omega
      rw [e9]
      obtain ⟨P, hP⟩ : ∃ P, P = hnl (nth xs) (nth ys) n' j := ⟨_, rfl⟩
      have PP : Hid (PL P) := by rw [hP]; exact hnl_pl _ _ _ _
      have HA : Hid ((npl P (nth xs kk) j j).set 0 ((nth (npl P (nth xs kk) j j) 0 + dd (nth xs) (nth ys) kk kk) % 9973) = hnl (nth xs) (nth ys) n' (j + 1)) := by
        rw [hP, hkk]; exact hnl_all _ _ _ _ _ rfl
      rw [← hP] at HO
      have PX := Lib.hid (H3.out kk)
      have DK := Lib.hid (DD.out kk kk)
      have HK : Hid ((kk : Int) = (n' : Int) - (j : Int) - 1) := e9.symm
      clear hP hkk e9 H H3 H4 H5 DD HM HZ
      go_wp2_with (at_make; refine wp_make rfl _ _ rfl (j + 1) _ rfl rfl (by omega) (by omega) ?_)
      intro w2 own hb hlt2
      obtain ⟨gq, hgq⟩ : ∃ gq, gq = wr.heap.size := ⟨_, rfl⟩
      have hsr := hbr.size
      have HO2 := Lib.hid (HO.out.keep hb)
      have HD2 := Lib.hid (HD.out.keep hb)
      have NO : Hid (∀ g off, Ao = some ⟨g, off, none⟩ → g ≠ gq) := fun g off e => by have := HO.out.block_lt g off e; omega
      have ND : Hid (∀ g off, Ad = some ⟨g, off, none⟩ → g ≠ gq) := fun g off e => by have := HD.out.block_lt g off e; omega
      have hb2 := hbr.trans (hb.mono hsr)
      rw [← hgq] at own hlt2 ⊢
      rw [← npl_zero P (nth xs kk)] at own
      have hgw : w.heap.size ≤ gq := by omega
      have OQ := Lib.hid (own.base_le hgw)
      clear own hb hsr HO HD hbr hgq
      go_wp2
      go_loopw [35] (fun v wr => ∃ i : Nat, i ≤ j ∧ v = .int .i64 i ∧ Hid (Own wr w.heap.size (some ⟨gq, 0, none⟩) (j + 1) (j + 1) (npl P (nth xs kk) j i)) ∧ Hid (Own wr w.heap.size Ao j co P) ∧ Hid (Own wr w.heap.size Ad n' cd (mk n' fun j => dd (nth xs) (nth ys) j j)) ∧ gq < wr.heap.size ∧ Below w.heap.size w wr) (fun v _ => j - (intOf v).toNat)
      case atStart => exact ⟨0, Nat.zero_le _, rfl, OQ, HO2, HD2, hlt2, hb2⟩
      case round =>
        obtain ⟨i, hi, rfl, HQ, HO, HD, hsz, hbr⟩ := hrel
        clear OQ HO2 HD2 hlt2 hb2
        by_cases hij : i < j
        · obtain ⟨go, rfl, hg1, hg2⟩ := HO.out.form (by omega)
          have x1 := HO.out.cell (j := i) (by omega)
          have y1 := HQ.out.cell (j := i + 1) (by omega)
          have f1 := HQ.out.free (i + 1)
          rw [npl_next _ _ _ _ hij] at y1
          have bv := PP.out i
          have HT := Lib.hid (npl_set P (nth xs kk) j i hij PP.out)
          have bu := npl_pl P (nth xs kk) j i i
          obtain ⟨u, hu⟩ : ∃ u, u = nth (npl P (nth xs kk) j i) i := ⟨_, rfl⟩
          have HU := Lib.hid hu
          obtain ⟨v, hv⟩ : ∃ v, v = nth P i := ⟨_, rfl⟩
          rw [← hu] at bu HT
          rw [← hv] at x1 bv HT
          clear hu hv
          have hvm : v % 9973 = v := Int.emod_eq_of_lt bv.1 bv.2
          have Q2 := Lib.hid (HQ.out.set (i + 1) v)
          have O2 := Lib.hid (HO.out.elsewhere NO.out (i + 1) (.int .i64 v))
          have D2 := Lib.hid (HD.out.elsewhere ND.out (i + 1) (.int .i64 v))
          have B2 := Lib.hid (hbr.setCell (p := ⟨gq, i + 1, none⟩) hgw (.int .i64 v))
          have S2 : gq < (wr.setCell ⟨gq, i + 1, none⟩ (.int .i64 v)).heap.size := by simpa using hsz
          go_wp2_with (go_at_call 40; refine (c_NField _ _ (by omega) (by omega)).mono ?_; rintro e w' ⟨rfl, rfl⟩)
          have x2 := Q2.out.cell (j := i) (by omega)
          have f2 := Q2.out.free i
          rw [nth_set _ _ _ _ (by rw [npl_len]; omega), if_neg (by omega), ← HU.out] at x2
          obtain ⟨b0, off0, rfl, z1⟩ := (HL.out.below B2.out).at_ (k := kk) hkn
          have HT2 := HT.out
          obtain ⟨p, hp⟩ : ∃ p, p = nth xs kk := ⟨_, rfl⟩
          rw [← hp] at z1 HT2
          have bp := PX.out
          rw [← hp] at bp
          have HP := Lib.hid hp
          have bm := mul_bd v p 9973 bv.1 bv.2 bp.1 bp.2
          have HT3 := Lib.hid HT2
          clear hp HT2 HT x1 y1 f1 HO HQ HD hbr hsz
          obtain ⟨wq, hwq⟩ : ∃ wq, wq = wr.setCell ⟨gq, i + 1, none⟩ (.int .i64 v) := ⟨_, rfl⟩
          rw [← hwq] at Q2 O2 D2 B2 S2 x2 f2 z1 ⊢
          clear hwq
          have W1 : IntKind.i64.wrap (v * p) = v * p := IntWalk.i64_in _ (by omega)
          have W2 : IntKind.i64.wrap (u - v * p) = u - v * p := IntWalk.i64_in _ (by omega)
          have f3 : wq.drew.frozen? ⟨gq, i, none⟩ = false := f2
          have x3 : wq.drew.cell? ⟨gq, i, none⟩ = some (.int .i64 u) := x2
          have L1 : (i : Int) < (j : Int) + 1 := by omega
          refine wp_region_still_tail 15 (by kernel_rfl) (by kernel_rfl) ?_
          simp only [List.take_succ_cons, List.take_zero, List.drop_succ_cons, List.drop_zero]
          repeat still_step
          still_call ((c_NField _ _ (by omega) (by omega)).mono fun e w'' h => ⟨h.1, h.2.symm⟩)
          repeat still_step
          refine wpStill_nil ?_
          change wpList _ _ _ _ _ wq.drew
          have Q3 : Hid (Own (wq.drew.setCell ⟨gq, i, none⟩ (.int .i64 ((u - v * p) % 9973))) w.heap.size (some ⟨gq, 0, none⟩) (j + 1) (j + 1) (npl P (nth xs kk) j (i + 1))) := by
            have h := HT3.out
            rw [HP.out] at h ⊢
            exact own_set Q2.out.drew h
          have O3 := Lib.hid (O2.out.drew.elsewhere NO.out i (.int .i64 ((u - v * p) % 9973)))
          have D3 := Lib.hid (D2.out.drew.elsewhere ND.out i (.int .i64 ((u - v * p) % 9973)))
          have B3 := Lib.hid (B2.out.drew.setCell (p := ⟨gq, i, none⟩) hgw (.int .i64 ((u - v * p) % 9973)))
          have S3 : gq < (wq.drew.setCell ⟨gq, i, none⟩ (.int .i64 ((u - v * p) % 9973))).heap.size := by simpa using S2
          clear x2 z1 f2 Q2 O2 D2 B2 S2
          go_wp2
          go_roundw
          case rel => exact ⟨i + 1, by omega, by go_num, Q3, O3, D3, S3, B3.out⟩
          case measure => simp [intOf]; omega
        · obtain rfl : i = j := by omega
          have x1 := HQ.out.cell (j := 0) (by omega)
          have f1 := HQ.out.free 0
          obtain ⟨gd, rfl, hg1, hg2⟩ := HD.out.form (by omega)
          have y1 := HD.out.cell (j := kk) hkn
          rw [mk_nth' _ hkn] at y1
          have bu := npl_pl P (nth xs kk) i i 0
          have bd := DK.out
          have HA2 := HA.out
          obtain ⟨u, hu⟩ : ∃ u, u = nth (npl P (nth xs kk) i i) 0 := ⟨_, rfl⟩
          obtain ⟨v, hv⟩ : ∃ v, v = dd (nth xs) (nth ys) kk kk := ⟨_, rfl⟩
          rw [← hu] at x1 bu HA2
          rw [← hv] at y1 bd HA2
          have HA3 := Lib.hid HA2
          clear hu hv HA2 HA
          have W1 : IntKind.i64.wrap (u + v) = u + v := IntWalk.i64_in _ (by omega)
          have f3 : wr.drew.frozen? ⟨gq, 0, none⟩ = false := f1
          have x3 : wr.drew.cell? ⟨gq, 0, none⟩ = some (.int .i64 u) := x1
          have Q3 := Lib.hid (own_set HQ.out.drew HA3.out)
          have D3 := Lib.hid (HD.out.drew.elsewhere ND.out 0 (.int .i64 ((u + v) % 9973)))
          have B3 := Lib.hid (hbr.drew.setCell (p := ⟨gq, 0, none⟩) hgw (.int .i64 ((u + v) % 9973)))
          go_wp2_with fail
          refine wp_region_still_tail 11 (by kernel_rfl) (by kernel_rfl) ?_
          simp only [List.take_succ_cons, List.take_zero, List.drop_succ_cons, List.drop_zero]
          repeat still_step
          still_call ((c_NField _ _ (by omega) (by omega)).mono fun e w'' h => ⟨h.1, h.2.symm⟩)
          repeat still_step
          refine wpStill_nil ?_
          change wpList _ _ _ _ _ wr.drew
          clear x1 f1 y1
          go_wp2
          go_roundw
          case rel => exact ⟨i + 1, _, _, by omega, congrArg (Value.int .i64) (by have := HK.out; omega), rfl, Q3, D3, B3.out⟩
          case measure => simp [intOf] <;> omega
    · obtain rfl : j = n' := by omega
      have e9 : (j : Int) - (j : Int) - 1 = -1 := by omega
      rw [e9]
      obtain ⟨L, hL⟩ : ∃ L, L = hnl (nth xs) (nth ys) j j := ⟨_, rfl⟩
      have hl : L.length = j := by rw [hL]; exact hnl_len _ _ _ _
      rw [← hL] at HO
      have HLL := Lib.hid hL
      have HR : Hid (∀ k, k ≤ j → tnF L k = tnF L j → tnF L k = k → L.take k = trm L ∧ (trm L).length = k) := fun k hk h1 h2 => by
        rw [trm_len, hl, ← h1, h2]
        refine ⟨?_, rfl⟩
        unfold trm
        rw [hl, ← h1, h2]
      have hco := HO.out.nilcap.1
      clear hL hl e9 H H3 H4 H5 DD HM HZ HL HD hlt
      go_wp2
      go_loop [8] (fun s => ∃ k : Nat, k ≤ j ∧ s = .slice Ao k co ∧ Hid (tnF L k = tnF L j)) (fun s => lenV s)
      case atStart => exact ⟨j, Nat.le_refl _, rfl, rfl⟩
      case round =>
        obtain ⟨k, hk, rfl, HKK⟩ := hrel
        by_cases hk0 : k = 0
        · subst hk0
          obtain ⟨r1, r2⟩ := HR.out 0 hk HKK.out rfl
          have R1 := Lib.hid r1
          have R2 := Lib.hid r2
          clear r1 r2 HR HKK
          go_wp2
          go_ret2
          refine ⟨Ao, co, ?_, ?_, hbr⟩
          · rw [← HLL.out, R2.out]; rfl
          · rw [← HLL.out, R2.out, ← R1.out]; exact HO.out.take 0 hk
        · obtain ⟨g, rfl, hg1, hg2⟩ := HO.out.form (by omega)
          have x1 := HO.out.cell (j := k - 1) (by omega)
          have hk1 : 0 < k := by omega
          by_cases hv : nth L (k - 1) = 0
          · have HK' : Hid (tnF L (k - 1) = tnF L j) := by rw [Hid, ← tnF_step hk1 hv]; exact HKK.out
            rw [hv] at x1
            clear hv
            go_wp2
            go_round
            case rel => exact ⟨k - 1, by omega, by go_num, HK'.out⟩
            case measure => simp [lenV] <;> omega
          · obtain ⟨r1, r2⟩ := HR.out k hk HKK.out (tnF_stop hk1 hv)
            have hv' : (nth L (k - 1) == 0) = false := by simp [hv]
            have R1 := Lib.hid r1
            have R2 := Lib.hid r2
            clear r1 r2 HR HKK hv
            go_wp2
            go_ret2
            refine ⟨some ⟨g, 0, none⟩, co, ?_, ?_, hbr⟩
            · rw [← HLL.out, R2.out]; rfl
            · rw [← HLL.out, R2.out, ← R1.out]; exact HO.out.take k hk
end Go.Proofs.YtaidincogkfodaaDoor
