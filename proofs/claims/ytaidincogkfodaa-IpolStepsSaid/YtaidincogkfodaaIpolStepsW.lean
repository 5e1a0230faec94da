/- The walk of the statement IpolSteps: the law returns true for all arguments. -/
import Derived.Test.YtaidincogkfodaaIpolE
import Derived.Test.YtaidincogkfodaaRPlus
import Derived.Test.YtaidincogkfodaaTurned
import Derived.Test.YtaidincogkfodaaViewZ
namespace Go.Proofs.Ytaidincogkfodaa
open Go.RowKit

theorem trn_nth {L : List Int} {n k : Nat} (h : k < n) : nth (trn L n n) k = nth L (n - 1 - k) := by
  unfold trn; rw [mk_nth' _ h]
theorem trn_pl {L : List Int} (n k : Nat) (h : PL L) : PL (trn L n k) := pl_mk fun _ _ => h _
theorem trn_iok {xs ys : List Int} (h : IOk xs ys) : IOk (trn xs xs.length xs.length) (trn ys xs.length xs.length) := by
  refine ⟨by rw [trn_len]; exact h.1, by rw [trn_len, trn_len], trn_pl _ _ h.2.2.1, trn_pl _ _ h.2.2.2.1, fun i j h1 h2 => ?_⟩
  rw [trn_len] at h2
  rw [trn_nth (by omega), trn_nth h2]
  exact fun e => h.2.2.2.2 (xs.length - 1 - j) (xs.length - 1 - i) (by omega) (by omega) e.symm
/-- What goes through the dots does not hang on their order. -/
theorem thr_trn {xs ys : List Int} (h : IOk xs ys) : thr (trn xs xs.length xs.length) (trn ys xs.length xs.length) = thr xs ys := by
  rw [thr_uniq (P := thr xs ys) (trn_iok h) (thr_pl _ _) (by rw [trn_len]; exact thr_len _ _) fun i hi => ?_, trm_id (thr_tr _ _)]
  rw [trn_len] at hi
  rw [trn_nth hi, trn_nth hi, thr_pat h (by omega)]
/-- The last step is the top coefficient. -/
theorem dds_last {xs ys : List Int} (h : IOk xs ys) (hn : 0 < xs.length) : nth (dds xs ys) (xs.length - 1) = nth (thr xs ys) (xs.length - 1) := by
  unfold dds
  rw [mk_nth' _ (by omega)]
  exact dd_of (P := thr xs ys) h (by omega) (thr_pl _ _) (by have := thr_len xs ys; omega) fun i hi => thr_pat h (by omega)
theorem dds_trn {xs ys : List Int} (h : IOk xs ys) (hn : 0 < xs.length) : nth (dds (trn xs xs.length xs.length) (trn ys xs.length xs.length)) (xs.length - 1) = nth (dds xs ys) (xs.length - 1) := by
  have := dds_last (trn_iok h) (by rw [trn_len]; exact hn)
  rw [trn_len] at this
  rw [this, thr_trn h, dds_last h hn]
theorem dds_pl {xs ys : List Int} (h : IOk xs ys) : PL (dds xs ys) := pl_mk fun k _ => dd_bd h.2.2.2.1 k k
theorem dds_len (xs ys : List Int) : (dds xs ys).length = xs.length := mk_len _ _
/-- The product of x - x0 .. and Newton's sum, as the law makes them. -/
def wyl (xs : List Int) : Nat → List Int
  | 0 => [1]
  | k + 1 => pmul (wyl xs k) [(-nth xs k) % 9973, 1]
def nwl (xs ys : List Int) : Nat → List Int
  | 0 => []
  | k + 1 => plu (nwl xs ys k) (wyl xs k) (dd (nth xs) (nth ys) k k) 0
theorem sh_zero (f : Nat → Int) (j : Nat) : sh 0 f j = f j := by unfold sh; rw [if_neg (by omega), Nat.sub_zero]
theorem pmul_lin (f : List Int) (a : Int) : Eqm (nth (pmul f [(-a) % 9973, 1])) (lin a (nth f)) := fun j => by
  rw [pmul_nth, cv_comm, cv_sh, Int.emod_emod]
  show (0 + (-a) % 9973 * sh 0 (nth f) j + 1 * sh 1 (nth f) j) % 9973 = (sh 1 (nth f) j - a * nth f j) % 9973
  rw [sh_zero, Int.one_mul, Int.zero_add, Int.add_emod, emod_mul, ← Int.add_emod]
  congr 1
  rw [Int.neg_mul]
  omega
theorem wyl_eqm (xs : List Int) (k : Nat) : Eqm (nth (wyl xs k)) (wp (nth xs) k) := by
  induction k with
  | zero =>
    intro j
    show nth [1] j % 9973 = (if j = 0 then 1 else 0) % 9973
    match j with
    | 0 => rfl
    | j + 1 => rw [if_neg (by omega)]; rfl
  | succ k ih =>
    intro j
    exact (pmul_lin (wyl xs k) (nth xs k) j).trans (lin_eqm (nth xs k) ih j)
theorem nwl_eqm (xs ys : List Int) (k : Nat) : Eqm (nth (nwl xs ys k)) (nw (nth xs) (nth ys) k) := by
  induction k with
  | zero => intro j; rfl
  | succ k ih =>
    intro j
    show nth (plu (nwl xs ys k) (wyl xs k) (dd (nth xs) (nth ys) k k) 0) j % 9973 = (nw (nth xs) (nth ys) k j + dd (nth xs) (nth ys) k k * wp (nth xs) k j) % 9973
    rw [plu_nth, Int.emod_emod, sh_zero, Int.add_emod, ih j, mul_eqm rfl (wyl_eqm xs k j), ← Int.add_emod]
theorem nwl_tr (xs ys : List Int) : ∀ k, Tr (nwl xs ys k)
  | 0 => tr_nil
  | _ + 1 => plu_tr _ _ _ _
theorem nwl_pl (xs ys : List Int) : ∀ k, PL (nwl xs ys k)
  | 0 => pl_nil
  | _ + 1 => plu_pl _ _ _ _
theorem wyl_pl (xs : List Int) : ∀ k, PL (wyl xs k)
  | 0 => show PL [1] from pl_of (by decide)
  | _ + 1 => pmul_pl _ _
theorem wyl_len (xs : List Int) (k : Nat) : (wyl xs k).length ≤ k + 1 := by
  induction k with
  | zero => exact Nat.le_refl _
  | succ k ih =>
    have h := pmul_len (wyl xs k) [(-nth xs k) % 9973, 1]
    have e : [(-nth xs k) % 9973, 1].length = 2 := rfl
    show (pmul (wyl xs k) [(-nth xs k) % 9973, 1]).length ≤ _
    omega
theorem nwl_len (xs ys : List Int) (k : Nat) : (nwl xs ys k).length ≤ k := by
  induction k with
  | zero => exact Nat.le_refl _
  | succ k ih =>
    have h := plu_len (nwl xs ys k) (wyl xs k) (dd (nth xs) (nth ys) k k) 0
    have h2 := wyl_len xs k
    show (plu (nwl xs ys k) (wyl xs k) (dd (nth xs) (nth ys) k k) 0).length ≤ _
    omega
/-- Newton's sum is what goes through all dots. -/
theorem nwl_all {xs ys : List Int} (h : IOk xs ys) : nwl xs ys xs.length = thr xs ys := by
  have e := itp_uniq (iok_dis h) (nw_itp _ _ _ (iok_dis h)) (thr_itp h)
  exact canon_eqm (nwl_pl _ _ _) (thr_pl _ _) (nwl_tr _ _ _) (thr_tr _ _) fun k => (nwl_eqm xs ys xs.length k).trans (e k)
section
variable (A A' : Option Addr) (n n' c c' : Nat) (xs ys : List Int) (w : World)
theorem istp_bad (hL : Rd w w.heap.size A n xs) (hM : Rd w w.heap.size A' n' ys) (hc : n ≤ c) (h : ¬ IOk xs ys) :
    Calls Try.prog 8 #[.slice A n c, .slice A' n' c'] w fun e w' => e = .returned (.bool true) ∧ Below w.heap.size w w' := by
  have H := Lib.hid h
  clear h
  go_enter Try.func8, Try.ntmps8
  go_wp2_with fail
  refine (c_ipolFact _).mono ?_
  rintro e w1 ⟨rfl, hb1⟩
  go_wp2_with fail
  refine (c_ISteps_bad _ _ _ _ _ _ xs ys _ _ _ (hL.below hb1) (hM.below hb1) hc H.out).mono ?_
  rintro e w' ⟨rfl, rfl⟩
  go_wp2
  go_ret
  exact ⟨rfl, hb1⟩
set_option maxHeartbeats 4000000 in
set_option maxRecDepth 100000 in
theorem istp_ok (hL : Rd w w.heap.size A n xs) (hM : Rd w w.heap.size A' n' ys) (hc : n ≤ c) (hc' : n' ≤ c') (hz : A' = none → c' = 0) (h : IOk xs ys) :
    Calls Try.prog 8 #[.slice A n c, .slice A' n' c'] w fun e w' => e = .returned (.bool true) ∧ Below w.heap.size w w' := by
  have hn6 := h.1
  have e2 := h.2.1
  rw [hL.1] at hn6 e2
  rw [hM.1] at e2
  subst e2
  have PX := Lib.hid h.2.2.1
  have HT : Hid (IOk (trn xs n' n') (trn ys n' n')) := by rw [Hid, ← hL.1]; exact trn_iok h
  have HD : Hid (0 < n' → nth (dds (trn xs n' n') (trn ys n' n')) (n' - 1) = nth (dds xs ys) (n' - 1)) := by rw [Hid, ← hL.1]; exact dds_trn h
  have HN : Hid (nwl xs ys n' = thr xs ys) := by rw [Hid, ← hL.1]; exact nwl_all h
  have DP := Lib.hid (dds_pl h)
  have L0 := thr_len xs ys
  rw [hL.1] at L0
  have HL := Lib.hid hL
  have HM := Lib.hid hM
  have H := Lib.hid h
  have HZ := Lib.hid hz
  clear h hz hL hM
  go_enter Try.func8, Try.ntmps8
  go_wp2_with fail
  refine (c_ipolFact _).mono ?_
  rintro e w1 ⟨rfl, hb1⟩
  go_wp2_with fail
  refine (c_ISt _ _ _ _ _ _ xs ys _ ((HL.out.below hb1).more hb1.size) ((HM.out.below hb1).more hb1.size) hc hc' HZ.out H.out).mono ?_
  rintro e w2 ⟨A4, c4, rfl, o, hb⟩
  have Ol := Lib.hid o
  have hb2 := hb1.trans (hb.mono hb1.size)
  clear o hb hb1
  go_wp2_with fail
  refine (c_Turned _ _ _ xs _ _ (HL.out.below hb2) hb2.size (by omega)).mono ?_
  rintro e w3 ⟨A5, c5, rfl, o, hb⟩
  have Ot := Lib.hid o
  have Ol3 := Lib.hid (Ol.out.keep hb)
  have hb3 := hb2.trans (hb.mono hb2.size)
  clear o hb Ol
  go_wp2_with fail
  refine (c_Turned _ _ _ ys _ _ (HM.out.below hb3) hb3.size (by omega)).mono ?_
  rintro e w4 ⟨A6, c6, rfl, o, hb⟩
  have Ou := Lib.hid o
  have Ot4 := Lib.hid (Ot.out.keep hb)
  have Ol4 := Lib.hid (Ol3.out.keep hb)
  have hb4 := hb3.trans (hb.mono hb3.size)
  clear o hb Ot Ol3
  go_wp2_with fail
  refine (c_ISt _ _ _ _ _ _ (trn xs n' n') (trn ys n' n') _ Ot4.out.rd Ou.out.rd Ot4.out.nilcap.1 Ou.out.nilcap.1 Ou.out.nilcap.2.2 HT.out).mono ?_
  rintro e w5 ⟨A7, c7, rfl, o, hb⟩
  have Om := Lib.hid o
  have Ol5 := Lib.hid (Ol4.out.keep hb)
  have hb5 := hb4.trans (hb.mono hb4.size)
  clear o hb Ot4 Ou Ol4
  go_wp2_with fail
  refine (c_ITh _ _ _ _ _ _ xs ys _ ((HL.out.below hb5).more hb5.size) ((HM.out.below hb5).more hb5.size) hc hc' HZ.out H.out).mono ?_
  rintro e w6 ⟨A8, c8, rfl, o, hb⟩
  have Of := Lib.hid o
  have Om6 := Lib.hid (Om.out.keep hb)
  have Ol6 := Lib.hid (Ol5.out.keep hb)
  have hb6 := hb5.trans (hb.mono hb5.size)
  clear o hb Om Ol5 hb2 hb3 hb4 hb5
  obtain ⟨lf, hlf⟩ : ∃ l, l = (thr xs ys).length := ⟨_, rfl⟩
  rw [← hlf] at Of L0 ⊢
  have HLF := Lib.hid hlf
  clear hlf
  by_cases h0 : n' = 0
  · have hlf0 : lf = 0 := by omega
    subst h0
    subst hlf0
    go_wp2
    go_ret
    exact ⟨rfl, hb6⟩
  · have hn0 : 0 < n' := by omega
    obtain ⟨g1, rfl, _, _⟩ := Ol6.out.form hn0
    obtain ⟨g2, rfl, _, _⟩ := Om6.out.form hn0
    have x1 := Ol6.out.cell (j := n' - 1) (by omega)
    have x2 := Om6.out.cell (j := n' - 1) (by omega)
    rw [HD.out hn0] at x2
    have ha : Hid (allB (dds xs ys) 0 9972 = true) := by
      rw [Hid, allB_not, pl_any DP.out]; rfl
    have CA : Hid (∀ q, Calls Try.prog 26 #[.slice (some ⟨g1, 0, none⟩) n' c4, .int .i64 0, .int .i64 9972] (w6.drewN q) fun e w' => e = .returned (.bool true) ∧ w6.drewN q = w') := fun q => by
      have h := c_All _ n' c4 (dds xs ys) 0 9972 _ (w6.drewN q) (rd_drewN Ol6.out.rd q) (by omega)
      rw [ha.out] at h
      exact h
    have W1 : IntKind.i64.wrap ((n' : Int) - 1) = ((n' - 1 : Nat) : Int) := by rw [IntWalk.i64_in _ (by omega)]; omega
    have LT : n' - 1 < n' := by omega
    go_wp2_with fail
    go_quiet ((go_at_call 26; first | exact quiet_left (CA.out _) | exact quiet_add_left (CA.out _)))
    have Ol7 := Lib.hid (Ol6.out.drewN nq)
    have Of7 := Lib.hid (Of.out.drewN nq)
    have hb7 := below_drewN hb6 nq
    obtain ⟨w7, hw7⟩ : ∃ w7, w7 = w6.drewN nq := ⟨_, rfl⟩
    rw [← hw7] at Ol7 Of7 hb7 ⊢
    clear hw7 x1 x2 Om6 Ol6 Of CA ha W1 LT hb6
    have OW := Lib.hid ((own_new w7 [1] 1 rfl (by decide)).base_le hb7.size)
    have Ol8 := Lib.hid (Ol7.out.alloc (.cells #[.int .i64 1] 3))
    have Of8 := Lib.hid (Of7.out.alloc (.cells #[.int .i64 1] 3))
    have hb8 := hb7.alloc hb7.size (.cells #[.int .i64 1] 3)
    clear Ol7 Of7 hb7
    go_wp2
    obtain ⟨w8, hw8⟩ : ∃ w8, w8 = w7.alloc (.cells #[.int .i64 1] 3) := ⟨_, rfl⟩
    have OW1 : Hid (Own w8 w.heap.size (some ⟨w7.heap.size, 0, none⟩) 1 1 [1]) := by rw [Hid, hw8]; exact OW.out
    rw [← hw8] at Ol8 Of8 hb8 ⊢
    clear hw8 OW
    have WL := Lib.hid (wyl_len xs)
    have NL := Lib.hid (nwl_len xs ys)
    have L9 : ((n' : Int) == 0) = false := by simp; omega
    have L8 : (n' == 0) = false := by simp; omega
    have L7 : decide (n' = 0) = false := by simp; omega
    try simp only [L9]
    try simp only [L8]
    try simp only [L7]
    clear L9 L8 L7
    go_loopw [12, 13, 14] (fun a b i wr => ∃ (k m m' : Nat) (A2 : Option Addr) (c2 : Nat) (A3 : Option Addr) (c3 : Nat), k ≤ n' ∧ i = .int .i64 k ∧ a = .slice A2 m c2 ∧ b = .slice A3 m' c3 ∧ Hid (m = (nwl xs ys k).length) ∧ Hid (m' = (wyl xs k).length) ∧ Hid (Own wr w8.heap.size A2 m c2 (nwl xs ys k)) ∧ Hid (Own wr w.heap.size A3 m' c3 (wyl xs k)) ∧ Below w8.heap.size w8 wr) (fun _ _ i _ => n' - (intOf i).toNat)
    case atStart => exact ⟨0, 0, 1, none, 0, _, 1, Nat.zero_le _, rfl, rfl, rfl, rfl, rfl, Own.nil _ _, OW1, Below.refl _ _⟩
    case round =>
      obtain ⟨k, m, m', A2, c2, A3, c3, hk, rfl, rfl, rfl, hm, hm', ho, hw, hbr⟩ := hrel
      have hwr := hb8.trans (hbr.mono hb8.size)
      by_cases hlt : k < n'
      · have y1 := (Ol8.out.keep hbr).cell (j := k) hlt
        have bd := DP.out k
        have ed : nth (dds xs ys) k = dd (nth xs) (nth ys) k k := by
          unfold dds
          rw [mk_nth' _ (by have := HL.out.1; omega)]
        have m1 := NL.out k
        have m2 := WL.out k
        rw [← hm.out] at m1
        rw [← hm'.out] at m2
        have HS : Hid (nwl xs ys (k + 1) = plu (nwl xs ys k) (wyl xs k) (nth (dds xs ys) k) 0) := by rw [Hid, ed]; rfl
        obtain ⟨d, hd⟩ : ∃ d, d = nth (dds xs ys) k := ⟨_, rfl⟩
        rw [← hd] at y1 bd HS
        clear hd ed
        have hs := hbr.size
        have hs0 := hwr.size
        go_wp2_with fail
        refine (c_RPlus _ _ _ _ _ _ (nwl xs ys k) (wyl xs k) d 0 _ _ _ ho.out.rd hw.out.rd (Nat.le_refl _) (Nat.le_refl _) (by omega) (by omega) (by omega) bd (nwl_pl xs ys k) (wyl_pl xs k)).mono ?_
        rintro e w9 ⟨A4', c4', rfl, o, hb⟩
        rw [← HS.out] at o ⊢
        have ON := Lib.hid (o.base_le hs)
        have OW2 := Lib.hid (hw.out.keep hb)
        have hbr2 := hbr.trans (hb.mono hs)
        have hwr2 := hb8.trans (hbr2.mono hb8.size)
        obtain ⟨m3, hm3⟩ : ∃ m3, m3 = (nwl xs ys (k + 1)).length := ⟨_, rfl⟩
        have HM3 := Lib.hid hm3
        rw [← hm3] at ON ⊢
        clear hm3 o hb y1 ho hw
        obtain ⟨b, off, rfl, hcc⟩ := (HL.out.below hwr2).at_ hlt
        have bx := PX.out k
        have HS2 : Hid (wyl xs (k + 1) = pmul (wyl xs k) [(-nth xs k) % 9973, 1]) := rfl
        obtain ⟨x, hx⟩ : ∃ x, x = nth xs k := ⟨_, rfl⟩
        rw [← hx] at hcc bx HS2
        clear hx
        obtain ⟨s, hs2⟩ : ∃ s, s = (-x) % 9973 := ⟨_, rfl⟩
        have bs : 0 ≤ s ∧ s < 9973 := by rw [hs2]; exact emod_pl _
        have MO : Hid (Calls Try.prog 19 #[.int .i64 (-x)] w9 fun e w' => e = .returned (.int .i64 s) ∧ w9 = w') := by
          rw [Hid, hs2]; exact c_RMod (-x) w9 (by omega) (by omega)
        rw [← hs2] at HS2
        clear hs2
        have PS : Hid (PL [s, 1]) := pl_of (by intro z hz; simp at hz; omega)
        go_wp2_with fail
        refine MO.out.mono ?_
        rintro e w' ⟨rfl, rfl⟩
        have r2 := Lib.hid ((rd_two'' w9 s 1 3).more (B' := (w9.alloc (.cells #[.int .i64 s, .int .i64 1] 3)).heap.size) (by simp))
        have S1 := below_one w9 (.cells #[.int .i64 s, .int .i64 1] 3)
        have hs9 := hbr2.size
        have hbr3 := hbr2.trans (S1.mono hs9)
        have OW3 := Lib.hid (OW2.out.keep S1)
        have ON3 := Lib.hid (ON.out.keep S1)
        clear OW2 ON S1
        go_wp2_with fail
        refine (c_RTimes _ _ _ _ _ _ (wyl xs k) [s, 1] _ _ _ OW3.out.rd r2.out (Nat.le_refl _) (Nat.le_refl _) (by omega) (by omega) (wyl_pl xs k) PS.out).mono ?_
        rintro e w10 ⟨A5', c5', rfl, o, hb⟩
        rw [← HS2.out] at o ⊢
        have hs10 := hbr3.size
        have OW4 := Lib.hid (o.base_le (show w.heap.size ≤ _ from Nat.le_trans hb8.size hs10))
        have ON4 := Lib.hid (ON3.out.keep hb)
        have hbr4 := Lib.hid (hbr3.trans (hb.mono hs10))
        obtain ⟨m4, hm4⟩ : ∃ m4, m4 = (wyl xs (k + 1)).length := ⟨_, rfl⟩
        have HM4 := Lib.hid hm4
        rw [← hm4] at OW4 ⊢
        clear hm4 o hb OW3 ON3 r2 hbr3 hbr2 hcc
        go_wp2
        go_roundw
        case rel => exact ⟨k + 1, m3, m4, A4', c4', A5', c5', by omega, by go_num, rfl, rfl, HM3, HM4, ON4, OW4, hbr4.out⟩
        case measure => simp [intOf]; omega
      · obtain rfl : k = n' := by omega
        have ef : Hid (nwl xs ys k = thr xs ys) := HN.out
        have Of9 := Lib.hid (Of8.out.keep hbr)
        have m1 := NL.out k
        rw [← hm.out] at m1
        go_wp2_with fail
        refine (c_sameP _ _ _ _ _ _ _ _ _ _ _ ef.out ho.out.rd Of9.out.rd (by omega)).mono ?_
        rintro e w9 ⟨rfl, hb⟩
        have hb9 := hwr.trans (hb.mono hwr.size)
        clear hb
        go_wp2
        go_ret
        exact ⟨rfl, hb9⟩
end
theorem frame_IpolSteps (A : Option Addr) (n c : Nat) (xs : List Int) (A' : Option Addr) (n' c' : Nat) (ys : List Int) (w : World)
    (hL : Rd w w.heap.size A n xs) (hc : n ≤ c ∧ c ≤ 9223372036854775807 ∧ (A = none → c = 0)) (_ : ∀ x ∈ xs, Fits x) (hM : Rd w w.heap.size A' n' ys) (hc' : n' ≤ c' ∧ c' ≤ 9223372036854775807 ∧ (A' = none → c' = 0)) (_ : ∀ x ∈ ys, Fits x) :
    Calls Try.prog 8 #[.slice A n c, .slice A' n' c'] w fun e w' => e = .returned (.bool true) ∧ Below w.heap.size w w' := by
  by_cases h1 : IOk xs ys
  · exact istp_ok A A' n n' c c' xs ys w hL hM hc.1 hc'.1 hc'.2.2 h1
  · exact istp_bad A A' n n' c c' xs ys w hL hM hc.1 h1
end Go.Proofs.Ytaidincogkfodaa
