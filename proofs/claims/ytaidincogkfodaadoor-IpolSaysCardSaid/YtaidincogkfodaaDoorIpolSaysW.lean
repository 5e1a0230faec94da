/- The walk of the statement IpolSays: the law returns true for all arguments. -/
import Derived.Test.YtaidincogkfodaaDoorIpolThr
import Derived.Test.YtaidincogkfodaaDoorViewZ
import Derived.Test.YtaidincogkfodaaDoorAs
import Derived.Deep.RegionLaw
namespace Go.Proofs.YtaidincogkfodaaDoor
open Go.RowKit

theorem dotE_ne (xs ys : List Int) : dotE xs ys ≠ 0 := by
  unfold dotE
  split
  · decide
  · split
    · decide
    · split <;> decide
/-- The steps so far. -/
def stl (xs ys : List Int) (k : Nat) : List Int := mk k fun j => nth (dds xs ys) j
theorem stl_succ (xs ys : List Int) (k : Nat) : stl xs ys k ++ [nth (dds xs ys) k] = stl xs ys (k + 1) := by
  unfold stl mk
  rw [List.range_succ, List.map_append]
  rfl
theorem dds_len' (xs ys : List Int) : (dds xs ys).length = xs.length := mk_len _ _
theorem stl_all (xs ys : List Int) : stl xs ys xs.length = dds xs ys := mk_of _ _ (dds_len' xs ys)
section
variable (A A' : Option Addr) (n n' c c' : Nat) (xs ys : List Int) (w : World)
set_option maxHeartbeats 4000000 in
set_option maxRecDepth 100000 in
theorem isays_bad (hg : Handle w) (hL : Rd w w.heap.size A n xs) (hM : Rd w w.heap.size A' n' ys) (hc : n ≤ c) (hn : n' ≤ 9223372036854775807) (h : ¬ IOk xs ys) :
    Calls Tryd.prog 4 #[.slice A n c, .slice A' n' c'] w fun e w' => e = .returned (.bool true) ∧ Below w.heap.size w w' := by
  have hgd : Hid (Handle w) := hg
  have H := Lib.hid h
  have HL := Lib.hid hL
  have HM := Lib.hid hM
  obtain ⟨d, hd⟩ : ∃ d, d = dotE xs ys := ⟨_, rfl⟩
  have d0 : (d == 0) = false := by rw [hd]; simp [dotE_ne]
  have CD : Hid (∀ w1 : World, Below w.heap.size w w1 → Calls Tryd.prog 21 #[.slice A n c, .slice A' n' c'] w1 fun e w' => e = .returned (.int .i64 d) ∧ ∃ q, w1.drewN q = w') := fun w1 hb => by
    rw [hd]; exact c_RDots_bad _ _ _ _ _ _ xs ys _ _ w1 (HL.out.below hb) (HM.out.below hb) hc hn H.out
  have CK : Hid (∀ w1 : World, Below w.heap.size w w1 → Calls Tryd.prog 22 #[.slice A n c, .slice A' n' c'] w1 fun e w' => e = .returned (.iface 46 (.int .i64 d)) ∧ w1 = w') := fun w1 hb => by
    rw [hd]; exact c_ICheck_bad _ _ _ _ _ _ xs ys _ _ w1 (HL.out.below hb) (HM.out.below hb) hc H.out
  have CT : Hid (∀ w1 : World, Below w.heap.size w w1 → Calls Tryd.prog 24 #[.slice A n c, .slice A' n' c'] w1 fun e w' => e = .returned (.tuple #[.slice none 0 0, .iface 46 (.int .i64 d)]) ∧ w1 = w') := fun w1 hb => by
    rw [hd]; exact c_IThrough_bad _ _ _ _ _ _ xs ys _ _ w1 (HL.out.below hb) (HM.out.below hb) hc H.out
  have CS : Hid (∀ w1 : World, Below w.heap.size w w1 → Calls Tryd.prog 25 #[.slice A n c, .slice A' n' c'] w1 fun e w' => e = .returned (.tuple #[.slice none 0 0, .iface 46 (.int .i64 d)]) ∧ w1 = w') := fun w1 hb => by
    rw [hd]; exact c_ISteps_bad _ _ _ _ _ _ xs ys _ _ w1 (HL.out.below hb) (HM.out.below hb) hc H.out
  have RN : Hid (∀ w1 : World, Rd w1 w1.heap.size none 0 []) := fun w1 => ⟨rfl, fun h => absurd h (by omega)⟩
  clear h hL hM hg hd
  go_enter Tryd.func4, Tryd.ntmps4
  go_wp2_with fail
  refine (CD.out _ (Below.refl _ _)).mono ?_
  rintro e w1 ⟨rfl, q, rfl⟩
  have T := below_drewN (Below.refl w.heap.size w) q
  obtain ⟨w1, hw1⟩ : ∃ w1, w1 = w.drewN q := ⟨_, rfl⟩
  rw [← hw1] at T ⊢
  clear hw1
  go_wp2_with fail
  refine (CK.out _ T).mono ?_
  rintro e w' ⟨rfl, rfl⟩
  go_wp2_with fail
  refine (c_Error_some _ _ _ (hgd.out.below T)).mono ?_
  rintro e w2 ⟨rfl, hb⟩
  have T2 := T.trans (hb.mono T.size)
  clear hb T
  go_wp2_with fail
  refine (CT.out _ T2).mono ?_
  rintro e w' ⟨rfl, rfl⟩
  go_wp2_with fail
  refine (c_Error_some _ _ _ (hgd.out.below T2)).mono ?_
  rintro e w3 ⟨rfl, hb⟩
  have T3 := T2.trans (hb.mono T2.size)
  clear hb T2
  go_wp2_with fail
  refine (c_sameP _ _ _ _ _ _ [] [] _ _ _ rfl (RN.out w3) (RN.out w3) (by omega)).mono ?_
  rintro e w4 ⟨rfl, hb⟩
  have T4 := T3.trans (hb.mono T3.size)
  clear hb T3
  go_wp2_with fail
  refine (CS.out _ T4).mono ?_
  rintro e w' ⟨rfl, rfl⟩
  go_wp2_with fail
  refine (c_Error_some _ _ _ (hgd.out.below T4)).mono ?_
  rintro e w5 ⟨rfl, hb⟩
  have T5 := T4.trans (hb.mono T4.size)
  clear hb T4
  go_wp2_with fail
  refine (c_sameP _ _ _ _ _ _ [] [] _ _ _ rfl (RN.out w5) (RN.out w5) (by omega)).mono ?_
  rintro e w6 ⟨rfl, hb⟩
  have T6 := T5.trans (hb.mono T5.size)
  go_wp2
  go_ret
  exact ⟨rfl, T6⟩
set_option maxHeartbeats 4000000 in
set_option maxRecDepth 100000 in
theorem isays_ok (hg : Handle w) (hL : Rd w w.heap.size A n xs) (hM : Rd w w.heap.size A' n' ys) (hc : n ≤ c) (hc' : n' ≤ c') (hz : A' = none → c' = 0) (h : IOk xs ys) :
    Calls Tryd.prog 4 #[.slice A n c, .slice A' n' c'] w fun e w' => e = .returned (.bool true) ∧ Below w.heap.size w w' := by
  have hgd : Hid (Handle w) := hg
  have hn6 := h.1
  have e2 := h.2.1
  rw [hL.1] at hn6 e2
  rw [hM.1] at e2
  subst e2
  have AT : Hid (∀ k, k < n' → nth (dds xs ys) k = nth (thr (xs.take (k + 1)) (ys.take (k + 1))) k) := fun k hk => dds_at h (by rw [hL.1]; exact hk)
  have TL : Hid (∀ k, k < n' → (thr (xs.take (k + 1)) (ys.take (k + 1))).length ≤ k + 1) := fun k hk => by
    have := thr_len (xs.take (k + 1)) (ys.take (k + 1))
    rw [List.length_take] at this
    omega
  have SA : Hid (stl xs ys n' = dds xs ys) := by rw [Hid, ← hL.1]; exact stl_all xs ys
  have L0 := thr_len xs ys
  rw [hL.1] at L0
  have HL := Lib.hid hL
  have HM := Lib.hid hM
  have H := Lib.hid h
  have HZ := Lib.hid hz
  have CR : Hid (∀ (k : Nat) (w1 : World), k < n' → Below w.heap.size w w1 → Calls Tryd.prog 23 #[.slice A (k + 1) c, .slice A' (k + 1) c'] w1 fun e w' => ∃ A2 c2, e = .returned (.slice A2 (thr (xs.take (k + 1)) (ys.take (k + 1))).length c2) ∧ Own w' w1.heap.size A2 (thr (xs.take (k + 1)) (ys.take (k + 1))).length c2 (thr (xs.take (k + 1)) (ys.take (k + 1))) ∧ Below w1.heap.size w1 w') := fun k w1 hk hb =>
    c_RThrough A A' (k + 1) c c' (xs.take (k + 1)) (ys.take (k + 1)) w1 (((rd_take HL.out (k + 1) (by omega)).below hb).more hb.size) (((rd_take HM.out (k + 1) (by omega)).below hb).more hb.size) (iok_take H.out (k + 1) (by rw [HL.out.1]; omega))
  clear h hz hL hM hg
  go_enter Tryd.func4, Tryd.ntmps4
  go_wp2_with fail
  refine (c_RDots_ok _ _ _ _ _ _ xs ys _ _ _ HL.out HM.out hc H.out).mono ?_
  rintro e w1 ⟨rfl, q, rfl⟩
  have T := below_drewN (Below.refl w.heap.size w) q
  obtain ⟨w1, hw1⟩ : ∃ w1, w1 = w.drewN q := ⟨_, rfl⟩
  rw [← hw1] at T ⊢
  clear hw1
  go_wp2_with fail
  refine (c_ICheck_ok _ _ _ _ _ _ xs ys _ _ _ (HL.out.below T) (HM.out.below T) hc H.out).mono ?_
  rintro e w' ⟨rfl, rfl⟩
  go_wp2_with fail
  refine (c_Error_nil _ _).mono ?_
  rintro e w2 ⟨rfl, hb⟩
  have T2 := T.trans (hb.mono T.size)
  clear hb T
  go_wp2_with fail
  refine (c_RThrough A A' n' c c' xs ys _ ((HL.out.below T2).more T2.size) ((HM.out.below T2).more T2.size) H.out).mono ?_
  rintro e w3 ⟨A4, c4, rfl, o, hb⟩
  have O3 := Lib.hid o
  have T3 := T2.trans (hb.mono T2.size)
  clear o hb T2
  obtain ⟨lf, hlf⟩ : ∃ l, l = (thr xs ys).length := ⟨_, rfl⟩
  rw [← hlf] at O3 L0 ⊢
  have HLF := Lib.hid hlf
  clear hlf
  go_wp2
  go_loopw [8, 9] (fun v i wr => ∃ (k : Nat) (A2 : Option Addr) (c2 : Nat), k ≤ n' ∧ i = .int .i64 k ∧ v = .slice A2 k c2 ∧ Hid (Own wr w3.heap.size A2 k c2 (stl xs ys k)) ∧ Below w3.heap.size w3 wr) (fun _ i _ => n' - (intOf i).toNat)
  case atStart => exact ⟨0, none, 0, Nat.zero_le _, rfl, rfl, Own.nil _ _, Below.refl _ _⟩
  case round =>
    obtain ⟨k, A2, c2, hk, rfl, rfl, ho, hbr⟩ := hrel
    have hwr := T3.trans (hbr.mono T3.size)
    by_cases hlt : k < n'
    · have e1 : IntKind.i64.wrap ((k : Int) + 1) = ((k + 1 : Nat) : Int) := by rw [IntWalk.i64_in _ (by omega)]; rfl
      have k1 : (k : Int) + 1 ≤ (c : Int) := by omega
      have k2 : (k : Int) + 1 ≤ (c' : Int) := by omega
      have k3 : 0 ≤ (k : Int) + 1 := by omega
      have CW : Hid (Calls Tryd.prog 23 #[.slice A (k + 1) c, .slice A' (k + 1) c'] wr.drew fun e w' => ∃ A2 c2, e = .returned (.slice A2 (thr (xs.take (k + 1)) (ys.take (k + 1))).length c2) ∧ Own w' wr.heap.size A2 (thr (xs.take (k + 1)) (ys.take (k + 1))).length c2 (thr (xs.take (k + 1)) (ys.take (k + 1))) ∧ Below wr.heap.size wr w') :=
        (CR.out k wr.drew hlt hwr.drew).mono fun e w' ⟨A2, c2, he, ho, hb⟩ => ⟨A2, c2, he, ho, ((Below.refl _ wr).drew).trans hb⟩
      have TLk := TL.out k hlt
      have ATk := Lib.hid (AT.out k hlt)
      have HS := Lib.hid (stl_succ xs ys k)
      obtain ⟨P, hP⟩ : ∃ P, P = thr (xs.take (k + 1)) (ys.take (k + 1)) := ⟨_, rfl⟩
      rw [← hP] at CW TLk ATk
      clear hP
      go_wp2_with fail
      go_region_law (go_simp; go_at_call 23; refine (CW.out).mono ?_; rintro e w4 ⟨A6, c6, rfl, o, hb⟩)
      all_goals
        have O4 := Lib.hid o
        have OS := Lib.hid (ho.out.keep hb)
        have hbr4 := hbr.trans (hb.mono hbr.size)
        clear o hb ho
        obtain ⟨lp, hlp⟩ : ∃ l, l = P.length := ⟨_, rfl⟩
        rw [← hlp] at O4 TLk ⊢
        have HLP := Lib.hid hlp
        clear hlp
        have hsz := hbr4.size
        by_cases hfull : lp = k + 1
        · subst hfull
          have hcell := O4.out.form (by omega)
          obtain ⟨g, rfl, _, _⟩ := hcell
          have x1 := O4.out.cell (j := k) (by omega)
          rw [← ATk.out] at x1
          obtain ⟨x, hx⟩ : ∃ x, x = nth (dds xs ys) k := ⟨_, rfl⟩
          rw [← hx] at x1 HS
          clear hx
          go_wp2_with (at_builtin; refine wp_push rfl (.tmp 52) (.tmp 54) rfl w3.heap.size rfl rfl OS.out (by omega) hsz ?_)
          intro A7 c7 w5 hown5 hb5
          have HO5 : Hid (Own w5 w3.heap.size A7 (k + 1) c7 (stl xs ys (k + 1))) := by rw [Hid, ← HS.out]; exact hown5
          have HB5 := Lib.hid (hbr4.trans hb5)
          clear hown5 hb5
          go_wp2
          go_roundw
          case rel => exact ⟨k + 1, A7, c7, by omega, by go_num, rfl, HO5.out, HB5.out⟩
          case measure => simp [intOf]; omega
        · have e0 : nth (dds xs ys) k = 0 := by rw [ATk.out]; exact sup_nth P k (by rw [← HLP.out]; omega)
          rw [e0] at HS
          have t1 : ((lp : Int) == (k : Int) + 1) = false := by simp; omega
          clear e0
          go_wp2_with (at_builtin; refine wp_push rfl (.tmp 52) (.tmp 54) rfl w3.heap.size rfl rfl OS.out (by omega) hsz ?_)
          intro A7 c7 w5 hown5 hb5
          have HO5 : Hid (Own w5 w3.heap.size A7 (k + 1) c7 (stl xs ys (k + 1))) := by rw [Hid, ← HS.out]; exact hown5
          have HB5 := Lib.hid (hbr4.trans hb5)
          clear hown5 hb5
          go_wp2
          go_roundw
          case rel => exact ⟨k + 1, A7, c7, by omega, by go_num, rfl, HO5.out, HB5.out⟩
          case measure => simp [intOf]; omega
    · obtain rfl : k = n' := by omega
      have OT := Lib.hid (O3.out.keep hbr)
      have OS : Hid (Own wr w3.heap.size A2 k c2 (dds xs ys)) := by rw [Hid, ← SA.out]; exact ho.out
      clear ho O3 hbr
      go_wp2_with fail
      refine (c_ITh _ _ _ _ _ _ xs ys _ ((HL.out.below hwr).more hwr.size) ((HM.out.below hwr).more hwr.size) hc hc' HZ.out H.out).mono ?_
      rintro e w5 ⟨A5, c5, rfl, o, hb⟩
      have OA := Lib.hid o
      have OT5 := Lib.hid (OT.out.keep hb)
      have OS5 := Lib.hid (OS.out.keep hb)
      have hb5 := hwr.trans (hb.mono hwr.size)
      clear o hb OT OS hwr
      rw [← HLF.out] at OA ⊢
      go_wp2_with fail
      refine (c_Error_nil _ _).mono ?_
      rintro e w6 ⟨rfl, hb⟩
      have OA6 := Lib.hid (OA.out.keep hb)
      have OT6 := Lib.hid (OT5.out.keep hb)
      have OS6 := Lib.hid (OS5.out.keep hb)
      have hb6 := hb5.trans (hb.mono hb5.size)
      clear hb OA OT5 OS5 hb5
      go_wp2_with fail
      refine (c_sameP _ _ _ _ _ _ _ _ _ _ _ rfl OA6.out.rd OT6.out.rd (by omega)).mono ?_
      rintro e w7 ⟨rfl, hb⟩
      have OS7 := Lib.hid (OS6.out.keep hb)
      have hb7 := hb6.trans (hb.mono hb6.size)
      clear hb OA6 OT6 OS6 hb6
      go_wp2_with fail
      refine (c_ISt _ _ _ _ _ _ xs ys _ ((HL.out.below hb7).more hb7.size) ((HM.out.below hb7).more hb7.size) hc hc' HZ.out H.out).mono ?_
      rintro e w8 ⟨A8, c8, rfl, o, hb⟩
      have OB := Lib.hid o
      have OS8 := Lib.hid (OS7.out.keep hb)
      have hb8 := hb7.trans (hb.mono hb7.size)
      clear o hb OS7 hb7
      go_wp2_with fail
      refine (c_Error_nil _ _).mono ?_
      rintro e w9 ⟨rfl, hb⟩
      have OB9 := Lib.hid (OB.out.keep hb)
      have OS9 := Lib.hid (OS8.out.keep hb)
      have hb9 := hb8.trans (hb.mono hb8.size)
      clear hb OB OS8 hb8
      go_wp2_with fail
      refine (c_sameP _ _ _ _ _ _ _ _ _ _ _ rfl OB9.out.rd OS9.out.rd (by omega)).mono ?_
      rintro e w10 ⟨rfl, hb⟩
      have hb10 := hb9.trans (hb.mono hb9.size)
      go_wp2
      go_ret
      exact ⟨rfl, hb10⟩
end
theorem frame_IpolSays (A : Option Addr) (n c : Nat) (xs : List Int) (A' : Option Addr) (n' c' : Nat) (ys : List Int) (w : World)
    (hL : Rd w w.heap.size A n xs) (hc : n ≤ c ∧ c ≤ 9223372036854775807 ∧ (A = none → c = 0)) (_ : ∀ x ∈ xs, Fits x) (hM : Rd w w.heap.size A' n' ys) (hc' : n' ≤ c' ∧ c' ≤ 9223372036854775807 ∧ (A' = none → c' = 0)) (_ : ∀ x ∈ ys, Fits x) (hg : Handle w) :
    Calls Tryd.prog 4 #[.slice A n c, .slice A' n' c'] w fun e w' => e = .returned (.bool true) ∧ Below w.heap.size w w' := by
  by_cases h1 : IOk xs ys
  · exact isays_ok A A' n n' c c' xs ys w hg hL hM hc.1 hc'.1 hc'.2.2 h1
  · exact isays_bad A A' n n' c c' xs ys w hg hL hM hc.1 (by omega) h1
end Go.Proofs.YtaidincogkfodaaDoor
