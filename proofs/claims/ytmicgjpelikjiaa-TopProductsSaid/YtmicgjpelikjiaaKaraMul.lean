/- The contract of kara.mul, by induction on how often the rows can be halved. -/
import Derived.Test.YtmicgjpelikjiaaKara
namespace Go.Proofs.Ytmicgjpelikjiaa
open Go.RowKit

/-- How many numbers are multiplied. -/
def cnt (k : Nat) : Nat := 3 ^ k
/-- What a call of mul leaves. -/
def MulP (w : World) (n : Nat) (k : Nat) (L M : List Int) (e : Ending) (w' : World) : Prop :=
  ∃ g, e = .returned (.tuple #[.slice (some ⟨g, 0, none⟩) (2 * n - 1) (2 * n - 1), .int .i64 (cnt k : Int)]) ∧ Own w' w.heap.size (some ⟨g, 0, none⟩) (2 * n - 1) (2 * n - 1) (convL n L M) ∧ Below w.heap.size w w'
set_option maxHeartbeats 4000000 in
theorem c_kmul (k : Nat) : ∀ (n : Nat) (A A' : Option Addr) (c c' : Nat) (L M : List Int) (X : Int) (B B' : Nat) (w : World), k ≤ 4 → n = 2 ^ k → 0 ≤ X → X * (n : Int) ≤ 16000 → Bnd (nth L) X → Bnd (nth M) X →
    Rd w B A n L → Rd w B' A' n M → B ≤ w.heap.size → B' ≤ w.heap.size → n ≤ c → n ≤ c' →
    Calls Try.prog 25 #[.slice A n c, .slice A' n c'] w (MulP w n k L M) := by
  induction k with
  | zero =>
    intro n A A' c c' L M X B B' w hk hn hX hXn bL bM hL hM _ _ _ _
    obtain rfl : n = 1 := hn
    refine (c_kmul_one A A' c c' L M B B' w hL hM (bL.mono (by omega)) (bM.mono (by omega))).mono fun e w' ⟨g, he, ho, hb⟩ => ⟨g, he, ho, hb⟩
  | succ k ih =>
    intro n A A' c c' L M X B B' w hk hn hX hXn bL bM hL hM hB hB' hc hc'
    obtain ⟨h, hh⟩ : ∃ h, h = 2 ^ k := ⟨_, rfl⟩
    have hn2 : n = h + h := by rw [hn, hh, Nat.pow_succ]; omega
    have h1 : 1 ≤ h := by rw [hh]; exact Nat.one_le_two_pow
    have h16 : h ≤ 8 := by rw [hh]; exact Nat.pow_le_pow_right (by omega) (show k ≤ 3 by omega)
    obtain ⟨b, off, rfl, hbB, _⟩ := hL.at' (k := 0) (by omega)
    obtain ⟨b', off', rfl, hbB', _⟩ := hM.at' (k := 0) (by omega)
    have hXh : X * (h : Int) + X * (h : Int) ≤ 16000 := by
      have : X * (n : Int) = X * (h : Int) + X * (h : Int) := by rw [hn2]; push_cast; rw [Int.mul_add]
      omega
    have hXp : 0 ≤ X * (h : Int) := Int.mul_nonneg hX (by omega)
    have hX2 : (X + X) * (h : Int) ≤ 16000 := by rw [Int.add_mul]; exact hXh
    have lL : L.length = h + h := by rw [hL.1, hn2]
    have lM : M.length = h + h := by rw [hM.1, hn2]
    have tL : (L.take h).length = h := by simp; omega
    have tM : (M.take h).length = h := by simp; omega
    have dL : (L.drop h).length = h := by simp; omega
    have dM : (M.drop h).length = h := by simp; omega
    have HL1 : Hid (Rd w B (some ⟨b, off, none⟩) h (L.take h)) := rd_take hL h (by omega)
    have HM1 : Hid (Rd w B' (some ⟨b', off', none⟩) h (M.take h)) := rd_take hM h (by omega)
    have HL2 : Hid (Rd w B (some ⟨b, off + h, none⟩) h (L.drop h)) := by have := rd_drop hL h (by omega); rw [show n - h = h by omega] at this; exact this
    have HM2 : Hid (Rd w B' (some ⟨b', off' + h, none⟩) h (M.drop h)) := by have := rd_drop hM h (by omega); rw [show n - h = h by omega] at this; exact this
    have IH1 : Hid (∀ W, Below w.heap.size w W → Calls Try.prog 25 #[.slice (some ⟨b, off, none⟩) h c, .slice (some ⟨b', off', none⟩) h c'] W (MulP W h k (L.take h) (M.take h))) := fun W hb =>
      ih h _ _ c c' _ _ X B B' W (by omega) hh hX (by omega) (bnd_take bL h) (bnd_take bM h) (HL1.out.keep fun p hp => hb.cell (by omega)) (HM1.out.keep fun p hp => hb.cell (by omega)) (by have := hb.size; omega) (by have := hb.size; omega) (by omega) (by omega)
    have IH2 : Hid (∀ W, Below w.heap.size w W → Calls Try.prog 25 #[.slice (some ⟨b, off + h, none⟩) h (c - h), .slice (some ⟨b', off' + h, none⟩) h (c' - h)] W (MulP W h k (L.drop h) (M.drop h))) := fun W hb =>
      ih h _ _ (c - h) (c' - h) _ _ X B B' W (by omega) hh hX (by omega) (bnd_drop bL h) (bnd_drop bM h) (HL2.out.keep fun p hp => hb.cell (by omega)) (HM2.out.keep fun p hp => hb.cell (by omega)) (by have := hb.size; omega) (by have := hb.size; omega) (by omega) (by omega)
    have S1 : Hid (∀ W, Below w.heap.size w W → Calls Try.prog 31 #[.slice (some ⟨b, off, none⟩) h c, .slice (some ⟨b, off + h, none⟩) h (c - h)] W fun e w' => ∃ g, e = .returned (.slice (some ⟨g, 0, none⟩) h h) ∧ Own w' W.heap.size (some ⟨g, 0, none⟩) h h (addL h (L.take h) (L.drop h)) ∧ Below W.heap.size W w') := fun W hb =>
      c_ksum _ _ h _ _ _ _ B B W (HL1.out.keep fun p hp => hb.cell (by omega)) (HL2.out.keep fun p hp => hb.cell (by omega)) (by have := hb.size; omega) (by have := hb.size; omega) (by omega) ((bnd_take bL h).mono (by have : X * 1 ≤ X * (h : Int) := Int.mul_le_mul_of_nonneg_left (by omega) hX; omega)) ((bnd_drop bL h).mono (by have : X * 1 ≤ X * (h : Int) := Int.mul_le_mul_of_nonneg_left (by omega) hX; omega))
    have S2 : Hid (∀ W, Below w.heap.size w W → Calls Try.prog 31 #[.slice (some ⟨b', off', none⟩) h c', .slice (some ⟨b', off' + h, none⟩) h (c' - h)] W fun e w' => ∃ g, e = .returned (.slice (some ⟨g, 0, none⟩) h h) ∧ Own w' W.heap.size (some ⟨g, 0, none⟩) h h (addL h (M.take h) (M.drop h)) ∧ Below W.heap.size W w') := fun W hb =>
      c_ksum _ _ h _ _ _ _ B' B' W (HM1.out.keep fun p hp => hb.cell (by omega)) (HM2.out.keep fun p hp => hb.cell (by omega)) (by have := hb.size; omega) (by have := hb.size; omega) (by omega) ((bnd_take bM h).mono (by have : X * 1 ≤ X * (h : Int) := Int.mul_le_mul_of_nonneg_left (by omega) hX; omega)) ((bnd_drop bM h).mono (by have : X * 1 ≤ X * (h : Int) := Int.mul_le_mul_of_nonneg_left (by omega) hX; omega))
    have IH3 : Hid (∀ (g g' : Nat) (base base' : Nat) (W : World), Own W base (some ⟨g, 0, none⟩) h h (addL h (L.take h) (L.drop h)) → Own W base' (some ⟨g', 0, none⟩) h h (addL h (M.take h) (M.drop h)) → Calls Try.prog 25 #[.slice (some ⟨g, 0, none⟩) h h, .slice (some ⟨g', 0, none⟩) h h] W (MulP W h k (addL h (L.take h) (L.drop h)) (addL h (M.take h) (M.drop h)))) := fun g g' base base' W o1 o2 =>
      ih h _ _ h h _ _ (X + X) W.heap.size W.heap.size W (by omega) hh (by omega) hX2 (bnd_add (bnd_take bL h) (bnd_drop bL h)) (bnd_add (bnd_take bM h) (bnd_drop bM h)) o1.rd o2.rd (Nat.le_refl _) (Nat.le_refl _) (Nat.le_refl _) (Nat.le_refl _)
    have HKS := Lib.hid (kara_step h1 lL lM)
    have CB1 : Hid (Bnd (nth (convL h (L.take h) (M.take h))) 256000000) := conv_bnd hX h1 (by omega) (bnd_take bL h) (bnd_take bM h) tL tM
    have CB2 : Hid (Bnd (nth (convL h (L.drop h) (M.drop h))) 256000000) := conv_bnd hX h1 (by omega) (bnd_drop bL h) (bnd_drop bM h) dL dM
    have CB3 : Hid (Bnd (nth (convL h (addL h (L.take h) (L.drop h)) (addL h (M.take h) (M.drop h)))) 256000000) := conv_bnd (by omega) h1 hX2 (bnd_add (bnd_take bL h) (bnd_drop bL h)) (bnd_add (bnd_take bM h) (bnd_drop bM h)) (mk_len _ _) (mk_len _ _)
    have e1 : (n : Int) / 2 = (h : Int) := by omega
    have e2 : n - h = h := by omega
    have e3 : ((n : Int) == 1) = false := by simp; omega
    have e4 : ¬ c = h := by omega
    have e5 : ¬ c' = h := by omega
    have e6 : h ≤ c := by omega
    have e7 : h ≤ c' := by omega
    have e8 : h ≤ n := by omega
    have b1 : n ≤ h + h := by omega
    have b2 : h + h ≤ n := by omega
    have HN := Lib.hid hn2
    have HH := Lib.hid hh
    have hb0 := Below.refl w.heap.size w
    clear ih hn hn2 hh hX hXn bL bM hL hM hXh hXp hX2 lL lM tL tM dL dM HL1 HM1 HL2 HM2
    go_enter Try.func25, Try.ntmps25
    go_wp2
    go_region_with (go_at_call 25; refine (IH1.out _ (hb0.drew)).mono ?_; rintro e w1 ⟨g1, rfl, o1, hb⟩)
    have hb1 := hb0.drew.trans (hb.mono (Nat.le_refl _))
    have O1 := Lib.hid o1
    clear o1 hb
    go_wp2
    go_region_with (go_at_call 25; refine (IH2.out _ (hb1.drew)).mono ?_; rintro e w2 ⟨g2, rfl, o2, hb⟩)
    have hb2 := hb1.drew.trans (hb.mono hb1.size)
    have O2 := Lib.hid o2
    have O1' := Lib.hid (Own.keep (w := w1.drew) O1.out hb)
    clear o2 hb O1
    have T1 : Hid (∀ W, Below w2.heap.size w2 W → Calls Try.prog 31 #[.slice (some ⟨b, off, none⟩) h c, .slice (some ⟨b, off + h, none⟩) h (c - h)] W fun e w' => ∃ g, e = .returned (.slice (some ⟨g, 0, none⟩) h h) ∧ Own w' W.heap.size (some ⟨g, 0, none⟩) h h (addL h (L.take h) (L.drop h)) ∧ Below W.heap.size W w' ∧ Below w2.heap.size w2 w') := fun W hW =>
      (S1.out W (hb2.trans (hW.mono hb2.size))).mono fun e w' ⟨g, he, ho, hb⟩ => ⟨g, he, ho, hb, hW.trans (hb.mono hW.size)⟩
    have T2 : Hid (∀ W, Below w2.heap.size w2 W → Calls Try.prog 31 #[.slice (some ⟨b', off', none⟩) h c', .slice (some ⟨b', off' + h, none⟩) h (c' - h)] W fun e w' => ∃ g, e = .returned (.slice (some ⟨g, 0, none⟩) h h) ∧ Own w' W.heap.size (some ⟨g, 0, none⟩) h h (addL h (M.take h) (M.drop h)) ∧ Below W.heap.size W w' ∧ Below w2.heap.size w2 w') := fun W hW =>
      (S2.out W (hb2.trans (hW.mono hb2.size))).mono fun e w' ⟨g, he, ho, hb⟩ => ⟨g, he, ho, hb, hW.trans (hb.mono hW.size)⟩
    have hc2 := (Below.refl w2.heap.size w2).drew
    clear S1 S2 IH1 IH2 hb0
    go_wp2
    go_region_with (first
      | (go_at_call 31; first | ((with_reducible refine (T1.out _ (by assumption)).mono ?_); rintro e w3 ⟨g3, rfl, o3, hb3, hc3⟩; (try have o4' := o4.keep hb3)) | ((with_reducible refine (T2.out _ (by assumption)).mono ?_); rintro e w4 ⟨g4, rfl, o4, hb4, hc4⟩; (try have o3' := o3.keep hb4)))
      | (go_at_call 25; refine (IH3.out _ _ _ _ _ (by assumption) (by assumption)).mono ?_; rintro e w5 ⟨g5, rfl, o5, hb5⟩))
    all_goals
      have hc5 : Below w2.heap.size w2 w5 := by first | exact hc4.trans (hb5.mono hc4.size) | exact hc3.trans (hb5.mono hc3.size)
      have hw5 := hb2.trans (hc5.mono hb2.size)
      have l1 := O1'.out.lt.2
      have l2 := O2.out.lt.2
      have l5 := o5.lt.2
      have P1 := Lib.hid (O1'.out.keep hc5)
      have P2 := Lib.hid (O2.out.keep hc5)
      have P5 := Lib.hid o5
      have hz5 := hc5.size
      have HK2 : Hid (addAt (2 * n - 1) (addAt (2 * n - 1) (addAt (2 * n - 1) (addAt (2 * n - 1) (addAt (2 * n - 1) (List.replicate (2 * n - 1) 0) 0 (convL h (L.take h) (M.take h)) 1) n (convL h (L.drop h) (M.drop h)) 1) h (convL h (addL h (L.take h) (L.drop h)) (addL h (M.take h) (M.drop h))) 1) h (convL h (L.take h) (M.take h)) (-1)) h (convL h (L.drop h) (M.drop h)) (-1) = convL n L M) := by
        have := HKS.out
        rw [← HN.out] at this
        exact this
      have b17 : n ≤ 16 := by omega
      obtain ⟨low, hlow⟩ : ∃ low, low = convL h (L.take h) (M.take h) := ⟨_, rfl⟩
      obtain ⟨high, hhigh⟩ : ∃ high, high = convL h (L.drop h) (M.drop h) := ⟨_, rfl⟩
      obtain ⟨mid, hmid⟩ : ∃ mid, mid = convL h (addL h (L.take h) (L.drop h)) (addL h (M.take h) (M.drop h)) := ⟨_, rfl⟩
      rw [← hlow] at P1 HK2 CB1
      rw [← hhigh] at P2 HK2 CB2
      rw [← hmid] at P5 HK2 CB3
      have HP3 : Hid (cnt k + cnt k + cnt k = cnt (k + 1)) := by show _ = 3 ^ (k + 1); rw [Nat.pow_succ]; show 3 ^ k + 3 ^ k + 3 ^ k = _; omega
      have p81 : cnt k ≤ 27 := Nat.pow_le_pow_right (by omega) (show k ≤ 3 by omega)
      obtain ⟨t, ht⟩ : ∃ t, t = cnt k := ⟨_, rfl⟩
      rw [← ht] at HP3 p81 ⊢
      clear hlow hhigh hmid ht HKS o5 hb5 O1' O2 hc5 hb1 T1 T2 IH3 hc2
      go_wp2_with (at_make; refine wp_make rfl _ _ rfl (2 * n - 1) (2 * (n : Int) - 1) rfl rfl (by omega) (by omega) ?_)
      intro w6 own hb6 hlt6
      obtain ⟨go, hgo⟩ : ∃ go, go = w5.heap.size := ⟨_, rfl⟩
      have Q0 := Lib.hid own
      have Q1 := Lib.hid (P1.out.keep hb6)
      have Q2 := Lib.hid (P2.out.keep hb6)
      have Q5 := Lib.hid (P5.out.keep hb6)
      have g1o : g1 < go := by omega
      have g2o : g2 < go := by omega
      have g5o : g5 < go := by omega
      have go6 : go < w6.heap.size := by omega
      have wgo : w.heap.size ≤ go := by have := hw5.size; omega
      have hw6 := hw5.trans (hb6.mono hw5.size)
      rw [← hgo] at Q0 ⊢
      clear own hb6 hlt6 P1 P2 P5 hgo
      have B0 : Hid (Bnd (nth (List.replicate (2 * n - 1) (0 : Int))) 0) := bnd_zero _
      go_wp2_with fail
      refine (c_kadd1 go _ _ 0 _ _ _ _ low _ _ _ Q0.out Q1.out.rd (fun b off e => by injection e with e; injection e with e1 _ _; omega) (by omega) (by omega) (B0.out.mono (by omega)) (CB1.out.mono (by omega))).mono ?_
      rintro e w7 ⟨rfl, own, hg⟩
      have hw7 := hw6.trans (below_grown hg hw6.size (by omega))
      have R0 := Lib.hid own
      have B1 := Lib.hid (bnd_addAt (n := 2 * n - 1) (a := 0) B0.out CB1.out (.inl rfl))
      have Y10 := Lib.hid (own_grown Q1.out hg (by omega))
      have Y20 := Lib.hid (own_grown Q2.out hg (by omega))
      have Y50 := Lib.hid (own_grown Q5.out hg (by omega))
      clear own hg Q0 Q1 Q2 Q5 B0
      go_wp2_with fail
      refine (c_kadd1 go _ _ n _ _ _ _ high _ _ _ R0.out Y20.out.rd (fun b off e => by injection e with e; injection e with e1 _ _; omega) (by omega) (by omega) (B1.out.mono (by omega)) (CB2.out.mono (by omega))).mono ?_
      rintro e w8 ⟨rfl, own, hg⟩
      have hw8 := hw7.trans (below_grown hg hw7.size (by omega))
      have R1 := Lib.hid own
      have B2 := Lib.hid (bnd_addAt (n := 2 * n - 1) (a := n) B1.out CB2.out (.inl rfl))
      have Y11 := Lib.hid (own_grown Y10.out hg (by omega))
      have Y21 := Lib.hid (own_grown Y20.out hg (by omega))
      have Y51 := Lib.hid (own_grown Y50.out hg (by omega))
      clear own hg R0 Y10 Y20 Y50 B1
      go_wp2_with fail
      refine (c_kadd1 go _ _ h _ _ _ _ mid _ _ _ R1.out Y51.out.rd (fun b off e => by injection e with e; injection e with e1 _ _; omega) (by omega) (by omega) (B2.out.mono (by omega)) (CB3.out.mono (by omega))).mono ?_
      rintro e w9 ⟨rfl, own, hg⟩
      have hw9 := hw8.trans (below_grown hg hw8.size (by omega))
      have R2 := Lib.hid own
      have B3 := Lib.hid (bnd_addAt (n := 2 * n - 1) (a := h) B2.out CB3.out (.inl rfl))
      have Y12 := Lib.hid (own_grown Y11.out hg (by omega))
      have Y22 := Lib.hid (own_grown Y21.out hg (by omega))
      have Y52 := Lib.hid (own_grown Y51.out hg (by omega))
      clear own hg R1 Y11 Y21 Y51 B2
      go_wp2_with fail
      refine (c_kaddm go _ _ h _ _ _ _ low _ _ _ R2.out Y12.out.rd (fun b off e => by injection e with e; injection e with e1 _ _; omega) (by omega) (by omega) (B3.out.mono (by omega)) (CB1.out.mono (by omega))).mono ?_
      rintro e w10 ⟨rfl, own, hg⟩
      have hw10 := hw9.trans (below_grown hg hw9.size (by omega))
      have R3 := Lib.hid own
      have B4 := Lib.hid (bnd_addAt (n := 2 * n - 1) (a := h) B3.out CB1.out (.inr rfl))
      have Y13 := Lib.hid (own_grown Y12.out hg (by omega))
      have Y23 := Lib.hid (own_grown Y22.out hg (by omega))
      have Y53 := Lib.hid (own_grown Y52.out hg (by omega))
      clear own hg R2 Y12 Y22 Y52 B3
      go_wp2_with fail
      refine (c_kaddm go _ _ h _ _ _ _ high _ _ _ R3.out Y23.out.rd (fun b off e => by injection e with e; injection e with e1 _ _; omega) (by omega) (by omega) (B4.out.mono (by omega)) (CB2.out.mono (by omega))).mono ?_
      rintro e w11 ⟨rfl, own, hg⟩
      have hw11 := hw10.trans (below_grown hg hw10.size (by omega))
      have R4 := Lib.hid own
      have B5 := Lib.hid (bnd_addAt (n := 2 * n - 1) (a := h) B4.out CB2.out (.inr rfl))
      have Y14 := Lib.hid (own_grown Y13.out hg (by omega))
      have Y24 := Lib.hid (own_grown Y23.out hg (by omega))
      have Y54 := Lib.hid (own_grown Y53.out hg (by omega))
      clear own hg R3 Y13 Y23 Y53 B4
      go_wp2
      go_ret2
      refine ⟨go, by rw [← HP3.out]; first | rfl | (congr 5; omega), ?_, hw11⟩
      have F := R4.out
      rw [HK2.out] at F
      exact F.base_le wgo
end Go.Proofs.Ytmicgjpelikjiaa
