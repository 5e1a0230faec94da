/- The contract of the reference's Near. -/
import Derived.Test.YtpfbbalhhldghaaDoorContRef
namespace Go.Proofs.YtpfbbalhhldghaaDoor
open Go.RowKit

theorem tok_take {L : List Int} (h : TOk L) {k : Nat} (h1 : 1 ≤ k) (hk : k ≤ L.length) : TOk (L.take k) := by
  have e : ∀ i, i < k → nth (L.take k) i = nth L i := fun i hi => by unfold nth; simp [List.getD, hi]
  refine ⟨by rw [List.length_take]; omega, by rw [List.length_take]; have := h.2.1; omega, by rw [e 0 (by omega)]; exact h.2.2.1, fun i hi hi2 => ?_⟩
  rw [List.length_take] at hi2
  rw [e i (by omega)]
  exact h.2.2.2 i hi (by omega)
theorem cp_take (L : List Int) {m k : Nat} (h : k ≤ m) : cp (L.take m) k = cp L k := by unfold cp; rw [cvn_take _ _ _ _ _ h]
theorem cq_take (L : List Int) {m k : Nat} (h : k ≤ m) : cq (L.take m) k = cq L k := by unfold cq; rw [cvn_take _ _ _ _ _ h]
/-- A convergent by the reference: the first k terms, those before being small. -/
theorem c_Rfrac_at (A : Option Addr) (n c k : Nat) (L : List Int) (B : Nat) (w : World) (hL : Rd w B A n L) (hB : B ≤ w.heap.size) (hT : TOk L) (hk : k + 1 ≤ n) (hs : ∀ j, 1 ≤ j → j ≤ k → cp L j ≤ 1000000 ∧ cq L j ≤ 1000000) :
    Calls Tryd.prog 36 #[.slice A (k + 1) c] w fun e w' => e = .returned (.agg #[.int .i64 (cp L (k + 1)), .int .i64 (cq L (k + 1))]) ∧ Below w.heap.size w w' := by
  have hl := hL.1
  have hT' := tok_take hT (k := k + 1) (by omega) (by omega)
  have h30 := hT.2.1
  have h := c_Rfrac A (k + 1) c (L.take (k + 1)) B w (rd_take hL (k + 1) hk) hB (by omega) (by omega) (fun i hi => by
    rcases Nat.eq_zero_or_pos i with e | e
    · subst e; exact hT'.2.2.1
    · have := hT'.2.2.2 i e (by rw [List.length_take]; omega); omega) (fun j hj => frb_bd hT' (by omega) (by rw [List.length_take]; omega) (fun i h1 h2 => by rw [cp_take L (by omega), cq_take L (by omega)]; exact hs i h1 (by omega)) j hj)
  rw [cp_take L (Nat.le_refl _), cq_take L (Nat.le_refl _)] at h
  exact h
theorem tok_all {L : List Int} (h : anyB (L.drop 1) 1 1000000 = false) : allB (L.drop 1) 1 1000000 = true := by rw [allB_not, h]; rfl
/-- wp_pushF, the new block under a name of its own. -/
theorem wp_pushG {w : World} {ops : Array Oper} {rest : List Oper} {o : Oper} {a : Act} {Q : Exit → Act → World → Prop} (hgd : o.guard = none) (s x : Operand)
    (ho : o.op = .call { callee := .builtin .append, args := #[s, x], argTypes := #[42, 42] })
    (base G : Nat) (hG : w.heap.size = G) {A : Option Addr} {n c : Nat} {L : List (Int × Int)} (z1 z2 : Int) (hs : a.eval s = .slice A n c) (hx : a.eval x = .slice (some ⟨G, 0, none⟩) 1 1) (hown : OwnF w base A n c L) (hn : n ≤ 1000000) (hbase : base ≤ w.heap.size)
    (h : ∀ A' c' w', OwnF w' base A' (n + 1) c' (L ++ [(z1, z2)]) → Below base w w' → wpList Tryd.prog ops Q rest (a.put o.dst (.slice A' (n + 1) c')) w') : wpList Tryd.prog ops Q (o :: rest) a (w.alloc (.cells #[.int .i64 z1, .int .i64 z2] 35)) := by
  subst hG
  exact wp_pushF (z := (z1, z2)) hgd s x ho base hs hx hown hn hbase h
set_option maxHeartbeats 4000000 in
set_option maxRecDepth 100000 in
theorem rnear_loop (A : Option Addr) (n c : Nat) (L : List Int) (w : World) (hL : Rd w w.heap.size A n L) (hc : n ≤ c ∧ c ≤ 9223372036854775807) (hT : TOk L) :
    Calls Tryd.prog 17 #[.slice A n c] w fun e w' => ((CfAll L n ∧ ∃ A' c', e = .returned (.tuple #[.slice A' n c', .int .i64 0]) ∧ OwnF w' w.heap.size A' n c' (cfs L n)) ∨ (¬ CfAll L n ∧ e = .returned (.tuple #[.slice none 0 0, .int .i64 4]))) ∧ Below w.heap.size w w' := by
  have hn : 1 ≤ n ∧ n ≤ 30 := by rw [← hL.1]; exact ⟨hT.1, hT.2.1⟩
  have HL := Lib.hid hL
  have HT := Lib.hid hT
  obtain ⟨b, off, rfl, h0⟩ := hL.at_ (k := 0) (by omega)
  rw [Nat.add_zero] at h0
  have o1 : inB (nth L 0) 0 1000000 = true := inC_true ⟨hT.2.2.1.1, hT.2.2.1.2⟩
  have a1 := tok_all (tok_any hT)
  have hpos : 0 < n := by omega
  have e0 : ((n : Int) == 0) = false := by simp; omega
  obtain ⟨hc1, hc2⟩ := hc
  have CA : Hid (∀ A2 n2 c2, Rd w w.heap.size A2 n2 (L.drop 1) → n2 ≤ 30 → Calls Tryd.prog 35 #[.slice A2 n2 c2, .int .i64 1, .int .i64 1000000] w fun e w' => e = .returned (.bool true) ∧ w = w') := fun A2 n2 c2 hr hn2 => by
    have h := c_All A2 n2 c2 (L.drop 1) 1 1000000 _ w hr (by omega)
    rw [a1] at h
    exact h
  have R1 : c = 1 → Hid (Rd w w.heap.size (some ⟨b, off, none⟩) 0 (L.drop 1)) := fun e => by
    have : n = 1 := by omega
    subst this
    exact rd_tail0 HL.out
  have R2 : Hid (Rd w w.heap.size (some ⟨b, off + 1, none⟩) (n - 1) (L.drop 1)) := rd_tail HL.out hn.1
  have CFR : Hid (∀ (k : Nat) (w1 : World), k + 1 ≤ n → (∀ j, 1 ≤ j → j ≤ k → cp L j ≤ 1000000 ∧ cq L j ≤ 1000000) → Below w.heap.size w w1 → Calls Tryd.prog 36 #[.slice (some ⟨b, off, none⟩) (k + 1) c] w1 fun e w' => e = .returned (.agg #[.int .i64 (cp L (k + 1)), .int .i64 (cq L (k + 1))]) ∧ Below w1.heap.size w1 w') := fun k w1 hk hs hb => c_Rfrac_at _ n c k L _ w1 (HL.out.below hb) hb.size HT.out hk hs
  clear hL hT
  by_cases hcc : c = 1
  · have hn1 : n = 1 := by omega
    subst hcc; subst hn1
    have RR := R1 rfl
    clear R1 R2
    go_enter Tryd.func17, Tryd.ntmps17
    go_wp2_with (first | (go_at_call 32; refine (c_Rin _ _ _ _).mono ?_; rintro e w' ⟨rfl, rfl⟩) | (go_at_call 35; refine (CA.out _ _ _ RR.out (by omega)).mono ?_; rintro e w' ⟨rfl, rfl⟩))
    go_loopw [4, 5] (fun o i wr => ∃ (A' : Option Addr) (c' k : Nat), k ≤ 1 ∧ i = .int .i64 ((k + 1 : Nat) : Int) ∧ o = .slice A' k c' ∧ Hid (OwnF wr w.heap.size A' k c' (cfs L k)) ∧ Hid (∀ j, 1 ≤ j → j ≤ k → cp L j ≤ 1000000 ∧ cq L j ≤ 1000000) ∧ Below w.heap.size w wr) (fun _ i _ => 1 + 1 - (intOf i).toNat)
    case atStart => exact ⟨none, 0, 0, Nat.zero_le _, rfl, rfl, OwnF.nil _ _, fun j h1 h2 => absurd h1 (by omega), Below.refl _ _⟩
    case round =>
      obtain ⟨A', c', k, hk, rfl, rfl, HO, HS, hbr⟩ := hrel
      by_cases hlt : k + 1 ≤ 1
      · have k1 : k + 1 ≤ 1 := by omega
        have k2 : (k : Int) + 1 ≤ (1 : Int) := by omega
        have k3 : 0 ≤ (k : Int) + 1 := by omega
        have hb' := cv_bd HT.out (k + 1) (by rw [HL.out.1]; omega)
        have E5 := Lib.hid (cfs_succ L k)
        have CF := Lib.hid (CFR.out k wr hlt HS.out hbr)
        obtain ⟨P, hP⟩ : ∃ P, P = cp L (k + 1) := ⟨_, rfl⟩
        obtain ⟨Q, hQ⟩ : ∃ Q, Q = cq L (k + 1) := ⟨_, rfl⟩
        rw [← hP, ← hQ] at CF E5
        have HP := Lib.hid hP
        have HQ := Lib.hid hQ
        clear hP hQ hb'
        go_wp2_with fail
        refine CF.out.mono ?_
        rintro e w2 ⟨rfl, hb⟩
        have hs := hbr.size
        have B2 := hbr.trans (hb.mono hs)
        have hs2 := B2.size
        have O2 := Lib.hid ((HO.out.keep hb).alloc (.cells #[.int .i64 P, .int .i64 Q] 35))
        have B3 := Lib.hid (B2.alloc hs2 (.cells #[.int .i64 P, .int .i64 Q] 35))
        have sz3 : w.heap.size ≤ (w2.alloc (.cells #[.int .i64 P, .int .i64 Q] 35)).heap.size := B3.out.size
        have SZ3 := Lib.hid sz3
        have SZW : Hid ((w2.alloc (.cells #[.int .i64 P, .int .i64 Q] 35)).heap.size = w2.heap.size + 1) := by rw [Hid]; simp
        clear hb hbr HO B2 sz3
        by_cases hP6 : 1000000 < P
        · have HN : Hid (¬ CfAll L 1) := fun h => by have := (h (k + 1) (by omega) (by omega)).1; rw [← HP.out] at this; omega
          go_wp2
          go_ret2
          exact ⟨.inr ⟨HN.out, rfl⟩, B3.out⟩
        · by_cases hQ6 : 1000000 < Q
          · have HN : Hid (¬ CfAll L 1) := fun h => by have := (h (k + 1) (by omega) (by omega)).2; rw [← HQ.out] at this; omega
            go_wp2
            go_ret2
            exact ⟨.inr ⟨HN.out, rfl⟩, B3.out⟩
          · have HS' : Hid (∀ j, 1 ≤ j → j ≤ k + 1 → cp L j ≤ 1000000 ∧ cq L j ≤ 1000000) := fun j h1 h2 => by
              by_cases e : j = k + 1
              · subst e; rw [← HP.out, ← HQ.out]; omega
              · exact HS.out j h1 (by omega)
            have hk6 : k ≤ 1000000 := by omega
            go_wp2_with (at_builtin; refine wp_pushG rfl (.tmp 42) (.tmp 44) rfl w.heap.size (w2.heap.size + 1) SZW.out P Q rfl rfl O2.out hk6 SZ3.out ?_)
            intro A6 c6 w6 o6 hb6
            have O6 : Hid (OwnF w6 w.heap.size A6 (k + 1) c6 (cfs L (k + 1))) := by rw [Hid, ← E5.out]; exact o6
            have B6 := Lib.hid (B3.out.trans hb6)
            clear o6 hb6 O2 B3
            go_wp2
            go_roundw
            case rel => exact ⟨A6, c6, k + 1, by omega, by go_num, rfl, O6.out, HS'.out, B6.out⟩
            case measure => simp [intOf]; omega
      · have HC : Hid (CfAll L 1) := fun j h1 h2 => HS.out j h1 (by omega)
        have ek : k = 1 := by omega
        subst ek
        go_wp2
        go_ret2
        exact ⟨.inl ⟨HC.out, A', c', rfl, HO.out⟩, hbr⟩
  · have hcc' : 1 < c := by omega
    clear R1
    go_enter Tryd.func17, Tryd.ntmps17
    go_wp2_with (first | (go_at_call 32; refine (c_Rin _ _ _ _).mono ?_; rintro e w' ⟨rfl, rfl⟩) | (go_at_call 35; refine (CA.out _ _ _ R2.out (by omega)).mono ?_; rintro e w' ⟨rfl, rfl⟩))
    go_loopw [4, 5] (fun o i wr => ∃ (A' : Option Addr) (c' k : Nat), k ≤ n ∧ i = .int .i64 ((k + 1 : Nat) : Int) ∧ o = .slice A' k c' ∧ Hid (OwnF wr w.heap.size A' k c' (cfs L k)) ∧ Hid (∀ j, 1 ≤ j → j ≤ k → cp L j ≤ 1000000 ∧ cq L j ≤ 1000000) ∧ Below w.heap.size w wr) (fun _ i _ => n + 1 - (intOf i).toNat)
    case atStart => exact ⟨none, 0, 0, Nat.zero_le _, rfl, rfl, OwnF.nil _ _, fun j h1 h2 => absurd h1 (by omega), Below.refl _ _⟩
    case round =>
      obtain ⟨A', c', k, hk, rfl, rfl, HO, HS, hbr⟩ := hrel
      by_cases hlt : k + 1 ≤ n
      · have k1 : k + 1 ≤ c := by omega
        have k2 : (k : Int) + 1 ≤ (c : Int) := by omega
        have k3 : 0 ≤ (k : Int) + 1 := by omega
        have hb' := cv_bd HT.out (k + 1) (by rw [HL.out.1]; omega)
        have E5 := Lib.hid (cfs_succ L k)
        have CF := Lib.hid (CFR.out k wr hlt HS.out hbr)
        obtain ⟨P, hP⟩ : ∃ P, P = cp L (k + 1) := ⟨_, rfl⟩
        obtain ⟨Q, hQ⟩ : ∃ Q, Q = cq L (k + 1) := ⟨_, rfl⟩
        rw [← hP, ← hQ] at CF E5
        have HP := Lib.hid hP
        have HQ := Lib.hid hQ
        clear hP hQ hb'
        go_wp2_with fail
        refine CF.out.mono ?_
        rintro e w2 ⟨rfl, hb⟩
        have hs := hbr.size
        have B2 := hbr.trans (hb.mono hs)
        have hs2 := B2.size
        have O2 := Lib.hid ((HO.out.keep hb).alloc (.cells #[.int .i64 P, .int .i64 Q] 35))
        have B3 := Lib.hid (B2.alloc hs2 (.cells #[.int .i64 P, .int .i64 Q] 35))
        have sz3 : w.heap.size ≤ (w2.alloc (.cells #[.int .i64 P, .int .i64 Q] 35)).heap.size := B3.out.size
        have SZ3 := Lib.hid sz3
        have SZW : Hid ((w2.alloc (.cells #[.int .i64 P, .int .i64 Q] 35)).heap.size = w2.heap.size + 1) := by rw [Hid]; simp
        clear hb hbr HO B2 sz3
        by_cases hP6 : 1000000 < P
        · have HN : Hid (¬ CfAll L n) := fun h => by have := (h (k + 1) (by omega) (by omega)).1; rw [← HP.out] at this; omega
          go_wp2
          go_ret2
          exact ⟨.inr ⟨HN.out, rfl⟩, B3.out⟩
        · by_cases hQ6 : 1000000 < Q
          · have HN : Hid (¬ CfAll L n) := fun h => by have := (h (k + 1) (by omega) (by omega)).2; rw [← HQ.out] at this; omega
            go_wp2
            go_ret2
            exact ⟨.inr ⟨HN.out, rfl⟩, B3.out⟩
          · have HS' : Hid (∀ j, 1 ≤ j → j ≤ k + 1 → cp L j ≤ 1000000 ∧ cq L j ≤ 1000000) := fun j h1 h2 => by
              by_cases e : j = k + 1
              · subst e; rw [← HP.out, ← HQ.out]; omega
              · exact HS.out j h1 (by omega)
            have hk6 : k ≤ 1000000 := by omega
            go_wp2_with (at_builtin; refine wp_pushG rfl (.tmp 42) (.tmp 44) rfl w.heap.size (w2.heap.size + 1) SZW.out P Q rfl rfl O2.out hk6 SZ3.out ?_)
            intro A6 c6 w6 o6 hb6
            have O6 : Hid (OwnF w6 w.heap.size A6 (k + 1) c6 (cfs L (k + 1))) := by rw [Hid, ← E5.out]; exact o6
            have B6 := Lib.hid (B3.out.trans hb6)
            clear o6 hb6 O2 B3
            go_wp2
            go_roundw
            case rel => exact ⟨A6, c6, k + 1, by omega, by go_num, rfl, O6.out, HS'.out, B6.out⟩
            case measure => simp [intOf]; omega
      · have HC : Hid (CfAll L n) := fun j h1 h2 => HS.out j h1 (by omega)
        have ek : k = n := by omega
        subst ek
        go_wp2
        go_ret2
        exact ⟨.inl ⟨HC.out, A', c', rfl, HO.out⟩, hbr⟩
set_option maxHeartbeats 1000000 in
theorem c_RNear_bad (A : Option Addr) (n c : Nat) (L : List Int) (w : World) (hL : Rd w w.heap.size A n L) (hc : n ≤ c ∧ c ≤ 9223372036854775807) (hT : ¬ TOk L) :
    Calls Tryd.prog 17 #[.slice A n c] w fun e w' => e = .returned (.tuple #[.slice none 0 0, .int .i64 (nearE L)]) ∧ w = w' := by
  have hl := hL.1
  obtain ⟨hc1, hc2⟩ := hc
  by_cases h0 : n = 0
  · have HE : Hid (nearE L = 5) := by unfold nearE; rw [if_pos (by omega)]; rfl
    have e0 : ((n : Int) == 0) = true := by simp [h0]
    rw [HE.out]
    clear hT h0 hl
    go_enter Tryd.func17, Tryd.ntmps17
    go_wp2
    go_ret2
    exact ⟨rfl, rfl⟩
  · have e0 : ((n : Int) == 0) = false := by simp; omega
    by_cases h1 : 30 < n
    · have HE : Hid (nearE L = 4) := by unfold nearE; rw [if_neg (by omega), if_pos (by omega)]; rfl
      rw [HE.out]
      clear hT hl
      go_enter Tryd.func17, Tryd.ntmps17
      go_wp2
      go_ret2
      exact ⟨rfl, rfl⟩
    · obtain ⟨b, off, rfl, hcell⟩ := hL.at_ (k := 0) (by omega)
      rw [Nat.add_zero] at hcell
      have hpos : 0 < n := by omega
      by_cases h2 : 0 ≤ nth L 0 ∧ nth L 0 ≤ 1000000
      · have o1 : inB (nth L 0) 0 1000000 = true := inC_true h2
        have a1 : anyB (L.drop 1) 1 1000000 = true := by
          cases e : anyB (L.drop 1) 1 1000000
          · exact absurd (tok_of_any (by omega) (by omega) h2 e) hT
          · rfl
        have b1 : allB (L.drop 1) 1 1000000 = false := by rw [allB_not, a1]; rfl
        have HE : Hid (nearE L = 1) := by unfold nearE; rw [if_neg (by omega), if_neg (by omega), if_pos (.inr a1)]; rfl
        rw [HE.out]
        have CA : Hid (∀ A2 n2 c2, Rd w w.heap.size A2 n2 (L.drop 1) → n2 ≤ 30 → Calls Tryd.prog 35 #[.slice A2 n2 c2, .int .i64 1, .int .i64 1000000] w fun e w' => e = .returned (.bool false) ∧ w = w') := fun A2 n2 c2 hr hn2 => by
          have h := c_All A2 n2 c2 (L.drop 1) 1 1000000 _ w hr (by omega)
          rw [b1] at h
          exact h
        by_cases hcc : c = 1
        · subst hcc
          obtain rfl : n = 1 := by omega
          have HA := Lib.hid (rd_tail0 hL)
          clear hT h2 hl
          go_enter Tryd.func17, Tryd.ntmps17
          go_wp2_with (first | (go_at_call 32; refine (c_Rin _ _ _ _).mono ?_; rintro e w' ⟨rfl, rfl⟩) | (go_at_call 35; refine (CA.out _ _ _ HA.out (by omega)).mono ?_; rintro e w' ⟨rfl, rfl⟩))
          go_ret2
          exact ⟨rfl, rfl⟩
        · have hcc' : 1 < c := by omega
          have HA := Lib.hid (rd_tail hL (by omega))
          clear hT h2 hl
          go_enter Tryd.func17, Tryd.ntmps17
          go_wp2_with (first | (go_at_call 32; refine (c_Rin _ _ _ _).mono ?_; rintro e w' ⟨rfl, rfl⟩) | (go_at_call 35; refine (CA.out _ _ _ HA.out (by omega)).mono ?_; rintro e w' ⟨rfl, rfl⟩))
          go_ret2
          exact ⟨rfl, rfl⟩
      · have o1 : inB (nth L 0) 0 1000000 = false := inC_false h2
        have HE : Hid (nearE L = 1) := by unfold nearE; rw [if_neg (by omega), if_neg (by omega), if_pos (.inl h2)]; rfl
        rw [HE.out]
        clear hT h2 hl
        go_enter Tryd.func17, Tryd.ntmps17
        go_wp2_with (go_at_call 32; refine (c_Rin _ _ _ _).mono ?_; rintro e w' ⟨rfl, rfl⟩)
        go_ret2
        exact ⟨rfl, rfl⟩
end Go.Proofs.YtpfbbalhhldghaaDoor
