/- The contracts of the reference's Fraction, Terms, fraction. -/
import Derived.Test.YtpfbbalhhldghaaDoorContRM
import Derived.Test.YtpfbbalhhldghaaDoorContG
import Derived.StillTailTactics
namespace Go.Proofs.YtpfbbalhhldghaaDoor
open Go.RowKit

theorem inC_true {n lo hi : Int} (h : lo ≤ n ∧ n ≤ hi) : inB n lo hi = true := by unfold inB; simp [h]
theorem inC_false {n lo hi : Int} (h : ¬ (lo ≤ n ∧ n ≤ hi)) : inB n lo hi = false := by
  cases e : inB n lo hi
  · rfl
  · unfold inB at e; simp at e; exact absurd e h
theorem c_RFraction_ok (a b : Int) (w : World) (h : FrOk a b) :
    Calls Tryd.prog 13 #[.agg #[.int .i64 a, .int .i64 b]] w fun e w' => e = .returned (.int .i64 0) ∧ Below w.heap.size w w' := by
  have o1 : inB a 0 1000000 = true := inC_true ⟨h.1, h.2.1⟩
  have o2 : inB b 1 1000000 = true := inC_true ⟨h.2.2.1, h.2.2.2⟩
  clear h
  go_enter Tryd.func13, Tryd.ntmps13
  go_wp2_with (go_at_call 32; refine (c_Rin _ _ _ _).mono ?_; rintro e w' ⟨rfl, rfl⟩)
  go_ret
  exact ⟨rfl, by go_grown⟩
theorem c_RFraction_bad (a b : Int) (w : World) (h : ¬ FrOk a b) :
    Calls Tryd.prog 13 #[.agg #[.int .i64 a, .int .i64 b]] w fun e w' => e = .returned (.int .i64 1) ∧ Below w.heap.size w w' := by
  by_cases h1 : 0 ≤ a ∧ a ≤ 1000000
  · have o1 : inB a 0 1000000 = true := inC_true h1
    have o2 : inB b 1 1000000 = false := inC_false (by unfold FrOk at h; omega)
    clear h h1
    go_enter Tryd.func13, Tryd.ntmps13
    go_wp2_with (go_at_call 32; refine (c_Rin _ _ _ _).mono ?_; rintro e w' ⟨rfl, rfl⟩)
    go_ret
    exact ⟨rfl, by go_grown⟩
  · have o1 : inB a 0 1000000 = false := inC_false h1
    clear h h1
    go_enter Tryd.func13, Tryd.ntmps13
    go_wp2_with (go_at_call 32; refine (c_Rin _ _ _ _).mono ?_; rintro e w' ⟨rfl, rfl⟩)
    go_ret
    exact ⟨rfl, by go_grown⟩
set_option maxHeartbeats 1000000 in
theorem c_RTerms (a b : Nat) (w : World) (ha : a ≤ 1000000) (hb : b ≤ 1000000) :
    Calls Tryd.prog 14 #[.int .i64 a, .int .i64 b] w fun e w' => ∃ A c, e = .returned (.slice A (st a b) c) ∧ Own w' w.heap.size A (st a b) c (tms a b) ∧ Below w.heap.size w w' := by
  have hs := st_le ha hb
  obtain ⟨N, hN⟩ : ∃ N, N = st a b := ⟨_, rfl⟩
  rw [← hN] at hs ⊢
  have HN : Hid ((tms a b).length = N) := by rw [hN]; exact tms_length a b
  clear hN
  go_enter Tryd.func14, Tryd.ntmps14
  go_wp2
  go_loopw [0, 1, 5] (fun u v o wr => ∃ (A : Option Addr) (c k x y : Nat) (L : List Int), k ≤ N ∧ x ≤ 1000000 ∧ y ≤ 1000000 ∧ o = .slice A k c ∧ u = .int .i64 x ∧ v = .int .i64 y ∧ Hid (Own wr w.heap.size A k c L) ∧ Hid (L ++ tms x y = tms a b) ∧ Below w.heap.size w wr) (fun _ v _ _ => (intOf v).toNat)
  case atStart => exact ⟨none, 0, 0, a, b, [], Nat.zero_le _, ha, hb, rfl, rfl, rfl, Own.nil _ _, rfl, Below.refl _ _⟩
  case round =>
    obtain ⟨A, c, k, x, y, L, hk, hx, hy, rfl, rfl, rfl, HO, HL, hbr⟩ := hrel
    by_cases hy0 : y = 0
    · subst hy0
      have e := HL.out
      rw [tms_zero, List.append_nil] at e
      have hkN : k = N := by rw [← HN.out, ← e]; exact HO.out.1.symm
      have HO' : Hid (Own wr w.heap.size A k c (tms a b)) := by rw [← e]; exact HO
      clear e HO HL
      subst hkN
      go_wp2
      go_ret
      exact ⟨A, c, rfl, HO'.out, hbr⟩
    · have hy1 : ¬ (y : Int) = 0 := by omega
      have hy2 : 0 < y := by omega
      have hm := Nat.mod_lt x (show 0 < y by omega)
      have hsz := hbr.size
      have hk1 : k + 1 ≤ N := by
        have h1 := congrArg List.length HL.out
        rw [List.length_append, HO.out.1, HN.out, tms_length, st_pos hy0] at h1
        omega
      have HL' := Lib.hid (tms_step hy0 HL.out)
      obtain ⟨z, hz⟩ : ∃ z, z = x % y := ⟨_, rfl⟩
      obtain ⟨t, ht⟩ : ∃ t, t = x / y := ⟨_, rfl⟩
      have hz' : (x : Int) % (y : Int) = (z : Int) := by rw [hz]; simp
      have ht' : (x : Int) / (y : Int) = (t : Int) := by rw [ht]; simp
      have ht2 : t ≤ 1000000 := by rw [ht]; exact Nat.le_trans (Nat.div_le_self x y) hx
      rw [← hz] at hm HL'
      rw [← ht] at HL'
      clear hz ht HL
      go_wp2_with (at_builtin; refine wp_push rfl (.tmp 9) (.tmp 13) rfl w.heap.size rfl rfl HO.out (by omega) hsz ?_)
      intro A2 c2 w2 hown2 hb2
      have HO2 := Lib.hid hown2
      have HB2 := Lib.hid (hbr.trans hb2)
      clear hown2 hb2 HO hbr hsz
      go_wp2
      go_roundw
      case rel => exact ⟨A2, c2, k + 1, y, z, _, hk1, hy, by omega, rfl, rfl, by first | rfl | rw [hz'], HO2.out, HL'.out, HB2.out⟩
      case measure => simp [intOf]; omega
/-- Two boxes, a pair stored into the second one. -/
theorem store2 {w wr : World} {W : Nat} {a b p q P Q : Int} (h1 : P2 wr W a b) (h2 : P2 wr (W + 1) p q) (hf : wr.frozen? ⟨W, 0, none⟩ = false ∧ wr.frozen? ⟨W, 1, none⟩ = false ∧ wr.frozen? ⟨W + 1, 0, none⟩ = false ∧ wr.frozen? ⟨W + 1, 1, none⟩ = false) (hs : W + 2 ≤ wr.heap.size) (hb : Below w.heap.size w wr) (hW : w.heap.size ≤ W + 1) :
    P2 ((wr.drew.setCell ⟨W + 1, 0, none⟩ (.int .i64 P)).setCell ⟨W + 1, 1, none⟩ (.int .i64 Q)) (W + 1) P Q ∧ P2 ((wr.drew.setCell ⟨W + 1, 0, none⟩ (.int .i64 P)).setCell ⟨W + 1, 1, none⟩ (.int .i64 Q)) W a b ∧
    ((wr.drew.setCell ⟨W + 1, 0, none⟩ (.int .i64 P)).setCell ⟨W + 1, 1, none⟩ (.int .i64 Q)).frozen? ⟨W, 0, none⟩ = false ∧ ((wr.drew.setCell ⟨W + 1, 0, none⟩ (.int .i64 P)).setCell ⟨W + 1, 1, none⟩ (.int .i64 Q)).frozen? ⟨W, 1, none⟩ = false ∧ ((wr.drew.setCell ⟨W + 1, 0, none⟩ (.int .i64 P)).setCell ⟨W + 1, 1, none⟩ (.int .i64 Q)).frozen? ⟨W + 1, 0, none⟩ = false ∧ ((wr.drew.setCell ⟨W + 1, 0, none⟩ (.int .i64 P)).setCell ⟨W + 1, 1, none⟩ (.int .i64 Q)).frozen? ⟨W + 1, 1, none⟩ = false ∧
    W + 2 ≤ ((wr.drew.setCell ⟨W + 1, 0, none⟩ (.int .i64 P)).setCell ⟨W + 1, 1, none⟩ (.int .i64 Q)).heap.size ∧ Below w.heap.size w ((wr.drew.setCell ⟨W + 1, 0, none⟩ (.int .i64 P)).setCell ⟨W + 1, 1, none⟩ (.int .i64 Q)) := by
  have g1 : P2 wr.drew W a b := h1
  have g2 : P2 wr.drew (W + 1) p q := h2
  have b1 := p2_keep (p := ⟨W + 1, 0, none⟩) (u := .int .i64 P) g1 (show W + 1 ≠ W by omega)
  have c1 := (hb.drew).setCell (p := ⟨W + 1, 0, none⟩) hW (.int .i64 P)
  refine ⟨p2_set g2, p2_keep (p := ⟨W + 1, 1, none⟩) (u := .int .i64 Q) b1 (show W + 1 ≠ W by omega), ?_, ?_, ?_, ?_, ?_, c1.setCell (p := ⟨W + 1, 1, none⟩) hW (.int .i64 Q)⟩
  · rw [World.frozen?_setCell, World.frozen?_setCell]; exact hf.1
  · rw [World.frozen?_setCell, World.frozen?_setCell]; exact hf.2.1
  · rw [World.frozen?_setCell, World.frozen?_setCell]; exact hf.2.2.1
  · rw [World.frozen?_setCell, World.frozen?_setCell]; exact hf.2.2.2
  · rw [World.size_setCell, World.size_setCell]; exact hs
set_option maxHeartbeats 4000000 in
set_option maxRecDepth 100000 in
theorem c_Rfrac (A : Option Addr) (k c : Nat) (M : List Int) (B : Nat) (w : World) (hL : Rd w B A k M) (hB : B ≤ w.heap.size) (hk : 1 ≤ k) (hk30 : k ≤ 30) (hT : ∀ i, i < k → 0 ≤ nth M i ∧ nth M i ≤ 1000000) (hf : ∀ j, j + 1 ≤ k → 0 ≤ (frb M k j).1 ∧ (frb M k j).1 ≤ 1000002000000 ∧ 0 ≤ (frb M k j).2 ∧ (frb M k j).2 ≤ 1000002000000) :
    Calls Tryd.prog 36 #[.slice A k c] w fun e w' => e = .returned (.agg #[.int .i64 (cp M k), .int .i64 (cq M k)]) ∧ Below w.heap.size w w' := by
  have HL := Lib.hid hL
  have HT := Lib.hid hT
  have HF := Lib.hid hf
  have HA := Lib.hid (frb_all M hk)
  have F0 := Lib.hid (frb_zero M k)
  obtain ⟨b, off, rfl, hbB, hc⟩ := hL.at' (k := k - 1) (by omega)
  have t0 := hT (k - 1) (by omega)
  obtain ⟨x0, hx0⟩ : ∃ x, x = nth M (k - 1) := ⟨_, rfl⟩
  rw [← hx0] at hc t0 F0
  obtain ⟨W, hW⟩ : ∃ W, W = w.heap.size := ⟨_, rfl⟩
  have HW := Lib.hid hW
  have HBW : Hid (B ≤ W) := by rw [Hid, hW]; exact hB
  have k1 : (k : Int) - 1 = ((k - 1 : Nat) : Int) := by omega
  have L1 : k - 1 < k := by omega
  have c1 : ∀ o, (w.alloc o).cell? ⟨b, off + (k - 1), none⟩ = some (.int .i64 x0) := fun o => (World.cell?_alloc_lt _ _ ⟨b, off + (k - 1), none⟩ (by show b < w.heap.size; omega)).trans hc
  clear hL hT hf hx0
  go_enter Tryd.func36, Tryd.ntmps36
  go_wp2
  rw [← hW]
  clear hW hc c1
  go_loopw [4] (fun i wr => ∃ (j : Nat) (p q : Int), j + 1 ≤ k ∧ i = .int .i64 ((k : Int) - 2 - (j : Int)) ∧ Hid (frb M k j = (p, q)) ∧ P2 wr (W + 1) p q ∧ P2 wr W 0 0 ∧ wr.frozen? ⟨W, 0, none⟩ = false ∧ wr.frozen? ⟨W, 1, none⟩ = false ∧ wr.frozen? ⟨W + 1, 0, none⟩ = false ∧ wr.frozen? ⟨W + 1, 1, none⟩ = false ∧ W + 2 ≤ wr.heap.size ∧ Below w.heap.size w wr) (fun i _ => (intOf i + 1).toNat)
  case atStart =>
    have hW := HW.out
    subst hW
    exact ⟨0, x0, 1, hk, by go_num, F0.out, ⟨by simp, by simp⟩, ⟨by simp, by simp⟩, by simp, by simp, by simp, by simp, by simp, by go_grown⟩
  case round =>
    obtain ⟨j, p, q, hj, rfl, HP, ⟨m3, m4⟩, ⟨m1, m2⟩, f1, f2, f3, f4, hsz, hbr⟩ := hrel
    by_cases hlt : j + 1 < k
    · have e9 : (k : Int) - 2 - (j : Int) = ((k - 2 - j : Nat) : Int) := by omega
      rw [e9]
      have HN := Lib.hid (frb_succ M k j)
      have hb' := HF.out j hj
      have hb2 := HF.out (j + 1) (by omega)
      rw [HP.out] at HN hb'
      rw [HN.out] at hb2
      obtain ⟨i, hi⟩ : ∃ i, i = k - 2 - j := ⟨_, rfl⟩
      have hik : i < k := by omega
      have HI : Hid ((i : Int) = (k : Int) - 2 - (j : Int)) := by rw [Hid]; omega
      rw [← hi] at HN hb2 ⊢
      obtain ⟨b', off', e', x1⟩ := (HL.out.keep fun p hp => hbr.cell (by have := HBW.out; have := HW.out; omega)).at_ hik
      injection e' with e'
      injection e' with e3 e4 _
      subst e3; subst e4
      have t1 := HT.out i hik
      obtain ⟨t, ht⟩ : ∃ t, t = nth M i := ⟨_, rfl⟩
      rw [← ht] at x1 t1 HN hb2
      clear ht hi e9
      have hb3 : 0 ≤ t * p + q ∧ t * p + q ≤ 1000002000000 := ⟨hb2.1, hb2.2.1⟩
      have hb4 : 0 ≤ p ∧ p ≤ 1000002000000 := ⟨hb'.1, hb'.2.1⟩
      have hb5 : 0 ≤ q ∧ q ≤ 1000002000000 := ⟨hb'.2.2.1, hb'.2.2.2⟩
      have hb6 : 0 ≤ t * p := Int.mul_nonneg t1.1 hb4.1
      have W1 : IntKind.i64.wrap (t * p) = t * p := IntWalk.i64_in _ (by omega)
      have W2 : IntKind.i64.wrap (t * p + q) = t * p + q := IntWalk.i64_in _ (by omega)
      clear hb2 hb'
      have S5 := Lib.hid (store2 (W := W) (P := t * p + q) (Q := p) ⟨m1, m2⟩ ⟨m3, m4⟩ ⟨f1, f2, f3, f4⟩ hsz hbr (by rw [← HW.out]; omega))
      have y3 : wr.drew.cell? ⟨W + 1, 0, none⟩ = some (.int .i64 p) := m3
      have y4 : wr.drew.cell? ⟨W + 1, 1, none⟩ = some (.int .i64 q) := m4
      have y5 : wr.drew.frozen? ⟨W + 1, 0, none⟩ = false := f3
      have y6 : wr.drew.frozen? ⟨W + 1, 1, none⟩ = false := f4
      go_wp2_with fail
      refine wp_region_still_tail 13 (by kernel_rfl) (by kernel_rfl) ?_
      simp only [List.take_succ_cons, List.take_zero, List.drop_succ_cons, List.drop_zero]
      repeat still_step
      refine wpStill_nil ?_
      change wpList _ _ _ _ _ wr.drew
      obtain ⟨w5, hw5⟩ : ∃ w5, w5 = wr.drew := ⟨_, rfl⟩
      rw [← hw5] at S5 y3 y4 y5 y6 ⊢
      clear m1 m2 m3 m4 f1 f2 f3 f4 x1 hw5
      go_wp2
      go_roundw
      case rel => exact ⟨j + 1, t * p + q, p, by omega, congrArg (Value.int .i64) (by have := HI.out; omega), HN.out, S5.out.1, S5.out.2.1, S5.out.2.2.1, S5.out.2.2.2.1, S5.out.2.2.2.2.1, S5.out.2.2.2.2.2.1, S5.out.2.2.2.2.2.2.1, S5.out.2.2.2.2.2.2.2⟩
      case measure => simp [intOf] <;> omega
    · have e9 : (k : Int) - 2 - (j : Int) = -1 := by omega
      rw [e9]
      have ej : j = k - 1 := by omega
      subst ej
      rw [HA.out] at HP
      have ep : Hid (p = cp M k) := by have := HP.out; injection this with h1 h2; exact h1.symm
      have eq : Hid (q = cq M k) := by have := HP.out; injection this with h1 h2; exact h2.symm
      have Z := Lib.hid (p2_set (x' := p) (y' := q) ⟨m1, m2⟩)
      have c1 := hbr.setCell (p := ⟨W, 0, none⟩) (by rw [← HW.out]; exact Nat.le_refl _) (.int .i64 p)
      have C2 := Lib.hid (c1.setCell (p := ⟨W, 1, none⟩) (by rw [← HW.out]; exact Nat.le_refl _) (.int .i64 q))
      clear c1 hlt hbr
      go_wp2
      refine bodyPost_ret (v := .agg #[.int .i64 p, .int .i64 q]) (by have z1 := Z.out.1; have z2 := Z.out.2; simp [results, Tryd.results36, go_sem, z1, z2]) rfl ⟨by rw [ep.out, eq.out], C2.out⟩
end Go.Proofs.YtpfbbalhhldghaaDoor
