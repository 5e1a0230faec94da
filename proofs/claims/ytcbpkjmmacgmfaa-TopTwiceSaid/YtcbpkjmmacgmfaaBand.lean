/- The contracts of package band: Check and Det where nothing is wrong. -/
import Derived.Test.YtcbpkjmmacgmfaaBandM
import Derived.Test.YtcbpkjmmacgmfaaNum
import Derived.Test.YtcbpkjmmacgmfaaMem
import Derived.BigQuiet
import Derived.Deep.QuietTactic
namespace Go.Proofs.Ytcbpkjmmacgmfaa
open Go.RowKit

theorem tmodB (n : Int) : -9973 < n.tmod 9973 ∧ n.tmod 9973 < 9973 ∧ (n.tmod 9973 + 9973) % 9973 = n % 9973 := by
  have h1 := Int.lt_tmod_of_pos n (show (0 : Int) < 9973 by omega)
  have h2 := Int.tmod_lt_of_pos n (show (0 : Int) < 9973 by omega)
  have e := Int.tmod_add_mul_tdiv n 9973
  refine ⟨h1, h2, ?_⟩
  omega
theorem c_BModP (n : Int) (w : World) (h1 : -4611686018427387904 ≤ n) (h2 : n ≤ 4611686018427387904) :
    Calls Try.prog 22 #[.int .i64 n, .int .i64 9973] w fun e w' => e = .returned (.int .i64 (n % 9973)) ∧ w = w' := by
  obtain ⟨b1, b2, e⟩ := tmodB n
  have E := Lib.hid e
  have _hr := h1
  have _hs := h2
  clear e
  go_enter Try.func22, Try.ntmps22
  go_wp2
  go_ret
  exact ⟨ret_int E.out, rfl⟩
theorem c_BField (n : Int) (w : World) (h1 : -4611686018427387904 ≤ n) (h2 : n ≤ 4611686018427387904) :
    Calls Try.prog 16 #[.int .i64 n] w fun e w' => e = .returned (.int .i64 (n % 9973)) ∧ w = w' := by
  go_enter Try.func16, Try.ntmps16
  go_wp2_with fail
  refine (c_BModP n _ h1 h2).mono ?_
  rintro e w' ⟨rfl, rfl⟩
  go_wp2
  go_ret
  exact ⟨rfl, rfl⟩
theorem pair_store {w : World} {G : Nat} {u0 u1 : Value} (c0 : w.cell? ⟨G, 0, none⟩ = some u0) (c1 : w.cell? ⟨G, 1, none⟩ = some u1) (x y : Value) :
    ((w.setCell ⟨G, 0, none⟩ x).setCell ⟨G, 1, none⟩ y).cell? ⟨G, 0, none⟩ = some x ∧ ((w.setCell ⟨G, 0, none⟩ x).setCell ⟨G, 1, none⟩ y).cell? ⟨G, 1, none⟩ = some y := by
  refine ⟨?_, ?_⟩
  · rw [World.cell?_setCell_other (h := by simp), World.cell?_setCell_same (h := c0)]
  · exact World.cell?_setCell_same _ _ _ ((World.cell?_setCell_other _ _ _ _ (by simp)).trans c1)
section
variable (A A1 A2 : Option Addr) (n n1 n2 c c1 c2 : Nat) (L U V : List Int) (B B1 B2 : Nat) (w : World)
theorem c_BCheck (hL : Rd w B A n L) (hU : Rd w B1 A1 n1 U) (hV : Rd w B2 A2 n2 V) (h1 : 1 ≤ n) (h10 : n ≤ 10) (e1 : n1 + 1 = n) (e2 : n2 + 1 = n) (aL : anyB L 0 9972 = false) (aU : anyB U 0 9972 = false) (aV : anyB V 0 9972 = false) :
    Calls Try.prog 15 #[.slice A n c, .slice A1 n1 c1, .slice A2 n2 c2] w fun e w' => e = .returned .nilIface ∧ w = w' := by
  have t0 : ((n : Int) == 0) = false := by simp; omega
  have t1 : ((n1 : Int) != (n : Int) - 1) = false := by simp; omega
  have t2 : ((n2 : Int) != (n : Int) - 1) = false := by simp; omega
  go_enter Try.func15, Try.ntmps15
  go_wp2_with fail
  refine (c_Any _ _ _ L 0 9972 _ _ hL (by omega)).mono ?_
  rintro e w' ⟨rfl, rfl⟩
  rw [aL]
  go_wp2_with fail
  refine (c_Any _ _ _ U 0 9972 _ _ hU (by omega)).mono ?_
  rintro e w' ⟨rfl, rfl⟩
  rw [aU]
  go_wp2_with fail
  refine (c_Any _ _ _ V 0 9972 _ _ hV (by omega)).mono ?_
  rintro e w' ⟨rfl, rfl⟩
  rw [aV]
  go_wp2
  go_ret
  exact ⟨rfl, rfl⟩
theorem any_nth {L : List Int} {lo hi : Int} (h : anyB L lo hi = false) {k : Nat} (hk : k < L.length) : lo ≤ nth L k ∧ nth L k ≤ hi := anyB_false h _ (nth_mem hk)
theorem mul_bB {x y : Int} (hx : 0 ≤ x ∧ x < 9973) (hy : 0 ≤ y ∧ y < 9973) : 0 ≤ x * y ∧ x * y ≤ 99460729 :=
  ⟨Int.mul_nonneg hx.1 hy.1, by have := Int.mul_le_mul (a := x) (b := y) (c := 9973) (d := 9973) (by omega) (by omega) hy.1 (by omega); omega⟩
set_option maxHeartbeats 4000000 in
set_option maxRecDepth 100000 in
theorem c_BDet (hL : Rd w w.heap.size A n L) (hU : Rd w w.heap.size A1 n1 U) (hV : Rd w w.heap.size A2 n2 V) (h1 : 1 ≤ n) (h10 : n ≤ 10) (e1 : n1 + 1 = n) (e2 : n2 + 1 = n) (aL : anyB L 0 9972 = false) (aU : anyB U 0 9972 = false) (aV : anyB V 0 9972 = false) :
    Calls Try.prog 6 #[.slice A n c, .slice A1 n1 c1, .slice A2 n2 c2] w fun e w' => e = .returned (.tuple #[.int .i64 (bdt L U V n), .nilIface]) ∧ Below w.heap.size w w' := by
  have HL := Lib.hid hL
  have HU := Lib.hid hU
  have HV := Lib.hid hV
  have CK : Hid (Calls Try.prog 15 #[.slice A n c, .slice A1 n1 c1, .slice A2 n2 c2] w fun e w' => e = .returned .nilIface ∧ w = w') := c_BCheck A A1 A2 n n1 n2 c c1 c2 L U V _ _ _ w hL hU hV h1 h10 e1 e2 aL aU aV
  have BL : Hid (∀ k, k < n → 0 ≤ nth L k ∧ nth L k ≤ 9972) := fun k hk => any_nth aL (by rw [HL.out.1]; exact hk)
  have BU : Hid (∀ k, k < n1 → 0 ≤ nth U k ∧ nth U k ≤ 9972) := fun k hk => any_nth aU (by rw [HU.out.1]; exact hk)
  have BV : Hid (∀ k, k < n2 → 0 ≤ nth V k ∧ nth V k ≤ 9972) := fun k hk => any_nth aV (by rw [HV.out.1]; exact hk)
  have BD : Hid (∀ k, 0 ≤ bdt L U V k ∧ bdt L U V k < 9973) := fun k => bdt_bd (by have := BL.out 0 (by omega); omega) k
  have D0 : Hid (bdt L U V 0 = 1) := rfl
  have D1 : Hid (bdt L U V 1 = nth L 0) := rfl
  obtain ⟨b, off, rfl, hB, hc⟩ := hL.at' (k := 0) (by omega)
  rw [Nat.add_zero] at hc
  obtain ⟨W, hW⟩ : ∃ W, W = w.heap.size := ⟨_, rfl⟩
  have HW := Lib.hid hW
  clear hL hU hV aL aU aV
  have h0 : 0 < n := by omega
  go_enter Try.func6, Try.ntmps6
  go_wp2_with fail
  refine CK.out.mono ?_
  rintro e w' ⟨rfl, rfl⟩
  go_wp2
  rw [← hW]
  clear hW
  go_loopw [10] (fun i wr => ∃ k : Nat, 1 ≤ k ∧ k ≤ n ∧ i = .int .i64 k ∧ wr.cell? ⟨W, 0, none⟩ = some (.int .i64 (bdt L U V (k - 1))) ∧ wr.cell? ⟨W, 1, none⟩ = some (.int .i64 (bdt L U V k)) ∧ wr.frozen? ⟨W, 0, none⟩ = false ∧ wr.frozen? ⟨W, 1, none⟩ = false ∧ Below w.heap.size w wr) (fun i _ => n - (intOf i).toNat)
  case atStart =>
    have hW := HW.out
    subst hW
    exact ⟨1, Nat.le_refl _, h1, rfl, by rw [D0.out]; simp, by rw [D1.out]; simp, by simp, by simp, by go_grown⟩
  case round =>
    obtain ⟨k, hk1, hk, rfl, m0, m1, f0, f1, hbr⟩ := hrel
    by_cases hlt : k < n
    · obtain ⟨b', off', e', x1⟩ := (HL.out.below hbr).at_ hlt
      injection e' with e'
      injection e' with e3 e4 _
      subst e3; subst e4
      obtain ⟨bu, ou, rfl, x2⟩ := (HU.out.below hbr).at_ (k := k - 1) (by omega)
      obtain ⟨bv, ov, rfl, x3⟩ := (HV.out.below hbr).at_ (k := k - 1) (by omega)
      have d1 := BL.out k hlt
      have d2 := BU.out (k - 1) (by omega)
      have d3 := BV.out (k - 1) (by omega)
      have d4 := BD.out k
      have d5 := BD.out (k - 1)
      obtain ⟨j, rfl⟩ : ∃ j, k = j + 1 := ⟨k - 1, by omega⟩
      rw [Nat.add_sub_cancel] at m0 x2 x3 d2 d3 d5
      have HS := Lib.hid (bdt_succ L U V j)
      obtain ⟨t, ht⟩ : ∃ t, t = nth L (j + 1) := ⟨_, rfl⟩
      obtain ⟨u, hu⟩ : ∃ u, u = nth U j := ⟨_, rfl⟩
      obtain ⟨v, hv⟩ : ∃ v, v = nth V j := ⟨_, rfl⟩
      obtain ⟨p, hp⟩ : ∃ p, p = bdt L U V (j + 1) := ⟨_, rfl⟩
      obtain ⟨q, hq⟩ : ∃ q, q = bdt L U V j := ⟨_, rfl⟩
      rw [← ht] at x1 d1 HS
      rw [← hu] at x2 d2 HS
      rw [← hv] at x3 d3 HS
      rw [← hp] at m1 d4 HS
      rw [← hq] at m0 d5 HS
      have HP := Lib.hid hp
      clear ht hu hv hp hq
      have y1 := mul_bB (x := t) (y := p) (by omega) (by omega)
      have y2 := mul_bB (x := u) (y := v) (by omega) (by omega)
      have y3 := mul_bB (x := u * v % 9973) (y := q) (by omega) (by omega)
      have CF : Hid (∀ i, Calls Try.prog 16 #[.int .i64 (t * p - u * v % 9973 * q)] (wr.drewN i) fun e w' => e = .returned (.int .i64 (bdt L U V (j + 2))) ∧ wr.drewN i = w') := fun i => by
        rw [HS.out]; exact c_BField _ _ (by omega) (by omega)
      have BD2 := BD.out (j + 2)
      have W1 : IntKind.i64.wrap (t * p) = t * p := IntWalk.i64_in _ (by omega)
      have W2 : IntKind.i64.wrap (u * v) = u * v := IntWalk.i64_in _ (by omega)
      have W3 : IntKind.i64.wrap (u * v % 9973 * q) = u * v % 9973 * q := IntWalk.i64_in _ (by omega)
      have W4 : IntKind.i64.wrap (t * p - u * v % 9973 * q) = t * p - u * v % 9973 * q := IntWalk.i64_in _ (by omega)
      have W5 : (u * v).tmod 9973 = u * v % 9973 := Int.tmod_eq_emod_of_nonneg y2.1
      have W6 : IntKind.i64.wrap (((j + 1 : Nat) : Int) - 1) = (j : Int) := by rw [IntWalk.i64_in _ (by omega)]; omega
      have W6' : IntKind.i64.wrap ((j : Int) + 1 - 1) = (j : Int) := by rw [IntWalk.i64_in _ (by omega)]; omega
      have W7 : IntKind.i64.wrap (u * v % 9973) = u * v % 9973 := IntWalk.i64_in _ (by omega)
      have L1 : j < n1 := by omega
      have L2 : j < n2 := by omega
      have L3 : j + 1 < n := hlt
      obtain ⟨d, hd⟩ : ∃ d, d = bdt L U V (j + 2) := ⟨_, rfl⟩
      rw [← hd] at CF BD2
      have HD := Lib.hid hd
      clear hd
      go_wp2_with fail
      go_quiet ((go_at_call 16; first | exact quiet_left (CF.out _) | exact quiet_add_left (CF.out _)))
      have hb5 := below_drewN hbr nq
      have m0' : (wr.drewN nq).cell? ⟨W, 0, none⟩ = some (.int .i64 q) := m0
      have m1' : (wr.drewN nq).cell? ⟨W, 1, none⟩ = some (.int .i64 p) := m1
      have f0' : (wr.drewN nq).frozen? ⟨W, 0, none⟩ = false := f0
      have f1' : (wr.drewN nq).frozen? ⟨W, 1, none⟩ = false := f1
      obtain ⟨w5, hw5⟩ : ∃ w5, w5 = wr.drewN nq := ⟨_, rfl⟩
      rw [← hw5] at hb5 m0' m1' f0' f1' ⊢
      clear hw5 CF W1 W2 W3 W4 W5 W6 W6' W7 L1 L2 L3 x1 x2 x3 m0 m1 f0 f1 hbr HS
      have ST := Lib.hid (pair_store m0' m1' (.int .i64 p) (.int .i64 d))
      have F2 : Hid (((w5.setCell ⟨W, 0, none⟩ (.int .i64 p)).setCell ⟨W, 1, none⟩ (.int .i64 d)).frozen? ⟨W, 0, none⟩ = false ∧ ((w5.setCell ⟨W, 0, none⟩ (.int .i64 p)).setCell ⟨W, 1, none⟩ (.int .i64 d)).frozen? ⟨W, 1, none⟩ = false) := by
        refine ⟨?_, ?_⟩
        · rw [World.frozen?_setCell, World.frozen?_setCell]; exact f0'
        · rw [World.frozen?_setCell, World.frozen?_setCell]; exact f1'
      have B5 := Lib.hid ((hb5.setCell (p := ⟨W, 0, none⟩) (by rw [← HW.out]; exact Nat.le_refl _) (.int .i64 p)).setCell (p := ⟨W, 1, none⟩) (by rw [← HW.out]; exact Nat.le_refl _) (.int .i64 d))
      go_wp2
      go_roundw
      case rel => exact ⟨j + 1 + 1, by omega, by omega, by go_num, by rw [Nat.add_sub_cancel, ← HP.out]; exact ST.out.1, by rw [← HD.out]; exact ST.out.2, F2.out.1, F2.out.2, B5.out⟩
      case measure => simp [intOf]; omega
    · obtain rfl : k = n := by omega
      go_wp2
      go_ret2
      exact ⟨rfl, hbr⟩
end
end Go.Proofs.Ytcbpkjmmacgmfaa
