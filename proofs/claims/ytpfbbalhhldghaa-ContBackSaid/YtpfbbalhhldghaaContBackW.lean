/- The walk of the statement ContBack: the law returns true for all arguments. -/
import Derived.Test.YtpfbbalhhldghaaContG
import Derived.Test.YtpfbbalhhldghaaView
namespace Go.Proofs.Ytpfbbalhhldghaa
open Go.RowKit

theorem cback_bad (a b : Int) (w : World) (h : ¬ FrOk a b) :
    Calls Try.prog 6 #[.agg #[.int .i64 a, .int .i64 b]] w fun e w' => e = .returned (.bool true) ∧ Below w.heap.size w w' := by
  have H := Lib.hid h
  clear h
  go_enter Try.func6, Try.ntmps6
  go_wp2_with fail
  refine (c_contFact _).mono ?_
  rintro e w1 ⟨rfl, hb1⟩
  obtain ⟨k1, k2, k3, k4⟩ := box2 hb1
  clear hb1
  go_wp2_with fail
  refine (c_Terms_bad _ _ _ H.out).mono ?_
  rintro e w2 ⟨rfl, hb2⟩
  go_wp2
  go_ret
  exact ⟨rfl, k3.trans (hb2.mono k3.size)⟩
/-- The box of the fraction, behind a call that turns nothing old. -/
theorem box2' {w w1 : World} {W : Nat} {a b : Int} (h : P2 w W a b) (hW : W < w.heap.size) (hb : Below w.heap.size w w1) : P2 w1 W a b := h.below hb hW
set_option maxHeartbeats 2000000 in
set_option maxRecDepth 100000 in
theorem cback_ok (a b : Nat) (w : World) (h : FrOk a b) :
    Calls Try.prog 6 #[.agg #[.int .i64 a, .int .i64 b]] w fun e w' => e = .returned (.bool true) ∧ Below w.heap.size w w' := by
  have H := Lib.hid h
  unfold FrOk at h
  have ha : a ≤ 1000000 := by omega
  have hb : b ≤ 1000000 := by omega
  have hb1 : 1 ≤ b := by omega
  have hT := tms_ok ha hb1 hb
  have hC : CfAll (tms a b) (st a b) := fun j h1 h2 => tms_cv ha hb1 hb j h1 (by rw [tms_length]; exact h2)
  have hl := tms_last a b
  have hn : 1 ≤ st a b ∧ st a b ≤ 30 := by rw [← tms_length]; exact ⟨hT.1, hT.2.1⟩
  have htop : st a b = 1 ∨ 1 < nth (tms a b) (st a b - 1) := by
    by_cases e : st a b = 1
    · exact .inl e
    · exact .inr (tms_top (by omega))
  have TE : Hid (∀ w : World, Calls Try.prog 17 #[.agg #[.int .i64 a, .int .i64 b]] w fun e w' => ∃ A c, e = .returned (.tuple #[.slice A (st a b) c, .nilIface]) ∧ Own w' w.heap.size A (st a b) c (tms a b) ∧ Below w.heap.size w w') := fun w => c_Terms_ok a b w H.out
  obtain ⟨N, hN⟩ : ∃ N, N = st a b := ⟨_, rfl⟩
  obtain ⟨L, hL⟩ : ∃ L, L = tms a b := ⟨_, rfl⟩
  rw [← hN, ← hL] at hC hl htop TE
  rw [← hN] at hn
  rw [← hL] at hT
  obtain ⟨l1, l2⟩ := hl
  have cb := hC N hn.1 (Nat.le_refl _)
  have HT := Lib.hid hT
  have HC := Lib.hid hC
  have g0 : Nat.gcd a b ≤ 1000000 := Nat.le_trans (Nat.le_of_dvd (by omega) (Nat.gcd_dvd_right a b)) hb
  have GE : Hid (∀ w : World, Calls Try.prog 19 #[.int .i64 a, .int .i64 b] w fun e w' => e = .returned (.int .i64 (Nat.gcd a b : Nat)) ∧ w = w') := fun w => by
    have := c_RGcd (b + 1) a b w (by omega) (by omega) (by omega) (by omega) (by omega)
    exact this
  obtain ⟨g, hg⟩ : ∃ g, g = Nat.gcd a b := ⟨_, rfl⟩
  rw [← hg] at l1 l2 g0 GE
  have L1 := Lib.hid l1
  have L2 := Lib.hid l2
  have TOP := Lib.hid htop
  clear hT hC hN hL h l1 l2 hg htop
  go_enter Try.func6, Try.ntmps6
  go_wp2_with fail
  refine (c_contFact _).mono ?_
  rintro e w1 ⟨rfl, hb1⟩
  obtain ⟨k1, k2, k3, k4⟩ := box2 hb1
  clear hb1
  go_wp2_with fail
  refine (TE.out _).mono ?_
  rintro e w2 ⟨A, c, rfl, o2, hb2⟩
  have k1 := (hb2.cell (p := ⟨w.heap.size, 0, none⟩) k4).trans k1
  have k2 := (hb2.cell (p := ⟨w.heap.size, 1, none⟩) k4).trans k2
  have k3 := k3.trans (hb2.mono k3.size)
  have k4 := Nat.lt_of_lt_of_le k4 hb2.size
  have O2 := Lib.hid o2
  clear hb2 o2
  have hNc : N ≤ c ∧ c ≤ 9223372036854775807 := by
    rcases O2.out.2.2 with ⟨_, h0⟩ | ⟨g, cap, cur, hv, _, _, h0, h1, _⟩
    · omega
    · injection hv with _ _ hcap
      unfold maxLen at h1
      omega
  go_wp2_with fail
  refine (c_Near_ok _ _ _ L _ O2.out.rd hNc HT.out).mono ?_
  rintro e w3 ⟨⟨_, A3, c3, rfl, o3⟩ | ⟨hC, rfl⟩, hb3⟩
  · have k1 := (hb3.cell (p := ⟨w.heap.size, 0, none⟩) k4).trans k1
    have k2 := (hb3.cell (p := ⟨w.heap.size, 1, none⟩) k4).trans k2
    have k3 := k3.trans (hb3.mono k3.size)
    have k4 := Nat.lt_of_lt_of_le k4 hb3.size
    have O3 := Lib.hid o3.rd
    have O2' := Lib.hid ((O2.out.rd).below hb3)
    have h23 := hb3.size
    clear hb3 o3
    obtain ⟨b3, off3, rfl, x1, x2⟩ := O3.out.at_ (k := N - 1) (by omega)
    obtain ⟨b2, off2, rfl, hlt2, y1⟩ := O2'.out.at' (k := N - 1) (by omega)
    rw [cfs_nf L (show N - 1 < N by omega), show N - 1 + 1 = N by omega] at x1 x2
    have l1 := L1.out
    have l2 := L2.out
    obtain ⟨b0, b1', b2', b3', b4', _⟩ := cv_bd HT.out N (by rw [O2.out.1]; exact Nat.le_refl _)
    obtain ⟨P, hP⟩ : ∃ P, P = cp L N := ⟨_, rfl⟩
    obtain ⟨Q, hQ⟩ : ∃ Q, Q = cq L N := ⟨_, rfl⟩
    obtain ⟨T, hTt⟩ : ∃ T, T = nth L (N - 1) := ⟨_, rfl⟩
    rw [← hTt] at y1 TOP
    rw [← hP] at x1 l1 cb b0
    rw [← hQ] at x2 l2 cb b2'
    clear hP hQ hTt b1' b3' b4' L1 L2
    have n1 : ∀ o, (w3.alloc o).cell? ⟨w.heap.size, 0, none⟩ = some (.int .i64 a) := fun o => (World.cell?_alloc_lt _ _ ⟨w.heap.size, 0, none⟩ k4).trans k1
    have n2 : ∀ o, (w3.alloc o).cell? ⟨w.heap.size, 1, none⟩ = some (.int .i64 b) := fun o => (World.cell?_alloc_lt _ _ ⟨w.heap.size, 1, none⟩ k4).trans k2
    have n3 : ∀ o, (w3.alloc o).cell? ⟨b2, off2 + (N - 1), none⟩ = some (.int .i64 T) := fun o => (World.cell?_alloc_lt _ _ ⟨b2, off2 + (N - 1), none⟩ (by show b2 < _; omega)).trans y1
    have hN1 : N - 1 < N := by omega
    have e0 : ((N : Int) == 0) = false := by simp; omega
    go_wp2_with fail
    refine (GE.out _).mono ?_
    rintro e w' ⟨rfl, rfl⟩
    rcases TOP.out with hN | hT
    · have e1 : ((N : Int) == 1) = true := by simp [hN]
      have HN := Lib.hid hN
      clear hN
      go_wp2
      go_ret
      exact ⟨rfl, k3.alloc k3.size _⟩
    · by_cases hN : N = 1
      · have e1 : ((N : Int) == 1) = true := by simp [hN]
        have HN := Lib.hid hN
        clear hN hT
        go_wp2
        go_ret
        exact ⟨rfl, k3.alloc k3.size _⟩
      · have e1 : ((N : Int) == 1) = false := by simp; omega
        go_wp2
        go_ret
        exact ⟨rfl, k3.alloc k3.size _⟩
  · exact absurd HC.out hC
theorem frame_ContBack (a b : Int) (w : World) (_ : Fits a) (_ : Fits b) :
    Calls Try.prog 6 #[.agg #[.int .i64 a, .int .i64 b]] w fun e w' => e = .returned (.bool true) ∧ Below w.heap.size w w' := by
  by_cases h : FrOk a b
  · obtain ⟨x, rfl⟩ : ∃ x : Nat, a = x := ⟨a.toNat, by unfold FrOk at h; omega⟩
    obtain ⟨y, rfl⟩ : ∃ y : Nat, b = y := ⟨b.toNat, by unfold FrOk at h; omega⟩
    exact cback_ok x y w h
  · exact cback_bad a b w h
end Go.Proofs.Ytpfbbalhhldghaa
