/- The walk of the statement ContNext: the law returns true for all arguments. -/
import Derived.Test.YtpfbbalhhldghaaContG
namespace Go.Proofs.Ytpfbbalhhldghaa
open Go.RowKit

theorem sgn_bd (k : Nat) : -1 ≤ sgn k ∧ sgn k ≤ 1 := by unfold sgn; split <;> omega
/-- What a round meets. -/
theorem next_facts {L : List Int} {n k : Nat} (hT : TOk L) (hn : L.length = n) (hC : CfAll L n) (h1 : 1 ≤ k) (hk : k < n) :
    (0 ≤ cp L (k + 1) ∧ cp L (k + 1) ≤ 1000000) ∧ (1 ≤ cq L (k + 1) ∧ cq L (k + 1) ≤ 1000000) ∧ (0 ≤ cp L k ∧ cp L k ≤ 1000000) ∧ (1 ≤ cq L k ∧ cq L k ≤ 1000000) ∧ cp L (k + 1) * cq L k - cp L k * cq L (k + 1) = sgn (k + 1) ∧ cq L k ≤ cq L (k + 1) := by
  obtain ⟨a1, a2, a3, a4, a5, a6, a7⟩ := cv_bd hT (k + 1) (by omega)
  obtain ⟨b1, b2, b3, b4, b5, b6, b7⟩ := cv_bd hT k (by omega)
  have d := cv_det L (k + 1)
  rw [cq'_succ, cp'_succ] at d
  rw [cq'_succ] at a7
  have c1 := hC (k + 1) (by omega) (by omega)
  have c2 := hC k h1 (by omega)
  exact ⟨⟨a1, c1.1⟩, ⟨a5 (by omega), c1.2⟩, ⟨b1, c2.1⟩, ⟨b5 h1, c2.2⟩, d, a7 (by omega)⟩
theorem cnext_bad (A : Option Addr) (n c : Nat) (L : List Int) (w : World) (hL : Rd w w.heap.size A n L) (hc : n ≤ c ∧ c ≤ 9223372036854775807) (hT : ¬ TOk L) :
    Calls Try.prog 7 #[.slice A n c] w fun e w' => e = .returned (.bool true) ∧ Below w.heap.size w w' := by
  have H := Lib.hid hT
  have HL := Lib.hid hL
  clear hT hL
  go_enter Try.func7, Try.ntmps7
  go_wp2_with fail
  refine (c_contFact _).mono ?_
  rintro e w1 ⟨rfl, hb1⟩
  go_wp2_with fail
  refine (c_Near_bad _ _ _ L _ ((HL.out.below hb1).more hb1.size) hc H.out).mono ?_
  rintro e w2 ⟨rfl, rfl⟩
  go_wp2
  go_ret
  exact ⟨rfl, hb1⟩
set_option maxHeartbeats 2000000 in
set_option maxRecDepth 100000 in
theorem cnext_ok (A : Option Addr) (n c : Nat) (L : List Int) (w : World) (hL : Rd w w.heap.size A n L) (hc : n ≤ c ∧ c ≤ 9223372036854775807) (hT : TOk L) :
    Calls Try.prog 7 #[.slice A n c] w fun e w' => e = .returned (.bool true) ∧ Below w.heap.size w w' := by
  have hn : 1 ≤ n ∧ n ≤ 30 := by rw [← hL.1]; exact ⟨hT.1, hT.2.1⟩
  have H := Lib.hid hT
  have HL := Lib.hid hL
  have HN := Lib.hid hL.1
  clear hT hL
  go_enter Try.func7, Try.ntmps7
  go_wp2_with fail
  refine (c_contFact _).mono ?_
  rintro e w1 ⟨rfl, hb1⟩
  go_wp2_with fail
  refine (c_Near_ok _ _ _ L _ ((HL.out.below hb1).more hb1.size) hc H.out).mono ?_
  rintro e w2 ⟨⟨hC, A2, c2, rfl, o2⟩ | ⟨hC, rfl⟩, hb2⟩
  · have HB := Lib.hid (hb1.trans (hb2.mono hb1.size))
    have HC := Lib.hid hC
    have O2 := Lib.hid o2.rd
    clear hC o2 hb1 hb2
    go_wp2
    go_loopw [6, 7] (fun s i wr => ∃ (k : Nat), 1 ≤ k ∧ k ≤ n ∧ i = .int .i64 k ∧ s = .int .i64 (sgn (k + 1)) ∧ ∃ q, wr = w2.drewN q) (fun _ i _ => n - (intOf i).toNat)
    case atStart => exact ⟨1, by omega, hn.1, rfl, rfl, 0, rfl⟩
    case round =>
      obtain ⟨k, hk1, hk, rfl, rfl, q0, rfl⟩ := hrel
      by_cases hlt : k < n
      · obtain ⟨b, off, rfl, x1, x2⟩ := O2.out.at_ hlt
        obtain ⟨b', off', e', y1, y2⟩ := O2.out.at_ (k := k - 1) (by omega)
        injection e' with e'
        injection e' with e1 e2 _
        subst e1; subst e2
        rw [cfs_nf L hlt] at x1 x2
        rw [cfs_nf L (show k - 1 < n by omega), show k - 1 + 1 = k by omega] at y1 y2
        obtain ⟨⟨p1, p2⟩, ⟨q1, q2⟩, ⟨p3, p4⟩, ⟨q3, q4⟩, d, dq⟩ := next_facts H.out HN.out HC.out hk1 hlt
        have HS := Lib.hid (sgn_succ (k + 1))
        have sb := sgn_bd (k + 1)
        obtain ⟨P, hP⟩ : ∃ P, P = cp L (k + 1) := ⟨_, rfl⟩
        obtain ⟨Q, hQ⟩ : ∃ Q, Q = cq L (k + 1) := ⟨_, rfl⟩
        obtain ⟨P', hP'⟩ : ∃ P, P = cp L k := ⟨_, rfl⟩
        obtain ⟨Q', hQ'⟩ : ∃ Q, Q = cq L k := ⟨_, rfl⟩
        obtain ⟨s, hs⟩ : ∃ s, s = sgn (k + 1) := ⟨_, rfl⟩
        rw [← hP] at p1 p2 x1 d
        rw [← hQ] at q1 q2 x2 d dq
        rw [← hP'] at p3 p4 y1 d
        rw [← hQ'] at q3 q4 y2 d dq
        rw [← hs] at d HS sb ⊢
        clear hP hQ hP' hQ' hs
        have i1 : inB P 0 1000000 = true := by unfold inB; simp; omega
        have i2 : inB Q 1 1000000 = true := by unfold inB; simp; omega
        have i3 : inB P' 0 1000000 = true := by unfold inB; simp; omega
        have i4 : inB Q' 1 1000000 = true := by unfold inB; simp; omega
        have m1 := term_bd ⟨p1, p2⟩ ⟨show 0 ≤ Q' by omega, q4⟩
        have m2 := term_bd ⟨p3, p4⟩ ⟨show 0 ≤ Q by omega, q2⟩
        have D := Lib.hid d
        clear d
        go_wp2_with (go_at_call 12; refine (c_in _ _ _ _).mono ?_; rintro e w' ⟨rfl, rfl⟩)
        have v1 : IntKind.i64.wrap (P * Q') = P * Q' := IntWalk.i64_in _ (by omega)
        have v2 : IntKind.i64.wrap (P' * Q) = P' * Q := IntWalk.i64_in _ (by omega)
        have v3 : IntKind.i64.wrap (P * Q' - P' * Q) = s := by rw [D.out]; exact IntWalk.i64_in _ (by omega)
        have v4 : (s != s) = false := by simp
        have v5 : decide (Q < Q') = false := by simp; omega
        go_quiet (fail)
        clear v1 v2 v3 v4 v5 m1 m2 dq i1 i2 i3 i4 x1 x2 y1 y2
        obtain ⟨sb1, sb2⟩ := sb
        go_wp2
        go_roundw
        case rel => exact ⟨k + 1, by omega, by omega, by go_num, by rw [HS.out], _, rfl⟩
        case measure => simp [intOf]; omega
      · obtain rfl : k = n := by omega
        go_wp2
        go_ret
        exact ⟨rfl, below_drewN HB.out q0⟩
  · have HB := Lib.hid (hb1.trans (hb2.mono hb1.size))
    clear hC hb1 hb2
    go_wp2
    go_ret
    exact ⟨rfl, HB.out⟩
theorem frame_ContNext (A : Option Addr) (n c : Nat) (L : List Int) (w : World) (hL : Rd w w.heap.size A n L) (hc : n ≤ c ∧ c ≤ 9223372036854775807) (_ : ∀ x ∈ L, Fits x) :
    Calls Try.prog 7 #[.slice A n c] w fun e w' => e = .returned (.bool true) ∧ Below w.heap.size w w' := by
  by_cases h : TOk L
  · exact cnext_ok A n c L w hL hc h
  · exact cnext_bad A n c L w hL hc h
end Go.Proofs.Ytpfbbalhhldghaa
