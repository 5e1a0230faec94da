/- The contract of rankmeresame's Fracs: are two lists of fractions the same? And the closed fact of package cont. -/
import Derived.Test.YtpfbbalhhldghaaDoorContC
namespace Go.Proofs.YtpfbbalhhldghaaDoor
open Go.RowKit

theorem nf_ext {L M : List (Int × Int)} (h : L.length = M.length) (hn : ∀ k, k < L.length → nf L k = nf M k) : L = M := by
  apply List.ext_getElem h
  intro k h1 h2
  have := hn k h1
  unfold nf at this
  simpa [List.getD, List.getElem?_eq_getElem h1, List.getElem?_eq_getElem h2] using this
/-- Are two lists the same? -/
def eqF (L M : List (Int × Int)) : Bool := decide (L = M)
theorem eqF_true {L M : List (Int × Int)} (h : L = M) : eqF L M = true := by unfold eqF; simp [h]
theorem eqF_false {L M : List (Int × Int)} (h : L ≠ M) : eqF L M = false := by unfold eqF; simp [h]
theorem eqF_len {L M : List (Int × Int)} (h : L.length ≠ M.length) : eqF L M = false := eqF_false fun e => h (by rw [e])
set_option maxHeartbeats 1000000 in
theorem c_Fracs (A A' : Option Addr) (n n' c c' : Nat) (L M : List (Int × Int)) (B B' : Nat) (w : World) (hl : RdF w B A n L) (hm : RdF w B' A' n' M) (hn : n ≤ 9223372036854775807) :
    Calls Tryd.prog 19 #[.slice A n c, .slice A' n' c'] w fun e w' => e = .returned (.bool (eqF L M)) ∧ ∃ q, w.drewN q = w' := by
  have hL := Lib.hid hl.1
  have hM := Lib.hid hm.1
  by_cases hne : n = n'
  · subst hne
    go_enter Tryd.func19, Tryd.ntmps19
    go_wp2
    go_loopw [5] (fun i wr => ∃ k : Nat, k ≤ n ∧ i = .int .i64 k ∧ Hid (∀ j, j < k → nf L j = nf M j) ∧ ∃ q, wr = w.drewN q) (fun i _ => n - (intOf i).toNat)
    case atStart => exact ⟨0, Nat.zero_le _, rfl, fun j hj => absurd hj (by omega), 0, rfl⟩
    case round =>
      obtain ⟨k, hk, rfl, HA, q, rfl⟩ := hrel
      by_cases hlt : k < n
      · obtain ⟨b, off, rfl, hc1, hc2⟩ := hl.at_ hlt
        obtain ⟨b', off', rfl, hd1, hd2⟩ := hm.at_ hlt
        obtain ⟨x1, hx1⟩ : ∃ x, x = (nf L k).1 := ⟨_, rfl⟩
        obtain ⟨x2, hx2⟩ : ∃ x, x = (nf L k).2 := ⟨_, rfl⟩
        obtain ⟨y1, hy1⟩ : ∃ x, x = (nf M k).1 := ⟨_, rfl⟩
        obtain ⟨y2, hy2⟩ : ∃ x, x = (nf M k).2 := ⟨_, rfl⟩
        rw [← hx1] at hc1
        rw [← hx2] at hc2
        rw [← hy1] at hd1
        rw [← hy2] at hd2
        have HX : Hid (nf L k = (x1, x2)) := by rw [Hid, hx1, hx2]
        have HY : Hid (nf M k = (y1, y2)) := by rw [Hid, hy1, hy2]
        clear hx1 hx2 hy1 hy2
        by_cases he : x1 = y1 ∧ x2 = y2
        · obtain ⟨rfl, rfl⟩ := he
          go_wp2
          go_quiet (fail)
          go_wp2
          go_roundw
          case rel =>
            refine ⟨k + 1, by omega, by go_num, fun j hj => ?_, _, rfl⟩
            by_cases e : j = k
            · subst e; rw [HX.out, HY.out]
            · exact HA.out j (by omega)
          case measure => simp [intOf]; omega
        · have HE : Hid (L ≠ M) := fun e => he (by have h1 := HX.out; rw [e, HY.out] at h1; injection h1 with h2 h3; exact ⟨h2.symm, h3.symm⟩)
          by_cases h1 : x1 = y1
          · subst h1
            have t2 : (x2 == y2) = false := by simp; exact fun h => he ⟨rfl, h⟩
            have t3 : x2 ≠ y2 := fun h => he ⟨rfl, h⟩
            clear he
            go_wp2
            go_quiet (fail)
            go_wp2
            go_ret
            exact ⟨ret_bool (eqF_false HE.out).symm, drews _ _ _⟩
          · have t1 : (x1 == y1) = false := by simp [h1]
            clear he
            go_wp2
            go_quiet (fail)
            go_wp2
            go_ret
            exact ⟨ret_bool (eqF_false HE.out).symm, drews _ _ _⟩
      · go_wp2
        go_ret
        exact ⟨ret_bool (eqF_true (nf_ext (by rw [hL.out, hM.out]) fun j hj => HA.out j (by rw [hL.out] at hj; omega))).symm, _, rfl⟩
  · have hne' : ((n : Int) != (n' : Int)) = true := by simp; omega
    go_enter Tryd.func19, Tryd.ntmps19
    go_wp2
    go_ret
    exact ⟨ret_bool (eqF_len (by rw [hL.out, hM.out]; exact hne)).symm, 0, rfl⟩
end Go.Proofs.YtpfbbalhhldghaaDoor
