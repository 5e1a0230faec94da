/- The contracts of package rankmeresame: Ints (are two lists the same?), Sum, Turned; and of num.First over two errors. -/
import Derived.Test.YtpfbbalhhldghaaDoorMem
import Derived.BigQuiet
import Derived.Deep.QuietTactic
namespace Go.Proofs.YtpfbbalhhldghaaDoor
open Go.RowKit

/-- Are two lists the same? -/
def eqL (L M : List Int) : Bool := decide (L = M)
theorem eqL_true {L M : List Int} (h : L = M) : eqL L M = true := by unfold eqL; simp [h]
theorem eqL_false {L M : List Int} (h : L ≠ M) : eqL L M = false := by unfold eqL; simp [h]
theorem nth_ext {L M : List Int} (h : L.length = M.length) (hn : ∀ k, k < L.length → nth L k = nth M k) : L = M := by
  apply List.ext_getElem h
  intro k h1 h2
  have := hn k h1
  unfold nth at this
  simpa [List.getD, List.getElem?_eq_getElem h1, List.getElem?_eq_getElem h2] using this
theorem eqL_len {L M : List Int} (h : L.length ≠ M.length) : eqL L M = false := eqL_false fun e => h (by rw [e])

theorem c_Ints (A A' : Option Addr) (n n' c c' : Nat) (L M : List Int) (B B' : Nat) (w : World) (hl : Rd w B A n L) (hm : Rd w B' A' n' M) (hn : n ≤ 9223372036854775807) :
    Calls Tryd.prog 16 #[.slice A n c, .slice A' n' c'] w fun e w' => e = .returned (.bool (eqL L M)) ∧ ∃ q, w.drewN q = w' := by
  have hL := Lib.hid hl.1
  have hM := Lib.hid hm.1
  by_cases hne : n = n'
  · subst hne
    go_enter Tryd.func16, Tryd.ntmps16
    go_wp2
    go_loopw [5] (fun i wr => ∃ k : Nat, k ≤ n ∧ i = .int .i64 k ∧ Hid (∀ j, j < k → nth L j = nth M j) ∧ ∃ q, wr = w.drewN q) (fun i _ => n - (intOf i).toNat)
    case atStart => exact ⟨0, Nat.zero_le _, rfl, fun j hj => absurd hj (by omega), 0, rfl⟩
    case round =>
      obtain ⟨k, hk, rfl, HA, q, rfl⟩ := hrel
      by_cases hlt : k < n
      · obtain ⟨b, off, rfl, hc⟩ := hl.at_ hlt
        obtain ⟨b', off', rfl, hc'⟩ := hm.at_ hlt
        obtain ⟨x, hx⟩ : ∃ x, x = nth L k := ⟨_, rfl⟩
        obtain ⟨y, hy⟩ : ∃ y, y = nth M k := ⟨_, rfl⟩
        rw [← hx] at hc
        rw [← hy] at hc'
        have HX := Lib.hid hx
        have HY := Lib.hid hy
        clear hx hy
        by_cases he : x = y
        · have ht : (x != y) = false := by simp [he]
          have HE := Lib.hid he
          clear he
          go_wp2
          go_quiet (fail)
          go_wp2
          go_roundw
          case rel =>
            refine ⟨k + 1, by omega, by go_num, fun j hj => ?_, _, rfl⟩
            by_cases e : j = k
            · subst e; rw [← HX.out, ← HY.out, HE.out]
            · exact HA.out j (by omega)
          case measure => simp [intOf]; omega
        · have ht : (x != y) = true := by simp [he]
          have HE := Lib.hid he
          clear he
          go_wp2
          go_quiet (fail)
          go_wp2
          go_ret
          exact ⟨ret_bool (eqL_false fun e => HE.out (by rw [HX.out, HY.out, e])).symm, drews _ _ _⟩
      · go_wp2
        go_ret
        exact ⟨ret_bool (eqL_true (nth_ext (by rw [hL.out, hM.out]) fun j hj => HA.out j (by rw [hL.out] at hj; omega))).symm, _, rfl⟩
  · have hne' : ((n : Int) != (n' : Int)) = true := by simp; omega
    go_enter Tryd.func16, Tryd.ntmps16
    go_wp2
    go_ret
    exact ⟨ret_bool (eqL_len (by rw [hL.out, hM.out]; exact hne)).symm, 0, rfl⟩
/-- The sum of a list. -/
def sumL (L : List Int) : Int := L.foldl (· + ·) 0
theorem sumL_take_succ (L : List Int) (k : Nat) (h : k < L.length) : sumL (L.take (k + 1)) = sumL (L.take k) + nth L k := by
  unfold sumL
  rw [List.take_add_one, List.foldl_append]
  simp [nth, List.getD, List.getElem?_eq_getElem h]
end Go.Proofs.YtpfbbalhhldghaaDoor
