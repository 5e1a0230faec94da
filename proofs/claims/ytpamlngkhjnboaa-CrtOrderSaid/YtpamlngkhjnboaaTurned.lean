/- The contract of package rankmeresame's Turned. -/
import Derived.Test.YtpamlngkhjnboaaMem
import Derived.Test.YtpamlngkhjnboaaKaraM
namespace Go.Proofs.Ytpamlngkhjnboaa
open Go.RowKit

/-- A list from its end on, k of it. -/
def trn (L : List Int) (n k : Nat) : List Int := mk k fun j => nth L (n - 1 - j)
theorem trn_succ (L : List Int) (n k : Nat) : trn L n k ++ [nth L (n - 1 - k)] = trn L n (k + 1) := by
  unfold trn mk
  rw [List.range_succ, List.map_append]
  rfl
theorem trn_len (L : List Int) (n k : Nat) : (trn L n k).length = k := mk_len _ _
set_option maxHeartbeats 1000000 in
theorem c_Turned (A : Option Addr) (n c : Nat) (L : List Int) (B : Nat) (w : World) (hL : Rd w B A n L) (hB : B ≤ w.heap.size) (hn : n ≤ 1000) :
    Calls Try.prog 15 #[.slice A n c] w fun e w' => ∃ A2 c2, e = .returned (.slice A2 n c2) ∧ Own w' w.heap.size A2 n c2 (trn L n n) ∧ Below w.heap.size w w' := by
  have HL := Lib.hid (hL.more hB)
  clear hL hB
  go_enter Try.func15, Try.ntmps15
  go_wp2
  go_loopw [3, 4] (fun v i wr => ∃ (k : Nat) (A2 : Option Addr) (c2 : Nat), k ≤ n ∧ i = .int .i64 ((n : Int) - k - 1) ∧ v = .slice A2 k c2 ∧ Hid (Own wr w.heap.size A2 k c2 (trn L n k)) ∧ Below w.heap.size w wr) (fun _ i _ => (intOf i + 1).toNat)
  case atStart => exact ⟨0, none, 0, Nat.zero_le _, by go_num, rfl, Own.nil _ _, Below.refl _ _⟩
  case round =>
    obtain ⟨k, A2, c2, hk, rfl, rfl, ho, hbr⟩ := hrel
    by_cases hlt : k < n
    · have e9 : (n : Int) - (k : Int) - 1 = ((n - 1 - k : Nat) : Int) := by omega
      rw [e9]
      have HG := Lib.hid (trn_succ L n k)
      obtain ⟨p, hp⟩ : ∃ p, p = n - 1 - k := ⟨_, rfl⟩
      have hpn : p < n := by omega
      have HP : Hid ((p : Int) = (n : Int) - k - 1) := by rw [Hid]; omega
      rw [← hp] at HG ⊢
      clear hp e9
      obtain ⟨b, off, rfl, hcc⟩ := (HL.out.below hbr).at_ hpn
      obtain ⟨x, hx⟩ : ∃ x, x = nth L p := ⟨_, rfl⟩
      rw [← hx] at hcc HG
      clear hx
      have hsz := hbr.size
      go_wp2_with (at_builtin; refine wp_push rfl (.tmp 12) (.tmp 17) rfl w.heap.size rfl rfl ho.out (by omega) hsz ?_)
      intro A6 c6 w4 hown4 hb4
      have HB4 : Hid (Below w.heap.size w w4) := hbr.trans hb4
      have HO4 : Hid (Own w4 w.heap.size A6 (k + 1) c6 (trn L n (k + 1))) := by rw [Hid, ← HG.out]; exact hown4
      clear hown4 hb4
      go_wp2
      go_roundw
      case rel => exact ⟨k + 1, A6, c6, by omega, congrArg (Value.int .i64) (by have := HP.out; omega), rfl, HO4, HB4.out⟩
      case measure => simp [intOf] <;> omega
    · obtain rfl : k = n := by omega
      have e9 : (k : Int) - (k : Int) - 1 = -1 := by omega
      rw [e9]
      go_wp2
      go_ret
      exact ⟨A2, c2, rfl, ho.out, hbr⟩
end Go.Proofs.Ytpamlngkhjnboaa
