/- The contracts of package poly: trim. -/
import Derived.Test.YtmicgjpelikjiaaPolyA
namespace Go.Proofs.Ytmicgjpelikjiaa
open Go.RowKit

theorem tnF_step {L : List Int} {k : Nat} (h : 0 < k) (h0 : nth L (k - 1) = 0) : tnF L k = tnF L (k - 1) := by
  obtain ⟨m, rfl⟩ : ∃ m, k = m + 1 := ⟨k - 1, by omega⟩
  rw [tnF, if_pos (show nth L m = 0 from h0)]; rfl
theorem tnF_stop {L : List Int} {k : Nat} (h : 0 < k) (h0 : nth L (k - 1) ≠ 0) : tnF L k = k := by
  obtain ⟨m, rfl⟩ : ∃ m, k = m + 1 := ⟨k - 1, by omega⟩
  rw [tnF, if_neg (show nth L m ≠ 0 from h0)]
theorem trm_zero {L : List Int} (h : L.length = 0) : trm L = [] := by
  have := trm_le L
  exact List.eq_nil_of_length_eq_zero (by omega)
set_option maxHeartbeats 1000000 in
theorem c_trim (A : Option Addr) (n c : Nat) (L : List Int) (w : World) (hL : Rd w w.heap.size A n L) (hc : n ≤ c) (hn : n ≤ 1000) (hz : A = none → c = 0) :
    Calls Try.prog 28 #[.slice A n c] w fun e w' => ∃ A' c', e = .returned (.slice A' (trm L).length c') ∧ Own w' w.heap.size A' (trm L).length c' (trm L) ∧ Below w.heap.size w w' := by
  have hl := hL.1
  by_cases h0 : n = 0
  · subst h0
    rw [trm_zero hl]
    clear hl
    rcases A with _ | ad
    · obtain rfl := hz rfl
      clear hz
      obtain ⟨i0, hi, hz0, hz1, hz2⟩ := info_parts infoInt
      go_enter Try.func28, Try.ntmps28
      go_wp2
      go_loop [3] (fun k => k = .int .i64 0) (fun _ => 0)
      case atStart => rfl
      case round =>
        subst hrel
        go_wp2_with (at_builtin; refine wpList_append_own_none rfl (.const (.slice none 0 0)) (.tmp 20) 22 rfl w.heap.size 3 i0 1 Try.underlying22 hi (.slice none 0 0) 0 [] rfl (World.ownsRow_nil _ _ _ _) rfl ?_)
        go_ret
        exact ⟨none, 0, rfl, Own.nil _ _, Below.refl _ _⟩
    · clear hz
      go_enter Try.func28, Try.ntmps28
      go_wp2
      go_loop [3] (fun k => k = .int .i64 0) (fun _ => 0)
      case atStart => rfl
      case round =>
        subst hrel
        go_wp2_with (at_builtin; refine wp_append_empty rfl (.const (.slice none 0 0)) (.tmp 20) rfl w.heap.size rfl rfl (Own.nil _ _) (by omega) (Nat.le_refl _) ?_)
        intro A' c' w' o hb
        go_wp2
        go_ret
        exact ⟨A', c', rfl, o, hb⟩
  · have h1 : 0 < n := by omega
    obtain ⟨b, off, rfl, hb, hcell⟩ := hL.at' h1
    have HL := Lib.hid hL
    have HT : Hid ((trm L).length = tnF L n) := by rw [Hid, trm_len, hl]
    have HR : Hid (∀ k, k ≤ n → tnF L k = tnF L n → tnF L k = k → L.take k = trm L ∧ (trm L).length = k) := fun k hk h1 h2 => by
      rw [Hid.out HT, ← h1, h2]
      refine ⟨?_, rfl⟩
      unfold trm
      rw [hl, ← h1, h2]
    clear hl hcell hL hz
    go_enter Try.func28, Try.ntmps28
    go_wp2
    go_loop [3] (fun t => ∃ k : Nat, k ≤ n ∧ t = .int .i64 k ∧ Hid (tnF L k = tnF L n)) (fun t => (intOf t).toNat)
    case atStart => exact ⟨n, Nat.le_refl _, rfl, rfl⟩
    case round =>
      obtain ⟨k, hk, rfl, HK⟩ := hrel
      by_cases hk0 : k = 0
      · subst hk0
        obtain ⟨r1, r2⟩ := HR.out 0 hk HK.out rfl
        have R1 := Lib.hid r1
        have R2 := Lib.hid r2
        clear r1 r2 HR HT HK
        go_wp2_with (at_builtin; refine wp_append_list rfl (.const (.slice none 0 0)) (.tmp 20) rfl w.heap.size rfl rfl (Own.nil _ _) (rd_take HL.out 0 (Nat.zero_le _)) (by omega) (by omega) (Nat.le_refl _) ?_)
        intro A' c' w' o hb'
        go_wp2
        go_ret
        exact ⟨A', c', by rw [R2.out]; rfl, by rw [R2.out, ← R1.out]; simpa using o, hb'⟩
      · obtain ⟨b', off', e', hcell⟩ := HL.out.at_ (k := k - 1) (by omega)
        injection e' with e'
        injection e' with e1 e2 _
        subst e1; subst e2
        have hk1 : 0 < k := by omega
        by_cases hv : nth L (k - 1) = 0
        · have HK' : Hid (tnF L (k - 1) = tnF L n) := by rw [Hid, ← tnF_step hk1 hv]; exact HK.out
          rw [hv] at hcell
          clear hv
          go_wp2
          go_round
          case rel => exact ⟨k - 1, by omega, by go_num, HK'.out⟩
          case measure => simp [intOf]; omega
        · obtain ⟨r1, r2⟩ := HR.out k hk HK.out (tnF_stop hk1 hv)
          have hv' : (nth L (k - 1) == 0) = false := by simp [hv]
          have R1 := Lib.hid r1
          have R2 := Lib.hid r2
          clear r1 r2 HR HT HK hv
          go_wp2_with (at_builtin; refine wp_append_list rfl (.const (.slice none 0 0)) (.tmp 20) rfl w.heap.size rfl rfl (Own.nil _ _) (rd_take HL.out k hk) (by omega) (by omega) (Nat.le_refl _) ?_)
          intro A' c' w' o hb'
          go_wp2
          go_ret
          exact ⟨A', c', by rw [R2.out]; simp, by rw [R2.out, ← R1.out]; simpa using o, hb'⟩
end Go.Proofs.Ytmicgjpelikjiaa
