/- The walk of the statement NttShift: the law returns true for all arguments. -/
import Derived.Test.YtmicgjpelikjiaaNttFact
namespace Go.Proofs.Ytmicgjpelikjiaa
open Go.RowKit

theorem shift_bad (A : Option Addr) (n c : Nat) (L : List Int) (w : World) (hL : Rd w w.heap.size A n L) (h8 : ¬ Eight L) :
    Calls Try.prog 4 #[.slice A n c] w fun e w' => e = .returned (.bool true) ∧ Below w.heap.size w w' := by
  have H8 := Lib.hid h8
  clear h8
  go_enter Try.func4, Try.ntmps4
  go_wp2_with (first | (go_at_call 9; refine (c_nttFact _).mono ?_; rintro e w1 ⟨rfl, hb1⟩) | (go_at_call 10; refine (more (by assumption) (c_There_bad _ _ _ L _ _ (hL.below (by assumption)) H8.out)).mono ?_; rintro e w2 ⟨rfl, hb2⟩))
  go_ret
  exact ⟨rfl, by assumption⟩
theorem shift_eight {L : List Int} (h : Eight L) : Eight ([nth L 7] ++ L.take 7) := by
  refine ⟨by simp [h.1], fun k hk => ?_⟩
  show 0 ≤ nth (shiftL L) k ∧ nth (shiftL L) k ≤ 256
  rw [shift_nth L hk]
  exact h.2 _ (Nat.mod_lt _ (by omega))
theorem first_sum {L : List Int} (h : Eight L) : dft 64 1 L 0 = sumL L % 257 := by
  obtain ⟨h1, _⟩ := h
  match L, h1 with
  | [a0, a1, a2, a3, a4, a5, a6, a7], _ =>
    rw [there_0]
    show (a0 * 1 + a1 * 1 + a2 * 1 + a3 * 1 + a4 * 1 + a5 * 1 + a6 * 1 + a7 * 1) % 257 = (0 + a0 + a1 + a2 + a3 + a4 + a5 + a6 + a7) % 257
    omega
theorem sum_bd {L : List Int} (h : Eight L) : 0 ≤ sumL L ∧ sumL L ≤ 2048 := by
  obtain ⟨h1, h2⟩ := h
  match L, h1 with
  | [a0, a1, a2, a3, a4, a5, a6, a7], _ =>
    have k0 : 0 ≤ a0 ∧ a0 ≤ 256 := h2 0 (by omega)
    have k1 : 0 ≤ a1 ∧ a1 ≤ 256 := h2 1 (by omega)
    have k2 : 0 ≤ a2 ∧ a2 ≤ 256 := h2 2 (by omega)
    have k3 : 0 ≤ a3 ∧ a3 ≤ 256 := h2 3 (by omega)
    have k4 : 0 ≤ a4 ∧ a4 ≤ 256 := h2 4 (by omega)
    have k5 : 0 ≤ a5 ∧ a5 ≤ 256 := h2 5 (by omega)
    have k6 : 0 ≤ a6 ∧ a6 ≤ 256 := h2 6 (by omega)
    have k7 : 0 ≤ a7 ∧ a7 ≤ 256 := h2 7 (by omega)
    have e : sumL [a0, a1, a2, a3, a4, a5, a6, a7] = 0 + a0 + a1 + a2 + a3 + a4 + a5 + a6 + a7 := rfl
    omega
set_option maxHeartbeats 2000000 in
theorem shift_ok (A : Option Addr) (c : Nat) (L : List Int) (w : World) (hL : Rd w w.heap.size A 8 L) (hcap : 8 ≤ c) (h8 : Eight L) :
    Calls Try.prog 4 #[.slice A 8 c] w fun e w' => e = .returned (.bool true) ∧ Below w.heap.size w w' := by
  obtain ⟨b, off, rfl, hbw, _⟩ := hL.at' (k := 7) (by omega)
  have HL := Lib.hid hL
  have H8 := Lib.hid h8
  clear hL h8
  go_enter Try.func4, Try.ntmps4
  go_wp2_with fail
  refine (c_nttFact _).mono ?_
  rintro e w1 ⟨rfl, hb1⟩
  go_wp2_with fail
  -- l := There(a)
  refine (c_There_ok _ _ _ L _ _ (HL.out.below hb1) hb1.size H8.out).mono ?_
  rintro e w2 ⟨gl, rfl, ol, hb⟩
  have hb2 := hb1.trans (hb.mono hb1.size)
  have Ol := Lib.hid ol
  have Ol2lt := ol.lt.2
  clear ol hb
  obtain ⟨b', off', e', _, c7⟩ := (HL.out.below hb2).at' (k := 7) (by omega)
  injection e' with e'
  injection e' with e1 e2 _
  subst e1; subst e2
  go_wp2_with (at_builtin; refine wp_push rfl (.tmp 23) (.tmp 27) rfl w2.heap.size rfl rfl (Own.nil _ _) (by omega) (Nat.le_refl _) ?_)
  intro A1 c1 w3 hown1 hb
  have hb3 := hb2.trans (hb.mono hb2.size)
  have Ol3 := Lib.hid (Ol.out.keep hb)
  have hsz3 := hb.size
  clear hb Ol
  have hr7 := rd_take (HL.out.below hb3) 7 (by omega)
  go_wp2_with (at_builtin; refine wp_append_list rfl (.tmp 29) (.tmp 31) rfl w2.heap.size rfl rfl hown1 hr7 (by omega) (by omega) hsz3 ?_)
  intro A2 c2 w4 hown2 hb
  have hb4 := hb3.trans (hb.mono hb2.size)
  have Ol4 := Lib.hid (Ol3.out.below (B := w2.heap.size) (fun g off e => by injection e with e; injection e with e1 _ _; subst e1; exact Ol2lt) hb)
  have O2 := Lib.hid hown2
  clear hown2 hb hr7 hown1 c7
  go_wp2_with fail
  refine (c_There_ok _ _ _ _ _ _ O2.out.rd (Nat.le_refl _) (shift_eight H8.out)).mono ?_
  rintro e w5 ⟨gm, rfl, om, hb⟩
  have hb5 := hb4.trans (hb.mono hb4.size)
  have Om := Lib.hid om
  have Ol5 := Lib.hid (Ol4.out.keep hb)
  clear om hb
  have s0 := sum_bd H8.out
  have hl0 : w5.cell? ⟨gl, 0, none⟩ = some (.int .i64 (sumL L % 257)) := by
    rw [Ol5.out.cell (by omega), turnL_nth _ _ _ (by omega), first_sum H8.out]
  have e2 : (sumL L).tmod 257 = sumL L % 257 := Int.tmod_eq_emod_of_nonneg s0.1
  have e3 : (sumL L % 257 != sumL L % 257) = false := by simp
  have HR5 := Lib.hid (HL.out.below hb5)
  have HB8 : Hid (∀ k, k < 8 → -1000000000000 ≤ nth L k ∧ nth L k ≤ 1000000000000) := fun k hk => by have := H8.out.2 k hk; omega
  clear hb1 hb2 hb3 hb4
  go_wp2
  go_quiet ((go_at_call 13; first | exact quiet_left (c_Sum _ _ _ L _ _ (rd_drewN HR5.out _) (by omega) HB8.out) | exact quiet_add_left (c_Sum _ _ _ L _ _ (rd_drewN HR5.out _) (by omega) HB8.out)))
  clear e2 hl0
  go_wp2
  go_loopw [8, 9] (fun p i wr => ∃ k : Nat, k ≤ 8 ∧ i = .int .i64 k ∧ p = .int .i64 (pwl 64 k) ∧ ∃ q, wr = w5.drewN q) (fun _ i _ => 8 - (intOf i).toNat)
  case atStart => exact ⟨0, Nat.zero_le _, rfl, rfl, _, rfl⟩
  case round =>
    obtain ⟨k, hk, rfl, rfl, q, rfl⟩ := hrel
    by_cases hlt : k < 8
    · have hcl : w5.cell? ⟨gl, k, none⟩ = some (.int .i64 (dft 64 1 L k)) := by rw [Ol5.out.cell hlt, turnL_nth _ _ _ hlt]
      have hcm : w5.cell? ⟨gm, k, none⟩ = some (.int .i64 (dft 64 1 L k * pwl 64 k % 257)) := by
        rw [Om.out.cell hlt, turnL_nth _ _ _ hlt]
        have := there_shift L hlt
        rw [← this]; rfl
      have hd := dft_bd 64 1 L k
      have hp := pwl_bd 64 k
      have hpd := prod_bd _ _ hd hp
      have HN : Hid (pwl 64 k * 64 % 257 = pwl 64 (k + 1)) := rfl
      obtain ⟨d, hdd⟩ : ∃ d, d = dft 64 1 L k := ⟨_, rfl⟩
      rw [← hdd] at hcl hcm hd hpd
      clear hdd
      obtain ⟨p, hpp⟩ : ∃ p, p = pwl 64 k := ⟨_, rfl⟩
      rw [← hpp] at hcm hp hpd HN ⊢
      clear hpp
      have i1 : inB d 0 256 = true := by unfold inB; simp; omega
      have e4 : IntKind.i64.wrap (d * p) = d * p := IntWalk.i64_in _ (by omega)
      have e5 : (d * p).tmod 257 = d * p % 257 := Int.tmod_eq_emod_of_nonneg (by omega)
      have e6 : (d * p % 257 != d * p % 257) = false := by simp
      go_wp2
      go_quiet ((go_at_call 14; first | exact quiet_left (c_in _ _ _ _) | exact quiet_add_left (c_in _ _ _ _)))
      clear e4 e5
      go_wp2
      go_roundw
      case rel => exact ⟨k + 1, by omega, by go_num, by rw [HN.out], _, rfl⟩
      case measure => simp [intOf]; omega
    · go_wp2
      go_ret
      exact ⟨rfl, below_drewN hb5 q⟩
theorem frame_NttShift (A : Option Addr) (n c : Nat) (L : List Int) (w : World) (hL : Rd w w.heap.size A n L) (hc : n ≤ c ∧ c ≤ 9223372036854775807) (_ : ∀ x ∈ L, Fits x) :
    Calls Try.prog 4 #[.slice A n c] w fun e w' => e = .returned (.bool true) ∧ Below w.heap.size w w' := by
  by_cases h : Eight L
  · obtain rfl : n = 8 := by rw [← hL.1]; exact h.1
    exact shift_ok A c L w hL hc.1 h
  · exact shift_bad A n c L w hL h
end Go.Proofs.Ytmicgjpelikjiaa
