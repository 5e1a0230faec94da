/- The contracts of package cont: check, expand, Terms. -/
import Derived.Test.YtpfbbalhhldghaaDoorNum
import Derived.Test.YtpfbbalhhldghaaDoorContM
import Derived.Test.YtpfbbalhhldghaaDoorFrac
import Derived.BigQuiet
import Derived.Deep.QuietTactic
namespace Go.Proofs.YtpfbbalhhldghaaDoor
open Go.RowKit

/-- A fraction that may be asked. -/
def FrOk (a b : Int) : Prop := 0 ≤ a ∧ a ≤ 1000000 ∧ 1 ≤ b ∧ b ≤ 1000000
theorem c_fcheck_ok (a b : Int) (w : World) (h : FrOk a b) :
    Calls Tryd.prog 33 #[.agg #[.int .i64 a, .int .i64 b]] w fun e w' => e = .returned .nilIface ∧ Below w.heap.size w w' := by
  have o1 : outB a 0 1000000 = false := outB_false h.1 h.2.1
  have o2 : outB b 1 1000000 = false := outB_false h.2.2.1 h.2.2.2
  clear h
  go_enter Tryd.func33, Tryd.ntmps33
  go_wp2_with (go_at_call 37; refine (c_Out _ _ _ _).mono ?_; rintro e w' ⟨rfl, rfl⟩)
  go_ret
  exact ⟨rfl, by go_grown⟩
theorem c_fcheck_bad (a b : Int) (w : World) (h : ¬ FrOk a b) :
    Calls Tryd.prog 33 #[.agg #[.int .i64 a, .int .i64 b]] w fun e w' => e = .returned (.iface 58 (.int .i64 1)) ∧ Below w.heap.size w w' := by
  by_cases h1 : 0 ≤ a ∧ a ≤ 1000000
  · have o1 : outB a 0 1000000 = false := outB_false h1.1 h1.2
    have o2 : outB b 1 1000000 = true := outB_true (by unfold FrOk at h; omega)
    clear h h1
    go_enter Tryd.func33, Tryd.ntmps33
    go_wp2_with (go_at_call 37; refine (c_Out _ _ _ _).mono ?_; rintro e w' ⟨rfl, rfl⟩)
    go_ret
    exact ⟨rfl, by go_grown⟩
  · have o1 : outB a 0 1000000 = true := outB_true (by omega)
    clear h h1
    go_enter Tryd.func33, Tryd.ntmps33
    go_wp2_with (go_at_call 37; refine (c_Out _ _ _ _).mono ?_; rintro e w' ⟨rfl, rfl⟩)
    go_ret
    exact ⟨rfl, by go_grown⟩
/-- One more term. -/
theorem tms_step {L M : List Int} {x y : Nat} (hy : y ≠ 0) (h : L ++ tms x y = M) : (L ++ [((x / y : Nat) : Int)]) ++ tms y (x % y) = M := by
  rw [← h, tms_pos hy, List.append_assoc]; rfl
set_option maxHeartbeats 1000000 in
theorem c_expand (a b : Nat) (w : World) (ha : a ≤ 1000000) (hb : b ≤ 1000000) :
    Calls Tryd.prog 34 #[.agg #[.int .i64 a, .int .i64 b]] w fun e w' => ∃ A c, e = .returned (.slice A (st a b) c) ∧ Own w' w.heap.size A (st a b) c (tms a b) ∧ Below w.heap.size w w' := by
  have hs := st_le ha hb
  obtain ⟨N, hN⟩ : ∃ N, N = st a b := ⟨_, rfl⟩
  rw [← hN] at hs ⊢
  have HN : Hid ((tms a b).length = N) := by rw [hN]; exact tms_length a b
  clear hN
  go_enter Tryd.func34, Tryd.ntmps34
  go_wp2
  go_region
  go_wp2
  go_loopw [3, 4, 5] (fun o u v wr => ∃ (A : Option Addr) (c k x y : Nat) (L : List Int), k ≤ N ∧ x ≤ 1000000 ∧ y ≤ 1000000 ∧ o = .slice A k c ∧ u = .int .i64 x ∧ v = .int .i64 y ∧ Hid (Own wr w.heap.size A k c L) ∧ Hid (L ++ tms x y = tms a b) ∧ Below w.heap.size w wr) (fun _ _ v _ => (intOf v).toNat)
  case atStart => exact ⟨none, 0, 0, a, b, [], Nat.zero_le _, ha, hb, rfl, rfl, rfl, Own.nil _ _, rfl, by go_grown⟩
  case round =>
    obtain ⟨A, c, k, x, y, L, hk, hx, hy, rfl, rfl, rfl, HO, HL, hbr⟩ := hrel
    by_cases hy0 : y = 0
    · subst hy0
      have e := HL.out
      rw [tms_zero, List.append_nil] at e
      have hkN : k = N := by rw [← HN.out, ← e]; exact HO.out.1.symm
      have HO' : Hid (Own wr w.heap.size A k c (tms a b)) := by rw [← e]; exact HO
      clear e HO HL
      subst hkN
      go_wp2
      go_ret
      exact ⟨A, c, rfl, HO'.out, hbr⟩
    · have hy1 : ¬ (y : Int) = 0 := by omega
      have hm := Nat.mod_lt x (show 0 < y by omega)
      have hsz := hbr.size
      have hk1 : k + 1 ≤ N := by
        have h1 := congrArg List.length HL.out
        rw [List.length_append, HO.out.1, HN.out, tms_length, st_pos hy0] at h1
        omega
      have HL' := Lib.hid (tms_step hy0 HL.out)
      obtain ⟨z, hz⟩ : ∃ z, z = x % y := ⟨_, rfl⟩
      obtain ⟨t, ht⟩ : ∃ t, t = x / y := ⟨_, rfl⟩
      have hz' : (x : Int) % (y : Int) = (z : Int) := by rw [hz]; simp
      have ht' : (x : Int) / (y : Int) = (t : Int) := by rw [ht]; simp
      have ht2 : t ≤ 1000000 := by rw [ht]; exact Nat.le_trans (Nat.div_le_self x y) hx
      rw [← hz] at hm HL'
      rw [← ht] at HL'
      clear hz ht HL
      go_wp2_with (at_builtin; refine wp_push rfl (.tmp 16) (.tmp 20) rfl w.heap.size rfl rfl HO.out (by omega) hsz ?_)
      intro A2 c2 w2 hown2 hb2
      have HO2 := Lib.hid hown2
      have HB2 := Lib.hid (hbr.trans hb2)
      clear hown2 hb2 HO hbr hsz
      go_wp2
      go_region
      all_goals
        go_wp2
        go_roundw
        case rel => exact ⟨A2, c2, k + 1, y, z, _, hk1, hy, by omega, rfl, rfl, by rw [hz'], HO2.out, HL'.out, below_drewN HB2.out 1⟩
        case measure => simp [intOf]; omega
/-- A fraction that was boxed is there behind a call that turns nothing old. -/
theorem box2 {w w1 : World} {a b : Int} {t : TypeId} (hb : Below (w.alloc (.cells #[.int .i64 a, .int .i64 b] t)).heap.size (w.alloc (.cells #[.int .i64 a, .int .i64 b] t)) w1) :
    w1.cell? ⟨w.heap.size, 0, none⟩ = some (.int .i64 a) ∧ w1.cell? ⟨w.heap.size, 1, none⟩ = some (.int .i64 b) ∧ Below w.heap.size w w1 ∧ w.heap.size < w1.heap.size := by
  refine ⟨(hb.cell (p := ⟨w.heap.size, 0, none⟩) (by simp)).trans (by simp), (hb.cell (p := ⟨w.heap.size, 1, none⟩) (by simp)).trans (by simp), ?_, ?_⟩
  · exact ((Below.refl _ w).alloc (Nat.le_refl _) _).trans (hb.mono (by simp))
  · have := hb.size; simp at this; omega
theorem c_Terms_ok (a b : Nat) (w : World) (h : FrOk a b) :
    Calls Tryd.prog 15 #[.agg #[.int .i64 a, .int .i64 b]] w fun e w' => ∃ A c, e = .returned (.tuple #[.slice A (st a b) c, .nilIface]) ∧ Own w' w.heap.size A (st a b) c (tms a b) ∧ Below w.heap.size w w' := by
  have H := Lib.hid h
  unfold FrOk at h
  have ha : a ≤ 1000000 := by omega
  have hb : b ≤ 1000000 := by omega
  clear h
  go_enter Tryd.func15, Tryd.ntmps15
  go_wp2_with fail
  refine (c_fcheck_ok _ _ _ H.out).mono ?_
  rintro e w1 ⟨rfl, hb1⟩
  obtain ⟨k1, k2, k3, k4⟩ := box2 hb1
  clear hb1
  go_wp2_with fail
  refine (c_expand a b _ ha hb).mono ?_
  rintro e w2 ⟨A, c, rfl, ho, hb2⟩
  have HO := Lib.hid (ho.base_le k3.size)
  have HB := Lib.hid (k3.trans (hb2.mono k3.size))
  clear ho hb2
  go_wp2
  go_ret2
  exact ⟨A, c, rfl, HO.out, HB.out⟩
theorem c_Terms_bad (a b : Int) (w : World) (h : ¬ FrOk a b) :
    Calls Tryd.prog 15 #[.agg #[.int .i64 a, .int .i64 b]] w fun e w' => e = .returned (.tuple #[.slice none 0 0, .iface 58 (.int .i64 1)]) ∧ Below w.heap.size w w' := by
  have H := Lib.hid h
  clear h
  go_enter Tryd.func15, Tryd.ntmps15
  go_wp2_with fail
  refine (c_fcheck_bad _ _ _ H.out).mono ?_
  rintro e w1 ⟨rfl, hb1⟩
  obtain ⟨k1, k2, k3, k4⟩ := box2 hb1
  clear hb1
  go_wp2
  go_ret2
  exact ⟨rfl, k3⟩
end Go.Proofs.YtpfbbalhhldghaaDoor
