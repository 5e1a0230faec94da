/- The contract of the reference's Through. -/
import Derived.Test.YtaidincogkfodaaDoorIpolRM
import Derived.Test.YtaidincogkfodaaDoorIpolRef
namespace Go.Proofs.YtaidincogkfodaaDoor
open Go.RowKit

theorem dif_ne {xs ys : List Int} (h : IOk xs ys) {i k : Nat} (hi : i < xs.length) (hk : k < xs.length) (hne : k ≠ i) : (nth xs i - nth xs k) % 9973 ≠ 0 := by
  have a := h.2.2.1 i
  have b := h.2.2.1 k
  rcases Nat.lt_or_ge i k with hlt | hge
  · have := h.2.2.2.2 i k hlt hk; omega
  · have := h.2.2.2.2 k i (by omega) hi; omega
set_option maxHeartbeats 4000000 in
set_option maxRecDepth 100000 in
theorem c_RThrough (A A' : Option Addr) (n c c' : Nat) (xs ys : List Int) (w : World) (hL : Rd w w.heap.size A n xs) (hM : Rd w w.heap.size A' n ys) (h : IOk xs ys) :
    Calls Tryd.prog 23 #[.slice A n c, .slice A' n c'] w fun e w' => ∃ A2 c2, e = .returned (.slice A2 (thr xs ys).length c2) ∧ Own w' w.heap.size A2 (thr xs ys).length c2 (thr xs ys) ∧ Below w.heap.size w w' := by
  have hn6 := h.1
  rw [hL.1] at hn6
  have PX := Lib.hid h.2.2.1
  have PY := Lib.hid h.2.2.2.1
  have DN : Hid (∀ i k, i < n → k < n → k ≠ i → (nth xs i - nth xs k) % 9973 ≠ 0) := fun i k h1 h2 h3 => dif_ne h (by rw [hL.1]; exact h1) (by rw [hL.1]; exact h2) h3
  have ER : Hid (thr xs ys = rth xs ys n) := by rw [Hid, ← rth_all h, hL.1]
  have RL : Hid (∀ k, k ≤ n → (rth xs ys k).length ≤ n) := fun k hk => by have := rth_len xs ys k (by rw [hL.1]; exact hk); rw [hL.1] at this; exact this
  have OL := Lib.hid (onl_len xs ys)
  have OP := Lib.hid (fun i k => onl_pl (xs := xs) h.2.2.2.1 i k)
  have RP := Lib.hid (rth_pl xs ys)
  have HX := Lib.hid hL.1
  have HL := Lib.hid hL
  have HM := Lib.hid hM
  rw [ER.out]
  clear h hL hM
  go_enter Tryd.func23, Tryd.ntmps23
  go_wp2
  go_loopw [5, 6] (fun v i wr => ∃ (k m : Nat) (A2 : Option Addr) (c2 : Nat), k ≤ n ∧ i = .int .i64 k ∧ v = .slice A2 m c2 ∧ Hid (m = (rth xs ys k).length) ∧ Hid (Own wr w.heap.size A2 m c2 (rth xs ys k)) ∧ Below w.heap.size w wr) (fun _ i _ => n - (intOf i).toNat)
  case atStart => exact ⟨0, 0, none, 0, Nat.zero_le _, rfl, rfl, rfl, Own.nil _ _, Below.refl _ _⟩
  case round =>
    obtain ⟨i, m, A2, c2, hi, rfl, rfl, hm, ho, hbr⟩ := hrel
    by_cases hlt : i < n
    · obtain ⟨b, off, rfl, hcc⟩ := (HM.out.below hbr).at_ hlt
      have hs := hbr.size
      have OW := Lib.hid ((own_new wr [nth ys i] 1 rfl (by decide)).base_le hs)
      have O8 := Lib.hid (ho.out.alloc (.cells #[.int .i64 (nth ys i)] 3))
      have hb8 := hbr.alloc hs (.cells #[.int .i64 (nth ys i)] 3)
      have E0 : Hid (onl xs ys i 0 = [nth ys i]) := rfl
      obtain ⟨y0, hy0⟩ : ∃ y, y = nth ys i := ⟨_, rfl⟩
      rw [← hy0] at hcc OW O8 hb8 E0
      clear hy0 ho
      go_wp2
      obtain ⟨w8, hw8⟩ : ∃ w8, w8 = wr.alloc (.cells #[.int .i64 y0] 3) := ⟨_, rfl⟩
      have OW1 : Hid (Own w8 w.heap.size (some ⟨wr.heap.size, 0, none⟩) 1 1 (onl xs ys i 0)) := by rw [Hid, hw8, E0.out]; exact OW.out
      have E1 : Hid (1 = (onl xs ys i 0).length) := by rw [Hid, E0.out]; rfl
      rw [← hw8] at O8 hb8 ⊢
      clear hw8 OW E0 hcc hbr hs
      go_loopw [7, 8] (fun v j wr => ∃ (k m' : Nat) (A3 : Option Addr) (c3 : Nat), k ≤ n ∧ j = .int .i64 k ∧ v = .slice A3 m' c3 ∧ Hid (m' = (onl xs ys i k).length) ∧ Hid (Own wr w.heap.size A3 m' c3 (onl xs ys i k)) ∧ Hid (Own wr w.heap.size A2 m c2 (rth xs ys i)) ∧ Below w.heap.size w wr) (fun _ j _ => n - (intOf j).toNat)
      case atStart => exact ⟨0, 1, _, 1, Nat.zero_le _, rfl, rfl, E1.out, OW1.out, O8.out, hb8⟩
      case round =>
        obtain ⟨k, m', A3, c3, hk, rfl, rfl, hm', ho', ho2, hbr⟩ := hrel
        by_cases hlt' : k < n
        · by_cases he : k = i
          · have t1 : ((k : Int) != (i : Int)) = false := by simp [he]
            have ES : Hid (onl xs ys i (k + 1) = onl xs ys i k) := by show (if k = i then _ else _) = _; rw [if_pos he]
            clear he
            go_wp2
            go_roundw
            case rel => exact ⟨k + 1, m', A3, c3, by omega, by go_num, rfl, by rw [ES.out]; exact hm'.out, by rw [ES.out]; exact ho'.out, ho2.out, hbr⟩
            case measure => simp [intOf]; omega
          · have t1 : ((k : Int) != (i : Int)) = true := by simp; omega
            obtain ⟨b, off, rfl, hcc⟩ := (HL.out.below hbr).at_ hlt
            obtain ⟨b2, off2, e2, hcc'⟩ := (HL.out.below hbr).at_ hlt'
            injection e2 with e2
            injection e2 with e3 e4 _
            subst e3; subst e4
            have bx := PX.out i
            have by' := PX.out k
            have hz := DN.out i k hlt hlt' he
            have ES : Hid (onl xs ys i (k + 1) = pmul (onl xs ys i k) [(-nth xs k * rcp xs i k) % 9973, rcp xs i k]) := by show (if k = i then _ else _) = _; rw [if_neg he]
            have hs := hbr.size
            have m1 := OL.out i k
            have m2 : (onl xs ys i k).length ≤ k + 1 := by split at m1 <;> omega
            rw [← hm'.out] at m2
            have hd : rcp xs i k = pw ((nth xs i - nth xs k) % 9973) 9971 := rfl
            have bd := rcp_bd xs i k
            obtain ⟨x, hx⟩ : ∃ x, x = nth xs i := ⟨_, rfl⟩
            obtain ⟨y, hy⟩ : ∃ y, y = nth xs k := ⟨_, rfl⟩
            obtain ⟨d, hd'⟩ : ∃ d, d = rcp xs i k := ⟨_, rfl⟩
            rw [← hx] at hcc bx hz hd
            rw [← hy] at hcc' by' hz ES hd
            rw [← hd'] at ES bd hd
            obtain ⟨z, hzz⟩ : ∃ z, z = (x - y) % 9973 := ⟨_, rfl⟩
            have bz : 0 < z ∧ z < 9973 := by omega
            have MO : Hid (∀ q, Calls Tryd.prog 29 #[.int .i64 (x - y)] (wr.drewN q) fun e w' => e = .returned (.int .i64 z) ∧ wr.drewN q = w') := fun q => by
              rw [hzz]; exact c_RMod (x - y) _ (by omega) (by omega)
            have DV : Hid (∀ q, Calls Tryd.prog 31 #[.int .i64 1, .int .i64 z] (wr.drewN q) fun e w' => e = .returned (.int .i64 d) ∧ wr.drewN q = w') := fun q => by
              have h9 := c_RDiv 1 z (wr.drewN q) (by omega) (by omega) bz.1 bz.2
              have : 1 * pw z 9971 % 9973 = d := by rw [hd, ← hzz, Int.one_mul]; have := pw_bd z 9971; omega
              rw [this] at h9
              exact h9
            have W1 : IntKind.i64.wrap (x - y) = x - y := IntWalk.i64_in _ (by omega)
            clear hd hzz hx hy hd' m1 hz he
            go_wp2_with fail
            go_quiet (first | (go_at_call 29; first | exact quiet_left (MO.out _) | exact quiet_add_left (MO.out _)) | (go_at_call 31; first | exact quiet_left (DV.out _) | exact quiet_add_left (DV.out _)))
            have hbr1 := below_drewN hbr nq
            have HO1 := Lib.hid (ho'.out.drewN nq)
            have HP1 := Lib.hid (ho2.out.drewN nq)
            have c1 : (wr.drewN nq).cell? ⟨b, off + k, none⟩ = some (.int .i64 y) := hcc'
            obtain ⟨w9, hw9⟩ : ∃ w9, w9 = wr.drewN nq := ⟨_, rfl⟩
            rw [← hw9] at hbr1 HO1 HP1 c1 ⊢
            clear hw9 MO DV W1 hcc hcc' hbr ho' ho2 hs
            have bm := mul_bnd (x := -y) (y := d) (X := 9973) (Y := 9973) ⟨by omega, by omega⟩ ⟨by omega, by omega⟩ (by omega) (by omega)
            obtain ⟨s, hs2⟩ : ∃ s, s = (-y * d) % 9973 := ⟨_, rfl⟩
            have bs : 0 ≤ s ∧ s < 9973 := by rw [hs2]; exact emod_pl _
            have MO : Hid (∀ w, Calls Tryd.prog 29 #[.int .i64 (-y * d)] w fun e w' => e = .returned (.int .i64 s) ∧ w = w') := fun w => by
              rw [hs2]; exact c_RMod (-y * d) _ (by omega) (by omega)
            rw [← hs2] at ES
            clear hs2
            have PS : Hid (PL [s, d]) := pl_of (by intro z hz; simp at hz; omega)
            go_wp2_with fail
            refine (MO.out _).mono ?_
            rintro e w' ⟨rfl, rfl⟩
            have r2 := Lib.hid ((rd_two'' w9 s d 3).more (B' := (w9.alloc (.cells #[.int .i64 s, .int .i64 d] 3)).heap.size) (by simp))
            have S1 := below_one w9 (.cells #[.int .i64 s, .int .i64 d] 3)
            have hs9 := hbr1.size
            have hbr3 := hbr1.trans (S1.mono hs9)
            have OW3 := Lib.hid (HO1.out.keep S1)
            have ON3 := Lib.hid (HP1.out.keep S1)
            clear HO1 HP1 S1 bm
            go_wp2_with fail
            refine (c_RTimes _ _ _ _ _ _ (onl xs ys i k) [s, d] _ _ _ OW3.out.rd r2.out (Nat.le_refl _) (Nat.le_refl _) (by omega) (by omega) (OP.out i k) PS.out).mono ?_
            rintro e w10 ⟨A5', c5', rfl, o, hb⟩
            rw [← ES.out] at o ⊢
            have hs10 := hbr3.size
            have OW4 := Lib.hid (o.base_le hs10)
            have ON4 := Lib.hid (ON3.out.keep hb)
            have hbr4 := Lib.hid (hbr3.trans (hb.mono hs10))
            obtain ⟨m4, hm4⟩ : ∃ m4, m4 = (onl xs ys i (k + 1)).length := ⟨_, rfl⟩
            have HM4 := Lib.hid hm4
            rw [← hm4] at OW4 ⊢
            clear hm4 o hb OW3 ON3 r2 hbr3 c1
            go_wp2
            go_roundw
            case rel => exact ⟨k + 1, m4, A5', c5', by omega, by go_num, rfl, HM4.out, OW4.out, ON4.out, hbr4.out⟩
            case measure => simp [intOf]; omega
        · obtain rfl : k = n := by omega
          have hs := hbr.size
          have m1 := OL.out i k
          rw [if_pos hlt, ← hm'.out] at m1
          have m2 := RL.out i (by omega)
          rw [← hm.out] at m2
          have EN : Hid (rth xs ys (i + 1) = plu (rth xs ys i) (onl xs ys i k) 1 0) := by rw [Hid, ← HX.out]; rfl
          go_wp2_with fail
          refine (c_RPlus _ _ _ _ _ _ (rth xs ys i) (onl xs ys i k) 1 0 _ _ _ ho2.out.rd ho'.out.rd (Nat.le_refl _) (Nat.le_refl _) (by omega) (by omega) (by omega) (by omega) (RP.out i) (OP.out i k)).mono ?_
          rintro e w9 ⟨A4', c4', rfl, o, hb⟩
          rw [← EN.out] at o ⊢
          have ON := Lib.hid (o.base_le hs)
          have hbr2 := Lib.hid (hbr.trans (hb.mono hs))
          obtain ⟨m3, hm3⟩ : ∃ m3, m3 = (rth xs ys (i + 1)).length := ⟨_, rfl⟩
          have HM3 := Lib.hid hm3
          rw [← hm3] at ON ⊢
          clear hm3 o hb ho' ho2
          go_wp2
          go_roundw
          case rel => exact ⟨i + 1, m3, A4', c4', by omega, by go_num, rfl, HM3.out, ON.out, hbr2.out⟩
          case measure => simp [intOf]; omega
    · obtain rfl : i = n := by omega
      go_wp2
      go_ret
      exact ⟨A2, c2, by rw [← hm.out]; rfl, by rw [← hm.out]; exact ho.out, hbr⟩
end Go.Proofs.YtaidincogkfodaaDoor
