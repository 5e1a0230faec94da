/- The contracts of package crt: check and Solve. -/
import Derived.Test.YtpfbbalhhldghaaDoorNum
import Derived.Test.YtpfbbalhhldghaaDoorCrtM
import Derived.Test.YtpfbbalhhldghaaDoorMem
namespace Go.Proofs.YtpfbbalhhldghaaDoor
open Go.RowKit

section
variable (Ar Am : Option Addr) (nr nm cr cm : Nat) (r m : List Int) (B : Nat) (w : World)
theorem crt_check_full (h : 5 < nm) :
    Calls Tryd.prog 39 #[.slice Ar nr cr, .slice Am nm cm] w fun e w' => e = .returned (.iface 58 (.int .i64 4)) ∧ w = w' := by
  go_enter Tryd.func39, Tryd.ntmps39
  go_wp2
  go_ret
  exact ⟨rfl, rfl⟩
theorem crt_check_shape (h : nm ≤ 5) (h2 : nr ≠ nm) :
    Calls Tryd.prog 39 #[.slice Ar nr cr, .slice Am nm cm] w fun e w' => e = .returned (.iface 58 (.int .i64 3)) ∧ w = w' := by
  go_enter Tryd.func39, Tryd.ntmps39
  go_wp2
  go_ret
  exact ⟨rfl, rfl⟩
/-- The k-th congruence may be asked. -/
def goodAt (r m : List Int) (k : Nat) : Prop := 1 ≤ nth m k ∧ nth m k ≤ 100 ∧ 0 ≤ nth r k ∧ nth r k ≤ nth m k - 1
theorem crt_check_ok (hr : Rd w B Ar nr r) (hm : Rd w B Am nm m) (h : CrtOk r m) :
    Calls Tryd.prog 39 #[.slice Ar nr cr, .slice Am nm cm] w fun e w' => e = .returned .nilIface ∧ w = w' := by
  obtain ⟨k1, k2, k3⟩ := h
  rw [hm.1] at k1
  rw [hr.1, hm.1] at k2
  obtain rfl : nr = nm := k2
  rw [hm.1] at k3
  have K3 := Lib.hid k3
  clear k3
  go_enter Tryd.func39, Tryd.ntmps39
  go_wp2
  go_loop [21] (fun i => ∃ k : Nat, k ≤ nr ∧ i = .int .i64 k) (fun i => nr - (intOf i).toNat)
  case atStart => exact ⟨0, Nat.zero_le _, rfl⟩
  case round =>
    obtain ⟨k, hk, rfl⟩ := hrel
    by_cases hlt : k < nr
    · obtain ⟨b, off, rfl, hc⟩ := hr.at_ hlt
      obtain ⟨b', off', rfl, hc'⟩ := hm.at_ hlt
      obtain ⟨g1, g2, g3, g4⟩ := K3.out k hlt
      have o1 : outB (nth m k) 1 100 = false := outB_false g1 g2
      have o2 : outB (nth r k) 0 (nth m k - 1) = false := outB_false g3 g4
      go_wp2_with (go_at_call 37; refine (c_Out _ _ _ _).mono ?_; rintro e w' ⟨rfl, rfl⟩)
      go_round
      case rel => exact ⟨k + 1, by omega, by go_num⟩
      case measure => simp [intOf]; omega
    · go_wp2
      go_ret
      exact ⟨rfl, rfl⟩
theorem crt_check_range (hr : Rd w B Ar nr r) (hm : Rd w B Am nr m) (h : nr ≤ 5) (hbad : ¬ ∀ k, k < nr → goodAt r m k) :
    Calls Tryd.prog 39 #[.slice Ar nr cr, .slice Am nr cm] w fun e w' => e = .returned (.iface 58 (.int .i64 1)) ∧ w = w' := by
  have HB := Lib.hid hbad
  clear hbad
  go_enter Tryd.func39, Tryd.ntmps39
  go_wp2
  go_loop [21] (fun i => ∃ k : Nat, k ≤ nr ∧ i = .int .i64 k ∧ ∀ j, j < k → goodAt r m j) (fun i => nr - (intOf i).toNat)
  case atStart => exact ⟨0, Nat.zero_le _, rfl, fun j hj => absurd hj (by omega)⟩
  case round =>
    obtain ⟨k, hk, rfl, hall⟩ := hrel
    have HA := Lib.hid hall
    clear hall
    by_cases hlt : k < nr
    · obtain ⟨b, off, rfl, hc⟩ := hr.at_ hlt
      obtain ⟨b', off', rfl, hc'⟩ := hm.at_ hlt
      by_cases g : 1 ≤ nth m k ∧ nth m k ≤ 100
      · obtain ⟨g1, g2⟩ := g
        have o1 : outB (nth m k) 1 100 = false := outB_false g1 g2
        by_cases g' : 0 ≤ nth r k ∧ nth r k ≤ nth m k - 1
        · obtain ⟨g3, g4⟩ := g'
          have o2 : outB (nth r k) 0 (nth m k - 1) = false := outB_false g3 g4
          go_wp2_with (go_at_call 37; refine (c_Out _ _ _ _).mono ?_; rintro e w' ⟨rfl, rfl⟩)
          go_round
          case rel =>
            refine ⟨k + 1, by omega, by go_num, fun j hj => ?_⟩
            by_cases e : j = k
            · subst e; exact ⟨g1, g2, g3, g4⟩
            · exact HA.out j (by omega)
          case measure => simp [intOf]; omega
        · have o2 : outB (nth r k) 0 (nth m k - 1) = true := outB_true (by omega)
          clear g'
          go_wp2_with (go_at_call 37; refine (c_Out _ _ _ _).mono ?_; rintro e w' ⟨rfl, rfl⟩)
          go_ret
          exact ⟨rfl, rfl⟩
      · have o1 : outB (nth m k) 1 100 = true := outB_true (by omega)
        clear g
        go_wp2_with (go_at_call 37; refine (c_Out _ _ _ _).mono ?_; rintro e w' ⟨rfl, rfl⟩)
        go_ret
        exact ⟨rfl, rfl⟩
    · exact absurd (fun j hj => HA.out j (by omega)) HB.out

/-- What Solve answers where the system may be asked: the least solution and the least common multiple; or that there is none. -/
def SolveP (r m : List Int) (n : Nat) (e : Ending) : Prop :=
  (∃ y, Sol r m n y ∧ e = .returned (.tuple #[.int .i64 (y % (stp m n : Int)), .int .i64 (stp m n : Int), .nilIface])) ∨
  ((∀ y, ¬ Sol r m n y) ∧ e = .returned (.tuple #[.int .i64 0, .int .i64 0, .iface 58 (.int .i64 6)]))
set_option maxHeartbeats 1000000 in
theorem crt_solve_any (hr : Rd w B Ar nr r) (hm : Rd w B Am nr m) (h : CrtOk r m) :
    Calls Tryd.prog 21 #[.slice Ar nr cr, .slice Am nr cm] w fun e w' => SolveP r m nr e ∧ ∃ q, w.drewN q = w' := by
  have hlm := Lib.hid hm.1
  have hn : nr ≤ 5 := by rw [← hlm.out]; exact h.1
  have HK := Lib.hid h
  clear h
  go_enter Tryd.func21, Tryd.ntmps21
  go_wp2_with (go_at_call 39; refine (crt_check_ok _ _ _ _ _ _ r m _ _ hr hm HK.out).mono ?_; rintro e w' ⟨rfl, rfl⟩)
  go_loopw [4, 5, 19] (fun u v i wr => ∃ (k : Nat) (y x : Int) (S : Nat), k ≤ nr ∧ i = .int .i64 k ∧ Sol r m k y ∧ Hid (x = y % (stp m k : Int)) ∧ Hid (S = stp m k) ∧ u = .int .i64 x ∧ v = .int .i64 (S : Int) ∧ ∃ q, w.drewN q = wr) (fun _ _ i _ => nr - (intOf i).toNat)
  case atStart => exact ⟨0, 0, 0, 1, Nat.zero_le _, rfl, fun i hi => absurd hi (by omega), by simp [stp, Hid], rfl, rfl, rfl, 0, rfl⟩
  case round =>
    obtain ⟨k, y, x, S, hk, rfl, hy, HX, HS, rfl, rfl, q, rfl⟩ := hrel
    have HY := Lib.hid hy
    clear hy
    by_cases hlt : k < nr
    · obtain ⟨b, off, rfl, hc⟩ := hr.at_ hlt
      obtain ⟨b', off', rfl, hc'⟩ := hm.at_ hlt
      obtain ⟨S', md, rk, HM, HR, HS', g1, g2, s1, s2, x1, x2, q1, q2, q3, p1, p2, HP, hseek, HF, HN⟩ := crt_round HK.out hlt (by rw [hlm.out]; exact Nat.le_refl _) HY.out HX.out HS.out
      rw [← HR.out] at hc
      rw [← HM.out] at hc'
      go_wp2
      go_loopw [4, 5, 10] (fun u v t wr' => ∃ (j : Nat) (z : Int), (j : Int) ≤ md ∧ 0 ≤ z ∧ z ≤ 10000000000 * (j + 1) ∧ u = .int .i64 z ∧ v = .int .i64 (S : Int) ∧ t = .int .i64 j ∧ Seek x S md rk z j ∧ ∃ q, w.drewN q = wr') (fun _ _ t _ => (101 - intOf t).toNat)
      case atStart => exact ⟨0, x, by omega, x1, by omega, rfl, rfl, rfl, hseek, q, rfl⟩
      case round =>
        obtain ⟨j, z, hj, z1, z2, rfl, rfl, rfl, hsk, q', rfl⟩ := hrel
        by_cases ht : z % md = rk
        · have ht' : (z % md != rk) = false := by simp [ht]
          have HT := Lib.hid ht
          clear ht
          go_wp2
          go_region
          go_wp2_with (go_at_call 27; refine (c_Gcd _ _ _ (by omega) (by omega) (by omega) (by omega)).mono ?_; rintro e w' ⟨rfl, q'', rfl⟩)
          go_roundw
          case rel => exact ⟨k + 1, z, z % S', S', by omega, by go_num, HF.out z j hsk HT.out, by rw [← HS'.out]; rfl, HS'.out, by rw [HP.out], by rw [HP.out], _, rfl⟩
          case measure => simp [intOf]; omega
        · have ht' : (z % md != rk) = true := by simp [ht]
          have hsk' := seek_next hsk ht
          have HT := Lib.hid ht
          clear ht
          by_cases hlast : (j : Int) + 1 ≤ md
          · go_wp2
            go_region
            go_wp2
            go_roundw
            case rel => exact ⟨j + 1, z + S, by omega, by omega, by omega, rfl, rfl, by go_num, hsk', _, rfl⟩
            case measure => simp [intOf]; omega
          · have HL := HN.out (z + S) (j + 1) hsk' (by omega)
            have HL' := Lib.hid HL
            clear HL
            go_wp2
            go_region
            go_wp2
            go_ret3
            exact ⟨.inr ⟨HL'.out, rfl⟩, _, rfl⟩
    · obtain rfl : k = nr := by omega
      go_wp2
      go_ret3
      exact ⟨.inl ⟨y, HY.out, by rw [HX.out, HS.out]; rfl⟩, _, rfl⟩
theorem crt_check_bad (hr : Rd w B Ar nr r) (hm : Rd w B Am nm m) (h : ¬ CrtOk r m) :
    Calls Tryd.prog 39 #[.slice Ar nr cr, .slice Am nm cm] w fun e w' => e = .returned (.iface 58 (.int .i64 (crtE r m))) ∧ w = w' := by
  by_cases h1 : 5 < nm
  · rw [crtE_full (by rw [hm.1]; exact h1)]
    exact crt_check_full Ar Am nr nm cr cm w h1
  · by_cases h2 : nr = nm
    · subst h2
      rw [crtE_range (by rw [hm.1]; exact h1) (by rw [hm.1, hr.1])]
      exact crt_check_range Ar Am nr cr cm r m B w hr hm (by omega) fun hall => h ⟨by rw [hm.1]; omega, by rw [hm.1, hr.1], fun k hk => hall k (by rw [hm.1] at hk; exact hk)⟩
    · rw [crtE_shape (by rw [hm.1]; exact h1) (by rw [hm.1, hr.1]; exact h2)]
      exact crt_check_shape Ar Am nr nm cr cm w (by omega) h2
theorem crt_solve_bad (hr : Rd w B Ar nr r) (hm : Rd w B Am nm m) (h : ¬ CrtOk r m) :
    Calls Tryd.prog 21 #[.slice Ar nr cr, .slice Am nm cm] w fun e w' => e = .returned (.tuple #[.int .i64 0, .int .i64 0, .iface 58 (.int .i64 (crtE r m))]) ∧ w = w' := by
  have H := Lib.hid h
  clear h
  go_enter Tryd.func21, Tryd.ntmps21
  go_wp2_with (go_at_call 39; refine (crt_check_bad _ _ _ _ _ _ r m _ _ hr hm H.out).mono ?_; rintro e w' ⟨rfl, rfl⟩)
  go_ret3
  exact ⟨rfl, rfl⟩
end
end Go.Proofs.YtpfbbalhhldghaaDoor
