/- The contract of the reference's Crt. -/
import Derived.Test.YtpamlngkhjnboaaDoorCrt
import Derived.Test.YtpamlngkhjnboaaDoorCrtR
import Derived.BigQuiet
import Derived.Deep.QuietTactic
import Derived.IntWalk
namespace Go.Proofs.YtpamlngkhjnboaaDoor
open Go.RowKit

theorem inB_true' {n lo hi : Int} (h : lo ≤ n ∧ n ≤ hi) : inB n lo hi = true := by unfold inB; simp; omega
theorem inB_false' {n lo hi : Int} (h : n < lo ∨ hi < n) : inB n lo hi = false := by unfold inB; simp; omega
section
variable (Ar Am : Option Addr) (nr nm cr cm : Nat) (r m : List Int) (B : Nat) (w : World)
theorem ref_full (h : 5 < nm) :
    Calls Tryd.prog 6 #[.slice Ar nr cr, .slice Am nm cm] w fun e w' => e = .returned (.tuple #[.int .i64 0, .int .i64 0, .int .i64 4]) ∧ ∃ q, w.drewN q = w' := by
  go_enter Tryd.func6, Tryd.ntmps6
  go_wp2
  go_ret3
  exact ⟨rfl, 0, rfl⟩
theorem ref_shape (h : nm ≤ 5) (h2 : nr ≠ nm) :
    Calls Tryd.prog 6 #[.slice Ar nr cr, .slice Am nm cm] w fun e w' => e = .returned (.tuple #[.int .i64 0, .int .i64 0, .int .i64 3]) ∧ ∃ q, w.drewN q = w' := by
  go_enter Tryd.func6, Tryd.ntmps6
  go_wp2
  go_ret3
  exact ⟨rfl, 0, rfl⟩
theorem ref_range (hr : Rd w B Ar nr r) (hm : Rd w B Am nr m) (h : nr ≤ 5) (hbad : ¬ ∀ k, k < nr → goodAt r m k) :
    Calls Tryd.prog 6 #[.slice Ar nr cr, .slice Am nr cm] w fun e w' => e = .returned (.tuple #[.int .i64 0, .int .i64 0, .int .i64 1]) ∧ ∃ q, w.drewN q = w' := by
  have HB := Lib.hid hbad
  clear hbad
  go_enter Tryd.func6, Tryd.ntmps6
  go_wp2
  go_loopw [7] (fun i wr => ∃ k : Nat, k ≤ nr ∧ i = .int .i64 k ∧ Hid (∀ j, j < k → goodAt r m j) ∧ ∃ q, wr = w.drewN q) (fun i _ => nr - (intOf i).toNat)
  case atStart => exact ⟨0, Nat.zero_le _, rfl, fun j hj => absurd hj (by omega), 0, rfl⟩
  case round =>
    obtain ⟨k, hk, rfl, HA, q, rfl⟩ := hrel
    by_cases hlt : k < nr
    · obtain ⟨b, off, rfl, hc⟩ := hr.at_ hlt
      obtain ⟨b', off', rfl, hc'⟩ := hm.at_ hlt
      obtain ⟨md, hmd⟩ : ∃ md, md = nth m k := ⟨_, rfl⟩
      obtain ⟨rk, hrk⟩ : ∃ rk, rk = nth r k := ⟨_, rfl⟩
      rw [← hrk] at hc
      rw [← hmd] at hc'
      have HM := Lib.hid hmd
      have HR := Lib.hid hrk
      clear hmd hrk
      by_cases g : 1 ≤ md ∧ md ≤ 100
      · have o1 := inB_true' g
        obtain ⟨g1, g2⟩ := g
        have e1 : IntKind.i64.wrap (md - 1) = md - 1 := IntWalk.i64_in _ (by omega)
        by_cases g' : 0 ≤ rk ∧ rk ≤ md - 1
        · have o2 := inB_true' g'
          obtain ⟨g3, g4⟩ := g'
          go_wp2
          go_quiet ((go_at_call 19; first | exact quiet_left (c_Rin _ _ _ _) | exact quiet_add_left (c_Rin _ _ _ _)))
          clear e1
          go_wp2
          go_roundw
          case rel =>
            refine ⟨k + 1, by omega, by go_num, fun j hj => ?_, _, rfl⟩
            by_cases e : j = k
            · subst e; have h1 := HM.out; have h2 := HR.out; exact ⟨by omega, by omega, by omega, by omega⟩
            · exact HA.out j (by omega)
          case measure => simp [intOf]; omega
        · have o2 := inB_false' (n := rk) (lo := 0) (hi := md - 1) (by omega)
          clear g'
          go_wp2
          go_quiet ((go_at_call 19; first | exact quiet_left (c_Rin _ _ _ _) | exact quiet_add_left (c_Rin _ _ _ _)))
          go_wp2
          go_ret3
          exact ⟨rfl, drews _ _ _⟩
      · have o1 := inB_false' (n := md) (lo := 1) (hi := 100) (by omega)
        clear g
        go_wp2
        go_quiet ((go_at_call 19; first | exact quiet_left (c_Rin _ _ _ _) | exact quiet_add_left (c_Rin _ _ _ _)))
        go_wp2
        go_ret3
        exact ⟨rfl, drews _ _ _⟩
    · exact absurd (fun j hj => HA.out j (by omega)) HB.out
theorem ref_crt_bad (hr : Rd w B Ar nr r) (hm : Rd w B Am nm m) (h : ¬ CrtOk r m) :
    Calls Tryd.prog 6 #[.slice Ar nr cr, .slice Am nm cm] w fun e w' => e = .returned (.tuple #[.int .i64 0, .int .i64 0, .int .i64 (crtE r m)]) ∧ ∃ q, w.drewN q = w' := by
  by_cases h1 : 5 < nm
  · rw [crtE_full (by rw [hm.1]; exact h1)]
    exact ref_full Ar Am nr nm cr cm w h1
  · by_cases h2 : nr = nm
    · subst h2
      rw [crtE_range (by rw [hm.1]; exact h1) (by rw [hm.1, hr.1])]
      exact ref_range Ar Am nr cr cm r m B w hr hm (by omega) fun hall => h ⟨by rw [hm.1]; omega, by rw [hm.1, hr.1], fun k hk => hall k (by rw [hm.1] at hk; exact hk)⟩
    · rw [crtE_shape (by rw [hm.1]; exact h1) (by rw [hm.1, hr.1]; exact h2)]
      exact ref_shape Ar Am nr nm cr cm w (by omega) h2
/-- What the reference answers where the system may be asked. -/
def RefP (r m : List Int) (n : Nat) (e : Ending) : Prop :=
  (∃ y, Sol r m n y ∧ e = .returned (.tuple #[.int .i64 (y % (stp m n : Int)), .int .i64 (stp m n : Int), .int .i64 0])) ∨
  ((∀ y, ¬ Sol r m n y) ∧ e = .returned (.tuple #[.int .i64 0, .int .i64 0, .int .i64 6]))
set_option maxHeartbeats 1000000 in
theorem ref_crt_any (hr : Rd w B Ar nr r) (hm : Rd w B Am nr m) (h : CrtOk r m) :
    Calls Tryd.prog 6 #[.slice Ar nr cr, .slice Am nr cm] w fun e w' => RefP r.reverse m.reverse nr e ∧ ∃ q, w.drewN q = w' := by
  have hlm := Lib.hid hm.1
  have hlr := Lib.hid hr.1
  have hn : nr ≤ 5 := by rw [← hlm.out]; exact h.1
  have HG : Hid (∀ k, k < nr → goodAt r m k) := fun k hk => h.2.2 k (by rw [hlm.out]; exact hk)
  have HK : Hid (CrtOk r.reverse m.reverse) := crtOk_reverse h
  have hll : Hid (m.reverse.length = nr) := by simpa [Hid] using hlm.out
  have HI : Hid (∀ k, k < nr → nth m.reverse k = nth m (nr - 1 - k) ∧ nth r.reverse k = nth r (nr - 1 - k)) := fun k hk => by
    rw [nth_reverse m k (by rw [hlm.out]; exact hk), nth_reverse r k (by rw [hlr.out]; exact hk), hlm.out, hlr.out]; exact ⟨rfl, rfl⟩
  clear h
  go_enter Tryd.func6, Tryd.ntmps6
  go_wp2
  go_loopw [7] (fun i wr => ∃ k : Nat, k ≤ nr ∧ i = .int .i64 k ∧ ∃ q, wr = w.drewN q) (fun i _ => nr - (intOf i).toNat)
  case atStart => exact ⟨0, Nat.zero_le _, rfl, 0, rfl⟩
  case round =>
    obtain ⟨k, hk, rfl, q, rfl⟩ := hrel
    by_cases hlt : k < nr
    · obtain ⟨b, off, rfl, hc⟩ := hr.at_ hlt
      obtain ⟨b', off', rfl, hc'⟩ := hm.at_ hlt
      obtain ⟨g1, g2, g3, g4⟩ := HG.out k hlt
      have o1 := inB_true' (n := nth m k) (lo := 1) (hi := 100) ⟨g1, g2⟩
      have o2 := inB_true' (n := nth r k) (lo := 0) (hi := nth m k - 1) ⟨g3, g4⟩
      have e1 : IntKind.i64.wrap (nth m k - 1) = nth m k - 1 := IntWalk.i64_in _ (by omega)
      go_wp2
      go_quiet ((go_at_call 19; first | exact quiet_left (c_Rin _ _ _ _) | exact quiet_add_left (c_Rin _ _ _ _)))
      clear e1
      go_wp2
      go_roundw
      case rel => exact ⟨k + 1, by omega, by go_num, _, rfl⟩
      case measure => simp [intOf]; omega
    · clear hk
      go_wp2
      clear hlt
      go_loopw [8, 9, 10] (fun u v i wr => ∃ (t k : Nat) (x : Int) (S : Nat), t + k = nr ∧ i = .int .i64 ((t : Int) - 1) ∧ Hid (Sol r.reverse m.reverse k x) ∧ 0 ≤ x ∧ Hid (x < 100 ^ k) ∧ Hid (S = stp m.reverse k) ∧ u = .int .i64 x ∧ v = .int .i64 (S : Int) ∧ ∃ q', wr = w.drewN q') (fun _ _ i _ => (intOf i + 1).toNat)
      case atStart => exact ⟨nr, 0, 0, 1, rfl, rfl, (fun i hi => absurd hi (by omega)), by omega, (by simp [Hid]), rfl, rfl, rfl, _, rfl⟩
      case round =>
        obtain ⟨t, k, x, S, htk, rfl, HX, x1, HB, HS, rfl, rfl, q', rfl⟩ := hrel
        by_cases ht : t = 0
        · subst ht
          obtain rfl : k = nr := by omega
          obtain ⟨s1, s2⟩ := stp_bd HK.out k (by rw [hll.out]; omega)
          rw [← HS.out] at s1 s2
          have HE : Hid (∀ y, Sol r.reverse m.reverse k y → (∃ y, Sol r.reverse m.reverse k y ∧ True)) := fun y hy => ⟨y, hy, trivial⟩
          have x2 : x ≤ 10000000000 := by have := HB.out; have := hundred_bd (show k ≤ 5 by omega); omega
          go_wp2
          go_ret3
          exact ⟨.inl ⟨x, HX.out, by rw [HS.out]; rfl⟩, _, rfl⟩
        · obtain ⟨s, rfl⟩ : ∃ s, t = s + 1 := ⟨t - 1, by omega⟩
          have hk : k < nr := by omega
          obtain ⟨b, off, rfl, hc⟩ := hr.at_ (show s < nr by omega)
          obtain ⟨b', off', rfl, hc'⟩ := hm.at_ (show s < nr by omega)
          obtain ⟨S', md, rk, HM, HR, HS', g1, g2, s1, s2, x2, q1, q2, q3, p1, p2, HP, hseek, HF, HN⟩ := ref_round HK.out hk (by rw [hll.out]; exact Nat.le_refl _) HX.out HB.out HS.out
          have i1 := HI.out k hk
          rw [show nr - 1 - k = s by omega] at i1
          rw [← i1.2, ← HR.out] at hc
          rw [← i1.1, ← HM.out] at hc'
          clear i1
          have es : ((s + 1 : Nat) : Int) - 1 = (s : Int) := by omega
          rw [es]
          clear es ht
          have HTK := Lib.hid htk
          clear htk
          have hs0 : s < nr := by have := HTK.out; omega
          go_wp2
          go_loopw [8, 11] (fun u t wr' => ∃ (j : Nat) (z : Int), (j : Int) ≤ md ∧ 0 ≤ z ∧ z ≤ 10000000000 * (j + 1) ∧ u = .int .i64 z ∧ t = .int .i64 j ∧ Seek x S md rk z j ∧ ∃ q, wr' = w.drewN q) (fun _ t _ => (101 - intOf t).toNat)
          case atStart => exact ⟨0, x, by omega, x1, by omega, rfl, rfl, hseek, q', rfl⟩
          case round =>
            obtain ⟨j, z, hj, z1, z2, rfl, rfl, hsk, q'', rfl⟩ := hrel
            have hz : ¬ md = 0 := by omega
            have m1 := Int.emod_nonneg z hz
            have m2 := Int.emod_lt_of_pos z (show 0 < md by omega)
            have k1 : z.tmod md = z % md := Int.tmod_eq_emod_of_nonneg z1
            by_cases hjm : (j : Int) < md
            · by_cases ht : z % md = rk
              · have ht' : (z % md != rk) = false := by simp [ht]
                have hdj : decide ((j : Int) < md) = true := by simp [hjm]
                have hne : ((j : Int) == md) = false := by simp; omega
                have HT := Lib.hid ht
                clear ht
                obtain ⟨f1, f2⟩ := HF.out z j hsk hjm HT.out
                have HF1 := Lib.hid f1
                have HF2 := Lib.hid f2
                clear f1 f2
                have k2 : (S : Int).tdiv (Int.gcd (S : Int) md : Int) = (S : Int) / (Int.gcd (S : Int) md : Int) := Int.tdiv_eq_ediv_of_nonneg (by omega)
                have k3 : IntKind.i64.wrap ((S : Int) / (Int.gcd (S : Int) md : Int)) = (S : Int) / (Int.gcd (S : Int) md : Int) := IntWalk.i64_in _ (by omega)
                have k4 : IntKind.i64.wrap ((S : Int) / (Int.gcd (S : Int) md : Int) * md) = (S : Int) / (Int.gcd (S : Int) md : Int) * md := IntWalk.i64_in _ (by omega)
                have k5 : ¬ (S : Int) = 0 := by omega
                go_wp2
                go_quiet (fail)
                go_wp2
                go_quiet ((go_at_call 20; first | exact quiet_left (c_RGcd 101 _ _ _ (by omega) (by omega) (by omega) (by omega) (by omega)) | exact quiet_add_left (c_RGcd 101 _ _ _ (by omega) (by omega) (by omega) (by omega) (by omega))))
                clear k2 k3 k4
                go_wp2
                go_roundw
                case rel => exact ⟨s, k + 1, z, S', by have := HTK.out; omega, rfl, HF1.out, z1, HF2.out, HS'.out, rfl, by rw [HP.out], _, rfl⟩
                case measure => simp [intOf]
              · have ht' : (z % md != rk) = true := by simp [ht]
                have hdj : decide ((j : Int) < md) = true := by simp [hjm]
                have hsk' := seek_next hsk ht
                have HT := Lib.hid ht
                clear ht
                go_wp2
                go_quiet (fail)
                go_wp2
                go_roundw
                case rel => exact ⟨j + 1, z + S, by omega, by omega, by omega, rfl, by go_num, hsk', _, rfl⟩
                case measure => simp [intOf]; omega
            · have hjm' : md = (j : Int) := by omega
              have hdj : decide ((j : Int) < md) = false := by simp; omega
              have hne : ((j : Int) == md) = true := by simp; omega
              have HL := HN.out z j hsk (by omega)
              have HL' := Lib.hid HL
              have HJ := Lib.hid hjm'
              clear HL hjm'
              go_wp2
              go_quiet (fail)
              go_wp2
              go_ret3
              exact ⟨.inr ⟨HL'.out, rfl⟩, _, rfl⟩
theorem refP_of {e : Ending} (h1 : r.length = m.length) (h2 : m.length = nr) (h : RefP r.reverse m.reverse nr e) : RefP r m nr e := by
  subst h2
  unfold RefP at *
  rw [stp_reverse] at h
  rcases h with ⟨y, hy, he⟩ | ⟨hn, he⟩
  · exact .inl ⟨y, (sol_reverse r m h1 y).1 hy, he⟩
  · exact .inr ⟨fun y hy => hn y ((sol_reverse r m h1 y).2 hy), he⟩
end
end Go.Proofs.YtpamlngkhjnboaaDoor