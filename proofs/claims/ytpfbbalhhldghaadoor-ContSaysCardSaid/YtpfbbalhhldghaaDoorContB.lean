/- The contracts of package cont: convergents. -/
import Derived.Test.YtpfbbalhhldghaaDoorContP
import Derived.BigRegion
namespace Go.Proofs.YtpfbbalhhldghaaDoor
open Go.RowKit

set_option maxHeartbeats 4000000 in
theorem c_convergents (A : Option Addr) (n c : Nat) (L : List Int) (B : Nat) (w : World) (hL : Rd w B A n L) (hB : B ≤ w.heap.size) (hT : TOk L) :
    Calls Tryd.prog 38 #[.slice A n c] w fun e w' => ((CfAll L n ∧ ∃ A' c', e = .returned (.tuple #[.slice A' n c', .bool true]) ∧ OwnF w' w.heap.size A' n c' (cfs L n)) ∨ (¬ CfAll L n ∧ e = .returned (.tuple #[.slice none 0 0, .bool false]))) ∧ Below w.heap.size w w' := by
  have HL := Lib.hid hL
  have hn30 : n ≤ 30 := by rw [← hL.1]; exact hT.2.1
  have HT := Lib.hid hT
  have HLn := Lib.hid hL.1
  obtain ⟨W, hW⟩ : ∃ W, W = w.heap.size := ⟨_, rfl⟩
  clear hL hT
  go_enter Tryd.func38, Tryd.ntmps38
  go_wp2
  rw [← hW]
  have HW := Lib.hid hW
  clear hW
  go_loopw [4, 13] (fun o i wr => ∃ (A' : Option Addr) (c' k : Nat), k ≤ n ∧ i = .int .i64 k ∧ o = .slice A' k c' ∧ Hid (OwnF wr (W + 2) A' k c' (cfs L k)) ∧ Hid (∀ j, 1 ≤ j → j ≤ k → cp L j ≤ 1000000 ∧ cq L j ≤ 1000000) ∧
      wr.cell? ⟨W, 0, none⟩ = some (.int .i64 (cp' L k)) ∧ wr.cell? ⟨W, 1, none⟩ = some (.int .i64 (cq' L k)) ∧ wr.cell? ⟨W + 1, 0, none⟩ = some (.int .i64 (cp L k)) ∧ wr.cell? ⟨W + 1, 1, none⟩ = some (.int .i64 (cq L k)) ∧
      wr.frozen? ⟨W, 0, none⟩ = false ∧ wr.frozen? ⟨W, 1, none⟩ = false ∧ wr.frozen? ⟨W + 1, 0, none⟩ = false ∧ wr.frozen? ⟨W + 1, 1, none⟩ = false ∧ W + 2 ≤ wr.heap.size ∧ Below w.heap.size w wr) (fun _ i _ => n - (intOf i).toNat)
  case atStart =>
    have hW := HW.out
    subst hW
    exact ⟨none, 0, 0, Nat.zero_le _, rfl, rfl, OwnF.nil _ _, fun j h1 h2 => absurd h1 (by omega), by simp [cp'_zero], by simp [cq'_zero], by simp [cp_zero], by simp [cq_zero], by simp, by simp, by simp, by simp, by simp, by go_grown⟩
  case round =>
    obtain ⟨A', c', k, hk, rfl, rfl, HO, HA, m1, m2, m3, m4, f1, f2, f3, f4, hsz, hbr⟩ := hrel
    by_cases hlt : k < n
    · obtain ⟨⟨t1, t2⟩, ⟨p1, p2⟩, ⟨q1, q2⟩, ⟨r1, r2⟩, s1, s2⟩ := cv_small HT.out HLn.out hlt HA.out
      obtain ⟨b, off, rfl, hc⟩ := (HL.out.keep fun p hp => hbr.cell (by omega)).at_ hlt
      have E1 := Lib.hid (cp_succ L k)
      have E2 := Lib.hid (cq_succ L k)
      have E3 := Lib.hid (cp'_succ L k)
      have E4 := Lib.hid (cq'_succ L k)
      have E5 := Lib.hid (cfs_succ L k)
      obtain ⟨t, ht⟩ : ∃ t, t = nth L k := ⟨_, rfl⟩
      obtain ⟨p, hp⟩ : ∃ p, p = cp L k := ⟨_, rfl⟩
      obtain ⟨p', hp'⟩ : ∃ p', p' = cp' L k := ⟨_, rfl⟩
      obtain ⟨q, hq⟩ : ∃ q, q = cq L k := ⟨_, rfl⟩
      obtain ⟨q', hq'⟩ : ∃ q', q' = cq' L k := ⟨_, rfl⟩
      rw [← ht] at t1 t2 hc E1 E2
      rw [← hp] at p1 p2 m3 E1 E3
      rw [← hp'] at q1 q2 m1 E1
      rw [← hq] at r1 r2 m4 E2 E4
      rw [← hq'] at s1 s2 m2 E2
      clear ht hp hp' hq hq'
      obtain ⟨d1, d2⟩ := term_bd ⟨t1, t2⟩ ⟨p1, p2⟩
      obtain ⟨d3, d4⟩ := term_bd ⟨t1, t2⟩ ⟨r1, r2⟩
      go_wp2
      go_region
      obtain ⟨w5, hw5⟩ : ∃ w5, w5 = ((((wr.setCell ⟨W, 0, none⟩ (.int .i64 p)).setCell ⟨W, 1, none⟩ (.int .i64 q)).setCell ⟨W + 1, 0, none⟩ (.int .i64 (t * p + p'))).setCell ⟨W + 1, 1, none⟩ (.int .i64 (t * q + q'))).drew := ⟨_, rfl⟩
      rw [← hw5]
      obtain ⟨o5, ⟨n1, n2⟩, ⟨n3, n4⟩, ⟨g1, g2, g3, g4⟩, hs5, hb5⟩ := store4 HW.out HO.out ⟨m1, m2⟩ ⟨m3, m4⟩ ⟨f1, f2, f3, f4⟩ hsz hbr rfl hw5
      have O5 := Lib.hid o5
      clear hw5 o5 HO m1 m2 m3 m4 f1 f2 f3 f4 hsz hbr hc
      by_cases hP : 1000000 < t * p + p'
      · have HN : Hid (¬ CfAll L n) := fun h => by have := (h (k + 1) (by omega) (by omega)).1; rw [E1.out] at this; omega
        go_wp2
        go_ret2
        exact ⟨.inr ⟨HN.out, rfl⟩, hb5⟩
      · by_cases hQ : 1000000 < t * q + q'
        · have HN : Hid (¬ CfAll L n) := fun h => by have := (h (k + 1) (by omega) (by omega)).2; rw [E2.out] at this; omega
          go_wp2
          go_ret2
          exact ⟨.inr ⟨HN.out, rfl⟩, hb5⟩
        · have HA' : Hid (∀ j, 1 ≤ j → j ≤ k + 1 → cp L j ≤ 1000000 ∧ cq L j ≤ 1000000) := fun j h1 h2 => by
            by_cases e : j = k + 1
            · subst e; rw [E1.out, E2.out]; omega
            · exact HA.out j h1 (by omega)
          have hk6 : k ≤ 1000000 := by omega
          clear HA
          go_wp2_with (at_builtin; refine wp_pushF (z := (t * p + p', t * q + q')) rfl (.tmp 41) (.tmp 43) rfl (W + 2) rfl rfl O5.out hk6 hs5 ?_)
          intro A6 c6 w6 o6 hb6
          have h6 := hb6.size
          have O6 : Hid (OwnF w6 (W + 2) A6 (k + 1) c6 (cfs L (k + 1))) := by rw [Hid, ← E5.out, E1.out, E2.out]; exact o6
          have B6 : Hid (Below w.heap.size w w6) := hb5.trans (hb6.mono (by rw [← HW.out]; omega))
          have m1 := (hb6.cell (p := ⟨W, 0, none⟩) (by show W < W + 2; omega)).trans n1
          have m2 := (hb6.cell (p := ⟨W, 1, none⟩) (by show W < W + 2; omega)).trans n2
          have m3 := (hb6.cell (p := ⟨W + 1, 0, none⟩) (by show W + 1 < W + 2; omega)).trans n3
          have m4 := (hb6.cell (p := ⟨W + 1, 1, none⟩) (by show W + 1 < W + 2; omega)).trans n4
          have f1 := (hb6.frozen (p := ⟨W, 0, none⟩) (by show W < W + 2; omega)).trans g1
          have f2 := (hb6.frozen (p := ⟨W, 1, none⟩) (by show W < W + 2; omega)).trans g2
          have f3 := (hb6.frozen (p := ⟨W + 1, 0, none⟩) (by show W + 1 < W + 2; omega)).trans g3
          have f4 := (hb6.frozen (p := ⟨W + 1, 1, none⟩) (by show W + 1 < W + 2; omega)).trans g4
          have s6 : W + 2 ≤ w6.heap.size := by omega
          clear o6 hb6 n1 n2 n3 n4 g1 g2 g3 g4 O5 hb5 hs5
          go_wp2
          go_roundw
          case rel => exact ⟨A6, c6, k + 1, by omega, by go_num, rfl, O6.out, HA'.out, by rw [E3.out]; exact m1, by rw [E4.out]; exact m2, by rw [E1.out]; exact m3, by rw [E2.out]; exact m4, f1, f2, f3, f4, s6, B6.out⟩
          case measure => simp [intOf]; omega
    · obtain rfl : k = n := by omega
      have HC : Hid (CfAll L k) := HA.out
      go_wp2
      go_ret2
      exact ⟨.inl ⟨HC.out, A', c', rfl, HO.out.base_le (by rw [HW.out]; omega)⟩, hbr⟩
end Go.Proofs.YtpfbbalhhldghaaDoor
