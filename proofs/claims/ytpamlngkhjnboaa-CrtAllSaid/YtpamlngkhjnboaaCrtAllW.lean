/- The walk of the statement CrtAll: the law returns true for all arguments. -/
import Derived.Test.YtpamlngkhjnboaaCrt
import Derived.BigQuiet
import Derived.Deep.QuietTactic
namespace Go.Proofs.Ytpamlngkhjnboaa
open Go.RowKit

/-- What a number leaves by the first k moduli. -/
def leaves (n : Int) (m : List Int) (k : Nat) : List Int := (List.range k).map fun i => n % nth m i
/-- The product of the first k moduli. -/
def prodk (m : List Int) : Nat → Nat
  | 0 => 1
  | k + 1 => prodk m k * (nth m k).toNat
theorem leaves_len (n : Int) (m : List Int) (k : Nat) : (leaves n m k).length = k := by simp [leaves]
theorem leaves_succ (n : Int) (m : List Int) (k : Nat) : leaves n m (k + 1) = leaves n m k ++ [n % nth m k] := by simp [leaves, List.range_succ]
theorem leaves_nth (n : Int) (m : List Int) (k j : Nat) (h : j < k) : nth (leaves n m k) j = n % nth m j := by
  show ((List.range k).map fun i => n % nth m i).getD j 0 = _
  simp [List.getD, h]
theorem leaves_sol (n : Int) (m : List Int) (k : Nat) : Sol (leaves n m k) m k n := fun i hi => (leaves_nth n m k i hi).symm
theorem allB_nth {L : List Int} {lo hi : Int} (h : allB L lo hi = true) {k : Nat} (hk : k < L.length) : lo ≤ nth L k ∧ nth L k ≤ hi := by
  rw [allB_not] at h
  exact anyB_false (by simpa using h) _ (nth_mem hk)
theorem leaves_ok (n : Int) (m : List Int) (h : m.length ≤ 5) (ha : allB m 1 100 = true) : CrtOk (leaves n m m.length) m := by
  refine ⟨h, leaves_len _ _ _, fun k hk => ?_⟩
  obtain ⟨h1, h2⟩ := allB_nth ha hk
  rw [leaves_nth n m _ k hk]
  have := Int.emod_nonneg n (show nth m k ≠ 0 by omega)
  have := Int.emod_lt_of_pos n (show 0 < nth m k by omega)
  exact ⟨h1, h2, by omega, by omega⟩
theorem prodk_le {m : List Int} (ha : allB m 1 100 = true) : ∀ k, k ≤ m.length → 0 < prodk m k ∧ prodk m k ≤ 100 ^ k := by
  intro k
  induction k with
  | zero => intro _; exact ⟨Nat.one_pos, Nat.le_refl _⟩
  | succ k ih =>
    intro hk
    obtain ⟨h1, h2⟩ := allB_nth ha (show k < m.length by omega)
    obtain ⟨i1, i2⟩ := ih (by omega)
    exact ⟨Nat.mul_pos i1 (by omega), by rw [Nat.pow_succ]; exact Nat.mul_le_mul i2 (by omega)⟩
theorem prodk_bd {m : List Int} (h5 : m.length ≤ 5) (ha : allB m 1 100 = true) (k : Nat) (hk : k ≤ m.length) : 0 < prodk m k ∧ prodk m k ≤ 10000000000 := by
  obtain ⟨h1, h2⟩ := prodk_le ha k hk
  exact ⟨h1, Nat.le_trans h2 (Nat.le_trans (Nat.pow_le_pow_right (by omega) (show k ≤ 5 by omega)) (by decide))⟩
theorem prodk_stp {m : List Int} {k : Nat} (h : prodk m k = stp m k) (h1 : 1 ≤ nth m k) (hg : (Int.gcd (prodk m k) (nth m k) : Int) = 1) : prodk m (k + 1) = stp m (k + 1) := by
  show prodk m k * (nth m k).toNat = Nat.lcm (stp m k) (nth m k).toNat
  obtain ⟨d, hd⟩ := Int.eq_ofNat_of_zero_le (show 0 ≤ nth m k by omega)
  rw [hd] at hg ⊢
  have hg' : Nat.gcd (prodk m k) d = 1 := by
    have : Int.gcd (prodk m k : Int) (d : Int) = Nat.gcd (prodk m k) d := rfl
    omega
  rw [Int.toNat_natCast]
  unfold Nat.lcm
  rw [← h, hg', Nat.div_one]

/-- All that a round wants to know. -/
theorem all_round (m : List Int) (n : Int) (h5 : m.length ≤ 5) (ha : allB m 1 100 = true) {k P : Nat} (hk : k < m.length) (hP : P = prodk m k) (g : Bool) (hG : g = true → prodk m k = stp m k) :
    ∃ md : Int, Hid (md = nth m k) ∧ 1 ≤ md ∧ md ≤ 100 ∧ 0 < P ∧ P ≤ 10000000000 ∧ 0 ≤ (P : Int) * md ∧ (P : Int) * md ≤ 10000000000 ∧ 0 ≤ n % md ∧ n % md < 100 ∧ Hid ((P : Int) * md = (prodk m (k + 1) : Int)) ∧ Hid (leaves n m k ++ [n % md] = leaves n m (k + 1)) ∧
      Hid (g = true → (Int.gcd (P : Int) md : Int) = 1 → prodk m (k + 1) = stp m (k + 1)) := by
  subst hP
  obtain ⟨h1, h2⟩ := allB_nth ha hk
  obtain ⟨p1, p2⟩ := prodk_bd h5 ha k (by omega)
  obtain ⟨q1, q2⟩ := prodk_bd h5 ha (k + 1) (by omega)
  have e : (prodk m k : Int) * nth m k = (prodk m (k + 1) : Int) := by
    show _ = ((prodk m k * (nth m k).toNat : Nat) : Int)
    rw [Int.natCast_mul, Int.toNat_of_nonneg (by omega)]
  have := Int.emod_nonneg n (show nth m k ≠ 0 by omega)
  have := Int.emod_lt_of_pos n (show 0 < nth m k by omega)
  exact ⟨nth m k, rfl, h1, h2, p1, p2, by omega, by omega, by omega, by omega, e, (leaves_succ n m k).symm, fun hg hgcd => prodk_stp (hG hg) h1 hgcd⟩
section
variable (A : Option Addr) (nm c : Nat) (m : List Int) (n : Int) (w : World)
theorem all_long (h : 5 < nm) :
    Calls Try.prog 5 #[.slice A nm c, .int .i64 n] w fun e w' => e = .returned (.bool true) ∧ Below w.heap.size w w' := by
  go_enter Try.func5, Try.ntmps5
  go_wp2_with (go_at_call 10; refine (c_crtFact _).mono ?_; rintro e w1 ⟨rfl, hb1⟩)
  go_ret
  exact ⟨rfl, hb1⟩
theorem all_out (hm : Rd w w.heap.size A nm m) (h : nm ≤ 5) (hb : allB m 1 100 = false ∨ allB m 1 100 = true ∧ inB n 0 1000000 = false) :
    Calls Try.prog 5 #[.slice A nm c, .int .i64 n] w fun e w' => e = .returned (.bool true) ∧ Below w.heap.size w w' := by
  rcases hb with hb | ⟨hb, hb'⟩
  · go_enter Try.func5, Try.ntmps5
    go_wp2_with (first | (go_at_call 10; refine (c_crtFact _).mono ?_; rintro e w1 ⟨rfl, hb1⟩) | (go_at_call 13; refine (c_All _ _ _ m _ _ _ _ (hm.below hb1) (by omega)).mono ?_; rintro e w' ⟨rfl, rfl⟩))
    go_ret
    exact ⟨rfl, hb1⟩
  · go_enter Try.func5, Try.ntmps5
    go_wp2_with (first | (go_at_call 10; refine (c_crtFact _).mono ?_; rintro e w1 ⟨rfl, hb1⟩) | (go_at_call 13; refine (c_All _ _ _ m _ _ _ _ (hm.below hb1) (by omega)).mono ?_; rintro e w' ⟨rfl, rfl⟩) | (go_at_call 12; refine (c_in _ _ _ _).mono ?_; rintro e w' ⟨rfl, rfl⟩))
    go_ret
    exact ⟨rfl, hb1⟩

set_option maxHeartbeats 1000000 in
theorem all_in (hm : Rd w w.heap.size A nm m) (h : nm ≤ 5) (hb : allB m 1 100 = true) (hn1 : 0 ≤ n) (hn2 : n ≤ 1000000) :
    Calls Try.prog 5 #[.slice A nm c, .int .i64 n] w fun e w' => e = .returned (.bool true) ∧ Below w.heap.size w w' := by
  have hlm := Lib.hid hm.1
  have hi : inB n 0 1000000 = true := by unfold inB; simp; omega
  have HA := Lib.hid hb
  go_enter Try.func5, Try.ntmps5
  go_wp2_with (first | (go_at_call 10; refine (c_crtFact _).mono ?_; rintro e w1 ⟨rfl, hb1⟩) | (go_at_call 13; refine (c_All _ _ _ m _ _ _ _ (hm.below hb1) (by omega)).mono ?_; rintro e w' ⟨rfl, rfl⟩) | (go_at_call 12; refine (c_in _ _ _ _).mono ?_; rintro e w' ⟨rfl, rfl⟩))
  clear hb
  go_loopw [6, 7, 8, 9] (fun v p t i wr => ∃ (k : Nat) (A' : Option Addr) (c' : Nat) (g : Bool) (P : Nat), k ≤ nm ∧ i = .int .i64 k ∧ v = .slice A' k c' ∧ Own wr w1.heap.size A' k c' (leaves n m k) ∧ Below w1.heap.size w1 wr ∧ Hid (P = prodk m k) ∧ p = .int .i64 (P : Int) ∧ t = .bool g ∧ Hid (g = true → prodk m k = stp m k)) (fun _ _ _ i _ => nm - (intOf i).toNat)
  case atStart => exact ⟨0, none, 0, true, 1, Nat.zero_le _, rfl, rfl, Own.nil _ _, Below.refl _ _, rfl, rfl, rfl, fun _ => rfl⟩
  case round =>
    obtain ⟨k, A', c', g, P, hk, rfl, rfl, hown, hbw, HP, rfl, rfl, HG⟩ := hrel
    by_cases hlt : k < nm
    · have hmr := ((hm.below hb1).below (hbw.mono hb1.size))
      obtain ⟨b, off, rfl, hbB, hc⟩ := hmr.at' hlt
      obtain ⟨md, HM, g1, g2, p1, p2, p3, p4, r1, r2, HE, HL, HN⟩ := all_round m n (by rw [hlm.out]; exact h) HA.out (by rw [hlm.out]; exact hlt) HP.out g HG.out
      rw [← HM.out] at hc
      clear hmr
      have hsz := hb1.size
      have key : (g = false) ∨ (g = true ∧ ((Int.gcd (P : Int) md : Int) == 1) = true) ∨ (g = true ∧ ((Int.gcd (P : Int) md : Int) == 1) = false) := by
        cases g
        · exact .inl rfl
        · cases ((Int.gcd (P : Int) md : Int) == 1)
          · exact .inr (.inr ⟨rfl, rfl⟩)
          · exact .inr (.inl ⟨rfl, rfl⟩)
      go_wp2_with (at_builtin; refine wp_push rfl (.tmp 35) (.tmp 42) rfl w1.heap.size rfl rfl hown (by omega) hbw.size ?_)
      intro A2 c2 w2 hown2 hb2
      have hc2 : w2.cell? ⟨b, off + k, none⟩ = some (.int .i64 md) := (hb2.cell (p := ⟨b, off + k, none⟩) (by show b < w1.heap.size; omega)).trans hc
      rw [HL.out] at hown2
      clear hc hown
      rcases key with rfl | ⟨rfl, kg⟩ | ⟨rfl, kg⟩
      · go_wp2
        go_roundw
        case rel => exact ⟨k + 1, A2, c2, false, prodk m (k + 1), by omega, by go_num, rfl, hown2, hbw.trans hb2, rfl, by rw [HE.out], rfl, (fun h => by cases h)⟩
        case measure => simp [intOf]; omega
      · go_wp2_with (go_at_call 14; refine (c_RGcd 101 _ _ _ (by omega) (by omega) (by omega) (by omega) (by omega)).mono ?_; rintro e w' ⟨rfl, rfl⟩)
        go_roundw
        case rel => exact ⟨k + 1, A2, c2, true, prodk m (k + 1), by omega, by go_num, rfl, hown2, hbw.trans hb2, rfl, by rw [HE.out], rfl, (fun _ => HN.out trivial (by simpa using kg))⟩
        case measure => simp [intOf]; omega
      · go_wp2_with (go_at_call 14; refine (c_RGcd 101 _ _ _ (by omega) (by omega) (by omega) (by omega) (by omega)).mono ?_; rintro e w' ⟨rfl, rfl⟩)
        go_roundw
        case rel => exact ⟨k + 1, A2, c2, false, prodk m (k + 1), by omega, by go_num, rfl, hown2, hbw.trans hb2, rfl, by rw [HE.out], rfl, (fun h => by cases h)⟩
        case measure => simp [intOf]; omega
    · obtain rfl : k = nm := by omega
      have hok : Hid (CrtOk (leaves n m k) m) := by
        have := leaves_ok n m (by rw [hlm.out]; exact h) HA.out
        rw [hlm.out] at this; exact this
      obtain ⟨s1, s2⟩ := stp_bd hok.out k (by rw [hlm.out]; omega)
      have hsz := hb1.size
      go_wp2_with fail
      refine (crt_solve_any _ _ _ _ _ (leaves n m k) m wr.heap.size _ hown.rd (((hm.below hb1).below (hbw.mono hb1.size)).more (by have := hbw.size; omega)) hok.out).mono ?_
      rintro e w2 ⟨⟨y, hy, rfl⟩ | ⟨hno, rfl⟩, q, rfl⟩
      · have he : y % (stp m k : Int) = n % (stp m k : Int) := (sol_iff hok.out k (by rw [hlm.out]; omega) n (leaves_sol n m k) y).1 hy
        rw [he]
        have HPG : Hid (g = true → P = stp m k) := fun hg => by rw [HP.out]; exact HG.out hg
        have e1 : (n % (stp m k : Int) != n % (stp m k : Int)) = false := by simp
        have HY := Lib.hid he
        clear hy he
        obtain ⟨S, hS⟩ : ∃ S, S = stp m k := ⟨_, rfl⟩
        rw [← hS] at s1 s2 HPG e1 ⊢
        clear hS HY
        have hbe : Below w.heap.size w (wr.drewN q) := below_drewN (hb1.trans (hbw.mono hb1.size)) q
        cases g
        · go_wp2
          go_ret
          exact ⟨rfl, hbe⟩
        · obtain rfl : P = S := HPG.out rfl
          go_wp2
          go_ret
          exact ⟨ret_bool (by simp), hbe⟩
      · exact absurd (leaves_sol n m k) (hno n)
end
theorem frame_CrtAll (A : Option Addr) (nm c : Nat) (m : List Int) (n : Int) (w : World) (hm : Rd w w.heap.size A nm m) (_ : nm ≤ 9223372036854775807) (_ : ∀ x ∈ m, Fits x) (_ : Fits n) :
    Calls Try.prog 5 #[.slice A nm c, .int .i64 n] w fun e w' => e = .returned (.bool true) ∧ Below w.heap.size w w' := by
  by_cases h : 5 < nm
  · exact all_long A nm c n w h
  · cases hb : allB m 1 100
    · exact all_out A nm c m n w hm (by omega) (.inl hb)
    · cases hi : inB n 0 1000000
      · exact all_out A nm c m n w hm (by omega) (.inr ⟨hb, hi⟩)
      · unfold inB at hi
        simp at hi
        exact all_in A nm c m n w hm (by omega) hb hi.1 hi.2
end Go.Proofs.Ytpamlngkhjnboaa
