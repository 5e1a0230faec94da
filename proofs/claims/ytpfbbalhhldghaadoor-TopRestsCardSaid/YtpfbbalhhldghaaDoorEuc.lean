/- The contracts of package euclid. An error is 'api.Errno' number 1 (ErrRange). -/
import Derived.Test.YtpfbbalhhldghaaDoorNum
import Derived.Test.YtpfbbalhhldghaaDoorEucM
import Derived.Test.YtpfbbalhhldghaaDoorMem
import Derived.BigQuiet
import Derived.Deep.QuietTactic
namespace Go.Proofs.YtpfbbalhhldghaaDoor
open Go.RowKit

theorem any_two' {a b lo hi : Int} (h : lo ≤ a ∧ a ≤ hi ∧ lo ≤ b ∧ b ≤ hi) : anyB [a, b] lo hi = false :=
  anyB_false_of (by intro n hn; simp at hn; omega)
theorem any_two'_not {a b lo hi : Int} (h : ¬ (lo ≤ a ∧ a ≤ hi ∧ lo ≤ b ∧ b ≤ hi)) : anyB [a, b] lo hi = true := by
  cases e : anyB [a, b] lo hi
  · have := anyB_false e
    have h1 := this a (by simp)
    have h2 := this b (by simp)
    omega
  · rfl
theorem rd_two' (w : World) (a b : Int) (t : TypeId) : Rd (w.alloc (.cells #[.int .i64 a, .int .i64 b] t)) (w.heap.size + 1) (some ⟨w.heap.size, 0, none⟩) 2 [a, b] := by
  refine ⟨rfl, fun _ => ⟨_, _, rfl, by omega, fun j hj => ?_⟩⟩
  match j, hj with
  | 0, _ => simp [nth]
  | 1, _ => simp [nth]

theorem mod_fin (n m : Int) : (n.tmod m + m) % m = n % m := by
  rw [Int.tmod_def, show n - m * n.tdiv m + m = n + m * (1 - n.tdiv m) by grind, Int.add_mul_emod_self_left]
theorem tmod_bd {n m : Int} (hm : 0 < m) : -m < n.tmod m ∧ n.tmod m < m := by
  have h1 := Int.natAbs_tmod n m
  have h2 := Nat.mod_lt n.natAbs (show 0 < m.natAbs by omega)
  omega
theorem c_Mod (n m : Int) (w : World) (h1 : -4611686018427387904 ≤ n) (h2 : n ≤ 4611686018427387904) (h3 : 0 < m) (h4 : m ≤ 4611686018427387904) :
    Calls Tryd.prog 41 #[.int .i64 n, .int .i64 m] w fun e w' => e = .returned (.int .i64 (n % m)) ∧ w = w' := by
  have hm : ¬ m = 0 := by omega
  have b := tmod_bd (n := n) h3
  have hf := Lib.hid (mod_fin n m)
  by_cases h : 0 ≤ n
  · have e : n.tmod m = n % m := Int.tmod_eq_emod_of_nonneg h
    rw [e] at hf b
    clear e
    go_enter Tryd.func41, Tryd.ntmps41
    go_wp2
    go_ret
    exact ⟨ret_int hf.out, rfl⟩
  · go_enter Tryd.func41, Tryd.ntmps41
    go_wp2
    go_ret
    exact ⟨ret_int (by rw [← Int.add_emod_right]; exact hf.out), rfl⟩
theorem c_sign (n : Int) (w : World) :
    Calls Tryd.prog 29 #[.int .i64 n] w fun e w' => e = .returned (.int .i64 n.sign) ∧ w = w' := by
  rcases Int.lt_trichotomy n 0 with h | h | h
  · have e := Lib.hid (Int.sign_eq_neg_one_of_neg h)
    go_enter Tryd.func29, Tryd.ntmps29
    go_wp2
    go_ret
    exact ⟨ret_int e.out.symm, rfl⟩
  · subst h
    go_enter Tryd.func29, Tryd.ntmps29
    go_wp2
    go_ret
    exact ⟨rfl, rfl⟩
  · have e := Lib.hid (Int.sign_eq_one_of_pos h)
    go_enter Tryd.func29, Tryd.ntmps29
    go_wp2
    go_ret
    exact ⟨ret_int e.out.symm, rfl⟩
theorem c_EGcd_ok (a b : Int) (w : World) (h : -1000000 ≤ a ∧ a ≤ 1000000 ∧ -1000000 ≤ b ∧ b ≤ 1000000) :
    Calls Tryd.prog 8 #[.int .i64 a, .int .i64 b] w fun e w' => e = .returned (.tuple #[.int .i64 (Int.gcd a b : Nat), .nilIface]) ∧ Below w.heap.size w w' := by
  have hf := any_two' h
  go_enter Tryd.func8, Tryd.ntmps8
  go_wp2_with fail
  refine (c_Any _ 2 2 [a, b] (-1000000) 1000000 _ _ (rd_two' w a b _) (by omega)).mono ?_
  rintro e w' ⟨rfl, rfl⟩
  go_wp2_with fail
  refine (c_Gcd _ _ _ (by omega) (by omega) (by omega) (by omega)).mono ?_
  rintro e w' ⟨rfl, q, rfl⟩
  go_wp2
  go_ret2
  exact ⟨rfl, below_drewN (by go_grown) q⟩
theorem c_EGcd_bad (a b : Int) (w : World) (h : ¬ (-1000000 ≤ a ∧ a ≤ 1000000 ∧ -1000000 ≤ b ∧ b ≤ 1000000)) :
    Calls Tryd.prog 8 #[.int .i64 a, .int .i64 b] w fun e w' => e = .returned (.tuple #[.int .i64 0, .iface 58 (.int .i64 1)]) ∧ Below w.heap.size w w' := by
  have hf := any_two'_not h
  clear h
  go_enter Tryd.func8, Tryd.ntmps8
  go_wp2_with fail
  refine (c_Any _ 2 2 [a, b] (-1000000) 1000000 _ _ (rd_two' w a b _) (by omega)).mono ?_
  rintro e w' ⟨rfl, rfl⟩
  go_wp2
  go_ret2
  exact ⟨rfl, by go_grown⟩

theorem results_tmp4 {fn : Func} {t u v x : Tmp} (h : fn.results = #[.tmp t, .tmp u, .tmp v, .tmp x]) (tmps : Array Value) (P : Program) (w : World) :
    (results fn tmps).run P w = .ok (.tuple #[tmps.getD t undef, tmps.getD u undef, tmps.getD v undef, tmps.getD x undef]) w := by
  simp [results, h]
/-- One step of the inverse: what is kept. (Sign g, |x| = X, |y| = Y.) -/
theorem inv_step {m r s X Y : Nat} (h : X * s + Y * r = m) (hs : 0 < s) : Y * (r % s) + (X + r / s * Y) * s = m ∧ X + r / s * Y ≤ m ∧ r / s * Y ≤ m := by
  have d := Nat.div_add_mod r s
  have e : Y * (r % s) + (X + r / s * Y) * s = m := by
    rw [← h]
    conv => rhs; rw [← d]
    grind
  have h1 : (X + r / s * Y) * 1 ≤ (X + r / s * Y) * s := Nat.mul_le_mul_left _ hs
  refine ⟨e, by omega, by omega⟩
theorem dvd_step {m : Int} {a x y r s q : Int} (h1 : m ∣ a * x - r) (h2 : m ∣ a * y - s) : m ∣ a * (x - q * y) - (r - q * s) := by
  obtain ⟨u, hu⟩ := h1
  obtain ⟨v, hv⟩ := h2
  exact ⟨u - q * v, by rw [show a * (x - q * y) - (r - q * s) = (a * x - r) - q * (a * y - s) by grind, hu, hv]; grind⟩
/-- What the loop of the inverse keeps. -/
def InvOk (a : Int) (m r s : Nat) (x y : Int) : Prop :=
  ∃ X Y : Nat, (x = X ∧ y = -(Y : Int) ∨ x = -(X : Int) ∧ y = Y) ∧ X * s + Y * r = m ∧ X ≤ m ∧ Y ≤ m ∧ Nat.gcd r s = 1 ∧ (m : Int) ∣ a * x - r ∧ (m : Int) ∣ a * y - s
theorem inv_start {a : Int} {m s : Nat} (h3 : 1 ≤ m) (hg : Int.gcd a m = 1) (hs : (s : Int) = a % m) : InvOk a m m s 0 1 := by
  refine ⟨0, 1, .inr ⟨rfl, rfl⟩, by omega, by omega, by omega, ?_, ⟨-1, by omega⟩, ?_⟩
  · have : Int.gcd (m : Int) (a % m) = Int.gcd (m : Int) a := by
      have e := Int.mul_ediv_add_emod a m
      rw [show a % m = a - m * (a / m) by omega, Int.gcd_sub_mul_left_right]
    rw [← hs, Int.gcd_comm (m : Int) a, hg] at this
    exact this
  · rw [hs]
    exact ⟨a / m, by have := Int.mul_ediv_add_emod a m; omega⟩
theorem inv_next {a : Int} {m r s : Nat} {x y : Int} (h : InvOk a m r s x y) (hs : 0 < s) : InvOk a m s (r % s) y (x - (r / s : Nat) * y) := by
  obtain ⟨X, Y, hxy, h1, hX, hY, hg, d1, d2⟩ := h
  obtain ⟨e1, e2, _⟩ := inv_step h1 hs
  refine ⟨Y, X + r / s * Y, ?_, e1, hY, e2, ?_, d2, ?_⟩
  · rcases hxy with ⟨rfl, rfl⟩ | ⟨rfl, rfl⟩
    · right; refine ⟨rfl, ?_⟩; push_cast; grind
    · left; refine ⟨rfl, ?_⟩; push_cast; grind
  · rw [Nat.gcd_comm, ← Nat.gcd_rec, Nat.gcd_comm]; exact hg
  · have := dvd_step (q := ((r / s : Nat) : Int)) d1 d2
    have e : ((r % s : Nat) : Int) = r - (r / s : Nat) * s := by
      have := Nat.div_add_mod r s
      have h2 : ((s * (r / s) + r % s : Nat) : Int) = r := by rw [this]
      rw [Int.natCast_add, Int.natCast_mul] at h2
      rw [Int.mul_comm ((r / s : Nat) : Int)]
      omega
    rw [e]; exact this
theorem inv_bd {a : Int} {m r s : Nat} {x y : Int} (h : InvOk a m r s x y) (hm : m ≤ 1000000) (hr : r ≤ 1000000) : -1000000 ≤ x ∧ x ≤ 1000000 ∧ -1000000 ≤ y ∧ y ≤ 1000000 ∧ -1000000000000 ≤ (r / s : Nat) * y ∧ (r / s : Nat) * y ≤ 1000000000000 := by
  obtain ⟨X, Y, hxy, _, hX, hY, _⟩ := h
  have b : r / s * Y ≤ 1000000 * 1000000 := Nat.mul_le_mul (Nat.le_trans (Nat.div_le_self r s) hr) (Nat.le_trans hY hm)
  have b' : ((r / s : Nat) : Int) * (Y : Int) ≤ 1000000000000 := by rw [← Int.natCast_mul]; omega
  have b0 : 0 ≤ ((r / s : Nat) : Int) * (Y : Int) := by rw [← Int.natCast_mul]; omega
  rcases hxy with ⟨rfl, rfl⟩ | ⟨rfl, rfl⟩
  · rw [Int.mul_neg]; omega
  · omega
theorem inv_end {a : Int} {m r : Nat} {x y : Int} (h : InvOk a m r 0 x y) : (m : Int) ∣ a * (x % m) - 1 := by
  obtain ⟨X, Y, _, _, _, _, hg, d1, _⟩ := h
  rw [Nat.gcd_zero_right] at hg
  subst hg
  obtain ⟨u, hu⟩ := d1
  have e := Int.mul_ediv_add_emod x m
  refine ⟨u - a * (x / m), ?_⟩
  have : x % m = x - m * (x / m) := by omega
  rw [this]
  have hu' : a * x - 1 = m * u := hu
  rw [Int.mul_sub, Int.mul_sub, ← hu']
  grind
/-- There is an inverse, and one alone. -/
theorem inv_ex {a : Int} {m : Nat} (hm : 1 ≤ m) (k : Nat) : ∀ (r s : Nat) (x y : Int), s < k → InvOk a m r s x y → ∃ z : Int, 0 ≤ z ∧ z < m ∧ (m : Int) ∣ a * z - 1 := by
  induction k with
  | zero => intro r s x y h; omega
  | succ k ih =>
    intro r s x y hk h
    by_cases h0 : s = 0
    · subst h0
      exact ⟨x % m, Int.emod_nonneg x (by omega), Int.emod_lt_of_pos x (by omega), inv_end h⟩
    · have := Nat.mod_lt r (show 0 < s by omega)
      exact ih s (r % s) y _ (by omega) (inv_next h (by omega))
theorem inv_has {a : Int} {m : Nat} (hm : 1 ≤ m) (hg : Int.gcd a m = 1) : ∃ z : Int, 0 ≤ z ∧ z < m ∧ (m : Int) ∣ a * z - 1 := by
  have h := Int.emod_nonneg a (show (m : Int) ≠ 0 by omega)
  exact inv_ex hm ((a % m).toNat + 1) _ _ _ _ (by omega) (inv_start hm hg (show (((a % m).toNat : Nat) : Int) = a % m by omega))
theorem lt_dvd {m : Nat} {d : Int} (h1 : -(m : Int) < d) (h2 : d < m) (h : (m : Int) ∣ d) : d = 0 := by
  obtain ⟨k, rfl⟩ := h
  rcases Int.lt_trichotomy k 0 with hk | hk | hk
  · have := Int.mul_le_mul_of_nonneg_left (show k ≤ -1 by omega) (show (0 : Int) ≤ m by omega); omega
  · subst hk; simp
  · have := Int.mul_le_mul_of_nonneg_left (show 1 ≤ k by omega) (show (0 : Int) ≤ m by omega); omega
theorem inv_one {a : Int} {m : Nat} (hg : Int.gcd a m = 1) {x z : Int} (hx : 0 ≤ x ∧ x < m ∧ (m : Int) ∣ a * x - 1) (hz : 0 ≤ z ∧ z < m ∧ (m : Int) ∣ a * z - 1) : x = z := by
  have h : (m : Int) ∣ a * (x - z) := by
    have := Int.dvd_sub hx.2.2 hz.2.2
    rw [show a * x - 1 - (a * z - 1) = a * (x - z) by grind] at this
    exact this
  have := lt_dvd (by omega) (by omega) (dvd_cop h (by rw [Int.gcd_comm]; exact hg))
  omega
set_option maxHeartbeats 1000000 in
theorem c_inverse (a : Int) (m : Nat) (w : World) (h1 : -1000000 ≤ a) (h2 : a ≤ 1000000) (h3 : 1 ≤ m) (h4 : m ≤ 1000000) (hg : Int.gcd a m = 1) :
    Calls Tryd.prog 30 #[.int .i64 a, .int .i64 m] w fun e w' => ∃ x : Int, e = .returned (.int .i64 x) ∧ (0 ≤ x ∧ x < m ∧ (m : Int) ∣ a * x - 1) ∧ w = w' := by
  obtain ⟨s0, hs0⟩ : ∃ s0 : Nat, (s0 : Int) = a % m := ⟨(a % m).toNat, by have := Int.emod_nonneg a (show (m : Int) ≠ 0 by omega); omega⟩
  have hs1 : s0 < m := by have := Int.emod_lt_of_pos a (show (0 : Int) < (m : Int) by omega); omega
  have G := Lib.hid (inv_start h3 hg hs0)
  have M : Calls Tryd.prog 41 #[.int .i64 a, .int .i64 m] w fun e w' => e = .returned (.int .i64 s0) ∧ w = w' := by
    rw [hs0]; exact c_Mod _ _ _ (by omega) (by omega) (by omega) (by omega)
  have HM := Lib.hid M
  clear hg hs0 M
  go_enter Tryd.func30, Tryd.ntmps30
  go_wp2_with (go_at_call 41; refine (HM.out).mono ?_; rintro e w' ⟨rfl, rfl⟩)
  go_loop [5, 6, 7, 8] (fun u v p q => ∃ (r s : Nat) (x y : Int), r ≤ 1000000 ∧ s ≤ 1000000 ∧ u = .int .i64 r ∧ v = .int .i64 s ∧ p = .int .i64 x ∧ q = .int .i64 y ∧ Hid (InvOk a m r s x y)) (fun _ v _ _ => (intOf v).toNat)
  case atStart => exact ⟨m, s0, 0, 1, h4, by omega, rfl, rfl, rfl, rfl, G.out⟩
  case round =>
    obtain ⟨r, s, x, y, hr, hs, rfl, rfl, rfl, rfl, HI⟩ := hrel
    obtain ⟨b1, b2, b3, b4, b5, b6⟩ := inv_bd HI.out h4 hr
    by_cases h0 : s = 0
    · subst h0
      have E := Lib.hid (inv_end HI.out)
      have e1 := Int.emod_nonneg x (show (m : Int) ≠ 0 by omega)
      have e2 := Int.emod_lt_of_pos x (show (0 : Int) < (m : Int) by omega)
      have E1 := Lib.hid e1
      have E2 := Lib.hid e2
      clear e1 e2
      go_wp2_with (go_at_call 41; refine (c_Mod _ _ _ (by omega) (by omega) (by omega) (by omega)).mono ?_; rintro e w' ⟨rfl, rfl⟩)
      go_ret
      exact ⟨_, rfl, ⟨E1.out, E2.out, E.out⟩, rfl⟩
    · have hs0 : 0 < s := by omega
      have N := Lib.hid (inv_next HI.out hs0)
      have d := Nat.div_add_mod r s
      have hm := Nat.mod_lt r hs0
      have hq := Nat.div_le_self r s
      obtain ⟨q, hqe⟩ : ∃ q : Nat, q = r / s := ⟨_, rfl⟩
      obtain ⟨t, hte⟩ : ∃ t : Nat, t = r % s := ⟨_, rfl⟩
      have hq' : (r : Int) / (s : Int) = (q : Int) := by rw [hqe]; simp
      rw [← hqe, ← hte] at d
      rw [← hqe] at b5 b6 hq N
      rw [← hte] at hm N
      have d' : (q : Int) * (s : Int) + (t : Int) = (r : Int) := by rw [← d]; simp [Int.mul_comm]
      have p1 : (q : Int) * (s : Int) = (r : Int) - (t : Int) := by omega
      have hs0' : ¬ (s : Int) = 0 := by omega
      clear d d' hqe hte
      go_wp2
      go_round
      case rel => exact ⟨s, t, y, x - q * y, by omega, by omega, rfl, by go_num, rfl, rfl, N.out⟩
      case measure => simp [intOf]; omega
theorem c_inverse_at (a : Int) (m : Nat) (z : Int) (w : World) (h1 : -1000000 ≤ a) (h2 : a ≤ 1000000) (h3 : 1 ≤ m) (h4 : m ≤ 1000000) (hg : Int.gcd a m = 1) (hz : 0 ≤ z ∧ z < m ∧ (m : Int) ∣ a * z - 1) :
    Calls Tryd.prog 30 #[.int .i64 a, .int .i64 m] w fun e w' => e = .returned (.int .i64 z) ∧ w = w' :=
  (c_inverse a m w h1 h2 h3 h4 hg).mono fun e w' ⟨x, he, hx, hw⟩ => ⟨by rw [he, inv_one hg hx hz], hw⟩
theorem gcd_small {a b : Int} (ha : -1000000 ≤ a) (ha2 : a ≤ 1000000) (hb : -1000000 ≤ b) (hb2 : b ≤ 1000000) : Int.gcd a b ≤ 1000000 := by
  by_cases h : b = 0
  · subst h; rw [Int.gcd_zero_right]; omega
  · have : Int.gcd a b ≤ b.natAbs := Nat.le_of_dvd (by omega) (Int.gcd_dvd_natAbs_right a b)
    omega
set_option maxHeartbeats 1000000 in
theorem c_Bezout_ok (a b : Int) (w : World) (h : -1000000 ≤ a ∧ a ≤ 1000000 ∧ -1000000 ≤ b ∧ b ≤ 1000000) :
    Calls Tryd.prog 10 #[.int .i64 a, .int .i64 b] w fun e w' => (∃ x y : Int, e = .returned (.tuple #[.int .i64 (Int.gcd a b : Nat), .int .i64 x, .int .i64 y, .nilIface]) ∧ BezOk a b x y) ∧ Below w.heap.size w w' := by
  have hf := any_two' h
  by_cases hb : b = 0
  · subst hb
    have B := Lib.hid (show BezOk a 0 a.sign 0 from ⟨fun _ => ⟨rfl, rfl⟩, fun h => absurd rfl h⟩)
    go_enter Tryd.func10, Tryd.ntmps10
    go_wp2_with fail
    refine (c_Any _ 2 2 [a, 0] (-1000000) 1000000 _ _ (rd_two' w a 0 _) (by omega)).mono ?_
    rintro e w' ⟨rfl, rfl⟩
    go_wp2_with fail
    refine (c_Gcd _ _ _ (by omega) (by omega) (by omega) (by omega)).mono ?_
    rintro e w' ⟨rfl, q, rfl⟩
    go_wp2_with fail
    refine (c_sign _ _).mono ?_
    rintro e w' ⟨rfl, rfl⟩
    go_wp2
    refine bodyPost_ret (results_tmp4 rfl _ _ _) rfl ?_
    exact ⟨⟨a.sign, 0, by rw [Int.gcd_zero_right]; rfl, B.out⟩, below_drewN (by go_grown) q⟩
  · obtain ⟨g, u, v, eg, g0, ea, eb, huv, hv, hm, hu⟩ := gcd_parts a b hb
    have gs := gcd_small h.1 h.2.1 h.2.2.1 h.2.2.2
    have FIN : Hid (∀ x : Int, 0 ≤ x → x < v.natAbs → v ∣ u * x - 1 → BezOk a b x ((g - a * x).tdiv b)) := fun x h1 h2 h3 => bez_fin eg ea eb hb hm h1 h2 h3
    have hvb : v.natAbs ≤ 1000000 := by
      have : b.natAbs / Int.gcd a b ≤ b.natAbs := Nat.div_le_self _ _
      omega
    have hub : -1000000 ≤ u ∧ u ≤ 1000000 := by
      have h1 : (a.tdiv g).natAbs = a.natAbs / g.natAbs := Int.natAbs_tdiv a g
      have h2 := Nat.div_le_self a.natAbs g.natAbs
      rw [hu] at h1
      generalize a.natAbs / g.natAbs = z at *
      omega
    have hv0 : ((b.natAbs : Int)).tdiv g = v.natAbs := by
      rw [← hm, eg]; rfl
    obtain ⟨m, em⟩ : ∃ m : Nat, m = v.natAbs := ⟨_, rfl⟩
    have hcop : Int.gcd u (m : Int) = 1 := by rw [em]; simpa [Int.gcd] using huv
    have hm1 : 1 ≤ m := by omega
    have hm2 : m ≤ 1000000 := by omega
    have DV : Hid (∀ x : Int, (m : Int) ∣ u * x - 1 → v ∣ u * x - 1) := fun x hd => by rw [em] at hd; exact Int.natAbs_dvd.1 hd
    rw [← em] at hv0 FIN
    have q1 : (b.natAbs : Int) / g = m := by rw [← hv0]; exact (Int.tdiv_eq_ediv_of_nonneg (by omega)).symm
    have E : Hid (g = (Int.gcd a b : Nat)) := eg
    have hg1 : g ≤ 1000000 := by omega
    have hgz : ¬ g = 0 := by omega
    clear ea eb huv hv hm hv0 em
    go_enter Tryd.func10, Tryd.ntmps10
    go_wp2_with fail
    refine (c_Any _ 2 2 [a, b] (-1000000) 1000000 _ _ (rd_two' w a b _) (by omega)).mono ?_
    rintro e w' ⟨rfl, rfl⟩
    go_wp2_with fail
    refine (c_Gcd _ _ _ (by omega) (by omega) (by omega) (by omega)).mono ?_
    rintro e w' ⟨rfl, q, rfl⟩
    rw [← eg]
    clear eg
    go_wp2_with (go_at_call 31; refine (c_Abs _ _ (by omega) (by omega)).mono ?_; rintro e w' ⟨rfl, rfl⟩)
    obtain ⟨x, hx⟩ := inv_has hm1 hcop
    have BZ := FIN.out x hx.1 hx.2.1 (DV.out x hx.2.2)
    have X0 := hx.1
    have X1 := hx.2.1
    have HB := Lib.hid BZ
    have HX := Lib.hid hx
    have HC := Lib.hid hcop
    have ax := Int.mul_le_mul (show a.natAbs ≤ (1000000 : Int) by omega) (show x ≤ 1000000 by omega) X0 (by omega)
    have ax2 : -1000000000000 ≤ a * x ∧ a * x ≤ 1000000000000 := by
      have : (a * x).natAbs = a.natAbs * x.natAbs := Int.natAbs_mul _ _
      have h2 := Nat.mul_le_mul (show a.natAbs ≤ 1000000 by omega) (show x.natAbs ≤ 1000000 by omega)
      omega
    have bd := bez_bd BZ hb
    clear BZ hx hcop FIN DV ax
    go_wp2_with fail
    go_quiet (first | (go_at_call 31; first | exact quiet_left (c_Abs _ _ (by omega) (by omega)) | exact quiet_add_left (c_Abs _ _ (by omega) (by omega))) | (go_at_call 30; first | exact quiet_left (c_inverse_at u m x _ hub.1 hub.2 hm1 hm2 HC.out HX.out) | exact quiet_add_left (c_inverse_at u m x _ hub.1 hub.2 hm1 hm2 HC.out HX.out)))
    go_wp2
    obtain ⟨b1, b2, b3, b4⟩ := bd
    have e1 : IntKind.i64.wrap (a * x) = a * x := IntWalk.i64_in _ (by omega)
    have e2 : IntKind.i64.wrap (g - a * x) = g - a * x := IntWalk.i64_in _ (by omega)
    have e3 : IntKind.i64.wrap ((g - a * x).tdiv b) = (g - a * x).tdiv b := IntWalk.i64_in _ (by omega)
    go_quiet (fail)
    clear e1 e2 e3
    go_wp2
    refine bodyPost_ret (results_tmp4 rfl _ _ _) rfl ?_
    rw [← E.out]
    exact ⟨⟨x, _, rfl, HB.out⟩, below_drewN (below_drewN (below_drewN (by go_grown) _) _) _⟩
end Go.Proofs.YtpfbbalhhldghaaDoor
