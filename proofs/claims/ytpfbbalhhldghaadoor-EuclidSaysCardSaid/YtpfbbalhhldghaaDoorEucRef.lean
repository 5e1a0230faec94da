/- The reference's coefficients and steps: the contracts of rankmereref1's parts, Bezout, Steps. -/
import Derived.Test.YtpfbbalhhldghaaDoorEucS
namespace Go.Proofs.YtpfbbalhhldghaaDoor
open Go.RowKit

/-- How often two numbers from 0 on make their greatest divisor, and how great that is. -/
def PtOk (a b : Nat) (x y : Int) : Prop :=
  (a : Int) * x + (b : Int) * y = (Nat.gcd a b : Nat) ∧ (b = 0 → x = 1 ∧ y = 0) ∧ (b ≠ 0 → -(b : Int) ≤ x ∧ x ≤ b ∧ -(max a 1 : Nat) ≤ y ∧ y ≤ (max a 1 : Nat))
theorem pt_zero (a : Nat) : PtOk a 0 1 0 := ⟨by simp, fun _ => ⟨rfl, rfl⟩, fun h => absurd rfl h⟩
theorem pt_step {a b : Nat} {x y : Int} (hb : b ≠ 0) (h : PtOk b (a % b) x y) : PtOk a b y (x - (a / b : Nat) * y) ∧ -((b : Int) * (a / b : Nat)) ≤ (a / b : Nat) * y ∧ (a / b : Nat) * y ≤ (b : Int) * (a / b : Nat) := by
  obtain ⟨e, h0, h1⟩ := h
  have d := Nat.div_add_mod a b
  have d' : (a : Int) = (b : Int) * (a / b : Nat) + (a % b : Nat) := by
    conv => lhs; rw [← d]
    simp
  have hyb : -(b : Int) ≤ y ∧ y ≤ b := by
    by_cases hm : a % b = 0
    · obtain ⟨_, rfl⟩ := h0 hm; omega
    · obtain ⟨_, _, h3, h4⟩ := h1 hm; omega
  have hq0 : (0 : Int) ≤ ((a / b : Nat) : Int) := by exact Int.natCast_nonneg _
  have m1 := Int.mul_le_mul_of_nonneg_left hyb.2 hq0
  have m2 := Int.mul_le_mul_of_nonneg_left hyb.1 hq0
  rw [Int.mul_comm ((a / b : Nat) : Int) (b : Int)] at m1
  rw [Int.mul_neg, Int.mul_comm ((a / b : Nat) : Int) (b : Int)] at m2
  refine ⟨⟨?_, fun h => absurd h hb, fun _ => ⟨hyb.1, hyb.2, ?_⟩⟩, m2, m1⟩
  · have g : Nat.gcd a b = Nat.gcd b (a % b) := by rw [Nat.gcd_comm a b, Nat.gcd_rec b a, Nat.gcd_comm]
    rw [g, ← e]
    conv => lhs; rw [d']
    grind
  · by_cases hm : a % b = 0
    · obtain ⟨rfl, rfl⟩ := h0 hm
      rw [Int.mul_zero]
      omega
    · obtain ⟨h3, h4, _, _⟩ := h1 hm
      omega
set_option maxHeartbeats 1000000 in
theorem c_RParts (k : Nat) : ∀ (a b : Nat) (w : World), b < k → a ≤ 1000000 → b ≤ 1000000 →
    Calls Tryd.prog 24 #[.int .i64 a, .int .i64 b] w fun e w' => (∃ x y : Int, e = .returned (.tuple #[.int .i64 x, .int .i64 y]) ∧ PtOk a b x y) ∧ ∃ q, w.drewN q = w' := by
  induction k with
  | zero => intro a b w hk; omega
  | succ k ih =>
    intro a b w hk ha hb
    by_cases h0 : b = 0
    · subst h0
      have HP := Lib.hid (pt_zero a)
      go_enter Tryd.func24, Tryd.ntmps24
      go_wp2_with fail
      go_ret2
      exact ⟨⟨1, 0, rfl, HP.out⟩, 0, rfl⟩
    · have e0 : ((b : Int) == 0) = false := by simp; omega
      have hb1 : ¬ (b : Int) = 0 := by omega
      have hm := Nat.mod_lt a (show 0 < b by omega)
      have hq := Nat.div_le_self a b
      have hqb := Nat.mul_div_le a b
      have HS : Hid (∀ x y, PtOk b (a % b) x y → PtOk a b y (x - (a / b : Nat) * y) ∧ -((b : Int) * (a / b : Nat)) ≤ (a / b : Nat) * y ∧ (a / b : Nat) * y ≤ (b : Int) * (a / b : Nat)) := fun x y h => pt_step h0 h
      have HI : Hid (∀ w : World, Calls Tryd.prog 24 #[.int .i64 b, .int .i64 (a % b : Nat)] w fun e w' => (∃ x y : Int, e = .returned (.tuple #[.int .i64 x, .int .i64 y]) ∧ PtOk b (a % b) x y) ∧ ∃ q, w.drewN q = w') := fun w => ih b (a % b) w (by omega) hb (by omega)
      have hz' : (a : Int) % (b : Int) = ((a % b : Nat) : Int) := by simp
      have hq' : (a : Int) / (b : Int) = ((a / b : Nat) : Int) := by simp
      have HQ : Hid (b * (a / b) ≤ a) := hqb
      obtain ⟨r, hr⟩ : ∃ r, r = a % b := ⟨_, rfl⟩
      obtain ⟨t, ht⟩ : ∃ t, t = a / b := ⟨_, rfl⟩
      rw [← hr] at HS HI hz' hm
      rw [← ht] at HS hq' HQ hq
      clear hr ht hqb h0
      go_enter Tryd.func24, Tryd.ntmps24
      go_wp2_with fail
      rw [hz']
      refine (HI.out _).mono ?_
      rintro e w' ⟨⟨x, y, rfl, hp⟩, q, rfl⟩
      obtain ⟨p1, p2, p3⟩ := HS.out x y hp
      have hbt : (b : Int) * (t : Int) ≤ 1000000 := by
        have := HQ.out
        have h2 : ((b * t : Nat) : Int) ≤ 1000000 := by omega
        rw [Int.natCast_mul] at h2; exact h2
      have hx : -1000001 ≤ x ∧ x ≤ 1000001 := by
        obtain ⟨_, h0, h1⟩ := hp
        by_cases hm : r = 0
        · obtain ⟨rfl, _⟩ := h0 hm; omega
        · obtain ⟨h3, h4, _, _⟩ := h1 hm; omega
      have HP := Lib.hid p1
      clear hp p1
      go_wp2
      go_region
      all_goals
        go_wp2
        go_ret2
        exact ⟨⟨y, x - t * y, rfl, HP.out⟩, drews w q 1⟩
/-- The reference's coefficient, made small. -/
theorem rb_fin {a b g u v x y x1 : Int} (hg : g = (Int.gcd a b : Nat)) (g0 : 0 < g) (ha : a = g * u) (hb : b = g * v) (hv : v ≠ 0) (h0 : b ≠ 0) (hm : ((b.natAbs / Int.gcd a b : Nat) : Int) = v.natAbs)
    (hx : (x1 = x ∧ 0 ≤ a) ∨ (x1 = -x ∧ a < 0)) (hp : PtOk a.natAbs b.natAbs x y) : BezOk a b (x1 % v.natAbs) ((g - a * (x1 % v.natAbs)).tdiv b) := by
  have hvp : (0 : Int) < (v.natAbs : Int) := by omega
  refine bez_fin hg ha hb h0 hm (Int.emod_nonneg _ (by omega)) (Int.emod_lt_of_pos _ hvp) ?_
  have e := hp.1
  have e2 : (Nat.gcd a.natAbs b.natAbs : Int) = g := by rw [hg]; rfl
  rw [e2] at e
  have e3 : a * x1 + (b.natAbs : Int) * y = g := by
    rcases hx with ⟨rfl, h⟩ | ⟨rfl, h⟩
    · rw [← e, show (a.natAbs : Int) = a by omega]
    · rw [← e, show (a.natAbs : Int) = -a by omega]; grind
  have e4 : ∃ s : Int, (b.natAbs : Int) = g * (v * s) := by
    rcases Int.natAbs_eq b with h | h
    · exact ⟨1, by rw [← h, hb]; grind⟩
    · exact ⟨-1, by
        have : (b.natAbs : Int) = -b := by omega
        rw [this, hb]; grind⟩
  obtain ⟨s, hs⟩ := e4
  have e5 : u * x1 + v * (s * y) = 1 := by
    have : g * (u * x1 + v * (s * y)) = g * 1 := by
      rw [Int.mul_one]
      conv => rhs; rw [← e3, hs]
      conv => rhs; rw [ha]
      grind
    exact Int.eq_of_mul_eq_mul_left (by omega) this
  have hd : v ∣ (v.natAbs : Int) := Int.dvd_natAbs.2 (Int.dvd_refl v)
  obtain ⟨t, ht⟩ := hd
  have em := Int.mul_ediv_add_emod x1 (v.natAbs : Int)
  refine ⟨-(s * y) - u * t * (x1 / (v.natAbs : Int)), ?_⟩
  have : x1 % (v.natAbs : Int) = x1 - (v.natAbs : Int) * (x1 / (v.natAbs : Int)) := by omega
  rw [this]
  have h2 : u * x1 - 1 = -(v * (s * y)) := by omega
  rw [Int.mul_sub]
  have h3 : u * ((v.natAbs : Int) * (x1 / (v.natAbs : Int))) = u * (v * t * (x1 / (v.natAbs : Int))) := by rw [← ht]
  rw [h3]
  have h4 : u * x1 - u * (v * t * (x1 / (v.natAbs : Int))) - 1 = (u * x1 - 1) - u * (v * t * (x1 / (v.natAbs : Int))) := by omega
  rw [h4, h2]
  grind
theorem ntmod_emod {x m : Int} (hm : 0 < m) : (0 ≤ x.tmod m → x.tmod m = x % m) ∧ (x.tmod m < 0 → x.tmod m + m = x % m) := by
  have b := tmod_bd (n := x) hm
  have e := mod_fin x m
  constructor
  · intro h
    have h2 : (x.tmod m + m) % m = x.tmod m := by rw [Int.add_emod_right, Int.emod_eq_of_lt h b.2]
    omega
  · intro h
    have h2 : (x.tmod m + m) % m = x.tmod m + m := Int.emod_eq_of_lt (by omega) (by omega)
    omega
set_option maxHeartbeats 2000000 in
theorem c_RBezout (a b : Int) (w : World) (h : -1000000 ≤ a ∧ a ≤ 1000000 ∧ -1000000 ≤ b ∧ b ≤ 1000000) :
    Calls Tryd.prog 7 #[.int .i64 a, .int .i64 b] w fun e w' => (∃ x y : Int, e = .returned (.tuple #[.int .i64 (Int.gcd a b : Nat), .int .i64 x, .int .i64 y]) ∧ BezOk a b x y) ∧ ∃ q, w.drewN q = w' := by
  have GE : Hid (∀ w : World, Calls Tryd.prog 23 #[.int .i64 a, .int .i64 b] w fun e w' => e = .returned (.int .i64 (Int.gcd a b : Nat)) ∧ w = w') := fun w => c_RGcd (b.natAbs + 1) a b w (by omega) (by omega) (by omega) (by omega) (by omega)
  by_cases hb : b = 0
  · subst hb
    have B := Lib.hid (show BezOk a 0 a.sign 0 from ⟨fun _ => ⟨rfl, rfl⟩, fun h => absurd rfl h⟩)
    rcases Int.lt_trichotomy a 0 with h0 | h0 | h0
    · have e1 := Lib.hid (Int.sign_eq_neg_one_of_neg h0)
      go_enter Tryd.func7, Tryd.ntmps7
      go_wp2_with fail
      refine (GE.out _).mono ?_
      rintro e w' ⟨rfl, rfl⟩
      go_wp2
      go_ret3
      exact ⟨⟨-1, 0, by first | rfl | (rw [Int.gcd_zero_right]; rfl), by rw [← e1.out]; exact B.out⟩, 0, rfl⟩
    · subst h0
      go_enter Tryd.func7, Tryd.ntmps7
      go_wp2_with fail
      refine (GE.out _).mono ?_
      rintro e w' ⟨rfl, rfl⟩
      go_wp2
      go_ret3
      exact ⟨⟨0, 0, rfl, B.out⟩, 0, rfl⟩
    · have e1 := Lib.hid (Int.sign_eq_one_of_pos h0)
      go_enter Tryd.func7, Tryd.ntmps7
      go_wp2_with fail
      refine (GE.out _).mono ?_
      rintro e w' ⟨rfl, rfl⟩
      go_wp2
      go_ret3
      exact ⟨⟨1, 0, by first | rfl | (rw [Int.gcd_zero_right]; rfl), by rw [← e1.out]; exact B.out⟩, 0, rfl⟩
  · obtain ⟨g, u, v, eg, g0, ea, eb, huv, hv, hm, hu⟩ := gcd_parts a b hb
    have gs := gcd_small h.1 h.2.1 h.2.2.1 h.2.2.2
    have FIN : Hid (∀ x y x1 : Int, ((x1 = x ∧ 0 ≤ a) ∨ (x1 = -x ∧ a < 0)) → PtOk a.natAbs b.natAbs x y → BezOk a b (x1 % v.natAbs) ((g - a * (x1 % v.natAbs)).tdiv b)) := fun x y x1 h1 h2 => rb_fin eg g0 ea eb hv hb hm h1 h2
    have hv0 : ((b.natAbs : Int)).tdiv g = v.natAbs := by
      rw [← hm, eg]; rfl
    have hvb : v.natAbs ≤ 1000000 := by
      have : b.natAbs / Int.gcd a b ≤ b.natAbs := Nat.div_le_self _ _
      omega
    obtain ⟨m, em⟩ : ∃ m : Nat, m = v.natAbs := ⟨_, rfl⟩
    have hm1 : 0 < (m : Int) := by omega
    have hm2 : m ≤ 1000000 := by omega
    rw [← em] at hv0 FIN
    have q1 : (b.natAbs : Int) / g = m := by rw [← hv0]; exact (Int.tdiv_eq_ediv_of_nonneg (by omega)).symm
    have E : Hid (g = (Int.gcd a b : Nat)) := eg
    have hg1 : g ≤ 1000000 := by omega
    have hgz : ¬ g = 0 := by omega
    have hmz : ¬ (m : Int) = 0 := by omega
    have GE' : Hid (∀ w : World, Calls Tryd.prog 23 #[.int .i64 a, .int .i64 b] w fun e w' => e = .returned (.int .i64 g) ∧ w = w') := by rw [eg]; exact GE
    have b0 : (b == 0) = false := by simp [hb]
    clear ea eb huv hv hm hv0 em eg hvb hu GE gs
    go_enter Tryd.func7, Tryd.ntmps7
    go_wp2_with fail
    refine (GE'.out _).mono ?_
    rintro e w' ⟨rfl, rfl⟩
    go_wp2_with (go_at_call 25; refine (c_RAbs _ _ (by omega) (by omega)).mono ?_; rintro e w' ⟨rfl, rfl⟩)
    refine (c_RParts (b.natAbs + 1) a.natAbs b.natAbs _ (by omega) (by omega) (by omega)).mono ?_
    rintro e w' ⟨⟨x, y, rfl, hp⟩, q, rfl⟩
    have hx : -1000000 ≤ x ∧ x ≤ 1000000 := by
      obtain ⟨_, _, h1⟩ := hp
      have := h1 (by omega)
      omega
    have HP := Lib.hid hp
    clear hp
    have hxa : ∃ x1 : Int, -1000000 ≤ x1 ∧ x1 ≤ 1000000 ∧ ((x1 = x ∧ 0 ≤ a) ∨ (x1 = -x ∧ a < 0)) := by
      by_cases ha : a < 0
      · exact ⟨-x, by omega, by omega, .inr ⟨rfl, ha⟩⟩
      · exact ⟨x, by omega, by omega, .inl ⟨rfl, by omega⟩⟩
    obtain ⟨x1, x1a, x1b, hx1⟩ := hxa
    have HF := Lib.hid (FIN.out x y x1 hx1 HP.out)
    have bd := bez_bd HF.out hb
    obtain ⟨t1, t2⟩ := ntmod_emod (x := x1) hm1
    obtain ⟨tb1, tb2⟩ := tmod_bd (n := x1) hm1
    have ax2 : -1000000000000 ≤ a * (x1 % (m : Int)) ∧ a * (x1 % (m : Int)) ≤ 1000000000000 := by
      have e0 := Int.emod_nonneg x1 hmz
      have e1 := Int.emod_lt_of_pos x1 hm1
      have : (a * (x1 % (m : Int))).natAbs = a.natAbs * (x1 % (m : Int)).natAbs := Int.natAbs_mul _ _
      have h2 := Nat.mul_le_mul (show a.natAbs ≤ 1000000 by omega) (show (x1 % (m : Int)).natAbs ≤ 1000000 by omega)
      omega
    obtain ⟨z, hz⟩ : ∃ z, z = x1 % (m : Int) := ⟨_, rfl⟩
    rw [← hz] at t1 t2 HF bd ax2
    obtain ⟨bd1, bd2, bd3, bd4⟩ := bd
    have e1 : IntKind.i64.wrap (a * z) = a * z := IntWalk.i64_in _ (by omega)
    have e2 : IntKind.i64.wrap (g - a * z) = g - a * z := IntWalk.i64_in _ (by omega)
    have e3 : IntKind.i64.wrap ((g - a * z).tdiv b) = (g - a * z).tdiv b := IntWalk.i64_in _ (by omega)
    have hab : a ≤ 0 ∨ 0 ≤ a := by omega
    rcases hx1 with ⟨hxx, ha⟩ | ⟨hxx, ha⟩
    · clear hz
      subst hxx
      by_cases hr : x1.tmod (m : Int) < 0
      · have t3 := t2 hr
        clear t1 t2
        go_wp2_with (go_at_call 25; refine (c_RAbs _ _ (by omega) (by omega)).mono ?_; rintro e w' ⟨rfl, rfl⟩)
        go_quiet (fail)
        clear e1 e2 e3
        go_wp2
        go_ret3
        rw [← E.out]
        exact ⟨⟨z, _, rfl, HF.out⟩, drews _ _ _⟩
      · have t3 := t1 (by omega)
        clear t1 t2
        go_wp2_with (go_at_call 25; refine (c_RAbs _ _ (by omega) (by omega)).mono ?_; rintro e w' ⟨rfl, rfl⟩)
        go_quiet (fail)
        clear e1 e2 e3
        go_wp2
        go_ret3
        rw [← E.out]
        exact ⟨⟨z, _, rfl, HF.out⟩, drews _ _ _⟩
    · clear hz
      have hxx' : -x = x1 := hxx.symm
      clear hxx
      by_cases hr : x1.tmod (m : Int) < 0
      · have t3 := t2 hr
        clear t1 t2
        go_wp2_with (go_at_call 25; refine (c_RAbs _ _ (by omega) (by omega)).mono ?_; rintro e w' ⟨rfl, rfl⟩)
        go_quiet (fail)
        clear e1 e2 e3
        go_wp2
        go_ret3
        rw [← E.out]
        exact ⟨⟨z, _, rfl, HF.out⟩, drews _ _ _⟩
      · have t3 := t1 (by omega)
        clear t1 t2
        go_wp2_with (go_at_call 25; refine (c_RAbs _ _ (by omega) (by omega)).mono ?_; rintro e w' ⟨rfl, rfl⟩)
        go_quiet (fail)
        clear e1 e2 e3
        go_wp2
        go_ret3
        rw [← E.out]
        exact ⟨⟨z, _, rfl, HF.out⟩, drews _ _ _⟩
end Go.Proofs.YtpfbbalhhldghaaDoor
