/- The contract of det.of over three rows of three. -/
import Derived.Test.YtcbpkjmmacgmfaaDet
namespace Go.Proofs.Ytcbpkjmmacgmfaa
open Go.RowKit

/-- All numbers lie in the field. -/
def RG (L : Nat → List Int) : Prop := ∀ i, i < 3 → ∀ j, j < 3 → 0 ≤ nth (L i) j ∧ nth (L i) j < 9973
theorem RG.congr {L L' : Nat → List Int} (h : RG L) (e : ∀ i, i < 3 → L' i = L i) : RG L' := fun i hi j hj => by rw [e i hi]; exact h i hi j hj
theorem RG.el {L : Nat → List Int} (h : RG L) (c : Nat) (v : Int) (k : Nat) : RG (EL L c v k) := fun i hi j hj => by
  unfold EL
  split
  · rw [row3_nth _ hj]; omega
  · exact h i hi j hj
theorem RG.sw {L : Nat → List Int} (h : RG L) {i k : Nat} (hi : i < 3) (hk : k < 3) : RG (sw i k L) := fun a ha j hj => by
  unfold Go.Proofs.Ytcbpkjmmacgmfaa.sw
  split
  · exact h k hk j hj
  · split
    · exact h i hi j hj
    · exact h a ha j hj
theorem det_next {T x x1 : Int} {L L1 : Nat → List Int} {cc t : Nat} (hL : RG L) (hx : 0 ≤ x ∧ x < 9973) (hc : cc < 3) (h1 : cc ≤ t) (ht : t < 3) (hT : T % 9973 = x * tr cc L % 9973) (h : (cc = t ∧ L1 = L ∧ x1 = x) ∨ (cc ≠ t ∧ L1 = sw cc t L ∧ x1 = (-x) % 9973)) :
    RG L1 ∧ (0 ≤ x1 ∧ x1 < 9973) ∧ nth (L1 cc) cc = nth (L t) cc ∧ T % 9973 = x1 * tr cc L1 % 9973 := by
  rcases h with ⟨rfl, rfl, rfl⟩ | ⟨hne, rfl, rfl⟩
  · exact ⟨hL, hx, rfl, hT⟩
  · refine ⟨hL.sw hc ht, by omega, ?_, ?_⟩
    · have : sw cc t L cc = L t := by unfold sw; rw [if_pos rfl]
      rw [this]
    · rw [tr_swap L (by omega) ht, emod_mul, Int.neg_mul_neg]; exact hT
theorem det_step {T x1 v : Int} {L1 : Nat → List Int} {cc : Nat} (hc : cc < 3) (hT : T % 9973 = x1 * tr cc L1 % 9973) (hv : nth (L1 cc) cc * v % 9973 = 1) : T % 9973 = (x1 * nth (L1 cc) cc % 9973) * tr (cc + 1) (EL L1 cc v 3) % 9973 := by
  rw [emod_mul, hT, ← mul_emod', tr_step hc hv, mul_emod', Int.mul_assoc]
theorem det_zero {T x : Int} {L : Nat → List Int} {cc : Nat} (hc : cc < 3) (hT : T % 9973 = x * tr cc L % 9973) (h : ∀ t, cc ≤ t → t < 3 → nth (L t) cc = 0) : (0 : Int) = T % 9973 := by
  rw [hT, tr_zero hc h]; simp
theorem det_end {T x : Int} {L : Nat → List Int} (hx : 0 ≤ x ∧ x < 9973) (hT : T % 9973 = x * tr 3 L % 9973) : x = T % 9973 := by
  rw [hT, tr3]; omega
/-- The start: the matrix copied, its slice in the box, and 1 come out so far. -/
theorem ds_start {w2 : World} {W G : Nat} {r c : Nat → Nat} {L : Nat → List Int} {u : Value} (HP : PX w2 (W + 1) G 3 r c L) (hb : w2.cell? ⟨W, 0, none⟩ = some u) (t : TypeId) :
    DS ((w2.setCell ⟨W, 0, none⟩ (.slice (some ⟨G, 0, none⟩) 3 3)).alloc (.cells #[.int .i64 1] t)) (W + 1) G W w2.heap.size r c L 1 := by
  have hG := HP.2.2.2.2.2.2
  have hs : W < w2.heap.size := by omega
  have e : (w2.setCell ⟨W, 0, none⟩ (.slice (some ⟨G, 0, none⟩) 3 3)).heap.size = w2.heap.size := World.size_setCell _ _ _
  refine ⟨(HP.off (p := ⟨W, 0, none⟩) (by show W ≠ G; omega) (fun i hi => by have := HP.lt hi; show W ≠ r i; omega) _).alloc _, ?_, ?_, ?_, by omega, by omega, ?_, by omega, fun i hi => by have := (HP.lt hi).2; omega⟩
  · rw [World.cell?_alloc_lt _ _ ⟨W, 0, none⟩ (by rw [e]; exact hs)]
    exact World.cell?_setCell_same _ _ _ (by rw [hb])
  · rw [← e]; generalize w2.setCell ⟨W, 0, none⟩ (.slice (some ⟨G, 0, none⟩) 3 3) = w3; simp
  · rw [← e]; generalize w2.setCell ⟨W, 0, none⟩ (.slice (some ⟨G, 0, none⟩) 3 3) = w3; simp
  · simp
set_option maxHeartbeats 8000000 in
set_option maxRecDepth 100000 in
theorem c_detof (w : World) (base0 G0 : Nat) (r0 c0 : Nat → Nat) (L0 : Nat → List Int) (h : PX w base0 G0 3 r0 c0 L0) (hg : RG L0) :
    Calls Try.prog 24 #[.slice (some ⟨G0, 0, none⟩) 3 3] w fun e w' => e = .returned (.int .i64 (tr 0 L0 % 9973)) ∧ Below w.heap.size w w' := by
  have hmf : ∀ (fn : Fn) (first cap : Array Value) (w : World), (Instr.makeFunc fn first cap).run Try.prog w = .ok (.func fn first cap) w := fun _ _ _ _ => rfl
  obtain ⟨W, hW⟩ : ∃ W, W = w.heap.size := ⟨_, rfl⟩
  obtain ⟨wa, hwa⟩ : ∃ wa, wa = w.alloc (.cells #[.slice (some ⟨G0, 0, none⟩) 3 3] 45) := ⟨_, rfl⟩
  have PA : Hid (PX wa base0 G0 3 r0 c0 L0) := by rw [Hid, hwa]; exact h.alloc _
  have XA : wa.cell? ⟨W, 0, none⟩ = some (.slice (some ⟨G0, 0, none⟩) 3 3) := by rw [hwa, hW]; simp
  have FA : wa.frozen? ⟨W, 0, none⟩ = false := by rw [hwa, hW]; simp
  have SA : wa.heap.size = W + 1 := by rw [hwa, hW]; simp
  have BA : Hid (Below w.heap.size w wa) := by rw [Hid, hwa]; exact (Below.refl _ w).alloc (Nat.le_refl _) _
  have HG0 := Lib.hid hg
  clear h hg
  go_enter Try.func24, Try.ntmps24
  go_wp2_with fail
  rw [← hwa]
  refine (c_MCopy wa base0 G0 r0 c0 L0 PA.out).mono ?_
  rintro e w2 ⟨G, r, c, L, rfl, HP, HL, hb⟩
  rw [SA] at HP hb
  have X2 : w2.cell? ⟨W, 0, none⟩ = some (.slice (some ⟨G0, 0, none⟩) 3 3) := (hb.cell (p := ⟨W, 0, none⟩) (Nat.lt_succ_self W)).trans XA
  have F2 : w2.frozen? ⟨W, 0, none⟩ = false := (hb.frozen (p := ⟨W, 0, none⟩) (Nat.lt_succ_self W)).trans FA
  have hww : w.heap.size ≤ W := by omega
  have hwa' : w.heap.size ≤ wa.heap.size := by omega
  have hw2 : w.heap.size ≤ w2.heap.size := by have := hb.size; omega
  have D0 : Hid (DS ((w2.setCell ⟨W, 0, none⟩ (.slice (some ⟨G, 0, none⟩) 3 3)).alloc (.cells #[.int .i64 1] 3)) (W + 1) G W w2.heap.size r c L 1) := ds_start HP X2 _
  have B0 : Hid (Below w.heap.size w ((w2.setCell ⟨W, 0, none⟩ (.slice (some ⟨G, 0, none⟩) 3 3)).alloc (.cells #[.int .i64 1] 3))) := ((BA.out.trans (hb.mono (by omega))).setCell (p := ⟨W, 0, none⟩) hww _).alloc (by rw [World.size_setCell]; exact hw2) _
  have R0 : Hid (RG L) := HG0.out.congr HL
  have T0 : Hid (tr 0 L0 % 9973 = 1 * tr 0 L % 9973) := by rw [Hid, Int.one_mul, tr_congr HL]
  obtain ⟨Bo, hBo⟩ : ∃ Bo, Bo = w2.heap.size := ⟨_, rfl⟩
  rw [← hBo] at D0
  obtain ⟨T, hT⟩ : ∃ T, T = tr 0 L0 := ⟨_, rfl⟩
  rw [← hT] at T0
  have HT := Lib.hid hT
  have HW := Lib.hid hW
  clear HL HP XA FA SA hb hwa hT HG0 PA BA hwa' hw2
  have X4 := D0.out.2.1
  rw [hW] at X2 F2 X4
  go_wp2
  rw [← hW, ← hBo]
  clear hW hBo X2 F2 X4
  go_loopw [16] (fun i wr => ∃ (n : Nat) (r c : Nat → Nat) (L : Nat → List Int) (x : Int), n ≤ 3 ∧ i = .int .i64 n ∧ Hid (DS wr (W + 1) G W Bo r c L x) ∧ (0 ≤ x ∧ x < 9973) ∧ Hid (RG L) ∧ Hid (T % 9973 = x * tr n L % 9973) ∧ Below w.heap.size w wr) (fun i _ => 3 - (intOf i).toNat)
  case atStart => exact ⟨0, _, _, _, 1, by omega, rfl, D0.out, by omega, R0.out, T0.out, B0.out⟩
  case round =>
    obtain ⟨n, r, c, L, x, hn, rfl, HD, hx, HR, HTT, hbr⟩ := hrel
    by_cases hlt : n < 3
    · obtain ⟨hP, z1, z2, z3, z4, z5, z6, z7, z8⟩ := HD.out
      clear z8
      go_wp2
      go_loop [6] (fun s => ∃ t : Nat, n ≤ t ∧ t ≤ 3 ∧ s = .int .i64 t ∧ Hid (∀ u, n ≤ u → u < t → nth (L u) n = 0)) (fun s => 3 - (intOf s).toNat)
      case atStart => exact ⟨n, Nat.le_refl _, hn, rfl, fun u h1 h2 => absurd h1 (by omega)⟩
      case round =>
        obtain ⟨t, ht1, ht, rfl, HZ⟩ := hrel
        by_cases ht3 : t < 3
        · have y1 := hP.1 t ht3
          have y2 := (hP.2.2.2.1 t ht3).cell hlt
          by_cases hz : nth (L t) n = 0
          · rw [hz] at y2
            have HZ' : Hid (∀ u, n ≤ u → u < t + 1 → nth (L u) n = 0) := fun u h1 h2 => by
              rcases Nat.lt_or_ge u t with h | h
              · exact HZ.out u h1 h
              · obtain rfl : u = t := by omega
                exact hz
            obtain ⟨rt, hrt⟩ : ∃ rt, rt = r t := ⟨_, rfl⟩
            obtain ⟨ct, hct⟩ : ∃ ct, ct = c t := ⟨_, rfl⟩
            rw [← hrt] at y1 y2
            rw [← hct] at y1
            clear hP hz HZ hrt hct
            go_wp2
            go_round
            case rel => exact ⟨t + 1, by omega, by omega, by go_num, HZ'.out⟩
            case measure => simp [intOf]; omega
          · have EX : Hid (Calls Try.prog 29 #[.int .i64 n, .int .i64 t, .pointer (some ⟨W, 0, none⟩), .pointer (some ⟨Bo, 0, none⟩)] wr _) := c_exch wr (W + 1) G W Bo r c L x n t HD.out hx hlt ht3
            have HZN := Lib.hid hz
            obtain ⟨rt, hrt⟩ : ∃ rt, rt = r t := ⟨_, rfl⟩
            obtain ⟨ct, hct⟩ : ∃ ct, ct = c t := ⟨_, rfl⟩
            obtain ⟨a, ha⟩ : ∃ a, a = nth (L t) n := ⟨_, rfl⟩
            rw [← hrt] at y1 y2
            rw [← hct] at y1
            rw [← ha] at y2 hz
            have HA := Lib.hid ha
            have a0 : 0 ≤ a ∧ a < 9973 := by rw [ha]; exact HR.out t ht3 n hlt
            clear hP HZ hrt hct ha
            go_wp2_with fail
            refine EX.out.mono ?_
            rintro e w3 ⟨rfl, ⟨r1, c1, L1, x1, HD1, hor⟩, hb3⟩
            obtain ⟨g1, g2, g3, g4⟩ := det_next HR.out hx hlt ht1 ht3 HTT.out hor
            have hbr3 := hbr.trans (hb3.mono (Nat.le_succ_of_le hww))
            have HD3 := Lib.hid HD1
            obtain ⟨hP1, q1, q2, q3, q4, q5, q6, q7, q8⟩ := HD1
            have m1 := hP1.1 n hlt
            have m2 := (hP1.2.2.2.1 n hlt).cell hlt
            have q9 := q8 n hlt
            have q10 := hP1.2.2.2.2.2.2.1
            rw [g3, ← HA.out] at m2
            obtain ⟨rn, hrn⟩ : ∃ rn, rn = r1 n := ⟨_, rfl⟩
            obtain ⟨cn, hcn⟩ : ∃ cn, cn = c1 n := ⟨_, rfl⟩
            rw [← hrn] at m1 m2 q9
            rw [← hcn] at m1
            have hBW : ¬ Bo = W := by omega
            have hWB : ¬ W = Bo := by omega
            have hGB : ¬ G = Bo := fun e => q7 e.symm
            have hrB : ¬ rn = Bo := fun e => q9 e.symm
            have mb := mul_bB g2 a0
            have W1 : IntKind.i64.wrap (x1 * a) = x1 * a := IntWalk.i64_in _ (by omega)
            have W2 : (x1 * a).tmod 9973 = x1 * a % 9973 := Int.tmod_eq_emod_of_nonneg mb.1
            have W3 : IntKind.i64.wrap (x1 * a % 9973) = x1 * a % 9973 := IntWalk.i64_in _ (by omega)
            have HDy := Lib.hid (HD3.out.drew.out' (x1 * a % 9973))
            have HBy := Lib.hid (hbr3.drew.setCell (p := ⟨Bo, 0, none⟩) (show w.heap.size ≤ Bo by omega) (.int .i64 (x1 * a % 9973)))
            have av : Hid (nth (L1 n) n * pw a 9971 % 9973 = 1) := by rw [Hid, g3, ← HA.out]; exact over_mul a (by omega) a0.2
            have HST := Lib.hid (det_step hlt g4 av.out)
            rw [g3, ← HA.out] at HST
            have G1 := Lib.hid g1
            have f5 : w3.drew.frozen? ⟨Bo, 0, none⟩ = false := q3
            have f6 : w3.drew.cell? ⟨Bo, 0, none⟩ = some (.int .i64 x1) := q2
            have f7 : w3.drew.cell? ⟨W, 0, none⟩ = some (.slice (some ⟨G, 0, none⟩) 3 3) := q1
            have f8 : w3.drew.cell? ⟨G, n, none⟩ = some (.slice (some ⟨rn, 0, none⟩) 3 cn) := m1
            have f9 : w3.drew.cell? ⟨rn, n, none⟩ = some (.int .i64 a) := m2
            clear hP1 q8 hor hrn hcn g1 g3 g4 z1 z2 z3 y1 y2 hb3 hbr hbr3 q9 q10 q7
            go_wp2_with fail
            refine wp_region_still_tail 10 (by kernel_rfl) (by kernel_rfl) ?_
            simp only [List.take_succ_cons, List.take_zero, List.drop_succ_cons, List.drop_zero]
            repeat still_step
            refine wpStill_nil ?_
            change wpList _ _ _ _ _ w3.drew
            obtain ⟨w5, hw5⟩ : ∃ w5, w5 = w3.drew := ⟨_, rfl⟩
            rw [← hw5] at HDy HBy f5 f6 f7 f8 f9 ⊢
            obtain ⟨y, hy⟩ : ∃ y, y = x1 * a % 9973 := ⟨_, rfl⟩
            have yb : 0 ≤ y ∧ y < 9973 := by omega
            rw [← hy] at HDy HBy HST
            rw [← hy]
            clear hw5 q1 q2 q3 m1 m2 mb W1 W2 W3 hy
            go_wp2_with (go_at_call 30; refine (c_Over a _ a0.1 a0.2).mono ?_; rintro e w' ⟨rfl, rfl⟩)
            have vb := pw_bd a 9971
            obtain ⟨v, hv⟩ : ∃ v, v = pw a 9971 := ⟨_, rfl⟩
            rw [← hv] at HST vb
            rw [← hv]
            clear hv av f5 f6 f7 f8 f9
            go_loopw [8] (fun s wr => ∃ k : Nat, n + 1 ≤ k ∧ k ≤ 3 ∧ s = .int .i64 k ∧ Hid (DS wr (W + 1) G W Bo r1 c1 (EL L1 n v k) y) ∧ Below w.heap.size w wr) (fun s _ => 3 - (intOf s).toNat)
            case atStart => exact ⟨n + 1, Nat.le_refl _, by omega, by go_num, HDy.out.congr fun i _ => (EL_start i).symm, HBy.out⟩
            case round =>
              obtain ⟨k, hk1, hk, rfl, HK, hbk⟩ := hrel
              by_cases hk3 : k < 3
              · obtain ⟨kP, u1, u2, u3, u4, u5, u6, u7, u8⟩ := HK.out
                have v1 := kP.1 k hk3
                have vo := kP.2.2.2.1 k hk3
                have v2 := vo.cell hlt
                rw [EL_self k (by omega)] at v2
                have bl : Hid ((L1 k).length = 3) := by have := vo.len; rw [EL_self k (by omega)] at this; exact this
                have HK0 : Hid (DS wr (W + 1) G W Bo r1 c1 (EP L1 n v k 0) y) := HK.out.congr (fun i _ => EP_zero bl.out i)
                have b0 := G1.out k hk3 n hlt
                have HE : Hid (nth (L1 k) n * v % 9973 = elb L1 n v k) := rfl
                obtain ⟨b, hb⟩ : ∃ b, b = nth (L1 k) n := ⟨_, rfl⟩
                rw [← hb] at v2 b0 HE
                obtain ⟨rk, hrk⟩ : ∃ rk, rk = r1 k := ⟨_, rfl⟩
                obtain ⟨ck, hck⟩ : ∃ ck, ck = c1 k := ⟨_, rfl⟩
                rw [← hrk] at v1 v2
                rw [← hck] at v1
                have mb := mul_bB b0 vb
                have W1 : IntKind.i64.wrap (b * v) = b * v := IntWalk.i64_in _ (by omega)
                have W2 : (b * v).tmod 9973 = b * v % 9973 := Int.tmod_eq_emod_of_nonneg mb.1
                have W3 : IntKind.i64.wrap (b * v % 9973) = b * v % 9973 := IntWalk.i64_in _ (by omega)
                have hkn : n ≠ k := by omega
                have hnk : ¬ (n < n ∧ n < k) := by omega
                have hkd : decide ((k : Int) < 3) = true := decide_eq_true (by omega)
                clear kP u8 vo hb hrk hck hlt
                go_wp2
                obtain ⟨d, hd⟩ : ∃ d, d = b * v % 9973 := ⟨_, rfl⟩
                have db : 0 ≤ d ∧ d < 9973 := by omega
                rw [← hd] at HE
                rw [← hd]
                have hn3 : n < 3 := by omega
                clear hd mb W1 W2 W3 v1 v2 hkd
                have hki : (k : Int) < 3 := by omega
                go_loopw [85] (fun s wr => ∃ j : Nat, j ≤ 3 ∧ s = .int .i64 j ∧ Hid (DS wr (W + 1) G W Bo r1 c1 (EP L1 n v k j) y) ∧ Below w.heap.size w wr) (fun s _ => 3 - (intOf s).toNat)
                case atStart => exact ⟨0, by omega, rfl, HK0.out, hbk⟩
                case round =>
                  obtain ⟨j, hj, rfl, HJ, hbj⟩ := hrel
                  by_cases hj3 : j < 3
                  · have HN := Lib.hid (HJ.out.drew.set hk3 j ((nth (L1 k) j - d * nth (L1 n) j) % 9973))
                    have HN2 : Hid (DS (wr.drew.setCell ⟨r1 k, j, none⟩ (.int .i64 ((nth (L1 k) j - d * nth (L1 n) j) % 9973))) (W + 1) G W Bo r1 c1 (EP L1 n v k (j + 1)) y) := by
                      refine HN.out.congr fun i _ => ?_
                      rw [HE.out]
                      exact EP_step hj3 i
                    obtain ⟨jP, t1, t2, t3, t4, t5, t6, t7, t8⟩ := HJ.out
                    have e1 := jP.1 k hk3
                    have e2 := jP.1 n hn3
                    have e3 := (jP.2.2.2.1 k hk3).cell hj3
                    have e4 := (jP.2.2.2.1 n hn3).cell hj3
                    have e5 : wr.drew.frozen? ⟨r1 k, j, none⟩ = false := (jP.2.2.2.1 k hk3).free j
                    have e6 := (jP.lt hk3).1
                    rw [EP_at hj3] at e3
                    have e8 : EP L1 n v k j n = L1 n := by unfold EP; rw [if_neg hkn, EL_self n hnk]
                    rw [e8] at e4
                    have p0 := G1.out k hk3 j hj3
                    have p1 := G1.out n hn3 j hj3
                    have HB2 := Lib.hid (hbj.drew.setCell (p := ⟨r1 k, j, none⟩) (show w.heap.size ≤ r1 k by omega) (.int .i64 ((nth (L1 k) j - d * nth (L1 n) j) % 9973)))
                    obtain ⟨p, hp⟩ : ∃ p, p = nth (L1 k) j := ⟨_, rfl⟩
                    obtain ⟨q, hq⟩ : ∃ q, q = nth (L1 n) j := ⟨_, rfl⟩
                    rw [← hp] at e3 p0 HN2 HB2
                    rw [← hq] at e4 p1 HN2 HB2
                    obtain ⟨rk, hrk⟩ : ∃ rk, rk = r1 k := ⟨_, rfl⟩
                    obtain ⟨ck, hck⟩ : ∃ ck, ck = c1 k := ⟨_, rfl⟩
                    obtain ⟨rn, hrn⟩ : ∃ rn, rn = r1 n := ⟨_, rfl⟩
                    obtain ⟨cn, hcn⟩ : ∃ cn, cn = c1 n := ⟨_, rfl⟩
                    rw [← hrk] at e1 e3 e5 HN2 HB2
                    rw [← hck] at e1
                    rw [← hrn] at e2 e4
                    rw [← hcn] at e2
                    have mb := mul_bB db p1
                    have W1 : IntKind.i64.wrap (d * q) = d * q := IntWalk.i64_in _ (by omega)
                    have W2 : IntKind.i64.wrap (p - d * q) = p - d * q := IntWalk.i64_in _ (by omega)
                    have e9 : wr.drew.cell? ⟨rk, j, none⟩ = some (.int .i64 p) := e3
                    clear jP t8 hp hq hrk hck hrn hcn HN e8 e6 hkn hnk
                    go_wp2_with fail
                    refine wp_region_still_tail 24 (by kernel_rfl) (by kernel_rfl) ?_
                    simp only [List.take_succ_cons, List.take_zero, List.drop_succ_cons, List.drop_zero]
                    repeat still_step
                    still_call ((c_BField _ _ (by omega) (by omega)).mono fun e w'' h => ⟨h.1, h.2.symm⟩)
                    repeat still_step
                    refine wpStill_nil ?_
                    change wpList _ _ _ _ _ wr.drew
                    obtain ⟨w7, hw7⟩ : ∃ w7, w7 = wr.drew := ⟨_, rfl⟩
                    rw [← hw7] at HN2 HB2 e5 e9 ⊢
                    clear hw7 e1 e2 e3 e4 t1 t2 t3
                    go_wp2
                    go_roundw
                    case rel => exact ⟨j + 1, by omega, by go_num, HN2.out, HB2.out⟩
                    case measure => simp [intOf]; omega
                  · obtain rfl : j = 3 := by omega
                    have HK2 : Hid (DS wr (W + 1) G W Bo r1 c1 (EL L1 n v (k + 1)) y) := HJ.out.congr (fun i _ => EP_all (by omega) i)
                    go_wp2
                    go_roundw
                    case rel => exact ⟨k + 1, by omega, by omega, by go_num, HK2.out, hbj⟩
                    case measure => simp [intOf]; omega
              · obtain rfl : k = 3 := by omega
                have R3 : Hid (RG (EL L1 n v 3)) := G1.out.el _ _ _
                obtain ⟨hP1, q1, q2, q3, q4, q5, q6, q7, q8⟩ := HK.out
                clear hP1 q8
                go_wp2
                go_roundw
                case rel => exact ⟨n + 1, r1, c1, _, y, by omega, by go_num, HK.out, yb, R3, HST.out, hbk⟩
                case measure => simp [intOf]; omega
        · obtain rfl : t = 3 := by omega
          have E0 := Lib.hid (det_zero hlt HTT.out HZ.out)
          clear hP
          go_wp2
          go_ret
          exact ⟨ret_int (by rw [← HT.out]; exact E0.out), hbr⟩
    · obtain rfl : n = 3 := by omega
      obtain ⟨hP, z1, z2, z3, z4, z5, z6, z7, z8⟩ := HD.out
      clear hP z8
      have E0 := Lib.hid (det_end hx HTT.out)
      go_wp2
      go_ret
      exact ⟨ret_int (by rw [← HT.out]; exact E0.out), hbr⟩
end Go.Proofs.Ytcbpkjmmacgmfaa
