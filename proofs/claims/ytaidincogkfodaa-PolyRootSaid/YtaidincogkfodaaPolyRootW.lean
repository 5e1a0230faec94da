/- The walk of the statement PolyRoot: the law returns true for all arguments. -/
import Derived.Test.YtaidincogkfodaaPolyR
import Derived.Test.YtaidincogkfodaaViewZ
namespace Go.Proofs.Ytaidincogkfodaa
open Go.RowKit

theorem c_RModN (n : Int) (w : World) (h1 : -9972 ≤ n) (h2 : n ≤ 0) :
    Calls Try.prog 19 #[.int .i64 n] w fun e w' => e = .returned (.int .i64 (n % 9973)) ∧ w = w' := by
  by_cases h0 : n = 0
  · subst h0
    go_enter Try.func19, Try.ntmps19
    go_wp2
    go_ret
    exact ⟨rfl, rfl⟩
  · have e : n.tmod 9973 = n := by
      have := Int.neg_tmod (-n) 9973
      rw [Int.neg_neg] at this
      rw [this, Int.tmod_eq_emod_of_nonneg (by omega)]
      omega
    have hm : Hid (n + 9973 = n % 9973) := by rw [Hid]; omega
    have hlt : n < 0 := by omega
    go_enter Try.func19, Try.ntmps19
    go_wp2
    go_ret
    exact ⟨ret_int hm.out, rfl⟩
/-- What is left of a division by x - r. -/
theorem root_rest {f q rest : List Int} {r s : Int} (hs : s = (-r) % 9973) (hd : DivOk f (trm [s, 1]) q rest) : (pat f r = 0 → rest = []) ∧ (pat f r ≠ 0 → rest = [pat f r]) := by
  obtain ⟨pq, tq, pr, tr, l, e⟩ := hd
  have ht : trm [s, 1] = [s, 1] := trm_id fun _ => (show (1 : Int) ≠ 0 by decide)
  rw [ht] at l e
  have hr1 : rest.length ≤ 1 := by
    have : [s, 1].length = 2 := rfl
    omega
  have hN : 1 ≤ q.length + 2 := by omega
  have hev : pat f r = nth rest 0 := by
    have h1 : pat f r = evn (nth f) (f.length + 2 * (q.length + 2) - 1 + 1) r % 9973 := pat_of (by omega) r
    rw [h1, evn_eqm e, evn_add]
    have h2 : evn (cv (nth q) (nth [s, 1])) (f.length + 2 * (q.length + 2) - 1 + 1) r = evn (nth q) (q.length + 2) r * evn (nth [s, 1]) (q.length + 2) r := by
      rw [← evn_mul hN ((sup_nth q).mono (by omega)) ((sup_nth [s, 1]).mono (by show 2 ≤ _; omega))]
      exact evn_sup ((cv_sup ((sup_nth q).mono (show q.length ≤ q.length + 2 by omega)) ((sup_nth [s, 1]).mono (show 2 ≤ q.length + 2 by omega))).mono (by omega)) (by omega) r
    have h3 : evn (nth [s, 1]) (q.length + 2) r = s + r := by
      rw [evn_sup (n := 2) (sup_nth [s, 1]) (by omega)]
      show 0 + s * r ^ 0 + 1 * r ^ 1 = s + r
      rw [Int.pow_zero, show r ^ 1 = r by rw [Int.pow_succ, Int.pow_zero, Int.one_mul]]
      omega
    have h4 : evn (nth rest) (f.length + 2 * (q.length + 2) - 1 + 1) r = nth rest 0 := by
      rw [evn_sup (n := 1) ((sup_nth rest).mono hr1) (by omega)]
      show 0 + nth rest 0 * r ^ 0 = _
      rw [Int.pow_zero]; omega
    rw [h2, h3, h4]
    have h5 : evn (nth q) (q.length + 2) r * (s + r) % 9973 = 0 := by
      rw [Int.mul_emod, show (s + r) % 9973 = 0 by omega]; simp
    have := pr 0
    omega
  constructor
  · intro h0
    rw [hev] at h0
    match rest, hr1, tr, h0 with
    | [], _, _, _ => rfl
    | [a], _, tr, h0 => exact absurd h0 (tr (by simp))
  · intro h0
    rw [hev] at h0 ⊢
    match rest, hr1, h0 with
    | [], _, h0 => exact absurd rfl h0
    | [a], _, _ => rfl
section
variable (A : Option Addr) (n c : Nat) (f : List Int) (r : Int) (w : World)
theorem proot_bad (hL : Rd w w.heap.size A n f) (h : ¬ (POk f ∧ 0 ≤ r ∧ r ≤ 9972)) :
    Calls Try.prog 5 #[.slice A n c, .int .i64 r] w fun e w' => e = .returned (.bool true) ∧ Below w.heap.size w w' := by
  have HL := Lib.hid hL
  have HX : Hid (∀ (B : Nat) (w : World), Rd w B A n f → Calls Try.prog 18 #[.slice A n c, .int .i64 r] w fun e w' => (∃ y : Int, e = .returned (.tuple #[.int .i64 0, .iface 44 (.int .i64 y)])) ∧ w = w') := fun B w hr => by
    by_cases h1 : POk f
    · exact (c_PAt_far A n c f r B w hr h1 (fun h2 => h ⟨h1, h2⟩)).mono fun e w' ⟨a, b⟩ => ⟨⟨_, a⟩, b⟩
    · exact (c_PAt_bad A n c f r B w hr h1).mono fun e w' ⟨a, b⟩ => ⟨⟨_, a⟩, b⟩
  clear hL h
  go_enter Try.func5, Try.ntmps5
  go_wp2_with fail
  refine (c_polyFact _).mono ?_
  rintro e w1 ⟨rfl, hb1⟩
  go_wp2_with fail
  refine (HX.out _ _ (HL.out.below hb1)).mono ?_
  rintro e w' ⟨⟨y, rfl⟩, rfl⟩
  go_wp2
  go_ret
  exact ⟨rfl, hb1⟩
set_option maxHeartbeats 1000000 in
theorem proot_ok (hL : Rd w w.heap.size A n f) (hc : n ≤ c) (hz : A = none → c = 0) (h : POk f) (hr : 0 ≤ r ∧ r ≤ 9972) :
    Calls Try.prog 5 #[.slice A n c, .int .i64 r] w fun e w' => e = .returned (.bool true) ∧ Below w.heap.size w w' := by
  have HL := Lib.hid hL
  have H := Lib.hid h
  have HZ := Lib.hid hz
  obtain ⟨s, hs⟩ : ∃ s, s = (-r) % 9973 := ⟨_, rfl⟩
  have hsb : 0 ≤ s ∧ s < 9973 := by omega
  have MO : Hid (∀ w : World, Calls Try.prog 19 #[.int .i64 (-r)] w fun e w' => e = .returned (.int .i64 s) ∧ w = w') := fun w => by rw [hs]; exact c_RModN (-r) w (by omega) (by omega)
  have RR : Hid (∀ q rest : List Int, DivOk f (trm [s, 1]) q rest → (pat f r = 0 → rest = []) ∧ (pat f r ≠ 0 → rest = [pat f r])) := fun q rest hd => root_rest hs hd
  have ps : Hid (POk [s, 1]) := pok_small (show 2 ≤ 12 by decide) (by intro x hx; simp at hx; omega)
  have et : Hid (trm [s, 1] ≠ []) := by
    rw [Hid, trm_id (L := [s, 1]) fun _ => (show (1 : Int) ≠ 0 by decide)]
    exact fun e => by cases e
  have pb := pat_bd f r
  obtain ⟨v, hv⟩ : ∃ v, v = pat f r := ⟨_, rfl⟩
  have HV := Lib.hid hv.symm
  rw [← hv] at RR pb
  clear hL h hz hs hv
  go_enter Try.func5, Try.ntmps5
  go_wp2_with fail
  refine (c_polyFact _).mono ?_
  rintro e w1 ⟨rfl, hb1⟩
  go_wp2_with fail
  refine (c_PAt_ok _ _ _ f r _ _ (HL.out.below hb1) H.out hr).mono ?_
  rintro e w' ⟨rfl, rfl⟩
  rw [HV.out]
  go_wp2_with fail
  refine (MO.out _).mono ?_
  rintro e w' ⟨rfl, rfl⟩
  have r2 := Lib.hid ((rd_two'' w1 s 1 3).more (B' := (w1.alloc (.cells #[.int .i64 s, .int .i64 1] 3)).heap.size) (by simp))
  have S1 := below_one w1 (.cells #[.int .i64 s, .int .i64 1] 3)
  have T1 := Lib.hid (hb1.trans (S1.mono hb1.size))
  have r1 := Lib.hid ((HL.out.below T1.out).more (B' := (w1.alloc (.cells #[.int .i64 s, .int .i64 1] 3)).heap.size) T1.out.size)
  clear S1 hb1
  go_wp2_with fail
  refine (c_PDiv_ok _ _ _ _ _ _ f [s, 1] _ r1.out r2.out hc HZ.out (Nat.le_refl _) (fun h => by cases h) H.out ps.out et.out).mono ?_
  rintro e w2 ⟨q, rest, Aq, cq, Ar, cr, rfl, hd, oq, or', _, _, hb2⟩
  obtain ⟨d1, d2⟩ := RR.out q rest hd
  have T2 := Lib.hid (T1.out.trans (hb2.mono T1.out.size))
  have OR := Lib.hid or'.rd
  clear oq or' hb2 hd r1 r2
  by_cases hv0 : v = 0
  · obtain rfl := d1 hv0
    have e0 : (v == 0) = true := by simp [hv0]
    clear d1 d2
    have HV0 := Lib.hid hv0
    clear hv0
    go_wp2
    go_ret
    exact ⟨rfl, T2.out⟩
  · obtain rfl := d2 hv0
    have e0 : (v == 0) = false := by simp [hv0]
    clear d1 d2 hv0
    have r3 := Lib.hid (rd_one'' w2 v 3)
    have a3 := Lib.hid (OR.out.below (below_one w2 (.cells #[.int .i64 v] 3)))
    go_wp2_with fail
    refine (c_sameP _ _ _ _ _ _ [v] [v] _ _ _ rfl a3.out r3.out (show 1 ≤ 9223372036854775807 by decide)).mono ?_
    rintro e w3 ⟨rfl, hb3⟩
    have S3 := (below_one w2 (.cells #[.int .i64 v] 3)).trans (hb3.mono (by simp))
    have T3 := Lib.hid (T2.out.trans (S3.mono T2.out.size))
    go_wp2
    go_ret
    exact ⟨rfl, T3.out⟩
end
theorem frame_PolyRoot (A : Option Addr) (n c : Nat) (f : List Int) (r : Int) (w : World)
    (hL : Rd w w.heap.size A n f) (hc : n ≤ c ∧ c ≤ 9223372036854775807 ∧ (A = none → c = 0)) (_ : ∀ x ∈ f, Fits x) (_ : Fits r) :
    Calls Try.prog 5 #[.slice A n c, .int .i64 r] w fun e w' => e = .returned (.bool true) ∧ Below w.heap.size w w' := by
  by_cases h : POk f ∧ 0 ≤ r ∧ r ≤ 9972
  · exact proot_ok A n c f r w hL hc.1 hc.2.2 h.1 h.2
  · exact proot_bad A n c f r w hL h
end Go.Proofs.Ytaidincogkfodaa
