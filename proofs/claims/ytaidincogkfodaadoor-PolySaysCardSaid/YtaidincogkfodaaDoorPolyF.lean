/- The contracts of package poly: divide, Div. -/
import Derived.Test.YtaidincogkfodaaDoorPolyB
import Derived.Test.YtaidincogkfodaaDoorPolyG
namespace Go.Proofs.YtaidincogkfodaaDoor
open Go.RowKit

/-- Field: a number modulo the prime. -/
theorem modp_fin (n : Int) : (n.tmod 9973 + 9973) % 9973 = n % 9973 := by
  rw [Int.tmod_def, show n - 9973 * n.tdiv 9973 + 9973 = n + 9973 * (1 - n.tdiv 9973) by grind, Int.add_mul_emod_self_left]
theorem tmodp_bd (n : Int) : -9973 < n.tmod 9973 ∧ n.tmod 9973 < 9973 := by
  have h1 := Int.natAbs_tmod n 9973
  have h2 := Nat.mod_lt n.natAbs (show 0 < (9973 : Int).natAbs by decide)
  have h3 : (9973 : Int).natAbs = 9973 := rfl
  omega
theorem c_ModP (n : Int) (w : World) (h1 : -4611686018427387904 ≤ n) (h2 : n ≤ 4611686018427387904) :
    Calls Tryd.prog 45 #[.int .i64 n, .int .i64 9973] w fun e w' => e = .returned (.int .i64 (n % 9973)) ∧ w = w' := by
  have b := tmodp_bd n
  have hf := Lib.hid (modp_fin n)
  by_cases h : 0 ≤ n
  · have e : n.tmod 9973 = n % 9973 := Int.tmod_eq_emod_of_nonneg h
    rw [e] at hf b
    clear e
    go_enter Tryd.func45, Tryd.ntmps45
    go_wp2
    go_ret
    exact ⟨ret_int (by omega), rfl⟩
  · go_enter Tryd.func45, Tryd.ntmps45
    go_wp2
    go_ret
    exact ⟨ret_int (by first | exact hf.out | (rw [← Int.add_emod_right]; exact hf.out)), rfl⟩
theorem c_NField (n : Int) (w : World) (h1 : -4611686018427387904 ≤ n) (h2 : n ≤ 4611686018427387904) :
    Calls Tryd.prog 40 #[.int .i64 n] w fun e w' => e = .returned (.int .i64 (n % 9973)) ∧ w = w' := by
  go_enter Tryd.func40, Tryd.ntmps40
  go_wp2_with fail
  refine (c_ModP _ _ h1 h2).mono ?_
  rintro e w' ⟨rfl, rfl⟩
  go_wp2
  go_ret
  exact ⟨rfl, rfl⟩

/-- A row less so many times another one, so many places up, as far as k. -/
def subP (R g : List Int) (c : Int) (at' k : Nat) : List Int := mk R.length fun j => if at' ≤ j ∧ j - at' < k then (nth R j - c * nth g (j - at')) % 9973 else nth R j
theorem subP_zero (R g : List Int) (c : Int) (at' : Nat) : subP R g c at' 0 = R := by
  unfold subP
  conv => rhs; rw [← mk_of R R.length rfl]
  exact mk_congr fun j _ => by rw [if_neg (by omega)]
theorem subP_len (R g : List Int) (c : Int) (at' k : Nat) : (subP R g c at' k).length = R.length := mk_len _ _
theorem subP_at (R g : List Int) (c : Int) (at' k : Nat) (h : at' + k < R.length) : nth (subP R g c at' k) (at' + k) = nth R (at' + k) := by
  unfold subP
  rw [mk_nth' _ h, if_neg (by omega)]
theorem subP_step (R g : List Int) (c : Int) (at' k : Nat) : (subP R g c at' k).set (at' + k) ((nth R (at' + k) - c * nth g k) % 9973) = subP R g c at' (k + 1) := by
  unfold subP
  rw [mk_set]
  refine mk_congr fun j _ => ?_
  by_cases e : j = at' + k
  · subst e; rw [if_pos rfl, if_pos (by omega), show at' + k - at' = k by omega]
  · rw [if_neg e]
    by_cases h : at' ≤ j ∧ j - at' < k
    · rw [if_pos h, if_pos (by omega)]
    · rw [if_neg h, if_neg (by omega)]
theorem subP_eqm {R g : List Int} {c : Int} {at' : Nat} (h : at' + g.length ≤ R.length) : Eqm (nth (subP R g c at' g.length)) (fun j => nth R j - c * sh at' (nth g) j) := fun j => by
  show _ = (nth R j - c * sh at' (nth g) j) % 9973
  unfold subP sh
  rw [mk_nth]
  by_cases hj : j < R.length
  · rw [if_pos hj]
    by_cases h1 : at' ≤ j ∧ j - at' < g.length
    · rw [if_pos h1, if_neg (by omega), Int.emod_emod]
    · rw [if_neg h1]
      by_cases h2 : j < at'
      · rw [if_pos h2, Int.mul_zero, Int.sub_zero]
      · rw [if_neg h2, sup_nth g (j - at') (by omega), Int.mul_zero, Int.sub_zero]
  · rw [if_neg hj, sup_nth R j (by omega)]
    by_cases h2 : j < at'
    · rw [if_pos h2, Int.mul_zero]; rfl
    · rw [if_neg h2, sup_nth g (j - at') (by omega), Int.mul_zero]; rfl
theorem subP_pl {R g : List Int} {c : Int} {at' k : Nat} (h : PL R) : PL (subP R g c at' k) := fun j => by
  unfold subP
  rw [mk_nth]
  split
  · split
    · exact emod_pl _
    · exact h j
  · omega
/-- What the division has reached: the quotient's places so far, and what is left. (R0: how many there were.) -/
def DivSt (f g q r : List Int) (R0 : Nat) : Prop :=
  PL q ∧ PL r ∧ Tr r ∧ q.length = R0 - g.length + 1 ∧ r.length ≤ R0 ∧ (∀ j, j + g.length ≤ r.length → nth q j = 0) ∧ (r.length < R0 → nth q (R0 - g.length) ≠ 0) ∧ Eqm (nth f) fun k => cv (nth q) (nth g) k + nth r k
theorem set_nth {L : List Int} {j k : Nat} {z : Int} (h : j < L.length) : nth (L.set j z) k = nth L k + (if k = j then z - nth L j else 0) := by
  unfold nth
  by_cases e : k = j
  · subst e; rw [if_pos rfl]; simp [List.getD, h]; omega
  · rw [if_neg e, Int.add_zero]; simp [List.getD, List.getElem?_set_ne (fun h' => e h'.symm)]
theorem cv_unit (a : Nat) (c : Int) (g : Nat → Int) (k : Nat) : cv (fun i => if i = a then c else 0) g k = c * sh a g k := by
  have e : ∀ i, (if i = a then c else 0) = c * sh a (nth [1]) i := fun i => by
    unfold sh
    by_cases h : i < a
    · rw [if_neg (by omega), if_pos h, Int.mul_zero]
    · rw [if_neg h, one_nth]
      by_cases h2 : i = a
      · rw [if_pos h2, if_pos (by omega), Int.mul_one]
      · rw [if_neg h2, if_neg (by omega), Int.mul_zero]
  rw [cv_congr k (fun i _ => e i) (fun i _ => rfl), cv_smul_left, cv_sh_left]
  congr 1
  unfold sh
  split
  · rfl
  · exact cv_one g _
theorem zeros_nth (n j : Nat) : nth (List.replicate n (0 : Int)) j = 0 := by
  unfold nth
  rcases Nat.lt_or_ge j n with h | h
  · simp [List.getD, h]
  · simp [List.getD, h]
theorem div_start {f g : List Int} (pf : PL f) : DivSt f g (List.replicate ((trm f).length - g.length + 1) 0) (trm f) (trm f).length := by
  refine ⟨fun k => by rw [zeros_nth]; omega, pl_trm pf, tr_trm f, by simp, Nat.le_refl _, fun j _ => zeros_nth _ j, fun h => absurd h (Nat.lt_irrefl _), fun k => ?_⟩
  show nth f k % 9973 = (cv (nth (List.replicate _ 0)) (nth g) k + nth (trm f) k) % 9973
  rw [trm_nth, show cv (nth (List.replicate ((trm f).length - g.length + 1) 0)) (nth g) k = 0 from sm_zero _ fun i _ => by rw [zeros_nth, Int.zero_mul], Int.zero_add]
/-- One step of the division. -/
theorem div_next {f g q r : List Int} {R0 : Nat} {c : Int} (pg : PL g) (tg : Tr g) (hg : g ≠ []) (h : DivSt f g q r R0) (hr : g.length ≤ r.length) (hc : c = nth r (r.length - 1) * pw (nth g (g.length - 1)) 9971 % 9973) :
    DivSt f g (q.set (r.length - g.length) c) (trm (subP r g c (r.length - g.length) g.length)) R0 ∧ (trm (subP r g c (r.length - g.length) g.length)).length < r.length := by
  obtain ⟨pq, pr, tr, ql, rl, hz, ht, e⟩ := h
  have lg := len_pos hg
  have hrn : r ≠ [] := fun h0 => by
    have h1 : r.length = 0 := by rw [h0]; rfl
    omega
  have l1 := tr_lead pg tg hg
  have l2 := tr_lead pr tr hrn
  have cb : 0 ≤ c ∧ c < 9973 := by rw [hc]; exact emod_pl _
  have hat : r.length - g.length < q.length := by omega
  have ho := over_mul _ l1.2.1 l1.2.2
  have hcg : c * nth g (g.length - 1) % 9973 = nth r (r.length - 1) % 9973 := by
    rw [hc, emod_mul, Int.mul_assoc, Int.mul_comm (pw _ _), Int.mul_emod, ho, Int.mul_one, Int.emod_emod]
  have hc0 : c ≠ 0 := fun h0 => by rw [h0, Int.zero_mul] at hcg; exact l2.1 hcg.symm
  have hE := subP_eqm (R := r) (g := g) (c := c) (at' := r.length - g.length) (by omega)
  have hlt : (trm (subP r g c (r.length - g.length) g.length)).length < r.length := by
    have htop : nth (subP r g c (r.length - g.length) g.length) (r.length - 1) = 0 := by
      have h1 := hE (r.length - 1)
      have h2 := subP_pl (g := g) (c := c) (at' := r.length - g.length) (k := g.length) pr (r.length - 1)
      have h3 : sh (r.length - g.length) (nth g) (r.length - 1) = nth g (g.length - 1) := by
        unfold sh; rw [if_neg (by omega)]; congr 1; omega
      have h1' : nth (subP r g c (r.length - g.length) g.length) (r.length - 1) % 9973 = (nth r (r.length - 1) - c * sh (r.length - g.length) (nth g) (r.length - 1)) % 9973 := h1
      rw [h3] at h1'
      omega
    have := tr_lt (n := r.length - 1) (tr_trm (subP r g c (r.length - g.length) g.length)) fun k hk => by
      rw [trm_nth]
      by_cases e1 : k = r.length - 1
      · rw [e1]; exact htop
      · exact sup_nth _ k (by rw [subP_len]; omega)
    omega
  refine ⟨⟨pl_set pq _ cb hat, pl_trm (subP_pl pr), tr_trm _, by simp [ql], by omega, fun j hj => ?_, fun h0 => ?_, fun k => ?_⟩, hlt⟩
  · rw [set_nth hat, if_neg (by omega), Int.add_zero]
    exact hz j (by omega)
  · rw [set_nth hat]
    by_cases e1 : r.length = R0
    · rw [if_pos (by omega)]
      have := hz (r.length - g.length) (by omega)
      rw [e1] at this ⊢
      omega
    · rw [if_neg (by omega), Int.add_zero]
      exact ht (by omega)
  · show nth f k % 9973 = (cv (nth (q.set (r.length - g.length) c)) (nth g) k + nth (trm (subP r g c (r.length - g.length) g.length)) k) % 9973
    have h0 := hz (r.length - g.length) (by omega)
    have e1 : cv (nth (q.set (r.length - g.length) c)) (nth g) k = cv (nth q) (nth g) k + c * sh (r.length - g.length) (nth g) k := by
      rw [← cv_unit, ← cv_add_left]
      exact cv_congr k (fun i _ => by rw [set_nth hat, h0, Int.sub_zero]) (fun i _ => rfl)
    have e2 : nth f k % 9973 = (cv (nth q) (nth g) k + nth r k) % 9973 := e k
    have e3 : nth (subP r g c (r.length - g.length) g.length) k % 9973 = (nth r k - c * sh (r.length - g.length) (nth g) k) % 9973 := hE k
    rw [trm_nth, e1, e2]
    omega
theorem div_end {f g q r : List Int} {R0 : Nat} (h : DivSt f g q r R0) (hR : g.length ≤ R0) (hr : r.length < g.length) : DivOk f g q r := by
  obtain ⟨pq, pr, tr, ql, rl, hz, ht, e⟩ := h
  refine ⟨pq, fun _ => ?_, pr, tr, hr, e⟩
  rw [ql, Nat.add_sub_cancel]
  exact ht (by omega)
theorem div_short {f g : List Int} (pf : PL f) (h : (trm f).length < g.length) : DivOk f g [] (trm f) :=
  ⟨pl_nil, tr_nil, pl_trm pf, tr_trm f, h, fun k => by
    show nth f k % 9973 = (cv (nth []) (nth g) k + nth (trm f) k) % 9973
    rw [trm_nth, cv_nil, Int.zero_add]⟩
end Go.Proofs.YtaidincogkfodaaDoor
