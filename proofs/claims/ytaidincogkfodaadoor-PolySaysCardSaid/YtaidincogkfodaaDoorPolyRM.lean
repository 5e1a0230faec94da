/- The reference's division of polynomials, step by step. No program in sight. -/
import Derived.Test.YtaidincogkfodaaDoorRPlus
namespace Go.Proofs.YtaidincogkfodaaDoor

/-- What the reference's division has reached. (N: how many coefficients there are at most.) -/
def DivR (f g q r : List Int) (N : Nat) : Prop := PL q ∧ Tr q ∧ PL r ∧ Tr r ∧ q.length ≤ N ∧ r.length ≤ N ∧ Eqm (nth f) fun k => cv (nth q) (nth g) k + nth r k
theorem divr_start {f g : List Int} (pf : PL f) {N : Nat} (h : (trm f).length ≤ N) : DivR f g [] (trm f) N :=
  ⟨pl_nil, tr_nil, pl_trm pf, tr_trm f, Nat.zero_le _, h, fun k => by
    show nth f k % 9973 = (cv (nth []) (nth g) k + nth (trm f) k) % 9973
    rw [trm_nth, cv_nil, Int.zero_add]⟩
theorem plu_eqm (f g : List Int) (t : Int) (up : Nat) : Eqm (nth (plu f g t up)) (fun k => nth f k + t * sh up (nth g) k) := fun k => by
  rw [plu_nth]; exact Int.emod_emod _ _
theorem sh_one (up : Nat) (c : Int) (k : Nat) : sh up (nth [c]) k = if k = up then c else 0 := by
  unfold sh
  by_cases h : k < up
  · rw [if_pos h, if_neg (by omega)]
  · rw [if_neg h]
    by_cases h2 : k = up
    · rw [if_pos h2, show k - up = 0 by omega]; rfl
    · rw [if_neg h2]; exact sup_nth [c] _ (by simp; omega)
/-- One step. -/
theorem divr_next {f g q r : List Int} {N : Nat} {c : Int} (pg : PL g) (tg : Tr g) (hg : g ≠ []) (h : DivR f g q r N) (hr : g.length ≤ r.length) (hc : c = nth r (r.length - 1) * pw (nth g (g.length - 1)) 9971 % 9973) :
    DivR f g (plu q [c] 1 (r.length - g.length)) (plu r g (-c) (r.length - g.length)) N ∧ (plu r g (-c) (r.length - g.length)).length < r.length := by
  obtain ⟨pq, tq, pr, tr, ql, rl, e⟩ := h
  have lg := len_pos hg
  have hrn : r ≠ [] := fun h0 => by
    have h1 : r.length = 0 := by rw [h0]; rfl
    omega
  have l1 := tr_lead pg tg hg
  have ho := over_mul _ l1.2.1 l1.2.2
  have hcg : c * nth g (g.length - 1) % 9973 = nth r (r.length - 1) % 9973 := by
    rw [hc, emod_mul, Int.mul_assoc, Int.mul_comm (pw _ _), Int.mul_emod, ho, Int.mul_one, Int.emod_emod]
  have hlt : (plu r g (-c) (r.length - g.length)).length < r.length := by
    have := tr_lt (n := r.length - 1) (plu_tr r g (-c) (r.length - g.length)) fun k hk => by
      rw [plu_nth]
      by_cases e1 : k = r.length - 1
      · have h3 : sh (r.length - g.length) (nth g) k = nth g (g.length - 1) := by
          unfold sh; rw [if_neg (by omega)]; congr 1; omega
        rw [h3, e1, Int.neg_mul]
        omega
      · have h3 : sh (r.length - g.length) (nth g) k = 0 := by
          unfold sh; rw [if_neg (by omega)]; exact sup_nth g _ (by omega)
        rw [h3, sup_nth r k (by omega)]; simp
    omega
  refine ⟨⟨plu_pl _ _ _ _, plu_tr _ _ _ _, plu_pl _ _ _ _, plu_tr _ _ _ _, ?_, by omega, fun k => ?_⟩, hlt⟩
  · have := plu_len q [c] 1 (r.length - g.length)
    have h2 : [c].length = 1 := rfl
    omega
  · show nth f k % 9973 = (cv (nth (plu q [c] 1 (r.length - g.length))) (nth g) k + nth (plu r g (-c) (r.length - g.length)) k) % 9973
    have e1 : cv (nth (plu q [c] 1 (r.length - g.length))) (nth g) k % 9973 = (cv (nth q) (nth g) k + c * sh (r.length - g.length) (nth g) k) % 9973 := by
      rw [cv_eqm (plu_eqm q [c] 1 (r.length - g.length)) (Eqm.refl _) k, ← cv_unit, ← cv_add_left]
      congr 1
      exact cv_congr k (fun i _ => by rw [Int.one_mul, sh_one]) (fun i _ => rfl)
    have e2 : nth f k % 9973 = (cv (nth q) (nth g) k + nth r k) % 9973 := e k
    have e3 : nth (plu r g (-c) (r.length - g.length)) k % 9973 = (nth r k + -c * sh (r.length - g.length) (nth g) k) % 9973 := plu_eqm r g (-c) (r.length - g.length) k
    rw [Int.neg_mul] at e3
    omega
theorem divr_end {f g q r : List Int} {N : Nat} (h : DivR f g q r N) (hr : r.length < g.length) : DivOk f g q r :=
  ⟨h.1, h.2.1, h.2.2.1, h.2.2.2.1, hr, h.2.2.2.2.2.2⟩
/-- Times the reciprocal of the top coefficient. -/
theorem pmul_mon (u : List Int) (p : PL u) (t : Tr u) : pmul u [ovl u] = mon u := canon (pmul_tr _ _) (mon_tr p t) fun k => by
  rw [pmul_nth, mon_nth, cv_comm]
  have e : cv (nth [ovl u]) (nth u) k = ovl u * nth u k := by
    rw [cv_congr k (fun i _ => (show nth [ovl u] i = if i = 0 then ovl u else 0 by rw [← sh_one 0 (ovl u) i]; unfold sh; rw [if_neg (by omega), Nat.sub_zero])) (fun i _ => rfl), cv_unit]
    unfold sh
    rw [if_neg (by omega), Nat.sub_zero]
  rw [e, Int.mul_comm]
theorem plu_add (f g : List Int) : plu f g 1 0 = padd f g := canon (plu_tr _ _ _ _) (padd_tr _ _) fun k => by
  rw [plu_nth, padd_nth, Int.one_mul]
  unfold sh
  rw [if_neg (by omega), Nat.sub_zero]
/-- What the first k coefficients come to. -/
def evp (L : List Int) (x : Int) (k : Nat) : Int := evn (nth L) k x % 9973
theorem evp_succ (L : List Int) (x : Int) (k : Nat) : (evp L x k + nth L k * pw x k) % 9973 = evp L x (k + 1) := by
  unfold evp
  show _ = (evn (nth L) k x + nth L k * x ^ k) % 9973
  have : nth L k * pw x k % 9973 = nth L k * x ^ k % 9973 := by unfold pw; exact mul_emod' _ _ _
  omega
end Go.Proofs.YtaidincogkfodaaDoor
