/- The reference's way to what goes through dots: for each dot a product that is 0 at all others. No program in sight. -/
import Derived.Test.YtaidincogkfodaaDoorIpolE
import Derived.Test.YtaidincogkfodaaDoorRPlus
namespace Go.Proofs.YtaidincogkfodaaDoor

/-- What the reference divides by. -/
def rcp (xs : List Int) (i k : Nat) : Int := pw ((nth xs i - nth xs k) % 9973) 9971
/-- The product for dot i, k others gone through. -/
def onl (xs ys : List Int) (i : Nat) : Nat → List Int
  | 0 => [nth ys i]
  | k + 1 => if k = i then onl xs ys i k else pmul (onl xs ys i k) [(-nth xs k * rcp xs i k) % 9973, rcp xs i k]
/-- The sum of the products. -/
def rth (xs ys : List Int) : Nat → List Int
  | 0 => []
  | i + 1 => plu (rth xs ys i) (onl xs ys i xs.length) 1 0
theorem rcp_bd (xs : List Int) (i k : Nat) : 0 ≤ rcp xs i k ∧ rcp xs i k < 9973 := pw_bd _ _
theorem plu_one (f g : List Int) : plu f g 1 0 = padd f g := canon (plu_tr _ _ _ _) (padd_tr _ _) fun k => by
  rw [plu_nth, padd_nth, Int.one_mul]
  unfold sh
  rw [if_neg (by omega), Nat.sub_zero]
theorem onl_pl {xs ys : List Int} (h : PL ys) (i k : Nat) : PL (onl xs ys i k) := by
  induction k with
  | zero =>
    refine pl_of fun x hx => ?_
    have h1 := h i
    have h2 : x ∈ [nth ys i] := hx
    simp at h2
    omega
  | succ k ih =>
    show PL (if k = i then _ else _)
    split
    · exact ih
    · exact pmul_pl _ _
theorem onl_len (xs ys : List Int) (i k : Nat) : (onl xs ys i k).length ≤ if i < k then k else k + 1 := by
  induction k with
  | zero => rw [if_neg (by omega)]; exact Nat.le_refl _
  | succ k ih =>
    show (if k = i then onl xs ys i k else pmul (onl xs ys i k) [(-nth xs k * rcp xs i k) % 9973, rcp xs i k]).length ≤ _
    by_cases e : k = i
    · rw [if_pos e, if_pos (by omega)]
      rw [if_neg (by omega)] at ih
      exact ih
    · rw [if_neg e]
      have h1 := pmul_len (onl xs ys i k) [(-nth xs k * rcp xs i k) % 9973, rcp xs i k]
      have h2 : [(-nth xs k * rcp xs i k) % 9973, rcp xs i k].length = 2 := rfl
      by_cases hi : i < k
      · rw [if_pos hi] at ih; rw [if_pos (by omega)]; omega
      · rw [if_neg hi] at ih; rw [if_neg (by omega)]; omega
theorem pat_two (a b x : Int) : pat [a, b] x = (a + b * x) % 9973 := by
  show (0 + a * x ^ 0 + b * x ^ 1) % 9973 = _
  rw [Int.pow_zero, Int.pow_succ, Int.pow_zero, Int.one_mul, Int.mul_one, Int.zero_add]
theorem pat_one (a x : Int) : pat [a] x = a % 9973 := by
  show (0 + a * x ^ 0) % 9973 = _
  rw [Int.pow_zero, Int.mul_one, Int.zero_add]
theorem pat_lin (xs : List Int) (i k : Nat) (x : Int) : pat [(-nth xs k * rcp xs i k) % 9973, rcp xs i k] x = (x - nth xs k) * rcp xs i k % 9973 := by
  rw [pat_two, Int.add_emod, Int.emod_emod, ← Int.add_emod]
  congr 1
  grind
theorem onl_self {xs ys : List Int} (h : IOk xs ys) {i : Nat} (hi : i < xs.length) (k : Nat) (hk : k ≤ xs.length) : pat (onl xs ys i k) (nth xs i) = nth ys i := by
  induction k with
  | zero => exact (pat_one _ _).trans (pl_emod h.2.2.2.1 i)
  | succ k ih =>
    show pat (if k = i then onl xs ys i k else pmul (onl xs ys i k) [(-nth xs k * rcp xs i k) % 9973, rcp xs i k]) (nth xs i) = _
    by_cases e : k = i
    · rw [if_pos e]; exact ih (by omega)
    · rw [if_neg e, pat_mul, pat_lin, ih (by omega)]
      have hz : (nth xs i - nth xs k) % 9973 ≠ 0 := by
        have a := h.2.2.1 i
        have b := h.2.2.1 k
        rcases Nat.lt_or_ge i k with hlt | hge
        · have := h.2.2.2.2 i k hlt (by omega); omega
        · have := h.2.2.2.2 k i (by omega) hi; omega
      have hm : (nth xs i - nth xs k) * rcp xs i k % 9973 = 1 := inv_mul hz
      rw [hm, Int.mul_one, pl_emod h.2.2.2.1 i]
theorem onl_other {xs ys : List Int} {i m : Nat} (hm : m ≠ i) (k : Nat) (hk : m < k) : pat (onl xs ys i k) (nth xs m) = 0 := by
  induction k with
  | zero => omega
  | succ k ih =>
    show pat (if k = i then onl xs ys i k else pmul (onl xs ys i k) [(-nth xs k * rcp xs i k) % 9973, rcp xs i k]) (nth xs m) = _
    by_cases e : k = i
    · rw [if_pos e]; exact ih (by omega)
    · rw [if_neg e, pat_mul, pat_lin]
      by_cases e2 : m = k
      · subst e2; rw [Int.sub_self, Int.zero_mul]; simp
      · rw [ih (by omega), Int.zero_mul]; rfl
theorem rth_tr (xs ys : List Int) : ∀ k, Tr (rth xs ys k)
  | 0 => tr_nil
  | _ + 1 => plu_tr _ _ _ _
theorem rth_pl (xs ys : List Int) : ∀ k, PL (rth xs ys k)
  | 0 => pl_nil
  | _ + 1 => plu_pl _ _ _ _
theorem rth_len (xs ys : List Int) (k : Nat) (hk : k ≤ xs.length) : (rth xs ys k).length ≤ xs.length := by
  induction k with
  | zero => exact Nat.zero_le _
  | succ k ih =>
    show (plu (rth xs ys k) (onl xs ys k xs.length) 1 0).length ≤ _
    rw [plu_one]
    have h1 := padd_len (rth xs ys k) (onl xs ys k xs.length)
    have h2 := onl_len xs ys k xs.length
    rw [if_pos (by omega)] at h2
    have := ih (by omega)
    omega
theorem rth_pat {xs ys : List Int} (h : IOk xs ys) {m : Nat} (hm : m < xs.length) (k : Nat) (hk : k ≤ xs.length) : pat (rth xs ys k) (nth xs m) = if m < k then nth ys m else 0 := by
  induction k with
  | zero => rw [if_neg (by omega)]; rfl
  | succ k ih =>
    show pat (plu (rth xs ys k) (onl xs ys k xs.length) 1 0) (nth xs m) = _
    rw [plu_one, pat_add, ih (by omega)]
    by_cases e : m = k
    · subst e
      rw [if_neg (by omega), if_pos (by omega), onl_self h hm _ (Nat.le_refl _), Int.zero_add, pl_emod h.2.2.2.1 m]
    · rw [onl_other e _ hm, Int.add_zero]
      by_cases hlt : m < k
      · rw [if_pos hlt, if_pos (by omega), pl_emod h.2.2.2.1 m]
      · rw [if_neg hlt, if_neg (by omega)]; rfl
/-- The reference's sum of products is what goes through all dots. -/
theorem rth_all {xs ys : List Int} (h : IOk xs ys) : rth xs ys xs.length = thr xs ys := by
  rw [thr_uniq (P := rth xs ys xs.length) h (rth_pl _ _ _) (rth_len _ _ _ (Nat.le_refl _)) fun i hi => by rw [rth_pat h hi _ (Nat.le_refl _), if_pos hi], trm_id (rth_tr _ _ _)]
/-- The first dots. -/
theorem iok_take {xs ys : List Int} (h : IOk xs ys) (k : Nat) (hk : k ≤ xs.length) : IOk (xs.take k) (ys.take k) := by
  obtain ⟨h1, h2, h3, h4, h5⟩ := h
  refine ⟨by rw [List.length_take]; omega, by rw [List.length_take, List.length_take]; omega, fun j => ?_, fun j => ?_, fun i j hi hj => ?_⟩
  · rw [take_nth]; split
    · exact h3 j
    · omega
  · rw [take_nth]; split
    · exact h4 j
    · omega
  · rw [List.length_take] at hj
    rw [take_nth, take_nth, if_pos (by omega), if_pos (by omega)]
    exact h5 i j hi (by omega)
/-- What each dot adds is the top coefficient of what goes through the dots up to it. -/
theorem dds_at {xs ys : List Int} (h : IOk xs ys) {k : Nat} (hk : k < xs.length) : nth (dds xs ys) k = nth (thr (xs.take (k + 1)) (ys.take (k + 1))) k := by
  have ht := iok_take h (k + 1) (by omega)
  have hl : (xs.take (k + 1)).length = k + 1 := by rw [List.length_take]; omega
  unfold dds
  rw [mk_nth' _ hk]
  refine dd_of h hk (thr_pl _ _) (by have := thr_len (xs.take (k + 1)) (ys.take (k + 1)); omega) fun i hi => ?_
  have := thr_pat ht (i := i) (by omega)
  rw [take_nth, take_nth, if_pos (by omega), if_pos (by omega)] at this
  exact this
end Go.Proofs.YtaidincogkfodaaDoor
