/- Polynomials over the prime field: values, roots. No program in sight. -/
import Derived.Test.YtaidincogkfodaaDoorPolyM
namespace Go.Proofs.YtaidincogkfodaaDoor

/-- What the first n coefficients come to at x. -/
def evn (f : Nat → Int) (n : Nat) (x : Int) : Int := sm n fun i => f i * x ^ i
theorem evn_congr {f g : Nat → Int} {n : Nat} (h : ∀ i, i < n → f i = g i) (x : Int) : evn f n x = evn g n x :=
  sm_congr n fun i hi => by show f i * _ = g i * _; rw [h i hi]
theorem evn_sup {f : Nat → Int} {n m : Nat} (h : Sup f n) (hm : n ≤ m) (x : Int) : evn f m x = evn f n x := by
  unfold evn
  rw [show m = n + (m - n) by omega, sm_split, sm_zero (m - n) (fun i _ => by rw [h (n + i) (by omega), Int.zero_mul])]
  omega
theorem evn_eqm {f g : Nat → Int} (h : Eqm f g) (n : Nat) (x : Int) : evn f n x % 9973 = evn g n x % 9973 :=
  sm_eqm n fun i _ => mul_eqm (h i) rfl
theorem evn_add (f g : Nat → Int) (n : Nat) (x : Int) : evn (fun i => f i + g i) n x = evn f n x + evn g n x := by
  unfold evn
  rw [← sm_add]
  exact sm_congr n fun i _ => Int.add_mul _ _ _
theorem evn_sub (f g : Nat → Int) (n : Nat) (x : Int) : evn (fun i => f i - g i) n x = evn f n x - evn g n x := by
  unfold evn
  rw [← sm_sub]
  exact sm_congr n fun i _ => Int.sub_mul _ _ _
theorem evn_smul (c : Int) (f : Nat → Int) (n : Nat) (x : Int) : evn (fun i => c * f i) n x = c * evn f n x := by
  unfold evn
  rw [← sm_mul]
  exact sm_congr n fun i _ => Int.mul_assoc _ _ _
theorem cv_pow (f g : Nat → Int) (x : Int) (k : Nat) : cv (fun i => f i * x ^ i) (fun i => g i * x ^ i) k = cv f g k * x ^ k := by
  unfold cv
  rw [Int.mul_comm, ← sm_mul]
  refine sm_congr _ fun i hi => ?_
  have e : x ^ k = x ^ i * x ^ (k - i) := by rw [← Int.pow_add]; congr 1; omega
  rw [e]
  grind
theorem evn_mul {f g : Nat → Int} {n : Nat} (h1 : 1 ≤ n) (hf : Sup f n) (hg : Sup g n) (x : Int) : evn (cv f g) (2 * n - 1) x = evn f n x * evn g n x := by
  unfold evn
  rw [← sm_conv h1 (fun k hk => by rw [hf k hk, Int.zero_mul]) (fun k hk => by rw [hg k hk, Int.zero_mul])]
  exact sm_congr _ fun k _ => (cv_pow f g x k).symm
/-- What a polynomial comes to. -/
def pat (L : List Int) (x : Int) : Int := evn (nth L) L.length x % 9973
theorem pat_of {L : List Int} {n : Nat} (h : L.length ≤ n) (x : Int) : pat L x = evn (nth L) n x % 9973 := by
  unfold pat; rw [evn_sup (sup_nth L) h]
theorem pat_bd (L : List Int) (x : Int) : 0 ≤ pat L x ∧ pat L x < 9973 := emod_pl _
theorem pat_mul (L M : List Int) (x : Int) : pat (pmul L M) x = pat L x * pat M x % 9973 := by
  have hl := pmul_len L M
  have hn : 1 ≤ L.length + M.length + 1 := by omega
  rw [pat_of (n := 2 * (L.length + M.length + 1) - 1) (by omega), evn_eqm (pmul_eqm L M), evn_mul hn ((sup_nth L).mono (by omega)) ((sup_nth M).mono (by omega)),
    pat_of (L := L) (n := L.length + M.length + 1) (by omega), pat_of (L := M) (n := L.length + M.length + 1) (by omega), ← Int.mul_emod]
theorem pat_add (L M : List Int) (x : Int) : pat (padd L M) x = (pat L x + pat M x) % 9973 := by
  have hl := padd_len L M
  rw [pat_of (n := L.length + M.length) (by omega), evn_eqm (padd_eqm L M), evn_add, pat_of (L := L) (n := L.length + M.length) (by omega), pat_of (L := M) (n := L.length + M.length) (by omega), ← Int.add_emod]
theorem pat_congr {L M : List Int} (h : Eqm (nth L) (nth M)) (x : Int) : pat L x = pat M x := by
  rw [pat_of (n := L.length + M.length) (by omega), pat_of (L := M) (n := L.length + M.length) (by omega)]
  exact evn_eqm h _ x
theorem pat_trm (L : List Int) (x : Int) : pat (trm L) x = pat L x := pat_congr (eqm_of (trm_nth L)) x
/-- Horner's tail: what the coefficients from k on come to. -/
def hor (L : List Int) (x : Int) (k : Nat) : Int := evn (fun i => nth L (k + i)) (L.length - k) x % 9973
theorem hor_end (L : List Int) (x : Int) : hor L x L.length = 0 := by unfold hor; rw [Nat.sub_self]; rfl
theorem hor_zero (L : List Int) (x : Int) : hor L x 0 = pat L x := by
  unfold hor pat
  rw [Nat.sub_zero]
  congr 1
  exact evn_congr (fun i _ => by rw [Nat.zero_add]) x
theorem evn_head (f : Nat → Int) (n : Nat) (x : Int) : evn f (n + 1) x = f 0 + x * evn (fun i => f (i + 1)) n x := by
  unfold evn
  rw [sm_head, Int.pow_zero, Int.mul_one, ← sm_mul]
  congr 1
  refine sm_congr _ fun i _ => ?_
  rw [Int.pow_succ]
  grind
theorem hor_step (L : List Int) (x : Int) (k : Nat) (h : k < L.length) : hor L x k = (hor L x (k + 1) * x + nth L k) % 9973 := by
  unfold hor
  rw [show L.length - k = (L.length - (k + 1)) + 1 by omega, evn_head]
  have e : evn (fun i => nth L (k + (i + 1))) (L.length - (k + 1)) x = evn (fun i => nth L (k + 1 + i)) (L.length - (k + 1)) x := evn_congr (fun i _ => by rw [show k + (i + 1) = k + 1 + i by omega]) x
  rw [e, Nat.add_zero, Int.add_comm, Int.mul_comm x, Int.add_emod, ← emod_mul, ← Int.add_emod]

/-- Times x - a. -/
def lin (a : Int) (f : Nat → Int) (k : Nat) : Int := sh 1 f k - a * f k
theorem lin_zero (a : Int) (f : Nat → Int) : lin a f 0 = -(a * f 0) := by unfold lin sh; simp
theorem lin_succ (a : Int) (f : Nat → Int) (k : Nat) : lin a f (k + 1) = f k - a * f (k + 1) := by unfold lin sh; simp
theorem lin_sup {f : Nat → Int} {n : Nat} (a : Int) (h : Sup f n) : Sup (lin a f) (n + 1) := fun k hk => by
  obtain ⟨m, rfl⟩ : ∃ m, k = m + 1 := ⟨k - 1, by omega⟩
  rw [lin_succ, h m (by omega), h (m + 1) (by omega)]; simp
theorem lin_ev {f : Nat → Int} {n : Nat} (a : Int) (h : Sup f n) (x : Int) : evn (lin a f) (n + 1) x = (x - a) * evn f n x := by
  have e1 : evn (lin a f) (n + 1) x = evn (sh 1 f) (n + 1) x - a * evn f (n + 1) x := by
    rw [← evn_smul, ← evn_sub]; rfl
  have e2 : evn (sh 1 f) (n + 1) x = x * evn f n x := by
    rw [evn_head]
    have e3 : evn (fun i => sh 1 f (i + 1)) n x = evn f n x := evn_congr (fun i _ => by unfold sh; simp) x
    rw [e3]; unfold sh; simp
  rw [e1, e2, evn_sup (m := n + 1) h (by omega)]
  grind
theorem lin_eqm {f g : Nat → Int} (a : Int) (h : Eqm f g) : Eqm (lin a f) (lin a g) := fun k => by
  match k with
  | 0 => rw [lin_zero, lin_zero]; have := mul_eqm (a := a) (b := a) rfl (h 0); omega
  | k + 1 => rw [lin_succ, lin_succ, Int.sub_emod, h k, mul_eqm rfl (h (k + 1)), ← Int.sub_emod]
/-- What the coefficients from k on come to, without the prime. -/
def tl (f : Nat → Int) (n : Nat) (a : Int) (k : Nat) : Int := evn (fun i => f (k + i)) (n - k) a
theorem tl_step (f : Nat → Int) (n : Nat) (a : Int) (k : Nat) (h : k < n) : tl f n a k = f k + a * tl f n a (k + 1) := by
  unfold tl
  rw [show n - k = (n - (k + 1)) + 1 by omega, evn_head, Nat.add_zero]
  have e : evn (fun i => f (k + (i + 1))) (n - (k + 1)) a = evn (fun i => f (k + 1 + i)) (n - (k + 1)) a := evn_congr (fun i _ => by rw [show k + (i + 1) = k + 1 + i by omega]) a
  rw [e]
theorem tl_end (f : Nat → Int) (n : Nat) (a : Int) (k : Nat) (h : n ≤ k) : tl f n a k = 0 := by
  unfold tl; rw [show n - k = 0 by omega]; rfl
/-- Division by x - a. -/
theorem syn {f : Nat → Int} {n : Nat} (h : Sup f n) (a : Int) (k : Nat) : f k = lin a (fun j => tl f n a (j + 1)) k + (if k = 0 then tl f n a 0 else 0) := by
  match k with
  | 0 =>
    rw [lin_zero, if_pos rfl]
    rcases Nat.eq_zero_or_pos n with h0 | h0
    · rw [h 0 (by omega), tl_end _ _ _ _ (by omega), tl_end _ _ _ _ (by omega)]; simp
    · rw [tl_step f n a 0 h0]; omega
  | k + 1 =>
    rw [lin_succ, if_neg (by omega)]
    rcases Nat.lt_or_ge (k + 1) n with h0 | h0
    · rw [tl_step f n a (k + 1) h0]; omega
    · rw [h (k + 1) h0, tl_end _ _ _ _ (by omega), tl_end _ _ _ _ (by omega)]; simp
theorem tl_zero (f : Nat → Int) (n : Nat) (a : Int) : tl f n a 0 = evn f n a := by
  unfold tl
  rw [Nat.sub_zero]
  exact evn_congr (fun i _ => by rw [Nat.zero_add]) a
theorem tl_sup (f : Nat → Int) (n : Nat) (a : Int) : Sup (fun j => tl f (n + 1) a (j + 1)) n := fun k hk => tl_end _ _ _ _ (by omega)
/-- A polynomial of n coefficients that is 0 at n points is 0. -/
theorem roots (X : Nat → Int) (n : Nat) : ∀ f : Nat → Int, Sup f n → (∀ i j, i < j → j < n → (X i - X j) % 9973 ≠ 0) → (∀ i, i < n → evn f n (X i) % 9973 = 0) → ∀ k, f k % 9973 = 0 := by
  induction n with
  | zero => intro f h _ _ k; rw [h k (Nat.zero_le _)]; rfl
  | succ n ih =>
    intro f hs hd hv
    have hg := tl_sup f n (X n)
    have key : ∀ x, evn f (n + 1) x = (x - X n) * evn (fun j => tl f (n + 1) (X n) (j + 1)) n x + evn f (n + 1) (X n) := fun x => by
      have e : evn f (n + 1) x = evn (fun k => lin (X n) (fun j => tl f (n + 1) (X n) (j + 1)) k + (if k = 0 then tl f (n + 1) (X n) 0 else 0)) (n + 1) x := evn_congr (fun i _ => syn hs (X n) i) x
      rw [e, evn_add, lin_ev (X n) hg, ← tl_zero f (n + 1) (X n), evn_head, if_pos rfl]
      have z : evn (fun i => if i + 1 = 0 then tl f (n + 1) (X n) 0 else 0) n x = 0 := sm_zero _ fun i _ => by show (if i + 1 = 0 then _ else (0 : Int)) * _ = 0; rw [if_neg (by omega), Int.zero_mul]
      rw [z, Int.mul_zero, Int.add_zero]
    have h0 := hv n (by omega)
    have hz := ih (fun j => tl f (n + 1) (X n) (j + 1)) hg (fun i j h1 h2 => hd i j h1 (by omega)) fun i hi => by
      have h1 := hv i (by omega)
      rw [key (X i), Int.add_emod, h0, Int.add_zero, Int.emod_emod] at h1
      rcases no_zero_div _ _ h1 with h2 | h2
      · exact absurd h2 (hd i n hi (by omega))
      · exact h2
    intro k
    have e := syn hs (X n) k
    have el : lin (X n) (fun j => tl f (n + 1) (X n) (j + 1)) k % 9973 = 0 := by
      have := lin_eqm (X n) (g := fun _ => 0) (fun j => by show _ = (0 : Int) % 9973; rw [hz j]; rfl) k
      rw [this]
      match k with
      | 0 => rw [lin_zero]; simp
      | k + 1 => rw [lin_succ]; simp
    rw [e, Int.add_emod, el]
    split
    · rw [tl_zero, h0]; rfl
    · rfl
/-- Two polynomials of n coefficients that agree at n points are one. -/
theorem agree {X : Nat → Int} {n : Nat} {f g : Nat → Int} (hf : Sup f n) (hg : Sup g n) (hd : ∀ i j, i < j → j < n → (X i - X j) % 9973 ≠ 0) (h : ∀ i, i < n → evn f n (X i) % 9973 = evn g n (X i) % 9973) : Eqm f g := fun k => by
  have := roots X n (fun i => f i - g i) (fun k hk => by show f k - g k = 0; rw [hf k hk, hg k hk]; rfl) hd (fun i hi => by rw [evn_sub]; have := h i hi; omega) k
  have e : (f k - g k) % 9973 = 0 := this
  omega
end Go.Proofs.YtaidincogkfodaaDoor
