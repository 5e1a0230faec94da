/- Finite sums and the product of two rows of coefficients (convolution). No program in sight. -/
import Derived.Test.YtpamlngkhjnboaaBase
namespace Go.Proofs.Ytpamlngkhjnboaa

/-- The sum of the first n values. -/
def sm : Nat → (Nat → Int) → Int
  | 0, _ => 0
  | n + 1, f => sm n f + f n
theorem sm_congr {f g : Nat → Int} : ∀ n, (∀ i, i < n → f i = g i) → sm n f = sm n g := by
  intro n
  induction n with
  | zero => intro _; rfl
  | succ n ih =>
    intro h
    show sm n f + f n = sm n g + g n
    rw [ih fun i hi => h i (by omega), h n (by omega)]
theorem sm_add (f g : Nat → Int) (n : Nat) : sm n (fun i => f i + g i) = sm n f + sm n g := by
  induction n with
  | zero => rfl
  | succ n ih => show sm n (fun i => f i + g i) + (f n + g n) = _; rw [ih]; show _ = sm n f + f n + (sm n g + g n); omega
theorem sm_sub (f g : Nat → Int) (n : Nat) : sm n (fun i => f i - g i) = sm n f - sm n g := by
  induction n with
  | zero => rfl
  | succ n ih => show sm n (fun i => f i - g i) + (f n - g n) = _; rw [ih]; show _ = sm n f + f n - (sm n g + g n); omega
theorem sm_mul (c : Int) (f : Nat → Int) (n : Nat) : sm n (fun i => c * f i) = c * sm n f := by
  induction n with
  | zero => exact (Int.mul_zero c).symm
  | succ n ih => show sm n (fun i => c * f i) + c * f n = c * (sm n f + f n); rw [ih, Int.mul_add]
theorem sm_zero {f : Nat → Int} (n : Nat) (h : ∀ i, i < n → f i = 0) : sm n f = 0 := by
  induction n with
  | zero => rfl
  | succ n ih => show sm n f + f n = 0; rw [ih fun i hi => h i (by omega), h n (by omega)]; rfl
theorem sm_split (f : Nat → Int) (n m : Nat) : sm (n + m) f = sm n f + sm m (fun i => f (n + i)) := by
  induction m with
  | zero => show sm n f = sm n f + 0; omega
  | succ m ih => show sm (n + m) f + f (n + m) = sm n f + (sm m (fun i => f (n + i)) + f (n + m)); rw [ih]; omega
theorem sm_head (f : Nat → Int) (n : Nat) : sm (n + 1) f = f 0 + sm n (fun i => f (i + 1)) := by
  rw [Nat.add_comm n 1, sm_split]
  show 0 + f 0 + _ = _
  rw [Int.zero_add]
  congr 1
  exact sm_congr n fun i _ => by rw [Nat.add_comm]
theorem sm_rev (f : Nat → Int) (n : Nat) : sm (n + 1) f = sm (n + 1) (fun i => f (n - i)) := by
  induction n with
  | zero => rfl
  | succ n ih =>
    rw [sm_head (fun i => f (n + 1 - i))]
    show sm (n + 1) f + f (n + 1) = f (n + 1 - 0) + _
    have e : sm (n + 1) (fun i => f (n + 1 - (i + 1))) = sm (n + 1) (fun i => f (n - i)) := sm_congr _ fun i _ => by rw [show n + 1 - (i + 1) = n - i by omega]
    rw [e, ← ih]
    show _ = f (n + 1) + _
    omega
theorem sm_comm (f : Nat → Nat → Int) (n m : Nat) : sm n (fun i => sm m (fun j => f i j)) = sm m (fun j => sm n (fun i => f i j)) := by
  induction n with
  | zero => exact (sm_zero m fun i _ => rfl).symm
  | succ n ih =>
    show sm n (fun i => sm m (fun j => f i j)) + sm m (fun j => f n j) = sm m (fun j => sm n (fun i => f i j) + f n j)
    rw [ih, sm_add]
theorem sm_tri (F : Nat → Nat → Int) (k : Nat) : sm (k + 1) (fun i => sm (i + 1) (fun j => F i j)) = sm (k + 1) (fun j => sm (k - j + 1) (fun i => F (i + j) j)) := by
  induction k with
  | zero => rfl
  | succ k ih =>
    show sm (k + 1) (fun i => sm (i + 1) (fun j => F i j)) + sm (k + 2) (fun j => F (k + 1) j) = _
    rw [ih]
    show _ + (sm (k + 1) (fun j => F (k + 1) j) + F (k + 1) (k + 1)) = sm (k + 1) (fun j => sm (k + 1 - j + 1) (fun i => F (i + j) j)) + sm (k + 1 - (k + 1) + 1) (fun i => F (i + (k + 1)) (k + 1))
    have e1 : sm (k + 1 - (k + 1) + 1) (fun i => F (i + (k + 1)) (k + 1)) = F (k + 1) (k + 1) := by
      rw [show k + 1 - (k + 1) + 1 = 0 + 1 by omega]
      show 0 + F (0 + (k + 1)) (k + 1) = _
      rw [Int.zero_add, Nat.zero_add]
    have e2 : sm (k + 1) (fun j => sm (k + 1 - j + 1) (fun i => F (i + j) j)) = sm (k + 1) (fun j => sm (k - j + 1) (fun i => F (i + j) j) + F (k + 1) j) := by
      refine sm_congr _ fun j hj => ?_
      rw [show k + 1 - j + 1 = (k - j + 1) + 1 by omega]
      show sm (k - j + 1) (fun i => F (i + j) j) + F (k - j + 1 + j) j = _
      rw [show k - j + 1 + j = k + 1 by omega]
    rw [e1, e2, sm_add]
    exact (Int.add_assoc _ _ _).symm

/-- The product's coefficient at k. -/
def cv (f g : Nat → Int) (k : Nat) : Int := sm (k + 1) fun i => f i * g (k - i)
theorem cv_congr {f f' g g' : Nat → Int} (k : Nat) (hf : ∀ i, i ≤ k → f i = f' i) (hg : ∀ i, i ≤ k → g i = g' i) : cv f g k = cv f' g' k :=
  sm_congr _ fun i hi => by rw [hf i (by omega), hg (k - i) (by omega)]
theorem cv_comm (f g : Nat → Int) (k : Nat) : cv f g k = cv g f k := by
  unfold cv
  rw [sm_rev]
  refine sm_congr _ fun i hi => ?_
  rw [show k - (k - i) = i by omega, Int.mul_comm]
theorem cv_add_right (f g h : Nat → Int) (k : Nat) : cv f (fun i => g i + h i) k = cv f g k + cv f h k := by
  unfold cv
  rw [← sm_add]
  exact sm_congr _ fun i _ => Int.mul_add _ _ _
theorem cv_add_left (f g h : Nat → Int) (k : Nat) : cv (fun i => f i + g i) h k = cv f h k + cv g h k := by
  rw [cv_comm, cv_add_right, cv_comm h f, cv_comm h g]
theorem cv_smul_right (c : Int) (f g : Nat → Int) (k : Nat) : cv f (fun i => c * g i) k = c * cv f g k := by
  unfold cv
  rw [← sm_mul]
  exact sm_congr _ fun i _ => by rw [← Int.mul_assoc, ← Int.mul_assoc, Int.mul_comm (f i) c]
theorem cv_smul_left (c : Int) (f g : Nat → Int) (k : Nat) : cv (fun i => c * f i) g k = c * cv f g k := by
  rw [cv_comm, cv_smul_right, cv_comm]
theorem cv_assoc (f g h : Nat → Int) (k : Nat) : cv (cv f g) h k = cv f (cv g h) k := by
  show sm (k + 1) (fun i => sm (i + 1) (fun j => f j * g (i - j)) * h (k - i)) = sm (k + 1) (fun j => f j * sm (k - j + 1) (fun i => g i * h (k - j - i)))
  have e1 : sm (k + 1) (fun i => sm (i + 1) (fun j => f j * g (i - j)) * h (k - i)) = sm (k + 1) (fun i => sm (i + 1) (fun j => f j * g (i - j) * h (k - i))) := by
    refine sm_congr _ fun i _ => ?_
    rw [Int.mul_comm, ← sm_mul]
    exact sm_congr _ fun j _ => Int.mul_comm _ _
  rw [e1, sm_tri (fun i j => f j * g (i - j) * h (k - i)) k]
  refine sm_congr _ fun j hj => ?_
  rw [← sm_mul]
  refine sm_congr _ fun i hi => ?_
  show f j * g (i + j - j) * h (k - (i + j)) = f j * (g i * h (k - j - i))
  rw [show i + j - j = i by omega, show k - (i + j) = k - j - i by omega, Int.mul_assoc]
/-- A row moved up by h places. -/
def sh (h : Nat) (f : Nat → Int) (k : Nat) : Int := if k < h then 0 else f (k - h)
theorem cv_sh_left (h : Nat) (f g : Nat → Int) (k : Nat) : cv (sh h f) g k = sh h (cv f g) k := by
  unfold cv
  by_cases hk : k < h
  · rw [sh, if_pos hk]
    exact sm_zero _ fun i hi => by rw [sh, if_pos (by omega), Int.zero_mul]
  · rw [sh, if_neg hk, show k + 1 = h + (k - h + 1) by omega, sm_split, sm_zero h (fun i hi => by rw [sh, if_pos hi, Int.zero_mul]), Int.zero_add]
    refine sm_congr _ fun i hi => ?_
    rw [sh, if_neg (by omega), show h + i - h = i by omega, show k - (h + i) = k - h - i by omega]
theorem cv_sh_right (h : Nat) (f g : Nat → Int) (k : Nat) : cv f (sh h g) k = sh h (cv f g) k := by
  rw [cv_comm, cv_sh_left]
  unfold sh
  split
  · rfl
  · exact cv_comm _ _ _
theorem sh_sh (a b : Nat) (f : Nat → Int) (k : Nat) : sh a (sh b f) k = sh (a + b) f k := by
  unfold sh
  by_cases h1 : k < a
  · rw [if_pos h1, if_pos (by omega)]
  · rw [if_neg h1]
    by_cases h2 : k - a < b
    · rw [if_pos h2, if_pos (by omega)]
    · rw [if_neg h2, if_neg (by omega), show k - (a + b) = k - a - b by omega]
theorem sh_add (a : Nat) (f g : Nat → Int) (k : Nat) : sh a (fun i => f i + g i) k = sh a f k + sh a g k := by
  unfold sh
  split
  · rfl
  · rfl
/-- Nothing from place n on. -/
def Sup (f : Nat → Int) (n : Nat) : Prop := ∀ k, n ≤ k → f k = 0
theorem sup_nth (L : List Int) : Sup (nth L) L.length := fun k hk => by unfold nth; simp [List.getD, List.getElem?_eq_none hk]
theorem cv_sup {f g : Nat → Int} {n m : Nat} (hf : Sup f n) (hg : Sup g m) : Sup (cv f g) (n + m - 1) := fun k hk => by
  refine sm_zero _ fun i hi => ?_
  by_cases h : n ≤ i
  · rw [hf i h, Int.zero_mul]
  · by_cases h' : m ≤ k - i
    · rw [hg _ h', Int.mul_zero]
    · omega
theorem Sup.mono {f : Nat → Int} {n m : Nat} (h : Sup f n) (hm : n ≤ m) : Sup f m := fun k hk => h k (by omega)

/-- Karatsuba's identity. -/
theorem kara_id (a0 a1 b0 b1 : Nat → Int) (h k : Nat) :
    cv (fun i => a0 i + sh h a1 i) (fun i => b0 i + sh h b1 i) k =
      cv a0 b0 k + sh (h + h) (cv a1 b1) k + sh h (cv (fun i => a0 i + a1 i) (fun i => b0 i + b1 i)) k - sh h (cv a0 b0) k - sh h (cv a1 b1) k := by
  rw [cv_add_left, cv_add_right, cv_add_right, cv_sh_right, cv_sh_left, cv_sh_left]
  have e : sh h (cv (fun i => a0 i + a1 i) (fun i => b0 i + b1 i)) k = sh h (cv a0 b0) k + sh h (cv a0 b1) k + sh h (cv a1 b0) k + sh h (cv a1 b1) k := by
    unfold sh
    split
    · rfl
    · rw [cv_add_left, cv_add_right, cv_add_right]; omega
  have e2 : sh h (cv a1 (sh h b1)) k = sh (h + h) (cv a1 b1) k := by
    rw [← sh_sh]
    unfold sh
    split
    · rfl
    · exact cv_sh_right h a1 b1 _
  rw [e, e2]
  omega
end Go.Proofs.Ytpamlngkhjnboaa
