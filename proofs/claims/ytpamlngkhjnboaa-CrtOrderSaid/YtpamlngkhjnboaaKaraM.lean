/- Karatsuba's product of two rows: the lists, and their bounds. No program in sight. -/
import Derived.Test.YtpamlngkhjnboaaConv
namespace Go.Proofs.Ytpamlngkhjnboaa

/-- A list by its values. -/
def mk (n : Nat) (f : Nat → Int) : List Int := (List.range n).map f
theorem mk_len (n : Nat) (f : Nat → Int) : (mk n f).length = n := by simp [mk]
theorem mk_nth (n : Nat) (f : Nat → Int) (k : Nat) : nth (mk n f) k = if k < n then f k else 0 := by
  show ((List.range n).map f).getD k 0 = _
  by_cases h : k < n
  · simp [List.getD, h]
  · simp [List.getD, h]
theorem mk_nth' {n : Nat} (f : Nat → Int) {k : Nat} (h : k < n) : nth (mk n f) k = f k := by rw [mk_nth, if_pos h]
theorem list_ext {L M : List Int} (h : L.length = M.length) (hn : ∀ k, k < L.length → nth L k = nth M k) : L = M := by
  apply List.ext_getElem h
  intro k h1 h2
  have := hn k h1
  unfold nth at this
  simpa [List.getD, List.getElem?_eq_getElem h1, List.getElem?_eq_getElem h2] using this
theorem mk_of (L : List Int) (n : Nat) (h : L.length = n) : mk n (nth L) = L :=
  list_ext (by rw [mk_len, h]) fun k hk => by rw [mk_len] at hk; exact mk_nth' _ hk
theorem mk_congr {n : Nat} {f g : Nat → Int} (h : ∀ k, k < n → f k = g k) : mk n f = mk n g :=
  list_ext (by rw [mk_len, mk_len]) fun k hk => by rw [mk_len] at hk; rw [mk_nth' _ hk, mk_nth' _ hk, h k hk]
theorem mk_set {n : Nat} (f : Nat → Int) (j : Nat) (z : Int) : (mk n f).set j z = mk n fun k => if k = j then z else f k := by
  refine list_ext (by simp [mk_len]) fun k hk => ?_
  simp [mk_len] at hk
  rw [mk_nth' _ hk]
  by_cases e : k = j
  · subst e
    rw [if_pos rfl]
    unfold nth
    simp [List.getD, mk_len, hk]
  · rw [if_neg e, ← mk_nth' f hk]
    unfold nth
    simp [List.getD, List.getElem?_set_ne (fun h => e h.symm)]

/-- All numbers within -X and X. -/
def Bnd (f : Nat → Int) (X : Int) : Prop := ∀ j, -X ≤ f j ∧ f j ≤ X
theorem sm_bnd {f : Nat → Int} {C : Int} (n : Nat) (h : ∀ i, i < n → -C ≤ f i ∧ f i ≤ C) : -((n : Int) * C) ≤ sm n f ∧ sm n f ≤ (n : Int) * C := by
  induction n with
  | zero => simp [sm]
  | succ n ih =>
    have h1 := ih fun i hi => h i (by omega)
    have h2 := h n (by omega)
    have e : ((n + 1 : Nat) : Int) * C = (n : Int) * C + C := by push_cast; rw [Int.add_mul, Int.one_mul]
    show _ ≤ sm n f + f n ∧ sm n f + f n ≤ _
    rw [e]
    omega
theorem mul_bnd {x y X Y : Int} (hx : -X ≤ x ∧ x ≤ X) (hy : -Y ≤ y ∧ y ≤ Y) (hX : 0 ≤ X) (hY : 0 ≤ Y) : -(X * Y) ≤ x * y ∧ x * y ≤ X * Y := by
  have h1 : x.natAbs ≤ X.natAbs := by omega
  have h2 : y.natAbs ≤ Y.natAbs := by omega
  have h3 : (x * y).natAbs ≤ (X * Y).natAbs := by rw [Int.natAbs_mul, Int.natAbs_mul]; exact Nat.mul_le_mul h1 h2
  have h4 : 0 ≤ X * Y := Int.mul_nonneg hX hY
  omega
theorem cv_bnd {f g : Nat → Int} {X Y : Int} {n : Nat} (hX : 0 ≤ X) (hY : 0 ≤ Y) (hf : Bnd f X) (hg : Bnd g Y) (hs : Sup f n) : Bnd (cv f g) ((n : Int) * (X * Y)) := fun k => by
  have hp : 0 ≤ X * Y := Int.mul_nonneg hX hY
  have hb : ∀ i, -(X * Y) ≤ f i * g (k - i) ∧ f i * g (k - i) ≤ X * Y := fun i => mul_bnd (hf i) (hg _) hX hY
  unfold cv
  by_cases h : k + 1 ≤ n
  · have h1 := sm_bnd (k + 1) fun i _ => hb i
    have h2 : ((k + 1 : Nat) : Int) * (X * Y) ≤ (n : Int) * (X * Y) := Int.mul_le_mul_of_nonneg_right (by omega) hp
    omega
  · rw [show k + 1 = n + (k + 1 - n) by omega, sm_split, sm_zero (k + 1 - n) (fun i _ => by rw [hs _ (by omega), Int.zero_mul])]
    have h1 := sm_bnd n fun i _ => hb i
    omega
/-- The product of two rows of n. -/
def convL (n : Nat) (L M : List Int) : List Int := mk (2 * n - 1) (cv (nth L) (nth M))
theorem convL_len (n : Nat) (L M : List Int) : (convL n L M).length = 2 * n - 1 := mk_len _ _
theorem convL_nth {n : Nat} {L M : List Int} (hL : L.length = n) (hM : M.length = n) (k : Nat) : nth (convL n L M) k = cv (nth L) (nth M) k := by
  unfold convL
  rw [mk_nth]
  split
  · rfl
  · exact (cv_sup (hL ▸ sup_nth L) (hM ▸ sup_nth M) k (by omega)).symm
/-- The sum of two rows. -/
def addL (n : Nat) (L M : List Int) : List Int := mk n fun i => nth L i + nth M i
theorem addL_nth {n : Nat} {L M : List Int} (hL : L.length = n) (hM : M.length = n) (k : Nat) : nth (addL n L M) k = nth L k + nth M k := by
  unfold addL
  rw [mk_nth]
  split
  · rfl
  · rw [sup_nth L k (by omega), sup_nth M k (by omega)]; rfl
/-- A row, t times, added to another one from a place on. -/
def addAt (n : Nat) (T : List Int) (at' : Nat) (M : List Int) (t : Int) : List Int := mk n fun k => nth T k + t * sh at' (nth M) k
theorem addAt_nth {n : Nat} {T : List Int} {at' : Nat} {M : List Int} {t : Int} {k : Nat} (h : k < n) : nth (addAt n T at' M t) k = nth T k + t * sh at' (nth M) k := mk_nth' _ h
theorem nth_halves {L : List Int} {h : Nat} (hL : L.length = h + h) (k : Nat) : nth L k = nth (L.take h) k + sh h (nth (L.drop h)) k := by
  unfold sh
  by_cases hk : k < h
  · rw [if_pos hk]
    unfold nth
    simp [List.getD, hk]
  · rw [if_neg hk, sup_nth (L.take h) k (by simp; omega)]
    unfold nth
    simp [List.getD, show h + (k - h) = k by omega]
/-- Karatsuba's step, for lists. -/
theorem kara_step {h : Nat} (h1 : 1 ≤ h) {L M : List Int} (hL : L.length = h + h) (hM : M.length = h + h) :
    let low := convL h (L.take h) (M.take h)
    let high := convL h (L.drop h) (M.drop h)
    let mid := convL h (addL h (L.take h) (L.drop h)) (addL h (M.take h) (M.drop h))
    let N := 2 * (h + h) - 1
    addAt N (addAt N (addAt N (addAt N (addAt N (List.replicate N 0) 0 low 1) (h + h) high 1) h mid 1) h low (-1)) h high (-1) = convL (h + h) L M := by
  intro low high mid N
  have a1 : (L.take h).length = h := by simp; omega
  have a2 : (L.drop h).length = h := by simp; omega
  have b1 : (M.take h).length = h := by simp; omega
  have b2 : (M.drop h).length = h := by simp; omega
  refine list_ext (by rw [convL_len]; exact mk_len _ _) fun k hk => ?_
  have hk' : k < N := by
    have : (addAt N (addAt N (addAt N (addAt N (addAt N (List.replicate N 0) 0 low 1) (h + h) high 1) h mid 1) h low (-1)) h high (-1)).length = N := mk_len _ _
    omega
  rw [addAt_nth hk', addAt_nth hk', addAt_nth hk', addAt_nth hk', addAt_nth hk', convL_nth hL hM]
  have e0 : nth (List.replicate N 0) k = 0 := by unfold nth; simp [List.getD, hk']
  have e1 : sh 0 (nth low) k = cv (nth (L.take h)) (nth (M.take h)) k := by
    unfold sh
    rw [if_neg (by omega)]
    exact convL_nth a1 b1 k
  have e2 : sh (h + h) (nth high) k = sh (h + h) (cv (nth (L.drop h)) (nth (M.drop h))) k := by
    unfold sh; split
    · rfl
    · exact convL_nth a2 b2 _
  have e3 : sh h (nth low) k = sh h (cv (nth (L.take h)) (nth (M.take h))) k := by
    unfold sh; split
    · rfl
    · exact convL_nth a1 b1 _
  have e4 : sh h (nth high) k = sh h (cv (nth (L.drop h)) (nth (M.drop h))) k := by
    unfold sh; split
    · rfl
    · exact convL_nth a2 b2 _
  have e5 : sh h (nth mid) k = sh h (cv (fun i => nth (L.take h) i + nth (L.drop h) i) (fun i => nth (M.take h) i + nth (M.drop h) i)) k := by
    unfold sh; split
    · rfl
    · have l1 : (addL h (L.take h) (L.drop h)).length = h := mk_len _ _
      have l2 : (addL h (M.take h) (M.drop h)).length = h := mk_len _ _
      exact (convL_nth l1 l2 _).trans (cv_congr _ (fun i _ => addL_nth a1 a2 i) (fun i _ => addL_nth b1 b2 i))
  have e6 : cv (nth L) (nth M) k = cv (fun i => nth (L.take h) i + sh h (nth (L.drop h)) i) (fun i => nth (M.take h) i + sh h (nth (M.drop h)) i) k :=
    cv_congr _ (fun i _ => nth_halves hL i) (fun i _ => nth_halves hM i)
  rw [e6, kara_id, e0, e1, e2, e3, e4, e5]
  omega
theorem bnd_take {L : List Int} {X : Int} (h : Bnd (nth L) X) (k : Nat) : Bnd (nth (L.take k)) X := fun j => by
  have h0 := h j
  by_cases hj : j < k
  · have e : nth (L.take k) j = nth L j := by unfold nth; simp [List.getD, hj]
    rw [e]; exact h0
  · have e : nth (L.take k) j = 0 := sup_nth (L.take k) j (by simp; omega)
    rw [e]; omega
theorem bnd_drop {L : List Int} {X : Int} (h : Bnd (nth L) X) (k : Nat) : Bnd (nth (L.drop k)) X := fun j => by
  have e : nth (L.drop k) j = nth L (k + j) := by unfold nth; simp [List.getD]
  rw [e]; exact h _
theorem bnd_add {n : Nat} {L M : List Int} {X : Int} (hL : Bnd (nth L) X) (hM : Bnd (nth M) X) : Bnd (nth (addL n L M)) (X + X) := fun j => by
  have h1 := hL j
  have h2 := hM j
  unfold addL
  rw [mk_nth]
  split <;> omega
theorem bnd_addAt {n : Nat} {T M : List Int} {a : Nat} {t X Y : Int} (hT : Bnd (nth T) X) (hM : Bnd (nth M) Y) (ht : t = 1 ∨ t = -1) : Bnd (nth (addAt n T a M t)) (X + Y) := fun j => by
  have h1 := hT j
  have h2 := hM (j - a)
  unfold addAt
  rw [mk_nth]
  unfold sh
  rcases ht with rfl | rfl
  · split
    · split <;> omega
    · omega
  · split
    · split <;> omega
    · omega
theorem Bnd.mono {f : Nat → Int} {X Y : Int} (h : Bnd f X) (hXY : X ≤ Y) : Bnd f Y := fun j => by have := h j; omega
theorem bnd_zero (n : Nat) : Bnd (nth (List.replicate n 0)) 0 := fun j => by
  have e : nth (List.replicate n (0 : Int)) j = 0 := by
    unfold nth
    by_cases h : j < n <;> simp [List.getD, h]
  rw [e]; omega
theorem conv_bnd {n : Nat} {L M : List Int} {X : Int} (hX : 0 ≤ X) (hn : 1 ≤ n) (hXn : X * (n : Int) ≤ 16000) (hL : Bnd (nth L) X) (hM : Bnd (nth M) X) (lL : L.length = n) (lM : M.length = n) : Bnd (nth (convL n L M)) 256000000 := fun j => by
  rw [convL_nth lL lM]
  have h := cv_bnd hX hX hL hM (lL ▸ sup_nth L) j
  have e1 : X ≤ 16000 := by
    have : X * 1 ≤ X * (n : Int) := Int.mul_le_mul_of_nonneg_left (by omega) hX
    omega
  have e2 : (n : Int) * (X * X) ≤ 16000 * 16000 := by
    rw [← Int.mul_assoc, Int.mul_comm (n : Int)]
    exact Int.mul_le_mul hXn e1 hX (by omega)
  omega
/-- What a product comes to at 1. -/
theorem sm_conv {f g : Nat → Int} {n : Nat} (h1 : 1 ≤ n) (hf : Sup f n) (hg : Sup g n) : sm (2 * n - 1) (cv f g) = sm n f * sm n g := by
  rw [show 2 * n - 1 = (2 * n - 2) + 1 by omega]
  show sm (2 * n - 2 + 1) (fun i => sm (i + 1) (fun j => f j * g (i - j))) = _
  rw [sm_tri (fun i j => f j * g (i - j)) (2 * n - 2)]
  have e : ∀ j, j < 2 * n - 2 + 1 → sm (2 * n - 2 - j + 1) (fun i => f j * g (i + j - j)) = sm n g * f j := by
    intro j hj
    by_cases h : j < n
    · rw [show 2 * n - 2 - j + 1 = n + (2 * n - 2 - j + 1 - n) by omega]
      rw [sm_split, sm_zero (2 * n - 2 - j + 1 - n) (fun i _ => by rw [hg _ (by omega), Int.mul_zero]), Int.add_zero, Int.mul_comm, ← sm_mul]
      exact sm_congr _ fun i _ => by rw [Nat.add_sub_cancel]
    · rw [hf j (by omega), Int.mul_zero]
      exact sm_zero _ fun i _ => Int.zero_mul _
  rw [sm_congr _ e, sm_mul, show 2 * n - 2 + 1 = n + (n - 1) by omega, sm_split, sm_zero (n - 1) (fun i _ => hf _ (by omega)), Int.add_zero, Int.mul_comm]
theorem sumL_sm (L : List Int) : ∀ k, k ≤ L.length → (L.take k).foldl (· + ·) 0 = sm k (nth L) := by
  intro k
  induction k with
  | zero => intro _; simp [sm]
  | succ k ih =>
    intro hk
    rw [List.take_add_one, List.foldl_append, ih (by omega), List.getElem?_eq_getElem (by omega)]
    show sm k (nth L) + L[k] = sm k (nth L) + nth L k
    unfold nth
    simp [List.getD, List.getElem?_eq_getElem (show k < L.length by omega)]
theorem conv_add {n : Nat} {L M K : List Int} (hL : L.length = n) (hM : M.length = n) (hK : K.length = n) (k : Nat) : nth (convL n L (addL n M K)) k = nth (convL n L M) k + nth (convL n L K) k := by
  have l1 : (addL n M K).length = n := mk_len _ _
  rw [convL_nth hL l1, convL_nth hL hM, convL_nth hL hK, ← cv_add_right]
  exact cv_congr _ (fun _ _ => rfl) (fun i _ => addL_nth hM hK i)
end Go.Proofs.Ytpamlngkhjnboaa
