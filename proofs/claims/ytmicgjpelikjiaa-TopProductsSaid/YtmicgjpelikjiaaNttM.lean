/- The transform of eight numbers modulo 257: what it is, and its bounds. No program in sight. -/
import Derived.Test.YtmicgjpelikjiaaBase
namespace Go.Proofs.Ytmicgjpelikjiaa

/-- Powers of a root modulo 257. -/
def pwl (r : Int) : Nat → Int
  | 0 => 1
  | j + 1 => pwl r j * r % 257
/-- The first k terms of the sum at place i. -/
def dsum (r : Int) (L : List Int) (i : Nat) : Nat → Int
  | 0 => 0
  | k + 1 => dsum r L i k + nth L k * pwl r (i * k % 8)
/-- The transform by a root, and so many times, at place i. -/
def dft (r f : Int) (L : List Int) (i : Nat) : Int := dsum r L i 8 % 257 * f % 257
/-- The transform. -/
def turnL (r f : Int) (L : List Int) : List Int := (List.range 8).map (dft r f L)
/-- The transform as far as place k, zeros behind. -/
def turnK (r f : Int) (L : List Int) (k : Nat) : List Int := (List.range 8).map fun j => if j < k then dft r f L j else 0
/-- Eight numbers below 257. -/
def Eight (L : List Int) : Prop := L.length = 8 ∧ ∀ k, k < 8 → 0 ≤ nth L k ∧ nth L k ≤ 256

theorem pwl_bd (r : Int) (j : Nat) : 0 ≤ pwl r j ∧ pwl r j ≤ 256 := by
  cases j with
  | zero => unfold pwl; omega
  | succ j => unfold pwl; omega
theorem prod_bd (x y : Int) (h1 : 0 ≤ x ∧ x ≤ 256) (h2 : 0 ≤ y ∧ y ≤ 256) : 0 ≤ x * y ∧ x * y ≤ 65536 :=
  ⟨Int.mul_nonneg h1.1 h2.1, Int.mul_le_mul (c := 256) (d := 256) h1.2 h2.2 h2.1 (by omega)⟩
theorem turnL_len (r f : Int) (L : List Int) : (turnL r f L).length = 8 := by simp [turnL]
theorem turnL_nth (r f : Int) (L : List Int) {k : Nat} (h : k < 8) : nth (turnL r f L) k = dft r f L k := by
  show ((List.range 8).map (dft r f L)).getD k 0 = _
  simp [List.getD, h]
theorem dft_bd (r f : Int) (L : List Int) (i : Nat) : 0 ≤ dft r f L i ∧ dft r f L i ≤ 256 := by unfold dft; omega
theorem turnL_eight (r f : Int) (L : List Int) : Eight (turnL r f L) := ⟨turnL_len r f L, fun k hk => by rw [turnL_nth r f L hk]; have := dft_bd r f L k; omega⟩
theorem turnK_zero (r f : Int) (L : List Int) : turnK r f L 0 = List.replicate 8 0 := by simp [turnK]; rfl
theorem turnK_all (r f : Int) (L : List Int) : turnK r f L 8 = turnL r f L := by
  unfold turnK turnL
  apply List.map_congr_left
  intro j hj
  rw [if_pos (by simpa using hj)]
theorem turnK_succ (r f : Int) (L : List Int) (k : Nat) : (turnK r f L k).set k (dft r f L k) = turnK r f L (k + 1) := by
  unfold turnK
  apply List.ext_getElem (by simp)
  intro j h1 h2
  simp at h1 h2
  rw [List.getElem_set]
  by_cases e : k = j
  · subst e; simp
  · rw [if_neg e]
    simp only [List.getElem_map, List.getElem_range]
    by_cases hj : j < k
    · rw [if_pos hj, if_pos (by omega)]
    · rw [if_neg hj, if_neg (by omega)]
/-- Products place by place. -/
def mulL (X Y : List Int) : List Int := (List.range 8).map fun i => nth X i * nth Y i % 257
/-- Products as far as place k, the first list behind. -/
def mulK (X Y : List Int) (k : Nat) : List Int := (List.range 8).map fun i => if i < k then nth X i * nth Y i % 257 else nth X i
theorem mulL_len (X Y : List Int) : (mulL X Y).length = 8 := by simp [mulL]
theorem mulL_nth (X Y : List Int) {k : Nat} (h : k < 8) : nth (mulL X Y) k = nth X k * nth Y k % 257 := by
  show ((List.range 8).map fun i => nth X i * nth Y i % 257).getD k 0 = _
  simp [List.getD, h]
theorem mulL_eight (X Y : List Int) : Eight (mulL X Y) := ⟨mulL_len X Y, fun k hk => by rw [mulL_nth X Y hk]; omega⟩
theorem nth_ext' {L M : List Int} (h : L.length = M.length) (hn : ∀ k, k < L.length → nth L k = nth M k) : L = M := by
  apply List.ext_getElem h
  intro k h1 h2
  have := hn k h1
  unfold nth at this
  simpa [List.getD, List.getElem?_eq_getElem h1, List.getElem?_eq_getElem h2] using this
theorem mulK_nth (X Y : List Int) (k : Nat) {j : Nat} (h : j < 8) : nth (mulK X Y k) j = if j < k then nth X j * nth Y j % 257 else nth X j := by
  show ((List.range 8).map fun i => if i < k then nth X i * nth Y i % 257 else nth X i).getD j 0 = _
  simp [List.getD, h]
theorem mulK_zero (X Y : List Int) (h : X.length = 8) : mulK X Y 0 = X := by
  apply nth_ext' (by simp [mulK, h])
  intro k hk
  simp [mulK] at hk
  rw [mulK_nth X Y 0 hk, if_neg (by omega)]
theorem mulK_all (X Y : List Int) : mulK X Y 8 = mulL X Y := by
  apply nth_ext' (by simp [mulK, mulL])
  intro k hk
  simp [mulK] at hk
  rw [mulK_nth X Y 8 hk, if_pos hk, mulL_nth X Y hk]
theorem mulK_succ (X Y : List Int) {k : Nat} (h : k < 8) : (mulK X Y k).set k (nth X k * nth Y k % 257) = mulK X Y (k + 1) := by
  apply nth_ext' (by simp [mulK])
  intro j hj
  simp [mulK] at hj
  rw [mulK_nth X Y (k + 1) hj]
  by_cases e : j = k
  · subst e
    rw [if_pos (by omega)]
    unfold nth
    simp [List.getD, mulK, h]
  · have : nth ((mulK X Y k).set k (nth X k * nth Y k % 257)) j = nth (mulK X Y k) j := by
      unfold nth
      simp [List.getD, List.getElem?_set_ne (fun h' => e h'.symm)]
    rw [this, mulK_nth X Y k hj]
    by_cases hjk : j < k
    · rw [if_pos hjk, if_pos (by omega)]
    · rw [if_neg hjk, if_neg (by omega)]
/-- The cyclic convolution. -/
def foldL (X Y : List Int) : List Int := turnL 253 225 (mulL (turnL 64 1 X) (turnL 64 1 Y))
/-- The number of what is wrong with a list to be transformed. -/
def eightE (L : List Int) : Int := if L.length ≠ 8 then 3 else 1
end Go.Proofs.Ytmicgjpelikjiaa
