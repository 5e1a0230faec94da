/- The reference's own ways to the transform and the convolution: running powers, running sums. No program in sight. -/
import Derived.Test.YtmicgjpelikjiaaDoorNttLaw
namespace Go.Proofs.YtmicgjpelikjiaaDoor

/-- Running sums modulo 257 with running powers. -/
def rsum (r : Int) (L : List Int) (i : Nat) : Nat → Int
  | 0 => 0
  | k + 1 => (rsum r L i k + nth L k * pwl (pwl r i) k) % 257
theorem pw_run64 : ∀ i, i < 8 → ∀ k, k < 8 → pwl (pwl 64 i) k = pwl 64 (i * k % 8) := by decide
theorem pw_run253 : ∀ i, i < 8 → ∀ k, k < 8 → pwl (pwl 253 i) k = pwl 253 (i * k % 8) := by decide
theorem pw_run {r : Int} (h : r = 64 ∨ r = 253) {i k : Nat} (hi : i < 8) (hk : k < 8) : pwl (pwl r i) k = pwl r (i * k % 8) := by
  rcases h with h | h
  · subst h; exact pw_run64 i hi k hk
  · subst h; exact pw_run253 i hi k hk
theorem rsum_dsum {r : Int} (h : r = 64 ∨ r = 253) (L : List Int) {i : Nat} (hi : i < 8) : ∀ k, k ≤ 8 → rsum r L i k = dsum r L i k % 257 := by
  intro k
  induction k with
  | zero => intro _; rfl
  | succ k ih =>
    intro hk
    show (rsum r L i k + nth L k * pwl (pwl r i) k) % 257 = (dsum r L i k + nth L k * pwl r (i * k % 8)) % 257
    rw [ih (by omega), pw_run h hi (by omega), Int.emod_add_emod]
theorem rsum_dft {r : Int} (h : r = 64 ∨ r = 253) (f : Int) (L : List Int) {i : Nat} (hi : i < 8) : rsum r L i 8 * f % 257 = dft r f L i := by
  rw [rsum_dsum h L hi 8 (by omega)]; rfl
theorem rsum_bd (r : Int) (L : List Int) (i k : Nat) : 0 ≤ rsum r L i k ∧ rsum r L i k ≤ 256 := by
  cases k with
  | zero => unfold rsum; omega
  | succ k => unfold rsum; omega
/-- The transform's first k places. -/
def turnP (r f : Int) (L : List Int) (k : Nat) : List Int := (List.range k).map (dft r f L)
theorem turnP_succ (r f : Int) (L : List Int) (k : Nat) : turnP r f L (k + 1) = turnP r f L k ++ [dft r f L k] := by
  simp [turnP, List.range_succ]
theorem turnP_len (r f : Int) (L : List Int) (k : Nat) : (turnP r f L k).length = k := by simp [turnP]

/-! The convolution, pair by pair. -/
def stepC (X Y : List Int) (i j : Nat) (C : List Int) : List Int := C.set ((i + j) % 8) ((nth C ((i + j) % 8) + nth X i * nth Y j) % 257)
def rowC (X Y : List Int) (i : Nat) (C : List Int) : Nat → List Int
  | 0 => C
  | j + 1 => stepC X Y i j (rowC X Y i C j)
def allC (X Y : List Int) : Nat → List Int
  | 0 => List.replicate 8 0
  | i + 1 => rowC X Y i (allC X Y i) 8
theorem stepC_eight (X Y : List Int) (i j : Nat) {C : List Int} (h : Eight C) : Eight (stepC X Y i j C) := by
  refine ⟨by simp [stepC, h.1], fun k hk => ?_⟩
  unfold stepC
  by_cases e : k = (i + j) % 8
  · subst e
    unfold nth
    simp [List.getD, h.1, hk]
    omega
  · have : nth (C.set ((i + j) % 8) ((nth C ((i + j) % 8) + nth X i * nth Y j) % 257)) k = nth C k := by
      unfold nth
      simp [List.getD, List.getElem?_set_ne (fun h' => e h'.symm)]
    rw [this]
    exact h.2 k hk
theorem rowC_eight (X Y : List Int) (i : Nat) {C : List Int} (h : Eight C) (j : Nat) : Eight (rowC X Y i C j) := by
  induction j with
  | zero => exact h
  | succ j ih => exact stepC_eight X Y i j ih
theorem zero_nth : ∀ k, k < 8 → 0 ≤ nth (List.replicate 8 0) k ∧ nth (List.replicate 8 0) k ≤ 256 := by decide
theorem zero_eight : Eight (List.replicate 8 0) := ⟨rfl, zero_nth⟩
theorem allC_eight (X Y : List Int) (i : Nat) : Eight (allC X Y i) := by
  induction i with
  | zero => exact zero_eight
  | succ i ih => exact rowC_eight X Y i ih 8
theorem dsum_set (r : Int) (C : List Int) (hC : C.length = 8) (i : Nat) {m : Nat} (hm : m < 8) (v : Int) : ∀ n, n ≤ 8 → dsum r (C.set m v) i n = dsum r C i n + (if m < n then (v - nth C m) * pwl r (i * m % 8) else 0) := by
  intro n
  induction n with
  | zero => intro _; simp [dsum]
  | succ n ih =>
    intro hn
    show dsum r (C.set m v) i n + nth (C.set m v) n * pwl r (i * n % 8) = dsum r C i n + nth C n * pwl r (i * n % 8) + _
    rw [ih (by omega)]
    by_cases e : m = n
    · subst e
      have : nth (C.set m v) m = v := by unfold nth; simp [List.getD, hC, hm]
      rw [this, if_neg (by omega), if_pos (by omega), Int.sub_mul]
      omega
    · have : nth (C.set m v) n = nth C n := by
        unfold nth
        simp [List.getD, List.getElem?_set_ne e]
      rw [this]
      by_cases h : m < n
      · rw [if_pos h, if_pos (by omega)]; omega
      · rw [if_neg h, if_neg (by omega)]; omega
theorem pw_mul64 : ∀ k, k < 8 → ∀ i, i < 8 → ∀ j, j < 8 → pwl 64 (k * ((i + j) % 8) % 8) = pwl 64 (k * i % 8) * pwl 64 (k * j % 8) % 257 := by decide
theorem step_sum (X Y : List Int) {i j k : Nat} (hi : i < 8) (hj : j < 8) (hk : k < 8) {C : List Int} (h : Eight C) :
    ∃ q, dsum 64 (stepC X Y i j C) k 8 = dsum 64 C k 8 + nth X i * pwl 64 (k * i % 8) * (nth Y j * pwl 64 (k * j % 8)) + 257 * q := by
  unfold stepC
  rw [dsum_set 64 C h.1 k (m := (i + j) % 8) (by omega) _ 8 (by omega), if_pos (by omega), pw_mul64 k hk i hi j hj]
  generalize nth C ((i + j) % 8) = c
  generalize pwl 64 (k * i % 8) = p
  generalize pwl 64 (k * j % 8) = q
  generalize nth X i = x
  generalize nth Y j = y
  have e1 := Int.emod_add_mul_ediv (c + x * y) 257
  have e2 := Int.emod_add_mul_ediv (p * q) 257
  generalize (c + x * y) % 257 = v at *
  generalize (c + x * y) / 257 = v' at *
  generalize p * q % 257 = u at *
  generalize p * q / 257 = u' at *
  refine ⟨- (v' * u) - x * y * u', ?_⟩
  have a1 : v - c = x * y - 257 * v' := by omega
  have a2 : u = p * q - 257 * u' := by omega
  rw [a1]
  grind
theorem row_sum (X Y : List Int) {i k : Nat} (hi : i < 8) (hk : k < 8) {C : List Int} (h : Eight C) : ∀ j, j ≤ 8 →
    ∃ q, dsum 64 (rowC X Y i C j) k 8 = dsum 64 C k 8 + nth X i * pwl 64 (k * i % 8) * dsum 64 Y k j + 257 * q := by
  intro j
  induction j with
  | zero => intro _; exact ⟨0, by simp [rowC, dsum]⟩
  | succ j ih =>
    intro hj
    obtain ⟨q, e⟩ := ih (by omega)
    obtain ⟨s, e'⟩ := step_sum X Y hi (by omega : j < 8) hk (rowC_eight X Y i h j)
    refine ⟨q + s, ?_⟩
    show dsum 64 (stepC X Y i j (rowC X Y i C j)) k 8 = _ + _ * (dsum 64 Y k j + nth Y j * pwl 64 (k * j % 8)) + _
    rw [e', e, Int.mul_add]
    omega
theorem all_sum (X Y : List Int) {k : Nat} (hk : k < 8) : ∀ i, i ≤ 8 →
    ∃ q, dsum 64 (allC X Y i) k 8 = dsum 64 X k i * dsum 64 Y k 8 + 257 * q := by
  intro i
  induction i with
  | zero =>
    intro _
    refine ⟨0, ?_⟩
    simp [allC, dsum, nth, List.getD]
  | succ i ih =>
    intro hi
    obtain ⟨q, e⟩ := ih (by omega)
    obtain ⟨s, e'⟩ := row_sum X Y (by omega : i < 8) hk (allC_eight X Y i) 8 (by omega)
    refine ⟨q + s, ?_⟩
    show dsum 64 (rowC X Y i (allC X Y i) 8) k 8 = (dsum 64 X k i + nth X i * pwl 64 (k * i % 8)) * _ + _
    rw [e', e, Int.add_mul]
    omega
theorem all_turn (X Y : List Int) : turnL 64 1 (allC X Y 8) = mulL (turnL 64 1 X) (turnL 64 1 Y) := by
  apply nth_ext' (by simp [turnL, mulL])
  intro k hk
  rw [turnL_len] at hk
  rw [turnL_nth _ _ _ hk, mulL_nth _ _ hk, turnL_nth _ _ _ hk, turnL_nth _ _ _ hk]
  obtain ⟨q, e⟩ := all_sum X Y hk 8 (by omega)
  unfold dft
  rw [e]
  simp only [Int.mul_one, Int.emod_emod]
  rw [← Int.mul_emod, Int.add_mul_emod_self_left]
theorem all_fold (X Y : List Int) : allC X Y 8 = foldL X Y := by
  unfold foldL
  rw [← all_turn, back_there _ (allC_eight X Y 8)]
end Go.Proofs.YtmicgjpelikjiaaDoor
