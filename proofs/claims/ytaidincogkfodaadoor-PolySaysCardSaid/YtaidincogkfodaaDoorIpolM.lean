/- Interpolation over the prime field: divided differences, Newton's form. No program in sight. -/
import Derived.Test.YtaidincogkfodaaDoorPolyE
namespace Go.Proofs.YtaidincogkfodaaDoor

/-- The points from s on, m of them, are distinct. -/
def Dis (x : Nat → Int) (s m : Nat) : Prop := ∀ i j, s ≤ i → i < j → j < s + m → (x i - x j) % 9973 ≠ 0
/-- P interpolates the points from s on, m of them. -/
def Itp (x y : Nat → Int) (s m : Nat) (P : Nat → Int) : Prop := Sup P m ∧ ∀ i, s ≤ i → i < s + m → evn P m (x i) % 9973 = y i % 9973
theorem itp_uniq {x y : Nat → Int} {s m : Nat} {P Q : Nat → Int} (hd : Dis x s m) (h : Itp x y s m P) (h' : Itp x y s m Q) : Eqm P Q :=
  agree (X := fun i => x (s + i)) h.1 h'.1 (fun i j h1 h2 => hd (s + i) (s + j) (by omega) (by omega) (by omega)) fun i hi => (h.2 (s + i) (by omega) (by omega)).trans (h'.2 (s + i) (by omega) (by omega)).symm
/-- The reciprocal of a difference. -/
theorem inv_mul {z : Int} (h : z % 9973 ≠ 0) : z * pw (z % 9973) 9971 % 9973 = 1 := by
  have := over_mul (z % 9973) (by omega) (by omega)
  rw [emod_mul] at this
  exact this
/-- Neville's step. -/
def nev (x : Nat → Int) (s m : Nat) (P Q : Nat → Int) (k : Nat) : Int := pw ((x (s + m) - x s) % 9973) 9971 * (lin (x s) Q k - lin (x (s + m)) P k)
theorem nev_itp {x y : Nat → Int} {s m : Nat} {P Q : Nat → Int} (hm : 1 ≤ m) (hd : Dis x s (m + 1)) (hP : Itp x y s m P) (hQ : Itp x y (s + 1) m Q) : Itp x y s (m + 1) (nev x s m P Q) := by
  have s1 := lin_sup (x s) hQ.1
  have s2 := lin_sup (x (s + m)) hP.1
  refine ⟨fun k hk => by unfold nev; rw [s1 k hk, s2 k hk]; simp, fun i h1 h2 => ?_⟩
  have e : evn (nev x s m P Q) (m + 1) (x i) = pw ((x (s + m) - x s) % 9973) 9971 * ((x i - x s) * evn Q m (x i) - (x i - x (s + m)) * evn P m (x i)) := by
    rw [← lin_ev _ hQ.1, ← lin_ev _ hP.1, ← evn_sub, ← evn_smul]; rfl
  rw [e]
  have hz : (x (s + m) - x s) % 9973 ≠ 0 := by have := hd s (s + m) (by omega) (by omega) (by omega); omega
  have hi := inv_mul hz
  obtain ⟨c, hc⟩ : ∃ c, c = pw ((x (s + m) - x s) % 9973) 9971 := ⟨_, rfl⟩
  rw [← hc] at hi ⊢
  have key : ((x i - x s) * evn Q m (x i) - (x i - x (s + m)) * evn P m (x i)) % 9973 = (x (s + m) - x s) * y i % 9973 := by
    by_cases i1 : i = s
    · subst i1
      have hp := hP.2 i (by omega) (by omega)
      rw [show (x i - x i) * evn Q m (x i) - (x i - x (i + m)) * evn P m (x i) = (x (i + m) - x i) * evn P m (x i) by grind]
      exact mul_eqm rfl hp
    · by_cases i2 : i = s + m
      · subst i2
        have hq := hQ.2 (s + m) (by omega) (by omega)
        rw [show (x (s + m) - x s) * evn Q m (x (s + m)) - (x (s + m) - x (s + m)) * evn P m (x (s + m)) = (x (s + m) - x s) * evn Q m (x (s + m)) by grind]
        exact mul_eqm rfl hq
      · have hp := hP.2 i (by omega) (by omega)
        have hq := hQ.2 i (by omega) (by omega)
        rw [Int.sub_emod, mul_eqm rfl hq, mul_eqm rfl hp, ← Int.sub_emod]
        congr 1
        grind
  rw [mul_eqm rfl key, ← Int.mul_assoc, Int.mul_comm c, Int.mul_emod, hi, Int.one_mul, Int.emod_emod]
theorem itp_one (x y : Nat → Int) (s : Nat) : Itp x y s 1 (fun k => if k = 0 then y s else 0) := by
  refine ⟨fun k hk => by show (if k = 0 then y s else 0) = 0; rw [if_neg (by omega)], fun i h1 h2 => ?_⟩
  obtain rfl : i = s := by omega
  show (0 + (if 0 = 0 then y i else 0) * x i ^ 0) % 9973 = _
  rw [if_pos rfl, Int.pow_zero, Int.mul_one, Int.zero_add]
theorem dis_sub {x : Nat → Int} {s m s' m' : Nat} (h : Dis x s m) (h1 : s ≤ s') (h2 : s' + m' ≤ s + m) : Dis x s' m' := fun i j a b c => h i j (by omega) b (by omega)
theorem itp_ex (x y : Nat → Int) (m : Nat) : ∀ s, Dis x s (m + 1) → ∃ P, Itp x y s (m + 1) P := by
  induction m with
  | zero => intro s _; exact ⟨_, itp_one x y s⟩
  | succ m ih =>
    intro s hd
    obtain ⟨P, hP⟩ := ih s (dis_sub hd (by omega) (by omega))
    obtain ⟨Q, hQ⟩ := ih (s + 1) (dis_sub hd (by omega) (by omega))
    exact ⟨_, nev_itp (by omega) hd hP hQ⟩
/-- The divided difference of the k + 1 points that end at i. -/
def dd (x y : Nat → Int) : Nat → Nat → Int
  | 0, i => y i
  | k + 1, i => (dd x y k i - dd x y k (i - 1)) * pw ((x i - x (i - (k + 1))) % 9973) 9971 % 9973
/-- It is the top coefficient. -/
theorem dd_top (x y : Nat → Int) (k : Nat) : ∀ s P, Dis x s (k + 1) → Itp x y s (k + 1) P → P k % 9973 = dd x y k (s + k) % 9973 := by
  induction k with
  | zero =>
    intro s P hd h
    have := h.2 s (by omega) (by omega)
    have e : evn P 1 (x s) = P 0 := by show 0 + P 0 * x s ^ 0 = _; rw [Int.pow_zero]; omega
    rw [e] at this
    exact this
  | succ k ih =>
    intro s P hd h
    obtain ⟨A, hA⟩ := itp_ex x y k s (dis_sub hd (by omega) (by omega))
    obtain ⟨B, hB⟩ := itp_ex x y k (s + 1) (dis_sub hd (by omega) (by omega))
    have hn := itp_uniq hd h (nev_itp (by omega) hd hA hB)
    have ia := ih s A (dis_sub hd (by omega) (by omega)) hA
    have ib := ih (s + 1) B (dis_sub hd (by omega) (by omega)) hB
    rw [hn (k + 1)]
    unfold nev
    rw [lin_succ, lin_succ, hB.1 (k + 1) (Nat.le_refl _), hA.1 (k + 1) (Nat.le_refl _), Int.mul_zero, Int.mul_zero, Int.sub_zero, Int.sub_zero]
    rw [show s + (k + 1) = s + 1 + k by omega]
    rw [show dd x y (k + 1) (s + 1 + k) = (dd x y k (s + 1 + k) - dd x y k (s + 1 + k - 1)) * pw ((x (s + 1 + k) - x (s + 1 + k - (k + 1))) % 9973) 9971 % 9973 from rfl, Int.emod_emod,
      show s + 1 + k - (k + 1) = s by omega, show s + 1 + k - 1 = s + k by omega, Int.mul_comm]
    refine mul_eqm ?_ rfl
    rw [Int.sub_emod, ib, ia, ← Int.sub_emod]
/-- Newton's form: products of x - x0 .. , and the sum. -/
def wp (x : Nat → Int) : Nat → Nat → Int
  | 0, k => if k = 0 then 1 else 0
  | m + 1, k => lin (x m) (wp x m) k
def nw (x y : Nat → Int) : Nat → Nat → Int
  | 0, _ => 0
  | m + 1, k => nw x y m k + dd x y m m * wp x m k
theorem wp_sup (x : Nat → Int) (m : Nat) : Sup (wp x m) (m + 1) := by
  induction m with
  | zero => intro k hk; show (if k = 0 then (1 : Int) else 0) = 0; rw [if_neg (by omega)]
  | succ m ih => exact lin_sup (x m) ih
theorem wp_top (x : Nat → Int) (m : Nat) : wp x m m = 1 := by
  induction m with
  | zero => rfl
  | succ m ih =>
    show lin (x m) (wp x m) (m + 1) = 1
    rw [lin_succ, ih, wp_sup x m (m + 1) (Nat.le_refl _)]; simp
theorem nw_sup (x y : Nat → Int) (m : Nat) : Sup (nw x y m) m := by
  induction m with
  | zero => intro k _; rfl
  | succ m ih =>
    intro k hk
    show nw x y m k + dd x y m m * wp x m k = 0
    rw [ih k (by omega), wp_sup x m k hk]; simp
theorem wp_zero (x : Nat → Int) (m : Nat) : ∀ i, i < m → evn (wp x m) (m + 1) (x i) = 0 := by
  induction m with
  | zero => intro i h; omega
  | succ m ih =>
    intro i h
    show evn (lin (x m) (wp x m)) (m + 1 + 1) (x i) = 0
    rw [lin_ev _ (wp_sup x m)]
    by_cases e : i = m
    · subst e; rw [Int.sub_self, Int.zero_mul]
    · rw [ih i (by omega), Int.mul_zero]
/-- Newton's form interpolates. -/
theorem nw_itp (x y : Nat → Int) (m : Nat) (hd : Dis x 0 m) : Itp x y 0 m (nw x y m) := by
  induction m with
  | zero => exact ⟨nw_sup x y 0, fun i _ h => absurd h (by omega)⟩
  | succ m ih =>
    obtain ⟨P, hP⟩ := itp_ex x y m 0 hd
    have hN := ih (dis_sub hd (by omega) (by omega))
    have hs : Sup (fun k => P k - P m * wp x m k) m := fun k hk => by
      show P k - P m * wp x m k = 0
      by_cases e : k = m
      · subst e; rw [wp_top]; omega
      · rw [hP.1 k (by omega), wp_sup x m k (by omega)]; simp
    have hI : Itp x y 0 m (fun k => P k - P m * wp x m k) := by
      refine ⟨hs, fun i _ hi => ?_⟩
      rw [← evn_sup hs (Nat.le_succ m), evn_sub, evn_smul, wp_zero x m i (by omega), Int.mul_zero, Int.sub_zero]
      exact hP.2 i (by omega) (by omega)
    have hE := itp_uniq (dis_sub hd (by omega) (by omega)) hI hN
    have ht := dd_top x y m 0 P hd hP
    rw [Nat.zero_add] at ht
    have hEq : Eqm P (nw x y (m + 1)) := fun k => by
      show P k % 9973 = (nw x y m k + dd x y m m * wp x m k) % 9973
      have h1 := hE k
      have h2 : P m * wp x m k % 9973 = dd x y m m * wp x m k % 9973 := mul_eqm ht rfl
      have h1' : (P k - P m * wp x m k) % 9973 = nw x y m k % 9973 := h1
      omega
    refine ⟨nw_sup x y (m + 1), fun i h1 h2 => ?_⟩
    rw [← evn_eqm hEq]
    exact hP.2 i h1 h2
/-- Horner's form of Newton's: from the end. -/
def hn (x y : Nat → Int) (n : Nat) : Nat → Nat → Int
  | 0, _ => 0
  | j + 1, k => lin (x (n - (j + 1))) (hn x y n j) k + (if k = 0 then dd x y (n - (j + 1)) (n - (j + 1)) else 0)
theorem hn_sup (x y : Nat → Int) (n j : Nat) : Sup (hn x y n j) j := by
  induction j with
  | zero => intro k _; rfl
  | succ j ih =>
    intro k hk
    show lin _ (hn x y n j) k + (if k = 0 then _ else 0) = 0
    rw [lin_sup _ ih k hk, if_neg (by omega)]; rfl
/-- A product of values. -/
def wv (x : Nat → Int) (z : Int) : Nat → Int
  | 0 => 1
  | m + 1 => (z - x m) * wv x z m
theorem wv_ev (x : Nat → Int) (z : Int) (m : Nat) : evn (wp x m) (m + 1) z = wv x z m := by
  induction m with
  | zero => show 0 + (if 0 = 0 then (1 : Int) else 0) * z ^ 0 = 1; rw [if_pos rfl, Int.pow_zero]; rfl
  | succ m ih =>
    show evn (lin (x m) (wp x m)) (m + 1 + 1) z = (z - x m) * wv x z m
    rw [lin_ev _ (wp_sup x m), ih]
theorem hn_ev (x y : Nat → Int) (n : Nat) (z : Int) (j : Nat) (hj : j ≤ n) : evn (nw x y (n - j)) (n - j) z + wv x z (n - j) * evn (hn x y n j) j z = evn (nw x y n) n z := by
  induction j with
  | zero => show _ + _ * 0 = _; rw [Nat.sub_zero]; omega
  | succ j ih =>
    rw [← ih (by omega)]
    have e1 : n - j = (n - (j + 1)) + 1 := by omega
    generalize hm : n - (j + 1) = m at *
    rw [e1]
    have h1 : evn (nw x y (m + 1)) (m + 1) z = evn (nw x y m) m z + dd x y m m * wv x z m := by
      have : evn (nw x y (m + 1)) (m + 1) z = evn (nw x y m) (m + 1) z + dd x y m m * evn (wp x m) (m + 1) z := by
        rw [← evn_smul, ← evn_add]; rfl
      rw [this, evn_sup (nw_sup x y m) (by omega), wv_ev]
    have h2 : evn (hn x y n (j + 1)) (j + 1) z = (z - x m) * evn (hn x y n j) j z + dd x y m m := by
      have e : evn (hn x y n (j + 1)) (j + 1) z = evn (lin (x m) (hn x y n j)) (j + 1) z + evn (fun k => if k = 0 then dd x y m m else 0) (j + 1) z := by
        rw [← evn_add, ← hm]; rfl
      have e2 : evn (fun k => if k = 0 then dd x y m m else 0) (j + 1) z = dd x y m m := by
        rw [evn_head, if_pos rfl]
        have : evn (fun i => if i + 1 = 0 then dd x y m m else 0) j z = 0 := sm_zero _ fun i _ => by show (if i + 1 = 0 then _ else (0 : Int)) * _ = 0; rw [if_neg (by omega), Int.zero_mul]
        rw [this, Int.mul_zero, Int.add_zero]
      rw [e, lin_ev _ (hn_sup x y n j), e2]
    rw [h1, h2]
    show _ = _ + (z - x m) * wv x z m * _
    grind
/-- Horner's form interpolates. -/
theorem hn_itp (x y : Nat → Int) (n : Nat) (hd : Dis x 0 n) : Itp x y 0 n (hn x y n n) := by
  refine ⟨hn_sup x y n n, fun i h1 h2 => ?_⟩
  have h := hn_ev x y n (x i) n (Nat.le_refl _)
  rw [Nat.sub_self] at h
  have h' : evn (hn x y n n) n (x i) = evn (nw x y n) n (x i) := by
    rw [← h]
    show _ = 0 + 1 * _
    omega
  rw [h']
  exact (nw_itp x y n hd).2 i h1 h2
end Go.Proofs.YtaidincogkfodaaDoor
