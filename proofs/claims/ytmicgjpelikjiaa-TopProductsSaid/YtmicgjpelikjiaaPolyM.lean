/- Polynomials over the prime field as rows of coefficients: trimmed rows, sums, products, division. No program in sight. -/
import Derived.Test.YtmicgjpelikjiaaKaraM
import Derived.Test.YtmicgjpelikjiaaFermat
namespace Go.Proofs.Ytmicgjpelikjiaa

/-- All are elements of the prime field. -/
def PL (L : List Int) : Prop := ∀ k, 0 ≤ nth L k ∧ nth L k < 9973
theorem pl_of {L : List Int} (h : ∀ x ∈ L, 0 ≤ x ∧ x ≤ 9972) : PL L := fun k => by
  rcases Nat.lt_or_ge k L.length with hk | hk
  · have := h _ (nth_mem hk); omega
  · rw [sup_nth L k hk]; omega
theorem pl_mem {L : List Int} (h : PL L) : ∀ x ∈ L, 0 ≤ x ∧ x ≤ 9972 := fun x hx => by
  obtain ⟨i, hi, rfl⟩ := List.getElem_of_mem hx
  have := h i
  unfold nth at this
  simp [List.getD, List.getElem?_eq_getElem hi] at this
  omega
theorem pl_any {L : List Int} (h : PL L) : anyB L 0 9972 = false := anyB_false_of (pl_mem h)
theorem pl_of_any {L : List Int} (h : anyB L 0 9972 = false) : PL L := pl_of (anyB_false h)
theorem pl_nil : PL [] := fun k => by rw [show nth [] k = 0 from rfl]; omega
theorem pl_mk {n : Nat} {f : Nat → Int} (h : ∀ k, k < n → 0 ≤ f k ∧ f k < 9973) : PL (mk n f) := fun k => by
  rw [mk_nth]
  split
  · exact h k ‹_›
  · omega
theorem emod_pl (x : Int) : 0 ≤ x % 9973 ∧ x % 9973 < 9973 := by omega
theorem pl_emod {L : List Int} (h : PL L) (k : Nat) : nth L k % 9973 = nth L k := by have := h k; omega
theorem pl_set {L : List Int} (h : PL L) (j : Nat) {z : Int} (hz : 0 ≤ z ∧ z < 9973) (hj : j < L.length) : PL (L.set j z) := fun k => by
  have e : nth (L.set j z) k = if k = j then z else nth L k := by
    unfold nth
    by_cases e : k = j
    · subst e; simp [List.getD, hj]
    · rw [if_neg e]; simp [List.getD, List.getElem?_set_ne (fun h' => e h'.symm)]
  rw [e]
  split
  · exact hz
  · exact h k

/-- How many are left without zeros at the end. -/
def tnF (L : List Int) : Nat → Nat
  | 0 => 0
  | n + 1 => if nth L n = 0 then tnF L n else n + 1
/-- A row without zeros at its end. -/
def trm (L : List Int) : List Int := L.take (tnF L L.length)
/-- No zero at the end. -/
def Tr (L : List Int) : Prop := L.length ≠ 0 → nth L (L.length - 1) ≠ 0
theorem tnF_le (L : List Int) (n : Nat) : tnF L n ≤ n := by
  induction n with
  | zero => exact Nat.le_refl _
  | succ n ih => rw [tnF]; split <;> omega
theorem tnF_zero (L : List Int) (n : Nat) : ∀ k, tnF L n ≤ k → k < n → nth L k = 0 := by
  induction n with
  | zero => intro k _ h; omega
  | succ n ih =>
    intro k h1 h2
    rw [tnF] at h1
    split at h1
    · by_cases e : k = n
      · subst e; assumption
      · exact ih k h1 (by omega)
    · omega
theorem tnF_top (L : List Int) (n : Nat) : tnF L n ≠ 0 → nth L (tnF L n - 1) ≠ 0 := by
  induction n with
  | zero => intro h; exact absurd rfl h
  | succ n ih =>
    rw [tnF]
    split
    · exact ih
    · intro _; assumption
theorem trm_len (L : List Int) : (trm L).length = tnF L L.length := by
  unfold trm; rw [List.length_take]; have := tnF_le L L.length; omega
theorem trm_le (L : List Int) : (trm L).length ≤ L.length := by rw [trm_len]; exact tnF_le _ _
theorem take_nth (L : List Int) (m k : Nat) : nth (L.take m) k = if k < m then nth L k else 0 := by
  unfold nth
  by_cases h : k < m
  · simp [List.getD, h]
  · simp [List.getD, List.getElem?_take, h]
theorem trm_nth (L : List Int) (k : Nat) : nth (trm L) k = nth L k := by
  unfold trm
  rw [take_nth]
  split
  · rfl
  · rcases Nat.lt_or_ge k L.length with h | h
    · exact (tnF_zero L L.length k (by omega) h).symm
    · exact (sup_nth L k h).symm
theorem tr_trm (L : List Int) : Tr (trm L) := fun h => by
  rw [trm_nth, trm_len]
  rw [trm_len] at h
  exact tnF_top L L.length h
theorem pl_trm {L : List Int} (h : PL L) : PL (trm L) := fun k => by rw [trm_nth]; exact h k
theorem tr_nil : Tr [] := fun h => absurd rfl h
/-- Trimmed rows with the same coefficients are one. -/
theorem canon {L M : List Int} (hL : Tr L) (hM : Tr M) (h : ∀ k, nth L k = nth M k) : L = M := by
  have hl : L.length = M.length := by
    rcases Nat.lt_trichotomy L.length M.length with hlt | he | hlt
    · have := hM (by omega)
      rw [← h, sup_nth L _ (by omega)] at this
      exact absurd rfl this
    · exact he
    · have := hL (by omega)
      rw [h, sup_nth M _ (by omega)] at this
      exact absurd rfl this
  exact list_ext hl fun k _ => h k
theorem trm_id {L : List Int} (h : Tr L) : trm L = L := canon (tr_trm L) h (trm_nth L)
theorem trm_nil_iff (L : List Int) : trm L = [] ↔ ∀ k, nth L k = 0 := by
  constructor
  · intro h k; rw [← trm_nth, h]; rfl
  · intro h
    exact canon (tr_trm L) tr_nil fun k => by rw [trm_nth, h k]; rfl
theorem tr_lt {L : List Int} {n : Nat} (hT : Tr L) (h : ∀ k, n ≤ k → nth L k = 0) : L.length ≤ n := by
  rcases Nat.lt_or_ge n L.length with hlt | hge
  · exact absurd (h (L.length - 1) (by omega)) (hT (by omega))
  · exact hge

/-- The same modulo the prime. -/
def Eqm (f g : Nat → Int) : Prop := ∀ k, f k % 9973 = g k % 9973
theorem sm_eqm {f g : Nat → Int} : ∀ n, (∀ i, i < n → f i % 9973 = g i % 9973) → sm n f % 9973 = sm n g % 9973 := by
  intro n
  induction n with
  | zero => intro _; rfl
  | succ n ih =>
    intro h
    show (sm n f + f n) % 9973 = (sm n g + g n) % 9973
    rw [Int.add_emod, ih fun i hi => h i (by omega), h n (by omega), ← Int.add_emod]
theorem mul_eqm {a b c d : Int} (h1 : a % 9973 = b % 9973) (h2 : c % 9973 = d % 9973) : a * c % 9973 = b * d % 9973 := by
  rw [Int.mul_emod, h1, h2, ← Int.mul_emod]
theorem cv_eqm {f f' g g' : Nat → Int} (hf : Eqm f f') (hg : Eqm g g') : Eqm (cv f g) (cv f' g') := fun k =>
  sm_eqm _ fun i _ => mul_eqm (hf i) (hg (k - i))
theorem eqm_md (f : Nat → Int) : Eqm (fun k => f k % 9973) f := fun _ => Int.emod_emod _ _
theorem Eqm.symm {f g : Nat → Int} (h : Eqm f g) : Eqm g f := fun k => (h k).symm
theorem Eqm.trans {f g k : Nat → Int} (h : Eqm f g) (h' : Eqm g k) : Eqm f k := fun i => (h i).trans (h' i)
theorem Eqm.refl (f : Nat → Int) : Eqm f f := fun _ => rfl
theorem eqm_of {f g : Nat → Int} (h : ∀ k, f k = g k) : Eqm f g := fun k => by rw [h k]
theorem canon_eqm {L M : List Int} (pL : PL L) (pM : PL M) (hL : Tr L) (hM : Tr M) (h : Eqm (nth L) (nth M)) : L = M :=
  canon hL hM fun i => by rw [← pl_emod pL i, ← pl_emod pM i]; exact h i

/-- The product of two polynomials. -/
def pmul (L M : List Int) : List Int := trm (mk (L.length + M.length) fun k => cv (nth L) (nth M) k % 9973)
/-- The sum of two polynomials. -/
def padd (L M : List Int) : List Int := trm (mk (max L.length M.length) fun k => (nth L k + nth M k) % 9973)
theorem pmul_nth (L M : List Int) (k : Nat) : nth (pmul L M) k = cv (nth L) (nth M) k % 9973 := by
  unfold pmul
  rw [trm_nth, mk_nth]
  split
  · rfl
  · rw [cv_sup (sup_nth L) (sup_nth M) k (by omega)]; rfl
theorem padd_nth (L M : List Int) (k : Nat) : nth (padd L M) k = (nth L k + nth M k) % 9973 := by
  unfold padd
  rw [trm_nth, mk_nth]
  split
  · rfl
  · rw [sup_nth L k (by omega), sup_nth M k (by omega)]; rfl
theorem pmul_pl (L M : List Int) : PL (pmul L M) := fun k => by rw [pmul_nth]; exact emod_pl _
theorem padd_pl (L M : List Int) : PL (padd L M) := fun k => by rw [padd_nth]; exact emod_pl _
theorem pmul_tr (L M : List Int) : Tr (pmul L M) := tr_trm _
theorem padd_tr (L M : List Int) : Tr (padd L M) := tr_trm _
theorem pmul_len (L M : List Int) : (pmul L M).length ≤ L.length + M.length - 1 := by
  refine tr_lt (pmul_tr L M) fun k hk => ?_
  rw [pmul_nth, cv_sup (sup_nth L) (sup_nth M) k hk]; rfl
theorem padd_len (L M : List Int) : (padd L M).length ≤ max L.length M.length := by
  unfold padd
  have := trm_le (mk (max L.length M.length) fun k => (nth L k + nth M k) % 9973)
  rw [mk_len] at this
  exact this
theorem pmul_eqm (L M : List Int) : Eqm (nth (pmul L M)) (cv (nth L) (nth M)) := fun k => by rw [pmul_nth]; exact Int.emod_emod _ _
theorem padd_eqm (L M : List Int) : Eqm (nth (padd L M)) (fun k => nth L k + nth M k) := fun k => by rw [padd_nth]; exact Int.emod_emod _ _
theorem pmul_comm (L M : List Int) : pmul L M = pmul M L := canon (pmul_tr _ _) (pmul_tr _ _) fun k => by rw [pmul_nth, pmul_nth, cv_comm]
theorem pmul_assoc (L M K : List Int) : pmul (pmul L M) K = pmul L (pmul M K) :=
  canon (pmul_tr _ _) (pmul_tr _ _) fun k => by
    rw [pmul_nth, pmul_nth, cv_eqm (pmul_eqm L M) (Eqm.refl _) k, cv_eqm (Eqm.refl _) (pmul_eqm M K) k, cv_assoc]
theorem pmul_add (L M K : List Int) : pmul L (padd M K) = padd (pmul L M) (pmul L K) :=
  canon (pmul_tr _ _) (padd_tr _ _) fun k => by
    rw [pmul_nth, padd_nth, cv_eqm (Eqm.refl _) (padd_eqm M K) k, cv_add_right, pmul_nth, pmul_nth, ← Int.add_emod]
theorem pmul_trm (L M : List Int) : pmul (trm L) M = pmul L M :=
  canon (pmul_tr _ _) (pmul_tr _ _) fun k => by rw [pmul_nth, pmul_nth, cv_congr k (fun i _ => trm_nth L i) (fun i _ => rfl)]
theorem pmul_nil (M : List Int) : pmul [] M = [] :=
  canon (pmul_tr _ _) tr_nil fun k => by rw [pmul_nth, show cv (nth []) (nth M) k = 0 from sm_zero _ fun i _ => by rw [show nth [] i = 0 from rfl, Int.zero_mul]]; rfl

/-- The top coefficient of a product. -/
theorem cv_top {f g : Nat → Int} {m n : Nat} (hf : ∀ i, m < i → f i % 9973 = 0) (hg : ∀ i, n < i → g i % 9973 = 0) : cv f g (m + n) % 9973 = f m * g n % 9973 := by
  unfold cv
  have h : ∀ i, i < m + n + 1 → f i * g (m + n - i) % 9973 = (if i = m then f m * g n else 0) % 9973 := fun i hi => by
    by_cases e : i = m
    · subst e; rw [if_pos rfl, show i + n - i = n by omega]
    · rw [if_neg e]
      by_cases hm : m < i
      · rw [Int.mul_emod, hf i hm]; simp
      · rw [Int.mul_emod, hg (m + n - i) (by omega)]; simp
  rw [sm_eqm _ h, show m + n + 1 = m + (n + 1) by omega, sm_split, sm_zero m (fun i hi => by rw [if_neg (by omega)]), sm_head, sm_zero n (fun i hi => by rw [if_neg (by omega)])]
  simp
theorem top_ex {f : Nat → Int} (n : Nat) (h : ∀ k, n ≤ k → f k % 9973 = 0) (hne : ∃ k, f k % 9973 ≠ 0) : ∃ m, f m % 9973 ≠ 0 ∧ ∀ k, m < k → f k % 9973 = 0 := by
  induction n with
  | zero => obtain ⟨k, hk⟩ := hne; exact absurd (h k (Nat.zero_le _)) hk
  | succ n ih =>
    by_cases e : f n % 9973 = 0
    · exact ih fun k hk => by
        by_cases e' : k = n
        · subst e'; exact e
        · exact h k (by omega)
    · exact ⟨n, e, fun k hk => h k (by omega)⟩
theorem tr_lead {L : List Int} (hP : PL L) (hT : Tr L) (h : L ≠ []) : nth L (L.length - 1) % 9973 ≠ 0 ∧ 0 < nth L (L.length - 1) ∧ nth L (L.length - 1) < 9973 := by
  have h1 := hT (fun e => h (List.eq_nil_of_length_eq_zero e))
  have h2 := hP (L.length - 1)
  omega
theorem len_pos {L : List Int} (h : L ≠ []) : 0 < L.length := by
  rcases Nat.eq_zero_or_pos L.length with e | e
  · exact absurd (List.eq_nil_of_length_eq_zero e) h
  · exact e
/-- A product of polynomials that are not 0: its degree. -/
theorem pmul_len_eq {L M : List Int} (pL : PL L) (pM : PL M) (tL : Tr L) (tM : Tr M) (hL : L ≠ []) (hM : M ≠ []) : (pmul L M).length = L.length + M.length - 1 ∧ pmul L M ≠ [] := by
  have l1 := len_pos hL
  have l2 := len_pos hM
  have h1 := tr_lead pL tL hL
  have h2 := tr_lead pM tM hM
  have hc : cv (nth L) (nth M) (L.length - 1 + (M.length - 1)) % 9973 = nth L (L.length - 1) * nth M (M.length - 1) % 9973 :=
    cv_top (fun i hi => by rw [sup_nth L i (by omega)]; rfl) (fun i hi => by rw [sup_nth M i (by omega)]; rfl)
  have hne : nth (pmul L M) (L.length - 1 + (M.length - 1)) ≠ 0 := by
    rw [pmul_nth, hc]
    intro h
    rcases no_zero_div _ _ h with h | h
    · exact h1.1 h
    · exact h2.1 h
  have hle := pmul_len L M
  have hge : L.length - 1 + (M.length - 1) < (pmul L M).length := by
    rcases Nat.lt_or_ge (L.length - 1 + (M.length - 1)) (pmul L M).length with h | h
    · exact h
    · exact absurd (sup_nth _ _ h) hne
  refine ⟨by omega, fun e => ?_⟩
  rw [e] at hge
  simp at hge

/-- Quotient and remainder. -/
def DivOk (f g q r : List Int) : Prop := PL q ∧ Tr q ∧ PL r ∧ Tr r ∧ r.length < g.length ∧ Eqm (nth f) fun k => cv (nth q) (nth g) k + nth r k
theorem cv_sub_left (f g h : Nat → Int) (k : Nat) : cv (fun i => f i - g i) h k = cv f h k - cv g h k := by
  have := cv_add_left (fun i => f i - g i) g h k
  have e : cv (fun i => f i - g i + g i) h k = cv f h k := cv_congr k (fun i _ => by omega) (fun i _ => rfl)
  rw [e] at this
  omega
theorem div_uniq {f g q r q' r' : List Int} (pg : PL g) (tg : Tr g) (h : DivOk f g q r) (h' : DivOk f g q' r') : q = q' ∧ r = r' := by
  obtain ⟨p1, t1, p2, t2, l, e⟩ := h
  obtain ⟨p1', t1', p2', t2', l', e'⟩ := h'
  have hg : g ≠ [] := fun hg => by rw [hg] at l; simp at l
  have key : ∀ k, (cv (fun i => nth q i - nth q' i) (nth g) k) % 9973 = (nth r' k - nth r k) % 9973 := fun k => by
    rw [cv_sub_left]
    have h1 : (cv (nth q) (nth g) k + nth r k) % 9973 = (cv (nth q') (nth g) k + nth r' k) % 9973 := (e k).symm.trans (e' k)
    omega
  have hq : q = q' := by
    by_cases hne : ∃ k, (nth q k - nth q' k) % 9973 ≠ 0
    · exfalso
      obtain ⟨m, hm, hm'⟩ := top_ex (f := fun i => nth q i - nth q' i) (max q.length q'.length) (fun k hk => by
        show (nth q k - nth q' k) % 9973 = 0
        rw [sup_nth q k (by omega), sup_nth q' k (by omega)]; rfl) hne
      have hc := cv_top (f := fun i => nth q i - nth q' i) (g := nth g) (m := m) (n := g.length - 1) hm' (fun i hi => by rw [sup_nth g i (by omega)]; rfl)
      rw [key, sup_nth r _ (by omega), sup_nth r' _ (by omega)] at hc
      have h3 := tr_lead pg tg hg
      rcases no_zero_div _ _ hc.symm with h | h
      · exact hm h
      · exact h3.1 h
    · refine canon t1 t1' fun k => ?_
      have h0 : (nth q k - nth q' k) % 9973 = 0 := Classical.byContradiction fun hn => hne ⟨k, hn⟩
      have b1 := p1 k
      have b2 := p1' k
      omega
  refine ⟨hq, canon t2 t2' fun k => ?_⟩
  have h0 := key k
  have hz : cv (fun i => nth q i - nth q' i) (nth g) k = 0 := by
    rw [cv_sub_left, hq]; omega
  rw [hz] at h0
  have b1 := p2 k
  have b2 := p2' k
  omega
end Go.Proofs.Ytmicgjpelikjiaa
