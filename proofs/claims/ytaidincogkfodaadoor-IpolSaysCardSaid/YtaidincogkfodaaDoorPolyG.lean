/- Polynomials over the prime field: Euclid's algorithm. No program in sight. -/
import Derived.Test.YtaidincogkfodaaDoorPolyM
namespace Go.Proofs.YtaidincogkfodaaDoor

/-- Euclid's algorithm ends with u after n divisions. -/
def EucN : Nat → List Int → List Int → List Int → Prop
  | 0, f, g, u => g = [] ∧ u = f
  | n + 1, f, g, u => g ≠ [] ∧ ∃ q r, DivOk f g q r ∧ EucN n g r u
/-- Euclid's algorithm ends with u. -/
def Euc (f g u : List Int) : Prop := ∃ n, EucN n f g u
theorem Euc.done (f : List Int) : Euc f [] f := ⟨0, rfl, rfl⟩
theorem Euc.step {f g q r u : List Int} (hn : g ≠ []) (hd : DivOk f g q r) (h : Euc g r u) : Euc f g u := by
  obtain ⟨n, h⟩ := h
  exact ⟨n + 1, hn, q, r, hd, h⟩
theorem euc_two {f g u : List Int} (h : Euc f g u) : (g = [] ∧ u = f) ∨ (g ≠ [] ∧ ∃ q r, DivOk f g q r ∧ Euc g r u) := by
  obtain ⟨n, h⟩ := h
  match n, h with
  | 0, h => exact .inl h
  | n + 1, ⟨hn, q, r, hd, h⟩ => exact .inr ⟨hn, q, r, hd, n, h⟩
theorem euc_ind {M : List Int → List Int → List Int → Prop} (h0 : ∀ f, M f [] f) (h1 : ∀ f g q r u, g ≠ [] → DivOk f g q r → M g r u → M f g u) {f g u : List Int} (h : Euc f g u) : M f g u := by
  obtain ⟨n, h⟩ := h
  induction n generalizing f g u with
  | zero =>
    obtain ⟨rfl, rfl⟩ := h
    exact h0 _
  | succ n ih =>
    obtain ⟨hn, q, r, hd, h⟩ := h
    exact h1 f g q r u hn hd (ih h)
theorem euc_uniq {f g u : List Int} (h : Euc f g u) : ∀ {u' : List Int}, PL g → Tr g → Euc f g u' → u = u' := by
  refine euc_ind (M := fun f g u => ∀ {u' : List Int}, PL g → Tr g → Euc f g u' → u = u') ?_ ?_ h
  · intro f u' _ _ h'
    rcases euc_two h' with ⟨_, e⟩ | ⟨hn, _⟩
    · exact e.symm
    · exact absurd rfl hn
  · intro f g q r u hn hd ih u' pg tg h'
    rcases euc_two h' with ⟨e, _⟩ | ⟨_, q', r', hd', he'⟩
    · exact absurd e hn
    · obtain ⟨_, rfl⟩ := div_uniq pg tg hd hd'
      exact ih hd.2.2.1 hd.2.2.2.1 he'
/-- c divides f. -/
def Dv (c f : List Int) : Prop := ∃ h : List Int, Eqm (nth f) (cv (nth h) (nth c))
/-- The row of the number 1. -/
theorem one_nth (k : Nat) : nth [1] k = if k = 0 then 1 else 0 := by
  match k with
  | 0 => rfl
  | k + 1 => rw [if_neg (by omega)]; rfl
theorem cv_one (f : Nat → Int) (k : Nat) : cv (nth [1]) f k = f k := by
  unfold cv
  rw [sm_head, sm_zero k (fun i hi => by rw [one_nth, if_neg (by omega), Int.zero_mul])]
  rw [one_nth, if_pos rfl]
  simp
theorem cv_nil (f : Nat → Int) (k : Nat) : cv (nth []) f k = 0 := sm_zero _ fun i _ => by rw [show nth [] i = 0 from rfl, Int.zero_mul]
theorem dv_self (c : List Int) : Dv c c := ⟨[1], fun k => by rw [cv_one]⟩
theorem dv_nil (c : List Int) : Dv c [] := ⟨[], fun k => by rw [cv_nil]; rfl⟩
theorem dv_div {c f g q r : List Int} (hd : DivOk f g q r) (hg : Dv c g) (hr : Dv c r) : Dv c f := by
  obtain ⟨a, ha⟩ := hg
  obtain ⟨b, hb⟩ := hr
  obtain ⟨_, _, _, _, _, e⟩ := hd
  refine ⟨padd (pmul q a) b, fun k => ?_⟩
  rw [e k, cv_eqm (padd_eqm (pmul q a) b) (Eqm.refl _) k, cv_add_left, Int.add_emod, cv_eqm (Eqm.refl _) ha k, hb k, ← cv_assoc, Int.add_emod (cv (nth (pmul q a)) (nth c) k), cv_eqm (pmul_eqm q a) (Eqm.refl _) k]
theorem euc_dvd {f g u : List Int} (h : Euc f g u) : Dv u f ∧ Dv u g := by
  exact euc_ind (M := fun f g u => Dv u f ∧ Dv u g) (fun f => ⟨dv_self f, dv_nil f⟩) (fun _ _ _ _ _ _ hd ih => ⟨dv_div hd ih.1 ih.2, ih.1⟩) h
theorem euc_ok {f g u : List Int} (h : Euc f g u) : PL f → Tr f → PL g → Tr g → PL u ∧ Tr u ∧ u.length ≤ max f.length g.length := by
  refine euc_ind (M := fun f g u => PL f → Tr f → PL g → Tr g → PL u ∧ Tr u ∧ u.length ≤ max f.length g.length) ?_ ?_ h
  · exact fun f p t _ _ => ⟨p, t, by omega⟩
  · intro f g q r u _ hd ih _ _ pg tg
    obtain ⟨_, _, pr, tr, l, _⟩ := hd
    obtain ⟨p, t, l'⟩ := ih pg tg pr tr
    exact ⟨p, t, by omega⟩
/-- What Euclid's algorithm ends with is 0 just where both were. -/
theorem euc_nil {f g u : List Int} (h : Euc f g u) : u = [] → f = [] ∧ g = [] := by
  exact euc_ind (M := fun f g u => u = [] → f = [] ∧ g = []) (fun _ e => ⟨e, rfl⟩) (fun _ _ _ _ _ hn _ ih e => absurd (ih e).1 hn) h
/-- Times a third one. -/
theorem div_times {f g q r h : List Int} (pg : PL g) (tg : Tr g) (ph : PL h) (th : Tr h) (hg : g ≠ []) (hh : h ≠ []) (hd : DivOk f g q r) : DivOk (pmul f h) (pmul g h) q (pmul r h) := by
  obtain ⟨pq, tq, pr, tr, l, e⟩ := hd
  refine ⟨pq, tq, pmul_pl _ _, pmul_tr _ _, ?_, fun k => ?_⟩
  · have h1 := (pmul_len_eq pg ph tg th hg hh).1
    have h2 := len_pos hh
    by_cases hr : r = []
    · subst hr
      have h3 := len_pos hg
      rw [pmul_nil, h1]
      show 0 < _
      omega
    · have h3 := (pmul_len_eq pr ph tr th hr hh).1
      omega
  · rw [pmul_eqm f h k, cv_eqm e (Eqm.refl _) k]
    show cv (fun i => cv (nth q) (nth g) i + nth r i) (nth h) k % 9973 = _
    rw [cv_add_left, cv_assoc, Int.add_emod, ← cv_eqm (Eqm.refl (nth q)) (pmul_eqm g h) k, ← pmul_eqm r h k, ← Int.add_emod]
theorem euc_times {f g u h : List Int} (he : Euc f g u) (pg : PL g) (tg : Tr g) (ph : PL h) (th : Tr h) (hh : h ≠ []) : Euc (pmul f h) (pmul g h) (pmul u h) := by
  refine euc_ind (M := fun f g u => PL g → Tr g → Euc (pmul f h) (pmul g h) (pmul u h)) ?_ ?_ he pg tg
  · intro f _ _; rw [pmul_nil]; exact Euc.done _
  · intro f g q r u hn hd ih pg tg
    exact Euc.step (pmul_len_eq pg ph tg th hn hh).2 (div_times pg tg ph th hn hh hd) (ih hd.2.2.1 hd.2.2.2.1)
/-- The reciprocal of the top coefficient. -/
def ovl (u : List Int) : Int := pw (nth u (u.length - 1)) 9971
/-- The polynomial times so much that its top coefficient is 1. -/
def mon (u : List Int) : List Int := mk u.length fun k => nth u k * ovl u % 9973
theorem mon_len (u : List Int) : (mon u).length = u.length := mk_len _ _
theorem mon_nth (u : List Int) (k : Nat) : nth (mon u) k = nth u k * ovl u % 9973 := by
  unfold mon
  rw [mk_nth]
  split
  · rfl
  · rw [sup_nth u k (by omega), Int.zero_mul]; rfl
theorem mon_pl (u : List Int) : PL (mon u) := fun k => by rw [mon_nth]; exact emod_pl _
theorem mon_top {u : List Int} (p : PL u) (t : Tr u) (h : u ≠ []) : nth (mon u) (u.length - 1) = 1 := by
  have := tr_lead p t h
  rw [mon_nth]
  exact over_mul _ this.2.1 this.2.2
theorem mon_tr {u : List Int} (p : PL u) (t : Tr u) : Tr (mon u) := fun h => by
  rw [mon_len] at h ⊢
  rw [mon_top p t (fun e => h (by rw [e]; rfl))]
  decide
theorem mon_nil : mon [] = [] := rfl
theorem mon_ne {u : List Int} (h : u ≠ []) : mon u ≠ [] := fun e => h (List.eq_nil_of_length_eq_zero (by rw [← mon_len u, e]; rfl))
theorem ovl_bd (u : List Int) : 0 ≤ ovl u ∧ ovl u < 9973 := pw_bd _ _
theorem ovl_mul {u : List Int} (p : PL u) (t : Tr u) (h : u ≠ []) : nth u (u.length - 1) * ovl u % 9973 = 1 := by
  have := tr_lead p t h
  exact over_mul _ this.2.1 this.2.2
theorem mon_eqm (u : List Int) : Eqm (nth (mon u)) (fun k => ovl u * nth u k) := fun k => by rw [mon_nth, Int.mul_comm]; exact Int.emod_emod _ _
/-- Whatever u divides, u with the top coefficient 1 divides. -/
theorem dv_mon {u f : List Int} (p : PL u) (t : Tr u) (hu : u ≠ []) (h : Dv u f) : Dv (mon u) f := by
  obtain ⟨a, ha⟩ := h
  refine ⟨mk a.length fun k => nth u (u.length - 1) * nth a k, fun k => ?_⟩
  have e : ∀ i, nth (mk a.length fun k => nth u (u.length - 1) * nth a k) i = nth u (u.length - 1) * nth a i := fun i => by
    rw [mk_nth]
    split
    · rfl
    · rw [sup_nth a i (by omega), Int.mul_zero]
  rw [ha k, cv_eqm (eqm_of e) (mon_eqm u) k, cv_smul_left, cv_smul_right, ← Int.mul_assoc, Int.mul_emod, ovl_mul p t hu, Int.one_mul, Int.emod_emod]
/-- What is divided leaves nothing. -/
theorem dv_rest {c f q r : List Int} (pc : PL c) (tc : Tr c) (hc : c ≠ []) (h : Dv c f) (hd : DivOk f c q r) : r = [] := by
  obtain ⟨a, ha⟩ := h
  have hd' : DivOk f c (trm (mk a.length fun k => nth a k % 9973)) [] := by
    refine ⟨pl_trm (pl_mk fun k _ => emod_pl _), tr_trm _, pl_nil, tr_nil, len_pos hc, fun k => ?_⟩
    have e : Eqm (nth (trm (mk a.length fun k => nth a k % 9973))) (nth a) := fun i => by
      rw [trm_nth, mk_nth]
      split
      · exact Int.emod_emod _ _
      · rw [sup_nth a i (by omega)]
    rw [ha k]
    show _ = (cv (nth (trm (mk a.length fun k => nth a k % 9973))) (nth c) k + 0) % 9973
    rw [Int.add_zero, cv_eqm e (Eqm.refl _) k]
  exact (div_uniq pc tc hd hd').2
/-- A greatest common divisor times a third one, divided by the greatest common divisor of the products: one number, nothing left. -/
theorem gcd_times {u h q r : List Int} (pu : PL u) (tu : Tr u) (hu : u ≠ []) (ph : PL h) (th : Tr h) (hh : h ≠ []) (hd : DivOk (pmul (mon u) h) (mon (pmul u h)) q r) : q.length = 1 ∧ r = [] := by
  obtain ⟨hl, hne⟩ := pmul_len_eq pu ph tu th hu hh
  have pd := mon_pl (pmul u h)
  have td := mon_tr (pmul_pl u h) (pmul_tr u h)
  have l1 := tr_lead (pmul_pl u h) (pmul_tr u h) hne
  obtain ⟨d, hdd⟩ : ∃ d, d = nth (pmul u h) ((pmul u h).length - 1) := ⟨_, rfl⟩
  rw [← hdd] at l1
  have hov : d * ovl (pmul u h) % 9973 = 1 := by rw [hdd]; exact ovl_mul (pmul_pl u h) (pmul_tr u h) hne
  have hov1 : nth u (u.length - 1) * ovl u % 9973 = 1 := ovl_mul pu tu hu
  have ha : ovl u * d % 9973 ≠ 0 := fun e => by
    rcases no_zero_div _ _ e with h | h
    · rw [Int.mul_emod, h] at hov1; simp at hov1
    · exact l1.1 h
  have hd' : DivOk (pmul (mon u) h) (mon (pmul u h)) [ovl u * d % 9973] [] := by
    refine ⟨?_, ?_, pl_nil, tr_nil, ?_, fun k => ?_⟩
    · exact pl_of (by intro x hx; simp at hx; subst hx; omega)
    · intro _; exact ha
    · exact len_pos (mon_ne hne)
    · have e : ∀ i, nth [ovl u * d % 9973] i = (ovl u * d % 9973) * nth [1] i := fun i => by
        match i with
        | 0 => show _ = _ * 1; rw [Int.mul_one]; rfl
        | i + 1 => show _ = _ * 0; rw [Int.mul_zero]; rfl
      show _ = (cv (nth [ovl u * d % 9973]) (nth (mon (pmul u h))) k + 0) % 9973
      rw [Int.add_zero, cv_eqm (eqm_of e) (mon_eqm (pmul u h)) k, cv_smul_left, cv_smul_right, cv_one, pmul_eqm (mon u) h k, cv_eqm (mon_eqm u) (Eqm.refl _) k, cv_smul_left,
        Int.mul_emod (ovl u), ← pmul_eqm u h k, ← Int.mul_emod, ← Int.mul_assoc, Int.mul_emod (ovl u * d % 9973 * ovl (pmul u h)), Int.mul_emod (ovl u * d % 9973), Int.emod_emod, ← Int.mul_emod (ovl u * d), Int.mul_assoc (ovl u) d, Int.mul_emod (ovl u) (d * _), hov, Int.mul_one, Int.emod_emod, ← Int.mul_emod]
  obtain ⟨e1, e2⟩ := div_uniq pd td hd hd'
  exact ⟨by rw [e1]; rfl, e2⟩
end Go.Proofs.YtaidincogkfodaaDoor
