/- 'append(s, xs...)' over a row that is the call's own and not nil: where the new slice lies, and what else stays. -/
import Derived.Test.YtcbpkjmmacgmfaaMem
namespace Go.Proofs.Ytcbpkjmmacgmfaa
open Go.RowKit

theorem run_append_own2 (w : World) (ty : TypeId) {base g n c : Nat} {L : List Int} (hown : Own w base (some ⟨g, 0, none⟩) n c L) {b off m cm : Nat} {M : List Int} (hM : M.length = m)
    (hc : ∀ j, j < m → w.cell? ⟨b, off + j, none⟩ = some (.int .i64 (nth M j))) (hn : n ≤ 1000000) (hm : m ≤ 1000000) (hbase : base ≤ w.heap.size) :
    ∃ (g' c' : Nat) (w' : World), (Builtin.append_ #[22, 22] ty #[.slice (some ⟨g, 0, none⟩) n c, .slice (some ⟨b, off, none⟩) m cm]).run Try.prog w = .ok (.slice (some ⟨g', 0, none⟩) (n + m) c') w' ∧
      Own w' base (some ⟨g', 0, none⟩) (n + m) c' (L ++ M) ∧ w.grownBy w' (some g) ∧ (g' = g ∨ w.heap.size ≤ g') := by
  obtain ⟨i0, hi, hz0, hz1, hz2⟩ := info_parts infoInt
  have hnews : ∀ j u, (M.map (Value.int .i64))[j]? = some u → w.cell? ((⟨b, off, none⟩ : Addr).add j) = some u := by
    intro j u hj
    have hjm : j < m := by
      have := (List.getElem?_eq_some_iff.1 hj).1
      simpa [hM] using this
    have hu : u = .int .i64 (nth M j) := by
      have hl : j < M.length := by rw [hM]; exact hjm
      rw [List.getElem?_map, List.getElem?_eq_getElem hl] at hj
      unfold nth
      simp [List.getD, List.getElem?_eq_getElem hl] at hj ⊢
      exact hj.symm
    rw [hu, ← hc j hjm]
    congr 1
    unfold Addr.add
    by_cases h0 : j = 0 <;> simp [h0]
  have h1 : ∀ u ∈ M.map (Value.int .i64), u.oneCell' = true := by
    intro u hu
    obtain ⟨z, _, rfl⟩ := List.mem_map.1 hu
    rfl
  have hl : (M.map (Value.int .i64)).length = m * 1 := by simp [hM]
  obtain ⟨v', w', hr, ho, hg, _⟩ := run_append_own (P := Try.prog) w base 22 ty 3 i0 (.int .i64 0) 1 8 Try.underlying22 hi hz0 hz1 hz2 rfl (by decide) _ n _ hown.2 ⟨b, off, none⟩ m cm (M.map (Value.int .i64)) hl hnews h1 (by unfold maxLen; omega) (by omega) hbase
  have fin : ∀ g' c' W, v' = .slice (some ⟨g', 0, none⟩) (n + m) c' → w' = W → (g' = g ∨ w.heap.size ≤ g') →
      ∃ (g' c' : Nat) (w' : World), (Builtin.append_ #[22, 22] ty #[.slice (some ⟨g, 0, none⟩) n c, .slice (some ⟨b, off, none⟩) m cm]).run Try.prog w = .ok (.slice (some ⟨g', 0, none⟩) (n + m) c') w' ∧
        Own w' base (some ⟨g', 0, none⟩) (n + m) c' (L ++ M) ∧ w.grownBy w' (some g) ∧ (g' = g ∨ w.heap.size ≤ g') := by
    intro g' c' W e1 e2 hb
    subst e1; subst e2
    exact ⟨g', c', w', hr, ⟨by simp [hown.1, hM], by rw [List.map_append]; exact ho⟩, hg, hb⟩
  rcases hown.2.2 with ⟨hv, _⟩ | ⟨g0, cap, cur, hv, hbg, hh, hnc, hcm, hcs, htake⟩
  · cases hv
  · injection hv with hA _ hcc
    injection hA with hA
    injection hA with hA1 _ _
    subst hA1; subst hcc
    by_cases hroom : n + m ≤ c
    · have hr2 := run_append_room (P := Try.prog) w 22 ty 3 i0 Try.underlying22 hi g n c cur hh ⟨b, off, none⟩ m cm (M.map (Value.int .i64)) (by rw [hz1]; exact hl) hnews h1 hroom (by rw [hz1, hl, hcs]; omega)
      rw [hr2] at hr
      injection hr with e1 e2
      exact fin g c _ e1.symm e2.symm (.inl rfl)
    · have holds : ∀ j u, (L.map (Value.int .i64))[j]? = some u → w.cell? ((⟨g, 0, none⟩ : Addr).add j) = some u := hown.2.cells (g := g) rfl
      have hr2 := run_append_grow (P := Try.prog) w 22 ty 3 i0 (.int .i64 0) Try.underlying22 hi hz0 ⟨g, 0, none⟩ n c (L.map (Value.int .i64)) (by rw [hz1]; simp [hown.1]) holds ⟨b, off, none⟩ m cm (M.map (Value.int .i64)) (by rw [hz1]; exact hl) hnews (by omega) (by omega) (growslice_fits (by omega) (by rw [hz2]; omega))
      rw [hr2] at hr
      injection hr with e1 e2
      exact fin w.heap.size _ _ e1.symm e2.symm (.inr (Nat.le_refl _))
theorem wp_append2 {w : World} {o : Oper} {a : Act} {K : Act → World → Prop} {Q : Exit → Act → World → Prop} (s x : Operand)
    (ho : o.op = .call { callee := .builtin .append, args := #[s, x], argTypes := #[22, 22] })
    (base : Nat) {g n c : Nat} {L : List Int} {b off m cm : Nat} {M : List Int} (hs : a.eval s = .slice (some ⟨g, 0, none⟩) n c) (hx : a.eval x = .slice (some ⟨b, off, none⟩) m cm) (hown : Own w base (some ⟨g, 0, none⟩) n c L) (hM : M.length = m)
    (hc : ∀ j, j < m → w.cell? ⟨b, off + j, none⟩ = some (.int .i64 (nth M j))) (hn : n ≤ 1000000) (hm : m ≤ 1000000) (hbase : base ≤ w.heap.size)
    (h : ∀ g' c' w', Own w' base (some ⟨g', 0, none⟩) (n + m) c' (L ++ M) → w.grownBy w' (some g) → (g' = g ∨ w.heap.size ≤ g') → K (a.put o.dst (.slice (some ⟨g', 0, none⟩) (n + m) c')) w') : o.wp Try.prog a w K Q := by
  obtain ⟨g', c', w', hr, h2, h3, h4⟩ := run_append_own2 w o.type (cm := cm) hown hM hc hn hm hbase
  unfold Oper.wp execOp
  simp only [ho, resolve, invoke, builtin, Sem.run_bind, Sem.run_pure, Result.andThen_ok, List.map_toArray, List.map_cons, List.map_nil, hs, hx, hr]
  exact h g' c' w' h2 h3 h4
/-- The same as one step of straight code. -/
theorem wpl_append2 {w : World} {ops : Array Oper} {rest : List Oper} {o : Oper} {a : Act} {Q : Exit → Act → World → Prop} (hgd : o.guard = none) (s x : Operand)
    (ho : o.op = .call { callee := .builtin .append, args := #[s, x], argTypes := #[22, 22] })
    (base : Nat) {g n c : Nat} {L : List Int} {b off m cm : Nat} {M : List Int} (hs : a.eval s = .slice (some ⟨g, 0, none⟩) n c) (hx : a.eval x = .slice (some ⟨b, off, none⟩) m cm) (hown : Own w base (some ⟨g, 0, none⟩) n c L) (hM : M.length = m)
    (hc : ∀ j, j < m → w.cell? ⟨b, off + j, none⟩ = some (.int .i64 (nth M j))) (hn : n ≤ 1000000) (hm : m ≤ 1000000) (hbase : base ≤ w.heap.size)
    (h : ∀ g' c' w', Own w' base (some ⟨g', 0, none⟩) (n + m) c' (L ++ M) → w.grownBy w' (some g) → (g' = g ∨ w.heap.size ≤ g') → wpList Try.prog ops Q rest (a.put o.dst (.slice (some ⟨g', 0, none⟩) (n + m) c')) w') : wpList Try.prog ops Q (o :: rest) a w :=
  wpList_plain hgd fun _ hK => wp_append2 s x ho base hs hx hown hM hc hn hm hbase fun g' c' w' h2 h3 h4 => hK _ _ (h g' c' w' h2 h3 h4)
/-- The same as one step of a region that draws its order. -/
theorem step_append2 {w : World} {ops : Array Oper} {o : Oper} {a : Act} {K : Act → World → Prop} {Q : Exit → Act → World → Prop} {E : Prop} (hgd : o.guard = none) (s x : Operand)
    (ho : o.op = .call { callee := .builtin .append, args := #[s, x], argTypes := #[22, 22] })
    (base : Nat) {g n c : Nat} {L : List Int} {b off m cm : Nat} {M : List Int} (hs : a.eval s = .slice (some ⟨g, 0, none⟩) n c) (hx : a.eval x = .slice (some ⟨b, off, none⟩) m cm) (hown : Own w base (some ⟨g, 0, none⟩) n c L) (hM : M.length = m)
    (hc : ∀ j, j < m → w.cell? ⟨b, off + j, none⟩ = some (.int .i64 (nth M j))) (hn : n ≤ 1000000) (hm : m ≤ 1000000) (hbase : base ≤ w.heap.size)
    (h : ∀ g' c' w', Own w' base (some ⟨g', 0, none⟩) (n + m) c' (L ++ M) → w.grownBy w' (some g) → (g' = g ∨ w.heap.size ≤ g') → K (a.put o.dst (.slice (some ⟨g', 0, none⟩) (n + m) c')) w') :
    if Region.wanted o (yielded ops a.tmps) = true then Oper.wp Try.prog o a w K Q else E := by
  have hw : Region.wanted o (yielded ops a.tmps) = true := by simp [Region.wanted, hgd]
  rw [if_pos hw]
  exact wp_append2 s x ho base hs hx hown hM hc hn hm hbase h
end Go.Proofs.Ytcbpkjmmacgmfaa
