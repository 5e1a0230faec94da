/- Two rows that are the call's own, one element appended to one of them: the other stays. -/
import Derived.Test.YtcbpkjmmacgmfaaApp
namespace Go.Proofs.Ytcbpkjmmacgmfaa
open Go.RowKit

/-- Two rows of the call's own in blocks of their own. -/
def Apart (A A2 : Option Addr) : Prop := ∀ g g2, A = some ⟨g, 0, none⟩ → A2 = some ⟨g2, 0, none⟩ → g ≠ g2
theorem Apart.symm {A A2 : Option Addr} (h : Apart A A2) : Apart A2 A := fun g g2 e1 e2 e => h g2 g e2 e1 e.symm
theorem apart_none (A : Option Addr) : Apart none A := fun _ _ e _ => by cases e
theorem own_cases {w : World} {base n c : Nat} {A : Option Addr} {L : List Int} (h : Own w base A n c L) : (A = none ∧ n = 0 ∧ c = 0 ∧ L = []) ∨ ∃ g, A = some ⟨g, 0, none⟩ := by
  rcases h.2.2 with ⟨hv, h0⟩ | ⟨g, cap, cur, hv, _⟩
  · injection hv with e1 e2 e3
    exact .inl ⟨e1, e2, e3, List.eq_nil_of_length_eq_zero (by rw [h.1]; exact e2)⟩
  · injection hv with e1 e2 e3
    exact .inr ⟨g, e1⟩
theorem own_grown2 {w w' : World} {base n c g : Nat} {A : Option Addr} {L : List Int} (h : Own w base A n c L) (hg : w.grownBy w' (some g)) (hne : ∀ g', A = some ⟨g', 0, none⟩ → g' ≠ g) : Own w' base A n c L := by
  rcases own_cases h with ⟨rfl, rfl, rfl, rfl⟩ | ⟨g', rfl⟩
  · exact Own.nil _ _
  · exact own_grown h hg (hne g' rfl)
theorem wp_push_two {w : World} {ops : Array Oper} {rest : List Oper} {o : Oper} {a : Act} {Q : Exit → Act → World → Prop} (hgd : o.guard = none) (s x : Operand)
    (ho : o.op = .call { callee := .builtin .append, args := #[s, x], argTypes := #[22, 22] })
    (base : Nat) {A A2 : Option Addr} {n c n2 c2 : Nat} {L L2 : List Int} {z : Int} (hs : a.eval s = .slice A n c) (hx : a.eval x = .slice (some ⟨w.heap.size, 0, none⟩) 1 1) (hown : Own w base A n c L) (hown2 : Own w base A2 n2 c2 L2) (hd : Apart A A2) (hn : n ≤ 1000000) (hbase : base ≤ w.heap.size)
    (h : ∀ A' c' w', Own w' base A' (n + 1) c' (L ++ [z]) → Own w' base A2 n2 c2 L2 → Apart A' A2 → Below base w w' → wpList Try.prog ops Q rest (a.put o.dst (.slice A' (n + 1) c')) w') : wpList Try.prog ops Q (o :: rest) a (w.alloc (.cells #[.int .i64 z] 3)) := by
  rcases own_cases hown with ⟨rfl, rfl, rfl, rfl⟩ | ⟨g, rfl⟩
  · refine wp_push hgd s x ho w.heap.size hs hx (Own.nil w w.heap.size) hn (Nat.le_refl _) ?_
    intro A' c' w' ho' hb
    refine h A' c' w' (ho'.base_le hbase) (hown2.keep hb) ?_ (hb.mono hbase)
    intro g g2 e1 e2 e
    subst e1; subst e2
    have := ho'.lt
    have := hown2.lt
    omega
  · refine wpl_append2 hgd s x ho base (g := g) (n := n) (c := c) (L := L) (b := w.heap.size) (off := 0) (m := 1) (cm := 1) (M := [z]) hs hx (hown.alloc _) rfl ?_ hn (by omega) (by simp; omega) ?_
    · intro j hj
      obtain rfl : j = 0 := by omega
      simp [nth]
    · intro g' c' w' ho' hg hne
      refine h _ c' w' ho' (own_grown2 (hown2.alloc _) hg fun g2 e2 e => hd g g2 rfl e2 e.symm) ?_ ?_
      · intro g1 g2 e1 e2 e
        injection e1 with e1
        injection e1 with e1 _ _
        subst e1; subst e2
        rcases hne with hne | hne
        · exact hd g g2 rfl rfl (hne ▸ e)
        · simp at hne
          have := hown2.lt
          omega
      · exact ((Below.refl base w).alloc hbase _).trans (below_grown hg (by simp; omega) hown.lt.1)
end Go.Proofs.Ytcbpkjmmacgmfaa
