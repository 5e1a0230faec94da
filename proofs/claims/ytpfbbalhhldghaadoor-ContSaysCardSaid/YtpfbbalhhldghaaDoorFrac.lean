/- Slices of fractions: what they hold, and one more appended. -/
import Derived.Test.YtpfbbalhhldghaaDoorMem
namespace Go.Proofs.YtpfbbalhhldghaaDoor
open Go.RowKit

/-- The j-th fraction of a list. -/
def nf (L : List (Int × Int)) (j : Nat) : Int × Int := L.getD j (0, 0)
/-- The slice value '.slice A n c' of fractions reads in w as the list L, and lies below block B. -/
def RdF (w : World) (B : Nat) (A : Option Addr) (n : Nat) (L : List (Int × Int)) : Prop :=
  L.length = n ∧ (0 < n → ∃ b off, A = some ⟨b, off, none⟩ ∧ b < B ∧ ∀ j, j < n → w.cell? ⟨b, off + j * 2, none⟩ = some (.int .i64 (nf L j).1) ∧ w.cell? ⟨b, off + j * 2 + 1, none⟩ = some (.int .i64 (nf L j).2))
section
variable {w w' : World} {B B' n : Nat} {A : Option Addr} {L : List (Int × Int)}
theorem RdF.at_ (h : RdF w B A n L) {k : Nat} (hk : k < n) : ∃ b off, A = some ⟨b, off, none⟩ ∧ w.cell? ⟨b, off + k * 2, none⟩ = some (.int .i64 (nf L k).1) ∧ w.cell? ⟨b, off + k * 2 + 1, none⟩ = some (.int .i64 (nf L k).2) := by
  obtain ⟨b, off, e, _, hc⟩ := h.2 (by omega)
  exact ⟨b, off, e, hc k hk⟩
theorem RdF.keep (h : RdF w B A n L) (hk : ∀ p : Addr, p.block < B → w'.cell? p = w.cell? p) : RdF w' B A n L :=
  ⟨h.1, fun hn => by
    obtain ⟨b, off, e, hb, hc⟩ := h.2 hn
    exact ⟨b, off, e, hb, fun j hj => ⟨(hk _ hb).trans (hc j hj).1, (hk _ hb).trans (hc j hj).2⟩⟩⟩
theorem RdF.more (h : RdF w B A n L) (hB : B ≤ B') : RdF w B' A n L :=
  ⟨h.1, fun hn => by
    obtain ⟨b, off, e, hb, hc⟩ := h.2 hn
    exact ⟨b, off, e, by omega, hc⟩⟩
theorem RdF.below (h : RdF w B A n L) (hb : Below B w w') : RdF w' B A n L := h.keep fun _ hp => hb.cell hp
theorem RdF.drewN (h : RdF w B A n L) (q : Nat) : RdF (w.drewN q) B A n L := h
end
/-- The cells of a list of fractions. -/
def fcells (L : List (Int × Int)) : List Value := L.flatMap fun x => [.int .i64 x.1, .int .i64 x.2]
theorem fcells_len (L : List (Int × Int)) : (fcells L).length = 2 * L.length := by
  induction L with
  | nil => rfl
  | cons x L ih =>
    have : fcells (x :: L) = .int .i64 x.1 :: .int .i64 x.2 :: fcells L := rfl
    rw [this]; simp only [List.length_cons, ih]; omega
theorem fcells_append (L : List (Int × Int)) (x : Int × Int) : fcells (L ++ [x]) = fcells L ++ [.int .i64 x.1, .int .i64 x.2] := by
  unfold fcells; rw [List.flatMap_append]; rfl
theorem fcells_at (L : List (Int × Int)) : ∀ j, j < L.length → (fcells L)[j * 2]? = some (.int .i64 (nf L j).1) ∧ (fcells L)[j * 2 + 1]? = some (.int .i64 (nf L j).2) := by
  induction L with
  | nil => intro j h; simp at h
  | cons x L ih =>
    intro j h
    have e : fcells (x :: L) = .int .i64 x.1 :: .int .i64 x.2 :: fcells L := rfl
    rw [e]
    match j with
    | 0 => exact ⟨rfl, rfl⟩
    | j + 1 =>
      have := ih j (by simpa using h)
      rw [show (j + 1) * 2 = j * 2 + 1 + 1 by omega]
      simpa [nf, List.getD] using this
/-- The slice value '.slice A n c' is the call's own and holds the fractions L. -/
def OwnF (w : World) (base : Nat) (A : Option Addr) (n c : Nat) (L : List (Int × Int)) : Prop := L.length = n ∧ w.ownsRow base 35 2 (.slice A n c) n (fcells L)
theorem infoFrac : (Tryd.prog.info? 35).map (fun i => (i.zero, i.size, i.bytes)) = some (some (.agg #[.int .i64 0, .int .i64 0]), 2, 16) := by kernel_rfl
section
variable {w w' : World} {base n c : Nat} {A : Option Addr} {L : List (Int × Int)}
theorem OwnF.nil (w : World) (base : Nat) : OwnF w base none 0 0 [] := ⟨rfl, World.ownsRow_nil _ _ _ _⟩
theorem OwnF.drewN (h : OwnF w base A n c L) (q : Nat) : OwnF (w.drewN q) base A n c L := h
theorem OwnF.drew (h : OwnF w base A n c L) : OwnF w.drew base A n c L := h
theorem ownF_shape {v : Value} {xs : List Value} (h : w.ownsRow base 35 2 v n xs) : ∃ A c, v = .slice A n c := by
  rcases h.2 with ⟨rfl, rfl⟩ | ⟨g, cap, cur, rfl, _⟩
  · exact ⟨_, _, rfl⟩
  · exact ⟨_, _, rfl⟩
theorem OwnF.rd (h : OwnF w base A n c L) : RdF w w.heap.size A n L := by
  refine ⟨h.1, fun hn => ?_⟩
  obtain ⟨h0, h1⟩ := h
  rcases h1.2 with ⟨hv, h2⟩ | ⟨g, cap, cur, hv, hg, hh, _⟩
  · omega
  · injection hv with hA _ hc
    subst hA; subst hc
    have hl := fcells_len L
    refine ⟨g, 0, rfl, ?_, fun j hj => ?_⟩
    · rcases Nat.lt_or_ge g w.heap.size with hlt | hge
      · exact hlt
      · rw [Array.getElem?_eq_none hge] at hh; cases hh
    · obtain ⟨c1, c2⟩ := fcells_at L j (by omega)
      have a1 := h1.cellAt (j * 2) (by omega)
      have a2 := h1.cellAt (j * 2 + 1) (by omega)
      rw [Nat.zero_add, a1, a2, ← c1, ← c2]
      exact ⟨(by simp), (by simp)⟩
theorem OwnF.keep (h : OwnF w base A n c L) (hb : Below w.heap.size w w') : OwnF w' base A n c L := by
  refine ⟨h.1, h.2.1, ?_⟩
  rcases h.2.2 with hn | ⟨g, cap, cur, hv, hg, hh, r⟩
  · exact .inl hn
  · refine .inr ⟨g, cap, cur, hv, hg, ?_, r⟩
    rcases Nat.lt_or_ge g w.heap.size with hlt | hge
    · rw [hb.block g hlt]; exact hh
    · rw [Array.getElem?_eq_none hge] at hh; cases hh
theorem OwnF.alloc (h : OwnF w base A n c L) (o : Obj) : OwnF (w.alloc o) base A n c L := h.keep ((Below.refl _ _).alloc (Nat.le_refl _) o)
theorem OwnF.base_le {base' : Nat} (h : OwnF w base A n c L) (hb : base' ≤ base) : OwnF w base' A n c L := by
  refine ⟨h.1, h.2.1, ?_⟩
  rcases h.2.2 with hn | ⟨g, cap, cur, hv, hg, r⟩
  · exact .inl hn
  · exact .inr ⟨g, cap, cur, hv, by omega, r⟩
theorem belowF_of_grown (h : OwnF w base A n c L) (hg : w.grownBy w' (Value.ownBlock (.slice A n c))) (hbase : base ≤ w.heap.size) : Below base w w' :=
  (Below.refl base w).grown hg hbase fun k hk => by
    rcases A with _ | a
    · cases hk
    · rcases h.2.2 with ⟨hv, _⟩ | ⟨g, cap, cur, hv, hg, _⟩
      · cases hv
      · injection hv with hA _ _
        injection hA with hA
        subst hA
        have hk' : some g = some k := hk
        injection hk' with hk'
        omega
end
/-- 'out = append(out, f)', out nil or the call's own: out owns one fraction more. -/
theorem wp_pushF {w : World} {ops : Array Oper} {rest : List Oper} {o : Oper} {a : Act} {Q : Exit → Act → World → Prop} (hgd : o.guard = none) (s x : Operand)
    (ho : o.op = .call { callee := .builtin .append, args := #[s, x], argTypes := #[42, 42] })
    (base : Nat) {A : Option Addr} {n c : Nat} {L : List (Int × Int)} {z : Int × Int} (hs : a.eval s = .slice A n c) (hx : a.eval x = .slice (some ⟨w.heap.size, 0, none⟩) 1 1) (hown : OwnF w base A n c L) (hn : n ≤ 1000000) (hbase : base ≤ w.heap.size)
    (h : ∀ A' c' w', OwnF w' base A' (n + 1) c' (L ++ [z]) → Below base w w' → wpList Tryd.prog ops Q rest (a.put o.dst (.slice A' (n + 1) c')) w') : wpList Tryd.prog ops Q (o :: rest) a (w.alloc (.cells #[.int .i64 z.1, .int .i64 z.2] 35)) := by
  obtain ⟨i0, hi, hz0, hz1, hz2⟩ := info_parts infoFrac
  refine wpList_append_own _ hgd s x 42 ho base 35 i0 (.agg #[.int .i64 0, .int .i64 0]) 2 16 Tryd.underlying42 hi hz0 hz1 hz2 rfl (by decide) _ n _ hs (hown.alloc _).2 ⟨w.heap.size, 0, none⟩ 1 1 [.int .i64 z.1, .int .i64 z.2] hx rfl ?_ ?_ (by unfold maxLen; omega) (by omega) (by simp; omega) ?_
  · intro j u hj
    match j, hj with
    | 0, hj => simp at hj; subst hj; simp [Addr.add]
    | 1, hj => simp at hj; subst hj; simp [Addr.add]
  · intro u hu; simp at hu; rcases hu with rfl | rfl <;> rfl
  · intro v' w' hown' hgrow _
    obtain ⟨A', c', rfl⟩ := ownF_shape hown'
    refine h A' c' w' ⟨by simp [hown.1], by rw [fcells_append]; simpa using hown'⟩ ?_
    exact ((Below.refl base w).alloc hbase _).trans (belowF_of_grown (hown.alloc _) hgrow (by simp; omega))
end Go.Proofs.YtpfbbalhhldghaaDoor
