/- Slices of integers that a call makes for itself: what they hold, one more element appended, a copy; and small words on worlds. -/
import Derived.Test.YtmicgjpelikjiaaDoorProg
import Derived.Test.YtmicgjpelikjiaaDoorBase
namespace Go.Proofs.YtmicgjpelikjiaaDoor
open Go.RowKit

theorem below_drewN {B : Nat} {a w : World} (h : Below B a w) (n : Nat) : Below B a (w.drewN n) := ⟨h.os, h.tape, h.output, h.size, h.block⟩
theorem rd_drewN {w : World} {B n : Nat} {A : Option Addr} {L : List Int} (h : Rd w B A n L) (q : Nat) : Rd (w.drewN q) B A n L := h
theorem drews (w : World) (a b : Nat) : ∃ k, w.drewN k = (w.drewN a).drewN b := ⟨a + b, by rw [World.drewN_drewN]⟩
theorem quiet_left {P : Program} {f : FuncId} {args : Array Value} {w : World} {n : Nat} {v : Value}
    (h : Calls P f args (w.drewN n) fun e w' => e = .returned v ∧ w.drewN n = w') : Calls P f args (w.drewN n) fun e w'' => e = .returned v ∧ ∃ m, w'' = w.drewN m :=
  h.mono fun _ _ ⟨he, hm⟩ => ⟨he, n, hm.symm⟩
theorem quiet_add_left {P : Program} {f : FuncId} {args : Array Value} {w : World} {a n : Nat} {v : Value}
    (h : Calls P f args (w.drewN (a + n)) fun e w' => e = .returned v ∧ w.drewN (a + n) = w') :
    Calls P f args (w.drewN (a + n)) fun e w'' => e = .returned v ∧ ∃ m, w'' = w.drewN (a + m) :=
  h.mono fun _ _ ⟨he, hm⟩ => ⟨he, n, hm.symm⟩
theorem quiet_left_q {P : Program} {f : FuncId} {args : Array Value} {w : World} {n : Nat} {v : Value}
    (h : Calls P f args (w.drewN n) fun e w' => e = .returned v ∧ ∃ m, (w.drewN n).drewN m = w') : Calls P f args (w.drewN n) fun e w'' => e = .returned v ∧ ∃ m, w'' = w.drewN m :=
  h.mono fun _ _ ⟨he, m, hm⟩ => ⟨he, n + m, by rw [← hm, World.drewN_drewN]⟩
theorem quiet_add_left_q {P : Program} {f : FuncId} {args : Array Value} {w : World} {a n : Nat} {v : Value}
    (h : Calls P f args (w.drewN (a + n)) fun e w' => e = .returned v ∧ ∃ m, (w.drewN (a + n)).drewN m = w') :
    Calls P f args (w.drewN (a + n)) fun e w'' => e = .returned v ∧ ∃ m, w'' = w.drewN (a + m) :=
  h.mono fun _ _ ⟨he, m, hm⟩ => ⟨he, n + m, by rw [← hm, World.drewN_drewN, Nat.add_assoc]⟩

/-- A contract that speaks of the world ahead of the call, said of an earlier world. -/
theorem more {P : Program} {f : FuncId} {args : Array Value} {w W : World} {v : Value} (hb : Below W.heap.size W w) (h : Calls P f args w fun e w' => e = .returned v ∧ Below w.heap.size w w') :
    Calls P f args w fun e w' => e = .returned v ∧ Below W.heap.size W w' :=
  h.mono fun _ _ ⟨he, h'⟩ => ⟨he, hb.trans (h'.mono hb.size)⟩

/-- The slice value '.slice A n c' is the call's own (in blocks from base on) and holds the list L. -/
def Own (w : World) (base : Nat) (A : Option Addr) (n c : Nat) (L : List Int) : Prop := L.length = n ∧ w.ownsRow base 3 1 (.slice A n c) n (L.map (Value.int .i64))
theorem infoInt : (Tryd.prog.info? 3).map (fun i => (i.zero, i.size, i.bytes)) = some (some (.int .i64 0), 1, 8) := by kernel_rfl

section
variable {w w' : World} {base n c : Nat} {A : Option Addr} {L : List Int}
theorem Own.nil (w : World) (base : Nat) : Own w base none 0 0 [] := ⟨rfl, World.ownsRow_nil _ _ _ _⟩
theorem Own.len (h : Own w base A n c L) : L.length = n := h.1
theorem Own.drewN (h : Own w base A n c L) (q : Nat) : Own (w.drewN q) base A n c L := h
theorem own_shape {v : Value} {xs : List Value} (h : w.ownsRow base 3 1 v n xs) : ∃ A c, v = .slice A n c := by
  rcases h.2 with ⟨rfl, rfl⟩ | ⟨g, cap, cur, rfl, _⟩
  · exact ⟨_, _, rfl⟩
  · exact ⟨_, _, rfl⟩
theorem Own.rd (h : Own w base A n c L) : Rd w w.heap.size A n L := by
  refine ⟨h.1, fun hn => ?_⟩
  obtain ⟨h0, h1⟩ := h
  rcases h1.2 with ⟨hv, h2⟩ | ⟨g, cap, cur, hv, hg, hh, _⟩
  · omega
  · injection hv with hA _ hc
    subst hA; subst hc
    refine ⟨g, 0, rfl, ?_, fun j hj => ?_⟩
    · rcases Nat.lt_or_ge g w.heap.size with hlt | hge
      · exact hlt
      · rw [Array.getElem?_eq_none hge] at hh; cases hh
    · have := h1.cellAt j (by omega)
      rw [Nat.zero_add, this]
      unfold nth
      simp [List.getD, List.getElem?_eq_getElem (show j < L.length by omega)]
theorem Own.row (h : Own w base A n c L) : ∀ g off, A = some ⟨g, off, none⟩ → base ≤ g ∧ off = 0 := by
  intro g off hA
  subst hA
  rcases h.2.2 with ⟨hv, h2⟩ | ⟨g', cap, cur, hv, hg, hh, _⟩
  · cases hv
  · injection hv with hA _ hc
    injection hA with hA
    injection hA with h1 h2 h3
    subst h1; subst h2
    exact ⟨hg, rfl⟩
/-- What is the call's own stays so where only other blocks, or none that was there, turn. -/
theorem Own.keep (h : Own w base A n c L) (hb : Below w.heap.size w w') : Own w' base A n c L := by
  refine ⟨h.1, h.2.1, ?_⟩
  rcases h.2.2 with hn | ⟨g, cap, cur, hv, hg, hh, r⟩
  · exact .inl hn
  · refine .inr ⟨g, cap, cur, hv, hg, ?_, r⟩
    rcases Nat.lt_or_ge g w.heap.size with hlt | hge
    · rw [hb.block g hlt]; exact hh
    · rw [Array.getElem?_eq_none hge] at hh; cases hh
theorem Own.alloc (h : Own w base A n c L) (o : Obj) : Own (w.alloc o) base A n c L := h.keep ((Below.refl _ _).alloc (Nat.le_refl _) o)
theorem Own.base_le {base' : Nat} (h : Own w base A n c L) (hb : base' ≤ base) : Own w base' A n c L := by
  refine ⟨h.1, h.2.1, ?_⟩
  rcases h.2.2 with hn | ⟨g, cap, cur, hv, hg, r⟩
  · exact .inl hn
  · exact .inr ⟨g, cap, cur, hv, by omega, r⟩
/-- What is the call's own stays so where blocks from B on turn, and its own block lies below B. (A row made before the block B.) -/
theorem Own.below {B : Nat} (h : Own w base A n c L) (hr : ∀ g off, A = some ⟨g, off, none⟩ → g < B) (hb : Below B w w') : Own w' base A n c L := by
  refine ⟨h.1, h.2.1, ?_⟩
  rcases h.2.2 with hn | ⟨g, cap, cur, hv, hg, hh, r⟩
  · exact .inl hn
  · injection hv with hA _ hc
    subst hA; subst hc
    exact .inr ⟨g, _, cur, rfl, hg, by rw [hb.block g (hr g 0 rfl)]; exact hh, r⟩
theorem below_of_grown (h : Own w base A n c L) (hg : w.grownBy w' (Value.ownBlock (.slice A n c))) (hbase : base ≤ w.heap.size) : Below base w w' :=
  (Below.refl base w).grown hg hbase fun k hk => by
    rcases A with _ | a
    · cases hk
    · rcases h.2.2 with ⟨hv, _⟩ | ⟨g, cap, cur, hv, hg, _⟩
      · cases hv
      · injection hv with hA _ _
        injection hA with hA
        subst hA
        have hk' : some g = some k := hk
        injection hk' with hk'
        omega
end

section
variable {w w' : World} {base n c g : Nat} {L : List Int}
theorem Own.cell (h : Own w base (some ⟨g, 0, none⟩) n c L) {j : Nat} (hj : j < n) : w.cell? ⟨g, j, none⟩ = some (.int .i64 (nth L j)) := by
  rw [h.2.cellAt j (by omega)]
  unfold nth
  have := h.1
  simp [List.getD, List.getElem?_eq_getElem (show j < L.length by omega)]
theorem Own.free (h : Own w base (some ⟨g, 0, none⟩) n c L) (j : Nat) : w.frozen? ⟨g, j, none⟩ = false := h.2.frozenAt j
theorem Own.set (h : Own w base (some ⟨g, 0, none⟩) n c L) (j : Nat) (z : Int) : Own (w.setCell ⟨g, j, none⟩ (.int .i64 z)) base (some ⟨g, 0, none⟩) n c (L.set j z) :=
  ⟨by simp [h.1], by rw [List.map_set]; exact (h.2.stored j (.int .i64 z)).1⟩
theorem Own.keep_set (h : Own w base (some ⟨g, 0, none⟩) n c L) {p : Addr} (hp : p.block ≠ g) (u : Value) : Own (w.setCell p u) base (some ⟨g, 0, none⟩) n c L := by
  refine ⟨h.1, h.2.1, ?_⟩
  rcases h.2.2 with hn | ⟨g', cap, cur, hv, hg, hh, r⟩
  · exact .inl hn
  · injection hv with hA _ hc
    injection hA with hA
    injection hA with h1 _ _
    subst h1; subst hc
    exact .inr ⟨g, _, cur, rfl, hg, by rw [Below.heap_setCell _ _ _ _ (fun e => hp e.symm)]; exact hh, r⟩
theorem Own.lt (h : Own w base (some ⟨g, 0, none⟩) n c L) : base ≤ g ∧ g < w.heap.size := by
  rcases h.2.2 with ⟨hv, _⟩ | ⟨g', cap, cur, hv, hg, hh, _⟩
  · cases hv
  · injection hv with hA _ _
    injection hA with hA
    injection hA with h1 _ _
    subst h1
    refine ⟨hg, ?_⟩
    rcases Nat.lt_or_ge g w.heap.size with hlt | hge
    · exact hlt
    · rw [Array.getElem?_eq_none hge] at hh; cases hh
theorem Own.form {A : Option Addr} (h : Own w base A n c L) (hn : 0 < n) : ∃ g, A = some ⟨g, 0, none⟩ ∧ base ≤ g ∧ g < w.heap.size := by
  rcases h.2.2 with ⟨_, h0⟩ | ⟨g, cap, cur, hv, hg, hh, _⟩
  · omega
  · injection hv with hA _ _
    refine ⟨g, hA, hg, ?_⟩
    rcases Nat.lt_or_ge g w.heap.size with hlt | hge
    · exact hlt
    · rw [Array.getElem?_eq_none hge] at hh; cases hh
end
theorem own_set {w : World} {base n c g j : Nat} {L L' : List Int} {z : Int} (h : Own w base (some ⟨g, 0, none⟩) n c L) (e : L.set j z = L') : Own (w.setCell ⟨g, j, none⟩ (.int .i64 z)) base (some ⟨g, 0, none⟩) n c L' := by
  rw [← e]; exact h.set j z
theorem nth_set (L : List Int) (j k : Nat) (z : Int) (h : j < L.length) : nth (L.set j z) k = if k = j then z else nth L k := by
  unfold nth
  by_cases e : k = j
  · subst e; simp [List.getD, h]
  · rw [if_neg e]; simp [List.getD, List.getElem?_set_ne (fun h' => e h'.symm)]
theorem nth_replicate (n k : Nat) (z : Int) (h : k < n) : nth (List.replicate n z) k = z := by
  unfold nth; simp [List.getD, h]

/-- A new block of integers. -/
theorem own_new (w : World) (L : List Int) (n : Nat) (h : L.length = n) (hn : n ≤ 1000000) : Own (w.alloc (.cells (L.map (Value.int .i64)).toArray 3)) w.heap.size (some ⟨w.heap.size, 0, none⟩) n n L :=
  ⟨h, by simp [h], .inr ⟨w.heap.size, n, _, rfl, Nat.le_refl _, heap_alloc_new w _, Nat.le_refl _, by unfold maxLen; omega, by simp [h], by rw [List.take_of_length_le (by simp [h])]⟩⟩
/-- 'make([]int, n)': n zeros of the call's own. -/
theorem wp_make {w : World} {ops : Array Oper} {rest : List Oper} {o : Oper} {a : Act} {Q : Exit → Act → World → Prop} (hgd : o.guard = none) (l c : Operand) (ho : o.op = Op.makeSlice 22 l c)
    (n : Nat) (C : Int) (hl : a.eval l = .int .i64 C) (hc : a.eval c = .int .i64 C) (hC : C = (n : Int)) (hn : n ≤ 1000000)
    (h : ∀ w', Own w' w.heap.size (some ⟨w.heap.size, 0, none⟩) n n (List.replicate n 0) → Below w.heap.size w w' → w.heap.size < w'.heap.size → wpList Tryd.prog ops Q rest (a.put o.dst (.slice (some ⟨w.heap.size, 0, none⟩) n n)) w') :
    wpList Tryd.prog ops Q (o :: rest) a w := by
  obtain ⟨i0, hi, hz0, hz1, hz2⟩ := info_parts infoInt
  refine wpList_make_full _ hgd l c 22 ho w.heap.size 3 i0 (.int .i64 0) 1 Tryd.underlying22 hi hz0 hz1 .i64 .i64 C C n hl hc hC hC (by rw [hz2]; omega) (by unfold maxLen; omega) (Nat.le_refl _) ?_
  intro w' hown hgrow
  have hown' : Own w' w.heap.size (some ⟨w.heap.size, 0, none⟩) n n (List.replicate n 0) := by
    refine ⟨by simp, ?_⟩
    have e : (madeCells (Value.int .i64 0).cells (n * 1)).toList = (List.replicate n (0 : Int)).map (Value.int .i64) := by
      rw [Nat.mul_one, List.map_replicate]
      apply List.ext_getElem?
      intro i
      by_cases hi : i < n
      · simp [madeCells, Value.cells, hi, Nat.mod_one]
      · simp [madeCells, Value.cells, hi]
    rw [← e]; exact hown
  exact h w' hown' ((Below.refl _ _).grown hgrow (Nat.le_refl _) (fun k hk => by cases hk)) hown'.lt.2

/-- 'out = append(out, z)', out nil or the call's own: out owns one element more. -/
theorem wp_push {w : World} {ops : Array Oper} {rest : List Oper} {o : Oper} {a : Act} {Q : Exit → Act → World → Prop} (hgd : o.guard = none) (s x : Operand)
    (ho : o.op = .call { callee := .builtin .append, args := #[s, x], argTypes := #[22, 22] })
    (base : Nat) {A : Option Addr} {n c : Nat} {L : List Int} {z : Int} (hs : a.eval s = .slice A n c) (hx : a.eval x = .slice (some ⟨w.heap.size, 0, none⟩) 1 1) (hown : Own w base A n c L) (hn : n ≤ 1000000) (hbase : base ≤ w.heap.size)
    (h : ∀ A' c' w', Own w' base A' (n + 1) c' (L ++ [z]) → Below base w w' → wpList Tryd.prog ops Q rest (a.put o.dst (.slice A' (n + 1) c')) w') : wpList Tryd.prog ops Q (o :: rest) a (w.alloc (.cells #[.int .i64 z] 3)) := by
  obtain ⟨i0, hi, hz0, hz1, hz2⟩ := info_parts infoInt
  refine wpList_append_own _ hgd s x 22 ho base 3 i0 (.int .i64 0) 1 8 Tryd.underlying22 hi hz0 hz1 hz2 rfl (by decide) _ n _ hs (hown.alloc _).2 ⟨w.heap.size, 0, none⟩ 1 1 [.int .i64 z] hx rfl ?_ ?_ (by unfold maxLen; omega) (by omega) (by simp; omega) ?_
  · intro j u hj
    match j, hj with
    | 0, hj => simp at hj; subst hj; simp [Addr.add]
  · intro u hu; simp at hu; subst hu; rfl
  · intro v' w' hown' hgrow _
    obtain ⟨A', c', rfl⟩ := own_shape hown'
    refine h A' c' w' ⟨by simp [hown.1], by simpa using hown'⟩ ?_
    exact ((Below.refl base w).alloc hbase _).trans (below_of_grown (hown.alloc _) hgrow (by simp; omega))
set_option maxRecDepth 10000 in
/-- 'out = append(out, xs...)', out nil or the call's own, xs a slice that reads as a list. -/
theorem wp_append_list {w : World} {ops : Array Oper} {rest : List Oper} {o : Oper} {a : Act} {Q : Exit → Act → World → Prop} (hgd : o.guard = none) (s x : Operand)
    (ho : o.op = .call { callee := .builtin .append, args := #[s, x], argTypes := #[22, 22] })
    (base : Nat) {A : Option Addr} {n c : Nat} {L : List Int} {b off m cm B : Nat} {M : List Int} (hs : a.eval s = .slice A n c) (hx : a.eval x = .slice (some ⟨b, off, none⟩) m cm) (hown : Own w base A n c L) (hr : Rd w B (some ⟨b, off, none⟩) m M) (hn : n ≤ 1000000) (hm : m ≤ 1000000) (hbase : base ≤ w.heap.size)
    (h : ∀ A' c' w', Own w' base A' (n + m) c' (L ++ M) → Below base w w' → wpList Tryd.prog ops Q rest (a.put o.dst (.slice A' (n + m) c')) w') : wpList Tryd.prog ops Q (o :: rest) a w := by
  obtain ⟨i0, hi, hz0, hz1, hz2⟩ := info_parts infoInt
  refine wpList_append_own _ hgd s x 22 ho base 3 i0 (.int .i64 0) 1 8 Tryd.underlying22 hi hz0 hz1 hz2 rfl (by decide) _ n _ hs hown.2 ⟨b, off, none⟩ m cm (M.map (Value.int .i64)) hx (by simp [hr.1]) ?_ ?_ (by unfold maxLen; omega) (by omega) hbase ?_
  · intro j u hj
    have hjm : j < m := by
      have := (List.getElem?_eq_some_iff.1 hj).1
      simpa [hr.1] using this
    obtain ⟨b', off', e, _, hc⟩ := hr.2 (Nat.lt_of_le_of_lt (Nat.zero_le j) hjm)
    have e1 : b = b' := congrArg Addr.block (Option.some.inj e)
    have e2 : off = off' := congrArg Addr.off (Option.some.inj e)
    subst e1; subst e2
    have hu : u = .int .i64 (nth M j) := by
      have hl : j < M.length := by rw [hr.1]; exact hjm
      rw [List.getElem?_map, List.getElem?_eq_getElem hl] at hj
      unfold nth
      simp [List.getD, List.getElem?_eq_getElem hl] at hj ⊢
      exact hj.symm
    rw [hu, ← hc j hjm]
    congr 1
    unfold Addr.add
    by_cases h0 : j = 0 <;> simp [h0]
  · intro u hu
    obtain ⟨z, _, rfl⟩ := List.mem_map.1 hu
    rfl
  · intro v' w' hown' hgrow _
    obtain ⟨A', c', rfl⟩ := own_shape hown'
    exact h A' c' w' ⟨by simp [hown.1, hr.1], by simpa using hown'⟩ (below_of_grown hown hgrow hbase)
/-- A part of a slice from its head on. -/
theorem rd_take {w : World} {B n : Nat} {A : Option Addr} {L : List Int} (h : Rd w B A n L) (k : Nat) (hk : k ≤ n) : Rd w B A k (L.take k) := by
  refine ⟨by simp [h.1, hk], fun h0 => ?_⟩
  obtain ⟨b, off, e, hb, hc⟩ := h.2 (by omega)
  refine ⟨b, off, e, hb, fun j hj => ?_⟩
  rw [hc j (by omega)]
  unfold nth
  simp [List.getD, hj]
/-- Where one block alone turns, and new ones are made: what reads elsewhere reads as it did. -/
theorem rd_grown {w w' : World} {B n g : Nat} {A : Option Addr} {L : List Int} (h : Rd w B A n L) (hg : w.grownBy w' (some g)) (hne : ∀ b off, A = some ⟨b, off, none⟩ → b ≠ g) : Rd w' B A n L :=
  ⟨h.1, fun hn => by
    obtain ⟨b, off, e, hb, hc⟩ := h.2 hn
    exact ⟨b, off, e, hb, fun j hj => hg.cell (hc j hj) (fun he => hne b off e (by injection he))⟩⟩
theorem own_grown {w w' : World} {base n c g g' : Nat} {L : List Int} (h : Own w base (some ⟨g', 0, none⟩) n c L) (hg : w.grownBy w' (some g)) (hne : g' ≠ g) : Own w' base (some ⟨g', 0, none⟩) n c L :=
  ⟨h.1, h.2.kept hg (.inr (by simp [Value.ownBlock, hne]))⟩
theorem below_grown {w w' : World} {B g : Nat} (hg : w.grownBy w' (some g)) (hB : B ≤ w.heap.size) (h : B ≤ g) : Below B w w' :=
  (Below.refl _ _).grown hg hB fun k hk => by injection hk with hk; omega
theorem grown_set {a w : World} {g : Nat} (h : a.grownBy w (some g)) (j : Nat) (u : Value) : a.grownBy (w.setCell ⟨g, j, none⟩ u) (some g) :=
  ⟨h.os, h.tape, h.output, by simpa [World.setCell] using h.size, fun i hi hne => (Below.heap_setCell w ⟨g, j, none⟩ u i (fun e => hne (by rw [e]))).trans (h.block i hi hne)⟩
/-- The rest of a slice from place k on. -/
theorem rd_drop {w : World} {B n b off : Nat} {L : List Int} (h : Rd w B (some ⟨b, off, none⟩) n L) (k : Nat) (hk : k < n) : Rd w B (some ⟨b, off + k, none⟩) (n - k) (L.drop k) := by
  refine ⟨by simp [h.1], fun h0 => ?_⟩
  obtain ⟨b', off', e, hb, hc⟩ := h.2 (by omega)
  injection e with e
  injection e with e1 e2 _
  subst e1; subst e2
  refine ⟨b, off + k, rfl, hb, fun j hj => ?_⟩
  rw [Nat.add_assoc, hc (k + j) (by omega)]
  unfold nth
  simp [List.getD]
theorem Own.drew {w : World} {base n c : Nat} {A : Option Addr} {L : List Int} (h : Own w base A n c L) : Own w.drew base A n c L := h
/-- 'append(out, z)' as one step of a region that draws its order. -/
theorem step_push {w : World} {ops : Array Oper} {o : Oper} {a : Act} {K : Act → World → Prop} {Q : Exit → Act → World → Prop} {E : Prop} (hgd : o.guard = none) (s x : Operand)
    (ho : o.op = .call { callee := .builtin .append, args := #[s, x], argTypes := #[22, 22] })
    (base : Nat) {A : Option Addr} {n c g : Nat} {L : List Int} {z : Int} (hs : a.eval s = .slice A n c) (hx : a.eval x = .slice (some ⟨g, 0, none⟩) 1 1) (hown : Own w base A n c L) (hz : w.cell? ⟨g, 0, none⟩ = some (.int .i64 z)) (hn : n ≤ 1000000) (hbase : base ≤ w.heap.size)
    (h : ∀ A' c' w', Own w' base A' (n + 1) c' (L ++ [z]) → Below base w w' → K (a.put o.dst (.slice A' (n + 1) c')) w') :
    if Region.wanted o (yielded ops a.tmps) = true then Oper.wp Tryd.prog o a w K Q else E := by
  have hw : Region.wanted o (yielded ops a.tmps) = true := by simp [Region.wanted, hgd]
  rw [if_pos hw]
  obtain ⟨i0, hi, hz0, hz1, hz2⟩ := info_parts infoInt
  refine wp_append_own w s x 22 ho base 3 i0 (.int .i64 0) 1 8 Tryd.underlying22 hi hz0 hz1 hz2 rfl (by decide) _ n _ hs hown.2 ⟨g, 0, none⟩ 1 1 [.int .i64 z] hx rfl ?_ ?_ (by unfold maxLen; omega) (by omega) hbase ?_
  · intro j u hj
    match j, hj with
    | 0, hj => simp at hj; subst hj; simpa [Addr.add] using hz
  · intro u hu; simp at hu; subst hu; rfl
  · intro v' w' hown' hgrow _
    obtain ⟨A', c', rfl⟩ := own_shape hown'
    exact h A' c' w' ⟨by simp [hown.1], by simpa using hown'⟩ (below_of_grown hown hgrow hbase)
end Go.Proofs.YtmicgjpelikjiaaDoor
