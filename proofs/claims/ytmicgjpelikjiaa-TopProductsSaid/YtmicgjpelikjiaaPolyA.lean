/- The contracts of package poly: Check, both, trim. -/
import Derived.Test.YtmicgjpelikjiaaNum
import Derived.Test.YtmicgjpelikjiaaSame
import Derived.Test.YtmicgjpelikjiaaPolyM
import Derived.Laws.AppendOwnNone
namespace Go.Proofs.Ytmicgjpelikjiaa
open Go.RowKit

/-- A polynomial that may be asked. -/
def POk (L : List Int) : Prop := L.length ≤ 12 ∧ PL L
/-- What is wrong with one that may not. -/
def polyE (L : List Int) : Int := if 12 < L.length then 4 else 1
section
variable (A : Option Addr) (n c : Nat) (L : List Int) (B : Nat) (w : World)
theorem c_PCheck_ok (hL : Rd w B A n L) (h : POk L) :
    Calls Try.prog 33 #[.slice A n c] w fun e w' => e = .returned .nilIface ∧ w = w' := by
  have hn : n ≤ 12 := by rw [← hL.1]; exact h.1
  have ha := pl_any h.2
  clear h
  go_enter Try.func33, Try.ntmps33
  go_wp2_with (go_at_call 29; refine (c_Any _ _ _ L 0 9972 _ _ hL (by omega)).mono ?_; rintro e w' ⟨rfl, rfl⟩)
  go_ret
  exact ⟨rfl, rfl⟩
theorem c_PCheck_bad (hL : Rd w B A n L) (h : ¬ POk L) :
    Calls Try.prog 33 #[.slice A n c] w fun e w' => e = .returned (.iface 44 (.int .i64 (polyE L))) ∧ w = w' := by
  by_cases hn : 12 < n
  · have e : polyE L = 4 := by unfold polyE; rw [hL.1, if_pos hn]
    rw [e]
    clear h e
    go_enter Try.func33, Try.ntmps33
    go_wp2
    go_ret
    exact ⟨rfl, rfl⟩
  · have e : polyE L = 1 := by unfold polyE; rw [hL.1, if_neg hn]
    have ha : anyB L 0 9972 = true := by
      cases e' : anyB L 0 9972
      · exact absurd ⟨by rw [hL.1]; omega, pl_of_any e'⟩ h
      · rfl
    rw [e]
    clear h e
    go_enter Try.func33, Try.ntmps33
    go_wp2_with (go_at_call 29; refine (c_Any _ _ _ L 0 9972 _ _ hL (by omega)).mono ?_; rintro e w' ⟨rfl, rfl⟩)
    go_ret
    exact ⟨rfl, rfl⟩
end
section
variable (A A' : Option Addr) (n n' c c' : Nat) (L M : List Int) (B B' : Nat) (w : World)
theorem c_both_ok (hL : Rd w B A n L) (hM : Rd w B' A' n' M) (h : POk L) (h' : POk M) :
    Calls Try.prog 27 #[.slice A n c, .slice A' n' c'] w fun e w' => e = .returned .nilIface ∧ Below w.heap.size w w' := by
  go_enter Try.func27, Try.ntmps27
  go_wp2_with fail
  refine (c_PCheck_ok _ _ _ L _ _ hL h).mono ?_
  rintro e w' ⟨rfl, rfl⟩
  go_wp2_with fail
  refine (c_PCheck_ok _ _ _ M _ _ hM h').mono ?_
  rintro e w' ⟨rfl, rfl⟩
  go_wp2_with fail
  refine (c_First_nil _ _ _ (by simp) (by simp)).mono ?_
  rintro e w' ⟨rfl, rfl⟩
  go_wp2
  go_ret
  exact ⟨rfl, by go_grown⟩
/-- What is wrong with the first, or with the second. -/
def bothE (L M : List Int) : Int := if 12 < L.length ∨ anyB L 0 9972 = true then polyE L else polyE M
theorem bothE_one {L M : List Int} (h : ¬ POk L) : bothE L M = polyE L := by
  unfold bothE
  rw [if_pos]
  by_cases h1 : 12 < L.length
  · exact .inl h1
  · right
    cases e : anyB L 0 9972
    · exact absurd ⟨by omega, pl_of_any e⟩ h
    · rfl
theorem bothE_two {L M : List Int} (h : POk L) : bothE L M = polyE M := by
  unfold bothE
  rw [if_neg]
  rintro (h1 | h1)
  · have := h.1; omega
  · rw [pl_any h.2] at h1; cases h1
theorem c_both_bad (hL : Rd w B A n L) (hM : Rd w B' A' n' M) (h : ¬ (POk L ∧ POk M)) :
    Calls Try.prog 27 #[.slice A n c, .slice A' n' c'] w fun e w' => e = .returned (.iface 44 (.int .i64 (bothE L M))) ∧ Below w.heap.size w w' := by
  by_cases h1 : POk L
  · have h2 : ¬ POk M := fun e => h ⟨h1, e⟩
    rw [bothE_two h1]
    have H1 := Lib.hid h1
    have H2 := Lib.hid h2
    clear h h1 h2
    go_enter Try.func27, Try.ntmps27
    go_wp2_with fail
    refine (c_PCheck_ok _ _ _ L _ _ hL H1.out).mono ?_
    rintro e w' ⟨rfl, rfl⟩
    go_wp2_with fail
    refine (c_PCheck_bad _ _ _ M _ _ hM H2.out).mono ?_
    rintro e w' ⟨rfl, rfl⟩
    go_wp2_with fail
    refine (c_First_two _ _ 44 (.int .i64 (polyE M)) _ (by simp) (by simp)).mono ?_
    rintro e w' ⟨rfl, rfl⟩
    go_wp2
    go_ret
    exact ⟨rfl, by go_grown⟩
  · rw [bothE_one h1]
    have H1 := Lib.hid h1
    clear h h1
    by_cases h2 : POk M
    · have H2 := Lib.hid h2
      clear h2
      go_enter Try.func27, Try.ntmps27
      go_wp2_with fail
      refine (c_PCheck_bad _ _ _ L _ _ hL H1.out).mono ?_
      rintro e w' ⟨rfl, rfl⟩
      go_wp2_with fail
      refine (c_PCheck_ok _ _ _ M _ _ hM H2.out).mono ?_
      rintro e w' ⟨rfl, rfl⟩
      go_wp2_with fail
      refine (c_First_one _ _ 44 (.int .i64 (polyE L)) _ (by simp)).mono ?_
      rintro e w' ⟨rfl, rfl⟩
      go_wp2
      go_ret
      exact ⟨rfl, by go_grown⟩
    · have H2 := Lib.hid h2
      clear h2
      go_enter Try.func27, Try.ntmps27
      go_wp2_with fail
      refine (c_PCheck_bad _ _ _ L _ _ hL H1.out).mono ?_
      rintro e w' ⟨rfl, rfl⟩
      go_wp2_with fail
      refine (c_PCheck_bad _ _ _ M _ _ hM H2.out).mono ?_
      rintro e w' ⟨rfl, rfl⟩
      go_wp2_with fail
      refine (c_First_one _ _ 44 (.int .i64 (polyE L)) _ (by simp)).mono ?_
      rintro e w' ⟨rfl, rfl⟩
      go_wp2
      go_ret
      exact ⟨rfl, by go_grown⟩
end
/-- 'append(nil, xs...)' of no element, xs not nil. -/
theorem wp_append_empty {w : World} {ops : Array Oper} {rest : List Oper} {o : Oper} {a : Act} {Q : Exit → Act → World → Prop} (hgd : o.guard = none) (s x : Operand)
    (ho : o.op = .call { callee := .builtin .append, args := #[s, x], argTypes := #[22, 22] })
    (base : Nat) {A : Option Addr} {n c : Nat} {L : List Int} {ad : Addr} {cm : Nat} (hs : a.eval s = .slice A n c) (hx : a.eval x = .slice (some ad) 0 cm) (hown : Own w base A n c L) (hn : n ≤ 1000000) (hbase : base ≤ w.heap.size)
    (h : ∀ A' c' w', Own w' base A' n c' L → Below base w w' → wpList Try.prog ops Q rest (a.put o.dst (.slice A' n c')) w') : wpList Try.prog ops Q (o :: rest) a w := by
  obtain ⟨i0, hi, hz0, hz1, hz2⟩ := info_parts infoInt
  refine wpList_append_own _ hgd s x 22 ho base 3 i0 (.int .i64 0) 1 8 Try.underlying22 hi hz0 hz1 hz2 rfl (by decide) _ n _ hs hown.2 ad 0 cm [] hx rfl (fun j u hj => by cases hj) (fun u hu => by cases hu) (by unfold maxLen; omega) (by omega) hbase ?_
  intro v' w' hown' hgrow _
  obtain ⟨A', c', rfl⟩ := own_shape hown'
  exact h A' c' w' ⟨hown.1, by simpa using hown'⟩ (below_of_grown hown hgrow hbase)
theorem Own.trim_nil {w : World} {base n c : Nat} {A : Option Addr} {L : List Int} (h : Own w base A n c L) : L.length = n := h.1
end Go.Proofs.Ytmicgjpelikjiaa
