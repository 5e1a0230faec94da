/- The matrix of Sylvester of a quadratic polynomial and its derivative: its determinant is minus the first coefficient times the discriminant. And result.Of at what the law TopTwice asks of it. -/
import Derived.Test.YtcbpkjmmacgmfaaRes
namespace Go.Proofs.Ytcbpkjmmacgmfaa
open Go.RowKit

theorem syl_tr (a b c r : Int) : tr 0 (syl [c, b, a] [b, r]) = a * (b * b - 0 * r) - b * (r * b - 0 * 0) + c * (r * r - b * 0) := rfl
theorem syl_rg {a b c r : Int} (ha : 0 ≤ a ∧ a < 9973) (hb : 0 ≤ b ∧ b < 9973) (hc : 0 ≤ c ∧ c < 9973) (hr : 0 ≤ r ∧ r < 9973) : RG (syl [c, b, a] [b, r]) := by
  have h0 : (0 : Int) ≤ 0 ∧ (0 : Int) < 9973 := by omega
  intro i hi j hj
  have hi' : i = 0 ∨ i = 1 ∨ i = 2 := by omega
  have hj' : j = 0 ∨ j = 1 ∨ j = 2 := by omega
  rcases hi' with rfl | rfl | rfl <;> rcases hj' with rfl | rfl | rfl
  · exact ha
  · exact hb
  · exact hc
  · exact hr
  · exact hb
  · exact h0
  · exact h0
  · exact hr
  · exact hb
theorem one_tr : tr 0 (syl [1, 1] [2, 0, 1]) % 9973 = 3 := by decide
theorem one_rg : RG (syl [1, 1] [2, 0, 1]) := by
  intro i hi j hj
  have hi' : i = 0 ∨ i = 1 ∨ i = 2 := by omega
  have hj' : j = 0 ∨ j = 1 ∨ j = 2 := by omega
  rcases hi' with rfl | rfl | rfl <;> rcases hj' with rfl | rfl | rfl <;> decide
theorem any_list3 {a b c : Int} (ha : 0 ≤ a ∧ a ≤ 9972) (hb : 0 ≤ b ∧ b ≤ 9972) (hc : 0 ≤ c ∧ c ≤ 9972) : anyB [c, b, a] 0 9972 = false :=
  anyB_false_of (by intro n hn; simp at hn; omega)
theorem any_list2 {a b : Int} (ha : 0 ≤ a ∧ a ≤ 9972) (hb : 0 ≤ b ∧ b ≤ 9972) : anyB [b, a] 0 9972 = false :=
  anyB_false_of (by intro n hn; simp at hn; omega)
/-- The resultant of a quadratic polynomial and its derivative. -/
theorem twice_law (a b c : Int) : tr 0 (syl [c, b, a] [b, a * 2 % 9973]) % 9973 = -a * ((b * b % 9973 - 4 * (a * c % 9973)) % 9973) % 9973 := by
  rw [syl_tr, mul_emod']
  have h1 := Int.emod_add_mul_ediv (a * 2) 9973
  have h2 := Int.emod_add_mul_ediv (b * b) 9973
  have h3 := Int.emod_add_mul_ediv (a * c) 9973
  obtain ⟨r, hr⟩ : ∃ r, r = a * 2 % 9973 := ⟨_, rfl⟩
  obtain ⟨m, hm⟩ : ∃ m, m = b * b % 9973 := ⟨_, rfl⟩
  obtain ⟨x, hx⟩ : ∃ x, x = a * c % 9973 := ⟨_, rfl⟩
  obtain ⟨t, ht⟩ : ∃ t, t = a * 2 / 9973 := ⟨_, rfl⟩
  obtain ⟨u, hu⟩ : ∃ u, u = b * b / 9973 := ⟨_, rfl⟩
  obtain ⟨s, hs⟩ : ∃ s, s = a * c / 9973 := ⟨_, rfl⟩
  rw [← hr, ← ht] at h1
  rw [← hm, ← hu] at h2
  rw [← hx, ← hs] at h3
  rw [← hr, ← hm, ← hx]
  have k1 : r = a * 2 - 9973 * t := by omega
  have k2 : m = b * b - 9973 * u := by omega
  have k3 : x = a * c - 9973 * s := by omega
  rw [k1, k2, k3]
  have e : a * (b * b - 0 * (a * 2 - 9973 * t)) - b * ((a * 2 - 9973 * t) * b - 0 * 0) + c * ((a * 2 - 9973 * t) * (a * 2 - 9973 * t) - b * 0) =
      -a * (b * b - 9973 * u - 4 * (a * c - 9973 * s)) + 9973 * (b * b * t - 4 * a * c * t + 9973 * c * t * t - a * u + 4 * a * s) := by grind
  rw [e, Int.add_mul_emod_self_left]
/-- Two lists laid one behind the other. -/
theorem two_laid (w : World) (f g : List Int) (m m' : Nat) (h : f.length = m) (h' : g.length = m') (hm : m ≤ 9) (hm' : m' ≤ 9) :
    Rd ((w.alloc (.cells (f.map (Value.int .i64)).toArray 3)).alloc (.cells (g.map (Value.int .i64)).toArray 3)) ((w.alloc (.cells (f.map (Value.int .i64)).toArray 3)).alloc (.cells (g.map (Value.int .i64)).toArray 3)).heap.size (some ⟨w.heap.size, 0, none⟩) m f ∧
    Rd ((w.alloc (.cells (f.map (Value.int .i64)).toArray 3)).alloc (.cells (g.map (Value.int .i64)).toArray 3)) ((w.alloc (.cells (f.map (Value.int .i64)).toArray 3)).alloc (.cells (g.map (Value.int .i64)).toArray 3)).heap.size (some ⟨w.heap.size + 1, 0, none⟩) m' g ∧
    Below w.heap.size w ((w.alloc (.cells (f.map (Value.int .i64)).toArray 3)).alloc (.cells (g.map (Value.int .i64)).toArray 3)) := by
  have o1 := own_new w f m h (by omega)
  have o2 := own_new (w.alloc (.cells (f.map (Value.int .i64)).toArray 3)) g m' h' (by omega)
  have b1 : Below w.heap.size w (w.alloc (.cells (f.map (Value.int .i64)).toArray 3)) := (Below.refl _ w).alloc (Nat.le_refl _) _
  rw [show (w.alloc (.cells (f.map (Value.int .i64)).toArray 3)).heap.size = w.heap.size + 1 by simp] at o2
  exact ⟨(o1.alloc _).rd, o2.rd, b1.alloc (by simp) _⟩
/-- The law's closed step. -/
theorem twice_one (w : World) :
    Calls Try.prog 9 #[.slice (some ⟨w.heap.size, 0, none⟩) 2 2, .slice (some ⟨w.heap.size + 1, 0, none⟩) 3 3] ((w.alloc (.cells #[.int .i64 1, .int .i64 1] 3)).alloc (.cells #[.int .i64 2, .int .i64 0, .int .i64 1] 3)) fun e w' => e = .returned (.tuple #[.int .i64 3, .nilIface]) ∧ Below w.heap.size w w' := by
  obtain ⟨r1, r2, hb⟩ := two_laid w [1, 1] [2, 0, 1] 2 3 rfl rfl (by omega) (by omega)
  have := c_rsOf_ok _ _ _ 2 3 2 3 [1, 1] [2, 0, 1] r1 r2 (.inr ⟨rfl, rfl⟩) (by decide) (by decide) (by decide) (by decide) one_rg
  rw [one_tr] at this
  exact this.mono fun e w' ⟨he, h⟩ => ⟨he, hb.trans (h.mono hb.size)⟩
section
variable (a b c r : Int) (w : World)
theorem twice_bad (hr : 0 ≤ r ∧ r < 9973) (h : ¬ ((1 ≤ a ∧ a ≤ 9972) ∧ (0 ≤ b ∧ b ≤ 9972) ∧ (0 ≤ c ∧ c ≤ 9972))) :
    Calls Try.prog 9 #[.slice (some ⟨w.heap.size, 0, none⟩) 3 3, .slice (some ⟨w.heap.size + 1, 0, none⟩) 2 2] ((w.alloc (.cells #[.int .i64 c, .int .i64 b, .int .i64 a] 3)).alloc (.cells #[.int .i64 b, .int .i64 r] 3)) fun e w' => (∃ E, e = .returned (.tuple #[.int .i64 0, .iface 38 (.int .i64 E)])) ∧ Below w.heap.size w w' := by
  obtain ⟨r1, r2, hb⟩ := two_laid w [c, b, a] [b, r] 3 2 rfl rfl (by omega) (by omega)
  have main : ∃ E, Calls Try.prog 18 #[.slice (some ⟨w.heap.size, 0, none⟩) 3 3, .slice (some ⟨w.heap.size + 1, 0, none⟩) 2 2] ((w.alloc (.cells #[.int .i64 c, .int .i64 b, .int .i64 a] 3)).alloc (.cells #[.int .i64 b, .int .i64 r] 3)) fun e w' => e = .returned (.iface 38 (.int .i64 E)) ∧ ((w.alloc (.cells #[.int .i64 c, .int .i64 b, .int .i64 a] 3)).alloc (.cells #[.int .i64 b, .int .i64 r] 3)) = w' := by
    by_cases ha : anyB [c, b, a] 0 9972 = true
    · exact ⟨1, c_rsCheck_range _ _ _ 3 2 3 2 [c, b, a] _ r1 (by omega) (by omega) (by omega) ha⟩
    · have ha' : anyB [c, b, a] 0 9972 = false := by simpa using ha
      have k1 := anyB_false ha' a (by simp)
      have k2 := anyB_false ha' b (by simp)
      have k3 := anyB_false ha' c (by simp)
      obtain rfl : a = 0 := by omega
      exact ⟨3, c_rsCheck_shape _ _ _ 3 2 3 2 [c, b, 0] [b, r] _ r1 r2 (by omega) (by omega) (by omega) (by omega) ha' (any_list2 ⟨hr.1, by omega⟩ k2) rfl⟩
  obtain ⟨E, hE⟩ := main
  exact (c_rsOf_bad _ _ _ 3 2 3 2 E hE).mono fun e w' ⟨he, h⟩ => ⟨⟨E, he⟩, hb.trans (h.mono hb.size)⟩
theorem twice_ok (ha : 1 ≤ a ∧ a ≤ 9972) (hb : 0 ≤ b ∧ b ≤ 9972) (hc : 0 ≤ c ∧ c ≤ 9972) (hr : r = a * 2 % 9973) :
    Calls Try.prog 9 #[.slice (some ⟨w.heap.size, 0, none⟩) 3 3, .slice (some ⟨w.heap.size + 1, 0, none⟩) 2 2] ((w.alloc (.cells #[.int .i64 c, .int .i64 b, .int .i64 a] 3)).alloc (.cells #[.int .i64 b, .int .i64 r] 3)) fun e w' => e = .returned (.tuple #[.int .i64 (-a * ((b * b % 9973 - 4 * (a * c % 9973)) % 9973) % 9973), .nilIface]) ∧ Below w.heap.size w w' := by
  obtain ⟨r1, r2, hbl⟩ := two_laid w [c, b, a] [b, r] 3 2 rfl rfl (by omega) (by omega)
  have h0 : 0 ≤ r ∧ r < 9973 := by omega
  have hn : r ≠ 0 := by omega
  have := c_rsOf_ok _ _ _ 3 2 3 2 [c, b, a] [b, r] r1 r2 (.inl ⟨rfl, rfl⟩) (any_list3 (by omega) hb hc) (any_list2 (by omega) hb) (show a ≠ 0 by omega) hn (syl_rg (by omega) (by omega) (by omega) h0)
  rw [hr, twice_law, ← hr] at this
  exact this.mono fun e w' ⟨he, h⟩ => ⟨he, hbl.trans (h.mono hbl.size)⟩
end
end Go.Proofs.Ytcbpkjmmacgmfaa
