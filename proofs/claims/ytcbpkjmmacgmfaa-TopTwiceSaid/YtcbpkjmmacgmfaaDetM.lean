/- The determinant of three rows of three by elimination over the prime field. No program in sight. -/
import Derived.Test.YtcbpkjmmacgmfaaMat
import Derived.Test.YtcbpkjmmacgmfaaFermat
namespace Go.Proofs.Ytcbpkjmmacgmfaa

/-- What is left of the determinant behind c columns. -/
def tr : Nat → (Nat → List Int) → Int
  | 0, L => nth (L 0) 0 * (nth (L 1) 1 * nth (L 2) 2 - nth (L 1) 2 * nth (L 2) 1) - nth (L 0) 1 * (nth (L 1) 0 * nth (L 2) 2 - nth (L 1) 2 * nth (L 2) 0) + nth (L 0) 2 * (nth (L 1) 0 * nth (L 2) 1 - nth (L 1) 1 * nth (L 2) 0)
  | 1, L => nth (L 1) 1 * nth (L 2) 2 - nth (L 1) 2 * nth (L 2) 1
  | 2, L => nth (L 2) 2
  | _, _ => 1
theorem tr0 (L : Nat → List Int) : tr 0 L = nth (L 0) 0 * (nth (L 1) 1 * nth (L 2) 2 - nth (L 1) 2 * nth (L 2) 1) - nth (L 0) 1 * (nth (L 1) 0 * nth (L 2) 2 - nth (L 1) 2 * nth (L 2) 0) + nth (L 0) 2 * (nth (L 1) 0 * nth (L 2) 1 - nth (L 1) 1 * nth (L 2) 0) := rfl
theorem tr1 (L : Nat → List Int) : tr 1 L = nth (L 1) 1 * nth (L 2) 2 - nth (L 1) 2 * nth (L 2) 1 := rfl
theorem tr2 (L : Nat → List Int) : tr 2 L = nth (L 2) 2 := rfl
theorem tr3 (L : Nat → List Int) : tr 3 L = 1 := rfl
/-- Three numbers. -/
def row3 (f : Nat → Int) : List Int := [f 0, f 1, f 2]
theorem row3_nth (f : Nat → Int) {j : Nat} (h : j < 3) : nth (row3 f) j = f j := by
  have : j = 0 ∨ j = 1 ∨ j = 2 := by omega
  rcases this with rfl | rfl | rfl <;> rfl
theorem row3_of {L : List Int} (h : L.length = 3) : row3 (nth L) = L := by
  match L, h with
  | [a, b, c], _ => rfl
theorem row3_congr {f g : Nat → Int} (h : ∀ j, j < 3 → f j = g j) : row3 f = row3 g := by
  unfold row3; rw [h 0 (by omega), h 1 (by omega), h 2 (by omega)]
theorem row3_set (f : Nat → Int) {j : Nat} (h : j < 3) (v : Int) : (row3 f).set j v = row3 (fun t => if t = j then v else f t) := by
  have : j = 0 ∨ j = 1 ∨ j = 2 := by omega
  rcases this with rfl | rfl | rfl <;> rfl
/-- How often the pivot's row is taken off row i. -/
def elb (L : Nat → List Int) (c : Nat) (v : Int) (i : Nat) : Int := nth (L i) c * v % 9973
/-- The rows behind the pivot's one, those before row k, without the pivot's column. -/
def EL (L : Nat → List Int) (c : Nat) (v : Int) (k i : Nat) : List Int := if c < i ∧ i < k then row3 (fun j => (nth (L i) j - elb L c v i * nth (L c) j) % 9973) else L i
/-- .. and j places of row k. -/
def EP (L : Nat → List Int) (c : Nat) (v : Int) (k j i : Nat) : List Int := if i = k then row3 (fun t => if t < j then (nth (L k) t - elb L c v k * nth (L c) t) % 9973 else nth (L k) t) else EL L c v k i
section
variable {L : Nat → List Int} {c k j : Nat} {v : Int}
theorem EL_start (i : Nat) : EL L c v (c + 1) i = L i := by unfold EL; rw [if_neg (by omega)]
theorem EL_self (i : Nat) (h : ¬ (c < i ∧ i < k)) : EL L c v k i = L i := by unfold EL; rw [if_neg h]
theorem EP_zero (h : (L k).length = 3) (i : Nat) : EL L c v k i = EP L c v k 0 i := by
  unfold EP
  by_cases e : i = k
  · subst e
    rw [if_pos rfl, EL_self _ (by omega)]
    rw [row3_congr (g := nth (L i)) (fun t _ => by rw [if_neg (by omega)]), row3_of h]
  · rw [if_neg e]
theorem EP_all (hc : c < k) (i : Nat) : EP L c v k 3 i = EL L c v (k + 1) i := by
  unfold EP
  by_cases e : i = k
  · subst e
    rw [if_pos rfl]
    unfold EL
    rw [if_pos (by omega)]
    exact row3_congr fun t ht => by rw [if_pos ht]
  · rw [if_neg e]
    unfold EL
    by_cases h : c < i ∧ i < k
    · rw [if_pos h, if_pos (by omega)]
    · rw [if_neg h, if_neg (by omega)]
theorem EP_at (hj : j < 3) : nth (EP L c v k j k) j = nth (L k) j := by
  unfold EP
  rw [if_pos rfl, row3_nth _ hj, if_neg (by omega)]
theorem EP_step (hj : j < 3) (i : Nat) : upd (EP L c v k j) k ((EP L c v k j k).set j ((nth (L k) j - elb L c v k * nth (L c) j) % 9973)) i = EP L c v k (j + 1) i := by
  unfold upd
  by_cases e : i = k
  · subst e
    rw [if_pos rfl]
    unfold EP
    rw [if_pos rfl, if_pos rfl, row3_set _ hj]
    refine row3_congr fun t ht => ?_
    by_cases et : t = j
    · subst et; rw [if_pos rfl, if_pos (by omega)]
    · rw [if_neg et]
      by_cases h2 : t < j
      · rw [if_pos h2, if_pos (by omega)]
      · rw [if_neg h2, if_neg (by omega)]
  · rw [if_neg e]
    unfold EP
    rw [if_neg e, if_neg e]
end
theorem tr_congr {L L' : Nat → List Int} (h : ∀ i, i < 3 → L i = L' i) (c : Nat) : tr c L = tr c L' := by
  match c with
  | 0 => rw [tr0, tr0, h 0 (by omega), h 1 (by omega), h 2 (by omega)]
  | 1 => rw [tr1, tr1, h 1 (by omega), h 2 (by omega)]
  | 2 => rw [tr2, tr2, h 2 (by omega)]
  | c + 3 => rfl
theorem tr_zero {L : Nat → List Int} {c : Nat} (hc : c < 3) (h : ∀ t, c ≤ t → t < 3 → nth (L t) c = 0) : tr c L = 0 := by
  have : c = 0 ∨ c = 1 ∨ c = 2 := by omega
  rcases this with rfl | rfl | rfl
  · rw [tr0, h 0 (by omega) (by omega), h 1 (by omega) (by omega), h 2 (by omega) (by omega)]; simp
  · rw [tr1, h 1 (by omega) (by omega), h 2 (by omega) (by omega)]; simp
  · rw [tr2, h 2 (by omega) (by omega)]
theorem tr_swap (L : Nat → List Int) {c i : Nat} (hc : c < i) (hi : i < 3) : tr c (sw c i L) = -tr c L := by
  have : (c = 0 ∧ i = 1) ∨ (c = 0 ∧ i = 2) ∨ (c = 1 ∧ i = 2) := by omega
  rcases this with ⟨rfl, rfl⟩ | ⟨rfl, rfl⟩ | ⟨rfl, rfl⟩
  · have e0 : sw 0 1 L 0 = L 1 := rfl
    have e1 : sw 0 1 L 1 = L 0 := rfl
    have e2 : sw 0 1 L 2 = L 2 := rfl
    rw [tr0, tr0, e0, e1, e2]; grind
  · have e0 : sw 0 2 L 0 = L 2 := rfl
    have e1 : sw 0 2 L 1 = L 1 := rfl
    have e2 : sw 0 2 L 2 = L 0 := rfl
    rw [tr0, tr0, e0, e1, e2]; grind
  · have e1 : sw 1 2 L 1 = L 2 := rfl
    have e2 : sw 1 2 L 2 = L 1 := rfl
    rw [tr1, tr1, e1, e2]; grind
theorem m2 (a b c d : Int) : (a % 9973 * (b % 9973) - c % 9973 * (d % 9973)) % 9973 = (a * b - c * d) % 9973 := by
  rw [Int.sub_emod, ← Int.mul_emod, ← Int.mul_emod, ← Int.sub_emod]
/-- The pivot times what is taken off is the number in the pivot's column. -/
theorem piv {a v x : Int} (h : a * v % 9973 = 1) : ∃ t, a * (x * v % 9973) = x + 9973 * t := by
  have e1 : (a * (x * v % 9973)) % 9973 = x % 9973 := by
    rw [mul_emod', ← Int.mul_assoc, Int.mul_comm a x, Int.mul_assoc, Int.mul_emod, h, Int.mul_one, Int.emod_emod]
  have h1 := Int.emod_add_mul_ediv (a * (x * v % 9973)) 9973
  have h2 := Int.emod_add_mul_ediv x 9973
  exact ⟨(a * (x * v % 9973)) / 9973 - x / 9973, by rw [e1] at h1; omega⟩
/-- One column gone: the pivot times what is left behind it. -/
theorem tr_step {L : Nat → List Int} {c : Nat} {v : Int} (hc : c < 3) (hp : nth (L c) c * v % 9973 = 1) : tr c L % 9973 = nth (L c) c * tr (c + 1) (EL L c v 3) % 9973 := by
  have : c = 0 ∨ c = 1 ∨ c = 2 := by omega
  rcases this with rfl | rfl | rfl
  · obtain ⟨t1, h1⟩ := piv (x := nth (L 1) 0) hp
    obtain ⟨t2, h2⟩ := piv (x := nth (L 2) 0) hp
    have e1 : EL L 0 v 3 1 = row3 (fun j => (nth (L 1) j - elb L 0 v 1 * nth (L 0) j) % 9973) := by unfold EL; rw [if_pos (by omega)]
    have e2 : EL L 0 v 3 2 = row3 (fun j => (nth (L 2) j - elb L 0 v 2 * nth (L 0) j) % 9973) := by unfold EL; rw [if_pos (by omega)]
    show _ = nth (L 0) 0 * (nth (EL L 0 v 3 1) 1 * nth (EL L 0 v 3 2) 2 - nth (EL L 0 v 3 1) 2 * nth (EL L 0 v 3 2) 1) % 9973
    rw [e1, e2, row3_nth _ (by omega), row3_nth _ (by omega), row3_nth _ (by omega), row3_nth _ (by omega), ← mul_emod', m2, mul_emod']
    unfold elb
    rw [tr0]
    generalize nth (L 1) 0 * v % 9973 = b1 at *
    generalize nth (L 2) 0 * v % 9973 = b2 at *
    generalize nth (L 0) 0 = a at *
    generalize nth (L 0) 1 = y1 at *
    generalize nth (L 0) 2 = y2 at *
    generalize nth (L 1) 0 = x0 at *
    generalize nth (L 1) 1 = x1 at *
    generalize nth (L 1) 2 = x2 at *
    generalize nth (L 2) 0 = z0 at *
    generalize nth (L 2) 1 = z1 at *
    generalize nth (L 2) 2 = z2 at *
    have k1 : x0 = a * b1 - 9973 * t1 := by omega
    have k2 : z0 = a * b2 - 9973 * t2 := by omega
    rw [k1, k2]
    have e : a * (x1 * z2 - x2 * z1) - y1 * ((a * b1 - 9973 * t1) * z2 - x2 * (a * b2 - 9973 * t2)) + y2 * ((a * b1 - 9973 * t1) * z1 - x1 * (a * b2 - 9973 * t2)) =
      a * ((x1 - b1 * y1) * (z2 - b2 * y2) - (x2 - b1 * y2) * (z1 - b2 * y1)) + 9973 * (t1 * (y1 * z2 - y2 * z1) + t2 * (x1 * y2 - x2 * y1)) := by grind
    rw [e, Int.add_mul_emod_self_left]
  · obtain ⟨t, h⟩ := piv (x := nth (L 2) 1) hp
    have e2 : EL L 1 v 3 2 = row3 (fun j => (nth (L 2) j - elb L 1 v 2 * nth (L 1) j) % 9973) := by unfold EL; rw [if_pos (by omega)]
    show _ = nth (L 1) 1 * nth (EL L 1 v 3 2) 2 % 9973
    rw [e2, row3_nth _ (by omega), mul_emod']
    unfold elb
    rw [tr1]
    generalize nth (L 2) 1 * v % 9973 = b at *
    generalize nth (L 1) 1 = a at *
    generalize nth (L 1) 2 = y2 at *
    generalize nth (L 2) 1 = z1 at *
    generalize nth (L 2) 2 = z2 at *
    have k1 : z1 = a * b - 9973 * t := by omega
    rw [k1]
    have e : a * z2 - y2 * (a * b - 9973 * t) = a * (z2 - b * y2) + 9973 * (t * y2) := by grind
    rw [e, Int.add_mul_emod_self_left]
  · show nth (L 2) 2 % 9973 = nth (L 2) 2 * 1 % 9973
    rw [Int.mul_one]
end Go.Proofs.Ytcbpkjmmacgmfaa
