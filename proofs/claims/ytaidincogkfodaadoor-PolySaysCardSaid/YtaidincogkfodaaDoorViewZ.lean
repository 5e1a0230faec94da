/- An argument of type []int, opened: its length, its capacity, and that a nil slice has none. -/
import Derived.Test.YtaidincogkfodaaDoorBase
namespace Go.Proofs.YtaidincogkfodaaDoor
open Go.RowKit Go.ChangeShapes Go.WideShapes

theorem view_intz {H : Type} {enc : TypeId × Value → H} {P : Program} {w : World} {t e : TypeId} {r : Reach} {b0 : Nat} {v : Value} {d : DataW H} {ps : List MemPlace} (ht : P.underlying t = some (.slice e)) (he : P.underlying e = some (.int .i64)) (hc : P.cellsOf e = 1)
    (hval : Value.okWide P w r b0 t v) (hd : DataW.Trod enc P w 0 (fun _ => true) true t v d ps) :
    ∃ (A : Option Addr) (n c : Nat) (L : List Int), v = .slice A n c ∧ (n ≤ c ∧ c ≤ 9223372036854775807 ∧ (A = none → c = 0)) ∧ Rd w w.heap.size A n L ∧ ∀ x ∈ L, Fits x := by
  obtain ⟨A, n, c, L, hv, hn, hr, hf⟩ := view_ints ht he hc hval hd
  refine ⟨A, n, c, L, hv, ⟨hn.1, hn.2, fun hA => ?_⟩, hr, hf⟩
  obtain ⟨fuel, hd'⟩ := hd
  subst hv
  rcases open_ints ht he hc hd' with ⟨hcs, _⟩ | ⟨a, len', cap', zs, hcs, _⟩
  · have hcs' : Value.slice A n c = .slice none 0 0 := by simpa [Value.cells] using hcs
    injection hcs'
  · have hcs' : Value.slice A n c = .slice (some a) len' cap' := by simpa [Value.cells] using hcs
    injection hcs' with h1 _ _
    rw [hA] at h1; cases h1
end Go.Proofs.YtaidincogkfodaaDoor
