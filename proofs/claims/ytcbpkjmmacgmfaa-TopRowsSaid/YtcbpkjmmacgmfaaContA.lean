/- The contracts of package cont: check, expand, Terms. -/
import Derived.Test.YtcbpkjmmacgmfaaNum
import Derived.Test.YtcbpkjmmacgmfaaContM
import Derived.Test.YtcbpkjmmacgmfaaFrac
import Derived.BigQuiet
import Derived.Deep.QuietTactic
namespace Go.Proofs.Ytcbpkjmmacgmfaa
open Go.RowKit

/-- A fraction that may be asked. -/
def FrOk (a b : Int) : Prop := 0 ≤ a ∧ a ≤ 1000000 ∧ 1 ≤ b ∧ b ≤ 1000000
/-- One more term. -/
theorem tms_step {L M : List Int} {x y : Nat} (hy : y ≠ 0) (h : L ++ tms x y = M) : (L ++ [((x / y : Nat) : Int)]) ++ tms y (x % y) = M := by
  rw [← h, tms_pos hy, List.append_assoc]; rfl
/-- A fraction that was boxed is there behind a call that turns nothing old. -/
theorem box2 {w w1 : World} {a b : Int} {t : TypeId} (hb : Below (w.alloc (.cells #[.int .i64 a, .int .i64 b] t)).heap.size (w.alloc (.cells #[.int .i64 a, .int .i64 b] t)) w1) :
    w1.cell? ⟨w.heap.size, 0, none⟩ = some (.int .i64 a) ∧ w1.cell? ⟨w.heap.size, 1, none⟩ = some (.int .i64 b) ∧ Below w.heap.size w w1 ∧ w.heap.size < w1.heap.size := by
  refine ⟨(hb.cell (p := ⟨w.heap.size, 0, none⟩) (by simp)).trans (by simp), (hb.cell (p := ⟨w.heap.size, 1, none⟩) (by simp)).trans (by simp), ?_, ?_⟩
  · exact ((Below.refl _ w).alloc (Nat.le_refl _) _).trans (hb.mono (by simp))
  · have := hb.size; simp at this; omega
end Go.Proofs.Ytcbpkjmmacgmfaa
