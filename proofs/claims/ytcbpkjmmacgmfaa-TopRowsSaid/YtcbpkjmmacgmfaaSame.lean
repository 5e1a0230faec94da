/- The contracts of package rankmeresame: Ints (are two lists the same?), Sum, Turned; and of num.First over two errors. -/
import Derived.Test.YtcbpkjmmacgmfaaMem
import Derived.BigQuiet
import Derived.Deep.QuietTactic
namespace Go.Proofs.Ytcbpkjmmacgmfaa
open Go.RowKit

/-- Are two lists the same? -/
def eqL (L M : List Int) : Bool := decide (L = M)
theorem eqL_true {L M : List Int} (h : L = M) : eqL L M = true := by unfold eqL; simp [h]
theorem eqL_false {L M : List Int} (h : L ≠ M) : eqL L M = false := by unfold eqL; simp [h]
theorem nth_ext {L M : List Int} (h : L.length = M.length) (hn : ∀ k, k < L.length → nth L k = nth M k) : L = M := by
  apply List.ext_getElem h
  intro k h1 h2
  have := hn k h1
  unfold nth at this
  simpa [List.getD, List.getElem?_eq_getElem h1, List.getElem?_eq_getElem h2] using this
theorem eqL_len {L M : List Int} (h : L.length ≠ M.length) : eqL L M = false := eqL_false fun e => h (by rw [e])

/-- The sum of a list. -/
def sumL (L : List Int) : Int := L.foldl (· + ·) 0
theorem sumL_take_succ (L : List Int) (k : Nat) (h : k < L.length) : sumL (L.take (k + 1)) = sumL (L.take k) + nth L k := by
  unfold sumL
  rw [List.take_add_one, List.foldl_append]
  simp [nth, List.getD, List.getElem?_eq_getElem h]
end Go.Proofs.Ytcbpkjmmacgmfaa
