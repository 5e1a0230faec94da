/-
  No cell of these rows narrows 'for every input' (looked for: loops, veiled, ifaces, maps, wideKeys, modest, calm, conditions, laid).
  DERIVED. THE GIVEN ROWS OF THIS SEAT. 8 by the template 'for every input the law returns true; each argument reads behind the call as it read before'; 0 by the template 'total and deterministic' (their statements: YtaidincogkfodaaTotals.lean).
  GIVEN WITH THE SEED: the statements are not yours to turn. If you find one false, say at which input.
  Laid BY PROGRAM, IN A SANDBOX (cutbox-rows.mjs): the forced cells as the released guide's own fill.sh prints them over the translation 0bb57a90f2e6a10a… (all of the seat's roots in one cut). By AI agents, Wed Nov 11 2026. No macro, syntax, notation, axiom, sorry.
-/
import Derived.Test.YtaidincogkfodaaChecked
import GoSem.Claim
import GoSem.ClaimJoined
import GoSem.ClaimMapViews
import Derived.JoinedTies
import Derived.KernelRfl
namespace Go.Proofs.Ytaidincogkfodaa
/- THE CELL 'sum', in the pinned program and in every row, IS THE sha256 OF THE DUMP (.gsa) THAT YtaidincogkfodaaProg.lean LOADS. Nothing in Lean hashes anything: it is a label: what it is worth is what the hold of that sum in a sandbox is worth. -/
noncomputable def Try.pinned : Pinned := { name := "ytaidincogkfodaa", sum := "0bb57a90f2e6a10aab97a2cf4788b6f2e11fb64afbb5b97387ae2fd974d5b1a7", checked := Try.checked }
namespace Rows
def none {H : Type} : Left H := { results := [], args := [] }

/-- 'rankmerelaw1.PolyRing': WHATEVER THE INPUT: true; the input reads as it did. -/
def polyRingSpec : ChangeSpec := { name := "polyRing", fn := fun _ => fun
  | [d1, d2, d3] => { results := [.lit (.bool true)], args := [d1, d2, d3] }
  | _ => none }
def polyRingRow : OpenClaim := { program := "ytaidincogkfodaa", sum := "0bb57a90f2e6a10aab97a2cf4788b6f2e11fb64afbb5b97387ae2fd974d5b1a7", func := "rankmere/rankmerelaw1.PolyRing", spec := "polyRing", apart := false }
def PolyRingSaid : Prop := polyRingRow.holds Try.pinned (OpenSpec.ofChange polyRingSpec)

/-- ITS FALSE NEIGHBOUR: 'it returns false'. Refute it at one input. -/
def polyRingWrong : ChangeSpec := { name := "polyRing", fn := fun _ => fun
  | [d1, d2, d3] => { results := [.lit (.bool false)], args := [d1, d2, d3] }
  | _ => none }
def PolyRingWrongFalsely : Prop := polyRingRow.holds Try.pinned (OpenSpec.ofChange polyRingWrong)

/-- 'rankmerelaw1.PolyDiv': WHATEVER THE INPUT: true; the input reads as it did. -/
def polyDivSpec : ChangeSpec := { name := "polyDiv", fn := fun _ => fun
  | [d1, d2] => { results := [.lit (.bool true)], args := [d1, d2] }
  | _ => none }
def polyDivRow : OpenClaim := { program := "ytaidincogkfodaa", sum := "0bb57a90f2e6a10aab97a2cf4788b6f2e11fb64afbb5b97387ae2fd974d5b1a7", func := "rankmere/rankmerelaw1.PolyDiv", spec := "polyDiv", apart := false }
def PolyDivSaid : Prop := polyDivRow.holds Try.pinned (OpenSpec.ofChange polyDivSpec)

/-- ITS FALSE NEIGHBOUR: 'it returns false'. Refute it at one input. -/
def polyDivWrong : ChangeSpec := { name := "polyDiv", fn := fun _ => fun
  | [d1, d2] => { results := [.lit (.bool false)], args := [d1, d2] }
  | _ => none }
def PolyDivWrongFalsely : Prop := polyDivRow.holds Try.pinned (OpenSpec.ofChange polyDivWrong)

/-- 'rankmerelaw1.PolyRoot': WHATEVER THE INPUT: true; the input reads as it did. -/
def polyRootSpec : ChangeSpec := { name := "polyRoot", fn := fun _ => fun
  | [d1, d2] => { results := [.lit (.bool true)], args := [d1, d2] }
  | _ => none }
def polyRootRow : OpenClaim := { program := "ytaidincogkfodaa", sum := "0bb57a90f2e6a10aab97a2cf4788b6f2e11fb64afbb5b97387ae2fd974d5b1a7", func := "rankmere/rankmerelaw1.PolyRoot", spec := "polyRoot", apart := false }
def PolyRootSaid : Prop := polyRootRow.holds Try.pinned (OpenSpec.ofChange polyRootSpec)

/-- ITS FALSE NEIGHBOUR: 'it returns false'. Refute it at one input. -/
def polyRootWrong : ChangeSpec := { name := "polyRoot", fn := fun _ => fun
  | [d1, d2] => { results := [.lit (.bool false)], args := [d1, d2] }
  | _ => none }
def PolyRootWrongFalsely : Prop := polyRootRow.holds Try.pinned (OpenSpec.ofChange polyRootWrong)

/-- 'rankmerelaw1.PolyGcd': WHATEVER THE INPUT: true; the input reads as it did. -/
def polyGcdSpec : ChangeSpec := { name := "polyGcd", fn := fun _ => fun
  | [d1, d2, d3] => { results := [.lit (.bool true)], args := [d1, d2, d3] }
  | _ => none }
def polyGcdRow : OpenClaim := { program := "ytaidincogkfodaa", sum := "0bb57a90f2e6a10aab97a2cf4788b6f2e11fb64afbb5b97387ae2fd974d5b1a7", func := "rankmere/rankmerelaw1.PolyGcd", spec := "polyGcd", apart := false }
def PolyGcdSaid : Prop := polyGcdRow.holds Try.pinned (OpenSpec.ofChange polyGcdSpec)

/-- ITS FALSE NEIGHBOUR: 'it returns false'. Refute it at one input. -/
def polyGcdWrong : ChangeSpec := { name := "polyGcd", fn := fun _ => fun
  | [d1, d2, d3] => { results := [.lit (.bool false)], args := [d1, d2, d3] }
  | _ => none }
def PolyGcdWrongFalsely : Prop := polyGcdRow.holds Try.pinned (OpenSpec.ofChange polyGcdWrong)

/-- 'rankmerelaw1.PolyAt': WHATEVER THE INPUT: true; the input reads as it did. -/
def polyAtSpec : ChangeSpec := { name := "polyAt", fn := fun _ => fun
  | [d1, d2, d3] => { results := [.lit (.bool true)], args := [d1, d2, d3] }
  | _ => none }
def polyAtRow : OpenClaim := { program := "ytaidincogkfodaa", sum := "0bb57a90f2e6a10aab97a2cf4788b6f2e11fb64afbb5b97387ae2fd974d5b1a7", func := "rankmere/rankmerelaw1.PolyAt", spec := "polyAt", apart := false }
def PolyAtSaid : Prop := polyAtRow.holds Try.pinned (OpenSpec.ofChange polyAtSpec)

/-- ITS FALSE NEIGHBOUR: 'it returns false'. Refute it at one input. -/
def polyAtWrong : ChangeSpec := { name := "polyAt", fn := fun _ => fun
  | [d1, d2, d3] => { results := [.lit (.bool false)], args := [d1, d2, d3] }
  | _ => none }
def PolyAtWrongFalsely : Prop := polyAtRow.holds Try.pinned (OpenSpec.ofChange polyAtWrong)

/-- 'rankmerelaw1.IpolSteps': WHATEVER THE INPUT: true; the input reads as it did. -/
def ipolStepsSpec : ChangeSpec := { name := "ipolSteps", fn := fun _ => fun
  | [d1, d2] => { results := [.lit (.bool true)], args := [d1, d2] }
  | _ => none }
def ipolStepsRow : OpenClaim := { program := "ytaidincogkfodaa", sum := "0bb57a90f2e6a10aab97a2cf4788b6f2e11fb64afbb5b97387ae2fd974d5b1a7", func := "rankmere/rankmerelaw1.IpolSteps", spec := "ipolSteps", apart := false }
def IpolStepsSaid : Prop := ipolStepsRow.holds Try.pinned (OpenSpec.ofChange ipolStepsSpec)

/-- ITS FALSE NEIGHBOUR: 'it returns false'. Refute it at one input. -/
def ipolStepsWrong : ChangeSpec := { name := "ipolSteps", fn := fun _ => fun
  | [d1, d2] => { results := [.lit (.bool false)], args := [d1, d2] }
  | _ => none }
def IpolStepsWrongFalsely : Prop := ipolStepsRow.holds Try.pinned (OpenSpec.ofChange ipolStepsWrong)

/-- 'rankmerelaw1.IpolThrough': WHATEVER THE INPUT: true; the input reads as it did. -/
def ipolThroughSpec : ChangeSpec := { name := "ipolThrough", fn := fun _ => fun
  | [d1, d2, d3] => { results := [.lit (.bool true)], args := [d1, d2, d3] }
  | _ => none }
def ipolThroughRow : OpenClaim := { program := "ytaidincogkfodaa", sum := "0bb57a90f2e6a10aab97a2cf4788b6f2e11fb64afbb5b97387ae2fd974d5b1a7", func := "rankmere/rankmerelaw1.IpolThrough", spec := "ipolThrough", apart := false }
def IpolThroughSaid : Prop := ipolThroughRow.holds Try.pinned (OpenSpec.ofChange ipolThroughSpec)

/-- ITS FALSE NEIGHBOUR: 'it returns false'. Refute it at one input. -/
def ipolThroughWrong : ChangeSpec := { name := "ipolThrough", fn := fun _ => fun
  | [d1, d2, d3] => { results := [.lit (.bool false)], args := [d1, d2, d3] }
  | _ => none }
def IpolThroughWrongFalsely : Prop := ipolThroughRow.holds Try.pinned (OpenSpec.ofChange ipolThroughWrong)

/-- 'rankmerelaw1.IpolSum': WHATEVER THE INPUT: true; the input reads as it did. -/
def ipolSumSpec : ChangeSpec := { name := "ipolSum", fn := fun _ => fun
  | [d1, d2, d3] => { results := [.lit (.bool true)], args := [d1, d2, d3] }
  | _ => none }
def ipolSumRow : OpenClaim := { program := "ytaidincogkfodaa", sum := "0bb57a90f2e6a10aab97a2cf4788b6f2e11fb64afbb5b97387ae2fd974d5b1a7", func := "rankmere/rankmerelaw1.IpolSum", spec := "ipolSum", apart := false }
def IpolSumSaid : Prop := ipolSumRow.holds Try.pinned (OpenSpec.ofChange ipolSumSpec)

/-- ITS FALSE NEIGHBOUR: 'it returns false'. Refute it at one input. -/
def ipolSumWrong : ChangeSpec := { name := "ipolSum", fn := fun _ => fun
  | [d1, d2, d3] => { results := [.lit (.bool false)], args := [d1, d2, d3] }
  | _ => none }
def IpolSumWrongFalsely : Prop := ipolSumRow.holds Try.pinned (OpenSpec.ofChange ipolSumWrong)

/- THE SECOND FORM. 'bulk': how many values and letters a reading holds, each counted each time it is reached (what is shared counts as often as it is met; a slice's spare places count too). A statement '..UptoSaid' is the law's where the arguments, and the package variables that the reading takes, are together of bulk at most 1048576: NARROWER than '..Said'. Prove '..Said' where nothing that the law and all that it calls make is longer than what came in: it says more and counts as full. Else prove '..UptoSaid'. A law counts once. -/
mutual
def uptoBulk {H : Type} : DataW H → Nat
  | .lit (.string bytes) => bytes.length + 1
  | .lit _ => 1
  | .nil => 1
  | .ptr d => uptoBulk d + 1
  | .slice elems spare => uptoBulkAll elems + uptoBulkAll spare + 1
  | .agg parts => uptoBulkAll parts + 1
  | .iface _ d => uptoBulk d + 1
  | .map entries => uptoBulkEntries entries + 1
  | .held _ => 1
def uptoBulkAll {H : Type} : List (DataW H) → Nat
  | [] => 0
  | d :: r => uptoBulk d + uptoBulkAll r
def uptoBulkEntries {H : Type} : List (Lit × DataW H) → Nat
  | [] => 0
  | x :: r => uptoBulkEntry x + uptoBulkEntries r
def uptoBulkEntry {H : Type} : Lit × DataW H → Nat
  | (.string bytes, d) => bytes.length + uptoBulk d + 1
  | (_, d) => uptoBulk d + 1
 end
def uptoSmall : (H : Type) → List (DataW H) → Bool := fun _ ds => decide (uptoBulkAll ds ≤ 1048576)
def OpenSpec.upto (s : _root_.Go.ChangeSpec) : _root_.Go.OpenSpec := { _root_.Go.OpenSpec.ofChange s with cond := some uptoSmall }

/-- 'rankmerelaw1.PolyRing', WHERE WHAT IT READS IS OF BULK AT MOST 1048576: true; the input reads as it did. -/
def polyRingUptoRow : OpenClaim := { program := "ytaidincogkfodaa", sum := "0bb57a90f2e6a10aab97a2cf4788b6f2e11fb64afbb5b97387ae2fd974d5b1a7", func := "rankmere/rankmerelaw1.PolyRing", spec := "polyRing", apart := false, narrowed := true }
def PolyRingUptoSaid : Prop := polyRingUptoRow.holds Try.pinned (OpenSpec.upto polyRingSpec)

/-- 'rankmerelaw1.PolyDiv', WHERE WHAT IT READS IS OF BULK AT MOST 1048576: true; the input reads as it did. -/
def polyDivUptoRow : OpenClaim := { program := "ytaidincogkfodaa", sum := "0bb57a90f2e6a10aab97a2cf4788b6f2e11fb64afbb5b97387ae2fd974d5b1a7", func := "rankmere/rankmerelaw1.PolyDiv", spec := "polyDiv", apart := false, narrowed := true }
def PolyDivUptoSaid : Prop := polyDivUptoRow.holds Try.pinned (OpenSpec.upto polyDivSpec)

/-- 'rankmerelaw1.PolyRoot', WHERE WHAT IT READS IS OF BULK AT MOST 1048576: true; the input reads as it did. -/
def polyRootUptoRow : OpenClaim := { program := "ytaidincogkfodaa", sum := "0bb57a90f2e6a10aab97a2cf4788b6f2e11fb64afbb5b97387ae2fd974d5b1a7", func := "rankmere/rankmerelaw1.PolyRoot", spec := "polyRoot", apart := false, narrowed := true }
def PolyRootUptoSaid : Prop := polyRootUptoRow.holds Try.pinned (OpenSpec.upto polyRootSpec)

/-- 'rankmerelaw1.PolyGcd', WHERE WHAT IT READS IS OF BULK AT MOST 1048576: true; the input reads as it did. -/
def polyGcdUptoRow : OpenClaim := { program := "ytaidincogkfodaa", sum := "0bb57a90f2e6a10aab97a2cf4788b6f2e11fb64afbb5b97387ae2fd974d5b1a7", func := "rankmere/rankmerelaw1.PolyGcd", spec := "polyGcd", apart := false, narrowed := true }
def PolyGcdUptoSaid : Prop := polyGcdUptoRow.holds Try.pinned (OpenSpec.upto polyGcdSpec)

/-- 'rankmerelaw1.PolyAt', WHERE WHAT IT READS IS OF BULK AT MOST 1048576: true; the input reads as it did. -/
def polyAtUptoRow : OpenClaim := { program := "ytaidincogkfodaa", sum := "0bb57a90f2e6a10aab97a2cf4788b6f2e11fb64afbb5b97387ae2fd974d5b1a7", func := "rankmere/rankmerelaw1.PolyAt", spec := "polyAt", apart := false, narrowed := true }
def PolyAtUptoSaid : Prop := polyAtUptoRow.holds Try.pinned (OpenSpec.upto polyAtSpec)

/-- 'rankmerelaw1.IpolSteps', WHERE WHAT IT READS IS OF BULK AT MOST 1048576: true; the input reads as it did. -/
def ipolStepsUptoRow : OpenClaim := { program := "ytaidincogkfodaa", sum := "0bb57a90f2e6a10aab97a2cf4788b6f2e11fb64afbb5b97387ae2fd974d5b1a7", func := "rankmere/rankmerelaw1.IpolSteps", spec := "ipolSteps", apart := false, narrowed := true }
def IpolStepsUptoSaid : Prop := ipolStepsUptoRow.holds Try.pinned (OpenSpec.upto ipolStepsSpec)

/-- 'rankmerelaw1.IpolThrough', WHERE WHAT IT READS IS OF BULK AT MOST 1048576: true; the input reads as it did. -/
def ipolThroughUptoRow : OpenClaim := { program := "ytaidincogkfodaa", sum := "0bb57a90f2e6a10aab97a2cf4788b6f2e11fb64afbb5b97387ae2fd974d5b1a7", func := "rankmere/rankmerelaw1.IpolThrough", spec := "ipolThrough", apart := false, narrowed := true }
def IpolThroughUptoSaid : Prop := ipolThroughUptoRow.holds Try.pinned (OpenSpec.upto ipolThroughSpec)

/-- 'rankmerelaw1.IpolSum', WHERE WHAT IT READS IS OF BULK AT MOST 1048576: true; the input reads as it did. -/
def ipolSumUptoRow : OpenClaim := { program := "ytaidincogkfodaa", sum := "0bb57a90f2e6a10aab97a2cf4788b6f2e11fb64afbb5b97387ae2fd974d5b1a7", func := "rankmere/rankmerelaw1.IpolSum", spec := "ipolSum", apart := false, narrowed := true }
def IpolSumUptoSaid : Prop := ipolSumUptoRow.holds Try.pinned (OpenSpec.upto ipolSumSpec)

end Rows
end Go.Proofs.Ytaidincogkfodaa
