/-
  No cell of these rows narrows 'for every input' (looked for: loops, veiled, ifaces, maps, wideKeys, modest, calm, conditions, laid).
  DERIVED. THE GIVEN ROWS OF THIS SEAT. 7 by the template 'for every input the law returns true; each argument reads behind the call as it read before'; 0 by the template 'total and deterministic' (their statements: YtpfbbalhhldghaaTotals.lean).
  GIVEN WITH THE SEED: the statements are not yours to turn. If you find one false, say at which input.
  Laid BY PROGRAM, IN A SANDBOX (cutbox-rows.mjs): the forced cells as the released guide's own fill.sh prints them over the translation 9b5bc3c3cf6ec66e… (all of the seat's roots in one cut). By AI agents, Wed Nov 11 2026. No macro, syntax, notation, axiom, sorry.
-/
import Derived.Test.YtpfbbalhhldghaaChecked
import GoSem.Claim
import GoSem.ClaimJoined
import GoSem.ClaimMapViews
import Derived.JoinedTies
import Derived.KernelRfl
namespace Go.Proofs.Ytpfbbalhhldghaa
/- THE CELL 'sum', in the pinned program and in every row, IS THE sha256 OF THE DUMP (.gsa) THAT YtpfbbalhhldghaaProg.lean LOADS. Nothing in Lean hashes anything: it is a label: what it is worth is what the hold of that sum in a sandbox is worth. -/
noncomputable def Try.pinned : Pinned := { name := "ytpfbbalhhldghaa", sum := "9b5bc3c3cf6ec66ef9927519a8baf646fbca692d67a9366eba08a567eb3d18d7", checked := Try.checked }
namespace Rows
def none {H : Type} : Left H := { results := [], args := [] }

/-- 'rankmerelaw1.EuclidBezout': WHATEVER THE INPUT: true; the input reads as it did. -/
def euclidBezoutSpec : ChangeSpec := { name := "euclidBezout", fn := fun _ => fun
  | [d1, d2, d3] => { results := [.lit (.bool true)], args := [d1, d2, d3] }
  | _ => none }
def euclidBezoutRow : OpenClaim := { program := "ytpfbbalhhldghaa", sum := "9b5bc3c3cf6ec66ef9927519a8baf646fbca692d67a9366eba08a567eb3d18d7", func := "rankmere/rankmerelaw1.EuclidBezout", spec := "euclidBezout", apart := false }
def EuclidBezoutSaid : Prop := euclidBezoutRow.holds Try.pinned (OpenSpec.ofChange euclidBezoutSpec)

/-- ITS FALSE NEIGHBOUR: 'it returns false'. Refute it at one input. -/
def euclidBezoutWrong : ChangeSpec := { name := "euclidBezout", fn := fun _ => fun
  | [d1, d2, d3] => { results := [.lit (.bool false)], args := [d1, d2, d3] }
  | _ => none }
def EuclidBezoutWrongFalsely : Prop := euclidBezoutRow.holds Try.pinned (OpenSpec.ofChange euclidBezoutWrong)

/-- 'rankmerelaw1.EuclidSteps': WHATEVER THE INPUT: true; the input reads as it did. -/
def euclidStepsSpec : ChangeSpec := { name := "euclidSteps", fn := fun _ => fun
  | [d1, d2] => { results := [.lit (.bool true)], args := [d1, d2] }
  | _ => none }
def euclidStepsRow : OpenClaim := { program := "ytpfbbalhhldghaa", sum := "9b5bc3c3cf6ec66ef9927519a8baf646fbca692d67a9366eba08a567eb3d18d7", func := "rankmere/rankmerelaw1.EuclidSteps", spec := "euclidSteps", apart := false }
def EuclidStepsSaid : Prop := euclidStepsRow.holds Try.pinned (OpenSpec.ofChange euclidStepsSpec)

/-- ITS FALSE NEIGHBOUR: 'it returns false'. Refute it at one input. -/
def euclidStepsWrong : ChangeSpec := { name := "euclidSteps", fn := fun _ => fun
  | [d1, d2] => { results := [.lit (.bool false)], args := [d1, d2] }
  | _ => none }
def EuclidStepsWrongFalsely : Prop := euclidStepsRow.holds Try.pinned (OpenSpec.ofChange euclidStepsWrong)

/-- 'rankmerelaw1.EuclidTimes': WHATEVER THE INPUT: true; the input reads as it did. -/
def euclidTimesSpec : ChangeSpec := { name := "euclidTimes", fn := fun _ => fun
  | [d1, d2, d3] => { results := [.lit (.bool true)], args := [d1, d2, d3] }
  | _ => none }
def euclidTimesRow : OpenClaim := { program := "ytpfbbalhhldghaa", sum := "9b5bc3c3cf6ec66ef9927519a8baf646fbca692d67a9366eba08a567eb3d18d7", func := "rankmere/rankmerelaw1.EuclidTimes", spec := "euclidTimes", apart := false }
def EuclidTimesSaid : Prop := euclidTimesRow.holds Try.pinned (OpenSpec.ofChange euclidTimesSpec)

/-- ITS FALSE NEIGHBOUR: 'it returns false'. Refute it at one input. -/
def euclidTimesWrong : ChangeSpec := { name := "euclidTimes", fn := fun _ => fun
  | [d1, d2, d3] => { results := [.lit (.bool false)], args := [d1, d2, d3] }
  | _ => none }
def EuclidTimesWrongFalsely : Prop := euclidTimesRow.holds Try.pinned (OpenSpec.ofChange euclidTimesWrong)

/-- 'rankmerelaw1.ContBack': WHATEVER THE INPUT: true; the input reads as it did. -/
def contBackSpec : ChangeSpec := { name := "contBack", fn := fun _ => fun
  | [d] => { results := [.lit (.bool true)], args := [d] }
  | _ => none }
def contBackRow : OpenClaim := { program := "ytpfbbalhhldghaa", sum := "9b5bc3c3cf6ec66ef9927519a8baf646fbca692d67a9366eba08a567eb3d18d7", func := "rankmere/rankmerelaw1.ContBack", spec := "contBack", recurses := true, apart := false }
def ContBackSaid : Prop := contBackRow.holds Try.pinned (OpenSpec.ofChange contBackSpec)

/-- ITS FALSE NEIGHBOUR: 'it returns false'. Refute it at one input. -/
def contBackWrong : ChangeSpec := { name := "contBack", fn := fun _ => fun
  | [d] => { results := [.lit (.bool false)], args := [d] }
  | _ => none }
def ContBackWrongFalsely : Prop := contBackRow.holds Try.pinned (OpenSpec.ofChange contBackWrong)

/-- 'rankmerelaw1.ContNext': WHATEVER THE INPUT: true; the input reads as it did. -/
def contNextSpec : ChangeSpec := { name := "contNext", fn := fun _ => fun
  | [d] => { results := [.lit (.bool true)], args := [d] }
  | _ => none }
def contNextRow : OpenClaim := { program := "ytpfbbalhhldghaa", sum := "9b5bc3c3cf6ec66ef9927519a8baf646fbca692d67a9366eba08a567eb3d18d7", func := "rankmere/rankmerelaw1.ContNext", spec := "contNext", apart := false }
def ContNextSaid : Prop := contNextRow.holds Try.pinned (OpenSpec.ofChange contNextSpec)

/-- ITS FALSE NEIGHBOUR: 'it returns false'. Refute it at one input. -/
def contNextWrong : ChangeSpec := { name := "contNext", fn := fun _ => fun
  | [d] => { results := [.lit (.bool false)], args := [d] }
  | _ => none }
def ContNextWrongFalsely : Prop := contNextRow.holds Try.pinned (OpenSpec.ofChange contNextWrong)

/-- 'rankmerelaw1.ContBest': WHATEVER THE INPUT: true; the input reads as it did. -/
def contBestSpec : ChangeSpec := { name := "contBest", fn := fun _ => fun
  | [d1, d2, d3, d4] => { results := [.lit (.bool true)], args := [d1, d2, d3, d4] }
  | _ => none }
def contBestRow : OpenClaim := { program := "ytpfbbalhhldghaa", sum := "9b5bc3c3cf6ec66ef9927519a8baf646fbca692d67a9366eba08a567eb3d18d7", func := "rankmere/rankmerelaw1.ContBest", spec := "contBest", apart := false }
def ContBestSaid : Prop := contBestRow.holds Try.pinned (OpenSpec.ofChange contBestSpec)

/-- ITS FALSE NEIGHBOUR: 'it returns false'. Refute it at one input. -/
def contBestWrong : ChangeSpec := { name := "contBest", fn := fun _ => fun
  | [d1, d2, d3, d4] => { results := [.lit (.bool false)], args := [d1, d2, d3, d4] }
  | _ => none }
def ContBestWrongFalsely : Prop := contBestRow.holds Try.pinned (OpenSpec.ofChange contBestWrong)

/-- 'rankmeretop.TopGolden': WHATEVER THE INPUT: true; the input reads as it did. -/
def topGoldenSpec : ChangeSpec := { name := "topGolden", fn := fun _ => fun
  | [d] => { results := [.lit (.bool true)], args := [d] }
  | _ => none }
def topGoldenRow : OpenClaim := { program := "ytpfbbalhhldghaa", sum := "9b5bc3c3cf6ec66ef9927519a8baf646fbca692d67a9366eba08a567eb3d18d7", func := "rankmere/rankmeretop.TopGolden", spec := "topGolden", apart := false }
def TopGoldenSaid : Prop := topGoldenRow.holds Try.pinned (OpenSpec.ofChange topGoldenSpec)

/-- ITS FALSE NEIGHBOUR: 'it returns false'. Refute it at one input. -/
def topGoldenWrong : ChangeSpec := { name := "topGolden", fn := fun _ => fun
  | [d] => { results := [.lit (.bool false)], args := [d] }
  | _ => none }
def TopGoldenWrongFalsely : Prop := topGoldenRow.holds Try.pinned (OpenSpec.ofChange topGoldenWrong)

/- THE SECOND FORM. 'bulk': how many values and letters a reading holds, each counted each time it is reached (what is shared counts as often as it is met; a slice's spare places count too). A statement '..UptoSaid' is the law's where the arguments, and the package variables that the reading takes, are together of bulk at most 1048576: NARROWER than '..Said'. Prove '..Said' where nothing that the law and all that it calls make is longer than what came in: it says more and counts as full. Else prove '..UptoSaid'. A law counts once. -/
mutual
def uptoBulk {H : Type} : DataW H → Nat
  | .lit (.string bytes) => bytes.length + 1
  | .lit _ => 1
  | .nil => 1
  | .ptr d => uptoBulk d + 1
  | .slice elems spare => uptoBulkAll elems + uptoBulkAll spare + 1
  | .agg parts => uptoBulkAll parts + 1
  | .iface _ d => uptoBulk d + 1
  | .map entries => uptoBulkEntries entries + 1
  | .held _ => 1
def uptoBulkAll {H : Type} : List (DataW H) → Nat
  | [] => 0
  | d :: r => uptoBulk d + uptoBulkAll r
def uptoBulkEntries {H : Type} : List (Lit × DataW H) → Nat
  | [] => 0
  | x :: r => uptoBulkEntry x + uptoBulkEntries r
def uptoBulkEntry {H : Type} : Lit × DataW H → Nat
  | (.string bytes, d) => bytes.length + uptoBulk d + 1
  | (_, d) => uptoBulk d + 1
 end
def uptoSmall : (H : Type) → List (DataW H) → Bool := fun _ ds => decide (uptoBulkAll ds ≤ 1048576)
def OpenSpec.upto (s : _root_.Go.ChangeSpec) : _root_.Go.OpenSpec := { _root_.Go.OpenSpec.ofChange s with cond := some uptoSmall }

/-- 'rankmerelaw1.EuclidBezout', WHERE WHAT IT READS IS OF BULK AT MOST 1048576: true; the input reads as it did. -/
def euclidBezoutUptoRow : OpenClaim := { program := "ytpfbbalhhldghaa", sum := "9b5bc3c3cf6ec66ef9927519a8baf646fbca692d67a9366eba08a567eb3d18d7", func := "rankmere/rankmerelaw1.EuclidBezout", spec := "euclidBezout", apart := false, narrowed := true }
def EuclidBezoutUptoSaid : Prop := euclidBezoutUptoRow.holds Try.pinned (OpenSpec.upto euclidBezoutSpec)

/-- 'rankmerelaw1.EuclidSteps', WHERE WHAT IT READS IS OF BULK AT MOST 1048576: true; the input reads as it did. -/
def euclidStepsUptoRow : OpenClaim := { program := "ytpfbbalhhldghaa", sum := "9b5bc3c3cf6ec66ef9927519a8baf646fbca692d67a9366eba08a567eb3d18d7", func := "rankmere/rankmerelaw1.EuclidSteps", spec := "euclidSteps", apart := false, narrowed := true }
def EuclidStepsUptoSaid : Prop := euclidStepsUptoRow.holds Try.pinned (OpenSpec.upto euclidStepsSpec)

/-- 'rankmerelaw1.EuclidTimes', WHERE WHAT IT READS IS OF BULK AT MOST 1048576: true; the input reads as it did. -/
def euclidTimesUptoRow : OpenClaim := { program := "ytpfbbalhhldghaa", sum := "9b5bc3c3cf6ec66ef9927519a8baf646fbca692d67a9366eba08a567eb3d18d7", func := "rankmere/rankmerelaw1.EuclidTimes", spec := "euclidTimes", apart := false, narrowed := true }
def EuclidTimesUptoSaid : Prop := euclidTimesUptoRow.holds Try.pinned (OpenSpec.upto euclidTimesSpec)

/-- 'rankmerelaw1.ContBack', WHERE WHAT IT READS IS OF BULK AT MOST 1048576: true; the input reads as it did. -/
def contBackUptoRow : OpenClaim := { program := "ytpfbbalhhldghaa", sum := "9b5bc3c3cf6ec66ef9927519a8baf646fbca692d67a9366eba08a567eb3d18d7", func := "rankmere/rankmerelaw1.ContBack", spec := "contBack", recurses := true, apart := false, narrowed := true }
def ContBackUptoSaid : Prop := contBackUptoRow.holds Try.pinned (OpenSpec.upto contBackSpec)

/-- 'rankmerelaw1.ContNext', WHERE WHAT IT READS IS OF BULK AT MOST 1048576: true; the input reads as it did. -/
def contNextUptoRow : OpenClaim := { program := "ytpfbbalhhldghaa", sum := "9b5bc3c3cf6ec66ef9927519a8baf646fbca692d67a9366eba08a567eb3d18d7", func := "rankmere/rankmerelaw1.ContNext", spec := "contNext", apart := false, narrowed := true }
def ContNextUptoSaid : Prop := contNextUptoRow.holds Try.pinned (OpenSpec.upto contNextSpec)

/-- 'rankmerelaw1.ContBest', WHERE WHAT IT READS IS OF BULK AT MOST 1048576: true; the input reads as it did. -/
def contBestUptoRow : OpenClaim := { program := "ytpfbbalhhldghaa", sum := "9b5bc3c3cf6ec66ef9927519a8baf646fbca692d67a9366eba08a567eb3d18d7", func := "rankmere/rankmerelaw1.ContBest", spec := "contBest", apart := false, narrowed := true }
def ContBestUptoSaid : Prop := contBestUptoRow.holds Try.pinned (OpenSpec.upto contBestSpec)

/-- 'rankmeretop.TopGolden', WHERE WHAT IT READS IS OF BULK AT MOST 1048576: true; the input reads as it did. -/
def topGoldenUptoRow : OpenClaim := { program := "ytpfbbalhhldghaa", sum := "9b5bc3c3cf6ec66ef9927519a8baf646fbca692d67a9366eba08a567eb3d18d7", func := "rankmere/rankmeretop.TopGolden", spec := "topGolden", apart := false, narrowed := true }
def TopGoldenUptoSaid : Prop := topGoldenUptoRow.holds Try.pinned (OpenSpec.upto topGoldenSpec)

end Rows
end Go.Proofs.Ytpfbbalhhldghaa
