/-
  No cell of these rows narrows 'for every input' (looked for: loops, veiled, ifaces, maps, wideKeys, modest, calm, conditions, laid).
  DERIVED. THE GIVEN ROWS OF THIS SEAT. 6 by the template 'for every input the law returns true; each argument reads behind the call as it read before'; 0 by the template 'total and deterministic' (their statements: YtpamlngkhjnboaaTotals.lean).
  GIVEN WITH THE SEED: the statements are not yours to turn. If you find one false, say at which input.
  Laid BY PROGRAM, IN A SANDBOX (cutbox-rows.mjs): the forced cells as the released guide's own fill.sh prints them over the translation 0d67df9771ba5643… (all of the seat's roots in one cut). By AI agents, Wed Nov 11 2026. No macro, syntax, notation, axiom, sorry.
-/
import Derived.Test.YtpamlngkhjnboaaChecked
import GoSem.Claim
import GoSem.ClaimJoined
import GoSem.ClaimMapViews
import Derived.JoinedTies
import Derived.KernelRfl
namespace Go.Proofs.Ytpamlngkhjnboaa
/- THE CELL 'sum', in the pinned program and in every row, IS THE sha256 OF THE DUMP (.gsa) THAT YtpamlngkhjnboaaProg.lean LOADS. Nothing in Lean hashes anything: it is a label: what it is worth is what the hold of that sum in a sandbox is worth. -/
noncomputable def Try.pinned : Pinned := { name := "ytpamlngkhjnboaa", sum := "0d67df9771ba56430ddfee31989c74d3b72d7c7a031199b65789e3145ca39722", checked := Try.checked }
namespace Rows
def none {H : Type} : Left H := { results := [], args := [] }

/-- 'rankmerelaw1.Names': WHATEVER THE INPUT: true; the input reads as it did. -/
def namesSpec : ChangeSpec := { name := "names", fn := fun _ => fun
  | [] => { results := [.lit (.bool true)], args := [] }
  | _ => none }
def namesRow : OpenClaim := { program := "ytpamlngkhjnboaa", sum := "0d67df9771ba56430ddfee31989c74d3b72d7c7a031199b65789e3145ca39722", func := "rankmere/rankmerelaw1.Names", spec := "names", apart := false }
def NamesSaid : Prop := namesRow.holds Try.pinned (OpenSpec.ofChange namesSpec)

/-- ITS FALSE NEIGHBOUR: 'it returns false'. Refute it at one input. -/
def namesWrong : ChangeSpec := { name := "names", fn := fun _ => fun
  | [] => { results := [.lit (.bool false)], args := [] }
  | _ => none }
def NamesWrongFalsely : Prop := namesRow.holds Try.pinned (OpenSpec.ofChange namesWrong)

/-- 'rankmerelaw1.CrtSun': WHATEVER THE INPUT: true; the input reads as it did. -/
def crtSunSpec : ChangeSpec := { name := "crtSun", fn := fun _ => fun
  | [d1, d2, d3] => { results := [.lit (.bool true)], args := [d1, d2, d3] }
  | _ => none }
def crtSunRow : OpenClaim := { program := "ytpamlngkhjnboaa", sum := "0d67df9771ba56430ddfee31989c74d3b72d7c7a031199b65789e3145ca39722", func := "rankmere/rankmerelaw1.CrtSun", spec := "crtSun", apart := false }
def CrtSunSaid : Prop := crtSunRow.holds Try.pinned (OpenSpec.ofChange crtSunSpec)

/-- ITS FALSE NEIGHBOUR: 'it returns false'. Refute it at one input. -/
def crtSunWrong : ChangeSpec := { name := "crtSun", fn := fun _ => fun
  | [d1, d2, d3] => { results := [.lit (.bool false)], args := [d1, d2, d3] }
  | _ => none }
def CrtSunWrongFalsely : Prop := crtSunRow.holds Try.pinned (OpenSpec.ofChange crtSunWrong)

/-- 'rankmerelaw1.CrtAll': WHATEVER THE INPUT: true; the input reads as it did. -/
def crtAllSpec : ChangeSpec := { name := "crtAll", fn := fun _ => fun
  | [d1, d2] => { results := [.lit (.bool true)], args := [d1, d2] }
  | _ => none }
def crtAllRow : OpenClaim := { program := "ytpamlngkhjnboaa", sum := "0d67df9771ba56430ddfee31989c74d3b72d7c7a031199b65789e3145ca39722", func := "rankmere/rankmerelaw1.CrtAll", spec := "crtAll", recurses := true, apart := false }
def CrtAllSaid : Prop := crtAllRow.holds Try.pinned (OpenSpec.ofChange crtAllSpec)

/-- ITS FALSE NEIGHBOUR: 'it returns false'. Refute it at one input. -/
def crtAllWrong : ChangeSpec := { name := "crtAll", fn := fun _ => fun
  | [d1, d2] => { results := [.lit (.bool false)], args := [d1, d2] }
  | _ => none }
def CrtAllWrongFalsely : Prop := crtAllRow.holds Try.pinned (OpenSpec.ofChange crtAllWrong)

/-- 'rankmerelaw1.CrtOrder': WHATEVER THE INPUT: true; the input reads as it did. -/
def crtOrderSpec : ChangeSpec := { name := "crtOrder", fn := fun _ => fun
  | [d1, d2] => { results := [.lit (.bool true)], args := [d1, d2] }
  | _ => none }
def crtOrderRow : OpenClaim := { program := "ytpamlngkhjnboaa", sum := "0d67df9771ba56430ddfee31989c74d3b72d7c7a031199b65789e3145ca39722", func := "rankmere/rankmerelaw1.CrtOrder", spec := "crtOrder", apart := false }
def CrtOrderSaid : Prop := crtOrderRow.holds Try.pinned (OpenSpec.ofChange crtOrderSpec)

/-- ITS FALSE NEIGHBOUR: 'it returns false'. Refute it at one input. -/
def crtOrderWrong : ChangeSpec := { name := "crtOrder", fn := fun _ => fun
  | [d1, d2] => { results := [.lit (.bool false)], args := [d1, d2] }
  | _ => none }
def CrtOrderWrongFalsely : Prop := crtOrderRow.holds Try.pinned (OpenSpec.ofChange crtOrderWrong)

/-- 'rankmerelaw1.FieldFermat': WHATEVER THE INPUT: true; the input reads as it did. -/
def fieldFermatSpec : ChangeSpec := { name := "fieldFermat", fn := fun _ => fun
  | [d1, d2, d3] => { results := [.lit (.bool true)], args := [d1, d2, d3] }
  | _ => none }
def fieldFermatRow : OpenClaim := { program := "ytpamlngkhjnboaa", sum := "0d67df9771ba56430ddfee31989c74d3b72d7c7a031199b65789e3145ca39722", func := "rankmere/rankmerelaw1.FieldFermat", spec := "fieldFermat", apart := false }
def FieldFermatSaid : Prop := fieldFermatRow.holds Try.pinned (OpenSpec.ofChange fieldFermatSpec)

/-- ITS FALSE NEIGHBOUR: 'it returns false'. Refute it at one input. -/
def fieldFermatWrong : ChangeSpec := { name := "fieldFermat", fn := fun _ => fun
  | [d1, d2, d3] => { results := [.lit (.bool false)], args := [d1, d2, d3] }
  | _ => none }
def FieldFermatWrongFalsely : Prop := fieldFermatRow.holds Try.pinned (OpenSpec.ofChange fieldFermatWrong)

/-- 'rankmerelaw1.FieldSquares': WHATEVER THE INPUT: true; the input reads as it did. -/
def fieldSquaresSpec : ChangeSpec := { name := "fieldSquares", fn := fun _ => fun
  | [d1, d2] => { results := [.lit (.bool true)], args := [d1, d2] }
  | _ => none }
def fieldSquaresRow : OpenClaim := { program := "ytpamlngkhjnboaa", sum := "0d67df9771ba56430ddfee31989c74d3b72d7c7a031199b65789e3145ca39722", func := "rankmere/rankmerelaw1.FieldSquares", spec := "fieldSquares", apart := false }
def FieldSquaresSaid : Prop := fieldSquaresRow.holds Try.pinned (OpenSpec.ofChange fieldSquaresSpec)

/-- ITS FALSE NEIGHBOUR: 'it returns false'. Refute it at one input. -/
def fieldSquaresWrong : ChangeSpec := { name := "fieldSquares", fn := fun _ => fun
  | [d1, d2] => { results := [.lit (.bool false)], args := [d1, d2] }
  | _ => none }
def FieldSquaresWrongFalsely : Prop := fieldSquaresRow.holds Try.pinned (OpenSpec.ofChange fieldSquaresWrong)

/- THE SECOND FORM. 'bulk': how many values and letters a reading holds, each counted each time it is reached (what is shared counts as often as it is met; a slice's spare places count too). A statement '..UptoSaid' is the law's where the arguments, and the package variables that the reading takes, are together of bulk at most 1048576: NARROWER than '..Said'. Prove '..Said' where nothing that the law and all that it calls make is longer than what came in: it says more and counts as full. Else prove '..UptoSaid'. A law counts once. -/
mutual
def uptoBulk {H : Type} : DataW H → Nat
  | .lit (.string bytes) => bytes.length + 1
  | .lit _ => 1
  | .nil => 1
  | .ptr d => uptoBulk d + 1
  | .slice elems spare => uptoBulkAll elems + uptoBulkAll spare + 1
  | .agg parts => uptoBulkAll parts + 1
  | .iface _ d => uptoBulk d + 1
  | .map entries => uptoBulkEntries entries + 1
  | .held _ => 1
def uptoBulkAll {H : Type} : List (DataW H) → Nat
  | [] => 0
  | d :: r => uptoBulk d + uptoBulkAll r
def uptoBulkEntries {H : Type} : List (Lit × DataW H) → Nat
  | [] => 0
  | x :: r => uptoBulkEntry x + uptoBulkEntries r
def uptoBulkEntry {H : Type} : Lit × DataW H → Nat
  | (.string bytes, d) => bytes.length + uptoBulk d + 1
  | (_, d) => uptoBulk d + 1
 end
def uptoSmall : (H : Type) → List (DataW H) → Bool := fun _ ds => decide (uptoBulkAll ds ≤ 1048576)
def OpenSpec.upto (s : _root_.Go.ChangeSpec) : _root_.Go.OpenSpec := { _root_.Go.OpenSpec.ofChange s with cond := some uptoSmall }

/-- 'rankmerelaw1.Names', WHERE WHAT IT READS IS OF BULK AT MOST 1048576: true; the input reads as it did. -/
def namesUptoRow : OpenClaim := { program := "ytpamlngkhjnboaa", sum := "0d67df9771ba56430ddfee31989c74d3b72d7c7a031199b65789e3145ca39722", func := "rankmere/rankmerelaw1.Names", spec := "names", apart := false, narrowed := true }
def NamesUptoSaid : Prop := namesUptoRow.holds Try.pinned (OpenSpec.upto namesSpec)

/-- 'rankmerelaw1.CrtSun', WHERE WHAT IT READS IS OF BULK AT MOST 1048576: true; the input reads as it did. -/
def crtSunUptoRow : OpenClaim := { program := "ytpamlngkhjnboaa", sum := "0d67df9771ba56430ddfee31989c74d3b72d7c7a031199b65789e3145ca39722", func := "rankmere/rankmerelaw1.CrtSun", spec := "crtSun", apart := false, narrowed := true }
def CrtSunUptoSaid : Prop := crtSunUptoRow.holds Try.pinned (OpenSpec.upto crtSunSpec)

/-- 'rankmerelaw1.CrtAll', WHERE WHAT IT READS IS OF BULK AT MOST 1048576: true; the input reads as it did. -/
def crtAllUptoRow : OpenClaim := { program := "ytpamlngkhjnboaa", sum := "0d67df9771ba56430ddfee31989c74d3b72d7c7a031199b65789e3145ca39722", func := "rankmere/rankmerelaw1.CrtAll", spec := "crtAll", recurses := true, apart := false, narrowed := true }
def CrtAllUptoSaid : Prop := crtAllUptoRow.holds Try.pinned (OpenSpec.upto crtAllSpec)

/-- 'rankmerelaw1.CrtOrder', WHERE WHAT IT READS IS OF BULK AT MOST 1048576: true; the input reads as it did. -/
def crtOrderUptoRow : OpenClaim := { program := "ytpamlngkhjnboaa", sum := "0d67df9771ba56430ddfee31989c74d3b72d7c7a031199b65789e3145ca39722", func := "rankmere/rankmerelaw1.CrtOrder", spec := "crtOrder", apart := false, narrowed := true }
def CrtOrderUptoSaid : Prop := crtOrderUptoRow.holds Try.pinned (OpenSpec.upto crtOrderSpec)

/-- 'rankmerelaw1.FieldFermat', WHERE WHAT IT READS IS OF BULK AT MOST 1048576: true; the input reads as it did. -/
def fieldFermatUptoRow : OpenClaim := { program := "ytpamlngkhjnboaa", sum := "0d67df9771ba56430ddfee31989c74d3b72d7c7a031199b65789e3145ca39722", func := "rankmere/rankmerelaw1.FieldFermat", spec := "fieldFermat", apart := false, narrowed := true }
def FieldFermatUptoSaid : Prop := fieldFermatUptoRow.holds Try.pinned (OpenSpec.upto fieldFermatSpec)

/-- 'rankmerelaw1.FieldSquares', WHERE WHAT IT READS IS OF BULK AT MOST 1048576: true; the input reads as it did. -/
def fieldSquaresUptoRow : OpenClaim := { program := "ytpamlngkhjnboaa", sum := "0d67df9771ba56430ddfee31989c74d3b72d7c7a031199b65789e3145ca39722", func := "rankmere/rankmerelaw1.FieldSquares", spec := "fieldSquares", apart := false, narrowed := true }
def FieldSquaresUptoSaid : Prop := fieldSquaresUptoRow.holds Try.pinned (OpenSpec.upto fieldSquaresSpec)

end Rows
end Go.Proofs.Ytpamlngkhjnboaa
