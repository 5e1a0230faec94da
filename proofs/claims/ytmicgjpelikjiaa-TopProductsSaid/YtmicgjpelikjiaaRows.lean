/-
  No cell of these rows narrows 'for every input' (looked for: loops, veiled, ifaces, maps, wideKeys, modest, calm, conditions, laid).
  DERIVED. THE GIVEN ROWS OF THIS SEAT. 6 by the template 'for every input the law returns true; each argument reads behind the call as it read before'; 0 by the template 'total and deterministic' (their statements: YtmicgjpelikjiaaTotals.lean).
  GIVEN WITH THE SEED: the statements are not yours to turn. If you find one false, say at which input.
  Laid BY PROGRAM, IN A SANDBOX (cutbox-rows.mjs): the forced cells as the released guide's own fill.sh prints them over the translation ee3c2cac3c2000d7… (all of the seat's roots in one cut). By AI agents, Wed Nov 11 2026. No macro, syntax, notation, axiom, sorry.
-/
import Derived.Test.YtmicgjpelikjiaaChecked
import GoSem.Claim
import GoSem.ClaimJoined
import GoSem.ClaimMapViews
import Derived.JoinedTies
import Derived.KernelRfl
namespace Go.Proofs.Ytmicgjpelikjiaa
/- THE CELL 'sum', in the pinned program and in every row, IS THE sha256 OF THE DUMP (.gsa) THAT YtmicgjpelikjiaaProg.lean LOADS. Nothing in Lean hashes anything: it is a label: what it is worth is what the hold of that sum in a sandbox is worth. -/
noncomputable def Try.pinned : Pinned := { name := "ytmicgjpelikjiaa", sum := "ee3c2cac3c2000d7224012e39179348358c68e45ec858b7886ff67f30d7cc8bc", checked := Try.checked }
namespace Rows
def none {H : Type} : Left H := { results := [], args := [] }

/-- 'rankmerelaw1.NttBack': WHATEVER THE INPUT: true; the input reads as it did. -/
def nttBackSpec : ChangeSpec := { name := "nttBack", fn := fun _ => fun
  | [d] => { results := [.lit (.bool true)], args := [d] }
  | _ => none }
def nttBackRow : OpenClaim := { program := "ytmicgjpelikjiaa", sum := "ee3c2cac3c2000d7224012e39179348358c68e45ec858b7886ff67f30d7cc8bc", func := "rankmere/rankmerelaw1.NttBack", spec := "nttBack", unfollowed := true, recurses := true, apart := false }
def NttBackSaid : Prop := nttBackRow.holds Try.pinned (OpenSpec.ofChange nttBackSpec)

/-- ITS FALSE NEIGHBOUR: 'it returns false'. Refute it at one input. -/
def nttBackWrong : ChangeSpec := { name := "nttBack", fn := fun _ => fun
  | [d] => { results := [.lit (.bool false)], args := [d] }
  | _ => none }
def NttBackWrongFalsely : Prop := nttBackRow.holds Try.pinned (OpenSpec.ofChange nttBackWrong)

/-- 'rankmerelaw1.NttShift': WHATEVER THE INPUT: true; the input reads as it did. -/
def nttShiftSpec : ChangeSpec := { name := "nttShift", fn := fun _ => fun
  | [d] => { results := [.lit (.bool true)], args := [d] }
  | _ => none }
def nttShiftRow : OpenClaim := { program := "ytmicgjpelikjiaa", sum := "ee3c2cac3c2000d7224012e39179348358c68e45ec858b7886ff67f30d7cc8bc", func := "rankmere/rankmerelaw1.NttShift", spec := "nttShift", unfollowed := true, recurses := true, apart := false }
def NttShiftSaid : Prop := nttShiftRow.holds Try.pinned (OpenSpec.ofChange nttShiftSpec)

/-- ITS FALSE NEIGHBOUR: 'it returns false'. Refute it at one input. -/
def nttShiftWrong : ChangeSpec := { name := "nttShift", fn := fun _ => fun
  | [d] => { results := [.lit (.bool false)], args := [d] }
  | _ => none }
def NttShiftWrongFalsely : Prop := nttShiftRow.holds Try.pinned (OpenSpec.ofChange nttShiftWrong)

/-- 'rankmerelaw1.NttFold': WHATEVER THE INPUT: true; the input reads as it did. -/
def nttFoldSpec : ChangeSpec := { name := "nttFold", fn := fun _ => fun
  | [d1, d2] => { results := [.lit (.bool true)], args := [d1, d2] }
  | _ => none }
def nttFoldRow : OpenClaim := { program := "ytmicgjpelikjiaa", sum := "ee3c2cac3c2000d7224012e39179348358c68e45ec858b7886ff67f30d7cc8bc", func := "rankmere/rankmerelaw1.NttFold", spec := "nttFold", unfollowed := true, recurses := true, apart := false }
def NttFoldSaid : Prop := nttFoldRow.holds Try.pinned (OpenSpec.ofChange nttFoldSpec)

/-- ITS FALSE NEIGHBOUR: 'it returns false'. Refute it at one input. -/
def nttFoldWrong : ChangeSpec := { name := "nttFold", fn := fun _ => fun
  | [d1, d2] => { results := [.lit (.bool false)], args := [d1, d2] }
  | _ => none }
def NttFoldWrongFalsely : Prop := nttFoldRow.holds Try.pinned (OpenSpec.ofChange nttFoldWrong)

/-- 'rankmerelaw1.KaraFew': WHATEVER THE INPUT: true; the input reads as it did. -/
def karaFewSpec : ChangeSpec := { name := "karaFew", fn := fun _ => fun
  | [d1, d2] => { results := [.lit (.bool true)], args := [d1, d2] }
  | _ => none }
def karaFewRow : OpenClaim := { program := "ytmicgjpelikjiaa", sum := "ee3c2cac3c2000d7224012e39179348358c68e45ec858b7886ff67f30d7cc8bc", func := "rankmere/rankmerelaw1.KaraFew", spec := "karaFew", recurses := true, apart := false }
def KaraFewSaid : Prop := karaFewRow.holds Try.pinned (OpenSpec.ofChange karaFewSpec)

/-- ITS FALSE NEIGHBOUR: 'it returns false'. Refute it at one input. -/
def karaFewWrong : ChangeSpec := { name := "karaFew", fn := fun _ => fun
  | [d1, d2] => { results := [.lit (.bool false)], args := [d1, d2] }
  | _ => none }
def KaraFewWrongFalsely : Prop := karaFewRow.holds Try.pinned (OpenSpec.ofChange karaFewWrong)

/-- 'rankmerelaw1.KaraSum': WHATEVER THE INPUT: true; the input reads as it did. -/
def karaSumSpec : ChangeSpec := { name := "karaSum", fn := fun _ => fun
  | [d1, d2, d3] => { results := [.lit (.bool true)], args := [d1, d2, d3] }
  | _ => none }
def karaSumRow : OpenClaim := { program := "ytmicgjpelikjiaa", sum := "ee3c2cac3c2000d7224012e39179348358c68e45ec858b7886ff67f30d7cc8bc", func := "rankmere/rankmerelaw1.KaraSum", spec := "karaSum", recurses := true, apart := false }
def KaraSumSaid : Prop := karaSumRow.holds Try.pinned (OpenSpec.ofChange karaSumSpec)

/-- ITS FALSE NEIGHBOUR: 'it returns false'. Refute it at one input. -/
def karaSumWrong : ChangeSpec := { name := "karaSum", fn := fun _ => fun
  | [d1, d2, d3] => { results := [.lit (.bool false)], args := [d1, d2, d3] }
  | _ => none }
def KaraSumWrongFalsely : Prop := karaSumRow.holds Try.pinned (OpenSpec.ofChange karaSumWrong)

/-- 'rankmeretop.TopProducts': WHATEVER THE INPUT: true; the input reads as it did. -/
def topProductsSpec : ChangeSpec := { name := "topProducts", fn := fun _ => fun
  | [d1, d2] => { results := [.lit (.bool true)], args := [d1, d2] }
  | _ => none }
def topProductsRow : OpenClaim := { program := "ytmicgjpelikjiaa", sum := "ee3c2cac3c2000d7224012e39179348358c68e45ec858b7886ff67f30d7cc8bc", func := "rankmere/rankmeretop.TopProducts", spec := "topProducts", unfollowed := true, recurses := true, apart := false }
def TopProductsSaid : Prop := topProductsRow.holds Try.pinned (OpenSpec.ofChange topProductsSpec)

/-- ITS FALSE NEIGHBOUR: 'it returns false'. Refute it at one input. -/
def topProductsWrong : ChangeSpec := { name := "topProducts", fn := fun _ => fun
  | [d1, d2] => { results := [.lit (.bool false)], args := [d1, d2] }
  | _ => none }
def TopProductsWrongFalsely : Prop := topProductsRow.holds Try.pinned (OpenSpec.ofChange topProductsWrong)

/- THE SECOND FORM. 'bulk': how many values and letters a reading holds, each counted each time it is reached (what is shared counts as often as it is met; a slice's spare places count too). A statement '..UptoSaid' is the law's where the arguments, and the package variables that the reading takes, are together of bulk at most 1048576: NARROWER than '..Said'. Prove '..Said' where nothing that the law and all that it calls make is longer than what came in: it says more and counts as full. Else prove '..UptoSaid'. A law counts once. -/
mutual
def uptoBulk {H : Type} : DataW H → Nat
  | .lit (.string bytes) => bytes.length + 1
  | .lit _ => 1
  | .nil => 1
  | .ptr d => uptoBulk d + 1
  | .slice elems spare => uptoBulkAll elems + uptoBulkAll spare + 1
  | .agg parts => uptoBulkAll parts + 1
  | .iface _ d => uptoBulk d + 1
  | .map entries => uptoBulkEntries entries + 1
  | .held _ => 1
def uptoBulkAll {H : Type} : List (DataW H) → Nat
  | [] => 0
  | d :: r => uptoBulk d + uptoBulkAll r
def uptoBulkEntries {H : Type} : List (Lit × DataW H) → Nat
  | [] => 0
  | x :: r => uptoBulkEntry x + uptoBulkEntries r
def uptoBulkEntry {H : Type} : Lit × DataW H → Nat
  | (.string bytes, d) => bytes.length + uptoBulk d + 1
  | (_, d) => uptoBulk d + 1
 end
def uptoSmall : (H : Type) → List (DataW H) → Bool := fun _ ds => decide (uptoBulkAll ds ≤ 1048576)
def OpenSpec.upto (s : _root_.Go.ChangeSpec) : _root_.Go.OpenSpec := { _root_.Go.OpenSpec.ofChange s with cond := some uptoSmall }

/-- 'rankmerelaw1.NttBack', WHERE WHAT IT READS IS OF BULK AT MOST 1048576: true; the input reads as it did. -/
def nttBackUptoRow : OpenClaim := { program := "ytmicgjpelikjiaa", sum := "ee3c2cac3c2000d7224012e39179348358c68e45ec858b7886ff67f30d7cc8bc", func := "rankmere/rankmerelaw1.NttBack", spec := "nttBack", unfollowed := true, recurses := true, apart := false, narrowed := true }
def NttBackUptoSaid : Prop := nttBackUptoRow.holds Try.pinned (OpenSpec.upto nttBackSpec)

/-- 'rankmerelaw1.NttShift', WHERE WHAT IT READS IS OF BULK AT MOST 1048576: true; the input reads as it did. -/
def nttShiftUptoRow : OpenClaim := { program := "ytmicgjpelikjiaa", sum := "ee3c2cac3c2000d7224012e39179348358c68e45ec858b7886ff67f30d7cc8bc", func := "rankmere/rankmerelaw1.NttShift", spec := "nttShift", unfollowed := true, recurses := true, apart := false, narrowed := true }
def NttShiftUptoSaid : Prop := nttShiftUptoRow.holds Try.pinned (OpenSpec.upto nttShiftSpec)

/-- 'rankmerelaw1.NttFold', WHERE WHAT IT READS IS OF BULK AT MOST 1048576: true; the input reads as it did. -/
def nttFoldUptoRow : OpenClaim := { program := "ytmicgjpelikjiaa", sum := "ee3c2cac3c2000d7224012e39179348358c68e45ec858b7886ff67f30d7cc8bc", func := "rankmere/rankmerelaw1.NttFold", spec := "nttFold", unfollowed := true, recurses := true, apart := false, narrowed := true }
def NttFoldUptoSaid : Prop := nttFoldUptoRow.holds Try.pinned (OpenSpec.upto nttFoldSpec)

/-- 'rankmerelaw1.KaraFew', WHERE WHAT IT READS IS OF BULK AT MOST 1048576: true; the input reads as it did. -/
def karaFewUptoRow : OpenClaim := { program := "ytmicgjpelikjiaa", sum := "ee3c2cac3c2000d7224012e39179348358c68e45ec858b7886ff67f30d7cc8bc", func := "rankmere/rankmerelaw1.KaraFew", spec := "karaFew", recurses := true, apart := false, narrowed := true }
def KaraFewUptoSaid : Prop := karaFewUptoRow.holds Try.pinned (OpenSpec.upto karaFewSpec)

/-- 'rankmerelaw1.KaraSum', WHERE WHAT IT READS IS OF BULK AT MOST 1048576: true; the input reads as it did. -/
def karaSumUptoRow : OpenClaim := { program := "ytmicgjpelikjiaa", sum := "ee3c2cac3c2000d7224012e39179348358c68e45ec858b7886ff67f30d7cc8bc", func := "rankmere/rankmerelaw1.KaraSum", spec := "karaSum", recurses := true, apart := false, narrowed := true }
def KaraSumUptoSaid : Prop := karaSumUptoRow.holds Try.pinned (OpenSpec.upto karaSumSpec)

/-- 'rankmeretop.TopProducts', WHERE WHAT IT READS IS OF BULK AT MOST 1048576: true; the input reads as it did. -/
def topProductsUptoRow : OpenClaim := { program := "ytmicgjpelikjiaa", sum := "ee3c2cac3c2000d7224012e39179348358c68e45ec858b7886ff67f30d7cc8bc", func := "rankmere/rankmeretop.TopProducts", spec := "topProducts", unfollowed := true, recurses := true, apart := false, narrowed := true }
def TopProductsUptoSaid : Prop := topProductsUptoRow.holds Try.pinned (OpenSpec.upto topProductsSpec)

end Rows
end Go.Proofs.Ytmicgjpelikjiaa
