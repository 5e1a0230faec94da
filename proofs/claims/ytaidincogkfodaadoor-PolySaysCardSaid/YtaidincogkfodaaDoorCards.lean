/-
  DERIVED. GIVEN WITH THE SEED: THE CARDS: each row of YtaidincogkfodaaDoorRows.lean that lists a variable, with what it lists TIED to the program's text (the seventh form; the later family's looks); each row that meets fmt, with fmt's text TOLD by the authors' own Lean function (tested against real Go, not proved from fmt's source: count such statements apart). THE CARD IS WHAT COUNTS. Prove the row's statement (the work); the ties are given (YtaidincogkfodaaDoorTie.lean); close each card by the builder's one call (the guide's Derived/Test/ToyasCard.lean, 'card_holds'). Laid BY PROGRAM, IN A SANDBOX (cutbox-door.mjs). By AI agents, Wed Nov 11 2026. No macro, syntax, notation, axiom, sorry.
-/
import Derived.Test.YtaidincogkfodaaDoorRows
import GoSem.ClaimSeven
namespace Go.Proofs.YtaidincogkfodaaDoor
namespace Rows

/-- THE TIED CARD OF 'rankmerelaw1.PolySays'. -/
def polySaysCard : Claim7 := { stood := { row := polySaysRow, standIns := [], harness := (true, "fc3d87ba06388db259df10c3e04a32cb1f82e73f03df3828a6c44d7e71870b5b"), looks := true }, kinds := [], alts := [], laidByText := true, laidKinds := [.handle], laidTests := true, laidLooks := .later }
def PolySaysCardSaid : Prop := Claim7.holds Tryd.pinned (.plain (OpenSpec.ofChange polySaysSpec)) polySaysCard

/-- THE TIED CARD OF 'rankmerelaw1.IpolSays'. -/
def ipolSaysCard : Claim7 := { stood := { row := ipolSaysRow, standIns := [], harness := (true, "fc3d87ba06388db259df10c3e04a32cb1f82e73f03df3828a6c44d7e71870b5b"), looks := true }, kinds := [], alts := [], laidByText := true, laidKinds := [.handle], laidTests := true, laidLooks := .later }
def IpolSaysCardSaid : Prop := Claim7.holds Tryd.pinned (.plain (OpenSpec.ofChange ipolSaysSpec)) ipolSaysCard

/-- THE SECOND FORM's CARD OF 'rankmerelaw1.PolySays'. -/
def polySaysUptoCard : Claim7 := { stood := { row := polySaysUptoRow, standIns := [], harness := (true, "fc3d87ba06388db259df10c3e04a32cb1f82e73f03df3828a6c44d7e71870b5b"), looks := true }, kinds := [], alts := [], laidByText := true, laidKinds := [.handle], laidTests := true, laidLooks := .later }
def PolySaysUptoCardSaid : Prop := Claim7.holds Tryd.pinned (.plain (OpenSpec.upto polySaysSpec)) polySaysUptoCard

/-- THE SECOND FORM's CARD OF 'rankmerelaw1.IpolSays'. -/
def ipolSaysUptoCard : Claim7 := { stood := { row := ipolSaysUptoRow, standIns := [], harness := (true, "fc3d87ba06388db259df10c3e04a32cb1f82e73f03df3828a6c44d7e71870b5b"), looks := true }, kinds := [], alts := [], laidByText := true, laidKinds := [.handle], laidTests := true, laidLooks := .later }
def IpolSaysUptoCardSaid : Prop := Claim7.holds Tryd.pinned (.plain (OpenSpec.upto ipolSaysSpec)) ipolSaysUptoCard
end Rows
end Go.Proofs.YtaidincogkfodaaDoor
