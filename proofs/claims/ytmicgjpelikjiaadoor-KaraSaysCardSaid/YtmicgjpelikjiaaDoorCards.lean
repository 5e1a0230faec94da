/-
  DERIVED. GIVEN WITH THE SEED: THE CARDS: each row of YtmicgjpelikjiaaDoorRows.lean that lists a variable, with what it lists TIED to the program's text (the seventh form; the later family's looks); each row that meets fmt, with fmt's text TOLD by the authors' own Lean function (tested against real Go, not proved from fmt's source: count such statements apart). THE CARD IS WHAT COUNTS. Prove the row's statement (the work); the ties are given (YtmicgjpelikjiaaDoorTie.lean); close each card by the builder's one call (the guide's Derived/Test/ToyasCard.lean, 'card_holds'). Laid BY PROGRAM, IN A SANDBOX (cutbox-door.mjs). By AI agents, Wed Nov 11 2026. No macro, syntax, notation, axiom, sorry.
-/
import Derived.Test.YtmicgjpelikjiaaDoorRows
import GoSem.ClaimSeven
namespace Go.Proofs.YtmicgjpelikjiaaDoor
namespace Rows

/-- THE TIED CARD OF 'rankmerelaw1.NttSays'. -/
def nttSaysCard : Claim7 := { stood := { row := nttSaysRow, standIns := [], harness := (true, "956a14b9dfe44d798589c21f3289c0829d11cb1b10bd13309f17f79d1275989f"), looks := true }, kinds := [], alts := [], laidByText := true, laidKinds := [.handle], laidTests := true, laidLooks := .later }
def NttSaysCardSaid : Prop := Claim7.holds Tryd.pinned (.plain (OpenSpec.ofChange nttSaysSpec)) nttSaysCard

/-- THE TIED CARD OF 'rankmerelaw1.KaraSays'. -/
def karaSaysCard : Claim7 := { stood := { row := karaSaysRow, standIns := [], harness := (true, "956a14b9dfe44d798589c21f3289c0829d11cb1b10bd13309f17f79d1275989f"), looks := true }, kinds := [], alts := [], laidByText := true, laidKinds := [.handle], laidTests := true, laidLooks := .later }
def KaraSaysCardSaid : Prop := Claim7.holds Tryd.pinned (.plain (OpenSpec.ofChange karaSaysSpec)) karaSaysCard

/-- THE SECOND FORM's CARD OF 'rankmerelaw1.NttSays'. -/
def nttSaysUptoCard : Claim7 := { stood := { row := nttSaysUptoRow, standIns := [], harness := (true, "956a14b9dfe44d798589c21f3289c0829d11cb1b10bd13309f17f79d1275989f"), looks := true }, kinds := [], alts := [], laidByText := true, laidKinds := [.handle], laidTests := true, laidLooks := .later }
def NttSaysUptoCardSaid : Prop := Claim7.holds Tryd.pinned (.plain (OpenSpec.upto nttSaysSpec)) nttSaysUptoCard

/-- THE SECOND FORM's CARD OF 'rankmerelaw1.KaraSays'. -/
def karaSaysUptoCard : Claim7 := { stood := { row := karaSaysUptoRow, standIns := [], harness := (true, "956a14b9dfe44d798589c21f3289c0829d11cb1b10bd13309f17f79d1275989f"), looks := true }, kinds := [], alts := [], laidByText := true, laidKinds := [.handle], laidTests := true, laidLooks := .later }
def KaraSaysUptoCardSaid : Prop := Claim7.holds Tryd.pinned (.plain (OpenSpec.upto karaSaysSpec)) karaSaysUptoCard
end Rows
end Go.Proofs.YtmicgjpelikjiaaDoor
