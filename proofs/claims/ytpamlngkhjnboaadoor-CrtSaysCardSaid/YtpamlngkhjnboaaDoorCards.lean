/-
  DERIVED. GIVEN WITH THE SEED: THE CARDS: each row of YtpamlngkhjnboaaDoorRows.lean that lists a variable, with what it lists TIED to the program's text (the seventh form; the later family's looks); each row that meets fmt, with fmt's text TOLD by the authors' own Lean function (tested against real Go, not proved from fmt's source: count such statements apart). THE CARD IS WHAT COUNTS. Prove the row's statement (the work); the ties are given (YtpamlngkhjnboaaDoorTie.lean); close each card by the builder's one call (the guide's Derived/Test/ToyasCard.lean, 'card_holds'). Laid BY PROGRAM, IN A SANDBOX (cutbox-door.mjs). By AI agents, Wed Nov 11 2026. No macro, syntax, notation, axiom, sorry.
-/
import Derived.Test.YtpamlngkhjnboaaDoorRows
import GoSem.ClaimSeven
namespace Go.Proofs.YtpamlngkhjnboaaDoor
namespace Rows

/-- THE TIED CARD OF 'rankmerelaw1.CrtSays'. -/
def crtSaysCard : Claim7 := { stood := { row := crtSaysRow, standIns := [], harness := (true, "45337c8701b2ce89c764aa46cddf9a5179a1b9455c1c9b28fc0b39fef80f30ca"), looks := true }, kinds := [], alts := [], laidByText := true, laidKinds := [.handle], laidTests := true, laidLooks := .later }
def CrtSaysCardSaid : Prop := Claim7.holds Tryd.pinned (.plain (OpenSpec.ofChange crtSaysSpec)) crtSaysCard

/-- THE TIED CARD OF 'rankmerelaw1.FieldLaws'. -/
def fieldLawsCard : Claim7 := { stood := { row := fieldLawsRow, standIns := [], harness := (true, "45337c8701b2ce89c764aa46cddf9a5179a1b9455c1c9b28fc0b39fef80f30ca"), looks := true }, kinds := [], alts := [], laidByText := true, laidKinds := [.handle], laidTests := true, laidLooks := .later }
def FieldLawsCardSaid : Prop := Claim7.holds Tryd.pinned (.plain (OpenSpec.ofChange fieldLawsSpec)) fieldLawsCard

/-- THE TIED CARD OF 'rankmerelaw1.FieldSays'. -/
def fieldSaysCard : Claim7 := { stood := { row := fieldSaysRow, standIns := [], harness := (true, "45337c8701b2ce89c764aa46cddf9a5179a1b9455c1c9b28fc0b39fef80f30ca"), looks := true }, kinds := [], alts := [], laidByText := true, laidKinds := [.handle], laidTests := true, laidLooks := .later }
def FieldSaysCardSaid : Prop := Claim7.holds Tryd.pinned (.plain (OpenSpec.ofChange fieldSaysSpec)) fieldSaysCard

/-- THE SECOND FORM's CARD OF 'rankmerelaw1.CrtSays'. -/
def crtSaysUptoCard : Claim7 := { stood := { row := crtSaysUptoRow, standIns := [], harness := (true, "45337c8701b2ce89c764aa46cddf9a5179a1b9455c1c9b28fc0b39fef80f30ca"), looks := true }, kinds := [], alts := [], laidByText := true, laidKinds := [.handle], laidTests := true, laidLooks := .later }
def CrtSaysUptoCardSaid : Prop := Claim7.holds Tryd.pinned (.plain (OpenSpec.upto crtSaysSpec)) crtSaysUptoCard

/-- THE SECOND FORM's CARD OF 'rankmerelaw1.FieldLaws'. -/
def fieldLawsUptoCard : Claim7 := { stood := { row := fieldLawsUptoRow, standIns := [], harness := (true, "45337c8701b2ce89c764aa46cddf9a5179a1b9455c1c9b28fc0b39fef80f30ca"), looks := true }, kinds := [], alts := [], laidByText := true, laidKinds := [.handle], laidTests := true, laidLooks := .later }
def FieldLawsUptoCardSaid : Prop := Claim7.holds Tryd.pinned (.plain (OpenSpec.upto fieldLawsSpec)) fieldLawsUptoCard

/-- THE SECOND FORM's CARD OF 'rankmerelaw1.FieldSays'. -/
def fieldSaysUptoCard : Claim7 := { stood := { row := fieldSaysUptoRow, standIns := [], harness := (true, "45337c8701b2ce89c764aa46cddf9a5179a1b9455c1c9b28fc0b39fef80f30ca"), looks := true }, kinds := [], alts := [], laidByText := true, laidKinds := [.handle], laidTests := true, laidLooks := .later }
def FieldSaysUptoCardSaid : Prop := Claim7.holds Tryd.pinned (.plain (OpenSpec.upto fieldSaysSpec)) fieldSaysUptoCard
end Rows
end Go.Proofs.YtpamlngkhjnboaaDoor
