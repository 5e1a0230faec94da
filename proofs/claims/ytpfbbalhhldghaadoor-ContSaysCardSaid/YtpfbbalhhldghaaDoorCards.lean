/-
  DERIVED. GIVEN WITH THE SEED: THE CARDS: each row of YtpfbbalhhldghaaDoorRows.lean that lists a variable, with what it lists TIED to the program's text (the seventh form; the later family's looks); each row that meets fmt, with fmt's text TOLD by the authors' own Lean function (tested against real Go, not proved from fmt's source: count such statements apart). THE CARD IS WHAT COUNTS. Prove the row's statement (the work); the ties are given (YtpfbbalhhldghaaDoorTie.lean); close each card by the builder's one call (the guide's Derived/Test/ToyasCard.lean, 'card_holds'). Laid BY PROGRAM, IN A SANDBOX (cutbox-door.mjs). By AI agents, Wed Nov 11 2026. No macro, syntax, notation, axiom, sorry.
-/
import Derived.Test.YtpfbbalhhldghaaDoorRows
import GoSem.ClaimSeven
namespace Go.Proofs.YtpfbbalhhldghaaDoor
namespace Rows

/-- THE TIED CARD OF 'rankmerelaw1.EuclidSays'. -/
def euclidSaysCard : Claim7 := { stood := { row := euclidSaysRow, standIns := [], harness := (true, "b955b53699fef1ae60133845cb33a7f3c62e452bf4e85605193a1140a506b410"), looks := true }, kinds := [], alts := [], laidByText := true, laidKinds := [.handle], laidTests := true, laidLooks := .later }
def EuclidSaysCardSaid : Prop := Claim7.holds Tryd.pinned (.plain (OpenSpec.ofChange euclidSaysSpec)) euclidSaysCard

/-- THE TIED CARD OF 'rankmerelaw1.ContSays'. -/
def contSaysCard : Claim7 := { stood := { row := contSaysRow, standIns := [], harness := (true, "b955b53699fef1ae60133845cb33a7f3c62e452bf4e85605193a1140a506b410"), looks := true }, kinds := [], alts := [], laidByText := true, laidKinds := [.handle], laidTests := true, laidLooks := .later }
def ContSaysCardSaid : Prop := Claim7.holds Tryd.pinned (.plain (OpenSpec.ofChange contSaysSpec)) contSaysCard

/-- THE TIED CARD OF 'rankmeretop.TopRests'. -/
def topRestsCard : Claim7 := { stood := { row := topRestsRow, standIns := [], harness := (true, "b955b53699fef1ae60133845cb33a7f3c62e452bf4e85605193a1140a506b410"), looks := true }, kinds := [], alts := [], laidByText := true, laidKinds := [.handle], laidTests := true, laidLooks := .later }
def TopRestsCardSaid : Prop := Claim7.holds Tryd.pinned (.plain (OpenSpec.ofChange topRestsSpec)) topRestsCard

/-- THE SECOND FORM's CARD OF 'rankmerelaw1.EuclidSays'. -/
def euclidSaysUptoCard : Claim7 := { stood := { row := euclidSaysUptoRow, standIns := [], harness := (true, "b955b53699fef1ae60133845cb33a7f3c62e452bf4e85605193a1140a506b410"), looks := true }, kinds := [], alts := [], laidByText := true, laidKinds := [.handle], laidTests := true, laidLooks := .later }
def EuclidSaysUptoCardSaid : Prop := Claim7.holds Tryd.pinned (.plain (OpenSpec.upto euclidSaysSpec)) euclidSaysUptoCard

/-- THE SECOND FORM's CARD OF 'rankmerelaw1.ContSays'. -/
def contSaysUptoCard : Claim7 := { stood := { row := contSaysUptoRow, standIns := [], harness := (true, "b955b53699fef1ae60133845cb33a7f3c62e452bf4e85605193a1140a506b410"), looks := true }, kinds := [], alts := [], laidByText := true, laidKinds := [.handle], laidTests := true, laidLooks := .later }
def ContSaysUptoCardSaid : Prop := Claim7.holds Tryd.pinned (.plain (OpenSpec.upto contSaysSpec)) contSaysUptoCard

/-- THE SECOND FORM's CARD OF 'rankmeretop.TopRests'. -/
def topRestsUptoCard : Claim7 := { stood := { row := topRestsUptoRow, standIns := [], harness := (true, "b955b53699fef1ae60133845cb33a7f3c62e452bf4e85605193a1140a506b410"), looks := true }, kinds := [], alts := [], laidByText := true, laidKinds := [.handle], laidTests := true, laidLooks := .later }
def TopRestsUptoCardSaid : Prop := Claim7.holds Tryd.pinned (.plain (OpenSpec.upto topRestsSpec)) topRestsUptoCard
end Rows
end Go.Proofs.YtpfbbalhhldghaaDoor
