/-
  DERIVED. GIVEN WITH THE SEED: THE CARDS: each row of YtgajdfnceadkfaaGreatDoorRows.lean that lists a variable, with what it lists TIED to the program's text (the seventh form; the later family's looks); each row that meets fmt, with fmt's text TOLD by the authors' own Lean function (tested against real Go, not proved from fmt's source: count such statements apart). THE CARD IS WHAT COUNTS. Prove the row's statement (the work); the ties are given (YtgajdfnceadkfaaGreatDoorTie.lean); close each card by the builder's one call (the guide's Derived/Test/ToyasCard.lean, 'card_holds'). Laid BY PROGRAM, IN A SANDBOX (cutbox-door.mjs). By AI agents, Wed Nov 11 2026. No macro, syntax, notation, axiom, sorry.
-/
import Derived.Test.YtgajdfnceadkfaaGreatDoorRows
import GoSem.ClaimSeven
namespace Go.Proofs.YtgajdfnceadkfaaGreatDoor
namespace Rows

/-- THE TIED CARD OF 'foliolaw04.MarkLexes'. -/
def markLexesCard : Claim7 := { stood := { row := markLexesRow, standIns := [], harness := (true, "3500e66a614d0cb2ccedda0cd0673879aa7b7095a7f5c97fc149b8e8b316e4c5"), looks := true }, kinds := [], alts := [], laidByText := true, laidKinds := [.data, .pinned], laidTests := true, laidLooks := .later }
def MarkLexesCardSaid : Prop := Claim7.holds Tryz.pinned (.plain (OpenSpec.ofChange markLexesSpec)) markLexesCard

/-- THE SECOND FORM's CARD OF 'foliolaw04.MarkLexes'. -/
def markLexesUptoCard : Claim7 := { stood := { row := markLexesUptoRow, standIns := [], harness := (true, "3500e66a614d0cb2ccedda0cd0673879aa7b7095a7f5c97fc149b8e8b316e4c5"), looks := true }, kinds := [], alts := [], laidByText := true, laidKinds := [.data, .pinned], laidTests := true, laidLooks := .later }
def MarkLexesUptoCardSaid : Prop := Claim7.holds Tryz.pinned (.plain (OpenSpec.upto markLexesSpec)) markLexesUptoCard
end Rows
end Go.Proofs.YtgajdfnceadkfaaGreatDoor
