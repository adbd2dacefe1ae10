/-
  DERIVED. GIVEN WITH THE SEED: THE CARDS: each row of YtgajdfnceadkfaaDoorRows.lean that lists a variable, with what it lists TIED to the program's text (the seventh form; the later family's looks); each row that meets fmt, with fmt's text TOLD by the authors' own Lean function (tested against real Go, not proved from fmt's source: count such statements apart). THE CARD IS WHAT COUNTS. Prove the row's statement (the work); the ties are given (YtgajdfnceadkfaaDoorTie.lean); close each card by the builder's one call (the guide's Derived/Test/ToyasCard.lean, 'card_holds'). Laid BY PROGRAM, IN A SANDBOX (cutbox-door.mjs). By AI agents, Wed Nov 11 2026. No macro, syntax, notation, axiom, sorry.
-/
import Derived.Test.YtgajdfnceadkfaaDoorRows
import GoSem.ClaimSeven
namespace Go.Proofs.YtgajdfnceadkfaaDoor
namespace Rows

/-- THE TIED CARD OF 'foliolaw04.MarkEscapes'. -/
def markEscapesCard : Claim7 := { stood := { row := markEscapesRow, standIns := [], harness := (true, "73bffd7ed075645a1973992ed26d737a2ed7f7ebd6e770513981518e8aebeef1"), looks := true }, kinds := [], alts := [], laidByText := true, laidKinds := [.data, .pinned], laidTests := true, laidLooks := .later }
def MarkEscapesCardSaid : Prop := Claim7.holds Tryd.pinned (.plain (OpenSpec.ofChange markEscapesSpec)) markEscapesCard

/-- THE TIED CARD OF 'foliolaw04.MarkPlaces'. -/
def markPlacesCard : Claim7 := { stood := { row := markPlacesRow, standIns := [], harness := (true, "73bffd7ed075645a1973992ed26d737a2ed7f7ebd6e770513981518e8aebeef1"), looks := true }, kinds := [], alts := [], laidByText := true, laidKinds := [.data, .pinned], laidTests := true, laidLooks := .later }
def MarkPlacesCardSaid : Prop := Claim7.holds Tryd.pinned (.plain (OpenSpec.ofChange markPlacesSpec)) markPlacesCard

/-- THE TIED CARD OF 'foliolaw04.MarkParts'. -/
def markPartsCard : Claim7 := { stood := { row := markPartsRow, standIns := [], harness := (true, "73bffd7ed075645a1973992ed26d737a2ed7f7ebd6e770513981518e8aebeef1"), looks := true }, kinds := [], alts := [], laidByText := true, laidKinds := [.data, .pinned], laidTests := true, laidLooks := .later }
def MarkPartsCardSaid : Prop := Claim7.holds Tryd.pinned (.plain (OpenSpec.ofChange markPartsSpec)) markPartsCard

/-- THE TIED CARD OF 'foliolaw04.MarkComments'. -/
def markCommentsCard : Claim7 := { stood := { row := markCommentsRow, standIns := [], harness := (true, "73bffd7ed075645a1973992ed26d737a2ed7f7ebd6e770513981518e8aebeef1"), looks := true }, kinds := [], alts := [], laidByText := true, laidKinds := [.data, .pinned], laidTests := true, laidLooks := .later }
def MarkCommentsCardSaid : Prop := Claim7.holds Tryd.pinned (.plain (OpenSpec.ofChange markCommentsSpec)) markCommentsCard

/-- THE TIED CARD OF 'foliolaw04.MarkBraces'. -/
def markBracesCard : Claim7 := { stood := { row := markBracesRow, standIns := [], harness := (true, "73bffd7ed075645a1973992ed26d737a2ed7f7ebd6e770513981518e8aebeef1"), looks := true }, kinds := [], alts := [], laidByText := true, laidKinds := [.data, .pinned], laidTests := true, laidLooks := .later }
def MarkBracesCardSaid : Prop := Claim7.holds Tryd.pinned (.plain (OpenSpec.ofChange markBracesSpec)) markBracesCard

/-- THE TIED CARD OF 'foliolaw04.MarkBack'. -/
def markBackCard : Claim7 := { stood := { row := markBackRow, standIns := [], harness := (true, "73bffd7ed075645a1973992ed26d737a2ed7f7ebd6e770513981518e8aebeef1"), looks := true }, kinds := [], alts := [], laidByText := true, laidKinds := [.data, .pinned], laidTests := true, laidLooks := .later }
def MarkBackCardSaid : Prop := Claim7.holds Tryd.pinned (.plain (OpenSpec.ofChange markBackSpec)) markBackCard

/-- THE SECOND FORM's CARD OF 'foliolaw04.MarkEscapes'. -/
def markEscapesUptoCard : Claim7 := { stood := { row := markEscapesUptoRow, standIns := [], harness := (true, "73bffd7ed075645a1973992ed26d737a2ed7f7ebd6e770513981518e8aebeef1"), looks := true }, kinds := [], alts := [], laidByText := true, laidKinds := [.data, .pinned], laidTests := true, laidLooks := .later }
def MarkEscapesUptoCardSaid : Prop := Claim7.holds Tryd.pinned (.plain (OpenSpec.upto markEscapesSpec)) markEscapesUptoCard

/-- THE SECOND FORM's CARD OF 'foliolaw04.MarkPlaces'. -/
def markPlacesUptoCard : Claim7 := { stood := { row := markPlacesUptoRow, standIns := [], harness := (true, "73bffd7ed075645a1973992ed26d737a2ed7f7ebd6e770513981518e8aebeef1"), looks := true }, kinds := [], alts := [], laidByText := true, laidKinds := [.data, .pinned], laidTests := true, laidLooks := .later }
def MarkPlacesUptoCardSaid : Prop := Claim7.holds Tryd.pinned (.plain (OpenSpec.upto markPlacesSpec)) markPlacesUptoCard

/-- THE SECOND FORM's CARD OF 'foliolaw04.MarkParts'. -/
def markPartsUptoCard : Claim7 := { stood := { row := markPartsUptoRow, standIns := [], harness := (true, "73bffd7ed075645a1973992ed26d737a2ed7f7ebd6e770513981518e8aebeef1"), looks := true }, kinds := [], alts := [], laidByText := true, laidKinds := [.data, .pinned], laidTests := true, laidLooks := .later }
def MarkPartsUptoCardSaid : Prop := Claim7.holds Tryd.pinned (.plain (OpenSpec.upto markPartsSpec)) markPartsUptoCard

/-- THE SECOND FORM's CARD OF 'foliolaw04.MarkComments'. -/
def markCommentsUptoCard : Claim7 := { stood := { row := markCommentsUptoRow, standIns := [], harness := (true, "73bffd7ed075645a1973992ed26d737a2ed7f7ebd6e770513981518e8aebeef1"), looks := true }, kinds := [], alts := [], laidByText := true, laidKinds := [.data, .pinned], laidTests := true, laidLooks := .later }
def MarkCommentsUptoCardSaid : Prop := Claim7.holds Tryd.pinned (.plain (OpenSpec.upto markCommentsSpec)) markCommentsUptoCard

/-- THE SECOND FORM's CARD OF 'foliolaw04.MarkBraces'. -/
def markBracesUptoCard : Claim7 := { stood := { row := markBracesUptoRow, standIns := [], harness := (true, "73bffd7ed075645a1973992ed26d737a2ed7f7ebd6e770513981518e8aebeef1"), looks := true }, kinds := [], alts := [], laidByText := true, laidKinds := [.data, .pinned], laidTests := true, laidLooks := .later }
def MarkBracesUptoCardSaid : Prop := Claim7.holds Tryd.pinned (.plain (OpenSpec.upto markBracesSpec)) markBracesUptoCard

/-- THE SECOND FORM's CARD OF 'foliolaw04.MarkBack'. -/
def markBackUptoCard : Claim7 := { stood := { row := markBackUptoRow, standIns := [], harness := (true, "73bffd7ed075645a1973992ed26d737a2ed7f7ebd6e770513981518e8aebeef1"), looks := true }, kinds := [], alts := [], laidByText := true, laidKinds := [.data, .pinned], laidTests := true, laidLooks := .later }
def MarkBackUptoCardSaid : Prop := Claim7.holds Tryd.pinned (.plain (OpenSpec.upto markBackSpec)) markBackUptoCard
end Rows
end Go.Proofs.YtgajdfnceadkfaaDoor
