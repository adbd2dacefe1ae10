/-
  DERIVED. GIVEN WITH THE SEED: THE CARDS: each row of YtkfcinmgebhbhaaDoorRows.lean that lists a variable, with what it lists TIED to the program's text (the seventh form; the later family's looks); each row that meets fmt, with fmt's text TOLD by the authors' own Lean function (tested against real Go, not proved from fmt's source: count such statements apart). THE CARD IS WHAT COUNTS. Prove the row's statement (the work); the ties are given (YtkfcinmgebhbhaaDoorTie.lean); close each card by the builder's one call (the guide's Derived/Test/ToyasCard.lean, 'card_holds'). Laid BY PROGRAM, IN A SANDBOX (cutbox-door.mjs). By AI agents, Wed Nov 11 2026. No macro, syntax, notation, axiom, sorry.
-/
import Derived.Test.YtkfcinmgebhbhaaDoorRows
import GoSem.ClaimSeven
namespace Go.Proofs.YtkfcinmgebhbhaaDoor
namespace Rows

/-- THE TIED CARD OF 'foliolaw06.StyleSheets'. -/
def styleSheetsCard : Claim7 := { stood := { row := styleSheetsRow, standIns := [], harness := (true, "2d9d451555f583b450def1689a5cb1deac003834d362a99b2036c1258137323b"), looks := true }, kinds := [], alts := [], laidByText := true, laidKinds := [.data, .data, .data, .sentinel, .sentinel], laidTests := true, laidLooks := .later }
def StyleSheetsCardSaid : Prop := Claim7.holds Tryd.pinned (.plain (OpenSpec.ofChange styleSheetsSpec)) styleSheetsCard

/-- THE TIED CARD OF 'foliolaw06.StyleChanges'. -/
def styleChangesCard : Claim7 := { stood := { row := styleChangesRow, standIns := [], harness := (true, "2d9d451555f583b450def1689a5cb1deac003834d362a99b2036c1258137323b"), looks := true }, kinds := [], alts := [], laidByText := true, laidKinds := [.data, .data, .data, .sentinel, .sentinel], laidTests := true, laidLooks := .later }
def StyleChangesCardSaid : Prop := Claim7.holds Tryd.pinned (.plain (OpenSpec.ofChange styleChangesSpec)) styleChangesCard

/-- THE TIED CARD OF 'foliolaw06.StyleNests'. -/
def styleNestsCard : Claim7 := { stood := { row := styleNestsRow, standIns := [], harness := (true, "2d9d451555f583b450def1689a5cb1deac003834d362a99b2036c1258137323b"), looks := true }, kinds := [], alts := [], laidByText := true, laidKinds := [.data, .data, .data, .sentinel, .sentinel], laidTests := true, laidLooks := .later }
def StyleNestsCardSaid : Prop := Claim7.holds Tryd.pinned (.plain (OpenSpec.ofChange styleNestsSpec)) styleNestsCard

/-- THE TIED CARD OF 'foliolaw06.StyleTexts'. -/
def styleTextsCard : Claim7 := { stood := { row := styleTextsRow, standIns := [], harness := (true, "2d9d451555f583b450def1689a5cb1deac003834d362a99b2036c1258137323b"), looks := true }, kinds := [], alts := [], laidByText := true, laidKinds := [.data, .data, .data, .sentinel, .sentinel], laidTests := true, laidLooks := .later }
def StyleTextsCardSaid : Prop := Claim7.holds Tryd.pinned (.plain (OpenSpec.ofChange styleTextsSpec)) styleTextsCard

/-- THE TIED CARD OF 'foliolaw06.StyleAssociates'. -/
def styleAssociatesCard : Claim7 := { stood := { row := styleAssociatesRow, standIns := [], harness := (true, "2d9d451555f583b450def1689a5cb1deac003834d362a99b2036c1258137323b"), looks := true }, kinds := [], alts := [], laidByText := true, laidKinds := [.data, .data, .data, .sentinel, .sentinel], laidTests := true, laidLooks := .later }
def StyleAssociatesCardSaid : Prop := Claim7.holds Tryd.pinned (.plain (OpenSpec.ofChange styleAssociatesSpec)) styleAssociatesCard

/-- THE TIED CARD OF 'foliolaw06.StyleSplits'. -/
def styleSplitsCard : Claim7 := { stood := { row := styleSplitsRow, standIns := [], harness := (true, "2d9d451555f583b450def1689a5cb1deac003834d362a99b2036c1258137323b"), looks := true }, kinds := [], alts := [], laidByText := true, laidKinds := [.data, .data, .data, .sentinel, .sentinel], laidTests := true, laidLooks := .later }
def StyleSplitsCardSaid : Prop := Claim7.holds Tryd.pinned (.plain (OpenSpec.ofChange styleSplitsSpec)) styleSplitsCard

/-- THE TIED CARD OF 'foliolaw06.StyleBack'. -/
def styleBackCard : Claim7 := { stood := { row := styleBackRow, standIns := [], harness := (true, "2d9d451555f583b450def1689a5cb1deac003834d362a99b2036c1258137323b"), looks := true }, kinds := [], alts := [], laidByText := true, laidKinds := [.data, .data, .data, .sentinel, .sentinel], laidTests := true, laidLooks := .later }
def StyleBackCardSaid : Prop := Claim7.holds Tryd.pinned (.plain (OpenSpec.ofChange styleBackSpec)) styleBackCard

/-- THE TIED CARD OF 'foliolaw06.StyleOrder'. -/
def styleOrderCard : Claim7 := { stood := { row := styleOrderRow, standIns := [], harness := (true, "2d9d451555f583b450def1689a5cb1deac003834d362a99b2036c1258137323b"), looks := true }, kinds := [], alts := [], laidByText := true, laidKinds := [.data, .data, .data, .sentinel, .sentinel], laidTests := true, laidLooks := .later }
def StyleOrderCardSaid : Prop := Claim7.holds Tryd.pinned (.plain (OpenSpec.ofChange styleOrderSpec)) styleOrderCard

/-- THE SECOND FORM's CARD OF 'foliolaw06.StyleSheets'. -/
def styleSheetsUptoCard : Claim7 := { stood := { row := styleSheetsUptoRow, standIns := [], harness := (true, "2d9d451555f583b450def1689a5cb1deac003834d362a99b2036c1258137323b"), looks := true }, kinds := [], alts := [], laidByText := true, laidKinds := [.data, .data, .data, .sentinel, .sentinel], laidTests := true, laidLooks := .later }
def StyleSheetsUptoCardSaid : Prop := Claim7.holds Tryd.pinned (.plain (OpenSpec.upto styleSheetsSpec)) styleSheetsUptoCard

/-- THE SECOND FORM's CARD OF 'foliolaw06.StyleChanges'. -/
def styleChangesUptoCard : Claim7 := { stood := { row := styleChangesUptoRow, standIns := [], harness := (true, "2d9d451555f583b450def1689a5cb1deac003834d362a99b2036c1258137323b"), looks := true }, kinds := [], alts := [], laidByText := true, laidKinds := [.data, .data, .data, .sentinel, .sentinel], laidTests := true, laidLooks := .later }
def StyleChangesUptoCardSaid : Prop := Claim7.holds Tryd.pinned (.plain (OpenSpec.upto styleChangesSpec)) styleChangesUptoCard

/-- THE SECOND FORM's CARD OF 'foliolaw06.StyleNests'. -/
def styleNestsUptoCard : Claim7 := { stood := { row := styleNestsUptoRow, standIns := [], harness := (true, "2d9d451555f583b450def1689a5cb1deac003834d362a99b2036c1258137323b"), looks := true }, kinds := [], alts := [], laidByText := true, laidKinds := [.data, .data, .data, .sentinel, .sentinel], laidTests := true, laidLooks := .later }
def StyleNestsUptoCardSaid : Prop := Claim7.holds Tryd.pinned (.plain (OpenSpec.upto styleNestsSpec)) styleNestsUptoCard

/-- THE SECOND FORM's CARD OF 'foliolaw06.StyleTexts'. -/
def styleTextsUptoCard : Claim7 := { stood := { row := styleTextsUptoRow, standIns := [], harness := (true, "2d9d451555f583b450def1689a5cb1deac003834d362a99b2036c1258137323b"), looks := true }, kinds := [], alts := [], laidByText := true, laidKinds := [.data, .data, .data, .sentinel, .sentinel], laidTests := true, laidLooks := .later }
def StyleTextsUptoCardSaid : Prop := Claim7.holds Tryd.pinned (.plain (OpenSpec.upto styleTextsSpec)) styleTextsUptoCard

/-- THE SECOND FORM's CARD OF 'foliolaw06.StyleAssociates'. -/
def styleAssociatesUptoCard : Claim7 := { stood := { row := styleAssociatesUptoRow, standIns := [], harness := (true, "2d9d451555f583b450def1689a5cb1deac003834d362a99b2036c1258137323b"), looks := true }, kinds := [], alts := [], laidByText := true, laidKinds := [.data, .data, .data, .sentinel, .sentinel], laidTests := true, laidLooks := .later }
def StyleAssociatesUptoCardSaid : Prop := Claim7.holds Tryd.pinned (.plain (OpenSpec.upto styleAssociatesSpec)) styleAssociatesUptoCard

/-- THE SECOND FORM's CARD OF 'foliolaw06.StyleSplits'. -/
def styleSplitsUptoCard : Claim7 := { stood := { row := styleSplitsUptoRow, standIns := [], harness := (true, "2d9d451555f583b450def1689a5cb1deac003834d362a99b2036c1258137323b"), looks := true }, kinds := [], alts := [], laidByText := true, laidKinds := [.data, .data, .data, .sentinel, .sentinel], laidTests := true, laidLooks := .later }
def StyleSplitsUptoCardSaid : Prop := Claim7.holds Tryd.pinned (.plain (OpenSpec.upto styleSplitsSpec)) styleSplitsUptoCard

/-- THE SECOND FORM's CARD OF 'foliolaw06.StyleBack'. -/
def styleBackUptoCard : Claim7 := { stood := { row := styleBackUptoRow, standIns := [], harness := (true, "2d9d451555f583b450def1689a5cb1deac003834d362a99b2036c1258137323b"), looks := true }, kinds := [], alts := [], laidByText := true, laidKinds := [.data, .data, .data, .sentinel, .sentinel], laidTests := true, laidLooks := .later }
def StyleBackUptoCardSaid : Prop := Claim7.holds Tryd.pinned (.plain (OpenSpec.upto styleBackSpec)) styleBackUptoCard

/-- THE SECOND FORM's CARD OF 'foliolaw06.StyleOrder'. -/
def styleOrderUptoCard : Claim7 := { stood := { row := styleOrderUptoRow, standIns := [], harness := (true, "2d9d451555f583b450def1689a5cb1deac003834d362a99b2036c1258137323b"), looks := true }, kinds := [], alts := [], laidByText := true, laidKinds := [.data, .data, .data, .sentinel, .sentinel], laidTests := true, laidLooks := .later }
def StyleOrderUptoCardSaid : Prop := Claim7.holds Tryd.pinned (.plain (OpenSpec.upto styleOrderSpec)) styleOrderUptoCard
end Rows
end Go.Proofs.YtkfcinmgebhbhaaDoor
