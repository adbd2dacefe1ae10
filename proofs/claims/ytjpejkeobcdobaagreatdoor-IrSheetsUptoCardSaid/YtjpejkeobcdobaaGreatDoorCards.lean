/-
  DERIVED. GIVEN WITH THE SEED: THE CARDS: each row of YtjpejkeobcdobaaGreatDoorRows.lean that lists a variable, with what it lists TIED to the program's text (the seventh form; the later family's looks); each row that meets fmt, with fmt's text TOLD by the authors' own Lean function (tested against real Go, not proved from fmt's source: count such statements apart). THE CARD IS WHAT COUNTS. Prove the row's statement (the work); the ties are given (YtjpejkeobcdobaaGreatDoorTie.lean); close each card by the builder's one call (the guide's Derived/Test/ToyasCard.lean, 'card_holds'). Laid BY PROGRAM, IN A SANDBOX (cutbox-door.mjs). By AI agents, Wed Nov 11 2026. No macro, syntax, notation, axiom, sorry.
-/
import Derived.Test.YtjpejkeobcdobaaGreatDoorRows
import GoSem.ClaimSeven
namespace Go.Proofs.YtjpejkeobcdobaaGreatDoor
namespace Rows

/-- THE TIED CARD OF 'foliolaw11.IrSheets'. -/
def irSheetsCard : Claim7 := { stood := { row := irSheetsRow, standIns := [], harness := (true, "6708c024b2045d220d7456c8da4fe35618a67773f73775b44e99c35249835f2b"), looks := true }, kinds := [], alts := [], laidByText := true, laidKinds := [.data, .data, .data, .data, .sentinel, .sentinel, .pinned], laidTests := true, laidLooks := .later }
def IrSheetsCardSaid : Prop := Claim7.holds Tryz.pinned (.plain (OpenSpec.ofChange irSheetsSpec)) irSheetsCard

/-- THE TIED CARD OF 'foliolaw11.IrBack'. -/
def irBackCard : Claim7 := { stood := { row := irBackRow, standIns := [], harness := (true, "6708c024b2045d220d7456c8da4fe35618a67773f73775b44e99c35249835f2b"), looks := true }, kinds := [], alts := [], laidByText := true, laidKinds := [.data, .data, .data, .data, .sentinel, .sentinel, .pinned], laidTests := true, laidLooks := .later }
def IrBackCardSaid : Prop := Claim7.holds Tryz.pinned (.plain (OpenSpec.ofChange irBackSpec)) irBackCard

/-- THE TIED CARD OF 'foliolaw11.IrSource'. -/
def irSourceCard : Claim7 := { stood := { row := irSourceRow, standIns := [], harness := (true, "6708c024b2045d220d7456c8da4fe35618a67773f73775b44e99c35249835f2b"), looks := true }, kinds := [], alts := [], laidByText := true, laidKinds := [.data, .data, .data, .data, .sentinel, .sentinel, .pinned], laidTests := true, laidLooks := .later }
def IrSourceCardSaid : Prop := Claim7.holds Tryz.pinned (.plain (OpenSpec.ofChange irSourceSpec)) irSourceCard

/-- THE TIED CARD OF 'foliolaw11.IrLowers'. -/
def irLowersCard : Claim7 := { stood := { row := irLowersRow, standIns := [], harness := (true, "6708c024b2045d220d7456c8da4fe35618a67773f73775b44e99c35249835f2b"), looks := true }, kinds := [], alts := [], laidByText := true, laidKinds := [.data, .data, .data, .data, .sentinel, .sentinel, .pinned], laidTests := true, laidLooks := .later }
def IrLowersCardSaid : Prop := Claim7.holds Tryz.pinned (.plain (OpenSpec.ofChange irLowersSpec)) irLowersCard

/-- THE TIED CARD OF 'foliolaw11.IrChecks'. -/
def irChecksCard : Claim7 := { stood := { row := irChecksRow, standIns := [], harness := (true, "6708c024b2045d220d7456c8da4fe35618a67773f73775b44e99c35249835f2b"), looks := true }, kinds := [], alts := [], laidByText := true, laidKinds := [.data, .data, .data, .data, .sentinel, .sentinel, .pinned], laidTests := true, laidLooks := .later }
def IrChecksCardSaid : Prop := Claim7.holds Tryz.pinned (.plain (OpenSpec.ofChange irChecksSpec)) irChecksCard

/-- THE SECOND FORM's CARD OF 'foliolaw11.IrSheets'. -/
def irSheetsUptoCard : Claim7 := { stood := { row := irSheetsUptoRow, standIns := [], harness := (true, "6708c024b2045d220d7456c8da4fe35618a67773f73775b44e99c35249835f2b"), looks := true }, kinds := [], alts := [], laidByText := true, laidKinds := [.data, .data, .data, .data, .sentinel, .sentinel, .pinned], laidTests := true, laidLooks := .later }
def IrSheetsUptoCardSaid : Prop := Claim7.holds Tryz.pinned (.plain (OpenSpec.upto irSheetsSpec)) irSheetsUptoCard

/-- THE SECOND FORM's CARD OF 'foliolaw11.IrBack'. -/
def irBackUptoCard : Claim7 := { stood := { row := irBackUptoRow, standIns := [], harness := (true, "6708c024b2045d220d7456c8da4fe35618a67773f73775b44e99c35249835f2b"), looks := true }, kinds := [], alts := [], laidByText := true, laidKinds := [.data, .data, .data, .data, .sentinel, .sentinel, .pinned], laidTests := true, laidLooks := .later }
def IrBackUptoCardSaid : Prop := Claim7.holds Tryz.pinned (.plain (OpenSpec.upto irBackSpec)) irBackUptoCard

/-- THE SECOND FORM's CARD OF 'foliolaw11.IrSource'. -/
def irSourceUptoCard : Claim7 := { stood := { row := irSourceUptoRow, standIns := [], harness := (true, "6708c024b2045d220d7456c8da4fe35618a67773f73775b44e99c35249835f2b"), looks := true }, kinds := [], alts := [], laidByText := true, laidKinds := [.data, .data, .data, .data, .sentinel, .sentinel, .pinned], laidTests := true, laidLooks := .later }
def IrSourceUptoCardSaid : Prop := Claim7.holds Tryz.pinned (.plain (OpenSpec.upto irSourceSpec)) irSourceUptoCard

/-- THE SECOND FORM's CARD OF 'foliolaw11.IrLowers'. -/
def irLowersUptoCard : Claim7 := { stood := { row := irLowersUptoRow, standIns := [], harness := (true, "6708c024b2045d220d7456c8da4fe35618a67773f73775b44e99c35249835f2b"), looks := true }, kinds := [], alts := [], laidByText := true, laidKinds := [.data, .data, .data, .data, .sentinel, .sentinel, .pinned], laidTests := true, laidLooks := .later }
def IrLowersUptoCardSaid : Prop := Claim7.holds Tryz.pinned (.plain (OpenSpec.upto irLowersSpec)) irLowersUptoCard

/-- THE SECOND FORM's CARD OF 'foliolaw11.IrChecks'. -/
def irChecksUptoCard : Claim7 := { stood := { row := irChecksUptoRow, standIns := [], harness := (true, "6708c024b2045d220d7456c8da4fe35618a67773f73775b44e99c35249835f2b"), looks := true }, kinds := [], alts := [], laidByText := true, laidKinds := [.data, .data, .data, .data, .sentinel, .sentinel, .pinned], laidTests := true, laidLooks := .later }
def IrChecksUptoCardSaid : Prop := Claim7.holds Tryz.pinned (.plain (OpenSpec.upto irChecksSpec)) irChecksUptoCard
end Rows
end Go.Proofs.YtjpejkeobcdobaaGreatDoor
