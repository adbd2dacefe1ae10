/-
  DERIVED. GIVEN WITH THE SEED: THE CARDS: each row of YtjpejkeobcdobaaDoorRows.lean that lists a variable, with what it lists TIED to the program's text (the seventh form; the later family's looks); each row that meets fmt, with fmt's text TOLD by the authors' own Lean function (tested against real Go, not proved from fmt's source: count such statements apart). THE CARD IS WHAT COUNTS. Prove the row's statement (the work); the ties are given (YtjpejkeobcdobaaDoorTie.lean); close each card by the builder's one call (the guide's Derived/Test/ToyasCard.lean, 'card_holds'). Laid BY PROGRAM, IN A SANDBOX (cutbox-door.mjs). By AI agents, Wed Nov 11 2026. No macro, syntax, notation, axiom, sorry.
-/
import Derived.Test.YtjpejkeobcdobaaDoorRows
import GoSem.ClaimSeven
namespace Go.Proofs.YtjpejkeobcdobaaDoor
namespace Rows

/-- THE TIED CARD OF 'foliolaw11.IrSplits'. -/
def irSplitsCard : Claim7 := { stood := { row := irSplitsRow, standIns := [], harness := (true, "6cae52e1bc4450e2524bdcd3b9bfac94223c01099888096dd09558230b540a25"), looks := true }, kinds := [], alts := [], laidByText := true, laidKinds := [.data, .data, .data, .data, .sentinel, .sentinel, .pinned], laidTests := true, laidLooks := .later }
def IrSplitsCardSaid : Prop := Claim7.holds Tryd.pinned (.plain (OpenSpec.ofChange irSplitsSpec)) irSplitsCard

/-- THE SECOND FORM's CARD OF 'foliolaw11.IrSplits'. -/
def irSplitsUptoCard : Claim7 := { stood := { row := irSplitsUptoRow, standIns := [], harness := (true, "6cae52e1bc4450e2524bdcd3b9bfac94223c01099888096dd09558230b540a25"), looks := true }, kinds := [], alts := [], laidByText := true, laidKinds := [.data, .data, .data, .data, .sentinel, .sentinel, .pinned], laidTests := true, laidLooks := .later }
def IrSplitsUptoCardSaid : Prop := Claim7.holds Tryd.pinned (.plain (OpenSpec.upto irSplitsSpec)) irSplitsUptoCard
end Rows
end Go.Proofs.YtjpejkeobcdobaaDoor
