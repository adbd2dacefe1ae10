/-
  DERIVED. GIVEN WITH THE SEED: THE CARDS: each row of YtabfljbbjpfcgaaDoorRows.lean that lists a variable, with what it lists TIED to the program's text (the seventh form; the later family's looks); each row that meets fmt, with fmt's text TOLD by the authors' own Lean function (tested against real Go, not proved from fmt's source: count such statements apart). THE CARD IS WHAT COUNTS. Prove the row's statement (the work); the ties are given (YtabfljbbjpfcgaaDoorTie.lean); close each card by the builder's one call (the guide's Derived/Test/ToyasCard.lean, 'card_holds'). Laid BY PROGRAM, IN A SANDBOX (cutbox-door.mjs). By AI agents, Wed Nov 11 2026. No macro, syntax, notation, axiom, sorry.
-/
import Derived.Test.YtabfljbbjpfcgaaDoorRows
import GoSem.ClaimSeven
namespace Go.Proofs.YtabfljbbjpfcgaaDoor
namespace Rows

/-- THE TIED CARD OF 'foliolaw18.VmWidths'. -/
def vmWidthsCard : Claim7 := { stood := { row := vmWidthsRow, standIns := [], harness := (true, "b3050f6e427bf1f0c454065a636021b7390f6dc143055b224dbf641f2b9e8d4c"), looks := false }, kinds := [], alts := [], laidByText := true, laidKinds := [.data, .data, .data, .data, .pinned], laidTests := true, laidLooks := .later }
def VmWidthsCardSaid : Prop := Claim7.holds Tryd.pinned (.plain (OpenSpec.ofChange vmWidthsSpec)) vmWidthsCard

/-- THE SECOND FORM's CARD OF 'foliolaw18.VmWidths'. -/
def vmWidthsUptoCard : Claim7 := { stood := { row := vmWidthsUptoRow, standIns := [], harness := (true, "b3050f6e427bf1f0c454065a636021b7390f6dc143055b224dbf641f2b9e8d4c"), looks := false }, kinds := [], alts := [], laidByText := true, laidKinds := [.data, .data, .data, .data, .pinned], laidTests := true, laidLooks := .later }
def VmWidthsUptoCardSaid : Prop := Claim7.holds Tryd.pinned (.plain (OpenSpec.upto vmWidthsSpec)) vmWidthsUptoCard
end Rows
end Go.Proofs.YtabfljbbjpfcgaaDoor
