/-
  DERIVED. GIVEN WITH THE SEED: THE CARDS: each row of YthfjjohdpoekjaaGreatDoorRows.lean that lists a variable, with what it lists TIED to the program's text (the seventh form; the later family's looks); each row that meets fmt, with fmt's text TOLD by the authors' own Lean function (tested against real Go, not proved from fmt's source: count such statements apart). THE CARD IS WHAT COUNTS. Prove the row's statement (the work); the ties are given (YthfjjohdpoekjaaGreatDoorTie.lean); close each card by the builder's one call (the guide's Derived/Test/ToyasCard.lean, 'card_holds'). Laid BY PROGRAM, IN A SANDBOX (cutbox-door.mjs). By AI agents, Wed Nov 11 2026. No macro, syntax, notation, axiom, sorry.
-/
import Derived.Test.YthfjjohdpoekjaaGreatDoorRows
import GoSem.ClaimSeven
namespace Go.Proofs.YthfjjohdpoekjaaGreatDoor
namespace Rows

/-- THE TIED CARD OF 'foliolaw13.LayoutLooks'. -/
def layoutLooksCard : Claim7 := { stood := { row := layoutLooksRow, standIns := [], harness := (true, "2f2f7b02b5cdf90b8756de94c6421716bd0a286c42f8e81a7b08751251fd1a96"), looks := false }, kinds := [], alts := [], laidByText := true, laidKinds := [.data, .data, .data, .data, .pinned], laidTests := true, laidLooks := .later }
def LayoutLooksCardSaid : Prop := Claim7.holds Tryz.pinned (.plain (OpenSpec.ofChange layoutLooksSpec)) layoutLooksCard

/-- THE SECOND FORM's CARD OF 'foliolaw13.LayoutLooks'. -/
def layoutLooksUptoCard : Claim7 := { stood := { row := layoutLooksUptoRow, standIns := [], harness := (true, "2f2f7b02b5cdf90b8756de94c6421716bd0a286c42f8e81a7b08751251fd1a96"), looks := false }, kinds := [], alts := [], laidByText := true, laidKinds := [.data, .data, .data, .data, .pinned], laidTests := true, laidLooks := .later }
def LayoutLooksUptoCardSaid : Prop := Claim7.holds Tryz.pinned (.plain (OpenSpec.upto layoutLooksSpec)) layoutLooksUptoCard
end Rows
end Go.Proofs.YthfjjohdpoekjaaGreatDoor
