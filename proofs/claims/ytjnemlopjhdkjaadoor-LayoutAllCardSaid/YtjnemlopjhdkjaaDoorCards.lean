/-
  DERIVED. GIVEN WITH THE SEED: THE CARDS: each row of YtjnemlopjhdkjaaDoorRows.lean that lists a variable, with what it lists TIED to the program's text (the seventh form; the later family's looks); each row that meets fmt, with fmt's text TOLD by the authors' own Lean function (tested against real Go, not proved from fmt's source: count such statements apart). THE CARD IS WHAT COUNTS. Prove the row's statement (the work); the ties are given (YtjnemlopjhdkjaaDoorTie.lean); close each card by the builder's one call (the guide's Derived/Test/ToyasCard.lean, 'card_holds'). Laid BY PROGRAM, IN A SANDBOX (cutbox-door.mjs). By AI agents, Wed Nov 11 2026. No macro, syntax, notation, axiom, sorry.
-/
import Derived.Test.YtjnemlopjhdkjaaDoorRows
import GoSem.ClaimSeven
namespace Go.Proofs.YtjnemlopjhdkjaaDoor
namespace Rows

/-- THE TIED CARD OF 'foliolaw13.LayoutAll'. -/
def layoutAllCard : Claim7 := { stood := { row := layoutAllRow, standIns := [], harness := (true, "2aca6e55d54cd7d4a94b15c4602aa847989d68c9cecb4afde8b1cd05a12c1103"), looks := false }, kinds := [], alts := [], laidByText := true, laidKinds := [.data, .data, .data, .data, .pinned], laidTests := true, laidLooks := .later }
def LayoutAllCardSaid : Prop := Claim7.holds Tryd.pinned (.plain (OpenSpec.ofChange layoutAllSpec)) layoutAllCard

/-- THE TIED CARD OF 'foliolaw13.LayoutWider'. -/
def layoutWiderCard : Claim7 := { stood := { row := layoutWiderRow, standIns := [], harness := (true, "2aca6e55d54cd7d4a94b15c4602aa847989d68c9cecb4afde8b1cd05a12c1103"), looks := false }, kinds := [], alts := [], laidByText := true, laidKinds := [.data, .data, .data, .data, .pinned], laidTests := true, laidLooks := .later }
def LayoutWiderCardSaid : Prop := Claim7.holds Tryd.pinned (.plain (OpenSpec.ofChange layoutWiderSpec)) layoutWiderCard

/-- THE SECOND FORM's CARD OF 'foliolaw13.LayoutAll'. -/
def layoutAllUptoCard : Claim7 := { stood := { row := layoutAllUptoRow, standIns := [], harness := (true, "2aca6e55d54cd7d4a94b15c4602aa847989d68c9cecb4afde8b1cd05a12c1103"), looks := false }, kinds := [], alts := [], laidByText := true, laidKinds := [.data, .data, .data, .data, .pinned], laidTests := true, laidLooks := .later }
def LayoutAllUptoCardSaid : Prop := Claim7.holds Tryd.pinned (.plain (OpenSpec.upto layoutAllSpec)) layoutAllUptoCard

/-- THE SECOND FORM's CARD OF 'foliolaw13.LayoutWider'. -/
def layoutWiderUptoCard : Claim7 := { stood := { row := layoutWiderUptoRow, standIns := [], harness := (true, "2aca6e55d54cd7d4a94b15c4602aa847989d68c9cecb4afde8b1cd05a12c1103"), looks := false }, kinds := [], alts := [], laidByText := true, laidKinds := [.data, .data, .data, .data, .pinned], laidTests := true, laidLooks := .later }
def LayoutWiderUptoCardSaid : Prop := Claim7.holds Tryd.pinned (.plain (OpenSpec.upto layoutWiderSpec)) layoutWiderUptoCard
end Rows
end Go.Proofs.YtjnemlopjhdkjaaDoor
