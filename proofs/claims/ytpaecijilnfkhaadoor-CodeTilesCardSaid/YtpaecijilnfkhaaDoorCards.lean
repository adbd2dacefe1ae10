/-
  DERIVED. GIVEN WITH THE SEED: THE CARDS: each row of YtpaecijilnfkhaaDoorRows.lean that lists a variable, with what it lists TIED to the program's text (the seventh form; the later family's looks); each row that meets fmt, with fmt's text TOLD by the authors' own Lean function (tested against real Go, not proved from fmt's source: count such statements apart). THE CARD IS WHAT COUNTS. Prove the row's statement (the work); the ties are given (YtpaecijilnfkhaaDoorTie.lean); close each card by the builder's one call (the guide's Derived/Test/ToyasCard.lean, 'card_holds'). Laid BY PROGRAM, IN A SANDBOX (cutbox-door.mjs). By AI agents, Wed Nov 11 2026. No macro, syntax, notation, axiom, sorry.
-/
import Derived.Test.YtpaecijilnfkhaaDoorRows
import GoSem.ClaimSeven
namespace Go.Proofs.YtpaecijilnfkhaaDoor
namespace Rows

/-- THE TIED CARD OF 'foliolaw17.CheckChecks'. -/
def checkChecksCard : Claim7 := { stood := { row := checkChecksRow, standIns := [], harness := (true, "6b1b2adbd5fbba005bfad05188629b22f858a43dc20287d35679e0d7ecd48285"), looks := true }, kinds := [], alts := [], laidByText := true, laidKinds := [.data, .pinned], laidTests := true, laidLooks := .later }
def CheckChecksCardSaid : Prop := Claim7.holds Tryd.pinned (.plain (OpenSpec.ofChange checkChecksSpec)) checkChecksCard

/-- THE TIED CARD OF 'foliolaw17.CheckDepths'. -/
def checkDepthsCard : Claim7 := { stood := { row := checkDepthsRow, standIns := [], harness := (true, "6b1b2adbd5fbba005bfad05188629b22f858a43dc20287d35679e0d7ecd48285"), looks := true }, kinds := [], alts := [], laidByText := true, laidKinds := [.data, .pinned], laidTests := true, laidLooks := .later }
def CheckDepthsCardSaid : Prop := Claim7.holds Tryd.pinned (.plain (OpenSpec.ofChange checkDepthsSpec)) checkDepthsCard

/-- THE TIED CARD OF 'foliolaw17.CheckOps'. -/
def checkOpsCard : Claim7 := { stood := { row := checkOpsRow, standIns := [], harness := (true, "6b1b2adbd5fbba005bfad05188629b22f858a43dc20287d35679e0d7ecd48285"), looks := true }, kinds := [], alts := [], laidByText := true, laidKinds := [.data, .pinned], laidTests := true, laidLooks := .later }
def CheckOpsCardSaid : Prop := Claim7.holds Tryd.pinned (.plain (OpenSpec.ofChange checkOpsSpec)) checkOpsCard

/-- THE TIED CARD OF 'foliolaw16.CodeEncodes'. -/
def codeEncodesCard : Claim7 := { stood := { row := codeEncodesRow, standIns := [], harness := (true, "6b1b2adbd5fbba005bfad05188629b22f858a43dc20287d35679e0d7ecd48285"), looks := true }, kinds := [], alts := [], laidByText := true, laidKinds := [.data, .data, .data], laidTests := true, laidLooks := .later }
def CodeEncodesCardSaid : Prop := Claim7.holds Tryd.pinned (.plain (OpenSpec.ofChange codeEncodesSpec)) codeEncodesCard

/-- THE TIED CARD OF 'foliolaw16.CodeInstrs'. -/
def codeInstrsCard : Claim7 := { stood := { row := codeInstrsRow, standIns := [], harness := (true, "6b1b2adbd5fbba005bfad05188629b22f858a43dc20287d35679e0d7ecd48285"), looks := true }, kinds := [], alts := [], laidByText := true, laidKinds := [.data, .data, .data], laidTests := true, laidLooks := .later }
def CodeInstrsCardSaid : Prop := Claim7.holds Tryd.pinned (.plain (OpenSpec.ofChange codeInstrsSpec)) codeInstrsCard

/-- THE TIED CARD OF 'foliolaw16.CodeDecodes'. -/
def codeDecodesCard : Claim7 := { stood := { row := codeDecodesRow, standIns := [], harness := (true, "6b1b2adbd5fbba005bfad05188629b22f858a43dc20287d35679e0d7ecd48285"), looks := true }, kinds := [], alts := [], laidByText := true, laidKinds := [.data, .data, .data], laidTests := true, laidLooks := .later }
def CodeDecodesCardSaid : Prop := Claim7.holds Tryd.pinned (.plain (OpenSpec.ofChange codeDecodesSpec)) codeDecodesCard

/-- THE TIED CARD OF 'foliolaw16.CodeLists'. -/
def codeListsCard : Claim7 := { stood := { row := codeListsRow, standIns := [], harness := (true, "6b1b2adbd5fbba005bfad05188629b22f858a43dc20287d35679e0d7ecd48285"), looks := true }, kinds := [], alts := [], laidByText := true, laidKinds := [.data, .data, .data, .data, .sentinel, .sentinel, .pinned], laidTests := true, laidLooks := .later }
def CodeListsCardSaid : Prop := Claim7.holds Tryd.pinned (.plain (OpenSpec.ofChange codeListsSpec)) codeListsCard

/-- THE TIED CARD OF 'foliolaw16.CodeTiles'. -/
def codeTilesCard : Claim7 := { stood := { row := codeTilesRow, standIns := [], harness := (true, "6b1b2adbd5fbba005bfad05188629b22f858a43dc20287d35679e0d7ecd48285"), looks := true }, kinds := [], alts := [], laidByText := true, laidKinds := [.data, .data, .data, .data, .sentinel, .sentinel, .pinned], laidTests := true, laidLooks := .later }
def CodeTilesCardSaid : Prop := Claim7.holds Tryd.pinned (.plain (OpenSpec.ofChange codeTilesSpec)) codeTilesCard

/-- THE SECOND FORM's CARD OF 'foliolaw17.CheckChecks'. -/
def checkChecksUptoCard : Claim7 := { stood := { row := checkChecksUptoRow, standIns := [], harness := (true, "6b1b2adbd5fbba005bfad05188629b22f858a43dc20287d35679e0d7ecd48285"), looks := true }, kinds := [], alts := [], laidByText := true, laidKinds := [.data, .pinned], laidTests := true, laidLooks := .later }
def CheckChecksUptoCardSaid : Prop := Claim7.holds Tryd.pinned (.plain (OpenSpec.upto checkChecksSpec)) checkChecksUptoCard

/-- THE SECOND FORM's CARD OF 'foliolaw17.CheckDepths'. -/
def checkDepthsUptoCard : Claim7 := { stood := { row := checkDepthsUptoRow, standIns := [], harness := (true, "6b1b2adbd5fbba005bfad05188629b22f858a43dc20287d35679e0d7ecd48285"), looks := true }, kinds := [], alts := [], laidByText := true, laidKinds := [.data, .pinned], laidTests := true, laidLooks := .later }
def CheckDepthsUptoCardSaid : Prop := Claim7.holds Tryd.pinned (.plain (OpenSpec.upto checkDepthsSpec)) checkDepthsUptoCard

/-- THE SECOND FORM's CARD OF 'foliolaw17.CheckOps'. -/
def checkOpsUptoCard : Claim7 := { stood := { row := checkOpsUptoRow, standIns := [], harness := (true, "6b1b2adbd5fbba005bfad05188629b22f858a43dc20287d35679e0d7ecd48285"), looks := true }, kinds := [], alts := [], laidByText := true, laidKinds := [.data, .pinned], laidTests := true, laidLooks := .later }
def CheckOpsUptoCardSaid : Prop := Claim7.holds Tryd.pinned (.plain (OpenSpec.upto checkOpsSpec)) checkOpsUptoCard

/-- THE SECOND FORM's CARD OF 'foliolaw16.CodeEncodes'. -/
def codeEncodesUptoCard : Claim7 := { stood := { row := codeEncodesUptoRow, standIns := [], harness := (true, "6b1b2adbd5fbba005bfad05188629b22f858a43dc20287d35679e0d7ecd48285"), looks := true }, kinds := [], alts := [], laidByText := true, laidKinds := [.data, .data, .data], laidTests := true, laidLooks := .later }
def CodeEncodesUptoCardSaid : Prop := Claim7.holds Tryd.pinned (.plain (OpenSpec.upto codeEncodesSpec)) codeEncodesUptoCard

/-- THE SECOND FORM's CARD OF 'foliolaw16.CodeInstrs'. -/
def codeInstrsUptoCard : Claim7 := { stood := { row := codeInstrsUptoRow, standIns := [], harness := (true, "6b1b2adbd5fbba005bfad05188629b22f858a43dc20287d35679e0d7ecd48285"), looks := true }, kinds := [], alts := [], laidByText := true, laidKinds := [.data, .data, .data], laidTests := true, laidLooks := .later }
def CodeInstrsUptoCardSaid : Prop := Claim7.holds Tryd.pinned (.plain (OpenSpec.upto codeInstrsSpec)) codeInstrsUptoCard

/-- THE SECOND FORM's CARD OF 'foliolaw16.CodeDecodes'. -/
def codeDecodesUptoCard : Claim7 := { stood := { row := codeDecodesUptoRow, standIns := [], harness := (true, "6b1b2adbd5fbba005bfad05188629b22f858a43dc20287d35679e0d7ecd48285"), looks := true }, kinds := [], alts := [], laidByText := true, laidKinds := [.data, .data, .data], laidTests := true, laidLooks := .later }
def CodeDecodesUptoCardSaid : Prop := Claim7.holds Tryd.pinned (.plain (OpenSpec.upto codeDecodesSpec)) codeDecodesUptoCard

/-- THE SECOND FORM's CARD OF 'foliolaw16.CodeLists'. -/
def codeListsUptoCard : Claim7 := { stood := { row := codeListsUptoRow, standIns := [], harness := (true, "6b1b2adbd5fbba005bfad05188629b22f858a43dc20287d35679e0d7ecd48285"), looks := true }, kinds := [], alts := [], laidByText := true, laidKinds := [.data, .data, .data, .data, .sentinel, .sentinel, .pinned], laidTests := true, laidLooks := .later }
def CodeListsUptoCardSaid : Prop := Claim7.holds Tryd.pinned (.plain (OpenSpec.upto codeListsSpec)) codeListsUptoCard

/-- THE SECOND FORM's CARD OF 'foliolaw16.CodeTiles'. -/
def codeTilesUptoCard : Claim7 := { stood := { row := codeTilesUptoRow, standIns := [], harness := (true, "6b1b2adbd5fbba005bfad05188629b22f858a43dc20287d35679e0d7ecd48285"), looks := true }, kinds := [], alts := [], laidByText := true, laidKinds := [.data, .data, .data, .data, .sentinel, .sentinel, .pinned], laidTests := true, laidLooks := .later }
def CodeTilesUptoCardSaid : Prop := Claim7.holds Tryd.pinned (.plain (OpenSpec.upto codeTilesSpec)) codeTilesUptoCard
end Rows
end Go.Proofs.YtpaecijilnfkhaaDoor
