/-
  DERIVED. GIVEN WITH THE SEED: THE CARDS: each row of YtabfljbbjpfcgaaGreatDoorRows.lean that lists a variable, with what it lists TIED to the program's text (the seventh form; the later family's looks); each row that meets fmt, with fmt's text TOLD by the authors' own Lean function (tested against real Go, not proved from fmt's source: count such statements apart). THE CARD IS WHAT COUNTS. Prove the row's statement (the work); the ties are given (YtabfljbbjpfcgaaGreatDoorTie.lean); close each card by the builder's one call (the guide's Derived/Test/ToyasCard.lean, 'card_holds'). Laid BY PROGRAM, IN A SANDBOX (cutbox-door.mjs). By AI agents, Wed Nov 11 2026. No macro, syntax, notation, axiom, sorry.
-/
import Derived.Test.YtabfljbbjpfcgaaGreatDoorRows
import GoSem.ClaimSeven
namespace Go.Proofs.YtabfljbbjpfcgaaGreatDoor
namespace Rows

/-- THE TIED CARD OF 'foliolaw18.VmLays'. -/
def vmLaysCard : Claim7 := { stood := { row := vmLaysRow, standIns := [], harness := (true, "9babc3566437e467f86206fd39356e7195f3d00956eb8c6c79e88e6e3d7432ff"), looks := false }, kinds := [], alts := [], laidByText := true, laidKinds := [.data, .data, .data, .data, .pinned], laidTests := true, laidLooks := .later }
def VmLaysCardSaid : Prop := Claim7.holds Tryz.pinned (.plain (OpenSpec.ofChange vmLaysSpec)) vmLaysCard

/-- THE TIED CARD OF 'foliolaw18.VmSteps'. -/
def vmStepsCard : Claim7 := { stood := { row := vmStepsRow, standIns := [], harness := (true, "9babc3566437e467f86206fd39356e7195f3d00956eb8c6c79e88e6e3d7432ff"), looks := false }, kinds := [], alts := [], laidByText := true, laidKinds := [.data, .data, .data, .data, .pinned], laidTests := true, laidLooks := .later }
def VmStepsCardSaid : Prop := Claim7.holds Tryz.pinned (.plain (OpenSpec.ofChange vmStepsSpec)) vmStepsCard

/-- THE TIED CARD OF 'foliolaw18.VmHalts'. -/
def vmHaltsCard : Claim7 := { stood := { row := vmHaltsRow, standIns := [], harness := (true, "9babc3566437e467f86206fd39356e7195f3d00956eb8c6c79e88e6e3d7432ff"), looks := false }, kinds := [], alts := [], laidByText := true, laidKinds := [.data, .data, .data, .data, .pinned], laidTests := true, laidLooks := .later }
def VmHaltsCardSaid : Prop := Claim7.holds Tryz.pinned (.plain (OpenSpec.ofChange vmHaltsSpec)) vmHaltsCard

/-- THE TIED CARD OF 'foliolaw18.VmFresh'. -/
def vmFreshCard : Claim7 := { stood := { row := vmFreshRow, standIns := [], harness := (true, "9babc3566437e467f86206fd39356e7195f3d00956eb8c6c79e88e6e3d7432ff"), looks := false }, kinds := [], alts := [], laidByText := true, laidKinds := [.data, .data, .data, .data, .pinned], laidTests := true, laidLooks := .later }
def VmFreshCardSaid : Prop := Claim7.holds Tryz.pinned (.plain (OpenSpec.ofChange vmFreshSpec)) vmFreshCard

/-- THE TIED CARD OF 'foliolaw18.VmNone'. -/
def vmNoneCard : Claim7 := { stood := { row := vmNoneRow, standIns := [], harness := (true, "9babc3566437e467f86206fd39356e7195f3d00956eb8c6c79e88e6e3d7432ff"), looks := false }, kinds := [], alts := [], laidByText := true, laidKinds := [.data, .data, .data, .data, .pinned], laidTests := true, laidLooks := .later }
def VmNoneCardSaid : Prop := Claim7.holds Tryz.pinned (.plain (OpenSpec.ofChange vmNoneSpec)) vmNoneCard

/-- THE TIED CARD OF 'foliolaw18.VmParts'. -/
def vmPartsCard : Claim7 := { stood := { row := vmPartsRow, standIns := [], harness := (true, "9babc3566437e467f86206fd39356e7195f3d00956eb8c6c79e88e6e3d7432ff"), looks := false }, kinds := [], alts := [], laidByText := true, laidKinds := [.data, .data, .data, .data, .pinned], laidTests := true, laidLooks := .later }
def VmPartsCardSaid : Prop := Claim7.holds Tryz.pinned (.plain (OpenSpec.ofChange vmPartsSpec)) vmPartsCard

/-- THE SECOND FORM's CARD OF 'foliolaw18.VmLays'. -/
def vmLaysUptoCard : Claim7 := { stood := { row := vmLaysUptoRow, standIns := [], harness := (true, "9babc3566437e467f86206fd39356e7195f3d00956eb8c6c79e88e6e3d7432ff"), looks := false }, kinds := [], alts := [], laidByText := true, laidKinds := [.data, .data, .data, .data, .pinned], laidTests := true, laidLooks := .later }
def VmLaysUptoCardSaid : Prop := Claim7.holds Tryz.pinned (.plain (OpenSpec.upto vmLaysSpec)) vmLaysUptoCard

/-- THE SECOND FORM's CARD OF 'foliolaw18.VmSteps'. -/
def vmStepsUptoCard : Claim7 := { stood := { row := vmStepsUptoRow, standIns := [], harness := (true, "9babc3566437e467f86206fd39356e7195f3d00956eb8c6c79e88e6e3d7432ff"), looks := false }, kinds := [], alts := [], laidByText := true, laidKinds := [.data, .data, .data, .data, .pinned], laidTests := true, laidLooks := .later }
def VmStepsUptoCardSaid : Prop := Claim7.holds Tryz.pinned (.plain (OpenSpec.upto vmStepsSpec)) vmStepsUptoCard

/-- THE SECOND FORM's CARD OF 'foliolaw18.VmHalts'. -/
def vmHaltsUptoCard : Claim7 := { stood := { row := vmHaltsUptoRow, standIns := [], harness := (true, "9babc3566437e467f86206fd39356e7195f3d00956eb8c6c79e88e6e3d7432ff"), looks := false }, kinds := [], alts := [], laidByText := true, laidKinds := [.data, .data, .data, .data, .pinned], laidTests := true, laidLooks := .later }
def VmHaltsUptoCardSaid : Prop := Claim7.holds Tryz.pinned (.plain (OpenSpec.upto vmHaltsSpec)) vmHaltsUptoCard

/-- THE SECOND FORM's CARD OF 'foliolaw18.VmFresh'. -/
def vmFreshUptoCard : Claim7 := { stood := { row := vmFreshUptoRow, standIns := [], harness := (true, "9babc3566437e467f86206fd39356e7195f3d00956eb8c6c79e88e6e3d7432ff"), looks := false }, kinds := [], alts := [], laidByText := true, laidKinds := [.data, .data, .data, .data, .pinned], laidTests := true, laidLooks := .later }
def VmFreshUptoCardSaid : Prop := Claim7.holds Tryz.pinned (.plain (OpenSpec.upto vmFreshSpec)) vmFreshUptoCard

/-- THE SECOND FORM's CARD OF 'foliolaw18.VmNone'. -/
def vmNoneUptoCard : Claim7 := { stood := { row := vmNoneUptoRow, standIns := [], harness := (true, "9babc3566437e467f86206fd39356e7195f3d00956eb8c6c79e88e6e3d7432ff"), looks := false }, kinds := [], alts := [], laidByText := true, laidKinds := [.data, .data, .data, .data, .pinned], laidTests := true, laidLooks := .later }
def VmNoneUptoCardSaid : Prop := Claim7.holds Tryz.pinned (.plain (OpenSpec.upto vmNoneSpec)) vmNoneUptoCard

/-- THE SECOND FORM's CARD OF 'foliolaw18.VmParts'. -/
def vmPartsUptoCard : Claim7 := { stood := { row := vmPartsUptoRow, standIns := [], harness := (true, "9babc3566437e467f86206fd39356e7195f3d00956eb8c6c79e88e6e3d7432ff"), looks := false }, kinds := [], alts := [], laidByText := true, laidKinds := [.data, .data, .data, .data, .pinned], laidTests := true, laidLooks := .later }
def VmPartsUptoCardSaid : Prop := Claim7.holds Tryz.pinned (.plain (OpenSpec.upto vmPartsSpec)) vmPartsUptoCard
end Rows
end Go.Proofs.YtabfljbbjpfcgaaGreatDoor
