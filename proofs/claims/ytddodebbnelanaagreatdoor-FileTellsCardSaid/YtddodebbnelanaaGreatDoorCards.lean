/-
  DERIVED. GIVEN WITH THE SEED: THE CARDS: each row of YtddodebbnelanaaGreatDoorRows.lean that lists a variable, with what it lists TIED to the program's text (the seventh form; the later family's looks); each row that meets fmt, with fmt's text TOLD by the authors' own Lean function (tested against real Go, not proved from fmt's source: count such statements apart). THE CARD IS WHAT COUNTS. Prove the row's statement (the work); the ties are given (YtddodebbnelanaaGreatDoorTie.lean); close each card by the builder's one call (the guide's Derived/Test/ToyasCard.lean, 'card_holds'). Laid BY PROGRAM, IN A SANDBOX (cutbox-door.mjs). By AI agents, Wed Nov 11 2026. No macro, syntax, notation, axiom, sorry.
-/
import Derived.Test.YtddodebbnelanaaGreatDoorRows
import GoSem.ClaimSeven
namespace Go.Proofs.YtddodebbnelanaaGreatDoor
namespace Rows

/-- THE TIED CARD OF 'pewholderlaw1.FileTells'. -/
def fileTellsCard : Claim7 := { stood := { row := fileTellsRow, standIns := [], harness := (true, "6a80f46390c00d493d4ec82ae814605e1e5a04eec14d9545bd04a5c3c4f6968a"), looks := true }, kinds := [], alts := [], laidByText := true, laidKinds := [.data, .data, .data, .data, .handle, .sentinel, .sentinel, .sentinel, .sentinel, .sentinel, .sentinel, .sentinel, .sentinel, .sentinel, .sentinel, .sentinel, .sentinel, .pinned], laidTests := true, laidLooks := .later }
def FileTellsCardSaid : Prop := Claim7.holds Tryz.pinned (.plain (OpenSpec.ofChange fileTellsSpec)) fileTellsCard

/-- THE TIED CARD OF 'pewholderlaw2.GraphTells'. -/
def graphTellsCard : Claim7 := { stood := { row := graphTellsRow, standIns := [], harness := (true, "6a80f46390c00d493d4ec82ae814605e1e5a04eec14d9545bd04a5c3c4f6968a"), looks := true }, kinds := [], alts := [], laidByText := true, laidKinds := [.data, .data, .data, .data, .handle, .sentinel, .sentinel, .sentinel, .sentinel, .sentinel, .sentinel, .sentinel, .sentinel, .sentinel, .sentinel, .sentinel, .sentinel, .pinned], laidTests := true, laidLooks := .later }
def GraphTellsCardSaid : Prop := Claim7.holds Tryz.pinned (.plain (OpenSpec.ofChange graphTellsSpec)) graphTellsCard

/-- THE TIED CARD OF 'pewholderlaw2.MvsJoins'. -/
def mvsJoinsCard : Claim7 := { stood := { row := mvsJoinsRow, standIns := [], harness := (true, "6a80f46390c00d493d4ec82ae814605e1e5a04eec14d9545bd04a5c3c4f6968a"), looks := true }, kinds := [], alts := [], laidByText := true, laidKinds := [.data, .data, .data, .data, .sentinel, .sentinel, .sentinel, .sentinel, .sentinel, .sentinel, .sentinel, .sentinel, .sentinel, .pinned], laidTests := true, laidLooks := .later }
def MvsJoinsCardSaid : Prop := Claim7.holds Tryz.pinned (.plain (OpenSpec.ofChange mvsJoinsSpec)) mvsJoinsCard

/-- THE TIED CARD OF 'pewholderlaw2.MvsParts'. -/
def mvsPartsCard : Claim7 := { stood := { row := mvsPartsRow, standIns := [], harness := (true, "6a80f46390c00d493d4ec82ae814605e1e5a04eec14d9545bd04a5c3c4f6968a"), looks := true }, kinds := [], alts := [], laidByText := true, laidKinds := [.data, .data, .data, .data, .sentinel, .sentinel, .sentinel, .sentinel, .sentinel, .sentinel, .sentinel, .sentinel, .sentinel, .pinned], laidTests := true, laidLooks := .later }
def MvsPartsCardSaid : Prop := Claim7.holds Tryz.pinned (.plain (OpenSpec.ofChange mvsPartsSpec)) mvsPartsCard

/-- THE TIED CARD OF 'pewholderlaw2.TrimLeast'. -/
def trimLeastCard : Claim7 := { stood := { row := trimLeastRow, standIns := [], harness := (true, "6a80f46390c00d493d4ec82ae814605e1e5a04eec14d9545bd04a5c3c4f6968a"), looks := true }, kinds := [], alts := [], laidByText := true, laidKinds := [.data, .data, .data, .data, .sentinel, .sentinel, .sentinel, .sentinel, .sentinel, .sentinel, .sentinel, .sentinel, .sentinel, .pinned], laidTests := true, laidLooks := .later }
def TrimLeastCardSaid : Prop := Claim7.holds Tryz.pinned (.plain (OpenSpec.ofChange trimLeastSpec)) trimLeastCard

/-- THE TIED CARD OF 'pewholderlaw2.MvsLeast'. -/
def mvsLeastCard : Claim7 := { stood := { row := mvsLeastRow, standIns := [], harness := (true, "6a80f46390c00d493d4ec82ae814605e1e5a04eec14d9545bd04a5c3c4f6968a"), looks := true }, kinds := [], alts := [], laidByText := true, laidKinds := [.data, .data, .data, .data, .sentinel, .sentinel, .sentinel, .sentinel, .sentinel, .sentinel, .sentinel, .sentinel, .sentinel, .pinned], laidTests := true, laidLooks := .later }
def MvsLeastCardSaid : Prop := Claim7.holds Tryz.pinned (.plain (OpenSpec.ofChange mvsLeastSpec)) mvsLeastCard

/-- THE TIED CARD OF 'pewholderlaw2.MvsTells'. -/
def mvsTellsCard : Claim7 := { stood := { row := mvsTellsRow, standIns := [], harness := (true, "6a80f46390c00d493d4ec82ae814605e1e5a04eec14d9545bd04a5c3c4f6968a"), looks := true }, kinds := [], alts := [], laidByText := true, laidKinds := [.data, .data, .data, .data, .handle, .sentinel, .sentinel, .sentinel, .sentinel, .sentinel, .sentinel, .sentinel, .sentinel, .sentinel, .sentinel, .sentinel, .sentinel, .pinned], laidTests := true, laidLooks := .later }
def MvsTellsCardSaid : Prop := Claim7.holds Tryz.pinned (.plain (OpenSpec.ofChange mvsTellsSpec)) mvsTellsCard

/-- THE TIED CARD OF 'pewholderlaw2.TrimTells'. -/
def trimTellsCard : Claim7 := { stood := { row := trimTellsRow, standIns := [], harness := (true, "6a80f46390c00d493d4ec82ae814605e1e5a04eec14d9545bd04a5c3c4f6968a"), looks := true }, kinds := [], alts := [], laidByText := true, laidKinds := [.data, .data, .data, .data, .handle, .sentinel, .sentinel, .sentinel, .sentinel, .sentinel, .sentinel, .sentinel, .sentinel, .sentinel, .sentinel, .sentinel, .sentinel, .pinned], laidTests := true, laidLooks := .later }
def TrimTellsCardSaid : Prop := Claim7.holds Tryz.pinned (.plain (OpenSpec.ofChange trimTellsSpec)) trimTellsCard

/-- THE TIED CARD OF 'pewholderlaw2.UpNews'. -/
def upNewsCard : Claim7 := { stood := { row := upNewsRow, standIns := [], harness := (true, "6a80f46390c00d493d4ec82ae814605e1e5a04eec14d9545bd04a5c3c4f6968a"), looks := true }, kinds := [], alts := [], laidByText := true, laidKinds := [.data, .data, .data, .data, .sentinel, .sentinel, .sentinel, .sentinel, .sentinel, .sentinel, .sentinel, .sentinel, .sentinel, .pinned], laidTests := true, laidLooks := .later }
def UpNewsCardSaid : Prop := Claim7.holds Tryz.pinned (.plain (OpenSpec.ofChange upNewsSpec)) upNewsCard

/-- THE SECOND FORM's CARD OF 'pewholderlaw1.FileTells'. -/
def fileTellsUptoCard : Claim7 := { stood := { row := fileTellsUptoRow, standIns := [], harness := (true, "6a80f46390c00d493d4ec82ae814605e1e5a04eec14d9545bd04a5c3c4f6968a"), looks := true }, kinds := [], alts := [], laidByText := true, laidKinds := [.data, .data, .data, .data, .handle, .sentinel, .sentinel, .sentinel, .sentinel, .sentinel, .sentinel, .sentinel, .sentinel, .sentinel, .sentinel, .sentinel, .sentinel, .pinned], laidTests := true, laidLooks := .later }
def FileTellsUptoCardSaid : Prop := Claim7.holds Tryz.pinned (.plain (OpenSpec.upto fileTellsSpec)) fileTellsUptoCard

/-- THE SECOND FORM's CARD OF 'pewholderlaw2.GraphTells'. -/
def graphTellsUptoCard : Claim7 := { stood := { row := graphTellsUptoRow, standIns := [], harness := (true, "6a80f46390c00d493d4ec82ae814605e1e5a04eec14d9545bd04a5c3c4f6968a"), looks := true }, kinds := [], alts := [], laidByText := true, laidKinds := [.data, .data, .data, .data, .handle, .sentinel, .sentinel, .sentinel, .sentinel, .sentinel, .sentinel, .sentinel, .sentinel, .sentinel, .sentinel, .sentinel, .sentinel, .pinned], laidTests := true, laidLooks := .later }
def GraphTellsUptoCardSaid : Prop := Claim7.holds Tryz.pinned (.plain (OpenSpec.upto graphTellsSpec)) graphTellsUptoCard

/-- THE SECOND FORM's CARD OF 'pewholderlaw2.MvsJoins'. -/
def mvsJoinsUptoCard : Claim7 := { stood := { row := mvsJoinsUptoRow, standIns := [], harness := (true, "6a80f46390c00d493d4ec82ae814605e1e5a04eec14d9545bd04a5c3c4f6968a"), looks := true }, kinds := [], alts := [], laidByText := true, laidKinds := [.data, .data, .data, .data, .sentinel, .sentinel, .sentinel, .sentinel, .sentinel, .sentinel, .sentinel, .sentinel, .sentinel, .pinned], laidTests := true, laidLooks := .later }
def MvsJoinsUptoCardSaid : Prop := Claim7.holds Tryz.pinned (.plain (OpenSpec.upto mvsJoinsSpec)) mvsJoinsUptoCard

/-- THE SECOND FORM's CARD OF 'pewholderlaw2.MvsParts'. -/
def mvsPartsUptoCard : Claim7 := { stood := { row := mvsPartsUptoRow, standIns := [], harness := (true, "6a80f46390c00d493d4ec82ae814605e1e5a04eec14d9545bd04a5c3c4f6968a"), looks := true }, kinds := [], alts := [], laidByText := true, laidKinds := [.data, .data, .data, .data, .sentinel, .sentinel, .sentinel, .sentinel, .sentinel, .sentinel, .sentinel, .sentinel, .sentinel, .pinned], laidTests := true, laidLooks := .later }
def MvsPartsUptoCardSaid : Prop := Claim7.holds Tryz.pinned (.plain (OpenSpec.upto mvsPartsSpec)) mvsPartsUptoCard

/-- THE SECOND FORM's CARD OF 'pewholderlaw2.TrimLeast'. -/
def trimLeastUptoCard : Claim7 := { stood := { row := trimLeastUptoRow, standIns := [], harness := (true, "6a80f46390c00d493d4ec82ae814605e1e5a04eec14d9545bd04a5c3c4f6968a"), looks := true }, kinds := [], alts := [], laidByText := true, laidKinds := [.data, .data, .data, .data, .sentinel, .sentinel, .sentinel, .sentinel, .sentinel, .sentinel, .sentinel, .sentinel, .sentinel, .pinned], laidTests := true, laidLooks := .later }
def TrimLeastUptoCardSaid : Prop := Claim7.holds Tryz.pinned (.plain (OpenSpec.upto trimLeastSpec)) trimLeastUptoCard

/-- THE SECOND FORM's CARD OF 'pewholderlaw2.MvsLeast'. -/
def mvsLeastUptoCard : Claim7 := { stood := { row := mvsLeastUptoRow, standIns := [], harness := (true, "6a80f46390c00d493d4ec82ae814605e1e5a04eec14d9545bd04a5c3c4f6968a"), looks := true }, kinds := [], alts := [], laidByText := true, laidKinds := [.data, .data, .data, .data, .sentinel, .sentinel, .sentinel, .sentinel, .sentinel, .sentinel, .sentinel, .sentinel, .sentinel, .pinned], laidTests := true, laidLooks := .later }
def MvsLeastUptoCardSaid : Prop := Claim7.holds Tryz.pinned (.plain (OpenSpec.upto mvsLeastSpec)) mvsLeastUptoCard

/-- THE SECOND FORM's CARD OF 'pewholderlaw2.MvsTells'. -/
def mvsTellsUptoCard : Claim7 := { stood := { row := mvsTellsUptoRow, standIns := [], harness := (true, "6a80f46390c00d493d4ec82ae814605e1e5a04eec14d9545bd04a5c3c4f6968a"), looks := true }, kinds := [], alts := [], laidByText := true, laidKinds := [.data, .data, .data, .data, .handle, .sentinel, .sentinel, .sentinel, .sentinel, .sentinel, .sentinel, .sentinel, .sentinel, .sentinel, .sentinel, .sentinel, .sentinel, .pinned], laidTests := true, laidLooks := .later }
def MvsTellsUptoCardSaid : Prop := Claim7.holds Tryz.pinned (.plain (OpenSpec.upto mvsTellsSpec)) mvsTellsUptoCard

/-- THE SECOND FORM's CARD OF 'pewholderlaw2.TrimTells'. -/
def trimTellsUptoCard : Claim7 := { stood := { row := trimTellsUptoRow, standIns := [], harness := (true, "6a80f46390c00d493d4ec82ae814605e1e5a04eec14d9545bd04a5c3c4f6968a"), looks := true }, kinds := [], alts := [], laidByText := true, laidKinds := [.data, .data, .data, .data, .handle, .sentinel, .sentinel, .sentinel, .sentinel, .sentinel, .sentinel, .sentinel, .sentinel, .sentinel, .sentinel, .sentinel, .sentinel, .pinned], laidTests := true, laidLooks := .later }
def TrimTellsUptoCardSaid : Prop := Claim7.holds Tryz.pinned (.plain (OpenSpec.upto trimTellsSpec)) trimTellsUptoCard

/-- THE SECOND FORM's CARD OF 'pewholderlaw2.UpNews'. -/
def upNewsUptoCard : Claim7 := { stood := { row := upNewsUptoRow, standIns := [], harness := (true, "6a80f46390c00d493d4ec82ae814605e1e5a04eec14d9545bd04a5c3c4f6968a"), looks := true }, kinds := [], alts := [], laidByText := true, laidKinds := [.data, .data, .data, .data, .sentinel, .sentinel, .sentinel, .sentinel, .sentinel, .sentinel, .sentinel, .sentinel, .sentinel, .pinned], laidTests := true, laidLooks := .later }
def UpNewsUptoCardSaid : Prop := Claim7.holds Tryz.pinned (.plain (OpenSpec.upto upNewsSpec)) upNewsUptoCard
end Rows
end Go.Proofs.YtddodebbnelanaaGreatDoor
