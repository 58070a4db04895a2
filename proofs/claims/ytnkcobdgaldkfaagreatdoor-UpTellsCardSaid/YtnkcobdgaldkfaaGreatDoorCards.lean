/-
  DERIVED. GIVEN WITH THE SEED: THE CARDS: each row of YtnkcobdgaldkfaaGreatDoorRows.lean that lists a variable, with what it lists TIED to the program's text (the seventh form; the later family's looks); each row that meets fmt, with fmt's text TOLD by the authors' own Lean function (tested against real Go, not proved from fmt's source: count such statements apart). THE CARD IS WHAT COUNTS. Prove the row's statement (the work); the ties are given (YtnkcobdgaldkfaaGreatDoorTie.lean); close each card by the builder's one call (the guide's Derived/Test/ToyasCard.lean, 'card_holds'). Laid BY PROGRAM, IN A SANDBOX (cutbox-door.mjs). By AI agents, Wed Nov 11 2026. No macro, syntax, notation, axiom, sorry.
-/
import Derived.Test.YtnkcobdgaldkfaaGreatDoorRows
import GoSem.ClaimSeven
namespace Go.Proofs.YtnkcobdgaldkfaaGreatDoor
namespace Rows

/-- THE TIED CARD OF 'pewholderlaw2.DownAgain'. -/
def downAgainCard : Claim7 := { stood := { row := downAgainRow, standIns := [], harness := (true, "ac753c6ef023914e477adae7786c3a300632df5779b3a7521ad6caef5ed99f16"), looks := true }, kinds := [], alts := [], laidByText := true, laidKinds := [.data, .data, .data, .data, .sentinel, .sentinel, .sentinel, .sentinel, .sentinel, .sentinel, .sentinel, .sentinel, .sentinel, .pinned], laidTests := true, laidLooks := .later }
def DownAgainCardSaid : Prop := Claim7.holds Tryz.pinned (.plain (OpenSpec.ofChange downAgainSpec)) downAgainCard

/-- THE TIED CARD OF 'pewholderlaw2.DownCaps'. -/
def downCapsCard : Claim7 := { stood := { row := downCapsRow, standIns := [], harness := (true, "ac753c6ef023914e477adae7786c3a300632df5779b3a7521ad6caef5ed99f16"), looks := true }, kinds := [], alts := [], laidByText := true, laidKinds := [.data, .data, .data, .data, .sentinel, .sentinel, .sentinel, .sentinel, .sentinel, .sentinel, .sentinel, .sentinel, .sentinel, .pinned], laidTests := true, laidLooks := .later }
def DownCapsCardSaid : Prop := Claim7.holds Tryz.pinned (.plain (OpenSpec.ofChange downCapsSpec)) downCapsCard

/-- THE TIED CARD OF 'pewholderlaw2.GraphTells'. -/
def graphTellsCard : Claim7 := { stood := { row := graphTellsRow, standIns := [], harness := (true, "ac753c6ef023914e477adae7786c3a300632df5779b3a7521ad6caef5ed99f16"), looks := true }, kinds := [], alts := [], laidByText := true, laidKinds := [.data, .data, .data, .data, .handle, .sentinel, .sentinel, .sentinel, .sentinel, .sentinel, .sentinel, .sentinel, .sentinel, .sentinel, .sentinel, .sentinel, .sentinel, .pinned], laidTests := true, laidLooks := .later }
def GraphTellsCardSaid : Prop := Claim7.holds Tryz.pinned (.plain (OpenSpec.ofChange graphTellsSpec)) graphTellsCard

/-- THE TIED CARD OF 'pewholderlaw2.UpNews'. -/
def upNewsCard : Claim7 := { stood := { row := upNewsRow, standIns := [], harness := (true, "ac753c6ef023914e477adae7786c3a300632df5779b3a7521ad6caef5ed99f16"), looks := true }, kinds := [], alts := [], laidByText := true, laidKinds := [.data, .data, .data, .data, .sentinel, .sentinel, .sentinel, .sentinel, .sentinel, .sentinel, .sentinel, .sentinel, .sentinel, .pinned], laidTests := true, laidLooks := .later }
def UpNewsCardSaid : Prop := Claim7.holds Tryz.pinned (.plain (OpenSpec.ofChange upNewsSpec)) upNewsCard

/-- THE TIED CARD OF 'pewholderlaw2.TrimTells'. -/
def trimTellsCard : Claim7 := { stood := { row := trimTellsRow, standIns := [], harness := (true, "ac753c6ef023914e477adae7786c3a300632df5779b3a7521ad6caef5ed99f16"), looks := true }, kinds := [], alts := [], laidByText := true, laidKinds := [.data, .data, .data, .data, .handle, .sentinel, .sentinel, .sentinel, .sentinel, .sentinel, .sentinel, .sentinel, .sentinel, .sentinel, .sentinel, .sentinel, .sentinel, .pinned], laidTests := true, laidLooks := .later }
def TrimTellsCardSaid : Prop := Claim7.holds Tryz.pinned (.plain (OpenSpec.ofChange trimTellsSpec)) trimTellsCard

/-- THE TIED CARD OF 'pewholderlaw2.DownTells'. -/
def downTellsCard : Claim7 := { stood := { row := downTellsRow, standIns := [], harness := (true, "ac753c6ef023914e477adae7786c3a300632df5779b3a7521ad6caef5ed99f16"), looks := true }, kinds := [], alts := [], laidByText := true, laidKinds := [.data, .data, .data, .data, .handle, .sentinel, .sentinel, .sentinel, .sentinel, .sentinel, .sentinel, .sentinel, .sentinel, .sentinel, .sentinel, .sentinel, .sentinel, .pinned], laidTests := true, laidLooks := .later }
def DownTellsCardSaid : Prop := Claim7.holds Tryz.pinned (.plain (OpenSpec.ofChange downTellsSpec)) downTellsCard

/-- THE TIED CARD OF 'pewholderlaw2.MvsTells'. -/
def mvsTellsCard : Claim7 := { stood := { row := mvsTellsRow, standIns := [], harness := (true, "ac753c6ef023914e477adae7786c3a300632df5779b3a7521ad6caef5ed99f16"), looks := true }, kinds := [], alts := [], laidByText := true, laidKinds := [.data, .data, .data, .data, .handle, .sentinel, .sentinel, .sentinel, .sentinel, .sentinel, .sentinel, .sentinel, .sentinel, .sentinel, .sentinel, .sentinel, .sentinel, .pinned], laidTests := true, laidLooks := .later }
def MvsTellsCardSaid : Prop := Claim7.holds Tryz.pinned (.plain (OpenSpec.ofChange mvsTellsSpec)) mvsTellsCard

/-- THE TIED CARD OF 'pewholderlaw2.UpTells'. -/
def upTellsCard : Claim7 := { stood := { row := upTellsRow, standIns := [], harness := (true, "ac753c6ef023914e477adae7786c3a300632df5779b3a7521ad6caef5ed99f16"), looks := true }, kinds := [], alts := [], laidByText := true, laidKinds := [.data, .data, .data, .data, .handle, .sentinel, .sentinel, .sentinel, .sentinel, .sentinel, .sentinel, .sentinel, .sentinel, .sentinel, .sentinel, .sentinel, .sentinel, .pinned], laidTests := true, laidLooks := .later }
def UpTellsCardSaid : Prop := Claim7.holds Tryz.pinned (.plain (OpenSpec.ofChange upTellsSpec)) upTellsCard

/-- THE SECOND FORM's CARD OF 'pewholderlaw2.DownAgain'. -/
def downAgainUptoCard : Claim7 := { stood := { row := downAgainUptoRow, standIns := [], harness := (true, "ac753c6ef023914e477adae7786c3a300632df5779b3a7521ad6caef5ed99f16"), looks := true }, kinds := [], alts := [], laidByText := true, laidKinds := [.data, .data, .data, .data, .sentinel, .sentinel, .sentinel, .sentinel, .sentinel, .sentinel, .sentinel, .sentinel, .sentinel, .pinned], laidTests := true, laidLooks := .later }
def DownAgainUptoCardSaid : Prop := Claim7.holds Tryz.pinned (.plain (OpenSpec.upto downAgainSpec)) downAgainUptoCard

/-- THE SECOND FORM's CARD OF 'pewholderlaw2.DownCaps'. -/
def downCapsUptoCard : Claim7 := { stood := { row := downCapsUptoRow, standIns := [], harness := (true, "ac753c6ef023914e477adae7786c3a300632df5779b3a7521ad6caef5ed99f16"), looks := true }, kinds := [], alts := [], laidByText := true, laidKinds := [.data, .data, .data, .data, .sentinel, .sentinel, .sentinel, .sentinel, .sentinel, .sentinel, .sentinel, .sentinel, .sentinel, .pinned], laidTests := true, laidLooks := .later }
def DownCapsUptoCardSaid : Prop := Claim7.holds Tryz.pinned (.plain (OpenSpec.upto downCapsSpec)) downCapsUptoCard

/-- THE SECOND FORM's CARD OF 'pewholderlaw2.GraphTells'. -/
def graphTellsUptoCard : Claim7 := { stood := { row := graphTellsUptoRow, standIns := [], harness := (true, "ac753c6ef023914e477adae7786c3a300632df5779b3a7521ad6caef5ed99f16"), looks := true }, kinds := [], alts := [], laidByText := true, laidKinds := [.data, .data, .data, .data, .handle, .sentinel, .sentinel, .sentinel, .sentinel, .sentinel, .sentinel, .sentinel, .sentinel, .sentinel, .sentinel, .sentinel, .sentinel, .pinned], laidTests := true, laidLooks := .later }
def GraphTellsUptoCardSaid : Prop := Claim7.holds Tryz.pinned (.plain (OpenSpec.upto graphTellsSpec)) graphTellsUptoCard

/-- THE SECOND FORM's CARD OF 'pewholderlaw2.UpNews'. -/
def upNewsUptoCard : Claim7 := { stood := { row := upNewsUptoRow, standIns := [], harness := (true, "ac753c6ef023914e477adae7786c3a300632df5779b3a7521ad6caef5ed99f16"), looks := true }, kinds := [], alts := [], laidByText := true, laidKinds := [.data, .data, .data, .data, .sentinel, .sentinel, .sentinel, .sentinel, .sentinel, .sentinel, .sentinel, .sentinel, .sentinel, .pinned], laidTests := true, laidLooks := .later }
def UpNewsUptoCardSaid : Prop := Claim7.holds Tryz.pinned (.plain (OpenSpec.upto upNewsSpec)) upNewsUptoCard

/-- THE SECOND FORM's CARD OF 'pewholderlaw2.TrimTells'. -/
def trimTellsUptoCard : Claim7 := { stood := { row := trimTellsUptoRow, standIns := [], harness := (true, "ac753c6ef023914e477adae7786c3a300632df5779b3a7521ad6caef5ed99f16"), looks := true }, kinds := [], alts := [], laidByText := true, laidKinds := [.data, .data, .data, .data, .handle, .sentinel, .sentinel, .sentinel, .sentinel, .sentinel, .sentinel, .sentinel, .sentinel, .sentinel, .sentinel, .sentinel, .sentinel, .pinned], laidTests := true, laidLooks := .later }
def TrimTellsUptoCardSaid : Prop := Claim7.holds Tryz.pinned (.plain (OpenSpec.upto trimTellsSpec)) trimTellsUptoCard

/-- THE SECOND FORM's CARD OF 'pewholderlaw2.DownTells'. -/
def downTellsUptoCard : Claim7 := { stood := { row := downTellsUptoRow, standIns := [], harness := (true, "ac753c6ef023914e477adae7786c3a300632df5779b3a7521ad6caef5ed99f16"), looks := true }, kinds := [], alts := [], laidByText := true, laidKinds := [.data, .data, .data, .data, .handle, .sentinel, .sentinel, .sentinel, .sentinel, .sentinel, .sentinel, .sentinel, .sentinel, .sentinel, .sentinel, .sentinel, .sentinel, .pinned], laidTests := true, laidLooks := .later }
def DownTellsUptoCardSaid : Prop := Claim7.holds Tryz.pinned (.plain (OpenSpec.upto downTellsSpec)) downTellsUptoCard

/-- THE SECOND FORM's CARD OF 'pewholderlaw2.MvsTells'. -/
def mvsTellsUptoCard : Claim7 := { stood := { row := mvsTellsUptoRow, standIns := [], harness := (true, "ac753c6ef023914e477adae7786c3a300632df5779b3a7521ad6caef5ed99f16"), looks := true }, kinds := [], alts := [], laidByText := true, laidKinds := [.data, .data, .data, .data, .handle, .sentinel, .sentinel, .sentinel, .sentinel, .sentinel, .sentinel, .sentinel, .sentinel, .sentinel, .sentinel, .sentinel, .sentinel, .pinned], laidTests := true, laidLooks := .later }
def MvsTellsUptoCardSaid : Prop := Claim7.holds Tryz.pinned (.plain (OpenSpec.upto mvsTellsSpec)) mvsTellsUptoCard

/-- THE SECOND FORM's CARD OF 'pewholderlaw2.UpTells'. -/
def upTellsUptoCard : Claim7 := { stood := { row := upTellsUptoRow, standIns := [], harness := (true, "ac753c6ef023914e477adae7786c3a300632df5779b3a7521ad6caef5ed99f16"), looks := true }, kinds := [], alts := [], laidByText := true, laidKinds := [.data, .data, .data, .data, .handle, .sentinel, .sentinel, .sentinel, .sentinel, .sentinel, .sentinel, .sentinel, .sentinel, .sentinel, .sentinel, .sentinel, .sentinel, .pinned], laidTests := true, laidLooks := .later }
def UpTellsUptoCardSaid : Prop := Claim7.holds Tryz.pinned (.plain (OpenSpec.upto upTellsSpec)) upTellsUptoCard
end Rows
end Go.Proofs.YtnkcobdgaldkfaaGreatDoor
