/-
  DERIVED. GIVEN WITH THE SEED: THE CARDS: each row of YtaelindfneoajaaGreatDoorRows.lean that lists a variable, with what it lists TIED to the program's text (the seventh form; the later family's looks); each row that meets fmt, with fmt's text TOLD by the authors' own Lean function (tested against real Go, not proved from fmt's source: count such statements apart). THE CARD IS WHAT COUNTS. Prove the row's statement (the work); the ties are given (YtaelindfneoajaaGreatDoorTie.lean); close each card by the builder's one call (the guide's Derived/Test/ToyasCard.lean, 'card_holds'). Laid BY PROGRAM, IN A SANDBOX (cutbox-door.mjs). By AI agents, Wed Nov 11 2026. No macro, syntax, notation, axiom, sorry.
-/
import Derived.Test.YtaelindfneoajaaGreatDoorRows
import GoSem.ClaimSeven
namespace Go.Proofs.YtaelindfneoajaaGreatDoor
namespace Rows

/-- THE TIED CARD OF 'pewholderlaw1.VerTexts'. -/
def verTextsCard : Claim7 := { stood := { row := verTextsRow, standIns := [], harness := (true, "533892e5e039523e33b4b9f5e5649584b3a37232997f8d7072405d1078f682b8"), looks := true }, kinds := [], alts := [], laidByText := true, laidKinds := [.data, .data, .data, .data, .sentinel, .sentinel, .sentinel, .sentinel, .pinned], laidTests := true, laidLooks := .later }
def VerTextsCardSaid : Prop := Claim7.holds Tryz.pinned (.plain (OpenSpec.ofChange verTextsSpec)) verTextsCard

/-- THE TIED CARD OF 'pewholderlaw3.PatTells'. -/
def patTellsCard : Claim7 := { stood := { row := patTellsRow, standIns := [], harness := (true, "533892e5e039523e33b4b9f5e5649584b3a37232997f8d7072405d1078f682b8"), looks := true }, kinds := [], alts := [], laidByText := true, laidKinds := [.data, .data, .data, .data, .handle, .sentinel, .sentinel, .sentinel, .sentinel, .sentinel, .sentinel, .sentinel, .sentinel, .sentinel, .sentinel, .sentinel, .sentinel, .pinned], laidTests := true, laidLooks := .later }
def PatTellsCardSaid : Prop := Claim7.holds Tryz.pinned (.plain (OpenSpec.ofChange patTellsSpec)) patTellsCard

/-- THE TIED CARD OF 'pewholderlaw1.VerTells'. -/
def verTellsCard : Claim7 := { stood := { row := verTellsRow, standIns := [], harness := (true, "533892e5e039523e33b4b9f5e5649584b3a37232997f8d7072405d1078f682b8"), looks := true }, kinds := [], alts := [], laidByText := true, laidKinds := [.data, .data, .data, .data, .handle, .sentinel, .sentinel, .sentinel, .sentinel, .sentinel, .sentinel, .sentinel, .sentinel, .sentinel, .sentinel, .sentinel, .sentinel, .pinned], laidTests := true, laidLooks := .later }
def VerTellsCardSaid : Prop := Claim7.holds Tryz.pinned (.plain (OpenSpec.ofChange verTellsSpec)) verTellsCard

/-- THE TIED CARD OF 'pewholderlaw1.FileBack'. -/
def fileBackCard : Claim7 := { stood := { row := fileBackRow, standIns := [], harness := (true, "533892e5e039523e33b4b9f5e5649584b3a37232997f8d7072405d1078f682b8"), looks := true }, kinds := [], alts := [], laidByText := true, laidKinds := [.data, .data, .data, .data, .sentinel, .sentinel, .sentinel, .sentinel, .sentinel, .sentinel, .sentinel, .sentinel, .sentinel, .sentinel, .pinned], laidTests := true, laidLooks := .later }
def FileBackCardSaid : Prop := Claim7.holds Tryz.pinned (.plain (OpenSpec.ofChange fileBackSpec)) fileBackCard

/-- THE TIED CARD OF 'pewholderlaw1.VerOrder'. -/
def verOrderCard : Claim7 := { stood := { row := verOrderRow, standIns := [], harness := (true, "533892e5e039523e33b4b9f5e5649584b3a37232997f8d7072405d1078f682b8"), looks := true }, kinds := [], alts := [], laidByText := true, laidKinds := [.data, .data, .data, .data, .sentinel, .sentinel, .sentinel, .sentinel, .pinned], laidTests := true, laidLooks := .later }
def VerOrderCardSaid : Prop := Claim7.holds Tryz.pinned (.plain (OpenSpec.ofChange verOrderSpec)) verOrderCard

/-- THE TIED CARD OF 'pewholderlaw3.SumsTell'. -/
def sumsTellCard : Claim7 := { stood := { row := sumsTellRow, standIns := [], harness := (true, "533892e5e039523e33b4b9f5e5649584b3a37232997f8d7072405d1078f682b8"), looks := true }, kinds := [], alts := [], laidByText := true, laidKinds := [.data, .data, .data, .data, .handle, .sentinel, .sentinel, .sentinel, .sentinel, .sentinel, .sentinel, .sentinel, .sentinel, .sentinel, .sentinel, .sentinel, .sentinel, .pinned], laidTests := true, laidLooks := .later }
def SumsTellCardSaid : Prop := Claim7.holds Tryz.pinned (.plain (OpenSpec.ofChange sumsTellSpec)) sumsTellCard

/-- THE TIED CARD OF 'pewholderlaw2.GraphAdds'. -/
def graphAddsCard : Claim7 := { stood := { row := graphAddsRow, standIns := [], harness := (true, "533892e5e039523e33b4b9f5e5649584b3a37232997f8d7072405d1078f682b8"), looks := true }, kinds := [], alts := [], laidByText := true, laidKinds := [.data, .data, .data, .data, .sentinel, .sentinel, .sentinel, .sentinel, .sentinel, .sentinel, .sentinel, .sentinel, .sentinel, .pinned], laidTests := true, laidLooks := .later }
def GraphAddsCardSaid : Prop := Claim7.holds Tryz.pinned (.plain (OpenSpec.ofChange graphAddsSpec)) graphAddsCard

/-- THE TIED CARD OF 'pewholderlaw2.GraphWays'. -/
def graphWaysCard : Claim7 := { stood := { row := graphWaysRow, standIns := [], harness := (true, "533892e5e039523e33b4b9f5e5649584b3a37232997f8d7072405d1078f682b8"), looks := true }, kinds := [], alts := [], laidByText := true, laidKinds := [.data, .data, .data, .data, .sentinel, .sentinel, .sentinel, .sentinel, .sentinel, .sentinel, .sentinel, .sentinel, .sentinel, .pinned], laidTests := true, laidLooks := .later }
def GraphWaysCardSaid : Prop := Claim7.holds Tryz.pinned (.plain (OpenSpec.ofChange graphWaysSpec)) graphWaysCard

/-- THE TIED CARD OF 'pewholderlaw1.FileTells'. -/
def fileTellsCard : Claim7 := { stood := { row := fileTellsRow, standIns := [], harness := (true, "533892e5e039523e33b4b9f5e5649584b3a37232997f8d7072405d1078f682b8"), looks := true }, kinds := [], alts := [], laidByText := true, laidKinds := [.data, .data, .data, .data, .handle, .sentinel, .sentinel, .sentinel, .sentinel, .sentinel, .sentinel, .sentinel, .sentinel, .sentinel, .sentinel, .sentinel, .sentinel, .pinned], laidTests := true, laidLooks := .later }
def FileTellsCardSaid : Prop := Claim7.holds Tryz.pinned (.plain (OpenSpec.ofChange fileTellsSpec)) fileTellsCard

/-- THE SECOND FORM's CARD OF 'pewholderlaw1.VerTexts'. -/
def verTextsUptoCard : Claim7 := { stood := { row := verTextsUptoRow, standIns := [], harness := (true, "533892e5e039523e33b4b9f5e5649584b3a37232997f8d7072405d1078f682b8"), looks := true }, kinds := [], alts := [], laidByText := true, laidKinds := [.data, .data, .data, .data, .sentinel, .sentinel, .sentinel, .sentinel, .pinned], laidTests := true, laidLooks := .later }
def VerTextsUptoCardSaid : Prop := Claim7.holds Tryz.pinned (.plain (OpenSpec.upto verTextsSpec)) verTextsUptoCard

/-- THE SECOND FORM's CARD OF 'pewholderlaw3.PatTells'. -/
def patTellsUptoCard : Claim7 := { stood := { row := patTellsUptoRow, standIns := [], harness := (true, "533892e5e039523e33b4b9f5e5649584b3a37232997f8d7072405d1078f682b8"), looks := true }, kinds := [], alts := [], laidByText := true, laidKinds := [.data, .data, .data, .data, .handle, .sentinel, .sentinel, .sentinel, .sentinel, .sentinel, .sentinel, .sentinel, .sentinel, .sentinel, .sentinel, .sentinel, .sentinel, .pinned], laidTests := true, laidLooks := .later }
def PatTellsUptoCardSaid : Prop := Claim7.holds Tryz.pinned (.plain (OpenSpec.upto patTellsSpec)) patTellsUptoCard

/-- THE SECOND FORM's CARD OF 'pewholderlaw1.VerTells'. -/
def verTellsUptoCard : Claim7 := { stood := { row := verTellsUptoRow, standIns := [], harness := (true, "533892e5e039523e33b4b9f5e5649584b3a37232997f8d7072405d1078f682b8"), looks := true }, kinds := [], alts := [], laidByText := true, laidKinds := [.data, .data, .data, .data, .handle, .sentinel, .sentinel, .sentinel, .sentinel, .sentinel, .sentinel, .sentinel, .sentinel, .sentinel, .sentinel, .sentinel, .sentinel, .pinned], laidTests := true, laidLooks := .later }
def VerTellsUptoCardSaid : Prop := Claim7.holds Tryz.pinned (.plain (OpenSpec.upto verTellsSpec)) verTellsUptoCard

/-- THE SECOND FORM's CARD OF 'pewholderlaw1.FileBack'. -/
def fileBackUptoCard : Claim7 := { stood := { row := fileBackUptoRow, standIns := [], harness := (true, "533892e5e039523e33b4b9f5e5649584b3a37232997f8d7072405d1078f682b8"), looks := true }, kinds := [], alts := [], laidByText := true, laidKinds := [.data, .data, .data, .data, .sentinel, .sentinel, .sentinel, .sentinel, .sentinel, .sentinel, .sentinel, .sentinel, .sentinel, .sentinel, .pinned], laidTests := true, laidLooks := .later }
def FileBackUptoCardSaid : Prop := Claim7.holds Tryz.pinned (.plain (OpenSpec.upto fileBackSpec)) fileBackUptoCard

/-- THE SECOND FORM's CARD OF 'pewholderlaw1.VerOrder'. -/
def verOrderUptoCard : Claim7 := { stood := { row := verOrderUptoRow, standIns := [], harness := (true, "533892e5e039523e33b4b9f5e5649584b3a37232997f8d7072405d1078f682b8"), looks := true }, kinds := [], alts := [], laidByText := true, laidKinds := [.data, .data, .data, .data, .sentinel, .sentinel, .sentinel, .sentinel, .pinned], laidTests := true, laidLooks := .later }
def VerOrderUptoCardSaid : Prop := Claim7.holds Tryz.pinned (.plain (OpenSpec.upto verOrderSpec)) verOrderUptoCard

/-- THE SECOND FORM's CARD OF 'pewholderlaw3.SumsTell'. -/
def sumsTellUptoCard : Claim7 := { stood := { row := sumsTellUptoRow, standIns := [], harness := (true, "533892e5e039523e33b4b9f5e5649584b3a37232997f8d7072405d1078f682b8"), looks := true }, kinds := [], alts := [], laidByText := true, laidKinds := [.data, .data, .data, .data, .handle, .sentinel, .sentinel, .sentinel, .sentinel, .sentinel, .sentinel, .sentinel, .sentinel, .sentinel, .sentinel, .sentinel, .sentinel, .pinned], laidTests := true, laidLooks := .later }
def SumsTellUptoCardSaid : Prop := Claim7.holds Tryz.pinned (.plain (OpenSpec.upto sumsTellSpec)) sumsTellUptoCard

/-- THE SECOND FORM's CARD OF 'pewholderlaw2.GraphAdds'. -/
def graphAddsUptoCard : Claim7 := { stood := { row := graphAddsUptoRow, standIns := [], harness := (true, "533892e5e039523e33b4b9f5e5649584b3a37232997f8d7072405d1078f682b8"), looks := true }, kinds := [], alts := [], laidByText := true, laidKinds := [.data, .data, .data, .data, .sentinel, .sentinel, .sentinel, .sentinel, .sentinel, .sentinel, .sentinel, .sentinel, .sentinel, .pinned], laidTests := true, laidLooks := .later }
def GraphAddsUptoCardSaid : Prop := Claim7.holds Tryz.pinned (.plain (OpenSpec.upto graphAddsSpec)) graphAddsUptoCard

/-- THE SECOND FORM's CARD OF 'pewholderlaw2.GraphWays'. -/
def graphWaysUptoCard : Claim7 := { stood := { row := graphWaysUptoRow, standIns := [], harness := (true, "533892e5e039523e33b4b9f5e5649584b3a37232997f8d7072405d1078f682b8"), looks := true }, kinds := [], alts := [], laidByText := true, laidKinds := [.data, .data, .data, .data, .sentinel, .sentinel, .sentinel, .sentinel, .sentinel, .sentinel, .sentinel, .sentinel, .sentinel, .pinned], laidTests := true, laidLooks := .later }
def GraphWaysUptoCardSaid : Prop := Claim7.holds Tryz.pinned (.plain (OpenSpec.upto graphWaysSpec)) graphWaysUptoCard

/-- THE SECOND FORM's CARD OF 'pewholderlaw1.FileTells'. -/
def fileTellsUptoCard : Claim7 := { stood := { row := fileTellsUptoRow, standIns := [], harness := (true, "533892e5e039523e33b4b9f5e5649584b3a37232997f8d7072405d1078f682b8"), looks := true }, kinds := [], alts := [], laidByText := true, laidKinds := [.data, .data, .data, .data, .handle, .sentinel, .sentinel, .sentinel, .sentinel, .sentinel, .sentinel, .sentinel, .sentinel, .sentinel, .sentinel, .sentinel, .sentinel, .pinned], laidTests := true, laidLooks := .later }
def FileTellsUptoCardSaid : Prop := Claim7.holds Tryz.pinned (.plain (OpenSpec.upto fileTellsSpec)) fileTellsUptoCard
end Rows
end Go.Proofs.YtaelindfneoajaaGreatDoor
