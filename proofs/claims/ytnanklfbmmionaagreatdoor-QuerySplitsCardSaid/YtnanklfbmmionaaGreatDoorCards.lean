/-
  DERIVED. GIVEN WITH THE SEED: THE CARDS: each row of YtnanklfbmmionaaGreatDoorRows.lean that lists a variable, with what it lists TIED to the program's text (the seventh form; the later family's looks); each row that meets fmt, with fmt's text TOLD by the authors' own Lean function (tested against real Go, not proved from fmt's source: count such statements apart). THE CARD IS WHAT COUNTS. Prove the row's statement (the work); the ties are given (YtnanklfbmmionaaGreatDoorTie.lean); close each card by the builder's one call (the guide's Derived/Test/ToyasCard.lean, 'card_holds'). Laid BY PROGRAM, IN A SANDBOX (cutbox-door.mjs). By AI agents, Wed Nov 11 2026. No macro, syntax, notation, axiom, sorry.
-/
import Derived.Test.YtnanklfbmmionaaGreatDoorRows
import GoSem.ClaimSeven
namespace Go.Proofs.YtnanklfbmmionaaGreatDoor
namespace Rows

/-- THE TIED CARD OF 'pewholderlaw3.SumsTell'. -/
def sumsTellCard : Claim7 := { stood := { row := sumsTellRow, standIns := [], harness := (true, "66c866e12b9f71b4d142c50376415ace11be85c6ff1e63f4cfd89410cde01dfe"), looks := true }, kinds := [], alts := [], laidByText := true, laidKinds := [.data, .data, .data, .data, .handle, .sentinel, .sentinel, .sentinel, .sentinel, .sentinel, .sentinel, .sentinel, .sentinel, .sentinel, .sentinel, .sentinel, .sentinel, .pinned], laidTests := true, laidLooks := .later }
def SumsTellCardSaid : Prop := Claim7.holds Tryz.pinned (.plain (OpenSpec.ofChange sumsTellSpec)) sumsTellCard

/-- THE TIED CARD OF 'pewholderlaw2.DownAgain'. -/
def downAgainCard : Claim7 := { stood := { row := downAgainRow, standIns := [], harness := (true, "66c866e12b9f71b4d142c50376415ace11be85c6ff1e63f4cfd89410cde01dfe"), looks := true }, kinds := [], alts := [], laidByText := true, laidKinds := [.data, .data, .data, .data, .sentinel, .sentinel, .sentinel, .sentinel, .sentinel, .sentinel, .sentinel, .sentinel, .sentinel, .pinned], laidTests := true, laidLooks := .later }
def DownAgainCardSaid : Prop := Claim7.holds Tryz.pinned (.plain (OpenSpec.ofChange downAgainSpec)) downAgainCard

/-- THE TIED CARD OF 'pewholderlaw2.DownCaps'. -/
def downCapsCard : Claim7 := { stood := { row := downCapsRow, standIns := [], harness := (true, "66c866e12b9f71b4d142c50376415ace11be85c6ff1e63f4cfd89410cde01dfe"), looks := true }, kinds := [], alts := [], laidByText := true, laidKinds := [.data, .data, .data, .data, .sentinel, .sentinel, .sentinel, .sentinel, .sentinel, .sentinel, .sentinel, .sentinel, .sentinel, .pinned], laidTests := true, laidLooks := .later }
def DownCapsCardSaid : Prop := Claim7.holds Tryz.pinned (.plain (OpenSpec.ofChange downCapsSpec)) downCapsCard

/-- THE TIED CARD OF 'pewholderlaw3.QueryHolds'. -/
def queryHoldsCard : Claim7 := { stood := { row := queryHoldsRow, standIns := [], harness := (true, "66c866e12b9f71b4d142c50376415ace11be85c6ff1e63f4cfd89410cde01dfe"), looks := true }, kinds := [], alts := [], laidByText := true, laidKinds := [.data, .data, .data, .data, .sentinel, .sentinel, .sentinel, .sentinel, .sentinel, .sentinel, .sentinel, .sentinel, .sentinel, .pinned], laidTests := true, laidLooks := .later }
def QueryHoldsCardSaid : Prop := Claim7.holds Tryz.pinned (.plain (OpenSpec.ofChange queryHoldsSpec)) queryHoldsCard

/-- THE TIED CARD OF 'pewholderlaw3.QuerySplits'. -/
def querySplitsCard : Claim7 := { stood := { row := querySplitsRow, standIns := [], harness := (true, "66c866e12b9f71b4d142c50376415ace11be85c6ff1e63f4cfd89410cde01dfe"), looks := true }, kinds := [], alts := [], laidByText := true, laidKinds := [.data, .data, .data, .data, .sentinel, .sentinel, .sentinel, .sentinel, .sentinel, .sentinel, .sentinel, .sentinel, .sentinel, .pinned], laidTests := true, laidLooks := .later }
def QuerySplitsCardSaid : Prop := Claim7.holds Tryz.pinned (.plain (OpenSpec.ofChange querySplitsSpec)) querySplitsCard

/-- THE TIED CARD OF 'pewholderlaw2.DownTells'. -/
def downTellsCard : Claim7 := { stood := { row := downTellsRow, standIns := [], harness := (true, "66c866e12b9f71b4d142c50376415ace11be85c6ff1e63f4cfd89410cde01dfe"), looks := true }, kinds := [], alts := [], laidByText := true, laidKinds := [.data, .data, .data, .data, .handle, .sentinel, .sentinel, .sentinel, .sentinel, .sentinel, .sentinel, .sentinel, .sentinel, .sentinel, .sentinel, .sentinel, .sentinel, .pinned], laidTests := true, laidLooks := .later }
def DownTellsCardSaid : Prop := Claim7.holds Tryz.pinned (.plain (OpenSpec.ofChange downTellsSpec)) downTellsCard

/-- THE TIED CARD OF 'pewholderlaw3.SumsHold'. -/
def sumsHoldCard : Claim7 := { stood := { row := sumsHoldRow, standIns := [], harness := (true, "66c866e12b9f71b4d142c50376415ace11be85c6ff1e63f4cfd89410cde01dfe"), looks := true }, kinds := [], alts := [], laidByText := true, laidKinds := [.data, .data, .data, .data, .handle, .sentinel, .sentinel, .sentinel, .sentinel, .sentinel, .sentinel, .sentinel, .sentinel, .sentinel, .sentinel, .sentinel, .sentinel, .pinned], laidTests := true, laidLooks := .later }
def SumsHoldCardSaid : Prop := Claim7.holds Tryz.pinned (.plain (OpenSpec.ofChange sumsHoldSpec)) sumsHoldCard

/-- THE TIED CARD OF 'pewholderlaw3.QueryPicks'. -/
def queryPicksCard : Claim7 := { stood := { row := queryPicksRow, standIns := [], harness := (true, "66c866e12b9f71b4d142c50376415ace11be85c6ff1e63f4cfd89410cde01dfe"), looks := true }, kinds := [], alts := [], laidByText := true, laidKinds := [.data, .data, .data, .data, .handle, .sentinel, .sentinel, .sentinel, .sentinel, .sentinel, .sentinel, .sentinel, .sentinel, .sentinel, .sentinel, .sentinel, .sentinel, .pinned], laidTests := true, laidLooks := .later }
def QueryPicksCardSaid : Prop := Claim7.holds Tryz.pinned (.plain (OpenSpec.ofChange queryPicksSpec)) queryPicksCard

/-- THE TIED CARD OF 'pewholderlaw1.IndexLatest'. -/
def indexLatestCard : Claim7 := { stood := { row := indexLatestRow, standIns := [], harness := (true, "66c866e12b9f71b4d142c50376415ace11be85c6ff1e63f4cfd89410cde01dfe"), looks := true }, kinds := [], alts := [], laidByText := true, laidKinds := [.data, .data, .data, .data, .handle, .sentinel, .sentinel, .sentinel, .sentinel, .sentinel, .sentinel, .sentinel, .sentinel, .sentinel, .sentinel, .sentinel, .sentinel, .pinned], laidTests := true, laidLooks := .later }
def IndexLatestCardSaid : Prop := Claim7.holds Tryz.pinned (.plain (OpenSpec.ofChange indexLatestSpec)) indexLatestCard

/-- THE TIED CARD OF 'pewholderlaw1.IndexTells'. -/
def indexTellsCard : Claim7 := { stood := { row := indexTellsRow, standIns := [], harness := (true, "66c866e12b9f71b4d142c50376415ace11be85c6ff1e63f4cfd89410cde01dfe"), looks := true }, kinds := [], alts := [], laidByText := true, laidKinds := [.data, .data, .data, .data, .handle, .sentinel, .sentinel, .sentinel, .sentinel, .sentinel, .sentinel, .sentinel, .sentinel, .sentinel, .sentinel, .sentinel, .sentinel, .pinned], laidTests := true, laidLooks := .later }
def IndexTellsCardSaid : Prop := Claim7.holds Tryz.pinned (.plain (OpenSpec.ofChange indexTellsSpec)) indexTellsCard

/-- THE SECOND FORM's CARD OF 'pewholderlaw3.SumsTell'. -/
def sumsTellUptoCard : Claim7 := { stood := { row := sumsTellUptoRow, standIns := [], harness := (true, "66c866e12b9f71b4d142c50376415ace11be85c6ff1e63f4cfd89410cde01dfe"), looks := true }, kinds := [], alts := [], laidByText := true, laidKinds := [.data, .data, .data, .data, .handle, .sentinel, .sentinel, .sentinel, .sentinel, .sentinel, .sentinel, .sentinel, .sentinel, .sentinel, .sentinel, .sentinel, .sentinel, .pinned], laidTests := true, laidLooks := .later }
def SumsTellUptoCardSaid : Prop := Claim7.holds Tryz.pinned (.plain (OpenSpec.upto sumsTellSpec)) sumsTellUptoCard

/-- THE SECOND FORM's CARD OF 'pewholderlaw2.DownAgain'. -/
def downAgainUptoCard : Claim7 := { stood := { row := downAgainUptoRow, standIns := [], harness := (true, "66c866e12b9f71b4d142c50376415ace11be85c6ff1e63f4cfd89410cde01dfe"), looks := true }, kinds := [], alts := [], laidByText := true, laidKinds := [.data, .data, .data, .data, .sentinel, .sentinel, .sentinel, .sentinel, .sentinel, .sentinel, .sentinel, .sentinel, .sentinel, .pinned], laidTests := true, laidLooks := .later }
def DownAgainUptoCardSaid : Prop := Claim7.holds Tryz.pinned (.plain (OpenSpec.upto downAgainSpec)) downAgainUptoCard

/-- THE SECOND FORM's CARD OF 'pewholderlaw2.DownCaps'. -/
def downCapsUptoCard : Claim7 := { stood := { row := downCapsUptoRow, standIns := [], harness := (true, "66c866e12b9f71b4d142c50376415ace11be85c6ff1e63f4cfd89410cde01dfe"), looks := true }, kinds := [], alts := [], laidByText := true, laidKinds := [.data, .data, .data, .data, .sentinel, .sentinel, .sentinel, .sentinel, .sentinel, .sentinel, .sentinel, .sentinel, .sentinel, .pinned], laidTests := true, laidLooks := .later }
def DownCapsUptoCardSaid : Prop := Claim7.holds Tryz.pinned (.plain (OpenSpec.upto downCapsSpec)) downCapsUptoCard

/-- THE SECOND FORM's CARD OF 'pewholderlaw3.QueryHolds'. -/
def queryHoldsUptoCard : Claim7 := { stood := { row := queryHoldsUptoRow, standIns := [], harness := (true, "66c866e12b9f71b4d142c50376415ace11be85c6ff1e63f4cfd89410cde01dfe"), looks := true }, kinds := [], alts := [], laidByText := true, laidKinds := [.data, .data, .data, .data, .sentinel, .sentinel, .sentinel, .sentinel, .sentinel, .sentinel, .sentinel, .sentinel, .sentinel, .pinned], laidTests := true, laidLooks := .later }
def QueryHoldsUptoCardSaid : Prop := Claim7.holds Tryz.pinned (.plain (OpenSpec.upto queryHoldsSpec)) queryHoldsUptoCard

/-- THE SECOND FORM's CARD OF 'pewholderlaw3.QuerySplits'. -/
def querySplitsUptoCard : Claim7 := { stood := { row := querySplitsUptoRow, standIns := [], harness := (true, "66c866e12b9f71b4d142c50376415ace11be85c6ff1e63f4cfd89410cde01dfe"), looks := true }, kinds := [], alts := [], laidByText := true, laidKinds := [.data, .data, .data, .data, .sentinel, .sentinel, .sentinel, .sentinel, .sentinel, .sentinel, .sentinel, .sentinel, .sentinel, .pinned], laidTests := true, laidLooks := .later }
def QuerySplitsUptoCardSaid : Prop := Claim7.holds Tryz.pinned (.plain (OpenSpec.upto querySplitsSpec)) querySplitsUptoCard

/-- THE SECOND FORM's CARD OF 'pewholderlaw2.DownTells'. -/
def downTellsUptoCard : Claim7 := { stood := { row := downTellsUptoRow, standIns := [], harness := (true, "66c866e12b9f71b4d142c50376415ace11be85c6ff1e63f4cfd89410cde01dfe"), looks := true }, kinds := [], alts := [], laidByText := true, laidKinds := [.data, .data, .data, .data, .handle, .sentinel, .sentinel, .sentinel, .sentinel, .sentinel, .sentinel, .sentinel, .sentinel, .sentinel, .sentinel, .sentinel, .sentinel, .pinned], laidTests := true, laidLooks := .later }
def DownTellsUptoCardSaid : Prop := Claim7.holds Tryz.pinned (.plain (OpenSpec.upto downTellsSpec)) downTellsUptoCard

/-- THE SECOND FORM's CARD OF 'pewholderlaw3.SumsHold'. -/
def sumsHoldUptoCard : Claim7 := { stood := { row := sumsHoldUptoRow, standIns := [], harness := (true, "66c866e12b9f71b4d142c50376415ace11be85c6ff1e63f4cfd89410cde01dfe"), looks := true }, kinds := [], alts := [], laidByText := true, laidKinds := [.data, .data, .data, .data, .handle, .sentinel, .sentinel, .sentinel, .sentinel, .sentinel, .sentinel, .sentinel, .sentinel, .sentinel, .sentinel, .sentinel, .sentinel, .pinned], laidTests := true, laidLooks := .later }
def SumsHoldUptoCardSaid : Prop := Claim7.holds Tryz.pinned (.plain (OpenSpec.upto sumsHoldSpec)) sumsHoldUptoCard

/-- THE SECOND FORM's CARD OF 'pewholderlaw3.QueryPicks'. -/
def queryPicksUptoCard : Claim7 := { stood := { row := queryPicksUptoRow, standIns := [], harness := (true, "66c866e12b9f71b4d142c50376415ace11be85c6ff1e63f4cfd89410cde01dfe"), looks := true }, kinds := [], alts := [], laidByText := true, laidKinds := [.data, .data, .data, .data, .handle, .sentinel, .sentinel, .sentinel, .sentinel, .sentinel, .sentinel, .sentinel, .sentinel, .sentinel, .sentinel, .sentinel, .sentinel, .pinned], laidTests := true, laidLooks := .later }
def QueryPicksUptoCardSaid : Prop := Claim7.holds Tryz.pinned (.plain (OpenSpec.upto queryPicksSpec)) queryPicksUptoCard

/-- THE SECOND FORM's CARD OF 'pewholderlaw1.IndexLatest'. -/
def indexLatestUptoCard : Claim7 := { stood := { row := indexLatestUptoRow, standIns := [], harness := (true, "66c866e12b9f71b4d142c50376415ace11be85c6ff1e63f4cfd89410cde01dfe"), looks := true }, kinds := [], alts := [], laidByText := true, laidKinds := [.data, .data, .data, .data, .handle, .sentinel, .sentinel, .sentinel, .sentinel, .sentinel, .sentinel, .sentinel, .sentinel, .sentinel, .sentinel, .sentinel, .sentinel, .pinned], laidTests := true, laidLooks := .later }
def IndexLatestUptoCardSaid : Prop := Claim7.holds Tryz.pinned (.plain (OpenSpec.upto indexLatestSpec)) indexLatestUptoCard

/-- THE SECOND FORM's CARD OF 'pewholderlaw1.IndexTells'. -/
def indexTellsUptoCard : Claim7 := { stood := { row := indexTellsUptoRow, standIns := [], harness := (true, "66c866e12b9f71b4d142c50376415ace11be85c6ff1e63f4cfd89410cde01dfe"), looks := true }, kinds := [], alts := [], laidByText := true, laidKinds := [.data, .data, .data, .data, .handle, .sentinel, .sentinel, .sentinel, .sentinel, .sentinel, .sentinel, .sentinel, .sentinel, .sentinel, .sentinel, .sentinel, .sentinel, .pinned], laidTests := true, laidLooks := .later }
def IndexTellsUptoCardSaid : Prop := Claim7.holds Tryz.pinned (.plain (OpenSpec.upto indexTellsSpec)) indexTellsUptoCard
end Rows
end Go.Proofs.YtnanklfbmmionaaGreatDoor
