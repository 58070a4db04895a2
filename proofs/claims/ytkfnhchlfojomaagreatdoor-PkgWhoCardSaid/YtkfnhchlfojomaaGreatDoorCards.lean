/-
  DERIVED. GIVEN WITH THE SEED: THE CARDS: each row of YtkfnhchlfojomaaGreatDoorRows.lean that lists a variable, with what it lists TIED to the program's text (the seventh form; the later family's looks); each row that meets fmt, with fmt's text TOLD by the authors' own Lean function (tested against real Go, not proved from fmt's source: count such statements apart). THE CARD IS WHAT COUNTS. Prove the row's statement (the work); the ties are given (YtkfnhchlfojomaaGreatDoorTie.lean); close each card by the builder's one call (the guide's Derived/Test/ToyasCard.lean, 'card_holds'). Laid BY PROGRAM, IN A SANDBOX (cutbox-door.mjs). By AI agents, Wed Nov 11 2026. No macro, syntax, notation, axiom, sorry.
-/
import Derived.Test.YtkfnhchlfojomaaGreatDoorRows
import GoSem.ClaimSeven
namespace Go.Proofs.YtkfnhchlfojomaaGreatDoor
namespace Rows

/-- THE TIED CARD OF 'pewholderlaw3.SumsTell'. -/
def sumsTellCard : Claim7 := { stood := { row := sumsTellRow, standIns := [], harness := (true, "14e5d5c4f480b352d72d4cc71a689652b0eda6b0d23fabdecb92eacd74336b5e"), looks := true }, kinds := [], alts := [], laidByText := true, laidKinds := [.data, .data, .data, .data, .handle, .sentinel, .sentinel, .sentinel, .sentinel, .sentinel, .sentinel, .sentinel, .sentinel, .sentinel, .sentinel, .sentinel, .sentinel, .pinned], laidTests := true, laidLooks := .later }
def SumsTellCardSaid : Prop := Claim7.holds Tryz.pinned (.plain (OpenSpec.ofChange sumsTellSpec)) sumsTellCard

/-- THE TIED CARD OF 'pewholderlaw3.QueryHolds'. -/
def queryHoldsCard : Claim7 := { stood := { row := queryHoldsRow, standIns := [], harness := (true, "14e5d5c4f480b352d72d4cc71a689652b0eda6b0d23fabdecb92eacd74336b5e"), looks := true }, kinds := [], alts := [], laidByText := true, laidKinds := [.data, .data, .data, .data, .sentinel, .sentinel, .sentinel, .sentinel, .sentinel, .sentinel, .sentinel, .sentinel, .sentinel, .pinned], laidTests := true, laidLooks := .later }
def QueryHoldsCardSaid : Prop := Claim7.holds Tryz.pinned (.plain (OpenSpec.ofChange queryHoldsSpec)) queryHoldsCard

/-- THE TIED CARD OF 'pewholderlaw3.SumsHold'. -/
def sumsHoldCard : Claim7 := { stood := { row := sumsHoldRow, standIns := [], harness := (true, "14e5d5c4f480b352d72d4cc71a689652b0eda6b0d23fabdecb92eacd74336b5e"), looks := true }, kinds := [], alts := [], laidByText := true, laidKinds := [.data, .data, .data, .data, .handle, .sentinel, .sentinel, .sentinel, .sentinel, .sentinel, .sentinel, .sentinel, .sentinel, .sentinel, .sentinel, .sentinel, .sentinel, .pinned], laidTests := true, laidLooks := .later }
def SumsHoldCardSaid : Prop := Claim7.holds Tryz.pinned (.plain (OpenSpec.ofChange sumsHoldSpec)) sumsHoldCard

/-- THE TIED CARD OF 'pewholderlaw3.QueryPicks'. -/
def queryPicksCard : Claim7 := { stood := { row := queryPicksRow, standIns := [], harness := (true, "14e5d5c4f480b352d72d4cc71a689652b0eda6b0d23fabdecb92eacd74336b5e"), looks := true }, kinds := [], alts := [], laidByText := true, laidKinds := [.data, .data, .data, .data, .handle, .sentinel, .sentinel, .sentinel, .sentinel, .sentinel, .sentinel, .sentinel, .sentinel, .sentinel, .sentinel, .sentinel, .sentinel, .pinned], laidTests := true, laidLooks := .later }
def QueryPicksCardSaid : Prop := Claim7.holds Tryz.pinned (.plain (OpenSpec.ofChange queryPicksSpec)) queryPicksCard

/-- THE TIED CARD OF 'pewholderlaw3.PkgOnes'. -/
def pkgOnesCard : Claim7 := { stood := { row := pkgOnesRow, standIns := [], harness := (true, "14e5d5c4f480b352d72d4cc71a689652b0eda6b0d23fabdecb92eacd74336b5e"), looks := true }, kinds := [], alts := [], laidByText := true, laidKinds := [.data, .data, .data, .data, .sentinel, .sentinel, .sentinel, .sentinel, .sentinel, .sentinel, .sentinel, .sentinel, .sentinel, .pinned], laidTests := true, laidLooks := .later }
def PkgOnesCardSaid : Prop := Claim7.holds Tryz.pinned (.plain (OpenSpec.ofChange pkgOnesSpec)) pkgOnesCard

/-- THE TIED CARD OF 'pewholderlaw3.PkgWho'. -/
def pkgWhoCard : Claim7 := { stood := { row := pkgWhoRow, standIns := [], harness := (true, "14e5d5c4f480b352d72d4cc71a689652b0eda6b0d23fabdecb92eacd74336b5e"), looks := true }, kinds := [], alts := [], laidByText := true, laidKinds := [.data, .data, .data, .data, .sentinel, .sentinel, .sentinel, .sentinel, .sentinel, .sentinel, .sentinel, .sentinel, .sentinel, .pinned], laidTests := true, laidLooks := .later }
def PkgWhoCardSaid : Prop := Claim7.holds Tryz.pinned (.plain (OpenSpec.ofChange pkgWhoSpec)) pkgWhoCard

/-- THE TIED CARD OF 'pewholderlaw3.PkgTells'. -/
def pkgTellsCard : Claim7 := { stood := { row := pkgTellsRow, standIns := [], harness := (true, "14e5d5c4f480b352d72d4cc71a689652b0eda6b0d23fabdecb92eacd74336b5e"), looks := true }, kinds := [], alts := [], laidByText := true, laidKinds := [.data, .data, .data, .data, .handle, .sentinel, .sentinel, .sentinel, .sentinel, .sentinel, .sentinel, .sentinel, .sentinel, .sentinel, .sentinel, .sentinel, .sentinel, .pinned], laidTests := true, laidLooks := .later }
def PkgTellsCardSaid : Prop := Claim7.holds Tryz.pinned (.plain (OpenSpec.ofChange pkgTellsSpec)) pkgTellsCard

/-- THE SECOND FORM's CARD OF 'pewholderlaw3.SumsTell'. -/
def sumsTellUptoCard : Claim7 := { stood := { row := sumsTellUptoRow, standIns := [], harness := (true, "14e5d5c4f480b352d72d4cc71a689652b0eda6b0d23fabdecb92eacd74336b5e"), looks := true }, kinds := [], alts := [], laidByText := true, laidKinds := [.data, .data, .data, .data, .handle, .sentinel, .sentinel, .sentinel, .sentinel, .sentinel, .sentinel, .sentinel, .sentinel, .sentinel, .sentinel, .sentinel, .sentinel, .pinned], laidTests := true, laidLooks := .later }
def SumsTellUptoCardSaid : Prop := Claim7.holds Tryz.pinned (.plain (OpenSpec.upto sumsTellSpec)) sumsTellUptoCard

/-- THE SECOND FORM's CARD OF 'pewholderlaw3.QueryHolds'. -/
def queryHoldsUptoCard : Claim7 := { stood := { row := queryHoldsUptoRow, standIns := [], harness := (true, "14e5d5c4f480b352d72d4cc71a689652b0eda6b0d23fabdecb92eacd74336b5e"), looks := true }, kinds := [], alts := [], laidByText := true, laidKinds := [.data, .data, .data, .data, .sentinel, .sentinel, .sentinel, .sentinel, .sentinel, .sentinel, .sentinel, .sentinel, .sentinel, .pinned], laidTests := true, laidLooks := .later }
def QueryHoldsUptoCardSaid : Prop := Claim7.holds Tryz.pinned (.plain (OpenSpec.upto queryHoldsSpec)) queryHoldsUptoCard

/-- THE SECOND FORM's CARD OF 'pewholderlaw3.SumsHold'. -/
def sumsHoldUptoCard : Claim7 := { stood := { row := sumsHoldUptoRow, standIns := [], harness := (true, "14e5d5c4f480b352d72d4cc71a689652b0eda6b0d23fabdecb92eacd74336b5e"), looks := true }, kinds := [], alts := [], laidByText := true, laidKinds := [.data, .data, .data, .data, .handle, .sentinel, .sentinel, .sentinel, .sentinel, .sentinel, .sentinel, .sentinel, .sentinel, .sentinel, .sentinel, .sentinel, .sentinel, .pinned], laidTests := true, laidLooks := .later }
def SumsHoldUptoCardSaid : Prop := Claim7.holds Tryz.pinned (.plain (OpenSpec.upto sumsHoldSpec)) sumsHoldUptoCard

/-- THE SECOND FORM's CARD OF 'pewholderlaw3.QueryPicks'. -/
def queryPicksUptoCard : Claim7 := { stood := { row := queryPicksUptoRow, standIns := [], harness := (true, "14e5d5c4f480b352d72d4cc71a689652b0eda6b0d23fabdecb92eacd74336b5e"), looks := true }, kinds := [], alts := [], laidByText := true, laidKinds := [.data, .data, .data, .data, .handle, .sentinel, .sentinel, .sentinel, .sentinel, .sentinel, .sentinel, .sentinel, .sentinel, .sentinel, .sentinel, .sentinel, .sentinel, .pinned], laidTests := true, laidLooks := .later }
def QueryPicksUptoCardSaid : Prop := Claim7.holds Tryz.pinned (.plain (OpenSpec.upto queryPicksSpec)) queryPicksUptoCard

/-- THE SECOND FORM's CARD OF 'pewholderlaw3.PkgOnes'. -/
def pkgOnesUptoCard : Claim7 := { stood := { row := pkgOnesUptoRow, standIns := [], harness := (true, "14e5d5c4f480b352d72d4cc71a689652b0eda6b0d23fabdecb92eacd74336b5e"), looks := true }, kinds := [], alts := [], laidByText := true, laidKinds := [.data, .data, .data, .data, .sentinel, .sentinel, .sentinel, .sentinel, .sentinel, .sentinel, .sentinel, .sentinel, .sentinel, .pinned], laidTests := true, laidLooks := .later }
def PkgOnesUptoCardSaid : Prop := Claim7.holds Tryz.pinned (.plain (OpenSpec.upto pkgOnesSpec)) pkgOnesUptoCard

/-- THE SECOND FORM's CARD OF 'pewholderlaw3.PkgWho'. -/
def pkgWhoUptoCard : Claim7 := { stood := { row := pkgWhoUptoRow, standIns := [], harness := (true, "14e5d5c4f480b352d72d4cc71a689652b0eda6b0d23fabdecb92eacd74336b5e"), looks := true }, kinds := [], alts := [], laidByText := true, laidKinds := [.data, .data, .data, .data, .sentinel, .sentinel, .sentinel, .sentinel, .sentinel, .sentinel, .sentinel, .sentinel, .sentinel, .pinned], laidTests := true, laidLooks := .later }
def PkgWhoUptoCardSaid : Prop := Claim7.holds Tryz.pinned (.plain (OpenSpec.upto pkgWhoSpec)) pkgWhoUptoCard

/-- THE SECOND FORM's CARD OF 'pewholderlaw3.PkgTells'. -/
def pkgTellsUptoCard : Claim7 := { stood := { row := pkgTellsUptoRow, standIns := [], harness := (true, "14e5d5c4f480b352d72d4cc71a689652b0eda6b0d23fabdecb92eacd74336b5e"), looks := true }, kinds := [], alts := [], laidByText := true, laidKinds := [.data, .data, .data, .data, .handle, .sentinel, .sentinel, .sentinel, .sentinel, .sentinel, .sentinel, .sentinel, .sentinel, .sentinel, .sentinel, .sentinel, .sentinel, .pinned], laidTests := true, laidLooks := .later }
def PkgTellsUptoCardSaid : Prop := Claim7.holds Tryz.pinned (.plain (OpenSpec.upto pkgTellsSpec)) pkgTellsUptoCard
end Rows
end Go.Proofs.YtkfnhchlfojomaaGreatDoor
