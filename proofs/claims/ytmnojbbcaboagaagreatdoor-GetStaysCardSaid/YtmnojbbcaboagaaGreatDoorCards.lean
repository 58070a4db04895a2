/-
  DERIVED. GIVEN WITH THE SEED: THE CARDS: each row of YtmnojbbcaboagaaGreatDoorRows.lean that lists a variable, with what it lists TIED to the program's text (the seventh form; the later family's looks); each row that meets fmt, with fmt's text TOLD by the authors' own Lean function (tested against real Go, not proved from fmt's source: count such statements apart). THE CARD IS WHAT COUNTS. Prove the row's statement (the work); the ties are given (YtmnojbbcaboagaaGreatDoorTie.lean); close each card by the builder's one call (the guide's Derived/Test/ToyasCard.lean, 'card_holds'). Laid BY PROGRAM, IN A SANDBOX (cutbox-door.mjs). By AI agents, Wed Nov 11 2026. No macro, syntax, notation, axiom, sorry.
-/
import Derived.Test.YtmnojbbcaboagaaGreatDoorRows
import GoSem.ClaimSeven
namespace Go.Proofs.YtmnojbbcaboagaaGreatDoor
namespace Rows

/-- THE TIED CARD OF 'pewholderlaw3.GetStays'. -/
def getStaysCard : Claim7 := { stood := { row := getStaysRow, standIns := [], harness := (true, "ecbeb71d21342502908d659da3830811268937ddbd52d355b7e25241dbd58f5e"), looks := true }, kinds := [], alts := [], laidByText := true, laidKinds := [.data, .data, .data, .data, .sentinel, .sentinel, .sentinel, .sentinel, .sentinel, .sentinel, .sentinel, .sentinel, .sentinel, .sentinel, .pinned], laidTests := true, laidLooks := .later }
def GetStaysCardSaid : Prop := Claim7.holds Tryz.pinned (.plain (OpenSpec.ofChange getStaysSpec)) getStaysCard

/-- THE TIED CARD OF 'pewholderlaw3.GetDoes'. -/
def getDoesCard : Claim7 := { stood := { row := getDoesRow, standIns := [], harness := (true, "ecbeb71d21342502908d659da3830811268937ddbd52d355b7e25241dbd58f5e"), looks := true }, kinds := [], alts := [], laidByText := true, laidKinds := [.data, .data, .data, .data, .handle, .sentinel, .sentinel, .sentinel, .sentinel, .sentinel, .sentinel, .sentinel, .sentinel, .sentinel, .sentinel, .sentinel, .sentinel, .pinned], laidTests := true, laidLooks := .later }
def GetDoesCardSaid : Prop := Claim7.holds Tryz.pinned (.plain (OpenSpec.ofChange getDoesSpec)) getDoesCard

/-- THE SECOND FORM's CARD OF 'pewholderlaw3.GetStays'. -/
def getStaysUptoCard : Claim7 := { stood := { row := getStaysUptoRow, standIns := [], harness := (true, "ecbeb71d21342502908d659da3830811268937ddbd52d355b7e25241dbd58f5e"), looks := true }, kinds := [], alts := [], laidByText := true, laidKinds := [.data, .data, .data, .data, .sentinel, .sentinel, .sentinel, .sentinel, .sentinel, .sentinel, .sentinel, .sentinel, .sentinel, .sentinel, .pinned], laidTests := true, laidLooks := .later }
def GetStaysUptoCardSaid : Prop := Claim7.holds Tryz.pinned (.plain (OpenSpec.upto getStaysSpec)) getStaysUptoCard

/-- THE SECOND FORM's CARD OF 'pewholderlaw3.GetDoes'. -/
def getDoesUptoCard : Claim7 := { stood := { row := getDoesUptoRow, standIns := [], harness := (true, "ecbeb71d21342502908d659da3830811268937ddbd52d355b7e25241dbd58f5e"), looks := true }, kinds := [], alts := [], laidByText := true, laidKinds := [.data, .data, .data, .data, .handle, .sentinel, .sentinel, .sentinel, .sentinel, .sentinel, .sentinel, .sentinel, .sentinel, .sentinel, .sentinel, .sentinel, .sentinel, .pinned], laidTests := true, laidLooks := .later }
def GetDoesUptoCardSaid : Prop := Claim7.holds Tryz.pinned (.plain (OpenSpec.upto getDoesSpec)) getDoesUptoCard
end Rows
end Go.Proofs.YtmnojbbcaboagaaGreatDoor
