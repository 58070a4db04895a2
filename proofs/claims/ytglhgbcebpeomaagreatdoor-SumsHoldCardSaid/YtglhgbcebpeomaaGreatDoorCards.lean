/-
  DERIVED. GIVEN WITH THE SEED: THE CARDS: each row of YtglhgbcebpeomaaGreatDoorRows.lean that lists a variable, with what it lists TIED to the program's text (the seventh form; the later family's looks); each row that meets fmt, with fmt's text TOLD by the authors' own Lean function (tested against real Go, not proved from fmt's source: count such statements apart). THE CARD IS WHAT COUNTS. Prove the row's statement (the work); the ties are given (YtglhgbcebpeomaaGreatDoorTie.lean); close each card by the builder's one call (the guide's Derived/Test/ToyasCard.lean, 'card_holds'). Laid BY PROGRAM, IN A SANDBOX (cutbox-door.mjs). By AI agents, Wed Nov 11 2026. No macro, syntax, notation, axiom, sorry.
-/
import Derived.Test.YtglhgbcebpeomaaGreatDoorRows
import GoSem.ClaimSeven
namespace Go.Proofs.YtglhgbcebpeomaaGreatDoor
namespace Rows

/-- THE TIED CARD OF 'pewholderlaw3.SumsTell'. -/
def sumsTellCard : Claim7 := { stood := { row := sumsTellRow, standIns := [], harness := (true, "7039e8c711f53c999f40b3ba7fb5c7670371d5c756ebce05d82d06196c634751"), looks := true }, kinds := [], alts := [], laidByText := true, laidKinds := [.data, .data, .data, .data, .handle, .sentinel, .sentinel, .sentinel, .sentinel, .sentinel, .sentinel, .sentinel, .sentinel, .sentinel, .sentinel, .sentinel, .sentinel, .pinned], laidTests := true, laidLooks := .later }
def SumsTellCardSaid : Prop := Claim7.holds Tryz.pinned (.plain (OpenSpec.ofChange sumsTellSpec)) sumsTellCard

/-- THE TIED CARD OF 'pewholderlaw3.SumsHold'. -/
def sumsHoldCard : Claim7 := { stood := { row := sumsHoldRow, standIns := [], harness := (true, "7039e8c711f53c999f40b3ba7fb5c7670371d5c756ebce05d82d06196c634751"), looks := true }, kinds := [], alts := [], laidByText := true, laidKinds := [.data, .data, .data, .data, .handle, .sentinel, .sentinel, .sentinel, .sentinel, .sentinel, .sentinel, .sentinel, .sentinel, .sentinel, .sentinel, .sentinel, .sentinel, .pinned], laidTests := true, laidLooks := .later }
def SumsHoldCardSaid : Prop := Claim7.holds Tryz.pinned (.plain (OpenSpec.ofChange sumsHoldSpec)) sumsHoldCard

/-- THE TIED CARD OF 'pewholderlaw3.PkgOnes'. -/
def pkgOnesCard : Claim7 := { stood := { row := pkgOnesRow, standIns := [], harness := (true, "7039e8c711f53c999f40b3ba7fb5c7670371d5c756ebce05d82d06196c634751"), looks := true }, kinds := [], alts := [], laidByText := true, laidKinds := [.data, .data, .data, .data, .sentinel, .sentinel, .sentinel, .sentinel, .sentinel, .sentinel, .sentinel, .sentinel, .sentinel, .pinned], laidTests := true, laidLooks := .later }
def PkgOnesCardSaid : Prop := Claim7.holds Tryz.pinned (.plain (OpenSpec.ofChange pkgOnesSpec)) pkgOnesCard

/-- THE TIED CARD OF 'pewholderlaw3.GetStays'. -/
def getStaysCard : Claim7 := { stood := { row := getStaysRow, standIns := [], harness := (true, "7039e8c711f53c999f40b3ba7fb5c7670371d5c756ebce05d82d06196c634751"), looks := true }, kinds := [], alts := [], laidByText := true, laidKinds := [.data, .data, .data, .data, .sentinel, .sentinel, .sentinel, .sentinel, .sentinel, .sentinel, .sentinel, .sentinel, .sentinel, .sentinel, .pinned], laidTests := true, laidLooks := .later }
def GetStaysCardSaid : Prop := Claim7.holds Tryz.pinned (.plain (OpenSpec.ofChange getStaysSpec)) getStaysCard

/-- THE TIED CARD OF 'pewholderlaw3.GetDoes'. -/
def getDoesCard : Claim7 := { stood := { row := getDoesRow, standIns := [], harness := (true, "7039e8c711f53c999f40b3ba7fb5c7670371d5c756ebce05d82d06196c634751"), looks := true }, kinds := [], alts := [], laidByText := true, laidKinds := [.data, .data, .data, .data, .handle, .sentinel, .sentinel, .sentinel, .sentinel, .sentinel, .sentinel, .sentinel, .sentinel, .sentinel, .sentinel, .sentinel, .sentinel, .pinned], laidTests := true, laidLooks := .later }
def GetDoesCardSaid : Prop := Claim7.holds Tryz.pinned (.plain (OpenSpec.ofChange getDoesSpec)) getDoesCard

/-- THE TIED CARD OF 'pewholderlaw3.GetPins'. -/
def getPinsCard : Claim7 := { stood := { row := getPinsRow, standIns := [], harness := (true, "7039e8c711f53c999f40b3ba7fb5c7670371d5c756ebce05d82d06196c634751"), looks := true }, kinds := [], alts := [], laidByText := true, laidKinds := [.data, .data, .data, .data, .handle, .sentinel, .sentinel, .sentinel, .sentinel, .sentinel, .sentinel, .sentinel, .sentinel, .sentinel, .sentinel, .sentinel, .sentinel, .pinned], laidTests := true, laidLooks := .later }
def GetPinsCardSaid : Prop := Claim7.holds Tryz.pinned (.plain (OpenSpec.ofChange getPinsSpec)) getPinsCard

/-- THE SECOND FORM's CARD OF 'pewholderlaw3.SumsTell'. -/
def sumsTellUptoCard : Claim7 := { stood := { row := sumsTellUptoRow, standIns := [], harness := (true, "7039e8c711f53c999f40b3ba7fb5c7670371d5c756ebce05d82d06196c634751"), looks := true }, kinds := [], alts := [], laidByText := true, laidKinds := [.data, .data, .data, .data, .handle, .sentinel, .sentinel, .sentinel, .sentinel, .sentinel, .sentinel, .sentinel, .sentinel, .sentinel, .sentinel, .sentinel, .sentinel, .pinned], laidTests := true, laidLooks := .later }
def SumsTellUptoCardSaid : Prop := Claim7.holds Tryz.pinned (.plain (OpenSpec.upto sumsTellSpec)) sumsTellUptoCard

/-- THE SECOND FORM's CARD OF 'pewholderlaw3.SumsHold'. -/
def sumsHoldUptoCard : Claim7 := { stood := { row := sumsHoldUptoRow, standIns := [], harness := (true, "7039e8c711f53c999f40b3ba7fb5c7670371d5c756ebce05d82d06196c634751"), looks := true }, kinds := [], alts := [], laidByText := true, laidKinds := [.data, .data, .data, .data, .handle, .sentinel, .sentinel, .sentinel, .sentinel, .sentinel, .sentinel, .sentinel, .sentinel, .sentinel, .sentinel, .sentinel, .sentinel, .pinned], laidTests := true, laidLooks := .later }
def SumsHoldUptoCardSaid : Prop := Claim7.holds Tryz.pinned (.plain (OpenSpec.upto sumsHoldSpec)) sumsHoldUptoCard

/-- THE SECOND FORM's CARD OF 'pewholderlaw3.PkgOnes'. -/
def pkgOnesUptoCard : Claim7 := { stood := { row := pkgOnesUptoRow, standIns := [], harness := (true, "7039e8c711f53c999f40b3ba7fb5c7670371d5c756ebce05d82d06196c634751"), looks := true }, kinds := [], alts := [], laidByText := true, laidKinds := [.data, .data, .data, .data, .sentinel, .sentinel, .sentinel, .sentinel, .sentinel, .sentinel, .sentinel, .sentinel, .sentinel, .pinned], laidTests := true, laidLooks := .later }
def PkgOnesUptoCardSaid : Prop := Claim7.holds Tryz.pinned (.plain (OpenSpec.upto pkgOnesSpec)) pkgOnesUptoCard

/-- THE SECOND FORM's CARD OF 'pewholderlaw3.GetStays'. -/
def getStaysUptoCard : Claim7 := { stood := { row := getStaysUptoRow, standIns := [], harness := (true, "7039e8c711f53c999f40b3ba7fb5c7670371d5c756ebce05d82d06196c634751"), looks := true }, kinds := [], alts := [], laidByText := true, laidKinds := [.data, .data, .data, .data, .sentinel, .sentinel, .sentinel, .sentinel, .sentinel, .sentinel, .sentinel, .sentinel, .sentinel, .sentinel, .pinned], laidTests := true, laidLooks := .later }
def GetStaysUptoCardSaid : Prop := Claim7.holds Tryz.pinned (.plain (OpenSpec.upto getStaysSpec)) getStaysUptoCard

/-- THE SECOND FORM's CARD OF 'pewholderlaw3.GetDoes'. -/
def getDoesUptoCard : Claim7 := { stood := { row := getDoesUptoRow, standIns := [], harness := (true, "7039e8c711f53c999f40b3ba7fb5c7670371d5c756ebce05d82d06196c634751"), looks := true }, kinds := [], alts := [], laidByText := true, laidKinds := [.data, .data, .data, .data, .handle, .sentinel, .sentinel, .sentinel, .sentinel, .sentinel, .sentinel, .sentinel, .sentinel, .sentinel, .sentinel, .sentinel, .sentinel, .pinned], laidTests := true, laidLooks := .later }
def GetDoesUptoCardSaid : Prop := Claim7.holds Tryz.pinned (.plain (OpenSpec.upto getDoesSpec)) getDoesUptoCard

/-- THE SECOND FORM's CARD OF 'pewholderlaw3.GetPins'. -/
def getPinsUptoCard : Claim7 := { stood := { row := getPinsUptoRow, standIns := [], harness := (true, "7039e8c711f53c999f40b3ba7fb5c7670371d5c756ebce05d82d06196c634751"), looks := true }, kinds := [], alts := [], laidByText := true, laidKinds := [.data, .data, .data, .data, .handle, .sentinel, .sentinel, .sentinel, .sentinel, .sentinel, .sentinel, .sentinel, .sentinel, .sentinel, .sentinel, .sentinel, .sentinel, .pinned], laidTests := true, laidLooks := .later }
def GetPinsUptoCardSaid : Prop := Claim7.holds Tryz.pinned (.plain (OpenSpec.upto getPinsSpec)) getPinsUptoCard
end Rows
end Go.Proofs.YtglhgbcebpeomaaGreatDoor
