/-
  DERIVED. GIVEN WITH THE SEED: THE CARDS: each row of YtaiabafbngnljaaDoorRows.lean that lists a variable, with what it lists TIED to the program's text (the seventh form; the later family's looks); each row that meets fmt, with fmt's text TOLD by the authors' own Lean function (tested against real Go, not proved from fmt's source: count such statements apart). THE CARD IS WHAT COUNTS. Prove the row's statement (the work); the ties are given (YtaiabafbngnljaaDoorTie.lean); close each card by the builder's one call (the guide's Derived/Test/ToyasCard.lean, 'card_holds'). Laid BY PROGRAM, IN A SANDBOX (cutbox-door.mjs). By AI agents, Wed Nov 11 2026. No macro, syntax, notation, axiom, sorry.
-/
import Derived.Test.YtaiabafbngnljaaDoorRows
import GoSem.ClaimSeven
namespace Go.Proofs.YtaiabafbngnljaaDoor
namespace Rows

/-- THE TIED CARD OF 'pewholderlaw1.Names'. -/
def namesCard : Claim7 := { stood := { row := namesRow, standIns := [], harness := (true, "bad9465dd68a7d8c5275ff39c924c2220df7f7ad4630b51665e0df63ce681e5b"), looks := true }, kinds := [], alts := [], laidByText := true, laidKinds := [.handle, .sentinel, .sentinel, .sentinel, .sentinel, .sentinel, .sentinel, .sentinel, .sentinel, .sentinel, .sentinel], laidTests := true, laidLooks := .later }
def NamesCardSaid : Prop := Claim7.holds Tryd.pinned (.plain (OpenSpec.ofChange namesSpec)) namesCard

/-- THE TIED CARD OF 'pewholderlaw3.PatAny'. -/
def patAnyCard : Claim7 := { stood := { row := patAnyRow, standIns := [], harness := (true, "bad9465dd68a7d8c5275ff39c924c2220df7f7ad4630b51665e0df63ce681e5b"), looks := true }, kinds := [], alts := [], laidByText := true, laidKinds := [.data, .pinned], laidTests := true, laidLooks := .later }
def PatAnyCardSaid : Prop := Claim7.holds Tryd.pinned (.plain (OpenSpec.ofChange patAnySpec)) patAnyCard

/-- THE TIED CARD OF 'pewholderlaw1.ModBack'. -/
def modBackCard : Claim7 := { stood := { row := modBackRow, standIns := [], harness := (true, "bad9465dd68a7d8c5275ff39c924c2220df7f7ad4630b51665e0df63ce681e5b"), looks := true }, kinds := [], alts := [], laidByText := true, laidKinds := [.data, .data, .data, .data, .sentinel, .sentinel, .sentinel, .sentinel, .sentinel, .pinned], laidTests := true, laidLooks := .later }
def ModBackCardSaid : Prop := Claim7.holds Tryd.pinned (.plain (OpenSpec.ofChange modBackSpec)) modBackCard

/-- THE SECOND FORM's CARD OF 'pewholderlaw1.Names'. -/
def namesUptoCard : Claim7 := { stood := { row := namesUptoRow, standIns := [], harness := (true, "bad9465dd68a7d8c5275ff39c924c2220df7f7ad4630b51665e0df63ce681e5b"), looks := true }, kinds := [], alts := [], laidByText := true, laidKinds := [.handle, .sentinel, .sentinel, .sentinel, .sentinel, .sentinel, .sentinel, .sentinel, .sentinel, .sentinel, .sentinel], laidTests := true, laidLooks := .later }
def NamesUptoCardSaid : Prop := Claim7.holds Tryd.pinned (.plain (OpenSpec.upto namesSpec)) namesUptoCard

/-- THE SECOND FORM's CARD OF 'pewholderlaw3.PatAny'. -/
def patAnyUptoCard : Claim7 := { stood := { row := patAnyUptoRow, standIns := [], harness := (true, "bad9465dd68a7d8c5275ff39c924c2220df7f7ad4630b51665e0df63ce681e5b"), looks := true }, kinds := [], alts := [], laidByText := true, laidKinds := [.data, .pinned], laidTests := true, laidLooks := .later }
def PatAnyUptoCardSaid : Prop := Claim7.holds Tryd.pinned (.plain (OpenSpec.upto patAnySpec)) patAnyUptoCard

/-- THE SECOND FORM's CARD OF 'pewholderlaw1.ModBack'. -/
def modBackUptoCard : Claim7 := { stood := { row := modBackUptoRow, standIns := [], harness := (true, "bad9465dd68a7d8c5275ff39c924c2220df7f7ad4630b51665e0df63ce681e5b"), looks := true }, kinds := [], alts := [], laidByText := true, laidKinds := [.data, .data, .data, .data, .sentinel, .sentinel, .sentinel, .sentinel, .sentinel, .pinned], laidTests := true, laidLooks := .later }
def ModBackUptoCardSaid : Prop := Claim7.holds Tryd.pinned (.plain (OpenSpec.upto modBackSpec)) modBackUptoCard
end Rows
end Go.Proofs.YtaiabafbngnljaaDoor
