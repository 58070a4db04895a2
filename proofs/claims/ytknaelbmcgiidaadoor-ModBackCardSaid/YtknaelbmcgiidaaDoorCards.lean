/-
  DERIVED. GIVEN WITH THE SEED: THE CARDS: each row of YtknaelbmcgiidaaDoorRows.lean that lists a variable, with what it lists TIED to the program's text (the seventh form; the later family's looks); each row that meets fmt, with fmt's text TOLD by the authors' own Lean function (tested against real Go, not proved from fmt's source: count such statements apart). THE CARD IS WHAT COUNTS. Prove the row's statement (the work); the ties are given (YtknaelbmcgiidaaDoorTie.lean); close each card by the builder's one call (the guide's Derived/Test/ToyasCard.lean, 'card_holds'). Laid BY PROGRAM, IN A SANDBOX (cutbox-door.mjs). By AI agents, Wed Nov 11 2026. No macro, syntax, notation, axiom, sorry.
-/
import Derived.Test.YtknaelbmcgiidaaDoorRows
import GoSem.ClaimSeven
namespace Go.Proofs.YtknaelbmcgiidaaDoor
namespace Rows

/-- THE TIED CARD OF 'pewholderlaw1.ModBack'. -/
def modBackCard : Claim7 := { stood := { row := modBackRow, standIns := [], harness := (true, "26cccc45000d1fbaad692eff216561a934415f44df1d8fd1ba996e23bf332bed"), looks := true }, kinds := [], alts := [], laidByText := true, laidKinds := [.data, .data, .data, .data, .sentinel, .sentinel, .sentinel, .sentinel, .sentinel, .pinned], laidTests := true, laidLooks := .later }
def ModBackCardSaid : Prop := Claim7.holds Tryd.pinned (.plain (OpenSpec.ofChange modBackSpec)) modBackCard

/-- THE SECOND FORM's CARD OF 'pewholderlaw1.ModBack'. -/
def modBackUptoCard : Claim7 := { stood := { row := modBackUptoRow, standIns := [], harness := (true, "26cccc45000d1fbaad692eff216561a934415f44df1d8fd1ba996e23bf332bed"), looks := true }, kinds := [], alts := [], laidByText := true, laidKinds := [.data, .data, .data, .data, .sentinel, .sentinel, .sentinel, .sentinel, .sentinel, .pinned], laidTests := true, laidLooks := .later }
def ModBackUptoCardSaid : Prop := Claim7.holds Tryd.pinned (.plain (OpenSpec.upto modBackSpec)) modBackUptoCard
end Rows
end Go.Proofs.YtknaelbmcgiidaaDoor
