/-
  DERIVED. GIVEN WITH THE SEED: THE CARDS: each row of YtaelindfneoajaaDoorRows.lean that lists a variable, with what it lists TIED to the program's text (the seventh form; the later family's looks); each row that meets fmt, with fmt's text TOLD by the authors' own Lean function (tested against real Go, not proved from fmt's source: count such statements apart). THE CARD IS WHAT COUNTS. Prove the row's statement (the work); the ties are given (YtaelindfneoajaaDoorTie.lean); close each card by the builder's one call (the guide's Derived/Test/ToyasCard.lean, 'card_holds'). Laid BY PROGRAM, IN A SANDBOX (cutbox-door.mjs). By AI agents, Wed Nov 11 2026. No macro, syntax, notation, axiom, sorry.
-/
import Derived.Test.YtaelindfneoajaaDoorRows
import GoSem.ClaimSeven
namespace Go.Proofs.YtaelindfneoajaaDoor
namespace Rows

/-- THE TIED CARD OF 'pewholderlaw3.PatAny'. -/
def patAnyCard : Claim7 := { stood := { row := patAnyRow, standIns := [], harness := (true, "294b880cd28177439842e369fcfa4cf858be1e4bbec6ba731b0e439014f90281"), looks := false }, kinds := [], alts := [], laidByText := true, laidKinds := [.data, .pinned], laidTests := true, laidLooks := .later }
def PatAnyCardSaid : Prop := Claim7.holds Tryd.pinned (.plain (OpenSpec.ofChange patAnySpec)) patAnyCard

/-- THE SECOND FORM's CARD OF 'pewholderlaw3.PatAny'. -/
def patAnyUptoCard : Claim7 := { stood := { row := patAnyUptoRow, standIns := [], harness := (true, "294b880cd28177439842e369fcfa4cf858be1e4bbec6ba731b0e439014f90281"), looks := false }, kinds := [], alts := [], laidByText := true, laidKinds := [.data, .pinned], laidTests := true, laidLooks := .later }
def PatAnyUptoCardSaid : Prop := Claim7.holds Tryd.pinned (.plain (OpenSpec.upto patAnySpec)) patAnyUptoCard
end Rows
end Go.Proofs.YtaelindfneoajaaDoor
