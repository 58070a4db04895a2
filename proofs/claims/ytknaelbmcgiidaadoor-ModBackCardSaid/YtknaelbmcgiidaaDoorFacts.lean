/- Closed facts of the seat's program that every law's last text uses. -/
import Derived.Test.YtknaelbmcgiidaaDoorLaw
import Derived.Test.YtknaelbmcgiidaaDoorRows
namespace Go.Proofs.Pw
open Go.RowKit
theorem Tryd.factLaid : laidOutB Tryd.prog = true := by kernel_rfl
theorem Tryd.factMaps : mapsRowed Tryd.prog = true := by kernel_rfl
end Go.Proofs.Pw
