/- Closed facts of the seat's program that every law's last text uses. -/
import Derived.Test.YtfkimddlgopgbaaGreatDoorLaw
import Derived.Test.YtfkimddlgopgbaaGreatDoorRows
namespace Go.Proofs.Pw
open Go.RowKit
theorem Tryz.factLaid : laidOutB Tryz.prog = true := by kernel_rfl
theorem Tryz.factMaps : mapsRowed Tryz.prog = true := by kernel_rfl
end Go.Proofs.Pw
