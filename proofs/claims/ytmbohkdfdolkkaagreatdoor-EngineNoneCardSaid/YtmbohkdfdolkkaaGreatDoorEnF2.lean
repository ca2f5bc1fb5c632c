/- Facts of the program that the row asks for, each by itself. -/
import Derived.Test.YtmbohkdfdolkkaaGreatDoorRows
import Derived.Test.YtmbohkdfdolkkaaGreatDoorCards
import Derived.JoinedOf
namespace Go.Proofs.YtmbohkdfdolkkaaGreatDoor
open Go
set_option maxRecDepth 100000
theorem en_goes : false = Rows.engineNoneRow.goesBy Tryz.pinned.checked.prog := by kernel_rfl
end Go.Proofs.YtmbohkdfdolkkaaGreatDoor
