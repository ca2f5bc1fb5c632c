/- Facts of the program that the row asks for, each by itself. -/
import Derived.Test.YtmbohkdfdolkkaaGreatDoorRows
import Derived.Test.YtmbohkdfdolkkaaGreatDoorCards
import Derived.JoinedOf
namespace Go.Proofs.YtmbohkdfdolkkaaGreatDoor
open Go
set_option maxRecDepth 100000
theorem en_inPlace : (Rows.engineNoneRow.inPlace == Tryz.pinned.checked.prog.inPlace 6) = true := by kernel_rfl
theorem en_unfollowed : (Rows.engineNoneRow.unfollowed == Tryz.pinned.checked.prog.unfollowed 6) = true := by kernel_rfl
theorem en_recurses : (Rows.engineNoneRow.recurses == Tryz.pinned.checked.prog.recurses 6) = true := by kernel_rfl
theorem en_named : (Rows.engineNoneRow.named == Tryz.pinned.checked.prog.varsNamed 6) = true := by kernel_rfl
theorem en_maps : mapsRowed Tryz.pinned.checked.prog = true := by kernel_rfl
theorem en_looks : true = Tryz.pinned.checked.prog.looks [] := by kernel_rfl
end Go.Proofs.YtmbohkdfdolkkaaGreatDoor
