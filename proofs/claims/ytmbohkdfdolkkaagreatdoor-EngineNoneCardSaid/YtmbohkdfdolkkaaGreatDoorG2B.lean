/- What all laws of this seat share. -/
import Derived.Test.YtmbohkdfdolkkaaGreatDoorG2S
import Derived.Test.YtmbohkdfdolkkaaGreatDoorAiIn
import Derived.Test.YtmbohkdfdolkkaaGreatDoorAiCrc
import Derived.Test.YtmbohkdfdolkkaaGreatDoorRows
import Derived.Test.YtmbohkdfdolkkaaGreatDoorTie
import Derived.Test.YtmbohkdfdolkkaaGreatDoorCards
import Derived.ProofKit
import Derived.LaidMore
import Derived.OpenShut
import Derived.Stop.Joined
import Derived.JoinedOf
namespace Go.Proofs.YtmbohkdfdolkkaaGreatDoor
open Go Go.Ai Go.ChangeShapes Go.WideShapes Go.RowKit Go.ChangeMaps
set_option maxRecDepth 100000
theorem own : ownKnob Tryz.prog.godebug = none := by kernel_rfl
theorem laidOut : laidOutB Tryz.prog = true := by kernel_rfl
theorem mixed : Tryz.prog.follows .mixedOrders = true := by kernel_rfl
theorem noGor : (Tryz.prog.funcs.toList.all fun fn => !(fn.name == "runtime.NumGoroutine")) = true := by kernel_rfl
theorem fits : Fits (Tab.of Tryz.prog) Tryz.prog := Fits.of Tryz.prog fun f fn h => by
  have := List.all_eq_true.1 noGor fn (Array.mem_toList_iff.2 (Array.mem_of_getElem? h))
  simpa using this
theorem door_met (os : Os) (args : Array Value) : laidMetH Tryz.prog Rows.engineNoneRow.laid ((World.doorLaid Tryz.prog 400 os).forCall (fun _ _ => 0) ⟨#[], args, []⟩).memory :=
  laidMetH_of_parts3 (fuel := 8) (laidMet_of_run' 8 (by kernel_rfl) (by kernel_rfl)) (by kernel_rfl) (by kernel_rfl)
theorem door_shaped (os : Os) (args : Array Value) : ((World.doorLaid Tryz.prog 400 os).forCall (fun _ _ => 0) ⟨#[], args, []⟩).Shaped Tryz.prog := World.shaped_of_RefB (by kernel_rfl) (by kernel_rfl)
theorem readable (l : List TypeId) (h : (l.all fun u => Tryz.prog.readableRec u && decide (u < Tryz.prog.types.size)) = true) : ∀ t ∈ l, Tryz.prog.readableRec t = true ∧ t < Tryz.prog.types.size := by
  intro t ht
  have hx := List.all_eq_true.1 h t ht
  rw [Bool.and_eq_true] at hx
  exact ⟨hx.1, of_decide_eq_true hx.2⟩
end Go.Proofs.YtmbohkdfdolkkaaGreatDoor
