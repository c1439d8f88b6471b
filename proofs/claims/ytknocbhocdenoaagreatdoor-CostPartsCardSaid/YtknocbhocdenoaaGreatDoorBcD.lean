/- Closed facts of the program that every row of this seat asks for, each one evaluated by itself. -/
import Derived.Test.YtknocbhocdenoaaGreatDoorRows
import Derived.JoinedOf
import Derived.KernelRfl
namespace Go.Proofs.YtknocbhocdenoaaGreatDoor
open Go
theorem p_k2 : (laidOutB Tryz.prog : Bool) = true := by kernel_rfl
theorem p_k3 : (mapsRowed Tryz.prog : Bool) = true := by kernel_rfl
theorem p_k7 : ((Tryz.prog.stops == []) : Bool) = true := by kernel_rfl
theorem p_k9 : ((Tryz.prog.stopKnobs == []) : Bool) = true := by kernel_rfl
theorem p_k22 : ((Rows.costSizesRow.plainKeys == Tryz.prog.plainKeys) : Bool) = true := by kernel_rfl
theorem p_k23b : (Tryz.prog.stopsHeard : Bool) = true := by kernel_rfl
theorem p_k24 : (Tryz.prog.mayEnter : Bool) = true := by kernel_rfl
theorem p_k24b : ((Rows.costSizesRow.lifted == Tryz.prog.liftsFinal) : Bool) = true := by kernel_rfl
theorem p_k24c : ((Tryz.prog.make == some Rows.costSizesRow.make) : Bool) = true := by kernel_rfl
end Go.Proofs.YtknocbhocdenoaaGreatDoor
