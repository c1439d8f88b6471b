/- Closed facts of the program that every tied card of this seat asks for. -/
import Derived.Test.YtknocbhocdenoaaGreatDoorCards
import Derived.SevenTiedAt
import Derived.KernelRfl
namespace Go.Proofs.YtknocbhocdenoaaGreatDoor
open Go
theorem p_main : Tryz.pinned.checked.prog.mainIs = some (true, "9abeb16d8adb9a1320dcc905a9192c230b8dbeb117e6934aeee7d1c6e9696810".toList) := by kernel_rfl
theorem p_looks : true = Tryz.pinned.checked.prog.looks [] := by kernel_rfl
theorem p_node : Tryz.prog.wantsStandIn 35 = false := by kernel_rfl
end Go.Proofs.YtknocbhocdenoaaGreatDoor
