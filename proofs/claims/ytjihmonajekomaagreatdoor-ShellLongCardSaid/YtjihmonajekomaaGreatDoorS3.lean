/- ShellLong's example, by the kernel; over any memory. Conditions: none. -/
import Derived.Test.YtjihmonajekomaaGreatDoorS2
import Derived.Test.YtjihmonajekomaaGreatDoorAx26
namespace Go.Proofs.YtjihmonajekomaaGreatDoor.Ax
open Go
theorem lives33 : ((acall (funcsOf Tryz.prog []) extS noMt 100 60 (.fn 33) [] H0).map (·.1)) = some (.bool true) := by kernel_rfl
end Go.Proofs.YtjihmonajekomaaGreatDoor.Ax
