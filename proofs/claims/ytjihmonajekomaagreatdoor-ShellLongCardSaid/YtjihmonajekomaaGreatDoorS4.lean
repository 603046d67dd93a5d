/- What the shell's functions answer at the line 'name a', by the kernel. Conditions: none. -/
import Derived.Test.YtjihmonajekomaaGreatDoorS3
namespace Go.Proofs.YtjihmonajekomaaGreatDoor.Ax
open Go
theorem mixed0 : Tryz.prog.follows .mixedOrders = true := by kernel_rfl
theorem nameA : ((acall (funcsOf Tryz.prog []) extS noMt 100 60 (.fn 165) [.str [97]] H0).map (·.1)) = some (.str [65]) := by kernel_rfl
theorem cutA : ((acall (funcsOf Tryz.prog []) extS noMt 100 60 (.fn 160) [.str [110, 97, 109, 101, 32, 97], .str [32]] H0).map (·.1)) = some (.tuple [.str [110, 97, 109, 101], .str [97], .bool true]) := by kernel_rfl
end Go.Proofs.YtjihmonajekomaaGreatDoor.Ax
