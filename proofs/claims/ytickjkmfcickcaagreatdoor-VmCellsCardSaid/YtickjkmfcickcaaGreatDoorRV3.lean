/- PART of the proof of VmCells: The run of VmCells, by the kernel: part 3. No condition. -/
import Derived.Test.YtickjkmfcickcaaGreatDoorRV
/-! The run of VmCells, by the kernel: part 3. -/
namespace Go.Proofs.YtickjkmfcickcaaGreatDoor.Run
open Go Go.Abs
set_option maxRecDepth 100000
theorem cells3 : CellsRun false (ivV (-9223372036854775808) (-1)) := by
  unfold CellsRun; kernel_rfl
end Go.Proofs.YtickjkmfcickcaaGreatDoor.Run
