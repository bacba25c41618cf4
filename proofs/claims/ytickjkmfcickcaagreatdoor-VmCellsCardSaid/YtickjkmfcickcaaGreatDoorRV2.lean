/- PART of the proof of VmCells: The run of VmCells, by the kernel: part 2. No condition. -/
import Derived.Test.YtickjkmfcickcaaGreatDoorRV
/-! The run of VmCells, by the kernel: part 2. -/
namespace Go.Proofs.YtickjkmfcickcaaGreatDoor.Run
open Go Go.Abs
set_option maxRecDepth 100000
theorem cells2 : CellsRun false (ivV 0 9223372036854775807) := by
  unfold CellsRun; kernel_rfl
end Go.Proofs.YtickjkmfcickcaaGreatDoor.Run
