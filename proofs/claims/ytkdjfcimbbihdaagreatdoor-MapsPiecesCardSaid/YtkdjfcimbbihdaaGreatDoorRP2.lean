/- PART of the proof of MapsPieces: The run of MapsPieces, by the kernel: part 3. No condition. -/
import Derived.Test.YtkdjfcimbbihdaaGreatDoorRP
/-! The run of MapsPieces, by the kernel: part 3. -/
namespace Go.Proofs.YtkdjfcimbbihdaaGreatDoor.Run
open Go Go.Abs
set_option maxRecDepth 100000
theorem pieces2 : PiecesRun (ivP 1 1 0 7) := by
  unfold PiecesRun; kernel_rfl
end Go.Proofs.YtkdjfcimbbihdaaGreatDoor.Run
