/- PART of the proof of MapsPieces: The run of MapsPieces, by the kernel: part 4. No condition. -/
import Derived.Test.YtkdjfcimbbihdaaGreatDoorRP
/-! The run of MapsPieces, by the kernel: part 4. -/
namespace Go.Proofs.YtkdjfcimbbihdaaGreatDoor.Run
open Go Go.Abs
set_option maxRecDepth 100000
theorem pieces3 : PiecesRun (ivP 2 3 0 7) := by
  unfold PiecesRun; kernel_rfl
end Go.Proofs.YtkdjfcimbbihdaaGreatDoor.Run
