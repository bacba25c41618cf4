/- PART of the proof of MapsPieces: The run of MapsPieces, by the kernel: part 2. No condition. -/
import Derived.Test.YtkdjfcimbbihdaaGreatDoorRP
/-! The run of MapsPieces, by the kernel: part 2. -/
namespace Go.Proofs.YtkdjfcimbbihdaaGreatDoor.Run
open Go Go.Abs
set_option maxRecDepth 100000
theorem pieces1 : PiecesRun (ivP 0 0 4 7) := by
  unfold PiecesRun; kernel_rfl
end Go.Proofs.YtkdjfcimbbihdaaGreatDoor.Run
