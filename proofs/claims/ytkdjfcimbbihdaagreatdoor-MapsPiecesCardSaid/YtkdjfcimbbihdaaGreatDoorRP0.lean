/- PART of the proof of MapsPieces: The run of MapsPieces, by the kernel: part 1. No condition. -/
import Derived.Test.YtkdjfcimbbihdaaGreatDoorRP
/-! The run of MapsPieces, by the kernel: part 1. -/
namespace Go.Proofs.YtkdjfcimbbihdaaGreatDoor.Run
open Go Go.Abs
set_option maxRecDepth 100000
theorem pieces0 : PiecesRun (ivP 0 0 0 3) := by
  unfold PiecesRun; kernel_rfl
end Go.Proofs.YtkdjfcimbbihdaaGreatDoor.Run
