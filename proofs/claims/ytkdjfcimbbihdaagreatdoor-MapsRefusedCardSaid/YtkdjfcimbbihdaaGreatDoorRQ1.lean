/- PART of the proof of MapsRefused: The run of MapsRefused, by the kernel: part 1. No condition. -/
import Derived.Test.YtkdjfcimbbihdaaGreatDoorRQ
/-! The run of MapsRefused, by the kernel: part 1. -/
namespace Go.Proofs.YtkdjfcimbbihdaaGreatDoor.Run
open Go Go.Abs
set_option maxRecDepth 100000
theorem refused1a : RefusedRun (ivQ ⟨1, 1, []⟩ ⟨1, 1, []⟩) := by
  unfold RefusedRun; kernel_rfl
theorem refused1b : RefusedRun (ivQ notOne ⟨1, 1, []⟩) := by
  unfold RefusedRun; kernel_rfl
theorem refused64a : RefusedRun (ivQ ⟨1, 1, []⟩ ⟨64, 64, []⟩) := by
  unfold RefusedRun; kernel_rfl
theorem refused64b : RefusedRun (ivQ notOne ⟨64, 64, []⟩) := by
  unfold RefusedRun; kernel_rfl
end Go.Proofs.YtkdjfcimbbihdaaGreatDoor.Run
