/- PART of the proof of MapsRefused: The run of MapsRefused, by the kernel: part 2. No condition. -/
import Derived.Test.YtkdjfcimbbihdaaGreatDoorRQ
/-! The run of MapsRefused, by the kernel: part 2. -/
namespace Go.Proofs.YtkdjfcimbbihdaaGreatDoor.Run
open Go Go.Abs
set_option maxRecDepth 100000
theorem refused65a : RefusedRun (ivQ ⟨1, 1, []⟩ ⟨65, 65, []⟩) := by
  unfold RefusedRun; kernel_rfl
theorem refused65b : RefusedRun (ivQ notOne ⟨65, 65, []⟩) := by
  unfold RefusedRun; kernel_rfl
theorem refused80a : RefusedRun (ivQ ⟨1, 1, []⟩ ⟨80, 80, []⟩) := by
  unfold RefusedRun; kernel_rfl
theorem refused80b : RefusedRun (ivQ notOne ⟨80, 80, []⟩) := by
  unfold RefusedRun; kernel_rfl
end Go.Proofs.YtkdjfcimbbihdaaGreatDoor.Run
