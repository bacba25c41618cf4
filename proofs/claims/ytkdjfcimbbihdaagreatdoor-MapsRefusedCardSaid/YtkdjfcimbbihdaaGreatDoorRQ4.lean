/- PART of the proof of MapsRefused: The run of MapsRefused, by the kernel: part 4. No condition. -/
import Derived.Test.YtkdjfcimbbihdaaGreatDoorRQ
/-! The run of MapsRefused, by the kernel: part 4. -/
namespace Go.Proofs.YtkdjfcimbbihdaaGreatDoor.Run
open Go Go.Abs
set_option maxRecDepth 100000
theorem refused161a : RefusedRun (ivQ ⟨1, 1, []⟩ ⟨161, 161, []⟩) := by
  unfold RefusedRun; kernel_rfl
theorem refused161b : RefusedRun (ivQ notOne ⟨161, 161, []⟩) := by
  unfold RefusedRun; kernel_rfl
theorem refused225a : RefusedRun (ivQ ⟨1, 1, []⟩ ⟨225, 225, []⟩) := by
  unfold RefusedRun; kernel_rfl
theorem refused225b : RefusedRun (ivQ notOne ⟨225, 225, []⟩) := by
  unfold RefusedRun; kernel_rfl
end Go.Proofs.YtkdjfcimbbihdaaGreatDoor.Run
