/- PART of the proof of MapsRefused: The run of MapsRefused, by the kernel: part 0. No condition. -/
import Derived.Test.YtkdjfcimbbihdaaGreatDoorRQ
/-! The run of MapsRefused, by the kernel: part 0. -/
namespace Go.Proofs.YtkdjfcimbbihdaaGreatDoor.Run
open Go Go.Abs
set_option maxRecDepth 100000
theorem refusedra : RefusedRun (ivQ ⟨1, 1, []⟩ rest) := by
  unfold RefusedRun; kernel_rfl
theorem refusedrb : RefusedRun (ivQ notOne rest) := by
  unfold RefusedRun; kernel_rfl
theorem refused0a : RefusedRun (ivQ ⟨1, 1, []⟩ ⟨0, 0, []⟩) := by
  unfold RefusedRun; kernel_rfl
theorem refused0b : RefusedRun (ivQ notOne ⟨0, 0, []⟩) := by
  unfold RefusedRun; kernel_rfl
end Go.Proofs.YtkdjfcimbbihdaaGreatDoor.Run
