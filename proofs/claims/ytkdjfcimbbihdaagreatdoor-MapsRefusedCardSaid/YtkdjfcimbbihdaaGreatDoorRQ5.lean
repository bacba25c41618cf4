/- PART of the proof of MapsRefused: The run of MapsRefused, by the kernel: part 5. No condition. -/
import Derived.Test.YtkdjfcimbbihdaaGreatDoorRQ
/-! The run of MapsRefused, by the kernel: part 5. -/
namespace Go.Proofs.YtkdjfcimbbihdaaGreatDoor.Run
open Go Go.Abs
set_option maxRecDepth 100000
theorem refused241a : RefusedRun (ivQ ⟨1, 1, []⟩ ⟨241, 241, []⟩) := by
  unfold RefusedRun; kernel_rfl
theorem refused241b : RefusedRun (ivQ notOne ⟨241, 241, []⟩) := by
  unfold RefusedRun; kernel_rfl
end Go.Proofs.YtkdjfcimbbihdaaGreatDoor.Run
