/- PART of the proof of MapsRefused: The run of MapsRefused, by the kernel: part 3. No condition. -/
import Derived.Test.YtkdjfcimbbihdaaGreatDoorRQ
/-! The run of MapsRefused, by the kernel: part 3. -/
namespace Go.Proofs.YtkdjfcimbbihdaaGreatDoor.Run
open Go Go.Abs
set_option maxRecDepth 100000
theorem refused81a : RefusedRun (ivQ ⟨1, 1, []⟩ ⟨81, 81, []⟩) := by
  unfold RefusedRun; kernel_rfl
theorem refused81b : RefusedRun (ivQ notOne ⟨81, 81, []⟩) := by
  unfold RefusedRun; kernel_rfl
theorem refused160a : RefusedRun (ivQ ⟨1, 1, []⟩ ⟨160, 160, []⟩) := by
  unfold RefusedRun; kernel_rfl
theorem refused160b : RefusedRun (ivQ notOne ⟨160, 160, []⟩) := by
  unfold RefusedRun; kernel_rfl
end Go.Proofs.YtkdjfcimbbihdaaGreatDoor.Run
