/- PART of the proof of VmKnown: The run of VmKnown, by the kernel. No condition. -/
import Derived.Test.YtickjkmfcickcaaGreatDoorRC
import Derived.Test.YtickjkmfcickcaaGreatDoorL1
/-! The run of VmKnown, by the kernel. -/
namespace Go.Proofs.YtickjkmfcickcaaGreatDoor.Run
open Go Go.Abs
set_option maxRecDepth 100000
theorem known_run : gcall (lookM meths) (lgR pickK 30) (fun _ _ => false) (fun _ _ _ _ _ _ => false) tbl 100000 100 4 [] heap ⟨[], [], []⟩ (fun v _ _ => isTrue v) (fun _ _ _ => false) = true := by
  kernel_rfl
end Go.Proofs.YtickjkmfcickcaaGreatDoor.Run
