/- PART of the proof of CallsKnown: The run of CallsKnown, by the kernel. No condition. -/
import Derived.Test.YtecebpjfidpchaaGreatRC
/-! The run of CallsKnown, by the kernel. -/
namespace Go.Proofs.YtecebpjfidpchaaGreat.Run
open Go Go.Abs
set_option maxRecDepth 100000
theorem callsKnown_run : gcall (lookM meths) lg0 (fun _ _ => false) (fun _ _ _ _ _ _ => false) tbl 100000 100 3 [] heap ⟨[], [], []⟩ (fun v _ _ => isTrue v) (fun _ _ _ => false) = true := by
  kernel_rfl
end Go.Proofs.YtecebpjfidpchaaGreat.Run
