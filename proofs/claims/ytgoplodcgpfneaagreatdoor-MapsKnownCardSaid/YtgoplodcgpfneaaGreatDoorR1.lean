/- PART of the proof of MapsKnown: the run of the law, by the kernel. No condition. -/
import Derived.Test.YtgoplodcgpfneaaGreatDoorT2
import Derived.Test.YtgoplodcgpfneaaGreatDoorV25
namespace Go.Proofs.YtgoplodcgpfneaaGreatDoor.Run
open Go Go.Abs
set_option maxRecDepth 100000
def ints : List Int := [0, 64, 80, 160, 1, 65, 81, 161, 225, 241]
def ents : List (Int × Int) := [(0, 0), (64, 64), (80, 80), (160, 160)]
def heap : H := ⟨(.n (.n .e (some (.cells true 10 (.n (.n (.n (.n .e (some (.int .i64 161)) .e) (some (.int .i64 160)) .e) (some (.int .i64 64)) (.n (.n .e (some (.int .i64 241)) .e) (some (.int .i64 65)) .e)) (some (.int .i64 0)) (.n (.n (.n .e (some (.int .i64 225)) .e) (some (.int .i64 1)) .e) (some (.int .i64 80)) (.n .e (some (.int .i64 81)) .e))))) .e) (some (.cells true 1 (.n .e (some (.map 2)) .e))) (.n .e (some (.map true [(.int .i64 0, .int .i64 0), (.int .i64 64, .int .i64 64), (.int .i64 80, .int .i64 80), (.int .i64 160, .int .i64 160)])) .e)), 3⟩
theorem heap_eq : startH .i64 ints ents = heap := by kernel_rfl
/-- THE RUN, by the kernel. -/
theorem runs : fcall (lookM meths) tbl 100000 100 5 [] heap (fun v _ => match v with | .bool b => b | _ => false) = true := by kernel_rfl
end Go.Proofs.YtgoplodcgpfneaaGreatDoor.Run
