/- PART of the proof of VmCounts: closed facts on a heap in which the condition is met. No condition. -/
import Derived.Test.YtickjkmfcickcaaGreatDoorRC
import Derived.Test.YtickjkmfcickcaaGreatDoorTie
import Derived.Test.YtickjkmfcickcaaGreatDoorCards
import Derived.ProofKit
import Derived.LaidMore
import Derived.OpenShut
import Derived.ChangeSame
import Derived.SevenTiedAt
import Derived.Stop.Joined
namespace Go.Proofs.YtickjkmfcickcaaGreatDoor.vmCounts
open Go Go.Abs Go.ChangeShapes Go.WideShapes Go.ChangeAt Go.RowKit
open Run (tbl meths ints ents)
theorem q2 (os : Os) : (((World.doorLaid Tryz.prog 400 os).forCall (fun _ _ => 0) ⟨#[], #[.int .i64 0], []⟩).heap.toList.drop Tryz.prog.globals.size).take ((begin Tryz.prog (fun _ _ => 0) default).world.heap.size - Tryz.prog.globals.size) =
      (begin Tryz.prog (fun _ _ => 0) default).world.heap.toList.drop Tryz.prog.globals.size := by kernel_rfl
theorem q3 (os : Os) : Input.okWideB Tryz.prog ((World.doorLaid Tryz.prog 400 os).forCall (fun _ _ => 0) ⟨#[], #[.int .i64 0], []⟩) 5 ⟨#[], #[.int .i64 0], []⟩ = true := by kernel_rfl
theorem q4 (os : Os) (H : Type) (enc : TypeId × Value → H) : Rows.vmCountsSpec.preB enc Tryz.prog Tryz.f5 [] false ((World.doorLaid Tryz.prog 400 os).forCall (fun _ _ => 0) ⟨#[], #[.int .i64 0], []⟩).memory #[.int .i64 0] 8 = true := by kernel_rfl
theorem q5 (os : Os) (H : Type) (enc : TypeId × Value → H) : Rows.vmCountsSpec.sizedB enc Tryz.prog Tryz.f5 false ((World.doorLaid Tryz.prog 400 os).forCall (fun _ _ => 0) ⟨#[], #[.int .i64 0], []⟩).memory #[.int .i64 0] 8 = true := by kernel_rfl
end Go.Proofs.YtickjkmfcickcaaGreatDoor.vmCounts
