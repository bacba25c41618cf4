/- PART of the proof of VmCounts: closed facts of the row. No condition. -/
import Derived.Test.YtickjkmfcickcaaGreatDoorRC
import Derived.Test.YtickjkmfcickcaaGreatDoorTie
import Derived.Test.YtickjkmfcickcaaGreatDoorCards
import Derived.ProofKit
import Derived.LaidMore
import Derived.OpenShut
import Derived.ChangeSame
import Derived.SevenTiedAt
import Derived.Stop.Joined
namespace Go.Proofs.YtickjkmfcickcaaGreatDoor.vmCounts
open Go Go.Abs Go.ChangeShapes Go.WideShapes Go.ChangeAt Go.RowKit
open Run (tbl meths ints ents)
set_option maxRecDepth 100000
theorem fact1 : Rows.vmCountsRow.wfByText (OpenSpec.ofChange Rows.vmCountsSpec) = true := by kernel_rfl
theorem fact2 : Tryz.pinned.checked.prog.mainIs = some (true, ("abcd240fbcfbcbd914fd404af745913178d8c06ba4643bff6ad1371a801c3c86" : String).toList) := by kernel_rfl
theorem fact3 : true = Tryz.pinned.checked.prog.looks [] := by kernel_rfl
theorem fact4 : false = Rows.vmCountsRow.goesBy Tryz.pinned.checked.prog := by kernel_rfl
theorem fact5 : Tryz.prog.funcNamed "crossbar/crossbarlaw27.VmCounts" = some 5 := by kernel_rfl
end Go.Proofs.YtickjkmfcickcaaGreatDoor.vmCounts
