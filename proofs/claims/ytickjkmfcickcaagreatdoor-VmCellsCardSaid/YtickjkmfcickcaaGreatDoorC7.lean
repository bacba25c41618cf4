/- PART of the proof of VmCells: closed facts of the row. No condition. -/
import Derived.Test.YtickjkmfcickcaaGreatDoorRC
import Derived.Test.YtickjkmfcickcaaGreatDoorTie
import Derived.Test.YtickjkmfcickcaaGreatDoorCards
import Derived.SevenTiedAt
namespace Go.Proofs.YtickjkmfcickcaaGreatDoor.vmCells
open Go

set_option maxRecDepth 100000
theorem fact1 : Rows.vmCellsRow.wfByText (OpenSpec.ofChange Rows.vmCellsSpec) = true := by kernel_rfl
theorem fact2 : Tryz.pinned.checked.prog.mainIs = some (true, ("abcd240fbcfbcbd914fd404af745913178d8c06ba4643bff6ad1371a801c3c86" : String).toList) := by kernel_rfl
theorem fact3 : true = Tryz.pinned.checked.prog.looks [] := by kernel_rfl
theorem fact4 : false = Rows.vmCellsRow.goesBy Tryz.pinned.checked.prog := by kernel_rfl
theorem fact5 : Tryz.prog.funcNamed "crossbar/crossbarlaw27.VmCells" = some 3 := by kernel_rfl
end Go.Proofs.YtickjkmfcickcaaGreatDoor.vmCells
