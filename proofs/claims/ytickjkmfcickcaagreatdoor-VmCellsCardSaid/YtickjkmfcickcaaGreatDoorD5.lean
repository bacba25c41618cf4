/- PART of the proof of VmCells: the rest of the closed facts of the row. Condition: the four parts that are proved beside it. -/
import Derived.Test.YtickjkmfcickcaaGreatDoorRC
import Derived.Test.YtickjkmfcickcaaGreatDoorTie
import Derived.Test.YtickjkmfcickcaaGreatDoorCards
import Derived.ProofKit
import Derived.LaidMore
import Derived.OpenShut
import Derived.ChangeSame
import Derived.SevenTiedAt
import Derived.Stop.Joined
namespace Go.Proofs.YtickjkmfcickcaaGreatDoor.vmCells
open Go Go.Abs Go.ChangeShapes Go.WideShapes Go.ChangeAt Go.RowKit
open Run (tbl meths ints ents)
theorem joined_of (d1 : (Rows.vmCellsRow.inPlace == Tryz.pinned.checked.prog.inPlace 3) = true) (d2 : (Rows.vmCellsRow.unfollowed == Tryz.pinned.checked.prog.unfollowed 3) = true) (d3 : (Rows.vmCellsRow.recurses == Tryz.pinned.checked.prog.recurses 3) = true) (d4 : (Rows.vmCellsRow.named == Tryz.pinned.checked.prog.varsNamed 3) = true) : joinedFacts Tryz.pinned.checked.prog 3 Tryz.f3 Rows.vmCellsSpec Rows.vmCellsRow = true := by
  unfold joinedFacts
  rw [d1, d2, d3, d4]
  kernel_rfl
end Go.Proofs.YtickjkmfcickcaaGreatDoor.vmCells
