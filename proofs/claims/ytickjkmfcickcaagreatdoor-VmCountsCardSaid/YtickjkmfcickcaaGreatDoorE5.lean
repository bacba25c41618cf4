/- PART of the proof of VmCounts: the rest of the closed facts of the row. Condition: the four parts that are proved beside it. -/
import Derived.Test.YtickjkmfcickcaaGreatDoorRC
import Derived.Test.YtickjkmfcickcaaGreatDoorTie
import Derived.Test.YtickjkmfcickcaaGreatDoorCards
import Derived.ProofKit
import Derived.LaidMore
import Derived.OpenShut
import Derived.ChangeSame
import Derived.SevenTiedAt
import Derived.Stop.Joined
namespace Go.Proofs.YtickjkmfcickcaaGreatDoor.vmCounts
open Go Go.Abs Go.ChangeShapes Go.WideShapes Go.ChangeAt Go.RowKit
open Run (tbl meths ints ents)
theorem joined_of (d1 : (Rows.vmCountsRow.inPlace == Tryz.pinned.checked.prog.inPlace 5) = true) (d2 : (Rows.vmCountsRow.unfollowed == Tryz.pinned.checked.prog.unfollowed 5) = true) (d3 : (Rows.vmCountsRow.recurses == Tryz.pinned.checked.prog.recurses 5) = true) (d4 : (Rows.vmCountsRow.named == Tryz.pinned.checked.prog.varsNamed 5) = true) : joinedFacts Tryz.pinned.checked.prog 5 Tryz.f5 Rows.vmCountsSpec Rows.vmCountsRow = true := by
  unfold joinedFacts
  rw [d1, d2, d3, d4]
  kernel_rfl
end Go.Proofs.YtickjkmfcickcaaGreatDoor.vmCounts
