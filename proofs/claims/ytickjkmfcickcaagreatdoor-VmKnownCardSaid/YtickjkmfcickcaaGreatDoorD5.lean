/- PART of the proof of VmKnown: the rest of the closed facts of the row. Condition: the four parts that are proved beside it. -/
import Derived.Test.YtickjkmfcickcaaGreatDoorRC
import Derived.Test.YtickjkmfcickcaaGreatDoorTie
import Derived.Test.YtickjkmfcickcaaGreatDoorCards
import Derived.ProofKit
import Derived.LaidMore
import Derived.OpenShut
import Derived.ChangeSame
import Derived.SevenTiedAt
import Derived.Stop.Joined
namespace Go.Proofs.YtickjkmfcickcaaGreatDoor.vmKnown
open Go Go.Abs Go.ChangeShapes Go.WideShapes Go.ChangeAt Go.RowKit
open Run (tbl meths ints ents)
theorem joined_of (d1 : (Rows.vmKnownRow.inPlace == Tryz.pinned.checked.prog.inPlace 4) = true) (d2 : (Rows.vmKnownRow.unfollowed == Tryz.pinned.checked.prog.unfollowed 4) = true) (d3 : (Rows.vmKnownRow.recurses == Tryz.pinned.checked.prog.recurses 4) = true) (d4 : (Rows.vmKnownRow.named == Tryz.pinned.checked.prog.varsNamed 4) = true) : joinedFacts Tryz.pinned.checked.prog 4 Tryz.f4 Rows.vmKnownSpec Rows.vmKnownRow = true := by
  unfold joinedFacts
  rw [d1, d2, d3, d4]
  kernel_rfl
end Go.Proofs.YtickjkmfcickcaaGreatDoor.vmKnown
