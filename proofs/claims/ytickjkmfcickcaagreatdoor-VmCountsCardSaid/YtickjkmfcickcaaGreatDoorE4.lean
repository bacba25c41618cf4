/- PART of the proof of VmCounts: a closed fact of the row, part 4. No condition. -/
import Derived.Test.YtickjkmfcickcaaGreatDoorRC
import Derived.Test.YtickjkmfcickcaaGreatDoorTie
import Derived.Test.YtickjkmfcickcaaGreatDoorCards
import Derived.ProofKit
import Derived.LaidMore
import Derived.OpenShut
import Derived.ChangeSame
import Derived.SevenTiedAt
import Derived.Stop.Joined
namespace Go.Proofs.YtickjkmfcickcaaGreatDoor.vmCounts
open Go Go.Abs Go.ChangeShapes Go.WideShapes Go.ChangeAt Go.RowKit
open Run (tbl meths ints ents)
theorem d4 : (Rows.vmCountsRow.named == Tryz.pinned.checked.prog.varsNamed 5) = true := by kernel_rfl
end Go.Proofs.YtickjkmfcickcaaGreatDoor.vmCounts
