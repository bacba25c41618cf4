/- PART of the proof of CallsKnown: a closed fact of the row, part 2. No condition. -/
import Derived.Test.YtecebpjfidpchaaGreatRC
import Derived.Test.YtecebpjfidpchaaGreatRows
import Derived.ProofKit
import Derived.LaidMore
import Derived.OpenShut
import Derived.ChangeSame
import Derived.Stop.Joined
namespace Go.Proofs.YtecebpjfidpchaaGreat.callsKnown
open Go Go.Abs Go.ChangeShapes Go.WideShapes Go.ChangeAt Go.RowKit
theorem d2 : (Rows.callsKnownRow.unfollowed == Tryz.pinned.checked.prog.unfollowed 3) = true := by kernel_rfl
end Go.Proofs.YtecebpjfidpchaaGreat.callsKnown
