/- PART of the proof of CallsKnown: the rest of the closed facts of the row. Condition: the four parts that are proved beside it. -/
import Derived.Test.YtecebpjfidpchaaGreatRC
import Derived.Test.YtecebpjfidpchaaGreatRows
import Derived.ProofKit
import Derived.LaidMore
import Derived.OpenShut
import Derived.ChangeSame
import Derived.Stop.Joined
namespace Go.Proofs.YtecebpjfidpchaaGreat.callsKnown
open Go Go.Abs Go.ChangeShapes Go.WideShapes Go.ChangeAt Go.RowKit
theorem joined_of (d1 : (Rows.callsKnownRow.inPlace == Tryz.pinned.checked.prog.inPlace 3) = true) (d2 : (Rows.callsKnownRow.unfollowed == Tryz.pinned.checked.prog.unfollowed 3) = true) (d3 : (Rows.callsKnownRow.recurses == Tryz.pinned.checked.prog.recurses 3) = true) (d4 : (Rows.callsKnownRow.named == Tryz.pinned.checked.prog.varsNamed 3) = true) : joinedFacts Tryz.pinned.checked.prog 3 Tryz.f3 Rows.callsKnownSpec Rows.callsKnownRow = true := by
  unfold joinedFacts
  rw [d1, d2, d3, d4]
  kernel_rfl
end Go.Proofs.YtecebpjfidpchaaGreat.callsKnown
