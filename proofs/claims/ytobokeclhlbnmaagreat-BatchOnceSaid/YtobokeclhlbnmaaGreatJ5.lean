/- Part of the proof of BatchOnce, for every input. -/
import Derived.Test.YtobokeclhlbnmaaGreatRows
import Derived.ProofKit
import Derived.LaidMore
import Derived.OpenShut
import Derived.ChangeSame
import Derived.Stop.Joined
set_option linter.all false
namespace Go.Proofs.YtobokeclhlbnmaaGreat.batchOnce
open Go Go.ChangeShapes Go.WideShapes Go.ChangeAt Go.RowKit
theorem aBI(d1:(Rows.batchOnceRow.inPlace==Tryz.pinned.checked.prog.inPlace 3)=true)(d2:(Rows.batchOnceRow.unfollowed==Tryz.pinned.checked.prog.unfollowed 3)=true)(d3:(Rows.batchOnceRow.recurses==Tryz.pinned.checked.prog.recurses 3)=true)(d4:(Rows.batchOnceRow.named==Tryz.pinned.checked.prog.varsNamed 3)=true):joinedFacts Tryz.pinned.checked.prog 3 Tryz.f3 Rows.batchOnceSpec Rows.batchOnceRow=true:=by
 unfold joinedFacts
 rw[d1,d2,d3,d4]
 kernel_rfl
