/- Part of the proof of BatchOnce, for every input. -/
import Derived.Test.YtobokeclhlbnmaaGreatRows
import Derived.ProofKit
import Derived.LaidMore
import Derived.OpenShut
import Derived.ChangeSame
import Derived.Stop.Joined
set_option linter.all false
namespace Go.Proofs.YtobokeclhlbnmaaGreat.batchOnce
open Go Go.ChangeShapes Go.WideShapes Go.ChangeAt Go.RowKit
theorem d4:(Rows.batchOnceRow.named==Tryz.pinned.checked.prog.varsNamed 3)=true:=by kernel_rfl
