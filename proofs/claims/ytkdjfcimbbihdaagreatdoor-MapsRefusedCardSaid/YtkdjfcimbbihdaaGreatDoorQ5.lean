/- PART of the proof of MapsRefused: the row's statement, its closed facts among it. No condition but the row's own. -/
import Derived.Test.YtkdjfcimbbihdaaGreatDoorQ4
import Derived.Test.YtkdjfcimbbihdaaGreatDoorTie
import Derived.Test.YtkdjfcimbbihdaaGreatDoorCards
import Derived.ProofKit
import Derived.LaidMore
import Derived.OpenShut
import Derived.ChangeSame
import Derived.SevenTiedAt
import Derived.Stop.Joined
namespace Go.Proofs.YtkdjfcimbbihdaaGreatDoor.mapsRefused
open Go Go.Abs Go.ChangeShapes Go.WideShapes Go.ChangeAt Go.RowKit
open Run (tbl meths ints ents)
theorem over : Rows.mapsRefusedRow.holds Tryz.pinned (OpenSpec.ofChange Rows.mapsRefusedSpec) :=
  OpenClaim.holds_of_wide 4 Tryz.f4 rfl rfl rfl rfl rfl rfl rfl ⟨rfl, rfl, rfl, rfl, rfl⟩ rfl rfl rfl rfl rfl (by kernel_rfl) Tryz.func4 (by kernel_rfl)
    (of_decide_eq_true (by kernel_rfl)) (by unfold Func.isWrapper; first | (rw [if_pos (by decide +kernel)]; kernel_rfl) | (rw [if_neg (by decide +kernel)]; exact ⟨rfl, rfl⟩))
    (fun os started H enc _ => lifted os started H enc)
end Go.Proofs.YtkdjfcimbbihdaaGreatDoor.mapsRefused
