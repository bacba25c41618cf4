/- PROVED HERE: the tied card of crossbarlaw19.MapsPieces: the law returns true. Condition: the two listed package variables hold what the program's text lays (tied by the given text). -/
import Derived.Test.YtkdjfcimbbihdaaGreatDoorP5
import Derived.Test.YtkdjfcimbbihdaaGreatDoorTie
import Derived.Test.YtkdjfcimbbihdaaGreatDoorCards
import Derived.SevenTiedAt
namespace Go.Proofs.YtkdjfcimbbihdaaGreatDoor.mapsPieces
open Go

/-- THE TIED CARD. -/
theorem card_holds : Rows.MapsPiecesCardSaid :=
  Claim7.holds_tied_plain_at .later [] [.widerDeep, .mapped] true (true, "36b208355f20155ff305584d77aa6017df1dd75ec33fb9719be3a448cc09f7db") true
    over (fun _ h => by cases h) (by kernel_rfl) (fun _ h => by cases h) mapsPieces_row_tie rfl ⟨rfl, rfl⟩ (by kernel_rfl) rfl
    (fun f fn hf hfn => by
      obtain rfl : f = 3 := Option.some.inj ((show Tryz.prog.funcNamed "crossbar/crossbarlaw19.MapsPieces" = some 3 by kernel_rfl).symm.trans hf) |>.symm
      obtain rfl : fn = Tryz.f3 := (Option.some.inj (Tryz.func3.symm.trans hfn)).symm
      exact ⟨by kernel_rfl, fun j t ht => by
        rw [Tryz.params3] at ht
        have hm : t ∈ [22, 22, 22, 3, 3, 3] := by simpa using Array.mem_of_getElem? ht
        have hall : ([22, 22, 22, 3, 3, 3].all fun u => !Tryz.prog.wantsStandIn u) = true := by kernel_rfl
        exact (show Tryz.prog.wantsStandIn t = false by simpa using List.all_eq_true.1 hall t hm)⟩)
    (by kernel_rfl)
end Go.Proofs.YtkdjfcimbbihdaaGreatDoor.mapsPieces
