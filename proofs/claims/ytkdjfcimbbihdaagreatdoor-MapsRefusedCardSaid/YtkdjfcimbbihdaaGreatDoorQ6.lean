/- PROVED HERE: the tied card of crossbarlaw19.MapsRefused: the law returns true. Condition: the two listed package variables hold what the program's text lays (tied by the given text). -/
import Derived.Test.YtkdjfcimbbihdaaGreatDoorQ5
import Derived.Test.YtkdjfcimbbihdaaGreatDoorTie
import Derived.Test.YtkdjfcimbbihdaaGreatDoorCards
import Derived.SevenTiedAt
namespace Go.Proofs.YtkdjfcimbbihdaaGreatDoor.mapsRefused
open Go

/-- THE TIED CARD. -/
theorem card_holds : Rows.MapsRefusedCardSaid :=
  Claim7.holds_tied_plain_at .later [] [.widerDeep, .mapped] true (true, "36b208355f20155ff305584d77aa6017df1dd75ec33fb9719be3a448cc09f7db") true
    over (fun _ h => by cases h) (by kernel_rfl) (fun _ h => by cases h) mapsRefused_row_tie rfl ⟨rfl, rfl⟩ (by kernel_rfl) rfl
    (fun f fn hf hfn => by
      obtain rfl : f = 4 := Option.some.inj ((show Tryz.prog.funcNamed "crossbar/crossbarlaw19.MapsRefused" = some 4 by kernel_rfl).symm.trans hf) |>.symm
      obtain rfl : fn = Tryz.f4 := (Option.some.inj (Tryz.func4.symm.trans hfn)).symm
      exact ⟨by kernel_rfl, fun j t ht => by
        rw [Tryz.params4] at ht
        have hm : t ∈ [3, 3, 3, 3, 22] := by simpa using Array.mem_of_getElem? ht
        have hall : ([3, 3, 3, 3, 22].all fun u => !Tryz.prog.wantsStandIn u) = true := by kernel_rfl
        exact (show Tryz.prog.wantsStandIn t = false by simpa using List.all_eq_true.1 hall t hm)⟩)
    (by kernel_rfl)
end Go.Proofs.YtkdjfcimbbihdaaGreatDoor.mapsRefused
