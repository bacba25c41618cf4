/- PROVED HERE: the tied card of crossbarlaw19.MapsKnown: the law returns true. Condition: the two listed package variables hold what the program's text lays (tied by the given text). -/
import Derived.Test.YtgoplodcgpfneaaGreatDoorP5
import Derived.Test.YtgoplodcgpfneaaGreatDoorTie
import Derived.Test.YtgoplodcgpfneaaGreatDoorCards
import Derived.SevenTiedAt
namespace Go.Proofs.YtgoplodcgpfneaaGreatDoor.mapsKnown
open Go

/-- THE TIED CARD. -/
theorem card_holds : Rows.MapsKnownCardSaid :=
  Claim7.holds_tied_plain_at .later [] [.widerDeep, .mapped] true (true, "36b208355f20155ff305584d77aa6017df1dd75ec33fb9719be3a448cc09f7db") true
    over (fun _ h => by cases h) (by kernel_rfl) (fun _ h => by cases h) mapsKnown_row_tie rfl ⟨rfl, rfl⟩ (by kernel_rfl) rfl
    (fun f fn hf hfn => by
      obtain rfl : f = 5 := Option.some.inj ((show Tryz.prog.funcNamed "crossbar/crossbarlaw19.MapsKnown" = some 5 by kernel_rfl).symm.trans hf) |>.symm
      obtain rfl : fn = Tryz.f5 := (Option.some.inj (Tryz.func5.symm.trans hfn)).symm
      exact ⟨by kernel_rfl, fun j t ht => by
        rw [Tryz.params5] at ht
        simp at ht⟩)
    (by kernel_rfl)
#print axioms card_holds
end Go.Proofs.YtgoplodcgpfneaaGreatDoor.mapsKnown
