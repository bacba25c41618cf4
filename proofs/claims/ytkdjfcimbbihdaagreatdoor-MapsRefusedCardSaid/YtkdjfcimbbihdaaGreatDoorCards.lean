/-
  DERIVED. GIVEN WITH THE SEED: THE CARDS: each row of YtkdjfcimbbihdaaGreatDoorRows.lean that lists a variable, with what it lists TIED to the program's text (the seventh form; the later family's looks); each row that meets fmt, with fmt's text TOLD by the authors' own Lean function (tested against real Go, not proved from fmt's source: count such statements apart). THE CARD IS WHAT COUNTS. Prove the row's statement (the work); the ties are given (YtkdjfcimbbihdaaGreatDoorTie.lean); close each card by the builder's one call (the guide's Derived/Test/ToyasCard.lean, 'card_holds'). Laid BY PROGRAM, IN A SANDBOX (cutbox-door.mjs). By AI agents, Wed Nov 11 2026. No macro, syntax, notation, axiom, sorry.
-/
import Derived.Test.YtkdjfcimbbihdaaGreatDoorRows
import GoSem.ClaimSeven
namespace Go.Proofs.YtkdjfcimbbihdaaGreatDoor
namespace Rows

/-- THE TIED CARD OF 'crossbarlaw19.MapsPieces'. -/
def mapsPiecesCard : Claim7 := { stood := { row := mapsPiecesRow, standIns := [], harness := (true, "36b208355f20155ff305584d77aa6017df1dd75ec33fb9719be3a448cc09f7db"), looks := true }, kinds := [], alts := [], laidByText := true, laidKinds := [.widerDeep, .mapped], laidTests := true, laidLooks := .later }
def MapsPiecesCardSaid : Prop := Claim7.holds Tryz.pinned (.plain (OpenSpec.ofChange mapsPiecesSpec)) mapsPiecesCard

/-- THE TIED CARD OF 'crossbarlaw19.MapsRefused'. -/
def mapsRefusedCard : Claim7 := { stood := { row := mapsRefusedRow, standIns := [], harness := (true, "36b208355f20155ff305584d77aa6017df1dd75ec33fb9719be3a448cc09f7db"), looks := true }, kinds := [], alts := [], laidByText := true, laidKinds := [.widerDeep, .mapped], laidTests := true, laidLooks := .later }
def MapsRefusedCardSaid : Prop := Claim7.holds Tryz.pinned (.plain (OpenSpec.ofChange mapsRefusedSpec)) mapsRefusedCard

/-- THE TIED CARD OF 'crossbarlaw19.MapsKnown'. -/
def mapsKnownCard : Claim7 := { stood := { row := mapsKnownRow, standIns := [], harness := (true, "36b208355f20155ff305584d77aa6017df1dd75ec33fb9719be3a448cc09f7db"), looks := true }, kinds := [], alts := [], laidByText := true, laidKinds := [.widerDeep, .mapped], laidTests := true, laidLooks := .later }
def MapsKnownCardSaid : Prop := Claim7.holds Tryz.pinned (.plain (OpenSpec.ofChange mapsKnownSpec)) mapsKnownCard

/-- THE SECOND FORM's CARD OF 'crossbarlaw19.MapsPieces'. -/
def mapsPiecesUptoCard : Claim7 := { stood := { row := mapsPiecesUptoRow, standIns := [], harness := (true, "36b208355f20155ff305584d77aa6017df1dd75ec33fb9719be3a448cc09f7db"), looks := true }, kinds := [], alts := [], laidByText := true, laidKinds := [.widerDeep, .mapped], laidTests := true, laidLooks := .later }
def MapsPiecesUptoCardSaid : Prop := Claim7.holds Tryz.pinned (.plain (OpenSpec.upto mapsPiecesSpec)) mapsPiecesUptoCard

/-- THE SECOND FORM's CARD OF 'crossbarlaw19.MapsRefused'. -/
def mapsRefusedUptoCard : Claim7 := { stood := { row := mapsRefusedUptoRow, standIns := [], harness := (true, "36b208355f20155ff305584d77aa6017df1dd75ec33fb9719be3a448cc09f7db"), looks := true }, kinds := [], alts := [], laidByText := true, laidKinds := [.widerDeep, .mapped], laidTests := true, laidLooks := .later }
def MapsRefusedUptoCardSaid : Prop := Claim7.holds Tryz.pinned (.plain (OpenSpec.upto mapsRefusedSpec)) mapsRefusedUptoCard

/-- THE SECOND FORM's CARD OF 'crossbarlaw19.MapsKnown'. -/
def mapsKnownUptoCard : Claim7 := { stood := { row := mapsKnownUptoRow, standIns := [], harness := (true, "36b208355f20155ff305584d77aa6017df1dd75ec33fb9719be3a448cc09f7db"), looks := true }, kinds := [], alts := [], laidByText := true, laidKinds := [.widerDeep, .mapped], laidTests := true, laidLooks := .later }
def MapsKnownUptoCardSaid : Prop := Claim7.holds Tryz.pinned (.plain (OpenSpec.upto mapsKnownSpec)) mapsKnownUptoCard
end Rows
end Go.Proofs.YtkdjfcimbbihdaaGreatDoor
