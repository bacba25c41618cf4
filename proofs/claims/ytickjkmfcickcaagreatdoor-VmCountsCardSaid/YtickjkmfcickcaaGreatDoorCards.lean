/-
  DERIVED. GIVEN WITH THE SEED: THE CARDS: each row of YtickjkmfcickcaaGreatDoorRows.lean that lists a variable, with what it lists TIED to the program's text (the seventh form; the later family's looks); each row that meets fmt, with fmt's text TOLD by the authors' own Lean function (tested against real Go, not proved from fmt's source: count such statements apart). THE CARD IS WHAT COUNTS. Prove the row's statement (the work); the ties are given (YtickjkmfcickcaaGreatDoorTie.lean); close each card by the builder's one call (the guide's Derived/Test/ToyasCard.lean, 'card_holds'). Laid BY PROGRAM, IN A SANDBOX (cutbox-door.mjs). By AI agents, Wed Nov 11 2026. No macro, syntax, notation, axiom, sorry.
-/
import Derived.Test.YtickjkmfcickcaaGreatDoorRows
import GoSem.ClaimSeven
namespace Go.Proofs.YtickjkmfcickcaaGreatDoor
namespace Rows

/-- THE TIED CARD OF 'crossbarlaw27.VmCells'. -/
def vmCellsCard : Claim7 := { stood := { row := vmCellsRow, standIns := [], harness := (true, "abcd240fbcfbcbd914fd404af745913178d8c06ba4643bff6ad1371a801c3c86"), looks := true }, kinds := [], alts := [], laidByText := true, laidKinds := [.widerDeep, .mapped], laidTests := true, laidLooks := .later }
def VmCellsCardSaid : Prop := Claim7.holds Tryz.pinned (.plain (OpenSpec.ofChange vmCellsSpec)) vmCellsCard

/-- THE TIED CARD OF 'crossbarlaw27.VmKnown'. -/
def vmKnownCard : Claim7 := { stood := { row := vmKnownRow, standIns := [], harness := (true, "abcd240fbcfbcbd914fd404af745913178d8c06ba4643bff6ad1371a801c3c86"), looks := true }, kinds := [], alts := [], laidByText := true, laidKinds := [.widerDeep, .mapped], laidTests := true, laidLooks := .later }
def VmKnownCardSaid : Prop := Claim7.holds Tryz.pinned (.plain (OpenSpec.ofChange vmKnownSpec)) vmKnownCard

/-- THE TIED CARD OF 'crossbarlaw27.VmCounts'. -/
def vmCountsCard : Claim7 := { stood := { row := vmCountsRow, standIns := [], harness := (true, "abcd240fbcfbcbd914fd404af745913178d8c06ba4643bff6ad1371a801c3c86"), looks := true }, kinds := [], alts := [], laidByText := true, laidKinds := [.widerDeep, .mapped], laidTests := true, laidLooks := .later }
def VmCountsCardSaid : Prop := Claim7.holds Tryz.pinned (.plain (OpenSpec.ofChange vmCountsSpec)) vmCountsCard

/-- THE SECOND FORM's CARD OF 'crossbarlaw27.VmCells'. -/
def vmCellsUptoCard : Claim7 := { stood := { row := vmCellsUptoRow, standIns := [], harness := (true, "abcd240fbcfbcbd914fd404af745913178d8c06ba4643bff6ad1371a801c3c86"), looks := true }, kinds := [], alts := [], laidByText := true, laidKinds := [.widerDeep, .mapped], laidTests := true, laidLooks := .later }
def VmCellsUptoCardSaid : Prop := Claim7.holds Tryz.pinned (.plain (OpenSpec.upto vmCellsSpec)) vmCellsUptoCard

/-- THE SECOND FORM's CARD OF 'crossbarlaw27.VmKnown'. -/
def vmKnownUptoCard : Claim7 := { stood := { row := vmKnownUptoRow, standIns := [], harness := (true, "abcd240fbcfbcbd914fd404af745913178d8c06ba4643bff6ad1371a801c3c86"), looks := true }, kinds := [], alts := [], laidByText := true, laidKinds := [.widerDeep, .mapped], laidTests := true, laidLooks := .later }
def VmKnownUptoCardSaid : Prop := Claim7.holds Tryz.pinned (.plain (OpenSpec.upto vmKnownSpec)) vmKnownUptoCard

/-- THE SECOND FORM's CARD OF 'crossbarlaw27.VmCounts'. -/
def vmCountsUptoCard : Claim7 := { stood := { row := vmCountsUptoRow, standIns := [], harness := (true, "abcd240fbcfbcbd914fd404af745913178d8c06ba4643bff6ad1371a801c3c86"), looks := true }, kinds := [], alts := [], laidByText := true, laidKinds := [.widerDeep, .mapped], laidTests := true, laidLooks := .later }
def VmCountsUptoCardSaid : Prop := Claim7.holds Tryz.pinned (.plain (OpenSpec.upto vmCountsSpec)) vmCountsUptoCard
end Rows
end Go.Proofs.YtickjkmfcickcaaGreatDoor
