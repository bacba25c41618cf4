/-
  NARROWER THAN 'FOR EVERY INPUT', by the rows' own cells (each row's printed sentence says how): MapsPieces: laid · MapsRefused: laid · MapsKnown: laid.
  DERIVED. THE GIVEN ROWS OF THIS SEAT. 3 by the template 'for every input the law returns true; each argument reads behind the call as it read before'; 0 by the template 'total and deterministic' (their statements: YtkdjfcimbbihdaaGreatDoorTotals.lean).
  GIVEN WITH THE SEED: the statements are not yours to turn. If you find one false, say at which input.
  Laid BY PROGRAM, IN A SANDBOX (cutbox-rows.mjs): the forced cells as the released guide's own fill.sh prints them over the translation a2c0b950428d4e47… (all of the seat's roots in one cut). By AI agents, Wed Nov 11 2026. No macro, syntax, notation, axiom, sorry.
-/
import Derived.Test.YtkdjfcimbbihdaaGreatDoorChecked
import GoSem.Claim
import GoSem.ClaimJoined
import GoSem.ClaimMapViews
import Derived.JoinedTies
import Derived.KernelRfl
namespace Go.Proofs.YtkdjfcimbbihdaaGreatDoor
/- THE CELL 'sum', in the pinned program and in every row, IS THE sha256 OF THE DUMP (.gsa) THAT YtkdjfcimbbihdaaGreatDoorProg.lean LOADS. Nothing in Lean hashes anything: it is a label: what it is worth is what the hold of that sum in a sandbox is worth. -/
noncomputable def Tryz.pinned : Pinned := { name := "ytkdjfcimbbihdaagreatdoor", sum := "a2c0b950428d4e4773f4060bbebf01dbcf39281b2c00dc81152671dbf3ee92a8", checked := Tryz.checked }
namespace Rows
def none {H : Type} : Left H := { results := [], args := [] }

/- WHAT THE LISTED PACKAGE-LEVEL VARIABLES READ AS WHEN THE CALL BEGINS. Each datum BY PROGRAM (the guide's laid-datum.mjs) off the statement by which the dump's own 'gosem.cut.vars' lays the variable. In a bare row this is a premise. The card (YtkdjfcimbbihdaaGreatDoorCards.lean) ties it to the program's text. -/
def laid_crossbar_insn_atomics {H : Type} : DataW H := .agg [.lit (.int .i64 0), .lit (.int .i64 64), .lit (.int .i64 80), .lit (.int .i64 160), .lit (.int .i64 1), .lit (.int .i64 65), .lit (.int .i64 81), .lit (.int .i64 161), .lit (.int .i64 225), .lit (.int .i64 241)]
def laid_crossbar_maps_ops {H : Type} : DataW H := .map [(.int .i64 0, .lit (.int .i64 0)), (.int .i64 64, .lit (.int .i64 64)), (.int .i64 80, .lit (.int .i64 80)), (.int .i64 160, .lit (.int .i64 160))]

/-- 'crossbarlaw19.MapsPieces': WHATEVER THE INPUT: true; the input reads as it did. -/
def mapsPiecesSpec : ChangeSpec := { name := "mapsPieces", fn := fun _ => fun
  | [d1, d2, d3, d4, d5, d6] => { results := [.lit (.bool true)], args := [d1, d2, d3, d4, d5, d6] }
  | _ => none }
def mapsPiecesRow : OpenClaim := { program := "ytkdjfcimbbihdaagreatdoor", sum := "a2c0b950428d4e4773f4060bbebf01dbcf39281b2c00dc81152671dbf3ee92a8", func := "crossbar/crossbarlaw19.MapsPieces", spec := "mapsPieces", inPlace := ["maps.clone"], unfollowed := true, recurses := true, named := ["crossbar/maps.ops", "crossbar/insn.atomics"], apart := false, laid := [("crossbar/insn.atomics", laid_crossbar_insn_atomics), ("crossbar/maps.ops", laid_crossbar_maps_ops)] }
def MapsPiecesSaid : Prop := mapsPiecesRow.holds Tryz.pinned (OpenSpec.ofChange mapsPiecesSpec)

/-- ITS FALSE NEIGHBOUR: 'it returns false'. Refute it at one input. -/
def mapsPiecesWrong : ChangeSpec := { name := "mapsPieces", fn := fun _ => fun
  | [d1, d2, d3, d4, d5, d6] => { results := [.lit (.bool false)], args := [d1, d2, d3, d4, d5, d6] }
  | _ => none }
def MapsPiecesWrongFalsely : Prop := mapsPiecesRow.holds Tryz.pinned (OpenSpec.ofChange mapsPiecesWrong)

/-- 'crossbarlaw19.MapsRefused': WHATEVER THE INPUT: true; the input reads as it did. -/
def mapsRefusedSpec : ChangeSpec := { name := "mapsRefused", fn := fun _ => fun
  | [d1, d2, d3, d4, d5] => { results := [.lit (.bool true)], args := [d1, d2, d3, d4, d5] }
  | _ => none }
def mapsRefusedRow : OpenClaim := { program := "ytkdjfcimbbihdaagreatdoor", sum := "a2c0b950428d4e4773f4060bbebf01dbcf39281b2c00dc81152671dbf3ee92a8", func := "crossbar/crossbarlaw19.MapsRefused", spec := "mapsRefused", inPlace := ["maps.clone"], unfollowed := true, recurses := true, named := ["crossbar/maps.ops", "crossbar/insn.atomics"], apart := false, laid := [("crossbar/insn.atomics", laid_crossbar_insn_atomics), ("crossbar/maps.ops", laid_crossbar_maps_ops)] }
def MapsRefusedSaid : Prop := mapsRefusedRow.holds Tryz.pinned (OpenSpec.ofChange mapsRefusedSpec)

/-- ITS FALSE NEIGHBOUR: 'it returns false'. Refute it at one input. -/
def mapsRefusedWrong : ChangeSpec := { name := "mapsRefused", fn := fun _ => fun
  | [d1, d2, d3, d4, d5] => { results := [.lit (.bool false)], args := [d1, d2, d3, d4, d5] }
  | _ => none }
def MapsRefusedWrongFalsely : Prop := mapsRefusedRow.holds Tryz.pinned (OpenSpec.ofChange mapsRefusedWrong)

/-- 'crossbarlaw19.MapsKnown': WHATEVER THE INPUT: true; the input reads as it did. -/
def mapsKnownSpec : ChangeSpec := { name := "mapsKnown", fn := fun _ => fun
  | [] => { results := [.lit (.bool true)], args := [] }
  | _ => none }
def mapsKnownRow : OpenClaim := { program := "ytkdjfcimbbihdaagreatdoor", sum := "a2c0b950428d4e4773f4060bbebf01dbcf39281b2c00dc81152671dbf3ee92a8", func := "crossbar/crossbarlaw19.MapsKnown", spec := "mapsKnown", inPlace := ["maps.clone"], unfollowed := true, recurses := true, named := ["crossbar/maps.ops", "crossbar/insn.atomics"], apart := false, laid := [("crossbar/insn.atomics", laid_crossbar_insn_atomics), ("crossbar/maps.ops", laid_crossbar_maps_ops)] }
def MapsKnownSaid : Prop := mapsKnownRow.holds Tryz.pinned (OpenSpec.ofChange mapsKnownSpec)

/-- ITS FALSE NEIGHBOUR: 'it returns false'. Refute it at one input. -/
def mapsKnownWrong : ChangeSpec := { name := "mapsKnown", fn := fun _ => fun
  | [] => { results := [.lit (.bool false)], args := [] }
  | _ => none }
def MapsKnownWrongFalsely : Prop := mapsKnownRow.holds Tryz.pinned (OpenSpec.ofChange mapsKnownWrong)

/- THE SECOND FORM. 'bulk': how many values and letters a reading holds, each counted each time it is reached (what is shared counts as often as it is met; a slice's spare places count too). A statement '..UptoSaid' is the law's where the arguments, and the package variables that the reading takes, are together of bulk at most 1048576: NARROWER than '..Said'. Prove '..Said' where nothing that the law and all that it calls make is longer than what came in: it says more and counts as full. Else prove '..UptoSaid'. A law counts once. -/
mutual
def uptoBulk {H : Type} : DataW H → Nat
  | .lit (.string bytes) => bytes.length + 1
  | .lit _ => 1
  | .nil => 1
  | .ptr d => uptoBulk d + 1
  | .slice elems spare => uptoBulkAll elems + uptoBulkAll spare + 1
  | .agg parts => uptoBulkAll parts + 1
  | .iface _ d => uptoBulk d + 1
  | .map entries => uptoBulkEntries entries + 1
  | .held _ => 1
def uptoBulkAll {H : Type} : List (DataW H) → Nat
  | [] => 0
  | d :: r => uptoBulk d + uptoBulkAll r
def uptoBulkEntries {H : Type} : List (Lit × DataW H) → Nat
  | [] => 0
  | x :: r => uptoBulkEntry x + uptoBulkEntries r
def uptoBulkEntry {H : Type} : Lit × DataW H → Nat
  | (.string bytes, d) => bytes.length + uptoBulk d + 1
  | (_, d) => uptoBulk d + 1
 end
def uptoSmall : (H : Type) → List (DataW H) → Bool := fun _ ds => decide (uptoBulkAll ds ≤ 1048576)
def OpenSpec.upto (s : _root_.Go.ChangeSpec) : _root_.Go.OpenSpec := { _root_.Go.OpenSpec.ofChange s with cond := some uptoSmall }

/-- 'crossbarlaw19.MapsPieces', WHERE WHAT IT READS IS OF BULK AT MOST 1048576: true; the input reads as it did. -/
def mapsPiecesUptoRow : OpenClaim := { program := "ytkdjfcimbbihdaagreatdoor", sum := "a2c0b950428d4e4773f4060bbebf01dbcf39281b2c00dc81152671dbf3ee92a8", func := "crossbar/crossbarlaw19.MapsPieces", spec := "mapsPieces", inPlace := ["maps.clone"], unfollowed := true, recurses := true, named := ["crossbar/maps.ops", "crossbar/insn.atomics"], apart := false, laid := [("crossbar/insn.atomics", laid_crossbar_insn_atomics), ("crossbar/maps.ops", laid_crossbar_maps_ops)], narrowed := true }
def MapsPiecesUptoSaid : Prop := mapsPiecesUptoRow.holds Tryz.pinned (OpenSpec.upto mapsPiecesSpec)

/-- 'crossbarlaw19.MapsRefused', WHERE WHAT IT READS IS OF BULK AT MOST 1048576: true; the input reads as it did. -/
def mapsRefusedUptoRow : OpenClaim := { program := "ytkdjfcimbbihdaagreatdoor", sum := "a2c0b950428d4e4773f4060bbebf01dbcf39281b2c00dc81152671dbf3ee92a8", func := "crossbar/crossbarlaw19.MapsRefused", spec := "mapsRefused", inPlace := ["maps.clone"], unfollowed := true, recurses := true, named := ["crossbar/maps.ops", "crossbar/insn.atomics"], apart := false, laid := [("crossbar/insn.atomics", laid_crossbar_insn_atomics), ("crossbar/maps.ops", laid_crossbar_maps_ops)], narrowed := true }
def MapsRefusedUptoSaid : Prop := mapsRefusedUptoRow.holds Tryz.pinned (OpenSpec.upto mapsRefusedSpec)

/-- 'crossbarlaw19.MapsKnown', WHERE WHAT IT READS IS OF BULK AT MOST 1048576: true; the input reads as it did. -/
def mapsKnownUptoRow : OpenClaim := { program := "ytkdjfcimbbihdaagreatdoor", sum := "a2c0b950428d4e4773f4060bbebf01dbcf39281b2c00dc81152671dbf3ee92a8", func := "crossbar/crossbarlaw19.MapsKnown", spec := "mapsKnown", inPlace := ["maps.clone"], unfollowed := true, recurses := true, named := ["crossbar/maps.ops", "crossbar/insn.atomics"], apart := false, laid := [("crossbar/insn.atomics", laid_crossbar_insn_atomics), ("crossbar/maps.ops", laid_crossbar_maps_ops)], narrowed := true }
def MapsKnownUptoSaid : Prop := mapsKnownUptoRow.holds Tryz.pinned (OpenSpec.upto mapsKnownSpec)

end Rows
end Go.Proofs.YtkdjfcimbbihdaaGreatDoor
