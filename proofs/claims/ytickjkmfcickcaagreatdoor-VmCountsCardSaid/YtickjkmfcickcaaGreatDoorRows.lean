/-
  NARROWER THAN 'FOR EVERY INPUT', by the rows' own cells (each row's printed sentence says how): VmCells: laid · VmKnown: laid · VmCounts: laid.
  DERIVED. THE GIVEN ROWS OF THIS SEAT. 3 by the template 'for every input the law returns true; each argument reads behind the call as it read before'; 0 by the template 'total and deterministic' (their statements: YtickjkmfcickcaaGreatDoorTotals.lean).
  GIVEN WITH THE SEED: the statements are not yours to turn. If you find one false, say at which input.
  Laid BY PROGRAM, IN A SANDBOX (cutbox-rows.mjs): the forced cells as the released guide's own fill.sh prints them over the translation 002f880b43712f92… (all of the seat's roots in one cut). By AI agents, Wed Nov 11 2026. No macro, syntax, notation, axiom, sorry.
-/
import Derived.Test.YtickjkmfcickcaaGreatDoorChecked
import GoSem.Claim
import GoSem.ClaimJoined
import GoSem.ClaimMapViews
import Derived.JoinedTies
import Derived.KernelRfl
namespace Go.Proofs.YtickjkmfcickcaaGreatDoor
/- THE CELL 'sum', in the pinned program and in every row, IS THE sha256 OF THE DUMP (.gsa) THAT YtickjkmfcickcaaGreatDoorProg.lean LOADS. Nothing in Lean hashes anything: it is a label: what it is worth is what the hold of that sum in a sandbox is worth. -/
noncomputable def Tryz.pinned : Pinned := { name := "ytickjkmfcickcaagreatdoor", sum := "002f880b43712f922d15cb9b2c1de0528235aad07ff00d5cffdc55d0fe023601", checked := Tryz.checked }
namespace Rows
def none {H : Type} : Left H := { results := [], args := [] }

/- WHAT THE LISTED PACKAGE-LEVEL VARIABLES READ AS WHEN THE CALL BEGINS. Each datum BY PROGRAM (the guide's laid-datum.mjs) off the statement by which the dump's own 'gosem.cut.vars' lays the variable. In a bare row this is a premise. The card (YtickjkmfcickcaaGreatDoorCards.lean) ties it to the program's text. -/
def laid_crossbar_insn_atomics {H : Type} : DataW H := .agg [.lit (.int .i64 0), .lit (.int .i64 64), .lit (.int .i64 80), .lit (.int .i64 160), .lit (.int .i64 1), .lit (.int .i64 65), .lit (.int .i64 81), .lit (.int .i64 161), .lit (.int .i64 225), .lit (.int .i64 241)]
def laid_crossbar_maps_ops {H : Type} : DataW H := .map [(.int .i64 0, .lit (.int .i64 0)), (.int .i64 64, .lit (.int .i64 64)), (.int .i64 80, .lit (.int .i64 80)), (.int .i64 160, .lit (.int .i64 160))]

/-- 'crossbarlaw27.VmCells': WHATEVER THE INPUT: true; the input reads as it did. -/
def vmCellsSpec : ChangeSpec := { name := "vmCells", fn := fun _ => fun
  | [d1, d2, d3, d4] => { results := [.lit (.bool true)], args := [d1, d2, d3, d4] }
  | _ => none }
def vmCellsRow : OpenClaim := { program := "ytickjkmfcickcaagreatdoor", sum := "002f880b43712f922d15cb9b2c1de0528235aad07ff00d5cffdc55d0fe023601", func := "crossbar/crossbarlaw27.VmCells", spec := "vmCells", inPlace := ["maps.clone"], unfollowed := true, recurses := true, named := ["crossbar/insn.atomics", "crossbar/maps.ops"], apart := false, laid := [("crossbar/insn.atomics", laid_crossbar_insn_atomics), ("crossbar/maps.ops", laid_crossbar_maps_ops)] }
def VmCellsSaid : Prop := vmCellsRow.holds Tryz.pinned (OpenSpec.ofChange vmCellsSpec)

/-- ITS FALSE NEIGHBOUR: 'it returns false'. Refute it at one input. -/
def vmCellsWrong : ChangeSpec := { name := "vmCells", fn := fun _ => fun
  | [d1, d2, d3, d4] => { results := [.lit (.bool false)], args := [d1, d2, d3, d4] }
  | _ => none }
def VmCellsWrongFalsely : Prop := vmCellsRow.holds Tryz.pinned (OpenSpec.ofChange vmCellsWrong)

/-- 'crossbarlaw27.VmKnown': WHATEVER THE INPUT: true; the input reads as it did. -/
def vmKnownSpec : ChangeSpec := { name := "vmKnown", fn := fun _ => fun
  | [] => { results := [.lit (.bool true)], args := [] }
  | _ => none }
def vmKnownRow : OpenClaim := { program := "ytickjkmfcickcaagreatdoor", sum := "002f880b43712f922d15cb9b2c1de0528235aad07ff00d5cffdc55d0fe023601", func := "crossbar/crossbarlaw27.VmKnown", spec := "vmKnown", inPlace := ["maps.clone"], unfollowed := true, recurses := true, named := ["crossbar/insn.atomics", "crossbar/maps.ops"], apart := false, laid := [("crossbar/insn.atomics", laid_crossbar_insn_atomics), ("crossbar/maps.ops", laid_crossbar_maps_ops)] }
def VmKnownSaid : Prop := vmKnownRow.holds Tryz.pinned (OpenSpec.ofChange vmKnownSpec)

/-- ITS FALSE NEIGHBOUR: 'it returns false'. Refute it at one input. -/
def vmKnownWrong : ChangeSpec := { name := "vmKnown", fn := fun _ => fun
  | [] => { results := [.lit (.bool false)], args := [] }
  | _ => none }
def VmKnownWrongFalsely : Prop := vmKnownRow.holds Tryz.pinned (OpenSpec.ofChange vmKnownWrong)

/-- 'crossbarlaw27.VmCounts': WHATEVER THE INPUT: true; the input reads as it did. -/
def vmCountsSpec : ChangeSpec := { name := "vmCounts", fn := fun _ => fun
  | [d] => { results := [.lit (.bool true)], args := [d] }
  | _ => none }
def vmCountsRow : OpenClaim := { program := "ytickjkmfcickcaagreatdoor", sum := "002f880b43712f922d15cb9b2c1de0528235aad07ff00d5cffdc55d0fe023601", func := "crossbar/crossbarlaw27.VmCounts", spec := "vmCounts", inPlace := ["maps.clone"], unfollowed := true, recurses := true, named := ["crossbar/insn.atomics", "crossbar/maps.ops"], apart := false, laid := [("crossbar/insn.atomics", laid_crossbar_insn_atomics), ("crossbar/maps.ops", laid_crossbar_maps_ops)] }
def VmCountsSaid : Prop := vmCountsRow.holds Tryz.pinned (OpenSpec.ofChange vmCountsSpec)

/-- ITS FALSE NEIGHBOUR: 'it returns false'. Refute it at one input. -/
def vmCountsWrong : ChangeSpec := { name := "vmCounts", fn := fun _ => fun
  | [d] => { results := [.lit (.bool false)], args := [d] }
  | _ => none }
def VmCountsWrongFalsely : Prop := vmCountsRow.holds Tryz.pinned (OpenSpec.ofChange vmCountsWrong)

/- THE SECOND FORM. 'bulk': how many values and letters a reading holds, each counted each time it is reached (what is shared counts as often as it is met; a slice's spare places count too). A statement '..UptoSaid' is the law's where the arguments, and the package variables that the reading takes, are together of bulk at most 1048576: NARROWER than '..Said'. Prove '..Said' where nothing that the law and all that it calls make is longer than what came in: it says more and counts as full. Else prove '..UptoSaid'. A law counts once. -/
mutual
def uptoBulk {H : Type} : DataW H → Nat
  | .lit (.string bytes) => bytes.length + 1
  | .lit _ => 1
  | .nil => 1
  | .ptr d => uptoBulk d + 1
  | .slice elems spare => uptoBulkAll elems + uptoBulkAll spare + 1
  | .agg parts => uptoBulkAll parts + 1
  | .iface _ d => uptoBulk d + 1
  | .map entries => uptoBulkEntries entries + 1
  | .held _ => 1
def uptoBulkAll {H : Type} : List (DataW H) → Nat
  | [] => 0
  | d :: r => uptoBulk d + uptoBulkAll r
def uptoBulkEntries {H : Type} : List (Lit × DataW H) → Nat
  | [] => 0
  | x :: r => uptoBulkEntry x + uptoBulkEntries r
def uptoBulkEntry {H : Type} : Lit × DataW H → Nat
  | (.string bytes, d) => bytes.length + uptoBulk d + 1
  | (_, d) => uptoBulk d + 1
 end
def uptoSmall : (H : Type) → List (DataW H) → Bool := fun _ ds => decide (uptoBulkAll ds ≤ 1048576)
def OpenSpec.upto (s : _root_.Go.ChangeSpec) : _root_.Go.OpenSpec := { _root_.Go.OpenSpec.ofChange s with cond := some uptoSmall }

/-- 'crossbarlaw27.VmCells', WHERE WHAT IT READS IS OF BULK AT MOST 1048576: true; the input reads as it did. -/
def vmCellsUptoRow : OpenClaim := { program := "ytickjkmfcickcaagreatdoor", sum := "002f880b43712f922d15cb9b2c1de0528235aad07ff00d5cffdc55d0fe023601", func := "crossbar/crossbarlaw27.VmCells", spec := "vmCells", inPlace := ["maps.clone"], unfollowed := true, recurses := true, named := ["crossbar/insn.atomics", "crossbar/maps.ops"], apart := false, laid := [("crossbar/insn.atomics", laid_crossbar_insn_atomics), ("crossbar/maps.ops", laid_crossbar_maps_ops)], narrowed := true }
def VmCellsUptoSaid : Prop := vmCellsUptoRow.holds Tryz.pinned (OpenSpec.upto vmCellsSpec)

/-- 'crossbarlaw27.VmKnown', WHERE WHAT IT READS IS OF BULK AT MOST 1048576: true; the input reads as it did. -/
def vmKnownUptoRow : OpenClaim := { program := "ytickjkmfcickcaagreatdoor", sum := "002f880b43712f922d15cb9b2c1de0528235aad07ff00d5cffdc55d0fe023601", func := "crossbar/crossbarlaw27.VmKnown", spec := "vmKnown", inPlace := ["maps.clone"], unfollowed := true, recurses := true, named := ["crossbar/insn.atomics", "crossbar/maps.ops"], apart := false, laid := [("crossbar/insn.atomics", laid_crossbar_insn_atomics), ("crossbar/maps.ops", laid_crossbar_maps_ops)], narrowed := true }
def VmKnownUptoSaid : Prop := vmKnownUptoRow.holds Tryz.pinned (OpenSpec.upto vmKnownSpec)

/-- 'crossbarlaw27.VmCounts', WHERE WHAT IT READS IS OF BULK AT MOST 1048576: true; the input reads as it did. -/
def vmCountsUptoRow : OpenClaim := { program := "ytickjkmfcickcaagreatdoor", sum := "002f880b43712f922d15cb9b2c1de0528235aad07ff00d5cffdc55d0fe023601", func := "crossbar/crossbarlaw27.VmCounts", spec := "vmCounts", inPlace := ["maps.clone"], unfollowed := true, recurses := true, named := ["crossbar/insn.atomics", "crossbar/maps.ops"], apart := false, laid := [("crossbar/insn.atomics", laid_crossbar_insn_atomics), ("crossbar/maps.ops", laid_crossbar_maps_ops)], narrowed := true }
def VmCountsUptoSaid : Prop := vmCountsUptoRow.holds Tryz.pinned (OpenSpec.upto vmCountsSpec)

end Rows
end Go.Proofs.YtickjkmfcickcaaGreatDoor
