/-
  DERIVED. GIVEN WITH THE SEED: THE PROGRAM's TIES (one call each: nine closed facts by the kernel) AND EACH ROW's TIE, after the 31st guide's Derived/Test/Toyas{Tie, Card}.lean. No idea stands in it: it is a product of the set-up. Laid BY PROGRAM, IN A SANDBOX (cutbox-door.mjs). By AI agents, Wed Nov 11 2026. No macro, syntax, notation, axiom, sorry.
-/
import Derived.Test.YtkdjfcimbbihdaaGreatDoorRows
import Derived.LaidByTextLater
import Derived.SevenTiedAt
import Derived.LaidSub
import Derived.LaidOnce
namespace Go.Proofs.YtkdjfcimbbihdaaGreatDoor
open Go
set_option maxRecDepth 100000
theorem seatTie1 : Tryz.prog.laidByTextLater [("crossbar/insn.atomics", Rows.laid_crossbar_insn_atomics), ("crossbar/maps.ops", Rows.laid_crossbar_maps_ops)] [.widerDeep, .mapped] true :=
  Program.laidByTextLater_by_one 39 8 11 (by kernel_rfl) (by kernel_rfl) (by kernel_rfl) (by kernel_rfl) (by kernel_rfl) (by kernel_rfl) (fun _ _ => by kernel_rfl)
theorem noOwnUnsafe : Tryz.pinned.checked.prog.headLifts.contains "ownunsafe" = false := by kernel_rfl
theorem tie : Tryz.prog.laidByTextLater [("crossbar/insn.atomics", Rows.laid_crossbar_insn_atomics), ("crossbar/maps.ops", Rows.laid_crossbar_maps_ops)] [.widerDeep, .mapped] true :=
  Program.laidByTextLater.sub seatTie1 ["crossbar/insn.atomics", "crossbar/maps.ops"] (by kernel_rfl) (by kernel_rfl)
theorem mapsPieces_row_tie : Rows.mapsPiecesRow.laidByTextAt .later Tryz.pinned [.widerDeep, .mapped] true :=
  OpenClaim.laidByTextAt_later rfl rfl tie noOwnUnsafe
theorem mapsRefused_row_tie : Rows.mapsRefusedRow.laidByTextAt .later Tryz.pinned [.widerDeep, .mapped] true :=
  OpenClaim.laidByTextAt_later rfl rfl tie noOwnUnsafe
theorem mapsKnown_row_tie : Rows.mapsKnownRow.laidByTextAt .later Tryz.pinned [.widerDeep, .mapped] true :=
  OpenClaim.laidByTextAt_later rfl rfl tie noOwnUnsafe
theorem mapsPiecesUpto_row_tie : Rows.mapsPiecesUptoRow.laidByTextAt .later Tryz.pinned [.widerDeep, .mapped] true :=
  OpenClaim.laidByTextAt_later rfl rfl tie noOwnUnsafe
theorem mapsRefusedUpto_row_tie : Rows.mapsRefusedUptoRow.laidByTextAt .later Tryz.pinned [.widerDeep, .mapped] true :=
  OpenClaim.laidByTextAt_later rfl rfl tie noOwnUnsafe
theorem mapsKnownUpto_row_tie : Rows.mapsKnownUptoRow.laidByTextAt .later Tryz.pinned [.widerDeep, .mapped] true :=
  OpenClaim.laidByTextAt_later rfl rfl tie noOwnUnsafe
end Go.Proofs.YtkdjfcimbbihdaaGreatDoor
