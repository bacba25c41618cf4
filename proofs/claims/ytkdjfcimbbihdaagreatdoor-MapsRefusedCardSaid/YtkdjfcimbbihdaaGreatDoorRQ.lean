/- PART of the proof of MapsRefused: The run of MapsRefused, by the kernel: what it begins with. No condition. -/
import Derived.Test.YtkdjfcimbbihdaaGreatDoorRC
/-! The run of MapsRefused, by the kernel: what it begins with. -/
namespace Go.Proofs.YtkdjfcimbbihdaaGreatDoor.Run
open Go Go.Abs
set_option maxRecDepth 100000
def bq : List Bt := [.v 0 0, .v 0 1, .v 0 2, .v 0 3, .v 0 4, .v 0 5, .v 0 6, .v 0 7, .v 0 8, .v 0 9, .v 0 10, .v 0 11, .v 0 12, .v 0 13, .v 0 14, .v 0 15, .v 0 16, .v 0 17, .v 0 18, .v 0 19, .v 0 20, .v 0 21, .v 0 22, .v 0 23, .v 0 24, .v 0 25, .v 0 26, .v 0 27, .v 0 28, .v 0 29, .v 0 30, .v 0 31, .v 0 32, .v 0 33, .v 0 34, .v 0 35, .v 0 36, .v 0 37, .v 0 38, .v 0 39, .v 0 40, .v 0 41, .v 0 42, .v 0 43, .v 0 44, .v 0 45, .v 0 46, .v 0 47, .v 0 48, .v 0 49, .v 0 50, .v 0 51, .v 0 52, .v 0 53, .v 0 54, .v 0 55, .v 0 56, .v 0 57, .v 0 58, .v 0 59, .v 0 60, .v 0 61, .v 0 62, .v 0 63]
theorem bq_eq : bq = (List.range 64).map fun j => Bt.v 0 j := by kernel_rfl
/-- What is known: of the map, and of the number of the operation. -/
def ivQ (m f : Xf) : Iv := ⟨[(0, m), (1, ⟨-9223372036854775808, 9223372036854775807, []⟩), (2, ⟨-9223372036854775808, 9223372036854775807, []⟩), (3, f)], [], []⟩
def full : Xf := ⟨-9223372036854775808, 9223372036854775807, []⟩
def rest : Xf := ⟨-9223372036854775808, 9223372036854775807, [0, 1, 64, 65, 80, 81, 160, 161, 225, 241]⟩
def notOne : Xf := ⟨-9223372036854775808, 9223372036854775807, [1]⟩
def argsQ : List V := [.sym .i64 (.lin 0 [(1, 0)]), .sym .i64 (.lin 0 [(1, 1)]), .sym .i64 (.lin 0 [(1, 2)]), .sym .i64 (.lin 0 [(1, 3)]), .sym .u64 (.w bq)]
def RefusedRun (iv : Iv) : Prop := gcall (lookM meths) lg0 (sel2 12 8) (gs2 heap 8) tbl 100000 100 4 argsQ heap iv (fun v _ _ => isTrue v) (fun _ _ _ => false) = true
end Go.Proofs.YtkdjfcimbbihdaaGreatDoor.Run
