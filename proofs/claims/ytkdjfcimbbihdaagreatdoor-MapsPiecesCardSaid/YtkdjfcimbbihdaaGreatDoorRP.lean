/- PART of the proof of MapsPieces: The run of MapsPieces, by the kernel: what it begins with. No condition. -/
import Derived.Test.YtkdjfcimbbihdaaGreatDoorRC
/-! The run of MapsPieces, by the kernel: what it begins with. -/
namespace Go.Proofs.YtkdjfcimbbihdaaGreatDoor.Run
open Go Go.Abs
set_option maxRecDepth 100000
def b0 : List Bt := [.v 0 0, .v 0 1, .v 0 2, .v 0 3, .v 0 4, .v 0 5, .v 0 6, .v 0 7, .v 0 8, .v 0 9, .v 0 10, .v 0 11, .v 0 12, .v 0 13, .v 0 14, .v 0 15, .v 0 16, .v 0 17, .v 0 18, .v 0 19, .v 0 20, .v 0 21, .v 0 22, .v 0 23, .v 0 24, .v 0 25, .v 0 26, .v 0 27, .v 0 28, .v 0 29, .v 0 30, .v 0 31, .v 0 32, .v 0 33, .v 0 34, .v 0 35, .v 0 36, .v 0 37, .v 0 38, .v 0 39, .v 0 40, .v 0 41, .v 0 42, .v 0 43, .v 0 44, .v 0 45, .v 0 46, .v 0 47, .v 0 48, .v 0 49, .v 0 50, .v 0 51, .v 0 52, .v 0 53, .v 0 54, .v 0 55, .v 0 56, .v 0 57, .v 0 58, .v 0 59, .v 0 60, .v 0 61, .v 0 62, .v 0 63]
def b1 : List Bt := [.v 1 0, .v 1 1, .v 1 2, .v 1 3, .v 1 4, .v 1 5, .v 1 6, .v 1 7, .v 1 8, .v 1 9, .v 1 10, .v 1 11, .v 1 12, .v 1 13, .v 1 14, .v 1 15, .v 1 16, .v 1 17, .v 1 18, .v 1 19, .v 1 20, .v 1 21, .v 1 22, .v 1 23, .v 1 24, .v 1 25, .v 1 26, .v 1 27, .v 1 28, .v 1 29, .v 1 30, .v 1 31, .v 1 32, .v 1 33, .v 1 34, .v 1 35, .v 1 36, .v 1 37, .v 1 38, .v 1 39, .v 1 40, .v 1 41, .v 1 42, .v 1 43, .v 1 44, .v 1 45, .v 1 46, .v 1 47, .v 1 48, .v 1 49, .v 1 50, .v 1 51, .v 1 52, .v 1 53, .v 1 54, .v 1 55, .v 1 56, .v 1 57, .v 1 58, .v 1 59, .v 1 60, .v 1 61, .v 1 62, .v 1 63]
def b2 : List Bt := [.v 2 0, .v 2 1, .v 2 2, .v 2 3, .v 2 4, .v 2 5, .v 2 6, .v 2 7, .v 2 8, .v 2 9, .v 2 10, .v 2 11, .v 2 12, .v 2 13, .v 2 14, .v 2 15, .v 2 16, .v 2 17, .v 2 18, .v 2 19, .v 2 20, .v 2 21, .v 2 22, .v 2 23, .v 2 24, .v 2 25, .v 2 26, .v 2 27, .v 2 28, .v 2 29, .v 2 30, .v 2 31, .v 2 32, .v 2 33, .v 2 34, .v 2 35, .v 2 36, .v 2 37, .v 2 38, .v 2 39, .v 2 40, .v 2 41, .v 2 42, .v 2 43, .v 2 44, .v 2 45, .v 2 46, .v 2 47, .v 2 48, .v 2 49, .v 2 50, .v 2 51, .v 2 52, .v 2 53, .v 2 54, .v 2 55, .v 2 56, .v 2 57, .v 2 58, .v 2 59, .v 2 60, .v 2 61, .v 2 62, .v 2 63]
theorem b0_eq : b0 = (List.range 64).map fun j => Bt.v 0 j := by kernel_rfl
theorem b1_eq : b1 = (List.range 64).map fun j => Bt.v 1 j := by kernel_rfl
theorem b2_eq : b2 = (List.range 64).map fun j => Bt.v 2 j := by kernel_rfl
/-- What is known: the unknown 3 lies between a and b, 4 between c and d. -/
def ivP (a b c d : Int) : Iv := ⟨[(0, ⟨-9223372036854775808, 9223372036854775807, []⟩), (1, ⟨-9223372036854775808, 9223372036854775807, []⟩), (2, ⟨-9223372036854775808, 9223372036854775807, []⟩), (3, ⟨a, b, []⟩), (4, ⟨c, d, []⟩), (5, ⟨0, 3, []⟩), (6, ⟨0, 1, []⟩), (7, ⟨0, 0, []⟩), (8, ⟨0, 9, []⟩)], [], [(3, 0, 4), (4, 1, 8), (5, 1, 4), (6, 1, 2), (7, 1, 1), (8, 2, 10)]⟩
def argsP : List V := [.sym .u64 (.w b0), .sym .u64 (.w b1), .sym .u64 (.w b2), .sym .i64 (.lin 0 [(1, 0)]), .sym .i64 (.lin 0 [(1, 1)]), .sym .i64 (.lin 0 [(1, 2)])]
def PiecesRun (iv : Iv) : Prop := gcall (lookM meths) lg0 (sel2 12 8) (gs2 heap 8) tbl 100000 100 3 argsP heap iv (fun v _ _ => isTrue v) (fun _ _ _ => false) = true
end Go.Proofs.YtkdjfcimbbihdaaGreatDoor.Run
