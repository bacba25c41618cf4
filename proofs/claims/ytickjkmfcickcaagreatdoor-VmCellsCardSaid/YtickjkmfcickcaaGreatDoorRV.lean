/- PART of the proof of VmCells: The run of VmCells, by the kernel: what it begins with. No condition. -/
import Derived.Test.YtickjkmfcickcaaGreatDoorRC
/-! The run of VmCells, by the kernel: what it begins with. -/
namespace Go.Proofs.YtickjkmfcickcaaGreatDoor.Run
open Go Go.Abs
set_option maxRecDepth 100000
def b0 : List Bt := [.v 0 0, .v 0 1, .v 0 2, .v 0 3, .v 0 4, .v 0 5, .v 0 6, .v 0 7, .v 0 8, .v 0 9, .v 0 10, .v 0 11, .v 0 12, .v 0 13, .v 0 14, .v 0 15, .v 0 16, .v 0 17, .v 0 18, .v 0 19, .v 0 20, .v 0 21, .v 0 22, .v 0 23, .v 0 24, .v 0 25, .v 0 26, .v 0 27, .v 0 28, .v 0 29, .v 0 30, .v 0 31, .v 0 32, .v 0 33, .v 0 34, .v 0 35, .v 0 36, .v 0 37, .v 0 38, .v 0 39, .v 0 40, .v 0 41, .v 0 42, .v 0 43, .v 0 44, .v 0 45, .v 0 46, .v 0 47, .v 0 48, .v 0 49, .v 0 50, .v 0 51, .v 0 52, .v 0 53, .v 0 54, .v 0 55, .v 0 56, .v 0 57, .v 0 58, .v 0 59, .v 0 60, .v 0 61, .v 0 62, .v 0 63]
def b1 : List Bt := [.v 1 0, .v 1 1, .v 1 2, .v 1 3, .v 1 4, .v 1 5, .v 1 6, .v 1 7, .v 1 8, .v 1 9, .v 1 10, .v 1 11, .v 1 12, .v 1 13, .v 1 14, .v 1 15, .v 1 16, .v 1 17, .v 1 18, .v 1 19, .v 1 20, .v 1 21, .v 1 22, .v 1 23, .v 1 24, .v 1 25, .v 1 26, .v 1 27, .v 1 28, .v 1 29, .v 1 30, .v 1 31, .v 1 32, .v 1 33, .v 1 34, .v 1 35, .v 1 36, .v 1 37, .v 1 38, .v 1 39, .v 1 40, .v 1 41, .v 1 42, .v 1 43, .v 1 44, .v 1 45, .v 1 46, .v 1 47, .v 1 48, .v 1 49, .v 1 50, .v 1 51, .v 1 52, .v 1 53, .v 1 54, .v 1 55, .v 1 56, .v 1 57, .v 1 58, .v 1 59, .v 1 60, .v 1 61, .v 1 62, .v 1 63]
theorem b0_eq : b0 = (List.range 64).map fun j => Bt.v 0 j := by kernel_rfl
theorem b1_eq : b1 = (List.range 64).map fun j => Bt.v 1 j := by kernel_rfl
/-- What is known: the key lies between a and b. -/
def ivV (a b : Int) : Iv := ⟨[(0, ⟨a, b, []⟩)], [], []⟩
def argsV (b : Bool) : List V := [.sym .i64 (.lin 0 [(1, 0)]), .sym .u64 (.w b0), .sym .u64 (.w b1), .bool b]
def CellsRun (b : Bool) (iv : Iv) : Prop := gcall (lookM meths) lg0 (fun _ _ => false) (fun _ _ _ _ _ _ => false) tbl 100000 100 3 (argsV b) heap iv (fun v _ _ => isTrue v) (fun _ _ _ => false) = true
end Go.Proofs.YtickjkmfcickcaaGreatDoor.Run
