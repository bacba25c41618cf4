/- PART of the proof of VmKnown: Where a run begins, and that runs are right: no call is taken from elsewhere. No condition. -/
import Derived.Test.YtickjkmfcickcaaGreatDoorT2
import Derived.Test.YtickjkmfcickcaaGreatDoorU25
import Derived.Test.YtickjkmfcickcaaGreatDoorU35
/-! Where a run begins, and that runs are right: no call is taken from elsewhere. -/
namespace Go.Proofs.YtickjkmfcickcaaGreatDoor.Run
open Go Go.Abs
set_option maxRecDepth 100000
def ints : List Int := [0, 64, 80, 160, 1, 65, 81, 161, 225, 241]
def ents : List (Int × Int) := [(0, 0), (64, 64), (80, 80), (160, 160)]
def heap : H := ⟨(.n (.n .e (some (.cells true 10 (.n (.n (.n (.n .e (some (.int .i64 161)) .e) (some (.int .i64 160)) .e) (some (.int .i64 64)) (.n (.n .e (some (.int .i64 241)) .e) (some (.int .i64 65)) .e)) (some (.int .i64 0)) (.n (.n (.n .e (some (.int .i64 225)) .e) (some (.int .i64 1)) .e) (some (.int .i64 80)) (.n .e (some (.int .i64 81)) .e))))) .e) (some (.cells true 1 (.n .e (some (.map 2)) .e))) (.n .e (some (.map true [(.int .i64 0, .int .i64 0), (.int .i64 64, .int .i64 64), (.int .i64 80, .int .i64 80), (.int .i64 160, .int .i64 160)])) .e)), 3⟩
theorem heap_eq : startH .i64 ints ents = heap := by kernel_rfl
theorem heap_inst (e : En) : heap.inst e = heap := by rfl
theorem heap_lt : ∀ b B, heap.get b = some B → b < heap.next := by
  intro b B h
  rcases Nat.lt_or_ge b 3 with hb | hb
  · exact hb
  · exfalso
    rw [← heap_eq] at h
    simp only [startH, H.get, T.get_ofList] at h
    rw [if_neg (by simp; omega)] at h
    simp [T.get] at h
theorem closed : TblClosed tbl := tbl_closed tbl_eq (by kernel_rfl)
def isTrue (v : V) : Bool := match v with | .bool b => b | _ => false
/-- Calls. -/
theorem all_ok : CallOk Tryz.prog gl (callF (lookM meths) noCall tbl.get 100000 100) :=
  callF_sound (by kernel_rfl) (lookM_ok meths_all) noCall_ok (tbl_ok tbl_eq fns_all) 100000 100
end Go.Proofs.YtickjkmfcickcaaGreatDoor.Run
