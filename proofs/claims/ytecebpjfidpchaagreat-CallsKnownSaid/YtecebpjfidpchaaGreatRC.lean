/- PART of the proof of CallsKnown: Where a run begins: nothing is known of what is there. No condition. -/
import Derived.Test.YtecebpjfidpchaaGreatT2
import Derived.Test.YtecebpjfidpchaaGreatU25
import Derived.Test.YtecebpjfidpchaaGreatU35
/-! Where a run begins: nothing is known of what is there. -/
namespace Go.Proofs.YtecebpjfidpchaaGreat.Run
open Go Go.Abs
set_option maxRecDepth 100000
def heap : H := ⟨.e, 0⟩
theorem heap_inst (e : En) : heap.inst e = heap := by rfl
theorem closed : TblClosed tbl := tbl_closed tbl_eq (by kernel_rfl)
abbrev lg0 : List Nat → GC → GC := fun _ _ _ _ _ _ _ => false
def isTrue (v : V) : Bool := match v with | .bool b => b | _ => false
/-- Calls. -/
theorem all_ok : CallOk Tryz.prog gl (callF (lookM meths) noCall tbl.get 100000 100) :=
  callF_sound (by kernel_rfl) (lookM_ok meths_all) noCall_ok (tbl_ok tbl_eq fns_all) 100000 100
theorem start_any (w : World) : ∃ φ : F, Rel φ heap w ∧ GRel φ gl ∧ ∀ k, ¬ Foot φ heap k := by
  refine ⟨fun _ => none, ⟨?_, ?_, ?_⟩, ?_, ?_⟩
  · intro b B h; simp [heap, H.get, T.get] at h
  · intro b B b' B' p p' h; simp [heap, H.get, T.get] at h
  · intro b p h; simp at h
  · intro g h; simp [gl] at h
  · rintro k ⟨j, B, p, hB, _⟩; simp [heap, H.get, T.get] at hB
end Go.Proofs.YtecebpjfidpchaaGreat.Run
