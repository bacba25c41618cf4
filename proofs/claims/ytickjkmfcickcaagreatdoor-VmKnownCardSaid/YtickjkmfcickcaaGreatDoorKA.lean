/- PART of the proof of VmKnown: VmKnown: the value of the run. No condition. -/
import Derived.Test.YtickjkmfcickcaaGreatDoorRK
/-! VmKnown: the value of the run. -/
namespace Go.Proofs.YtickjkmfcickcaaGreatDoor.Run
open Go Go.Abs
theorem vmKnown_call : ∃ σ1, callF (lookM meths) noCall tbl.get 100000 100 4 [] heap = some (.ret (.bool true) σ1) := by
  obtain ⟨iv', _, h⟩ := gcall_true (lookM meths) noSel closed 100000 (lgR_ok (by omega) pickK_ok) 100 _ _ _ _ _ _ known_run ⟨fun _ => 0, fun _ => 0⟩ ⟨by simp, by simp, by simp⟩
  rw [heap_inst] at h
  rcases h with ⟨v, σ1, h1, h2⟩ | ⟨_, _, _, h2⟩
  · cases v <;> simp [isTrue] at h2
    subst h2
    exact ⟨_, h1⟩
  · simp at h2
end Go.Proofs.YtickjkmfcickcaaGreatDoor.Run
