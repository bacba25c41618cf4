/- PART of the proof of CallsKnown: CallsKnown: the value of the run. No condition. -/
import Derived.Test.YtecebpjfidpchaaGreatRK
/-! CallsKnown: the value of the run. -/
namespace Go.Proofs.YtecebpjfidpchaaGreat.Run
open Go Go.Abs
theorem callsKnown_call : ∃ σ1, callF (lookM meths) noCall tbl.get 100000 100 3 [] heap = some (.ret (.bool true) σ1) := by
  obtain ⟨iv', _, h⟩ := gcall_true (lookM meths) noSel closed 100000 (noLg 100000) 100 _ _ _ _ _ _ callsKnown_run ⟨fun _ => 0, fun _ => 0⟩ ⟨by simp, by simp, by simp⟩
  rw [heap_inst] at h
  rcases h with ⟨v, σ1, h1, h2⟩ | ⟨_, _, _, h2⟩
  · cases v <;> simp [isTrue] at h2
    subst h2
    exact ⟨_, h1⟩
  · simp at h2
end Go.Proofs.YtecebpjfidpchaaGreat.Run
