/- PROVED HERE: crossbarlaw28.CallsKnown returns true, whatever the package's variables hold. No condition. -/
import Derived.Test.YtecebpjfidpchaaGreatKA
import Derived.Test.YtecebpjfidpchaaGreatD1
import Derived.Test.YtecebpjfidpchaaGreatD2
import Derived.Test.YtecebpjfidpchaaGreatD3
import Derived.Test.YtecebpjfidpchaaGreatD4
import Derived.Test.YtecebpjfidpchaaGreatD5
import Derived.Test.YtecebpjfidpchaaGreatRows
import Derived.ProofKit
import Derived.LaidMore
import Derived.OpenShut
import Derived.ChangeSame
import Derived.Stop.Joined
namespace Go.Proofs.YtecebpjfidpchaaGreat.callsKnown
open Go Go.Abs Go.ChangeShapes Go.WideShapes Go.ChangeAt Go.RowKit
open Run (tbl meths gl)
theorem own : ownKnob Tryz.prog.godebug = none := by kernel_rfl
theorem walk (W : World) : Calls Tryz.prog 3 #[] W fun e w' => e = .returned (.bool true) ∧ W.keptBut w' (fun _ => False) := by
  obtain ⟨φ, hrel, hg, hf⟩ := Run.start_any W
  obtain ⟨σ', hrun⟩ := Run.callsKnown_call
  have hc := Run.all_ok _ _ _ _ hrun φ W [] hrel hg (.nil)
  refine hc.2.mono ?_
  rintro e w' ⟨v', φ', rfl, hsim, hvr⟩
  refine ⟨?_, kept_of_sim hsim hf⟩
  cases hvr
  rfl
set_option maxRecDepth 100000 in
theorem lifted (os : Os) (started : os.Started) (H : Type) (enc : TypeId × Value → H) :
    ReturnsInHanded {} Tryz.checked os 3 .any (Rows.callsKnownSpec.pre6 enc Tryz.prog Tryz.f3 Rows.callsKnownRow.domain false) (Rows.callsKnownSpec.post enc Tryz.prog Tryz.f3 false true false false) := by
  refine returnsInHanded_of_change (C := Tryz.checked) own started (by kernel_rfl) Tryz.func3
    (ChangeSpec.witness6 (enc := enc) (C := Tryz.checked) false ⟨#[], #[], []⟩ 8 (by kernel_rfl) (by kernel_rfl) (by kernel_rfl) (by kernel_rfl)) ?_
  intro W base args ds gs before hval0 hW hcnd _
  have hW' := hW
  obtain ⟨p, q, hA0, hV, rfl, hfz, hnd⟩ := hW
  have hA : DataW.TrodAll enc Tryz.prog W 0 (fun _ => true) true Tryz.f3.params.toList args.toList ds p := hA0
  rw [Tryz.params3] at hA
  obtain ⟨rfl, rfl, rfl⟩ := trodAll_none hA
  obtain ⟨rfl, rfl⟩ := trodVars_none hV
  refine (walk W).mono fun e W' ⟨he, hk⟩ => ?_
  subst he
  refine ⟨_, rfl, _, _, _, [], [], [], hW', ?_, ?_, ?_, World.keptBut_mono ?_ hk, fun h => by cases h⟩
  · exact trodAll_mk1 (shut_bool Tryz.underlying4 true)
  · exact trodAll_mk0
  · rfl
  · intro p hp; exact hp.elim
/-- THE STATEMENT. -/
theorem proved : Rows.CallsKnownSaid :=
  OpenClaim.holds_of_wide 3 Tryz.f3 rfl rfl rfl rfl rfl rfl rfl ⟨rfl, rfl, rfl, rfl, rfl⟩ rfl rfl rfl rfl rfl (by kernel_rfl) Tryz.func3 (joined_of d1 d2 d3 d4)
    (of_decide_eq_true (by kernel_rfl)) (by unfold Func.isWrapper; first | (rw [if_pos (by decide +kernel)]; kernel_rfl) | (rw [if_neg (by decide +kernel)]; exact ⟨rfl, rfl⟩))
    (fun os started H enc _ => lifted os started H enc)
end Go.Proofs.YtecebpjfidpchaaGreat.callsKnown
