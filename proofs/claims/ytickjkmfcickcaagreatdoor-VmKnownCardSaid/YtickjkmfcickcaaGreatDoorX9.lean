/- PROVED HERE: the tied card of crossbarlaw27.VmKnown: the law returns true. Condition: the two listed package variables hold what the program's text lays (tied by the given text). -/
import Derived.Test.YtickjkmfcickcaaGreatDoorKA
import Derived.Test.YtickjkmfcickcaaGreatDoorX2
import Derived.Test.YtickjkmfcickcaaGreatDoorX3
import Derived.Test.YtickjkmfcickcaaGreatDoorX7
import Derived.Test.YtickjkmfcickcaaGreatDoorD1
import Derived.Test.YtickjkmfcickcaaGreatDoorD2
import Derived.Test.YtickjkmfcickcaaGreatDoorD3
import Derived.Test.YtickjkmfcickcaaGreatDoorD4
import Derived.Test.YtickjkmfcickcaaGreatDoorD5
import Derived.Test.YtickjkmfcickcaaGreatDoorTie
import Derived.Test.YtickjkmfcickcaaGreatDoorCards
import Derived.ProofKit
import Derived.LaidMore
import Derived.OpenShut
import Derived.ChangeSame
import Derived.SevenTiedAt
import Derived.Stop.Joined
namespace Go.Proofs.YtickjkmfcickcaaGreatDoor.vmKnown
open Go Go.Abs Go.ChangeShapes Go.WideShapes Go.ChangeAt Go.RowKit
open Run (tbl meths ints ents)
theorem own : ownKnob Tryz.prog.godebug = none := by kernel_rfl
theorem start_laid {W : World} (h : laidMetH Tryz.prog Rows.vmKnownRow.laid W) : Begins W 1 0 .i64 ints ents := by
  rw [MakeChecks.laidMetH_plain _ _ _ (by kernel_rfl)] at h
  exact start_of_laid (l := ints) (es := ents) (n1 := "crossbar/insn.atomics") (n2 := "crossbar/maps.ops") (ta := 337) (tm := 315) (e := 3) (m := 10) (by kernel_rfl) (by kernel_rfl) (by kernel_rfl) (by kernel_rfl) Tryz.underlying337 Tryz.underlying3 Tryz.underlying315 (by kernel_rfl) (by kernel_rfl) (by decide) (by decide) h
theorem walk {W : World} (hL : laidMetH Tryz.prog Rows.vmKnownRow.laid W) :
    Calls Tryz.prog 4 #[] W fun e w' => e = .returned (.bool true) ∧ W.keptBut w' (fun _ => False) := by
  obtain ⟨φ, hrel, hg, hf⟩ := start_rel (start_laid hL)
  obtain ⟨σ', hrun⟩ := Run.vmKnown_call 
  rw [← Run.heap_eq] at hrun
  have hc := Run.all_ok _ _ _ _ hrun φ W [] hrel hg (.nil)
  refine hc.2.mono ?_
  rintro e w' ⟨v', φ', rfl, hsim, hvr⟩
  refine ⟨?_, kept_of_sim hsim hf⟩
  cases hvr
  rfl
set_option maxRecDepth 100000 in
theorem lifted (os : Os) (started : os.Started) (H : Type) (enc : TypeId × Value → H) :
    ReturnsInHanded {} Tryz.checked os 4 .any (fun w args => (Rows.vmKnownSpec.pre enc Tryz.prog Tryz.f4 [] false w args ∧ laidMetH Tryz.prog Rows.vmKnownRow.laid w) ∧ sizedMet enc Tryz.prog Tryz.f4 (OpenSpec.ofChange Rows.vmKnownSpec) false w args)
      (Rows.vmKnownSpec.post enc Tryz.prog Tryz.f4 false true false false) := by
  refine returnsInHanded_of_change_and (C := Tryz.checked) (X := fun w _ => laidMetH Tryz.prog Rows.vmKnownRow.laid w) (fun _ _ _ hh h => h.of_heap hh) own started (by kernel_rfl) Tryz.func4
    (ChangeSpec.witness_shaped (enc := enc) (C := Tryz.checked) (os := os) (X := fun w _ => laidMetH Tryz.prog Rows.vmKnownRow.laid w) false (World.doorLaid Tryz.prog 400 os) #[] 8 rfl (World.shaped_of_RefB (q1 os) (q2 os)) (q3 os) (q4 os H enc) (q5 os H enc) (door_met os _)) ?_
  intro W base args ds gs before hval0 hW _ _ hL _
  have hW' := hW
  obtain ⟨p, q, hA0, hV, rfl, hfz, hnd⟩ := hW
  have hA : DataW.TrodAll enc Tryz.prog W 0 (fun _ => true) true Tryz.f4.params.toList args.toList ds p := hA0
  rw [Tryz.params4] at hA
  obtain ⟨rfl, rfl, rfl⟩ := trodAll_none hA
  obtain ⟨rfl, rfl⟩ := trodVars_none hV
  refine (walk hL).mono fun e W' ⟨he, hk⟩ => ?_
  subst he
  refine ⟨_, rfl, _, _, _, [], [], [], hW', ?_, ?_, ?_, World.keptBut_mono ?_ hk, fun h => by cases h⟩
  · exact trodAll_mk1 (shut_bool Tryz.underlying4 true)
  · exact trodAll_mk0
  · rfl
  · intro p hp; exact hp.elim
theorem over_of (joined : joinedFacts Tryz.pinned.checked.prog 4 Tryz.f4 Rows.vmKnownSpec Rows.vmKnownRow = true) (lifted : ∀ (os : Os) (_ : os.Started) (H : Type) (enc : TypeId × Value → H), ReturnsInHanded {} Tryz.checked os 4 .any (fun w args => (Rows.vmKnownSpec.pre enc Tryz.prog Tryz.f4 [] false w args ∧ laidMetH Tryz.prog Rows.vmKnownRow.laid w) ∧ sizedMet enc Tryz.prog Tryz.f4 (OpenSpec.ofChange Rows.vmKnownSpec) false w args)
      (Rows.vmKnownSpec.post enc Tryz.prog Tryz.f4 false true false false)) : Rows.vmKnownRow.holds Tryz.pinned (OpenSpec.ofChange Rows.vmKnownSpec) :=
  OpenClaim.holds_of_wide 4 Tryz.f4 rfl rfl rfl rfl rfl rfl rfl ⟨rfl, rfl, rfl, rfl, rfl⟩ rfl rfl rfl rfl rfl (by kernel_rfl) Tryz.func4 joined
    (of_decide_eq_true (by kernel_rfl)) (by unfold Func.isWrapper; first | (rw [if_pos (by decide +kernel)]; kernel_rfl) | (rw [if_neg (by decide +kernel)]; exact ⟨rfl, rfl⟩))
    (fun os started H enc _ => lifted os started H enc)

/-- THE TIED CARD. -/
theorem card_holds : Rows.VmKnownCardSaid :=
  Claim7.holds_tied_plain_at .later [] [.widerDeep, .mapped] true (true, "abcd240fbcfbcbd914fd404af745913178d8c06ba4643bff6ad1371a801c3c86") true
    (over_of (joined_of d1 d2 d3 d4) lifted) (fun _ h => by cases h) fact1 (fun _ h => by cases h) vmKnown_row_tie rfl ⟨rfl, rfl⟩ fact2 rfl
    (fun f fn hf hfn => by
      obtain rfl : f = 4 := Option.some.inj (fact5.symm.trans hf) |>.symm
      obtain rfl : fn = Tryz.f4 := (Option.some.inj (Tryz.func4.symm.trans hfn)).symm
      exact ⟨fact3, fun j t ht => by
        rw [Tryz.params4] at ht
        simp at ht⟩)
    fact4
end Go.Proofs.YtickjkmfcickcaaGreatDoor.vmKnown
