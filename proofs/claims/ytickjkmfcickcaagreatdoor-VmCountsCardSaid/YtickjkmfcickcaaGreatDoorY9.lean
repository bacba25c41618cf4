/- PROVED HERE: the tied card of crossbarlaw27.VmCounts: the law returns true. Condition: the two listed package variables hold what the program's text lays (tied by the given text). -/
import Derived.Test.YtickjkmfcickcaaGreatDoorRN
import Derived.Test.YtickjkmfcickcaaGreatDoorY2
import Derived.Test.YtickjkmfcickcaaGreatDoorY3
import Derived.Test.YtickjkmfcickcaaGreatDoorY7
import Derived.Test.YtickjkmfcickcaaGreatDoorE1
import Derived.Test.YtickjkmfcickcaaGreatDoorE2
import Derived.Test.YtickjkmfcickcaaGreatDoorE3
import Derived.Test.YtickjkmfcickcaaGreatDoorE4
import Derived.Test.YtickjkmfcickcaaGreatDoorE5
import Derived.Test.YtickjkmfcickcaaGreatDoorTie
import Derived.Test.YtickjkmfcickcaaGreatDoorCards
import Derived.ProofKit
import Derived.LaidMore
import Derived.OpenShut
import Derived.ChangeSame
import Derived.SevenTiedAt
import Derived.Stop.Joined
namespace Go.Proofs.YtickjkmfcickcaaGreatDoor.vmCounts
open Go Go.Abs Go.ChangeShapes Go.WideShapes Go.ChangeAt Go.RowKit
open Run (tbl meths ints ents)
theorem own : ownKnob Tryz.prog.godebug = none := by kernel_rfl
theorem start_laid {W : World} (h : laidMetH Tryz.prog Rows.vmCountsRow.laid W) : Begins W 1 0 .i64 ints ents := by
  rw [MakeChecks.laidMetH_plain _ _ _ (by kernel_rfl)] at h
  exact start_of_laid (l := ints) (es := ents) (n1 := "crossbar/insn.atomics") (n2 := "crossbar/maps.ops") (ta := 337) (tm := 315) (e := 3) (m := 10) (by kernel_rfl) (by kernel_rfl) (by kernel_rfl) (by kernel_rfl) Tryz.underlying337 Tryz.underlying3 Tryz.underlying315 (by kernel_rfl) (by kernel_rfl) (by decide) (by decide) h
theorem walk {W : World} (hL : laidMetH Tryz.prog Rows.vmCountsRow.laid W) {a0 : Int} (ha0 : (Lit.int .i64 a0).wf = true) :
    Calls Tryz.prog 5 #[.int .i64 a0] W fun e w' => e = .returned (.bool true) ∧ W.keptBut w' (fun _ => False) := by
  obtain ⟨φ, hrel, hg, hf⟩ := start_rel (start_laid hL)
  obtain ⟨σ', hrun⟩ := Run.vmCounts_call ha0
  rw [← Run.heap_eq] at hrun
  have hc := Run.all_ok _ _ _ _ hrun φ W [.int .i64 a0] hrel hg (.cons _ _ _ _ (.int _ _) .nil)
  refine hc.2.mono ?_
  rintro e w' ⟨v', φ', rfl, hsim, hvr⟩
  refine ⟨?_, kept_of_sim hsim hf⟩
  cases hvr
  rfl
set_option maxRecDepth 100000 in
theorem lifted (os : Os) (started : os.Started) (H : Type) (enc : TypeId × Value → H) :
    ReturnsInHanded {} Tryz.checked os 5 .any (fun w args => (Rows.vmCountsSpec.pre enc Tryz.prog Tryz.f5 [] false w args ∧ laidMetH Tryz.prog Rows.vmCountsRow.laid w) ∧ sizedMet enc Tryz.prog Tryz.f5 (OpenSpec.ofChange Rows.vmCountsSpec) false w args)
      (Rows.vmCountsSpec.post enc Tryz.prog Tryz.f5 false true false false) := by
  refine returnsInHanded_of_change_and (C := Tryz.checked) (X := fun w _ => laidMetH Tryz.prog Rows.vmCountsRow.laid w) (fun _ _ _ hh h => h.of_heap hh) own started (by kernel_rfl) Tryz.func5
    (ChangeSpec.witness_shaped (enc := enc) (C := Tryz.checked) (os := os) (X := fun w _ => laidMetH Tryz.prog Rows.vmCountsRow.laid w) false (World.doorLaid Tryz.prog 400 os) #[.int .i64 0] 8 rfl (World.shaped_of_RefB (q1 os) (q2 os)) (q3 os) (q4 os H enc) (q5 os H enc) (door_met os _)) ?_
  intro W base args ds gs before hval0 hW _ _ hL _
  have hval : ∀ (j : Nat) t v, Tryz.f5.params[j]? = some t → args[j]? = some v → Value.okWide Tryz.prog W .any base t v := hval0
  have hW' := hW
  obtain ⟨p, q, hA0, hV, rfl, hfz, hnd⟩ := hW
  have hA : DataW.TrodAll enc Tryz.prog W 0 (fun _ => true) true Tryz.f5.params.toList args.toList ds p := hA0
  rw [Tryz.params5] at hA hval
  obtain ⟨v0, vs0, d0, ds0, p0, q0, hargs, rfl, rfl, h0, r0⟩ := trodAll_cons hA
  obtain ⟨rfl, rfl, rfl⟩ := trodAll_nil r0
  obtain rfl : args = #[v0] := by cases args; simp_all
  obtain ⟨rfl, rfl⟩ := trodVars_none hV
  obtain ⟨n0, rfl, rfl, rfl, w0⟩ := open_int Tryz.underlying3 (hval 0 3 v0 rfl rfl) h0
  clear hA0 hval0
  simp only [List.append_nil] at hW'
  refine (walk hL w0).mono fun e W' ⟨he, hk⟩ => ?_
  subst he
  refine ⟨_, rfl, _, _, _, [], [], [], hW', ?_, ?_, ?_, World.keptBut_mono ?_ hk, fun h => by cases h⟩
  · exact trodAll_mk1 (shut_bool Tryz.underlying4 true)
  · exact trodAll_cons_mk (shut_int Tryz.underlying3 w0) (trodAll_mk0)
  · rfl
  · intro p hp; exact hp.elim
theorem over_of (joined : joinedFacts Tryz.pinned.checked.prog 5 Tryz.f5 Rows.vmCountsSpec Rows.vmCountsRow = true) (lifted : ∀ (os : Os) (_ : os.Started) (H : Type) (enc : TypeId × Value → H), ReturnsInHanded {} Tryz.checked os 5 .any (fun w args => (Rows.vmCountsSpec.pre enc Tryz.prog Tryz.f5 [] false w args ∧ laidMetH Tryz.prog Rows.vmCountsRow.laid w) ∧ sizedMet enc Tryz.prog Tryz.f5 (OpenSpec.ofChange Rows.vmCountsSpec) false w args)
      (Rows.vmCountsSpec.post enc Tryz.prog Tryz.f5 false true false false)) : Rows.vmCountsRow.holds Tryz.pinned (OpenSpec.ofChange Rows.vmCountsSpec) :=
  OpenClaim.holds_of_wide 5 Tryz.f5 rfl rfl rfl rfl rfl rfl rfl ⟨rfl, rfl, rfl, rfl, rfl⟩ rfl rfl rfl rfl rfl (by kernel_rfl) Tryz.func5 joined
    (of_decide_eq_true (by kernel_rfl)) (by unfold Func.isWrapper; first | (rw [if_pos (by decide +kernel)]; kernel_rfl) | (rw [if_neg (by decide +kernel)]; exact ⟨rfl, rfl⟩))
    (fun os started H enc _ => lifted os started H enc)

/-- THE TIED CARD. -/
theorem card_holds : Rows.VmCountsCardSaid :=
  Claim7.holds_tied_plain_at .later [] [.widerDeep, .mapped] true (true, "abcd240fbcfbcbd914fd404af745913178d8c06ba4643bff6ad1371a801c3c86") true
    (over_of (joined_of d1 d2 d3 d4) lifted) (fun _ h => by cases h) fact1 (fun _ h => by cases h) vmCounts_row_tie rfl ⟨rfl, rfl⟩ fact2 rfl
    (fun f fn hf hfn => by
      obtain rfl : f = 5 := Option.some.inj (fact5.symm.trans hf) |>.symm
      obtain rfl : fn = Tryz.f5 := (Option.some.inj (Tryz.func5.symm.trans hfn)).symm
      exact ⟨fact3, fun j t ht => by
        rw [Tryz.params5] at ht
        have hm : t ∈ [3] := by simpa using Array.mem_of_getElem? ht
        have hall : ([3].all fun u => !Tryz.prog.wantsStandIn u) = true := by kernel_rfl
        exact (show Tryz.prog.wantsStandIn t = false by simpa using List.all_eq_true.1 hall t hm)⟩)
    fact4
end Go.Proofs.YtickjkmfcickcaaGreatDoor.vmCounts
