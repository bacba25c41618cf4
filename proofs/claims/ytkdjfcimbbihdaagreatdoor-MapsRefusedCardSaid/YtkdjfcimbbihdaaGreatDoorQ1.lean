/- PART of the proof of MapsRefused: the road of the law, from the listed variables to the value true. No condition but the row's own. -/
import Derived.Test.YtkdjfcimbbihdaaGreatDoorQA
import Derived.Test.YtkdjfcimbbihdaaGreatDoorTie
import Derived.Test.YtkdjfcimbbihdaaGreatDoorCards
import Derived.ProofKit
import Derived.LaidMore
import Derived.OpenShut
import Derived.ChangeSame
import Derived.SevenTiedAt
import Derived.Stop.Joined
namespace Go.Proofs.YtkdjfcimbbihdaaGreatDoor.mapsRefused
open Go Go.Abs Go.ChangeShapes Go.WideShapes Go.ChangeAt Go.RowKit
open Run (tbl meths ints ents)
theorem own : ownKnob Tryz.prog.godebug = none := by kernel_rfl
theorem start_laid {W : World} (h : laidMetH Tryz.prog Rows.mapsRefusedRow.laid W) : Begins W 1 0 .i64 ints ents := by
  rw [MakeChecks.laidMetH_plain _ _ _ (by kernel_rfl)] at h
  exact start_of_laid (l := ints) (es := ents) (n1 := "crossbar/insn.atomics") (n2 := "crossbar/maps.ops") (ta := 91) (tm := 63) (e := 3) (m := 10) (by kernel_rfl) (by kernel_rfl) (by kernel_rfl) (by kernel_rfl) Tryz.underlying91 Tryz.underlying3 Tryz.underlying63 (by kernel_rfl) (by kernel_rfl) (by decide) (by decide) h

theorem walk {W : World} (hL : laidMetH Tryz.prog Rows.mapsRefusedRow.laid W) {m a b c v : Int} (hm : (Lit.int .i64 m).wf = true) (ha : (Lit.int .i64 a).wf = true) (hb : (Lit.int .i64 b).wf = true) (hc : (Lit.int .i64 c).wf = true) (hv : (Lit.int .u64 v).wf = true) :
    Calls Tryz.prog 4 #[.int .i64 m, .int .i64 a, .int .i64 b, .int .i64 c, .int .u64 v] W fun e w' => e = .returned (.bool true) ∧ W.keptBut w' (fun _ => False) := by
  obtain ⟨φ, hrel, hg, hf⟩ := start_rel (start_laid hL)
  have u : ∀ {n : Int}, (Lit.int .u64 n).wf = true → ∃ m : Nat, n = m ∧ m < 18446744073709551616 := by
    intro n h
    simp [Lit.wf, IntKind.min, IntKind.max, IntKind.signed, IntKind.bits] at h
    exact ⟨n.toNat, by omega, by omega⟩
  have i : ∀ {n : Int}, (Lit.int .i64 n).wf = true → Run.full.ok n := by
    intro n h
    simp [Lit.wf, IntKind.min, IntKind.max, IntKind.signed, IntKind.bits] at h
    exact ⟨by simp [Run.full]; omega, by simp [Run.full]; omega, by simp [Run.full]⟩
  obtain ⟨v, rfl, gv⟩ := u hv
  obtain ⟨σ', hrun⟩ := Run.refused_call gv (i hm) (i ha) (i hb) (i hc)
  rw [← Run.heap_eq] at hrun
  have hc := Run.all_ok _ _ _ _ hrun φ W [.int .i64 m, .int .i64 a, .int .i64 b, .int .i64 c, .int .u64 v] hrel hg (.cons _ _ _ _ (.int _ _) (.cons _ _ _ _ (.int _ _) (.cons _ _ _ _ (.int _ _) (.cons _ _ _ _ (.int _ _) (.cons _ _ _ _ (.int _ _) .nil)))))
  refine hc.2.mono ?_
  rintro e w' ⟨v', φ', rfl, hsim, hvr⟩
  refine ⟨?_, kept_of_sim hsim hf⟩
  cases hvr
  rfl
end Go.Proofs.YtkdjfcimbbihdaaGreatDoor.mapsRefused
