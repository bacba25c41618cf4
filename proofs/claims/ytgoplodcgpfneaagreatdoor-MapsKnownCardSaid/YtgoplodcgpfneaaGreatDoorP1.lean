/- PART of the proof of MapsKnown: the road of the law, from the listed variables to the value true. No condition but the row's own. -/
import Derived.Test.YtgoplodcgpfneaaGreatDoorR1
import Derived.Test.YtgoplodcgpfneaaGreatDoorTie
import Derived.Test.YtgoplodcgpfneaaGreatDoorCards
import Derived.ProofKit
import Derived.LaidMore
import Derived.OpenShut
import Derived.ChangeSame
import Derived.SevenTiedAt
import Derived.Stop.Joined
namespace Go.Proofs.YtgoplodcgpfneaaGreatDoor.mapsKnown
open Go Go.Abs Go.ChangeShapes Go.WideShapes Go.ChangeAt Go.RowKit
open Run (tbl meths ints ents)
theorem own : ownKnob Tryz.prog.godebug = none := by kernel_rfl
theorem mixed : Tryz.prog.follows .mixedOrders = true := by kernel_rfl
theorem start_laid {W : World} (h : laidMetH Tryz.prog Rows.mapsKnownRow.laid W) : Begins W 1 0 .i64 ints ents := by
  rw [MakeChecks.laidMetH_plain _ _ _ (by kernel_rfl)] at h
  exact start_of_laid (l := ints) (es := ents) (n1 := "crossbar/insn.atomics") (n2 := "crossbar/maps.ops") (ta := 91) (tm := 63) (e := 3) (m := 10) (by kernel_rfl) (by kernel_rfl) (by kernel_rfl) (by kernel_rfl) Tryz.underlying91 Tryz.underlying3 Tryz.underlying63 (by kernel_rfl) (by kernel_rfl) (by decide) (by decide) h

theorem walk {W : World} (hL : laidMetH Tryz.prog Rows.mapsKnownRow.laid W) :
    Calls Tryz.prog 5 #[] W fun e w' => e = .returned (.bool true) ∧ W.keptBut w' (fun _ => False) := by
  obtain ⟨φ, hrel, hg, hf⟩ := start_rel (start_laid hL)
  obtain ⟨v, σ', hrun, hv⟩ := fcall_true (lookM meths) tbl 100000 100 _ _ _ _ Run.runs
  rw [← Run.heap_eq] at hrun
  have hc := callF_sound mixed (lookM_ok Run.meths_all) (tbl_ok Run.tbl_eq Run.fns_all) 100000 100 _ _ _ _ _ hrun φ W [] hrel hg .nil
  refine hc.2.mono ?_
  rintro e w' ⟨v', φ', rfl, hsim, hvr⟩
  refine ⟨?_, kept_of_sim hsim hf⟩
  cases hvr <;> simp at hv
  subst hv
  rfl

end Go.Proofs.YtgoplodcgpfneaaGreatDoor.mapsKnown
