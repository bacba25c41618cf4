/- PROVED HERE: the tied card of crossbarlaw27.VmCells: the law returns true. Condition: the two listed package variables hold what the program's text lays (tied by the given text). -/
import Derived.Test.YtickjkmfcickcaaGreatDoorRV0
import Derived.Test.YtickjkmfcickcaaGreatDoorRV1
import Derived.Test.YtickjkmfcickcaaGreatDoorRV2
import Derived.Test.YtickjkmfcickcaaGreatDoorRV3
import Derived.Test.YtickjkmfcickcaaGreatDoorTie
import Derived.Test.YtickjkmfcickcaaGreatDoorCards
import Derived.ProofKit
import Derived.LaidMore
import Derived.OpenShut
import Derived.ChangeSame
import Derived.SevenTiedAt
import Derived.Stop.Joined
import Derived.Test.YtickjkmfcickcaaGreatDoorC3
import Derived.Test.YtickjkmfcickcaaGreatDoorC2
import Derived.Test.YtickjkmfcickcaaGreatDoorRC
import Derived.Test.YtickjkmfcickcaaGreatDoorC7
import Derived.Test.YtickjkmfcickcaaGreatDoorD1
import Derived.Test.YtickjkmfcickcaaGreatDoorD2
import Derived.Test.YtickjkmfcickcaaGreatDoorD3
import Derived.Test.YtickjkmfcickcaaGreatDoorD4
import Derived.Test.YtickjkmfcickcaaGreatDoorD5
/-! VmCells: the value of the run, at all inputs. -/
namespace Go.Proofs.YtickjkmfcickcaaGreatDoor.Run
open Go Go.Abs
set_option maxRecDepth 100000
def enV (n v : Nat) (a : Int) : En := ⟨fun i => if i = 0 then n else v, fun _ => a⟩
theorem ivV_ok {n v : Nat} {a l h : Int} (h1 : l ≤ a) (h2 : a ≤ h) : (ivV l h).ok (enV n v a) := by
  refine ⟨fun p hp => ?_, by simp [ivV], by simp [ivV]⟩
  simp only [ivV, List.mem_cons, List.not_mem_nil, or_false] at hp
  subst hp
  exact ⟨h1, h2, by simp⟩
theorem argsV_inst {n v : Nat} (hn : n < 18446744073709551616) (hv : v < 18446744073709551616) {a : Int} (ha : -9223372036854775808 ≤ a ∧ a ≤ 9223372036854775807) (b : Bool) :
    (argsV b).map (V.inst (enV n v a)) = [.int .i64 a, .int .u64 n, .int .u64 v, .bool b] := by
  have l : IntKind.i64.wrap (0 + linSum (enV n v a).x [(1, 0)]) = a := by
    have : (enV n v a).x 0 = a := rfl
    simp only [linSum, Int.zero_add, Int.one_mul, Int.add_zero, this]
    exact IntWalk.i64_in _ ha
  simp only [argsV, List.map_cons, List.map_nil, V.inst, Sy.ev, b0_eq, b1_eq, word_vars]
  rw [l]
  have e0 : (enV n v a).w 0 = n := rfl
  have e1 : (enV n v a).w 1 = v := rfl
  rw [e0, e1, Nat.mod_eq_of_lt (by simpa using hn), Nat.mod_eq_of_lt (by simpa using hv)]
theorem cells_of {b : Bool} {iv : Iv} (hr : CellsRun b iv) {e : En} (he : iv.ok e) : ∃ σ1, callF (lookM meths) noCall tbl.get 100000 100 3 ((argsV b).map (V.inst e)) heap = some (.ret (.bool true) σ1) := by
  obtain ⟨iv', _, h⟩ := gcall_true (lookM meths) noSel closed 100000 (noLg 100000) 100 _ _ _ _ _ _ hr e he
  rw [heap_inst] at h
  rcases h with ⟨v, σ1, h1, h2⟩ | ⟨_, _, _, h2⟩
  · cases v <;> simp [isTrue] at h2
    subst h2
    exact ⟨_, h1⟩
  · simp at h2
theorem cells_call {n v : Nat} (hn : n < 18446744073709551616) (hv : v < 18446744073709551616) {a : Int} (ha : -9223372036854775808 ≤ a ∧ a ≤ 9223372036854775807) (b : Bool) :
    ∃ σ1, callF (lookM meths) noCall tbl.get 100000 100 3 [.int .i64 a, .int .u64 n, .int .u64 v, .bool b] heap = some (.ret (.bool true) σ1) := by
  rw [← argsV_inst hn hv ha b]
  by_cases h : 0 ≤ a
  · cases b with
    | true => exact cells_of cells0 (ivV_ok h ha.2)
    | false => exact cells_of cells2 (ivV_ok h ha.2)
  · cases b with
    | true => exact cells_of cells1 (ivV_ok ha.1 (by omega))
    | false => exact cells_of cells3 (ivV_ok ha.1 (by omega))
end Go.Proofs.YtickjkmfcickcaaGreatDoor.Run
namespace Go.Proofs.YtickjkmfcickcaaGreatDoor.vmCells
open Go Go.Abs Go.ChangeShapes Go.WideShapes Go.ChangeAt Go.RowKit
open Run (tbl meths ints ents)
theorem own : ownKnob Tryz.prog.godebug = none := by kernel_rfl
theorem start_laid {W : World} (h : laidMetH Tryz.prog Rows.vmCellsRow.laid W) : Begins W 1 0 .i64 ints ents := by
  rw [MakeChecks.laidMetH_plain _ _ _ (by kernel_rfl)] at h
  exact start_of_laid (l := ints) (es := ents) (n1 := "crossbar/insn.atomics") (n2 := "crossbar/maps.ops") (ta := 337) (tm := 315) (e := 3) (m := 10) (by kernel_rfl) (by kernel_rfl) (by kernel_rfl) (by kernel_rfl) Tryz.underlying337 Tryz.underlying3 Tryz.underlying315 (by kernel_rfl) (by kernel_rfl) (by decide) (by decide) h

theorem walk {W : World} (hL : laidMetH Tryz.prog Rows.vmCellsRow.laid W) {a n v : Int} (ha : (Lit.int .i64 a).wf = true) (hn : (Lit.int .u64 n).wf = true) (hv : (Lit.int .u64 v).wf = true) (b : Bool) :
    Calls Tryz.prog 3 #[.int .i64 a, .int .u64 n, .int .u64 v, .bool b] W fun e w' => e = .returned (.bool true) ∧ W.keptBut w' (fun _ => False) := by
  obtain ⟨φ, hrel, hg, hf⟩ := start_rel (start_laid hL)
  have u : ∀ {n : Int}, (Lit.int .u64 n).wf = true → ∃ m : Nat, n = m ∧ m < 18446744073709551616 := by
    intro n h
    simp [Lit.wf, IntKind.min, IntKind.max, IntKind.signed, IntKind.bits] at h
    exact ⟨n.toNat, by omega, by omega⟩
  have i : ∀ {n : Int}, (Lit.int .i64 n).wf = true → -9223372036854775808 ≤ n ∧ n ≤ 9223372036854775807 := by
    intro n h
    simp [Lit.wf, IntKind.min, IntKind.max, IntKind.signed, IntKind.bits] at h
    omega
  obtain ⟨n, rfl, gn⟩ := u hn
  obtain ⟨v, rfl, gv⟩ := u hv
  obtain ⟨σ', hrun⟩ := Run.cells_call gn gv (i ha) b
  rw [← Run.heap_eq] at hrun
  have hc := Run.all_ok _ _ _ _ hrun φ W [.int .i64 a, .int .u64 n, .int .u64 v, .bool b] hrel hg (.cons _ _ _ _ (.int _ _) (.cons _ _ _ _ (.int _ _) (.cons _ _ _ _ (.int _ _) (.cons _ _ _ _ (.bool _) .nil))))
  refine hc.2.mono ?_
  rintro e w' ⟨v', φ', rfl, hsim, hvr⟩
  refine ⟨?_, kept_of_sim hsim hf⟩
  cases hvr
  rfl
end Go.Proofs.YtickjkmfcickcaaGreatDoor.vmCells
namespace Go.Proofs.YtickjkmfcickcaaGreatDoor.vmCells
open Go Go.Abs Go.ChangeShapes Go.WideShapes Go.ChangeAt Go.RowKit
open Run (tbl meths ints ents)
set_option maxRecDepth 100000 in
theorem lifted (os : Os) (started : os.Started) (H : Type) (enc : TypeId × Value → H) :
    ReturnsInHanded {} Tryz.checked os 3 .any (fun w args => (Rows.vmCellsSpec.pre enc Tryz.prog Tryz.f3 [] false w args ∧ laidMetH Tryz.prog Rows.vmCellsRow.laid w) ∧ sizedMet enc Tryz.prog Tryz.f3 (OpenSpec.ofChange Rows.vmCellsSpec) false w args)
      (Rows.vmCellsSpec.post enc Tryz.prog Tryz.f3 false true false false) := by
  refine returnsInHanded_of_change_and (C := Tryz.checked) (X := fun w _ => laidMetH Tryz.prog Rows.vmCellsRow.laid w) (fun _ _ _ hh h => h.of_heap hh) own started (by kernel_rfl) Tryz.func3
    (ChangeSpec.witness_shaped (enc := enc) (C := Tryz.checked) (os := os) (X := fun w _ => laidMetH Tryz.prog Rows.vmCellsRow.laid w) false (World.doorLaid Tryz.prog 400 os) #[.int .i64 0, .int .u64 0, .int .u64 0, .bool false] 8 rfl (World.shaped_of_RefB (q1 os) (q2 os)) (q3 os) (q4 os H enc) (q5 os H enc) (door_met os _)) ?_
  intro W base args ds gs before hval0 hW _ _ hL _
  have hval : ∀ (j : Nat) t v, Tryz.f3.params[j]? = some t → args[j]? = some v → Value.okWide Tryz.prog W .any base t v := hval0
  have hW' := hW
  obtain ⟨p, q, hA0, hV, rfl, hfz, hnd⟩ := hW
  have hA : DataW.TrodAll enc Tryz.prog W 0 (fun _ => true) true Tryz.f3.params.toList args.toList ds p := hA0
  rw [Tryz.params3] at hA hval
  obtain ⟨v0, vs0, d0, ds0, p0, q0, hargs, rfl, rfl, h0, r0⟩ := trodAll_cons hA
  obtain ⟨v1, vs1, d1, ds1, p1, q1, rfl, rfl, rfl, h1, r1⟩ := trodAll_cons r0
  obtain ⟨v2, vs2, d2, ds2, p2, q2, rfl, rfl, rfl, h2, r2⟩ := trodAll_cons r1
  obtain ⟨v3, vs3, d3, ds3, p3, q3, rfl, rfl, rfl, h3, r3⟩ := trodAll_cons r2
  obtain ⟨rfl, rfl, rfl⟩ := trodAll_nil r3
  obtain rfl : args = #[v0, v1, v2, v3] := by cases args; simp_all
  obtain ⟨rfl, rfl⟩ := trodVars_none hV
  obtain ⟨k0, rfl, rfl, rfl, w0⟩ := open_int Tryz.underlying3 (hval 0 3 v0 rfl rfl) h0
  obtain ⟨n0, rfl, rfl, rfl, w1⟩ := open_int Tryz.underlying22 (hval 1 22 v1 rfl rfl) h1
  obtain ⟨x0, rfl, rfl, rfl, w2⟩ := open_int Tryz.underlying22 (hval 2 22 v2 rfl rfl) h2
  obtain ⟨b0, rfl, rfl, rfl⟩ := Go.RowKit.open_bool Tryz.underlying4 (hval 3 4 v3 rfl rfl) h3
  clear hA0 hval0
  simp only [List.append_nil] at hW'
  refine (walk hL w0 w1 w2 b0).mono fun e W' ⟨he, hk⟩ => ?_
  subst he
  refine ⟨_, rfl, _, _, _, [], [], [], hW', ?_, ?_, ?_, World.keptBut_mono ?_ hk, fun h => by cases h⟩
  · exact trodAll_mk1 (shut_bool Tryz.underlying4 true)
  · exact trodAll_cons_mk (shut_int Tryz.underlying3 w0) (trodAll_cons_mk (shut_int Tryz.underlying22 w1) (trodAll_cons_mk (shut_int Tryz.underlying22 w2) (trodAll_cons_mk (shut_bool Tryz.underlying4 b0) (trodAll_mk0))))
  · rfl
  · intro p hp; exact hp.elim
end Go.Proofs.YtickjkmfcickcaaGreatDoor.vmCells
namespace Go.Proofs.YtickjkmfcickcaaGreatDoor.vmCells
open Go Go.Abs Go.ChangeShapes Go.WideShapes Go.ChangeAt Go.RowKit
open Run (tbl meths ints ents)
theorem over_of (joined : joinedFacts Tryz.pinned.checked.prog 3 Tryz.f3 Rows.vmCellsSpec Rows.vmCellsRow = true) (lifted : ∀ (os : Os) (_ : os.Started) (H : Type) (enc : TypeId × Value → H), ReturnsInHanded {} Tryz.checked os 3 .any (fun w args => (Rows.vmCellsSpec.pre enc Tryz.prog Tryz.f3 [] false w args ∧ laidMetH Tryz.prog Rows.vmCellsRow.laid w) ∧ sizedMet enc Tryz.prog Tryz.f3 (OpenSpec.ofChange Rows.vmCellsSpec) false w args)
      (Rows.vmCellsSpec.post enc Tryz.prog Tryz.f3 false true false false)) : Rows.vmCellsRow.holds Tryz.pinned (OpenSpec.ofChange Rows.vmCellsSpec) :=
  OpenClaim.holds_of_wide 3 Tryz.f3 rfl rfl rfl rfl rfl rfl rfl ⟨rfl, rfl, rfl, rfl, rfl⟩ rfl rfl rfl rfl rfl (by kernel_rfl) Tryz.func3 joined
    (of_decide_eq_true (by kernel_rfl)) (by unfold Func.isWrapper; first | (rw [if_pos (by decide +kernel)]; kernel_rfl) | (rw [if_neg (by decide +kernel)]; exact ⟨rfl, rfl⟩))
    (fun os started H enc _ => lifted os started H enc)
end Go.Proofs.YtickjkmfcickcaaGreatDoor.vmCells
namespace Go.Proofs.YtickjkmfcickcaaGreatDoor.vmCells
open Go

/-- THE TIED CARD. -/
theorem card_holds : Rows.VmCellsCardSaid :=
  Claim7.holds_tied_plain_at .later [] [.widerDeep, .mapped] true (true, "abcd240fbcfbcbd914fd404af745913178d8c06ba4643bff6ad1371a801c3c86") true
    (over_of (joined_of d1 d2 d3 d4) lifted) (fun _ h => by cases h) fact1 (fun _ h => by cases h) vmCells_row_tie rfl ⟨rfl, rfl⟩ fact2 rfl
    (fun f fn hf hfn => by
      obtain rfl : f = 3 := Option.some.inj (fact5.symm.trans hf) |>.symm
      obtain rfl : fn = Tryz.f3 := (Option.some.inj (Tryz.func3.symm.trans hfn)).symm
      exact ⟨fact3, fun j t ht => by
        rw [Tryz.params3] at ht
        have hm : t ∈ [3, 22, 22, 4] := by simpa using Array.mem_of_getElem? ht
        have hall : ([3, 22, 22, 4].all fun u => !Tryz.prog.wantsStandIn u) = true := by kernel_rfl
        exact (show Tryz.prog.wantsStandIn t = false by simpa using List.all_eq_true.1 hall t hm)⟩)
    fact4
end Go.Proofs.YtickjkmfcickcaaGreatDoor.vmCells
