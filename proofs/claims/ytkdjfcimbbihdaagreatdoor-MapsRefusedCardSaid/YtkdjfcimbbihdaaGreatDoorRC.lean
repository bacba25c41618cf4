/- PART of the proof of MapsPieces: What both laws call: works, and Pick. No condition. -/
import Derived.Test.YtkdjfcimbbihdaaGreatDoorT2
import Derived.Test.YtkdjfcimbbihdaaGreatDoorU25
import Derived.Test.YtkdjfcimbbihdaaGreatDoorU35
/-! What both laws call: works, and Pick. -/
namespace Go.Proofs.YtkdjfcimbbihdaaGreatDoor.Run
open Go Go.Abs
set_option maxRecDepth 100000
def ints : List Int := [0, 64, 80, 160, 1, 65, 81, 161, 225, 241]
def ents : List (Int × Int) := [(0, 0), (64, 64), (80, 80), (160, 160)]
def heap : H := ⟨(.n (.n .e (some (.cells true 10 (.n (.n (.n (.n .e (some (.int .i64 161)) .e) (some (.int .i64 160)) .e) (some (.int .i64 64)) (.n (.n .e (some (.int .i64 241)) .e) (some (.int .i64 65)) .e)) (some (.int .i64 0)) (.n (.n (.n .e (some (.int .i64 225)) .e) (some (.int .i64 1)) .e) (some (.int .i64 80)) (.n .e (some (.int .i64 81)) .e))))) .e) (some (.cells true 1 (.n .e (some (.map 2)) .e))) (.n .e (some (.map true [(.int .i64 0, .int .i64 0), (.int .i64 64, .int .i64 64), (.int .i64 80, .int .i64 80), (.int .i64 160, .int .i64 160)])) .e)), 3⟩
theorem heap_eq : startH .i64 ints ents = heap := by kernel_rfl
theorem heap_inst (e : En) : heap.inst e = heap := by rfl
theorem heap_lt : ∀ b B, heap.get b = some B → b < heap.next := by
  intro b B h
  rcases Nat.lt_or_ge b 3 with hb | hb
  · exact hb
  · exfalso
    rw [← heap_eq] at h
    simp only [startH, H.get, T.get_ofList] at h
    rw [if_neg (by simp; omega)] at h
    simp [T.get] at h
theorem closed : TblClosed tbl := tbl_closed tbl_eq (by kernel_rfl)
abbrev lg0 : List Nat → GC → GC := fun _ _ _ _ _ _ _ => false
def isTrue (v : V) : Bool := match v with | .bool b => b | _ => false
/-- THE RUN of works, by the kernel. -/
theorem works_runs : gcall (lookM meths) lg0 (fun _ _ => false) (fun _ _ _ _ _ _ => false) tbl 100000 100 12 [] heap ⟨[], [], []⟩ (fun v _ _ => isTrue v) (fun _ _ _ => false) = true := by kernel_rfl
theorem works_call : ∃ σ1, callF (lookM meths) noCall tbl.get 100000 100 12 [] heap = some (.ret (.bool true) σ1) := by
  obtain ⟨iv', _, h⟩ := gcall_true (lookM meths) noSel closed 100000 (noLg 100000) 100 _ _ _ _ _ _ works_runs ⟨fun _ => 0, fun _ => 0⟩ ⟨by simp, by simp, by simp⟩
  rw [heap_inst] at h
  rcases h with ⟨v, σ1, h1, h2⟩ | ⟨_, _, _, h2⟩
  · cases v <;> simp [isTrue] at h2
    subst h2
    exact ⟨_, h1⟩
  · simp at h2
/-- The rest, made positive. -/
theorem fin1 (v n : Int) (h1 : 1 ≤ n) : (if v.tmod n < 0 then v.tmod n + n else v.tmod n) = v % n := by
  rcases Int.le_total 0 v with h | h
  · rw [Int.tmod_eq_emod_of_nonneg h]
    have := Int.emod_nonneg v (show n ≠ 0 by omega)
    rw [if_neg (by omega)]
  · have e1 : v.tmod n = -((-v) % n) := by
      have : v.tmod n = -((-v).tmod n) := by rw [Int.neg_tmod]; omega
      rw [this, Int.tmod_eq_emod_of_nonneg (by omega)]
    have q1 := Int.emod_nonneg (-v) (show n ≠ 0 by omega)
    have q2 := Int.emod_lt_of_pos (-v) (show 0 < n by omega)
    have q3 := Int.mul_ediv_add_emod (-v) n
    rw [e1]
    generalize (-v) % n = q at *
    generalize (-v) / n = k at *
    by_cases hq : q = 0
    · subst hq
      have : v = n * (-k) := by rw [Int.mul_neg]; omega
      have : v % n = 0 := by rw [this]; exact Int.mul_emod_right _ _
      simp [this]
    · rw [if_pos (by omega)]
      have e2 : n * (-k - 1) = -(n * k) - n := by rw [Int.mul_sub, Int.mul_neg, Int.mul_one]
      have : v = (n - q) + n * (-k - 1) := by rw [e2]; omega
      have h2 : v % n = (n - q) % n := by
        conv => lhs; rw [this]
        exact Int.add_mul_emod_self_left _ _ _
      rw [h2, Int.emod_eq_of_lt (by omega) (by omega)]
      omega
set_option maxHeartbeats 1000000 in
theorem pick_call (v n : Int) (σ : H) (h1 : 1 ≤ n) (h2 : n ≤ 100) (_h3 : -9223372036854775808 ≤ v) (_h4 : v ≤ 9223372036854775807) : callF (lookM meths) noCall tbl.get 100000 100 8 [.int .i64 v, .int .i64 n] σ = some (.ret (.int .i64 (v % n)) σ) := by
  have hf : tbl.get 8 = some i8 := by kernel_rfl
  have hn : ¬ n = 0 := by omega
  have hn1 : ¬ n < 1 := by omega
  have hfin := fin1 v n h1
  have b1 := Int.emod_nonneg v (show n ≠ 0 by omega)
  have b2 := Int.emod_lt_of_pos v (show 0 < n by omega)
  show callF (lookM meths) noCall tbl.get 100000 (99 + 1) 8 [.int .i64 v, .int .i64 n] σ = _
  by_cases hc : v.tmod n < 0
  · rw [if_pos hc] at hfin
    have hw : IntKind.i64.wrap (v.tmod n + n) = v % n := by rw [hfin]; exact IntWalk.i64_in _ (by omega)
    simp [callF, noCall, hf, i8, evC, evOps, ev1, unk, wantedV, Abs.step, stepL, ev, T.get_put, putd, T.ofList, arithV, hn, hn1, hc, Oc.out, Ex.mode, runD, resOf, resV, hw]
  · rw [if_neg hc] at hfin
    have hc2 : ¬ v % n < 0 := by omega
    simp [callF, noCall, hf, i8, evC, evOps, ev1, unk, wantedV, Abs.step, stepL, ev, T.get_put, putd, T.ofList, arithV, hn, hn1, Oc.out, Ex.mode, runD, resOf, resV, hfin, hc2]
theorem base_ok : CallOk Tryz.prog gl (callF (lookM meths) noCall tbl.get 100000 100) :=
  callF_sound (by kernel_rfl) (lookM_ok meths_all) noCall_ok (tbl_ok tbl_eq fns_all) 100000 100
theorem sm_ok : CallOk Tryz.prog gl (sm2 heap 12 8) := by
  refine orCall_ok (restCall_ok base_ok pick_call) (sumCall_ok base_ok heap_lt ?_ ?_)
  · intro g hg
    have : g ∈ gl := by simpa using hg
    revert this
    simp only [gl]
    intro h
    rcases List.mem_cons.1 h with rfl | h
    · decide
    · rcases List.mem_cons.1 h with rfl | h
      · decide
      · simp at h
  · intro x hx
    simp at hx; subst hx
    exact works_call
/-- Calls, with what is shown ahead. -/
theorem all_ok : CallOk Tryz.prog gl (callF (lookM meths) (sm2 heap 12 8) tbl.get 100000 100) :=
  callF_sound (by kernel_rfl) (lookM_ok meths_all) sm_ok (tbl_ok tbl_eq fns_all) 100000 100
end Go.Proofs.YtkdjfcimbbihdaaGreatDoor.Run
