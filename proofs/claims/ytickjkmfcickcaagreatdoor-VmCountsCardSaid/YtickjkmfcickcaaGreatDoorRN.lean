/- PART of the proof of VmCounts: The runs of VmCounts, by the kernel, and their value at all inputs. No condition. -/
import Derived.Test.YtickjkmfcickcaaGreatDoorRC
import Derived.Test.YtickjkmfcickcaaGreatDoorL1
/-! The runs of VmCounts, by the kernel, and their value at all inputs. -/
namespace Go.Proofs.YtickjkmfcickcaaGreatDoor.Run
open Go Go.Abs
set_option maxRecDepth 100000
/-- What is known: x0 is the number (or one less than what is below 0), x1 its rest by 9000. -/
def ivN (a b : Int) : Iv := ⟨[(0, ⟨0, 9223372036854775807, []⟩), (1, ⟨a, b, []⟩)], [], [(1, 0, 9000)]⟩
def argN (neg : Bool) : List V := [if neg then .sym .i64 (.lin (-1) [(-1, 0)]) else .sym .i64 (.lin 0 [(1, 0)])]
def CountsRun (neg : Bool) (iv : Iv) : Prop := gcall (lookM meths) (lgR pickC 30) (fun _ _ => false) (fun _ _ _ _ _ _ => false) tbl 100000 100 5 (argN neg) heap iv (fun v _ _ => isTrue v) (fun _ _ _ => false) = true
theorem counts0 : CountsRun false (ivN 0 6664) := by unfold CountsRun; kernel_rfl
theorem counts1 : CountsRun false (ivN 6665 8999) := by unfold CountsRun; kernel_rfl
theorem counts2 : CountsRun true (ivN 0 6664) := by unfold CountsRun; kernel_rfl
theorem counts3 : CountsRun true (ivN 6665 8999) := by unfold CountsRun; kernel_rfl
def enN (x : Int) : En := ⟨fun _ => 0, fun i => if i = 0 then x else x % 9000⟩
theorem ivN_ok {x a b : Int} (h0 : 0 ≤ x) (h1 : x ≤ 9223372036854775807) (h2 : a ≤ x % 9000) (h3 : x % 9000 ≤ b) : (ivN a b).ok (enN x) := by
  refine ⟨fun p hp => ?_, by simp [ivN], fun p hp => ?_⟩
  · simp only [ivN, List.mem_cons, List.not_mem_nil, or_false] at hp
    rcases hp with rfl | rfl
    · exact ⟨h0, h1, by simp⟩
    · exact ⟨h2, h3, by simp⟩
  · simp only [ivN, List.mem_cons, List.not_mem_nil, or_false] at hp
    subst hp
    rfl
theorem counts_of {neg : Bool} {iv : Iv} (hr : CountsRun neg iv) {e : En} (he : iv.ok e) : ∃ σ1, callF (lookM meths) noCall tbl.get 100000 100 5 ((argN neg).map (V.inst e)) heap = some (.ret (.bool true) σ1) := by
  obtain ⟨iv', _, h⟩ := gcall_true (lookM meths) noSel closed 100000 (lgR_ok (by omega) pickC_ok) 100 _ _ _ _ _ _ hr e he
  rw [heap_inst] at h
  rcases h with ⟨v, σ1, h1, h2⟩ | ⟨_, _, _, h2⟩
  · cases v <;> simp [isTrue] at h2
    subst h2
    exact ⟨_, h1⟩
  · simp at h2
theorem vmCounts_call {a : Int} (ha : (Lit.int .i64 a).wf = true) : ∃ σ1, callF (lookM meths) noCall tbl.get 100000 100 5 [.int .i64 a] heap = some (.ret (.bool true) σ1) := by
  have ha : -9223372036854775808 ≤ a ∧ a ≤ 9223372036854775807 := by
    simp [Lit.wf, IntKind.min, IntKind.max, IntKind.signed, IntKind.bits] at ha
    omega
  by_cases h : 0 ≤ a
  · have e : (argN false).map (V.inst (enN a)) = [.int .i64 a] := by
      have : IntKind.i64.wrap (0 + (1 * a + 0)) = a := by rw [i64_lin (by omega) (by omega)]; omega
      simp [argN, V.inst, Sy.ev, linSum, enN]
      simpa using this
    rw [← e]
    by_cases h2 : a % 9000 ≤ 6664
    · exact counts_of counts0 (ivN_ok h ha.2 (by omega) h2)
    · exact counts_of counts1 (ivN_ok h ha.2 (by omega) (by omega))
  · have e : (argN true).map (V.inst (enN (-1 - a))) = [.int .i64 a] := by
      have : IntKind.i64.wrap (-1 + (-1 * (-1 - a) + 0)) = a := by rw [i64_lin (by omega) (by omega)]; omega
      simp only [argN, if_true, List.map_cons, List.map_nil, V.inst, Sy.ev, linSum]
      have hx : (enN (-1 - a)).x 0 = -1 - a := rfl
      rw [hx, this]
    rw [← e]
    by_cases h2 : (-1 - a) % 9000 ≤ 6664
    · exact counts_of counts2 (ivN_ok (by omega) (by omega) (by omega) h2)
    · exact counts_of counts3 (ivN_ok (by omega) (by omega) (by omega) (by omega))
end Go.Proofs.YtickjkmfcickcaaGreatDoor.Run
