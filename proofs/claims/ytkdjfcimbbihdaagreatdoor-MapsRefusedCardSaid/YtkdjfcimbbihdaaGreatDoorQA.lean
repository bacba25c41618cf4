/- PART of the proof of MapsRefused: MapsRefused: the value of the run, at all inputs. No condition. -/
import Derived.Test.YtkdjfcimbbihdaaGreatDoorRC
import Derived.Test.YtkdjfcimbbihdaaGreatDoorRQ0
import Derived.Test.YtkdjfcimbbihdaaGreatDoorRQ1
import Derived.Test.YtkdjfcimbbihdaaGreatDoorRQ2
import Derived.Test.YtkdjfcimbbihdaaGreatDoorRQ3
import Derived.Test.YtkdjfcimbbihdaaGreatDoorRQ4
import Derived.Test.YtkdjfcimbbihdaaGreatDoorRQ5
/-! MapsRefused: the value of the run, at all inputs. -/
namespace Go.Proofs.YtkdjfcimbbihdaaGreatDoor.Run
open Go Go.Abs
set_option maxRecDepth 100000
def enQ (v : Nat) (m a b c : Int) : En := ⟨fun _ => v, fun i => match i with
  | 0 => m | 1 => a | 2 => b | _ => c⟩
theorem ivQ_ok {v : Nat} {m a b c : Int} {xm xf : Xf} (hm : xm.ok m) (ha : full.ok a) (hb : full.ok b) (hc : xf.ok c) : (ivQ xm xf).ok (enQ v m a b c) := by
  refine ⟨fun p hp => ?_, by simp [ivQ], by simp [ivQ]⟩
  simp only [ivQ, List.mem_cons, List.not_mem_nil, or_false] at hp
  rcases hp with rfl | rfl | rfl | rfl
  · exact hm
  · exact ha
  · exact hb
  · exact hc
theorem argsQ_inst {v : Nat} (hv : v < 18446744073709551616) {m a b c : Int} (hm : full.ok m) (ha : full.ok a) (hb : full.ok b) (hc : full.ok c) :
    argsQ.map (V.inst (enQ v m a b c)) = [.int .i64 m, .int .i64 a, .int .i64 b, .int .i64 c, .int .u64 v] := by
  have l : ∀ (i : Nat) (x : Int), full.ok x → (enQ v m a b c).x i = x → IntKind.i64.wrap (0 + linSum (enQ v m a b c).x [(1, i)]) = x := by
    intro i x hx e
    simp only [linSum, Int.zero_add, Int.one_mul, Int.add_zero, e]
    exact IntWalk.i64_in _ ⟨hx.1, hx.2.1⟩
  simp only [argsQ, List.map_cons, List.map_nil, V.inst, Sy.ev, bq_eq, word_vars]
  rw [l 0 m hm rfl, l 1 a ha rfl, l 2 b hb rfl, l 3 c hc rfl]
  have e0 : (enQ v m a b c).w 0 = v := rfl
  rw [e0, Nat.mod_eq_of_lt (by simpa using hv)]
theorem refused_of {iv : Iv} (hr : RefusedRun iv) {e : En} (he : iv.ok e) : ∃ σ1, callF (lookM meths) (sm2 heap 12 8) tbl.get 100000 100 4 (argsQ.map (V.inst e)) heap = some (.ret (.bool true) σ1) := by
  obtain ⟨iv', _, h⟩ := gcall_true (lookM meths) (sel2_ok heap (by decide)) closed 100000 (noLg 100000) 100 _ _ _ _ _ _ hr e he
  rw [heap_inst] at h
  rcases h with ⟨v, σ1, h1, h2⟩ | ⟨_, _, _, h2⟩
  · cases v <;> simp [isTrue] at h2
    subst h2
    exact ⟨_, h1⟩
  · simp at h2
theorem refused_two {v : Nat} {m a b c : Int} {f : Xf} (h1 : RefusedRun (ivQ ⟨1, 1, []⟩ f)) (h2 : RefusedRun (ivQ notOne f)) (hv : v < 18446744073709551616) (hm : full.ok m) (ha : full.ok a) (hb : full.ok b) (hc : full.ok c) (hf : f.ok c) :
    ∃ σ1, callF (lookM meths) (sm2 heap 12 8) tbl.get 100000 100 4 [.int .i64 m, .int .i64 a, .int .i64 b, .int .i64 c, .int .u64 v] heap = some (.ret (.bool true) σ1) := by
  rw [← argsQ_inst hv hm ha hb hc]
  by_cases h : m = 1
  · exact refused_of h1 (ivQ_ok (by subst h; simp [Xf.ok]) ha hb hf)
  · exact refused_of h2 (ivQ_ok (by simp only [Xf.ok, notOne]; exact ⟨hm.1, hm.2.1, by simpa using h⟩) ha hb hf)
theorem refused_call {v : Nat} (hv : v < 18446744073709551616) {m a b c : Int} (hm : full.ok m) (ha : full.ok a) (hb : full.ok b) (hc : full.ok c) :
    ∃ σ1, callF (lookM meths) (sm2 heap 12 8) tbl.get 100000 100 4 [.int .i64 m, .int .i64 a, .int .i64 b, .int .i64 c, .int .u64 v] heap = some (.ret (.bool true) σ1) := by
  by_cases g0 : c = 0
  · exact refused_two refused0a refused0b hv hm ha hb hc (by subst g0; simp [Xf.ok])
  by_cases g1 : c = 1
  · exact refused_two refused1a refused1b hv hm ha hb hc (by subst g1; simp [Xf.ok])
  by_cases g64 : c = 64
  · exact refused_two refused64a refused64b hv hm ha hb hc (by subst g64; simp [Xf.ok])
  by_cases g65 : c = 65
  · exact refused_two refused65a refused65b hv hm ha hb hc (by subst g65; simp [Xf.ok])
  by_cases g80 : c = 80
  · exact refused_two refused80a refused80b hv hm ha hb hc (by subst g80; simp [Xf.ok])
  by_cases g81 : c = 81
  · exact refused_two refused81a refused81b hv hm ha hb hc (by subst g81; simp [Xf.ok])
  by_cases g160 : c = 160
  · exact refused_two refused160a refused160b hv hm ha hb hc (by subst g160; simp [Xf.ok])
  by_cases g161 : c = 161
  · exact refused_two refused161a refused161b hv hm ha hb hc (by subst g161; simp [Xf.ok])
  by_cases g225 : c = 225
  · exact refused_two refused225a refused225b hv hm ha hb hc (by subst g225; simp [Xf.ok])
  by_cases g241 : c = 241
  · exact refused_two refused241a refused241b hv hm ha hb hc (by subst g241; simp [Xf.ok])
  exact refused_two refusedra refusedrb hv hm ha hb hc ⟨hc.1, hc.2.1, by simp [rest]; omega⟩
end Go.Proofs.YtkdjfcimbbihdaaGreatDoor.Run
