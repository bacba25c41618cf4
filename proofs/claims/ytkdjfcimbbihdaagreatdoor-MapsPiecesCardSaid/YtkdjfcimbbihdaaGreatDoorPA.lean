/- PART of the proof of MapsPieces: MapsPieces: the value of the run, at all inputs. No condition. -/
import Derived.Test.YtkdjfcimbbihdaaGreatDoorRC
import Derived.Test.YtkdjfcimbbihdaaGreatDoorRP0
import Derived.Test.YtkdjfcimbbihdaaGreatDoorRP1
import Derived.Test.YtkdjfcimbbihdaaGreatDoorRP2
import Derived.Test.YtkdjfcimbbihdaaGreatDoorRP3
/-! MapsPieces: the value of the run, at all inputs. -/
namespace Go.Proofs.YtkdjfcimbbihdaaGreatDoor.Run
open Go Go.Abs
set_option maxRecDepth 100000
def enP (w v o : Nat) (a b c : Int) : En := ⟨fun i => if i = 0 then w else if i = 1 then v else o, fun i => match i with
  | 0 => a | 1 => b | 2 => c | 3 => a % 4 | 4 => b % 8 | 5 => b % 4 | 6 => b % 2 | 7 => b % 1 | _ => c % 10⟩
theorem ivP_ok {w v o : Nat} {a b c : Int} (ha : -9223372036854775808 ≤ a ∧ a ≤ 9223372036854775807) (hb : -9223372036854775808 ≤ b ∧ b ≤ 9223372036854775807) (hc : -9223372036854775808 ≤ c ∧ c ≤ 9223372036854775807)
    {l3 h3 l4 h4 : Int} (h3' : l3 ≤ a % 4 ∧ a % 4 ≤ h3) (h4' : l4 ≤ b % 8 ∧ b % 8 ≤ h4) : (ivP l3 h3 l4 h4).ok (enP w v o a b c) := by
  refine ⟨fun p hp => ?_, by simp [ivP], fun p hp => ?_⟩
  · simp only [ivP, List.mem_cons, List.not_mem_nil, or_false] at hp
    rcases hp with rfl | rfl | rfl | rfl | rfl | rfl | rfl | rfl | rfl <;> simp only [Xf.ok, enP] <;> refine ⟨?_, ?_, by simp⟩ <;> omega
  · simp only [ivP, List.mem_cons, List.not_mem_nil, or_false] at hp
    rcases hp with rfl | rfl | rfl | rfl | rfl | rfl <;> simp [enP]
theorem argsP_inst {w v o : Nat} (hw : w < 18446744073709551616) (hv : v < 18446744073709551616) (ho : o < 18446744073709551616) {a b c : Int} (ha : -9223372036854775808 ≤ a ∧ a ≤ 9223372036854775807) (hb : -9223372036854775808 ≤ b ∧ b ≤ 9223372036854775807) (hc : -9223372036854775808 ≤ c ∧ c ≤ 9223372036854775807) :
    argsP.map (V.inst (enP w v o a b c)) = [.int .u64 w, .int .u64 v, .int .u64 o, .int .i64 a, .int .i64 b, .int .i64 c] := by
  have l : ∀ (i : Nat) (x : Int), -9223372036854775808 ≤ x ∧ x ≤ 9223372036854775807 → (enP w v o a b c).x i = x → IntKind.i64.wrap (0 + linSum (enP w v o a b c).x [(1, i)]) = x := by
    intro i x hx e
    simp only [linSum, Int.zero_add, Int.one_mul, Int.add_zero, e]
    exact IntWalk.i64_in _ hx
  simp only [argsP, List.map_cons, List.map_nil, V.inst, Sy.ev, b0_eq, b1_eq, b2_eq, word_vars]
  rw [l 0 a ha rfl, l 1 b hb rfl, l 2 c hc rfl]
  have e0 : (enP w v o a b c).w 0 = w := rfl
  have e1 : (enP w v o a b c).w 1 = v := rfl
  have e2 : (enP w v o a b c).w 2 = o := rfl
  rw [e0, e1, e2, Nat.mod_eq_of_lt (by simpa using hw), Nat.mod_eq_of_lt (by simpa using hv), Nat.mod_eq_of_lt (by simpa using ho)]
theorem pieces_of {iv : Iv} (hr : PiecesRun iv) {e : En} (he : iv.ok e) : ∃ σ1, callF (lookM meths) (sm2 heap 12 8) tbl.get 100000 100 3 (argsP.map (V.inst e)) heap = some (.ret (.bool true) σ1) := by
  obtain ⟨iv', _, h⟩ := gcall_true (lookM meths) (sel2_ok heap (by decide)) closed 100000 (noLg 100000) 100 _ _ _ _ _ _ hr e he
  rw [heap_inst] at h
  rcases h with ⟨v, σ1, h1, h2⟩ | ⟨_, _, _, h2⟩
  · cases v <;> simp [isTrue] at h2
    subst h2
    exact ⟨_, h1⟩
  · simp at h2
theorem pieces_call {w v o : Nat} (hw : w < 18446744073709551616) (hv : v < 18446744073709551616) (ho : o < 18446744073709551616) {a b c : Int} (ha : -9223372036854775808 ≤ a ∧ a ≤ 9223372036854775807) (hb : -9223372036854775808 ≤ b ∧ b ≤ 9223372036854775807) (hc : -9223372036854775808 ≤ c ∧ c ≤ 9223372036854775807) :
    ∃ σ1, callF (lookM meths) (sm2 heap 12 8) tbl.get 100000 100 3 [.int .u64 w, .int .u64 v, .int .u64 o, .int .i64 a, .int .i64 b, .int .i64 c] heap = some (.ret (.bool true) σ1) := by
  rw [← argsP_inst hw hv ho ha hb hc]
  by_cases h0 : a % 4 = 0
  · by_cases h1 : b % 8 ≤ 3
    · exact pieces_of pieces0 (ivP_ok ha hb hc (by omega) (by omega))
    · exact pieces_of pieces1 (ivP_ok ha hb hc (by omega) (by omega))
  · by_cases h1 : a % 4 = 1
    · exact pieces_of pieces2 (ivP_ok ha hb hc (by omega) (by omega))
    · exact pieces_of pieces3 (ivP_ok ha hb hc (by omega) (by omega))
end Go.Proofs.YtkdjfcimbbihdaaGreatDoor.Run
