/- PART of the proof of VmCounts: How the loop of 'runs' is gone through: 20,000 steps of a jump to itself; a count from a number down to 0. No condition. -/
import Derived.Test.YtickjkmfcickcaaGreatDoorU36
/-! How the loop of 'runs' is gone through: 20,000 steps of a jump to itself; a count from a number down to 0. -/
namespace Go.Abs
set_option linter.unusedVariables false

def keepR : List Nat := [2, 4, 10, 14, 15, 16]
/-- A jump to itself. -/
def loopK (b : Nat) : LoopA where
  lead := 0
  per := 1
  tail := 1
  lo := [(.t 16, .int .i64 1), (.m b 7, .int .i64 0)]
  now := [(.t 16, .sym .i64 (.lin 1 [(1, 0)])), (.m b 7, .sym .i64 (.lin 0 [(1, 0)]))]
  nxt := [(.t 16, .sym .i64 (.lin 2 [(1, 0)])), (.m b 7, .sym .i64 (.lin 1 [(1, 0)]))]
  hi := [(.t 16, .int .i64 20001), (.m b 7, .int .i64 20000)]
  lim := 0
  xs := [(0, ⟨0, 19999, []⟩)]
def pickK (_ : List Nat) (t : T V) (σ : H) (_ : Iv) : Option LoopA := match ev t (.t 2), ev t (.t 14) with
  | .slice c o 1 _ _, .ptr b _ => match σ.get c with
    | some (.cells _ _ cs) => match cellD cs o with
      | .int _ 5 => some (loopK b)
      | _ => none
    | _ => none
  | _, _ => none
theorem i64_lin {n : Int} (h1 : -9223372036854775808 ≤ n) (h2 : n ≤ 9223372036854775807) : IntKind.i64.wrap n = n := IntWalk.i64_in n ⟨h1, h2⟩
theorem loopK_ok (b : Nat) (e : En) : (loopK b).Ok 100000 e := by
  refine ⟨fun v => ⟨e.w, fun _ => v⟩, 20000, fun v => ⟨rfl, fun i hi => absurd hi (Nat.not_lt_zero i)⟩, ?_, fun v hv => ?_, ?_, fun v hv p hp => ?_, by simp [loopK]⟩
  · simp only [loopK, plI, List.map_cons, List.map_nil, V.inst, Sy.ev, linSum]
    rfl
  · simp only [loopK, plI, List.map_cons, List.map_nil, V.inst, Sy.ev, linSum]
    rw [i64_lin (by omega) (by omega), i64_lin (by omega) (by omega), i64_lin (by omega) (by omega), i64_lin (by omega) (by omega)]
    simp only [List.cons.injEq, Prod.mk.injEq, V.int.injEq, true_and, and_true]
    omega
  · simp only [loopK, plI, List.map_cons, List.map_nil, V.inst, Sy.ev, linSum]
    rfl
  · simp only [loopK, List.mem_cons, List.not_mem_nil, or_false] at hp
    subst hp
    exact ⟨by simp only; omega, by simp only; omega, by simp⟩
theorem pickK_ok : ∀ keep t σ iv A, pickK keep t σ iv = some A → ∀ e : En, iv.ok e → A.Ok 100000 e := by
  intro keep t σ iv A h e _
  unfold pickK at h
  split at h
  · split at h
    · split at h
      · simp at h; subst h
        exact loopK_ok _ e
      · simp at h
    · simp at h
  · simp at h

/-! ### A count from a number down to 0 (x1 + 1 is the number; x2 what is left; x3 the sum so far) -/
def sumUp (a : Int) : Nat → Int
  | 0 => a + 1
  | v + 1 => sumUp a v + (a - v)
theorem sumUp_two (a : Int) : ∀ v : Nat, 2 * sumUp a v = (a + 1) * (a + 2) - (a - v) * (a - v + 1)
  | 0 => by simp only [sumUp]; grind
  | v + 1 => by
    have := sumUp_two a v
    simp only [sumUp]; grind
def placesC (i c : V) (r2 r0 : V) : List (Pc × V) := [(.t 16, i), (.m 13 7, c), (.m 10 9, r2), (.m 10 1, r0)]
/-- Up to 6665: it comes to 0. -/
def loopC : LoopA where
  lead := 4
  per := 3
  tail := 2
  lo := placesC (.int .i64 5) (.int .i64 4) (.sym .u64 (.lin 0 [(1, 1)])) (.sym .u64 (.lin 1 [(1, 1)]))
  now := placesC (.sym .i64 (.lin 5 [(3, 1), (-3, 2)])) (.sym .i64 (.lin 4 [(3, 1), (-3, 2)])) (.sym .u64 (.lin 0 [(1, 2)])) (.sym .u64 (.lin 0 [(1, 3)]))
  nxt := placesC (.sym .i64 (.lin 8 [(3, 1), (-3, 2)])) (.sym .i64 (.lin 7 [(3, 1), (-3, 2)])) (.sym .u64 (.lin (-1) [(1, 2)])) (.sym .u64 (.lin 0 [(1, 2), (1, 3)]))
  hi := placesC (.sym .i64 (.lin 5 [(3, 1)])) (.sym .i64 (.lin 4 [(3, 1)])) (.int .u64 0) (.sym .u64 (.cv .i64 (.op .quo (.op .mul (.lin 1 [(1, 1)]) (.lin 2 [(1, 1)])) (.c 2))))
  lim := 2
  xs := [(1, ⟨0, 6664, []⟩), (2, ⟨1, 6664, []⟩)]
/-- From 6666 on: the budget ends it. -/
def loopD : LoopA where
  lead := 4
  per := 3
  tail := 3
  lo := placesC (.int .i64 5) (.int .i64 4) (.sym .u64 (.lin 0 [(1, 1)])) (.sym .u64 (.lin 1 [(1, 1)]))
  now := placesC (.sym .i64 (.lin 5 [(3, 2)])) (.sym .i64 (.lin 4 [(3, 2)])) (.sym .u64 (.lin 0 [(1, 1), (-1, 2)])) (.sym .u64 (.lin 0 [(1, 3)]))
  nxt := placesC (.sym .i64 (.lin 8 [(3, 2)])) (.sym .i64 (.lin 7 [(3, 2)])) (.sym .u64 (.lin (-1) [(1, 1), (-1, 2)])) (.sym .u64 (.lin 0 [(1, 1), (-1, 2), (1, 3)]))
  hi := placesC (.int .i64 20000) (.int .i64 19999) (.sym .u64 (.lin (-6665) [(1, 1)])) (.sym .u64 (.lin (-22207779) [(6666, 1)]))
  lim := 2
  xs := [(1, ⟨6665, 8999, []⟩), (2, ⟨0, 6664, []⟩)]
def pickC (_ : List Nat) (t : T V) (_ : H) (iv : Iv) : Option LoopA := match ev t (.t 2) with
  | .slice _ _ 6 _ _ => match xget iv.xs 1 with
    | some f => if 0 ≤ f.lo ∧ f.hi ≤ 6664 then some loopC else if 6665 ≤ f.lo ∧ f.hi ≤ 8999 then some loopD else none
    | none => none
  | _ => none
theorem u64_lin {n : Int} (h1 : 0 ≤ n) (h2 : n < 18446744073709551616) : IntKind.u64.wrap n = n := IntWalk.u64_in n ⟨h1, by omega⟩
/-- The unknowns after so many rounds. -/
def envC (e : En) (f : Nat → Int) (v : Nat) : En := ⟨e.w, fun i => if i = 2 then f v else if i = 3 then sumUp (e.x 1) v else e.x i⟩
theorem envC_like (e : En) (f : Nat → Int) (v : Nat) : En.like 2 e (envC e f v) := by
  refine ⟨rfl, fun i hi => ?_⟩
  simp only [envC]
  rw [if_neg (by omega), if_neg (by omega)]
theorem sumUp_ge {a : Int} (h0 : 0 ≤ a) : ∀ v : Nat, (v : Int) ≤ a → 0 ≤ sumUp a v
  | 0, _ => by simp only [sumUp]; omega
  | v + 1, h => by have := sumUp_ge h0 v (by omega); simp only [sumUp]; omega
theorem sumUp_le {a : Int} (h0 : 0 ≤ a) : ∀ v : Nat, (v : Int) ≤ a → sumUp a v ≤ (a + 1) * (v + 1)
  | 0, _ => by simp only [sumUp]; simp
  | v + 1, h => by have := sumUp_le h0 v (by omega); simp only [sumUp]; grind
theorem sumUp_bound {a : Int} (h0 : 0 ≤ a) (h1 : a ≤ 8999) {v : Nat} (h : (v : Int) ≤ a) : 0 ≤ sumUp a v ∧ sumUp a v ≤ 81000000 := by
  refine ⟨sumUp_ge h0 v h, Int.le_trans (sumUp_le h0 v h) ?_⟩
  have : (a + 1) * ((v : Int) + 1) ≤ 9000 * 9000 := Int.mul_le_mul (by omega) (by omega) (by omega) (by omega)
  omega
theorem envC_2 (e : En) (f : Nat → Int) (v : Nat) : (envC e f v).x 2 = f v := rfl
theorem envC_3 (e : En) (f : Nat → Int) (v : Nat) : (envC e f v).x 3 = sumUp (e.x 1) v := rfl
theorem envC_1 (e : En) (f : Nat → Int) (v : Nat) : (envC e f v).x 1 = e.x 1 := rfl
theorem loopC_ok {e : En} (h0 : 0 ≤ e.x 1) (h1 : e.x 1 ≤ 6664) : loopC.Ok 100000 e := by
  have hN : ((e.x 1).toNat : Int) = e.x 1 := by omega
  refine ⟨envC e fun v => e.x 1 - v, (e.x 1).toNat, envC_like e _, ?_, fun v hv => ?_, ?_, fun v hv p hp => ?_, by simp only [loopC]; omega⟩
  · simp only [loopC, placesC, plI, List.map_cons, List.map_nil, V.inst, Sy.ev, linSum, envC_2, envC_3, envC_1, sumUp]
    simp only [List.cons.injEq, Prod.mk.injEq, V.int.injEq, true_and, and_true]
    refine ⟨?_, ?_, ?_, ?_⟩
    · rw [i64_lin (by omega) (by omega)]; omega
    · rw [i64_lin (by omega) (by omega)]; omega
    · congr 1; omega
    · congr 1; omega
  · have hb := sumUp_bound h0 (by omega) (v := v) (by omega)
    simp only [loopC, placesC, plI, List.map_cons, List.map_nil, V.inst, Sy.ev, linSum, envC_2, envC_3, envC_1, sumUp]
    simp only [List.cons.injEq, Prod.mk.injEq, V.int.injEq, true_and, and_true]
    refine ⟨?_, ?_, ?_, ?_⟩ <;> congr 1 <;> omega
  · have ht := sumUp_two (e.x 1) (e.x 1).toNat
    rw [hN] at ht
    have hz : (e.x 1 - e.x 1) * (e.x 1 - e.x 1 + 1) = 0 := by rw [show e.x 1 - e.x 1 = 0 by omega]; simp
    rw [hz] at ht
    have hm : (e.x 1 + 1) * (e.x 1 + 2) ≤ 6665 * 6666 := Int.mul_le_mul (by omega) (by omega) (by omega) (by omega)
    have hm0 : 0 ≤ (e.x 1 + 1) * (e.x 1 + 2) := Int.mul_nonneg (by omega) (by omega)
    have hq : IntKind.i64.wrap (1 + (1 * e.x 1 + 0)) = e.x 1 + 1 := by rw [i64_lin (by omega) (by omega)]; omega
    have hq2 : IntKind.i64.wrap (2 + (1 * e.x 1 + 0)) = e.x 1 + 2 := by rw [i64_lin (by omega) (by omega)]; omega
    have hq3 : IntKind.i64.wrap ((e.x 1 + 1) * (e.x 1 + 2)) = (e.x 1 + 1) * (e.x 1 + 2) := i64_lin (by omega) (by omega)
    have hd : ((e.x 1 + 1) * (e.x 1 + 2)).tdiv 2 = sumUp (e.x 1) (e.x 1).toNat := by
      rw [Int.tdiv_eq_ediv_of_nonneg hm0]; omega
    have hb := sumUp_bound h0 (by omega) (v := (e.x 1).toNat) (by omega)
    have hq4 : IntKind.i64.wrap (sumUp (e.x 1) (e.x 1).toNat) = sumUp (e.x 1) (e.x 1).toNat := i64_lin (by omega) (by omega)
    simp only [loopC, placesC, plI, List.map_cons, List.map_nil, V.inst, Sy.ev, linSum, envC_2, envC_3, envC_1, arithV, hq, hq2, hq3, hd, hq4]
    simp only [List.cons.injEq, Prod.mk.injEq, V.int.injEq, true_and, and_true]
    refine ⟨?_, ?_, ?_, ?_⟩
    · congr 1; omega
    · congr 1; omega
    · rw [hN, u64_lin (by omega) (by omega)]; omega
    · simp
  · simp only [loopC, List.mem_cons, List.not_mem_nil, or_false] at hp
    rcases hp with rfl | rfl
    · exact ⟨by simp only [envC_1]; omega, by simp only [envC_1]; omega, by simp⟩
    · exact ⟨by simp only [envC_2]; omega, by simp only [envC_2]; omega, by simp⟩
theorem loopD_ok {e : En} (h0 : 6665 ≤ e.x 1) (h1 : e.x 1 ≤ 8999) : loopD.Ok 100000 e := by
  obtain ⟨N, hN⟩ : ∃ N : Nat, N = 6665 := ⟨_, rfl⟩
  refine ⟨envC e fun v => v, N, envC_like e _, ?_, fun v hv => ?_, ?_, fun v hv p hp => ?_, by simp only [loopD]; omega⟩
  · simp only [loopD, placesC, plI, List.map_cons, List.map_nil, V.inst, Sy.ev, linSum, envC_2, envC_3, envC_1, sumUp]
    simp only [List.cons.injEq, Prod.mk.injEq, V.int.injEq, true_and, and_true]
    refine ⟨by decide, by decide, ?_, ?_⟩ <;> congr 1 <;> omega
  · simp only [loopD, placesC, plI, List.map_cons, List.map_nil, V.inst, Sy.ev, linSum, envC_2, envC_3, envC_1, sumUp]
    simp only [List.cons.injEq, Prod.mk.injEq, V.int.injEq, true_and, and_true]
    refine ⟨?_, ?_, ?_, ?_⟩ <;> congr 1 <;> omega
  · have ht := sumUp_two (e.x 1) N
    have hN' : (N : Int) = 6665 := by omega
    have hl : sumUp (e.x 1) N = -22207779 + 6666 * e.x 1 := by
      rw [hN'] at ht
      have : (e.x 1 + 1) * (e.x 1 + 2) - (e.x 1 - 6665) * (e.x 1 - 6665 + 1) = 2 * (-22207779 + 6666 * e.x 1) := by grind
      omega
    simp only [loopD, placesC, plI, List.map_cons, List.map_nil, V.inst, Sy.ev, linSum, envC_2, envC_3, envC_1, hl, hN']
    simp only [List.cons.injEq, Prod.mk.injEq, V.int.injEq, true_and, and_true]
    refine ⟨by decide, by decide, ?_, ?_⟩ <;> congr 1 <;> omega
  · simp only [loopD, List.mem_cons, List.not_mem_nil, or_false] at hp
    rcases hp with rfl | rfl
    · exact ⟨by simp only [envC_1]; omega, by simp only [envC_1]; omega, by simp⟩
    · exact ⟨by simp only [envC_2]; omega, by simp only [envC_2]; omega, by simp⟩
theorem pickC_ok : ∀ keep t σ iv A, pickC keep t σ iv = some A → ∀ e : En, iv.ok e → A.Ok 100000 e := by
  intro keep t σ iv A h e he
  unfold pickC at h
  split at h
  case h_2 => simp at h
  split at h
  · rename_i f hf
    obtain ⟨x1, x2, _⟩ := he.1 _ (xget_mem hf)
    simp only at x1 x2
    split at h
    · rename_i hc
      simp at h; subst h
      exact loopC_ok (by omega) (by omega)
    · split at h
      · rename_i hc
        simp at h; subst h
        exact loopD_ok (by omega) (by omega)
      · simp at h
  · simp at h
end Go.Abs
