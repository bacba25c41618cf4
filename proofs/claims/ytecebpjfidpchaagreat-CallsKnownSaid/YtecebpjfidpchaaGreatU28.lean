/- PART of the proof of CallsKnown: Arithmetic of unknown integers. No condition. -/
import Derived.Test.YtecebpjfidpchaaGreatU27
import Derived.IntWalk
/-! Arithmetic of unknown integers. -/
namespace Go.Abs
set_option linter.unusedVariables false

/-! ### Wrapping -/
theorem pow_bits (k : IntKind) : (2 ^ k.bits : Int) = 256 ∨ (2 ^ k.bits : Int) = 65536 ∨ (2 ^ k.bits : Int) = 4294967296 ∨ (2 ^ k.bits : Int) = 18446744073709551616 := by
  cases k <;> simp [IntKind.bits]
theorem wrap_emod (k : IntKind) (n : Int) : k.wrap n % (2 ^ k.bits : Int) = n % (2 ^ k.bits : Int) := by
  unfold IntKind.wrap
  simp only
  rcases pow_bits k with h | h | h | h <;> rw [h] <;> split <;> omega
theorem wrap_congr (k : IntKind) {a b : Int} (h : a % (2 ^ k.bits : Int) = b % (2 ^ k.bits : Int)) : k.wrap a = k.wrap b := by
  unfold IntKind.wrap; rw [h]
theorem wrap_wrap (k : IntKind) (n : Int) : k.wrap (k.wrap n) = k.wrap n := wrap_congr k (wrap_emod k n)
theorem wrap_add (k : IntKind) (a b : Int) : k.wrap (k.wrap a + k.wrap b) = k.wrap (a + b) :=
  wrap_congr k (by rw [Int.add_emod, wrap_emod, wrap_emod, ← Int.add_emod])
theorem wrap_addl (k : IntKind) (a b : Int) : k.wrap (k.wrap a + b) = k.wrap (a + b) :=
  wrap_congr k (by rw [Int.add_emod, wrap_emod, ← Int.add_emod])
theorem wrap_sub (k : IntKind) (a b : Int) : k.wrap (k.wrap a - k.wrap b) = k.wrap (a - b) :=
  wrap_congr k (by rw [Int.sub_emod, wrap_emod, wrap_emod, ← Int.sub_emod])
theorem wrap_mul (k : IntKind) (a b : Int) : k.wrap (k.wrap a * k.wrap b) = k.wrap (a * b) :=
  wrap_congr k (by rw [Int.mul_emod, wrap_emod, wrap_emod, ← Int.mul_emod])
theorem wrap_in (k : IntKind) {n : Int} (h1 : k.min ≤ n) (h2 : n ≤ k.max) : k.wrap n = n := by
  cases k <;> simp [IntKind.min, IntKind.max, IntKind.signed, IntKind.bits] at h1 h2
  · exact IntWalk.i8_in n (by omega)
  · exact IntWalk.i16_in n (by omega)
  · exact IntWalk.i32_in n (by omega)
  · exact IntWalk.i64_in n (by omega)
  · exact IntWalk.u8_in n (by omega)
  · exact IntWalk.u16_in n (by omega)
  · exact IntWalk.u32_in n (by omega)
  · exact IntWalk.u64_in n (by omega)
theorem wrap_range (k : IntKind) (n : Int) : k.min ≤ k.wrap n ∧ k.wrap n ≤ k.max := by
  cases k <;> simp only [IntKind.wrap, IntKind.min, IntKind.max, IntKind.signed, IntKind.bits] <;> simp <;> (try split) <;> omega
theorem wrap_unsigned (k : IntKind) (hk : k.signed = false) (n : Int) : k.wrap n = n % (2 ^ k.bits : Int) := by
  simp [IntKind.wrap, hk]
theorem wrap_nat (k : IntKind) (hk : k.signed = false) (n : Nat) : k.wrap (n : Int) = ((n % 2 ^ k.bits : Nat) : Int) := by
  rw [wrap_unsigned k hk]; simp
theorem wrap_nat_lt (k : IntKind) (hk : k.signed = false) {n : Nat} (h : n < 2 ^ k.bits) : k.wrap (n : Int) = (n : Int) := by
  rw [wrap_nat k hk, Nat.mod_eq_of_lt h]

/-! ### Words -/
def Sy.word (B : Nat) : Sy → Option (List Bt)
  | .w l => if l.length ≤ B then some (padW B l) else none
  | .c (.ofNat m) => if m < 2 ^ B then some (bitsOf B m) else none
  | _ => none
theorem Sy.word_ok {B : Nat} {s : Sy} {l : List Bt} (h : s.word B = some l) : l.length = B ∧ ∀ (e : En) (k : IntKind), s.ev e k = (wordOf e.w l : Nat) := by
  unfold Sy.word at h
  split at h
  · rename_i r
    split at h
    · rename_i hl
      simp at h; subst h
      refine ⟨padW_length _ _, fun e k => ?_⟩
      simp only [Sy.ev]
      rw [word_pad, Nat.mod_eq_of_lt (Nat.lt_of_lt_of_le (wordOf_lt e.w r) (Nat.pow_le_pow_right (by omega) hl))]
    · simp at h
  · rename_i m
    split at h
    · rename_i hl
      simp at h; subst h
      refine ⟨bitsOf_length _ _, fun e k => ?_⟩
      simp only [Sy.ev]
      rw [word_bits, Nat.mod_eq_of_lt hl]; rfl
    · simp at h
  · simp at h
def vW (k : IntKind) (l : List Bt) : V := match constW l with
  | some n => .int k (.ofNat n)
  | none => .sym k (.w l)
theorem vW_inst (e : En) (k : IntKind) (l : List Bt) : (vW k l).inst e = .int k (wordOf e.w l : Nat) := by
  unfold vW
  split
  · rename_i n h; rw [constW_eq e.w h]; rfl
  · rfl

/-- Which of two words stands first in a sum. -/
def swapW : List Bt → List Bt → Bool
  | .v i _ :: _, .v j _ :: _ => Nat.blt j i
  | _, _ => false
def symBits (op : BinOp) (l r : List Bt) : Option (List Bt) := match op with
  | .and => some (zipW mkAnd l r)
  | .or => some (zipW mkOr l r)
  | .xor => some (zipW mkXor l r)
  | .andNot => some (zipW mkAnd l (r.map mkNot))
  | .add => some (if swapW l r then sumW r l else sumW l r)
  | _ => none
theorem ofInt_nat (n a : Nat) (h : a < 2 ^ n) : (BitVec.ofInt n (a : Int)).toNat = a := by
  rw [BitVec.ofInt_natCast, BitVec.toNat_ofNat, Nat.mod_eq_of_lt h]
theorem symBits_ok {op : BinOp} {k : IntKind} (hk : k.signed = false) {l r s : List Bt} (hl : l.length = k.bits) (hr : r.length = k.bits) (h : symBits op l r = some s) (e : Nat → Nat) :
    arithV op k (wordOf e l : Nat) (wordOf e r : Nat) = some (.int k (wordOf e s : Nat)) := by
  have a1 := wordOf_lt e l
  have a2 := wordOf_lt e r
  rw [hl] at a1; rw [hr] at a2
  have hlr : l.length = r.length := hl.trans hr.symm
  cases op <;> simp only [symBits] at h <;> (try (simp at h; done)) <;> simp at h <;> subst h <;> simp only [arithV]
  case add =>
    have hs : wordOf e (if swapW l r then sumW r l else sumW l r) = (wordOf e l + wordOf e r) % 2 ^ k.bits := by
      split
      · rw [word_sum e hlr.symm, hr, Nat.add_comm]
      · rw [word_sum e hlr, hl]
    rw [hs]
    have : ((wordOf e l : Nat) : Int) + (wordOf e r : Nat) = ((wordOf e l + wordOf e r : Nat) : Int) := by simp
    rw [this, wrap_nat k hk]
  case and =>
    rw [BitVec.toNat_and, ofInt_nat _ _ a1, ofInt_nat _ _ a2, word_and e hlr, wrap_nat_lt k hk (Nat.lt_of_le_of_lt Nat.and_le_left a1)]
  case or =>
    rw [BitVec.toNat_or, ofInt_nat _ _ a1, ofInt_nat _ _ a2, word_or e hlr, wrap_nat_lt k hk (Nat.or_lt_two_pow a1 a2)]
  case xor =>
    rw [BitVec.toNat_xor, ofInt_nat _ _ a1, ofInt_nat _ _ a2, word_xor e hlr, wrap_nat_lt k hk (Nat.xor_lt_two_pow a1 a2)]
  case andNot =>
    have h3 := word_not e r
    rw [hr] at h3
    have h4 : 2 ^ k.bits - 1 - wordOf e r = wordOf e (r.map mkNot) := by omega
    rw [BitVec.toNat_and, BitVec.toNat_not, ofInt_nat _ _ a1, ofInt_nat _ _ a2, word_and e (by simpa using hlr), h4, wrap_nat_lt k hk (Nat.lt_of_le_of_lt Nat.and_le_left a1)]

def pow2 (m B : Nat) : Option Nat := (List.range (B + 1)).find? fun j => 2 ^ j == m
theorem pow2_eq {m B j : Nat} (h : pow2 m B = some j) : m = 2 ^ j ∧ j ≤ B := by
  have h1 := List.find?_some h
  have h2 := List.mem_of_find?_eq_some h
  simp at h1 h2
  exact ⟨h1.symm, by omega⟩
def symWord (op : BinOp) (k : IntKind) (l r : List Bt) : Option V := match op with
  | .eql => if Bt.sames 200 l r then some (.bool true) else if diffW l r then some (.bool false) else none
  | .neq => if Bt.sames 200 l r then some (.bool false) else if diffW l r then some (.bool true) else none
  | .rem => match constW r with
    | some m => match pow2 m k.bits with
      | some j => some (vW k (padW j l))
      | none => none
    | none => none
  | op => (symBits op l r).map (vW k)
theorem symWord_ok {op : BinOp} {k : IntKind} (hk : k.signed = false) {l r : List Bt} (hl : l.length = k.bits) (hr : r.length = k.bits) {v : V} (h : symWord op k l r = some v) (e : En) :
    arithV op k (wordOf e.w l : Nat) (wordOf e.w r : Nat) = some (v.inst e) := by
  have other : (symBits op l r).map (vW k) = some v → arithV op k (wordOf e.w l : Nat) (wordOf e.w r : Nat) = some (v.inst e) := by
    intro h
    obtain ⟨s, hs, rfl⟩ := map_some' h
    rw [symBits_ok hk hl hr hs e.w, vW_inst]
  cases op
  case eql =>
    simp only [symWord] at h
    split at h
    · rename_i hs
      simp at h; subst h
      rw [Bt.sames_eq _ _ _ hs]; simp [arithV, V.inst]
    · split at h
      · rename_i hd
        simp at h; subst h
        have := diffW_ne e.w _ _ hd
        simp [arithV, V.inst]; omega
      · simp at h
  case neq =>
    simp only [symWord] at h
    split at h
    · rename_i hs
      simp at h; subst h
      rw [Bt.sames_eq _ _ _ hs]; simp [arithV, V.inst]
    · split at h
      · rename_i hd
        simp at h; subst h
        have := diffW_ne e.w _ _ hd
        simp [arithV, V.inst]; omega
      · simp at h
  case rem =>
    simp only [symWord] at h
    split at h
    · rename_i m hm
      split at h
      · rename_i j hj
        simp at h; subst h
        obtain ⟨rfl, hjb⟩ := pow2_eq hj
        rw [vW_inst, word_pad, constW_eq e.w hm]
        have hp : 0 < 2 ^ j := Nat.pow_pos (by omega)
        simp only [arithV]
        rw [if_neg (by omega)]
        simp only [Option.some.injEq, V.int.injEq, true_and]
        rw [Int.tmod_eq_emod_of_nonneg (by omega)]
        simp
      · simp at h
    · simp at h
  all_goals exact other h

/-! ### Sums -/
def linIns (a : Int) (i : Nat) : List (Int × Nat) → List (Int × Nat)
  | [] => if a = 0 then [] else [(a, i)]
  | p :: l => if i = p.2 then (if a + p.1 = 0 then l else (a + p.1, i) :: l) else if i < p.2 then (if a = 0 then p :: l else (a, i) :: p :: l) else p :: linIns a i l
theorem linIns_sum (x : Nat → Int) (a : Int) (i : Nat) : ∀ l, linSum x (linIns a i l) = a * x i + linSum x l
  | [] => by
    simp only [linIns]
    split
    · rename_i h; subst h; simp [linSum]
    · simp [linSum]
  | p :: l => by
    have ih := linIns_sum x a i l
    simp only [linIns]
    split
    · rename_i h
      split
      · rename_i h2
        simp only [linSum, ← h]
        have : a * x i + (p.1 * x i + linSum x l) = (a + p.1) * x i + linSum x l := by rw [Int.add_mul]; omega
        rw [this, h2]; simp
      · simp only [linSum, ← h]
        rw [Int.add_mul]; omega
    · split
      · split
        · rename_i h2; subst h2; simp
        · simp [linSum]
      · simp only [linSum, ih]; omega
def linAdd : List (Int × Nat) → List (Int × Nat) → List (Int × Nat)
  | [], r => r
  | p :: l, r => linIns p.1 p.2 (linAdd l r)
theorem linAdd_sum (x : Nat → Int) : ∀ l r, linSum x (linAdd l r) = linSum x l + linSum x r
  | [], r => by simp [linAdd, linSum]
  | p :: l, r => by simp only [linAdd, linIns_sum, linAdd_sum x l r, linSum]; omega
def linMul (a : Int) (l : List (Int × Nat)) : List (Int × Nat) := if a = 0 then [] else l.map fun p => (a * p.1, p.2)
theorem linMul_sum (x : Nat → Int) (a : Int) (l : List (Int × Nat)) : linSum x (linMul a l) = a * linSum x l := by
  unfold linMul
  split
  · rename_i h; subst h; simp [linSum]
  · induction l with
    | nil => simp [linSum]
    | cons p l ih => simp only [List.map_cons, linSum, ih]; rw [Int.mul_add, Int.mul_assoc]
def Sy.toLin : Sy → Option (Int × List (Int × Nat))
  | .lin n l => some (n, l)
  | .c n => some (n, [])
  | _ => none
theorem Sy.toLin_ok {s : Sy} {n : Int} {l : List (Int × Nat)} (h : s.toLin = some (n, l)) (e : En) (k : IntKind) : k.wrap (s.ev e k) = k.wrap (n + linSum e.x l) := by
  cases s <;> simp [Sy.toLin] at h <;> obtain ⟨rfl, rfl⟩ := h <;> simp [Sy.ev, wrap_wrap, linSum]
/-- A number that stands for the same, near 0. -/
def near (k : IntKind) (n : Int) : Int := match k with
  | .u64 => if 9223372036854775808 ≤ IntKind.wrap .u64 n then IntKind.wrap .u64 n - 18446744073709551616 else IntKind.wrap .u64 n
  | k => k.wrap n
theorem wrap_near (k : IntKind) (n m : Int) : k.wrap (near k n + m) = k.wrap (n + m) := by
  unfold near
  split
  · split
    · refine Eq.trans (wrap_congr .u64 ?_) (wrap_addl .u64 n m)
      simp only [IntKind.bits]; omega
    · exact wrap_addl _ _ _
  · exact wrap_addl _ _ _
def vLin (k : IntKind) (n : Int) (l : List (Int × Nat)) : V := match l with
  | [] => .int k (k.wrap n)
  | l => .sym k (.lin (near k n) l)
theorem vLin_inst (e : En) (k : IntKind) (n : Int) (l : List (Int × Nat)) : (vLin k n l).inst e = .int k (k.wrap (n + linSum e.x l)) := by
  unfold vLin
  split
  · simp [V.inst, linSum]
  · simp [V.inst, Sy.ev, wrap_near]
def symLin (op : BinOp) (k : IntKind) (a b : Sy) : Option V := match a.toLin, b.toLin with
  | some (n, l), some (m, r) => match op with
    | .add => some (vLin k (n + m) (linAdd l r))
    | .sub => some (vLin k (n - m) (linAdd l (linMul (-1) r)))
    | .mul => match l, r with
      | [], r => some (vLin k (n * m) (linMul n r))
      | l, [] => some (vLin k (n * m) (linMul m l))
      | _, _ => none
    | _ => none
  | _, _ => none
theorem symLin_ok {op : BinOp} {k : IntKind} {a b : Sy} {v : V} (h : symLin op k a b = some v) (e : En) : arithV op k (a.ev e k) (b.ev e k) = some (v.inst e) := by
  unfold symLin at h
  split at h
  · rename_i n l m r h1 h2
    have e1 := Sy.toLin_ok h1 e k
    have e2 := Sy.toLin_ok h2 e k
    cases op <;> simp only at h <;> (try (simp at h; done))
    case add =>
      simp at h; subst h
      rw [vLin_inst, linAdd_sum]
      simp only [arithV, Option.some.injEq, V.int.injEq, true_and]
      rw [← wrap_add, e1, e2, wrap_add]
      congr 1; omega
    case sub =>
      simp at h; subst h
      rw [vLin_inst, linAdd_sum, linMul_sum]
      simp only [arithV, Option.some.injEq, V.int.injEq, true_and]
      rw [← wrap_sub, e1, e2, wrap_sub]
      congr 1; omega
    case mul =>
      split at h
      · simp at h; subst h
        rw [vLin_inst, linMul_sum]
        simp only [arithV, Option.some.injEq, V.int.injEq, true_and]
        rw [← wrap_mul, e1, e2, wrap_mul]
        simp only [linSum]
        congr 1
        rw [Int.add_zero, Int.mul_add]
      · simp at h; subst h
        rw [vLin_inst, linMul_sum]
        simp only [arithV, Option.some.injEq, V.int.injEq, true_and]
        rw [← wrap_mul, e1, e2, wrap_mul]
        simp only [linSum]
        congr 1
        rw [Int.add_zero, Int.add_mul, Int.mul_comm m (linSum e.x l)]
      · simp at h
  · simp at h

/-! ### All together -/
def symOp (op : BinOp) (k : IntKind) (a b : Sy) : Option V := match op with
  | .add | .sub | .mul | .and | .or | .xor | .andNot => some (.sym k (.op op a b))
  | .rem | .quo => match b with
    | .c n => if n = 0 then none else some (.sym k (.op op a b))
    | _ => none
  | _ => none
theorem symOp_ok {op : BinOp} {k : IntKind} {a b : Sy} {v : V} (h : symOp op k a b = some v) (e : En) : arithV op k (a.ev e k) (b.ev e k) = some (v.inst e) := by
  cases op <;> simp only [symOp] at h <;> (try (simp at h; done))
  case rem =>
    split at h
    · split at h
      · simp at h
      · rename_i n hn
        simp at h; subst h
        simp [V.inst, Sy.ev, arithV, hn]
    · simp at h
  case quo =>
    split at h
    · split at h
      · simp at h
      · rename_i n hn
        simp at h; subst h
        simp [V.inst, Sy.ev, arithV, hn]
    · simp at h
  all_goals (simp at h; subst h; simp [V.inst, Sy.ev, arithV])

def symPure (op : BinOp) (k : IntKind) (a b : Sy) : Option V :=
  match a, b with
  | .c x, .c y => arithV op k x y
  | a, b =>
    match (if k.signed then none else match a.word k.bits, b.word k.bits with
      | some l, some r => symWord op k l r
      | _, _ => none) with
    | some v => some v
    | none => match symLin op k a b with
      | some v => some v
      | none => symOp op k a b
theorem symPure_ok {op : BinOp} {k : IntKind} {a b : Sy} {v : V} (h : symPure op k a b = some v) (e : En) : arithV op k (a.ev e k) (b.ev e k) = some (v.inst e) := by
  unfold symPure at h
  split at h
  · simp only [Sy.ev]
    rw [arithV_inst e h]; exact h
  · split at h
    · rename_i v' hw
      simp at h; subst h
      split at hw
      · simp at hw
      · rename_i hk
        split at hw
        · rename_i l r h1 h2
          obtain ⟨a1, a2⟩ := Sy.word_ok h1
          obtain ⟨b1, b2⟩ := Sy.word_ok h2
          rw [a2 e k, b2 e k]
          exact symWord_ok (by simpa using hk) a1 b1 hw e
        · simp at hw
    · split at h
      · rename_i v' hl
        simp at h; subst h
        exact symLin_ok hl e
      · exact symOp_ok h e

def symConv (d k : IntKind) (s : Sy) : V := match s with
  | .c n => .int d (d.wrap n)
  | .w l => if d.signed then (if l.length < d.bits then .sym d (.w l) else .sym d (.cv k (.w l))) else vW d (padW d.bits l)
  | .lin n l => if d.bits ≤ k.bits then .sym d (.lin n l) else .sym d (.cv k (.lin n l))
  | s => .sym d (.cv k s)
theorem symConv_ok (d k : IntKind) (s : Sy) (e : En) : (symConv d k s).inst e = .int d (d.wrap (s.ev e k)) := by
  unfold symConv
  split
  · simp [V.inst, Sy.ev]
  · rename_i l
    split
    · rename_i hd
      split
      · rename_i hl
        simp only [V.inst, Sy.ev, V.int.injEq, true_and]
        have := wordOf_lt e.w l
        have h2 : wordOf e.w l < 2 ^ (d.bits - 1) := Nat.lt_of_lt_of_le this (Nat.pow_le_pow_right (by omega) (by omega))
        have h3 : ((wordOf e.w l : Nat) : Int) < 2 ^ (d.bits - 1) := by exact_mod_cast h2
        refine (wrap_in d ?_ ?_).symm
        · simp only [IntKind.min, hd, if_true]
          have : (0 : Int) ≤ 2 ^ (d.bits - 1) := Int.pow_nonneg (by omega)
          omega
        · simp only [IntKind.max, hd, if_true]; omega
      · simp [V.inst, Sy.ev]
    · rename_i hd
      rw [vW_inst, word_pad]
      simp only [Sy.ev]
      rw [wrap_nat d (by simpa using hd)]
  · rename_i n l
    split
    · rename_i hb
      simp only [V.inst, Sy.ev, V.int.injEq, true_and]
      refine wrap_congr d ?_
      have hdvd : (2 ^ d.bits : Int) ∣ 2 ^ k.bits := ⟨2 ^ (k.bits - d.bits), by rw [← Int.pow_add]; congr 1; omega⟩
      rw [← Int.emod_emod_of_dvd (k.wrap (n + linSum e.x l)) hdvd, wrap_emod, Int.emod_emod_of_dvd _ hdvd]
    · simp [V.inst, Sy.ev]
  · simp [V.inst, Sy.ev]

/-- A shift by a number. -/
def symShift (op : BinOp) (k : IntKind) (s : Sy) (n : Nat) : Option V := match op with
  | .shl => match (if k.signed then none else s.word k.bits) with
    | some l => some (vW k (padW k.bits (List.replicate (min n k.bits) .z ++ l)))
    | none => match s.toLin with
      | some (m, l) => some (vLin k (m * 2 ^ min n k.bits) (linMul (2 ^ min n k.bits) l))
      | none => some (.sym k (.op .mul s (.c (2 ^ min n k.bits))))
  | .shr => match (if k.signed then none else s.word k.bits) with
    | some l => some (vW k (l.drop (min n k.bits)))
    | none => none
  | _ => none
theorem symShift_ok {op : BinOp} {k : IntKind} {s : Sy} {n : Nat} {v : V} (h : symShift op k s n = some v) (e : En) : shiftV op k (s.ev e k) (n : Int) = some (v.inst e) := by
  unfold symShift at h
  unfold shiftV
  rw [if_neg (by omega)]
  simp only [Int.toNat_natCast]
  split at h
  · split at h
    · rename_i l hl
      simp at h; subst h
      split at hl
      · simp at hl
      · rename_i hk
        obtain ⟨a1, a2⟩ := Sy.word_ok hl
        rw [vW_inst, word_pad, word_shl, a2 e k]
        simp only [Option.some.injEq, V.int.injEq, true_and]
        have : ((wordOf e.w l : Nat) : Int) * 2 ^ min n k.bits = ((wordOf e.w l * 2 ^ min n k.bits : Nat) : Int) := by simp
        rw [this, wrap_nat k (by simpa using hk)]
    · split at h
      · rename_i m l hl
        simp at h; subst h
        have e1 := Sy.toLin_ok hl e k
        rw [vLin_inst, linMul_sum]
        simp only [Option.some.injEq, V.int.injEq, true_and]
        rw [← wrap_mul, e1, wrap_mul]
        congr 1
        rw [Int.add_mul, Int.mul_comm (linSum e.x l)]
      · simp at h; subst h
        simp [V.inst, Sy.ev, arithV]
  · split at h
    · rename_i l hl
      simp at h; subst h
      split at hl
      · simp at hl
      · obtain ⟨a1, a2⟩ := Sy.word_ok hl
        rw [vW_inst, word_shr, a2 e k]
        simp only [Option.some.injEq, V.int.injEq, true_and]
        have hp : (0 : Int) ≤ 2 ^ min n k.bits := Int.pow_nonneg (by omega)
        rw [Int.fdiv_eq_ediv_of_nonneg _ hp]
        simp
    · simp at h
  · simp at h

def symUn (op : UnOp) (k : IntKind) (s : Sy) : Option V := match op with
  | .neg => symPure .sub k (.c 0) s
  | .xor => match (if k.signed then none else s.word k.bits) with
    | some l => some (vW k (l.map mkNot))
    | none => none
  | _ => none
theorem symUn_ok {op : UnOp} {k : IntKind} {s : Sy} {v : V} (h : symUn op k s = some v) (e : En) : unV op (.int k (s.ev e k)) = some (v.inst e) := by
  cases op <;> simp only [symUn] at h <;> (try (simp at h; done))
  case neg =>
    have := symPure_ok h e
    simpa [arithV, unV, Sy.ev] using this
  case xor =>
    split at h
    · rename_i l hl
      simp at h; subst h
      split at hl
      · simp at hl
      · rename_i hk
        have hk : k.signed = false := by simpa using hk
        obtain ⟨a1, a2⟩ := Sy.word_ok hl
        have a3 := wordOf_lt e.w l
        rw [a1] at a3
        have h3 := word_not e.w l
        rw [a1] at h3
        rw [vW_inst, a2 e k]
        simp only [unV, hk, Option.some.injEq, V.int.injEq, true_and]
        have hmax : k.max = ((2 ^ k.bits - 1 : Nat) : Int) := by
          simp only [IntKind.max, hk]
          have h5 : 0 < 2 ^ k.bits := Nat.pow_pos (by omega)
          have h6 : ((2 ^ k.bits : Nat) : Int) = 2 ^ k.bits := by simp
          simp only [Bool.false_eq_true, if_false]
          omega
        simp only [Bool.false_eq_true, if_false]
        rw [hmax, BitVec.toNat_xor, ofInt_nat _ _ a3, ofInt_nat _ _ (by have : 0 < 2 ^ k.bits := Nat.pow_pos (by omega); omega)]
        have hx : (2 ^ k.bits - 1) ^^^ wordOf e.w l = wordOf e.w (l.map mkNot) := by
          refine Nat.eq_of_testBit_eq fun i => ?_
          rw [Nat.testBit_xor, Nat.testBit_two_pow_sub_one, wordOf_testBit, wordOf_testBit, List.getElem?_map]
          by_cases hi : i < l.length
          · have : i < k.bits := by omega
            simp [hi, this, mkNot_ev]
          · have : ¬ i < k.bits := by omega
            rw [List.getElem?_eq_none (by omega)]
            simp [this]
        rw [hx, wrap_nat_lt k hk (by have := wordOf_lt e.w (l.map mkNot); simpa [a1] using this)]
    · simp at h
end Go.Abs
