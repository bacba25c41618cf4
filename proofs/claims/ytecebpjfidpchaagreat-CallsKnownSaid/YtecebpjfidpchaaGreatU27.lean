/- PART of the proof of CallsKnown: Words of bit terms. No condition. -/
import Derived.Test.YtecebpjfidpchaaGreatU26
/-! Words of bit terms. -/
namespace Go.Abs
set_option linter.unusedVariables false

theorem wordB_testBit : ∀ (l : List Bool) (i : Nat), (wordB l).testBit i = l.getD i false
  | [], i => by simp [wordB]
  | b :: l, 0 => by cases b <;> simp [wordB, Nat.testBit_zero] <;> omega
  | b :: l, i + 1 => by
    have : (b.toNat + 2 * wordB l) / 2 = wordB l := by cases b <;> simp <;> omega
    rw [wordB, Nat.testBit_succ, this, wordB_testBit l i]
    simp
theorem wordB_lt : ∀ (l : List Bool), wordB l < 2 ^ l.length
  | [] => by simp [wordB]
  | b :: l => by
    have := wordB_lt l
    simp only [wordB, List.length_cons, Nat.pow_succ]
    cases b <;> simp <;> omega
theorem wordOf_testBit (e : Nat → Nat) (l : List Bt) (i : Nat) : (wordOf e l).testBit i = ((l[i]?).map (Bt.ev e)).getD false := by
  rw [wordOf, wordB_testBit, List.getD_eq_getElem?_getD, List.getElem?_map]
theorem wordOf_lt (e : Nat → Nat) (l : List Bt) : wordOf e l < 2 ^ l.length := by
  have := wordB_lt (l.map (Bt.ev e))
  simpa [wordOf] using this
theorem wordOf_cons (e : Nat → Nat) (b : Bt) (l : List Bt) : wordOf e (b :: l) = (b.ev e).toNat + 2 * wordOf e l := rfl

/-! Are two terms the same? -/
noncomputable def Bt.feq (a : Bt) : Bt → Bool :=
  @Bt.rec (fun _ => Bt → Bool) (fun _ => List Bt → Bool)
    (fun b => @Bt.casesOn (fun _ => Bool) b true false (fun _ _ => false) (fun _ => false) (fun _ _ => false) (fun _ _ => false) (fun _ _ => false) (fun _ _ => false))
    (fun b => @Bt.casesOn (fun _ => Bool) b false true (fun _ _ => false) (fun _ => false) (fun _ _ => false) (fun _ _ => false) (fun _ _ => false) (fun _ _ => false))
    (fun i j b => @Bt.casesOn (fun _ => Bool) b false false (fun k l => fIf (Nat.beq i k) (Nat.beq j l)) (fun _ => false) (fun _ _ => false) (fun _ _ => false) (fun _ _ => false) (fun _ _ => false))
    (fun _ ih b => @Bt.casesOn (fun _ => Bool) b false false (fun _ _ => false) (fun c => ih c) (fun _ _ => false) (fun _ _ => false) (fun _ _ => false) (fun _ _ => false))
    (fun _ _ iha ihb b => @Bt.casesOn (fun _ => Bool) b false false (fun _ _ => false) (fun _ => false) (fun c d => fIf (iha c) (ihb d)) (fun _ _ => false) (fun _ _ => false) (fun _ _ => false))
    (fun _ _ iha ihb b => @Bt.casesOn (fun _ => Bool) b false false (fun _ _ => false) (fun _ => false) (fun _ _ => false) (fun c d => fIf (iha c) (ihb d)) (fun _ _ => false) (fun _ _ => false))
    (fun _ _ iha ihb b => @Bt.casesOn (fun _ => Bool) b false false (fun _ _ => false) (fun _ => false) (fun _ _ => false) (fun _ _ => false) (fun c d => fIf (iha c) (ihb d)) (fun _ _ => false))
    (fun _ _ iha ihb b => @Bt.casesOn (fun _ => Bool) b false false (fun _ _ => false) (fun _ => false) (fun _ _ => false) (fun _ _ => false) (fun _ _ => false) (fun c d => fIf (iha c) (ihb d)))
    (fun l => @List.casesOn Bt (fun _ => Bool) l true (fun _ _ => false))
    (fun _ _ iha ihl l => @List.casesOn Bt (fun _ => Bool) l false (fun b r => fIf (iha b) (ihl r))) a
noncomputable def Bt.feqs (l : List Bt) : List Bt → Bool :=
  @Bt.rec_1 (fun _ => Bt → Bool) (fun _ => List Bt → Bool)
    (fun b => @Bt.casesOn (fun _ => Bool) b true false (fun _ _ => false) (fun _ => false) (fun _ _ => false) (fun _ _ => false) (fun _ _ => false) (fun _ _ => false))
    (fun b => @Bt.casesOn (fun _ => Bool) b false true (fun _ _ => false) (fun _ => false) (fun _ _ => false) (fun _ _ => false) (fun _ _ => false) (fun _ _ => false))
    (fun i j b => @Bt.casesOn (fun _ => Bool) b false false (fun k l => fIf (Nat.beq i k) (Nat.beq j l)) (fun _ => false) (fun _ _ => false) (fun _ _ => false) (fun _ _ => false) (fun _ _ => false))
    (fun _ ih b => @Bt.casesOn (fun _ => Bool) b false false (fun _ _ => false) (fun c => ih c) (fun _ _ => false) (fun _ _ => false) (fun _ _ => false) (fun _ _ => false))
    (fun _ _ iha ihb b => @Bt.casesOn (fun _ => Bool) b false false (fun _ _ => false) (fun _ => false) (fun c d => fIf (iha c) (ihb d)) (fun _ _ => false) (fun _ _ => false) (fun _ _ => false))
    (fun _ _ iha ihb b => @Bt.casesOn (fun _ => Bool) b false false (fun _ _ => false) (fun _ => false) (fun _ _ => false) (fun c d => fIf (iha c) (ihb d)) (fun _ _ => false) (fun _ _ => false))
    (fun _ _ iha ihb b => @Bt.casesOn (fun _ => Bool) b false false (fun _ _ => false) (fun _ => false) (fun _ _ => false) (fun _ _ => false) (fun c d => fIf (iha c) (ihb d)) (fun _ _ => false))
    (fun _ _ iha ihb b => @Bt.casesOn (fun _ => Bool) b false false (fun _ _ => false) (fun _ => false) (fun _ _ => false) (fun _ _ => false) (fun _ _ => false) (fun c d => fIf (iha c) (ihb d)))
    (fun l => @List.casesOn Bt (fun _ => Bool) l true (fun _ _ => false))
    (fun _ _ iha ihl l => @List.casesOn Bt (fun _ => Bool) l false (fun b r => fIf (iha b) (ihl r))) l
theorem Bt.feq_eq : ∀ a b : Bt, Bt.feq a b = true → a = b := by
  intro a
  refine @Bt.rec (fun a => ∀ b, Bt.feq a b = true → a = b) (fun l => ∀ r, Bt.feqs l r = true → l = r) ?_ ?_ ?_ ?_ ?_ ?_ ?_ ?_ ?_ ?_ a
  · intro b h; cases b <;> first | rfl | exact absurd h (by intro h; cases h)
  · intro b h; cases b <;> first | rfl | exact absurd h (by intro h; cases h)
  · intro i j b h
    cases b with
    | v k l =>
      obtain ⟨h1, h2⟩ := fIf_true (show fIf (Nat.beq i k) (Nat.beq j l) = true from h)
      rw [Nat.eq_of_beq_eq_true h1, Nat.eq_of_beq_eq_true h2]
    | _ => exact absurd h (by intro h; cases h)
  · intro a ih b h
    cases b with
    | not c => rw [ih c h]
    | _ => exact absurd h (by intro h; cases h)
  · intro a1 a2 ih1 ih2 b h
    cases b with
    | and c d =>
      obtain ⟨h1, h2⟩ := fIf_true (show fIf (Bt.feq a1 c) (Bt.feq a2 d) = true from h)
      rw [ih1 c h1, ih2 d h2]
    | _ => exact absurd h (by intro h; cases h)
  · intro a1 a2 ih1 ih2 b h
    cases b with
    | or c d =>
      obtain ⟨h1, h2⟩ := fIf_true (show fIf (Bt.feq a1 c) (Bt.feq a2 d) = true from h)
      rw [ih1 c h1, ih2 d h2]
    | _ => exact absurd h (by intro h; cases h)
  · intro a1 a2 ih1 ih2 b h
    cases b with
    | xor c d =>
      obtain ⟨h1, h2⟩ := fIf_true (show fIf (Bt.feq a1 c) (Bt.feq a2 d) = true from h)
      rw [ih1 c h1, ih2 d h2]
    | _ => exact absurd h (by intro h; cases h)
  · intro l1 l2 ih1 ih2 b h
    cases b with
    | sum c d =>
      obtain ⟨h1, h2⟩ := fIf_true (show fIf (Bt.feqs l1 c) (Bt.feqs l2 d) = true from h)
      rw [ih1 c h1, ih2 d h2]
    | _ => exact absurd h (by intro h; cases h)
  · intro r h
    cases r with
    | nil => rfl
    | cons _ _ => exact absurd h (by intro h; cases h)
  · intro a l iha ihl r h
    cases r with
    | nil => exact absurd h (by intro h; cases h)
    | cons b r =>
      obtain ⟨h1, h2⟩ := fIf_true (show fIf (Bt.feq a b) (Bt.feqs l r) = true from h)
      rw [iha b h1, ihl r h2]
theorem Bt.feqs_eq : ∀ l r : List Bt, Bt.feqs l r = true → l = r := by
  intro l
  induction l with
  | nil => intro r h; cases r with
    | nil => rfl
    | cons _ _ => exact absurd h (by intro h; cases h)
  | cons a l ih =>
    intro r h
    cases r with
    | nil => exact absurd h (by intro h; cases h)
    | cons b r =>
      obtain ⟨h1, h2⟩ := fIf_true (show fIf (Bt.feq a b) (Bt.feqs l r) = true from h)
      rw [Bt.feq_eq a b h1, ih r h2]

/-! Makers that cut short. -/
def mkNot : Bt → Bt
  | .z => .o
  | .o => .z
  | .not a => a
  | a => .not a
theorem mkNot_ev (e : Nat → Nat) (a : Bt) : (mkNot a).ev e = !a.ev e := by cases a <;> simp [mkNot, Bt.ev]
def mkAnd (a b : Bt) : Bt := match a, b with
  | .z, _ => .z
  | _, .z => .z
  | .o, b => b
  | a, .o => a
  | a, b => if Bt.same 200 a b then a else .and a b
theorem mkAnd_ev (e : Nat → Nat) (a b : Bt) : (mkAnd a b).ev e = (a.ev e && b.ev e) := by
  unfold mkAnd
  split <;> (try simp [Bt.ev])
  split
  · rename_i h; rw [Bt.same_eq _ _ _ h]; simp
  · simp [Bt.ev]
def mkOr (a b : Bt) : Bt := match a, b with
  | .o, _ => .o
  | _, .o => .o
  | .z, b => b
  | a, .z => a
  | a, b => if Bt.same 200 a b then a else .or a b
theorem mkOr_ev (e : Nat → Nat) (a b : Bt) : (mkOr a b).ev e = (a.ev e || b.ev e) := by
  unfold mkOr
  split <;> (try simp [Bt.ev])
  split
  · rename_i h; rw [Bt.same_eq _ _ _ h]; simp
  · simp [Bt.ev]
def mkXor (a b : Bt) : Bt := match a, b with
  | .z, b => b
  | a, .z => a
  | .o, b => mkNot b
  | a, .o => mkNot a
  | a, b => if Bt.same 200 a b then .z else .xor a b
theorem mkXor_ev (e : Nat → Nat) (a b : Bt) : (mkXor a b).ev e = (a.ev e ^^ b.ev e) := by
  unfold mkXor
  split <;> (try simp [Bt.ev, mkNot_ev])
  split
  · rename_i h; rw [Bt.same_eq _ _ _ h]; simp [Bt.ev]
  · simp [Bt.ev]

/-! Words. -/
def zipW (f : Bt → Bt → Bt) : List Bt → List Bt → List Bt
  | a :: as, b :: bs => f a b :: zipW f as bs
  | _, _ => []
theorem zipW_get (f : Bt → Bt → Bt) : ∀ (as bs : List Bt) (i : Nat), as.length = bs.length → (zipW f as bs)[i]? = match as[i]?, bs[i]? with | some a, some b => some (f a b) | _, _ => none
  | [], [], i, _ => by simp [zipW]
  | a :: as, b :: bs, 0, _ => by simp [zipW]
  | a :: as, b :: bs, i + 1, h => by simp [zipW, zipW_get f as bs i (by simpa using h)]
theorem zipW_length (f : Bt → Bt → Bt) : ∀ (as bs : List Bt), as.length = bs.length → (zipW f as bs).length = as.length
  | [], [], _ => rfl
  | a :: as, b :: bs, h => by simp [zipW, zipW_length f as bs (by simpa using h)]

theorem word_zip (e : Nat → Nat) {f : Bt → Bt → Bt} {g : Bool → Bool → Bool} (hf : ∀ a b, (f a b).ev e = g (a.ev e) (b.ev e)) (h0 : g false false = false) {as bs : List Bt} (h : as.length = bs.length) (n : Nat)
    (hn : ∀ i, n.testBit i = g ((wordOf e as).testBit i) ((wordOf e bs).testBit i)) : wordOf e (zipW f as bs) = n := by
  refine Nat.eq_of_testBit_eq fun i => ?_
  rw [hn, wordOf_testBit, wordOf_testBit, wordOf_testBit, zipW_get f as bs i h]
  by_cases hi : i < as.length
  · have hb : i < bs.length := by omega
    simp [hi, hb, hf]
  · rw [List.getElem?_eq_none (by omega), List.getElem?_eq_none (by omega)]
    simp [h0]
theorem word_and (e : Nat → Nat) {as bs : List Bt} (h : as.length = bs.length) : wordOf e (zipW mkAnd as bs) = wordOf e as &&& wordOf e bs :=
  word_zip e (mkAnd_ev e) rfl h _ fun i => by rw [Nat.testBit_and]
theorem word_or (e : Nat → Nat) {as bs : List Bt} (h : as.length = bs.length) : wordOf e (zipW mkOr as bs) = wordOf e as ||| wordOf e bs :=
  word_zip e (mkOr_ev e) rfl h _ fun i => by rw [Nat.testBit_or]
theorem word_xor (e : Nat → Nat) {as bs : List Bt} (h : as.length = bs.length) : wordOf e (zipW mkXor as bs) = wordOf e as ^^^ wordOf e bs :=
  word_zip e (mkXor_ev e) rfl h _ fun i => by rw [Nat.testBit_xor]

theorem word_not (e : Nat → Nat) : ∀ l : List Bt, wordOf e (l.map mkNot) + wordOf e l + 1 = 2 ^ l.length
  | [] => by simp [wordOf, wordB]
  | b :: l => by
    have ih := word_not e l
    simp only [List.map_cons, wordOf_cons, mkNot_ev, List.length_cons, Nat.pow_succ]
    cases b.ev e <;> simp <;> omega

def padW (n : Nat) (l : List Bt) : List Bt := (l ++ List.replicate n Bt.z).take n
theorem padW_length (n : Nat) (l : List Bt) : (padW n l).length = n := by simp [padW]
theorem word_pad (e : Nat → Nat) (n : Nat) (l : List Bt) : wordOf e (padW n l) = wordOf e l % 2 ^ n := by
  refine Nat.eq_of_testBit_eq fun i => ?_
  rw [Nat.testBit_mod_two_pow, wordOf_testBit, wordOf_testBit, padW, List.getElem?_take]
  by_cases hi : i < n
  · rw [if_pos hi]
    simp only [hi, decide_true, Bool.true_and]
    by_cases h2 : i < l.length
    · rw [List.getElem?_append_left h2]
    · rw [List.getElem?_append_right (by omega), List.getElem?_replicate, List.getElem?_eq_none (by omega : l.length ≤ i)]
      rw [if_pos (by omega)]
      simp [Bt.ev]
  · rw [if_neg hi]
    simp [hi]
theorem word_shl (e : Nat → Nat) (l : List Bt) : ∀ s : Nat, wordOf e (List.replicate s Bt.z ++ l) = wordOf e l * 2 ^ s
  | 0 => by simp
  | s + 1 => by
    rw [List.replicate_succ, List.cons_append, wordOf_cons, word_shl e l s]
    simp only [Bt.ev, Bool.toNat_false, Nat.zero_add, Nat.pow_succ]
    rw [Nat.mul_comm (2 ^ s) 2, ← Nat.mul_assoc, ← Nat.mul_assoc, Nat.mul_comm (wordOf e l) 2]
theorem word_shr (e : Nat → Nat) : ∀ (s : Nat) (l : List Bt), wordOf e (l.drop s) = wordOf e l / 2 ^ s
  | 0, l => by simp
  | s + 1, [] => by simp [wordOf, wordB]
  | s + 1, b :: l => by
    have h2 : ((b.ev e).toNat + 2 * wordOf e l) / 2 = wordOf e l := by cases b.ev e <;> simp <;> omega
    rw [List.drop_succ_cons, word_shr e s l, wordOf_cons, Nat.pow_succ, Nat.mul_comm (2 ^ s) 2, ← Nat.div_div_eq_div_mul, h2]
def bitsOf : Nat → Nat → List Bt
  | 0, _ => []
  | n + 1, m => (if m % 2 = 1 then .o else .z) :: bitsOf n (m / 2)
theorem bitsOf_length : ∀ n m : Nat, (bitsOf n m).length = n
  | 0, _ => rfl
  | n + 1, m => by simp [bitsOf, bitsOf_length n]
theorem word_bits (e : Nat → Nat) : ∀ n m : Nat, wordOf e (bitsOf n m) = m % 2 ^ n
  | 0, m => by simp [bitsOf, wordOf, wordB, Nat.mod_one]
  | n + 1, m => by
    rw [bitsOf, wordOf_cons, word_bits e n (m / 2), Nat.pow_succ, Nat.mul_comm (2 ^ n) 2, Nat.mod_mul]
    congr 1
    split
    · rename_i h; simp [Bt.ev, h]
    · rename_i h; simp [Bt.ev]; omega
def constW : List Bt → Option Nat
  | [] => some 0
  | .z :: l => (constW l).map (2 * ·)
  | .o :: l => (constW l).map (1 + 2 * ·)
  | _ => none
theorem constW_eq (e : Nat → Nat) : ∀ {l : List Bt} {n : Nat}, constW l = some n → wordOf e l = n
  | [], n, h => by simp [constW] at h; subst h; rfl
  | b :: l, n, h => by
    cases b <;> simp only [constW] at h <;> (try (simp at h; done))
    · obtain ⟨m, hm, rfl⟩ := map_some' h
      rw [wordOf_cons, constW_eq e hm]; simp [Bt.ev]
    · obtain ⟨m, hm, rfl⟩ := map_some' h
      rw [wordOf_cons, constW_eq e hm]; simp [Bt.ev]

/-- The top bit of a sum. -/
def sumTop : List Bt → List Bt → Bt
  | [a], [b] => mkXor a b
  | .z :: as, _ :: bs => sumTop as bs
  | _ :: as, .z :: bs => sumTop as bs
  | as, bs => .sum as bs
theorem sum_low (e : Nat → Nat) {a b : Bt} {as bs : List Bt} (h : a.ev e = false ∨ b.ev e = false) (j : Nat) : (wordOf e (a :: as) + wordOf e (b :: bs)).testBit (j + 1) = (wordOf e as + wordOf e bs).testBit j := by
  rw [wordOf_cons, wordOf_cons, Nat.testBit_succ]
  congr 1
  rcases h with h | h <;> rw [h] <;> simp
  · cases b.ev e <;> simp <;> omega
  · cases a.ev e <;> simp <;> omega
theorem sumTop_ev (e : Nat → Nat) : ∀ (as bs : List Bt), as.length = bs.length → as ≠ [] → (sumTop as bs).ev e = (wordOf e as + wordOf e bs).testBit (as.length - 1) := by
  intro as
  induction as with
  | nil => intro bs _ h; exact absurd rfl h
  | cons a as ih =>
    intro bs hl _
    cases bs with
    | nil => simp at hl
    | cons b bs =>
      have hl' : as.length = bs.length := by simpa using hl
      unfold sumTop
      split
      · rename_i a' b' h1 h2
        simp only [List.cons.injEq] at h1 h2
        obtain ⟨rfl, rfl⟩ := h1
        obtain ⟨rfl, rfl⟩ := h2
        rw [mkXor_ev]
        simp [wordOf, wordB, Nat.testBit_zero]
        cases a.ev e <;> cases b.ev e <;> simp
      · rename_i as' b' bs' hne h1 h2
        simp only [List.cons.injEq] at h1 h2
        obtain ⟨rfl, rfl⟩ := h1
        obtain ⟨rfl, rfl⟩ := h2
        have hne' : as ≠ [] := by
          rintro rfl
          have : bs = [] := by simpa using hl'.symm
          subst this
          first | exact hne _ _ rfl rfl rfl rfl | exact hne rfl rfl | exact hne _ rfl rfl | exact hne rfl
        have hpos : 0 < as.length := List.length_pos_iff.2 hne'
        rw [ih bs hl' hne', show (Bt.z :: as).length - 1 = (as.length - 1) + 1 from by simp; omega, sum_low e (.inl rfl)]
      · rename_i a' as' bs' hne _ h1 h2
        simp only [List.cons.injEq] at h1 h2
        obtain ⟨rfl, rfl⟩ := h1
        obtain ⟨rfl, rfl⟩ := h2
        have hne' : as ≠ [] := by
          rintro rfl
          have : bs = [] := by simpa using hl'.symm
          subst this
          first | exact hne _ _ rfl rfl rfl rfl | exact hne rfl rfl | exact hne _ rfl rfl | exact hne rfl
        have hpos : 0 < as.length := List.length_pos_iff.2 hne'
        rw [ih bs hl' hne', show (a :: as).length - 1 = (as.length - 1) + 1 from by simp; omega, sum_low e (.inr rfl)]
      · simp only [Bt.ev, Bt.evs_eq]
        rfl
def sumW (as bs : List Bt) : List Bt := (List.range as.length).map fun j => sumTop (as.take (j + 1)) (bs.take (j + 1))
theorem sumW_length (as bs : List Bt) : (sumW as bs).length = as.length := by simp [sumW]
theorem word_take (e : Nat → Nat) (l : List Bt) (n : Nat) (h : n ≤ l.length) : wordOf e (l.take n) = wordOf e l % 2 ^ n := by
  rw [← word_pad e n l, padW, List.take_append_of_le_length h]
theorem word_sum (e : Nat → Nat) {as bs : List Bt} (h : as.length = bs.length) : wordOf e (sumW as bs) = (wordOf e as + wordOf e bs) % 2 ^ as.length := by
  refine Nat.eq_of_testBit_eq fun i => ?_
  rw [Nat.testBit_mod_two_pow, wordOf_testBit, sumW, List.getElem?_map]
  by_cases hi : i < as.length
  · rw [List.getElem?_range hi]
    simp only [Option.map_some, Option.getD_some, hi, decide_true, Bool.true_and]
    have h1 : (as.take (i + 1)).length = i + 1 := by simp; omega
    rw [sumTop_ev e _ _ (by simp; omega) (by intro h; rw [h] at h1; simp at h1), h1, word_take e as _ (by omega), word_take e bs _ (by omega)]
    have t : ∀ x : Nat, x.testBit i = (x % 2 ^ (i + 1)).testBit i := fun x => by rw [Nat.testBit_mod_two_pow]; simp
    rw [show i + 1 - 1 = i from by omega, t, t (wordOf e as + wordOf e bs), Nat.add_mod (wordOf e as)]
  · rw [List.getElem?_eq_none (by simpa using hi)]
    simp [hi]

/-- Do two words differ in a bit that is known? -/
def diffW : List Bt → List Bt → Bool
  | .z :: _, .o :: _ => true
  | .o :: _, .z :: _ => true
  | _ :: as, _ :: bs => diffW as bs
  | _, _ => false
theorem diffW_ne (e : Nat → Nat) : ∀ (as bs : List Bt), diffW as bs = true → wordOf e as ≠ wordOf e bs
  | [], bs, h => by cases bs <;> simp [diffW] at h
  | a :: as, [], h => by cases a <;> simp [diffW] at h
  | a :: as, b :: bs, h => by
    rw [wordOf_cons, wordOf_cons]
    by_cases hd : diffW as bs = true
    · have := diffW_ne e as bs hd
      have h1 := Bool.toNat_lt (a.ev e)
      have h2 := Bool.toNat_lt (b.ev e)
      omega
    · have : (a = .z ∧ b = .o) ∨ (a = .o ∧ b = .z) := by
        cases a <;> cases b <;> simp [diffW, hd] at h ⊢
      rcases this with ⟨rfl, rfl⟩ | ⟨rfl, rfl⟩ <;> simp [Bt.ev] <;> omega
end Go.Abs
