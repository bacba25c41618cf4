/- PART of the proof of CallsKnown: Operations on unknown integers. No condition. -/
import Derived.Test.YtecebpjfidpchaaGreatU30
/-! Operations on unknown integers. -/
namespace Go.Abs
set_option linter.unusedVariables false

def flipOp : BinOp → BinOp
  | .lss => .gtr
  | .leq => .geq
  | .gtr => .lss
  | .geq => .leq
  | op => op
def isCmp : BinOp → Bool
  | .eql | .neq | .lss | .leq | .gtr | .geq => true
  | _ => false
/-- A comparison of a term with a number. -/
noncomputable def symCmp (iv : Iv) (k : IntKind) (op : BinOp) (s : Sy) (n : Int) (κ : KI) : Bool := match op with
  | .eql => askEq iv k s n fun b iv => κ (.bool b) iv
  | .neq => askEq iv k s n fun b iv => fB (!b) fun b => κ (.bool b) iv
  | .leq => askLe iv k s n fun b iv => κ (.bool b) iv
  | .gtr => askLe iv k s n fun b iv => fB (!b) fun b => κ (.bool b) iv
  | .lss => fI (n - 1) fun n => askLe iv k s n fun b iv => κ (.bool b) iv
  | .geq => fI (n - 1) fun n => askLe iv k s n fun b iv => fB (!b) fun b => κ (.bool b) iv
  | _ => false
theorem symCmp_true {iv : Iv} {k : IntKind} {op : BinOp} {s : Sy} {n : Int} {κ : KI} (h : symCmp iv k op s n κ = true) {e : En} (he : iv.ok e) : ∃ v iv', iv'.ok e ∧ arithV op k (s.ev e k) n = some (v.inst e) ∧ arithV (flipOp op) k n (s.ev e k) = some (v.inst e) ∧ κ v iv' = true := by
  cases op <;> simp only [symCmp, fI_eq, fB_eq] at h <;> (try (simp at h; done))
  case eql =>
    obtain ⟨iv', h1, h2⟩ := askEq_true h he
    refine ⟨_, iv', h1, ?_, ?_, h2⟩
    · simp only [arithV, V.inst, Option.some.injEq, V.bool.injEq]; rw [Bool.eq_iff_iff]; simp; try omega
    · simp only [flipOp, arithV, V.inst, Option.some.injEq, V.bool.injEq]; rw [Bool.eq_iff_iff]; simp; try omega
  case neq =>
    obtain ⟨iv', h1, h2⟩ := askEq_true h he
    refine ⟨_, iv', h1, ?_, ?_, h2⟩
    · simp only [arithV, V.inst, Option.some.injEq, V.bool.injEq]; rw [Bool.eq_iff_iff]; simp; try omega
    · simp only [flipOp, arithV, V.inst, Option.some.injEq, V.bool.injEq]; rw [Bool.eq_iff_iff]; simp; try omega
  all_goals
    obtain ⟨iv', h1, h2⟩ := askLe_true h he
    refine ⟨_, iv', h1, ?_, ?_, h2⟩
    · first
        | (simp only [arithV, V.inst, Option.some.injEq, V.bool.injEq]; done)
        | (simp only [arithV, V.inst, Option.some.injEq, V.bool.injEq]; rw [Bool.eq_iff_iff]; simp; try omega)
    · first
        | (simp only [flipOp, arithV, V.inst, Option.some.injEq, V.bool.injEq]; done)
        | (simp only [flipOp, arithV, V.inst, Option.some.injEq, V.bool.injEq]; rw [Bool.eq_iff_iff]; simp; try omega)

/-- Is a term to be made a number first? -/
def wantsPt (iv : Iv) (op : BinOp) (k : IntKind) (s : Sy) : Bool := match s with
  | .c _ => false
  | .w _ => false
  | s => match rngF iv k s with
    | some f => if f.lo = f.hi then true else if isCmp op then false else match s with
      | .lin _ [(a, i)] => (match op with | .add | .sub | .mul => false | .rem => decide (a ≠ 1) | _ => true) && (match xget iv.xs i with | some g => decide (g.hi - g.lo ≤ 15) | none => false)
      | .lin _ _ => false
      | _ => decide (f.hi - f.lo ≤ 15)
    | none => false
/-! ### Words, fast -/
theorem arith_and {k : IntKind} (hk : k.signed = false) {a b : Nat} (ha : a < 2 ^ k.bits) (hb : b < 2 ^ k.bits) : arithV .and k a b = some (.int k ((a &&& b : Nat) : Int)) := by
  simp only [arithV]
  rw [BitVec.toNat_and, ofInt_nat _ _ ha, ofInt_nat _ _ hb, wrap_nat_lt k hk (Nat.lt_of_le_of_lt Nat.and_le_left ha)]
theorem arith_or {k : IntKind} (hk : k.signed = false) {a b : Nat} (ha : a < 2 ^ k.bits) (hb : b < 2 ^ k.bits) : arithV .or k a b = some (.int k ((a ||| b : Nat) : Int)) := by
  simp only [arithV]
  rw [BitVec.toNat_or, ofInt_nat _ _ ha, ofInt_nat _ _ hb, wrap_nat_lt k hk (Nat.or_lt_two_pow ha hb)]
theorem arith_xor {k : IntKind} (hk : k.signed = false) {a b : Nat} (ha : a < 2 ^ k.bits) (hb : b < 2 ^ k.bits) : arithV .xor k a b = some (.int k ((a ^^^ b : Nat) : Int)) := by
  simp only [arithV]
  rw [BitVec.toNat_xor, ofInt_nat _ _ ha, ofInt_nat _ _ hb, wrap_nat_lt k hk (Nat.xor_lt_two_pow ha hb)]
theorem arith_andNot {k : IntKind} (hk : k.signed = false) {a b : Nat} (ha : a < 2 ^ k.bits) (hb : b < 2 ^ k.bits) : arithV .andNot k a b = some (.int k ((a &&& (2 ^ k.bits - 1 - b) : Nat) : Int)) := by
  simp only [arithV]
  rw [BitVec.toNat_and, BitVec.toNat_not, ofInt_nat _ _ ha, ofInt_nat _ _ hb, wrap_nat_lt k hk (Nat.lt_of_le_of_lt Nat.and_le_left ha)]
theorem arith_addN {k : IntKind} (hk : k.signed = false) (a b : Nat) : arithV .add k a b = some (.int k (((a + b) % 2 ^ k.bits : Nat) : Int)) := by
  simp only [arithV]
  have : ((a : Nat) : Int) + (b : Nat) = ((a + b : Nat) : Int) := by simp
  rw [this, wrap_nat k hk]

/-- A maker of bits, in the kernel's form, gives this. -/
def BitK (f : Bt → Bt → (Bt → Bool) → Bool) (g : Bool → Bool → Bool) : Prop := ∀ a b κ, f a b κ = true → ∃ c : Bt, (∀ e, c.ev e = g (a.ev e) (b.ev e)) ∧ κ c = true
noncomputable def andK (a b : Bt) (κ : Bt → Bool) : Bool :=
  @Bt.casesOn (fun _ => Bool) a (κ .z) (κ b) (fun _ _ => @Bt.casesOn (fun _ => Bool) b (κ .z) (κ a) (fun _ _ => κ (.and a b)) (fun _ => κ (.and a b)) (fun _ _ => κ (.and a b)) (fun _ _ => κ (.and a b)) (fun _ _ => κ (.and a b)) (fun _ _ => κ (.and a b)))
    (fun _ => @Bt.casesOn (fun _ => Bool) b (κ .z) (κ a) (fun _ _ => κ (.and a b)) (fun _ => κ (.and a b)) (fun _ _ => κ (.and a b)) (fun _ _ => κ (.and a b)) (fun _ _ => κ (.and a b)) (fun _ _ => κ (.and a b)))
    (fun _ _ => @Bt.casesOn (fun _ => Bool) b (κ .z) (κ a) (fun _ _ => κ (.and a b)) (fun _ => κ (.and a b)) (fun _ _ => κ (.and a b)) (fun _ _ => κ (.and a b)) (fun _ _ => κ (.and a b)) (fun _ _ => κ (.and a b)))
    (fun _ _ => @Bt.casesOn (fun _ => Bool) b (κ .z) (κ a) (fun _ _ => κ (.and a b)) (fun _ => κ (.and a b)) (fun _ _ => κ (.and a b)) (fun _ _ => κ (.and a b)) (fun _ _ => κ (.and a b)) (fun _ _ => κ (.and a b)))
    (fun _ _ => @Bt.casesOn (fun _ => Bool) b (κ .z) (κ a) (fun _ _ => κ (.and a b)) (fun _ => κ (.and a b)) (fun _ _ => κ (.and a b)) (fun _ _ => κ (.and a b)) (fun _ _ => κ (.and a b)) (fun _ _ => κ (.and a b)))
    (fun _ _ => @Bt.casesOn (fun _ => Bool) b (κ .z) (κ a) (fun _ _ => κ (.and a b)) (fun _ => κ (.and a b)) (fun _ _ => κ (.and a b)) (fun _ _ => κ (.and a b)) (fun _ _ => κ (.and a b)) (fun _ _ => κ (.and a b)))
theorem andK_ok : BitK andK (· && ·) := by
  intro a b κ h
  cases a <;> cases b <;> first
    | exact ⟨_, fun e => by simp [Bt.ev], h⟩
noncomputable def orK (a b : Bt) (κ : Bt → Bool) : Bool :=
  @Bt.casesOn (fun _ => Bool) a (κ b) (κ .o) (fun _ _ => @Bt.casesOn (fun _ => Bool) b (κ a) (κ .o) (fun _ _ => κ (.or a b)) (fun _ => κ (.or a b)) (fun _ _ => κ (.or a b)) (fun _ _ => κ (.or a b)) (fun _ _ => κ (.or a b)) (fun _ _ => κ (.or a b)))
    (fun _ => @Bt.casesOn (fun _ => Bool) b (κ a) (κ .o) (fun _ _ => κ (.or a b)) (fun _ => κ (.or a b)) (fun _ _ => κ (.or a b)) (fun _ _ => κ (.or a b)) (fun _ _ => κ (.or a b)) (fun _ _ => κ (.or a b)))
    (fun _ _ => @Bt.casesOn (fun _ => Bool) b (κ a) (κ .o) (fun _ _ => κ (.or a b)) (fun _ => κ (.or a b)) (fun _ _ => κ (.or a b)) (fun _ _ => κ (.or a b)) (fun _ _ => κ (.or a b)) (fun _ _ => κ (.or a b)))
    (fun _ _ => @Bt.casesOn (fun _ => Bool) b (κ a) (κ .o) (fun _ _ => κ (.or a b)) (fun _ => κ (.or a b)) (fun _ _ => κ (.or a b)) (fun _ _ => κ (.or a b)) (fun _ _ => κ (.or a b)) (fun _ _ => κ (.or a b)))
    (fun _ _ => @Bt.casesOn (fun _ => Bool) b (κ a) (κ .o) (fun _ _ => κ (.or a b)) (fun _ => κ (.or a b)) (fun _ _ => κ (.or a b)) (fun _ _ => κ (.or a b)) (fun _ _ => κ (.or a b)) (fun _ _ => κ (.or a b)))
    (fun _ _ => @Bt.casesOn (fun _ => Bool) b (κ a) (κ .o) (fun _ _ => κ (.or a b)) (fun _ => κ (.or a b)) (fun _ _ => κ (.or a b)) (fun _ _ => κ (.or a b)) (fun _ _ => κ (.or a b)) (fun _ _ => κ (.or a b)))
theorem orK_ok : BitK orK (· || ·) := by
  intro a b κ h
  cases a <;> cases b <;> first
    | exact ⟨_, fun e => by simp [Bt.ev], h⟩
noncomputable def notK (a : Bt) (κ : Bt → Bool) : Bool := @Bt.casesOn (fun _ => Bool) a (κ .o) (κ .z) (fun _ _ => κ (.not a)) (fun b => κ b) (fun _ _ => κ (.not a)) (fun _ _ => κ (.not a)) (fun _ _ => κ (.not a)) (fun _ _ => κ (.not a))
theorem notK_ok {a : Bt} {κ : Bt → Bool} (h : notK a κ = true) : ∃ c : Bt, (∀ e, c.ev e = !a.ev e) ∧ κ c = true := by
  cases a <;> exact ⟨_, fun e => by simp [Bt.ev], h⟩
noncomputable def xorK (a b : Bt) (κ : Bt → Bool) : Bool :=
  @Bt.casesOn (fun _ => Bool) a (κ b) (notK b κ) (fun _ _ => @Bt.casesOn (fun _ => Bool) b (κ a) (notK a κ) (fun _ _ => @Bool.rec (fun _ => Bool) (κ (.xor a b)) (κ .z) (Bt.feq a b)) (fun _ => @Bool.rec (fun _ => Bool) (κ (.xor a b)) (κ .z) (Bt.feq a b)) (fun _ _ => @Bool.rec (fun _ => Bool) (κ (.xor a b)) (κ .z) (Bt.feq a b)) (fun _ _ => @Bool.rec (fun _ => Bool) (κ (.xor a b)) (κ .z) (Bt.feq a b)) (fun _ _ => @Bool.rec (fun _ => Bool) (κ (.xor a b)) (κ .z) (Bt.feq a b)) (fun _ _ => @Bool.rec (fun _ => Bool) (κ (.xor a b)) (κ .z) (Bt.feq a b)))
    (fun _ => @Bt.casesOn (fun _ => Bool) b (κ a) (notK a κ) (fun _ _ => @Bool.rec (fun _ => Bool) (κ (.xor a b)) (κ .z) (Bt.feq a b)) (fun _ => @Bool.rec (fun _ => Bool) (κ (.xor a b)) (κ .z) (Bt.feq a b)) (fun _ _ => @Bool.rec (fun _ => Bool) (κ (.xor a b)) (κ .z) (Bt.feq a b)) (fun _ _ => @Bool.rec (fun _ => Bool) (κ (.xor a b)) (κ .z) (Bt.feq a b)) (fun _ _ => @Bool.rec (fun _ => Bool) (κ (.xor a b)) (κ .z) (Bt.feq a b)) (fun _ _ => @Bool.rec (fun _ => Bool) (κ (.xor a b)) (κ .z) (Bt.feq a b))) (fun _ _ => @Bt.casesOn (fun _ => Bool) b (κ a) (notK a κ) (fun _ _ => @Bool.rec (fun _ => Bool) (κ (.xor a b)) (κ .z) (Bt.feq a b)) (fun _ => @Bool.rec (fun _ => Bool) (κ (.xor a b)) (κ .z) (Bt.feq a b)) (fun _ _ => @Bool.rec (fun _ => Bool) (κ (.xor a b)) (κ .z) (Bt.feq a b)) (fun _ _ => @Bool.rec (fun _ => Bool) (κ (.xor a b)) (κ .z) (Bt.feq a b)) (fun _ _ => @Bool.rec (fun _ => Bool) (κ (.xor a b)) (κ .z) (Bt.feq a b)) (fun _ _ => @Bool.rec (fun _ => Bool) (κ (.xor a b)) (κ .z) (Bt.feq a b))) (fun _ _ => @Bt.casesOn (fun _ => Bool) b (κ a) (notK a κ) (fun _ _ => @Bool.rec (fun _ => Bool) (κ (.xor a b)) (κ .z) (Bt.feq a b)) (fun _ => @Bool.rec (fun _ => Bool) (κ (.xor a b)) (κ .z) (Bt.feq a b)) (fun _ _ => @Bool.rec (fun _ => Bool) (κ (.xor a b)) (κ .z) (Bt.feq a b)) (fun _ _ => @Bool.rec (fun _ => Bool) (κ (.xor a b)) (κ .z) (Bt.feq a b)) (fun _ _ => @Bool.rec (fun _ => Bool) (κ (.xor a b)) (κ .z) (Bt.feq a b)) (fun _ _ => @Bool.rec (fun _ => Bool) (κ (.xor a b)) (κ .z) (Bt.feq a b))) (fun _ _ => @Bt.casesOn (fun _ => Bool) b (κ a) (notK a κ) (fun _ _ => @Bool.rec (fun _ => Bool) (κ (.xor a b)) (κ .z) (Bt.feq a b)) (fun _ => @Bool.rec (fun _ => Bool) (κ (.xor a b)) (κ .z) (Bt.feq a b)) (fun _ _ => @Bool.rec (fun _ => Bool) (κ (.xor a b)) (κ .z) (Bt.feq a b)) (fun _ _ => @Bool.rec (fun _ => Bool) (κ (.xor a b)) (κ .z) (Bt.feq a b)) (fun _ _ => @Bool.rec (fun _ => Bool) (κ (.xor a b)) (κ .z) (Bt.feq a b)) (fun _ _ => @Bool.rec (fun _ => Bool) (κ (.xor a b)) (κ .z) (Bt.feq a b))) (fun _ _ => @Bt.casesOn (fun _ => Bool) b (κ a) (notK a κ) (fun _ _ => @Bool.rec (fun _ => Bool) (κ (.xor a b)) (κ .z) (Bt.feq a b)) (fun _ => @Bool.rec (fun _ => Bool) (κ (.xor a b)) (κ .z) (Bt.feq a b)) (fun _ _ => @Bool.rec (fun _ => Bool) (κ (.xor a b)) (κ .z) (Bt.feq a b)) (fun _ _ => @Bool.rec (fun _ => Bool) (κ (.xor a b)) (κ .z) (Bt.feq a b)) (fun _ _ => @Bool.rec (fun _ => Bool) (κ (.xor a b)) (κ .z) (Bt.feq a b)) (fun _ _ => @Bool.rec (fun _ => Bool) (κ (.xor a b)) (κ .z) (Bt.feq a b)))
theorem xorK_ok : BitK xorK (fun a b => a ^^ b) := by
  intro a b κ h
  have same : ∀ {a b : Bt}, @Bool.rec (fun _ => Bool) (κ (.xor a b)) (κ .z) (Bt.feq a b) = true → ∃ c : Bt, (∀ e, c.ev e = (a.ev e ^^ b.ev e)) ∧ κ c = true := by
    intro a b h
    cases hf : Bt.feq a b with
    | true => rw [hf] at h; rw [Bt.feq_eq a b hf]; exact ⟨.z, fun e => by simp [Bt.ev], h⟩
    | false => rw [hf] at h; exact ⟨.xor a b, fun e => by simp [Bt.ev], h⟩
  have nt : ∀ {a b : Bt}, (∀ e, b.ev e = true) → notK a κ = true → ∃ c : Bt, (∀ e, c.ev e = (a.ev e ^^ b.ev e)) ∧ κ c = true := by
    intro a b hb h
    obtain ⟨c, h1, h2⟩ := notK_ok h
    exact ⟨c, fun e => by rw [h1, hb]; simp, h2⟩
  have nt2 : ∀ {a b : Bt}, (∀ e, a.ev e = true) → notK b κ = true → ∃ c : Bt, (∀ e, c.ev e = (a.ev e ^^ b.ev e)) ∧ κ c = true := by
    intro a b hb h
    obtain ⟨c, h1, h2⟩ := notK_ok h
    exact ⟨c, fun e => by rw [h1, hb]; simp, h2⟩
  cases a <;> cases b <;> first
    | exact same h
    | exact nt (fun e => by simp [Bt.ev]) h
    | exact nt2 (fun e => by simp [Bt.ev]) h
    | exact ⟨_, fun e => by simp [Bt.ev], h⟩
noncomputable def andNotK (a b : Bt) (κ : Bt → Bool) : Bool := notK b fun c => andK a c κ
theorem andNotK_ok : BitK andNotK (fun a b => a && !b) := by
  intro a b κ h
  obtain ⟨c, h1, h2⟩ := notK_ok h
  obtain ⟨d, h3, h4⟩ := andK_ok a c κ h2
  exact ⟨d, fun e => by rw [h3, h1], h4⟩

noncomputable def zipK (f : Bt → Bt → (Bt → Bool) → Bool) (l : List Bt) : List Bt → (List Bt → Bool) → Bool :=
  @List.rec Bt (fun _ => List Bt → (List Bt → Bool) → Bool) (fun _ κ => κ []) (fun a _ ih r κ => @List.casesOn Bt (fun _ => Bool) r false (fun b r => f a b fun c => ih r fun s => κ (c :: s))) l
theorem zipK_ok {f : Bt → Bt → (Bt → Bool) → Bool} {g : Bool → Bool → Bool} (hf : BitK f g) : ∀ (l r : List Bt) (κ : List Bt → Bool), l.length = r.length → zipK f l r κ = true → ∃ s : List Bt, s.length = l.length ∧ (∀ e i, i < l.length → (wordOf e s).testBit i = g ((wordOf e l).testBit i) ((wordOf e r).testBit i)) ∧ κ s = true := by
  intro l
  induction l with
  | nil => intro r κ hl h; exact ⟨[], rfl, by simp, h⟩
  | cons a l ih =>
    intro r κ hl h
    cases r with
    | nil => simp at hl
    | cons b r =>
      obtain ⟨c, h1, h2⟩ := hf a b _ (show f a b (fun c => zipK f l r fun s => κ (c :: s)) = true from h)
      obtain ⟨s, h3, h4, h5⟩ := ih r _ (by simpa using hl) h2
      refine ⟨c :: s, by simp [h3], fun e i hi => ?_, h5⟩
      have hl' : l.length = r.length := by simpa using hl
      cases i with
      | zero => simp only [wordOf_testBit, List.getElem?_cons_zero, Option.map_some, Option.getD_some, h1]
      | succ i =>
        have := h4 e i (by simpa using hi)
        simp only [wordOf_testBit, List.getElem?_cons_succ] at this ⊢
        exact this
theorem zip_word {e : Nat → Nat} {l r s : List Bt} {g : Bool → Bool → Bool} {n : Nat} (h1 : s.length = l.length) (h2 : ∀ i, i < l.length → (wordOf e s).testBit i = g ((wordOf e l).testBit i) ((wordOf e r).testBit i)) (hn : ∀ i, i < l.length → n.testBit i = g ((wordOf e l).testBit i) ((wordOf e r).testBit i)) (hlt : n < 2 ^ l.length) : wordOf e s = n := by
  refine Nat.eq_of_testBit_eq fun i => ?_
  by_cases hi : i < l.length
  · rw [h2 i hi, hn i hi]
  · have h3 := wordOf_lt e s
    rw [h1] at h3
    have hle : 2 ^ l.length ≤ 2 ^ i := Nat.pow_le_pow_right (by omega) (by omega)
    rw [Nat.testBit_lt_two_pow (by omega), Nat.testBit_lt_two_pow (by omega)]

noncomputable def constK (l : List Bt) (κn : Bool) : (Nat → Bool) → Bool :=
  @List.rec Bt (fun _ => (Nat → Bool) → Bool) (fun κ => κ 0) (fun b _ ih κ => @Bt.casesOn (fun _ => Bool) b (ih fun n => fN (Nat.mul 2 n) κ) (ih fun n => fN (Nat.succ (Nat.mul 2 n)) κ) (fun _ _ => κn) (fun _ => κn) (fun _ _ => κn) (fun _ _ => κn) (fun _ _ => κn) (fun _ _ => κn)) l
theorem constK_ok : ∀ (l : List Bt) {κn : Bool} {κ : Nat → Bool}, constK l κn κ = true → κn = true ∨ ∃ n, (∀ e, wordOf e l = n) ∧ κ n = true := by
  intro l
  induction l with
  | nil => intro κn κ h; exact .inr ⟨0, fun e => rfl, h⟩
  | cons b l ih =>
    intro κn κ h
    cases b
    case z =>
      rcases ih (show constK l κn (fun n => fN (Nat.mul 2 n) κ) = true from h) with h1 | ⟨n, h1, h2⟩
      · exact .inl h1
      · rw [fN_eq] at h2
        exact .inr ⟨_, fun e => by rw [wordOf_cons, h1]; simp [Bt.ev], h2⟩
    case o =>
      rcases ih (show constK l κn (fun n => fN (Nat.succ (Nat.mul 2 n)) κ) = true from h) with h1 | ⟨n, h1, h2⟩
      · exact .inl h1
      · rw [fN_eq] at h2
        exact .inr ⟨_, fun e => by rw [wordOf_cons, h1]; simp [Bt.ev]; omega, h2⟩
    all_goals exact .inl h
noncomputable def vWK (k : IntKind) (l : List Bt) (κ : V → Bool) : Bool := constK l (κ (.sym k (.w l))) fun n => κ (.int k (.ofNat n))
theorem vWK_ok {k : IntKind} {l : List Bt} {κ : V → Bool} (h : vWK k l κ = true) : ∃ v : V, (∀ e : En, v.inst e = .int k (wordOf e.w l : Nat)) ∧ κ v = true := by
  rcases constK_ok l h with h1 | ⟨n, h1, h2⟩
  · exact ⟨_, fun e => rfl, h1⟩
  · exact ⟨_, fun e => by rw [h1]; rfl, h2⟩

/-- The bits of a sum; no bit below is carried. -/
def sumRest (l r : List Bt) : List Bt := (List.range l.length).map fun j => .sum (l.take (j + 1)) (r.take (j + 1))
theorem sumRest_word (e : Nat → Nat) {l r : List Bt} (h : l.length = r.length) : wordOf e (sumRest l r) = (wordOf e l + wordOf e r) % 2 ^ l.length := by
  refine Nat.eq_of_testBit_eq fun i => ?_
  rw [Nat.testBit_mod_two_pow, wordOf_testBit, sumRest, List.getElem?_map]
  by_cases hi : i < l.length
  · rw [List.getElem?_range hi]
    have h1 : (l.take (i + 1)).length = i + 1 := by simp; omega
    simp only [Option.map_some, Option.getD_some, hi, decide_true, Bool.true_and, Bt.ev, Bt.evs_eq, h1]
    have e1 : wordB ((l.take (i + 1)).map (Bt.ev e)) = wordOf e (l.take (i + 1)) := rfl
    have e2 : wordB ((r.take (i + 1)).map (Bt.ev e)) = wordOf e (r.take (i + 1)) := rfl
    rw [e1, e2, word_take e l _ (by omega), word_take e r _ (by omega)]
    have t : ∀ x : Nat, x.testBit i = (x % 2 ^ (i + 1)).testBit i := fun x => by rw [Nat.testBit_mod_two_pow]; simp
    rw [show i + 1 - 1 = i from by omega, t, t (wordOf e l + wordOf e r), Nat.add_mod (wordOf e l)]
  · rw [List.getElem?_eq_none (by simpa using hi)]
    simp [hi]
noncomputable def idK (a : Bt) (k : Bt → Bool) : Bool := @Bt.casesOn (fun _ => Bool) a (k .z) (k .o) (fun i j => k (.v i j)) (fun b => k (.not b)) (fun b c => k (.and b c)) (fun b c => k (.or b c)) (fun b c => k (.xor b c)) (fun b c => k (.sum b c))
theorem idK_eq (a : Bt) (k : Bt → Bool) : idK a k = k a := by cases a <;> rfl
noncomputable def sumK (l : List Bt) : List Bt → (List Bt → Bool) → Bool :=
  @List.rec Bt (fun _ => List Bt → (List Bt → Bool) → Bool) (fun _ κ => κ []) (fun a as ih r κ => @List.casesOn Bt (fun _ => Bool) r false fun b bs =>
    @Bool.rec (fun _ => Bool) (@Bool.rec (fun _ => Bool) (fLs idK (sumRest (a :: as) (b :: bs)) κ) (ih bs fun s => κ (a :: s)) (Bt.feq b .z)) (ih bs fun s => κ (b :: s)) (Bt.feq a .z)) l
theorem sumK_ok : ∀ (l r : List Bt) (κ : List Bt → Bool), l.length = r.length → sumK l r κ = true → ∃ s : List Bt, (∀ e, wordOf e s = (wordOf e l + wordOf e r) % 2 ^ l.length) ∧ κ s = true := by
  intro l
  induction l with
  | nil => intro r κ hl h; exact ⟨[], fun e => by simp [wordOf, wordB, Nat.mod_one], h⟩
  | cons a l ih =>
    intro r κ hl h
    cases r with
    | nil => simp at hl
    | cons b r =>
      have hl' : l.length = r.length := by simpa using hl
      have h' : @Bool.rec (fun _ => Bool) (@Bool.rec (fun _ => Bool) (fLs idK (sumRest (a :: l) (b :: r)) κ) (sumK l r fun s => κ (a :: s)) (Bt.feq b .z)) (sumK l r fun s => κ (b :: s)) (Bt.feq a .z) = true := h
      have low : ∀ {c : Bt} {s : List Bt} {e : Nat → Nat}, c.ev e = (a.ev e ^^ b.ev e) → (a.ev e = false ∨ b.ev e = false) → wordOf e s = (wordOf e l + wordOf e r) % 2 ^ l.length → wordOf e (c :: s) = (wordOf e (a :: l) + wordOf e (b :: r)) % 2 ^ (a :: l).length := by
        intro c s e hc hab hs
        rw [wordOf_cons, wordOf_cons, wordOf_cons, hs, hc, List.length_cons, Nat.pow_succ, Nat.mul_comm (2 ^ l.length) 2]
        rw [show (a.ev e).toNat + 2 * wordOf e l + ((b.ev e).toNat + 2 * wordOf e r) = (a.ev e ^^ b.ev e).toNat + 2 * (wordOf e l + wordOf e r) from by
          rcases hab with h | h <;> rw [h] <;> simp
          · cases b.ev e <;> simp <;> omega
          · cases a.ev e <;> simp <;> omega]
        have m1 : ∀ X : Nat, ((a.ev e ^^ b.ev e).toNat + 2 * X) % 2 = (a.ev e ^^ b.ev e).toNat := fun X => by cases (a.ev e ^^ b.ev e) <;> simp <;> omega
        have m2 : ∀ X : Nat, ((a.ev e ^^ b.ev e).toNat + 2 * X) / 2 = X := fun X => by cases (a.ev e ^^ b.ev e) <;> simp <;> omega
        rw [Nat.mod_mul, m1, m2]
      cases ha : Bt.feq a .z with
      | true =>
        rw [ha] at h'
        obtain ⟨s, h1, h2⟩ := ih r _ hl' h'
        have := Bt.feq_eq a .z ha
        subst this
        exact ⟨b :: s, fun e => low (by simp [Bt.ev]) (.inl rfl) (h1 e), h2⟩
      | false =>
        rw [ha] at h'
        cases hb : Bt.feq b .z with
        | true =>
          rw [hb] at h'
          obtain ⟨s, h1, h2⟩ := ih r _ hl' h'
          have := Bt.feq_eq b .z hb
          subst this
          exact ⟨a :: s, fun e => low (by simp [Bt.ev]) (.inr rfl) (h1 e), h2⟩
        | false =>
          rw [hb] at h'
          change fLs idK _ κ = true at h'
          rw [fLs_eq idK_eq] at h'
          exact ⟨_, fun e => sumRest_word e hl, h'⟩

/-- A term's bits. -/
noncomputable def wordK (B : Nat) (s : Sy) (κ : List Bt → Bool) (other : Bool) : Bool := match s with
  | .w l => @Bool.rec (fun _ => Bool) (@Bool.rec (fun _ => Bool) other (fLs idK (padW B l) κ) (decide (l.length ≤ B))) (κ l) (Nat.beq l.length B)
  | .c (.ofNat m) => @Bool.rec (fun _ => Bool) other (fLs idK (bitsOf B m) κ) (Nat.blt m (2 ^ B))
  | _ => other
theorem wordK_ok {B : Nat} {s : Sy} {κ : List Bt → Bool} {other : Bool} (h : wordK B s κ other = true) : other = true ∨ ∃ l : List Bt, l.length = B ∧ (∀ (e : En) (k : IntKind), s.ev e k = (wordOf e.w l : Nat)) ∧ κ l = true := by
  unfold wordK at h
  split at h
  · rename_i l
    cases h1 : Nat.beq l.length B with
    | true => rw [h1] at h; exact .inr ⟨l, Nat.eq_of_beq_eq_true h1, fun e k => rfl, h⟩
    | false =>
      rw [h1] at h
      cases h2 : decide (l.length ≤ B) with
      | true =>
        rw [h2] at h
        change fLs idK _ κ = true at h
        rw [fLs_eq idK_eq] at h
        have := Sy.word_ok (B := B) (s := .w l) (l := padW B l) (by simp only [Sy.word]; rw [if_pos (of_decide_eq_true h2)])
        exact .inr ⟨_, this.1, this.2, h⟩
      | false => rw [h2] at h; exact .inl h
  · rename_i m
    cases h1 : Nat.blt m (2 ^ B) with
    | true =>
      rw [h1] at h
      change fLs idK _ κ = true at h
      rw [fLs_eq idK_eq] at h
      have hlt : m < 2 ^ B := by
        have : Nat.ble (m + 1) (2 ^ B) = true := h1
        exact Nat.le_of_ble_eq_true this
      have := Sy.word_ok (B := B) (s := .c (.ofNat m)) (l := bitsOf B m) (by simp only [Sy.word]; rw [if_pos hlt])
      exact .inr ⟨_, this.1, this.2, h⟩
    | false => rw [h1] at h; exact .inl h
  · exact .inl h

noncomputable def symWordK (op : BinOp) (k : IntKind) (l r : List Bt) (κ : V → Bool) (other : Bool) : Bool := match op with
  | .and => zipK andK l r fun s => vWK k s κ
  | .or => zipK orK l r fun s => vWK k s κ
  | .xor => zipK xorK l r fun s => vWK k s κ
  | .andNot => zipK andNotK l r fun s => vWK k s κ
  | .add => @Bool.rec (fun _ => Bool) (sumK l r fun s => vWK k s κ) (sumK r l fun s => vWK k s κ) (swapW l r)
  | .eql => @Bool.rec (fun _ => Bool) (@Bool.rec (fun _ => Bool) other (κ (.bool false)) (diffW l r)) (κ (.bool true)) (Bt.feqs l r)
  | .neq => @Bool.rec (fun _ => Bool) (@Bool.rec (fun _ => Bool) other (κ (.bool true)) (diffW l r)) (κ (.bool false)) (Bt.feqs l r)
  | op => match symWord op k l r with
    | some v => fVs v κ
    | none => other
theorem symWordK_ok {op : BinOp} {k : IntKind} (hk : k.signed = false) {l r : List Bt} (hl : l.length = k.bits) (hr : r.length = k.bits) {κ : V → Bool} {other : Bool} (h : symWordK op k l r κ other = true) :
    other = true ∨ ∃ v : V, (∀ e : En, arithV op k (wordOf e.w l : Nat) (wordOf e.w r : Nat) = some (v.inst e)) ∧ κ v = true := by
  have hlr := hl.trans hr.symm
  have lt1 : ∀ e, wordOf e l < 2 ^ k.bits := fun e => by have := wordOf_lt e l; rw [hl] at this; exact this
  have lt2 : ∀ e, wordOf e r < 2 ^ k.bits := fun e => by have := wordOf_lt e r; rw [hr] at this; exact this
  have rest : (match symWord op k l r with | some v => fVs v κ | none => other) = true → other = true ∨ ∃ v : V, (∀ e : En, arithV op k (wordOf e.w l : Nat) (wordOf e.w r : Nat) = some (v.inst e)) ∧ κ v = true := by
    intro h
    split at h
    · rename_i v hv
      rw [fVs_eq] at h
      exact .inr ⟨v, fun e => symWord_ok hk hl hr hv e, h⟩
    · exact .inl h
  cases op
  case and =>
    obtain ⟨s, h1, h2, h3⟩ := zipK_ok andK_ok l r _ hlr h
    obtain ⟨v, h4, h5⟩ := vWK_ok h3
    refine .inr ⟨v, fun e => ?_, h5⟩
    rw [arith_and hk (lt1 _) (lt2 _), h4, zip_word h1 (h2 e.w) (n := wordOf e.w l &&& wordOf e.w r) (fun i _ => by rw [Nat.testBit_and]) (by rw [hl]; exact Nat.lt_of_le_of_lt Nat.and_le_left (lt1 _))]
  case or =>
    obtain ⟨s, h1, h2, h3⟩ := zipK_ok orK_ok l r _ hlr h
    obtain ⟨v, h4, h5⟩ := vWK_ok h3
    refine .inr ⟨v, fun e => ?_, h5⟩
    rw [arith_or hk (lt1 _) (lt2 _), h4, zip_word h1 (h2 e.w) (n := wordOf e.w l ||| wordOf e.w r) (fun i _ => by rw [Nat.testBit_or]) (by rw [hl]; exact Nat.or_lt_two_pow (lt1 _) (lt2 _))]
  case xor =>
    obtain ⟨s, h1, h2, h3⟩ := zipK_ok xorK_ok l r _ hlr h
    obtain ⟨v, h4, h5⟩ := vWK_ok h3
    refine .inr ⟨v, fun e => ?_, h5⟩
    rw [arith_xor hk (lt1 _) (lt2 _), h4, zip_word h1 (h2 e.w) (n := wordOf e.w l ^^^ wordOf e.w r) (fun i _ => by rw [Nat.testBit_xor]) (by rw [hl]; exact Nat.xor_lt_two_pow (lt1 _) (lt2 _))]
  case andNot =>
    obtain ⟨s, h1, h2, h3⟩ := zipK_ok andNotK_ok l r _ hlr h
    obtain ⟨v, h4, h5⟩ := vWK_ok h3
    refine .inr ⟨v, fun e => ?_, h5⟩
    have hn := word_not e.w r
    rw [hr] at hn
    have hx : 2 ^ k.bits - 1 - wordOf e.w r = wordOf e.w (r.map mkNot) := by omega
    rw [arith_andNot hk (lt1 _) (lt2 _), h4, zip_word (g := fun a b => a && !b) h1 (h2 e.w) (n := wordOf e.w l &&& (2 ^ k.bits - 1 - wordOf e.w r)) (fun i hi => by
      rw [Nat.testBit_and, hx, wordOf_testBit e.w (r.map mkNot), wordOf_testBit e.w r, List.getElem?_map]
      have : i < r.length := by omega
      simp [this, mkNot_ev]) (by rw [hl]; exact Nat.lt_of_le_of_lt Nat.and_le_left (lt1 _))]
  case add =>
    have h' : @Bool.rec (fun _ => Bool) (sumK l r fun s => vWK k s κ) (sumK r l fun s => vWK k s κ) (swapW l r) = true := h
    cases hs : swapW l r with
    | false =>
      rw [hs] at h'
      obtain ⟨s, h1, h3⟩ := sumK_ok l r _ hlr h'
      obtain ⟨v, h4, h5⟩ := vWK_ok h3
      refine .inr ⟨v, fun e => ?_, h5⟩
      rw [arith_addN hk, h4, h1, hl]
    | true =>
      rw [hs] at h'
      obtain ⟨s, h1, h3⟩ := sumK_ok r l _ hlr.symm h'
      obtain ⟨v, h4, h5⟩ := vWK_ok h3
      refine .inr ⟨v, fun e => ?_, h5⟩
      rw [arith_addN hk, h4, h1, hr, Nat.add_comm]
  case eql =>
    have h' : @Bool.rec (fun _ => Bool) (@Bool.rec (fun _ => Bool) other (κ (.bool false)) (diffW l r)) (κ (.bool true)) (Bt.feqs l r) = true := h
    cases hf : Bt.feqs l r with
    | true =>
      rw [hf] at h'
      refine .inr ⟨_, fun e => ?_, h'⟩
      rw [Bt.feqs_eq _ _ hf]; simp [arithV, V.inst]
    | false =>
      rw [hf] at h'
      cases hd : diffW l r with
      | true =>
        rw [hd] at h'
        refine .inr ⟨_, fun e => ?_, h'⟩
        have := diffW_ne e.w _ _ hd
        simp [arithV, V.inst]; omega
      | false => rw [hd] at h'; exact .inl h'
  case neq =>
    have h' : @Bool.rec (fun _ => Bool) (@Bool.rec (fun _ => Bool) other (κ (.bool true)) (diffW l r)) (κ (.bool false)) (Bt.feqs l r) = true := h
    cases hf : Bt.feqs l r with
    | true =>
      rw [hf] at h'
      refine .inr ⟨_, fun e => ?_, h'⟩
      rw [Bt.feqs_eq _ _ hf]; simp [arithV, V.inst]
    | false =>
      rw [hf] at h'
      cases hd : diffW l r with
      | true =>
        rw [hd] at h'
        refine .inr ⟨_, fun e => ?_, h'⟩
        have := diffW_ne e.w _ _ hd
        simp [arithV, V.inst]; omega
      | false => rw [hd] at h'; exact .inl h'
  all_goals exact rest h

def findP (i : Nat) (n : Int) : List (Nat × Nat × Int) → Option Nat
  | [] => none
  | p :: l => if p.2.1 = i ∧ p.2.2 = n then some p.1 else findP i n l
theorem findP_mem {i : Nat} {n : Int} : ∀ {l : List (Nat × Nat × Int)} {j : Nat}, findP i n l = some j → (j, i, n) ∈ l
  | p :: l, j, h => by
    simp only [findP] at h
    split at h
    · rename_i hc
      obtain ⟨a, b, c⟩ := p
      simp at h hc
      obtain ⟨rfl, rfl⟩ := hc
      subst h
      exact List.mem_cons_self
    · exact List.mem_cons_of_mem _ (findP_mem h)
/-- The rest of an unknown, if it has a name of its own. -/
def remOf (op : BinOp) (k : IntKind) (a b : Sy) (iv : Iv) : Option V := match op, a, b with
  | .rem, .lin n0 [(c, i)], .c n => match xget iv.xs i, findP i n iv.ps with
    | some f, some j => if n0 = 0 ∧ c = 1 ∧ 0 ≤ f.lo ∧ f.hi ≤ k.max ∧ 0 < n then some (.sym k (.lin 0 [(1, j)])) else none
    | _, _ => none
  | _, _, _ => none
theorem remOf_ok {op : BinOp} {k : IntKind} {a b : Sy} {iv : Iv} {v : V} (h : remOf op k a b iv = some v) {e : En} (he : iv.ok e) : arithV op k (a.ev e k) (b.ev e k) = some (v.inst e) := by
  unfold remOf at h
  split at h
  · rename_i n0 c i n
    split at h
    · rename_i f j hf hj
      split at h
      · rename_i hc
        obtain ⟨rfl, rfl, h1, h2, h3⟩ := hc
        simp at h; subst h
        obtain ⟨x1, x2, _⟩ := he.1 _ (xget_mem hf)
        have hp := he.2.2 _ (findP_mem hj)
        simp only at x1 x2 hp
        have hm : k.min ≤ 0 := by cases k <;> simp [IntKind.min, IntKind.signed, IntKind.bits]
        have hx : k.wrap (0 + linSum e.x [(1, i)]) = e.x i := by
          simp only [linSum, Int.zero_add, Int.one_mul, Int.add_zero]
          exact wrap_in k (by omega) (by omega)
        have hm1 := Int.emod_nonneg (e.x i) (show n ≠ 0 by omega)
        have hm2 : e.x i % n ≤ e.x i := by
          have h4 := Int.mul_ediv_add_emod (e.x i) n
          have h5 : 0 ≤ n * (e.x i / n) := Int.mul_nonneg (by omega) (Int.ediv_nonneg (by omega) (by omega))
          omega
        have hy : k.wrap (0 + linSum e.x [(1, j)]) = e.x i % n := by
          simp only [linSum, Int.zero_add, Int.one_mul, Int.add_zero, hp]
          exact wrap_in k (by omega) (by omega)
        simp only [Sy.ev, V.inst, hx, hy, arithV]
        rw [if_neg (by omega), Int.tmod_eq_emod_of_nonneg (by omega)]
      · simp at h
    · simp at h
  · simp at h
noncomputable def symSlow (op : BinOp) (k : IntKind) (κ : KI) (a b : Sy) (iv : Iv) : Bool := match remOf op k a b iv with
  | some v => fVs v fun v => κ v iv
  | none => match symPure op k a b with
    | some v => fVs v fun v => κ v iv
    | none => match b with
      | .c n => symCmp iv k op a n κ
      | b => match a with
        | .c n => symCmp iv k (flipOp op) b n κ
        | a => match op with
          | .eql => fIf (Sy.same 200 a b) (κ (.bool true) iv)
          | .neq => fIf (Sy.same 200 a b) (κ (.bool false) iv)
          | _ => false
theorem symSlow_true {op : BinOp} {k : IntKind} {κ : KI} {a b : Sy} {iv : Iv} (h : symSlow op k κ a b iv = true) {e : En} (he : iv.ok e) : ∃ v iv', iv'.ok e ∧ arithV op k (a.ev e k) (b.ev e k) = some (v.inst e) ∧ κ v iv' = true := by
  unfold symSlow at h
  split at h
  · rename_i v hv
    rw [fVs_eq] at h
    exact ⟨v, iv, he, remOf_ok hv he, h⟩
  · split at h
    · rename_i v hv
      rw [fVs_eq] at h
      exact ⟨v, iv, he, symPure_ok hv e, h⟩
    · split at h
      · rename_i n _
        obtain ⟨v, iv', h1, h2, _, h3⟩ := symCmp_true h he
        exact ⟨v, iv', h1, h2, h3⟩
      · split at h
        · rename_i n _ _
          obtain ⟨v, iv', h1, _, h2, h3⟩ := symCmp_true h he
          refine ⟨v, iv', h1, ?_, h3⟩
          have : flipOp (flipOp op) = op := by cases op <;> rfl
          rw [this] at h2
          exact h2
        · split at h
          · obtain ⟨h1, h2⟩ := fIf_true h
            refine ⟨_, iv, he, ?_, h2⟩
            rw [Sy.same_eq _ _ _ h1]; simp [arithV, V.inst]
          · obtain ⟨h1, h2⟩ := fIf_true h
            refine ⟨_, iv, he, ?_, h2⟩
            rw [Sy.same_eq _ _ _ h1]; simp [arithV, V.inst]
          · simp at h
/-- One of them is made of bits: fast. -/
def bitsy : Sy → Sy → Bool
  | .w _, .w _ | .w _, .c _ | .c _, .w _ => true
  | _, _ => false
noncomputable def symGo (op : BinOp) (k : IntKind) (κ : KI) (a b : Sy) (iv : Iv) : Bool :=
  @Bool.rec (fun _ => Bool) (symSlow op k κ a b iv) (@Bool.rec (fun _ => Bool)
    (wordK k.bits a (fun l => wordK k.bits b (fun r => symWordK op k l r (fun v => κ v iv) (symSlow op k κ a b iv)) (symSlow op k κ a b iv)) (symSlow op k κ a b iv)) (symSlow op k κ a b iv) k.signed) (bitsy a b)
theorem symGo_true {op : BinOp} {k : IntKind} {κ : KI} {a b : Sy} {iv : Iv} (h : symGo op k κ a b iv = true) {e : En} (he : iv.ok e) : ∃ v iv', iv'.ok e ∧ arithV op k (a.ev e k) (b.ev e k) = some (v.inst e) ∧ κ v iv' = true := by
  unfold symGo at h
  cases hb : bitsy a b with
  | false => rw [hb] at h; exact symSlow_true h he
  | true =>
    rw [hb] at h
    cases hk : k.signed with
    | true => rw [hk] at h; exact symSlow_true h he
    | false =>
      rw [hk] at h
      rcases wordK_ok h with h1 | ⟨l, hl, hl2, h1⟩
      · exact symSlow_true h1 he
      · rcases wordK_ok h1 with h2 | ⟨r, hr, hr2, h2⟩
        · exact symSlow_true h2 he
        · rcases symWordK_ok hk hl hr h2 with h3 | ⟨v, h3, h4⟩
          · exact symSlow_true h3 he
          · exact ⟨v, iv, he, by rw [hl2 e k, hr2 e k]; exact h3 e, h4⟩
noncomputable def symArith (op : BinOp) (k : IntKind) (a b : Sy) (iv : Iv) (κ : KI) : Bool :=
  @Bool.rec (fun _ => Bool) (@Bool.rec (fun _ => Bool) (symGo op k κ a b iv) (askPt iv k b fun m iv => symGo op k κ a (.c m) iv) (wantsPt iv op k b))
    (askPt iv k a fun n iv => @Bool.rec (fun _ => Bool) (symGo op k κ (.c n) b iv) (askPt iv k b fun m iv => symGo op k κ (.c n) (.c m) iv) (wantsPt iv op k b)) (wantsPt iv op k a)
theorem symArith_true {op : BinOp} {k : IntKind} {a b : Sy} {iv : Iv} {κ : KI} (h : symArith op k a b iv κ = true) {e : En} (he : iv.ok e) : ∃ v iv', iv'.ok e ∧ arithV op k (a.ev e k) (b.ev e k) = some (v.inst e) ∧ κ v iv' = true := by
  have second : ∀ {a : Sy} {iv : Iv}, iv.ok e → @Bool.rec (fun _ => Bool) (symGo op k κ a b iv) (askPt iv k b fun m iv => symGo op k κ a (.c m) iv) (wantsPt iv op k b) = true → ∃ v iv', iv'.ok e ∧ arithV op k (a.ev e k) (b.ev e k) = some (v.inst e) ∧ κ v iv' = true := by
    intro a iv he h
    cases hw : wantsPt iv op k b with
    | false => rw [hw] at h; exact symGo_true h he
    | true =>
      rw [hw] at h
      obtain ⟨iv1, he1, h1⟩ := askPt_true h he
      exact symGo_true h1 he1
  unfold symArith at h
  cases hw : wantsPt iv op k a with
  | false => rw [hw] at h; exact second he h
  | true =>
    rw [hw] at h
    obtain ⟨iv1, he1, h1⟩ := askPt_true h he
    exact second (a := .c (a.ev e k)) he1 h1

noncomputable def symShl (op : BinOp) (k : IntKind) (a : Sy) (n : Int) (iv : Iv) (κ : KI) : Bool := match n with
  | .ofNat n => match a with
    | .c m => fopt (shiftV op k m (.ofNat n)) fun v => fVs v fun v => κ v iv
    | a => @Bool.rec (fun _ => Bool) (fopt (symShift op k a n) fun v => fVs v fun v => κ v iv) (askPt iv k a fun m iv => fopt (shiftV op k m (.ofNat n)) fun v => fVs v fun v => κ v iv) (wantsPt iv .quo k a)
  | _ => false
theorem symShl_true {op : BinOp} {k : IntKind} {a : Sy} {n : Int} {iv : Iv} {κ : KI} (h : symShl op k a n iv κ = true) {e : En} (he : iv.ok e) : ∃ v iv', iv'.ok e ∧ shiftV op k (a.ev e k) n = some (v.inst e) ∧ κ v iv' = true := by
  unfold symShl at h
  split at h
  · rename_i n
    split at h
    · rename_i m
      obtain ⟨v, h1, h2⟩ := fopt_true h
      rw [fVs_eq] at h2
      exact ⟨v, iv, he, by rw [shiftV_inst e h1]; exact h1, h2⟩
    · cases hw : wantsPt iv .quo k a with
      | false =>
        rw [hw] at h
        obtain ⟨v, h1, h2⟩ := fopt_true h
        rw [fVs_eq] at h2
        exact ⟨v, iv, he, symShift_ok h1 e, h2⟩
      | true =>
        rw [hw] at h
        obtain ⟨iv1, he1, h1⟩ := askPt_true h he
        obtain ⟨v, h1, h2⟩ := fopt_true h1
        rw [fVs_eq] at h2
        exact ⟨v, iv1, he1, by rw [shiftV_inst e h1]; exact h1, h2⟩
  · simp at h

noncomputable def symMax (mx : Bool) (k : IntKind) (a b : Sy) (iv : Iv) (κ : KI) : Bool := match b with
  | .c n => @Bool.rec (fun _ => Bool) (askLe iv k a n fun r iv => @Bool.rec (fun _ => Bool) (κ (.int k n) iv) (κ (.sym k a) iv) r) (fI (n - 1) fun m => askLe iv k a m fun r iv => @Bool.rec (fun _ => Bool) (κ (.sym k a) iv) (κ (.int k n) iv) r) mx
  | b => match a with
    | .c n => @Bool.rec (fun _ => Bool) (fI (n - 1) fun m => askLe iv k b m fun r iv => @Bool.rec (fun _ => Bool) (κ (.int k n) iv) (κ (.sym k b) iv) r) (askLe iv k b n fun r iv => @Bool.rec (fun _ => Bool) (κ (.sym k b) iv) (κ (.int k n) iv) r) mx
    | _ => false
def mx2 (mx : Bool) (a b : Int) : Int := if mx then (if b > a then b else a) else (if b < a then b else a)
theorem mx2_r {mx : Bool} {a b : Int} (h : if mx then a ≤ b else b ≤ a) : mx2 mx a b = b := by
  unfold mx2
  cases mx <;> simp at h ⊢ <;> omega
theorem mx2_l {mx : Bool} {a b : Int} (h : if mx then b ≤ a else a ≤ b) : mx2 mx a b = a := by
  unfold mx2
  cases mx <;> simp at h ⊢ <;> omega
theorem symMax_true {mx : Bool} {k : IntKind} {a b : Sy} {iv : Iv} {κ : KI} (h : symMax mx k a b iv κ = true) {e : En} (he : iv.ok e) :
    ∃ v iv', iv'.ok e ∧ V.int k (mx2 mx (a.ev e k) (b.ev e k)) = v.inst e ∧ κ v iv' = true := by
  unfold symMax at h
  split at h
  · rename_i n
    show ∃ v iv', iv'.ok e ∧ V.int k (mx2 mx (a.ev e k) n) = v.inst e ∧ κ v iv' = true
    cases mx with
    | false =>
      obtain ⟨iv1, he1, h1⟩ := askLe_true h he
      by_cases hle : a.ev e k ≤ n
      · rw [decide_eq_true hle] at h1
        exact ⟨_, iv1, he1, by rw [mx2_l (by simpa using hle)]; rfl, h1⟩
      · rw [decide_eq_false hle] at h1
        exact ⟨_, iv1, he1, by rw [mx2_r (by simp; omega)]; rfl, h1⟩
    | true =>
      change fI _ _ = true at h
      rw [fI_eq] at h
      obtain ⟨iv1, he1, h1⟩ := askLe_true h he
      by_cases hle : a.ev e k ≤ n - 1
      · rw [decide_eq_true hle] at h1
        exact ⟨_, iv1, he1, by rw [mx2_r (by simp; omega)]; rfl, h1⟩
      · rw [decide_eq_false hle] at h1
        exact ⟨_, iv1, he1, by rw [mx2_l (by simp; omega)]; rfl, h1⟩
  · split at h
    · rename_i n
      show ∃ v iv', iv'.ok e ∧ V.int k (mx2 mx n (b.ev e k)) = v.inst e ∧ κ v iv' = true
      cases mx with
      | false =>
        change fI _ _ = true at h
        rw [fI_eq] at h
        obtain ⟨iv1, he1, h1⟩ := askLe_true h he
        by_cases hle : b.ev e k ≤ n - 1
        · rw [decide_eq_true hle] at h1
          exact ⟨_, iv1, he1, by rw [mx2_r (by simp; omega)]; rfl, h1⟩
        · rw [decide_eq_false hle] at h1
          exact ⟨_, iv1, he1, by rw [mx2_l (by simp; omega)]; rfl, h1⟩
      | true =>
        obtain ⟨iv1, he1, h1⟩ := askLe_true h he
        by_cases hle : b.ev e k ≤ n
        · rw [decide_eq_true hle] at h1
          exact ⟨_, iv1, he1, by rw [mx2_l (by simpa using hle)]; rfl, h1⟩
        · rw [decide_eq_false hle] at h1
          exact ⟨_, iv1, he1, by rw [mx2_r (by simp; omega)]; rfl, h1⟩
    · simp at h
end Go.Abs
