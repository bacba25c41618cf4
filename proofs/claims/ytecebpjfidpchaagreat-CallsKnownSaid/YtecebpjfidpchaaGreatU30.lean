/- PART of the proof of CallsKnown: The evaluator for Lean's kernel: what a value is. No condition. -/
import Derived.Test.YtecebpjfidpchaaGreatU29
/-! The evaluator for Lean's kernel: what a value is. -/
namespace Go.Abs
set_option linter.unusedVariables false

noncomputable def onOpd (t : T V) (q : Opd) (k : V → Bool) : Bool :=
  @Opd.rec (fun _ => Bool) (fun i => @Option.rec V (fun _ => Bool) (k .any) k (fget t i)) k q
theorem onOpd_eq (t : T V) (q : Opd) (k : V → Bool) : onOpd t q k = k (ev t q) := by
  cases q with
  | t i =>
    show @Option.rec V (fun _ => Bool) (k .any) k (fget t i) = _
    rw [fget_eq]
    simp only [ev]
    cases t.get i <;> rfl
  | c v => rfl

/-- An integer, known or not. -/
noncomputable def onInt (v : V) (k : IntKind → Int → Bool) (ks : IntKind → Sy → Bool) : Bool :=
  @V.rec (fun _ => Bool) (fun _ => Unit) false (fun _ => false) k (fun _ => false) (fun _ _ => false) false (fun _ _ _ _ _ => false) false (fun _ => false) false (fun _ _ _ _ _ => false) false (fun _ _ _ => false) false (fun _ _ => false) (fun _ _ => false) ks false () (fun _ _ _ _ => ()) v
theorem onInt_true {v : V} {k : IntKind → Int → Bool} {ks : IntKind → Sy → Bool} (h : onInt v k ks = true) : (∃ d n, v = .int d n ∧ k d n = true) ∨ ∃ d s, v = .sym d s ∧ ks d s = true := by
  cases v with
  | int d n => exact .inl ⟨d, n, rfl, h⟩
  | sym d s => exact .inr ⟨d, s, rfl, h⟩
  | _ => exact absurd h (by intro h; cases h)

noncomputable def onBool (v : V) (k : Bool → Bool) : Bool :=
  @V.rec (fun _ => Bool) (fun _ => Unit) false k (fun _ _ => false) (fun _ => false) (fun _ _ => false) false (fun _ _ _ _ _ => false) false (fun _ => false) false (fun _ _ _ _ _ => false) false (fun _ _ _ => false) false (fun _ _ => false) (fun _ _ => false) (fun _ _ => false) false () (fun _ _ _ _ => ()) v
theorem onBool_true {v : V} {k : Bool → Bool} (h : onBool v k = true) : ∃ b, v = .bool b ∧ k b = true := by
  cases v with
  | bool b => exact ⟨b, rfl, h⟩
  | _ => exact absurd h (by intro h; cases h)

noncomputable def onPtr (v : V) (k : Nat → Nat → Bool) : Bool :=
  @V.rec (fun _ => Bool) (fun _ => Unit) false (fun _ => false) (fun _ _ => false) (fun _ => false) k false (fun _ _ _ _ _ => false) false (fun _ => false) false (fun _ _ _ _ _ => false) false (fun _ _ _ => false) false (fun _ _ => false) (fun _ _ => false) (fun _ _ => false) false () (fun _ _ _ _ => ()) v
theorem onPtr_true {v : V} {k : Nat → Nat → Bool} (h : onPtr v k = true) : ∃ b o, v = .ptr b o ∧ k b o = true := by
  cases v with
  | ptr b o => exact ⟨b, o, rfl, h⟩
  | _ => exact absurd h (by intro h; cases h)

noncomputable def onSlice (v : V) (k : Nat → Nat → Nat → Nat → Nat → Bool) : Bool :=
  @V.rec (fun _ => Bool) (fun _ => Unit) false (fun _ => false) (fun _ _ => false) (fun _ => false) (fun _ _ => false) false k false (fun _ => false) false (fun _ _ _ _ _ => false) false (fun _ _ _ => false) false (fun _ _ => false) (fun _ _ => false) (fun _ _ => false) false () (fun _ _ _ _ => ()) v
theorem onSlice_true {v : V} {k : Nat → Nat → Nat → Nat → Nat → Bool} (h : onSlice v k = true) : ∃ b o l c z, v = .slice b o l c z ∧ k b o l c z = true := by
  cases v with
  | slice b o l c z => exact ⟨b, o, l, c, z, rfl, h⟩
  | _ => exact absurd h (by intro h; cases h)

noncomputable def onAgg (v : V) (k : List V → Bool) : Bool :=
  @V.rec (fun _ => Bool) (fun _ => Unit) false (fun _ => false) (fun _ _ => false) (fun _ => false) (fun _ _ => false) false (fun _ _ _ _ _ => false) false (fun _ => false) false (fun _ _ _ _ _ => false) false (fun _ _ _ => false) false (fun l _ => k l) (fun _ _ => false) (fun _ _ => false) false () (fun _ _ _ _ => ()) v
theorem onAgg_true {v : V} {k : List V → Bool} (h : onAgg v k = true) : ∃ l, v = .agg l ∧ k l = true := by
  cases v with
  | agg l => exact ⟨l, rfl, h⟩
  | _ => exact absurd h (by intro h; cases h)

noncomputable def onTup (v : V) (k : List V → Bool) : Bool :=
  @V.rec (fun _ => Bool) (fun _ => Unit) false (fun _ => false) (fun _ _ => false) (fun _ => false) (fun _ _ => false) false (fun _ _ _ _ _ => false) false (fun _ => false) false (fun _ _ _ _ _ => false) false (fun _ _ _ => false) false (fun _ _ => false) (fun l _ => k l) (fun _ _ => false) false () (fun _ _ _ _ => ()) v
theorem onTup_true {v : V} {k : List V → Bool} (h : onTup v k = true) : ∃ l, v = .tup l ∧ k l = true := by
  cases v with
  | tup l => exact ⟨l, rfl, h⟩
  | _ => exact absurd h (by intro h; cases h)

/-! ### Integers -/
noncomputable def kidx (k : IntKind) : Nat := @IntKind.rec (fun _ => Nat) 0 1 2 3 4 5 6 7 k
theorem kidx_inj {a b : IntKind} (h : Nat.beq (kidx a) (kidx b) = true) : a = b := by
  cases a <;> cases b <;> first | rfl | (exact absurd h (by decide))

/-- A number cut to so many bits ('p': 2 to the bits). -/
noncomputable def cutU (p : Nat) (n : Int) : Nat := @Int.rec (fun _ => Nat) (fun m => Nat.mod m p) (fun m => Nat.sub p (Nat.succ (Nat.mod m p))) n
theorem cutU_eq (p : Nat) (hp : 0 < p) (n : Int) : ((cutU p n : Nat) : Int) = n % (p : Int) := by
  cases n with
  | ofNat m => show ((m % p : Nat) : Int) = _; simp
  | negSucc m =>
    show ((p - (m % p + 1) : Nat) : Int) = _
    have h1 : m % p < p := Nat.mod_lt _ hp
    rw [Int.negSucc_emod _ (by omega)]
    omega
noncomputable def cutS (p h : Nat) (n : Int) (k : Int → Bool) : Bool := fN (cutU p n) fun m => @Bool.rec (fun _ => Bool) (k (.ofNat m)) (fN (Nat.sub p (Nat.succ m)) fun j => k (.negSucc j)) (Nat.ble h m)
noncomputable def cutN (p : Nat) (n : Int) (k : Int → Bool) : Bool := fN (cutU p n) fun m => k (.ofNat m)
noncomputable def fwrap (d : IntKind) : Int → (Int → Bool) → Bool :=
  @IntKind.rec (fun _ => Int → (Int → Bool) → Bool) (cutS 256 128) (cutS 65536 32768) (cutS 4294967296 2147483648) (cutS 18446744073709551616 9223372036854775808) (cutN 256) (cutN 65536) (cutN 4294967296) (cutN 18446744073709551616) d
theorem cutN_eq (p : Nat) (hp : 0 < p) (n : Int) (k : Int → Bool) : cutN p n k = k (n % (p : Int)) := by
  simp only [cutN, fN_eq]
  rw [← cutU_eq p hp n]; rfl
theorem cutS_eq (p h : Nat) (hp : 0 < p) (hh : h ≤ p) (n : Int) (k : Int → Bool) : cutS p h n k = k (if n % (p : Int) ≥ (h : Int) then n % (p : Int) - (p : Int) else n % (p : Int)) := by
  simp only [cutS, fN_eq]
  have e := cutU_eq p hp n
  have hlt : cutU p n < p := by
    have := Int.emod_lt_of_pos n (show (0 : Int) < (p : Int) by omega)
    omega
  rw [← e]
  cases hb : Nat.ble h (cutU p n) with
  | true =>
    have := Nat.le_of_ble_eq_true hb
    rw [if_pos (by omega)]
    show k (.negSucc (p - (cutU p n + 1))) = _
    congr 1
    omega
  | false =>
    have : ¬ h ≤ cutU p n := fun h' => by rw [Nat.ble_eq_true_of_le h'] at hb; cases hb
    rw [if_neg (by omega)]; rfl
theorem fwrap_eq (d : IntKind) (n : Int) (k : Int → Bool) : fwrap d n k = k (d.wrap n) := by
  cases d
  case i8 => show cutS 256 128 n k = _; rw [cutS_eq _ _ (by omega) (by omega)]; simp [IntKind.wrap, IntKind.bits, IntKind.signed]
  case i16 => show cutS 65536 32768 n k = _; rw [cutS_eq _ _ (by omega) (by omega)]; simp [IntKind.wrap, IntKind.bits, IntKind.signed]
  case i32 => show cutS 4294967296 2147483648 n k = _; rw [cutS_eq _ _ (by omega) (by omega)]; simp [IntKind.wrap, IntKind.bits, IntKind.signed]
  case i64 => show cutS 18446744073709551616 9223372036854775808 n k = _; rw [cutS_eq _ _ (by omega) (by omega)]; simp [IntKind.wrap, IntKind.bits, IntKind.signed]
  case u8 => show cutN 256 n k = _; rw [cutN_eq _ (by omega)]; simp [IntKind.wrap, IntKind.bits, IntKind.signed]
  case u16 => show cutN 65536 n k = _; rw [cutN_eq _ (by omega)]; simp [IntKind.wrap, IntKind.bits, IntKind.signed]
  case u32 => show cutN 4294967296 n k = _; rw [cutN_eq _ (by omega)]; simp [IntKind.wrap, IntKind.bits, IntKind.signed]
  case u64 => show cutN 18446744073709551616 n k = _; rw [cutN_eq _ (by omega)]; simp [IntKind.wrap, IntKind.bits, IntKind.signed]

noncomputable def ieq (a b : Int) : Bool := @Int.rec (fun _ => Bool) (fun m => @Int.rec (fun _ => Bool) (fun n => Nat.beq m n) (fun _ => false) b) (fun m => @Int.rec (fun _ => Bool) (fun _ => false) (fun n => Nat.beq m n) b) a
theorem ieq_eq (a b : Int) : ieq a b = (a == b) := by
  have e : ∀ m n : Nat, Nat.beq m n = decide (m = n) := fun m n => by
    cases h : Nat.beq m n with
    | true => simp [Nat.eq_of_beq_eq_true h]
    | false => simp [Nat.ne_of_beq_eq_false h]
  rw [Bool.eq_iff_iff, beq_iff_eq]
  cases a with
  | ofNat m =>
    cases b with
    | ofNat n => show Nat.beq m n = true ↔ _; rw [e]; simp; omega
    | negSucc n => show false = true ↔ _; simp
  | negSucc m =>
    cases b with
    | ofNat n => show false = true ↔ _; simp
    | negSucc n => show Nat.beq m n = true ↔ _; rw [e]; simp
noncomputable def ile (a b : Int) : Bool := @Int.rec (fun _ => Bool) (fun m => @Int.rec (fun _ => Bool) (fun n => Nat.ble m n) (fun _ => false) b) (fun m => @Int.rec (fun _ => Bool) (fun _ => true) (fun n => Nat.ble n m) b) a
theorem ile_eq (a b : Int) : ile a b = decide (a ≤ b) := by
  have e : ∀ m n : Nat, Nat.ble m n = decide (m ≤ n) := fun m n => by
    cases h : Nat.ble m n with
    | true => simp [Nat.le_of_ble_eq_true h]
    | false =>
      have : ¬ m ≤ n := fun h' => by rw [Nat.ble_eq_true_of_le h'] at h; cases h
      simp [this]
  cases a <;> cases b <;> simp [ile, e] <;> omega
end Go.Abs
