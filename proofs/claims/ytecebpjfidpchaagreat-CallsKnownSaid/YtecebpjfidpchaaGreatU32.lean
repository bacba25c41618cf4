/- PART of the proof of CallsKnown: The evaluator for Lean's kernel: light operations, one by one. No condition. -/
import Derived.Test.YtecebpjfidpchaaGreatU31
/-! The evaluator for Lean's kernel: light operations, one by one. -/
namespace Go.Abs
set_option linter.unusedVariables false

/-! ### Arithmetic -/
noncomputable def fadd (d : IntKind) (a b : Int) (k : V → Bool) : Bool := fwrap d (Int.add a b) fun n => k (.int d n)
noncomputable def fsub (d : IntKind) (a b : Int) (k : V → Bool) : Bool := fwrap d (Int.sub a b) fun n => k (.int d n)
noncomputable def fmul (d : IntKind) (a b : Int) (k : V → Bool) : Bool := fwrap d (Int.mul a b) fun n => k (.int d n)
noncomputable def fbit (op : BinOp) (f : Nat → Nat → Nat) (d : IntKind) (a b : Int) (k : V → Bool) : Bool := fopt (arithV op d a b) fun v => fVs v k
noncomputable def fcmp (r : Bool) (k : V → Bool) : Bool := @Bool.rec (fun _ => Bool) (k (.bool false)) (k (.bool true)) r
theorem fcmp_eq (r : Bool) (k : V → Bool) : fcmp r k = k (.bool r) := by cases r <;> rfl
noncomputable def fother (op : BinOp) (d : IntKind) (a b : Int) (k : V → Bool) : Bool := fopt (arithV op d a b) fun v => fVs v k
noncomputable def feql (d : IntKind) (a b : Int) (k : V → Bool) : Bool := fcmp (ieq a b) k
noncomputable def fneq (d : IntKind) (a b : Int) (k : V → Bool) : Bool := @Bool.rec (fun _ => Bool) (k (.bool true)) (k (.bool false)) (ieq a b)
noncomputable def flss (d : IntKind) (a b : Int) (k : V → Bool) : Bool := @Bool.rec (fun _ => Bool) (k (.bool true)) (k (.bool false)) (ile b a)
noncomputable def fgtr (d : IntKind) (a b : Int) (k : V → Bool) : Bool := @Bool.rec (fun _ => Bool) (k (.bool true)) (k (.bool false)) (ile a b)
noncomputable def fleq (d : IntKind) (a b : Int) (k : V → Bool) : Bool := fcmp (ile a b) k
noncomputable def fgeq (d : IntKind) (a b : Int) (k : V → Bool) : Bool := fcmp (ile b a) k

noncomputable def farith (op : BinOp) : IntKind → Int → Int → (V → Bool) → Bool :=
  match op with
  | .add => fadd
  | .sub => fsub
  | .mul => fmul
  | .eql => feql
  | .neq => fneq
  | .lss => flss
  | .leq => fleq
  | .gtr => fgtr
  | .geq => fgeq
  | op => fother op
theorem farith_true {op : BinOp} {d : IntKind} {a b : Int} {k : V → Bool} (h : farith op d a b k = true) : ∃ v, arithV op d a b = some v ∧ k v = true := by
  have other : fother op d a b k = true → ∃ v, arithV op d a b = some v ∧ k v = true := by
    intro h
    obtain ⟨v, h1, h2⟩ := fopt_true h
    rw [fVs_eq] at h2
    exact ⟨v, h1, h2⟩
  have neg : ∀ r : Bool, (@Bool.rec (fun _ => Bool) (k (.bool true)) (k (.bool false)) r) = k (.bool !r) := fun r => by cases r <;> rfl
  cases op
  case add => change fadd d a b k = true at h; simp only [fadd, fwrap_eq] at h; exact ⟨_, rfl, h⟩
  case sub => change fsub d a b k = true at h; simp only [fsub, fwrap_eq] at h; exact ⟨_, rfl, h⟩
  case mul => change fmul d a b k = true at h; simp only [fmul, fwrap_eq] at h; exact ⟨_, rfl, h⟩
  case eql => change feql d a b k = true at h; simp only [feql, fcmp_eq, ieq_eq] at h; exact ⟨_, rfl, h⟩
  case neq => change fneq d a b k = true at h; simp only [fneq, neg, ieq_eq] at h; exact ⟨_, rfl, h⟩
  case lss =>
    change flss d a b k = true at h
    simp only [flss, neg, ile_eq] at h
    refine ⟨_, rfl, ?_⟩
    rw [show decide (a < b) = !decide (b ≤ a) from by rw [← decide_not, decide_eq_decide]; omega]
    exact h
  case gtr =>
    change fgtr d a b k = true at h
    simp only [fgtr, neg, ile_eq] at h
    refine ⟨_, rfl, ?_⟩
    rw [show decide (a > b) = !decide (a ≤ b) from by rw [← decide_not, decide_eq_decide]; omega]
    exact h
  case leq => change fleq d a b k = true at h; simp only [fleq, fcmp_eq, ile_eq] at h; exact ⟨_, rfl, h⟩
  case geq => change fgeq d a b k = true at h; simp only [fgeq, fcmp_eq, ile_eq] at h; exact ⟨_, rfl, h⟩
  all_goals exact other h

/-! ### One by one -/
noncomputable def sMov (x : Opd) (t : T V) (iv : Iv) (k : KI) : Bool := onOpd t x fun v => k v iv
noncomputable def sPick (c a b : Opd) (t : T V) (iv : Iv) (k : KI) : Bool := onOpd t c fun c => onBool c fun r => @Bool.rec (fun _ => Bool) (onOpd t b fun v => k v iv) (onOpd t a fun v => k v iv) r
noncomputable def sArith (op : BinOp) (x y : Opd) (t : T V) (iv : Iv) (k : KI) : Bool := onOpd t x fun x => onOpd t y fun y => onInt x
  (fun d a => onInt y (fun e b => fIf (Nat.beq (kidx d) (kidx e)) (farith op d a b fun v => k v iv)) (fun e r => fIf (Nat.beq (kidx d) (kidx e)) (symArith op d (.c a) r iv k)))
  (fun d s => onInt y (fun e b => fIf (Nat.beq (kidx d) (kidx e)) (symArith op d s (.c b) iv k)) (fun e r => fIf (Nat.beq (kidx d) (kidx e)) (symArith op d s r iv k)))
noncomputable def sShift (op : BinOp) (x y : Opd) (t : T V) (iv : Iv) (k : KI) : Bool := onOpd t x fun x => onOpd t y fun y => onInt x
  (fun d a => onInt y (fun _ b => fopt (shiftV op d a b) fun v => fVs v fun v => k v iv) (fun e r => askPt iv e r fun n iv => symShl op d (.c a) n iv k))
  (fun d s => onInt y (fun _ b => symShl op d s b iv k) (fun e r => askPt iv e r fun n iv => symShl op d s n iv k))
noncomputable def sAddr (off : Nat) (x : Opd) (t : T V) (iv : Iv) (k : KI) : Bool := onOpd t x fun x => onPtr x fun b o => fN (Nat.add o off) fun o => k (.ptr b o) iv
noncomputable def onNat (n : Int) (k : Nat → Bool) : Bool := @Int.rec (fun _ => Bool) k (fun _ => false) n
theorem onNat_true {n : Int} {k : Nat → Bool} (h : onNat n k = true) : ∃ m : Nat, n = m ∧ k m = true := by
  cases n with
  | ofNat m => exact ⟨m, rfl, h⟩
  | negSucc m => exact absurd h (by intro h; cases h)
noncomputable def idxK (b o z : Nat) (len : Nat) (n : Int) (iv : Iv) (k : KI) : Bool := onNat n fun n => fIf (Nat.ble (Nat.succ n) len) (fN (Nat.add o (Nat.mul n z)) fun o => k (.ptr b o) iv)
noncomputable def sIdxS (z : Nat) (x i : Opd) (t : T V) (iv : Iv) (k : KI) : Bool := onOpd t x fun x => onOpd t i fun i => onSlice x fun b o len _ z' => fIf (Nat.beq z' z) (onInt i (fun _ n => idxK b o z len n iv k) (fun d s => askPt iv d s fun n iv => idxK b o z len n iv k))
noncomputable def sIdxP (len z : Nat) (x i : Opd) (t : T V) (iv : Iv) (k : KI) : Bool := onOpd t x fun x => onOpd t i fun i => onPtr x fun b o => onInt i (fun _ n => idxK b o z len n iv k) (fun d s => askPt iv d s fun n iv => idxK b o z len n iv k)
noncomputable def sConv (d : IntKind) (x : Opd) (t : T V) (iv : Iv) (k : KI) : Bool := onOpd t x fun x => onInt x (fun _ n => fwrap d n fun n => k (.int d n) iv) (fun e s => fVs (symConv d e s) fun v => k v iv)
noncomputable def getL (l : List V) (n : Nat) (k : V → Bool) : Bool := @List.rec V (fun _ => Nat → Bool) (fun _ => false) (fun a _ ih n => @Nat.rec (fun _ => Bool) (k a) (fun m _ => ih m) n) l n
theorem getL_true : ∀ {l : List V} {n : Nat} {k : V → Bool}, getL l n k = true → ∃ v, l[n]? = some v ∧ k v = true
  | [], n, k, h => absurd h (by intro h; cases h)
  | a :: l, 0, k, h => ⟨a, rfl, h⟩
  | a :: l, n + 1, k, h => by
    obtain ⟨v, h1, h2⟩ := getL_true (l := l) (n := n) (k := k) h
    exact ⟨v, by simpa using h1, h2⟩
noncomputable def sExtract (i : Nat) (x : Opd) (t : T V) (iv : Iv) (k : KI) : Bool := onOpd t x fun x => onTup x fun l => getL l i fun v => k v iv
noncomputable def partK (cs : List V) (off size : Nat) (agg : Bool) (k : V → Bool) : Bool := @Bool.rec (fun _ => Bool) (getL cs off k) (fLs (fun a k => k a) ((cs.drop off).take size) fun l => k (.agg l)) agg
theorem partK_true {cs : List V} {off size : Nat} {agg : Bool} {k : V → Bool} (h : partK cs off size agg k = true) : ∃ v, partL cs off size agg = some v ∧ k v = true := by
  cases agg with
  | false =>
    obtain ⟨v, h1, h2⟩ := getL_true (l := cs) (n := off) (k := k) h
    exact ⟨v, by simpa [partL] using h1, h2⟩
  | true =>
    have h : fLs (fun (a : V) (k : V → Bool) => k a) ((cs.drop off).take size) (fun l => k (.agg l)) = true := h
    rw [fLs_eq (fun _ _ => rfl)] at h
    exact ⟨_, by simp [partL], h⟩
noncomputable def sField (off size : Nat) (agg : Bool) (x : Opd) (t : T V) (iv : Iv) (k : KI) : Bool := onOpd t x fun x => onAgg x fun l => partK l off size agg fun v => k v iv
noncomputable def sRest (x : XL) (t : T V) (iv : Iv) (k : KI) : Bool := fopt (stepL (fev t) x) fun v => fV 3 v fun v => k v iv
noncomputable def sNil (x : Opd) (t : T V) (iv : Iv) (k : KI) : Bool := onOpd t x fun v =>
  @V.rec (fun _ => Bool) (fun _ => Unit) false (fun _ => false) (fun _ _ => false) (fun _ => false) (fun b o => k (.ptr b o) iv) false (fun _ _ _ _ _ => false) false (fun _ => false) false (fun _ _ _ _ _ => sRest (.nilck x) t iv k) false (fun u w _ => k (.iface u w) iv) false (fun _ _ => false) (fun _ _ => false) (fun _ _ => false) false () (fun _ _ _ _ => ()) v
noncomputable def sLenS (x : Opd) (t : T V) (iv : Iv) (k : KI) : Bool := onOpd t x fun v =>
  @V.rec (fun _ => Bool) (fun _ => Unit) false (fun _ => false) (fun _ _ => false) (fun _ => false) (fun _ _ => false) false (fun _ _ l _ _ => k (.int .i64 (.ofNat l)) iv) (k (.int .i64 (.ofNat 0)) iv) (fun _ => false) false (fun _ _ _ _ _ => false) false (fun _ _ _ => false) false (fun _ _ => false) (fun _ _ => false) (fun _ _ => false) false () (fun _ _ _ _ => ()) v
noncomputable def sNot (x : Opd) (t : T V) (iv : Iv) (k : KI) : Bool := onOpd t x fun v => onBool v fun b => @Bool.rec (fun _ => Bool) (k (.bool true) iv) (k (.bool false) iv) b
/-- An unknown integer, or something else. -/
noncomputable def onSym (v : V) (ks : IntKind → Sy → Bool) (o : Bool) : Bool := @V.rec (fun _ => Bool) (fun _ => Unit) o (fun _ => o) (fun _ _ => o) (fun _ => o) (fun _ _ => o) o (fun _ _ _ _ _ => o) o (fun _ => o) o (fun _ _ _ _ _ => o) o (fun _ _ _ => o) o (fun _ _ => o) (fun _ _ => o) ks o () (fun _ _ _ _ => ()) v
theorem onSym_true {v : V} {ks : IntKind → Sy → Bool} {o : Bool} (h : onSym v ks o = true) : (∃ d s, v = .sym d s ∧ ks d s = true) ∨ o = true := by
  cases v with
  | sym d s => exact .inl ⟨d, s, rfl, h⟩
  | _ => exact .inr h
noncomputable def sUnR (op : UnOp) (x : Opd) (t : T V) (iv : Iv) (k : KI) : Bool := onOpd t x fun v => onSym v (fun d s => fopt (symUn op d s) fun v => fVs v fun v => k v iv) (sRest (.un op x) t iv k)
noncomputable def sUn (op : UnOp) (x : Opd) : T V → Iv → KI → Bool := match op with
  | .not => sNot x
  | op => sUnR op x
noncomputable def sMax (mx : Bool) (x y : Opd) (t : T V) (iv : Iv) (k : KI) : Bool := onOpd t x fun a => onOpd t y fun b => onSym a
  (fun d s => onInt b (fun e n => fIf (Nat.beq (kidx d) (kidx e)) (symMax mx d s (.c n) iv k)) (fun _ _ => false))
  (onSym b (fun e r => onInt a (fun d n => fIf (Nat.beq (kidx d) (kidx e)) (symMax mx d (.c n) r iv k)) (fun _ _ => false)) (sRest (.maxmin mx x y) t iv k))
noncomputable def setK (l : List V) (n : Nat) (v : V) : (List V → Bool) → Bool :=
  @List.rec V (fun _ => Nat → (List V → Bool) → Bool) (fun _ k => k []) (fun a r ih n k => @Nat.rec (fun _ => Bool) (k (v :: r)) (fun m _ => ih m fun r => k (a :: r)) n) l n
theorem setK_eq (v : V) : ∀ (l : List V) (n : Nat) (k : List V → Bool), setK l n v k = k (l.set n v)
  | [], n, k => rfl
  | a :: l, 0, k => rfl
  | a :: l, n + 1, k => setK_eq v l n fun r => k (a :: r)
noncomputable def setAllK (vs : List V) : List V → Nat → (List V → Bool) → Bool :=
  @List.rec V (fun _ => List V → Nat → (List V → Bool) → Bool) (fun l _ k => k l) (fun v _ ih l n k => setK l n v fun l => ih l (Nat.succ n) k) vs
theorem setAllK_eq : ∀ (vs l : List V) (n : Nat) (k : List V → Bool), setAllK vs l n k = k (setAll l n vs)
  | [], l, n, k => rfl
  | v :: vs, l, n, k => by
    show setK l n v (fun l => setAllK vs l (n + 1) k) = _
    rw [setK_eq, setAllK_eq]; rfl
noncomputable def lenK (l : List V) (k : Nat → Bool) : Bool := flen l k
noncomputable def fillK (t : T V) (ps : List (Nat × Nat × Opd)) : List V → (List V → Bool) → Bool :=
  @List.rec (Nat × Nat × Opd) (fun _ => List V → (List V → Bool) → Bool) (fun l k => k l)
    (fun p _ ih l k => @Prod.rec Nat (Nat × Opd) (fun _ => Bool) (fun off q => @Prod.rec Nat Opd (fun _ => Bool) (fun size x => onOpd t x fun v => fIf v.known (fcells v fun cs => flen cs fun n => flen l fun m =>
      fIf (Nat.beq n size) (fIf (Nat.ble (Nat.add off size) m) (setAllK cs l off fun l => ih l k)))) q) p) ps
theorem fillK_true (t : T V) : ∀ (ps : List (Nat × Nat × Opd)) (l : List V) (k : List V → Bool), fillK t ps l k = true → ∃ r, fillL l (ps.map fun p => (p.1, p.2.1, ev t p.2.2)) = some r ∧ k r = true
  | [], l, k, h => ⟨l, rfl, h⟩
  | (off, size, x) :: ps, l, k, h => by
    have h' : (onOpd t x fun v => fIf v.known (fcells v fun cs => flen cs fun n => flen l fun m => fIf (Nat.beq n size) (fIf (Nat.ble (Nat.add off size) m) (setAllK cs l off fun l => fillK t ps l k)))) = true := h
    rw [onOpd_eq] at h'
    obtain ⟨hk, h'⟩ := fIf_true h'
    rw [fcells_eq, flen_eq, flen_eq] at h'
    obtain ⟨h1, h2⟩ := fIf_true h'
    obtain ⟨h3, h4⟩ := fIf_true h2
    rw [setAllK_eq] at h4
    obtain ⟨r, h5, h6⟩ := fillK_true t ps _ k h4
    have h3 : off + size ≤ l.length := Nat.le_of_ble_eq_true h3
    have h1 := Nat.eq_of_beq_eq_true h1
    refine ⟨r, ?_, h6⟩
    simp only [List.map_cons, fillL]
    rw [if_neg (by simp only [hk]; simp; omega)]
    exact h5
noncomputable def sBuild (zs : List V) (ps : List (Nat × Nat × Opd)) (t : T V) (iv : Iv) (k : KI) : Bool := fillK t ps zs fun l => k (.agg l) iv
noncomputable def sIface (u : TypeId) (x : Opd) (t : T V) (iv : Iv) (k : KI) : Bool := onOpd t x fun v => k (.iface u v) iv

noncomputable def sL (x : XL) : T V → Iv → KI → Bool :=
  match x with
  | .mov x => sMov x
  | .pick c a b => sPick c a b
  | .arith op x y => sArith op x y
  | .shift op x y => sShift op x y
  | .fieldAddr off x => sAddr off x
  | .idxS z x i => sIdxS z x i
  | .idxP l z x i => sIdxP l z x i
  | .conv d x => sConv d x
  | .extract i x => sExtract i x
  | .field off size agg x => sField off size agg x
  | .nilck x => sNil x
  | .lenS x => sLenS x
  | .un op x => sUn op x
  | .build zs ps => sBuild zs ps
  | .mkIface u x => sIface u x
  | .maxmin mx x y => sMax mx x y
  | x => sRest x

section
variable {e : En} {t : T V} {iv : Iv} {k : KI}
theorem vi_int {q : Opd} (hq : q.closed = true) {d : IntKind} {n : Int} (h : ev t q = .int d n) : ev (T.vi e t) q = .int d n := by rw [ev_closed e t hq, h]; rfl
theorem vi_sym {q : Opd} (hq : q.closed = true) {d : IntKind} {s : Sy} (h : ev t q = .sym d s) : ev (T.vi e t) q = .int d (s.ev e d) := by rw [ev_closed e t hq, h]; rfl

theorem idxK_true {b o z len : Nat} {n : Int} (h : idxK b o z len n iv k = true) : (0 ≤ n ∧ n < len) ∧ k (.ptr b (o + n.toNat * z)) iv = true := by
  unfold idxK at h
  obtain ⟨m, rfl, h1⟩ := onNat_true h
  obtain ⟨h2, h3⟩ := fIf_true h1
  rw [fN_eq] at h3
  have h2 : m + 1 ≤ len := Nat.le_of_ble_eq_true h2
  exact ⟨⟨by omega, by omega⟩, h3⟩

theorem sL_true {x : XL} (hown : x.own = true) (hq : ∀ q ∈ x.opds, q.closed = true) (h : sL x t iv k = true) (he : iv.ok e) : ∃ v iv', iv'.ok e ∧ stepL (ev (T.vi e t)) x = some (v.inst e) ∧ k v iv' = true := by
  have conc : ∀ {v : V}, stepL (ev t) x = some v → k v iv = true → ∃ v iv', iv'.ok e ∧ stepL (ev (T.vi e t)) x = some (v.inst e) ∧ k v iv' = true :=
    fun h1 h2 => ⟨_, iv, he, stepL_vi e hown hq h1, h2⟩
  have rest : sRest x t iv k = true → ∃ v iv', iv'.ok e ∧ stepL (ev (T.vi e t)) x = some (v.inst e) ∧ k v iv' = true := by
    intro h
    obtain ⟨v, h1, h2⟩ := fopt_true h
    rw [fV_eq] at h2
    rw [fev_eq] at h1
    exact conc h1 h2
  cases x
  case mov x => change sMov x t iv k = true at h; simp only [sMov, onOpd_eq] at h; exact conc rfl h
  case pick c a b =>
    change sPick c a b t iv k = true at h
    simp only [sPick, onOpd_eq] at h
    obtain ⟨r, h1, h2⟩ := onBool_true h
    cases r with
    | true => exact conc (by simp only [stepL, h1]; rfl) h2
    | false => exact conc (by simp only [stepL, h1]; rfl) h2
  case arith op x y =>
    change sArith op x y t iv k = true at h
    simp only [sArith, onOpd_eq] at h
    have hx := hq x (by simp [XL.opds])
    have hy := hq y (by simp [XL.opds])
    rcases onInt_true h with ⟨d, a, h1, h2⟩ | ⟨d, s, h1, h2⟩ <;> rcases onInt_true h2 with ⟨d', b, h3, h4⟩ | ⟨d', r, h3, h4⟩ <;> obtain ⟨h5, h6⟩ := fIf_true h4 <;> (have := kidx_inj h5; subst this)
    · obtain ⟨v, h7, h8⟩ := farith_true h6
      exact conc (by simp only [stepL, h1, h3, if_true]; exact h7) h8
    · obtain ⟨v, iv', a1, a2, a3⟩ := symArith_true h6 he
      exact ⟨v, iv', a1, by simp only [stepL, vi_int hx h1, vi_sym hy h3, if_true]; exact a2, a3⟩
    · obtain ⟨v, iv', a1, a2, a3⟩ := symArith_true h6 he
      exact ⟨v, iv', a1, by simp only [stepL, vi_sym hx h1, vi_int hy h3, if_true]; exact a2, a3⟩
    · obtain ⟨v, iv', a1, a2, a3⟩ := symArith_true h6 he
      exact ⟨v, iv', a1, by simp only [stepL, vi_sym hx h1, vi_sym hy h3, if_true]; exact a2, a3⟩
  case shift op x y =>
    change sShift op x y t iv k = true at h
    simp only [sShift, onOpd_eq] at h
    have hx := hq x (by simp [XL.opds])
    have hy := hq y (by simp [XL.opds])
    rcases onInt_true h with ⟨d, a, h1, h2⟩ | ⟨d, s, h1, h2⟩ <;> rcases onInt_true h2 with ⟨d', b, h3, h4⟩ | ⟨d', r, h3, h4⟩
    · obtain ⟨v, h7, h8⟩ := fopt_true h4
      rw [fVs_eq] at h8
      exact conc (by simp only [stepL, h1, h3]; exact h7) h8
    · obtain ⟨iv1, e1, h5⟩ := askPt_true h4 he
      obtain ⟨v, iv', a1, a2, a3⟩ := symShl_true h5 e1
      exact ⟨v, iv', a1, by simp only [stepL, vi_int hx h1, vi_sym hy h3]; exact a2, a3⟩
    · obtain ⟨v, iv', a1, a2, a3⟩ := symShl_true h4 he
      exact ⟨v, iv', a1, by simp only [stepL, vi_sym hx h1, vi_int hy h3]; exact a2, a3⟩
    · obtain ⟨iv1, e1, h5⟩ := askPt_true h4 he
      obtain ⟨v, iv', a1, a2, a3⟩ := symShl_true h5 e1
      exact ⟨v, iv', a1, by simp only [stepL, vi_sym hx h1, vi_sym hy h3]; exact a2, a3⟩
  case fieldAddr off x =>
    change sAddr off x t iv k = true at h
    simp only [sAddr, onOpd_eq, fN_eq] at h
    obtain ⟨b, o, h1, h2⟩ := onPtr_true h
    exact conc (by simp only [stepL, h1]; rfl) h2
  case idxS z x i =>
    change sIdxS z x i t iv k = true at h
    simp only [sIdxS, onOpd_eq] at h
    have hx := hq x (by simp [XL.opds])
    have hi := hq i (by simp [XL.opds])
    obtain ⟨b, o, l, c, z', h1, h2⟩ := onSlice_true h
    obtain ⟨h3, h4⟩ := fIf_true h2
    have hz := Nat.eq_of_beq_eq_true h3
    rcases onInt_true h4 with ⟨d, n, h5, h6⟩ | ⟨d, s, h5, h6⟩
    · obtain ⟨h7, h8⟩ := idxK_true h6
      exact conc (by simp only [stepL, h1, h5]; rw [if_pos ⟨h7.1, h7.2, hz⟩]) h8
    · obtain ⟨iv1, e1, h6⟩ := askPt_true h6 he
      obtain ⟨h7, h8⟩ := idxK_true h6
      refine ⟨_, iv1, e1, ?_, h8⟩
      have hx' : ev (T.vi e t) x = .slice b o l c z' := by rw [ev_closed e t hx, h1]; rfl
      simp only [stepL, hx', vi_sym hi h5]
      rw [if_pos ⟨h7.1, h7.2, hz⟩]; rfl
  case idxP l z x i =>
    change sIdxP l z x i t iv k = true at h
    simp only [sIdxP, onOpd_eq] at h
    have hx := hq x (by simp [XL.opds])
    have hi := hq i (by simp [XL.opds])
    obtain ⟨b, o, h1, h2⟩ := onPtr_true h
    rcases onInt_true h2 with ⟨d, n, h5, h6⟩ | ⟨d, s, h5, h6⟩
    · obtain ⟨h7, h8⟩ := idxK_true h6
      exact conc (by simp only [stepL, h1, h5]; rw [if_pos h7]) h8
    · obtain ⟨iv1, e1, h6⟩ := askPt_true h6 he
      obtain ⟨h7, h8⟩ := idxK_true h6
      refine ⟨_, iv1, e1, ?_, h8⟩
      have hx' : ev (T.vi e t) x = .ptr b o := by rw [ev_closed e t hx, h1]; rfl
      simp only [stepL, hx', vi_sym hi h5]
      rw [if_pos h7]; rfl
  case conv d x =>
    change sConv d x t iv k = true at h
    simp only [sConv, onOpd_eq, fwrap_eq] at h
    have hx := hq x (by simp [XL.opds])
    rcases onInt_true h with ⟨d', n, h1, h2⟩ | ⟨d', s, h1, h2⟩
    · exact conc (by simp only [stepL, h1]) h2
    · rw [fVs_eq] at h2
      exact ⟨_, iv, he, by simp only [stepL, vi_sym hx h1]; rw [symConv_ok], h2⟩
  case extract i x =>
    change sExtract i x t iv k = true at h
    simp only [sExtract, onOpd_eq] at h
    obtain ⟨l, h1, h2⟩ := onTup_true h
    obtain ⟨v, h3, h4⟩ := getL_true h2
    exact conc (by simp only [stepL, h1]; exact h3) h4
  case field off size agg x =>
    change sField off size agg x t iv k = true at h
    simp only [sField, onOpd_eq] at h
    obtain ⟨l, h1, h2⟩ := onAgg_true h
    obtain ⟨v, h3, h4⟩ := partK_true h2
    exact conc (by simp only [stepL, h1]; exact h3) h4
  case nilck x =>
    have h' : sNil x t iv k = true := h
    simp only [sNil, onOpd_eq] at h'
    cases hv : ev t x <;> rw [hv] at h' <;> first | exact absurd h' (by intro h; cases h) | skip
    case ptr b o => exact conc (by simp only [stepL, hv]) h'
    case iface u w => exact conc (by simp only [stepL, hv]) h'
    case fn f a c => exact rest h'
  case lenS x =>
    have h' : sLenS x t iv k = true := h
    simp only [sLenS, onOpd_eq] at h'
    cases hv : ev t x <;> rw [hv] at h' <;> first | exact absurd h' (by intro h; cases h) | exact conc (by simp only [stepL, hv]; rfl) h'
  case un op x =>
    have hx := hq x (by simp [XL.opds])
    have other : sUnR op x t iv k = true → ∃ v iv', iv'.ok e ∧ stepL (ev (T.vi e t)) (.un op x) = some (v.inst e) ∧ k v iv' = true := by
      intro h
      simp only [sUnR, onOpd_eq] at h
      rcases onSym_true h with ⟨d, s, h1, h2⟩ | h2
      · obtain ⟨v, h3, h4⟩ := fopt_true h2
        rw [fVs_eq] at h4
        exact ⟨v, iv, he, by simp only [stepL, vi_sym hx h1]; exact symUn_ok h3 e, h4⟩
      · exact rest h2
    cases op
    case not =>
      have h' : sNot x t iv k = true := h
      simp only [sNot, onOpd_eq] at h'
      obtain ⟨b, h1, h2⟩ := onBool_true h'
      cases b
      · exact conc (by simp only [stepL, h1, unV]; rfl) h2
      · exact conc (by simp only [stepL, h1, unV]; rfl) h2
    all_goals exact other h
  case build zs ps =>
    have h' : sBuild zs ps t iv k = true := h
    obtain ⟨r, h1, h2⟩ := fillK_true t ps zs _ h'
    exact conc (by simp only [stepL, h1]; rfl) h2
  case mkIface u x =>
    have h' : sIface u x t iv k = true := h
    simp only [sIface, onOpd_eq] at h'
    exact conc rfl h'
  case maxmin mx x y =>
    change sMax mx x y t iv k = true at h
    simp only [sMax, onOpd_eq] at h
    have hx := hq x (by simp [XL.opds])
    have hy := hq y (by simp [XL.opds])
    rcases onSym_true h with ⟨d, s, h1, h2⟩ | h2
    · rcases onInt_true h2 with ⟨d', n, h3, h4⟩ | ⟨_, _, _, h4⟩
      · obtain ⟨h5, h6⟩ := fIf_true h4
        have := kidx_inj h5; subst this
        obtain ⟨v, iv', a1, a2, a3⟩ := symMax_true h6 he
        exact ⟨v, iv', a1, by simp only [stepL, vi_sym hx h1, vi_int hy h3, if_true]; rw [← a2]; rfl, a3⟩
      · exact absurd h4 (by simp)
    · rcases onSym_true h2 with ⟨d, s, h1, h3⟩ | h3
      · rcases onInt_true h3 with ⟨d', n, h4, h5⟩ | ⟨_, _, _, h5⟩
        · obtain ⟨h5, h6⟩ := fIf_true h5
          have := kidx_inj h5; subst this
          obtain ⟨v, iv', a1, a2, a3⟩ := symMax_true h6 he
          exact ⟨v, iv', a1, by simp only [stepL, vi_int hx h4, vi_sym hy h1, if_true]; rw [← a2]; rfl, a3⟩
        · exact absurd h5 (by simp)
      · exact rest h3
  all_goals exact rest h
end
end Go.Abs
