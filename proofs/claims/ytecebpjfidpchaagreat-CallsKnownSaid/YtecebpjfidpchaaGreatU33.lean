/- PART of the proof of CallsKnown: The evaluator for Lean's kernel: operations, one by one and in rows. No condition. -/
import Derived.Test.YtecebpjfidpchaaGreatU32
/-! The evaluator for Lean's kernel: operations, one by one and in rows. -/
namespace Go.Abs
set_option linter.unusedVariables false

abbrev KV := V → H → Iv → Bool
abbrev FC := FuncId → List V → H → Iv → KV → KV → Bool
/-- What a call is known to come to. -/
def FCOk (fc : FC) (c : Call) : Prop := ∀ f as σ iv (kr kp : KV), fc f as σ iv kr kp = true → ∀ e : En, iv.ok e →
  ∃ iv' : Iv, iv'.ok e ∧ ((∃ v σ', c f (as.map (V.inst e)) (σ.inst e) = some (.ret (v.inst e) (σ'.inst e)) ∧ kr v σ' iv' = true) ∨ ∃ v σ', c f (as.map (V.inst e)) (σ.inst e) = some (.pan (v.inst e) (σ'.inst e)) ∧ kp v σ' iv' = true)

noncomputable def gArgs (t : T V) (l : List Opd) : (List V → Bool) → Bool :=
  @List.rec Opd (fun _ => (List V → Bool) → Bool) (fun k => k []) (fun a _ ih k => onOpd t a fun v => ih fun r => k (v :: r)) l
theorem gArgs_eq (t : T V) (l : List Opd) : ∀ k, gArgs t l k = k (l.map (ev t)) := by
  induction l with
  | nil => intro k; rfl
  | cons a l ih =>
    intro k
    show onOpd t a (fun v => gArgs t l fun r => k (v :: r)) = _
    rw [onOpd_eq, ih]; rfl
noncomputable def onCells (σ : H) (b : Nat) (k : Bool → Nat → T V → Bool) : Bool :=
  @Option.rec Blk (fun _ => Bool) false (fun B => @Blk.rec (fun _ => Bool) k (fun _ _ => false) B) (fget σ.t b)
theorem onCells_true {σ : H} {b : Nat} {k : Bool → Nat → T V → Bool} (h : onCells σ b k = true) : ∃ r m c, σ.get b = some (.cells r m c) ∧ k r m c = true := by
  unfold onCells at h
  rw [fget_eq] at h
  unfold H.get
  cases hb : σ.t.get b with
  | none => rw [hb] at h; exact absurd h (by intro h; cases h)
  | some B =>
    rw [hb] at h
    cases B with
    | cells r m c => exact ⟨r, m, c, rfl, h⟩
    | map r es => exact absurd h (by intro h; cases h)
noncomputable def gload (σ : H) (n : Nat) (agg : Bool) (a : V) (k : V → Bool) : Bool :=
  onPtr a fun b o => onCells σ b fun _ m c => fIf (Nat.ble (Nat.add o n) m)
    (@Bool.rec (fun _ => Bool) (fIf (Nat.ble 1 n) (@Option.rec V (fun _ => Bool) (k .undef) k (fget c o))) (fN o fun o => ftake c n o fun l => k (.agg l)) agg)
theorem gload_true {σ : H} {n : Nat} {agg : Bool} {a : V} {k : V → Bool} (h : gload σ n agg a k = true) : ∃ v, loadV σ n agg a = some v ∧ k v = true := by
  unfold gload at h
  obtain ⟨b, o, rfl, h2⟩ := onPtr_true h
  obtain ⟨r, mm, c, h3, h4⟩ := onCells_true h2
  obtain ⟨h5, h6⟩ := fIf_true h4
  have h5 : o + n ≤ mm := Nat.le_of_ble_eq_true h5
  have hl : σ.loadN b o n = some (takeCells c o n) := by simp [H.loadN, h3, h5]
  cases agg with
  | true =>
    have h6' : (fN o fun o => ftake c n o fun l => k (.agg l)) = true := h6
    rw [fN_eq, ftake_eq] at h6'
    exact ⟨_, by simp only [loadV, hl]; rfl, h6'⟩
  | false =>
    have h6' : fIf (Nat.ble 1 n) (@Option.rec V (fun _ => Bool) (k .undef) k (fget c o)) = true := h6
    obtain ⟨h7, h8⟩ := fIf_true h6'
    have h7 : 1 ≤ n := Nat.le_of_ble_eq_true h7
    rw [fget_eq] at h8
    refine ⟨cellD c o, ?_, ?_⟩
    · simp only [loadV, hl]
      rw [if_neg (by simp), takeCells_get, if_pos (by omega)]; rfl
    · unfold cellD
      cases hc : c.get o with
      | none => rw [hc] at h8; exact h8
      | some v => rw [hc] at h8; exact h8
noncomputable def stLoad (σ : H) (t : T V) (n : Nat) (agg : Bool) (a : Opd) (k : V → Bool) : Bool := onOpd t a fun a => gload σ n agg a k
noncomputable def stStore (σ : H) (t : T V) (n : Nat) (a v : Opd) (k : V → H → Bool) : Bool :=
  onOpd t a fun a => onPtr a fun b o => onOpd t v fun v => fcells v fun cs => flen cs fun len => fIf (Nat.beq len n) (onCells σ b fun ro m c => fIf (!ro) (fIf (Nat.ble (Nat.add o len) m) (fIf (fall V.cell cs) (fN o fun o => fofList cs c o fun c => fset σ b (.cells false m c) fun σ => k .undef σ))))
noncomputable def mkB (cs : List V) (k : Blk → Bool) : Bool := flen cs fun n => fofList cs .e 0 fun c => k (.cells false n c)
theorem mkB_eq (cs : List V) (k : Blk → Bool) : mkB cs k = k (blkOf cs) := by
  simp only [mkB, flen_eq, fofList_eq]; rfl
noncomputable def gmake (t : T V) (x : XA) (k : Blk → (Nat → V) → Bool) : Bool :=
  @XA.rec (fun _ => Bool) (fun zs => mkB zs fun B => k B (fun b => .ptr b 0)) (fun x => onOpd t x fun v => fIf v.known (fcells v fun cs => mkB cs fun B => k B (fun b => .ptr b 0)))
    (fun len z zs ps => fIf (Nat.ble (Nat.mul len z) 16777216) (fLs (fun (a : V) (k : V → Bool) => k a) (repl zs len) fun l => fillK t ps l fun cs => mkB cs fun B => k B (fun b => .slice b 0 len len z)))
    (fun z bytes zs l c => fmake (fev t) (.mkSlice z bytes zs l c) k) (k (.map false []) fun b => .map b) x
theorem gmake_true {t : T V} {x : XA} {k : Blk → (Nat → V) → Bool} (h : gmake t x k = true) : ∃ B mk, stepA (ev t) x = some (B, mk) ∧ k B mk = true := by
  cases x with
  | alloc zs =>
    have h' : (mkB zs fun B => k B (fun b => .ptr b 0)) = true := h
    rw [mkB_eq] at h'
    exact ⟨_, _, rfl, h'⟩
  | box x =>
    have h' : (onOpd t x fun v => fIf v.known (fcells v fun cs => mkB cs fun B => k B (fun b => .ptr b 0))) = true := h
    rw [onOpd_eq] at h'
    obtain ⟨hk, h'⟩ := fIf_true h'
    rw [fcells_eq, mkB_eq] at h'
    exact ⟨_, _, by simp only [stepA]; rw [if_pos hk], h'⟩
  | buildS len z zs ps =>
    have h' : fIf (Nat.ble (Nat.mul len z) 16777216) (fLs (fun (a : V) (k : V → Bool) => k a) (repl zs len) fun l => fillK t ps l fun cs => mkB cs fun B => k B (fun b => .slice b 0 len len z)) = true := h
    obtain ⟨h1, h2⟩ := fIf_true h'
    rw [fLs_eq (fun _ _ => rfl)] at h2
    obtain ⟨r, h3, h4⟩ := fillK_true t ps _ _ h2
    rw [mkB_eq] at h4
    refine ⟨_, _, ?_, h4⟩
    simp only [stepA]
    rw [if_pos (show len * z ≤ 16777216 from Nat.le_of_ble_eq_true h1), h3]; rfl
  | mkSlice z bytes zs l c =>
    have h' : fmake (fev t) (.mkSlice z bytes zs l c) k = true := h
    rw [fev_eq] at h'
    exact fmake_true h'
  | mkMap => exact ⟨_, _, rfl, h⟩
noncomputable def stA (σ : H) (t : T V) (x : XA) (k : V → H → Bool) : Bool := gmake t x fun B mk => fV 1 (mk σ.next) fun v => fnew σ B fun σ' => k v σ'
noncomputable def stCallV (σ : H) (t : T V) (f : Opd) (args : List Opd) (kc : FuncId → List V → H → Bool) : Bool :=
  match fev t f with
  | .fn (.func f) first cap => gArgs t args fun as => kc f (first ++ as ++ cap) σ
  | _ => false
noncomputable def stPanic (σ : H) (t : T V) (x : Opd) (kp : V → H → Bool) : Bool :=
  match fev t x with
  | .iface u v => kp (.iface u v) σ
  | _ => false

section
variable (m : MT)
noncomputable def gstep (σ : H) (t : T V) (x : X) (iv : Iv) (k : KV) (kc : FuncId → List V → H → Bool) (kp : V → H → Bool) : Bool :=
  @X.rec (fun _ => Bool) (fun x => sL x t iv fun v iv => k v σ iv) (fun x => stA σ t x fun v σ => k v σ iv) (fun n agg a => stLoad σ t n agg a fun v => k v σ iv) (fun n a v => stStore σ t n a v fun v σ => k v σ iv)
    (fun a b c => fstep m σ t (.eqp a b c) (fun v σ => k v σ iv) kc) (fun a b c d e => fstep m σ t (.sliceA a b c d e) (fun v σ => k v σ iv) kc) (fun a b c d => fstep m σ t (.lookup a b c d) (fun v σ => k v σ iv) kc) (fun a b c => fstep m σ t (.update a b c) (fun v σ => k v σ iv) kc)
    (fun a b => fstep m σ t (.delete a b) (fun v σ => k v σ iv) kc) (fun a => fstep m σ t (.lenM a) (fun v σ => k v σ iv) kc) (fun a b c d => fstep m σ t (.append a b c d) (fun v σ => k v σ iv) kc) (fun a b c => fstep m σ t (.copy a b c) (fun v σ => k v σ iv) kc) (fun a b => fstep m σ t (.clearS a b) (fun v σ => k v σ iv) kc)
    (fun f args => gArgs t args fun as => kc f as σ) (fun a b => stCallV σ t a b kc) (fun a b c => fstep m σ t (.invoke a b c) (fun v σ => k v σ iv) kc) (fun x => stPanic σ t x kp) x

/-- An operation without questions. -/
theorem gstep_plain {σ : H} {t : T V} {x : X} {iv : Iv} {k : KV} {kc : FuncId → List V → H → Bool} {kp : V → H → Bool} (h : gstep m σ t x iv k kc kp = true) (hx : ∀ y, x ≠ .l y) :
    (∃ v σ', step m σ (ev t) x = some (.val v σ') ∧ k v σ' iv = true) ∨ (∃ f as σ', step m σ (ev t) x = some (.enter f as σ') ∧ kc f as σ' = true) ∨ ∃ v σ', step m σ (ev t) x = some (.pan v σ') ∧ kp v σ' = true := by
  have fall : ∀ {x}, fstep m σ t x (fun v σ => k v σ iv) kc = true → (∃ v σ', step m σ (ev t) x = some (.val v σ') ∧ k v σ' iv = true) ∨ (∃ f as σ', step m σ (ev t) x = some (.enter f as σ') ∧ kc f as σ' = true) ∨ ∃ v σ', step m σ (ev t) x = some (.pan v σ') ∧ kp v σ' = true := by
    intro x h
    rcases fstep_true m h with h | h
    · exact .inl h
    · exact .inr (.inl h)
  cases x
  case l x => exact absurd rfl (hx x)
  case a x =>
    change stA σ t x (fun v σ => k v σ iv) = true at h
    obtain ⟨B, mk, h1, h2⟩ := gmake_true h
    simp only [fV_eq, fnew_eq] at h2
    exact .inl ⟨_, _, by simp only [step, h1]; rfl, h2⟩
  case callV f args =>
    change stCallV σ t f args kc = true at h
    simp only [stCallV, fev_eq] at h
    split at h
    · rename_i g a c hf
      rw [gArgs_eq] at h
      exact .inr (.inl ⟨_, _, _, by simp only [step, hf], h⟩)
    · simp at h
  case panic x =>
    change stPanic σ t x kp = true at h
    simp only [stPanic, fev_eq] at h
    split at h
    · rename_i u v hf
      exact .inr (.inr ⟨_, _, by simp only [step, hf], h⟩)
    · simp at h
  case load n agg a =>
    change stLoad σ t n agg a (fun v => k v σ iv) = true at h
    simp only [stLoad, onOpd_eq] at h
    obtain ⟨v, h1, h2⟩ := gload_true h
    exact .inl ⟨_, _, by simp only [step, h1]; rfl, h2⟩
  case store n a v =>
    change stStore σ t n a v (fun v σ => k v σ iv) = true at h
    simp only [stStore, onOpd_eq, fcells_eq, flen_eq] at h
    obtain ⟨b, o, h1, h2⟩ := onPtr_true h
    obtain ⟨h3, h4⟩ := fIf_true h2
    obtain ⟨r, mm, c, h5, h6⟩ := onCells_true h4
    obtain ⟨h7, h8⟩ := fIf_true h6
    obtain ⟨h9, h10⟩ := fIf_true h8
    obtain ⟨h11, h12⟩ := fIf_true h10
    rw [fall_eq] at h11
    simp only [fN_eq, fofList_eq, fset_eq] at h12
    have hr : r = false := by simpa using h7
    subst hr
    have h9 : o + (ev t v).cells.length ≤ mm := Nat.le_of_ble_eq_true h9
    refine .inl ⟨_, _, ?_, h12⟩
    simp only [step, h1]
    rw [if_pos (Nat.eq_of_beq_eq_true h3)]
    have : σ.storeN b o (ev t v).cells = some (σ.set b (.cells false mm (c.ofList o (ev t v).cells))) := by
      simp only [H.storeN, h5]
      rw [if_pos ⟨h9, h11⟩]
    rw [this]; rfl
  case call f args =>
    change (gArgs t args fun as => kc f as σ) = true at h
    simp only [gArgs_eq] at h
    exact .inr (.inl ⟨_, _, _, rfl, h⟩)
  all_goals exact fall h

theorem gstep_true {σ : H} {t : T V} {x : X} {iv : Iv} {k : KV} {kc : FuncId → List V → H → Bool} {kp : V → H → Bool} (hc : x.own = true) (hq : ∀ q ∈ x.opds, q.closed = true) (h : gstep m σ t x iv k kc kp = true) {e : En} (he : iv.ok e) :
    (∃ v σ' iv', iv'.ok e ∧ step m (σ.inst e) (ev (T.vi e t)) x = some (.val (v.inst e) (σ'.inst e)) ∧ k v σ' iv' = true) ∨
    (∃ f as σ', step m (σ.inst e) (ev (T.vi e t)) x = some (.enter f (as.map (V.inst e)) (σ'.inst e)) ∧ kc f as σ' = true) ∨
    ∃ v σ', step m (σ.inst e) (ev (T.vi e t)) x = some (.pan (v.inst e) (σ'.inst e)) ∧ kp v σ' = true := by
  have hcl : Op.closed ⟨none, x, none⟩ = true := by
    simp only [Op.closed, Bool.and_eq_true, List.all_eq_true]
    exact ⟨hc, hq⟩
  by_cases hx : ∃ y, x = .l y
  · obtain ⟨y, rfl⟩ := hx
    have h' : sL y t iv (fun v iv => k v σ iv) = true := h
    obtain ⟨v, iv', h1, h2, h3⟩ := sL_true (e := e) hc hq h' he
    exact .inl ⟨v, σ, iv', h1, by simp only [step, h2]; rfl, h3⟩
  · rcases gstep_plain m h (fun y hy => hx ⟨y, hy⟩) with ⟨v, σ', h1, h2⟩ | ⟨f, as, σ', h1, h2⟩ | ⟨v, σ', h1, h2⟩
    · exact .inl ⟨v, σ', iv, he, step_vi e (o := ⟨none, x, none⟩) hcl h1, h2⟩
    · exact .inr (.inl ⟨f, as, σ', step_vi e (o := ⟨none, x, none⟩) hcl h1, h2⟩)
    · exact .inr (.inr ⟨v, σ', step_vi e (o := ⟨none, x, none⟩) hcl h1, h2⟩)

/-! ### Guards -/
noncomputable def fguard (t : T V) (g : Option (Nat × Bool)) (yes no : Bool) : Bool :=
  @Option.rec (Nat × Bool) (fun _ => Bool) yes (fun p => @Prod.rec Nat Bool (fun _ => Bool) (fun j b => onOpd t (.t j) fun v =>
    @V.rec (fun _ => Bool) (fun _ => Unit) no (fun c => @Bool.rec (fun _ => Bool) no yes (c == b)) (fun _ _ => no) (fun _ => no) (fun _ _ => no) no (fun _ _ _ _ _ => no) no (fun _ => no) no (fun _ _ _ _ _ => no) no (fun _ _ _ => no) no (fun _ _ => no) (fun _ _ => no) (fun _ _ => no) false () (fun _ _ _ _ => ()) v) p) g
theorem fguard_true {t : T V} {g : Option (Nat × Bool)} {yes no : Bool} (h : fguard t g yes no = true) : unk t g = false ∧ ((wantedV t g = true ∧ yes = true) ∨ (wantedV t g = false ∧ no = true)) := by
  cases g with
  | none => exact ⟨rfl, .inl ⟨rfl, h⟩⟩
  | some p =>
    obtain ⟨j, b⟩ := p
    have h' : (onOpd t (.t j) fun v => @V.rec (fun _ => Bool) (fun _ => Unit) no (fun c => @Bool.rec (fun _ => Bool) no yes (c == b)) (fun _ _ => no) (fun _ => no) (fun _ _ => no) no (fun _ _ _ _ _ => no) no (fun _ => no) no (fun _ _ _ _ _ => no) no (fun _ _ _ => no) no (fun _ _ => no) (fun _ _ => no) (fun _ _ => no) false () (fun _ _ _ _ => ()) v) = true := h
    rw [onOpd_eq] at h'
    simp only [unk, wantedV]
    cases hv : ev t (.t j) <;> rw [hv] at h'
    case any => exact absurd h' (by intro h; cases h)
    case bool c =>
      refine ⟨rfl, ?_⟩
      have h2 : @Bool.rec (fun _ => Bool) no yes (c == b) = true := h'
      cases hcb : (c == b) with
      | true => rw [hcb] at h2; exact .inl ⟨hcb, h2⟩
      | false => rw [hcb] at h2; exact .inr ⟨hcb, h2⟩
    all_goals exact ⟨rfl, .inr ⟨rfl, h'⟩⟩
theorem unk_vi (e : En) (t : T V) (g : Option (Nat × Bool)) : unk (T.vi e t) g = unk t g := by
  cases g with
  | none => rfl
  | some p => obtain ⟨j, b⟩ := p; simp only [unk, ev_inst, V.known_inst]
theorem wanted_vi (e : En) (t : T V) (g : Option (Nat × Bool)) : wantedV (T.vi e t) g = wantedV t g := by
  cases g with
  | none => rfl
  | some p =>
    obtain ⟨j, b⟩ := p
    simp only [wantedV, ev_inst]
    cases ev t (.t j) <;> rfl

/-! ### One operation, and rows of them -/
def OcG (e : En) (oc : Option Oc) (k : T V → H → Iv → Bool) (kp : V → T V → H → Iv → Bool) : Prop :=
  ∃ iv' : Iv, iv'.ok e ∧ ((∃ t' σ', oc = some (.ok (T.vi e t') (σ'.inst e)) ∧ k t' σ' iv' = true) ∨ ∃ v t' σ', oc = some (.pan (v.inst e) (T.vi e t') (σ'.inst e)) ∧ kp v t' σ' iv' = true)

noncomputable def gev1 (call : FC) (o : Op) : T V → H → Iv → (T V → H → Iv → Bool) → (V → H → Iv → Bool) → Bool :=
  @Op.rec (fun _ => T V → H → Iv → (T V → H → Iv → Bool) → (V → H → Iv → Bool) → Bool) (fun d x g t σ iv k kp =>
    fguard t g (gstep m σ t x iv (fun v σ iv => fputd t d v fun t => k t σ iv) (fun f as σ => call f as σ iv (fun v σ iv => fputd t d v fun t => k t σ iv) kp) fun v σ => kp v σ iv)
      (fputd t d .undef fun t => k t σ iv)) o
theorem gev1_true {fc : FC} {c : Call} (hc : FCOk fc c) {o : Op} (ho : o.closed = true) {t : T V} {σ : H} {iv : Iv} {k : T V → H → Iv → Bool} {kp : V → H → Iv → Bool} (h : gev1 m fc o t σ iv k kp = true) {e : En} (he : iv.ok e) :
    OcG e (ev1 m c o (T.vi e t) (σ.inst e)) k (fun v _ σ iv => kp v σ iv) := by
  obtain ⟨d, x, g⟩ := o
  simp only [Op.closed, Bool.and_eq_true, List.all_eq_true] at ho
  obtain ⟨h1, h2⟩ := fguard_true (show fguard t g _ _ = true from h)
  unfold ev1
  rw [unk_vi, wanted_vi]
  simp only [h1, Bool.false_eq_true, if_false]
  rcases h2 with ⟨hw, h3⟩ | ⟨hw, h3⟩
  · simp only [hw, if_true]
    rcases gstep_true m ho.1 ho.2 h3 he with ⟨v, σ', iv', e1, h4, h5⟩ | ⟨f, as, σ', h4, h5⟩ | ⟨v, σ', h4, h5⟩
    · rw [fputd_eq] at h5
      refine ⟨iv', e1, .inl ⟨_, _, ?_, h5⟩⟩
      simp only [h4, putd_inst]
    · obtain ⟨iv', e1, h6⟩ := hc _ _ _ _ _ _ h5 e he
      rcases h6 with ⟨v, σ2, h7, h8⟩ | ⟨v, σ2, h7, h8⟩
      · rw [fputd_eq] at h8
        refine ⟨iv', e1, .inl ⟨_, _, ?_, h8⟩⟩
        simp only [h4, h7, Option.map_some, Rt.oc, putd_inst]
      · refine ⟨iv', e1, .inr ⟨v, t, σ2, ?_, h8⟩⟩
        simp only [h4, h7, Option.map_some, Rt.oc]
    · refine ⟨iv, he, .inr ⟨v, t, σ', ?_, h5⟩⟩
      simp only [h4]
  · simp only [hw, Bool.false_eq_true, if_false]
    rw [fputd_eq] at h3
    exact ⟨iv, he, .inl ⟨_, _, by rw [putd_inst]; rfl, h3⟩⟩

noncomputable def gevOps (call : FC) (l : List Op) : T V → H → Iv → (T V → H → Iv → Bool) → (V → T V → H → Iv → Bool) → Bool :=
  @List.rec Op (fun _ => T V → H → Iv → (T V → H → Iv → Bool) → (V → T V → H → Iv → Bool) → Bool) (fun t σ iv k _ => k t σ iv) (fun o _ ih t σ iv k kp => gev1 m call o t σ iv (fun t σ iv => ih t σ iv k kp) (fun v σ iv => kp v t σ iv)) l
theorem gev1_pan {fc : FC} {c : Call} {o : Op} {t t' : T V} {σ σ' : H} {v : V} (h : ev1 m c o t σ = some (.pan v t' σ')) : t' = t := by
  unfold ev1 at h
  split at h
  · simp at h
  · split at h
    · split at h
      · simp at h
      · obtain ⟨r, _, e⟩ := map_some' h
        cases r with
        | ret v σ3 => simp [Rt.oc] at e
        | pan v σ3 => simp [Rt.oc] at e; exact e.2.1
      · simp at h; exact h.2.1.symm
      · simp at h
    · simp at h
theorem gevOps_true {fc : FC} {c : Call} (hc : FCOk fc c) (l : List Op) (hl : l.all Op.closed = true) : ∀ {t : T V} {σ : H} {iv : Iv} {k : T V → H → Iv → Bool} {kp : V → T V → H → Iv → Bool}, gevOps m fc l t σ iv k kp = true → ∀ {e : En}, iv.ok e →
    OcG e (evOps m c l (T.vi e t) (σ.inst e)) k kp := by
  induction l with
  | nil => intro t σ iv k kp h e he; exact ⟨iv, he, .inl ⟨t, σ, rfl, h⟩⟩
  | cons o l ih =>
    intro t σ iv k kp h e he
    simp only [List.all_cons, Bool.and_eq_true] at hl
    have h' : gev1 m fc o t σ iv (fun t σ iv => gevOps m fc l t σ iv k kp) (fun v σ iv => kp v t σ iv) = true := h
    obtain ⟨iv', e1, h1⟩ := gev1_true m hc hl.1 h' he
    rcases h1 with ⟨t1, σ1, h2, h3⟩ | ⟨v, t1, σ1, h2, h3⟩
    · obtain ⟨iv2, e2, h4⟩ := ih hl.2 h3 e1
      refine ⟨iv2, e2, ?_⟩
      simp only [evOps, h2]; exact h4
    · have := gev1_pan m (fc := fc) h2
      refine ⟨iv', e1, .inr ⟨v, t, σ1, ?_, h3⟩⟩
      simp only [evOps, h2, this]
end
end Go.Abs
