/- PART of the proof of CallsKnown: The evaluator for Lean's kernel: open orders, code, calls. No condition. -/
import Derived.Test.YtecebpjfidpchaaGreatU33
import Derived.Test.YtecebpjfidpchaaGreatU24
/-! The evaluator for Lean's kernel: open orders, code, calls. -/
namespace Go.Abs
set_option linter.unusedVariables false

/-- The same value? Quick for integers. -/
noncomputable def gsame (u v : V) : Bool := @Bool.rec (fun _ => Bool) (V.same 40 u v) true (onInt u (fun d a => onInt v (fun e b => fIf (Nat.beq (kidx d) (kidx e)) (ieq a b)) fun _ _ => false) fun _ _ => false)
theorem gsame_same {u v : V} (h : gsame u v = true) : V.same 40 u v = true := by
  unfold gsame at h
  cases hq : (onInt u (fun d a => onInt v (fun e b => fIf (Nat.beq (kidx d) (kidx e)) (ieq a b)) fun _ _ => false) fun _ _ => false) with
  | false => rw [hq] at h; exact h
  | true =>
    rcases onInt_true hq with ⟨d, a, rfl, h1⟩ | ⟨_, _, _, h1⟩
    · rcases onInt_true h1 with ⟨e, b, rfl, h2⟩ | ⟨_, _, _, h2⟩
      · obtain ⟨h3, h4⟩ := fIf_true h2
        rw [ieq_eq] at h4
        rw [kidx_inj h3, eq_of_beq h4]
        simp [V.same]
      · exact absurd h2 (by simp)
    · exact absurd h1 (by simp)
noncomputable def gheld (n : Nat) (agg : Bool) (a v : V) (k : Nat) : List H → Bool :=
  @Nat.rec (fun _ => List H → Bool) (fun _ => true) (fun _ ih l => @List.rec H (fun _ => Bool) false (fun σ r _ => gload σ n agg a fun u => fIf (gsame u v) (ih r)) l) k
theorem gheld_true (n : Nat) (agg : Bool) (a v : V) : ∀ (k : Nat) (l : List H), gheld n agg a v k l = true → held n agg a v k l = true := by
  intro k
  induction k with
  | zero => intro l _; cases l <;> rfl
  | succ k ih =>
    intro l h
    cases l with
    | nil => exact absurd h (by intro h; cases h)
    | cons σ r =>
      have h' : (gload σ n agg a fun u => fIf (gsame u v) (gheld n agg a v k r)) = true := h
      obtain ⟨u, h1, h2⟩ := gload_true h'
      obtain ⟨h3, h4⟩ := fIf_true h2
      simp only [held, h1, gsame_same h3, ih r h4]; rfl

abbrev KT := T V → H → Iv → Bool
noncomputable def gFl (base : Nat) (i : It) (t : T V) (σ : H) (iv : Iv) (hist : List H) (k : KT) : Bool :=
  fguard t i.o.g (match i.o.x with
    | .l x => sL x t iv fun v iv => fputd t i.o.dst v fun t => k t σ iv
    | .a x => gmake t x fun B mk => fN (Nat.add base i.idx) fun b => fV 1 (mk b) fun v => fputd t i.o.dst v fun t => fset σ b B fun σ => k t σ iv
    | .load n agg a => onOpd t a fun a => gload σ n agg a fun v => fIf (gheld n agg a v i.back hist) (fputd t i.o.dst v fun t => k t σ iv)
    | _ => false) (fputd t i.o.dst .undef fun t => k t σ iv)
theorem gFl_true {base : Nat} {i : It} (ho : i.o.closed = true) {t : T V} {σ : H} {iv : Iv} {hist : List H} {k : KT} (h : gFl base i t σ iv hist k = true) {e : En} (he : iv.ok e) :
    ∃ t' σ' iv', iv'.ok e ∧ evFl base i (T.vi e t) (σ.inst e) (hist.map (H.inst e)) = some (T.vi e t', σ'.inst e) ∧ k t' σ' iv' = true := by
  obtain ⟨h1, h2⟩ := fguard_true h
  simp only [Op.closed, Bool.and_eq_true, List.all_eq_true] at ho
  unfold evFl
  rw [unk_vi, wanted_vi]
  simp only [h1, Bool.false_eq_true, if_false]
  rcases h2 with ⟨hw, h3⟩ | ⟨hw, h3⟩
  · simp only [hw, if_true]
    split at h3
    · rename_i x hx
      rw [hx] at ho
      obtain ⟨v, iv', e1, h4, h5⟩ := sL_true (e := e) ho.1 ho.2 h3 he
      rw [fputd_eq] at h5
      exact ⟨_, σ, iv', e1, by simp only [hx, h4, Option.map_some, putd_inst], h5⟩
    · rename_i x hx
      rw [hx] at ho
      obtain ⟨B, mk, h4, h5⟩ := gmake_true h3
      simp only [fN_eq, fV_eq, fputd_eq, fset_eq] at h5
      obtain ⟨h6, h7⟩ := stepA_vi e ho.1 ho.2 h4
      exact ⟨_, _, iv, he, by simp only [hx, h6, Option.map_some, putd_inst, H.set_inst, h7]; rfl, h5⟩
    · rename_i n agg a hx
      rw [hx] at ho
      rw [onOpd_eq] at h3
      obtain ⟨v, h4, h5⟩ := gload_true h3
      obtain ⟨h6, h7⟩ := fIf_true h5
      rw [fputd_eq] at h7
      have ha : ev (T.vi e t) a = (ev t a).inst e := ev_closed e t (ho.2 a (by simp [X.opds]))
      refine ⟨_, σ, iv, he, ?_, h7⟩
      simp only [hx, ha, loadV_inst e h4]
      rw [if_pos (held_inst e (gheld_true _ _ _ _ _ _ h6)), putd_inst]
    · simp at h3
  · simp only [hw, Bool.false_eq_true, if_false]
    rw [fputd_eq] at h3
    exact ⟨_, σ, iv, he, by rw [putd_inst]; rfl, h3⟩

noncomputable def gDead (base kk : Nat) (l : List It) : T V → H → Iv → List H → (Iv → Bool) → Bool :=
  @List.rec It (fun _ => T V → H → Iv → List H → (Iv → Bool) → Bool) (fun _ _ iv _ k => k iv)
    (fun i _ ih t σ iv hist k => @Bool.rec (fun _ => Bool)
      (@Bool.rec (fun _ => Bool) (gFl base i t σ iv hist fun t σ iv => ih t σ iv hist k) (fputd t i.o.dst .undef fun t => ih t σ iv hist k) (i.anc.testBit kk))
      (fputd t i.o.dst .undef fun t => ih t σ iv (σ :: hist) k) i.heavy) l
theorem gDead_true {base kk : Nat} : ∀ (l : List It), l.all (fun i => i.o.closed) = true → ∀ {t : T V} {σ : H} {iv : Iv} {hist : List H} {k : Iv → Bool}, gDead base kk l t σ iv hist k = true → ∀ {e : En}, iv.ok e →
    ∃ iv', iv'.ok e ∧ evDead base kk l (T.vi e t) (σ.inst e) (hist.map (H.inst e)) = true ∧ k iv' = true := by
  intro l
  induction l with
  | nil => intro _ t σ iv hist k h e he; exact ⟨iv, he, rfl, h⟩
  | cons i l ih =>
    intro hl t σ iv hist k h e he
    simp only [List.all_cons, Bool.and_eq_true] at hl
    have h' : @Bool.rec (fun _ => Bool)
      (@Bool.rec (fun _ => Bool) (gFl base i t σ iv hist fun t σ iv => gDead base kk l t σ iv hist k) (fputd t i.o.dst .undef fun t => gDead base kk l t σ iv hist k) (i.anc.testBit kk))
      (fputd t i.o.dst .undef fun t => gDead base kk l t σ iv (σ :: hist) k) i.heavy = true := h
    simp only [evDead]
    cases hh : i.heavy with
    | true =>
      rw [hh] at h'
      change fputd _ _ _ _ = true at h'
      rw [fputd_eq] at h'
      obtain ⟨iv', e1, h1, h2⟩ := ih hl.2 h' he
      refine ⟨iv', e1, ?_, h2⟩
      rw [putd_inst] at h1
      simpa [V.inst] using h1
    | false =>
      rw [hh] at h'
      cases hb : i.anc.testBit kk with
      | true =>
        rw [hb] at h'
        change fputd _ _ _ _ = true at h'
        rw [fputd_eq] at h'
        obtain ⟨iv', e1, h1, h2⟩ := ih hl.2 h' he
        refine ⟨iv', e1, ?_, h2⟩
        rw [putd_inst] at h1
        simpa [V.inst] using h1
      | false =>
        rw [hb] at h'
        obtain ⟨t1, σ1, iv1, e1, h1, h2⟩ := gFl_true hl.1 h' he
        obtain ⟨iv', e2, h3, h4⟩ := ih hl.2 h2 e1
        refine ⟨iv', e2, ?_, h4⟩
        simp only [h1]; simpa using h3

section
variable (m : MT)
noncomputable def gIts (call : FC) (base : Nat) (l : List It) : T V → H → Iv → List H → KT → (V → T V → H → Iv → Bool) → Bool :=
  @List.rec It (fun _ => T V → H → Iv → List H → KT → (V → T V → H → Iv → Bool) → Bool) (fun t σ iv _ k _ => k t σ iv)
    (fun i r ih t σ iv hist k kp => @Bool.rec (fun _ => Bool)
      (gFl base i t σ iv hist fun t σ iv => ih t σ iv hist k kp)
      (gev1 m call i.o t σ iv (fun t σ iv => ih t σ iv (σ :: hist) k kp) fun v σ' iv => fputd t i.o.dst .undef fun t1 => gDead base i.idx r t1 σ iv (σ :: hist) fun iv => kp v t σ' iv) i.heavy) l
theorem gIts_true {fc : FC} {c : Call} (hc : FCOk fc c) (base : Nat) : ∀ (l : List It), l.all (fun i => i.o.closed) = true → ∀ {t : T V} {σ : H} {iv : Iv} {hist : List H} {k : KT} {kp : V → T V → H → Iv → Bool}, gIts m fc base l t σ iv hist k kp = true → ∀ {e : En}, iv.ok e →
    OcG e (evIts m c base l (T.vi e t) (σ.inst e) (hist.map (H.inst e))) k kp := by
  intro l
  induction l with
  | nil => intro _ t σ iv hist k kp h e he; exact ⟨iv, he, .inl ⟨t, σ, rfl, h⟩⟩
  | cons i l ih =>
    intro hl t σ iv hist k kp h e he
    simp only [List.all_cons, Bool.and_eq_true] at hl
    have h' : @Bool.rec (fun _ => Bool)
      (gFl base i t σ iv hist fun t σ iv => gIts m fc base l t σ iv hist k kp)
      (gev1 m fc i.o t σ iv (fun t σ iv => gIts m fc base l t σ iv (σ :: hist) k kp) fun v σ' iv => fputd t i.o.dst .undef fun t1 => gDead base i.idx l t1 σ iv (σ :: hist) fun iv => kp v t σ' iv) i.heavy = true := h
    simp only [evIts]
    cases hh : i.heavy with
    | true =>
      rw [hh] at h'
      obtain ⟨iv1, e1, h1⟩ := gev1_true m hc hl.1 h' he
      rcases h1 with ⟨t1, σ1, h2, h3⟩ | ⟨v, t1, σ1, h2, h3⟩
      · obtain ⟨iv2, e2, h4⟩ := ih hl.2 h3 e1
        refine ⟨iv2, e2, ?_⟩
        simp only [if_true, h2]; simpa using h4
      · have h3 : (fputd t i.o.dst .undef fun t2 => gDead base i.idx l t2 σ iv1 (σ :: hist) fun iv => kp v t σ1 iv) = true := h3
        rw [fputd_eq] at h3
        obtain ⟨iv2, e2, h4, h5⟩ := gDead_true l hl.2 h3 e1
        refine ⟨iv2, e2, .inr ⟨v, t, σ1, ?_, h5⟩⟩
        rw [putd_inst] at h4
        simp only [if_true, h2]
        rw [if_pos (by simpa [V.inst] using h4)]
    | false =>
      rw [hh] at h'
      obtain ⟨t1, σ1, iv1, e1, h1, h2⟩ := gFl_true hl.1 h' he
      obtain ⟨iv2, e2, h4⟩ := ih hl.2 h2 e1
      refine ⟨iv2, e2, ?_⟩
      simp only [Bool.false_eq_true, if_false, h1]; exact h4

/-! ### Code -/
def Ex.inst (e : En) : Ex → Ex
  | .pan v => .pan (v.inst e)
  | x => x
def dsI (e : En) (ds : List Dc) : List Dc := ds.map fun d => (d.1, d.2.map (V.inst e))
abbrev KX := Ex → T V → List Dc → H → Iv → Bool
abbrev GC := T V → List Dc → H → Iv → KX → Bool
def OutG (e : En) (o : Option Out) (k : KX) : Prop := ∃ x t ds σ iv', Iv.ok e iv' ∧ o = some ⟨x.inst e, T.vi e t, dsI e ds, σ.inst e⟩ ∧ k x t ds σ iv' = true
/-- A run of code, in the kernel's form. -/
def GOk (g : GC) (f : T V → List Dc → H → Option Out) : Prop := ∀ t ds σ iv k, g t ds σ iv k = true → ∀ e : En, iv.ok e → OutG e (f (T.vi e t) (dsI e ds) (σ.inst e)) k

def C.closed : C → Bool
  | .reg l => l.all Op.closed
  | .draw l => l.all fun i => i.o.closed
  | .seq a b => a.closed && b.closed
  | .cond q a b => q.closed && a.closed && b.closed
  | .block _ c => c.closed
  | .loop c => c.closed
  | .loopG _ c => c.closed
  | .dfr _ _ l => l.all Opd.closed
  | _ => true

noncomputable def cThen (ih : GC) (k : KX) (x : Ex) (t : T V) (ds : List Dc) (σ : H) (iv : Iv) : Bool := @Ex.rec (fun _ => Bool) (ih t ds σ iv k) (fun i => k (.exit i) t ds σ iv) (k .ret t ds σ iv) (fun v => k (.pan v) t ds σ iv) x
noncomputable def cOut (id : Nat) (k : KX) (x : Ex) (t : T V) (ds : List Dc) (σ : H) (iv : Iv) : Bool := @Ex.rec (fun _ => Bool) (k .normal t ds σ iv) (fun i => @Bool.rec (fun _ => Bool) (k (.exit i) t ds σ iv) (k .normal t ds σ iv) (Nat.beq i id)) (k .ret t ds σ iv) (fun v => k (.pan v) t ds σ iv) x
noncomputable def cReg (call : FC) (l : List Op) (t : T V) (ds : List Dc) (σ : H) (iv : Iv) (k : KX) : Bool := gevOps m call l t σ iv (fun t σ iv => k .normal t ds σ iv) fun v t σ iv => k (.pan v) t ds σ iv
noncomputable def fundefs (l : List It) (t : T V) : (T V → Bool) → Bool := @List.rec It (fun _ => (T V → Bool) → Bool) (fun k => k t) (fun i _ ih k => ih fun t => fputd t i.o.dst .any k) l
theorem fundefs_eq (t : T V) : ∀ (l : List It) (k : T V → Bool), fundefs l t k = k (undefs t l)
  | [], k => rfl
  | i :: l, k => by
    show fundefs l t (fun t => fputd t i.o.dst .any k) = _
    rw [fundefs_eq t l, fputd_eq]; rfl
noncomputable def flenI (l : List It) (k : Nat → Bool) : Bool := @List.rec It (fun _ => (Nat → Bool) → Bool) (fun k => k 0) (fun _ _ ih k => ih fun n => k (Nat.succ n)) l k
theorem flenI_eq (l : List It) : ∀ k : Nat → Bool, flenI l k = k l.length := by
  induction l with
  | nil => intro k; rfl
  | cons a l ih => intro k; exact ih _
noncomputable def cDraw (call : FC) (l : List It) (t : T V) (ds : List Dc) (σ : H) (iv : Iv) (k : KX) : Bool := flenI l fun n => fN (Nat.add σ.next n) fun nx => gIts m call σ.next l t ⟨σ.t, nx⟩ iv [⟨σ.t, nx⟩] (fun t σ iv => k .normal t ds σ iv) fun v _ σ iv => fundefs l t fun t => k (.pan v) t ds σ iv
noncomputable def cSeq (a b : GC) (t : T V) (ds : List Dc) (σ : H) (iv : Iv) (k : KX) : Bool := a t ds σ iv (cThen b k)
noncomputable def cCond (q : Opd) (a b : GC) (t : T V) (ds : List Dc) (σ : H) (iv : Iv) (k : KX) : Bool := onOpd t q fun v => onBool v fun r => @Bool.rec (fun _ => Bool) (b t ds σ iv k) (a t ds σ iv k) r
noncomputable def cBlock (id : Nat) (a : GC) (t : T V) (ds : List Dc) (σ : H) (iv : Iv) (k : KX) : Bool := a t ds σ iv (cOut id k)
noncomputable def cLoop (fuel : Nat) (a : GC) : GC := @Nat.rec (fun _ => GC) (fun _ _ _ _ _ => false) (fun _ ih t ds σ iv k => a t ds σ iv (cThen ih k)) fuel
noncomputable def cDfr (d : Option Nat) (f : FuncId) (args : List Opd) (t : T V) (ds : List Dc) (σ : H) (iv : Iv) (k : KX) : Bool := gArgs t args fun as => fputd t d .undef fun t => k .normal t ((f, as) :: ds) σ iv

/-- 'lg': the rule for loops that forget. -/
noncomputable def gevC (lg : List Nat → GC → GC) (call : FC) (fuel : Nat) (c : C) : GC :=
  @C.rec (fun _ => GC) (fun t ds σ iv k => k .normal t ds σ iv) (cReg m call) (cDraw m call) (fun _ _ a b => cSeq a b) (fun q _ _ a b => cCond q a b) (fun id _ a => cBlock id a) (fun _ a => cLoop fuel a) (fun keep _ a => lg keep a)
    (fun id t ds σ iv k => k (.exit id) t ds σ iv) (fun t ds σ iv k => k .ret t ds σ iv) (fun d f args => cDfr d f args) c

def loopF (fuel : Nat) (keep : List Nat) (f : T V → List Dc → H → Option Out) (t : T V) (ds : List Dc) (σ : H) : Option Out := match ds with
  | [] => iterG f σ.next keep fuel (cutT t keep) (cutH σ.next σ)
  | _ :: _ => none
def LgOk (fuel : Nat) (lg : List Nat → GC → GC) : Prop := ∀ keep g f, GOk g f → GOk (lg keep g) (loopF fuel keep f)

theorem gevC_true {lg : List Nat → GC → GC} {fc : FC} {c : Call} (hc : FCOk fc c) (fuel : Nat) (hlg : LgOk fuel lg) (x : C) : x.closed = true → GOk (gevC m lg fc fuel x) (evC m c fuel x) := by
  induction x with
  | skip => intro _ t ds σ iv k h e he; exact ⟨.normal, t, ds, σ, iv, he, rfl, h⟩
  | reg l =>
    intro hl t ds σ iv k h e he
    have h' : gevOps m fc l t σ iv (fun t σ iv => k .normal t ds σ iv) (fun v t σ iv => k (.pan v) t ds σ iv) = true := h
    obtain ⟨iv1, e1, h1⟩ := gevOps_true m hc l hl h' he
    rcases h1 with ⟨t1, σ1, h2, h3⟩ | ⟨v, t1, σ1, h2, h3⟩
    · exact ⟨.normal, t1, ds, σ1, iv1, e1, by simp only [evC, h2]; rfl, h3⟩
    · exact ⟨.pan v, t1, ds, σ1, iv1, e1, by simp only [evC, h2]; rfl, h3⟩
  | draw l =>
    intro hl t ds σ iv k h e he
    have h' : cDraw m fc l t ds σ iv k = true := h
    unfold cDraw at h'
    rw [flenI_eq, fN_eq] at h'
    obtain ⟨iv1, e1, h1⟩ := gIts_true m hc σ.next l hl h' he
    have hr : (H.inst e ⟨σ.t, σ.next + l.length⟩) = (σ.inst e).room l.length := rfl
    simp only [List.map_cons, List.map_nil] at h1
    rcases h1 with ⟨t1, σ1, h2, h3⟩ | ⟨v, t1, σ1, h2, h3⟩
    · have h2' : evIts m c (σ.inst e).next l (T.vi e t) ((σ.inst e).room l.length) [(σ.inst e).room l.length] = some (.ok (T.vi e t1) (σ1.inst e)) := h2
      exact ⟨.normal, t1, ds, σ1, iv1, e1, by simp only [evC, h2']; rfl, h3⟩
    · rw [fundefs_eq] at h3
      have h2' : evIts m c (σ.inst e).next l (T.vi e t) ((σ.inst e).room l.length) [(σ.inst e).room l.length] = some (.pan (v.inst e) (T.vi e t1) (σ1.inst e)) := h2
      refine ⟨.pan v, _, ds, σ1, iv1, e1, ?_, h3⟩
      have hu : ∀ l : List It, undefs (T.vi e t) l = T.vi e (undefs t l) := by
        intro l
        induction l with
        | nil => rfl
        | cons i l ih => simp only [undefs, ih, putd_inst]; rfl
      simp only [evC, h2', Option.map_some, Oc.outD, hu]; rfl
  | seq a b iha ihb =>
    intro hl t ds σ iv k h e he
    simp only [C.closed, Bool.and_eq_true] at hl
    obtain ⟨x, t1, ds1, σ1, iv1, e1, h1, h2⟩ := iha hl.1 t ds σ iv (cThen (gevC m lg fc fuel b) k) h e he
    cases x with
    | normal =>
      obtain ⟨x2, t2, ds2, σ2, iv2, e2, h3, h4⟩ := ihb hl.2 t1 ds1 σ1 iv1 k h2 e e1
      exact ⟨x2, t2, ds2, σ2, iv2, e2, by simp only [evC, h1, Ex.inst]; exact h3, h4⟩
    | exit i => exact ⟨.exit i, t1, ds1, σ1, iv1, e1, by simp only [evC, h1, Ex.inst], h2⟩
    | ret => exact ⟨.ret, t1, ds1, σ1, iv1, e1, by simp only [evC, h1, Ex.inst], h2⟩
    | pan v => exact ⟨.pan v, t1, ds1, σ1, iv1, e1, by simp only [evC, h1, Ex.inst], h2⟩
  | cond q a b iha ihb =>
    intro hl t ds σ iv k h e he
    simp only [C.closed, Bool.and_eq_true] at hl
    have h' : cCond q (gevC m lg fc fuel a) (gevC m lg fc fuel b) t ds σ iv k = true := h
    unfold cCond at h'
    rw [onOpd_eq] at h'
    obtain ⟨r, h1, h2⟩ := onBool_true h'
    have hq : ev (T.vi e t) q = .bool r := by rw [ev_closed e t hl.1.1, h1]; rfl
    cases r with
    | true =>
      obtain ⟨x2, t2, ds2, σ2, iv2, e2, h3, h4⟩ := iha hl.1.2 t ds σ iv k h2 e he
      exact ⟨x2, t2, ds2, σ2, iv2, e2, by simp only [evC, hq, if_true]; exact h3, h4⟩
    | false =>
      obtain ⟨x2, t2, ds2, σ2, iv2, e2, h3, h4⟩ := ihb hl.2 t ds σ iv k h2 e he
      exact ⟨x2, t2, ds2, σ2, iv2, e2, by simp only [evC, hq, Bool.false_eq_true, if_false]; exact h3, h4⟩
  | block id a ih =>
    intro hl t ds σ iv k h e he
    simp only [C.closed] at hl
    obtain ⟨x, t1, ds1, σ1, iv1, e1, h1, h2⟩ := ih hl t ds σ iv (cOut id k) h e he
    cases x with
    | normal => exact ⟨.normal, t1, ds1, σ1, iv1, e1, by simp only [evC, h1, Ex.inst], h2⟩
    | ret => exact ⟨.ret, t1, ds1, σ1, iv1, e1, by simp only [evC, h1, Ex.inst], h2⟩
    | pan v => exact ⟨.pan v, t1, ds1, σ1, iv1, e1, by simp only [evC, h1, Ex.inst], h2⟩
    | exit i =>
      have h2' : @Bool.rec (fun _ => Bool) (k (.exit i) t1 ds1 σ1 iv1) (k .normal t1 ds1 σ1 iv1) (Nat.beq i id) = true := h2
      by_cases hi : i = id
      · subst hi
        have : Nat.beq i i = true := by simp
        rw [this] at h2'
        exact ⟨.normal, t1, ds1, σ1, iv1, e1, by simp only [evC, h1, Ex.inst, if_true], h2'⟩
      · have : Nat.beq i id = false := by cases hq : Nat.beq i id with | false => rfl | true => exact absurd (Nat.eq_of_beq_eq_true hq) hi
        rw [this] at h2'
        exact ⟨.exit i, t1, ds1, σ1, iv1, e1, by simp only [evC, h1, Ex.inst, if_neg hi], h2'⟩
  | loop a ih =>
    intro hl t ds σ iv k h e he
    simp only [C.closed] at hl
    have key : ∀ n, ∀ t ds σ iv k, cLoop n (gevC m lg fc fuel a) t ds σ iv k = true → ∀ e : En, iv.ok e → OutG e (iter (evC m c fuel a) n (T.vi e t) (dsI e ds) (σ.inst e)) k := by
      intro n
      induction n with
      | zero => intro t ds σ iv k h; exact absurd h (by intro h; cases h)
      | succ n ihn =>
        intro t ds σ iv k h e he
        obtain ⟨x, t1, ds1, σ1, iv1, e1, h1, h2⟩ := ih hl t ds σ iv (cThen (cLoop n (gevC m lg fc fuel a)) k) h e he
        simp only [iter, h1]
        cases x with
        | normal => exact ihn _ _ _ _ _ h2 e e1
        | exit i => exact ⟨.exit i, t1, ds1, σ1, iv1, e1, rfl, h2⟩
        | ret => exact ⟨.ret, t1, ds1, σ1, iv1, e1, rfl, h2⟩
        | pan v => exact ⟨.pan v, t1, ds1, σ1, iv1, e1, rfl, h2⟩
    exact key fuel t ds σ iv k h e he
  | loopG keep a ih =>
    intro hl t ds σ iv k h e he
    simp only [C.closed] at hl
    obtain ⟨x, t1, ds1, σ1, iv1, e1, h1, h2⟩ := hlg keep _ _ (ih hl) t ds σ iv k h e he
    refine ⟨x, t1, ds1, σ1, iv1, e1, ?_, h2⟩
    rw [← h1]
    cases ds <;> rfl
  | exit id => intro _ t ds σ iv k h e he; exact ⟨.exit id, t, ds, σ, iv, he, rfl, h⟩
  | ret => intro _ t ds σ iv k h e he; exact ⟨.ret, t, ds, σ, iv, he, rfl, h⟩
  | dfr d f args =>
    intro hl t ds σ iv k h e he
    simp only [C.closed, List.all_eq_true] at hl
    have h' : cDfr d f args t ds σ iv k = true := h
    unfold cDfr at h'
    rw [gArgs_eq, fputd_eq] at h'
    refine ⟨.normal, _, _, σ, iv, he, ?_, h'⟩
    have ha : args.map (ev (T.vi e t)) = (args.map (ev t)).map (V.inst e) := by
      rw [List.map_map]
      exact List.map_congr_left fun q hq => ev_closed e t (hl q hq)
    simp only [evC, ha, putd_inst]; rfl

/-! ### Calls -/
noncomputable def gres (t : T V) (σ : H) (l : List Rs) : (List V → Bool) → Bool :=
  @List.rec Rs (fun _ => (List V → Bool) → Bool) (fun k => k []) (fun r _ ih k => @Rs.rec (fun _ => Bool) (fun i => onOpd t (.t i) fun v => ih fun l => k (v :: l)) (fun a n agg => onOpd t (.t a) fun a => gload σ n agg a fun v => ih fun l => k (v :: l)) r) l
theorem gres_true (t : T V) (σ : H) (l : List Rs) : ∀ {k : List V → Bool}, gres t σ l k = true → ∃ vs, resOf t σ l = some vs ∧ k vs = true := by
  induction l with
  | nil => intro k h; exact ⟨[], rfl, h⟩
  | cons r l ih =>
    intro k h
    cases r with
    | tmp i =>
      have h' : (onOpd t (.t i) fun v => gres t σ l fun l => k (v :: l)) = true := h
      rw [onOpd_eq] at h'
      obtain ⟨vs, h1, h2⟩ := ih h'
      exact ⟨_, by simp only [resOf, h1]; rfl, h2⟩
    | cell a n agg =>
      have h' : (onOpd t (.t a) fun a => gload σ n agg a fun v => gres t σ l fun l => k (v :: l)) = true := h
      rw [onOpd_eq] at h'
      obtain ⟨v, h0, h3⟩ := gload_true h'
      obtain ⟨vs, h1, h2⟩ := ih h3
      exact ⟨_, by simp only [resOf, h0, h1]; rfl, h2⟩
theorem resOf_inst (e : En) {t : T V} {σ : H} : ∀ {l : List Rs} {vs : List V}, resOf t σ l = some vs → resOf (T.vi e t) (σ.inst e) l = some (vs.map (V.inst e))
  | [], vs, h => by simp [resOf] at h; subst h; rfl
  | .tmp i :: l, vs, h => by
    simp only [resOf] at h ⊢
    obtain ⟨us, hu, rfl⟩ := map_some' h
    rw [resOf_inst e hu, ev_inst]; rfl
  | .cell a n agg :: l, vs, h => by
    simp only [resOf] at h ⊢
    split at h
    · rename_i v hv
      obtain ⟨us, hu, rfl⟩ := map_some' h
      rw [resOf_inst e hu, ev_inst, loadV_inst e hv]; rfl
    · simp at h
noncomputable def gresV (l : List V) (k : V → Bool) : Bool := match l with
  | [v] => k v
  | l => k (.tup l)
theorem gresV_eq (l : List V) (k : V → Bool) : gresV l k = k (resV l) := by
  cases l with
  | nil => rfl
  | cons v r => cases r <;> rfl
theorem resV_inst (e : En) (l : List V) : (resV l).inst e = resV (l.map (V.inst e)) := by
  cases l with
  | nil => simp [resV, V.inst, V.insts_eq]
  | cons v r => cases r <;> simp [resV, V.inst, V.insts_eq]

abbrev KD := Option V → H → Iv → Bool
noncomputable def gEnd (fi : FnI) (u : Option V) (k : KD) (x : Ex) (t : T V) (ds : List Dc) (σ : H) (iv : Iv) : Bool :=
  match ds with
  | [] => @Ex.rec (fun _ => Bool) (gres t σ fi.res fun _ => k (match fi.rcv with | none => u | some _ => none) σ iv) (fun _ => false) (gres t σ fi.res fun _ => k (match fi.rcv with | none => u | some _ => none) σ iv) (fun _ => false) x
  | _ :: _ => false
noncomputable def gD (lg : List Nat → GC → GC) (tbl : T FnI) (call : FC) (fuel : Nat) (f : FuncId) (args : List V) (u : Option V) (σ : H) (iv : Iv) (k : KD) : Bool :=
  @Option.rec FnI (fun _ => Bool) false (fun fi => fofList args .e 0 fun t => @Option.rec (Option Nat) (fun _ => Bool) (gevC m lg call fuel fi.body t [] σ iv (gEnd fi u k)) (fun d => fputd t d (u.getD .inil) fun t => gevC m lg call fuel fi.body t [] σ iv (gEnd fi u k)) fi.rcv) (fget tbl f)
def TblClosed (tbl : T FnI) : Prop := ∀ f fi, tbl.get f = some fi → fi.body.closed = true
theorem tbl_closed {l : List (Nat × FnI)} {t : T FnI} (ht : treeOf l = t) (h : l.all (fun p => p.2.body.closed) = true) : TblClosed t := fun f fi hf => List.all_eq_true.1 h _ (tbl_get ht hf)
theorem ofList_vi (e : En) (args : List V) : T.vi e (T.ofList .e 0 args) = T.ofList .e 0 (args.map (V.inst e)) := by
  rw [T.vi, T.ofList_inst]; rfl
theorem gD_true {lg : List Nat → GC → GC} {fc : FC} {c : Call} (hc : FCOk fc c) (fuel : Nat) (hlg : LgOk fuel lg) {tbl : T FnI} (ht : TblClosed tbl) {f : FuncId} {args : List V} {u : Option V} {σ : H} {iv : Iv} {k : KD} (h : gD m lg tbl fc fuel f args u σ iv k = true) {e : En} (he : iv.ok e) :
    ∃ u' σ' iv', Iv.ok e iv' ∧ callD m tbl.get c fuel f (args.map (V.inst e)) (u.map (V.inst e)) (σ.inst e) = some (u'.map (V.inst e), σ'.inst e) ∧ k u' σ' iv' = true := by
  unfold gD at h
  rw [fget_eq] at h
  unfold callD
  cases hf : tbl.get f with
  | none => rw [hf] at h; exact absurd h (by intro h; cases h)
  | some fi =>
    rw [hf] at h
    have h' : (fofList args .e 0 fun t => @Option.rec (Option Nat) (fun _ => Bool) (gevC m lg fc fuel fi.body t [] σ iv (gEnd fi u k)) (fun d => fputd t d (u.getD .inil) fun t => gevC m lg fc fuel fi.body t [] σ iv (gEnd fi u k)) fi.rcv) = true := h
    rw [fofList_eq] at h'
    have go : ∀ {t : T V}, gevC m lg fc fuel fi.body t [] σ iv (gEnd fi u k) = true → ∃ u' σ' iv', Iv.ok e iv' ∧ (match (evC m c fuel fi.body (T.vi e t) [] (σ.inst e)).bind Out.ends with
      | none => none
      | some p => (resOf p.1 p.2 fi.res).map fun _ => (match fi.rcv with | none => u.map (V.inst e) | some _ => none, p.2)) = some (u'.map (V.inst e), σ'.inst e) ∧ k u' σ' iv' = true := by
      intro t h
      obtain ⟨x, t1, ds1, σ1, iv1, e1, h1, h2⟩ := gevC_true m hc fuel hlg fi.body (ht f fi hf) t [] σ iv _ h e he
      have h1' : evC m c fuel fi.body (T.vi e t) [] (σ.inst e) = _ := h1
      cases ds1 with
      | cons d ds1 => exact absurd h2 (by simp [gEnd])
      | nil =>
        have fin : (gres t1 σ1 fi.res fun _ => k (match fi.rcv with | none => u | some _ => none) σ1 iv1) = true → (x = .normal ∨ x = .ret) → ∃ u' σ' iv', Iv.ok e iv' ∧ (match (evC m c fuel fi.body (T.vi e t) [] (σ.inst e)).bind Out.ends with
          | none => none
          | some p => (resOf p.1 p.2 fi.res).map fun _ => (match fi.rcv with | none => u.map (V.inst e) | some _ => none, p.2)) = some (u'.map (V.inst e), σ'.inst e) ∧ k u' σ' iv' = true := by
          intro h3 hx
          obtain ⟨vs, h4, h5⟩ := gres_true t1 σ1 fi.res h3
          refine ⟨_, σ1, iv1, e1, ?_, h5⟩
          have h6 := resOf_inst e h4
          rw [h1']
          rcases hx with rfl | rfl <;> simp only [Option.bind_some, Ex.inst, dsI, List.map_nil, Out.ends, h6, Option.map_some] <;> cases fi.rcv <;> rfl
        cases x with
        | normal => exact fin h2 (.inl rfl)
        | ret => exact fin h2 (.inr rfl)
        | exit i => exact absurd h2 (by intro h; cases h)
        | pan v => exact absurd h2 (by intro h; cases h)
    simp only
    cases hr : fi.rcv with
    | none =>
      rw [hr] at h'
      have := go h'
      rw [ofList_vi, hr] at this
      exact this
    | some d =>
      rw [hr] at h'
      change fputd _ _ _ _ = true at h'
      rw [fputd_eq] at h'
      have := go h'
      rw [putd_inst, ofList_vi, hr] at this
      have hu : (u.getD .inil).inst e = (u.map (V.inst e)).getD .inil := by cases u <;> rfl
      rw [hu] at this
      exact this

noncomputable def gRunD (lg : List Nat → GC → GC) (tbl : T FnI) (call : FC) (fuel : Nat) (ds : List Dc) : Option V → H → Iv → KD → Bool :=
  @List.rec Dc (fun _ => Option V → H → Iv → KD → Bool) (fun u σ iv k => k u σ iv) (fun d _ ih u σ iv k => gD m lg tbl call fuel d.1 d.2 u σ iv fun u σ iv => ih u σ iv k) ds
theorem gRunD_true {lg : List Nat → GC → GC} {fc : FC} {c : Call} (hc : FCOk fc c) (fuel : Nat) (hlg : LgOk fuel lg) {tbl : T FnI} (ht : TblClosed tbl) : ∀ (ds : List Dc) {u : Option V} {σ : H} {iv : Iv} {k : KD}, gRunD m lg tbl fc fuel ds u σ iv k = true → ∀ {e : En}, iv.ok e →
    ∃ u' σ' iv', Iv.ok e iv' ∧ runD m tbl.get c fuel (dsI e ds) (u.map (V.inst e)) (σ.inst e) = some (u'.map (V.inst e), σ'.inst e) ∧ k u' σ' iv' = true := by
  intro ds
  induction ds with
  | nil => intro u σ iv k h e he; exact ⟨u, σ, iv, he, rfl, h⟩
  | cons d ds ih =>
    intro u σ iv k h e he
    have h' : gD m lg tbl fc fuel d.1 d.2 u σ iv (fun u σ iv => gRunD m lg tbl fc fuel ds u σ iv k) = true := h
    obtain ⟨u1, σ1, iv1, e1, h1, h2⟩ := gD_true m hc fuel hlg ht h' he
    obtain ⟨u2, σ2, iv2, e2, h3, h4⟩ := ih h2 e1
    refine ⟨u2, σ2, iv2, e2, ?_, h4⟩
    have e3 : dsI e (d :: ds) = (d.1, d.2.map (V.inst e)) :: dsI e ds := rfl
    rw [e3]
    simp only [runD, h1]; exact h3

noncomputable def gDone (lg : List Nat → GC → GC) (tbl : T FnI) (call : FC) (fuel : Nat) (res : List Rs) (kr kp : KV) (x : Ex) (t : T V) (ds : List Dc) (σ : H) (iv : Iv) : Bool :=
  @Ex.rec (fun _ => Bool) (gRunD m lg tbl call fuel ds none σ iv fun u σ iv => @Option.rec V (fun _ => Bool) (gres t σ res fun l => gresV l fun v => kr v σ iv) (fun v => kp v σ iv) u) (fun _ => false)
    (gRunD m lg tbl call fuel ds none σ iv fun u σ iv => @Option.rec V (fun _ => Bool) (gres t σ res fun l => gresV l fun v => kr v σ iv) (fun v => kp v σ iv) u)
    (fun v => gRunD m lg tbl call fuel ds (some v) σ iv fun u σ iv => @Option.rec V (fun _ => Bool) (gres t σ res fun l => gresV l fun v => kr v σ iv) (fun v => kp v σ iv) u) x

/-- Calls; 'sel': what is taken from elsewhere. -/
noncomputable def gcall (lg : List Nat → GC → GC) (sel : FuncId → List V → Bool) (gs : FC) (tbl : T FnI) (fuel : Nat) (d : Nat) : FC :=
  @Nat.rec (fun _ => FC) (fun _ _ _ _ _ _ => false) (fun _ ih f args σ iv kr kp => @Bool.rec (fun _ => Bool)
    (@Option.rec FnI (fun _ => Bool) false (fun fi => @Option.rec (Option Nat) (fun _ => Bool) (fofList args .e 0 fun t => gevC m lg ih fuel fi.body t [] σ iv (gDone m lg tbl ih fuel fi.res kr kp)) (fun _ => false) fi.rcv) (fget tbl f))
    (gs f args σ iv kr kp) (sel f args)) d
/-- What is taken from elsewhere, and when. -/
structure SelOk (sel : FuncId → List V → Bool) (gs : FC) (sm : Call) : Prop where
  yes : ∀ f as σ iv (kr kp : KV), sel f as = true → gs f as σ iv kr kp = true → ∀ e : En, iv.ok e →
    ∃ iv' : Iv, iv'.ok e ∧ ((∃ v σ', sm f (as.map (V.inst e)) (σ.inst e) = some (.ret (v.inst e) (σ'.inst e)) ∧ kr v σ' iv' = true) ∨ ∃ v σ', sm f (as.map (V.inst e)) (σ.inst e) = some (.pan (v.inst e) (σ'.inst e)) ∧ kp v σ' iv' = true)
  no : ∀ f as (e : En) σ, sel f as = false → sm f (as.map (V.inst e)) σ = none
theorem gcall_true {lg : List Nat → GC → GC} {sel : FuncId → List V → Bool} {gs : FC} {sm : Call} (hs : SelOk sel gs sm) {tbl : T FnI} (ht : TblClosed tbl) (fuel : Nat) (hlg : LgOk fuel lg) : ∀ d, FCOk (gcall m lg sel gs tbl fuel d) (callF m sm tbl.get fuel d) := by
  intro d
  induction d with
  | zero => intro f as σ iv kr kp h; exact absurd h (by intro h; cases h)
  | succ d ih =>
    intro f as σ iv kr kp h e he
    have h' : @Bool.rec (fun _ => Bool)
      (@Option.rec FnI (fun _ => Bool) false (fun fi => @Option.rec (Option Nat) (fun _ => Bool) (fofList as .e 0 fun t => gevC m lg (gcall m lg sel gs tbl fuel d) fuel fi.body t [] σ iv (gDone m lg tbl (gcall m lg sel gs tbl fuel d) fuel fi.res kr kp)) (fun _ => false) fi.rcv) (fget tbl f))
      (gs f as σ iv kr kp) (sel f as) = true := h
    simp only [callF]
    cases hsel : sel f as with
    | true =>
      rw [hsel] at h'
      obtain ⟨iv1, e1, h1⟩ := hs.yes f as σ iv kr kp hsel h' e he
      refine ⟨iv1, e1, ?_⟩
      rcases h1 with ⟨v, σ', h2, h3⟩ | ⟨v, σ', h2, h3⟩
      · exact .inl ⟨v, σ', by rw [h2], h3⟩
      · exact .inr ⟨v, σ', by rw [h2], h3⟩
    | false =>
      rw [hsel, fget_eq] at h'
      rw [hs.no f as e _ hsel]
      cases hf : tbl.get f with
      | none => rw [hf] at h'; exact absurd h' (by intro h; cases h)
      | some fi =>
        rw [hf] at h'
        cases hr : fi.rcv with
        | some dd =>
          have h2 : @Option.rec (Option Nat) (fun _ => Bool) (fofList as .e 0 fun t => gevC m lg (gcall m lg sel gs tbl fuel d) fuel fi.body t [] σ iv (gDone m lg tbl (gcall m lg sel gs tbl fuel d) fuel fi.res kr kp)) (fun _ => false) fi.rcv = true := h'
          rw [hr] at h2; exact absurd h2 (by intro h; cases h)
        | none =>
          have h2 : @Option.rec (Option Nat) (fun _ => Bool) (fofList as .e 0 fun t => gevC m lg (gcall m lg sel gs tbl fuel d) fuel fi.body t [] σ iv (gDone m lg tbl (gcall m lg sel gs tbl fuel d) fuel fi.res kr kp)) (fun _ => false) fi.rcv = true := h'
          rw [hr] at h2
          change (fofList as .e 0 _) = true at h2
          rw [fofList_eq] at h2
          obtain ⟨x, t1, ds1, σ1, iv1, e1, h3, h4⟩ := gevC_true m ih fuel hlg fi.body (ht f fi hf) _ [] σ iv _ h2 e he
          rw [ofList_vi] at h3
          have h3' : evC m (callF m sm tbl.get fuel d) fuel fi.body (T.ofList .e 0 (as.map (V.inst e))) [] (σ.inst e) = _ := h3
          simp only [hr, Option.isSome_none, Bool.false_eq_true, if_false, h3']
          have fin : ∀ u : Option V, (gRunD m lg tbl (gcall m lg sel gs tbl fuel d) fuel ds1 u σ1 iv1 fun u σ iv => @Option.rec V (fun _ => Bool) (gres t1 σ fi.res fun l => gresV l fun v => kr v σ iv) (fun v => kp v σ iv) u) = true → (x.inst e).mode = some (u.map (V.inst e)) → ∀ (sw : Option Rt), sw = (match (x.inst e).mode with
              | none => none
              | some u => match runD m tbl.get (callF m sm tbl.get fuel d) fuel (dsI e ds1) u (σ1.inst e) with
                | some (none, σ') => (resOf (T.vi e t1) σ' fi.res).map fun l => .ret (resV l) σ'
                | some (some v, σ') => some (.pan v σ')
                | none => none) →
              ∃ iv' : Iv, iv'.ok e ∧ ((∃ v σ', sw = some (.ret (v.inst e) (σ'.inst e)) ∧ kr v σ' iv' = true) ∨ ∃ v σ', sw = some (.pan (v.inst e) (σ'.inst e)) ∧ kp v σ' iv' = true) := by
            intro u h5 hm sw hsw
            obtain ⟨u2, σ2, iv2, e2, h6, h7⟩ := gRunD_true m ih fuel hlg ht ds1 h5 e1
            cases u2 with
            | none =>
              have h7' : (gres t1 σ2 fi.res fun l => gresV l fun v => kr v σ2 iv2) = true := h7
              obtain ⟨vs, h8, h9⟩ := gres_true _ _ _ h7'
              rw [gresV_eq] at h9
              refine ⟨iv2, e2, .inl ⟨_, σ2, ?_, h9⟩⟩
              simp only [hsw, hm, h6, Option.map_none, resOf_inst e h8, Option.map_some, resV_inst]
            | some v =>
              refine ⟨iv2, e2, .inr ⟨v, σ2, ?_, h7⟩⟩
              simp only [hsw, hm, h6, Option.map_some]
          cases x with
          | exit i => exact absurd h4 (by intro h; cases h)
          | normal => exact fin none h4 rfl _ rfl
          | ret => exact fin none h4 rfl _ rfl
          | pan v => exact fin (some v) h4 rfl _ rfl
end
end Go.Abs
