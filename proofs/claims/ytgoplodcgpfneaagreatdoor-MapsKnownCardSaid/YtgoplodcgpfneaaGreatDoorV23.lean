import Derived.Test.YtgoplodcgpfneaaGreatDoorV22
/-! The evaluator for Lean's kernel: code and calls. -/
namespace Go.Abs
set_option linter.unusedVariables false

abbrev FC := FuncId → List V → H → (V → H → Bool) → Bool
def FCOk (fc : FC) (c : Call) : Prop := ∀ f as σ k, fc f as σ k = true → ∃ v σ', c f as σ = some (v, σ') ∧ k v σ' = true

section
variable (m : TypeId → String → Option FuncId)

noncomputable def fev1 (call : FC) (o : Op) (t : T V) (σ : H) (k : T V → H → Bool) : Bool :=
  @Bool.rec (fun _ => Bool) (fputd t o.dst .undef fun t => k t σ)
    (fstep m σ t o.x (fun v σ => fputd t o.dst v fun t => k t σ) (fun f as σ => call f as σ fun v σ => fputd t o.dst v fun t => k t σ)) (fwant t o.g)

theorem fev1_true {fc : FC} {c : Call} (hc : FCOk fc c) {o : Op} {t : T V} {σ : H} {k : T V → H → Bool} (h : fev1 m fc o t σ k = true) : ∃ t' σ', ev1 m c o t σ = some (t', σ') ∧ k t' σ' = true := by
  unfold fev1 at h
  rw [fwant_eq] at h
  unfold ev1
  cases hw : wantedV t o.g with
  | false =>
    rw [hw] at h
    change fputd _ _ _ _ = true at h
    rw [fputd_eq] at h
    exact ⟨_, _, rfl, h⟩
  | true =>
    rw [hw] at h
    change fstep _ _ _ _ _ _ = true at h
    rcases fstep_true m h with ⟨v, σ', h1, h2⟩ | ⟨f, as, σ', h1, h2⟩
    · rw [fputd_eq] at h2
      simp only [if_true, h1]
      exact ⟨_, _, rfl, h2⟩
    · obtain ⟨v, σ2, h3, h4⟩ := hc _ _ _ _ h2
      rw [fputd_eq] at h4
      simp only [if_true, h1, h3]
      exact ⟨_, _, rfl, h4⟩

noncomputable def fevOps (call : FC) (l : List Op) : T V → H → (T V → H → Bool) → Bool :=
  @List.rec Op (fun _ => T V → H → (T V → H → Bool) → Bool) (fun t σ k => k t σ) (fun o _ ih t σ k => fev1 m call o t σ fun t σ => ih t σ k) l
theorem fevOps_true {fc : FC} {c : Call} (hc : FCOk fc c) (l : List Op) : ∀ {t : T V} {σ : H} {k : T V → H → Bool}, fevOps m fc l t σ k = true → ∃ t' σ', evOps m c l t σ = some (t', σ') ∧ k t' σ' = true := by
  induction l with
  | nil => intro t σ k h; exact ⟨t, σ, rfl, h⟩
  | cons o l ih =>
    intro t σ k h
    obtain ⟨t1, σ1, h1, h2⟩ := fev1_true m hc (k := fun t σ => fevOps m fc l t σ k) h
    obtain ⟨t2, σ2, h3, h4⟩ := ih h2
    refine ⟨t2, σ2, ?_, h4⟩
    simp only [evOps, h1]; exact h3

noncomputable def fheld (n : Nat) (agg : Bool) (a v : V) (k : Nat) : List H → Bool :=
  @Nat.rec (fun _ => List H → Bool) (fun _ => true) (fun _ ih l => match l with
    | σ :: r => floadV σ n agg a fun u => fIf (V.same 40 u v) (ih r)
    | [] => false) k
theorem fheld_true (n : Nat) (agg : Bool) (a v : V) : ∀ (k : Nat) (l : List H), fheld n agg a v k l = true → held n agg a v k l = true := by
  intro k
  induction k with
  | zero => intro l _; cases l <;> rfl
  | succ k ih =>
    intro l h
    cases l with
    | nil => simp [fheld] at h
    | cons σ r =>
      have h' : (floadV σ n agg a fun u => fIf (V.same 40 u v) (fheld n agg a v k r)) = true := h
      obtain ⟨u, h1, h2⟩ := floadV_true h'
      obtain ⟨h3, h4⟩ := fIf_true h2
      simp only [held, h1, h3, ih r h4]; rfl

noncomputable def fevIt (call : FC) (base : Nat) (i : It) (t : T V) (σ : H) (hist : List H) (k : T V → H → Bool) : Bool :=
  @Bool.rec (fun _ => Bool)
    (@Bool.rec (fun _ => Bool) (fputd t i.o.dst .undef fun t => k t σ)
      (match i.o.x with
      | .l x => fopt (stepL (fev t) x) fun v => fV 3 v fun v => fputd t i.o.dst v fun t => k t σ
      | .a x => fmake (fev t) x fun B mk => fN (base + i.idx) fun b => fV 1 (mk b) fun v => fputd t i.o.dst v fun t => fset σ b B fun σ => k t σ
      | .load n agg a => floadV σ n agg (fev t a) fun v => fIf (fheld n agg (fev t a) v i.back hist) (fputd t i.o.dst v fun t => k t σ)
      | _ => false) (fwant t i.o.g))
    (fev1 m call i.o t σ k) i.heavy
theorem fevIt_true {fc : FC} {c : Call} (hc : FCOk fc c) {base : Nat} {i : It} {t : T V} {σ : H} {hist : List H} {k : T V → H → Bool} (h : fevIt m fc base i t σ hist k = true) :
    ∃ t' σ', evIt m c base i t σ hist = some (t', σ') ∧ k t' σ' = true := by
  unfold fevIt at h
  unfold evIt
  cases hh : i.heavy with
  | true =>
    rw [hh] at h
    exact fev1_true m hc h
  | false =>
    rw [hh, fwant_eq] at h
    cases hw : wantedV t i.o.g with
    | false =>
      rw [hw] at h
      change fputd _ _ _ _ = true at h
      rw [fputd_eq] at h
      exact ⟨_, _, rfl, h⟩
    | true =>
      rw [hw] at h
      simp only [fev_eq] at h
      simp only [Bool.false_eq_true, if_false, if_true]
      cases hx : i.o.x with
      | l x =>
        rw [hx] at h
        obtain ⟨v, h1, h2⟩ := fopt_true (o := stepL (ev t) x) h
        rw [fV_eq, fputd_eq] at h2
        simp only [h1]
        exact ⟨_, _, rfl, h2⟩
      | a x =>
        rw [hx] at h
        obtain ⟨B, mk, h1, h2⟩ := fmake_true (ρ := ev t) (x := x) h
        simp only [fN_eq, fV_eq, fputd_eq, fset_eq] at h2
        simp only [h1]
        exact ⟨_, _, rfl, h2⟩
      | load n agg a =>
        rw [hx] at h
        obtain ⟨v, h1, h2⟩ := floadV_true (a := ev t a) h
        obtain ⟨h3, h4⟩ := fIf_true h2
        rw [fputd_eq] at h4
        simp only [h1]
        rw [if_pos (fheld_true _ _ _ _ _ _ h3)]
        exact ⟨_, _, rfl, h4⟩
      | _ => rw [hx] at h; simp at h

noncomputable def fevIts (call : FC) (base : Nat) (l : List It) : T V → H → List H → (T V → H → Bool) → Bool :=
  @List.rec It (fun _ => T V → H → List H → (T V → H → Bool) → Bool) (fun t σ _ k => k t σ)
    (fun i _ ih t σ hist k => fevIt m call base i t σ hist fun t σ => ih t σ (@Bool.rec (fun _ => List H) hist (σ :: hist) i.heavy) k) l
theorem fevIts_true {fc : FC} {c : Call} (hc : FCOk fc c) (base : Nat) (l : List It) : ∀ {t : T V} {σ : H} {hist : List H} {k : T V → H → Bool}, fevIts m fc base l t σ hist k = true → ∃ t' σ', evIts m c base l t σ hist = some (t', σ') ∧ k t' σ' = true := by
  induction l with
  | nil => intro t σ hist k h; exact ⟨t, σ, rfl, h⟩
  | cons i l ih =>
    intro t σ hist k h
    obtain ⟨t1, σ1, h1, h2⟩ := fevIt_true m hc (k := fun t σ => fevIts m fc base l t σ (@Bool.rec (fun _ => List H) hist (σ :: hist) i.heavy) k) h
    obtain ⟨t2, σ2, h3, h4⟩ := ih h2
    refine ⟨t2, σ2, ?_, h4⟩
    simp only [evIts, h1]
    cases hh : i.heavy <;> (rw [hh] at h3; exact h3)

noncomputable def fiter (body : T V → H → (Ex → T V → H → Bool) → Bool) (n : Nat) : T V → H → (Ex → T V → H → Bool) → Bool :=
  @Nat.rec (fun _ => T V → H → (Ex → T V → H → Bool) → Bool) (fun _ _ _ => false) (fun _ ih t σ k => body t σ fun x t σ => match x with
    | .normal => ih t σ k
    | x => k x t σ) n

noncomputable def flenI (l : List It) (k : Nat → Bool) : Bool := @List.rec It (fun _ => (Nat → Bool) → Bool) (fun k => k 0) (fun _ _ ih k => ih fun n => k (Nat.succ n)) l k
theorem flenI_eq (l : List It) : ∀ k : Nat → Bool, flenI l k = k l.length := by
  induction l with
  | nil => intro k; rfl
  | cons a l ih => intro k; exact ih _

noncomputable def fevC (call : FC) (fuel : Nat) (c : C) : T V → H → (Ex → T V → H → Bool) → Bool :=
  @C.rec (fun _ => T V → H → (Ex → T V → H → Bool) → Bool)
    (fun t σ k => k .normal t σ)
    (fun l t σ k => fevOps m call l t σ fun t σ => k .normal t σ)
    (fun l t σ k => flenI l fun n => fN (Nat.add σ.next n) fun nx => fevIts m call σ.next l t ⟨σ.t, nx⟩ [⟨σ.t, nx⟩] fun t σ => k .normal t σ)
    (fun _ _ iha ihb t σ k => iha t σ fun x t σ => match x with
      | .normal => ihb t σ k
      | x => k x t σ)
    (fun q _ _ iha ihb t σ k => match fev t q with
      | .bool b => @Bool.rec (fun _ => Bool) (ihb t σ k) (iha t σ k) b
      | _ => false)
    (fun id _ ih t σ k => ih t σ fun x t σ => match x with
      | .exit i => @Bool.rec (fun _ => Bool) (k (.exit i) t σ) (k .normal t σ) (Nat.beq i id)
      | x => k x t σ)
    (fun _ ih t σ k => fiter ih fuel t σ k)
    (fun id t σ k => k (.exit id) t σ)
    (fun t σ k => k .ret t σ) c

theorem fevC_true {fc : FC} {c : Call} (hc : FCOk fc c) (fuel : Nat) (x : C) : ∀ {t : T V} {σ : H} {k : Ex → T V → H → Bool}, fevC m fc fuel x t σ k = true → ∃ o, evC m c fuel x t σ = some o ∧ k o.x o.t o.σ = true := by
  induction x with
  | skip => intro t σ k h; exact ⟨_, rfl, h⟩
  | reg l =>
    intro t σ k h
    obtain ⟨t', σ', h1, h2⟩ := fevOps_true m hc l (k := fun t σ => k .normal t σ) h
    exact ⟨⟨.normal, t', σ'⟩, by simp only [evC, h1]; rfl, h2⟩
  | draw l =>
    intro t σ k h
    have h' : (flenI l fun n => fN (Nat.add σ.next n) fun nx => fevIts m fc σ.next l t ⟨σ.t, nx⟩ [⟨σ.t, nx⟩] fun t σ => k .normal t σ) = true := h
    rw [flenI_eq, fN_eq] at h'
    obtain ⟨t', σ', h1, h2⟩ := fevIts_true m hc σ.next l (k := fun t σ => k .normal t σ) h'
    have h1' : evIts m c σ.next l t (σ.room l.length) [σ.room l.length] = some (t', σ') := h1
    exact ⟨⟨.normal, t', σ'⟩, by simp only [evC, h1']; rfl, h2⟩
  | seq a b iha ihb =>
    intro t σ k h
    obtain ⟨⟨x, t1, σ1⟩, h1, h2⟩ := iha (k := fun x t σ => match x with
      | .normal => fevC m fc fuel b t σ k
      | x => k x t σ) h
    cases x with
    | normal =>
      obtain ⟨o, h3, h4⟩ := ihb (k := k) h2
      exact ⟨o, by simp only [evC, h1]; exact h3, h4⟩
    | exit i => exact ⟨⟨.exit i, t1, σ1⟩, by simp only [evC, h1], h2⟩
    | ret => exact ⟨⟨.ret, t1, σ1⟩, by simp only [evC, h1], h2⟩
  | cond q a b iha ihb =>
    intro t σ k h
    have h' : (match fev t q with
      | .bool z => @Bool.rec (fun _ => Bool) (fevC m fc fuel b t σ k) (fevC m fc fuel a t σ k) z
      | _ => false) = true := h
    rw [fev_eq] at h'
    simp only [evC]
    split at h'
    · rename_i z hz
      simp only [hz]
      cases z with
      | true => exact iha (k := k) h'
      | false => exact ihb (k := k) h'
    · simp at h'
  | block id a ih =>
    intro t σ k h
    obtain ⟨⟨x, t1, σ1⟩, h1, h2⟩ := ih (k := fun x t σ => match x with
      | .exit i => @Bool.rec (fun _ => Bool) (k (.exit i) t σ) (k .normal t σ) (Nat.beq i id)
      | x => k x t σ) h
    simp only [evC, h1]
    cases x with
    | normal => exact ⟨⟨.normal, t1, σ1⟩, rfl, h2⟩
    | ret => exact ⟨⟨.ret, t1, σ1⟩, rfl, h2⟩
    | exit i =>
      by_cases e : i = id
      · subst e
        have : Nat.beq i i = true := by simp
        simp only [this] at h2
        exact ⟨⟨.normal, t1, σ1⟩, by simp, h2⟩
      · have : Nat.beq i id = false := by cases hq : Nat.beq i id with | false => rfl | true => exact absurd (Nat.eq_of_beq_eq_true hq) e
        simp only [this] at h2
        exact ⟨⟨.exit i, t1, σ1⟩, by simp [e], h2⟩
  | loop a ih =>
    intro t σ k h
    simp only [evC]
    have key : ∀ n {t : T V} {σ : H}, fiter (fevC m fc fuel a) n t σ k = true → ∃ o, iter (evC m c fuel a) n t σ = some o ∧ k o.x o.t o.σ = true := by
      intro n
      induction n with
      | zero => intro t σ h; simp [fiter] at h
      | succ n ihn =>
        intro t σ h
        obtain ⟨⟨x, t1, σ1⟩, h1, h2⟩ := ih (k := fun x t σ => match x with
          | .normal => fiter (fevC m fc fuel a) n t σ k
          | x => k x t σ) h
        simp only [iter, h1]
        cases x with
        | normal => exact ihn h2
        | exit i => exact ⟨⟨.exit i, t1, σ1⟩, rfl, h2⟩
        | ret => exact ⟨⟨.ret, t1, σ1⟩, rfl, h2⟩
    exact key fuel h
  | exit id => intro t σ k h; exact ⟨_, rfl, h⟩
  | ret => intro t σ k h; exact ⟨_, rfl, h⟩

noncomputable def fres (t : T V) (σ : H) (l : List Rs) : (List V → Bool) → Bool :=
  @List.rec Rs (fun _ => (List V → Bool) → Bool) (fun k => k []) (fun r _ ih k => match r with
    | .tmp i => fV 0 (fev t (.t i)) fun v => ih fun l => k (v :: l)
    | .cell a n agg => floadV σ n agg (fev t (.t a)) fun v => ih fun l => k (v :: l)) l
theorem fres_true (t : T V) (σ : H) (l : List Rs) : ∀ {k : List V → Bool}, fres t σ l k = true → ∃ vs, resOf t σ l = some vs ∧ k vs = true := by
  induction l with
  | nil => intro k h; exact ⟨[], rfl, h⟩
  | cons r l ih =>
    intro k h
    cases r with
    | tmp i =>
      have h' : (fV 0 (fev t (.t i)) fun v => fres t σ l fun l => k (v :: l)) = true := h
      rw [fV_eq, fev_eq] at h'
      obtain ⟨vs, h1, h2⟩ := ih h'
      exact ⟨_, by simp only [resOf, h1]; rfl, h2⟩
    | cell a n agg =>
      have h' : (floadV σ n agg (fev t (.t a)) fun v => fres t σ l fun l => k (v :: l)) = true := h
      rw [fev_eq] at h'
      obtain ⟨v, h0, h3⟩ := floadV_true h'
      obtain ⟨vs, h1, h2⟩ := ih h3
      exact ⟨_, by simp only [resOf, h0, h1]; rfl, h2⟩

noncomputable def fresV (l : List V) (k : V → Bool) : Bool := match l with
  | [v] => k v
  | l => k (.tup l)
theorem fresV_eq (l : List V) (k : V → Bool) : fresV l k = k (resV l) := by
  cases l with
  | nil => rfl
  | cons v r => cases r <;> rfl

noncomputable def fcall (tbl : T FnI) (fuel : Nat) (d : Nat) : FC :=
  @Nat.rec (fun _ => FC) (fun _ _ _ _ => false) (fun _ ih f args σ k =>
    @Option.rec FnI (fun _ => Bool) false (fun fi => fofList args .e 0 fun t => fevC m ih fuel fi.body t σ fun x t σ => match x with
      | .exit _ => false
      | _ => fres t σ fi.res fun l => fresV l fun v => k v σ) (fget tbl f)) d
theorem fcall_true (tbl : T FnI) (fuel : Nat) : ∀ d, FCOk (fcall m tbl fuel d) (callF m tbl.get fuel d) := by
  intro d
  induction d with
  | zero => intro f as σ k h; simp [fcall] at h
  | succ d ih =>
    intro f as σ k h
    have h' : @Option.rec FnI (fun _ => Bool) false (fun fi => fofList as .e 0 fun t => fevC m (fcall m tbl fuel d) fuel fi.body t σ fun x t σ => match x with
      | .exit _ => false
      | _ => fres t σ fi.res fun l => fresV l fun v => k v σ) (fget tbl f) = true := h
    rw [fget_eq] at h'
    simp only [callF]
    cases hf : tbl.get f with
    | none => rw [hf] at h'; simp at h'
    | some fi =>
      rw [hf] at h'
      simp only [fofList_eq] at h'
      obtain ⟨⟨x, t1, σ1⟩, h1, h2⟩ := fevC_true m ih fuel fi.body h'
      simp only [h1]
      cases x with
      | exit i => simp at h2
      | normal =>
        obtain ⟨vs, h3, h4⟩ := fres_true _ _ _ h2
        rw [fresV_eq] at h4
        exact ⟨_, _, by simp only [h3]; rfl, h4⟩
      | ret =>
        obtain ⟨vs, h3, h4⟩ := fres_true _ _ _ h2
        rw [fresV_eq] at h4
        exact ⟨_, _, by simp only [h3]; rfl, h4⟩
end
end Go.Abs
