/- PART of the proof of CallsKnown: Operations in a row. No condition. -/
import Derived.Test.YtecebpjfidpchaaGreatU12
import Derived.Tactics
/-! Operations in a row. -/
namespace Go.Abs

def compG (ops : Array Oper) : Option (Nat × Bool) → Option (Option (Nat × Bool))
  | none => some none
  | some (j, b) => match (ops[j]?).bind (·.dst) with
    | some d => some (some (d, b))
    | none => none

def dstOk (nt : Nat) : Option Nat → Bool
  | some d => decide (d < nt)
  | none => true

def compOp (P : Program) (gl : List Nat) (nt : Nat) (ops : Array Oper) (o : Oper) : Option Op :=
  match compX P gl o.op, compG ops o.guard with
  | some x, some g => if dstOk nt o.dst = true then some ⟨o.dst, x, g⟩ else none
  | _, _ => none

/-- What a call comes to, ours and the program's. -/
def RtOk (φ : F) (σ : H) (w : World) : Rt → Ending → World → Prop
  | .ret v σ', e, w' => ∃ v' φ', e = .returned v' ∧ Sim φ σ w φ' σ' w' ∧ VRel φ' v v'
  | .pan v σ', e, w' => ∃ v' φ', e = .panicked [{ v := v', recovered := false }] ∧ Sim φ σ w φ' σ' w' ∧ VRel φ' v v'
/-- A call does what 'call' says. -/
def CallOk (P : Program) (gl : List Nat) (call : Call) : Prop :=
  ∀ f args σ r, call f args σ = some r → ∀ (φ : F) (w : World) (args' : List Value), Rel φ σ w → GRel φ gl → VRels φ args args' →
    (callFunc f ⟨args'⟩).run P w = .ok (.enter f ⟨args'⟩) w ∧ Calls P f ⟨args'⟩ w (RtOk φ σ w r)

/-- A frame of ours for a frame of the program's; 'ds': what is deferred. -/
structure ARel (φ : F) (nt : Nat) (ds : List Deferred) (t : T V) (a : Act) : Prop where
  rel : TRel φ t a.tmps
  size : nt ≤ a.tmps.size
  defers : a.defers = ds

section
variable {P : Program} {gl : List Nat} {φ : F} {σ : H} {w : World} {nt : Nat} {ds : List Deferred} {t : T V} {a : Act}

theorem GRel.mono {ψ : F} (h : GRel φ gl) (hle : φ.le ψ) : GRel ψ gl := fun g hg => by
  obtain ⟨p, hp, h1, h2⟩ := h g hg
  exact ⟨p, hle _ _ hp, h1, h2⟩
theorem TRel.mono {ψ : F} {tm : Array Value} (h : TRel φ t tm) (hle : φ.le ψ) : TRel ψ t tm := fun i => (h i).mono hle
theorem ARel.mono {ψ : F} (h : ARel φ nt ds t a) (hle : φ.le ψ) : ARel ψ nt ds t a := ⟨h.rel.mono hle, h.size, h.defers⟩

theorem ev_put (t : T V) (d : Nat) (v : V) (i : Nat) : ev (t.put d (some v)) (.t i) = if d = i then v else ev t (.t i) := by
  simp only [ev, T.get_put]
  split <;> rfl

theorem ARel.put (h : ARel φ nt ds t a) {d : Option Nat} (hd : dstOk nt d = true) {v : V} {v' : Value} (hv : VRel φ v v') : ARel φ nt ds (putd t d v) (a.put d v') := by
  cases d with
  | none => exact h
  | some d =>
    simp [dstOk] at hd
    refine ⟨fun i => ?_, by simp [Act.put, h.size], by simp [Act.put, h.defers]⟩
    rw [putd, ev_put]
    by_cases hi : d = i
    · subst hi
      rw [if_pos rfl]
      have : d < a.tmps.size := by exact Nat.lt_of_lt_of_le hd h.size
      simp [Act.put, this]; exact hv
    · rw [if_neg hi]
      have := h.rel i
      simp [Act.put, hi] at this ⊢
      exact this

theorem wanted_eq (h : ARel φ nt ds t a) {ops : Array Oper} {g : Option (Nat × Bool)} {g' : Option (Nat × Bool)} {o : Oper} (hg : o.guard = g) (hc : compG ops g = some g') (hu : unk t g' = false) : Region.wanted o (yielded ops a.tmps) = wantedV t g' := by
  unfold Region.wanted
  rw [hg]
  cases g with
  | none => simp [compG] at hc; subst hc; rfl
  | some p =>
    obtain ⟨j, b⟩ := p
    simp only [compG] at hc
    split at hc
    · rename_i d hd
      simp at hc; subst hc
      simp only [yielded, hd, Option.bind_some, wantedV]
      have hv := h.rel d
      simp only [unk, Bool.not_eq_false'] at hu
      cases hx : a.tmps[d]? with
      | none =>
        have : a.tmps.getD d Go.undef = Go.undef := by simp [Array.getD_eq_getD_getElem?, hx]
        rw [this] at hv
        generalize ev t (.t d) = u at hv hu
        cases u <;> first | rfl | (simp [V.known] at hu; done) | (exact absurd hv.bool_inv (by simp [Go.undef]))
      | some x =>
        have : a.tmps.getD d Go.undef = x := by simp [Array.getD_eq_getD_getElem?, hx]
        rw [this] at hv
        generalize ev t (.t d) = u at hv hu
        cases hv <;> first | rfl | (simp [V.known] at hu; done) | (cases b <;> rename_i c <;> cases c <;> rfl)
    · simp at hc

/-- What is left to be shown behind an operation. -/
def Goes (φ : F) (nt : Nat) (ds : List Deferred) (σ : H) (w : World) (K : Act → World → Prop) (Q : Exit → Act → World → Prop) : Oc → Prop
  | .ok t' σ' => ∀ φ' a' w', Sim φ σ w φ' σ' w' → ARel φ' nt ds t' a' → K a' w'
  | .pan v t' σ' => ∀ φ' a' w' v', Sim φ σ w φ' σ' w' → ARel φ' nt ds t' a' → VRel φ' v v' → Q (.panic [{ v := v', recovered := false }]) a' w'

theorem Goes.after {φ φ1 : F} {nt : Nat} {ds : List Deferred} {σ σ1 : H} {w w1 : World} {K : Act → World → Prop} {Q : Exit → Act → World → Prop} {oc : Oc} (h : Goes φ nt ds σ w K Q oc) (hs : Sim φ σ w φ1 σ1 w1) : Goes φ1 nt ds σ1 w1 K Q oc := by
  cases oc with
  | ok t' σ' => exact fun φ' a' w' h1 h2 => h φ' a' w' (hs.trans h1) h2
  | pan v t' σ' => exact fun φ' a' w' v' h1 h2 h3 => h φ' a' w' v' (hs.trans h1) h2 h3

theorem compX_cases {gl : List Nat} {o : Go.Op} {x : X} (h : compX P gl o = some x) : (∃ y, x = .l y ∧ compL P gl o = some y) ∨ (∃ y, x = .a y ∧ compA P gl o = some y) ∨ compH P gl o = some x := by
  unfold compX at h
  split at h
  · exact .inr (.inr h)
  · split at h
    · rename_i y hy
      simp at h; subst h
      exact .inl ⟨y, rfl, hy⟩
    · split at h
      · rename_i y hy
        simp at h; subst h
        exact .inr (.inl ⟨y, rfl, hy⟩)
      · exact .inr (.inr h)

theorem compH_no (gl : List Nat) (o : Go.Op) : (∀ y, compH P gl o ≠ some (.l y)) ∧ (∀ y, compH P gl o ≠ some (.a y)) := by
  constructor <;> intro y h
  all_goals
    cases o
    case slice q1 q2 q3 q4 mx =>
      cases mx <;> simp only [compH] at h
      · (repeat' split at h) <;> (try simp at h)
      · simp at h
    case call c =>
      obtain ⟨ce, as, ts⟩ := c
      cases ce with
      | builtin b => cases b <;> simp only [compH] at h <;> (repeat' split at h) <;> simp [comp2] at h <;> (try (repeat' split at h) <;> simp at h)
      | value q => simp only [compH] at h; (repeat' split at h) <;> simp at h
      | invoke r n => simp only [compH] at h; (repeat' split at h) <;> simp at h
    all_goals (simp only [compH] at h; (repeat' split at h) <;> (try simp [comp2] at h) <;> (try (repeat' split at h) <;> simp at h))

/-- One operation. -/
theorem ev1_sound (h : Rel φ σ w) (hg : GRel φ gl) (ha : ARel φ nt ds t a) {ops : Array Oper} {o : Oper} {x : Op} (hc : compOp P gl nt ops o = some x) {m : MT} (hm : MOk P m) {call : Call} (hcall : CallOk P gl call)
    {oc : Oc} (hs : ev1 m call x t σ = some oc) {Q : Exit → Act → World → Prop} {K : Act → World → Prop} (hK : Goes φ nt ds σ w K Q oc) :
    if Region.wanted o (yielded ops a.tmps) then o.wp P a w K Q else K (a.put o.dst Go.undef) w := by
  unfold compOp at hc
  split at hc
  · rename_i y g hy hgd
    split at hc
    · rename_i hdst
      simp at hc; subst hc
      unfold ev1 at hs
      split at hs
      · simp at hs
      rename_i hunk
      have hunk : unk t g = false := by simpa using hunk
      rw [wanted_eq ha rfl hgd hunk]
      have he := env_of ha.rel hg
      split at hs
      · rename_i hw
        simp only at hw
        rw [hw, if_pos rfl]
        unfold Oper.wp
        split at hs
        · rename_i v σ2 hst
          simp at hs
          subst hs
          have key : Heavy P φ σ w a.eval o v σ2 := by
            rcases compX_cases hy with ⟨z, rfl, hz⟩ | ⟨z, rfl, hz⟩ | hz
            · simp only [step] at hst
              obtain ⟨u, hu, e⟩ := map_some' hst
              simp at e
              obtain ⟨rfl, rfl⟩ := e
              obtain ⟨v', hr, hv⟩ := light_sound he hz hu w
              exact ⟨v', w, φ, .inl hr, Sim.refl h, hv⟩
            · simp only [step] at hst
              obtain ⟨⟨B, mk⟩, hu, e⟩ := map_some' hst
              simp at e
              obtain ⟨rfl, rfl⟩ := e
              obtain ⟨hro, hmk⟩ := make_sound he hz hu
              obtain ⟨v', obj, n, hr, hb, hv⟩ := hmk w
              have e3 : ({ w with heap := w.heap.push obj } : World).heap[w.heap.size]? = some obj := by simp
              refine ⟨v', _, φ.put σ.next ⟨w.heap.size, 0, n⟩, .inl hr, Sim.new (w' := { w with heap := w.heap.push obj }) h obj rfl rfl rfl B n hro (fun ψ hψ => (hb _ _ ψ hψ e3).1) (hb _ _ φ (F.le_refl φ) e3).2, hv _ _ (by simp [F.put])⟩
            · exact heavy_sound h he hz hst
          obtain ⟨v', w', φ', hr, hsim, hv⟩ := key
          rcases hr with hr | ⟨hr, rfl⟩
          · rw [hr, Oper.upon_value]
            exact hK _ _ _ hsim ((ha.mono hsim.ext).put hdst hv)
          · rw [hr, Oper.upon_skip]
            exact hK _ _ _ hsim ((ha.mono hsim.ext).put hdst hv)
        · rename_i f args σ2 hst
          obtain ⟨r, hcl, e⟩ := map_some' hs
          have hz : compH P gl o.op = some y := by
            rcases compX_cases hy with ⟨z, rfl, hz⟩ | ⟨z, rfl, hz⟩ | hz
            · simp [step] at hst
            · simp [step] at hst
            · exact hz
          obtain ⟨rfl, args', hargs, hrun⟩ := call_sound h he (fun g => rfl) hz hm hst
          obtain ⟨hent, hcalls⟩ := hcall _ _ _ _ hcl φ w args' h hg hargs
          rw [hrun, hent, Oper.upon_enter]
          refine hcalls.mono ?_
          cases r with
          | ret v σ3 =>
            simp only [Rt.oc] at e; subst e
            rintro e w' ⟨v', φ', rfl, hsim, hv⟩
            exact hK _ _ _ hsim ((ha.mono hsim.ext).put hdst hv)
          | pan v σ3 =>
            simp only [Rt.oc] at e; subst e
            rintro e w' ⟨v', φ', rfl, hsim, hv⟩
            exact hK _ _ _ _ hsim (ha.mono hsim.ext) hv
        · rename_i v σ2 hst
          simp at hs
          subst hs
          have hz : compH P gl o.op = some y := by
            rcases compX_cases hy with ⟨z, rfl, hz⟩ | ⟨z, rfl, hz⟩ | hz
            · simp [step] at hst
            · simp [step] at hst
            · exact hz
          obtain ⟨rfl, v', hv, hr⟩ := panic_sound he hz hst w
          rw [hr, Oper.upon_panic]
          exact hK _ _ _ _ (Sim.refl h) ha hv
        · simp at hs
      · rename_i hw
        have hw : wantedV t g = false := by simpa using hw
        simp at hs
        subst hs
        rw [hw]
        simp only [Bool.false_eq_true, if_false]
        exact hK _ _ _ (Sim.refl h) (ha.put hdst .undef)
    · simp at hc
  · simp at hc

/-- Operations in a row. -/
theorem evOps_sound {ops : Array Oper} {m : MT} (hm : MOk P m) {call : Call} (hcall : CallOk P gl call) {Q : Exit → Act → World → Prop} :
    ∀ {l : List Oper} {l' : List Op}, optMap (compOp P gl nt ops) l = some l' → ∀ {φ : F} {σ : H} {w : World} {t : T V} {a : Act}, Rel φ σ w → GRel φ gl → ARel φ nt ds t a →
      ∀ {oc : Oc}, evOps m call l' t σ = some oc → Goes φ nt ds σ w (Q .normal) Q oc → wpList P ops Q l a w
  | [], l', hc, φ, σ, w, t, a, h, _, ha, oc, hs, hK => by
    simp [optMap] at hc; subst hc
    simp [evOps] at hs
    subst hs
    exact hK _ _ _ (Sim.refl h) ha
  | o :: l, l', hc, φ, σ, w, t, a, h, hg, ha, oc, hs, hK => by
    simp only [optMap] at hc
    split at hc
    · rename_i x r hx hr
      simp at hc; subst hc
      simp only [evOps] at hs
      have fin : ∀ {oc1 : Oc}, ev1 m call x t σ = some oc1 → Goes φ nt ds σ w (wpList P ops Q l) Q oc1 → wpList P ops Q (o :: l) a w := by
        intro oc1 h1 h2
        have := ev1_sound (K := wpList P ops Q l) (Q := Q) h hg ha hx hm hcall h1 h2
        simp only [wpList]
        split
        · rename_i hw; rw [if_pos hw] at this; exact .inl this
        · rename_i hw; rw [if_neg hw] at this; exact this
      split at hs
      · rename_i t1 σ1 hp
        refine fin hp fun φ1 a1 w1 hsim ha1 => ?_
        exact evOps_sound hm hcall hr hsim.rel (hg.mono hsim.ext) ha1 hs (hK.after hsim)
      · rename_i hne
        refine fin hs ?_
        cases oc with
        | ok t1 σ1 => exact absurd hs (hne t1 σ1)
        | pan v t1 σ1 => exact hK
    · simp at hc

end
end Go.Abs
