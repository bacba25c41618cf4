import Derived.Test.YtgoplodcgpfneaaGreatDoorV19
import Derived.LoopN
/-! Code, and calls. -/
namespace Go.Abs

/-- Code that we cannot run. -/
def C.bad : C := .cond (.c .undef) .skip .skip

def compC (P : Program) (gl : List Nat) (nt : Nat) : Code → C
  | .skip => .skip
  | .label _ => .skip
  | .region _ ops false => match optMap (compOp P gl nt ops) ops.toList with
    | some l => .reg l
    | none => .bad
  | .region _ ops true => match compDraw P gl nt ops with
    | some l => .draw l
    | none => .bad
  | .seq a b => .seq (compC P gl nt a) (compC P gl nt b)
  | .cond c a b => match compO gl c with
    | some c => .cond c (compC P gl nt a) (compC P gl nt b)
    | none => .bad
  | .block id c => .block id (compC P gl nt c)
  | .loop c => .loop (compC P gl nt c)
  | .exit id => .exit id
  | .ret => .ret
  | _ => .bad

def compR (P : Program) : ResultVar → Option Rs
  | .tmp t => some (.tmp t)
  | .cell a t => match sizeOfT P t, aggT P t with
    | some n, some g => some (.cell a n g)
    | _, _ => none

def compF (P : Program) (gl : List Nat) (fn : Func) : Option FnI :=
  if fn.name == "runtime.NumGoroutine" then none else
  match fn.body, optMap (compR P) fn.results.toList with
  | some c, some rs => some ⟨rs, compC P gl fn.ntmps c⟩
  | _, _ => none

def Ex.out : Ex → Exit
  | .normal => .normal
  | .exit id => .exit id
  | .ret => .ret

def GoesX (φ : F) (nt : Nat) (σ : H) (w : World) (o : Out) (Q : Exit → Act → World → Prop) : Prop := ∀ φ' a' w', Sim φ σ w φ' o.σ w' → ARel φ' nt o.t a' → Q o.x.out a' w'

section
variable {P : Program} {gl : List Nat} {nt : Nat} {m : TypeId → String → Option FuncId} {call : Call}

theorem GoesX.after {φ φ1 : F} {σ σ1 : H} {w w1 : World} {o : Out} {Q : Exit → Act → World → Prop} (h : GoesX φ nt σ w o Q) (hs : Sim φ σ w φ1 σ1 w1) : GoesX φ1 nt σ1 w1 o Q := fun φ' a' w' h1 h2 => h φ' a' w' (hs.trans h1) h2

theorem code_sound (hmix : P.follows .mixedOrders = true) (hm : MOk P m) (hcall : CallOk P gl call) (fuel : Nat) : ∀ {c : Code} {φ : F} {σ : H} {w : World} {t : T V} {a : Act} {o : Out} {Q : Exit → Act → World → Prop}, Rel φ σ w → GRel φ gl → ARel φ nt t a → evC m call fuel (compC P gl nt c) t σ = some o → GoesX φ nt σ w o Q → c.wp P Q a w := by
  intro c
  induction c with
  | skip =>
    intro φ σ w t a o Q h hg ha hs hQ
    simp [compC, evC] at hs; subst hs
    exact wp_skip (hQ _ _ _ (Sim.refl h) ha)
  | label l =>
    intro φ σ w t a o Q h hg ha hs hQ
    simp [compC, evC] at hs; subst hs
    exact wp_label (hQ _ _ _ (Sim.refl h) ha)
  | region id ops draw =>
    intro φ σ w t a o Q h hg ha hs hQ
    cases draw with
    | false =>
      simp only [compC] at hs
      split at hs
      case h_2 => simp [C.bad, evC, ev] at hs
      rename_i l hl
      simp only [evC] at hs
      obtain ⟨⟨t', σ'⟩, hp, rfl⟩ := map_some' hs
      have := evOps_sound (Q := Q) hm hcall hl h hg ha hp (fun φ' a' w' h1 h2 => hQ φ' a' w' h1 h2)
      exact wp_region_list this
    | true =>
      simp only [compC] at hs
      split at hs
      case h_2 => simp [C.bad, evC, ev] at hs
      rename_i l hl
      simp only [evC] at hs
      obtain ⟨⟨t', σ'⟩, hp, rfl⟩ := map_some' hs
      exact draw_sound hmix hl h hg ha hm hcall hp (fun φ' a' w' h1 h2 => hQ φ' a' w' h1 h2) id
  | seq x y ihx ihy =>
    intro φ σ w t a o Q h hg ha hs hQ
    simp only [compC, evC] at hs
    refine wp_seq ?_
    split at hs
    · rename_i t' σ' hx1
      refine ihx h hg ha hx1 fun φ' a' w' h1 h2 => ?_
      exact ihy h1.rel (hg.mono h1.ext) h2 hs (hQ.after h1)
    · rename_i hne
      refine ihx h hg ha hs fun φ' a' w' h1 h2 => ?_
      have := hQ φ' a' w' h1 h2
      obtain ⟨ox, ot, oσ⟩ := o
      cases ox with
      | normal => exact absurd hs (hne ot oσ)
      | exit id => exact this
      | ret => exact this
  | cond q x y ihx ihy =>
    intro φ σ w t a o Q h hg ha hs hQ
    simp only [compC] at hs
    split at hs
    · rename_i q' hq
      simp only [evC] at hs
      have hv := env_of ha.rel hg _ _ hq
      split at hs
      · rename_i b hb
        rw [hb] at hv
        refine wp_cond hv.bool_inv ?_
        cases b with
        | true => exact ihx h hg ha (by simpa using hs) hQ
        | false => exact ihy h hg ha (by simpa using hs) hQ
      · simp at hs
    · simp [C.bad, evC, ev] at hs
  | block id x ih =>
    intro φ σ w t a o Q h hg ha hs hQ
    simp only [compC, evC] at hs
    refine wp_block ?_
    split at hs
    · rename_i i t' σ' hx1
      refine ih h hg ha hx1 fun φ' a' w' h1 h2 => ?_
      simp only [Ex.out, Exit.inBlock]
      split at hs
      · rename_i e
        simp at hs; subst hs
        rw [if_pos e]
        exact hQ φ' a' w' h1 h2
      · rename_i e
        simp at hs; subst hs
        rw [if_neg e]
        exact hQ φ' a' w' h1 h2
    · rename_i hne
      refine ih h hg ha hs fun φ' a' w' h1 h2 => ?_
      have := hQ φ' a' w' h1 h2
      obtain ⟨ox, ot, oσ⟩ := o
      cases ox with
      | normal => exact this
      | exit id => exact absurd hs (hne id ot oσ)
      | ret => exact this
  | loop x ih =>
    intro φ σ w t a o Q h hg ha hs hQ
    simp only [compC, evC] at hs
    have key : ∀ n, ∀ {φ : F} {σ : H} {w : World} {t : T V} {a : Act}, Rel φ σ w → GRel φ gl → ARel φ nt t a → iter (evC m call fuel (compC P gl nt x)) n t σ = some o → GoesX φ nt σ w o Q → Code.rounds P x Q n a w := by
      intro n
      induction n with
      | zero => intro φ σ w t a _ _ _ hs; simp [iter] at hs
      | succ n ihn =>
        intro φ σ w t a h hg ha hs hQ
        simp only [iter] at hs
        rw [rounds_succ]
        split at hs
        · rename_i t' σ' hx1
          refine ih h hg ha hx1 fun φ' a' w' h1 h2 => ?_
          exact ihn h1.rel (hg.mono h1.ext) h2 hs (hQ.after h1)
        · rename_i hne
          refine ih h hg ha hs fun φ' a' w' h1 h2 => ?_
          have := hQ φ' a' w' h1 h2
          obtain ⟨ox, ot, oσ⟩ := o
          cases ox with
          | normal => exact absurd hs (hne ot oσ)
          | exit id => exact this
          | ret => exact this
    exact wp_loop_rounds fuel (key fuel h hg ha hs hQ)
  | exit id =>
    intro φ σ w t a o Q h hg ha hs hQ
    simp [compC, evC] at hs; subst hs
    exact wp_exit (hQ _ _ _ (Sim.refl h) ha)
  | ret =>
    intro φ σ w t a o Q h hg ha hs hQ
    simp [compC, evC] at hs; subst hs
    exact wp_ret (hQ _ _ _ (Sim.refl h) ha)
  | _ => intro φ σ w t a o Q h hg ha hs hQ; simp [compC, C.bad, evC, ev] at hs

/-- One result. -/
def readR (tmps : Array Value) : ResultVar → Sem Value
  | .tmp t => pure (tmps.getD t Go.undef)
  | .cell a t => do loadVar t (← asAddr (tmps.getD a Go.undef))

theorem readR_sound {φ : F} {σ : H} {w : World} {t : T V} {a : Act} (h : Rel φ σ w) (ha : ARel φ nt t a) {r : ResultVar} {r' : Rs} (hc : compR P r = some r') {l : List Rs} {vs : List V} (hs : resOf t σ (r' :: l) = some vs) :
    ∃ v us v', vs = v :: us ∧ resOf t σ l = some us ∧ VRel φ v v' ∧ (readR a.tmps r).run P w = .ok v' w := by
  cases r with
  | tmp x =>
    simp [compR] at hc; subst hc
    simp only [resOf] at hs
    obtain ⟨us, hus, rfl⟩ := map_some' hs
    exact ⟨_, us, _, rfl, hus, ha.rel x, by simp only [readR]; rfl⟩
  | cell x ty =>
    simp only [compR] at hc
    split at hc
    · rename_i n g hn hgg
      simp at hc; subst hc
      simp only [resOf] at hs
      split at hs
      · rename_i v hv
        obtain ⟨us, hus, rfl⟩ := map_some' hs
        obtain ⟨v', p, e, hl, hvr⟩ := loadV_sound h hn hgg (ha.rel x) hv
        refine ⟨v, us, v', rfl, hus, hvr, ?_⟩
        simp only [readR, e]
        exact hl
      · simp at hs
    · simp at hc

/-- What a function hands back. -/
theorem res_sound {φ : F} {σ : H} {w : World} {t : T V} {a : Act} (h : Rel φ σ w) (ha : ARel φ nt t a) : ∀ {l : List ResultVar} {l' : List Rs}, optMap (compR P) l = some l' → ∀ {vs : List V}, resOf t σ l' = some vs →
    ∃ vs', VRels φ vs vs' ∧ (l.mapM (readR a.tmps)).run P w = .ok vs' w
  | [], l', hc, vs, hs => by
    simp [optMap] at hc; subst hc
    simp [resOf] at hs; subst hs
    exact ⟨[], .nil, rfl⟩
  | r :: l, l', hc, vs, hs => by
    simp only [optMap] at hc
    split at hc
    · rename_i r' rs hr hrs
      simp at hc; subst hc
      obtain ⟨v, us, v', rfl, hus, hv, hrd⟩ := readR_sound h ha hr hs
      obtain ⟨us', h1, h2⟩ := res_sound h ha hrs hus
      refine ⟨v' :: us', .cons _ _ _ _ hv h1, ?_⟩
      rw [List.mapM_cons]
      simp [Sem.run_bind, Result.andThen_ok, hrd, h2]
    · simp at hc

theorem results_sound {φ : F} {σ : H} {w : World} {t : T V} {a : Act} (h : Rel φ σ w) (ha : ARel φ nt t a) {fn : Func} {l' : List Rs} (hc : optMap (compR P) fn.results.toList = some l') {vs : List V} (hs : resOf t σ l' = some vs) :
    ∃ v', VRel φ (resV vs) v' ∧ (results fn a.tmps).run P w = .ok v' w := by
  obtain ⟨vs', h1, h2⟩ := res_sound h ha hc hs
  have e : (fn.results.mapM (readR a.tmps)).run P w = .ok vs'.toArray w := by
    rw [Array.mapM_eq_mapM_toList]
    simp only [Sem.run_map, h2, Result.andThen_ok]
  have e2 : (results fn a.tmps).run P w = .ok (if h : vs'.toArray.size = 1 then vs'.toArray[0] else .tuple vs'.toArray) w := by
    have : results fn a.tmps = (do let vs ← fn.results.mapM (readR a.tmps); pure (if h : vs.size = 1 then vs[0] else .tuple vs)) := by
      unfold results
      congr 1
    rw [this]
    simp only [Sem.run_bind, e, Result.andThen_ok]; rfl
  refine ⟨_, ?_, e2⟩
  cases h1 with
  | nil => exact .tup _ _ .nil
  | cons v v' l l2 hv ht =>
    cases ht with
    | nil => simpa [resV] using hv
    | cons u u' l3 l4 hu ht =>
      rw [dif_neg (by simp)]
      exact .tup _ _ (.cons _ _ _ _ hv (.cons _ _ _ _ hu ht))
end

section
variable {P : Program} {gl : List Nat} {m : TypeId → String → Option FuncId}

/-- The table is the program's. -/
def TblOk (P : Program) (gl : List Nat) (tbl : FuncId → Option FnI) : Prop := ∀ f fi, tbl f = some fi → ∃ fn, P.funcs[f]? = some fn ∧ compF P gl fn = some fi

theorem callF_sound (hmix : P.follows .mixedOrders = true) (hm : MOk P m) {tbl : FuncId → Option FnI} (ht : TblOk P gl tbl) (fuel : Nat) : ∀ d, CallOk P gl (callF m tbl fuel d) := by
  intro d
  induction d with
  | zero => intro f args σ v σ' h; simp [callF] at h
  | succ d ih =>
    intro f args σ v σ' h φ w args' hrel hg hargs
    simp only [callF] at h
    split at h
    · simp at h
    · rename_i fi hfi
      obtain ⟨fn, hfn, hcf⟩ := ht f fi hfi
      unfold compF at hcf
      split at hcf
      · simp at hcf
      · rename_i hname
        split at hcf
        · rename_i c rs hbody hrs
          simp only [Option.some.injEq] at hcf
          subst hcf
          refine ⟨?_, ?_⟩
          · have hn2 : ¬ fn.name = "runtime.NumGoroutine" := by simpa using hname
            simp [callFunc, go_sem, hfn, hn2, hbody]
          · refine calls_of_wp hfn hbody ?_
            have ha : ARel φ fn.ntmps (T.ofList .e 0 args) { tmps := (⟨args'⟩ : Array Value) ++ Array.replicate (fn.ntmps - (⟨args'⟩ : Array Value).size) Go.undef, defers := [] } := by
              refine ⟨fun i => ?_, by simp; omega, rfl⟩
              have hl := hargs.length
              simp only [ev, T.get_ofList]
              rw [Array.getD_eq_getD_getElem?, Array.getElem?_append]
              by_cases hi : i < args.length
              · rw [if_pos (by omega), if_pos (by simp; omega)]
                obtain ⟨v', h1, h2⟩ := hargs.get i args[i] (by simp [hi])
                simp [hi, h1]; exact h2
              · rw [if_neg (by omega), if_neg (by simp; omega)]
                simp only [T.get, Option.getD_none]
                rw [Array.getElem?_replicate]
                split <;> exact .undef
            split at h
            · simp at h
            · rename_i x t2 σ2 hne hev
              obtain ⟨vs, hvs, e⟩ := map_some' h
              simp at e
              obtain ⟨rfl, rfl⟩ := e
              refine code_sound hmix hm ih fuel hrel hg ha hev ?_
              intro φ' a' w' h1 h2
              obtain ⟨v', hv', hr⟩ := results_sound h1.rel h2 hrs hvs
              cases x with
              | exit i => exact absurd rfl (hne i)
              | normal => exact ⟨h2.defers, v', hr, v', φ', rfl, h1, hv'⟩
              | ret => exact ⟨h2.defers, v', hr, v', φ', rfl, h1, hv'⟩
            · simp at h
        · simp at hcf
end
end Go.Abs
