/- PART of the proof of CallsKnown: Code, and calls. No condition. -/
import Derived.Test.YtecebpjfidpchaaGreatU19
import Derived.LoopN
import Derived.Recover
/-! Code, and calls. -/
namespace Go.Abs

/-- Code that we cannot run. -/
def C.bad : C := .cond (.c .undef) .skip .skip

/-- A deferred call of a function by its name. -/
def compDfr (gl : List Nat) (nt : Nat) (ops : Array Oper) : Option (Option Nat × FuncId × List Opd) :=
  match ops.toList with
  | [o] => match o.op, o.guard with
    | .defer ⟨.value (.func f), args, _⟩, none => match compOs gl args with
      | some l => if dstOk nt o.dst = true then some (o.dst, f, l) else none
      | none => none
    | _, _ => none
  | _ => none

def compC (P : Program) (gl : List Nat) (nt : Nat) : Code → C
  | .skip => .skip
  | .label _ => .skip
  | .region _ ops false => match compDfr gl nt ops with
    | some d => .dfr d.1 d.2.1 d.2.2
    | none => match optMap (compOp P gl nt ops) ops.toList with
      | some l => .reg l
      | none => .bad
  | .region _ ops true => match compDraw P gl nt ops with
    | some l => .draw l
    | none => .bad
  | .seq a b => .seq (compC P gl nt a) (compC P gl nt b)
  | .cond c a b => match compO gl c with
    | some c => .cond c (compC P gl nt a) (compC P gl nt b)
    | none => .bad
  | .block id c => .block id (compC P gl nt c)
  | .loop c => .loop (compC P gl nt c)
  | .exit id => .exit id
  | .ret => .ret
  | _ => .bad

def compR (P : Program) : ResultVar → Option Rs
  | .tmp t => some (.tmp t)
  | .cell a t => match sizeOfT P t, aggT P t with
    | some n, some g => some (.cell a n g)
    | _, _ => none

/-- A body that begins with a call of recover: where the call's value goes, the operation behind it, the rest. -/
def rcvOf (P : Program) (gl : List Nat) (nt : Nat) : Code → Option (Option Nat × Op × Code)
  | .seq (.region _ ops false) rest => match ops.toList with
    | [o, o2] => match o.op, o.guard, compOp P gl nt ops o2 with
      | .call ⟨.builtin .recover, args, _⟩, none, some x => if args.toList.isEmpty && dstOk nt o.dst then some (o.dst, x, rest) else none
      | _, _, _ => none
    | _ => none
  | _ => none

def compF (P : Program) (gl : List Nat) (fn : Func) : Option FnI :=
  if fn.name == "runtime.NumGoroutine" then none else
  match fn.body, optMap (compR P) fn.results.toList with
  | some c, some rs => match rcvOf P gl fn.ntmps c with
    | some p => some ⟨rs, .seq (.reg [p.2.1]) (compC P gl fn.ntmps p.2.2), some p.1⟩
    | none => some ⟨rs, compC P gl fn.ntmps c, none⟩
  | _, _ => none

/-- What is deferred, ours and the program's. -/
def DsRel (φ : F) : List Dc → List Deferred → Prop
  | [], [] => True
  | d :: r, d' :: r' => (∃ args', d' = ⟨.fn (.func d.1) #[], ⟨args'⟩⟩ ∧ VRels φ d.2 args') ∧ DsRel φ r r'
  | _, _ => False
theorem DsRel.mono {φ ψ : F} (hle : φ.le ψ) : ∀ {l : List Dc} {l' : List Deferred}, DsRel φ l l' → DsRel ψ l l'
  | [], [], _ => trivial
  | d :: r, d' :: r', h => by
    obtain ⟨⟨args', e, hv⟩, hr⟩ := h
    exact ⟨⟨args', e, hv.mono hle⟩, DsRel.mono hle hr⟩
  | [], _ :: _, h => h.elim
  | _ :: _, [], h => h.elim

/-- How code ends, ours and the program's. -/
def ExRel (φ : F) : Ex → Exit → Prop
  | .normal, e => e = .normal
  | .exit id, e => e = .exit id
  | .ret, e => e = .ret
  | .pan v, e => ∃ v', VRel φ v v' ∧ e = .panic [{ v := v', recovered := false }]
def GoesX (φ : F) (nt : Nat) (σ : H) (w : World) (o : Out) (Q : Exit → Act → World → Prop) : Prop :=
  ∀ φ' a' w' dl e, Sim φ σ w φ' o.σ w' → DsRel φ' o.ds dl → ARel φ' nt dl o.t a' → ExRel φ' o.x e → Q e a' w'

section
variable {P : Program} {gl : List Nat} {nt : Nat} {m : MT} {call : Call}

theorem GoesX.after {φ φ1 : F} {σ σ1 : H} {w w1 : World} {o : Out} {Q : Exit → Act → World → Prop} (h : GoesX φ nt σ w o Q) (hs : Sim φ σ w φ1 σ1 w1) : GoesX φ1 nt σ1 w1 o Q := fun φ' a' w' dl e h1 h2 h3 h4 => h φ' a' w' dl e (hs.trans h1) h2 h3 h4

theorem compDfr_eq {gl : List Nat} {ops : Array Oper} {d : Option Nat × FuncId × List Opd} (h : compDfr gl nt ops = some d) :
    ∃ o args ts, ops.toList = [o] ∧ o.op = .defer ⟨.value (.func d.2.1), args, ts⟩ ∧ o.guard = none ∧ compOs gl args = some d.2.2 ∧ dstOk nt o.dst = true ∧ o.dst = d.1 := by
  unfold compDfr at h
  split at h
  · rename_i o ho
    split at h
    · rename_i f args ts h1 h2
      split at h
      · rename_i l hl
        split at h
        · rename_i hd
          simp at h; subst h
          exact ⟨o, args, ts, ho, h1, h2, hl, hd, rfl⟩
        · simp at h
      · simp at h
    · simp at h
  · simp at h

/-! Forgetting. -/
def F.cut (φ : F) (n : Nat) : F := fun b => if b < n then φ b else none
mutual
theorem V.low_rel {φ : F} {n : Nat} : ∀ {v : V} {v' : Value}, VRel φ v v' → v.low n = true → VRel (φ.cut n) v v'
  | _, _, .undef, _ => .undef
  | _, _, .bool b, _ => .bool b
  | _, _, .int k n, _ => .int k n
  | _, _, .str s, _ => .str s
  | _, _, .ptr b o p hp, hl => .ptr b o p (by simp only [V.low, decide_eq_true_eq] at hl; simp [F.cut, hl, hp])
  | _, _, .nil, _ => .nil
  | _, _, .slice b o len cap z cap' p hp h1 h2 h3, hl => .slice b o len cap z cap' p (by simp only [V.low, decide_eq_true_eq] at hl; simp [F.cut, hl, hp]) h1 h2 h3
  | _, _, .sliceE b o z a, _ => .sliceE b o z a
  | _, _, .snil, _ => .snil
  | _, _, .map b p hp, hl => .map b p (by simp only [V.low, decide_eq_true_eq] at hl; simp [F.cut, hl, hp])
  | _, _, .mnil, _ => .mnil
  | _, _, .fn f a c a' c' h1 h2, hl => .fn f a c a' c' (V.lows_rel h1 (by simp only [V.low, Bool.and_eq_true] at hl; exact hl.1)) (V.lows_rel h2 (by simp only [V.low, Bool.and_eq_true] at hl; exact hl.2))
  | _, _, .fnil, _ => .fnil
  | _, _, .iface t v v' hv, hl => .iface t v v' (V.low_rel hv (by simpa only [V.low] using hl))
  | _, _, .inil, _ => .inil
  | _, _, .agg cs cs' hc, hl => .agg cs cs' (V.lows_rel hc (by simpa only [V.low] using hl))
  | _, _, .tup cs cs' hc, hl => .tup cs cs' (V.lows_rel hc (by simpa only [V.low] using hl))
  | _, _, .any v', _ => .any v'
theorem V.lows_rel {φ : F} {n : Nat} : ∀ {l : List V} {l' : List Value}, VRels φ l l' → V.lows n l = true → VRels (φ.cut n) l l'
  | _, _, .nil, _ => .nil
  | _, _, .cons v v' l l' hv ht, hl => .cons v v' l l' (V.low_rel hv (by simp only [V.lows, Bool.and_eq_true] at hl; exact hl.1)) (V.lows_rel ht (by simp only [V.lows, Bool.and_eq_true] at hl; exact hl.2))
end

theorem canonH_get (σ : H) : ∀ n b, (canonH σ n).get b = if b < n then (σ.get b).map canonB else none
  | 0, b => by simp [canonH, T.get]
  | n + 1, b => by
    simp only [canonH, T.get_put, canonH_get σ n]
    by_cases h : n = b
    · subst h; simp
    · rw [if_neg h]
      by_cases h2 : b < n
      · rw [if_pos h2, if_pos (by omega)]
      · rw [if_neg h2, if_neg (by omega)]
theorem cutH_get (base : Nat) (σ : H) (b : Nat) : (cutH base σ).get b = if b < base then (σ.get b).map canonB else none := canonH_get σ base b
theorem canonB_ro (B : Blk) : (canonB B).ro = B.ro := by cases B <;> rfl
theorem canon_cell (c : T V) (n i : Nat) (h : i < n) : cellD (T.ofList .e 0 (takeCells c 0 n)) i = cellD c i := by
  simp only [cellD, T.get_ofList, takeCells_length]
  rw [if_pos (by omega), takeCells_get, if_pos (by omega)]
  simp [cellD]
theorem BRel.canon {φ : F} {w : World} {p : Pl} {B : Blk} (h : BRel φ w p B) : BRel φ w p (canonB B) := by
  cases B with
  | cells r n c =>
    obtain ⟨h1, h2, h3⟩ := h
    refine ⟨h1, h2, fun i hi => ?_⟩
    rw [canon_cell c n i hi]; exact h3 i hi
  | map r es => exact h
theorem BRel.low {φ : F} {w : World} {p : Pl} {B : Blk} {k : Nat} (hl : B.low k = true) (h : BRel φ w p B) : BRel (φ.cut k) w p B := by
  cases B with
  | cells r n c =>
    obtain ⟨h1, h2, h3⟩ := h
    refine ⟨h1, h2, fun i hi => ?_⟩
    obtain ⟨v', a, b⟩ := h3 i hi
    simp only [Blk.low, List.all_eq_true] at hl
    have hm : cellD c i ∈ takeCells c 0 n := by
      apply List.mem_of_getElem? (i := i)
      rw [takeCells_get, if_pos hi]; simp
    exact ⟨v', a, V.low_rel b (hl _ hm)⟩
  | map r es =>
    obtain ⟨h1, es', clock, h2, h3⟩ := h
    simp only [Blk.low, List.all_eq_true, Bool.and_eq_true] at hl
    refine ⟨h1, es', clock, h2, h3.len, fun e he => ?_, fun e' he' => ?_, h3.ints, h3.nodup, h3.nodup'⟩
    · obtain ⟨e', a, b, c⟩ := h3.to e he
      exact ⟨e', a, V.low_rel b (hl e he).1, V.low_rel c (hl e he).2⟩
    · obtain ⟨e, a, b, c⟩ := h3.of e' he'
      exact ⟨e, a, V.low_rel b (hl e a).1, V.low_rel c (hl e a).2⟩
theorem lowH_get {base : Nat} {σ : H} : ∀ {n : Nat}, lowH base σ n = true → ∀ b B, b < n → σ.get b = some B → B.low base = true
  | 0, _, b, B, h, _ => by omega
  | n + 1, hl, b, B, h, hB => by
    simp only [lowH, Bool.and_eq_true] at hl
    by_cases e : b = n
    · subst e; have := hl.1; rw [hB] at this; exact this
    · exact lowH_get hl.2 b B (by omega) hB

/-- Blocks are forgotten that were made since. -/
theorem Sim.cut {φ0 φ : F} {σ0 σ : H} {w0 w : World} (h0 : Rel φ0 σ0 w0) (h : Sim φ0 σ0 w0 φ σ w) (hl : lowH σ0.next σ σ0.next = true) : Sim φ0 σ0 w0 (φ.cut σ0.next) (cutH σ0.next σ) w := by
  have get : ∀ b B, (cutH σ0.next σ).get b = some B → b < σ0.next ∧ ∃ B0, σ.get b = some B0 ∧ B = canonB B0 := by
    intro b B hB
    rw [cutH_get] at hB
    split at hB
    · rename_i hb
      obtain ⟨B0, h1, rfl⟩ := map_some' hB
      exact ⟨hb, B0, h1, rfl⟩
    · simp at hB
  have cut : ∀ b p, (φ.cut σ0.next) b = some p → b < σ0.next ∧ φ b = some p := by
    intro b p hp
    simp only [F.cut] at hp
    split at hp
    · rename_i hb; exact ⟨hb, hp⟩
    · simp at hp
  refine ⟨⟨?_, ?_, ?_⟩, ?_, h.keep, ?_, h.size, h.os, h.out, Nat.le_refl _, ?_, ?_, ?_⟩
  · intro b B hB
    obtain ⟨hb, B0, h1, rfl⟩ := get b B hB
    obtain ⟨p, hp, hr⟩ := h.rel.blk b B0 h1
    exact ⟨p, by simp [F.cut, hb, hp], (hr.low (lowH_get hl b B0 hb h1)).canon⟩
  · intro b B b' B' p p' hB hB' hp hp' e
    obtain ⟨hb, B0, h1, rfl⟩ := get b B hB
    obtain ⟨hb', B0', h1', rfl⟩ := get b' B' hB'
    exact h.rel.inj _ _ _ _ _ _ h1 h1' (cut _ _ hp).2 (cut _ _ hp').2 e
  · intro b p hp
    obtain ⟨hb, h1⟩ := cut b p hp
    exact ⟨hb, (h.rel.dom b p h1).2⟩
  · intro b p hp
    have h1 := h.ext b p hp
    simp [F.cut, (h0.dom b p hp).1, h1]
  · rintro k ⟨b, B, p, hB, hro, hp, rfl⟩
    obtain ⟨hb, B0, h1, rfl⟩ := get b B hB
    rw [canonB_ro] at hro
    exact h.foot _ ⟨b, B0, p, h1, hro, (cut _ _ hp).2, rfl⟩
  · intro b hb hlt
    have := h.old b hb hlt
    simp [F.cut, hlt, this]
  · intro b B hB hlt
    obtain ⟨hb, B0, h1, rfl⟩ := get b B hB
    obtain ⟨B', h2, e⟩ := h.back b B0 h1 hb
    exact ⟨B', h2, by rw [e, canonB_ro]⟩
  · intro b B hB hle
    obtain ⟨hb, _⟩ := get b B hB
    omega
theorem cutT_ev (t : T V) (i : Nat) : ∀ l : List Nat, ev (cutT t l) (.t i) = if i ∈ l then ev t (.t i) else .any
  | [] => by simp [cutT, ev, T.get]
  | j :: l => by
    have ih := cutT_ev t i l
    simp only [ev] at ih
    simp only [cutT, ev, T.get_put]
    by_cases h : j = i
    · subst h; simp
    · rw [if_neg h, ih]
      have h' : ¬ i = j := fun e => h e.symm
      simp [h']
theorem ARel.cut {φ : F} {nt : Nat} {ds : List Deferred} {t : T V} {a : Act} {keep : List Nat} {k : Nat} (h : ARel φ nt ds t a) (hl : keep.all (fun i => (ev t (.t i)).low k) = true) : ARel (φ.cut k) nt ds (cutT t keep) a := by
  refine ⟨fun i => ?_, h.size, h.defers⟩
  rw [cutT_ev]
  split
  · rename_i hi
    exact V.low_rel (h.rel i) (List.all_eq_true.1 hl i hi)
  · exact .any _
theorem ARel.keep {φ : F} {nt : Nat} {ds : List Deferred} {t : T V} {a : Act} {keep : List Nat} (h : ARel φ nt ds t a) : ARel φ nt ds (cutT t keep) a := by
  refine ⟨fun i => ?_, h.size, h.defers⟩
  rw [cutT_ev]
  split
  · exact h.rel i
  · exact .any _
/-- At a loop's entry nothing is forgotten. -/
theorem Rel.canon {φ : F} {σ : H} {w : World} (h : Rel φ σ w) : Sim φ σ w φ (cutH σ.next σ) w := by
  have get : ∀ b B, (cutH σ.next σ).get b = some B → b < σ.next ∧ ∃ B0, σ.get b = some B0 ∧ B = canonB B0 := by
    intro b B hB
    rw [cutH_get] at hB
    split at hB
    · rename_i hb
      obtain ⟨B0, h1, rfl⟩ := map_some' hB
      exact ⟨hb, B0, h1, rfl⟩
    · simp at hB
  refine ⟨⟨?_, ?_, h.dom⟩, F.le_refl φ, fun _ _ _ => rfl, ?_, Nat.le_refl _, rfl, rfl, Nat.le_refl _, fun b hb _ => hb, ?_, ?_⟩
  · intro b B hB
    obtain ⟨hb, B0, h1, rfl⟩ := get b B hB
    obtain ⟨p, hp, hr⟩ := h.blk b B0 h1
    exact ⟨p, hp, hr.canon⟩
  · intro b B b' B' p p' hB hB' hp hp' e
    obtain ⟨hb, B0, h1, rfl⟩ := get b B hB
    obtain ⟨hb', B0', h1', rfl⟩ := get b' B' hB'
    exact h.inj _ _ _ _ _ _ h1 h1' hp hp' e
  · rintro k ⟨b, B, p, hB, hro, hp, rfl⟩
    obtain ⟨hb, B0, h1, rfl⟩ := get b B hB
    rw [canonB_ro] at hro
    exact .inl ⟨b, B0, p, h1, hro, hp, rfl⟩
  · intro b B hB hlt
    obtain ⟨hb, B0, h1, rfl⟩ := get b B hB
    exact ⟨B0, h1, by rw [canonB_ro]⟩
  · intro b B hB hle
    obtain ⟨hb, _⟩ := get b B hB
    omega

theorem bad_no {call : Call} {fuel : Nat} {x0 : C} {t : T V} {ds : List Dc} {σ : H} {o : Out} (hx : x0.plain = .bad) (hs : evC m call fuel x0 t ds σ = some o) : False := by
  unfold C.bad at hx
  cases x0 <;> simp [C.plain] at hx
  obtain ⟨rfl, _, _⟩ := hx
  simp [evC, ev] at hs

theorem code_sound (hmix : P.follows .mixedOrders = true) (hm : MOk P m) (hcall : CallOk P gl call) (fuel : Nat) : ∀ {c : Code} {x0 : C} {φ : F} {σ : H} {w : World} {t : T V} {ds : List Dc} {dl : List Deferred} {a : Act} {o : Out} {Q : Exit → Act → World → Prop},
    x0.plain = compC P gl nt c → Rel φ σ w → GRel φ gl → DsRel φ ds dl → ARel φ nt dl t a → evC m call fuel x0 t ds σ = some o → GoesX φ nt σ w o Q → c.wp P Q a w := by
  intro c
  induction c with
  | skip =>
    intro x0 φ σ w t ds dl a o Q hx h hg hd ha hs hQ
    simp only [compC] at hx
    cases x0 <;> simp [C.plain] at hx
    (try subst hx)
    simp [evC] at hs; subst hs
    exact wp_skip (hQ _ _ _ _ _ (Sim.refl h) hd ha rfl)
  | label l =>
    intro x0 φ σ w t ds dl a o Q hx h hg hd ha hs hQ
    simp only [compC] at hx
    cases x0 <;> simp [C.plain] at hx
    (try subst hx)
    simp [evC] at hs; subst hs
    exact wp_label (hQ _ _ _ _ _ (Sim.refl h) hd ha rfl)
  | region id ops draw =>
    intro x0 φ σ w t ds dl a o Q hx h hg hd ha hs hQ
    cases draw with
    | false =>
      simp only [compC] at hx
      split at hx
      · rename_i d hdf
        obtain ⟨op, args, ts, e1, e2, e3, e4, e5, e6⟩ := compDfr_eq hdf
        cases x0 <;> simp [C.plain] at hx
        obtain ⟨rfl, rfl, rfl⟩ := hx
        simp [evC] at hs; subst hs
        have hargs := optMap_env (env_of ha.rel hg) e4
        have he3 : (#[] : Array Value) ++ args.map a.eval = ⟨args.toList.map a.eval⟩ := by apply Array.toList_inj.1; simp
        have hr : (execOp a.eval op).run P w = .ok (.defer ⟨.fn (.func d.2.1) #[], ⟨args.toList.map a.eval⟩⟩) w := by
          have ef : a.eval (.func d.2.1) = .func (.func d.2.1) #[] #[] := rfl
          simp only [execOp, e2, resolve, ef, Deferred.ofValue, he3]
          simp only [Sem.run_bind, Sem.run_pure, Result.andThen_ok]
        have key : wpList P ops Q ops.toList a w := by
          rw [e1]
          simp only [wpList]
          have hw : Region.wanted op (yielded ops a.tmps) = true := by simp [Region.wanted, e3]
          rw [if_pos hw]
          refine .inl ?_
          unfold Oper.wp
          rw [hr, Oper.upon_defer]
          refine hQ φ _ w (⟨.fn (.func d.2.1) #[], ⟨args.toList.map a.eval⟩⟩ :: dl) _ (Sim.refl h) ⟨⟨_, rfl, hargs⟩, hd⟩ ?_ rfl
          have ha2 : ARel φ nt (⟨.fn (.func d.2.1) #[], ⟨args.toList.map a.eval⟩⟩ :: dl) t { a with defers := ⟨.fn (.func d.2.1) #[], ⟨args.toList.map a.eval⟩⟩ :: a.defers } := ⟨ha.rel, ha.size, by rw [ha.defers]⟩
          have := ha2.put (d := op.dst) e5 (v := .undef) (v' := Go.undef) .undef
          rw [e6] at this ⊢
          exact this
        exact wp_region_list key
      · split at hx
        case h_2 => exact (bad_no hx hs).elim
        rename_i l hl
        cases x0 <;> simp [C.plain] at hx
        subst hx
        simp only [evC] at hs
        obtain ⟨oc, hp, rfl⟩ := map_some' hs
        refine wp_region_list (evOps_sound (Q := Q) hm hcall hl h hg ha hp ?_)
        cases oc with
        | ok t' σ' => exact fun φ' a' w' h1 h2 => hQ φ' a' w' dl _ h1 (hd.mono h1.ext) h2 rfl
        | pan v t' σ' => exact fun φ' a' w' v' h1 h2 h3 => hQ φ' a' w' dl _ h1 (hd.mono h1.ext) h2 ⟨v', h3, rfl⟩
    | true =>
      simp only [compC] at hx
      split at hx
      case h_2 => exact (bad_no hx hs).elim
      rename_i l hl
      cases x0 <;> simp [C.plain] at hx
      subst hx
      simp only [evC] at hs
      obtain ⟨oc, hp, rfl⟩ := map_some' hs
      refine draw_sound hmix hl h hg ha hm hcall hp ?_ id
      cases oc with
      | ok t' σ' => exact fun φ' a' w' h1 h2 => hQ φ' a' w' dl _ h1 (hd.mono h1.ext) h2 rfl
      | pan v t' σ' => exact fun φ' a' w' v' h1 h2 h3 => hQ φ' a' w' dl _ h1 (hd.mono h1.ext) h2 ⟨v', h3, rfl⟩
  | seq x y ihx ihy =>
    intro x0 φ σ w t ds dl a o Q hx h hg hd ha hs hQ
    simp only [compC] at hx
    cases x0 <;> simp only [C.plain, C.seq.injEq, reduceCtorEq] at hx
    rename_i xa xb
    obtain ⟨hxa, hxb⟩ := hx
    simp only [evC] at hs
    refine wp_seq ?_
    split at hs
    · rename_i t' ds' σ' hx1
      refine ihx hxa h hg hd ha hx1 fun φ' a' w' dl' e h1 h2 h3 h4 => ?_
      simp only [ExRel] at h4; subst h4
      exact ihy hxb h1.rel (hg.mono h1.ext) h2 h3 hs (hQ.after h1)
    · rename_i hne
      refine ihx hxa h hg hd ha hs fun φ' a' w' dl' e h1 h2 h3 h4 => ?_
      have := hQ φ' a' w' dl' e h1 h2 h3 h4
      obtain ⟨ox, ot, ods, oσ⟩ := o
      cases ox with
      | normal => exact absurd hs (hne ot ods oσ)
      | exit id => simp only [ExRel] at h4; subst h4; exact this
      | ret => simp only [ExRel] at h4; subst h4; exact this
      | pan v => obtain ⟨v', _, rfl⟩ := h4; exact this
  | cond q x y ihx ihy =>
    intro x0 φ σ w t ds dl a o Q hx h hg hd ha hs hQ
    simp only [compC] at hx
    split at hx
    · rename_i q' hq
      cases x0 <;> simp only [C.plain, C.cond.injEq, reduceCtorEq] at hx
      rename_i xq xa xb
      obtain ⟨rfl, hxa, hxb⟩ := hx
      simp only [evC] at hs
      have hv := env_of ha.rel hg _ _ hq
      split at hs
      · rename_i b hb
        rw [hb] at hv
        refine wp_cond hv.bool_inv ?_
        cases b with
        | true => exact ihx hxa h hg hd ha (by simpa using hs) hQ
        | false => exact ihy hxb h hg hd ha (by simpa using hs) hQ
      · simp at hs
    · exact (bad_no hx hs).elim
  | block id x ih =>
    intro x0 φ σ w t ds dl a o Q hx h hg hd ha hs hQ
    simp only [compC] at hx
    cases x0 <;> simp only [C.plain, C.block.injEq, reduceCtorEq] at hx
    obtain ⟨rfl, hxa⟩ := hx
    simp only [evC] at hs
    refine wp_block ?_
    split at hs
    · rename_i i t' ds' σ' hx1
      refine ih hxa h hg hd ha hx1 fun φ' a' w' dl' e h1 h2 h3 h4 => ?_
      simp only [ExRel] at h4; subst h4
      simp only [Exit.inBlock]
      split at hs
      · rename_i e
        simp at hs; subst hs
        rw [if_pos e]
        exact hQ φ' a' w' dl' _ h1 h2 h3 rfl
      · rename_i e
        simp at hs; subst hs
        rw [if_neg e]
        exact hQ φ' a' w' dl' _ h1 h2 h3 rfl
    · rename_i hne
      refine ih hxa h hg hd ha hs fun φ' a' w' dl' e h1 h2 h3 h4 => ?_
      have := hQ φ' a' w' dl' e h1 h2 h3 h4
      obtain ⟨ox, ot, ods, oσ⟩ := o
      cases ox with
      | normal => simp only [ExRel] at h4; subst h4; exact this
      | exit id => exact absurd hs (hne id ot ods oσ)
      | ret => simp only [ExRel] at h4; subst h4; exact this
      | pan v => obtain ⟨v', _, rfl⟩ := h4; exact this
  | loop x ih =>
    intro x0 φ σ w t ds dl a o Q hx h hg hd ha hs hQ
    simp only [compC] at hx
    have step : ∀ {x1 : C}, x1.plain = compC P gl nt x → ∀ {φ : F} {σ : H} {w : World} {t : T V} {ds : List Dc} {dl : List Deferred} {a : Act} {o : Out}, Rel φ σ w → GRel φ gl → DsRel φ ds dl → ARel φ nt dl t a → evC m call fuel x1 t ds σ = some o →
        ∀ (n : Nat), (o.x ≠ .normal → GoesX φ nt σ w o Q) → (o.x = .normal → ∀ φ' a' w' dl', Sim φ σ w φ' o.σ w' → DsRel φ' o.ds dl' → ARel φ' nt dl' o.t a' → Code.rounds P x Q n a' w') → Code.rounds P x Q (n + 1) a w := by
      intro x1 hx1 φ σ w t ds dl a o h hg hd ha hs n hQ hN
      rw [rounds_succ]
      refine ih hx1 h hg hd ha hs fun φ' a' w' dl' e h1 h2 h3 h4 => ?_
      obtain ⟨ox, ot, ods, oσ⟩ := o
      cases ox with
      | normal => simp only [ExRel] at h4; subst h4; exact hN rfl φ' a' w' dl' h1 h2 h3
      | exit id => have := hQ (by simp) φ' a' w' dl' e h1 h2 h3 h4; simp only [ExRel] at h4; subst h4; exact this
      | ret => have := hQ (by simp) φ' a' w' dl' e h1 h2 h3 h4; simp only [ExRel] at h4; subst h4; exact this
      | pan v => have := hQ (by simp) φ' a' w' dl' e h1 h2 h3 h4; obtain ⟨v', _, rfl⟩ := h4; exact this
    cases x0 <;> simp only [C.plain, C.loop.injEq, reduceCtorEq] at hx
    case loop x1 =>
      simp only [evC] at hs
      have key : ∀ n, ∀ {φ : F} {σ : H} {w : World} {t : T V} {ds : List Dc} {dl : List Deferred} {a : Act}, Rel φ σ w → GRel φ gl → DsRel φ ds dl → ARel φ nt dl t a → iter (evC m call fuel x1) n t ds σ = some o → GoesX φ nt σ w o Q → Code.rounds P x Q n a w := by
        intro n
        induction n with
        | zero => intro φ σ w t ds dl a _ _ _ _ hs; simp [iter] at hs
        | succ n ihn =>
          intro φ σ w t ds dl a h hg hd ha hs hQ
          simp only [iter] at hs
          split at hs
          · rename_i t' ds' σ' hx1
            refine step hx h hg hd ha hx1 n (fun hne => absurd rfl hne) fun _ φ' a' w' dl' h1 h2 h3 => ?_
            exact ihn h1.rel (hg.mono h1.ext) h2 h3 hs (hQ.after h1)
          · rename_i hne
            refine step hx h hg hd ha hs n (fun _ => hQ) fun he => ?_
            exfalso
            obtain ⟨ox, ot, ods, oσ⟩ := o
            simp only at he; subst he
            exact hne ot ods oσ hs
      exact wp_loop_rounds fuel (key fuel h hg hd ha hs hQ)
    case loopG keep x1 =>
      cases ds with
      | cons d ds => simp [evC] at hs
      | nil =>
        cases dl with
        | cons d dl => exact hd.elim
        | nil =>
          simp only [evC] at hs
          have key : ∀ n, ∀ {φ1 : F} {σ1 : H} {w1 : World} {t1 : T V} {a1 : Act}, Sim φ σ w φ1 σ1 w1 → ARel φ1 nt [] t1 a1 → iterG (evC m call fuel x1) σ.next keep n t1 σ1 = some o → Code.rounds P x Q n a1 w1 := by
            intro n
            induction n with
            | zero => intro φ1 σ1 w1 t1 a1 _ _ hs; simp [iterG] at hs
            | succ n ihn =>
              intro φ1 σ1 w1 t1 a1 hs1 ha1 hs
              simp only [iterG] at hs
              split at hs
              · rename_i t' σ' hx1
                split at hs
                · rename_i hok
                  simp only [cutOk, Bool.and_eq_true] at hok
                  refine step hx hs1.rel (hg.mono hs1.ext) (show DsRel φ1 [] [] from trivial) ha1 hx1 n (fun hne => absurd rfl hne) fun _ φ' a' w' dl' h1 h2 h3 => ?_
                  cases dl' with
                  | cons d dl' => exact h2.elim
                  | nil => exact ihn ((hs1.trans h1).cut h hok.2) (h3.cut hok.1) hs
                · simp at hs
              · simp at hs
              · rename_i hne1 hne2
                refine step hx hs1.rel (hg.mono hs1.ext) (show DsRel φ1 [] [] from trivial) ha1 hs n (fun _ => hQ.after hs1) fun he => ?_
                exfalso
                obtain ⟨ox, ot, ods, oσ⟩ := o
                simp only at he; subst he
                cases ods with
                | nil => exact hne1 ot oσ hs
                | cons d ds => exact hne2 ot d ds oσ hs
          exact wp_loop_rounds fuel (key fuel (φ1 := φ) h.canon ha.keep hs)
  | exit id =>
    intro x0 φ σ w t ds dl a o Q hx h hg hd ha hs hQ
    simp only [compC] at hx
    cases x0 <;> simp [C.plain] at hx
    (try subst hx)
    simp [evC] at hs; subst hs
    exact wp_exit (hQ _ _ _ _ _ (Sim.refl h) hd ha rfl)
  | ret =>
    intro x0 φ σ w t ds dl a o Q hx h hg hd ha hs hQ
    simp only [compC] at hx
    cases x0 <;> simp [C.plain] at hx
    (try subst hx)
    simp [evC] at hs; subst hs
    exact wp_ret (hQ _ _ _ _ _ (Sim.refl h) hd ha rfl)
  | _ => intro x0 φ σ w t ds dl a o Q hx h hg hd ha hs hQ; exact (bad_no hx hs).elim

/-- One result. -/
def readR (tmps : Array Value) : ResultVar → Sem Value
  | .tmp t => pure (tmps.getD t Go.undef)
  | .cell a t => do loadVar t (← asAddr (tmps.getD a Go.undef))

theorem readR_sound {φ : F} {σ : H} {w : World} {t : T V} {a : Act} (h : Rel φ σ w) {dl : List Deferred} (ha : ARel φ nt dl t a) {r : ResultVar} {r' : Rs} (hc : compR P r = some r') {l : List Rs} {vs : List V} (hs : resOf t σ (r' :: l) = some vs) :
    ∃ v us v', vs = v :: us ∧ resOf t σ l = some us ∧ VRel φ v v' ∧ (readR a.tmps r).run P w = .ok v' w := by
  cases r with
  | tmp x =>
    simp [compR] at hc; subst hc
    simp only [resOf] at hs
    obtain ⟨us, hus, rfl⟩ := map_some' hs
    exact ⟨_, us, _, rfl, hus, ha.rel x, by simp only [readR]; rfl⟩
  | cell x ty =>
    simp only [compR] at hc
    split at hc
    · rename_i n g hn hgg
      simp at hc; subst hc
      simp only [resOf] at hs
      split at hs
      · rename_i v hv
        obtain ⟨us, hus, rfl⟩ := map_some' hs
        have hx : VRel φ (ev t (.t x)) (a.tmps.getD x Go.undef) := ha.rel x
        obtain ⟨v', p, e, hl, hvr⟩ := loadV_sound h hn hgg hx hv
        refine ⟨v, us, v', rfl, hus, hvr, ?_⟩
        simp only [readR, e]
        exact hl
      · simp at hs
    · simp at hc

/-- What a function hands back. -/
theorem res_sound {φ : F} {σ : H} {w : World} {t : T V} {a : Act} (h : Rel φ σ w) {dl : List Deferred} (ha : ARel φ nt dl t a) : ∀ {l : List ResultVar} {l' : List Rs}, optMap (compR P) l = some l' → ∀ {vs : List V}, resOf t σ l' = some vs →
    ∃ vs', VRels φ vs vs' ∧ (l.mapM (readR a.tmps)).run P w = .ok vs' w
  | [], l', hc, vs, hs => by
    simp [optMap] at hc; subst hc
    simp [resOf] at hs; subst hs
    exact ⟨[], .nil, rfl⟩
  | r :: l, l', hc, vs, hs => by
    simp only [optMap] at hc
    split at hc
    · rename_i r' rs hr hrs
      simp at hc; subst hc
      obtain ⟨v, us, v', rfl, hus, hv, hrd⟩ := readR_sound h ha hr hs
      obtain ⟨us', h1, h2⟩ := res_sound h ha hrs hus
      refine ⟨v' :: us', .cons _ _ _ _ hv h1, ?_⟩
      rw [List.mapM_cons]
      simp [Sem.run_bind, Result.andThen_ok, hrd, h2]
    · simp at hc

theorem results_sound {φ : F} {σ : H} {w : World} {t : T V} {a : Act} (h : Rel φ σ w) {dl : List Deferred} (ha : ARel φ nt dl t a) {fn : Func} {l' : List Rs} (hc : optMap (compR P) fn.results.toList = some l') {vs : List V} (hs : resOf t σ l' = some vs) :
    ∃ v', VRel φ (resV vs) v' ∧ (results fn a.tmps).run P w = .ok v' w := by
  obtain ⟨vs', h1, h2⟩ := res_sound h ha hc hs
  have e : (fn.results.mapM (readR a.tmps)).run P w = .ok vs'.toArray w := by
    rw [Array.mapM_eq_mapM_toList]
    simp only [Sem.run_map, h2, Result.andThen_ok]
  have e2 : (results fn a.tmps).run P w = .ok (if h : vs'.toArray.size = 1 then vs'.toArray[0] else .tuple vs'.toArray) w := by
    have : results fn a.tmps = (do let vs ← fn.results.mapM (readR a.tmps); pure (if h : vs.size = 1 then vs[0] else .tuple vs)) := by
      unfold results
      congr 1
    rw [this]
    simp only [Sem.run_bind, e, Result.andThen_ok]; rfl
  refine ⟨_, ?_, e2⟩
  cases h1 with
  | nil => exact .tup _ _ .nil
  | cons v v' l l2 hv ht =>
    cases ht with
    | nil => simpa [resV] using hv
    | cons u u' l3 l4 hu ht =>
      rw [dif_neg (by simp)]
      exact .tup _ _ (.cons _ _ _ _ hv (.cons _ _ _ _ hu ht))
end

section
variable {P : Program} {gl : List Nat} {m : MT}

/-- The table is the program's. -/
def TblOk (P : Program) (gl : List Nat) (tbl : FuncId → Option FnI) : Prop := ∀ f fi, tbl f = some fi → ∃ fn, P.funcs[f]? = some fn ∧ compF P gl fn = some fi.plain

theorem compF_cases {fn : Func} {fi : FnI} (h : compF P gl fn = some fi) : ¬ fn.name = "runtime.NumGoroutine" ∧ ∃ c, fn.body = some c ∧ optMap (compR P) fn.results.toList = some fi.res ∧
    ((fi.rcv = none ∧ fi.body = compC P gl fn.ntmps c) ∨ ∃ id o o2 x rest args ts, c = .seq (.region id #[o, o2] false) rest ∧ o.op = .call ⟨.builtin .recover, args, ts⟩ ∧ args = #[] ∧ o.guard = none ∧ dstOk fn.ntmps o.dst = true ∧ compOp P gl fn.ntmps #[o, o2] o2 = some x ∧ fi.rcv = some o.dst ∧ fi.body = .seq (.reg [x]) (compC P gl fn.ntmps rest)) := by
  unfold compF at h
  split at h
  · simp at h
  · rename_i hname
    refine ⟨by simpa using hname, ?_⟩
    split at h
    · rename_i c rs hbody hrs
      split at h
      · rename_i p hp
        simp at h; subst h
        refine ⟨c, hbody, hrs, .inr ?_⟩
        unfold rcvOf at hp
        split at hp
        · rename_i id ops rest
          split at hp
          · rename_i o o2 ho
            split at hp
            · rename_i args ts x h1 h2 hx
              split at hp
              · rename_i h3
                simp at hp; subst hp
                simp only [Bool.and_eq_true, List.isEmpty_iff] at h3
                have e : ops = #[o, o2] := by apply Array.toList_inj.1; simpa using ho
                subst e
                exact ⟨id, o, o2, x, rest, args, ts, rfl, h1, by apply Array.toList_inj.1; simpa using h3.1, h2, h3.2, hx, rfl, rfl⟩
              · simp at hp
            · simp at hp
          · simp at hp
        · simp at hp
      · simp at h; subst h
        exact ⟨c, hbody, hrs, .inl ⟨rfl, rfl⟩⟩
    · simp at h

theorem args_rel {φ : F} {args : List V} {args' : List Value} {n : Nat} (hargs : VRels φ args args') : ARel φ n [] (T.ofList .e 0 args) { tmps := (⟨args'⟩ : Array Value) ++ Array.replicate (n - (⟨args'⟩ : Array Value).size) Go.undef, defers := [] } := by
  refine ⟨fun i => ?_, by simp; omega, rfl⟩
  have hl := hargs.length
  simp only [ev, T.get_ofList]
  rw [Array.getD_eq_getD_getElem?, Array.getElem?_append]
  by_cases hi : i < args.length
  · rw [if_pos (by omega), if_pos (by simp; omega)]
    obtain ⟨v', h1, h2⟩ := hargs.get i args[i] (by simp [hi])
    simp [hi, h1]; exact h2
  · rw [if_neg (by omega), if_neg (by simp; omega)]
    simp only [T.get, Option.getD_none]
    exact .any _

/-- What goes on while deferred calls are made: a return, or a panic. -/
def URel (φ : F) : Option V → FrameMode → Prop
  | none, m => m = .returning
  | some v, m => ∃ v', VRel φ v v' ∧ m = .panicking [{ v := v', recovered := false }]
theorem URel.mono {φ ψ : F} (hle : φ.le ψ) {u : Option V} {m : FrameMode} (h : URel φ u m) : URel ψ u m := by
  cases u with
  | none => exact h
  | some v => obtain ⟨v', hv, e⟩ := h; exact ⟨v', hv.mono hle, e⟩
theorem URel.settle {φ : F} {u : Option V} {m : FrameMode} (h : URel φ u m) : Go.settle m = m := by
  cases u with
  | none => cases h; rfl
  | some v => obtain ⟨v', hv, rfl⟩ := h; rfl
theorem URel.run {φ : F} {u : Option V} {m : FrameMode} (h : URel φ u m) : m ≠ .run := by
  cases u with
  | none => cases h; simp
  | some v => obtain ⟨v', hv, rfl⟩ := h; simp

theorem ends_eq {o : Out} {p : T V × H} (h : o.ends = some p) : (o.x = .normal ∨ o.x = .ret) ∧ o.ds = [] ∧ o.t = p.1 ∧ o.σ = p.2 := by
  obtain ⟨x, t, ds, σ⟩ := o
  unfold Out.ends at h
  split at h
  · rename_i e; cases e; simp at h; subst h; simp
  · rename_i e; cases e; simp at h; subst h; simp
  · simp at h

/-- One operation behind a call of recover. -/
theorem wpS_one {φ : F} {σ : H} {w : World} {nt : Nat} {ds : List Deferred} {t : T V} {a : Act} (h : Rel φ σ w) (hg : GRel φ gl) (ha : ARel φ nt ds t a) {ops : Array Oper} {o : Oper} {x : Op} (hc : compOp P gl nt ops o = some x) (hm : MOk P m) {call : Call} (hcall : CallOk P gl call)
    {oc : Oc} (hs : ev1 m call x t σ = some oc) {Q : Exit → Act → List Frame → World → Prop} {cs : List Frame} {i : Nat} (hi : ops[i]? = some o) (hK : Goes φ nt ds σ w (fun a' w' => Q .normal a' cs w') (fun e a' w' => Q e a' cs w') oc) : wpOpsS P ops Q [i] a cs w := by
  have key := ev1_sound (K := fun a' w' => Q .normal a' cs w') (Q := fun e a' w' => Q e a' cs w') h hg ha hc hm hcall hs hK
  simp only [wpOpsS, hi]
  split
  · rename_i hw
    rw [if_pos hw] at key
    unfold Oper.wp at key
    split
    · rename_i w' hr
      rw [hr] at key
      exact key.elim
    · exact key
  · rename_i hw
    rw [if_neg hw] at key
    exact key

theorem callD_sound (hmix : P.follows .mixedOrders = true) (hm : MOk P m) {tbl : FuncId → Option FnI} (ht : TblOk P gl tbl) (fuel : Nat) {call : Call} (hcall : CallOk P gl call)
    {f : FuncId} {args : List V} {u u1 : Option V} {σ σ1 : H} (hs : callD m tbl call fuel f args u σ = some (u1, σ1)) {φ : F} {w : World} {args' : List Value} {md : FrameMode} (hrel : Rel φ σ w) (hg : GRel φ gl) (hargs : VRels φ args args') (hu : URel φ u md) :
    (callFunc f ⟨args'⟩).run P w = .ok (.enter f ⟨args'⟩) w ∧ CallsD P f ⟨args'⟩ md w fun e md' w' => ∃ φ' v, e = .returned v ∧ Sim φ σ w φ' σ1 w' ∧ URel φ' u1 (Go.settle md') := by
  unfold callD at hs
  split at hs
  · simp at hs
  rename_i fi hfi
  obtain ⟨fn, hfn, hcf⟩ := ht f fi hfi
  obtain ⟨hn, c, hbody, hrs, hcase⟩ := compF_cases hcf
  simp only [FnI.plain] at hrs hcase
  refine ⟨by simp [callFunc, go_sem, hfn, hn, hbody], ?_⟩
  split at hs
  · simp at hs
  rename_i p hp
  obtain ⟨vs, hvs, hp2⟩ := map_some' hs
  simp only [Prod.mk.injEq] at hp2
  obtain ⟨hu1, hσ1⟩ := hp2
  obtain ⟨o, ho, hends⟩ := Option.bind_eq_some_iff.1 hp
  obtain ⟨hx, hds, ht1, hσ⟩ := ends_eq hends
  have ha := args_rel (n := fn.ntmps) hargs
  rcases hcase with ⟨hrc, hbc⟩ | ⟨id, op, op2, x2, rest, rargs, ts, rfl, e1, e2, e3, e4, e5, hrc, hbc⟩
  · rw [hrc] at ho hu1
    refine (callsD_of_wp (R := fun e w' => ∃ φ' v, e = .returned v ∧ Sim φ σ w φ' σ1 w') hfn hbody ?_).mono ?_
    · refine code_sound hmix hm hcall fuel hbc hrel hg (show DsRel φ [] [] from trivial) ha ho ?_
      intro φ' a' w' dl e h1 h2 h3 h4
      rw [hds] at h2
      cases dl with
      | cons d dl => exact h2.elim
      | nil =>
        obtain ⟨v', hv', hr⟩ := results_sound (P := P) h1.rel h3 hrs (vs := vs) (by rw [ht1, hσ]; exact hvs)
        have fin : a'.defers = [] ∧ ∃ v, (results fn a'.tmps).run P w' = .ok v w' ∧ ∃ φ' v_1, Ending.returned v = .returned v_1 ∧ Sim φ σ w φ' σ1 w' :=
          ⟨h3.defers, v', hr, φ', v', rfl, by rw [hσ1, ← hσ]; exact h1⟩
        rcases hx with hx | hx <;> rw [hx] at h4 <;> simp only [ExRel] at h4 <;> subst h4 <;> exact fin
    · rintro e md' w' ⟨rfl, φ', v, rfl, hsim⟩
      refine ⟨φ', v, rfl, hsim, ?_⟩
      rw [hu.settle, hu1]
      exact hu.mono hsim.ext
  · rw [hrc] at ho hu1
    obtain ⟨y, hy1, hy2⟩ : ∃ y, fi.body = .seq (.reg [x2]) y ∧ y.plain = compC P gl fn.ntmps rest := by
      cases hb : fi.body <;> rw [hb] at hbc <;> simp only [C.plain, C.seq.injEq, reduceCtorEq] at hbc
      rename_i ya yb
      obtain ⟨h1, h2⟩ := hbc
      cases ya <;> simp only [C.plain, C.reg.injEq, reduceCtorEq] at h1
      subst h1
      exact ⟨yb, rfl, h2⟩
    rw [hy1] at ho
    simp only at hu1
    subst hu1
    refine callsD_of_wpS hfn hbody ?_
    intro c₀ cs hc₀
    refine wpS_seq (wpS_region ?_)
    have hrec : (execOp (Act.eval { tmps := (⟨args'⟩ : Array Value) ++ Array.replicate (fn.ntmps - (⟨args'⟩ : Array Value).size) Go.undef, defers := [] }) op).run P w = .ok .recover w := by
      simp only [execOp, e1, e2, resolve, invoke, builtin]
      rfl
    -- behind the call of recover
    simp only [evC] at ho
    have go : ∀ (rv : V) (rv' : Value) (md' : FrameMode) (cs' : List Frame), rv = u.getD .inil → VRel φ rv rv' → cs' = { c₀ with mode := md' } :: cs → Go.settle md' = .returning →
        wpOpsS P #[op, op2] (Exit.thenS (rest.wpS P (bodyPostS P fn c₀ cs fun e md'' w' => ∃ φ' v, e = .returned v ∧ Sim φ σ w φ' σ1 w' ∧ URel φ' none (Go.settle md''))) (bodyPostS P fn c₀ cs fun e md'' w' => ∃ φ' v, e = .returned v ∧ Sim φ σ w φ' σ1 w' ∧ URel φ' none (Go.settle md''))) [1] (Act.put { tmps := (⟨args'⟩ : Array Value) ++ Array.replicate (fn.ntmps - (⟨args'⟩ : Array Value).size) Go.undef, defers := [] } op.dst rv') cs' w := by
      intro rv rv' md' cs' hrv hvr hcs hset
      have ha2 := ha.put e4 hvr
      rw [hrv] at ha2
      split at ho
      rotate_left
      · exfalso
        rename_i hne
        obtain ⟨oc, hoc, e7⟩ := map_some' ho
        have hox : o.x = .normal ∨ o.x = .ret := hx
        rw [e7] at hox
        cases oc with
        | ok t3 σ3 => simp [Oc.out] at e7; exact hne t3 [] σ3 (by rw [ho, e7])
        | pan v3 t3 σ3 => simp [Oc.out] at hox
      rename_i t3 ds3 σ3 hreg
      obtain ⟨oc, hoc, e7⟩ := map_some' hreg
      simp only [evOps] at hoc
      split at hoc
      rotate_left
      · exfalso
        rename_i hne
        cases oc with
        | ok t4 σ4 => exact hne t4 σ4 hoc
        | pan v3 t4 σ4 => simp [Oc.out] at e7
      rename_i t4 σ4 hone
      simp only [Option.some.injEq] at hoc
      subst hoc
      simp only [Oc.out, Out.mk.injEq, true_and] at e7
      obtain ⟨rfl, rfl, rfl⟩ := e7
      refine wpS_one hrel hg ha2 e5 hm hcall hone (i := 1) rfl ?_
      intro φ3 a3 w3 hs3 ha3
      refine wpS_of_wp ?_
      refine code_sound hmix hm hcall fuel hy2 hs3.rel (hg.mono hs3.ext) (show DsRel φ3 [] [] from trivial) ha3 ho ?_
      intro φ' a' w' dl e h1 h2 h3 h4
      have h1 := hs3.trans h1
      rw [hds] at h2
      cases dl with
      | cons d dl => exact h2.elim
      | nil =>
        obtain ⟨v', hv', hr⟩ := results_sound (P := P) h1.rel h3 hrs (vs := vs) (by rw [ht1, hσ]; exact hvs)
        have fin : a'.defers = [] ∧ ∃ u', cs' = { c₀ with mode := u' } :: cs ∧ ∃ v, (results fn a'.tmps).run P w' = .ok v w' ∧ ∃ φ' v_1, Ending.returned v = .returned v_1 ∧ Sim φ σ w φ' σ1 w' ∧ URel φ' none (Go.settle u') :=
          ⟨h3.defers, md', hcs, v', hr, φ', v', rfl, by rw [hσ1, ← hσ]; exact h1, hset⟩
        rcases hx with hx | hx <;> rw [hx] at h4 <;> simp only [ExRel] at h4 <;> subst h4 <;> exact fin
    have hrange : List.range (#[op, op2] : Array Oper).size = [0, 1] := rfl
    rw [hrange]
    have hw0 : Region.wanted op (yielded #[op, op2] ((⟨args'⟩ : Array Value) ++ Array.replicate (fn.ntmps - (⟨args'⟩ : Array Value).size) Go.undef)) = true := by simp [Region.wanted, e3]
    have hop : ∀ (l : List Nat) (Q : Exit → Act → List Frame → World → Prop) (a : Act) (cs : List Frame) (w : World), wpOpsS P #[op, op2] Q (0 :: l) a cs w = (if Region.wanted op (yielded #[op, op2] a.tmps) then
        match (execOp a.eval op).run P w with
        | .ok .recover w' =>
          match recoverD cs with
          | some (v, cs') => wpOpsS P #[op, op2] Q l (a.put op.dst v) cs' w'
          | none => wpOpsS P #[op, op2] Q l (a.put op.dst .nilIface) cs w'
        | r => op.upon P a (fun a' w' => wpOpsS P #[op, op2] Q l a' cs w') (fun e a' w' => Q e a' cs w') r
      else wpOpsS P #[op, op2] Q l (a.put op.dst Go.undef) cs w) := fun l Q a cs w => rfl
    rw [hop]
    simp only [hw0, if_true, hrec]
    cases u with
    | none =>
      simp only [URel] at hu
      have hnone : recoverD (c₀ :: cs) = none := by simp [recoverD, hc₀, hu]
      simp only [hnone]
      exact go .inil .nilIface .returning (c₀ :: cs) rfl .inil (by rw [← hu, ← hc₀]) rfl
    | some v =>
      obtain ⟨v', hv, hmd⟩ := hu
      have hsome : recoverD (c₀ :: cs) = some (v', { c₀ with mode := .panicking [{ v := v', recovered := true }] } :: cs) := by simp [recoverD, hc₀, hmd]
      simp only [hsome]
      exact go v v' (.panicking [{ v := v', recovered := true }]) _ rfl hv rfl rfl

theorem runD_sound (hmix : P.follows .mixedOrders = true) (hm : MOk P m) {tbl : FuncId → Option FnI} (ht : TblOk P gl tbl) (fuel : Nat) {call : Call} (hcall : CallOk P gl call) {fn : Func} {tmps : Array Value} {R : Ending → World → Prop} {u1 : Option V} {σ1 : H} :
    ∀ {ds : List Dc} {dl : List Deferred} {u : Option V} {σ : H} {φ : F} {w : World} {md : FrameMode}, runD m tbl call fuel ds u σ = some (u1, σ1) → Rel φ σ w → GRel φ gl → DsRel φ ds dl → URel φ u md →
      (∀ φ' w', Sim φ σ w φ' σ1 w' → match u1 with | none => ∃ v, (results fn tmps).run P w' = .ok v w' ∧ R (.returned v) w' | some v => ∀ v', VRel φ' v v' → R (.panicked [{ v := v', recovered := false }]) w') → Leaves P fn tmps R dl md w
  | [], [], u, σ, φ, w, md, hs, hrel, hg, _, hu, hR => by
    simp [runD] at hs
    obtain ⟨rfl, rfl⟩ := hs
    have := hR φ w (Sim.refl hrel)
    cases u with
    | none => simp only [URel] at hu; subst hu; exact this
    | some v => obtain ⟨v', hv, rfl⟩ := hu; exact this v' hv
  | d :: ds, d' :: dl, u, σ, φ, w, md, hs, hrel, hg, hd, hu, hR => by
    simp only [runD] at hs
    split at hs
    · rename_i p hp
      obtain ⟨⟨args', rfl, hargs⟩, hd2⟩ := hd
      obtain ⟨hent, hcd⟩ := callD_sound hmix hm ht fuel hcall (u1 := p.1) (σ1 := p.2) hp hrel hg hargs hu
      refine leaves_cons hu.run ?_ (hcd.mono ?_)
      · simp only [invoke]
        have e : (⟨args'⟩ : Array Value) ++ (#[] : Array Value) = ⟨args'⟩ := by apply Array.toList_inj.1; simp
        rw [e]; exact hent
      · rintro e md' w' ⟨φ', v, rfl, hsim, hu'⟩
        exact runD_sound hmix hm ht fuel hcall hs hsim.rel (hg.mono hsim.ext) (hd2.mono hsim.ext) hu' fun φ2 w2 h2 => hR φ2 w2 (hsim.trans h2)
    · simp at hs
  | [], _ :: _, _, _, _, _, _, _, _, _, hd, _, _ => hd.elim
  | _ :: _, [], _, _, _, _, _, _, _, _, hd, _, _ => hd.elim

theorem callF_sound (hmix : P.follows .mixedOrders = true) (hm : MOk P m) {sm : Call} (hsm : CallOk P gl sm) {tbl : FuncId → Option FnI} (ht : TblOk P gl tbl) (fuel : Nat) : ∀ d, CallOk P gl (callF m sm tbl fuel d) := by
  intro d
  induction d with
  | zero => intro f args σ r h; simp [callF] at h
  | succ d ih =>
    intro f args σ r h φ w args' hrel hg hargs
    simp only [callF] at h
    split at h
    · rename_i r' hr
      simp at h; subst h
      exact hsm f args σ r' hr φ w args' hrel hg hargs
    split at h
    · simp at h
    rename_i fi hfi
    obtain ⟨fn, hfn, hcf⟩ := ht f fi hfi
    obtain ⟨hn, c, hbody, hrs, hcase⟩ := compF_cases hcf
    simp only [FnI.plain] at hrs hcase
    refine ⟨by simp [callFunc, go_sem, hfn, hn, hbody], ?_⟩
    split at h
    · simp at h
    rename_i hrc
    rcases hcase with ⟨hrc2, hbc⟩ | ⟨id, op, op2, x2, rest, rargs, ts, rfl, e1, e2, e3, e4, e5, hrc2, hbc⟩
    rotate_left
    · rw [hrc2] at hrc; simp at hrc
    split at h
    · simp at h
    rename_i o ho
    split at h
    · simp at h
    rename_i u hu
    refine calls_of_wp_defers hfn hbody ?_
    refine code_sound hmix hm ih fuel hbc hrel hg (show DsRel φ [] [] from trivial) (args_rel hargs) ho ?_
    intro φ' a' w' dl e h1 h2 h3 h4
    have key : ∀ md, URel φ' u md → Leaves P fn a'.tmps (RtOk φ σ w r) a'.defers md w' := by
      intro md hmd
      rw [h3.defers]
      split at h
      · rename_i σ' hrd
        obtain ⟨vs, hvs, rfl⟩ := map_some' h
        refine runD_sound hmix hm ht fuel ih hrd h1.rel (hg.mono h1.ext) h2 hmd fun φ2 w2 hs2 => ?_
        have hw2 := h3.mono hs2.ext
        obtain ⟨v', hv', hr⟩ := results_sound (P := P) hs2.rel hw2 hrs hvs
        exact ⟨v', hr, v', φ2, rfl, h1.trans hs2, hv'⟩
      · rename_i v σ' hrd
        simp at h; subst h
        refine runD_sound hmix hm ht fuel ih hrd h1.rel (hg.mono h1.ext) h2 hmd fun φ2 w2 hs2 => ?_
        intro v' hv'
        exact ⟨v', φ2, rfl, h1.trans hs2, hv'⟩
      · simp at h
    cases hx : o.x with
    | normal => rw [hx] at h4 hu; simp only [ExRel] at h4; subst h4; simp [Ex.mode] at hu; subst hu; exact key .returning rfl
    | ret => rw [hx] at h4 hu; simp only [ExRel] at h4; subst h4; simp [Ex.mode] at hu; subst hu; exact key .returning rfl
    | exit i => rw [hx] at hu; simp [Ex.mode] at hu
    | pan v =>
      rw [hx] at h4 hu
      obtain ⟨v', hv', rfl⟩ := h4
      simp [Ex.mode] at hu; subst hu
      exact key _ ⟨v', hv', rfl⟩
end
end Go.Abs
