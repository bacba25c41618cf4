/- PART of the proof of CallsKnown: Light operations: the program's, ours, and that they agree. No condition. -/
import Derived.Test.YtecebpjfidpchaaGreatU3
/-! Light operations: the program's, ours, and that they agree. -/
namespace Go.Abs

def compOs (gl : List Nat) (l : Array Operand) : Option (List Opd) := optMap (compO gl) l.toList
def compOo (gl : List Nat) : Option Operand → Option (Option Opd)
  | none => some none
  | some x => (compO gl x).map some

def intFields (P : Program) : Nat → List Field → Bool
  | _, [] => true
  | i, f :: r => decide (f.offset = i) && decide (f.name ≠ "_") && (match P.underlying f.type with | some (.int _) => true | _ => false) && intFields P (i + 1) r

def litO : Operand → Bool
  | .const _ => true
  | _ => false
def eqKOf (P : Program) (t : TypeId) (x y : Operand) : Option EqK :=
  match P.underlying t with
  | some .bool => some .bool
  | some (.pointer e) => match sizeOfT P e with | some (_ + 1) => some .ptr | _ => none
  | some (.interface ms) => if (ms.isEmpty || litO x || litO y) = true then some .any else some .iface
  | some (.func _ _ _) => some .func
  | some (.slice _) => some .slice
  | some (.map _ _) => some .map
  | some (.struct fs) => if P.stoodInHeld t = false ∧ P.eqGuardType P.depth t = false ∧ intFields P 0 fs.toList = true then some (.ints fs.size) else none
  | _ => none

def comp2 {α : Type} (gl : List Nat) (x y : Operand) (f : Opd → Opd → α) : Option α :=
  match compO gl x, compO gl y with
  | some a, some b => some (f a b)
  | _, _ => none

def compL (P : Program) (gl : List Nat) : Go.Op → Option XL
  | .move x => (compO gl x).map .mov
  | .assign x => (compO gl x).map .mov
  | .pick c a b => match compO gl c with
    | some c => comp2 gl a b (.pick c)
    | none => none
  | .build t parts => match zeroOf P t, P.underlying t with
    | some (.agg zs), some (.struct fs) => match placesOf P fs.toList with
      | some pl => (pairsO gl (fun i => pl[i]?) parts.toList).map (.build zs)
      | none => none
    | some (.agg zs), some (.array _ e) => match sizeOfT P e with
      | some n => (pairsO gl (fun i => some (i * n, n)) parts.toList).map (.build zs)
      | none => none
    | _, _ => none
  | .nilCheck x => (compO gl x).map .nilck
  | .binOp op t x y _ => match P.underlying t with
    | some (.int _) => comp2 gl x y (if op = .shl ∨ op = .shr then .shift op else .arith op)
    | _ => if op = .eql ∨ op = .neq then match eqKOf P t x y with
        | some e => comp2 gl x y (.eq (decide (op = .neq)) e)
        | none => none
      else none
  | .unOp op _ x => (compO gl x).map (.un op)
  | .convert s d x => match P.underlying s, P.underlying d with
    | some (.int _), some (.int k) => (compO gl x).map (.conv k)
    | _, _ => none
  | .makeInterface t x => match P.underlying t with
    | some (.interface _) => none
    | some _ => (compO gl x).map (.mkIface t)
    | none => none
  | .makeFunc fn first cap => match compOs gl first, compOs gl cap with
    | some a, some b => some (.mkFunc fn a b)
    | _, _ => none
  | .slice t x lo hi none => match P.underlying t, compOo gl lo, compOo gl hi with
    | some (.slice e), some lo, some hi => match sizeOfT P e with
      | some n => (compO gl x).map fun x => .slice n x lo hi
      | none => none
    | _, _, _ => none
  | .fieldAddr s x f => match P.underlying s with
    | some (.struct fs) => match fs[f]? with
      | some fd => match sizeOfT P fd.type with
        | some (_ + 1) => (compO gl x).map (.fieldAddr fd.offset)
        | _ => none
      | none => none
    | _ => none
  | .field t x f => match P.underlying t with
    | some (.struct fs) => match fs[f]? with
      | some fd => match sizeOfT P fd.type, aggT P fd.type with
        | some n, some g => (compO gl x).map (.field fd.offset n g)
        | _, _ => none
      | none => none
    | _ => none
  | .indexAddr t x i => match P.underlying t with
    | some (.slice e) => match sizeOfT P e with
      | some (n + 1) => comp2 gl x i (.idxS (n + 1))
      | _ => none
    | some (.array len e) => match sizeOfT P e with
      | some n => comp2 gl x i (.idxP len n)
      | _ => none
    | _ => none
  | .index t x i => match P.underlying t with
    | some (.array len e) => match sizeOfT P e, aggT P e with
      | some n, some g => comp2 gl x i (.idxA len n g)
      | _, _ => none
    | _ => none
  | .extract x i => (compO gl x).map (.extract i)
  | .typeAssert x _ t ok => match P.underlying t with
    | some (.interface _) => none
    | some _ => if ok then (match zeroOf P t with | some z => (compO gl x).map (.assertT t (some z)) | none => none) else (compO gl x).map (.assertT t none)
    | none => none
  | .call ⟨.builtin .len, args, ts⟩ => match args.toList, ts[0]? with
    | [x], some t => match P.underlying t with
      | some (.slice _) => (compO gl x).map .lenS
      | some .string => (compO gl x).map .lenT
      | _ => none
    | _, _ => none
  | .call ⟨.builtin .max, args, _⟩ => match args.toList with
    | [x, y] => comp2 gl x y (.maxmin true)
    | _ => none
  | .call ⟨.builtin .min, args, _⟩ => match args.toList with
    | [x, y] => comp2 gl x y (.maxmin false)
    | _ => none
  | _ => none

theorem comp2_eq {α : Type} {gl : List Nat} {x y : Operand} {f : Opd → Opd → α} {r : α} (h : comp2 gl x y f = some r) :
    ∃ a b, compO gl x = some a ∧ compO gl y = some b ∧ r = f a b := by
  unfold comp2 at h
  split at h
  · rename_i a b ha hb
    simp at h
    exact ⟨a, b, ha, hb, h.symm⟩
  · simp at h

theorem optMap_env {φ : F} {gl : List Nat} {ρ : Opd → V} {ρ' : Operand → Value} (he : Env φ gl ρ ρ') : ∀ {l : List Operand} {l' : List Opd}, optMap (compO gl) l = some l' →
    VRels φ (l'.map ρ) (l.map ρ')
  | [], _, h => by simp [optMap] at h; subst h; exact .nil
  | x :: l, _, h => by
    simp only [optMap] at h
    split at h
    · rename_i b r hb hr
      simp at h; subst h
      exact .cons _ _ _ _ (he _ _ hb) (optMap_env he hr)
    · simp at h

section eqs
variable {P : Program} {φ : F} {w : World}

theorem run_eqFields_ints (d : Nat) : ∀ (fs : List Field) (i : Nat) (us vs : List V) (r : Bool) (us' vs' : List Value),
    intFields P i fs = true → intsEq fs.length us vs = some r → (∀ (j : Nat) v, us[j]? = some v → ∃ v', us'[i + j]? = some v' ∧ VRel φ v v') → (∀ (j : Nat) v, vs[j]? = some v → ∃ v', vs'[i + j]? = some v' ∧ VRel φ v v') →
    (Op.eqFields (d + 1) ⟨us'⟩ ⟨vs'⟩ fs).run P w = .ok r w := by
  intro fs
  induction fs with
  | nil =>
    intro i us vs r us' vs' _ h _ _
    cases us <;> cases vs <;> simp [intsEq] at h
    subst h
    simp [Op.eqFields]
  | cons f fs ih =>
    intro i us vs r us' vs' hi h hu hv
    simp only [intFields, Bool.and_eq_true, decide_eq_true_eq] at hi
    obtain ⟨⟨⟨ho, hn⟩, ht⟩, hr⟩ := hi
    cases us with
    | nil => cases vs <;> simp [intsEq] at h
    | cons x us =>
      cases vs with
      | nil => cases x <;> simp [intsEq] at h
      | cons y vs =>
        obtain ⟨x', ex, rx⟩ := hu 0 x (by simp)
        obtain ⟨y', ey, ry⟩ := hv 0 y (by simp)
        cases x <;> cases y <;> simp [intsEq] at h
        rename_i k a k' b
        obtain ⟨hk, h⟩ := h
        subst hk
        cases rx; cases ry
        simp only [Nat.add_zero] at ex ey
        cases hun : P.underlying f.type with
        | none => simp [hun] at ht
        | some ty =>
          cases ty <;> simp [hun] at ht
          rename_i kk
          have hagg : (isAgg f.type).run P w = .ok false w := by simp [isAgg, run_underlying hun]
          have p1 : (part f.type ⟨us'⟩ f.offset).run P w = .ok (.int k a) w := by simp [part, hagg, ho, ex]
          have p2 : (part f.type ⟨vs'⟩ f.offset).run P w = .ok (.int k b) w := by simp [part, hagg, ho, ey]
          have q := run_equalIn_int (P := P) w d f.type k kk a b hun
          simp only [Op.eqFields]
          rw [if_pos hn]
          simp only [Sem.run_bind, p1, p2, q, Result.andThen_ok, Sem.run_ite]
          by_cases hab : a = b
          · subst hab
            simp at h ⊢
            exact ih (i + 1) us vs r us' vs' hr h (fun j v hj => by
                obtain ⟨v', e, rr⟩ := hu (j + 1) v (by simpa using hj)
                exact ⟨v', by rw [← e]; congr 1; omega, rr⟩) (fun j v hj => by
                obtain ⟨v', e, rr⟩ := hv (j + 1) v (by simpa using hj)
                exact ⟨v', by rw [← e]; congr 1; omega, rr⟩)
          · simp [hab] at h ⊢
            exact h

/-- What a type must be for each kind of '=='. -/
def EqOk (P : Program) (t : TypeId) : EqK → Prop
  | .bool => P.underlying t = some .bool
  | .ptr => ∃ e n, P.underlying t = some (.pointer e) ∧ sizeOfT P e = some (n + 1)
  | .iface => ∃ ms, P.underlying t = some (.interface ms)
  | .any => ∃ ms, P.underlying t = some (.interface ms)
  | .func => ∃ a b c, P.underlying t = some (.func a b c)
  | .slice => ∃ e, P.underlying t = some (.slice e)
  | .map => ∃ k e, P.underlying t = some (.map k e)
  | .ints n => ∃ fs, P.underlying t = some (.struct fs) ∧ P.stoodInHeld t = false ∧ P.eqGuardType P.depth t = false ∧ intFields P 0 fs.toList = true ∧ n = fs.size
theorem eqOk_of {t : TypeId} {x y : Operand} {e : EqK} (hk : eqKOf P t x y = some e) : EqOk P t e := by
  unfold eqKOf at hk
  split at hk
  · rename_i h; simp at hk; subst hk; exact h
  · rename_i el h
    split at hk
    · rename_i n hn; simp at hk; subst hk; exact ⟨el, n, h, hn⟩
    · simp at hk
  · rename_i ms h
    split at hk
    · simp at hk; subst hk; exact ⟨ms, h⟩
    · simp at hk; subst hk; exact ⟨ms, h⟩
  · rename_i a b c h; simp at hk; subst hk; exact ⟨a, b, c, h⟩
  · rename_i el h; simp at hk; subst hk; exact ⟨el, h⟩
  · rename_i k el h; simp at hk; subst hk; exact ⟨k, el, h⟩
  · rename_i fs h
    split at hk
    · rename_i hh; simp at hk; subst hk; exact ⟨fs, h, hh.1, hh.2.1, hh.2.2, rfl⟩
    · simp at hk
  · simp at hk

/-- Two nil values of an interface's type. -/
def AnyOk (P : Program) (t : TypeId) (x y : Operand) (e : EqK) : Prop := e = .any → litO x = true ∨ litO y = true ∨ ∃ ms, P.underlying t = some (.interface ms) ∧ ms.isEmpty = true
theorem anyOk_of {t : TypeId} {x y : Operand} {e : EqK} (hk : eqKOf P t x y = some e) : AnyOk P t x y e := by
  rintro rfl
  unfold eqKOf at hk
  split at hk
  case h_3 ms h =>
    split at hk
    · rename_i hc
      simp only [Bool.or_eq_true] at hc
      rcases hc with (hc | hc) | hc
      · exact .inr (.inr ⟨ms, h, hc⟩)
      · exact .inl hc
      · exact .inr (.inl hc)
    · simp at hk
  all_goals (exfalso; (try split at hk) <;> (try simp at hk) <;> (try split at hk) <;> (try simp at hk))

theorem guardNil {t : TypeId} {ms} (hu : P.underlying t = some (.interface ms)) (hm : ms.isEmpty = true) (w : World) (d : Nat) : (Op.eqGuardIn (d + 1) t .nilIface .nilIface).run P w = .ok false w := by
  simp [Op.eqGuardIn, run_underlying hu, hm]
theorem guardNil2 {t : TypeId} {ms} (hu : P.underlying t = some (.interface ms)) (hm : ms.isEmpty = true) (w : World) (op : BinOp) (hop : op = .eql ∨ op = .neq) (x y : Operand) : (eqGuard op t x y .nilIface .nilIface).run P w = .ok () w := by
  have g0 : (Op.eqGuardIn Op.maxDepth t .nilIface .nilIface).run P w = .ok false w := guardNil hu hm w 9999
  rcases hop with rfl | rfl <;> simp [eqGuard, g0]

set_option maxHeartbeats 2000000 in
theorem eqIn_sound {t : TypeId} {e : EqK} (hk : EqOk P t e) {v u : V} {a b : Value} (hv : VRel φ v a) (hu : VRel φ u b) {r : Bool} (h : eqV e v u = some r) (d : Nat) (w : World) :
    (Op.equalIn (d + 2) t a b).run P w = .ok r w := by
  unfold eqV at h
  split at h
  case h_20 n xs ys =>
    obtain ⟨fs, h0, h1, h2, h3, h4⟩ := hk
    cases hv
    cases hu
    rename_i cs' hc ds' hd
    have hf : P.underlying t = some (.struct (P.fieldsOf t)) := by simp [Program.fieldsOf, h0]
    have hfl : (P.fieldsOf t).toList = fs.toList := by simp [Program.fieldsOf, h0]
    rw [run_equalIn_struct w (d + 1) t _ _ hf h1, hfl]
    exact run_eqFields_ints (φ := φ) d fs.toList 0 xs ys r cs' ds' h3 (by simpa [h4] using h) (fun j v hj => by simpa using hc.get j v hj) (fun j v hj => by simpa using hd.get j v hj)
  case h_5 b1 o1 b2 o2 =>
    obtain ⟨el, n, h0, h1⟩ := hk
    cases hv
    cases hu
    rename_i p hp p2 hp2
    split at h
    · rename_i hb
      subst hb
      rw [hp] at hp2; simp at hp2; subst hp2
      simp at h
      have ha : ((⟨p.cb, p.off + o1, none⟩ : Addr) == ⟨p.cb, p.off + o2, none⟩) = r := by
        rw [← h, Bool.eq_iff_iff]; simp
      have hsz := run_sizeOfT h1 w
      generalize d + 1 = d'
      simp [Op.equalIn, run_underlying h0, hsz, sameAddr, ha]
    · simp at h
  case h_21 => simp at h
  all_goals
    simp at h
    subst h
    generalize d + 1 = d'
    simp only [EqOk] at hk
    cases hv <;> cases hu
    all_goals first
      | simp [Op.equalIn, run_underlying hk]
      | (obtain ⟨_, hk⟩ := hk; simp [Op.equalIn, run_underlying hk]; done)
      | (obtain ⟨_, _, hk, _⟩ := hk; simp [Op.equalIn, run_underlying hk]; done)
      | (obtain ⟨_, _, hk⟩ := hk; simp [Op.equalIn, run_underlying hk]; done)
      | (obtain ⟨_, _, _, hk⟩ := hk; simp [Op.equalIn, run_underlying hk]; done)

set_option maxHeartbeats 2000000 in
theorem eq_sound {t : TypeId} {e : EqK} {op : BinOp} (hop : op = .eql ∨ op = .neq) (x y : Operand) (hk : EqOk P t e) (hany : AnyOk P t x y e) {v u : V} {a b : Value} (hv : VRel φ v a) (hu : VRel φ u b) {r : Bool} (h : eqV e v u = some r) (w : World) :
    (eqGuard op t x y a b).run P w = .ok () w ∧ (binOp op t a b).run P w = .ok (.bool (if decide (op = .neq) then !r else r)) w := by
  have q : (Op.equal t a b).run P w = .ok r w := eqIn_sound hk hv hu h 9998 w
  unfold eqV at h
  split at h
  case h_20 n xs ys =>
    obtain ⟨fs, h0, h1, h2, h3, h4⟩ := hk
    cases hv
    cases hu
    rename_i cs' hc ds' hd
    have g := run_eqGuard_agg w op t x y ⟨cs'⟩ ⟨ds'⟩ h2
    refine ⟨g, ?_⟩
    rcases hop with rfl | rfl <;> (simp only [binOp]; simp [q])
  case h_17 =>
    cases hv; cases hu
    have g : (eqGuard op t x y .nilIface .nilIface).run P w = .ok () w := by
      rcases hany rfl with hx | hy | ⟨ms, hu, hm⟩
      · cases x <;> simp [litO] at hx
        simp [eqGuard]
      · cases y <;> simp [litO] at hy
        simp [eqGuard]
      · exact guardNil2 hu hm w op hop x y
    refine ⟨g, ?_⟩
    rcases hop with rfl | rfl <;> (simp only [binOp]; simp [q])
  case h_21 => simp at h
  all_goals
    cases hv <;> cases hu
    all_goals (rcases hop with rfl | rfl <;> exact ⟨by simp [eqGuard], by simp only [binOp]; simp [q]⟩)
end eqs
end Go.Abs
