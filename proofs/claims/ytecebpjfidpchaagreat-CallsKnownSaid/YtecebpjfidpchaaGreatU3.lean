/- PART of the proof of CallsKnown: From the program's operations to ours: those that neither read nor write memory. No condition. -/
import Derived.Test.YtecebpjfidpchaaGreatU2
import Derived.Laws.StructEq
import Derived.Laws.Pointers
import Derived.WalkSpells
/-! From the program's operations to ours: those that neither read nor write memory. -/
namespace Go.Abs

def optMap {α β : Type} (f : α → Option β) : List α → Option (List β)
  | [] => some []
  | a :: l => match f a, optMap f l with
    | some b, some r => some (b :: r)
    | _, _ => none

def ofCell : Value → Option V
  | .bool b => some (.bool b)
  | .int k n => some (.int k n)
  | .string s => some (.str s)
  | .pointer none => some .nil
  | .slice none 0 0 => some .snil
  | .map none => some .mnil
  | .nilFunc => some .fnil
  | .nilIface => some .inil
  | _ => none
def ofValue : Value → Option V
  | .agg cs => (optMap ofCell cs.toList).map .agg
  | v => ofCell v

theorem ofCell_rel {φ : F} {v' : Value} {v : V} (h : ofCell v' = some v) : VRel φ v v' := by
  unfold ofCell at h
  split at h <;> simp at h <;> subst h <;> constructor
theorem optMap_rel {φ : F} : ∀ {l' : List Value} {l : List V}, optMap ofCell l' = some l → VRels φ l l'
  | [], _, h => by simp [optMap] at h; subst h; exact .nil
  | v' :: l', _, h => by
    simp only [optMap] at h
    split at h
    · rename_i b r hb hr
      simp at h; subst h
      exact .cons _ _ _ _ (ofCell_rel hb) (optMap_rel hr)
    · simp at h
theorem ofValue_rel {φ : F} {v' : Value} {v : V} (h : ofValue v' = some v) : VRel φ v v' := by
  unfold ofValue at h
  split at h
  · rename_i cs
    simp only [Option.map_eq_some_iff] at h
    obtain ⟨l, hl, rfl⟩ := h
    obtain ⟨cs⟩ := cs
    exact .agg _ _ (optMap_rel hl)
  · exact ofCell_rel h

/-- The zero value of a type. -/
def zeroOf (P : Program) (t : TypeId) : Option V := ((P.info? t).bind (·.zero)).bind ofValue
def sizeOfT (P : Program) (t : TypeId) : Option Nat := (P.info? t).map (·.size)
def aggT (P : Program) (t : TypeId) : Option Bool := (P.underlying t).map fun d => match d with | .struct _ | .array _ _ => true | _ => false

section
variable {P : Program} {w : World} {t : TypeId}
theorem run_sizeOfT {n : Nat} (h : sizeOfT P t = some n) (w : World) : (sizeOf t).run P w = .ok n w := by
  unfold sizeOfT at h
  simp only [Option.map_eq_some_iff] at h
  obtain ⟨i, hi, rfl⟩ := h
  simp [sizeOf, typeInfo, hi]
theorem run_aggT {b : Bool} (h : aggT P t = some b) (w : World) : (isAgg t).run P w = .ok b w := by
  unfold aggT at h
  simp only [Option.map_eq_some_iff] at h
  obtain ⟨d, hd, rfl⟩ := h
  cases d <;> simp [isAgg, run_underlying hd]
theorem run_zeroOf {v : V} (h : zeroOf P t = some v) (φ : F) (w : World) : ∃ v', (zeroValue t).run P w = .ok v' w ∧ VRel φ v v' := by
  unfold zeroOf at h
  cases hi : P.info? t with
  | none => simp [hi] at h
  | some i =>
    cases hz : i.zero with
    | none => simp [hi, hz] at h
    | some z =>
      simp [hi, hz] at h
      exact ⟨z, by simp [zeroValue, typeInfo, hi, hz], ofValue_rel h⟩
end

/-- The variables of the package that may be named; the others are not known. -/
def compO (gl : List Nat) : Operand → Option Opd
  | .tmp t => some (.t t)
  | .const v => (ofValue v).map .c
  | .global g => some (.c (if gl.contains g then .ptr g 0 else .any))
  | .func f => some (.c (.fn (.func f) [] []))

/-- What the frame holds. -/
def TRel (φ : F) (t : T V) (tmps : Array Value) : Prop := ∀ i, VRel φ (ev t (.t i)) (tmps.getD i Go.undef)
def GRel (φ : F) (gl : List Nat) : Prop := ∀ g, gl.contains g = true → ∃ p, φ g = some p ∧ p.cb = g ∧ p.off = 0

/-- An environment of operands. -/
def Env (φ : F) (gl : List Nat) (ρ : Opd → V) (ρ' : Operand → Value) : Prop := ∀ q x, compO gl q = some x → VRel φ (ρ x) (ρ' q)

theorem env_of {φ : F} {gl : List Nat} {t : T V} {a : Act} (ht : TRel φ t a.tmps) (hg : GRel φ gl) : Env φ gl (ev t) a.eval := by
  intro q x h
  cases q with
  | tmp i => simp [compO] at h; subst h; exact ht i
  | const v =>
    simp only [compO, Option.map_eq_some_iff] at h
    obtain ⟨u, hu, rfl⟩ := h
    exact ofValue_rel hu
  | global g =>
    simp only [compO, Option.some.injEq] at h
    subst h
    split
    · rename_i hc
      obtain ⟨p, hp, h1, h2⟩ := hg g hc
      have := VRel.ptr (φ := φ) g 0 p hp
      rw [h1, h2] at this
      exact this
    · exact .any _
  | func f =>
    simp [compO] at h; subst h
    exact .fn _ _ _ _ _ .nil .nil

def pairsO (gl : List Nat) (place : Nat → Option (Nat × Nat)) : List (Nat × Operand) → Option (List (Nat × Nat × Opd))
  | [] => some []
  | (i, x) :: r => match place i, compO gl x, pairsO gl place r with
    | some (off, size), some y, some l => some ((off, size, y) :: l)
    | _, _, _ => none

def placesOf (P : Program) : List Field → Option (List (Nat × Nat))
  | [] => some []
  | f :: r => match sizeOfT P f.type, placesOf P r with
    | some n, some l => some ((f.offset, n) :: l)
    | _, _ => none

theorem run_places {P : Program} {w : World} : ∀ {fs : List Field} {l : List (Nat × Nat)}, placesOf P fs = some l →
    (fs.mapM fun f => do pure (f.offset, ← sizeOf f.type) : Sem (List (Nat × Nat))).run P w = .ok l w
  | [], _, h => by simp [placesOf] at h; subst h; rfl
  | f :: r, _, h => by
    simp only [placesOf] at h
    split at h
    · rename_i n l hn hl
      simp at h; subst h
      have ih := run_places (w := w) hl
      simp only [bind_pure_comp] at ih
      simp [List.mapM_cons, run_sizeOfT hn, ih]
    · simp at h

theorem setAll_rel {φ : F} : ∀ {vs : List V} {vs' : List Value} {cs : List V} {cs' : List Value} {off : Nat}, VRels φ vs vs' → VRels φ cs cs' →
    VRels φ (setAll cs off vs) ((vs'.zipIdx off).foldl (fun cs (c, j) => cs.set j c) cs')
  | _, _, _, _, _, .nil, h => by simpa [setAll] using h
  | _, _, _, _, off, .cons v v' l l' hv t, h => by
    simp only [setAll, List.zipIdx_cons, List.foldl_cons]
    exact setAll_rel t (h.set off hv)

theorem foldl_fill (off : Nat) (vs : List Value) : ∀ (j : Nat) (cells : List Value),
    ((vs.zipIdx j).toArray.foldl (fun cs (c, j) => cs.setIfInBounds (off + j) c) (⟨cells⟩ : Array Value)) = ⟨(vs.zipIdx (off + j)).foldl (fun cs (c, j) => cs.set j c) cells⟩ := by
  induction vs with
  | nil => intro j cells; simp
  | cons v l ih =>
    intro j cells
    have := ih (j + 1) (cells.set (off + j) v)
    simp only [List.zipIdx_cons, List.foldl_toArray, List.foldl_cons] at this ⊢
    rw [show off + (j + 1) = off + j + 1 from by omega] at this
    rw [← this]
    simp

theorem fill_rel {φ : F} {gl : List Nat} {ρ : Opd → V} {ρ' : Operand → Value} (he : Env φ gl ρ ρ') (place : Nat → Option (Nat × Nat)) :
    ∀ {ps : List (Nat × Operand)} {l : List (Nat × Nat × Opd)} {cs r : List V} {cs' : List Value}, pairsO gl place ps = some l → VRels φ cs cs' →
    fillL cs (l.map fun p => (p.1, p.2.1, ρ p.2.2)) = some r →
    ∃ r', Instr.fill place ⟨cs'⟩ (ps.map fun p => (p.1, ρ' p.2)) = some ⟨r'⟩ ∧ VRels φ r r'
  | [], _, cs, r, cs', h, hc, hf => by
    simp [pairsO] at h; subst h
    simp [fillL] at hf; subst hf
    exact ⟨cs', by simp [Instr.fill], hc⟩
  | (i, x) :: ps, _, cs, r, cs', h, hc, hf => by
    simp only [pairsO] at h
    split at h
    · rename_i off size y l hp hx hl
      simp at h; subst h
      simp only [List.map_cons, fillL] at hf
      split at hf
      · simp at hf
      · rename_i hno
        have hv := he x y hx
        have hcells := hv.cells (by simp only [not_or] at hno; simpa using hno.2.2)
        have hlen := hcells.length
        have hclen := hc.length
        obtain ⟨r', h1, h2⟩ := fill_rel he place hl (setAll_rel (off := off) hcells hc) hf
        refine ⟨r', ?_, h2⟩
        simp only [List.map_cons, Instr.fill, hp]
        rw [if_neg (by simp at hno hlen hclen ⊢; omega)]
        have e := foldl_fill off (ρ' x).cells.toList 0 cs'
        rw [show off + 0 = off from rfl] at e
        have e2 : ((ρ' x).cells.toList.zipIdx 0).toArray = (ρ' x).cells.zipIdx 0 := by rw [← Array.toList_zipIdx]
        rw [e2] at e
        rw [e]
        exact h1
    · simp at h

end Go.Abs
