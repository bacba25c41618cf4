/- PART of the proof of CallsKnown: Operations that write, and calls. No condition. -/
import Derived.Test.YtecebpjfidpchaaGreatU8
/-! Operations that write, and calls. -/
namespace Go.Abs

def isPtrT (P : Program) (t : TypeId) : Bool := match P.underlying t with | some (.pointer e) => (match sizeOfT P e with | some (_ + 1) => true | _ => false) | _ => false
def isIntT (P : Program) (t : TypeId) : Bool := match P.underlying t with | some (.int _) => true | _ => false
def isConstO : Operand → Bool
  | .const _ => true
  | _ => false

def compH (P : Program) (gl : List Nat) : Go.Op → Option X
  | .load t a => match sizeOfT P t, aggT P t with
    | some n, some g => (compO gl a).map (.load n g)
    | _, _ => none
  | .store t a v => match sizeOfT P t with
    | some n => comp2 gl a v (.store n)
    | none => none
  | .binOp op t x y _ => if (op = .eql ∨ op = .neq) ∧ isPtrT P t = true then comp2 gl x y (.eqp (decide (op = .neq))) else none
  | .slice t x lo hi none => match P.underlying t, compOo gl lo, compOo gl hi with
    | some (.array m e), some lo, some hi => match sizeOfT P e with
      | some n => (compO gl x).map fun x => .sliceA m n x lo hi
      | none => none
    | _, _, _ => none
  | .lookup t m k ok => match P.underlying t with
    | some (.map kt e) => match zeroOf P e with
      | some z => if isIntT P kt = true then comp2 gl m k (.lookup z ok) else none
      | none => none
    | _ => none
  | .mapUpdate t m k v | .insert t m k v => match P.underlying t with
    | some (.map kt _) => if isIntT P kt = true then (match compO gl m with | some m => comp2 gl k v (.update m) | none => none) else none
    | _ => none
  | .call ⟨.builtin .delete, args, ts⟩ => match args.toList, ts[0]? with
    | [m, k], some t => match P.underlying t with
      | some (.map kt _) => if isIntT P kt = true then comp2 gl m k .delete else none
      | _ => none
    | _, _ => none
  | .call ⟨.builtin .len, args, ts⟩ => match args.toList, ts[0]? with
    | [m], some t => match P.underlying t with
      | some (.map _ _) => (compO gl m).map .lenM
      | _ => none
    | _, _ => none
  | .call ⟨.builtin .append, args, ts⟩ => match args.toList, ts[0]?, ts[1]? with
    | [s, x], some t, some t2 => match P.underlying t, P.underlying t2 with
      | some (.slice e), some (.slice _) => match P.info? e with
        | some i => match i.zero with
          | some zv => if zv.cells.size = i.size then comp2 gl s x (.append i.size i.bytes) else none
          | none => none
        | none => none
      | _, _ => none
    | _, _, _ => none
  | .call ⟨.builtin .copy, args, ts⟩ => match args.toList, ts[0]? with
    | [d, s], some t => match P.underlying t with
      | some (.slice e) => match sizeOfT P e with
        | some n => comp2 gl d s (.copy n)
        | none => none
      | _ => none
    | _, _ => none
  | .call ⟨.builtin .clear, args, ts⟩ => match args.toList, ts[0]? with
    | [x], some t => match P.underlying t with
      | some (.slice e) => match zeroOf P e with
        | some z => (compO gl x).map (.clearS z.cells)
        | none => none
      | _ => none
    | _, _ => none
  | .call ⟨.value f, args, _⟩ => match compOs gl args with
    | some l => (match f with
      | .func f => some (.call f l)
      | f => (compO gl f).map fun f => .callV f l)
    | none => none
  | .call ⟨.invoke r name, args, _⟩ => match compOs gl args with
    | some l => (compO gl r).map fun r => .invoke name r l
    | none => none
  | .panic x => (compO gl x).map .panic
  | _ => none

def bothVar (P : Program) : Go.Op → Bool
  | .binOp _ t x y _ => isPtrT P t && !isConstO x && !isConstO y
  | _ => false
def compX (P : Program) (gl : List Nat) (op : Go.Op) : Option X :=
  if bothVar P op = true then compH P gl op else
  match compL P gl op with
  | some x => some (.l x)
  | none => match compA P gl op with
    | some x => some (.a x)
    | none => compH P gl op

/-- An operation has run, and its result is that value. -/
def Ran (P : Program) (ρ' : Operand → Value) (o : Oper) (w : World) (v' : Value) (w' : World) : Prop :=
  (execOp ρ' o).run P w = .ok (.value v') w' ∨ ((execOp ρ' o).run P w = .ok .skip w' ∧ v' = Go.undef)

section
variable {P : Program} {gl : List Nat} {φ : F} {ρ : Opd → V} {ρ' : Operand → Value} {σ : H} {w : World}

theorem run_checkKey_int {kt : TypeId} (h : isIntT P kt = true) (b : Bool) (k : Value) (w : World) : (Instr.checkKey b 10000 kt k).run P w = .ok () w := by
  unfold isIntT at h
  split at h
  · rename_i kk hu
    have : ∀ d, (Instr.checkKey b (d + 1) kt k).run P w = .ok () w := fun d => by
      simp only [Instr.checkKey, Sem.run_bind, run_underlying hu, Result.andThen_ok]
      cases k <;> rfl
    exact this 9999
  · simp at h

theorem findE_int {k : V} {es : List (V × V)} {r : Option V} (h : findE k es = some r) : ∃ j n, k = .int j n ∧ es.all (fun e => (keyEq (.int j n) e.1).isSome) = true ∧ findV (.int j n) es = r := by
  unfold findE at h
  split at h
  · rename_i j n
    split at h
    · rename_i hall
      simp at h
      exact ⟨j, n, rfl, hall, h⟩
    · simp at h
  · simp at h

theorem run_findKey {kt : TypeId} (h : isIntT P kt = true) {es : List (V × V)} {es' : List MapEntry} (hr : ERel φ es es') {j : IntKind} {n : Int} (hk : es.all (fun e => (keyEq (.int j n) e.1).isSome) = true) (w : World) :
    match findV (.int j n) es with
    | some v => ∃ q e', (Instr.findKey kt (.int j n) es').run P w = .ok (some (q, e'.val)) w ∧ es'[q]? = some e' ∧ e'.key = .int j n ∧ VRel φ v e'.val
    | none => (Instr.findKey kt (.int j n) es').run P w = .ok none w ∧ ∀ e' ∈ es', e'.key ≠ .int j n := by
  unfold isIntT at h
  split at h
  · rename_i kk hu
    have := hr.find hk kk
    split at this
    · rename_i v hv
      obtain ⟨q, e', a, b, c, d⟩ := this
      rw [hv]
      exact ⟨q, e', by simp [Instr.findKey, run_underlying hu, a], b, c, d⟩
    · rename_i hv
      obtain ⟨a, b⟩ := this
      rw [hv]
      exact ⟨by simp [Instr.findKey, run_underlying hu, a], b⟩
  · simp at h

/-- The map that a value names. -/
theorem Rel.map (h : Rel φ σ w) {r : Nat} {m' : Value} (hm : VRel φ (.map r) m') {ro : Bool} {es : List (V × V)} (hb : σ.get r = some (.map ro es)) :
    ∃ p es' ck, φ r = some p ∧ m' = .map (some p.cb) ∧ w.heap[p.cb]? = some (.map es' ck) ∧ ERel φ es es'.toList := by
  obtain ⟨p, hp, rfl⟩ := hm.map_inv
  obtain ⟨p', hp', _, es', ck, h1, h2⟩ := h.blk r _ hb
  rw [hp] at hp'; simp at hp'; subst hp'
  exact ⟨p, es', ck, hp, rfl, h1, h2⟩

theorem run_getObj_map {k : Nat} {es : Array MapEntry} {ck : Nat} (h : w.heap[k]? = some (.map es ck)) : (getObj k).run P w = .ok (.map es ck) w := by
  simp [getObj, Sem.run, h]
theorem run_setObj_map {k : Nat} {es : Array MapEntry} {ck : Nat} (h : w.heap[k]? = some (.map es ck)) (o : Obj) : (setObj k o).run P w = .ok () { w with heap := w.heap.setIfInBounds k o } := by
  simp [setObj, Sem.run, h]

theorem sameBits_int (j : IntKind) (n : Int) : Instr.sameBits 10000 (.int j n) (.int j n) = true := by simp [Instr.sameBits]

/-- A slice's cells, as the program loads them. -/
theorem run_firstCells (h : Rel φ σ w) {z n : Nat} {b o len cap : Nat} {x' : Value} (hx : VRel φ (.slice b o len cap z) x') (hn : n ≤ len) {l : List V} (hl : σ.loadN b o (n * z) = some l) :
    ∃ l', (∀ w' : World, w'.heap = w.heap → (Builtin.firstCells z n x').run P w' = .ok ⟨l'⟩ w') ∧ VRels φ l l' := by
  obtain ⟨hlen, p, hp, hle, l', hl', hc⟩ := h.loadN hl
  rcases hx.slice_inv with ⟨p2, cap', hp2, _, _, _, rfl⟩ | ⟨rfl, rfl, a, rfl⟩
  · rw [hp] at hp2; simp at hp2; subst hp2
    refine ⟨l', fun w' hw => ?_, hl'⟩
    have := run_loadCells_list (P := P) (w := w') ⟨p.cb, p.off + o, none⟩ l' (fun j v hj => by rw [add_eq]; exact ((hc j v hj).congr (by rw [hw])).cell)
    rw [← hl'.length, hlen] at this
    simp [Builtin.firstCells, this]
  · have hn0 : n = 0 := by omega
    subst hn0
    simp at hlen
    subst hlen
    exact ⟨[], fun w' _ => by simp [Builtin.firstCells, loadCells, loadCellsFrom], .nil⟩

theorem next_bound {need cap bytes : Nat} (h1 : cap < need) (h2 : need ≤ 1048576) (h3 : bytes ≤ 1024) : ¬ (Builtin.nextslicecap need cap * bytes > 2 ^ 48) := by
  have hb : Builtin.nextslicecap need cap ≤ 268435456 := by
    unfold Builtin.nextslicecap
    split
    · omega
    · split
      · omega
      · simp only [Builtin.growBy]
        (repeat' split) <;> omega
  have : Builtin.nextslicecap need cap * bytes ≤ 268435456 * 1024 := Nat.mul_le_mul hb h3
  have e : (2 : Nat) ^ 48 = 281474976710656 := by decide
  rw [e]
  omega

end
end Go.Abs
