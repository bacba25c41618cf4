/- PART of the proof of CallsKnown: Unknown integers: what they stand for, and that operations which do not look at them go on as before. No condition. -/
import Derived.Test.YtecebpjfidpchaaGreatU22
/-! Unknown integers: what they stand for, and that operations which do not look at them go on as before. -/
namespace Go.Abs
set_option linter.unusedVariables false

/-- A word's value, the lowest bit first. -/
def wordB : List Bool → Nat
  | [] => 0
  | b :: l => b.toNat + 2 * wordB l

/-- What the unknowns are: words, integers. -/
structure En where
  w : Nat → Nat
  x : Nat → Int

mutual
def Bt.ev (e : Nat → Nat) : Bt → Bool
  | .z => false
  | .o => true
  | .v i j => (e i).testBit j
  | .not a => !a.ev e
  | .and a b => a.ev e && b.ev e
  | .or a b => a.ev e || b.ev e
  | .xor a b => a.ev e ^^ b.ev e
  | .sum as bs => (wordB (Bt.evs e as) + wordB (Bt.evs e bs)).testBit (as.length - 1)
def Bt.evs (e : Nat → Nat) : List Bt → List Bool
  | [] => []
  | a :: l => a.ev e :: Bt.evs e l
end
theorem Bt.evs_eq (e : Nat → Nat) : ∀ l : List Bt, Bt.evs e l = l.map (Bt.ev e)
  | [] => rfl
  | a :: l => by simp [Bt.evs, Bt.evs_eq e l]
def wordOf (e : Nat → Nat) (l : List Bt) : Nat := wordB (l.map (Bt.ev e))

def linSum (x : Nat → Int) : List (Int × Nat) → Int
  | [] => 0
  | p :: l => p.1 * x p.2 + linSum x l
def Sy.ev (e : En) (k : IntKind) : Sy → Int
  | .w l => (wordOf e.w l : Nat)
  | .lin n l => k.wrap (n + linSum e.x l)
  | .c n => n
  | .op o a b => match arithV o k (a.ev e k) (b.ev e k) with
    | some (.int _ n) => n
    | _ => 0
  | .cv j a => k.wrap (a.ev e j)

mutual
def V.inst (e : En) : V → V
  | .fn f a c => .fn f (V.insts e a) (V.insts e c)
  | .iface t v => .iface t (V.inst e v)
  | .agg cs => .agg (V.insts e cs)
  | .tup cs => .tup (V.insts e cs)
  | .sym k s => .int k (s.ev e k)
  | .undef => .undef
  | .bool b => .bool b
  | .int k n => .int k n
  | .str s => .str s
  | .ptr b o => .ptr b o
  | .nil => .nil
  | .slice b o l c z => .slice b o l c z
  | .snil => .snil
  | .map r => .map r
  | .mnil => .mnil
  | .fnil => .fnil
  | .inil => .inil
  | .any => .any
def V.insts (e : En) : List V → List V
  | [] => []
  | v :: l => V.inst e v :: V.insts e l
end
theorem V.insts_eq (e : En) : ∀ l : List V, V.insts e l = l.map (V.inst e)
  | [] => rfl
  | v :: l => by simp [V.insts, V.insts_eq e l]

def T.inst {α β : Type} (f : α → β) : T α → T β
  | .e => .e
  | .n l v r => .n (T.inst f l) (v.map f) (T.inst f r)
section
variable {α β : Type} (f : α → β)
theorem T.get_inst (t : T α) : ∀ i, (T.inst f t).get i = (t.get i).map f := by
  induction t with
  | e => intro i; rfl
  | n l v r ihl ihr =>
    intro i
    simp only [T.inst, T.get, ihl, ihr]
    split
    · rfl
    · split <;> rfl
theorem T.sing_inst (x : Option α) : ∀ (q i : Nat), T.inst f (T.sing q i x) = T.sing q i (x.map f)
  | 0, i => rfl
  | q + 1, i => by
    simp only [T.sing]
    split
    · rfl
    · split
      · simp only [T.inst, T.sing_inst x q]; rfl
      · simp only [T.inst, T.sing_inst x q]; rfl
theorem T.put_inst (t : T α) : ∀ (i : Nat) (x : Option α), T.inst f (t.put i x) = (T.inst f t).put i (x.map f) := by
  induction t with
  | e => intro i x; simp only [T.put, T.inst]; exact T.sing_inst f x _ _
  | n l v r ihl ihr =>
    intro i x
    simp only [T.put, T.inst]
    split
    · rfl
    · split
      · simp only [T.inst, ihl]
      · simp only [T.inst, ihr]
theorem T.ofList_inst : ∀ (l : List α) (t : T α) (i : Nat), T.inst f (T.ofList t i l) = T.ofList (T.inst f t) i (l.map f)
  | [], t, i => rfl
  | a :: l, t, i => by simp only [T.ofList, List.map_cons, T.ofList_inst l, T.put_inst]; rfl
end

section
variable (e : En)
abbrev T.vi (t : T V) : T V := T.inst (V.inst e) t
def Blk.inst : Blk → Blk
  | .cells r n c => .cells r n (T.vi e c)
  | .map r es => .map r (es.map fun p => (p.1.inst e, p.2.inst e))
def H.inst (σ : H) : H := ⟨T.inst (Blk.inst e) σ.t, σ.next⟩
@[simp] theorem H.inst_next (σ : H) : (σ.inst e).next = σ.next := rfl
theorem H.get_inst (σ : H) (b : Nat) : (σ.inst e).get b = (σ.get b).map (Blk.inst e) := T.get_inst _ _ _
theorem H.set_inst (σ : H) (b : Nat) (B : Blk) : (σ.set b B).inst e = (σ.inst e).set b (B.inst e) := by simp [H.set, H.inst, T.put_inst]
theorem H.kill_inst (σ : H) (b : Nat) : (σ.kill b).inst e = (σ.inst e).kill b := by simp [H.kill, H.inst, T.put_inst]
theorem H.new_inst (σ : H) (B : Blk) : (σ.new B).inst e = (σ.inst e).new (B.inst e) := by simp [H.new, H.inst, T.put_inst]
theorem H.room_inst (σ : H) (n : Nat) : (σ.room n).inst e = (σ.inst e).room n := rfl
@[simp] theorem Blk.inst_ro (B : Blk) : (B.inst e).ro = B.ro := by cases B <;> rfl

theorem cellD_inst (c : T V) (i : Nat) : cellD (T.vi e c) i = (cellD c i).inst e := by
  simp only [cellD, T.get_inst]
  cases c.get i <;> simp [V.inst]
theorem ev_inst (t : T V) (i : Nat) : ev (T.vi e t) (.t i) = (ev t (.t i)).inst e := by
  simp only [ev, T.get_inst]
  cases t.get i <;> simp [V.inst]
theorem takeCells_inst (c : T V) : ∀ (n i : Nat), takeCells (T.vi e c) i n = (takeCells c i n).map (V.inst e)
  | 0, i => rfl
  | n + 1, i => by simp [takeCells, cellD_inst, takeCells_inst c n]
@[simp] theorem V.cells_inst (v : V) : (v.inst e).cells = v.cells.map (V.inst e) := by
  cases v <;> simp [V.inst, V.cells, V.insts_eq]
@[simp] theorem V.known_inst (v : V) : (v.inst e).known = v.known := by
  cases v <;> simp [V.inst, V.known]
@[simp] theorem V.cell_inst (v : V) : (v.inst e).cell = v.cell := by
  cases v <;> simp [V.inst, V.cell]
theorem all_cell_inst (l : List V) : (l.map (V.inst e)).all V.cell = l.all V.cell := by
  induction l with
  | nil => rfl
  | cons v l ih => simp only [List.map_cons, List.all_cons, ih, V.cell_inst]
theorem putd_inst (t : T V) (d : Option Nat) (v : V) : T.vi e (putd t d v) = putd (T.vi e t) d (v.inst e) := by
  cases d with
  | none => rfl
  | some d => exact T.put_inst _ _ _ _

theorem loadN_inst {σ : H} {b o n : Nat} {l : List V} (h : σ.loadN b o n = some l) : (σ.inst e).loadN b o n = some (l.map (V.inst e)) := by
  unfold H.loadN at h ⊢
  rw [H.get_inst]
  split at h
  · rename_i r m c hb
    rw [hb]
    simp only [Option.map_some, Blk.inst]
    split at h
    · rename_i hle
      simp at h; subst h
      rw [if_pos hle, takeCells_inst]
    · simp at h
  · simp at h
theorem storeN_inst {σ σ' : H} {b o : Nat} {vs : List V} (h : σ.storeN b o vs = some σ') : (σ.inst e).storeN b o (vs.map (V.inst e)) = some (σ'.inst e) := by
  unfold H.storeN at h ⊢
  rw [H.get_inst]
  split at h
  · rename_i m c hb
    rw [hb]
    simp only [Option.map_some, Blk.inst]
    split at h
    · rename_i hle
      simp at h; subst h
      rw [if_pos ⟨by simpa using hle.1, by rw [all_cell_inst]; exact hle.2⟩, H.set_inst]
      simp only [Blk.inst, T.ofList_inst]
    · simp at h
  · simp at h
theorem loadV_inst {σ : H} {n : Nat} {g : Bool} {a v : V} (h : loadV σ n g a = some v) : loadV (σ.inst e) n g (a.inst e) = some (v.inst e) := by
  unfold loadV at h ⊢
  split at h
  · rename_i b o
    simp only [V.inst]
    split at h
    · rename_i cs hcs
      rw [loadN_inst e hcs]
      cases g with
      | true => simp at h; subst h; simp [V.inst, V.insts_eq]
      | false => simp at h; simp [h]
    · simp at h
  · simp at h

theorem setAll_inst : ∀ (vs l : List V) (n : Nat), (setAll l n vs).map (V.inst e) = setAll (l.map (V.inst e)) n (vs.map (V.inst e))
  | [], l, n => rfl
  | v :: vs, l, n => by simp [setAll, setAll_inst vs]
theorem fillL_inst : ∀ (ps : List (Nat × Nat × V)) (l r : List V), fillL l ps = some r → fillL (l.map (V.inst e)) (ps.map fun p => (p.1, p.2.1, p.2.2.inst e)) = some (r.map (V.inst e))
  | [], l, r, h => by simp [fillL] at h; subst h; rfl
  | (off, size, v) :: ps, l, r, h => by
    simp only [fillL] at h
    split at h
    · simp at h
    · rename_i hn
      have := fillL_inst ps _ _ h
      simp only [List.map_cons, fillL]
      rw [if_neg (by simpa only [V.cells_inst, List.length_map, V.known_inst] using hn)]
      rw [setAll_inst] at this
      simpa using this
theorem repl_inst (zs : List V) : ∀ n, (repl zs n).map (V.inst e) = repl (zs.map (V.inst e)) n
  | 0 => rfl
  | n + 1 => by simp [repl, repl_inst zs n]
theorem blkOf_inst (cs : List V) : (blkOf cs).inst e = blkOf (cs.map (V.inst e)) := by simp [blkOf, Blk.inst, T.ofList_inst, T.inst]
theorem partL_inst {cs : List V} {off size : Nat} {g : Bool} {v : V} (h : partL cs off size g = some v) : partL (cs.map (V.inst e)) off size g = some (v.inst e) := by
  unfold partL at h ⊢
  cases g with
  | true => simp at h ⊢; subst h; simp [V.inst, V.insts_eq, List.map_drop, List.map_take]
  | false => simp at h ⊢; exact ⟨_, h, rfl⟩
theorem arithV_inst {op : BinOp} {k : IntKind} {a b : Int} {v : V} (h : arithV op k a b = some v) : v.inst e = v := by
  cases op <;> simp only [arithV] at h <;> (try split at h) <;> (first | (simp at h; done) | (simp at h; subst h; simp [V.inst]))
theorem shiftV_inst {op : BinOp} {k : IntKind} {a b : Int} {v : V} (h : shiftV op k a b = some v) : v.inst e = v := by
  unfold shiftV at h
  split at h
  · simp at h
  · cases op <;> simp at h <;> subst h <;> simp [V.inst]
theorem intsEq_inst : ∀ (n : Nat) (a b : List V) (r : Bool), intsEq n a b = some r → intsEq n (a.map (V.inst e)) (b.map (V.inst e)) = some r
  | 0, [], [], r, h => h
  | n + 1, x :: xs, y :: ys, r, h => by
    cases x <;> cases y <;> simp only [intsEq] at h <;> (try (simp at h; done))
    simp only [List.map_cons, V.inst, intsEq]
    split at h
    · rename_i hk
      rw [if_pos hk]
      split at h
      · rename_i hb
        rw [if_pos hb]
        exact intsEq_inst n xs ys r h
      · rename_i hb
        rw [if_neg hb]; exact h
    · simp at h
  | 0, [], _ :: _, r, h => by simp [intsEq] at h
  | 0, _ :: _, _, r, h => by simp [intsEq] at h
  | n + 1, [], _, r, h => by simp [intsEq] at h
  | n + 1, x :: xs, [], r, h => by cases x <;> simp [intsEq] at h
theorem eqV_inst {q : EqK} {a b : V} {r : Bool} (h : eqV q a b = some r) : eqV q (a.inst e) (b.inst e) = some r := by
  cases q <;> cases a <;> cases b <;> simp only [eqV] at h <;> (try (simp at h; done)) <;> simp only [V.inst, eqV] <;> (try exact h)
  simp only [V.insts_eq]
  exact intsEq_inst e _ _ _ _ h
theorem unV_inst {op : UnOp} {a v : V} (h : unV op a = some v) : unV op (a.inst e) = some (v.inst e) := by
  cases a <;> simp only [unV] at h <;> (try (simp at h; done)) <;> cases op <;> simp at h <;> subst h <;> simp [V.inst, unV]
theorem bound_inst {d n : Nat} {o : Option V} (h : bound d o = some n) : bound d (o.map (V.inst e)) = some n := by
  cases o with
  | none => exact h
  | some v =>
    cases v <;> simp only [bound] at h <;> (try (simp at h; done))
    simpa [V.inst, bound] using h
theorem sliceV_inst {z : Nat} {x v : V} {lo hi : Option V} (h : sliceV z x lo hi = some v) : sliceV z (x.inst e) (lo.map (V.inst e)) (hi.map (V.inst e)) = some (v.inst e) := by
  cases x <;> simp only [sliceV] at h <;> (try (simp at h; done))
  case slice b o len cap z' =>
    split at h
    · rename_i hh l h1 h2
      split at h
      · rename_i hc
        simp at h; subst h
        simp only [V.inst, sliceV, bound_inst e h1, bound_inst e h2]
        rw [if_pos hc]
      · simp at h
    · simp at h
  case snil =>
    split at h
    · rename_i h1 h2
      simp at h; subst h
      simp only [V.inst, sliceV, bound_inst e h1, bound_inst e h2]
    · simp at h

/-! Values without unknowns. -/
mutual
def V.closed : V → Bool
  | .fn _ a c => V.closeds a && V.closeds c
  | .iface _ v => V.closed v
  | .agg cs => V.closeds cs
  | .tup cs => V.closeds cs
  | .sym _ _ => false
  | _ => true
def V.closeds : List V → Bool
  | [] => true
  | v :: l => V.closed v && V.closeds l
end
mutual
theorem V.closed_inst : ∀ v : V, v.closed = true → v.inst e = v
  | .fn f a c, h => by simp only [V.closed, Bool.and_eq_true] at h; simp only [V.inst, V.closeds_inst a h.1, V.closeds_inst c h.2]
  | .iface t v, h => by simp only [V.closed] at h; simp only [V.inst, V.closed_inst v h]
  | .agg cs, h => by simp only [V.closed] at h; simp only [V.inst, V.closeds_inst cs h]
  | .tup cs, h => by simp only [V.closed] at h; simp only [V.inst, V.closeds_inst cs h]
  | .sym k s, h => by simp [V.closed] at h
  | .undef, _ => rfl
  | .bool _, _ => rfl
  | .int _ _, _ => rfl
  | .str _, _ => rfl
  | .ptr _ _, _ => rfl
  | .nil, _ => rfl
  | .slice _ _ _ _ _, _ => rfl
  | .snil, _ => rfl
  | .map _, _ => rfl
  | .mnil, _ => rfl
  | .fnil, _ => rfl
  | .inil, _ => rfl
  | .any, _ => rfl
theorem V.closeds_inst : ∀ l : List V, V.closeds l = true → V.insts e l = l
  | [], _ => rfl
  | v :: l, h => by simp only [V.closeds, Bool.and_eq_true] at h; simp only [V.insts, V.closed_inst v h.1, V.closeds_inst l h.2]
end
theorem V.closeds_map {l : List V} (h : V.closeds l = true) : l.map (V.inst e) = l := by rw [← V.insts_eq]; exact V.closeds_inst e l h

def Opd.closed : Opd → Bool
  | .t _ => true
  | .c v => v.closed
theorem ev_closed (t : T V) {q : Opd} (h : q.closed = true) : ev (T.vi e t) q = (ev t q).inst e := by
  cases q with
  | t i => exact ev_inst e t i
  | c v => exact (V.closed_inst e v h).symm
/-- The values that stand in an operation itself. -/
def XL.own : XL → Bool
  | .build zs _ => V.closeds zs
  | .assertT _ (some z) _ => z.closed
  | _ => true
def XA.own : XA → Bool
  | .alloc zs | .buildS _ _ zs _ | .mkSlice _ _ zs _ _ => V.closeds zs
  | _ => true
def X.own : X → Bool
  | .l x => x.own
  | .a x => x.own
  | .lookup z _ _ _ => z.closed
  | .clearS zs _ => V.closeds zs
  | _ => true
def Op.closed (o : Op) : Bool := o.x.own && o.x.opds.all Opd.closed
end
end Go.Abs
