/- PART of the proof of CallsKnown: How an abstract state stands for a world. No condition. -/
import Derived.Test.YtecebpjfidpchaaGreatU1
/-! How an abstract state stands for a world. -/
namespace Go.Abs

/-- Where a block of ours lies: the world's block, the first cell, how many cells that block has. -/
structure Pl where
  cb : Nat
  off : Nat
  size : Nat

abbrev F := Nat → Option Pl

mutual
inductive VRel (φ : F) : V → Value → Prop
  | undef : VRel φ .undef Go.undef
  | bool (b : Bool) : VRel φ (.bool b) (.bool b)
  | int (k : IntKind) (n : Int) : VRel φ (.int k n) (.int k n)
  | str (s : ByteArray) : VRel φ (.str s) (.string s)
  | ptr (b o : Nat) (p : Pl) (h : φ b = some p) : VRel φ (.ptr b o) (.pointer (some ⟨p.cb, p.off + o, none⟩))
  | nil : VRel φ .nil (.pointer none)
  | slice (b o len cap z cap' : Nat) (p : Pl) (h : φ b = some p) (h1 : len ≤ cap) (h2 : cap ≤ cap') (h3 : p.off + o + cap' * z ≤ p.size) :
      VRel φ (.slice b o len cap z) (.slice (some ⟨p.cb, p.off + o, none⟩) len cap')
  | sliceE (b o z : Nat) (a : Addr) : VRel φ (.slice b o 0 0 z) (.slice (some a) 0 0)
  | snil : VRel φ .snil (.slice none 0 0)
  | map (b : Nat) (p : Pl) (h : φ b = some p) : VRel φ (.map b) (.map (some p.cb))
  | mnil : VRel φ .mnil (.map none)
  | fn (f : Fn) (a c : List V) (a' c' : List Value) (h1 : VRels φ a a') (h2 : VRels φ c c') : VRel φ (.fn f a c) (.func f ⟨a'⟩ ⟨c'⟩)
  | fnil : VRel φ .fnil .nilFunc
  | iface (t : TypeId) (v : V) (v' : Value) (h : VRel φ v v') : VRel φ (.iface t v) (.iface t v')
  | inil : VRel φ .inil .nilIface
  | agg (cs : List V) (cs' : List Value) (h : VRels φ cs cs') : VRel φ (.agg cs) (.agg ⟨cs'⟩)
  | tup (cs : List V) (cs' : List Value) (h : VRels φ cs cs') : VRel φ (.tup cs) (.tuple ⟨cs'⟩)
  | any (v' : Value) : VRel φ .any v'
inductive VRels (φ : F) : List V → List Value → Prop
  | nil : VRels φ [] []
  | cons (v : V) (v' : Value) (l : List V) (l' : List Value) (h : VRel φ v v') (t : VRels φ l l') : VRels φ (v :: l) (v' :: l')
end

def F.le (φ ψ : F) : Prop := ∀ b p, φ b = some p → ψ b = some p
theorem F.le_refl (φ : F) : φ.le φ := fun _ _ h => h
theorem F.le_trans {φ ψ χ : F} (h : φ.le ψ) (g : ψ.le χ) : φ.le χ := fun b p hb => g b p (h b p hb)

mutual
theorem VRel.mono {φ ψ : F} (h : φ.le ψ) : ∀ {v : V} {v' : Value}, VRel φ v v' → VRel ψ v v'
  | _, _, .undef => .undef
  | _, _, .bool b => .bool b
  | _, _, .int k n => .int k n
  | _, _, .str s => .str s
  | _, _, .ptr b o p hp => .ptr b o p (h _ _ hp)
  | _, _, .nil => .nil
  | _, _, .slice b o len cap z cap' p hp h1 h2 h3 => .slice b o len cap z cap' p (h _ _ hp) h1 h2 h3
  | _, _, .sliceE b o z a => .sliceE b o z a
  | _, _, .snil => .snil
  | _, _, .map b p hp => .map b p (h _ _ hp)
  | _, _, .mnil => .mnil
  | _, _, .fn f a c a' c' h1 h2 => .fn f a c a' c' (VRels.mono h h1) (VRels.mono h h2)
  | _, _, .fnil => .fnil
  | _, _, .iface t v v' hv => .iface t v v' (VRel.mono h hv)
  | _, _, .inil => .inil
  | _, _, .agg cs cs' hc => .agg cs cs' (VRels.mono h hc)
  | _, _, .tup cs cs' hc => .tup cs cs' (VRels.mono h hc)
  | _, _, .any v' => .any v'
theorem VRels.mono {φ ψ : F} (h : φ.le ψ) : ∀ {l : List V} {l' : List Value}, VRels φ l l' → VRels ψ l l'
  | _, _, .nil => .nil
  | _, _, .cons v v' l l' hv ht => .cons v v' l l' (VRel.mono h hv) (VRels.mono h ht)
end

namespace VRels
variable {φ : F}
theorem length : ∀ {l : List V} {l' : List Value}, VRels φ l l' → l.length = l'.length
  | _, _, .nil => rfl
  | _, _, .cons _ _ _ _ _ t => by simp [length t]
theorem get : ∀ {l : List V} {l' : List Value}, VRels φ l l' → ∀ (i : Nat) (v : V), l[i]? = some v → ∃ v', l'[i]? = some v' ∧ VRel φ v v'
  | _, _, .nil, _, _, h => by simp at h
  | _, _, .cons v v' l l' hv t, 0, u, h => by simp at h; subst h; exact ⟨v', by simp, hv⟩
  | _, _, .cons v v' l l' hv t, i + 1, u, h => by
    have h' : l[i]? = some u := by simpa using h
    obtain ⟨u', e, r⟩ := get t i u h'
    exact ⟨u', by simpa using e, r⟩
theorem ofGet : ∀ {l : List V} {l' : List Value}, l.length = l'.length → (∀ (i : Nat) (v : V), l[i]? = some v → ∃ v', l'[i]? = some v' ∧ VRel φ v v') → VRels φ l l'
  | [], [], _, _ => .nil
  | v :: l, v' :: l', hl, h => by
    obtain ⟨u, e, r⟩ := h 0 v (by simp)
    simp at e; subst e
    refine .cons v v' l l' r (ofGet (by simpa using hl) fun i w hw => ?_)
    obtain ⟨u, e, r⟩ := h (i + 1) w (by simpa using hw)
    exact ⟨u, by simpa using e, r⟩
theorem append : ∀ {a : List V} {a' : List Value} {b : List V} {b' : List Value}, VRels φ a a' → VRels φ b b' → VRels φ (a ++ b) (a' ++ b')
  | _, _, _, _, .nil, hb => hb
  | _, _, _, _, .cons v v' l l' hv t, hb => .cons v v' _ _ hv (append t hb)
theorem set {l : List V} {l' : List Value} (h : VRels φ l l') (i : Nat) {v : V} {v' : Value} (hv : VRel φ v v') : VRels φ (l.set i v) (l'.set i v') := by
  refine ofGet (by simp [h.length]) fun j u hu => ?_
  rw [List.getElem?_set] at hu
  rw [List.getElem?_set]
  by_cases e : i = j
  · subst e
    rw [if_pos rfl] at hu ⊢
    rw [← h.length]
    split at hu
    · simp at hu; subst hu; rename_i hlt; rw [if_pos hlt]; exact ⟨v', rfl, hv⟩
    · simp at hu
  · rw [if_neg e] at hu ⊢
    exact h.get j u hu
theorem drop {l : List V} {l' : List Value} (h : VRels φ l l') (n : Nat) : VRels φ (l.drop n) (l'.drop n) := by
  refine ofGet (by simp [h.length]) fun j u hu => ?_
  rw [List.getElem?_drop] at hu ⊢
  exact h.get _ _ hu
theorem take {l : List V} {l' : List Value} (h : VRels φ l l') (n : Nat) : VRels φ (l.take n) (l'.take n) := by
  refine ofGet (by simp [h.length]) fun j u hu => ?_
  rw [List.getElem?_take] at hu ⊢
  split at hu
  · rename_i hlt; rw [if_pos hlt]; exact h.get _ _ hu
  · simp at hu
theorem map_of {α : Type} (f : α → V) (g : α → Value) (h : ∀ a, VRel φ (f a) (g a)) : ∀ l : List α, VRels φ (l.map f) (l.map g)
  | [] => .nil
  | a :: l => .cons _ _ _ _ (h a) (map_of f g h l)
end VRels

theorem V.cells_known {v : V} (h : v.cells.all V.cell = true) : v.known = true := by
  cases v <;> first | rfl | simp [V.cells, V.cell] at h
theorem VRel.cells {φ : F} {v : V} {v' : Value} (h : VRel φ v v') (hk : v.known = true) : VRels φ v.cells v'.cells.toList := by
  cases h <;> first
    | simp [V.known] at hk; done
    | assumption
    | (simp only [V.cells, Value.cells]; exact .cons _ _ _ _ (by constructor <;> assumption) .nil)

/-! ### Memory -/
/-- What a block of the world holds. -/
def CellAt (w : World) (cb i : Nat) (v : Value) : Prop := ∃ cs e, w.heap[cb]? = some (.cells cs e (0, 0)) ∧ cs[i]? = some v

/-- The entries of a map, in whatever order: the keys are integers of one kind, each there once. -/
structure ERel (φ : F) (es : List (V × V)) (es' : List MapEntry) : Prop where
  len : es.length = es'.length
  to : ∀ e ∈ es, ∃ e' ∈ es', VRel φ e.1 e'.key ∧ VRel φ e.2 e'.val
  of : ∀ e' ∈ es', ∃ e ∈ es, VRel φ e.1 e'.key ∧ VRel φ e.2 e'.val
  ints : ∀ e ∈ es, ∃ k n, e.1 = .int k n
  nodup : (es.map (·.1)).Nodup
  nodup' : (es'.map (·.key)).Nodup

def BRel (φ : F) (w : World) (p : Pl) : Blk → Prop
  | .cells _ n c => p.off + n ≤ p.size ∧ (∃ cs e, w.heap[p.cb]? = some (.cells cs e (0, 0)) ∧ cs.size = p.size) ∧ ∀ i, i < n → ∃ v', CellAt w p.cb (p.off + i) v' ∧ VRel φ (cellD c i) v'
  | .map _ es => p.off = 0 ∧ ∃ es' clock, w.heap[p.cb]? = some (.map es' clock) ∧ ERel φ es es'.toList

/-- A block of the world that is a row of so many cells, not frozen, or no row. -/
def Sized (w : World) (p : Pl) : Prop :=
  (∃ cs e, w.heap[p.cb]? = some (.cells cs e (0, 0)) ∧ cs.size = p.size) ∨ ∃ es clock, w.heap[p.cb]? = some (.map es clock)

structure Rel (φ : F) (σ : H) (w : World) : Prop where
  blk : ∀ b B, σ.get b = some B → ∃ p, φ b = some p ∧ BRel φ w p B
  inj : ∀ b B b' B' p p', σ.get b = some B → σ.get b' = some B' → φ b = some p → φ b' = some p' → p.cb = p'.cb → b = b'
  dom : ∀ b p, φ b = some p → b < σ.next ∧ Sized w p

theorem lt_of_heap {w : World} {k : Nat} {o : Obj} (h : w.heap[k]? = some o) : k < w.heap.size := by
  rcases Nat.lt_or_ge k w.heap.size with h' | h'
  · exact h'
  · simp [Array.getElem?_eq_none h'] at h

theorem Sized.lt {w : World} {p : Pl} (h : Sized w p) : p.cb < w.heap.size := by
  rcases h with ⟨_, _, h, _⟩ | ⟨_, _, h⟩ <;> exact lt_of_heap h

/-- The world's blocks that may be written. -/
def Foot (φ : F) (σ : H) (k : Nat) : Prop := ∃ b B p, σ.get b = some B ∧ B.ro = false ∧ φ b = some p ∧ p.cb = k

/-- From one state to a later one. -/
structure Sim (φ : F) (σ : H) (w : World) (φ' : F) (σ' : H) (w' : World) : Prop where
  rel : Rel φ' σ' w'
  ext : φ.le φ'
  keep : ∀ k, k < w.heap.size → ¬ Foot φ σ k → w'.heap[k]? = w.heap[k]?
  foot : ∀ k, Foot φ' σ' k → Foot φ σ k ∨ w.heap.size ≤ k
  size : w.heap.size ≤ w'.heap.size
  os : w'.os = w.os
  out : w'.output = w.output
  next : σ.next ≤ σ'.next
  old : ∀ b, φ b = none → b < σ.next → φ' b = none
  back : ∀ b B, σ'.get b = some B → b < σ.next → ∃ B', σ.get b = some B' ∧ B'.ro = B.ro
  fresh : ∀ b B, σ'.get b = some B → σ.next ≤ b → B.ro = false

theorem Sim.refl {φ : F} {σ : H} {w : World} (h : Rel φ σ w) : Sim φ σ w φ σ w :=
  ⟨h, F.le_refl φ, fun _ _ _ => rfl, fun _ h => .inl h, Nat.le_refl _, rfl, rfl, Nat.le_refl _, fun _ h _ => h, fun _ B h _ => ⟨B, h, rfl⟩, fun b B hb hn => by
    obtain ⟨p, hp, _⟩ := h.blk b B hb
    have := (h.dom b p hp).1
    omega⟩

theorem Sim.trans {φ φ' φ'' : F} {σ σ' σ'' : H} {w w' w'' : World} (a : Sim φ σ w φ' σ' w') (b : Sim φ' σ' w' φ'' σ'' w'') : Sim φ σ w φ'' σ'' w'' where
  rel := b.rel
  ext := F.le_trans a.ext b.ext
  keep k hk hf := by
    have hk' : k < w'.heap.size := Nat.lt_of_lt_of_le hk a.size
    have : ¬ Foot φ' σ' k := fun h => by
      rcases a.foot k h with h | h
      · exact hf h
      · omega
    rw [b.keep k hk' this, a.keep k hk hf]
  foot k h := by
    rcases b.foot k h with h | h
    · exact a.foot k h
    · exact .inr (Nat.le_trans a.size h)
  size := Nat.le_trans a.size b.size
  os := b.os.trans a.os
  out := b.out.trans a.out
  next := Nat.le_trans a.next b.next
  old k h hk := b.old k (a.old k h hk) (Nat.lt_of_lt_of_le hk a.next)
  back k B h hk := by
    obtain ⟨B1, h1, e1⟩ := b.back k B h (Nat.lt_of_lt_of_le hk a.next)
    obtain ⟨B2, h2, e2⟩ := a.back k B1 h1 hk
    exact ⟨B2, h2, e2.trans e1⟩
  fresh k B h hk := by
    rcases Nat.lt_or_ge k σ'.next with h' | h'
    · obtain ⟨B1, h1, e1⟩ := b.back k B h h'
      rw [← e1]; exact a.fresh k B1 h1 hk
    · exact b.fresh k B h h'

/-! ### Reading -/
theorem takeCells_get (c : T V) : ∀ (n i j : Nat), (takeCells c i n)[j]? = if j < n then some (cellD c (i + j)) else none := by
  intro n
  induction n with
  | zero => intro i j; simp [takeCells]
  | succ n ih =>
    intro i j
    cases j with
    | zero => simp [takeCells]
    | succ j =>
      simp only [takeCells, List.getElem?_cons_succ, ih]
      simp [Nat.add_assoc, Nat.add_comm 1 j]
theorem takeCells_length (c : T V) : ∀ (n i : Nat), (takeCells c i n).length = n := by
  intro n
  induction n with
  | zero => intro i; rfl
  | succ n ih => intro i; simp [takeCells, ih]

theorem CellAt.cell {w : World} {cb i : Nat} {v : Value} (h : CellAt w cb i v) : w.cell? ⟨cb, i, none⟩ = some v := by
  obtain ⟨cs, e, h1, h2⟩ := h
  simp [World.cell?, h1, h2]
theorem CellAt.frozen {w : World} {cb i : Nat} {v : Value} (h : CellAt w cb i v) (j : Nat) : w.frozen? ⟨cb, j, none⟩ = false := by
  obtain ⟨cs, e, h1, h2⟩ := h
  simp [World.frozen?, h1]

/-- What is loaded stands there. -/
theorem Rel.loadN {φ : F} {σ : H} {w : World} (h : Rel φ σ w) {b o n : Nat} {l : List V} (hl : σ.loadN b o n = some l) :
    l.length = n ∧ ∃ p, φ b = some p ∧ p.off + o + n ≤ p.size ∧ ∃ l' : List Value, VRels φ l l' ∧ ∀ j v, l'[j]? = some v → CellAt w p.cb (p.off + o + j) v := by
  unfold H.loadN at hl
  split at hl
  · rename_i r m c hb
    split at hl
    · rename_i hle
      simp at hl; subst hl
      obtain ⟨p, hp, hsz, _, hc⟩ := h.blk b _ hb
      refine ⟨takeCells_length _ _ _, p, hp, by omega, ?_⟩
      have key : ∀ (n o : Nat), o + n ≤ m → ∃ l' : List Value, VRels φ (takeCells c o n) l' ∧ ∀ j v, l'[j]? = some v → CellAt w p.cb (p.off + o + j) v := by
        intro n
        induction n with
        | zero => intro o _; exact ⟨[], .nil, by simp⟩
        | succ n ih =>
          intro o ho
          obtain ⟨l', hl', hc'⟩ := ih (o + 1) (by omega)
          obtain ⟨v', hv', hr⟩ := hc o (by omega)
          refine ⟨v' :: l', .cons _ _ _ _ hr hl', ?_⟩
          intro j v hj
          cases j with
          | zero => simp at hj; subst hj; exact hv'
          | succ j =>
            have := hc' j v (by simpa using hj)
            rwa [show p.off + o + (j + 1) = p.off + (o + 1) + j from by omega]
      exact key n o hle
    · simp at hl
  · simp at hl

end Go.Abs
