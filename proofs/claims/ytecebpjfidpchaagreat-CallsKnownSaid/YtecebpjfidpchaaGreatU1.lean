/- PART of the proof of CallsKnown: The abstract evaluator: trees, values, heaps, the intermediate code, and what it does. No condition. -/
import GoSem.Dispatch
import Derived.Orders
/-! The abstract evaluator: trees, values, heaps, the intermediate code, and what it does. -/
namespace Go.Abs

/-- A tree of values, by places. -/
inductive T (α : Type) where
  | e : T α
  | n (l : T α) (v : Option α) (r : T α) : T α

namespace T
variable {α : Type}
def get : T α → Nat → Option α
  | e, _ => none
  | n l v r, i => if i = 0 then v else if i % 2 = 1 then get l (i / 2) else get r (i / 2 - 1)
def sing : Nat → Nat → Option α → T α
  | 0, _, _ => e
  | f + 1, i, x => if i = 0 then n e x e else if i % 2 = 1 then n (sing f (i / 2) x) none e else n e none (sing f (i / 2 - 1) x)
def put : T α → Nat → Option α → T α
  | e, i, x => sing (i + 1) i x
  | n l v r, i, x => if i = 0 then n l x r else if i % 2 = 1 then n (put l (i / 2) x) v r else n l v (put r (i / 2 - 1) x)

theorem get_sing (f : Nat) : ∀ i j (x : Option α), i < f → (sing f i x).get j = if i = j then x else none := by
  induction f with
  | zero => intro i j x h; omega
  | succ f ih =>
    intro i j x h
    by_cases h0 : i = 0
    · subst h0
      by_cases hj : j = 0
      · subst hj; simp [sing, get]
      · have hj' : ¬ 0 = j := fun h => hj h.symm
        simp [sing, get, hj, hj']
    · by_cases h1 : i % 2 = 1
      · by_cases hj : j = 0
        · subst hj; simp [sing, get, h0, h1]
        · by_cases hj1 : j % 2 = 1
          · simp only [sing, h0, h1, if_true, if_false, get, hj, hj1]
            rw [ih _ _ _ (by omega)]
            by_cases e : i = j
            · subst e; simp
            · rw [if_neg e, if_neg (by omega)]
          · have hne : ¬ i = j := by intro e; subst e; exact hj1 h1
            simp [sing, h0, h1, get, hj, hj1, hne]
      · by_cases hj : j = 0
        · subst hj; simp [sing, get, h0, h1]
        · by_cases hj1 : j % 2 = 1
          · have hne : ¬ i = j := by intro e; subst e; exact h1 hj1
            simp [sing, h0, h1, get, hj, hj1, hne]
          · simp only [sing, h0, h1, if_false, get, hj, hj1]
            rw [ih _ _ _ (by omega)]
            by_cases e : i = j
            · subst e; simp
            · rw [if_neg e, if_neg (by omega)]

theorem get_put (t : T α) : ∀ i j (x : Option α), (t.put i x).get j = if i = j then x else t.get j := by
  induction t with
  | e => intro i j x; simp only [put]; rw [get_sing _ _ _ _ (by omega)]; simp [get]
  | n l v r ihl ihr =>
    intro i j x
    by_cases h0 : i = 0
    · subst h0
      by_cases hj : j = 0
      · subst hj; simp [put, get]
      · have hj' : ¬ 0 = j := fun h => hj h.symm
        simp [put, get, hj, hj']
    · by_cases h1 : i % 2 = 1
      · by_cases hj : j = 0
        · subst hj; simp [put, get, h0, h1]
        · by_cases hj1 : j % 2 = 1
          · simp only [put, h0, h1, if_true, if_false, get, hj, hj1]
            rw [ihl]
            by_cases e : i = j
            · subst e; simp
            · rw [if_neg e, if_neg (by omega)]
          · have hne : ¬ i = j := by intro e; subst e; exact hj1 h1
            simp [put, h0, h1, get, hj, hj1, hne]
      · by_cases hj : j = 0
        · subst hj; simp [put, get, h0, h1]
        · by_cases hj1 : j % 2 = 1
          · have hne : ¬ i = j := by intro e; subst e; exact h1 hj1
            simp [put, h0, h1, get, hj, hj1, hne]
          · simp only [put, h0, h1, if_false, get, hj, hj1]
            rw [ihr]
            by_cases e : i = j
            · subst e; simp
            · rw [if_neg e, if_neg (by omega)]
/-- A list's values, from a place on. -/
def ofList (t : T α) (i : Nat) : List α → T α
  | [] => t
  | a :: l => ofList (t.put i (some a)) (i + 1) l
theorem get_ofList : ∀ (l : List α) (t : T α) i j, (ofList t i l).get j = if i ≤ j ∧ j < i + l.length then l[j - i]? else t.get j := by
  intro l
  induction l with
  | nil => intro t i j; simp only [ofList, List.length_nil]; rw [if_neg (by omega)]
  | cons a l ih =>
    intro t i j
    simp only [ofList, List.length_cons]
    rw [ih, get_put]
    by_cases h : i = j
    · subst h
      rw [if_neg (by omega), if_pos rfl, if_pos (by omega)]; simp
    · by_cases h2 : i + 1 ≤ j ∧ j < i + 1 + l.length
      · rw [if_pos h2, if_pos (by omega), show j - i = (j - (i + 1)) + 1 from by omega]; simp
      · rw [if_neg h2, if_neg h, if_neg (by omega)]
end T

/-- A bit: 0, 1, bit j of word i, or made of others. 'sum': the top bit of the sum of two words of one length. -/
inductive Bt where
  | z
  | o
  | v (i j : Nat)
  | not (a : Bt)
  | and (a b : Bt)
  | or (a b : Bt)
  | xor (a b : Bt)
  | sum (as bs : List Bt)
  deriving Inhabited
/-- An unknown integer: bits; a sum of unknowns; a number; made of others; of another kind. -/
inductive Sy where
  | w (l : List Bt)
  | lin (n : Int) (l : List (Int × Nat))
  | c (n : Int)
  | op (o : BinOp) (a b : Sy)
  | cv (k : IntKind) (a : Sy)
  deriving Inhabited

/-- A value: blocks are named by numbers of our own. -/
inductive V where
  | undef
  | bool (b : Bool)
  | int (k : IntKind) (n : Int)
  | str (s : ByteArray)
  | ptr (b o : Nat)
  | nil
  | slice (b o len cap z : Nat)
  | snil
  | map (r : Nat)
  | mnil
  | fn (f : Fn) (first cap : List V)
  | fnil
  | iface (t : TypeId) (v : V)
  | inil
  | agg (cs : List V)
  | tup (vs : List V)
  | sym (k : IntKind) (s : Sy)
  | any
  deriving Inhabited

def V.cells : V → List V
  | .agg cs => cs
  | v => [v]
/-- May a value stand in one cell? -/
def V.cell : V → Bool
  | .agg _ | .tup _ | .undef | .any => false
  | _ => true
/-- Is it known at all? -/
def V.known : V → Bool
  | .any => false
  | _ => true

/-- A block of memory. -/
inductive Blk where
  | cells (ro : Bool) (n : Nat) (c : T V)
  | map (ro : Bool) (es : List (V × V))

def Blk.ro : Blk → Bool
  | .cells r _ _ => r
  | .map r _ => r

structure H where
  t : T Blk
  next : Nat

def H.get (σ : H) (b : Nat) : Option Blk := σ.t.get b
def H.set (σ : H) (b : Nat) (B : Blk) : H := ⟨σ.t.put b (some B), σ.next⟩
def H.kill (σ : H) (b : Nat) : H := ⟨σ.t.put b none, σ.next⟩
def H.new (σ : H) (B : Blk) : H := ⟨σ.t.put σ.next (some B), σ.next + 1⟩

def cellD (c : T V) (i : Nat) : V := (c.get i).getD .undef

/-- So many cells of a block, from a place on. -/
def takeCells (c : T V) : Nat → Nat → List V
  | _, 0 => []
  | i, n + 1 => cellD c i :: takeCells c (i + 1) n
def H.loadN (σ : H) (b o n : Nat) : Option (List V) :=
  match σ.get b with
  | some (.cells _ m c) => if o + n ≤ m then some (takeCells c o n) else none
  | _ => none
def H.storeN (σ : H) (b o : Nat) (vs : List V) : Option H :=
  match σ.get b with
  | some (.cells false m c) => if o + vs.length ≤ m ∧ vs.all V.cell = true then some (σ.set b (.cells false m (c.ofList o vs))) else none
  | _ => none

inductive Opd where
  | t (n : Nat)
  | c (v : V)

/-- What '==' is asked of. -/
inductive EqK where
  | bool | ptr | iface | func | slice | map | any
  | ints (n : Nat)

/-- Operations that neither read nor write memory. -/
inductive XL where
  | mov (x : Opd)
  | pick (c a b : Opd)
  | build (zs : List V) (parts : List (Nat × Nat × Opd))
  | nilck (x : Opd)
  | arith (op : BinOp) (x y : Opd)
  | shift (op : BinOp) (x y : Opd)
  | eq (neg : Bool) (e : EqK) (x y : Opd)
  | un (op : UnOp) (x : Opd)
  | conv (k : IntKind) (x : Opd)
  | mkIface (t : TypeId) (x : Opd)
  | mkFunc (fn : Fn) (first cap : List Opd)
  | slice (z : Nat) (x : Opd) (lo hi : Option Opd)
  | fieldAddr (off : Nat) (x : Opd)
  | field (off size : Nat) (agg : Bool) (x : Opd)
  | idxS (z : Nat) (x i : Opd)
  | idxP (len z : Nat) (x i : Opd)
  | idxA (len z : Nat) (agg : Bool) (x i : Opd)
  | extract (i : Nat) (x : Opd)
  | assertT (t : TypeId) (ok : Option V) (x : Opd)
  | lenS (x : Opd)
  | lenT (x : Opd)
  | maxmin (mx : Bool) (x y : Opd)

/-- Operations that make a block. -/
inductive XA where
  | alloc (zs : List V)
  | box (x : Opd)
  | buildS (len z : Nat) (zs : List V) (parts : List (Nat × Nat × Opd))
  | mkSlice (z bytes : Nat) (zs : List V) (l c : Opd)
  | mkMap

inductive X where
  | l (x : XL)
  | a (x : XA)
  | load (n : Nat) (agg : Bool) (a : Opd)
  | store (n : Nat) (a v : Opd)
  | eqp (neg : Bool) (x y : Opd)
  | sliceA (n z : Nat) (x : Opd) (lo hi : Option Opd)
  | lookup (zero : V) (ok : Bool) (m k : Opd)
  | update (m k v : Opd)
  | delete (m k : Opd)
  | lenM (m : Opd)
  | append (z bytes : Nat) (s x : Opd)
  | copy (z : Nat) (d s : Opd)
  | clearS (zs : List V) (x : Opd)
  | call (f : FuncId) (args : List Opd)
  | callV (f : Opd) (args : List Opd)
  | invoke (name : String) (recv : Opd) (args : List Opd)
  | panic (x : Opd)

structure Op where
  dst : Option Nat
  x : X
  g : Option (Nat × Bool)

/-- 'anc': the operations that must be done ahead of it. -/
structure It where
  idx : Nat
  o : Op
  heavy : Bool
  back : Nat
  anc : Nat

inductive C where
  | skip
  | reg (l : List Op)
  | draw (l : List It)
  | seq (a b : C)
  | cond (c : Opd) (a b : C)
  | block (id : Nat) (c : C)
  | loop (c : C)
  | loopG (keep : List Nat) (c : C)
  | exit (id : Nat)
  | ret
  | dfr (d : Option Nat) (f : FuncId) (args : List Opd)

inductive Rs where
  | tmp (t : Nat)
  | cell (a n : Nat) (agg : Bool)

/-- 'rcv': the function's body begins with a call of recover. -/
structure FnI where
  res : List Rs
  body : C
  rcv : Option (Option Nat) := none

/-! ### What light operations give -/
def ev (t : T V) : Opd → V
  | .t i => (t.get i).getD .any
  | .c v => v

def setAll (cells : List V) (off : Nat) : List V → List V
  | [] => cells
  | c :: cs => setAll (cells.set off c) (off + 1) cs
def fillL (cells : List V) : List (Nat × Nat × V) → Option (List V)
  | [] => some cells
  | (off, size, v) :: r => if v.cells.length ≠ size ∨ off + size > cells.length ∨ v.known = false then none else fillL (setAll cells off v.cells) r
def partL (cs : List V) (off size : Nat) (agg : Bool) : Option V :=
  if agg then some (.agg ((cs.drop off).take size)) else cs[off]?

def arithV (op : BinOp) (k : IntKind) (a b : Int) : Option V :=
  match op with
  | .add => some (.int k (k.wrap (a + b)))
  | .sub => some (.int k (k.wrap (a - b)))
  | .mul => some (.int k (k.wrap (a * b)))
  | .quo => if b = 0 then none else some (.int k (k.wrap (a.tdiv b)))
  | .rem => if b = 0 then none else some (.int k (a.tmod b))
  | .and => some (.int k (k.wrap ((BitVec.ofInt k.bits a &&& BitVec.ofInt k.bits b).toNat)))
  | .or => some (.int k (k.wrap ((BitVec.ofInt k.bits a ||| BitVec.ofInt k.bits b).toNat)))
  | .xor => some (.int k (k.wrap ((BitVec.ofInt k.bits a ^^^ BitVec.ofInt k.bits b).toNat)))
  | .andNot => some (.int k (k.wrap ((BitVec.ofInt k.bits a &&& ~~~ BitVec.ofInt k.bits b).toNat)))
  | .eql => some (.bool (a == b))
  | .neq => some (.bool (a != b))
  | .lss => some (.bool (a < b))
  | .leq => some (.bool (a ≤ b))
  | .gtr => some (.bool (a > b))
  | .geq => some (.bool (a ≥ b))
  | _ => none
def shiftV (op : BinOp) (k : IntKind) (a b : Int) : Option V :=
  if b < 0 then none else
  match op with
  | .shl => some (.int k (k.wrap (a * 2 ^ (min b.toNat k.bits))))
  | .shr => some (.int k (a.fdiv (2 ^ (min b.toNat k.bits))))
  | _ => none
def intsEq : Nat → List V → List V → Option Bool
  | 0, [], [] => some true
  | n + 1, .int k a :: xs, .int k' b :: ys => if k = k' then (if a == b then intsEq n xs ys else some false) else none
  | _, _, _ => none
def eqV : EqK → V → V → Option Bool
  | .bool, .bool a, .bool b => some (a == b)
  | .ptr, .nil, .nil => some true
  | .ptr, .nil, .ptr _ _ => some false
  | .ptr, .ptr _ _, .nil => some false
  | .ptr, .ptr b o, .ptr b' o' => if b = b' then some (o == o') else none
  | .iface, .inil, .iface _ _ => some false
  | .iface, .iface _ _, .inil => some false
  | .func, .fnil, .fnil => some true
  | .func, .fnil, .fn _ _ _ => some false
  | .func, .fn _ _ _, .fnil => some false
  | .slice, .snil, .snil => some true
  | .slice, .snil, .slice _ _ _ _ _ => some false
  | .slice, .slice _ _ _ _ _, .snil => some false
  | .map, .mnil, .mnil => some true
  | .map, .mnil, .map _ => some false
  | .map, .map _, .mnil => some false
  | .any, .inil, .inil => some true
  | .any, .inil, .iface _ _ => some false
  | .any, .iface _ _, .inil => some false
  | .ints n, .agg xs, .agg ys => intsEq n xs ys
  | _, _, _ => none
def unV (op : UnOp) : V → Option V
  | .bool b => match op with | .not => some (.bool !b) | _ => none
  | .int k n => match op with
    | .neg => some (.int k (k.wrap (0 - n)))
    | .xor => some (.int k (k.wrap ((BitVec.ofInt k.bits (if k.signed then -1 else k.max) ^^^ BitVec.ofInt k.bits n).toNat)))
    | _ => none
  | _ => none
/-- A slice's or an array's bound: absent, or a number that is not below 0. -/
def bound (d : Nat) : Option V → Option Nat
  | none => some d
  | some (.int _ n) => if 0 ≤ n then some n.toNat else none
  | _ => none
def sliceV (z : Nat) (x : V) (lo hi : Option V) : Option V :=
  match x with
  | .slice b o len cap z' =>
    match bound len hi, bound 0 lo with
    | some h, some l => if l ≤ h ∧ h ≤ cap ∧ z' = z then some (.slice b (o + l * z) (h - l) (cap - l) z) else none
    | _, _ => none
  | .snil =>
    match bound 0 hi, bound 0 lo with
    | some 0, some 0 => some .snil
    | _, _ => none
  | _ => none
def stepL (ρ : Opd → V) : XL → Option V
  | .mov x => some (ρ x)
  | .pick c a b => match ρ c with | .bool t => some (if t then ρ a else ρ b) | _ => none
  | .build zs ps => (fillL zs (ps.map fun p => (p.1, p.2.1, ρ p.2.2))).map .agg
  | .nilck x => match ρ x with | .ptr b o => some (.ptr b o) | .iface t v => some (.iface t v) | .fn (.func f) a b => some (.fn (.func f) a b) | _ => none
  | .arith op x y => match ρ x, ρ y with | .int k a, .int k' b => if k = k' then arithV op k a b else none | _, _ => none
  | .shift op x y => match ρ x, ρ y with | .int k a, .int _ b => shiftV op k a b | _, _ => none
  | .eq neg e x y => (eqV e (ρ x) (ρ y)).map fun r => .bool (if neg then !r else r)
  | .un op x => unV op (ρ x)
  | .conv k x => match ρ x with | .int _ n => some (.int k (k.wrap n)) | _ => none
  | .mkIface t x => some (.iface t (ρ x))
  | .mkFunc fn first cap => some (.fn fn (first.map ρ) (cap.map ρ))
  | .slice z x lo hi => sliceV z (ρ x) (lo.map ρ) (hi.map ρ)
  | .fieldAddr off x => match ρ x with | .ptr b o => some (.ptr b (o + off)) | _ => none
  | .field off size agg x => match ρ x with | .agg cs => partL cs off size agg | _ => none
  | .idxS z x i => match ρ x, ρ i with
    | .slice b o len _ z', .int _ n => if 0 ≤ n ∧ n < len ∧ z' = z then some (.ptr b (o + n.toNat * z)) else none
    | _, _ => none
  | .idxP len z x i => match ρ x, ρ i with
    | .ptr b o, .int _ n => if 0 ≤ n ∧ n < len then some (.ptr b (o + n.toNat * z)) else none
    | _, _ => none
  | .idxA len z agg x i => match ρ x, ρ i with
    | .agg cs, .int _ n => if 0 ≤ n ∧ n < len then partL cs (n.toNat * z) z agg else none
    | _, _ => none
  | .extract i x => match ρ x with | .tup vs => vs[i]? | _ => none
  | .assertT t ok x => match ρ x with
    | .iface t' v => if t' = t then some (match ok with | some _ => .tup [v, .bool true] | none => v) else ok.map fun z => .tup [z, .bool false]
    | .inil => ok.map fun z => .tup [z, .bool false]
    | _ => none
  | .lenS x => match ρ x with | .slice _ _ len _ _ => some (.int .i64 len) | .snil => some (.int .i64 0) | _ => none
  | .lenT x => match ρ x with | .str s => some (.int .i64 s.size) | _ => none
  | .maxmin mx x y => match ρ x, ρ y with
    | .int k a, .int k' b => if k = k' then some (.int k (if mx then (if b > a then b else a) else (if b < a then b else a))) else none
    | _, _ => none

def repl (zs : List V) : Nat → List V
  | 0 => []
  | n + 1 => zs ++ repl zs n

def blkOf (cs : List V) : Blk := .cells false cs.length (T.ofList .e 0 cs)
/-- What a making operation makes: the block, and its value, by the block's number. -/
def stepA (ρ : Opd → V) : XA → Option (Blk × (Nat → V))
  | .alloc zs => some (blkOf zs, fun b => .ptr b 0)
  | .box x => if (ρ x).known = true then some (blkOf (ρ x).cells, fun b => .ptr b 0) else none
  | .buildS len z zs ps => if len * z ≤ 16777216 then (fillL (repl zs len) (ps.map fun p => (p.1, p.2.1, ρ p.2.2))).map fun cs => (blkOf cs, fun b => .slice b 0 len len z) else none
  | .mkSlice z bytes zs l c => match ρ l, ρ c with
    | .int .i64 a, .int .i64 b => if 0 ≤ a ∧ a ≤ b ∧ b ≤ 1048576 ∧ bytes ≤ 1024 then some (blkOf (repl zs b.toNat), fun r => .slice r 0 a.toNat b.toNat z) else none
    | _, _ => none
  | .mkMap => some (.map false [], fun b => .map b)

/-! ### Maps -/
def keyEq : V → V → Option Bool
  | .int k a, .int k' b => if k = k' then some (a == b) else none
  | _, _ => none
def findV (k : V) : List (V × V) → Option V
  | [] => none
  | (k', v) :: r => if keyEq k k' = some true then some v else findV k r
def findE (k : V) (es : List (V × V)) : Option (Option V) :=
  match k with
  | .int _ _ => if es.all (fun e => (keyEq k e.1).isSome) = true then some (findV k es) else none
  | _ => none
def setE (k v : V) : List (V × V) → List (V × V)
  | [] => [(k, v)]
  | (k', v') :: r => if keyEq k k' = some true then (k, v) :: r else (k', v') :: setE k v r
def delE (k : V) : List (V × V) → List (V × V)
  | [] => []
  | (k', v') :: r => if keyEq k k' = some true then r else (k', v') :: delE k r

inductive R where
  | val (v : V) (σ : H)
  | enter (f : FuncId) (args : List V) (σ : H)
  | pan (v : V) (σ : H)

def loadV (σ : H) (n : Nat) (agg : Bool) : V → Option V
  | .ptr b o => match σ.loadN b o n with
    | some cs => if agg then some (.agg cs) else cs[0]?
    | none => none
  | _ => none

def ptrEq (σ : H) : V → V → Option Bool
  | .ptr b o, .ptr b' o' => if b = b' then some (o == o') else
    match σ.get b, σ.get b' with
    | some (.cells _ _ _), some (.cells _ _ _) => some false
    | _, _ => none
  | x, y => eqV .ptr x y

def srcV (σ : H) (z : Nat) : V → Option (Nat × List V)
  | .snil => some (0, [])
  | .slice b o len _ z' => if z' = z then (σ.loadN b o (len * z)).map fun l => (len, l) else none
  | _ => none
def appendV (σ : H) (z bytes : Nat) (s x : V) : Option (V × H) :=
  match srcV σ z x with
  | none => none
  | some (n, new) =>
    match s with
    | .snil => if n = 0 then some (.snil, σ) else if n ≤ 1048576 ∧ bytes ≤ 1024 then some (.slice σ.next 0 n n z, σ.new (blkOf new)) else none
    | .slice b o len cap z' =>
      if z' ≠ z then none else
      if n = 0 then some (.slice b o len cap z', σ) else
      if len + n ≤ cap then (σ.storeN b (o + len * z) new).map fun σ' => (.slice b o (len + n) cap z, σ')
      else if len + n ≤ 1048576 ∧ bytes ≤ 1024 ∧ new.all V.cell = true then
        match σ.get b, σ.loadN b o (len * z) with
        | some (.cells false _ _), some old => some (.slice σ.next 0 (len + n) (len + n) z, (σ.kill b).new (blkOf (old ++ new)))
        | _, _ => none
      else none
    | _ => none

def copyV (σ : H) (z : Nat) (d s : V) : Option (V × H) :=
  match d, s with
  | .snil, .snil | .snil, .slice _ _ _ _ _ | .slice _ _ _ _ _, .snil => some (.int .i64 0, σ)
  | .slice b o len _ z1, .slice b' o' len' _ z2 =>
    if z1 = z ∧ z2 = z then
      match σ.loadN b' o' (min len' len * z) with
      | some cs => if min len' len = 0 then some (.int .i64 0, σ) else (σ.storeN b o cs).map fun σ' => (.int .i64 (min len' len : Nat), σ')
      | none => none
    else none
  | _, _ => none

/-- A type's method: a function; or that of the interface that stands first in what the receiver points at. -/
inductive Mt where
  | fn (f : FuncId)
  | emb
abbrev MT := TypeId → String → Option Mt
/-- The function of a method, and its receiver. -/
def meth (m : MT) (σ : H) (t : TypeId) (v : V) (name : String) : Option (FuncId × V) :=
  match m t name with
  | some (.fn f) => some (f, v)
  | some .emb => match loadV σ 1 false v with
    | some (.iface t' v') => match m t' name with
      | some (.fn f) => some (f, v')
      | _ => none
    | _ => none
  | none => none

/-- An operation: 'm' is the table of methods. -/
def step (m : MT) (σ : H) (ρ : Opd → V) : X → Option R
  | .l x => (stepL ρ x).map fun v => .val v σ
  | .a x => (stepA ρ x).map fun p => .val (p.2 σ.next) (σ.new p.1)
  | .load n agg a => (loadV σ n agg (ρ a)).map fun v => .val v σ
  | .store n a v => match ρ a with
    | .ptr b o => if (ρ v).cells.length = n then (σ.storeN b o (ρ v).cells).map fun σ' => .val .undef σ' else none
    | _ => none
  | .eqp neg x y => (ptrEq σ (ρ x) (ρ y)).map fun r => .val (.bool (if neg then !r else r)) σ
  | .sliceA n z x lo hi =>
    match ρ x with
    | .ptr b o =>
      match σ.get b, bound n (hi.map ρ), bound 0 (lo.map ρ) with
      | some (.cells _ m _), some h, some l => if l ≤ h ∧ h ≤ n ∧ l < n ∧ o + n * z ≤ m then some (.val (.slice b (o + l * z) (h - l) (n - l) z) σ) else none
      | _, _, _ => none
    | _ => none
  | .lookup zero ok mp k => match ρ mp with
    | .mnil => some (.val (if ok then .tup [zero, .bool false] else zero) σ)
    | .map r => match σ.get r with
      | some (.map _ es) => match findE (ρ k) es with
        | some (some v) => some (.val (if ok then .tup [v, .bool true] else v) σ)
        | some none => some (.val (if ok then .tup [zero, .bool false] else zero) σ)
        | none => none
      | _ => none
    | _ => none
  | .update mp k v => match ρ mp with
    | .map r => match σ.get r with
      | some (.map false es) => match findE (ρ k) es with
        | some _ => some (.val .undef (σ.set r (.map false (setE (ρ k) (ρ v) es))))
        | none => none
      | _ => none
    | _ => none
  | .delete mp k => match ρ mp with
    | .map r => match σ.get r with
      | some (.map false es) => match findE (ρ k) es with
        | some _ => some (.val (.tup []) (σ.set r (.map false (delE (ρ k) es))))
        | none => none
      | _ => none
    | _ => none
  | .lenM mp => match ρ mp with
    | .mnil => some (.val (.int .i64 0) σ)
    | .map r => match σ.get r with
      | some (.map _ es) => some (.val (.int .i64 es.length) σ)
      | _ => none
    | _ => none
  | .append z bytes s x => (appendV σ z bytes (ρ s) (ρ x)).map fun p => .val p.1 p.2
  | .copy z d s => (copyV σ z (ρ d) (ρ s)).map fun p => .val p.1 p.2
  | .clearS zs x => match ρ x with
    | .snil => some (.val (.tup []) σ)
    | .slice b o len _ z => if len = 0 then some (.val (.tup []) σ) else if z = zs.length then (σ.storeN b o (repl zs len)).map fun σ' => .val (.tup []) σ' else none
    | _ => none
  | .call f args => some (.enter f (args.map ρ) σ)
  | .callV f args => match ρ f with
    | .fn (.func f) first cap => some (.enter f (first ++ args.map ρ ++ cap) σ)
    | _ => none
  | .invoke name recv args => match ρ recv with
    | .iface t v => match meth m σ t v name with
      | some p => some (.enter p.1 (p.2 :: args.map ρ) σ)
      | none => none
    | _ => none
  | .panic x => match ρ x with
    | .iface t v => some (.pan (.iface t v) σ)
    | _ => none

/-- What a call comes to. -/
inductive Rt where
  | ret (v : V) (σ : H)
  | pan (v : V) (σ : H)
/-- What operations come to. -/
inductive Oc where
  | ok (t : T V) (σ : H)
  | pan (v : V) (t : T V) (σ : H)

abbrev Call := FuncId → List V → H → Option Rt

def putd (t : T V) : Option Nat → V → T V
  | none, _ => t
  | some d, v => t.put d (some v)
/-- Is it not known whether an operation is wanted? -/
def unk (t : T V) : Option (Nat × Bool) → Bool
  | none => false
  | some (j, _) => !(ev t (.t j)).known
def wantedV (t : T V) : Option (Nat × Bool) → Bool
  | none => true
  | some (j, b) => match ev t (.t j) with | .bool c => c == b | _ => false

variable (m : MT)
def Rt.oc (t : T V) (d : Option Nat) : Rt → Oc
  | .ret v σ => .ok (putd t d v) σ
  | .pan v σ => .pan v t σ
/-- One operation, its call and all. -/
def ev1 (call : Call) (o : Op) (t : T V) (σ : H) : Option Oc :=
  if unk t o.g then none else
  if wantedV t o.g then
    match step m σ (ev t) o.x with
    | some (.val v σ') => some (.ok (putd t o.dst v) σ')
    | some (.enter f args σ') => (call f args σ').map (Rt.oc t o.dst)
    | some (.pan v σ') => some (.pan v t σ')
    | none => none
  else some (.ok (putd t o.dst .undef) σ)
def evOps (call : Call) : List Op → T V → H → Option Oc
  | [], t, σ => some (.ok t σ)
  | o :: r, t, σ => match ev1 m call o t σ with
    | some (.ok t' σ') => evOps call r t' σ'
    | x => x

/-! ### Are two values the same? (true only if they are) -/
mutual
def Bt.same : Nat → Bt → Bt → Bool
  | n + 1, .not a, .not b => Bt.same n a b
  | n + 1, .and a b, .and c d => Bt.same n a c && Bt.same n b d
  | n + 1, .or a b, .or c d => Bt.same n a c && Bt.same n b d
  | n + 1, .xor a b, .xor c d => Bt.same n a c && Bt.same n b d
  | n + 1, .sum a b, .sum c d => Bt.sames n a c && Bt.sames n b d
  | _, .z, .z => true
  | _, .o, .o => true
  | _, .v i j, .v k l => decide (i = k) && decide (j = l)
  | _, _, _ => false
def Bt.sames : Nat → List Bt → List Bt → Bool
  | n + 1, a :: as, b :: bs => Bt.same n a b && Bt.sames n as bs
  | _, [], [] => true
  | _, _, _ => false
end
def Sy.same : Nat → Sy → Sy → Bool
  | n + 1, .op o a1 a2, .op p b1 b2 => decide (o = p) && Sy.same n a1 b1 && Sy.same n a2 b2
  | n + 1, .cv k a1, .cv j b1 => decide (k = j) && Sy.same n a1 b1
  | _, .w l, .w r => Bt.sames 200 l r
  | _, .lin m l, .lin n r => decide (m = n) && decide (l = r)
  | _, .c i, .c j => decide (i = j)
  | _, _, _ => false
mutual
def V.same : Nat → V → V → Bool
  | n + 1, .fn f a b, .fn g c d => decide (f = g) && V.sames n a c && V.sames n b d
  | n + 1, .iface t v, .iface u w => decide (t = u) && V.same n v w
  | n + 1, .agg a, .agg b => V.sames n a b
  | n + 1, .tup a, .tup b => V.sames n a b
  | _, .undef, .undef => true
  | _, .bool a, .bool b => a == b
  | _, .int k a, .int j b => decide (k = j) && decide (a = b)
  | _, .ptr a b, .ptr c d => decide (a = c) && decide (b = d)
  | _, .nil, .nil => true
  | _, .slice a b c d e, .slice a' b' c' d' e' => decide (a = a') && decide (b = b') && decide (c = c') && decide (d = d') && decide (e = e')
  | _, .snil, .snil => true
  | _, .map a, .map b => decide (a = b)
  | _, .mnil, .mnil => true
  | _, .fnil, .fnil => true
  | _, .inil, .inil => true
  | _, .sym k a, .sym j b => decide (k = j) && Sy.same 200 a b
  | _, .any, .any => true
  | _, _, _ => false
def V.sames : Nat → List V → List V → Bool
  | n + 1, a :: as, b :: bs => V.same n a b && V.sames n as bs
  | _, [], [] => true
  | _, _, _ => false
end

/-- Does a load give that value at each of the first so many states? -/
def held (n : Nat) (agg : Bool) (a v : V) : Nat → List H → Bool
  | 0, _ => true
  | k + 1, σ :: r => (match loadV σ n agg a with | some u => V.same 40 u v | none => false) && held n agg a v k r
  | _ + 1, [] => false
/-- A light operation of a region whose order is open. -/
def evFl (base : Nat) (i : It) (t : T V) (σ : H) (hist : List H) : Option (T V × H) :=
  if unk t i.o.g then none else
  if wantedV t i.o.g then
    match i.o.x with
    | .l x => (stepL (ev t) x).map fun v => (putd t i.o.dst v, σ)
    | .a x => (stepA (ev t) x).map fun p => (putd t i.o.dst (p.2 (base + i.idx)), σ.set (base + i.idx) p.1)
    | .load n agg a => match loadV σ n agg (ev t a) with
      | some v => if held n agg (ev t a) v i.back hist then some (putd t i.o.dst v, σ) else none
      | none => none
    | _ => none
  else some (putd t i.o.dst .undef, σ)
/-- Behind a panic: what may be done ahead of it in another order. -/
def evDead (base k : Nat) : List It → T V → H → List H → Bool
  | [], _, _, _ => true
  | i :: r, t, σ, hist =>
    if i.heavy then evDead base k r (putd t i.o.dst .undef) σ (σ :: hist)
    else if i.anc.testBit k then evDead base k r (putd t i.o.dst .undef) σ hist
    else match evFl base i t σ hist with
      | some p => evDead base k r p.1 p.2 hist
      | none => false
/-- A region whose order is open: 'hist': the states behind each heavy operation so far, the last one first. -/
def evIts (call : Call) (base : Nat) : List It → T V → H → List H → Option Oc
  | [], t, σ, _ => some (.ok t σ)
  | i :: r, t, σ, hist =>
    if i.heavy then
      match ev1 m call i.o t σ with
      | some (.ok t' σ') => evIts call base r t' σ' (σ' :: hist)
      | some (.pan v _ σ') => if evDead base i.idx r (putd t i.o.dst .undef) σ (σ :: hist) then some (.pan v t σ') else none
      | none => none
    else
      match evFl base i t σ hist with
      | some p => evIts call base r p.1 p.2 hist
      | none => none
/-- A frame without what a region gives. -/
def undefs (t : T V) : List It → T V
  | [] => t
  | i :: r => putd (undefs t r) i.o.dst .any
def H.room (σ : H) (n : Nat) : H := ⟨σ.t, σ.next + n⟩

inductive Ex where
  | normal
  | exit (id : Nat)
  | ret
  | pan (v : V)

abbrev Dc := FuncId × List V
structure Out where
  x : Ex
  t : T V
  ds : List Dc
  σ : H

def Oc.out (ds : List Dc) : Oc → Out
  | .ok t σ => ⟨.normal, t, ds, σ⟩
  | .pan v t σ => ⟨.pan v, t, ds, σ⟩
/-- A region's outcome: behind a panic nothing is left of what it gave. -/
def Oc.outD (ds : List Dc) (t0 : T V) (l : List It) : Oc → Out
  | .ok t σ => ⟨.normal, t, ds, σ⟩
  | .pan v _ σ => ⟨.pan v, undefs t0 l, ds, σ⟩

def iter (body : T V → List Dc → H → Option Out) : Nat → T V → List Dc → H → Option Out
  | 0, _, _, _ => none
  | n + 1, t, ds, σ => match body t ds σ with
    | some ⟨.normal, t', ds', σ'⟩ => iter body n t' ds' σ'
    | r => r

/-! A loop that forgets: behind each round only some of the frame and the blocks below a bound are left. -/
mutual
def V.low (n : Nat) : V → Bool
  | .ptr b _ => decide (b < n)
  | .slice b _ _ _ _ => decide (b < n)
  | .map r => decide (r < n)
  | .fn _ a c => V.lows n a && V.lows n c
  | .iface _ v => V.low n v
  | .agg cs => V.lows n cs
  | .tup cs => V.lows n cs
  | _ => true
def V.lows (n : Nat) : List V → Bool
  | [] => true
  | v :: l => V.low n v && V.lows n l
end
def canonB : Blk → Blk
  | .cells r n c => .cells r n (T.ofList .e 0 (takeCells c 0 n))
  | .map r es => .map r es
def canonH (σ : H) : Nat → T Blk
  | 0 => .e
  | n + 1 => (canonH σ n).put n ((σ.get n).map canonB)
def Blk.low (k : Nat) : Blk → Bool
  | .cells _ n c => (takeCells c 0 n).all (V.low k)
  | .map _ es => es.all fun e => e.1.low k && e.2.low k
def lowH (base : Nat) (σ : H) : Nat → Bool
  | 0 => true
  | n + 1 => (match σ.get n with | some B => B.low base | none => true) && lowH base σ n
def cutT (t : T V) : List Nat → T V
  | [] => .e
  | i :: r => (cutT t r).put i (t.get i)
def cutH (base : Nat) (σ : H) : H := ⟨canonH σ base, base⟩
def cutOk (base : Nat) (keep : List Nat) (t : T V) (σ : H) : Bool := keep.all (fun i => (ev t (.t i)).low base) && lowH base σ base
def iterG (body : T V → List Dc → H → Option Out) (base : Nat) (keep : List Nat) : Nat → T V → H → Option Out
  | 0, _, _ => none
  | n + 1, t, σ => match body t [] σ with
    | some ⟨.normal, t', [], σ'⟩ => if cutOk base keep t' σ' then iterG body base keep n (cutT t' keep) (cutH base σ') else none
    | some ⟨.normal, _, _ :: _, _⟩ => none
    | r => r

def evC (call : Call) (fuel : Nat) : C → T V → List Dc → H → Option Out
  | .skip, t, ds, σ => some ⟨.normal, t, ds, σ⟩
  | .reg l, t, ds, σ => (evOps m call l t σ).map (Oc.out ds)
  | .draw l, t, ds, σ => (evIts m call σ.next l t (σ.room l.length) [σ.room l.length]).map (Oc.outD ds t l)
  | .seq a b, t, ds, σ => match evC call fuel a t ds σ with
    | some ⟨.normal, t', ds', σ'⟩ => evC call fuel b t' ds' σ'
    | r => r
  | .cond c a b, t, ds, σ => match ev t c with
    | .bool x => if x then evC call fuel a t ds σ else evC call fuel b t ds σ
    | _ => none
  | .block id c, t, ds, σ => match evC call fuel c t ds σ with
    | some ⟨.exit i, t', ds', σ'⟩ => if i = id then some ⟨.normal, t', ds', σ'⟩ else some ⟨.exit i, t', ds', σ'⟩
    | r => r
  | .loop c, t, ds, σ => iter (evC call fuel c) fuel t ds σ
  | .loopG keep c, t, [], σ => iterG (evC call fuel c) σ.next keep fuel (cutT t keep) (cutH σ.next σ)
  | .loopG _ _, _, _ :: _, _ => none
  | .exit id, t, ds, σ => some ⟨.exit id, t, ds, σ⟩
  | .ret, t, ds, σ => some ⟨.ret, t, ds, σ⟩
  | .dfr d f args, t, ds, σ => some ⟨.normal, putd t d .undef, (f, args.map (ev t)) :: ds, σ⟩

/-- Code without forgetting. -/
def C.plain : C → C
  | .seq a b => .seq a.plain b.plain
  | .cond q a b => .cond q a.plain b.plain
  | .block i c => .block i c.plain
  | .loop c => .loop c.plain
  | .loopG _ c => .loop c.plain
  | c => c
def FnI.plain (f : FnI) : FnI := { f with body := f.body.plain }

def resOf (t : T V) (σ : H) : List Rs → Option (List V)
  | [] => some []
  | .tmp i :: r => (resOf t σ r).map fun l => ev t (.t i) :: l
  | .cell a n agg :: r => match loadV σ n agg (ev t (.t a)) with
    | some v => (resOf t σ r).map fun l => v :: l
    | none => none
def resV : List V → V
  | [v] => v
  | l => .tup l

/-- Does a body end, with no deferred call left? -/
def Out.ends : Out → Option (T V × H)
  | ⟨.normal, t, [], σ⟩ => some (t, σ)
  | ⟨.ret, t, [], σ⟩ => some (t, σ)
  | _ => none
/-- A deferred call; 'u': the panic that goes on. -/
def callD (tbl : FuncId → Option FnI) (call : Call) (fuel : Nat) (f : FuncId) (args : List V) (u : Option V) (σ : H) : Option (Option V × H) :=
  match tbl f with
  | none => none
  | some fn =>
    match (evC m call fuel fn.body (match fn.rcv with | none => T.ofList .e 0 args | some d => putd (T.ofList .e 0 args) d (u.getD .inil)) [] σ).bind Out.ends with
    | none => none
    | some p => (resOf p.1 p.2 fn.res).map fun _ => (match fn.rcv with | none => u | some _ => none, p.2)
def runD (tbl : FuncId → Option FnI) (call : Call) (fuel : Nat) : List Dc → Option V → H → Option (Option V × H)
  | [], u, σ => some (u, σ)
  | d :: ds, u, σ => match callD m tbl call fuel d.1 d.2 u σ with
    | some p => runD tbl call fuel ds p.1 p.2
    | none => none

/-- How a body ends: the panic that goes on. -/
def Ex.mode : Ex → Option (Option V)
  | .normal | .ret => some none
  | .pan v => some (some v)
  | .exit _ => none

/-- Calls; 'sm': what has been shown ahead. -/
def callF (sm : Call) (tbl : FuncId → Option FnI) (fuel : Nat) : Nat → Call
  | 0 => fun _ _ _ => none
  | d + 1 => fun f args σ =>
    match sm f args σ with
    | some r => some r
    | none =>
      match tbl f with
      | none => none
      | some fn => if fn.rcv.isSome then none else
        match evC m (callF sm tbl fuel d) fuel fn.body (T.ofList .e 0 args) [] σ with
        | none => none
        | some o => match o.x.mode with
          | none => none
          | some u => match runD m tbl (callF sm tbl fuel d) fuel o.ds u o.σ with
            | some (none, σ') => (resOf o.t σ' fn.res).map fun l => .ret (resV l) σ'
            | some (some v, σ') => some (.pan v σ')
            | none => none

end Go.Abs
