/- PART of the proof of CallsKnown: A region whose order is open: what is looked at. No condition. -/
import Derived.Test.YtecebpjfidpchaaGreatU13
/-! A region whose order is open: what is looked at. -/
namespace Go.Abs

def XL.opds : XL → List Opd
  | .mov x | .nilck x | .un _ x | .conv _ x | .mkIface _ x | .fieldAddr _ x | .field _ _ _ x | .extract _ x | .assertT _ _ x | .lenS x | .lenT x => [x]
  | .pick c a b => [c, a, b]
  | .build _ ps => ps.map (·.2.2)
  | .arith _ x y | .shift _ x y | .eq _ _ x y | .idxS _ x y | .idxP _ _ x y | .idxA _ _ _ x y | .maxmin _ x y => [x, y]
  | .mkFunc _ a b => a ++ b
  | .slice _ x lo hi => x :: (lo.toList ++ hi.toList)
def XA.opds : XA → List Opd
  | .alloc _ | .mkMap => []
  | .box x => [x]
  | .buildS _ _ _ ps => ps.map (·.2.2)
  | .mkSlice _ _ _ a b => [a, b]
def X.opds : X → List Opd
  | .l x => x.opds
  | .a x => x.opds
  | .load _ _ u | .lenM u | .clearS _ u | .panic u => [u]
  | .store _ u v | .eqp _ u v | .lookup _ _ u v | .delete u v | .append _ _ u v | .copy _ u v => [u, v]
  | .sliceA _ _ x lo hi => x :: (lo.toList ++ hi.toList)
  | .update u v y => [u, v, y]
  | .call _ args => args
  | .callV f args => f :: args
  | .invoke _ r args => r :: args

section
variable {ρ ρ₂ : Opd → V}
theorem map_parts (ps : List (Nat × Nat × Opd)) (h : ∀ q ∈ ps.map (·.2.2), ρ q = ρ₂ q) : (ps.map fun p => (p.1, p.2.1, ρ p.2.2)) = ps.map fun p => (p.1, p.2.1, ρ₂ p.2.2) :=
  List.map_congr_left fun p hp => by rw [h _ (List.mem_map_of_mem hp)]
theorem map_opds (l : List Opd) (h : ∀ q ∈ l, ρ q = ρ₂ q) : l.map ρ = l.map ρ₂ := List.map_congr_left h
theorem map_opt (o : Option Opd) (h : ∀ q ∈ o.toList, ρ q = ρ₂ q) : o.map ρ = o.map ρ₂ := by
  cases o with
  | none => rfl
  | some x => simp [h x (by simp)]

theorem stepL_congr (x : XL) (h : ∀ q ∈ x.opds, ρ q = ρ₂ q) : stepL ρ x = stepL ρ₂ x := by
  cases x <;> simp only [XL.opds] at h <;> simp only [stepL]
  case build zs ps => rw [map_parts ps h]
  case mkFunc f a b => rw [map_opds a fun q hq => h q (by simp [hq]), map_opds b fun q hq => h q (by simp [hq])]
  case slice z x lo hi => rw [h x (by simp), map_opt lo fun q hq => h q (by simp at hq; simp [hq]), map_opt hi fun q hq => h q (by simp at hq; simp [hq])]
  all_goals simp_all
theorem stepA_congr (x : XA) (h : ∀ q ∈ x.opds, ρ q = ρ₂ q) : stepA ρ x = stepA ρ₂ x := by
  cases x <;> simp only [XA.opds] at h <;> simp only [stepA]
  case buildS l z zs ps => rw [map_parts ps h]
  all_goals simp_all
theorem step_congr (m : MT) (σ : H) (x : X) (h : ∀ q ∈ x.opds, ρ q = ρ₂ q) : step m σ ρ x = step m σ ρ₂ x := by
  cases x <;> simp only [X.opds] at h <;> simp only [step]
  case l x => rw [stepL_congr x h]
  case a x => rw [stepA_congr x h]
  case sliceA n z x lo hi => rw [h x (by simp), map_opt lo fun q hq => h q (by simp at hq; simp [hq]), map_opt hi fun q hq => h q (by simp at hq; simp [hq])]
  case call f l => rw [map_opds l h]
  case callV f l => rw [h f (by simp), map_opds l fun q hq => h q (by simp [hq])]
  case invoke n r l => rw [h r (by simp), map_opds l fun q hq => h q (by simp [hq])]
  all_goals simp_all
end

def Op.uses (o : Op) (x : Nat) : Bool :=
  o.x.opds.any (fun q => match q with | .t y => y == x | .c _ => false) || (match o.g with | some (y, _) => y == x | none => false)

theorem uses_opd {o : Op} {q : Opd} (hq : q ∈ o.x.opds) {x : Nat} (e : q = .t x) : o.uses x = true := by
  simp only [Op.uses, Bool.or_eq_true, List.any_eq_true]
  exact .inl ⟨q, hq, by rw [e]; simp⟩
theorem agree_opds {o : Op} {t t₂ : T V} (h : ∀ x, o.uses x = true → ev t (.t x) = ev t₂ (.t x)) : ∀ q ∈ o.x.opds, ev t q = ev t₂ q := by
  intro q hq
  cases q with
  | t x => exact h x (uses_opd hq rfl)
  | c v => rfl
theorem agree_wanted {o : Op} {t t₂ : T V} (h : ∀ x, o.uses x = true → ev t (.t x) = ev t₂ (.t x)) : wantedV t o.g = wantedV t₂ o.g := by
  cases hg : o.g with
  | none => rfl
  | some p =>
    obtain ⟨y, b⟩ := p
    have := h y (by simp [Op.uses, hg])
    simp only [wantedV, this]

theorem agree_unk {o : Op} {t t₂ : T V} (h : ∀ x, o.uses x = true → ev t (.t x) = ev t₂ (.t x)) : unk t o.g = unk t₂ o.g := by
  cases hg : o.g with
  | none => rfl
  | some p =>
    obtain ⟨y, b⟩ := p
    have := h y (by simp [Op.uses, hg])
    simp only [unk, this]

def bit (M : List Nat) (i k : Nat) : Bool := (M.getD i 0).testBit k
def predsOf (o : Oper) : List Nat := (o.after.toList.filter (Region.binds .any)).map (·.on)
def maskOf (M : List Nat) (l : List Nat) : Nat := l.foldl (fun s p => s ||| 2 ^ p ||| M.getD p 0) 0
def chkM (M : List Nat) : Nat → List Oper → Bool
  | _, [] => true
  | i, o :: r => decide (M.getD i 0 = maskOf M (predsOf o)) && (predsOf o).all (fun p => decide (p < i)) && chkM M (i + 1) r

theorem maskOf_bit (M : List Nat) : ∀ (l : List Nat) (s k : Nat), (l.foldl (fun s p => s ||| 2 ^ p ||| M.getD p 0) s).testBit k = true → s.testBit k = true ∨ ∃ p ∈ l, p = k ∨ bit M p k = true
  | [], s, k, h => .inl h
  | p :: l, s, k, h => by
    simp only [List.foldl_cons] at h
    rcases maskOf_bit M l _ k h with h | ⟨q, hq, h⟩
    · simp only [Nat.testBit_or, Bool.or_eq_true] at h
      rcases h with (h | h) | h
      · exact .inl h
      · refine .inr ⟨p, by simp, .inl ?_⟩
        rw [Nat.testBit_two_pow] at h
        simpa using h
      · exact .inr ⟨p, by simp, .inr h⟩
    · exact .inr ⟨q, by simp [hq], h⟩

theorem chkM_get {M : List Nat} : ∀ {l : List Oper} {i : Nat}, chkM M i l = true → ∀ (k : Nat) o, l[k]? = some o → M.getD (i + k) 0 = maskOf M (predsOf o) ∧ ∀ p ∈ predsOf o, p < i + k
  | [], _, _, k, o, h => by simp at h
  | o :: l, i, hc, k, o', h => by
    simp only [chkM, Bool.and_eq_true, decide_eq_true_eq, List.all_eq_true] at hc
    cases k with
    | zero => simp at h; subst h; exact ⟨hc.1.1, hc.1.2⟩
    | succ k =>
      have := chkM_get hc.2 k o' (by simpa using h)
      rw [show i + 1 + k = i + (k + 1) from by omega] at this
      exact this

/-- What is behind an operation, of a set of operations that is closed. -/
theorem anc_closed {M : List Nat} {ops : Array Oper} (hc : chkM M 0 ops.toList = true) {S : Nat → Prop} (hS : ∀ (i : Nat) o, ops[i]? = some o → S i → ∀ p ∈ predsOf o, S p) :
    ∀ (i : Nat) o, ops[i]? = some o → (∀ p ∈ predsOf o, S p) → ∀ k, bit M i k = true → S k := by
  intro i
  induction i using Nat.strongRecOn with
  | _ i ih =>
    intro o ho hp k hk
    obtain ⟨h1, h2⟩ := chkM_get hc i o (by simpa using ho)
    simp only [Nat.zero_add] at h1 h2
    unfold bit at hk
    rw [h1] at hk
    rcases maskOf_bit M _ _ _ hk with h | ⟨p, hpm, h⟩
    · simp at h
    · rcases h with rfl | h
      · exact hp p hpm
      · have hlt := h2 p hpm
        cases hop : ops[p]? with
        | none =>
          -- beyond the operations no bit stands
          have hi : i < ops.size := by
            rcases Nat.lt_or_ge i ops.size with h' | h'
            · exact h'
            · simp [Array.getElem?_eq_none h'] at ho
          have : p < ops.size := by omega
          simp [this] at hop
        | some o' => exact ih p hlt o' hop (hS p o' hop (hp p hpm)) k h

/-- One item behind another one in our order. -/
def pairOk (M : List Nat) (a b : It) : Bool :=
  decide (a.idx ≠ b.idx) && (match a.o.dst, b.o.dst with | some d, some e => decide (d ≠ e) | _, _ => true) &&
  (match a.o.dst with | some d => !(b.o.uses d) || bit M b.idx a.idx | none => true) &&
  (match b.o.dst with | some d => !(a.o.uses d) || bit M b.idx a.idx | none => true) &&
  (!b.heavy || bit M b.idx a.idx)
def chkPairs (M : List Nat) : List It → Bool
  | [] => true
  | a :: r => r.all (pairOk M a) && chkPairs M r
theorem chkPairs_get {M : List Nat} : ∀ {l : List It}, chkPairs M l = true → ∀ (p q : Nat) a b, p < q → l[p]? = some a → l[q]? = some b → pairOk M a b = true
  | [], _, p, q, a, b, _, h, _ => by simp at h
  | x :: l, hc, p, q, a, b, hlt, ha, hb => by
    simp only [chkPairs, Bool.and_eq_true, List.all_eq_true] at hc
    cases q with
    | zero => omega
    | succ q =>
      have hb : l[q]? = some b := by simpa using hb
      cases p with
      | zero => simp at ha; subst ha; exact hc.1 b (List.mem_of_getElem? hb)
      | succ p => exact chkPairs_get hc.2 p q a b (by omega) (by simpa using ha) hb

def isLoad : X → Bool
  | .load _ _ _ => true
  | _ => false
/-- How far back a load looks: 'hv': the heavy ones so far, the last one first. -/
def chkBack (M : List Nat) : List It → List It → Bool
  | _, [] => true
  | hv, i :: r => (i.heavy || !isLoad i.o.x || (decide (1 ≤ i.back) && (match hv[i.back - 1]? with | some h => bit M i.idx h.idx | none => true))) && chkBack M (if i.heavy then i :: hv else hv) r

def chkAll (n : Nat) (its : List It) : Bool := decide (its.length = n) && its.all (fun i => decide (i.idx < n)) && (List.range n).all (fun k => its.any (fun i => decide (i.idx = k)))

def chkDraw (M : List Nat) (ops : Array Oper) (its : List It) : Bool := chkM M 0 ops.toList && chkPairs M its && chkBack M [] its && chkAll ops.size its && its.all (fun i => decide (i.anc = M.getD i.idx 0))

/-! The order that we take. -/
def masksOf (ops : Array Oper) : List Nat := ops.toList.foldl (fun M o => M ++ [maskOf M (predsOf o)]) []
def floats : X → Bool
  | .l _ | .a _ | .load _ _ _ => true
  | _ => false
def orderOf (M : List Nat) (hv : List Bool) : List Nat :=
  let all := List.range hv.length
  let out := (all.filter fun i => hv.getD i false).foldl (fun acc h => acc ++ (all.filter fun f => !hv.getD f false && bit M h f && !acc.contains f) ++ [h]) []
  out ++ all.filter fun f => !out.contains f
def itemsOf (M : List Nat) (xs : List Op) : List Nat → List Nat → List It
  | _, [] => []
  | hv, i :: r => match xs[i]? with
    | some o => if floats o.x then ⟨i, o, false, (hv.takeWhile fun h => !bit M i h).length + 1, M.getD i 0⟩ :: itemsOf M xs hv r else ⟨i, o, true, 0, M.getD i 0⟩ :: itemsOf M xs (i :: hv) r
    | none => []
def compDraw (P : Program) (gl : List Nat) (nt : Nat) (ops : Array Oper) : Option (List It) :=
  match optMap (compOp P gl nt ops) ops.toList with
  | none => none
  | some xs => if chkDraw (masksOf ops) ops (itemsOf (masksOf ops) xs [] (orderOf (masksOf ops) (xs.map fun o => !floats o.x))) = true then some (itemsOf (masksOf ops) xs [] (orderOf (masksOf ops) (xs.map fun o => !floats o.x))) else none

theorem items_mem {M : List Nat} {xs : List Op} : ∀ {l hv : List Nat} {i : It}, i ∈ itemsOf M xs hv l → xs[i.idx]? = some i.o ∧ i.heavy = !floats i.o.x
  | [], _, i, h => by simp [itemsOf] at h
  | k :: l, hv, i, h => by
    simp only [itemsOf] at h
    split at h
    · rename_i o ho
      split at h
      · rename_i hf
        rcases List.mem_cons.1 h with rfl | h
        · exact ⟨ho, by simp [hf]⟩
        · exact items_mem h
      · rename_i hf
        rcases List.mem_cons.1 h with rfl | h
        · exact ⟨ho, by simp [hf]⟩
        · exact items_mem h
    · simp at h

theorem optMap_get {α β : Type} {f : α → Option β} : ∀ {l : List α} {r : List β}, optMap f l = some r → ∀ (i : Nat) b, r[i]? = some b → ∃ x, l[i]? = some x ∧ f x = some b
  | [], r, h, i, b, hb => by simp [optMap] at h; subst h; simp at hb
  | x :: l, r, h, i, b, hb => by
    simp only [optMap] at h
    split at h
    · rename_i b0 r0 h0 hr
      simp at h; subst h
      cases i with
      | zero => simp at hb; subst hb; exact ⟨x, by simp, h0⟩
      | succ i => exact optMap_get hr i b (by simpa using hb)
    · simp at h

end Go.Abs
