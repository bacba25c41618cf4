/- PART of the proof of CallsKnown: What has been shown ahead: calls that are taken from elsewhere. No condition. -/
import Derived.Test.YtecebpjfidpchaaGreatU34
/-! What has been shown ahead: calls that are taken from elsewhere. -/
namespace Go.Abs
set_option linter.unusedVariables false

def V.flat : V → Bool
  | .bool _ | .int _ _ => true
  | _ => false
theorem V.flat_rel {φ ψ : F} {v : V} {v' : Value} (hf : v.flat = true) (h : VRel φ v v') : VRel ψ v v' := by
  cases v with
  | bool b => cases h; exact .bool _
  | int k n => cases h; exact .int _ _
  | _ => simp [V.flat] at hf
theorem V.flats_rel {φ ψ : F} : ∀ {l : List V} {l' : List Value}, l.all V.flat = true → VRels φ l l' → VRels ψ l l' := by
  intro l
  induction l with
  | nil => intro l' _ h; cases h; exact .nil
  | cons v l ih =>
    intro l' hf h
    cases h with
    | cons _ v' _ l2 hv ht =>
      simp only [List.all_cons, Bool.and_eq_true] at hf
      exact .cons _ _ _ _ (V.flat_rel hf.1 hv) (ih hf.2 ht)

def sameCells (c c' : T V) : Nat → Bool
  | 0 => true
  | n + 1 => V.same 40 (cellD c n) (cellD c' n) && sameCells c c' n
theorem sameCells_get {c c' : T V} : ∀ {n : Nat}, sameCells c c' n = true → ∀ i, i < n → cellD c i = cellD c' i
  | 0, _, i, h => by omega
  | n + 1, hs, i, h => by
    simp only [sameCells, Bool.and_eq_true] at hs
    by_cases e : i = n
    · subst e; exact V.same_eq _ _ _ hs.1
    · exact sameCells_get hs.2 i (by omega)
def sameEs : List (V × V) → List (V × V) → Bool
  | [], [] => true
  | a :: l, b :: r => V.same 40 a.1 b.1 && V.same 40 a.2 b.2 && sameEs l r
  | _, _ => false
theorem sameEs_eq : ∀ {l r : List (V × V)}, sameEs l r = true → l = r
  | [], [], _ => rfl
  | a :: l, b :: r, h => by
    simp only [sameEs, Bool.and_eq_true] at h
    rw [sameEs_eq h.2]
    congr 1
    exact Prod.ext (V.same_eq _ _ _ h.1.1) (V.same_eq _ _ _ h.1.2)
  | [], _ :: _, h => by simp [sameEs] at h
  | _ :: _, [], h => by simp [sameEs] at h
def lowCells (k : Nat) (c : T V) : Nat → Bool
  | 0 => true
  | n + 1 => (cellD c n).low k && (cellD c n).closed && lowCells k c n
theorem lowCells_get {k : Nat} {c : T V} : ∀ {n : Nat}, lowCells k c n = true → ∀ i, i < n → (cellD c i).low k = true ∧ (cellD c i).closed = true
  | 0, _, i, h => by omega
  | n + 1, hs, i, h => by
    simp only [lowCells, Bool.and_eq_true] at hs
    by_cases e : i = n
    · subst e; exact hs.1
    · exact lowCells_get hs.2 i (by omega)
def sameBlk (k : Nat) : Option Blk → Option Blk → Bool
  | some (.cells true n c), some (.cells _ m c') => decide (n = m) && sameCells c c' n && lowCells k c n
  | some (.map true es), some (.map _ es') => sameEs es es' && es.all (fun e => e.1.flat && e.2.flat)
  | _, _ => false
/-- Does a heap hold the first one, block by block? -/
def holdsH (σ0 σ : H) : Nat → Bool
  | 0 => true
  | n + 1 => sameBlk σ0.next (σ0.get n) (σ.get n) && holdsH σ0 σ n
theorem holdsH_get {σ0 σ : H} : ∀ {n : Nat}, holdsH σ0 σ n = true → ∀ b, b < n → sameBlk σ0.next (σ0.get b) (σ.get b) = true
  | 0, _, b, h => by omega
  | n + 1, hs, b, h => by
    simp only [holdsH, Bool.and_eq_true] at hs
    by_cases e : b = n
    · subst e; exact hs.1
    · exact holdsH_get hs.2 b (by omega)

theorem sameBlk_rel {φ : F} {w : World} {p : Pl} {k : Nat} {A B : Blk} (h : sameBlk k (some A) (some B) = true) (hr : BRel φ w p B) : A.ro = true ∧ BRel (φ.cut k) w p A := by
  cases A with
  | cells r n c =>
    cases r with
    | false => simp [sameBlk] at h
    | true =>
      cases B with
      | map r es => simp [sameBlk] at h
      | cells r2 n2 c2 =>
        simp only [sameBlk, Bool.and_eq_true, decide_eq_true_eq] at h
        obtain ⟨⟨rfl, hc⟩, hl⟩ := h
        obtain ⟨h1, h2, h3⟩ := hr
        refine ⟨rfl, h1, h2, fun i hi => ?_⟩
        obtain ⟨v', ha, hv⟩ := h3 i hi
        rw [← sameCells_get hc i hi] at hv
        exact ⟨v', ha, V.low_rel hv (lowCells_get hl i hi).1⟩
  | map r es =>
    cases r with
    | false => simp [sameBlk] at h
    | true =>
      cases B with
      | cells r2 n2 c2 => simp [sameBlk] at h
      | map r2 es2 =>
        simp only [sameBlk, Bool.and_eq_true, List.all_eq_true] at h
        have e := sameEs_eq h.1
        subst e
        obtain ⟨h1, es', clock, h2, h3⟩ := hr
        refine ⟨rfl, h1, es', clock, h2, h3.len, ?_, ?_, h3.ints, h3.nodup, h3.nodup'⟩
        · intro e he
          obtain ⟨e', he', a, b⟩ := h3.to e he
          exact ⟨e', he', V.flat_rel (h.2 e he).1 a, V.flat_rel (h.2 e he).2 b⟩
        · intro e' he'
          obtain ⟨e, he, a, b⟩ := h3.of e' he'
          exact ⟨e, he, V.flat_rel (h.2 e he).1 a, V.flat_rel (h.2 e he).2 b⟩
theorem V.flat_inst (e : En) {v : V} (h : v.flat = true) : v.inst e = v := by cases v <;> simp [V.flat] at h <;> rfl
theorem sameEs_flat (e : En) {es : List (V × V)} (h : es.all (fun p => p.1.flat && p.2.flat) = true) : es.map (fun p => (p.1.inst e, p.2.inst e)) = es := by
  induction es with
  | nil => rfl
  | cons p l ih =>
    simp only [List.all_cons, Bool.and_eq_true] at h
    simp only [List.map_cons, V.flat_inst e h.1.1, V.flat_inst e h.1.2]
    rw [ih h.2]
theorem same_refl_of {n : Nat} {c c' : T V} (h : sameCells c c' n = true) (hl : ∀ i, i < n → (cellD c i).closed = true) (e : En) : sameCells c (T.vi e c') n = true := by
  induction n with
  | zero => rfl
  | succ n ih =>
    simp only [sameCells, Bool.and_eq_true] at h ⊢
    refine ⟨?_, ih h.2 fun i hi => hl i (by omega)⟩
    rw [cellD_inst]
    have := V.same_inst e _ _ _ h.1
    rw [V.closed_inst e _ (hl n (by omega))] at this
    exact this
theorem holdsH_inst (e : En) {σ0 σ : H} : ∀ {n : Nat}, holdsH σ0 σ n = true → holdsH σ0 (σ.inst e) n = true
  | 0, _ => rfl
  | n + 1, h => by
    simp only [holdsH, Bool.and_eq_true] at h ⊢
    refine ⟨?_, holdsH_inst e h.2⟩
    rw [H.get_inst]
    have h1 := h.1
    cases hA : σ0.get n with
    | none => rw [hA] at h1; simp [sameBlk] at h1
    | some A =>
      rw [hA] at h1
      cases hB : σ.get n with
      | none => rw [hB] at h1; cases A with
        | cells r m c => cases r <;> simp [sameBlk] at h1
        | map r es => cases r <;> simp [sameBlk] at h1
      | some B =>
        rw [hB] at h1
        simp only [Option.map_some]
        cases A with
        | cells r m c =>
          cases r with
          | false => simp [sameBlk] at h1
          | true =>
            cases B with
            | map r es => simp [sameBlk] at h1
            | cells r2 m2 c2 =>
              simp only [Blk.inst, sameBlk, Bool.and_eq_true, decide_eq_true_eq] at h1 ⊢
              exact ⟨⟨h1.1.1, same_refl_of h1.1.2 (fun i hi => (lowCells_get h1.2 i hi).2) e⟩, h1.2⟩
        | map r es =>
          cases r with
          | false => simp [sameBlk] at h1
          | true =>
            cases B with
            | cells r2 m2 c2 => simp [sameBlk] at h1
            | map r2 es2 =>
              simp only [Blk.inst, sameBlk, Bool.and_eq_true] at h1 ⊢
              have e1 := sameEs_eq h1.1
              subst e1
              rw [sameEs_flat e h1.2]
              exact h1

/-- A closed call's summary: the place, the arguments, the value. -/
def sumCall (σ0 : H) (l : List (FuncId × List V × V)) : Call := fun f args σ =>
  match l.find? fun x => decide (x.1 = f) && V.sames 40 x.2.1 args with
  | some x => if (holdsH σ0 σ σ0.next && args.all V.flat && x.2.2.flat && decide (σ0.next ≤ σ.next)) = true then some (.ret x.2.2 σ) else none
  | none => none

theorem sumCall_ok {P : Program} {gl : List Nat} {σ0 : H} {l : List (FuncId × List V × V)} {call : Call} (hc : CallOk P gl call) (h0 : ∀ b B, σ0.get b = some B → b < σ0.next) (hgl : ∀ g, gl.contains g = true → g < σ0.next)
    (hl : ∀ x ∈ l, ∃ σ1, call x.1 x.2.1 σ0 = some (.ret x.2.2 σ1)) : CallOk P gl (sumCall σ0 l) := by
  intro f args σ r h φ w args' hrel hg hargs
  unfold sumCall at h
  split at h
  · rename_i x hx
    split at h
    · rename_i hcond
      simp only [Bool.and_eq_true, decide_eq_true_eq] at hcond
      obtain ⟨⟨⟨hh, ha⟩, hv⟩, hn⟩ := hcond
      simp only [Option.some.injEq] at h
      subst h
      have hp := List.find?_some hx
      simp only [Bool.and_eq_true, decide_eq_true_eq] at hp
      obtain ⟨rfl, hsame⟩ := hp
      have := V.sames_eq _ _ _ hsame
      subst this
      obtain ⟨σ1, hrun⟩ := hl x (List.mem_of_find?_eq_some hx)
      have get : ∀ b B, σ0.get b = some B → ∃ B' p, σ.get b = some B' ∧ φ b = some p ∧ B.ro = true ∧ BRel (φ.cut σ0.next) w p B := by
        intro b B hB
        have hs := holdsH_get hh b (h0 b B hB)
        rw [hB] at hs
        cases hB' : σ.get b with
        | none => rw [hB'] at hs; cases B with
          | cells r n c => cases r <;> simp [sameBlk] at hs
          | map r es => cases r <;> simp [sameBlk] at hs
        | some B' =>
          rw [hB'] at hs
          obtain ⟨p, hp, hbr⟩ := hrel.blk b B' hB'
          obtain ⟨h1, h2⟩ := sameBlk_rel hs hbr
          exact ⟨B', p, rfl, hp, h1, h2⟩
      have cut : ∀ b, b < σ0.next → (φ.cut σ0.next) b = φ b := fun b hb => by simp [F.cut, hb]
      have hrel0 : Rel (φ.cut σ0.next) σ0 w := by
        refine ⟨fun b B hB => ?_, fun b B b' B' p p' hB hB' hp hp' e => ?_, fun b p hp => ?_⟩
        · obtain ⟨B', p, h1, h2, h3, h4⟩ := get b B hB
          exact ⟨p, by rw [cut b (h0 b B hB)]; exact h2, h4⟩
        · obtain ⟨C, q, h1, h2, _, _⟩ := get b B hB
          obtain ⟨C', q', h1', h2', _, _⟩ := get b' B' hB'
          rw [cut b (h0 b B hB)] at hp
          rw [cut b' (h0 b' B' hB')] at hp'
          exact hrel.inj b C b' C' p p' h1 h1' hp hp' e
        · simp only [F.cut] at hp
          split at hp
          · rename_i hb; exact ⟨hb, (hrel.dom b p hp).2⟩
          · simp at hp
      have hg0 : GRel (φ.cut σ0.next) gl := fun g hgc => by
        obtain ⟨p, hp, h1, h2⟩ := hg g hgc
        exact ⟨p, by rw [cut g (hgl g hgc)]; exact hp, h1, h2⟩
      have nofoot : ∀ k, ¬ Foot (φ.cut σ0.next) σ0 k := by
        rintro k ⟨b, B, p, hB, hro, _⟩
        obtain ⟨_, _, _, _, h3, _⟩ := get b B hB
        rw [h3] at hro; cases hro
      obtain ⟨h1, h2⟩ := hc _ _ _ _ hrun _ w args' hrel0 hg0 (V.flats_rel ha hargs)
      refine ⟨h1, h2.mono ?_⟩
      rintro e w' ⟨v', φ', rfl, hsim, hvr⟩
      refine ⟨v', φ, rfl, ?_, V.flat_rel hv hvr⟩
      have keep : ∀ k, k < w.heap.size → w'.heap[k]? = w.heap[k]? := fun k hk => hsim.keep k hk (nofoot k)
      have sized : ∀ p, Sized w p → Sized w' p := fun p hs => by
        have := keep _ hs.lt
        unfold Sized at hs ⊢
        rw [this]; exact hs
      refine ⟨⟨fun b B hB => ?_, hrel.inj, fun b p hp => ⟨(hrel.dom b p hp).1, sized p (hrel.dom b p hp).2⟩⟩, F.le_refl φ, fun k hk _ => keep k hk, fun k hk => .inl hk, hsim.size, hsim.os, hsim.out, Nat.le_refl _, fun b hb _ => hb, fun b B hB _ => ⟨B, hB, rfl⟩, (Sim.refl hrel).fresh⟩
      obtain ⟨p, hp, hbr⟩ := hrel.blk b B hB
      exact ⟨p, hp, hbr.congr (F.le_refl φ) (keep _ (hrel.dom b p hp).2.lt)⟩
    · simp at h
  · simp at h

def noCall : Call := fun _ _ _ => none
theorem noCall_ok {P : Program} {gl : List Nat} : CallOk P gl noCall := by
  intro f args σ r h; simp [noCall] at h
theorem noSel : SelOk (fun _ _ => false) (fun _ _ _ _ _ _ => false) noCall :=
  ⟨fun _ _ _ _ _ _ h => by simp at h, fun _ _ _ _ _ => rfl⟩
def orCall (a b : Call) : Call := fun f args σ => match a f args σ with | some r => some r | none => b f args σ
theorem orCall_ok {P : Program} {gl : List Nat} {a b : Call} (ha : CallOk P gl a) (hb : CallOk P gl b) : CallOk P gl (orCall a b) := by
  intro f args σ r h
  unfold orCall at h
  split at h
  · rename_i r' hr
    simp at h; subst h
    exact ha f args σ r' hr
  · exact hb f args σ r h
theorem word_vars (e : Nat → Nat) (i n : Nat) : wordOf e ((List.range n).map fun j => Bt.v i j) = e i % 2 ^ n := by
  refine Nat.eq_of_testBit_eq fun j => ?_
  rw [wordOf_testBit, Nat.testBit_mod_two_pow, List.getElem?_map]
  by_cases hj : j < n
  · rw [List.getElem?_range hj]; simp [Bt.ev, hj]
  · rw [List.getElem?_eq_none (by simpa using hj)]; simp [hj]
/-- No loop forgets. -/
theorem noLg (fuel : Nat) : LgOk fuel (fun _ _ _ _ _ _ _ => false) := fun _ _ _ _ _ _ _ _ _ h => by simp at h

/-- The rest of a division, of whatever sign. -/
def restCall (fP : FuncId) : Call := fun f args σ => if f = fP then (match args with
  | [.int .i64 v, .int .i64 n] => if 1 ≤ n ∧ n ≤ 100 ∧ -9223372036854775808 ≤ v ∧ v ≤ 9223372036854775807 then some (.ret (.int .i64 (v % n)) σ) else none
  | _ => none) else none
theorem restCall_ok {P : Program} {gl : List Nat} {fP : FuncId} {call : Call} (hc : CallOk P gl call) (hr : ∀ (v n : Int) (σ : H), 1 ≤ n → n ≤ 100 → -9223372036854775808 ≤ v → v ≤ 9223372036854775807 → call fP [.int .i64 v, .int .i64 n] σ = some (.ret (.int .i64 (v % n)) σ)) : CallOk P gl (restCall fP) := by
  intro f args σ r h
  unfold restCall at h
  split at h
  · rename_i hf
    subst hf
    split at h
    · rename_i v n
      split at h
      · rename_i hc2
        simp at h; subst h
        exact hc _ _ _ _ (hr v n σ hc2.1 hc2.2.1 hc2.2.2.1 hc2.2.2.2)
      · simp at h
    · simp at h
  · simp at h

/-- In the kernel's form: a law's 'works' (no arguments), and rests. -/
noncomputable def gsW (σ0 : H) (as : List V) (σ : H) (iv : Iv) (kr : KV) : Bool := match as with
  | [] => fIf (holdsH σ0 σ σ0.next) (fIf (Nat.ble σ0.next σ.next) (kr (.bool true) σ iv))
  | _ => false
noncomputable def gsP (as : List V) (σ : H) (iv : Iv) (kr : KV) : Bool := match as with
  | [.sym .i64 (.lin n0 [(a, i)]), .int .i64 n] => fIf (decide (n0 = 0 ∧ a = 1 ∧ 1 ≤ n ∧ n ≤ 100)) (match xget iv.xs i, findP i n iv.ps with
    | some f, some j => fIf (decide (-9223372036854775808 ≤ f.lo ∧ f.hi ≤ 9223372036854775807)) (fN j fun j => kr (.sym .i64 (.lin 0 [(1, j)])) σ iv)
    | _, _ => false)
  | _ => false
theorem gsW_true {σ0 : H} {as : List V} {σ : H} {iv : Iv} {kr : KV} (h : gsW σ0 as σ iv kr = true) : as = [] ∧ holdsH σ0 σ σ0.next = true ∧ σ0.next ≤ σ.next ∧ kr (.bool true) σ iv = true := by
  unfold gsW at h
  split at h
  · obtain ⟨h1, h2⟩ := fIf_true h
    obtain ⟨h3, h4⟩ := fIf_true h2
    exact ⟨rfl, h1, Nat.le_of_ble_eq_true h3, h4⟩
  · simp at h
theorem gsP_true {as : List V} {σ : H} {iv : Iv} {kr : KV} (h : gsP as σ iv kr = true) {e : En} (he : iv.ok e) : ∃ (x n : Int) (v : V), as.map (V.inst e) = [.int .i64 x, .int .i64 n] ∧ (1 ≤ n ∧ n ≤ 100 ∧ -9223372036854775808 ≤ x ∧ x ≤ 9223372036854775807) ∧ v.inst e = .int .i64 (x % n) ∧ kr v σ iv = true := by
  unfold gsP at h
  split at h
  · rename_i n0 a i n
    obtain ⟨h1, h2⟩ := fIf_true h
    obtain ⟨rfl, rfl, hn1, hn2⟩ := of_decide_eq_true h1
    split at h2
    · rename_i g j hg hj
      obtain ⟨h3, h4⟩ := fIf_true h2
      have h3 := of_decide_eq_true h3
      rw [fN_eq] at h4
      obtain ⟨x1, x2, _⟩ := he.1 _ (xget_mem hg)
      have hp := he.2.2 _ (findP_mem hj)
      simp only at x1 x2 hp
      have hx : IntKind.i64.wrap (0 + linSum e.x [(1, i)]) = e.x i := by
        simp only [linSum, Int.zero_add, Int.one_mul, Int.add_zero]
        exact IntWalk.i64_in _ (by omega)
      have hm1 := Int.emod_nonneg (e.x i) (show n ≠ 0 by omega)
      have hm2 := Int.emod_lt_of_pos (e.x i) (show 0 < n by omega)
      have hy : IntKind.i64.wrap (0 + linSum e.x [(1, j)]) = e.x i % n := by
        simp only [linSum, Int.zero_add, Int.one_mul, Int.add_zero, hp]
        exact IntWalk.i64_in _ (by omega)
      exact ⟨e.x i, n, _, by simp only [List.map_cons, List.map_nil, V.inst, Sy.ev, hx], ⟨hn1, hn2, by omega, by omega⟩, by simp only [V.inst, Sy.ev, hy], h4⟩
    · simp at h2
  · simp at h
noncomputable def gs2 (σ0 : H) (fP : FuncId) : FC := fun f as σ iv kr _ => @Bool.rec (fun _ => Bool) (gsW σ0 as σ iv kr) (gsP as σ iv kr) (Nat.beq f fP)
def sel2 (fW fP : FuncId) (f : FuncId) (_ : List V) : Bool := Nat.beq f fP || Nat.beq f fW
def sm2 (σ0 : H) (fW fP : FuncId) : Call := orCall (restCall fP) (sumCall σ0 [(fW, [], .bool true)])
theorem sel2_ok (σ0 : H) {fW fP : FuncId} (hne : Nat.beq fW fP = false) : SelOk (sel2 fW fP) (gs2 σ0 fP) (sm2 σ0 fW fP) := by
  have hneq : fW ≠ fP := by
    intro h; subst h; simp at hne
  refine ⟨fun f as σ iv kr kp hsel h e he => ?_, fun f as e σ hsel => ?_⟩
  · have h' : @Bool.rec (fun _ => Bool) (gsW σ0 as σ iv kr) (gsP as σ iv kr) (Nat.beq f fP) = true := h
    cases hf : Nat.beq f fP with
    | true =>
      rw [hf] at h'
      have hf := Nat.eq_of_beq_eq_true hf
      subst hf
      obtain ⟨x, n, v, h1, h2, h3, h4⟩ := gsP_true h' he
      refine ⟨iv, he, .inl ⟨v, σ, ?_, h4⟩⟩
      rw [h1, h3]
      simp only [sm2, orCall, restCall, if_true]
      rw [if_pos h2]
    | false =>
      rw [hf] at h'
      have hW : f = fW := by
        simp only [sel2, hf, Bool.false_or] at hsel
        exact Nat.eq_of_beq_eq_true hsel
      subst hW
      obtain ⟨rfl, h1, h2, h4⟩ := gsW_true h'
      refine ⟨iv, he, .inl ⟨.bool true, σ, ?_, h4⟩⟩
      have hr : restCall fP f ([] : List V) (σ.inst e) = none := by simp [restCall, hneq]
      simp only [sm2, orCall, List.map_nil, hr]
      simp [sumCall, V.sames, V.flat, holdsH_inst e h1, h2, V.inst]
  · simp only [sel2, Bool.or_eq_false_iff] at hsel
    have h1 : f ≠ fP := by intro h; subst h; simp at hsel
    have h2 : f ≠ fW := by intro h; subst h; simp at hsel
    have h2' : ¬ fW = f := fun h => h2 h.symm
    simp [sm2, orCall, restCall, sumCall, h1, h2']
end Go.Abs
