/- PART of the proof of CallsKnown: Memory: a new block, a store, what is loaded. No condition. -/
import Derived.Test.YtecebpjfidpchaaGreatU5
/-! Memory: a new block, a store, what is loaded. -/
namespace Go.Abs

theorem VRel.oneCell {φ : F} {v : V} {v' : Value} (h : VRel φ v v') (hc : v.cell = true) : v'.oneCell' = true := by
  cases h <;> first | rfl | (simp [V.cell] at hc)

theorem CellAt.congr {w w' : World} {cb i : Nat} {v : Value} (h : CellAt w cb i v) (e : w'.heap[cb]? = w.heap[cb]?) : CellAt w' cb i v := by
  obtain ⟨cs, t, h1, h2⟩ := h
  exact ⟨cs, t, by rw [e, h1], h2⟩
theorem Sized.congr {w w' : World} {p : Pl} (h : Sized w p) (e : w'.heap[p.cb]? = w.heap[p.cb]?) : Sized w' p := by
  rcases h with ⟨cs, t, h1, h2⟩ | ⟨es, k, h1⟩
  · exact .inl ⟨cs, t, by rw [e, h1], h2⟩
  · exact .inr ⟨es, k, by rw [e, h1]⟩
theorem ERel.mono {φ ψ : F} (h : φ.le ψ) {es : List (V × V)} {es' : List MapEntry} (r : ERel φ es es') : ERel ψ es es' :=
  ⟨r.len, fun e he => by obtain ⟨e', a, b, c⟩ := r.to e he; exact ⟨e', a, b.mono h, c.mono h⟩, fun e he => by obtain ⟨e', a, b, c⟩ := r.of e he; exact ⟨e', a, b.mono h, c.mono h⟩, r.ints, r.nodup, r.nodup'⟩
theorem BRel.congr {φ ψ : F} (hle : φ.le ψ) {w w' : World} {p : Pl} {B : Blk} (h : BRel φ w p B) (e : w'.heap[p.cb]? = w.heap[p.cb]?) : BRel ψ w' p B := by
  cases B with
  | cells r n c =>
    obtain ⟨h1, ⟨cs, t, h2, h2'⟩, h3⟩ := h
    refine ⟨h1, ⟨cs, t, by rw [e, h2], h2'⟩, fun i hi => ?_⟩
    obtain ⟨v', a, b⟩ := h3 i hi
    exact ⟨v', a.congr e, b.mono hle⟩
  | map r es =>
    obtain ⟨h1, es', k, h2, h3⟩ := h
    exact ⟨h1, es', k, by rw [e, h2], h3.mono hle⟩

theorem Rel.heap {φ : F} {σ : H} {w w' : World} (h : Rel φ σ w) (e : w'.heap = w.heap) : Rel φ σ w' := by
  refine ⟨fun b B hb => ?_, h.inj, fun b p hp => ?_⟩
  · obtain ⟨p, hp, hr⟩ := h.blk b B hb
    exact ⟨p, hp, hr.congr (F.le_refl φ) (by rw [e])⟩
  · obtain ⟨h1, h2⟩ := h.dom b p hp
    exact ⟨h1, h2.congr (by rw [e])⟩

/-- A world that differs in nothing that we look at. -/
theorem Sim.same {φ : F} {σ : H} {w w' : World} (h : Rel φ σ w) (e : w'.heap = w.heap) (e1 : w'.os = w.os) (e2 : w'.output = w.output) : Sim φ σ w φ σ w' :=
  ⟨h.heap e, F.le_refl φ, fun _ _ _ => by rw [e], fun _ h => .inl h, by rw [e]; exact Nat.le_refl _, e1, e2, Nat.le_refl _, fun _ h _ => h, fun _ B h _ => ⟨B, h, rfl⟩, (Sim.refl h).fresh⟩

def F.put (φ : F) (b : Nat) (p : Pl) : F := fun k => if k = b then some p else φ k

theorem H.get_set (σ : H) (b : Nat) (B : Blk) (k : Nat) : (σ.set b B).get k = if b = k then some B else σ.get k := by
  simp [H.get, H.set, T.get_put]
theorem H.get_kill (σ : H) (b k : Nat) : (σ.kill b).get k = if b = k then none else σ.get k := by
  simp [H.get, H.kill, T.get_put]
theorem H.get_new (σ : H) (B : Blk) (k : Nat) : (σ.new B).get k = if σ.next = k then some B else σ.get k := by
  simp [H.get, H.new, T.get_put]

theorem heap_push_old {w : World} {o : Obj} {k : Nat} (h : k < w.heap.size) : (w.heap.push o)[k]? = w.heap[k]? := by
  rw [Array.getElem?_push]
  rw [if_neg (by omega)]
theorem heap_push_new {w : World} {o : Obj} : (w.heap.push o)[w.heap.size]? = some o := by
  rw [Array.getElem?_push]; simp

/-- A new block of ours for a new block of the world. -/
theorem Sim.new {φ : F} {σ : H} {w w' : World} (h : Rel φ σ w) (o : Obj) (e : w'.heap = w.heap.push o) (e1 : w'.os = w.os) (e2 : w'.output = w.output) (B : Blk) (n : Nat)
    (hro : B.ro = false) (hb : ∀ ψ : F, φ.le ψ → BRel ψ w' ⟨w.heap.size, 0, n⟩ B) (hs : Sized w' ⟨w.heap.size, 0, n⟩) : Sim φ σ w (φ.put σ.next ⟨w.heap.size, 0, n⟩) (σ.new B) w' := by
  have hle : φ.le (φ.put σ.next ⟨w.heap.size, 0, n⟩) := by
    intro b p hp
    have := (h.dom b p hp).1
    simp only [F.put]
    rw [if_neg (by omega)]; exact hp
  have old : ∀ k, k < w.heap.size → w'.heap[k]? = w.heap[k]? := fun k hk => by rw [e]; exact heap_push_old hk
  have lt : ∀ b p, φ b = some p → p.cb < w.heap.size := fun b p hp => (h.dom b p hp).2.lt
  have nx : ∀ b B, σ.get b = some B → b ≠ σ.next := fun b B hb' => by
    obtain ⟨p, hp, _⟩ := h.blk b B hb'
    have := (h.dom b p hp).1
    omega
  refine ⟨⟨?_, ?_, ?_⟩, hle, ?_, ?_, ?_, e1, e2, ?_, ?_, ?_, ?_⟩
  · intro b C hC
    rw [H.get_new] at hC
    by_cases hbn : σ.next = b
    · rw [if_pos hbn] at hC
      simp at hC; subst hC; subst hbn
      exact ⟨_, by simp [F.put], hb _ hle⟩
    · rw [if_neg hbn] at hC
      obtain ⟨p, hp, hrel⟩ := h.blk b C hC
      exact ⟨p, hle _ _ hp, hrel.congr hle (old _ (lt _ _ hp))⟩
  · intro b C b' C' p p' hC hC' hp hp' hcb
    rw [H.get_new] at hC hC'
    simp only [F.put] at hp hp'
    by_cases h1 : σ.next = b <;> by_cases h2 : σ.next = b'
    · exact h1.symm.trans h2
    · rw [if_pos h1.symm] at hp; rw [if_neg (fun x => h2 x.symm)] at hp'
      simp at hp; subst hp
      have := lt _ _ hp'
      simp at hcb; omega
    · rw [if_neg (fun x => h1 x.symm)] at hp; rw [if_pos h2.symm] at hp'
      simp at hp'; subst hp'
      have := lt _ _ hp
      simp at hcb; omega
    · rw [if_neg h1] at hC; rw [if_neg h2] at hC'
      rw [if_neg (fun x => h1 x.symm)] at hp; rw [if_neg (fun x => h2 x.symm)] at hp'
      exact h.inj b C b' C' p p' hC hC' hp hp' hcb
  · intro b p hp
    simp only [F.put] at hp
    split at hp
    · rename_i hbn
      simp at hp; subst hp; subst hbn
      exact ⟨by simp [H.new], hs⟩
    · obtain ⟨h1, h2⟩ := h.dom b p hp
      exact ⟨by simp [H.new]; omega, h2.congr (old _ h2.lt)⟩
  · exact fun k hk _ => old k hk
  · rintro k ⟨b, C, p, hC, hro, hp, rfl⟩
    rw [H.get_new] at hC
    by_cases hbn : σ.next = b
    · subst hbn
      simp [F.put] at hp; subst hp
      exact .inr (Nat.le_refl _)
    · rw [if_neg hbn] at hC
      simp only [F.put] at hp
      rw [if_neg (fun x => hbn x.symm)] at hp
      exact .inl ⟨b, C, p, hC, hro, hp, rfl⟩
  · rw [e]; simp
  · simp [H.new]
  · intro b hn hlt
    simp only [F.put]
    rw [if_neg (by omega)]; exact hn
  · intro b C hC hlt
    rw [H.get_new, if_neg (by omega)] at hC
    exact ⟨C, hC, rfl⟩
  · intro b C hC hle
    rw [H.get_new] at hC
    by_cases hbn : σ.next = b
    · rw [if_pos hbn] at hC
      simp at hC; subst hC; exact hro
    · rw [if_neg hbn] at hC
      exact (Sim.refl h).fresh b C hC hle

/-- A row of cells, as a block of ours. -/
theorem BRel.row {φ : F} {w' : World} {k : Nat} {l : List V} {l' : List Value} (h : VRels φ l l') (t : TypeId) (r : Bool) (rest : List Value) (e : w'.heap[k]? = some (.cells ⟨l' ++ rest⟩ t (0, 0))) :
    BRel φ w' ⟨k, 0, l'.length + rest.length⟩ (.cells r l.length (T.ofList .e 0 l)) := by
  refine ⟨by simp [h.length], ⟨_, _, e, by simp⟩, fun i hi => ?_⟩
  obtain ⟨v', e2, hv⟩ := h.get i l[i] (by simp [hi])
  refine ⟨v', ⟨_, _, e, ?_⟩, ?_⟩
  · have hlt : i < l'.length := by rw [← h.length]; exact hi
    simp only [Nat.zero_add, List.getElem?_toArray]
    rw [List.getElem?_append_left hlt]; exact e2
  · have : cellD (T.ofList .e 0 l) i = l[i] := by
      simp [cellD, T.get_ofList, hi]
    rw [this]; exact hv

theorem Sim.row {φ : F} {σ : H} {w w' : World} (h : Rel φ σ w) {l : List V} {l' : List Value} (hl : VRels φ l l') (t : TypeId) (rest : List Value) (e : w'.heap = w.heap.push (.cells ⟨l' ++ rest⟩ t (0, 0))) (e1 : w'.os = w.os) (e2 : w'.output = w.output) :
    Sim φ σ w (φ.put σ.next ⟨w.heap.size, 0, l'.length + rest.length⟩) (σ.new (blkOf l)) w' := by
  have e3 : w'.heap[w.heap.size]? = some (.cells ⟨l' ++ rest⟩ t (0, 0)) := by rw [e]; exact heap_push_new
  exact Sim.new h _ e e1 e2 _ _ rfl (fun ψ hψ => BRel.row (hl.mono hψ) t false rest e3) (.inl ⟨_, _, e3, by simp⟩)

theorem Sim.kill {φ : F} {σ : H} {w : World} (h : Rel φ σ w) (b : Nat) : Sim φ σ w φ (σ.kill b) w := by
  have get : ∀ k C, (σ.kill b).get k = some C → σ.get k = some C := by
    intro k C hC
    rw [H.get_kill] at hC
    split at hC
    · simp at hC
    · exact hC
  refine ⟨⟨fun k C hC => h.blk k C (get k C hC), fun k C k' C' p p' hC hC' => h.inj k C k' C' p p' (get _ _ hC) (get _ _ hC'), fun k p hp => h.dom k p hp⟩,
    F.le_refl φ, fun _ _ _ => rfl, ?_, Nat.le_refl _, rfl, rfl, Nat.le_refl _, fun _ h _ => h, fun k C hC _ => ⟨C, get k C hC, rfl⟩, fun k C hC => (Sim.refl h).fresh k C (get k C hC)⟩
  rintro k ⟨a, C, p, hC, hro, hp, rfl⟩
  exact .inl ⟨a, C, p, get _ _ hC, hro, hp, rfl⟩

/-! ### Stores -/
def storeW (w : World) (cb : Nat) : Nat → List Value → World
  | _, [] => w
  | i, v :: vs => storeW (w.setCell ⟨cb, i, none⟩ v) cb (i + 1) vs

theorem setCell_heap {w : World} {cb i : Nat} {v : Value} {cs : Array Value} {t : TypeId} (h : w.heap[cb]? = some (.cells cs t (0, 0))) :
    (w.setCell ⟨cb, i, none⟩ v).heap[cb]? = some (.cells (cs.setIfInBounds i v) t (0, 0)) := by
  simp [World.setCell, Array.getElem?_modify, h]
theorem setCell_other {w : World} {cb i k : Nat} {v : Value} (h : cb ≠ k) : (w.setCell ⟨cb, i, none⟩ v).heap[k]? = w.heap[k]? := by
  simp [World.setCell, Array.getElem?_modify, h]
theorem setCell_size {w : World} {a : Addr} {v : Value} : (w.setCell a v).heap.size = w.heap.size := by simp [World.setCell]

theorem storeW_facts : ∀ (vs : List Value) (w : World) (cb i : Nat) (cs : Array Value) (t : TypeId), w.heap[cb]? = some (.cells cs t (0, 0)) → i + vs.length ≤ cs.size →
    (∃ cs', (storeW w cb i vs).heap[cb]? = some (.cells cs' t (0, 0)) ∧ cs'.size = cs.size ∧ ∀ j, cs'[j]? = if i ≤ j ∧ j < i + vs.length then vs[j - i]? else cs[j]?) ∧
    (∀ k, cb ≠ k → (storeW w cb i vs).heap[k]? = w.heap[k]?) ∧ (storeW w cb i vs).heap.size = w.heap.size ∧ (storeW w cb i vs).os = w.os ∧ (storeW w cb i vs).output = w.output
  | [], w, cb, i, cs, t, h, _ => ⟨⟨cs, h, rfl, fun j => by rw [if_neg (by simp)]⟩, fun _ _ => rfl, rfl, rfl, rfl⟩
  | v :: vs, w, cb, i, cs, t, h, hlt => by
    have h1 := setCell_heap (i := i) (v := v) h
    simp at hlt
    obtain ⟨⟨cs', a1, a2, a3⟩, b, c, d, e⟩ := storeW_facts vs _ cb (i + 1) _ t h1 (by simp; omega)
    refine ⟨⟨cs', a1, by rw [a2]; simp, fun j => ?_⟩, fun k hk => ?_, ?_, d, e⟩
    · rw [a3 j]
      by_cases hj : i + 1 ≤ j ∧ j < i + 1 + vs.length
      · rw [if_pos hj, if_pos (by simp; omega), show j - i = (j - (i + 1)) + 1 from by omega]; simp
      · rw [if_neg hj]
        by_cases e : i = j
        · subst e
          rw [if_pos (by simp)]
          simp [Array.getElem?_setIfInBounds]; omega
        · rw [if_neg (by simp; omega)]
          simp [e]
    · show (storeW (w.setCell ⟨cb, i, none⟩ v) cb (i + 1) vs).heap[k]? = _
      rw [b k hk, setCell_other hk]
    · show (storeW (w.setCell ⟨cb, i, none⟩ v) cb (i + 1) vs).heap.size = _
      rw [c, setCell_size]

theorem run_storeCells {P : Program} : ∀ (vs : List Value) (w : World) (cb o i : Nat) (cs : Array Value) (t : TypeId), w.heap[cb]? = some (.cells cs t (0, 0)) → o + i + vs.length ≤ cs.size → (∀ v ∈ vs, v.oneCell' = true) →
    (storeCells ⟨cb, o, none⟩ vs i).run P w = .ok () (storeW w cb (o + i) vs)
  | [], w, cb, o, i, cs, t, _, _, _ => rfl
  | v :: vs, w, cb, o, i, cs, t, h, hlt, hv => by
    simp at hlt
    have hc : w.cell? ⟨cb, o + i, none⟩ = some cs[o + i] := by simp [World.cell?, h]
    have hf : w.frozen? ⟨cb, o + i, none⟩ = false := by simp [World.frozen?, h]
    have h1 := setCell_heap (i := o + i) (v := v) h
    have ih := run_storeCells (P := P) vs _ cb o (i + 1) _ t h1 (by simp; omega) (fun u hu => hv u (by simp [hu]))
    simp only [storeCells, Sem.run_bind, add_eq]
    rw [run_store P w _ v _ (hv v (by simp)), hc]
    simp only [hf, Bool.false_eq_true, if_false, Result.andThen_ok]
    rw [ih]
    rfl

/-- A store. -/
theorem Sim.store {φ : F} {σ σ' : H} {w : World} (h : Rel φ σ w) {b o : Nat} {vs : List V} {vs' : List Value} (hs : σ.storeN b o vs = some σ') (hv : VRels φ vs vs') :
    ∃ p, φ b = some p ∧ Sim φ σ w φ σ' (storeW w p.cb (p.off + o) vs') ∧ ∀ P : Program, (storeCells ⟨p.cb, p.off + o, none⟩ vs').run P w = .ok () (storeW w p.cb (p.off + o) vs') := by
  unfold H.storeN at hs
  split at hs
  · rename_i m c hb
    split at hs
    · rename_i hc
      obtain ⟨hle, hcell⟩ := hc
      simp at hs; subst hs
      obtain ⟨p, hp, hsz, ⟨cs, t, e1, e2⟩, hcs⟩ := h.blk b _ hb
      have hlen := hv.length
      have hle' : p.off + o + vs'.length ≤ cs.size := by omega
      obtain ⟨⟨cs', a1, a2, a3⟩, ot, sz, ho, hout⟩ := storeW_facts vs' w p.cb (p.off + o) cs t e1 hle'
      have hone : ∀ v ∈ vs', v.oneCell' = true := by
        intro v' hv'
        obtain ⟨i, hi⟩ := List.getElem?_of_mem hv'
        have hlt : i < vs.length := by rw [hlen]; exact (List.getElem?_eq_some_iff.1 hi).1
        obtain ⟨u', e, r⟩ := hv.get i vs[i] (by simp [hlt])
        rw [hi] at e; simp at e; subst e
        exact r.oneCell ((List.all_eq_true.1 hcell) _ (List.getElem_mem hlt))
      refine ⟨p, hp, ?_, fun P => by simpa using run_storeCells (P := P) vs' w p.cb (p.off + o) 0 cs t e1 (by simpa using hle') hone⟩
      refine ⟨⟨?_, ?_, ?_⟩, F.le_refl φ, ?_, ?_, by rw [sz]; exact Nat.le_refl _, ho, hout, Nat.le_refl _, fun _ h _ => h, ?_, ?_⟩
      · intro k C hC
        rw [H.get_set] at hC
        by_cases hk : b = k
        · rw [if_pos hk] at hC
          simp at hC; subst hC; subst hk
          refine ⟨p, hp, hsz, ⟨cs', t, a1, by rw [a2, e2]⟩, fun i hi => ?_⟩
          by_cases hin : o ≤ i ∧ i < o + vs.length
          · obtain ⟨v', ev, rv⟩ := hv.get (i - o) vs[i - o] (by simp)
            refine ⟨v', ⟨cs', t, a1, ?_⟩, ?_⟩
            · rw [a3, if_pos (by omega), show p.off + i - (p.off + o) = i - o from by omega]; exact ev
            · have : cellD (c.ofList o vs) i = vs[i - o] := by
                simp only [cellD, T.get_ofList, if_pos hin]
                rw [List.getElem?_eq_getElem (by omega)]; rfl
              rw [this]; exact rv
          · obtain ⟨v', ⟨cs2, t2, f1, f2⟩, rv⟩ := hcs i hi
            rw [e1] at f1; simp at f1; obtain ⟨rfl, rfl⟩ := f1
            refine ⟨v', ⟨cs', t, a1, ?_⟩, ?_⟩
            · rw [a3, if_neg (by omega)]; exact f2
            · have : cellD (c.ofList o vs) i = cellD c i := by simp only [cellD, T.get_ofList, if_neg hin]
              rw [this]; exact rv
        · rw [if_neg hk] at hC
          obtain ⟨q, hq, hr⟩ := h.blk k C hC
          refine ⟨q, hq, hr.congr (F.le_refl φ) (ot _ ?_)⟩
          intro hcb
          exact hk (h.inj b _ k C p q hb hC hp hq hcb)
      · intro k C k' C' q q' hC hC' hq hq' hcb
        have g : ∀ k C, (σ.set b (.cells false m (c.ofList o vs))).get k = some C → ∃ C0, σ.get k = some C0 := by
          intro k C hC
          rw [H.get_set] at hC
          by_cases hk : b = k
          · subst hk; exact ⟨_, hb⟩
          · rw [if_neg hk] at hC; exact ⟨_, hC⟩
        obtain ⟨_, hC⟩ := g k C hC
        obtain ⟨_, hC'⟩ := g k' C' hC'
        exact h.inj k _ k' _ q q' hC hC' hq hq' hcb
      · intro k q hq
        obtain ⟨h1, h2⟩ := h.dom k q hq
        refine ⟨h1, ?_⟩
        by_cases hcb : p.cb = q.cb
        · rcases h2 with ⟨cs2, t2, f1, f2⟩ | ⟨es, ck, f1⟩
          · rw [← hcb, e1] at f1; simp at f1; obtain ⟨rfl, rfl⟩ := f1
            exact .inl ⟨cs', t, by rw [← hcb]; exact a1, by rw [a2, f2]⟩
          · rw [← hcb, e1] at f1; simp at f1
        · exact h2.congr (ot _ hcb)
      · intro k hk hf
        refine ot k fun hcb => hf ⟨b, _, p, hb, rfl, hp, hcb⟩
      · rintro k ⟨a, C, q, hC, hro, hq, rfl⟩
        rw [H.get_set] at hC
        by_cases hk : b = a
        · subst hk
          exact .inl ⟨b, _, q, hb, rfl, hq, rfl⟩
        · rw [if_neg hk] at hC
          exact .inl ⟨a, C, q, hC, hro, hq, rfl⟩
      · intro k C hC _
        rw [H.get_set] at hC
        by_cases hk : b = k
        · subst hk
          simp at hC; subst hC
          exact ⟨_, hb, rfl⟩
        · rw [if_neg hk] at hC; exact ⟨C, hC, rfl⟩
      · intro k C hC hle
        rw [H.get_set] at hC
        by_cases hk : b = k
        · subst hk
          simp at hC; subst hC; rfl
        · rw [if_neg hk] at hC; exact (Sim.refl h).fresh k C hC hle
    · simp at hs
  · simp at hs

/-- A map that turns. -/
theorem Sim.setMap {φ : F} {σ : H} {w w' : World} (h : Rel φ σ w) {b : Nat} {es es2 : List (V × V)} (hb : σ.get b = some (.map false es)) {p : Pl} (hp : φ b = some p) {es' : Array MapEntry} {ck : Nat}
    (e : w'.heap = w.heap.setIfInBounds p.cb (.map es' ck)) (e1 : w'.os = w.os) (e2 : w'.output = w.output) (hr : ERel φ es2 es'.toList) : Sim φ σ w φ (σ.set b (.map false es2)) w' := by
  obtain ⟨p', hp', hoff, es0, ck0, h0, _⟩ := h.blk b _ hb
  rw [hp] at hp'; simp at hp'; subst hp'
  have hlt := lt_of_heap h0
  have a1 : w'.heap[p.cb]? = some (.map es' ck) := by rw [e]; simp [hlt]
  have ot : ∀ k, p.cb ≠ k → w'.heap[k]? = w.heap[k]? := fun k hk => by rw [e]; simp [hk]
  refine ⟨⟨?_, ?_, ?_⟩, F.le_refl φ, ?_, ?_, by rw [e]; simp, e1, e2, Nat.le_refl _, fun _ h _ => h, ?_, ?_⟩
  · intro k C hC
    rw [H.get_set] at hC
    by_cases hk : b = k
    · rw [if_pos hk] at hC
      simp at hC; subst hC; subst hk
      exact ⟨p, hp, hoff, es', ck, a1, hr⟩
    · rw [if_neg hk] at hC
      obtain ⟨q, hq, hr⟩ := h.blk k C hC
      exact ⟨q, hq, hr.congr (F.le_refl φ) (ot _ fun hcb => hk (h.inj b _ k C p q hb hC hp hq hcb))⟩
  · intro k C k' C' q q' hC hC' hq hq' hcb
    have g : ∀ k C, (σ.set b (.map false es2)).get k = some C → ∃ C0, σ.get k = some C0 := by
      intro k C hC
      rw [H.get_set] at hC
      by_cases hk : b = k
      · subst hk; exact ⟨_, hb⟩
      · rw [if_neg hk] at hC; exact ⟨_, hC⟩
    obtain ⟨_, hC⟩ := g k C hC
    obtain ⟨_, hC'⟩ := g k' C' hC'
    exact h.inj k _ k' _ q q' hC hC' hq hq' hcb
  · intro k q hq
    obtain ⟨h1, h2⟩ := h.dom k q hq
    refine ⟨h1, ?_⟩
    by_cases hcb : p.cb = q.cb
    · exact .inr ⟨es', ck, by rw [← hcb]; exact a1⟩
    · exact h2.congr (ot _ hcb)
  · intro k hk hf
    exact ot k fun hcb => hf ⟨b, _, p, hb, rfl, hp, hcb⟩
  · rintro k ⟨a, C, q, hC, hro, hq, rfl⟩
    rw [H.get_set] at hC
    by_cases hk : b = a
    · subst hk
      exact .inl ⟨b, _, q, hb, rfl, hq, rfl⟩
    · rw [if_neg hk] at hC
      exact .inl ⟨a, C, q, hC, hro, hq, rfl⟩
  · intro k C hC _
    rw [H.get_set] at hC
    by_cases hk : b = k
    · subst hk
      simp at hC; subst hC
      exact ⟨_, hb, rfl⟩
    · rw [if_neg hk] at hC; exact ⟨C, hC, rfl⟩
  · intro k C hC hle
    rw [H.get_set] at hC
    by_cases hk : b = k
    · subst hk
      simp at hC; subst hC; rfl
    · rw [if_neg hk] at hC; exact (Sim.refl h).fresh k C hC hle

/-! ### Loads -/
theorem loadV_sound {φ : F} {σ : H} {w : World} (h : Rel φ σ w) {P : Program} {t : TypeId} {n : Nat} {g : Bool} (hn : sizeOfT P t = some n) (hg : aggT P t = some g) {a v : V} {a' : Value} (ha : VRel φ a a') (hl : loadV σ n g a = some v) :
    ∃ v' p, a' = .pointer (some p) ∧ (loadVar t p).run P w = .ok v' w ∧ VRel φ v v' := by
  unfold loadV at hl
  split at hl
  · rename_i b o
    obtain ⟨p, hp, rfl⟩ := ha.ptr_inv
    split at hl
    · rename_i cs hcs
      obtain ⟨hlen, q, hq, hle, l', hl', hc⟩ := h.loadN hcs
      rw [hp] at hq; simp at hq; subst hq
      have hln := hl'.length
      split at hl
      · rename_i hgt
        subst hgt
        simp at hl; subst hl
        refine ⟨.agg ⟨l'⟩, _, rfl, ?_, .agg _ _ hl'⟩
        have := run_loadCells_list (P := P) (w := w) ⟨p.cb, p.off + o, none⟩ l' (fun j v hj => by rw [add_eq]; exact (hc j v hj).cell)
        rw [← hln, hlen] at this
        simp [loadVar, run_aggT hg, run_sizeOfT hn, this]
      · rename_i hgf
        have hgf : g = false := by simpa using hgf
        subst hgf
        obtain ⟨v', e, r⟩ := hl'.get 0 v hl
        have := (hc 0 v' e).cell
        refine ⟨v', _, rfl, ?_, r⟩
        simp at this
        simp [loadVar, run_aggT hg, this]
    · simp at hl
  · simp at hl

end Go.Abs
