/- PART of the proof of CallsKnown: append, copy, clear; calls; every operation. No condition. -/
import Derived.Test.YtecebpjfidpchaaGreatU10
/-! append, copy, clear; calls; every operation. -/
namespace Go.Abs

section
variable {P : Program} {gl : List Nat} {φ : F} {ρ : Opd → V} {ρ' : Operand → Value} {σ : H} {w : World}

theorem run_lenOf {b o len cap z : Nat} {x' : Value} (hx : VRel φ (.slice b o len cap z) x') (w : World) : (Builtin.lenOf x').run P w = .ok len w := by
  rcases hx.slice_inv with ⟨p, cap', _, _, _, _, rfl⟩ | ⟨rfl, rfl, a, rfl⟩ <;> simp [Builtin.lenOf]

/-- What is appended, or copied from. -/
theorem run_source (h : Rel φ σ w) {z : Nat} {x : V} {x' : Value} (hx : VRel φ x x') {n : Nat} {new : List V}
    (hs : srcV σ z x = some (n, new)) :
    (Builtin.lenOf x').run P w = .ok n w ∧ ∃ new', (∀ w' : World, w'.heap = w.heap → (Builtin.firstCells z n x').run P w' = .ok ⟨new'⟩ w') ∧ VRels φ new new' ∧ new.length = n * z := by
  unfold srcV at hs
  split at hs
  · simp at hs
    obtain ⟨rfl, rfl⟩ := hs
    rw [hx.snil_inv]
    exact ⟨by simp [Builtin.lenOf], [], fun w' _ => by simp [Builtin.firstCells], .nil, by simp⟩
  · rename_i b o len cap z'
    split at hs
    · rename_i hz
      subst hz
      obtain ⟨l, hl, e⟩ := map_some' hs
      simp at e
      obtain ⟨rfl, rfl⟩ := e
      obtain ⟨l', h1, h2⟩ := run_firstCells (P := P) h hx (Nat.le_refl _) hl
      exact ⟨run_lenOf hx w, l', h1, h2, (h.loadN hl).1⟩
    · simp at hs
  · simp at hs

theorem run_choose_cap (need old : Nat) (e : TypeId) (w : World) : ∃ c, need ≤ c ∧ (choose (.appendCap need old e)).run P w = .ok c { w with drawn := w.drawn + 1 } :=
  ⟨(Question.appendCap need old e).cut (w.tape w.drawn (.appendCap need old e)), by simp [Question.cut], by simp [Question.forced]⟩

theorem cells_append (a b c : List Value) : ((⟨a⟩ : Array Value) ++ (⟨b⟩ : Array Value) ++ (⟨c⟩ : Array Value)) = ⟨(a ++ b) ++ c⟩ := by
  apply Array.toList_inj.1; simp

/-- An append that does not fit, as the program does it. -/
theorem run_append_grows {o : Oper} {t t2 e e2 : TypeId} {s x : Operand} {ts : Array TypeId} (ho : o.op = .call ⟨.builtin .append, #[s, x], ts⟩) (hts : ts[0]? = some t) (hts2 : ts[1]? = some t2)
    (ht : P.underlying t = some (.slice e)) (ht2 : P.underlying t2 = some (.slice e2)) {i : TypeInfo} (hi : P.info? e = some i) {zv : Value} (hz : i.zero = some zv) (hzs : zv.cells.size = i.size)
    {base : Option Addr} {len cap n : Nat} (es : ρ' s = .slice base len cap) (hlen : (Builtin.lenOf (ρ' x)).run P w = .ok n w) {old new : List Value}
    (hold : ∀ w' : World, w'.heap = w.heap → (Builtin.firstCells i.size len (ρ' s)).run P w' = .ok ⟨old⟩ w') (hnew : ∀ w' : World, w'.heap = w.heap → (Builtin.firstCells i.size n (ρ' x)).run P w' = .ok ⟨new⟩ w')
    (hno : cap < len + n) (hb1 : len + n ≤ 1048576) (hb2 : i.bytes ≤ 1024) :
    ∃ (c : Nat) (rest : List Value), len + n ≤ c ∧ rest.length = (c - (len + n)) * i.size ∧
      (execOp ρ' o).run P w = .ok (.value (.slice (some ⟨w.heap.size, 0, none⟩) (len + n) c)) { w with drawn := w.drawn + 1, heap := w.heap.push (.cells ⟨(old ++ new) ++ rest⟩ e (0, 0)) } := by
  have hsz : ∀ w, (sizeOf e).run P w = .ok i.size w := fun w => by simp [sizeOf, typeInfo, hi]
  have hti : ∀ w, (typeInfo e).run P w = .ok i w := fun w => by simp [typeInfo, hi]
  have hzv : ∀ w, (zeroValue e).run P w = .ok zv w := fun w => by simp [zeroValue, typeInfo, hi, hz]
  have hnb := next_bound hno hb1 hb2
  have e48 : (2 : Nat) ^ 48 = 281474976710656 := by decide
  rw [e48] at hnb
  have hnc : ¬ (len + n ≤ cap) := by omega
  have hnb' : ¬ (281474976710656 < Builtin.nextslicecap (len + n) cap * i.bytes) := by omega
  have hbig : ¬ ((9223372036854775807 : Int) < (len : Int) + (n : Int)) := by omega
  have hfo : (Question.appendCap (len + n) cap e).forced = false := rfl
  have hcut : len + n ≤ (Question.appendCap (len + n) cap e).cut (w.tape w.drawn (.appendCap (len + n) cap e)) := by simp [Question.cut]
  generalize hc : (Question.appendCap (len + n) cap e).cut (w.tape w.drawn (.appendCap (len + n) cap e)) = c at hcut
  have ho1 := hold w.drew rfl
  have hn1 := hnew w.drew rfl
  rw [es] at ho1
  refine ⟨c, (Builtin.zeroCells zv.cells (c - (len + n))).toList, hcut, by simp [Builtin.zeroCells, hzs], ?_⟩
  have happ : (Builtin.append_ ts o.type #[ρ' s, ρ' x]).run P w = .ok (.slice (some ⟨w.heap.size, 0, none⟩) (len + n) c) { w with drawn := w.drawn + 1, heap := w.heap.push (.cells ⟨(old ++ new) ++ (Builtin.zeroCells zv.cells (c - (len + n))).toList⟩ e (0, 0)) } := by
    have ecells : (⟨old⟩ : Array Value) ++ ((⟨new⟩ : Array Value) ++ Builtin.zeroCells zv.cells (c - (len + n))) = ⟨(old ++ new) ++ (Builtin.zeroCells zv.cells (c - (len + n))).toList⟩ := by
      apply Array.toList_inj.1; simp
    simp only [Builtin.append_, List.getElem?_toArray, List.getElem?_cons_zero, List.getElem?_cons_succ, hts, hts2, es]
    simp [run_underlying ht, run_underlying ht2, hsz, hlen, hnc, hti, hbig, hnb', hfo, hc, ho1, hn1, hzv, newRow, -List.append_toArray]
    rw [ecells, List.append_assoc]
    rfl
  simp [execOp, ho, resolve, invoke, builtin, happ]

/-- An append that fits, as the program does it. -/
theorem run_append_fits {o : Oper} {t t2 e e2 : TypeId} {s x : Operand} {ts : Array TypeId} (ho : o.op = .call ⟨.builtin .append, #[s, x], ts⟩) (hts : ts[0]? = some t) (hts2 : ts[1]? = some t2)
    (ht : P.underlying t = some (.slice e)) (ht2 : P.underlying t2 = some (.slice e2)) {i : TypeInfo} (hi : P.info? e = some i)
    {base : Option Addr} {len cap n : Nat} (es : ρ' s = .slice base len cap) (hlen : (Builtin.lenOf (ρ' x)).run P w = .ok n w) {new : List Value}
    (hnew : (Builtin.firstCells i.size n (ρ' x)).run P w = .ok ⟨new⟩ w) (hyes : len + n ≤ cap) {w' : World}
    (hst : ∀ a, base = some a → (storeCells (a.add (len * i.size)) new).run P w = .ok () w') (hb : base = none → w' = w) :
    (execOp ρ' o).run P w = .ok (.value (.slice base (len + n) cap)) w' := by
  have hsz : ∀ w, (sizeOf e).run P w = .ok i.size w := fun w => by simp [sizeOf, typeInfo, hi]
  have happ : (Builtin.append_ ts o.type #[ρ' s, ρ' x]).run P w = .ok (.slice base (len + n) cap) w' := by
    simp only [Builtin.append_, List.getElem?_toArray, List.getElem?_cons_zero, List.getElem?_cons_succ, hts, hts2, es]
    cases base with
    | none =>
      have := hb rfl
      subst this
      simp [run_underlying ht, run_underlying ht2, hsz, hlen, hyes, hnew]
    | some a =>
      have := hst a rfl
      simp [run_underlying ht, run_underlying ht2, hsz, hlen, hyes, hnew, this]
  simp [execOp, ho, resolve, invoke, builtin, happ]

/-- An append in place: the new block of ours lies where the old one lay. -/
theorem Sim.extend (h : Rel φ σ w) {b off k m : Nat} {c : T V} (hb : σ.get b = some (.cells false m c)) {p : Pl} (hp : φ b = some p) {old new : List V} (hold : σ.loadN b off k = some old)
    {new' : List Value} (hn : VRels φ new new') (hall : new.all V.cell = true) (hroom : p.off + off + k + new'.length ≤ p.size) :
    Sim φ σ w (φ.put σ.next ⟨p.cb, p.off + off, p.size⟩) ((σ.kill b).new (blkOf (old ++ new))) (storeW w p.cb (p.off + off + k) new') ∧
    ∀ P : Program, (storeCells ⟨p.cb, p.off + off + k, none⟩ new').run P w = .ok () (storeW w p.cb (p.off + off + k) new') := by
  obtain ⟨p', hp', hsz, ⟨cs, t, e1, e2⟩, _⟩ := h.blk b _ hb
  rw [hp] at hp'; simp at hp'; subst hp'
  obtain ⟨hlen, q, hq, hle, old', hor, hoc⟩ := h.loadN hold
  rw [hp] at hq; simp at hq; subst hq
  have hnl := hn.length
  have hol := hor.length
  have hfit : p.off + off + k + new'.length ≤ cs.size := by omega
  obtain ⟨⟨cs', a1, a2, a3⟩, ot, sz, hos, hout⟩ := storeW_facts new' w p.cb (p.off + off + k) cs t e1 hfit
  have hone : ∀ v ∈ new', v.oneCell' = true := by
    intro v' hv'
    obtain ⟨i, hi⟩ := List.getElem?_of_mem hv'
    have hlt : i < new.length := by rw [hnl]; exact (List.getElem?_eq_some_iff.1 hi).1
    obtain ⟨u', e, r⟩ := hn.get i new[i] (by simp [hlt])
    rw [hi] at e; simp at e; subst e
    exact r.oneCell ((List.all_eq_true.1 hall) _ (List.getElem_mem hlt))
  have nx : ∀ b B, σ.get b = some B → b ≠ σ.next := fun b B hb' => by
    obtain ⟨p, hp, _⟩ := h.blk b B hb'
    have := (h.dom b p hp).1
    omega
  have hle2 : φ.le (φ.put σ.next ⟨p.cb, p.off + off, p.size⟩) := by
    intro b p hp
    have := (h.dom b p hp).1
    simp only [F.put]
    rw [if_neg (by omega)]; exact hp
  have get : ∀ x B, ((σ.kill b).new (blkOf (old ++ new))).get x = some B → (x = σ.next ∧ B = blkOf (old ++ new)) ∨ (x ≠ σ.next ∧ x ≠ b ∧ σ.get x = some B) := by
    intro x B hx
    rw [H.get_new] at hx
    change (if σ.next = x then _ else _) = _ at hx
    by_cases hxn : σ.next = x
    · rw [if_pos hxn] at hx; simp at hx
      exact .inl ⟨hxn.symm, hx.symm⟩
    · rw [if_neg hxn, H.get_kill] at hx
      by_cases hxb : b = x
      · rw [if_pos hxb] at hx; simp at hx
      · rw [if_neg hxb] at hx
        exact .inr ⟨fun e => hxn e.symm, fun e => hxb e.symm, hx⟩
  have far : ∀ x B q, σ.get x = some B → x ≠ b → φ x = some q → p.cb ≠ q.cb := fun x B q hx hxb hq hcb => hxb (h.inj _ _ _ _ _ _ hb hx hp hq hcb).symm
  refine ⟨⟨⟨?_, ?_, ?_⟩, hle2, ?_, ?_, by rw [sz]; exact Nat.le_refl _, hos, hout, ?_, ?_, ?_, ?_⟩, fun P => by simpa using run_storeCells (P := P) new' w p.cb (p.off + off + k) 0 cs t e1 (by simpa using hfit) hone⟩
  · intro x B hx
    rcases get x B hx with ⟨rfl, rfl⟩ | ⟨hxn, hxb, hx⟩
    · refine ⟨⟨p.cb, p.off + off, p.size⟩, by simp [F.put], by simp; omega, ⟨cs', t, a1, by rw [a2, e2]⟩, fun i hi => ?_⟩
      simp at hi
      have hcell : cellD (T.ofList .e 0 (old ++ new)) i = (old ++ new)[i]'(by simp; exact hi) := by
        simp [cellD, T.get_ofList, hi]
      rw [hcell]
      by_cases hik : i < k
      · obtain ⟨v', ev, rv⟩ := hor.get i old[i] (by simp)
        obtain ⟨cs2, t2, f1, f2⟩ := hoc i v' ev
        rw [e1] at f1; simp at f1; obtain ⟨rfl, rfl⟩ := f1
        refine ⟨v', ⟨cs', t, a1, ?_⟩, ?_⟩
        · show cs'[p.off + off + i]? = some v'
          rw [a3, if_neg (by omega)]; exact f2
        · rw [List.getElem_append_left (by omega)]; exact rv.mono hle2
      · obtain ⟨v', ev, rv⟩ := hn.get (i - k) (new[i - k]'(by omega)) (by simp)
        refine ⟨v', ⟨cs', t, a1, ?_⟩, ?_⟩
        · show cs'[p.off + off + i]? = some v'
          rw [a3, if_pos (by omega), show p.off + off + i - (p.off + off + k) = i - k from by omega]; exact ev
        · rw [List.getElem_append_right (by omega)]
          simp only [hlen]
          exact rv.mono hle2
    · obtain ⟨q, hq, hr⟩ := h.blk x B hx
      exact ⟨q, hle2 _ _ hq, hr.congr hle2 (ot _ (far x B q hx hxb hq))⟩
  · intro x B y C q r hx hy hq hr hcb
    simp only [F.put] at hq hr
    rcases get x B hx with ⟨rfl, rfl⟩ | ⟨hxn, hxb, hx⟩ <;> rcases get y C hy with ⟨rfl, rfl⟩ | ⟨hyn, hyb, hy⟩
    · rfl
    · rw [if_pos rfl] at hq; rw [if_neg hyn] at hr
      simp at hq; subst hq
      exact absurd hcb (far y C r hy hyb hr)
    · rw [if_neg hxn] at hq; rw [if_pos rfl] at hr
      simp at hr; subst hr
      exact absurd hcb.symm (far x B q hx hxb hq)
    · rw [if_neg hxn] at hq; rw [if_neg hyn] at hr
      exact h.inj _ _ _ _ _ _ hx hy hq hr hcb
  · intro x q hq
    have hsized : ∀ r : Pl, Sized w r → Sized (storeW w p.cb (p.off + off + k) new') r := by
      intro r hr
      by_cases hcb : p.cb = r.cb
      · rcases hr with ⟨cs2, t2, f1, f2⟩ | ⟨es, ck, f1⟩
        · rw [← hcb, e1] at f1; simp at f1; obtain ⟨rfl, rfl⟩ := f1
          exact .inl ⟨cs', t, by rw [← hcb]; exact a1, by rw [a2, f2]⟩
        · rw [← hcb, e1] at f1; simp at f1
      · exact hr.congr (ot _ hcb)
    simp only [F.put] at hq
    split at hq
    · rename_i hxn
      simp at hq; subst hq; subst hxn
      exact ⟨by simp [H.new, H.kill], .inl ⟨cs', t, a1, by rw [a2, e2]⟩⟩
    · obtain ⟨h1, h2⟩ := h.dom x q hq
      exact ⟨by simp [H.new, H.kill]; omega, hsized q h2⟩
  · intro x hx hf
    exact ot x fun hcb => hf ⟨b, _, p, hb, rfl, hp, hcb⟩
  · rintro x ⟨a, B, q, hB, hro, hq, rfl⟩
    simp only [F.put] at hq
    rcases get a B hB with ⟨rfl, rfl⟩ | ⟨han, hab, hB⟩
    · rw [if_pos rfl] at hq
      simp at hq; subst hq
      exact .inl ⟨b, _, p, hb, rfl, hp, rfl⟩
    · rw [if_neg han] at hq
      exact .inl ⟨a, B, q, hB, hro, hq, rfl⟩
  · simp [H.new, H.kill]
  · intro x hx hlt
    simp only [F.put]
    rw [if_neg (by omega)]; exact hx
  · intro x B hB hlt
    rcases get x B hB with ⟨rfl, rfl⟩ | ⟨_, _, hB⟩
    · omega
    · exact ⟨B, hB, rfl⟩
  · intro x B hB hle
    rcases get x B hB with ⟨rfl, rfl⟩ | ⟨_, _, hB⟩
    · rfl
    · exact (Sim.refl h).fresh x B hB hle

theorem heavy_append (h : Rel φ σ w) (he : Env φ gl ρ ρ') {o : Oper} {t t2 e e2 : TypeId} {s x : Operand} {ts : Array TypeId} (ho : o.op = .call ⟨.builtin .append, #[s, x], ts⟩) (hts : ts[0]? = some t) (hts2 : ts[1]? = some t2)
    (ht : P.underlying t = some (.slice e)) (ht2 : P.underlying t2 = some (.slice e2)) {i : TypeInfo} (hi : P.info? e = some i) {zv : Value} (hz : i.zero = some zv) (hzs : zv.cells.size = i.size)
    {s1 x1 : Opd} (hsx : compO gl s = some s1) (hx : compO gl x = some x1) {v : V} {σ' : H} (hs : appendV σ i.size i.bytes (ρ s1) (ρ x1) = some (v, σ')) : Heavy P φ σ w ρ' o v σ' := by
  have hvs := he _ _ hsx
  have hvx := he _ _ hx
  unfold appendV at hs
  split at hs
  · simp at hs
  · rename_i n new hsrc
    obtain ⟨hlen, new', hnew, hnr, hnl⟩ := run_source (P := P) h hvx hsrc
    have hnl' := hnr.length
    split at hs
    · rename_i e1
      rw [e1] at hvs
      have es := hvs.snil_inv
      split at hs
      · rename_i hn0
        subst hn0
        simp at hs
        obtain ⟨rfl, rfl⟩ := hs
        have := run_append_fits (P := P) (w := w) (w' := w) ho hts hts2 ht ht2 hi es hlen (hnew w rfl) (Nat.le_refl _) (fun a ha => by simp at ha) (fun _ => rfl)
        exact ⟨_, w, φ, .inl this, Sim.refl h, .snil⟩
      · rename_i hn0
        split at hs
        · rename_i hc
          obtain ⟨hb1, hb2⟩ := hc
          simp at hs
          obtain ⟨rfl, rfl⟩ := hs
          obtain ⟨c, rest, hc1, hc2, hrun⟩ := run_append_grows (P := P) (w := w) (old := []) (new := new') ho hts hts2 ht ht2 hi hz hzs es hlen (fun w' _ => by rw [es]; simp [Builtin.firstCells]) hnew (by omega) (by omega) hb2
          refine ⟨_, _, _, .inl hrun, Sim.row h hnr e rest (by simp) rfl rfl, ?_⟩
          have := VRel.slice (φ := φ.put σ.next ⟨w.heap.size, 0, new'.length + rest.length⟩) σ.next 0 n n i.size c _ (by simp [F.put]; rfl) (Nat.le_refl _) (by omega) (by
            simp
            have e1 : (c - (0 + n)) * i.size = c * i.size - (0 + n) * i.size := Nat.sub_mul _ _ _
            have e2 : (0 + n) * i.size ≤ c * i.size := Nat.mul_le_mul_right _ hc1
            simp at e1 e2 hc2
            omega)
          simpa using this
        · simp at hs
    · rename_i b off len cap z' e1
      split at hs
      · simp at hs
      · rename_i hz'
        have hz' : z' = i.size := by simpa using hz'
        subst hz'
        rw [e1] at hvs
        split at hs
        · rename_i hn0
          subst hn0
          simp at hs
          obtain ⟨rfl, rfl⟩ := hs
          have hnil : new' = [] := by
            have : new'.length = 0 := by rw [← hnl', hnl]; simp
            exact List.eq_nil_of_length_eq_zero this
          subst hnil
          rcases hvs.slice_inv with ⟨p, cap', hp, c1, c2, c3, es⟩ | ⟨rfl, rfl, a, es⟩
          · have := run_append_fits (P := P) (w := w) (w' := w) ho hts hts2 ht ht2 hi es hlen (hnew w rfl) (by omega) (fun a ha => rfl) (fun _ => rfl)
            exact ⟨_, w, φ, .inl this, Sim.refl h, es ▸ hvs⟩
          · have := run_append_fits (P := P) (w := w) (w' := w) ho hts hts2 ht ht2 hi es hlen (hnew w rfl) (by omega) (fun a ha => rfl) (fun _ => rfl)
            exact ⟨_, w, φ, .inl this, Sim.refl h, es ▸ hvs⟩
        · rename_i hn0
          split at hs
          · rename_i hfit
            obtain ⟨σ2, hst, hh⟩ := map_some' hs
            simp at hh
            obtain ⟨rfl, rfl⟩ := hh
            rcases hvs.slice_inv with ⟨p, cap', hp, c1, c2, c3, es⟩ | ⟨rfl, rfl, a, es⟩
            · obtain ⟨p2, hp2, hsim, hrun⟩ := Sim.store h hst hnr
              rw [hp] at hp2; simp at hp2; subst hp2
              have := run_append_fits (P := P) (w := w) (w' := storeW w p.cb (p.off + (off + len * i.size)) new') ho hts hts2 ht ht2 hi es hlen (hnew w rfl) (by omega) (fun a ha => by
                simp at ha; subst ha
                rw [add_eq, Nat.add_assoc]
                exact hrun P) (fun h => by simp at h)
              exact ⟨_, _, φ, .inl this, hsim, .slice _ _ _ _ _ _ p hp (by omega) c2 c3⟩
            · omega
          · rename_i hnofit
            split at hs
            · rename_i hcond
              obtain ⟨hb1, hb2, hall⟩ := hcond
              split at hs
              · rename_i m c old hb hold
                simp at hs
                obtain ⟨rfl, rfl⟩ := hs
                obtain ⟨old', hold', hor⟩ := run_firstCells (P := P) h hvs (Nat.le_refl _) hold
                have hor' := hor.length
                have hol := (h.loadN hold).1
                rcases hvs.slice_inv with ⟨p, cap', hp, c1, c2, c3, es⟩ | ⟨rfl, rfl, a, es⟩
                · by_cases hroom : len + n ≤ cap'
                  · -- in place: the new block of ours lies where the old one lay
                    have e3 : (len + n) * i.size = len * i.size + n * i.size := Nat.add_mul _ _ _
                    have e4 : (len + n) * i.size ≤ cap' * i.size := Nat.mul_le_mul_right _ hroom
                    obtain ⟨hsim, hrun⟩ := Sim.extend h hb hp hold hnr hall (by omega)
                    have := run_append_fits (P := P) (w := w) (w' := storeW w p.cb (p.off + off + len * i.size) new') ho hts hts2 ht ht2 hi es hlen (hnew w rfl) hroom (fun a ha => by
                      simp at ha; subst ha
                      rw [add_eq]
                      exact hrun P) (fun h => by simp at h)
                    refine ⟨_, _, _, .inl this, hsim, ?_⟩
                    have := VRel.slice (φ := φ.put σ.next ⟨p.cb, p.off + off, p.size⟩) σ.next 0 (len + n) (len + n) i.size cap' _ (by simp [F.put]; rfl) (Nat.le_refl _) hroom (by simp; omega)
                    simpa using this
                  · obtain ⟨c, rest, hc1, hc2, hrun⟩ := run_append_grows (P := P) (w := w) ho hts hts2 ht ht2 hi hz hzs es hlen hold' hnew (by omega) hb1 hb2
                    have k := Sim.kill h b
                    refine ⟨_, _, _, .inl hrun, k.trans (Sim.row k.rel (hor.append hnr) e rest (by simp) rfl rfl), ?_⟩
                    have := VRel.slice (φ := φ.put σ.next ⟨w.heap.size, 0, (old' ++ new').length + rest.length⟩) σ.next 0 (len + n) (len + n) i.size c _ (by simp [F.put]; rfl) (Nat.le_refl _) (by omega) (by
                      simp
                      have e1 : (c - (len + n)) * i.size = c * i.size - (len + n) * i.size := Nat.sub_mul _ _ _
                      have e2 : (len + n) * i.size ≤ c * i.size := Nat.mul_le_mul_right _ hc1
                      have e3 : (len + n) * i.size = len * i.size + n * i.size := Nat.add_mul _ _ _
                      omega)
                    change VRel (φ.put σ.next _) _ _
                    simpa using this
                · obtain ⟨c, rest, hc1, hc2, hrun⟩ := run_append_grows (P := P) (w := w) ho hts hts2 ht ht2 hi hz hzs es hlen hold' hnew (by omega) hb1 hb2
                  have k := Sim.kill h b
                  refine ⟨_, _, _, .inl hrun, k.trans (Sim.row k.rel (hor.append hnr) e rest (by simp) rfl rfl), ?_⟩
                  have := VRel.slice (φ := φ.put σ.next ⟨w.heap.size, 0, (old' ++ new').length + rest.length⟩) σ.next 0 (0 + n) (0 + n) i.size c _ (by simp [F.put]; rfl) (Nat.le_refl _) (by omega) (by
                    simp
                    have e1 : (c - (0 + n)) * i.size = c * i.size - (0 + n) * i.size := Nat.sub_mul _ _ _
                    have e2 : (0 + n) * i.size ≤ c * i.size := Nat.mul_le_mul_right _ hc1
                    have e3 : (0 + n) * i.size = n * i.size := by simp
                    simp at hol
                    omega)
                  change VRel (φ.put σ.next _) _ _
                  simpa using this
              · simp at hs
            · simp at hs
    · simp at hs

end
end Go.Abs
