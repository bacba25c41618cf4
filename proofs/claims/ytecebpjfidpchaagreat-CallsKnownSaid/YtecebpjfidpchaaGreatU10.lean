/- PART of the proof of CallsKnown: Operations that write agree with the program's. No condition. -/
import Derived.Test.YtecebpjfidpchaaGreatU9
/-! Operations that write agree with the program's. -/
namespace Go.Abs

section
variable {P : Program} {gl : List Nat} {φ : F} {ρ : Opd → V} {ρ' : Operand → Value} {σ : H} {w : World}

theorem arr1 {α : Type} {a : Array α} {x : α} (h : a.toList = [x]) : a = #[x] := by apply Array.toList_inj.1; simpa using h
theorem arr2 {α : Type} {a : Array α} {x y : α} (h : a.toList = [x, y]) : a = #[x, y] := by apply Array.toList_inj.1; simpa using h

/-- What is to be shown. -/
def Heavy (P : Program) (φ : F) (σ : H) (w : World) (ρ' : Operand → Value) (o : Oper) (v : V) (σ' : H) : Prop :=
  ∃ v' w' φ', Ran P ρ' o w v' w' ∧ Sim φ σ w φ' σ' w' ∧ VRel φ' v v'

theorem heavy_load (h : Rel φ σ w) (he : Env φ gl ρ ρ') {o : Oper} {t : TypeId} {a : Operand} (ho : o.op = .load t a) {n : Nat} {g : Bool} (hn : sizeOfT P t = some n) (hg : aggT P t = some g) {a1 : Opd} (ha : compO gl a = some a1)
    {v : V} (hl : loadV σ n g (ρ a1) = some v) : Heavy P φ σ w ρ' o v σ := by
  obtain ⟨v', p, e, hr, hv⟩ := loadV_sound h hn hg (he _ _ ha) hl
  exact ⟨v', w, φ, .inl (by simp [execOp, ho, e, Instr.loadAt, Instr.sureAddr, hr]), Sim.refl h, hv⟩

theorem heavy_store (h : Rel φ σ w) (he : Env φ gl ρ ρ') {o : Oper} {t : TypeId} {a x : Operand} (ho : o.op = .store t a x) {n : Nat} (hn : sizeOfT P t = some n) {a1 x1 : Opd} (ha : compO gl a = some a1) (hx : compO gl x = some x1)
    {b off : Nat} (hp : ρ a1 = .ptr b off) (hlen : (ρ x1).cells.length = n) {σ' : H} (hs : σ.storeN b off (ρ x1).cells = some σ') : Heavy P φ σ w ρ' o .undef σ' := by
  have hva := he _ _ ha
  rw [hp] at hva
  have hk : (ρ x1).known = true := by
    unfold H.storeN at hs
    split at hs
    · split at hs
      · rename_i hc; exact V.cells_known hc.2
      · simp at hs
    · simp at hs
  have hvx := (he _ _ hx).cells hk
  obtain ⟨p, hp2, hsim, hrun⟩ := Sim.store h hs hvx
  obtain ⟨p', hp', e⟩ := hva.ptr_inv
  rw [hp2] at hp'; simp at hp'; subst hp'
  have hl2 : (ρ' x).cells.size = n := by
    have := hvx.length
    simp at this
    rw [← this, hlen]
  refine ⟨Go.undef, _, φ, .inr ⟨?_, rfl⟩, hsim, .undef⟩
  have := hrun P
  simp only [execOp, ho]
  simp [e, Instr.storeAt, Instr.sureAddr, storeVar, run_sizeOfT hn, hl2, this]

theorem heavy_eqp (h : Rel φ σ w) (he : Env φ gl ρ ρ') {o : Oper} {op : BinOp} {t yt : TypeId} {x y : Operand} (ho : o.op = .binOp op t x y yt) (hop : op = .eql ∨ op = .neq) (ht : isPtrT P t = true) {x1 y1 : Opd} (hx : compO gl x = some x1) (hy : compO gl y = some y1)
    {r : Bool} (hr : ptrEq σ (ρ x1) (ρ y1) = some r) : Heavy P φ σ w ρ' o (.bool (if decide (op = .neq) then !r else r)) σ := by
  unfold isPtrT at ht
  split at ht
  · rename_i e hu
    split at ht
    · rename_i n hn
      have hk : EqOk P t .ptr := ⟨e, n, hu, hn⟩
      have hvx := he _ _ hx
      have hvy := he _ _ hy
      have fin : (eqGuard op t x y (ρ' x) (ρ' y)).run P w = .ok () w ∧ (binOp op t (ρ' x) (ρ' y)).run P w = .ok (.bool (if decide (op = .neq) then !r else r)) w := by
        unfold ptrEq at hr
        split at hr
        · rename_i b o1 b2 o2 e1 e2
          split at hr
          · rename_i hb
            subst hb
            refine eq_sound hop x y hk (fun h => by cases h) hvx hvy (r := r) ?_ w
            rw [e1, e2]
            simpa [eqV] using hr
          · rename_i hb
            rw [e1] at hvx; rw [e2] at hvy
            obtain ⟨p, hp, f1⟩ := hvx.ptr_inv
            obtain ⟨p2, hp2, f2⟩ := hvy.ptr_inv
            split at hr
            · rename_i r1 m1 c1 r2 m2 c2 g1 g2
              simp at hr; subst hr
              obtain ⟨q, hq, _, ⟨cs1, t1, k1, _⟩, _⟩ := h.blk _ _ g1
              obtain ⟨q2, hq2, _, ⟨cs2, t2, k2, _⟩, _⟩ := h.blk _ _ g2
              rw [hp] at hq; simp at hq; subst hq
              rw [hp2] at hq2; simp at hq2; subst hq2
              have hne : ¬ p.cb = p2.cb := fun hcb => hb (h.inj _ _ _ _ _ _ g1 g2 hp hp2 hcb)
              have fz1 : ∀ k, w.frozen? ⟨p.cb, k, none⟩ = false := fun k => by simp [World.frozen?, k1]
              have fz2 : ∀ k, w.frozen? ⟨p2.cb, k, none⟩ = false := fun k => by simp [World.frozen?, k2]
              have sh1 : w.shape? p.cb = some (t1, cs1.size) := by simp [World.shape?, k1]
              have sh2 : w.shape? p2.cb = some (t2, cs2.size) := by simp [World.shape?, k2]
              have hsz := run_sizeOfT hn w
              have sa : (sameAddr ⟨p.cb, p.off + o1, none⟩ ⟨p2.cb, p2.off + o2, none⟩).run P w = .ok false w := by
                simp [sameAddr, hne, fz1, noView, viewAt, sh1, sh2, mayBeOne, stringish, fz2]
              have hf : ∀ d, (Op.equalIn (d + 1) t (.pointer (some ⟨p.cb, p.off + o1, none⟩)) (.pointer (some ⟨p2.cb, p2.off + o2, none⟩))).run P w = .ok false w := fun d => by
                simp [Op.equalIn, run_underlying hu, hsz, sa]
              have q : (Op.equal t (.pointer (some ⟨p.cb, p.off + o1, none⟩)) (.pointer (some ⟨p2.cb, p2.off + o2, none⟩))).run P w = .ok false w := hf 9999
              rw [f1, f2]
              refine ⟨?_, ?_⟩
              · rcases hop with rfl | rfl <;> simp [eqGuard]
              · rcases hop with rfl | rfl <;> (simp only [binOp]; simp [q])
            · simp at hr
        · exact eq_sound hop x y hk (fun h => by cases h) hvx hvy hr w
      exact ⟨_, w, φ, .inl (by simp only [execOp, ho]; simp only [Sem.run_bind, fin.1, fin.2, Result.andThen_ok, Sem.run_pure]), Sim.refl h, .bool _⟩
    · simp at ht
  · simp at ht

theorem heavy_sliceA (h : Rel φ σ w) (he : Env φ gl ρ ρ') {o : Oper} {t e : TypeId} {x : Operand} {lo' hi' : Option Operand} (ho : o.op = .slice t x lo' hi' none) {n z : Nat} (ht : P.underlying t = some (.array n e)) (hz : sizeOfT P e = some z)
    {x1 : Opd} {lo hi : Option Opd} (hx : compO gl x = some x1) (hl : compOo gl lo' = some lo) (hh : compOo gl hi' = some hi) {v : V} {σ' : H} {m : MT} (hs : step m σ ρ (.sliceA n z x1 lo hi) = some (.val v σ')) : Heavy P φ σ w ρ' o v σ' := by
  simp only [step] at hs
  split at hs
  · rename_i b o1 e1
    split at hs
    · rename_i r m1 c hv lv hb eh el
      split at hs
      · rename_i hc
        obtain ⟨h1, h2, h3, h4⟩ := hc
        simp at hs
        obtain ⟨rfl, rfl⟩ := hs
        have hva := he _ _ hx
        rw [e1] at hva
        obtain ⟨p, hp, e2⟩ := hva.ptr_inv
        obtain ⟨q, hq, hsz, _, _⟩ := h.blk _ _ hb
        rw [hp] at hq; simp at hq; subst hq
        have rb := run_sliceBounds (P := P) (isS := false) (len := n) (cap := n) he hl hh el eh h1 h2 w
        have hne : ¬ (n = lv) := by omega
        refine ⟨.slice (some ⟨p.cb, p.off + o1 + lv * z, none⟩) (hv - lv) (n - lv), w, φ, .inl ?_, Sim.refl h, ?_⟩
        · simp [execOp, ho, Instr.sliceAt, run_underlying ht, Instr.sureAddr, e2, rb, run_sizeOfT hz, hne, add_eq]
        · have := VRel.slice (φ := φ) b (o1 + lv * z) (hv - lv) (n - lv) z (n - lv) p hp (by omega) (Nat.le_refl _) (by
            have e1 : (n - lv) * z = n * z - lv * z := Nat.sub_mul _ _ _
            have e2 : lv * z ≤ n * z := Nat.mul_le_mul_right _ (by omega)
            omega)
          rwa [show p.off + (o1 + lv * z) = p.off + o1 + lv * z from by omega] at this
      · simp at hs
    · simp at hs
  · simp at hs

theorem heavy_lookup (h : Rel φ σ w) (he : Env φ gl ρ ρ') {o : Oper} {t kt e : TypeId} {x k : Operand} {ok : Bool} (ho : o.op = .lookup t x k ok) (ht : P.underlying t = some (.map kt e)) {z : V} (hz : zeroOf P e = some z) (hk : isIntT P kt = true)
    {x1 k1 : Opd} (hx : compO gl x = some x1) (hky : compO gl k = some k1) {v : V} {σ' : H} {m : MT} (hs : step m σ ρ (.lookup z ok x1 k1) = some (.val v σ')) : Heavy P φ σ w ρ' o v σ' := by
  have hvx := he _ _ hx
  have hvk := he _ _ hky
  obtain ⟨z', hz', hzr⟩ := run_zeroOf hz φ w
  simp only [step] at hs
  split at hs
  · rename_i e1
    rw [e1] at hvx
    have e2 := hvx.mnil_inv
    have hck := run_checkKey_int hk true (ρ' k) w
    have hfn : (Instr.findKey kt (ρ' k) []).run P w = .ok none w := by
      unfold isIntT at hk
      split at hk
      · rename_i kk hu
        simp [Instr.findKey, run_underlying hu, Instr.findNow]
      · simp at hk
    simp at hs
    obtain ⟨rfl, rfl⟩ := hs
    cases ok
    · exact ⟨z', w, φ, .inl (by simp [execOp, ho, Instr.lookup, run_underlying ht, e2, hck, hfn, hz']), Sim.refl h, hzr⟩
    · exact ⟨.tuple #[z', .bool false], w, φ, .inl (by simp [execOp, ho, Instr.lookup, run_underlying ht, e2, hck, hfn, hz']), Sim.refl h, .tup _ _ (.cons _ _ _ _ hzr (.cons _ _ _ _ (.bool _) .nil))⟩
  · rename_i r e1
    rw [e1] at hvx
    split at hs
    · rename_i ro es hb
      obtain ⟨p, es', ck, hp, e2, h1, h2⟩ := h.map hvx hb
      have hg := run_getObj_map (P := P) h1
      have hck := run_checkKey_int hk es'.isEmpty (ρ' k) w
      split at hs
      · rename_i v2 hf
        obtain ⟨j, n, ek, hall, hfv⟩ := findE_int hf
        rw [ek] at hvk
        have ekv := hvk.int_inv
        rw [ekv] at hck
        have hfind := run_findKey hk h2 hall w
        rw [hfv] at hfind
        obtain ⟨q, e', a1, a2, a3, a4⟩ := hfind
        simp at hs
        obtain ⟨rfl, rfl⟩ := hs
        cases ok
        · exact ⟨e'.val, w, φ, .inl (by simp [execOp, ho, Instr.lookup, run_underlying ht, e2, hg, ekv, hck, a1]), Sim.refl h, a4⟩
        · exact ⟨.tuple #[e'.val, .bool true], w, φ, .inl (by simp [execOp, ho, Instr.lookup, run_underlying ht, e2, hg, ekv, hck, a1]), Sim.refl h, .tup _ _ (.cons _ _ _ _ a4 (.cons _ _ _ _ (.bool _) .nil))⟩
      · rename_i hf
        obtain ⟨j, n, ek, hall, hfv⟩ := findE_int hf
        rw [ek] at hvk
        have ekv := hvk.int_inv
        rw [ekv] at hck
        have hfind := run_findKey hk h2 hall w
        rw [hfv] at hfind
        obtain ⟨a1, _⟩ := hfind
        simp at hs
        obtain ⟨rfl, rfl⟩ := hs
        cases ok
        · exact ⟨z', w, φ, .inl (by simp [execOp, ho, Instr.lookup, run_underlying ht, e2, hg, ekv, hck, a1, hz']), Sim.refl h, hzr⟩
        · exact ⟨.tuple #[z', .bool false], w, φ, .inl (by simp [execOp, ho, Instr.lookup, run_underlying ht, e2, hg, ekv, hck, a1, hz']), Sim.refl h, .tup _ _ (.cons _ _ _ _ hzr (.cons _ _ _ _ (.bool _) .nil))⟩
      · simp at hs
    · simp at hs
  · simp at hs

theorem heavy_update (h : Rel φ σ w) (he : Env φ gl ρ ρ') {o : Oper} {t kt e : TypeId} {x k y : Operand} (ho : o.op = .mapUpdate t x k y ∨ o.op = .insert t x k y) (ht : P.underlying t = some (.map kt e)) (hk : isIntT P kt = true)
    {x1 k1 y1 : Opd} (hx : compO gl x = some x1) (hky : compO gl k = some k1) (hy : compO gl y = some y1) {v : V} {σ' : H} {m : MT} (hs : step m σ ρ (.update x1 k1 y1) = some (.val v σ')) : Heavy P φ σ w ρ' o v σ' := by
  have hvx := he _ _ hx
  have hvk := he _ _ hky
  have hvy := he _ _ hy
  have hex : (execOp ρ' o).run P w = (do Instr.mapUpdate t (ρ' x) (ρ' k) (ρ' y); pure .skip : Sem Next).run P w := by
    rcases ho with ho | ho <;> simp [execOp, ho]
  simp only [step] at hs
  split at hs
  · rename_i r e1
    rw [e1] at hvx
    split at hs
    · rename_i es hb
      obtain ⟨p, es', ck, hp, e2, h1, h2⟩ := h.map hvx hb
      have hg := run_getObj_map (P := P) h1
      have hso := fun o => run_setObj_map (P := P) h1 o
      have hck := run_checkKey_int hk false (ρ' k) w
      split at hs
      · rename_i r0 hf
        simp at hs
        obtain ⟨rfl, rfl⟩ := hs
        obtain ⟨j, n, ek, hall, hfv⟩ := findE_int hf
        rw [ek] at hvk ⊢
        have ekv := hvk.int_inv
        rw [ekv] at hck
        have hfind := run_findKey hk h2 hall w
        cases r0 with
        | some v2 =>
          rw [hfv] at hfind
          obtain ⟨q, e', a1, a2, a3, a4⟩ := hfind
          have hkeep : ∀ w, (Instr.keyThatStays e'.key (.int j n)).run P w = .ok (.int j n) w := fun w => by rw [a3]; simp [Instr.keyThatStays, sameBits_int]
          have hq : es'[q]? = some e' := by simpa using a2
          have hes : (es'.modify q fun e => { e with key := .int j n, val := ρ' y }).toList = es'.toList.set q { key := .int j n, val := ρ' y, born := e'.born } := by
            rw [Array.toList_modify]
            apply List.ext_getElem?
            intro i
            rw [List.getElem?_modify, List.getElem?_set]
            by_cases hi : q = i
            · subst hi
              rw [if_pos rfl, a2]
              simp
              have := (List.getElem?_eq_some_iff.1 a2).1
              simpa using this
            · rw [if_neg hi]
              simp [hi]
          refine ⟨Go.undef, _, φ, .inr ⟨?_, rfl⟩, Sim.setMap (w' := { w with heap := w.heap.setIfInBounds p.cb (.map (es'.modify q fun e => { e with key := .int j n, val := ρ' y }) ck) }) h hb hp rfl rfl rfl (by rw [hes]; exact h2.set hvy a2 a3 hfv _), .undef⟩
          rw [hex]
          simp [Instr.mapUpdate, run_underlying ht, e2, hg, ekv, hck, a1, hq, hkeep, hso]
        | none =>
          rw [hfv] at hfind
          obtain ⟨a1, a2⟩ := hfind
          refine ⟨Go.undef, _, φ, .inr ⟨?_, rfl⟩, Sim.setMap (w' := { w with heap := w.heap.setIfInBounds p.cb (.map (es'.push { key := .int j n, val := ρ' y, born := ck }) (ck + 1)) }) h hb hp rfl rfl rfl (by simp only [Array.toList_push]; exact h2.push hvy a2 hfv _), .undef⟩
          rw [hex]
          simp [Instr.mapUpdate, run_underlying ht, e2, hg, ekv, hck, a1, hso]
      · simp at hs
    · simp at hs
  · simp at hs

theorem heavy_delete (h : Rel φ σ w) (he : Env φ gl ρ ρ') {o : Oper} {t kt e : TypeId} {x k : Operand} {ts : Array TypeId} (ho : o.op = .call ⟨.builtin .delete, #[x, k], ts⟩) (hts : ts[0]? = some t) (ht : P.underlying t = some (.map kt e)) (hk : isIntT P kt = true)
    {x1 k1 : Opd} (hx : compO gl x = some x1) (hky : compO gl k = some k1) {v : V} {σ' : H} {m : MT} (hs : step m σ ρ (.delete x1 k1) = some (.val v σ')) : Heavy P φ σ w ρ' o v σ' := by
  have hvx := he _ _ hx
  have hvk := he _ _ hky
  simp only [step] at hs
  split at hs
  · rename_i r e1
    rw [e1] at hvx
    split at hs
    · rename_i es hb
      obtain ⟨p, es', ck, hp, e2, h1, h2⟩ := h.map hvx hb
      have hg := run_getObj_map (P := P) h1
      have hso := fun o => run_setObj_map (P := P) h1 o
      have hck := run_checkKey_int hk es'.isEmpty (ρ' k) w
      split at hs
      · rename_i r0 hf
        simp at hs
        obtain ⟨rfl, rfl⟩ := hs
        obtain ⟨j, n, ek, hall, hfv⟩ := findE_int hf
        rw [ek] at hvk ⊢
        have ekv := hvk.int_inv
        rw [ekv] at hck
        have hfind := run_findKey hk h2 hall w
        cases r0 with
        | some v2 =>
          rw [hfv] at hfind
          obtain ⟨q, e', a1, a2, a3, a4⟩ := hfind
          have hes : (es'.eraseIdxIfInBounds q).toList = es'.toList.eraseIdx q := by simp
          refine ⟨.tuple #[], _, φ, .inl ?_, Sim.setMap (w' := { w with heap := w.heap.setIfInBounds p.cb (.map (es'.eraseIdxIfInBounds q) ck) }) h hb hp rfl rfl rfl (by rw [hes]; exact h2.erase a2 a3 hfv), .tup _ _ .nil⟩
          simp [execOp, ho, resolve, invoke, builtin, Builtin.delete_, hts, run_underlying ht, e2, hg, ekv, hck, a1, hso]
        | none =>
          rw [hfv] at hfind
          obtain ⟨a1, a2⟩ := hfind
          refine ⟨.tuple #[], _, φ, .inl ?_, Sim.setMap (w' := { w with heap := w.heap.setIfInBounds p.cb (.map es' ck) }) h hb hp rfl rfl rfl (h2.none hfv), .tup _ _ .nil⟩
          simp [execOp, ho, resolve, invoke, builtin, Builtin.delete_, hts, run_underlying ht, e2, hg, ekv, hck, a1, hso]
      · simp at hs
    · simp at hs
  · simp at hs

theorem heavy_lenM (h : Rel φ σ w) (he : Env φ gl ρ ρ') {o : Oper} {t kt e : TypeId} {x : Operand} {ts : Array TypeId} (ho : o.op = .call ⟨.builtin .len, #[x], ts⟩) (hts : ts[0]? = some t) (ht : P.underlying t = some (.map kt e))
    {x1 : Opd} (hx : compO gl x = some x1) {v : V} {σ' : H} {m : MT} (hs : step m σ ρ (.lenM x1) = some (.val v σ')) : Heavy P φ σ w ρ' o v σ' := by
  have hvx := he _ _ hx
  simp only [step] at hs
  split at hs
  · rename_i e1
    rw [e1] at hvx
    simp at hs
    obtain ⟨rfl, rfl⟩ := hs
    exact ⟨.int .i64 0, w, φ, .inl (by simp [execOp, ho, resolve, invoke, builtin, Builtin.len_, hts, run_underlying ht, hvx.mnil_inv, goInt]), Sim.refl h, .int _ _⟩
  · rename_i r e1
    rw [e1] at hvx
    split at hs
    · rename_i ro es hb
      obtain ⟨p, es', ck, hp, e2, h1, h2⟩ := h.map hvx hb
      have hg := run_getObj_map (P := P) h1
      simp at hs
      obtain ⟨rfl, rfl⟩ := hs
      have hl := h2.len
      simp at hl
      exact ⟨.int .i64 es'.size, w, φ, .inl (by simp [execOp, ho, resolve, invoke, builtin, Builtin.len_, hts, run_underlying ht, e2, hg, goInt]), Sim.refl h, by rw [hl]; exact .int _ _⟩
    · simp at hs
  · simp at hs

end
end Go.Abs
