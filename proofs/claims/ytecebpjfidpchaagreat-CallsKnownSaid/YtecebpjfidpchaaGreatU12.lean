/- PART of the proof of CallsKnown: copy, clear; calls; every operation. No condition. -/
import Derived.Test.YtecebpjfidpchaaGreatU11
/-! copy, clear; calls; every operation. -/
namespace Go.Abs

section
variable {P : Program} {gl : List Nat} {φ : F} {ρ : Opd → V} {ρ' : Operand → Value} {σ : H} {w : World}

theorem heavy_copy (h : Rel φ σ w) (he : Env φ gl ρ ρ') {o : Oper} {t e : TypeId} {d s : Operand} {ts : Array TypeId} (ho : o.op = .call ⟨.builtin .copy, #[d, s], ts⟩) (hts : ts[0]? = some t)
    (ht : P.underlying t = some (.slice e)) {z : Nat} (hz : sizeOfT P e = some z) {d1 s1 : Opd} (hd : compO gl d = some d1) (hsx : compO gl s = some s1) {v : V} {σ' : H} (hs : copyV σ z (ρ d1) (ρ s1) = some (v, σ')) : Heavy P φ σ w ρ' o v σ' := by
  have hvd := he _ _ hd
  have hvs := he _ _ hsx
  have hsz := fun w => run_sizeOfT (P := P) hz w
  unfold copyV at hs
  split at hs
  · rename_i e1 e2
    rw [e1] at hvd; rw [e2] at hvs
    simp at hs
    obtain ⟨rfl, rfl⟩ := hs
    exact ⟨.int .i64 0, w, φ, .inl (by simp [execOp, ho, resolve, invoke, builtin, Builtin.copy_, hts, run_underlying ht, hvd.snil_inv, hvs.snil_inv, Builtin.lenOf, Builtin.firstCells, hsz, goInt]), Sim.refl h, .int _ _⟩
  · rename_i e1 e2
    rw [e1] at hvd; rw [e2] at hvs
    simp at hs
    obtain ⟨rfl, rfl⟩ := hs
    rcases hvs.slice_inv with ⟨p, cap', hp, c1, c2, c3, es⟩ | ⟨rfl, rfl, a, es⟩
    · exact ⟨.int .i64 0, w, φ, .inl (by simp [execOp, ho, resolve, invoke, builtin, Builtin.copy_, hts, run_underlying ht, hvd.snil_inv, es, Builtin.lenOf, Builtin.firstCells, loadCells, loadCellsFrom, hsz, goInt]), Sim.refl h, .int _ _⟩
    · exact ⟨.int .i64 0, w, φ, .inl (by simp [execOp, ho, resolve, invoke, builtin, Builtin.copy_, hts, run_underlying ht, hvd.snil_inv, es, Builtin.lenOf, Builtin.firstCells, loadCells, loadCellsFrom, hsz, goInt]), Sim.refl h, .int _ _⟩
  · rename_i e1 e2
    rw [e1] at hvd; rw [e2] at hvs
    simp at hs
    obtain ⟨rfl, rfl⟩ := hs
    rcases hvd.slice_inv with ⟨p, cap', hp, c1, c2, c3, es⟩ | ⟨rfl, rfl, a, es⟩
    · exact ⟨.int .i64 0, w, φ, .inl (by simp [execOp, ho, resolve, invoke, builtin, Builtin.copy_, hts, run_underlying ht, hvs.snil_inv, es, Builtin.lenOf, Builtin.firstCells, storeCells, hsz, goInt]), Sim.refl h, .int _ _⟩
    · exact ⟨.int .i64 0, w, φ, .inl (by simp [execOp, ho, resolve, invoke, builtin, Builtin.copy_, hts, run_underlying ht, hvs.snil_inv, es, Builtin.lenOf, Builtin.firstCells, storeCells, hsz, goInt]), Sim.refl h, .int _ _⟩
  · rename_i b off len cap z1 b2 off2 len2 cap2 z2 e1 e2
    rw [e1] at hvd; rw [e2] at hvs
    split at hs
    · rename_i hzz
      obtain ⟨rfl, rfl⟩ := hzz
      split at hs
      · rename_i cs hl
        obtain ⟨cs', hf, hr⟩ := run_firstCells (P := P) h hvs (Nat.min_le_left _ _) hl
        have hf0 := hf w rfl
        clear hf
        have hlen := run_lenOf (P := P) hvs w
        have hcl := (h.loadN hl).1
        have hcl' := hr.length
        split at hs
        · rename_i hm0
          simp at hs
          obtain ⟨rfl, rfl⟩ := hs
          have hnil : cs' = [] := by
            apply List.eq_nil_of_length_eq_zero
            rw [← hcl', hcl, hm0]; simp
          subst hnil
          rw [hm0] at hf0
          have hm1 : Nat.min len2 len = 0 := hm0
          rcases hvd.slice_inv with ⟨p, cap', hp, c1, c2, c3, es⟩ | ⟨rfl, rfl, a, es⟩
          · exact ⟨.int .i64 0, w, φ, .inl (by simp [execOp, ho, resolve, invoke, builtin, Builtin.copy_, hts, run_underlying ht, es, hlen, hm1, hf0, storeCells, hsz, goInt]), Sim.refl h, .int _ _⟩
          · exact ⟨.int .i64 0, w, φ, .inl (by simp [execOp, ho, resolve, invoke, builtin, Builtin.copy_, hts, run_underlying ht, es, hlen, hf0, storeCells, hsz, goInt]), Sim.refl h, .int _ _⟩
        · rename_i hm0
          obtain ⟨σ2, hst, hh⟩ := map_some' hs
          simp at hh
          obtain ⟨rfl, rfl⟩ := hh
          rcases hvd.slice_inv with ⟨p, cap', hp, c1, c2, c3, es⟩ | ⟨rfl, rfl, a, es⟩
          · obtain ⟨p2, hp2, hsim, hrun⟩ := Sim.store h hst hr
            rw [hp] at hp2; simp at hp2; subst hp2
            have hrun := hrun P
            refine ⟨.int .i64 (min len2 len : Nat), _, φ, .inl ?_, hsim, .int _ _⟩
            have hmm : Nat.min len2 len = min len2 len := rfl
            simp only [execOp, ho, resolve, invoke, builtin]
            simp [Builtin.copy_, hts, run_underlying ht, es, hlen, hsz, goInt, hmm]
            rw [hf0]
            simp [hrun]
          · exact absurd (Nat.min_zero _) hm0
      · simp at hs
    · simp at hs
  · simp at hs

theorem heavy_clear (h : Rel φ σ w) (he : Env φ gl ρ ρ') {o : Oper} {t e : TypeId} {x : Operand} {ts : Array TypeId} (ho : o.op = .call ⟨.builtin .clear, #[x], ts⟩) (hts : ts[0]? = some t)
    (ht : P.underlying t = some (.slice e)) {z : V} (hz : zeroOf P e = some z) {x1 : Opd} (hx : compO gl x = some x1) {v : V} {σ' : H} {m : MT} (hs : step m σ ρ (.clearS z.cells x1) = some (.val v σ')) : Heavy P φ σ w ρ' o v σ' := by
  have hvx := he _ _ hx
  obtain ⟨z', hz', hzr⟩ := ofValue_cells (φ := φ) hz w
  simp only [step] at hs
  split at hs
  · rename_i e1
    rw [e1] at hvx
    simp at hs
    obtain ⟨rfl, rfl⟩ := hs
    exact ⟨.tuple #[], w, φ, .inl (by simp [execOp, ho, resolve, invoke, builtin, Builtin.clear_, hts, run_underlying ht, hvx.snil_inv]), Sim.refl h, .tup _ _ .nil⟩
  · rename_i b off len cap zz e1
    rw [e1] at hvx
    split at hs
    · rename_i hl0
      subst hl0
      simp at hs
      obtain ⟨rfl, rfl⟩ := hs
      rcases hvx.slice_inv with ⟨p, cap', hp, c1, c2, c3, es⟩ | ⟨_, _, a, es⟩
      · exact ⟨.tuple #[], w, φ, .inl (by simp [execOp, ho, resolve, invoke, builtin, Builtin.clear_, hts, run_underlying ht, es]), Sim.refl h, .tup _ _ .nil⟩
      · exact ⟨.tuple #[], w, φ, .inl (by simp [execOp, ho, resolve, invoke, builtin, Builtin.clear_, hts, run_underlying ht, es]), Sim.refl h, .tup _ _ .nil⟩
    · rename_i hl0
      split at hs
      · rename_i hzz
        obtain ⟨σ2, hst, hh⟩ := map_some' hs
        simp at hh
        obtain ⟨rfl, rfl⟩ := hh
        rcases hvx.slice_inv with ⟨p, cap', hp, c1, c2, c3, es⟩ | ⟨h0, _⟩
        · have hr := repl_rel hzr len
          obtain ⟨p2, hp2, hsim, hrun⟩ := Sim.store h hst hr
          rw [hp] at hp2; simp at hp2; subst hp2
          have hrun := hrun P
          have hzc : Builtin.zeroCells z'.cells len = (Array.range (len * z'.cells.toList.length)).map (fun i => (⟨z'.cells.toList⟩ : Array Value)[i % z'.cells.toList.length]!) := rfl
          refine ⟨.tuple #[], _, φ, .inl ?_, hsim, .tup _ _ .nil⟩
          have hcl : (Builtin.clear_ ts o.type #[ρ' x]).run P w = .ok (.tuple #[]) (storeW w p.cb (p.off + off) ((Array.range (len * z'.cells.toList.length)).map (fun i => (⟨z'.cells.toList⟩ : Array Value)[i % z'.cells.toList.length]!)).toList) := by
            simp only [Builtin.clear_, List.getElem?_toArray, List.getElem?_cons_zero, hts, es]
            have hlen0 : ∀ c, (Value.slice (some (⟨p.cb, p.off + off, none⟩ : Addr)) len c) = .slice (some ⟨p.cb, p.off + off, none⟩) (len - 1 + 1) c := fun c => by rw [show len - 1 + 1 = len from by omega]
            rw [hlen0]
            simp only [Sem.run_bind, run_underlying ht, Result.andThen_ok]
            rw [show len - 1 + 1 = len from by omega]
            simp only [hz', Result.andThen_ok, hzc, hrun, Sem.run_pure]
          simp [execOp, ho, resolve, invoke, builtin, hcl]
        · exact absurd h0 hl0
      · simp at hs
  · simp at hs

/-- Every operation that gives a value. -/
theorem heavy_sound (h : Rel φ σ w) (he : Env φ gl ρ ρ') {o : Oper} {x : X} (hc : compH P gl o.op = some x) {m : MT} {v : V} {σ' : H} (hs : step m σ ρ x = some (.val v σ')) : Heavy P φ σ w ρ' o v σ' := by
  cases ho : o.op <;> rw [ho] at hc
  case load t a =>
    simp only [compH] at hc
    split at hc
    · rename_i n g hn hg
      obtain ⟨a1, ha, rfl⟩ := map_some' hc
      simp only [step] at hs
      obtain ⟨u, hu, e⟩ := map_some' hs
      simp at e
      obtain ⟨rfl, rfl⟩ := e
      exact heavy_load h he ho hn hg ha hu
    · simp at hc
  case store t a x =>
    simp only [compH] at hc
    split at hc
    · rename_i n hn
      obtain ⟨a1, x1, ha, hx, rfl⟩ := comp2_eq hc
      simp only [step] at hs
      split at hs
      · rename_i b off e1
        split at hs
        · rename_i hlen
          obtain ⟨σ2, hst, e⟩ := map_some' hs
          simp at e
          obtain ⟨rfl, rfl⟩ := e
          exact heavy_store h he ho hn ha hx e1 hlen hst
        · simp at hs
      · simp at hs
    · simp at hc
  case binOp op t x y yt =>
    simp only [compH] at hc
    split at hc
    · rename_i hh
      obtain ⟨a1, b1, ha, hb, rfl⟩ := comp2_eq hc
      simp only [step] at hs
      obtain ⟨r, hr, e⟩ := map_some' hs
      simp only [R.val.injEq] at e
      obtain ⟨rfl, rfl⟩ := e
      exact heavy_eqp h he ho hh.1 hh.2 ha hb hr
    · simp at hc
  case slice t x lo hi mx =>
    cases mx with
    | some _ => simp [compH] at hc
    | none =>
      simp only [compH] at hc
      split at hc
      · rename_i n e lo2 hi2 ht hl hh
        split at hc
        · rename_i z hz
          obtain ⟨a1, ha, rfl⟩ := map_some' hc
          exact heavy_sliceA h he ho ht hz ha hl hh hs
        · simp at hc
      · simp at hc
  case lookup t x k ok =>
    simp only [compH] at hc
    split at hc
    · rename_i kt e ht
      split at hc
      · rename_i z hz
        split at hc
        · rename_i hk
          obtain ⟨a1, b1, ha, hb, rfl⟩ := comp2_eq hc
          exact heavy_lookup h he ho ht hz hk ha hb hs
        · simp at hc
      · simp at hc
    · simp at hc
  case mapUpdate t x k y =>
    simp only [compH] at hc
    split at hc
    · rename_i kt e ht
      split at hc
      · rename_i hk
        split at hc
        · rename_i m1 hm
          obtain ⟨a1, b1, ha, hb, rfl⟩ := comp2_eq hc
          exact heavy_update h he (.inl ho) ht hk hm ha hb hs
        · simp at hc
      · simp at hc
    · simp at hc
  case insert t x k y =>
    simp only [compH] at hc
    split at hc
    · rename_i kt e ht
      split at hc
      · rename_i hk
        split at hc
        · rename_i m1 hm
          obtain ⟨a1, b1, ha, hb, rfl⟩ := comp2_eq hc
          exact heavy_update h he (.inr ho) ht hk hm ha hb hs
        · simp at hc
      · simp at hc
    · simp at hc
  case call c =>
    obtain ⟨ce, args, ts⟩ := c
    cases ce with
    | builtin b =>
      cases b <;> simp only [compH] at hc <;> try (simp at hc; done)
      case append =>
        split at hc
        · rename_i s x t t2 hargs hts hts2
          have := arr2 hargs
          subst this
          split at hc
          · rename_i e e2 ht ht2
            split at hc
            · rename_i i hi
              split at hc
              · rename_i zv hz
                split at hc
                · rename_i hzs
                  obtain ⟨a1, b1, ha, hb, rfl⟩ := comp2_eq hc
                  simp only [step] at hs
                  obtain ⟨r, hr, e⟩ := map_some' hs
                  simp only [R.val.injEq] at e
                  obtain ⟨rfl, rfl⟩ := e
                  exact heavy_append h he ho hts hts2 ht ht2 hi hz hzs ha hb hr
                · simp at hc
              · simp at hc
            · simp at hc
          · simp at hc
        · simp at hc
      case clear =>
        split at hc
        · rename_i x t hargs hts
          have := arr1 hargs
          subst this
          split at hc
          · rename_i e ht
            split at hc
            · rename_i z hz
              obtain ⟨a1, ha, rfl⟩ := map_some' hc
              exact heavy_clear h he ho hts ht hz ha hs
            · simp at hc
          · simp at hc
        · simp at hc
      case copy =>
        split at hc
        · rename_i d s t hargs hts
          have := arr2 hargs
          subst this
          split at hc
          · rename_i e ht
            split at hc
            · rename_i z hz
              obtain ⟨a1, b1, ha, hb, rfl⟩ := comp2_eq hc
              simp only [step] at hs
              obtain ⟨r, hr, e⟩ := map_some' hs
              simp only [R.val.injEq] at e
              obtain ⟨rfl, rfl⟩ := e
              exact heavy_copy h he ho hts ht hz ha hb hr
            · simp at hc
          · simp at hc
        · simp at hc
      case delete =>
        split at hc
        · rename_i x k t hargs hts
          have := arr2 hargs
          subst this
          split at hc
          · rename_i kt e ht
            split at hc
            · rename_i hk
              obtain ⟨a1, b1, ha, hb, rfl⟩ := comp2_eq hc
              exact heavy_delete h he ho hts ht hk ha hb hs
            · simp at hc
          · simp at hc
        · simp at hc
      case len =>
        split at hc
        · rename_i x t hargs hts
          have := arr1 hargs
          subst this
          split at hc
          · rename_i kt e ht
            obtain ⟨a1, ha, rfl⟩ := map_some' hc
            exact heavy_lenM h he ho hts ht ha hs
          · simp at hc
        · simp at hc
    | value f =>
      simp only [compH] at hc
      split at hc
      · rename_i l hl
        split at hc
        · simp at hc; subst hc
          simp [step] at hs
        · obtain ⟨f1, _, rfl⟩ := map_some' hc
          simp only [step] at hs
          split at hs <;> simp at hs
      · simp at hc
    | invoke r name =>
      simp only [compH] at hc
      split at hc
      · obtain ⟨f1, _, rfl⟩ := map_some' hc
        simp only [step] at hs
        split at hs
        · split at hs <;> simp at hs
        · simp at hs
      · simp at hc
  case panic x =>
    simp only [compH] at hc
    obtain ⟨a1, _, rfl⟩ := map_some' hc
    simp only [step] at hs
    split at hs <;> simp at hs
  all_goals simp [compH] at hc

/-- The table of methods is the program's. -/
def MtOk (P : Program) (t : TypeId) (name : String) : Mt → Prop
  | .fn f => ∀ v w, (method (P.types.size + Made.depth) t v name).run P w = .ok (f, v) w ∧ (method (P.types.size + Made.depth - 1) t v name).run P w = .ok (f, v) w
  | .emb => ∃ ft, sizeOfT P ft = some 1 ∧ aggT P ft = some false ∧ ∀ a w t' v', (loadVar ft a).run P w = .ok (.iface t' v') w → (method (P.types.size + Made.depth) t (.pointer (some a)) name).run P w = (method (P.types.size + Made.depth - 1) t' v' name).run P w
def MOk (P : Program) (m : MT) : Prop :=
  ∀ t name x, m t name = some x → MtOk P t name x
theorem meth_ok {P : Program} {m : MT} (hm : MOk P m) {φ : F} {σ : H} {w : World} (h : Rel φ σ w) {t : TypeId} {v : V} {v' : Value} (hv : VRel φ v v') {name : String} {p : FuncId × V} (hp : meth m σ t v name = some p) :
    ∃ u', VRel φ p.2 u' ∧ (method (P.types.size + Made.depth) t v' name).run P w = .ok (p.1, u') w := by
  unfold meth at hp
  split at hp
  · rename_i f hf
    simp at hp; subst hp
    exact ⟨v', hv, ((hm t name _ hf) v' w).1⟩
  · rename_i hf
    split at hp
    · rename_i t2 v2 hl
      split at hp
      · rename_i f hf2
        simp at hp; subst hp
        obtain ⟨ft, h1, h2, h3⟩ := hm t name _ hf
        obtain ⟨u, q, rfl, hload, hr⟩ := loadV_sound h h1 h2 hv hl
        obtain ⟨v3, rfl, hv3⟩ := hr.iface_inv
        exact ⟨v3, hv3, by rw [h3 _ _ _ _ hload]; exact ((hm t2 name _ hf2) v3 w).2⟩
      · simp at hp
    · simp at hp
  · simp at hp

/-- No call is begun by another operation than a call. -/
theorem enter_call {x : X} {m : MT} {f : FuncId} {args : List V} {σ' : H} (hs : step m σ ρ x = some (.enter f args σ')) :
    (∃ l, x = .call f l ∧ args = l.map ρ ∧ σ' = σ) ∨ (∃ g l a c, x = .callV g l ∧ ρ g = .fn (.func f) a c ∧ args = a ++ l.map ρ ++ c ∧ σ' = σ) ∨
    (∃ name r l t v u, x = .invoke name r l ∧ ρ r = .iface t v ∧ meth m σ t v name = some (f, u) ∧ args = u :: l.map ρ ∧ σ' = σ) := by
  cases x <;> simp only [step] at hs
  case call g l =>
    simp at hs
    obtain ⟨rfl, rfl, rfl⟩ := hs
    exact .inl ⟨l, rfl, rfl, rfl⟩
  case callV g l =>
    split at hs
    · rename_i g2 a c e
      simp at hs
      obtain ⟨rfl, rfl, rfl⟩ := hs
      exact .inr (.inl ⟨g, l, a, c, rfl, e, by simp, rfl⟩)
    · simp at hs
  case invoke name r l =>
    split at hs
    · rename_i t v e
      split at hs
      · rename_i g hg
        simp at hs
        obtain ⟨rfl, rfl, rfl⟩ := hs
        exact .inr (.inr ⟨name, r, l, t, v, g.2, rfl, e, hg, rfl, rfl⟩)
      · simp at hs
    · simp at hs
  all_goals (exfalso; (try (repeat' split at hs)) <;> simp at hs)

/-- No operation panics but a panic. -/
theorem panic_op {x : X} {m : MT} {v : V} {σ' : H} (hs : step m σ ρ x = some (.pan v σ')) : ∃ y t u, x = .panic y ∧ ρ y = .iface t u ∧ v = .iface t u ∧ σ' = σ := by
  cases x <;> simp only [step] at hs
  case panic y =>
    split at hs
    · rename_i t u e
      simp at hs
      obtain ⟨rfl, rfl⟩ := hs
      exact ⟨y, t, u, rfl, e, rfl, rfl⟩
    · simp at hs
  all_goals (exfalso; (try (repeat' split at hs)) <;> simp at hs)

theorem compH_panic {gl : List Nat} {op : Go.Op} {y : Opd} (h : compH P gl op = some (.panic y)) : ∃ x, op = .panic x ∧ compO gl x = some y := by
  cases op
  case panic x =>
    simp only [compH] at h
    obtain ⟨y', hy, e⟩ := map_some' h
    simp at e; subst e
    exact ⟨x, rfl, hy⟩
  case slice q1 q2 q3 q4 mx =>
    cases mx <;> simp only [compH] at h
    · (repeat' split at h) <;> (try simp at h)
    · simp at h
  case call c =>
    obtain ⟨ce, as, ts⟩ := c
    cases ce with
    | builtin b => cases b <;> simp only [compH] at h <;> (repeat' split at h) <;> simp [comp2] at h <;> (try (repeat' split at h) <;> simp at h)
    | value q => simp only [compH] at h; (repeat' split at h) <;> simp at h
    | invoke r n => simp only [compH] at h; (repeat' split at h) <;> simp at h
  all_goals (simp only [compH] at h; (repeat' split at h) <;> (try simp [comp2] at h) <;> (try (repeat' split at h) <;> simp at h))

theorem panic_sound (he : Env φ gl ρ ρ') {o : Oper} {x : X} (hc : compH P gl o.op = some x) {m : MT} {v : V} {σ' : H} (hs : step m σ ρ x = some (.pan v σ')) (w : World) :
    σ' = σ ∧ ∃ v', VRel φ v v' ∧ (execOp ρ' o).run P w = .halt (.panic v') w := by
  obtain ⟨y, t, u, rfl, e, rfl, rfl⟩ := panic_op hs
  obtain ⟨x, ho, hx⟩ := compH_panic hc
  have hv := he _ _ hx
  rw [e] at hv
  obtain ⟨u', e', hu⟩ := hv.iface_inv
  refine ⟨rfl, .iface t u', .iface _ _ _ hu, ?_⟩
  simp [execOp, ho, e', Instr.panic, goPanic]

theorem args_eq (args : Array Operand) (l' : List Value) (h : args.toList.map ρ' = l') : args.map ρ' = ⟨l'⟩ := by apply Array.toList_inj.1; simpa using h

theorem call_sound {w : World} (h : Rel φ σ w) (he : Env φ gl ρ ρ') (hfun : ∀ g, ρ' (.func g) = .func (.func g) #[] #[]) {o : Oper} {x : X} (hc : compH P gl o.op = some x) {m : MT} (hm : MOk P m) {f : FuncId} {args : List V} {σ' : H} (hs : step m σ ρ x = some (.enter f args σ')) :
    σ' = σ ∧ ∃ args', VRels φ args args' ∧ (execOp ρ' o).run P w = (callFunc f ⟨args'⟩).run P w := by
  have hop : ∃ ce as ts, o.op = .call ⟨ce, as, ts⟩ ∧ ∀ b, ce ≠ .builtin b := by
    rcases enter_call hs with ⟨l, rfl, _⟩ | ⟨g, l, a, c, rfl, _⟩ | ⟨name, r, l, t, v, u, rfl, _⟩
    all_goals
      cases ho : o.op <;> rw [ho] at hc
      case slice q1 q2 q3 q4 mx =>
        cases mx <;> simp only [compH] at hc
        · (repeat' split at hc) <;> (try simp at hc)
        · simp at hc
      all_goals (try simp only [compH] at hc)
      case call c =>
        obtain ⟨ce, as, ts⟩ := c
        refine ⟨ce, as, ts, rfl, fun b hb => ?_⟩
        subst hb
        cases b <;> simp only at hc <;> (repeat' split at hc) <;> simp [comp2] at hc <;> (try (repeat' split at hc) <;> simp at hc)
      all_goals ((repeat' split at hc) <;> (try simp [comp2] at hc) <;> (try (repeat' split at hc) <;> simp at hc))
  obtain ⟨ce, as, ts, ho, hnb⟩ := hop
  rw [ho] at hc
  cases ce with
  | builtin b => exact absurd rfl (hnb b)
  | value q =>
    simp only [compH] at hc
    split at hc
    · rename_i l hl
      have hargs := optMap_env he hl
      split at hc
      · rename_i g
        simp at hc; subst hc
        simp [step] at hs
        obtain ⟨rfl, rfl, rfl⟩ := hs
        refine ⟨rfl, as.toList.map ρ', hargs, ?_⟩
        have e := hfun g
        have ea := args_eq (ρ' := ρ') as _ rfl
        have e3 : (#[] : Array Value) ++ as.map ρ' ++ (#[] : Array Value) = ⟨as.toList.map ρ'⟩ := by rw [ea]; apply Array.toList_inj.1; simp
        simp only [execOp, ho, resolve, e, Deferred.ofValue]
        simp only [Sem.run_bind, Sem.run_pure, Result.andThen_ok, invoke, e3]
      · obtain ⟨f1, hf1, rfl⟩ := map_some' hc
        simp only [step] at hs
        split at hs
        · rename_i g a c e1
          simp at hs
          obtain ⟨rfl, rfl, rfl⟩ := hs
          have hv := he _ _ hf1
          rw [e1] at hv
          obtain ⟨a', c', e, h1, h2⟩ := hv.fn_inv
          refine ⟨rfl, a' ++ as.toList.map ρ' ++ c', by simpa using (h1.append hargs).append h2, ?_⟩
          have ea := args_eq (ρ' := ρ') as _ rfl
          have e3 : (⟨a'⟩ : Array Value) ++ as.map ρ' ++ (⟨c'⟩ : Array Value) = ⟨a' ++ as.toList.map ρ' ++ c'⟩ := by rw [ea]; apply Array.toList_inj.1; simp
          simp only [execOp, ho, resolve, e, Deferred.ofValue]
          simp only [Sem.run_bind, Sem.run_pure, Result.andThen_ok, invoke, e3]
        · simp at hs
    · simp at hc
  | invoke r name =>
    simp only [compH] at hc
    split at hc
    · rename_i l hl
      have hargs := optMap_env he hl
      obtain ⟨r1, hr1, rfl⟩ := map_some' hc
      simp only [step] at hs
      split at hs
      · rename_i t v e1
        split at hs
        · rename_i g hg
          simp at hs
          obtain ⟨rfl, rfl, rfl⟩ := hs
          have hv := he _ _ hr1
          rw [e1] at hv
          obtain ⟨v', e, h1⟩ := hv.iface_inv
          obtain ⟨u', hu, hmm⟩ := meth_ok hm h h1 hg
          refine ⟨rfl, u' :: as.toList.map ρ', .cons _ _ _ _ hu hargs, ?_⟩
          have ea := args_eq (ρ' := ρ') as _ rfl
          have e3 : #[u'] ++ (#[ρ' r] ++ as.map ρ').extract 1 (#[ρ' r] ++ as.map ρ').size = ⟨u' :: as.toList.map ρ'⟩ := by
            rw [ea]; apply Array.toList_inj.1; simp [List.take_of_length_le]
          simp only [execOp, ho, resolve]
          simp only [Sem.run_bind, Sem.run_pure, Result.andThen_ok, invoke]
          have e4 : (#[ρ' r] ++ as.map ρ')[0]? = some (ρ' r) := by rw [ea]; simp
          rw [e4]
          simp only [callMethod, e]
          simp only [Sem.run_bind, run_program, Result.andThen_ok, hmm]
          rw [e] at e3
          rw [e3]
        · simp at hs
      · simp at hs
    · simp at hc

end
end Go.Abs
