/- PART of the proof of CallsKnown: Operations that do not look at unknowns. No condition. -/
import Derived.Test.YtecebpjfidpchaaGreatU23
/-! Operations that do not look at unknowns. -/
namespace Go.Abs
set_option linter.unusedVariables false

section
variable (e : En) {ρ : Opd → V}
def insρ (ρ : Opd → V) : Opd → V := fun q => (ρ q).inst e
theorem map_insρ (l : List Opd) : l.map (insρ e ρ) = (l.map ρ).map (V.inst e) := by simp [insρ]
theorem opt_insρ (o : Option Opd) : o.map (insρ e ρ) = (o.map ρ).map (V.inst e) := by cases o <;> rfl
theorem parts_insρ (ps : List (Nat × Nat × Opd)) : (ps.map fun p => (p.1, p.2.1, insρ e ρ p.2.2)) = (ps.map fun p => (p.1, p.2.1, ρ p.2.2)).map fun p => (p.1, p.2.1, p.2.2.inst e) := by
  simp [insρ]

theorem stepL_inst {x : XL} (hx : x.own = true) {v : V} (h : stepL ρ x = some v) : stepL (insρ e ρ) x = some (v.inst e) := by
  cases x
  case mov x => simp only [stepL] at h ⊢; simp at h; subst h; rfl
  case pick c a b =>
    simp only [stepL] at h ⊢
    split at h
    · rename_i t hc
      simp only [insρ, hc, V.inst]
      simp at h; subst h
      cases t <;> rfl
    · simp at h
  case build zs ps =>
    simp only [stepL] at h ⊢
    simp only [XL.own] at hx
    obtain ⟨r, hr, rfl⟩ := map_some' h
    have := fillL_inst e _ _ _ hr
    rw [V.closeds_map e hx] at this
    rw [parts_insρ, this]; simp [V.inst, V.insts_eq]
  case nilck x =>
    simp only [stepL] at h ⊢
    split at h
    · rename_i b o hc; simp at h; subst h; simp [insρ, hc, V.inst]
    · rename_i t u hc; simp at h; subst h; simp [insρ, hc, V.inst]
    · rename_i f a b hc; simp at h; subst h; simp [insρ, hc, V.inst]
    · simp at h
  case arith op x y =>
    simp only [stepL] at h ⊢
    split at h
    · rename_i k a k' b h1 h2
      simp only [insρ, h1, h2, V.inst]
      split at h
      · rename_i hk
        rw [if_pos hk, arithV_inst e h]; exact h
      · simp at h
    · simp at h
  case shift op x y =>
    simp only [stepL] at h ⊢
    split at h
    · rename_i k a k' b h1 h2
      simp only [insρ, h1, h2, V.inst]
      rw [shiftV_inst e h]; exact h
    · simp at h
  case eq neg q x y =>
    simp only [stepL] at h ⊢
    obtain ⟨r, hr, rfl⟩ := map_some' h
    have : eqV q (insρ e ρ x) (insρ e ρ y) = some r := eqV_inst e hr
    rw [this]; rfl
  case un op x =>
    simp only [stepL] at h ⊢
    exact unV_inst e h
  case conv k x =>
    simp only [stepL] at h ⊢
    split at h
    · rename_i k' n h1
      simp at h; subst h
      simp [insρ, h1, V.inst]
    · simp at h
  case mkIface t x => simp only [stepL] at h ⊢; simp at h; subst h; rfl
  case mkFunc fn a b =>
    simp only [stepL] at h ⊢
    simp at h; subst h
    simp [map_insρ, V.inst, V.insts_eq]
  case slice z x lo hi =>
    simp only [stepL] at h ⊢
    rw [opt_insρ, opt_insρ]
    exact sliceV_inst e h
  case fieldAddr off x =>
    simp only [stepL] at h ⊢
    split at h
    · rename_i b o hc; simp at h; subst h; simp [insρ, hc, V.inst]
    · simp at h
  case field off size g x =>
    simp only [stepL] at h ⊢
    split at h
    · rename_i cs hc
      simp only [insρ, hc, V.inst, V.insts_eq]
      exact partL_inst e h
    · simp at h
  case idxS z x i =>
    simp only [stepL] at h ⊢
    split at h
    · rename_i b o len cap z' k n h1 h2
      simp only [insρ, h1, h2, V.inst]
      split at h
      · rename_i hc
        simp at h; subst h
        rw [if_pos hc]; rfl
      · simp at h
    · simp at h
  case idxP len z x i =>
    simp only [stepL] at h ⊢
    split at h
    · rename_i b o k n h1 h2
      simp only [insρ, h1, h2, V.inst]
      split at h
      · rename_i hc
        simp at h; subst h
        rw [if_pos hc]; rfl
      · simp at h
    · simp at h
  case idxA len z g x i =>
    simp only [stepL] at h ⊢
    split at h
    · rename_i cs k n h1 h2
      simp only [insρ, h1, h2, V.inst, V.insts_eq]
      split at h
      · rename_i hc
        rw [if_pos hc]
        exact partL_inst e h
      · simp at h
    · simp at h
  case extract i x =>
    simp only [stepL] at h ⊢
    split at h
    · rename_i vs h1
      simp only [insρ, h1, V.inst, V.insts_eq, List.getElem?_map, h]; rfl
    · simp at h
  case assertT t ok x =>
    simp only [stepL] at h ⊢
    split at h
    · rename_i t' u h1
      simp only [insρ, h1, V.inst]
      split at h
      · rename_i ht
        rw [if_pos ht]
        simp at h; subst h
        cases ok <;> simp [V.inst, V.insts]
      · rename_i ht
        rw [if_neg ht]
        obtain ⟨z, hz, rfl⟩ := map_some' h
        subst hz
        simp only [XL.own] at hx
        simp [V.inst, V.insts, V.closed_inst e z hx]
    · rename_i h1
      simp only [insρ, h1, V.inst]
      obtain ⟨z, hz, rfl⟩ := map_some' h
      subst hz
      simp only [XL.own] at hx
      simp [V.inst, V.insts, V.closed_inst e z hx]
    · simp at h
  case lenS x =>
    simp only [stepL] at h ⊢
    split at h
    · rename_i h1; simp at h; subst h; simp [insρ, h1, V.inst]
    · rename_i h1; simp at h; subst h; simp [insρ, h1, V.inst]
    · simp at h
  case lenT x =>
    simp only [stepL] at h ⊢
    split at h
    · rename_i h1; simp at h; subst h; simp [insρ, h1, V.inst]
    · simp at h
  case maxmin mx x y =>
    simp only [stepL] at h ⊢
    split at h
    · rename_i k a k' b h1 h2
      simp only [insρ, h1, h2, V.inst]
      split at h
      · rename_i hk
        rw [if_pos hk]
        simp at h; subst h; rfl
      · simp at h
    · simp at h

theorem stepA_inst {x : XA} (hx : x.own = true) {B : Blk} {mk : Nat → V} (h : stepA ρ x = some (B, mk)) : stepA (insρ e ρ) x = some (B.inst e, mk) ∧ ∀ b, (mk b).inst e = mk b := by
  cases x
  case alloc zs =>
    simp only [stepA, XA.own] at h hx ⊢
    simp at h
    obtain ⟨rfl, rfl⟩ := h
    exact ⟨by rw [blkOf_inst, V.closeds_map e hx], fun _ => rfl⟩
  case box x =>
    simp only [stepA] at h ⊢
    split at h
    · rename_i hk
      simp at h
      obtain ⟨rfl, rfl⟩ := h
      have : insρ e ρ x = (ρ x).inst e := rfl
      rw [this, V.known_inst, if_pos hk]
      exact ⟨by rw [blkOf_inst]; simp, fun _ => rfl⟩
    · simp at h
  case buildS len z zs ps =>
    simp only [stepA, XA.own] at h hx ⊢
    split at h
    · rename_i hc
      obtain ⟨cs, hcs, e2⟩ := map_some' h
      simp only [Prod.mk.injEq] at e2
      obtain ⟨rfl, rfl⟩ := e2
      have := fillL_inst e _ _ _ hcs
      rw [repl_inst, V.closeds_map e hx] at this
      exact ⟨by rw [if_pos hc, parts_insρ, this, blkOf_inst]; rfl, fun _ => rfl⟩
    · simp at h
  case mkSlice z bytes zs l c =>
    simp only [stepA, XA.own] at h hx ⊢
    split at h
    · rename_i a b h1 h2
      split at h
      · rename_i hc
        simp only [Option.some.injEq, Prod.mk.injEq] at h
        obtain ⟨rfl, rfl⟩ := h
        refine ⟨?_, fun _ => rfl⟩
        simp only [insρ, h1, h2, V.inst]
        rw [if_pos hc, blkOf_inst, repl_inst, V.closeds_map e hx]
      · simp at h
    · simp at h
  case mkMap =>
    simp only [stepA] at h ⊢
    simp at h
    obtain ⟨rfl, rfl⟩ := h
    exact ⟨rfl, fun _ => rfl⟩

theorem ptrEq_inst {σ : H} {x y : V} {r : Bool} (h : ptrEq σ x y = some r) : ptrEq (σ.inst e) (x.inst e) (y.inst e) = some r := by
  have other : ptrEq σ x y = eqV .ptr x y → ptrEq (σ.inst e) (x.inst e) (y.inst e) = eqV .ptr (x.inst e) (y.inst e) → ptrEq (σ.inst e) (x.inst e) (y.inst e) = some r := by
    intro h1 h2
    rw [h2]
    exact eqV_inst e (h1 ▸ h)
  cases x
  case ptr b o =>
    cases y
    case ptr b' o' =>
      simp only [V.inst, ptrEq] at h ⊢
      split at h
      · rename_i hb; rw [if_pos hb]; exact h
      · rename_i hb
        rw [if_neg hb, H.get_inst, H.get_inst]
        split at h
        · rename_i q1 q2
          rw [q1, q2]; exact h
        · simp at h
    all_goals exact other rfl rfl
  all_goals exact other rfl rfl

theorem srcV_inst {σ : H} {z n : Nat} {v : V} {l : List V} (h : srcV σ z v = some (n, l)) : srcV (σ.inst e) z (v.inst e) = some (n, l.map (V.inst e)) := by
  cases v <;> simp only [srcV] at h <;> (try (simp at h; done))
  case slice b o len c z' =>
    simp only [V.inst, srcV]
    split at h
    · rename_i hz
      obtain ⟨l', hl, e2⟩ := map_some' h
      simp only [Prod.mk.injEq] at e2
      obtain ⟨rfl, rfl⟩ := e2
      rw [if_pos hz, loadN_inst e hl]; rfl
    · simp at h
  case snil =>
    simp at h
    obtain ⟨rfl, rfl⟩ := h
    rfl

theorem appendV_inst {σ σ' : H} {z bytes : Nat} {s x v : V} (h : appendV σ z bytes s x = some (v, σ')) : appendV (σ.inst e) z bytes (s.inst e) (x.inst e) = some (v.inst e, σ'.inst e) := by
  unfold appendV at h ⊢
  split at h
  · simp at h
  rename_i n new hsrc
  rw [srcV_inst e hsrc]
  simp only
  cases s <;> simp only at h <;> (try (simp at h; done))
  case snil =>
    simp only [V.inst]
    split at h
    · rename_i hn
      simp at h
      obtain ⟨rfl, rfl⟩ := h
      rw [if_pos hn]; rfl
    · rename_i hn
      rw [if_neg hn]
      split at h
      · rename_i hc
        simp at h
        obtain ⟨rfl, rfl⟩ := h
        rw [if_pos hc, H.new_inst, blkOf_inst]; rfl
      · simp at h
  case slice b o len cap z' =>
    simp only [V.inst]
    split at h
    · simp at h
    rename_i hz
    rw [if_neg hz]
    split at h
    · rename_i hn
      simp at h
      obtain ⟨rfl, rfl⟩ := h
      rw [if_pos hn]; rfl
    rename_i hn
    rw [if_neg hn]
    split at h
    · rename_i hc
      rw [if_pos hc]
      obtain ⟨σ2, hst, e2⟩ := map_some' h
      simp only [Prod.mk.injEq] at e2
      obtain ⟨rfl, rfl⟩ := e2
      rw [storeN_inst e hst]; rfl
    rename_i hc
    rw [if_neg hc]
    split at h
    · rename_i hd
      rw [if_pos ⟨hd.1, hd.2.1, by rw [all_cell_inst]; exact hd.2.2⟩]
      split at h
      · rename_i m c old hb hl
        rw [H.get_inst, hb, loadN_inst e hl]
        simp only [Option.map_some, Blk.inst]
        simp only [Option.some.injEq, Prod.mk.injEq] at h
        obtain ⟨rfl, rfl⟩ := h
        rw [H.new_inst, H.kill_inst, blkOf_inst]
        simp [V.inst]
      · simp at h
    · simp at h

theorem copyV_inst {σ σ' : H} {z : Nat} {d s v : V} (h : copyV σ z d s = some (v, σ')) : copyV (σ.inst e) z (d.inst e) (s.inst e) = some (v.inst e, σ'.inst e) := by
  unfold copyV at h
  split at h
  · simp at h; obtain ⟨rfl, rfl⟩ := h; simp [V.inst, copyV]
  · simp at h; obtain ⟨rfl, rfl⟩ := h; simp [V.inst, copyV]
  · simp at h; obtain ⟨rfl, rfl⟩ := h; simp [V.inst, copyV]
  · split at h
    · rename_i hz
      simp only [V.inst, copyV]
      rw [if_pos hz]
      split at h
      · rename_i cs hcs
        rw [loadN_inst e hcs]
        simp only
        split at h
        · rename_i hn
          rw [if_pos hn]
          simp at h; obtain ⟨rfl, rfl⟩ := h; rfl
        · rename_i hn
          rw [if_neg hn]
          obtain ⟨σ2, hst, e2⟩ := map_some' h
          simp only [Prod.mk.injEq] at e2
          obtain ⟨rfl, rfl⟩ := e2
          rw [storeN_inst e hst]; rfl
      · simp at h
    · simp at h
  · simp at h

abbrev esI (es : List (V × V)) : List (V × V) := es.map fun p => (p.1.inst e, p.2.inst e)
theorem keyEq_inst {a b : V} {r : Bool} (h : keyEq a b = some r) : keyEq (a.inst e) (b.inst e) = some r := by
  cases a <;> cases b <;> simp only [keyEq] at h <;> (try (simp at h; done))
  simpa [V.inst, keyEq] using h
theorem findV_inst {k : V} : ∀ {es : List (V × V)}, es.all (fun p => (keyEq k p.1).isSome) = true → findV (k.inst e) (esI e es) = (findV k es).map (V.inst e)
  | [], _ => rfl
  | (k', v) :: es, h => by
    simp only [List.all_cons, Bool.and_eq_true, Option.isSome_iff_exists] at h
    obtain ⟨⟨r, hr⟩, h2⟩ := h
    simp only [esI, List.map_cons, findV, hr, keyEq_inst e hr]
    split
    · rfl
    · exact findV_inst h2
theorem all_keys_inst {k : V} : ∀ {es : List (V × V)}, es.all (fun p => (keyEq k p.1).isSome) = true → (esI e es).all (fun p => (keyEq (k.inst e) p.1).isSome) = true
  | [], _ => rfl
  | (k', v) :: es, h => by
    simp only [List.all_cons, Bool.and_eq_true, Option.isSome_iff_exists] at h
    obtain ⟨⟨r, hr⟩, h2⟩ := h
    have := all_keys_inst h2
    simp only [esI, List.map_cons, List.all_cons, Bool.and_eq_true] at this ⊢
    exact ⟨by rw [keyEq_inst e hr]; rfl, this⟩
theorem findE_inst {k : V} {es : List (V × V)} {o : Option V} (h : findE k es = some o) : findE (k.inst e) (esI e es) = some (o.map (V.inst e)) := by
  cases k <;> simp only [findE] at h <;> (try (simp at h; done))
  split at h
  · rename_i hall
    simp at h; subst h
    simp only [V.inst, findE]
    have h1 := all_keys_inst e hall
    have h2 := findV_inst e hall
    simp only [V.inst] at h1 h2
    exact (if_pos h1).trans (by rw [h2])
  · simp at h
theorem findE_all {k : V} {es : List (V × V)} {o : Option V} (h : findE k es = some o) : es.all (fun p => (keyEq k p.1).isSome) = true := by
  cases k <;> simp only [findE] at h <;> (try (simp at h; done))
  split at h
  · rename_i hall; exact hall
  · simp at h
theorem setE_inst {k v : V} : ∀ {es : List (V × V)}, es.all (fun p => (keyEq k p.1).isSome) = true → setE (k.inst e) (v.inst e) (esI e es) = esI e (setE k v es)
  | [], _ => rfl
  | (k', v') :: es, h => by
    simp only [List.all_cons, Bool.and_eq_true, Option.isSome_iff_exists] at h
    obtain ⟨⟨r, hr⟩, h2⟩ := h
    have ih := setE_inst (v := v) h2
    simp only [esI, List.map_cons, setE, hr, keyEq_inst e hr] at ih ⊢
    split
    · rfl
    · simp [ih]
theorem delE_inst {k : V} : ∀ {es : List (V × V)}, es.all (fun p => (keyEq k p.1).isSome) = true → delE (k.inst e) (esI e es) = esI e (delE k es)
  | [], _ => rfl
  | (k', v') :: es, h => by
    simp only [List.all_cons, Bool.and_eq_true, Option.isSome_iff_exists] at h
    obtain ⟨⟨r, hr⟩, h2⟩ := h
    have ih := delE_inst h2
    simp only [esI, List.map_cons, delE, hr, keyEq_inst e hr] at ih ⊢
    split
    · rfl
    · simp [ih]

def R.inst : R → R
  | .val v σ => .val (v.inst e) (σ.inst e)
  | .enter f args σ => .enter f (args.map (V.inst e)) (σ.inst e)
  | .pan v σ => .pan (v.inst e) (σ.inst e)

theorem meth_inst {m : MT} {σ : H} {t : TypeId} {v : V} {name : String} {p : FuncId × V} (h : meth m σ t v name = some p) : meth m (σ.inst e) t (v.inst e) name = some (p.1, p.2.inst e) := by
  unfold meth at h ⊢
  split at h
  · rename_i f hf
    simp at h; subst h
    simp only
  · rename_i hf
    split at h
    · rename_i t2 v2 hl
      split at h
      · rename_i f hf2
        simp at h; subst h
        have h3 : loadV (σ.inst e) 1 false (v.inst e) = some (.iface t2 (v2.inst e)) := loadV_inst e hl
        simp only [h3, hf2]
      · simp at h
    · simp at h
  · simp at h
theorem step_inst {m : MT} {σ : H} {x : X} (hx : x.own = true) {r : R} (h : step m σ ρ x = some r) : step m (σ.inst e) (insρ e ρ) x = some (r.inst e) := by
  cases x
  case l x =>
    simp only [step] at h ⊢
    obtain ⟨v, hv, rfl⟩ := map_some' h
    rw [stepL_inst e hx hv]; rfl
  case a x =>
    simp only [step] at h ⊢
    obtain ⟨⟨B, mk⟩, hv, rfl⟩ := map_some' h
    obtain ⟨h1, h2⟩ := stepA_inst e hx hv
    rw [h1]
    simp [R.inst, h2, H.new_inst]
  case load n g a =>
    simp only [step] at h ⊢
    obtain ⟨v, hv, rfl⟩ := map_some' h
    have : loadV (σ.inst e) n g (insρ e ρ a) = some (v.inst e) := loadV_inst e hv
    rw [this]; rfl
  case store n a v =>
    simp only [step] at h ⊢
    split at h
    · rename_i b o h1
      have h1' : insρ e ρ a = .ptr b o := by simp [insρ, h1, V.inst]
      have h2' : insρ e ρ v = (ρ v).inst e := rfl
      simp only [h1', h2', V.cells_inst, List.length_map]
      split at h
      · rename_i hc
        rw [if_pos hc]
        obtain ⟨σ2, hst, rfl⟩ := map_some' h
        rw [storeN_inst e hst]; rfl
      · simp at h
    · simp at h
  case eqp neg x y =>
    simp only [step] at h ⊢
    obtain ⟨r', hr, rfl⟩ := map_some' h
    have : ptrEq (σ.inst e) (insρ e ρ x) (insρ e ρ y) = some r' := ptrEq_inst e hr
    rw [this]; rfl
  case sliceA n z x lo hi =>
    simp only [step] at h ⊢
    rw [opt_insρ, opt_insρ]
    split at h
    · rename_i b o h1
      have h1' : insρ e ρ x = .ptr b o := by simp [insρ, h1, V.inst]
      simp only [h1']
      split at h
      · rename_i r m c hh l hb e1 e2
        rw [H.get_inst, hb, bound_inst e e1, bound_inst e e2]
        simp only [Option.map_some, Blk.inst]
        split at h
        · rename_i hc
          rw [if_pos hc]
          simp at h; subst h; rfl
        · simp at h
      · simp at h
    · simp at h
  case lookup zero ok mp k =>
    simp only [step] at h ⊢
    simp only [X.own] at hx
    have hz := V.closed_inst e zero hx
    split at h
    · rename_i h1
      have h1' : insρ e ρ mp = .mnil := by simp [insρ, h1, V.inst]
      simp only [h1']
      simp at h; subst h
      cases ok <;> simp [R.inst, V.inst, V.insts, hz]
    · rename_i r h1
      have h1' : insρ e ρ mp = .map r := by simp [insρ, h1, V.inst]
      simp only [h1']
      split at h
      · rename_i ro es hb
        rw [H.get_inst, hb]
        simp only [Option.map_some, Blk.inst]
        have hk : insρ e ρ k = (ρ k).inst e := rfl
        rw [hk]
        split at h
        · rename_i v hf
          rw [findE_inst e hf]
          simp at h; subst h
          cases ok <;> simp [R.inst, V.inst, V.insts]
        · rename_i hf
          rw [findE_inst e hf]
          simp at h; subst h
          cases ok <;> simp [R.inst, V.inst, V.insts, hz]
        · simp at h
      · simp at h
    · simp at h
  case update mp k v =>
    simp only [step] at h ⊢
    split at h
    · rename_i r h1
      have h1' : insρ e ρ mp = .map r := by simp [insρ, h1, V.inst]
      simp only [h1']
      split at h
      · rename_i es hb
        rw [H.get_inst, hb]
        simp only [Option.map_some, Blk.inst]
        have hk : insρ e ρ k = (ρ k).inst e := rfl
        have hv : insρ e ρ v = (ρ v).inst e := rfl
        rw [hk, hv]
        split at h
        · rename_i o hf
          rw [findE_inst e hf]
          simp only [Option.some.injEq] at h; subst h
          have := setE_inst e (v := ρ v) (findE_all hf)
          simp only [esI] at this
          simp only [R.inst, H.set_inst, Blk.inst, V.inst, this]
        · simp at h
      · simp at h
    · simp at h
  case delete mp k =>
    simp only [step] at h ⊢
    split at h
    · rename_i r h1
      have h1' : insρ e ρ mp = .map r := by simp [insρ, h1, V.inst]
      simp only [h1']
      split at h
      · rename_i es hb
        rw [H.get_inst, hb]
        simp only [Option.map_some, Blk.inst]
        have hk : insρ e ρ k = (ρ k).inst e := rfl
        rw [hk]
        split at h
        · rename_i o hf
          rw [findE_inst e hf]
          simp only [Option.some.injEq] at h; subst h
          have := delE_inst e (findE_all hf)
          simp only [esI] at this
          simp only [R.inst, H.set_inst, Blk.inst, V.inst, V.insts, this]
        · simp at h
      · simp at h
    · simp at h
  case lenM mp =>
    simp only [step] at h ⊢
    split at h
    · rename_i h1
      have h1' : insρ e ρ mp = .mnil := by simp [insρ, h1, V.inst]
      simp only [h1']
      simp at h; subst h; rfl
    · rename_i r h1
      have h1' : insρ e ρ mp = .map r := by simp [insρ, h1, V.inst]
      simp only [h1']
      split at h
      · rename_i ro es hb
        rw [H.get_inst, hb]
        simp at h; subst h
        simp [Blk.inst, R.inst, V.inst]
      · simp at h
    · simp at h
  case append z bytes s x =>
    simp only [step] at h ⊢
    obtain ⟨⟨v, σ2⟩, hv, rfl⟩ := map_some' h
    have : appendV (σ.inst e) z bytes (insρ e ρ s) (insρ e ρ x) = some (v.inst e, σ2.inst e) := appendV_inst e hv
    rw [this]; rfl
  case copy z d s =>
    simp only [step] at h ⊢
    obtain ⟨⟨v, σ2⟩, hv, rfl⟩ := map_some' h
    have : copyV (σ.inst e) z (insρ e ρ d) (insρ e ρ s) = some (v.inst e, σ2.inst e) := copyV_inst e hv
    rw [this]; rfl
  case clearS zs x =>
    simp only [step] at h ⊢
    simp only [X.own] at hx
    split at h
    · rename_i h1
      have h1' : insρ e ρ x = .snil := by simp [insρ, h1, V.inst]
      simp only [h1']
      simp at h; subst h; rfl
    · rename_i b o len c z h1
      have h1' : insρ e ρ x = .slice b o len c z := by simp [insρ, h1, V.inst]
      simp only [h1']
      split at h
      · rename_i hl
        rw [if_pos hl]
        simp at h; subst h; rfl
      · rename_i hl
        rw [if_neg hl]
        split at h
        · rename_i hz
          rw [if_pos hz]
          obtain ⟨σ2, hst, rfl⟩ := map_some' h
          have := storeN_inst e hst
          rw [repl_inst, V.closeds_map e hx] at this
          rw [this]; rfl
        · simp at h
    · simp at h
  case call f args =>
    simp only [step] at h ⊢
    simp at h; subst h
    rw [map_insρ]; rfl
  case callV f args =>
    simp only [step] at h ⊢
    split at h
    · rename_i g a c h1
      have h1' : insρ e ρ f = .fn (.func g) (a.map (V.inst e)) (c.map (V.inst e)) := by simp [insρ, h1, V.inst, V.insts_eq]
      simp only [h1']
      simp at h; subst h
      rw [map_insρ]
      simp [R.inst]
    · simp at h
  case invoke name recv args =>
    simp only [step] at h ⊢
    split at h
    · rename_i t v h1
      have h1' : insρ e ρ recv = .iface t (v.inst e) := by simp [insρ, h1, V.inst]
      simp only [h1']
      split at h
      · rename_i p hp
        simp at h; subst h
        rw [meth_inst e hp]
        simp only [map_insρ]; rfl
      · simp at h
    · simp at h
  case panic x =>
    simp only [step] at h ⊢
    split at h
    · rename_i t v h1
      have h1' : insρ e ρ x = .iface t (v.inst e) := by simp [insρ, h1, V.inst]
      simp only [h1']
      simp at h; subst h; rfl
    · simp at h

/-- An operation, in a frame with unknowns. -/
theorem step_vi {m : MT} {σ : H} {t : T V} {o : Op} (hc : o.closed = true) {r : R} (h : step m σ (ev t) o.x = some r) : step m (σ.inst e) (ev (T.vi e t)) o.x = some (r.inst e) := by
  simp only [Op.closed, Bool.and_eq_true, List.all_eq_true] at hc
  rw [← step_inst e hc.1 h]
  exact step_congr m _ _ fun q hq => by rw [ev_closed e t (hc.2 q hq)]; rfl
theorem stepL_vi {t : T V} {x : XL} (hown : x.own = true) (hq : ∀ q ∈ x.opds, q.closed = true) {v : V} (h : stepL (ev t) x = some v) : stepL (ev (T.vi e t)) x = some (v.inst e) := by
  rw [← stepL_inst e hown h]
  exact stepL_congr x fun q h' => by rw [ev_closed e t (hq q h')]; rfl
theorem stepA_vi {t : T V} {x : XA} (hown : x.own = true) (hq : ∀ q ∈ x.opds, q.closed = true) {B : Blk} {mk : Nat → V} (h : stepA (ev t) x = some (B, mk)) : stepA (ev (T.vi e t)) x = some (B.inst e, mk) ∧ ∀ b, (mk b).inst e = mk b := by
  rw [← (stepA_inst e hown h).1]
  exact ⟨stepA_congr x fun q h' => by rw [ev_closed e t (hq q h')]; rfl, (stepA_inst e hown h).2⟩
end

/-! The same value, the same with unknowns put in. -/
mutual
theorem V.same_inst (e : En) : ∀ (n : Nat) (a b : V), V.same n a b = true → V.same n (a.inst e) (b.inst e) = true
  | n, a, b, h => by
    have hab := V.same_eq n a b h
    subst hab
    cases n with
    | zero => cases a <;> simp_all [V.same, V.inst]
    | succ n =>
      cases a
      case fn f a c =>
        simp only [V.same, Bool.and_eq_true, decide_eq_true_eq] at h
        simp only [V.inst, V.same, Bool.and_eq_true, decide_eq_true_eq]
        exact ⟨⟨trivial, V.sames_inst e n a a h.1.2⟩, V.sames_inst e n c c h.2⟩
      case iface t v =>
        simp only [V.same, Bool.and_eq_true, decide_eq_true_eq] at h
        simp only [V.inst, V.same, Bool.and_eq_true, decide_eq_true_eq]
        exact ⟨trivial, V.same_inst e n v v h.2⟩
      case agg cs => simp only [V.inst, V.same] at h ⊢; exact V.sames_inst e n cs cs h
      case tup cs => simp only [V.inst, V.same] at h ⊢; exact V.sames_inst e n cs cs h
      all_goals simp_all [V.same, V.inst]
termination_by n => n
theorem V.sames_inst (e : En) : ∀ (n : Nat) (a b : List V), V.sames n a b = true → V.sames n (V.insts e a) (V.insts e b) = true
  | n, a, b, h => by
    cases n with
    | zero => cases a <;> cases b <;> simp_all [V.sames, V.insts]
    | succ n =>
      cases a with
      | nil => cases b <;> simp_all [V.sames, V.insts]
      | cons x a =>
        cases b with
        | nil => simp [V.sames] at h
        | cons y b =>
          simp only [V.sames, Bool.and_eq_true] at h
          simp only [V.insts, V.sames, Bool.and_eq_true]
          exact ⟨V.same_inst e n x y h.1, V.sames_inst e n a b h.2⟩
termination_by n => n
end

theorem held_inst (e : En) {n : Nat} {g : Bool} {a v : V} : ∀ {k : Nat} {hist : List H}, held n g a v k hist = true → held n g (a.inst e) (v.inst e) k (hist.map (H.inst e)) = true
  | 0, hist, _ => by cases hist <;> rfl
  | k + 1, [], h => by simp [held] at h
  | k + 1, σ :: r, h => by
    simp only [held, Bool.and_eq_true] at h
    simp only [List.map_cons, held, Bool.and_eq_true]
    refine ⟨?_, held_inst e h.2⟩
    have h1 := h.1
    split at h1
    · rename_i u hu
      rw [loadV_inst e hu]
      exact V.same_inst e _ _ _ h1
    · simp at h1
end Go.Abs
