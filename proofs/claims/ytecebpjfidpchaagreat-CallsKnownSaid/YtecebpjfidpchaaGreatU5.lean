/- PART of the proof of CallsKnown: Light operations agree with the program's. No condition. -/
import Derived.Test.YtecebpjfidpchaaGreatU4
/-! Light operations agree with the program's. -/
namespace Go.Abs

section inv
variable {φ : F} {v' : Value}
theorem VRel.int_inv {k : IntKind} {n : Int} (h : VRel φ (.int k n) v') : v' = .int k n := by cases h; rfl
theorem VRel.bool_inv {b : Bool} (h : VRel φ (.bool b) v') : v' = .bool b := by cases h; rfl
theorem VRel.str_inv {b : ByteArray} (h : VRel φ (.str b) v') : v' = .string b := by cases h; rfl
theorem VRel.ptr_inv {b o : Nat} (h : VRel φ (.ptr b o) v') : ∃ p, φ b = some p ∧ v' = .pointer (some ⟨p.cb, p.off + o, none⟩) := by cases h; exact ⟨_, ‹_›, rfl⟩
theorem VRel.agg_inv {cs : List V} (h : VRel φ (.agg cs) v') : ∃ cs', v' = .agg ⟨cs'⟩ ∧ VRels φ cs cs' := by cases h; exact ⟨_, rfl, ‹_›⟩
theorem VRel.tup_inv {cs : List V} (h : VRel φ (.tup cs) v') : ∃ cs', v' = .tuple ⟨cs'⟩ ∧ VRels φ cs cs' := by cases h; exact ⟨_, rfl, ‹_›⟩
theorem VRel.iface_inv {t : TypeId} {v : V} (h : VRel φ (.iface t v) v') : ∃ u, v' = .iface t u ∧ VRel φ v u := by cases h; exact ⟨_, rfl, ‹_›⟩
theorem VRel.fn_inv {f : Fn} {a c : List V} (h : VRel φ (.fn f a c) v') : ∃ a' c', v' = .func f ⟨a'⟩ ⟨c'⟩ ∧ VRels φ a a' ∧ VRels φ c c' := by cases h; exact ⟨_, _, rfl, ‹_›, ‹_›⟩
theorem VRel.slice_inv {b o len cap z : Nat} (h : VRel φ (.slice b o len cap z) v') :
    (∃ p cap', φ b = some p ∧ len ≤ cap ∧ cap ≤ cap' ∧ p.off + o + cap' * z ≤ p.size ∧ v' = .slice (some ⟨p.cb, p.off + o, none⟩) len cap') ∨
    (len = 0 ∧ cap = 0 ∧ ∃ a, v' = .slice (some a) 0 0) := by
  cases h
  · exact .inl ⟨_, _, ‹_›, ‹_›, ‹_›, ‹_›, rfl⟩
  · exact .inr ⟨rfl, rfl, _, rfl⟩
theorem VRel.snil_inv (h : VRel φ .snil v') : v' = .slice none 0 0 := by cases h; rfl
theorem VRel.inil_inv (h : VRel φ .inil v') : v' = .nilIface := by cases h; rfl
theorem VRel.map_inv {b : Nat} (h : VRel φ (.map b) v') : ∃ p, φ b = some p ∧ v' = .map (some p.cb) := by cases h; exact ⟨_, ‹_›, rfl⟩
theorem VRel.mnil_inv (h : VRel φ .mnil v') : v' = .map none := by cases h; rfl
end inv

section
variable {P : Program} {gl : List Nat} {φ : F} {ρ : Opd → V} {ρ' : Operand → Value}

/-- What is to be shown of an operation that only computes. -/
def Light (P : Program) (φ : F) (ρ' : Operand → Value) (o : Oper) (v : V) : Prop := ∀ w : World, ∃ v', (execOp ρ' o).run P w = .ok (.value v') w ∧ VRel φ v v'

theorem map_some' {α β : Type} {f : α → β} {o : Option α} {b : β} (h : o.map f = some b) : ∃ a, o = some a ∧ b = f a := by
  cases o with
  | none => simp at h
  | some a => simp at h; exact ⟨a, rfl, h.symm⟩

theorem light_arith (o : Oper) (op : BinOp) (t yt : TypeId) (x y : Operand) (ho : o.op = .binOp op t x y yt) (k : IntKind) (a b : Int) (hx : ρ' x = .int k a) (hy : ρ' y = .int k b)
    (hns : ¬ (op = .shl ∨ op = .shr)) {v : V} (h : arithV op k a b = some v) : Light P φ ρ' o v := by
  intro w
  cases op <;> simp at hns <;> simp only [arithV] at h
  case quo =>
    split at h
    · simp at h
    · rename_i hb
      simp at h; subst h
      exact ⟨_, by simp [execOp, ho, hx, hy, eqGuard, binOp, Op.intDiv, hb], .int _ _⟩
  case rem =>
    split at h
    · simp at h
    · rename_i hb
      simp at h; subst h
      exact ⟨_, by simp [execOp, ho, hx, hy, eqGuard, binOp, Op.intDiv, hb], .int _ _⟩
  all_goals
    simp at h
    subst h
    exact ⟨_, by simp [execOp, ho, hx, hy, eqGuard, binOp, Op.intArith, Op.intBits, Op.intCmp]; rfl, by constructor⟩

theorem light_shift (o : Oper) (op : BinOp) (t yt : TypeId) (x y : Operand) (ho : o.op = .binOp op t x y yt) (k k' : IntKind) (a b : Int) (hx : ρ' x = .int k a) (hy : ρ' y = .int k' b)
    {v : V} (h : shiftV op k a b = some v) : Light P φ ρ' o v := by
  intro w
  unfold shiftV at h
  split at h
  · simp at h
  · rename_i hb
    cases op <;> simp at h <;> subst h
    all_goals exact ⟨_, by simp [execOp, ho, hx, hy, eqGuard, binOp, Op.shift, hb], .int _ _⟩

theorem light_un (o : Oper) (op : UnOp) (t : TypeId) (x : Operand) (ho : o.op = .unOp op t x) {u v : V} (hx : VRel φ u (ρ' x)) (h : unV op u = some v) : Light P φ ρ' o v := by
  intro w
  unfold unV at h
  split at h
  · have e := hx.bool_inv
    cases op <;> simp at h
    subst h
    exact ⟨_, by simp [execOp, ho, e, Op.unary], .bool _⟩
  · have e := hx.int_inv
    cases op <;> simp at h
    all_goals
      subst h
      exact ⟨_, by simp [execOp, ho, e, Op.unary, Op.intArith, Op.intBits], .int _ _⟩
  · simp at h

theorem part_sound {cs : List V} {cs' : List Value} (hc : VRels φ cs cs') {off n : Nat} {g : Bool} {v : V} (h : partL cs off n g = some v) {t : TypeId} (hn : sizeOfT P t = some n) (hg : aggT P t = some g) (w : World) :
    ∃ v', (part t ⟨cs'⟩ off).run P w = .ok v' w ∧ VRel φ v v' := by
  unfold partL at h
  split at h
  · rename_i hgt
    simp at h; subst h
    subst hgt
    refine ⟨.agg ⟨(cs'.drop off).take n⟩, ?_, .agg _ _ ((hc.drop off).take n)⟩
    have e : (⟨cs'⟩ : Array Value).extract off (off + n) = ⟨(cs'.drop off).take n⟩ := by
      apply Array.toList_inj.1
      simp [List.extract_eq_take_drop]
    simp only [List.extract_toArray] at e
    simp [part, run_aggT hg, run_sizeOfT hn]
  · rename_i hgf
    obtain ⟨v', e, r⟩ := hc.get off v h
    have : g = false := by simpa using hgf
    subst this
    exact ⟨v', by simp [part, run_aggT hg, e], r⟩

theorem bound_sound {b : Option Opd} {b' : Option Operand} (he : Env φ gl ρ ρ') (hb : compOo gl b' = some b) {d h : Nat} (hh : bound d (b.map ρ) = some h) :
    (b' = none ∧ h = d) ∨ (∃ x k, b' = some x ∧ ρ' x = .int k (h : Int)) := by
  cases b' with
  | none => simp [compOo] at hb; subst hb; simp [bound] at hh; exact .inl ⟨rfl, hh.symm⟩
  | some x =>
    simp only [compOo] at hb
    obtain ⟨y, hy, rfl⟩ := map_some' hb
    have hv := he x y hy
    simp only [Option.map_some] at hh
    cases e : ρ y <;> rw [e] at hh <;> simp [bound] at hh
    rename_i k n
    rw [e] at hv
    obtain ⟨hn, rfl⟩ := hh
    refine .inr ⟨x, k, rfl, ?_⟩
    rw [hv.int_inv, Int.toNat_of_nonneg hn]

theorem run_sliceBound (k : IntKind) (h y : Nat) (c : BoundsCode) (hle : h ≤ y) (w : World) : (Instr.sliceBound (.int k (h : Int)) y c).run P w = .ok h w := by
  have : (h : Int) ≤ y := by omega
  simp [Instr.sliceBound, asIntOf, this]

theorem run_sliceBounds {lo hi : Option Opd} {lo' hi' : Option Operand} (he : Env φ gl ρ ρ') (hl : compOo gl lo' = some lo) (hh : compOo gl hi' = some hi) {isS : Bool} {len cap l h : Nat}
    (el : bound 0 (lo.map ρ) = some l) (eh : bound len (hi.map ρ) = some h) (h1 : l ≤ h) (h2 : h ≤ cap) (w : World) :
    (Instr.sliceBounds isS len cap (lo'.map ρ') (hi'.map ρ') none).run P w = .ok (l, h, cap) w := by
  have a := bound_sound he hl el
  have b := bound_sound he hh eh
  have k1 : ∀ c (k : IntKind) w, (Instr.sliceBound (.int k (h : Int)) cap c).run P w = .ok h w := fun c k w => run_sliceBound k h cap c h2 w
  have k2 : ∀ c (k : IntKind) w, (Instr.sliceBound (.int k (l : Int)) h c).run P w = .ok l w := fun c k w => run_sliceBound k l h c h1 w
  rcases a with ⟨rfl, rfl⟩ | ⟨x, k, rfl, ex⟩ <;> rcases b with ⟨rfl, rfl⟩ | ⟨y, k', rfl, ey⟩
  · simp [Instr.sliceBounds]
  · simp [Instr.sliceBounds, ey, k1]
  · simp [Instr.sliceBounds, ex, k2]
  · simp [Instr.sliceBounds, ex, ey, k1, k2]

theorem add_eq (cb off n : Nat) : (⟨cb, off, none⟩ : Addr).add n = ⟨cb, off + n, none⟩ := by
  unfold Addr.add
  split
  · rename_i h; subst h; rfl
  · rfl

theorem sliceV_sound {z : Nat} {x : V} {x' : Value} {lo hi : Option Opd} {lo' hi' : Option Operand} (he : Env φ gl ρ ρ') (hl : compOo gl lo' = some lo) (hh : compOo gl hi' = some hi)
    (hx : VRel φ x x') {t e : TypeId} (ht : P.underlying t = some (.slice e)) (hz : sizeOfT P e = some z) {v : V} (h : sliceV z x (lo.map ρ) (hi.map ρ) = some v) (w : World) :
    ∃ v', (Instr.sliceAt t x' (lo'.map ρ') (hi'.map ρ') none).run P w = .ok v' w ∧ VRel φ v v' := by
  unfold sliceV at h
  split at h
  · rename_i b o len cap z'
    split at h
    · rename_i hv lv eh el
      split at h
      · rename_i hc
        obtain ⟨h1, h2, h3⟩ := hc
        subst h3
        simp at h; subst h
        rcases hx.slice_inv with ⟨p, cap', hp, c1, c2, c3, rfl⟩ | ⟨rfl, rfl, a, rfl⟩
        · have rb := run_sliceBounds (P := P) (isS := true) (len := len) (cap := cap') he hl hh el eh h1 (by omega) w
          by_cases hm : cap' = lv
          · subst hm
            have hh2 : hv - cap' = 0 := by omega
            have hcap : cap - cap' = 0 := by omega
            refine ⟨.slice (some ⟨p.cb, p.off + o, none⟩) 0 0, ?_, ?_⟩
            · simp [Instr.sliceAt, Instr.slice, run_underlying ht, rb, run_sizeOfT hz, hh2]
            · rw [hh2, hcap]; exact .sliceE _ _ _ _
          · refine ⟨.slice (some ⟨p.cb, p.off + o + lv * z', none⟩) (hv - lv) (cap' - lv), ?_, ?_⟩
            · simp [Instr.sliceAt, Instr.slice, run_underlying ht, rb, run_sizeOfT hz, hm, add_eq]
            · have := VRel.slice (φ := φ) b (o + lv * z') (hv - lv) (cap - lv) z' (cap' - lv) p hp (by omega) (by omega) (by
                have e1 : (cap' - lv) * z' = cap' * z' - lv * z' := Nat.sub_mul _ _ _
                have e2 : lv * z' ≤ cap' * z' := Nat.mul_le_mul_right _ (by omega)
                omega)
              rwa [show p.off + (o + lv * z') = p.off + o + lv * z' from by omega] at this
        · have hv0 : hv = 0 := by omega
          have lv0 : lv = 0 := by omega
          subst hv0; subst lv0
          have rb := run_sliceBounds (P := P) (isS := true) (len := 0) (cap := 0) he hl hh el eh (Nat.le_refl _) (Nat.le_refl _) w
          refine ⟨.slice (some a) 0 0, ?_, ?_⟩
          · simp [Instr.sliceAt, Instr.slice, run_underlying ht, rb, run_sizeOfT hz]
          · exact .sliceE _ _ _ _
      · simp at h
    · simp at h
  · split at h
    · rename_i eh el
      simp at h; subst h
      have e := hx.snil_inv
      subst e
      have rb := run_sliceBounds (P := P) (isS := true) (len := 0) (cap := 0) he hl hh el eh (Nat.le_refl _) (Nat.le_refl _) w
      refine ⟨.slice none 0 0, ?_, .snil⟩
      simp [Instr.sliceAt, Instr.slice, run_underlying ht, rb, run_sizeOfT hz]
    · simp at h
  · simp at h

theorem light_sound (he : Env φ gl ρ ρ') {o : Oper} {x : XL} (hc : compL P gl o.op = some x) {v : V} (hs : stepL ρ x = some v) : Light P φ ρ' o v := by
  cases ho : o.op <;> rw [ho] at hc
  case move q =>
    obtain ⟨a, ha, rfl⟩ := map_some' hc
    simp [stepL] at hs; subst hs
    exact fun w => ⟨_, by simp [execOp, ho], he _ _ ha⟩
  case assign q =>
    obtain ⟨a, ha, rfl⟩ := map_some' hc
    simp [stepL] at hs; subst hs
    exact fun w => ⟨_, by simp [execOp, ho], he _ _ ha⟩
  case pick c a b =>
    simp only [compL] at hc
    split at hc
    · rename_i c1 hc1
      obtain ⟨a1, b1, ha, hb, rfl⟩ := comp2_eq hc
      have hv := he _ _ hc1
      simp only [stepL] at hs
      split at hs
      · rename_i t ht
        rw [ht] at hv
        simp at hs; subst hs
        intro w
        have hcb : (asBool (ρ' c)).run P w = .ok t w := by rw [hv.bool_inv]; simp [asBool]
        cases t
        · exact ⟨ρ' b, by simp [execOp, ho, hcb], he _ _ hb⟩
        · exact ⟨ρ' a, by simp [execOp, ho, hcb], he _ _ ha⟩
      · simp at hs
    · simp at hc
  case build t parts =>
    simp only [compL] at hc
    split at hc
    · rename_i zs fs hz ht
      split at hc
      · rename_i pl hpl
        obtain ⟨l, hl, rfl⟩ := map_some' hc
        simp only [stepL] at hs
        obtain ⟨r, hr, rfl⟩ := map_some' hs
        intro w
        obtain ⟨z', hz', hzr⟩ := run_zeroOf hz φ w
        obtain ⟨zs', rfl, hzs⟩ := hzr.agg_inv
        obtain ⟨r', h1, h2⟩ := fill_rel he (fun i => pl[i]?) hl hzs hr
        refine ⟨.agg ⟨r'⟩, ?_, .agg _ _ h2⟩
        have hpl' : (fs.mapM fun f => do pure (f.offset, ← sizeOf f.type) : Sem (Array (Nat × Nat))).run P w = .ok pl.toArray w := by
          have := run_places (w := w) hpl
          rw [Array.mapM_eq_mapM_toList]
          simp only [Sem.run_map, this, Result.andThen_ok]
        have hf : Instr.fill (fun i => pl.toArray[i]?) ⟨zs'⟩ (parts.map fun p => (p.1, ρ' p.2)).toList = some ⟨r'⟩ := by
          simpa using h1
        simp only [execOp, ho]
        simp [Instr.build, run_underlying ht, hz', Value.cells]
        simp at hpl'
        simp [hpl']
        simp at hf
        simp [hf]
      · simp at hc
    · rename_i zs e hz ht
      split at hc
      · rename_i n hn
        obtain ⟨l, hl, rfl⟩ := map_some' hc
        simp only [stepL] at hs
        obtain ⟨r, hr, rfl⟩ := map_some' hs
        intro w
        obtain ⟨z', hz', hzr⟩ := run_zeroOf hz φ w
        obtain ⟨zs', rfl, hzs⟩ := hzr.agg_inv
        obtain ⟨r', h1, h2⟩ := fill_rel he (fun i => some (i * n, n)) hl hzs hr
        refine ⟨.agg ⟨r'⟩, ?_, .agg _ _ h2⟩
        have hf : Instr.fill (fun i => some (i * n, n)) ⟨zs'⟩ (parts.map fun p => (p.1, ρ' p.2)).toList = some ⟨r'⟩ := by
          simpa using h1
        simp at hf
        simp [execOp, ho, Instr.build, run_underlying ht, hz', Value.cells, run_sizeOfT hn, hf]
      · simp at hc
    · simp at hc
  case nilCheck q =>
    obtain ⟨a, ha, rfl⟩ := map_some' hc
    simp only [stepL] at hs
    have hv := he _ _ ha
    intro w
    split at hs
    · rename_i b o2 e
      simp at hs; subst hs
      rw [e] at hv
      obtain ⟨p, hp, e2⟩ := hv.ptr_inv
      exact ⟨_, by simp [execOp, ho, e2], e2 ▸ hv⟩
    · rename_i t v2 e
      simp at hs; subst hs
      rw [e] at hv
      obtain ⟨u, e2, hu⟩ := hv.iface_inv
      exact ⟨_, by simp [execOp, ho, e2], e2 ▸ hv⟩
    · rename_i f a b e
      simp at hs; subst hs
      rw [e] at hv
      obtain ⟨a', c', e2, _, _⟩ := hv.fn_inv
      exact ⟨_, by simp [execOp, ho, e2], e2 ▸ hv⟩
    · simp at hs
  case binOp op t x y yt =>
    simp only [compL] at hc
    split at hc
    · rename_i kk ht
      obtain ⟨a1, b1, ha, hb, rfl⟩ := comp2_eq hc
      have hva := he _ _ ha
      have hvb := he _ _ hb
      split at hs
      · simp only [stepL] at hs
        split at hs
        · rename_i k a k' b e1 e2
          rw [e1] at hva; rw [e2] at hvb
          exact light_shift o op t yt x y ho k k' a b hva.int_inv hvb.int_inv hs
        · simp at hs
      · rename_i hns
        simp only [stepL] at hs
        split at hs
        · rename_i k a k' b e1 e2
          split at hs
          · rename_i hk
            subst hk
            rw [e1] at hva; rw [e2] at hvb
            exact light_arith o op t yt x y ho k a b hva.int_inv hvb.int_inv hns hs
          · simp at hs
        · simp at hs
    · split at hc
      · rename_i hop
        split at hc
        · rename_i e hk
          obtain ⟨a1, b1, ha, hb, rfl⟩ := comp2_eq hc
          have hva := he _ _ ha
          have hvb := he _ _ hb
          simp only [stepL] at hs
          obtain ⟨r, hr, rfl⟩ := map_some' hs
          intro w
          obtain ⟨q1, q2⟩ := eq_sound (P := P) hop x y (eqOk_of hk) (anyOk_of hk) hva hvb hr w
          exact ⟨_, by simp only [execOp, ho]; simp only [Sem.run_bind, q1, q2, Result.andThen_ok, Sem.run_pure], .bool _⟩
        · simp at hc
      · simp at hc
  case unOp op t q =>
    obtain ⟨a, ha, rfl⟩ := map_some' hc
    exact light_un o op t q ho (he _ _ ha) hs
  case convert s d q =>
    simp only [compL] at hc
    split at hc
    · rename_i k1 k hs1 hd1
      obtain ⟨a, ha, rfl⟩ := map_some' hc
      simp only [stepL] at hs
      have hv := he _ _ ha
      split at hs
      · rename_i k2 n e
        simp at hs; subst hs
        rw [e] at hv
        exact fun w => ⟨_, by simp [execOp, ho, convert, run_underlying hs1, run_underlying hd1, hv.int_inv, Conv.intToInt], .int _ _⟩
      · simp at hs
    · simp at hc
  case makeInterface t q =>
    simp only [compL] at hc
    split at hc
    · simp at hc
    · rename_i d hni hd
      obtain ⟨a, ha, rfl⟩ := map_some' hc
      simp [stepL] at hs; subst hs
      intro w
      refine ⟨_, ?_, .iface t _ _ (he _ _ ha)⟩
      cases d <;> first
        | (exact absurd rfl (hni _)) 
        | (simp [execOp, ho, Instr.makeInterface, run_underlying hd])
    · simp at hc
  case makeFunc fn first cap =>
    simp only [compL] at hc
    split at hc
    · rename_i a b ha hb
      simp at hc; subst hc
      simp [stepL] at hs; subst hs
      intro w
      refine ⟨.func fn ⟨first.toList.map ρ'⟩ ⟨cap.toList.map ρ'⟩, ?_, .fn _ _ _ _ _ (optMap_env he ha) (optMap_env he hb)⟩
      have e1 : (⟨first.toList.map ρ'⟩ : Array Value) = first.map ρ' := by apply Array.toList_inj.1; simp
      have e2 : (⟨cap.toList.map ρ'⟩ : Array Value) = cap.map ρ' := by apply Array.toList_inj.1; simp
      rw [e1, e2]
      simp [execOp, ho, Instr.makeFunc]
    · simp at hc
  case slice t x lo hi mx =>
    cases mx with
    | some m => simp [compL] at hc
    | none =>
      simp only [compL] at hc
      split at hc
      · rename_i e lo2 hi2 ht hl hh
        split at hc
        · rename_i n hn
          obtain ⟨a, ha, rfl⟩ := map_some' hc
          simp only [stepL] at hs
          intro w
          obtain ⟨v', h1, h2⟩ := sliceV_sound he hl hh (he _ _ ha) ht hn hs w
          exact ⟨v', by simp [execOp, ho, h1], h2⟩
        · simp at hc
      · simp at hc
  case fieldAddr s q f =>
    simp only [compL] at hc
    split at hc
    · rename_i fs ht
      split at hc
      · rename_i fd hfd
        split at hc
        · rename_i n hn
          obtain ⟨a, ha, rfl⟩ := map_some' hc
          simp only [stepL] at hs
          have hv := he _ _ ha
          split at hs
          · rename_i b o2 e
            simp at hs; subst hs
            rw [e] at hv
            obtain ⟨p, hp, e2⟩ := hv.ptr_inv
            intro w
            refine ⟨.pointer (some ⟨p.cb, p.off + (o2 + fd.offset), none⟩), ?_, .ptr _ _ p hp⟩
            simp [execOp, ho, Instr.fieldAt, run_underlying ht, hfd, Instr.sureAddr, e2, fieldPlace, run_sizeOfT hn, add_eq, Nat.add_assoc]
          · simp at hs
        · simp at hc
      · simp at hc
    · simp at hc
  case field t q f =>
    simp only [compL] at hc
    split at hc
    · rename_i fs ht
      split at hc
      · rename_i fd hfd
        split at hc
        · rename_i n g hn hg
          obtain ⟨a, ha, rfl⟩ := map_some' hc
          simp only [stepL] at hs
          have hv := he _ _ ha
          split at hs
          · rename_i cs e
            rw [e] at hv
            obtain ⟨cs', e2, hcs⟩ := hv.agg_inv
            intro w
            obtain ⟨v', h1, h2⟩ := part_sound hcs hs hn hg w
            exact ⟨v', by simp [execOp, ho, Instr.field, run_underlying ht, hfd, e2, asAgg, h1], h2⟩
          · simp at hs
        · simp at hc
      · simp at hc
    · simp at hc
  case indexAddr t x i =>
    simp only [compL] at hc
    split at hc
    · rename_i e ht
      split at hc
      · rename_i n hn
        obtain ⟨a1, b1, ha, hb, rfl⟩ := comp2_eq hc
        have hva := he _ _ ha
        have hvb := he _ _ hb
        simp only [stepL] at hs
        split at hs
        · rename_i b o2 len cap z k m e1 e2
          rw [e1] at hva; rw [e2] at hvb
          split at hs
          · rename_i hc2
            obtain ⟨c1, c2, rfl⟩ := hc2
            simp at hs; subst hs
            rcases hva.slice_inv with ⟨p, cap', hp, d1, d2, d3, e3⟩ | ⟨rfl, _⟩
            · intro w
              refine ⟨.pointer (some ⟨p.cb, p.off + (o2 + m.toNat * (n + 1)), none⟩), ?_, .ptr _ _ p hp⟩
              simp [execOp, ho, Instr.indexAt, run_underlying ht, asIntOf, hvb.int_inv, e3, c1, c2, run_sizeOfT hn, add_eq, Nat.add_assoc]
            · omega
          · simp at hs
        · simp at hs
      · simp at hc
    · rename_i len e ht
      split at hc
      · rename_i n hn
        obtain ⟨a1, b1, ha, hb, rfl⟩ := comp2_eq hc
        have hva := he _ _ ha
        have hvb := he _ _ hb
        simp only [stepL] at hs
        split at hs
        · rename_i b o2 k m e1 e2
          rw [e1] at hva; rw [e2] at hvb
          split at hs
          · rename_i hc2
            obtain ⟨c1, c2⟩ := hc2
            simp at hs; subst hs
            obtain ⟨p, hp, e3⟩ := hva.ptr_inv
            intro w
            refine ⟨.pointer (some ⟨p.cb, p.off + (o2 + m.toNat * n), none⟩), ?_, .ptr _ _ p hp⟩
            simp [execOp, ho, Instr.indexAt, run_underlying ht, asIntOf, hvb.int_inv, e3, Instr.sureAddr, c1, c2, run_sizeOfT hn, add_eq, Nat.add_assoc]
          · simp at hs
        · simp at hs
      · simp at hc
    · simp at hc
  case index t x i =>
    simp only [compL] at hc
    split at hc
    · rename_i len e ht
      split at hc
      · rename_i n g hn hg
        obtain ⟨a1, b1, ha, hb, rfl⟩ := comp2_eq hc
        have hva := he _ _ ha
        have hvb := he _ _ hb
        simp only [stepL] at hs
        split at hs
        · rename_i cs k m e1 e2
          rw [e1] at hva; rw [e2] at hvb
          split at hs
          · rename_i hc2
            obtain ⟨c1, c2⟩ := hc2
            obtain ⟨cs', e3, hcs⟩ := hva.agg_inv
            intro w
            obtain ⟨v', h1, h2⟩ := part_sound hcs hs hn hg w
            exact ⟨v', by simp [execOp, ho, Instr.index, run_underlying ht, asIntOf, hvb.int_inv, e3, c1, c2, run_sizeOfT hn, h1], h2⟩
          · simp at hs
        · simp at hs
      · simp at hc
    · simp at hc
  case extract q i =>
    obtain ⟨a, ha, rfl⟩ := map_some' hc
    simp only [stepL] at hs
    have hv := he _ _ ha
    split at hs
    · rename_i vs e
      rw [e] at hv
      obtain ⟨cs', e3, hcs⟩ := hv.tup_inv
      obtain ⟨v', h1, h2⟩ := hcs.get i v hs
      exact fun w => ⟨v', by simp [execOp, ho, Instr.extract, e3, h1], h2⟩
    · simp at hs
  case typeAssert x xt t ok =>
    simp only [compL] at hc
    split at hc
    · simp at hc
    · rename_i d hni hd
      have hd' : ∀ ms, d ≠ .interface ms := fun ms e => hni ms (e ▸ rfl)
      split at hc
      · rename_i hok
        subst hok
        split at hc
        · rename_i z hz
          obtain ⟨a, ha, rfl⟩ := map_some' hc
          have hv := he _ _ ha
          simp only [stepL] at hs
          intro w
          obtain ⟨z', hz', hzr⟩ := run_zeroOf hz φ w
          split at hs
          · rename_i t' u e
            rw [e] at hv
            obtain ⟨u', e3, hu⟩ := hv.iface_inv
            split at hs
            · rename_i ht
              subst ht
              simp at hs; subst hs
              refine ⟨.tuple #[u', .bool true], ?_, .tup _ _ (.cons _ _ _ _ hu (.cons _ _ _ _ (.bool _) .nil))⟩
              cases d <;> first
                | exact absurd rfl (hd' _)
                | simp [execOp, ho, Instr.typeAssert, run_underlying hd, e3]
            · rename_i ht
              simp at hs; subst hs
              refine ⟨.tuple #[z', .bool false], ?_, .tup _ _ (.cons _ _ _ _ hzr (.cons _ _ _ _ (.bool _) .nil))⟩
              cases d <;> first
                | exact absurd rfl (hd' _)
                | simp [execOp, ho, Instr.typeAssert, run_underlying hd, e3, ht, hz']
          · rename_i e
            rw [e] at hv
            simp at hs; subst hs
            refine ⟨.tuple #[z', .bool false], ?_, .tup _ _ (.cons _ _ _ _ hzr (.cons _ _ _ _ (.bool _) .nil))⟩
            cases d <;> first
              | exact absurd rfl (hd' _)
              | simp [execOp, ho, Instr.typeAssert, run_underlying hd, hv.inil_inv, hz']
          · simp at hs
        · simp at hc
      · rename_i hok
        have hok : ok = false := by simpa using hok
        subst hok
        obtain ⟨a, ha, rfl⟩ := map_some' hc
        have hv := he _ _ ha
        simp only [stepL] at hs
        intro w
        split at hs
        · rename_i t' u e
          rw [e] at hv
          obtain ⟨u', e3, hu⟩ := hv.iface_inv
          split at hs
          · rename_i ht
            subst ht
            simp at hs; subst hs
            refine ⟨u', ?_, hu⟩
            cases d <;> first
              | exact absurd rfl (hd' _)
              | simp [execOp, ho, Instr.typeAssert, run_underlying hd, e3]
          · simp at hs
        · simp at hs
        · simp at hs
    · simp at hc
  case call c =>
    obtain ⟨ce, args, ts⟩ := c
    cases ce with
    | builtin b =>
      cases b <;> simp only [compL] at hc <;> try (simp at hc; done)
      case len =>
        split at hc
        · rename_i x t hx hts
          have hargs : args = #[x] := by apply Array.toList_inj.1; simpa using hx
          subst hargs
          split at hc
          · rename_i e ht
            obtain ⟨a, ha, rfl⟩ := map_some' hc
            have hv := he _ _ ha
            simp only [stepL] at hs
            split at hs
            · rename_i b o2 len cap z e1
              rw [e1] at hv
              simp at hs; subst hs
              rcases hv.slice_inv with ⟨p, cap', hp, d1, d2, d3, e3⟩ | ⟨rfl, _, a2, e3⟩
              · exact fun w => ⟨_, by simp [execOp, ho, resolve, invoke, builtin, Builtin.len_, hts, run_underlying ht, e3, goInt], .int _ _⟩
              · exact fun w => ⟨_, by simp [execOp, ho, resolve, invoke, builtin, Builtin.len_, hts, run_underlying ht, e3, goInt], .int _ _⟩
            · rename_i e1
              rw [e1] at hv
              simp at hs; subst hs
              exact fun w => ⟨_, by simp [execOp, ho, resolve, invoke, builtin, Builtin.len_, hts, run_underlying ht, hv.snil_inv, goInt], .int _ _⟩
            · simp at hs
          · rename_i ht
            obtain ⟨a, ha, rfl⟩ := map_some' hc
            have hv := he _ _ ha
            simp only [stepL] at hs
            split at hs
            · rename_i s e1
              rw [e1] at hv
              simp at hs; subst hs
              exact fun w => ⟨_, by simp [execOp, ho, resolve, invoke, builtin, Builtin.len_, hts, run_underlying ht, hv.str_inv, goInt], .int _ _⟩
            · simp at hs
          · simp at hc
        · simp at hc
      case max =>
        split at hc
        · rename_i x y hx
          have hargs : args = #[x, y] := by apply Array.toList_inj.1; simpa using hx
          subst hargs
          obtain ⟨a1, b1, ha, hb, rfl⟩ := comp2_eq hc
          have hva := he _ _ ha
          have hvb := he _ _ hb
          simp only [stepL] at hs
          split at hs
          · rename_i k a k' b e1 e2
            rw [e1] at hva; rw [e2] at hvb
            split at hs
            · rename_i hk
              subst hk
              simp at hs; subst hs
              exact fun w => ⟨_, by simp [execOp, ho, resolve, invoke, builtin, Builtin.max_, Builtin.max2, hva.int_inv, hvb.int_inv], .int _ _⟩
            · simp at hs
          · simp at hs
        · simp at hc
      case min =>
        split at hc
        · rename_i x y hx
          have hargs : args = #[x, y] := by apply Array.toList_inj.1; simpa using hx
          subst hargs
          obtain ⟨a1, b1, ha, hb, rfl⟩ := comp2_eq hc
          have hva := he _ _ ha
          have hvb := he _ _ hb
          simp only [stepL] at hs
          split at hs
          · rename_i k a k' b e1 e2
            rw [e1] at hva; rw [e2] at hvb
            split at hs
            · rename_i hk
              subst hk
              simp at hs; subst hs
              exact fun w => ⟨_, by simp [execOp, ho, resolve, invoke, builtin, Builtin.min_, Builtin.min2, hva.int_inv, hvb.int_inv], .int _ _⟩
            · simp at hs
          · simp at hs
        · simp at hc
    | _ => simp [compL] at hc
  all_goals simp [compL] at hc

end
end Go.Abs
