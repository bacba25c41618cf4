/- PART of the proof of VmKnown: A rule for loops that forget: many rounds at once. No condition. -/
import Derived.Test.YtickjkmfcickcaaGreatDoorU35
/-! A rule for loops that forget: many rounds at once. -/
namespace Go.Abs
set_option linter.unusedVariables false

/-! ### Alike, piece by piece -/
def T.eqV : T V → T V → Bool
  | .e, .e => true
  | .n l v r, .n l' v' r' => (match v, v' with | none, none => true | some a, some b => V.same 40 a b | _, _ => false) && T.eqV l l' && T.eqV r r'
  | _, _ => false
theorem T.eqV_eq : ∀ {a b : T V}, T.eqV a b = true → a = b := by
  intro a
  induction a with
  | e => intro b h; cases b with
    | e => rfl
    | n l v r => simp [T.eqV] at h
  | n l v r ihl ihr =>
    intro b h
    cases b with
    | e => simp [T.eqV] at h
    | n l' v' r' =>
      simp only [T.eqV, Bool.and_eq_true] at h
      obtain ⟨⟨h1, h2⟩, h3⟩ := h
      rw [ihl h2, ihr h3]
      congr 1
      cases v <;> cases v' <;> simp at h1
      · rfl
      · rw [V.same_eq _ _ _ h1]
def Blk.eqB : Blk → Blk → Bool
  | .cells r n c, .cells r' n' c' => (r == r') && decide (n = n') && T.eqV c c'
  | .map r es, .map r' es' => (r == r') && sameEs es es'
  | _, _ => false
theorem Blk.eqB_eq {a b : Blk} (h : Blk.eqB a b = true) : a = b := by
  cases a <;> cases b <;> simp only [Blk.eqB, Bool.and_eq_true, beq_iff_eq, decide_eq_true_eq] at h
  · obtain ⟨⟨rfl, rfl⟩, h⟩ := h; rw [T.eqV_eq h]
  · simp at h
  · simp at h
  · obtain ⟨rfl, h⟩ := h; rw [sameEs_eq h]
def T.eqB : T Blk → T Blk → Bool
  | .e, .e => true
  | .n l v r, .n l' v' r' => (match v, v' with | none, none => true | some a, some b => Blk.eqB a b | _, _ => false) && T.eqB l l' && T.eqB r r'
  | _, _ => false
theorem T.eqB_eq : ∀ {a b : T Blk}, T.eqB a b = true → a = b := by
  intro a
  induction a with
  | e => intro b h; cases b with
    | e => rfl
    | n l v r => simp [T.eqB] at h
  | n l v r ihl ihr =>
    intro b h
    cases b with
    | e => simp [T.eqB] at h
    | n l' v' r' =>
      simp only [T.eqB, Bool.and_eq_true] at h
      obtain ⟨⟨h1, h2⟩, h3⟩ := h
      rw [ihl h2, ihr h3]
      congr 1
      cases v <;> cases v' <;> simp at h1
      · rfl
      · rw [Blk.eqB_eq h1]
abbrev St := T V × H
def St.eqS (a b : St) : Bool := T.eqV a.1 b.1 && decide (a.2.next = b.2.next) && T.eqB a.2.t b.2.t
theorem St.eqS_eq {a b : St} (h : St.eqS a b = true) : a = b := by
  obtain ⟨t, σ, n⟩ := a
  obtain ⟨t', σ', n'⟩ := b
  simp only [St.eqS, Bool.and_eq_true, decide_eq_true_eq] at h
  obtain ⟨⟨h1, h2⟩, h3⟩ := h
  rw [T.eqV_eq h1, T.eqB_eq h3, h2]
abbrev St.inst (e : En) (s : St) : St := (T.vi e s.1, s.2.inst e)

/-! ### Only the first unknowns -/
def Sy.xlow (n : Nat) : Sy → Bool
  | .lin _ l => l.all fun p => Nat.blt p.2 n
  | .op _ a b => Sy.xlow n a && Sy.xlow n b
  | .cv _ a => Sy.xlow n a
  | _ => true
def En.like (n : Nat) (e e' : En) : Prop := e'.w = e.w ∧ ∀ i, i < n → e'.x i = e.x i
theorem lin_like {n : Nat} {e e' : En} (h : En.like n e e') : ∀ {l : List (Int × Nat)}, (l.all fun p => Nat.blt p.2 n) = true → linSum e'.x l = linSum e.x l
  | [], _ => rfl
  | p :: l, hl => by
    simp only [List.all_cons, Bool.and_eq_true] at hl
    have : p.2 < n := Nat.le_of_ble_eq_true hl.1
    simp only [linSum, h.2 _ this, lin_like h hl.2]
theorem Sy.xlow_ev {n : Nat} {e e' : En} (h : En.like n e e') : ∀ {s : Sy} {k : IntKind}, s.xlow n = true → s.ev e' k = s.ev e k := by
  intro s
  induction s with
  | w l => intro k _; simp only [Sy.ev, h.1]
  | lin m l => intro k hs; simp only [Sy.xlow] at hs; simp only [Sy.ev, lin_like h hs]
  | c m => intro k _; rfl
  | op o a b iha ihb =>
    intro k hs
    simp only [Sy.xlow, Bool.and_eq_true] at hs
    simp only [Sy.ev, iha hs.1, ihb hs.2]
  | cv j a ih =>
    intro k hs
    simp only [Sy.xlow] at hs
    simp only [Sy.ev, ih hs]
mutual
def V.xlow (n : Nat) : V → Bool
  | .fn _ a c => V.xlows n a && V.xlows n c
  | .iface _ v => V.xlow n v
  | .agg cs => V.xlows n cs
  | .tup cs => V.xlows n cs
  | .sym _ s => s.xlow n
  | _ => true
def V.xlows (n : Nat) : List V → Bool
  | [] => true
  | v :: l => V.xlow n v && V.xlows n l
end
mutual
theorem V.xlow_inst {n : Nat} {e e' : En} (h : En.like n e e') : ∀ v : V, v.xlow n = true → v.inst e' = v.inst e
  | .fn f a c, hv => by simp only [V.xlow, Bool.and_eq_true] at hv; simp only [V.inst, V.xlows_inst h a hv.1, V.xlows_inst h c hv.2]
  | .iface t v, hv => by simp only [V.xlow] at hv; simp only [V.inst, V.xlow_inst h v hv]
  | .agg cs, hv => by simp only [V.xlow] at hv; simp only [V.inst, V.xlows_inst h cs hv]
  | .tup cs, hv => by simp only [V.xlow] at hv; simp only [V.inst, V.xlows_inst h cs hv]
  | .sym k s, hv => by simp only [V.xlow] at hv; simp only [V.inst, Sy.xlow_ev h hv]
  | .undef, _ => rfl
  | .bool _, _ => rfl
  | .int _ _, _ => rfl
  | .str _, _ => rfl
  | .ptr _ _, _ => rfl
  | .nil, _ => rfl
  | .slice _ _ _ _ _, _ => rfl
  | .snil, _ => rfl
  | .map _, _ => rfl
  | .mnil, _ => rfl
  | .fnil, _ => rfl
  | .inil, _ => rfl
  | .any, _ => rfl
theorem V.xlows_inst {n : Nat} {e e' : En} (h : En.like n e e') : ∀ l : List V, V.xlows n l = true → V.insts e' l = V.insts e l
  | [], _ => rfl
  | v :: l, hl => by simp only [V.xlows, Bool.and_eq_true] at hl; simp only [V.insts, V.xlow_inst h v hl.1, V.xlows_inst h l hl.2]
end
def T.xlowV (n : Nat) : T V → Bool
  | .e => true
  | .n l v r => (match v with | none => true | some a => a.xlow n) && T.xlowV n l && T.xlowV n r
theorem T.xlowV_inst {n : Nat} {e e' : En} (h : En.like n e e') : ∀ {t : T V}, T.xlowV n t = true → T.vi e' t = T.vi e t := by
  intro t
  induction t with
  | e => intro _; rfl
  | n l v r ihl ihr =>
    intro ht
    simp only [T.xlowV, Bool.and_eq_true] at ht
    simp only [T.vi, T.inst]
    have h1 := ihl ht.1.2
    have h2 := ihr ht.2
    simp only [T.vi] at h1 h2
    rw [h1, h2]
    cases v with
    | none => rfl
    | some a => simp only [Option.map_some, V.xlow_inst h a ht.1.1]
def Blk.xlow (n : Nat) : Blk → Bool
  | .cells _ _ c => T.xlowV n c
  | .map _ es => es.all fun p => p.1.xlow n && p.2.xlow n
theorem Blk.xlow_inst {n : Nat} {e e' : En} (h : En.like n e e') : ∀ {B : Blk}, B.xlow n = true → B.inst e' = B.inst e
  | .cells r m c, hB => by simp only [Blk.xlow] at hB; simp only [Blk.inst, T.xlowV_inst h hB]
  | .map r es, hB => by
    simp only [Blk.xlow, List.all_eq_true, Bool.and_eq_true] at hB
    simp only [Blk.inst, Blk.map.injEq, true_and]
    exact List.map_congr_left fun p hp => by rw [V.xlow_inst h _ (hB p hp).1, V.xlow_inst h _ (hB p hp).2]
def T.xlowB (n : Nat) : T Blk → Bool
  | .e => true
  | .n l v r => (match v with | none => true | some a => a.xlow n) && T.xlowB n l && T.xlowB n r
theorem T.xlowB_inst {n : Nat} {e e' : En} (h : En.like n e e') : ∀ {t : T Blk}, T.xlowB n t = true → T.inst (Blk.inst e') t = T.inst (Blk.inst e) t := by
  intro t
  induction t with
  | e => intro _; rfl
  | n l v r ihl ihr =>
    intro ht
    simp only [T.xlowB, Bool.and_eq_true] at ht
    simp only [T.inst]
    rw [ihl ht.1.2, ihr ht.2]
    cases v with
    | none => rfl
    | some a => simp only [Option.map_some, Blk.xlow_inst h ht.1.1]
def St.xlow (n : Nat) (s : St) : Bool := T.xlowV n s.1 && T.xlowB n s.2.t
theorem St.xlow_inst {n : Nat} {e e' : En} (h : En.like n e e') {s : St} (hs : s.xlow n = true) : s.inst e' = s.inst e := by
  simp only [St.xlow, Bool.and_eq_true] at hs
  simp only [St.inst, T.xlowV_inst h hs.1, H.inst, T.xlowB_inst h hs.2]

/-! ### Places -/
inductive Pc where
  | t (i : Nat)
  | m (b o : Nat)
def put1 (p : Pc × V) (s : St) : St := match p.1 with
  | .t i => (s.1.put i (some p.2), s.2)
  | .m b o => match s.2.get b with
    | some (.cells r n c) => (s.1, s.2.set b (.cells r n (c.put o (some p.2))))
    | _ => s
def puts : List (Pc × V) → St → St
  | [], s => s
  | p :: l, s => puts l (put1 p s)
def plI (e : En) (l : List (Pc × V)) : List (Pc × V) := l.map fun p => (p.1, p.2.inst e)
theorem put1_inst (e : En) (p : Pc × V) (s : St) : (put1 p s).inst e = put1 (p.1, p.2.inst e) (s.inst e) := by
  obtain ⟨q, v⟩ := p
  cases q with
  | t i => simp only [put1, St.inst, T.vi, T.put_inst, Option.map_some]
  | m b o =>
    simp only [put1, St.inst, H.get_inst]
    cases hb : s.2.get b with
    | none => rfl
    | some B =>
      cases B with
      | map r es => rfl
      | cells r n c => simp only [Option.map_some, Blk.inst, H.set_inst, T.vi, T.put_inst]
theorem puts_inst (e : En) : ∀ (l : List (Pc × V)) (s : St), (puts l s).inst e = puts (plI e l) (s.inst e)
  | [], s => rfl
  | p :: l, s => by
    simp only [puts, plI, List.map_cons]
    rw [puts_inst e l, put1_inst]; rfl

/-! ### What is left of a state -/
section
variable (e : En)
mutual
theorem V.low_inst (n : Nat) : ∀ v : V, (v.inst e).low n = v.low n
  | .fn f a c => by simp only [V.inst, V.low, V.lows_inst n a, V.lows_inst n c]
  | .iface t v => by simp only [V.inst, V.low, V.low_inst n v]
  | .agg cs => by simp only [V.inst, V.low, V.lows_inst n cs]
  | .tup cs => by simp only [V.inst, V.low, V.lows_inst n cs]
  | .sym k s => rfl
  | .undef => rfl
  | .bool _ => rfl
  | .int _ _ => rfl
  | .str _ => rfl
  | .ptr _ _ => rfl
  | .nil => rfl
  | .slice _ _ _ _ _ => rfl
  | .snil => rfl
  | .map _ => rfl
  | .mnil => rfl
  | .fnil => rfl
  | .inil => rfl
  | .any => rfl
theorem V.lows_inst (n : Nat) : ∀ l : List V, V.lows n (V.insts e l) = V.lows n l
  | [] => rfl
  | v :: l => by simp only [V.insts, V.lows, V.low_inst n v, V.lows_inst n l]
end
theorem cutT_inst (t : T V) : ∀ keep : List Nat, cutT (T.vi e t) keep = T.vi e (cutT t keep)
  | [] => rfl
  | i :: r => by simp only [cutT, cutT_inst t r, T.vi, T.put_inst, T.get_inst]
theorem canonB_inst (B : Blk) : canonB (B.inst e) = (canonB B).inst e := by
  cases B with
  | cells r n c => simp only [canonB, Blk.inst, takeCells_inst, T.vi, T.ofList_inst]; rfl
  | map r es => rfl
theorem canonH_inst (σ : H) : ∀ n, canonH (σ.inst e) n = T.inst (Blk.inst e) (canonH σ n)
  | 0 => rfl
  | n + 1 => by
    simp only [canonH, canonH_inst σ n, T.put_inst, H.get_inst]
    congr 1
    cases σ.get n with
    | none => rfl
    | some B => simp only [Option.map_some, canonB_inst]
theorem cutH_inst (base : Nat) (σ : H) : cutH base (σ.inst e) = (cutH base σ).inst e := by
  show (⟨canonH (σ.inst e) base, base⟩ : H) = _
  rw [canonH_inst]; rfl
theorem all_low_inst (k : Nat) (l : List V) : (l.map (V.inst e)).all (V.low k) = l.all (V.low k) := by
  induction l with
  | nil => rfl
  | cons v l ih => simp only [List.map_cons, List.all_cons, V.low_inst, ih]
theorem Blk.low_inst (k : Nat) (B : Blk) : (B.inst e).low k = B.low k := by
  cases B with
  | cells r n c => simp only [Blk.inst, Blk.low, takeCells_inst, all_low_inst]
  | map r es =>
    simp only [Blk.inst, Blk.low]
    induction es with
    | nil => rfl
    | cons p l ih => simp only [List.map_cons, List.all_cons, V.low_inst, ih]
theorem lowH_inst (base : Nat) (σ : H) : ∀ n, lowH base (σ.inst e) n = lowH base σ n
  | 0 => rfl
  | n + 1 => by
    simp only [lowH, lowH_inst base σ n, H.get_inst]
    cases σ.get n with
    | none => rfl
    | some B => simp only [Option.map_some, Blk.low_inst]
theorem cutOk_inst (base : Nat) (keep : List Nat) (t : T V) (σ : H) : cutOk base keep (T.vi e t) (σ.inst e) = cutOk base keep t σ := by
  simp only [cutOk, lowH_inst]
  congr 1
  induction keep with
  | nil => rfl
  | cons i l ih => simp only [List.all_cons, ev_inst, V.low_inst]
end

/-! ### In the kernel's form -/
noncomputable def fcutT (t : T V) (keep : List Nat) : (T V → Bool) → Bool :=
  @List.rec Nat (fun _ => (T V → Bool) → Bool) (fun κ => κ .e) (fun i _ ih κ => ih fun a => @Option.rec V (fun _ => Bool) (fput none a i κ) (fun v => fput (some v) a i κ) (fget t i)) keep
theorem fcutT_eq (t : T V) : ∀ (keep : List Nat) (κ : T V → Bool), fcutT t keep κ = κ (cutT t keep) := by
  intro keep
  induction keep with
  | nil => intro κ; rfl
  | cons i r ih =>
    intro κ
    show fcutT t r (fun a => @Option.rec V (fun _ => Bool) (fput none a i κ) (fun v => fput (some v) a i κ) (fget t i)) = _
    rw [ih, fget_eq]
    simp only [cutT]
    cases t.get i with
    | none => exact fput_eq _ _ _ _
    | some v => exact fput_eq _ _ _ _
/-- A block, put in order; false if it points above the bound. -/
noncomputable def fcanB (base : Nat) (B : Blk) (κ : Blk → Bool) : Bool := @Blk.rec (fun _ => Bool) (fun r n c => ftake c n 0 fun l => fIf (fall (V.low base) l) (fofList l .e 0 fun c => κ (.cells r n c))) (fun r es => fIf (Blk.low base (.map r es)) (κ (.map r es))) B
theorem fcanB_true {base : Nat} {B : Blk} {κ : Blk → Bool} (h : fcanB base B κ = true) : B.low base = true ∧ κ (canonB B) = true := by
  cases B with
  | cells r n c =>
    have h' : (ftake c n 0 fun l => fIf (fall (V.low base) l) (fofList l .e 0 fun c => κ (.cells r n c))) = true := h
    rw [ftake_eq, fall_eq] at h'
    obtain ⟨h1, h2⟩ := fIf_true h'
    rw [fofList_eq] at h2
    exact ⟨h1, h2⟩
  | map r es => exact fIf_true h
noncomputable def fcutH (base : Nat) (t : T Blk) (n : Nat) : (T Blk → Bool) → Bool :=
  @Nat.rec (fun _ => (T Blk → Bool) → Bool) (fun κ => κ .e) (fun n ih κ => ih fun a => @Option.rec Blk (fun _ => Bool) (fput none a n κ) (fun B => fcanB base B fun B => fput (some B) a n κ) (fget t n)) n
theorem fcutH_true {base : Nat} {σ : H} : ∀ {n : Nat} {κ : T Blk → Bool}, fcutH base σ.t n κ = true → lowH base σ n = true ∧ κ (canonH σ n) = true
  | 0, κ, h => ⟨rfl, h⟩
  | n + 1, κ, h => by
    have h' : (fcutH base σ.t n fun a => @Option.rec Blk (fun _ => Bool) (fput none a n κ) (fun B => fcanB base B fun B => fput (some B) a n κ) (fget σ.t n)) = true := h
    obtain ⟨h1, h2⟩ := fcutH_true h'
    rw [fget_eq] at h2
    simp only [lowH, canonH, H.get]
    cases hb : σ.t.get n with
    | none =>
      rw [hb] at h2
      change fput none _ n κ = true at h2
      rw [fput_eq] at h2
      exact ⟨by simpa using h1, h2⟩
    | some B =>
      rw [hb] at h2
      change (fcanB base B fun B => fput (some B) (canonH σ n) n κ) = true at h2
      obtain ⟨h3, h4⟩ := fcanB_true h2
      rw [fput_eq] at h4
      exact ⟨by simp [h3, h1], h4⟩
noncomputable def fput1 (p : Pc × V) (t : T V) (σ : H) (κ : T V → H → Bool) : Bool := @Pc.rec (fun _ => Bool) (fun i => fput (some p.2) t i fun t => κ t σ)
  (fun b o => @Option.rec Blk (fun _ => Bool) (κ t σ) (fun B => @Blk.rec (fun _ => Bool) (fun r n c => fput (some p.2) c o fun c => fset σ b (.cells r n c) fun σ => κ t σ) (fun _ _ => κ t σ) B) (fget σ.t b)) p.1
theorem fput1_eq (p : Pc × V) (t : T V) (σ : H) (κ : T V → H → Bool) : fput1 p t σ κ = κ (put1 p (t, σ)).1 (put1 p (t, σ)).2 := by
  obtain ⟨q, v⟩ := p
  cases q with
  | t i => show (fput (some v) t i fun t => κ t σ) = _; rw [fput_eq]; rfl
  | m b o =>
    show @Option.rec Blk (fun _ => Bool) (κ t σ) (fun B => @Blk.rec (fun _ => Bool) (fun r n c => fput (some v) c o fun c => fset σ b (.cells r n c) fun σ => κ t σ) (fun _ _ => κ t σ) B) (fget σ.t b) = _
    rw [fget_eq]
    simp only [put1, H.get]
    cases hb : σ.t.get b with
    | none => rfl
    | some B =>
      cases B with
      | map r es => rfl
      | cells r n c =>
        show (fput (some v) c o fun c => fset σ b (.cells r n c) fun σ => κ t σ) = _
        rw [fput_eq, fset_eq]
noncomputable def fputs (l : List (Pc × V)) : T V → H → (T V → H → Bool) → Bool :=
  @List.rec (Pc × V) (fun _ => T V → H → (T V → H → Bool) → Bool) (fun t σ κ => κ t σ) (fun p _ ih t σ κ => fput1 p t σ fun t σ => ih t σ κ) l
theorem fputs_eq : ∀ (l : List (Pc × V)) (t : T V) (σ : H) (κ : T V → H → Bool), fputs l t σ κ = κ (puts l (t, σ)).1 (puts l (t, σ)).2 := by
  intro l
  induction l with
  | nil => intro t σ κ; rfl
  | cons p l ih =>
    intro t σ κ
    show fput1 p t σ (fun t σ => fputs l t σ κ) = _
    rw [fput1_eq, ih]; rfl

/-! ### Rounds -/
abbrev KS := T V → H → Iv → Bool
noncomputable def gThen (base : Nat) (keep : List Nat) (κ : KS) (k : KX) (x : Ex) (t : T V) (ds : List Dc) (σ : H) (iv : Iv) : Bool :=
  @Ex.rec (fun _ => Bool) (@List.rec Dc (fun _ => Bool) (fIf (keep.all fun i => (ev t (.t i)).low base) (fcutT t keep fun t => fcutH base σ.t base fun u => κ t ⟨u, base⟩ iv)) (fun _ _ _ => false) ds)
    (fun i => k (.exit i) t ds σ iv) (k .ret t ds σ iv) (fun v => k (.pan v) t ds σ iv) x
noncomputable def gRnds (base : Nat) (keep : List Nat) (g : GC) (k : KX) (κ : KS) (n : Nat) : KS :=
  @Nat.rec (fun _ => KS) κ (fun _ ih t σ iv => g t [] σ iv (gThen base keep ih k)) n
theorem gRnds_true {base : Nat} {keep : List Nat} {g : GC} {f : T V → List Dc → H → Option Out} (hg : GOk g f) {k : KX} {κ : KS} : ∀ {n : Nat} {t : T V} {σ : H} {iv : Iv}, gRnds base keep g k κ n t σ iv = true → ∀ {e : En}, iv.ok e →
    (∃ t' σ' iv', Iv.ok e iv' ∧ κ t' σ' iv' = true ∧ ∀ m, iterG f base keep (m + n) (T.vi e t) (σ.inst e) = iterG f base keep m (T.vi e t') (σ'.inst e)) ∨ ∀ m, OutG e (iterG f base keep (m + n) (T.vi e t) (σ.inst e)) k := by
  intro n
  induction n with
  | zero => intro t σ iv h e he; exact .inl ⟨t, σ, iv, he, h, fun m => rfl⟩
  | succ n ih =>
    intro t σ iv h e he
    have h' : g t [] σ iv (gThen base keep (gRnds base keep g k κ n) k) = true := h
    obtain ⟨x, t1, ds1, σ1, iv1, e1, h1, h2⟩ := hg _ _ _ _ _ h' e he
    have h1 : f (T.vi e t) [] (σ.inst e) = some ⟨x.inst e, T.vi e t1, dsI e ds1, σ1.inst e⟩ := h1
    cases x with
    | normal =>
      cases ds1 with
      | cons d ds1 => exact absurd h2 (by intro h; cases h)
      | nil =>
        have h2 : fIf (keep.all fun i => (ev t1 (.t i)).low base) (fcutT t1 keep fun t => fcutH base σ1.t base fun u => gRnds base keep g k κ n t ⟨u, base⟩ iv1) = true := h2
        obtain ⟨h3, h4⟩ := fIf_true h2
        rw [fcutT_eq] at h4
        obtain ⟨h5, h6⟩ := fcutH_true h4
        have hc : cutOk base keep t1 σ1 = true := by simp only [cutOk, h3, h5, Bool.and_self]
        have hit : ∀ m, iterG f base keep (m + (n + 1)) (T.vi e t) (σ.inst e) = iterG f base keep (m + n) (T.vi e (cutT t1 keep)) (H.inst e (cutH base σ1)) := by
          intro m
          show iterG f base keep (m + n + 1) _ _ = _
          simp only [iterG, h1, Ex.inst, dsI, List.map_nil]
          rw [if_pos (by rw [cutOk_inst]; exact hc), cutT_inst, cutH_inst]
        rcases ih h6 e1 with ⟨t', σ', iv', e2, h7, h8⟩ | h7
        · exact .inl ⟨t', σ', iv', e2, h7, fun m => by rw [hit]; exact h8 m⟩
        · exact .inr fun m => by rw [hit]; exact h7 m
    | exit i => exact .inr fun m => ⟨.exit i, t1, ds1, σ1, iv1, e1, by show iterG f base keep (m + n + 1) _ _ = _; simp only [iterG, h1, Ex.inst], h2⟩
    | ret => exact .inr fun m => ⟨.ret, t1, ds1, σ1, iv1, e1, by show iterG f base keep (m + n + 1) _ _ = _; simp only [iterG, h1, Ex.inst], h2⟩
    | pan v => exact .inr fun m => ⟨.pan v, t1, ds1, σ1, iv1, e1, by show iterG f base keep (m + n + 1) _ _ = _; simp only [iterG, h1, Ex.inst], h2⟩

/-! ### The rule -/
/-- Some rounds ahead; then rounds, so many a cycle, at whose head these places have these values; then some rounds more. -/
structure LoopA where
  lead : Nat
  per : Nat
  tail : Nat
  lo : List (Pc × V)
  now : List (Pc × V)
  nxt : List (Pc × V)
  hi : List (Pc × V)
  lim : Nat
  xs : List (Nat × Xf)
/-- What it wants. -/
def LoopA.Ok (A : LoopA) (fuel : Nat) (e : En) : Prop := ∃ (env : Nat → En) (N : Nat), (∀ v, En.like A.lim e (env v)) ∧ plI e A.lo = plI (env 0) A.now ∧
  (∀ v, v < N → plI (env v) A.nxt = plI (env (v + 1)) A.now) ∧ plI (env N) A.now = plI e A.hi ∧ (∀ v, v < N → ∀ p ∈ A.xs, p.2.ok ((env v).x p.1)) ∧ A.lead + A.per * N + A.tail ≤ fuel

noncomputable def gLoop (base : Nat) (keep : List Nat) (g : GC) (k : KX) (A : LoopA) (t1 : T V) (σ1 : H) (iv1 : Iv) : Bool :=
  fIf (St.xlow A.lim (t1, σ1)) (fIf (fputs A.lo t1 σ1 fun t σ => St.eqS (t, σ) (t1, σ1))
    (fIf (fputs A.nxt t1 σ1 fun t3 σ3 => fputs A.now t1 σ1 fun t σ => gRnds base keep g (fun _ _ _ _ _ => false) (fun t' σ' _ => St.eqS (t', σ') (t3, σ3)) A.per t σ ⟨A.xs, [], []⟩)
      (fputs A.hi t1 σ1 fun t σ => gRnds base keep g k (fun _ _ _ => false) A.tail t σ iv1)))
theorem gLoop_true {base : Nat} {keep : List Nat} {g : GC} {f : T V → List Dc → H → Option Out} (hg : GOk g f) {k : KX} {A : LoopA} {t1 : T V} {σ1 : H} {iv1 : Iv} (h : gLoop base keep g k A t1 σ1 iv1 = true) {e : En} (he : iv1.ok e) {fuel : Nat} (hA : A.Ok fuel e) :
    ∀ m, m + A.lead = fuel → OutG e (iterG f base keep m (T.vi e t1) (σ1.inst e)) k := by
  intro m hm
  obtain ⟨env, N, hlike, hlo, hnxt, hhi, hxs, hfuel⟩ := hA
  unfold gLoop at h
  obtain ⟨h1, h⟩ := fIf_true h
  obtain ⟨h2, h⟩ := fIf_true h
  obtain ⟨h3, h4⟩ := fIf_true h
  rw [fputs_eq] at h2 h4
  rw [fputs_eq, fputs_eq] at h3
  have h2 := St.eqS_eq h2
  have run : ∀ (s : St) m, (iterG f base keep m (s.inst e).1 (s.inst e).2) = iterG f base keep m (T.vi e s.1) (s.2.inst e) := fun _ _ => rfl
  have head : ∀ v, (puts A.now (t1, σ1)).inst (env v) = puts (plI (env v) A.now) (St.inst e (t1, σ1)) := fun v => by
    rw [puts_inst, St.xlow_inst (hlike v) h1]
  have cyc : ∀ v, v < N → ∀ m, iterG f base keep (m + A.per) ((puts A.now (t1, σ1)).inst (env v)).1 ((puts A.now (t1, σ1)).inst (env v)).2 = iterG f base keep m ((puts A.now (t1, σ1)).inst (env (v + 1))).1 ((puts A.now (t1, σ1)).inst (env (v + 1))).2 := by
    intro v hv m
    have hiv : Iv.ok (env v) ⟨A.xs, [], []⟩ := ⟨hxs v hv, by simp, by simp⟩
    rcases gRnds_true hg h3 hiv with ⟨t', σ', iv', e2, h5, h6⟩ | h5
    · have h5 := St.eqS_eq h5
      rw [show ((puts A.now (t1, σ1)).inst (env v)).1 = T.vi (env v) (puts A.now (t1, σ1)).1 from rfl, show ((puts A.now (t1, σ1)).inst (env v)).2 = (puts A.now (t1, σ1)).2.inst (env v) from rfl, h6 m]
      have h7 : St.inst (env v) (t', σ') = (puts A.now (t1, σ1)).inst (env (v + 1)) := by
        rw [h5, puts_inst, head, hnxt v hv, St.xlow_inst (hlike v) h1]
      have h8 := congrArg Prod.fst h7
      have h9 := congrArg Prod.snd h7
      simp only at h8 h9
      rw [h8, h9]
    · obtain ⟨_, _, _, _, _, _, _, h7⟩ := h5 0
      simp at h7
  have all : ∀ v, v ≤ N → ∀ m, iterG f base keep (m + A.per * v) ((puts A.now (t1, σ1)).inst (env 0)).1 ((puts A.now (t1, σ1)).inst (env 0)).2 = iterG f base keep m ((puts A.now (t1, σ1)).inst (env v)).1 ((puts A.now (t1, σ1)).inst (env v)).2 := by
    intro v
    induction v with
    | zero => intro _ m; rfl
    | succ v ih =>
      intro hv m
      rw [Nat.mul_succ, Nat.add_comm (A.per * v), ← Nat.add_assoc, ih (by omega), cyc v (by omega)]
  have h0 : St.inst e (t1, σ1) = (puts A.now (t1, σ1)).inst (env 0) := by
    rw [head, ← hlo, ← puts_inst]
    exact congrArg (St.inst e) (Prod.ext (congrArg Prod.fst h2) (congrArg Prod.snd h2)).symm
  have hN : (puts A.now (t1, σ1)).inst (env N) = (puts A.hi (t1, σ1)).inst e := by rw [head, hhi, ← puts_inst]
  have hstart : iterG f base keep m (T.vi e t1) (σ1.inst e) = iterG f base keep (m - A.per * N) (T.vi e (puts A.hi (t1, σ1)).1) ((puts A.hi (t1, σ1)).2.inst e) := by
    have a := all N (Nat.le_refl N) (m - A.per * N)
    rw [show m - A.per * N + A.per * N = m from by omega, ← h0, hN] at a
    exact a
  rw [hstart]
  rcases gRnds_true hg h4 he with ⟨_, _, _, _, h5, _⟩ | h5
  · simp at h5
  · have := h5 (m - A.per * N - A.tail)
    rw [show m - A.per * N - A.tail + A.tail = m - A.per * N from by omega] at this
    exact this

/-- 'pick': what is known of a loop that begins so; 'plain': so many rounds at most, else. -/
noncomputable def lgR (pick : List Nat → T V → H → Iv → Option LoopA) (plain : Nat) (keep : List Nat) (g : GC) : GC := fun t ds σ iv k =>
  @List.rec Dc (fun _ => Bool) (fcutT t keep fun t => fcutH σ.next σ.t σ.next fun u => @Option.rec LoopA (fun _ => Bool) (gRnds σ.next keep g k (fun _ _ _ => false) plain t ⟨u, σ.next⟩ iv)
    (fun A => gRnds σ.next keep g k (fun t σ' iv => gLoop σ.next keep g k A t σ' iv) A.lead t ⟨u, σ.next⟩ iv) (pick keep t ⟨u, σ.next⟩ iv)) (fun _ _ _ => false) ds
theorem lgR_ok {pick : List Nat → T V → H → Iv → Option LoopA} {fuel plain : Nat} (hp : plain ≤ fuel) (hpick : ∀ keep t σ iv A, pick keep t σ iv = some A → ∀ e, iv.ok e → A.Ok fuel e) : LgOk fuel (lgR pick plain) := by
  intro keep g f hg t ds σ iv k h e he
  cases ds with
  | cons d ds => exact absurd h (by intro h; cases h)
  | nil =>
    have h' : (fcutT t keep fun t => fcutH σ.next σ.t σ.next fun u => @Option.rec LoopA (fun _ => Bool) (gRnds σ.next keep g k (fun _ _ _ => false) plain t ⟨u, σ.next⟩ iv)
      (fun A => gRnds σ.next keep g k (fun t σ' iv => gLoop σ.next keep g k A t σ' iv) A.lead t ⟨u, σ.next⟩ iv) (pick keep t ⟨u, σ.next⟩ iv)) = true := h
    rw [fcutT_eq] at h'
    obtain ⟨_, h2⟩ := fcutH_true h'
    show OutG e (iterG f (σ.inst e).next keep fuel (cutT (T.vi e t) keep) (cutH (σ.inst e).next (σ.inst e))) k
    rw [H.inst_next, cutT_inst, cutH_inst]
    change @Option.rec LoopA (fun _ => Bool) (gRnds σ.next keep g k (fun _ _ _ => false) plain (cutT t keep) (cutH σ.next σ) iv)
      (fun A => gRnds σ.next keep g k (fun t σ' iv => gLoop σ.next keep g k A t σ' iv) A.lead (cutT t keep) (cutH σ.next σ) iv) (pick keep (cutT t keep) (cutH σ.next σ) iv) = true at h2
    cases hA : pick keep (cutT t keep) (cutH σ.next σ) iv with
    | none =>
      rw [hA] at h2
      rcases gRnds_true hg h2 he with ⟨_, _, _, _, h5, _⟩ | h5
      · simp at h5
      · have := h5 (fuel - plain)
        rw [show fuel - plain + plain = fuel from by omega] at this
        exact this
    | some A =>
      rw [hA] at h2
      have hOk := hpick _ _ _ _ _ hA e he
      have hle : A.lead ≤ fuel := by obtain ⟨_, _, _, _, _, _, _, h⟩ := hOk; omega
      rcases gRnds_true hg h2 he with ⟨t', σ', iv', e2, h5, h6⟩ | h5
      · have h7 := h6 (fuel - A.lead)
        rw [show fuel - A.lead + A.lead = fuel from by omega] at h7
        rw [h7]
        exact gLoop_true hg h5 e2 hOk _ (by omega)
      · have := h5 (fuel - A.lead)
        rw [show fuel - A.lead + A.lead = fuel from by omega] at this
        exact this
end Go.Abs
