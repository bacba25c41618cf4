/- PART of the proof of CallsKnown: The evaluator for Lean's kernel: operations. No condition. -/
import Derived.Test.YtecebpjfidpchaaGreatU21
/-! The evaluator for Lean's kernel: operations. -/
namespace Go.Abs
set_option linter.unusedVariables false

noncomputable def fopt {α : Type} (o : Option α) (k : α → Bool) : Bool := @Option.rec α (fun _ => Bool) false k o
theorem fopt_true {α : Type} {o : Option α} {k : α → Bool} (h : fopt o k = true) : ∃ v, o = some v ∧ k v = true := by
  cases o with
  | none => simp [fopt] at h
  | some v => exact ⟨v, rfl, h⟩

noncomputable def fmake (ρ : Opd → V) (x : XA) (k : Blk → (Nat → V) → Bool) : Bool :=
  match x with
  | .alloc zs => fblk zs fun B => k B (fun b => .ptr b 0)
  | .box x => fIf (ρ x).known (fcells (ρ x) fun cs => fblk cs fun B => k B (fun b => .ptr b 0))
  | .buildS len z zs ps => fIf (Nat.ble (Nat.mul len z) 16777216) (fopt (fillL (repl zs len) (ps.map fun p => (p.1, p.2.1, ρ p.2.2))) fun cs => fblk cs fun B => k B (fun b => .slice b 0 len len z))
  | .mkSlice z bytes zs l c => match ρ l, ρ c with
    | .int .i64 a, .int .i64 b => fIf (decide (0 ≤ a ∧ a ≤ b ∧ b ≤ 1048576 ∧ bytes ≤ 1024)) (fblk (repl zs b.toNat) fun B => k B fun r => .slice r 0 a.toNat b.toNat z)
    | _, _ => false
  | .mkMap => k (.map false []) fun b => .map b
theorem fmake_true {ρ : Opd → V} {x : XA} {k : Blk → (Nat → V) → Bool} (h : fmake ρ x k = true) : ∃ B mk, stepA ρ x = some (B, mk) ∧ k B mk = true := by
  cases x with
  | alloc zs => simp only [fmake, fblk_eq] at h; exact ⟨_, _, rfl, h⟩
  | box x =>
    simp only [fmake, fcells_eq, fblk_eq] at h
    obtain ⟨h1, h2⟩ := fIf_true h
    exact ⟨_, _, by simp only [stepA]; rw [if_pos h1], h2⟩
  | buildS len z zs ps =>
    simp only [fmake] at h
    obtain ⟨h1, h2⟩ := fIf_true h
    obtain ⟨cs, h3, h4⟩ := fopt_true h2
    rw [fblk_eq] at h4
    refine ⟨_, _, ?_, h4⟩
    simp only [stepA]
    rw [if_pos (show len * z ≤ 16777216 from Nat.le_of_ble_eq_true h1), h3]; rfl
  | mkSlice z bytes zs l c =>
    simp only [fmake] at h
    split at h
    · rename_i a b ha hb
      obtain ⟨h1, h2⟩ := fIf_true h
      rw [fblk_eq] at h2
      refine ⟨_, _, ?_, h2⟩
      simp only [stepA, ha, hb]
      rw [if_pos (of_decide_eq_true h1)]
    · simp at h
  | mkMap => exact ⟨_, _, rfl, h⟩

noncomputable def fptrEq (σ : H) (x y : V) (k : Bool → Bool) : Bool :=
  match x, y with
  | .ptr b o, .ptr b' o' => @Bool.rec (fun _ => Bool)
      (match fget σ.t b, fget σ.t b' with
      | some (.cells _ _ _), some (.cells _ _ _) => k false
      | _, _ => false) (fB (o == o') k) (Nat.beq b b')
  | x, y => fopt (eqV .ptr x y) fun r => fB r k
theorem fptrEq_true {σ : H} {x y : V} {k : Bool → Bool} (h : fptrEq σ x y k = true) : ∃ r, ptrEq σ x y = some r ∧ k r = true := by
  have other : (fopt (eqV .ptr x y) fun r => fB r k) = true → ptrEq σ x y = eqV .ptr x y → ∃ r, ptrEq σ x y = some r ∧ k r = true := by
    intro h e
    obtain ⟨r, h1, h2⟩ := fopt_true h
    rw [fB_eq] at h2
    exact ⟨r, e.trans h1, h2⟩
  cases x
  case ptr b o =>
    cases y
    case ptr b' o' =>
      simp only [fptrEq] at h
      simp only [ptrEq]
      by_cases hb : b = b'
      · subst hb
        have : Nat.beq b b = true := by simp
        rw [this] at h
        change fB _ k = true at h
        rw [fB_eq] at h
        exact ⟨_, if_pos rfl, h⟩
      · have : Nat.beq b b' = false := by cases hq : Nat.beq b b' with | false => rfl | true => exact absurd (Nat.eq_of_beq_eq_true hq) hb
        rw [this] at h
        simp only [fget_eq] at h
        rw [if_neg hb]
        simp only [H.get]
        split at h
        · rename_i q1 q2
          exact ⟨false, by rw [q1, q2], h⟩
        · simp at h
    all_goals exact other h rfl
  all_goals exact other h rfl

noncomputable def fes (es : List (V × V)) (k : List (V × V) → Bool) : Bool :=
  fLs (fun p k => @Prod.rec V V (fun _ => Bool) (fun a b => fV 2 a fun a => fV 3 b fun b => k (a, b)) p) es k
theorem fes_eq (es : List (V × V)) (k : List (V × V) → Bool) : fes es k = k es := by
  unfold fes
  rw [fLs_eq]
  rintro ⟨a, b⟩ k
  simp only [fV_eq]

noncomputable def fsrc (σ : H) (z : Nat) (v : V) (k : Nat → List V → Bool) : Bool :=
  match v with
  | .snil => k 0 []
  | .slice b o len _ z' => fIf (Nat.beq z' z) (floadN σ b o (Nat.mul len z) fun l => k len l)
  | _ => false
theorem fsrc_true {σ : H} {z : Nat} {v : V} {k : Nat → List V → Bool} (h : fsrc σ z v k = true) : ∃ n l, srcV σ z v = some (n, l) ∧ k n l = true := by
  cases v
  case snil => exact ⟨0, [], rfl, h⟩
  case slice b o len c z' =>
    simp only [fsrc] at h
    obtain ⟨h1, h2⟩ := fIf_true h
    obtain ⟨l, h3, h4⟩ := floadN_true h2
    refine ⟨len, l, ?_, h4⟩
    have e : σ.loadN b o (len * z) = some l := h3
    simp only [srcV]
    rw [if_pos (Nat.eq_of_beq_eq_true h1), e]; rfl
  all_goals simp [fsrc] at h

noncomputable def fappend (σ : H) (z bytes : Nat) (s x : V) (k : V → H → Bool) : Bool :=
  fsrc σ z x fun n new =>
    match s with
    | .snil => @Bool.rec (fun _ => Bool) (fIf (decide (n ≤ 1048576 ∧ bytes ≤ 1024)) (fblk new fun B => fV 1 (.slice σ.next 0 n n z) fun v => fnew σ B fun σ' => k v σ')) (k .snil σ) (Nat.beq n 0)
    | .slice b o len cap z' =>
      fIf (Nat.beq z' z) (@Bool.rec (fun _ => Bool)
        (@Bool.rec (fun _ => Bool)
          (fIf (decide (len + n ≤ 1048576 ∧ bytes ≤ 1024)) (fIf (fall V.cell new) (match fget σ.t b with
            | some (.cells ro _ _) => fIf (!ro) (floadN σ b o (Nat.mul len z) fun old => fblk (old ++ new) fun B => fV 1 (.slice σ.next 0 (len + n) (len + n) z) fun v => fkill σ b fun σ => fnew σ B fun σ' => k v σ')
            | _ => false)))
          (fV 1 (.slice b o (len + n) cap z) fun v => fstoreN σ b (Nat.add o (Nat.mul len z)) new fun σ' => k v σ') (Nat.ble (Nat.add len n) cap))
        (k (.slice b o len cap z') σ) (Nat.beq n 0))
    | _ => false
theorem fappend_true {σ : H} {z bytes : Nat} {s x : V} {k : V → H → Bool} (h : fappend σ z bytes s x k = true) : ∃ v σ', appendV σ z bytes s x = some (v, σ') ∧ k v σ' = true := by
  unfold fappend at h
  obtain ⟨n, new, h1, h2⟩ := fsrc_true h
  cases s
  case snil =>
    simp only [appendV, h1]
    by_cases hn : n = 0
    · subst hn; exact ⟨_, _, if_pos rfl, h2⟩
    · have : Nat.beq n 0 = false := by cases hq : Nat.beq n 0 with | false => rfl | true => exact absurd (Nat.eq_of_beq_eq_true hq) hn
      rw [this] at h2
      change fIf _ _ = true at h2
      obtain ⟨h3, h4⟩ := fIf_true h2
      simp only [fblk_eq, fV_eq, fnew_eq] at h4
      rw [if_neg hn, if_pos (of_decide_eq_true h3)]
      exact ⟨_, _, rfl, h4⟩
  case slice b o len cap z' =>
    simp only [appendV, h1]
    obtain ⟨h3, h4⟩ := fIf_true h2
    have hz : z' = z := Nat.eq_of_beq_eq_true h3
    rw [if_neg (by simp [hz])]
    by_cases hn : n = 0
    · subst hn; exact ⟨_, _, if_pos rfl, h4⟩
    · have : Nat.beq n 0 = false := by cases hq : Nat.beq n 0 with | false => rfl | true => exact absurd (Nat.eq_of_beq_eq_true hq) hn
      rw [this] at h4
      rw [if_neg hn]
      by_cases hc : len + n ≤ cap
      · have : Nat.ble (Nat.add len n) cap = true := Nat.ble_eq_true_of_le hc
        rw [this] at h4
        change fV _ _ _ = true at h4
        rw [fV_eq] at h4
        obtain ⟨σ', h5, h6⟩ := fstoreN_true h4
        have h5' : σ.storeN b (o + len * z) new = some σ' := h5
        rw [if_pos hc, h5']
        exact ⟨_, _, rfl, h6⟩
      · have : Nat.ble (Nat.add len n) cap = false := by cases hq : Nat.ble (Nat.add len n) cap with | false => rfl | true => exact absurd (Nat.le_of_ble_eq_true hq) hc
        rw [this] at h4
        change fIf _ _ = true at h4
        obtain ⟨h5, h6⟩ := fIf_true h4
        obtain ⟨h7, h8⟩ := fIf_true h6
        rw [fget_eq] at h8
        rw [fall_eq] at h7
        have h5' := of_decide_eq_true h5
        rw [if_neg hc, if_pos ⟨h5'.1, h5'.2, h7⟩]
        split at h8
        · rename_i ro m c hb
          obtain ⟨h9, h10⟩ := fIf_true h8
          obtain ⟨old, h11, h12⟩ := floadN_true h10
          have hro : ro = false := by simpa using h9
          subst hro
          simp only [fblk_eq, fV_eq, fkill_eq, fnew_eq] at h12
          have h11' : σ.loadN b o (len * z) = some old := h11
          rw [h11']
          simp only [H.get, hb]
          exact ⟨_, _, rfl, h12⟩
        · simp at h8
  all_goals simp at h2

noncomputable def fcopy (σ : H) (z : Nat) (d s : V) (k : V → H → Bool) : Bool :=
  match d, s with
  | .snil, .snil | .snil, .slice _ _ _ _ _ | .slice _ _ _ _ _, .snil => k (.int .i64 0) σ
  | .slice b o len _ z1, .slice b' o' len' _ z2 =>
    fIf (Nat.beq z1 z) (fIf (Nat.beq z2 z) (fN (min len' len) fun n => floadN σ b' o' (Nat.mul n z) fun cs =>
      @Bool.rec (fun _ => Bool) (fstoreN σ b o cs fun σ' => k (.int .i64 (.ofNat n)) σ') (k (.int .i64 0) σ) (Nat.beq n 0)))
  | _, _ => false
theorem fcopy_true {σ : H} {z : Nat} {d s : V} {k : V → H → Bool} (h : fcopy σ z d s k = true) : ∃ v σ', copyV σ z d s = some (v, σ') ∧ k v σ' = true := by
  unfold fcopy at h
  split at h
  · exact ⟨_, _, rfl, h⟩
  · exact ⟨_, _, rfl, h⟩
  · exact ⟨_, _, rfl, h⟩
  · rename_i b o len c1 z1 b' o' len' c2 z2
    obtain ⟨h1, h2⟩ := fIf_true h
    obtain ⟨h3, h4⟩ := fIf_true h2
    rw [fN_eq] at h4
    obtain ⟨cs, h5, h6⟩ := floadN_true h4
    have h5' : σ.loadN b' o' (min len' len * z) = some cs := h5
    simp only [copyV]
    rw [if_pos ⟨Nat.eq_of_beq_eq_true h1, Nat.eq_of_beq_eq_true h3⟩, h5']
    by_cases hn : min len' len = 0
    · rw [hn] at h6
      simp only [if_pos hn]
      exact ⟨_, _, rfl, h6⟩
    · have : Nat.beq (min len' len) 0 = false := by cases hq : Nat.beq (min len' len) 0 with | false => rfl | true => exact absurd (Nat.eq_of_beq_eq_true hq) hn
      rw [this] at h6
      change fstoreN _ _ _ _ _ = true at h6
      obtain ⟨σ', h7, h8⟩ := fstoreN_true h6
      simp only [if_neg hn, h7]
      exact ⟨_, _, rfl, h8⟩
  · simp at h

section
variable (m : MT)
noncomputable def fstep (σ : H) (t : T V) (x : X) (k : V → H → Bool) (kc : FuncId → List V → H → Bool) : Bool :=
  match x with
  | .l x => fopt (stepL (fev t) x) fun v => fV 3 v fun v => k v σ
  | .a x => fmake (fev t) x fun B mk => fV 1 (mk σ.next) fun v => fnew σ B fun σ' => k v σ'
  | .load n agg a => floadV σ n agg (fev t a) fun v => k v σ
  | .store n a v => match fev t a with
    | .ptr b o => fcells (fev t v) fun cs => flen cs fun len => fIf (Nat.beq len n) (fstoreN σ b o cs fun σ' => k .undef σ')
    | _ => false
  | .eqp neg x y => fptrEq σ (fev t x) (fev t y) fun r => @Bool.rec (fun _ => Bool) (k (.bool r) σ) (fB (!r) fun r => k (.bool r) σ) neg
  | .sliceA n z x lo hi =>
    match fev t x with
    | .ptr b o =>
      match fget σ.t b, bound n (hi.map (fev t)), bound 0 (lo.map (fev t)) with
      | some (.cells _ m _), some h, some l => fIf (decide (l ≤ h ∧ h ≤ n ∧ l < n ∧ o + n * z ≤ m)) (fV 1 (.slice b (o + l * z) (h - l) (n - l) z) fun v => k v σ)
      | _, _, _ => false
    | _ => false
  | .lookup zero ok mp key => match fev t mp with
    | .mnil => k (if ok then .tup [zero, .bool false] else zero) σ
    | .map r => match fget σ.t r with
      | some (.map _ es) => match findE (fev t key) es with
        | some (some v) => fV 3 (if ok then .tup [v, .bool true] else v) fun v => k v σ
        | some none => k (if ok then .tup [zero, .bool false] else zero) σ
        | none => false
      | _ => false
    | _ => false
  | .update mp key v => match fev t mp with
    | .map r => match fget σ.t r with
      | some (.map ro es) => fIf (!ro) (fopt (findE (fev t key) es) fun _ => fes (setE (fev t key) (fev t v) es) fun es => fset σ r (.map false es) fun σ' => k .undef σ')
      | _ => false
    | _ => false
  | .delete mp key => match fev t mp with
    | .map r => match fget σ.t r with
      | some (.map ro es) => fIf (!ro) (fopt (findE (fev t key) es) fun _ => fes (delE (fev t key) es) fun es => fset σ r (.map false es) fun σ' => k (.tup []) σ')
      | _ => false
    | _ => false
  | .lenM mp => match fev t mp with
    | .mnil => k (.int .i64 0) σ
    | .map r => match fget σ.t r with
      | some (.map _ es) => fN es.length fun n => k (.int .i64 (.ofNat n)) σ
      | _ => false
    | _ => false
  | .append z bytes s x => fappend σ z bytes (fev t s) (fev t x) k
  | .copy z d s => fcopy σ z (fev t d) (fev t s) k
  | .clearS zs x => match fev t x with
    | .snil => k (.tup []) σ
    | .slice b o len _ z => @Bool.rec (fun _ => Bool) (fIf (decide (z = zs.length)) (fLs (fV 2) (repl zs len) fun cs => fstoreN σ b o cs fun σ' => k (.tup []) σ')) (k (.tup []) σ) (Nat.beq len 0)
    | _ => false
  | .call f args => fLs (fV 3) (args.map (fev t)) fun as => kc f as σ
  | .callV f args => match fev t f with
    | .fn (.func f) first cap => fLs (fV 3) (first ++ args.map (fev t) ++ cap) fun as => kc f as σ
    | _ => false
  | .invoke name recv args => match fev t recv with
    | .iface ty v => match meth m σ ty v name with
      | some p => fLs (fV 3) (p.2 :: args.map (fev t)) fun as => kc p.1 as σ
      | none => false
    | _ => false
  | .panic _ => false

theorem fstep_true {σ : H} {t : T V} {x : X} {k : V → H → Bool} {kc : FuncId → List V → H → Bool} (h : fstep m σ t x k kc = true) :
    (∃ v σ', step m σ (ev t) x = some (.val v σ') ∧ k v σ' = true) ∨ (∃ f as σ', step m σ (ev t) x = some (.enter f as σ') ∧ kc f as σ' = true) := by
  have vs : ∀ (l : List V) (k : List V → Bool), fLs (fV 3) l k = k l := fun l k => fLs_eq (fV_eq 3) l k
  have vs2 : ∀ (l : List V) (k : List V → Bool), fLs (fV 2) l k = k l := fun l k => fLs_eq (fV_eq 2) l k
  cases x with
  | l x =>
    simp only [fstep, fev_eq] at h
    obtain ⟨v, h1, h2⟩ := fopt_true h
    rw [fV_eq] at h2
    exact .inl ⟨v, σ, by simp only [step, h1]; rfl, h2⟩
  | a x =>
    simp only [fstep, fev_eq] at h
    obtain ⟨B, mk, h1, h2⟩ := fmake_true h
    simp only [fV_eq, fnew_eq] at h2
    exact .inl ⟨_, _, by simp only [step, h1]; rfl, h2⟩
  | load n agg a =>
    simp only [fstep, fev_eq] at h
    obtain ⟨v, h1, h2⟩ := floadV_true h
    exact .inl ⟨_, _, by simp only [step, h1]; rfl, h2⟩
  | store n a v =>
    simp only [fstep, fev_eq] at h
    split at h
    · rename_i b o ha
      rw [fcells_eq, flen_eq] at h
      obtain ⟨h1, h2⟩ := fIf_true h
      obtain ⟨σ', h3, h4⟩ := fstoreN_true h2
      refine .inl ⟨_, _, ?_, h4⟩
      simp only [step, ha]
      rw [if_pos (Nat.eq_of_beq_eq_true h1), h3]; rfl
    · simp at h
  | eqp neg x y =>
    simp only [fstep, fev_eq] at h
    obtain ⟨r, h1, h2⟩ := fptrEq_true h
    refine .inl ⟨.bool (if neg then !r else r), σ, by simp only [step, h1]; rfl, ?_⟩
    cases neg with
    | false => exact h2
    | true => change fB _ _ = true at h2; rw [fB_eq] at h2; exact h2
  | sliceA n z x lo hi =>
    simp only [fstep, fev_eq, fget_eq] at h
    split at h
    · rename_i b o hx
      split at h
      · rename_i r mm c hh ll h1 h2 h3
        obtain ⟨h4, h5⟩ := fIf_true h
        rw [fV_eq] at h5
        refine .inl ⟨_, _, ?_, h5⟩
        simp only [step, hx, H.get, h1, h2, h3]
        rw [if_pos (of_decide_eq_true h4)]
      · simp at h
    · simp at h
  | lookup zero ok mp key =>
    simp only [fstep, fev_eq, fget_eq] at h
    split at h
    · rename_i hm
      exact .inl ⟨_, _, by simp only [step, hm], h⟩
    · rename_i r hm
      split at h
      · rename_i ro es hr
        split at h
        · rename_i v hf
          rw [fV_eq] at h
          exact .inl ⟨_, _, by simp only [step, hm, H.get, hr, hf], h⟩
        · rename_i hf
          exact .inl ⟨_, _, by simp only [step, hm, H.get, hr, hf], h⟩
        · simp at h
      · simp at h
    · simp at h
  | update mp key v =>
    simp only [fstep, fev_eq, fget_eq] at h
    split at h
    · rename_i r hm
      split at h
      · rename_i ro es hr
        obtain ⟨h1, h2⟩ := fIf_true h
        obtain ⟨u, h3, h4⟩ := fopt_true h2
        simp only [fes_eq, fset_eq] at h4
        have hro : ro = false := by simpa using h1
        subst hro
        exact .inl ⟨_, _, by simp only [step, hm, H.get, hr, h3], h4⟩
      · simp at h
    · simp at h
  | delete mp key =>
    simp only [fstep, fev_eq, fget_eq] at h
    split at h
    · rename_i r hm
      split at h
      · rename_i ro es hr
        obtain ⟨h1, h2⟩ := fIf_true h
        obtain ⟨u, h3, h4⟩ := fopt_true h2
        simp only [fes_eq, fset_eq] at h4
        have hro : ro = false := by simpa using h1
        subst hro
        exact .inl ⟨_, _, by simp only [step, hm, H.get, hr, h3], h4⟩
      · simp at h
    · simp at h
  | lenM mp =>
    simp only [fstep, fev_eq, fget_eq] at h
    split at h
    · rename_i hm
      exact .inl ⟨_, _, by simp only [step, hm], h⟩
    · rename_i r hm
      split at h
      · rename_i ro es hr
        rw [fN_eq] at h
        exact .inl ⟨_, _, by simp only [step, hm, H.get, hr]; rfl, h⟩
      · simp at h
    · simp at h
  | append z bytes s x =>
    simp only [fstep, fev_eq] at h
    obtain ⟨v, σ', h1, h2⟩ := fappend_true h
    exact .inl ⟨_, _, by simp only [step, h1]; rfl, h2⟩
  | copy z d s =>
    simp only [fstep, fev_eq] at h
    obtain ⟨v, σ', h1, h2⟩ := fcopy_true h
    exact .inl ⟨_, _, by simp only [step, h1]; rfl, h2⟩
  | clearS zs x =>
    simp only [fstep, fev_eq] at h
    split at h
    · rename_i hx
      exact .inl ⟨_, _, by simp only [step, hx], h⟩
    · rename_i b o len cc z hx
      by_cases hn : len = 0
      · subst hn
        exact .inl ⟨_, _, by simp only [step, hx, if_true], h⟩
      · have : Nat.beq len 0 = false := by cases hq : Nat.beq len 0 with | false => rfl | true => exact absurd (Nat.eq_of_beq_eq_true hq) hn
        rw [this] at h
        change fIf _ _ = true at h
        obtain ⟨h1, h2⟩ := fIf_true h
        rw [vs2] at h2
        obtain ⟨σ', h3, h4⟩ := fstoreN_true h2
        refine .inl ⟨_, _, ?_, h4⟩
        simp only [step, hx]
        rw [if_neg hn, if_pos (of_decide_eq_true h1), h3]; rfl
    · simp at h
  | call f args =>
    simp only [fstep, fev_eq, vs] at h
    exact .inr ⟨_, _, _, rfl, h⟩
  | callV f args =>
    simp only [fstep, fev_eq] at h
    split at h
    · rename_i g a c hf
      rw [vs] at h
      exact .inr ⟨_, _, _, by simp only [step, hf], h⟩
    · simp at h
  | invoke name recv args =>
    simp only [fstep, fev_eq] at h
    split at h
    · rename_i ty v hr
      split at h
      · rename_i f hf
        rw [vs] at h
        exact .inr ⟨_, _, _, by simp only [step, hr, hf], h⟩
      · simp at h
    · simp at h
  | panic x => simp [fstep] at h
end
end Go.Abs
