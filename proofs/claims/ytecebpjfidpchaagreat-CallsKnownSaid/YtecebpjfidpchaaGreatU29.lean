/- PART of the proof of CallsKnown: What is known of unknown integers; questions. No condition. -/
import Derived.Test.YtecebpjfidpchaaGreatU28
/-! What is known of unknown integers; questions. -/
namespace Go.Abs
set_option linter.unusedVariables false

/-- A range, less some points. -/
structure Xf where
  lo : Int
  hi : Int
  ex : List Int
def Xf.ok (f : Xf) (n : Int) : Prop := f.lo ≤ n ∧ n ≤ f.hi ∧ ∀ c ∈ f.ex, n ≠ c
structure Fa where
  k : IntKind
  s : Sy
  f : Xf
/-- What is known: of the unknowns themselves; of other terms; which unknown is the rest of which, by what. -/
structure Iv where
  xs : List (Nat × Xf)
  fs : List Fa
  ps : List (Nat × Nat × Int)
def Iv.ok (e : En) (iv : Iv) : Prop := (∀ p ∈ iv.xs, p.2.ok (e.x p.1)) ∧ (∀ f ∈ iv.fs, f.f.ok (f.s.ev e f.k)) ∧ ∀ p ∈ iv.ps, e.x p.1 = e.x p.2.1 % p.2.2

def xget : List (Nat × Xf) → Nat → Option Xf
  | [], _ => none
  | p :: l, i => if p.1 = i then some p.2 else xget l i
theorem xget_mem : ∀ {l : List (Nat × Xf)} {i : Nat} {f : Xf}, xget l i = some f → (i, f) ∈ l
  | p :: l, i, f, h => by
    simp only [xget] at h
    split at h
    · rename_i e
      simp at h; subst h; subst e
      exact List.mem_cons_self
    · exact List.mem_cons_of_mem _ (xget_mem h)

/-- The range of a sum. -/
def linRng (xs : List (Nat × Xf)) (n : Int) : List (Int × Nat) → Option (Int × Int)
  | [] => some (n, n)
  | p :: l => match xget xs p.2, linRng xs n l with
    | some f, some r => if 0 ≤ p.1 then some (r.1 + p.1 * f.lo, r.2 + p.1 * f.hi) else some (r.1 + p.1 * f.hi, r.2 + p.1 * f.lo)
    | _, _ => none
theorem linRng_ok {e : En} {iv : Iv} (h : iv.ok e) {n : Int} : ∀ {l : List (Int × Nat)} {r : Int × Int}, linRng iv.xs n l = some r → r.1 ≤ n + linSum e.x l ∧ n + linSum e.x l ≤ r.2
  | [], r, hr => by simp [linRng] at hr; subst hr; simp [linSum]
  | p :: l, r, hr => by
    simp only [linRng] at hr
    split at hr
    · rename_i f r' hf hr'
      obtain ⟨i1, i2⟩ := linRng_ok h hr'
      obtain ⟨f1, f2, _⟩ := h.1 _ (xget_mem hf)
      simp only at f1 f2
      simp only [linSum]
      split at hr
      · rename_i hp
        simp at hr; subst hr
        have := Int.mul_le_mul_of_nonneg_left f1 hp
        have := Int.mul_le_mul_of_nonneg_left f2 hp
        simp only; omega
      · rename_i hp
        simp at hr; subst hr
        have h1 : p.1 * f.hi ≤ p.1 * e.x p.2 := Int.mul_le_mul_of_nonpos_left (by omega) f2
        have h2 : p.1 * e.x p.2 ≤ p.1 * f.lo := Int.mul_le_mul_of_nonpos_left (by omega) f1
        simp only; omega
    · simp at hr

/-- One unknown, counted once up or down, without wrapping: the constant, up, which one, what is known of it. -/
def single (iv : Iv) (k : IntKind) : Sy → Option (Int × Bool × Nat × Xf)
  | .lin n [(a, i)] => match xget iv.xs i with
    | some f => if a = 1 ∧ k.min ≤ n + f.lo ∧ n + f.hi ≤ k.max then some (n, true, i, f) else if a = -1 ∧ k.min ≤ n - f.hi ∧ n - f.lo ≤ k.max then some (n, false, i, f) else none
    | none => none
  | _ => none
theorem single_ok {e : En} {iv : Iv} (h : iv.ok e) {k : IntKind} {s : Sy} {n : Int} {up : Bool} {i : Nat} {f : Xf} (hs : single iv k s = some (n, up, i, f)) : s.ev e k = (if up then n + e.x i else n - e.x i) ∧ f.ok (e.x i) ∧ (i, f) ∈ iv.xs := by
  unfold single at hs
  split at hs
  · rename_i m a j
    split at hs
    · rename_i g hg
      have hm := xget_mem hg
      obtain ⟨g1, g2, g3⟩ := h.1 _ hm
      simp only at g1 g2
      split at hs
      · rename_i hc
        simp at hs
        obtain ⟨rfl, rfl, rfl, rfl⟩ := hs
        obtain ⟨rfl, h1, h2⟩ := hc
        refine ⟨?_, h.1 _ hm, hm⟩
        simp only [Sy.ev, linSum, if_true]
        rw [wrap_in k (by omega) (by omega)]; omega
      · split at hs
        · rename_i hc
          simp at hs
          obtain ⟨rfl, rfl, rfl, rfl⟩ := hs
          obtain ⟨rfl, h1, h2⟩ := hc
          refine ⟨?_, h.1 _ hm, hm⟩
          simp only [Sy.ev, linSum, Bool.false_eq_true, if_false]
          rw [wrap_in k (by omega) (by omega)]; omega
        · simp at hs
    · simp at hs
  · simp at hs

def findF (k : IntKind) (s : Sy) : List Fa → Option Xf
  | [] => none
  | f :: l => if decide (f.k = k) && Sy.same 200 f.s s then some f.f else findF k s l
theorem findF_ok {e : En} {k : IntKind} {s : Sy} : ∀ {l : List Fa} {f : Xf}, (∀ f ∈ l, f.f.ok (f.s.ev e f.k)) → findF k s l = some f → f.ok (s.ev e k)
  | g :: l, f, h, hf => by
    simp only [findF] at hf
    split at hf
    · rename_i hc
      simp only [Bool.and_eq_true, decide_eq_true_eq] at hc
      simp at hf; subst hf
      have := h g List.mem_cons_self
      rw [hc.1, Sy.same_eq _ _ _ hc.2] at this
      exact this
    · exact findF_ok (fun f hf => h f (List.mem_cons_of_mem _ hf)) hf

/-- What is known of a term. -/
def rngF (iv : Iv) (k : IntKind) : Sy → Option Xf
  | .c n => some ⟨n, n, []⟩
  | .w l => some ⟨0, 2 ^ l.length - 1, []⟩
  | .lin n l => match single iv k (.lin n l) with
    | some (m, up, _, f) => if up then some ⟨m + f.lo, m + f.hi, f.ex.map (m + ·)⟩ else some ⟨m - f.hi, m - f.lo, f.ex.map (m - ·)⟩
    | none => match findF k (.lin n l) iv.fs with
      | some f => some f
      | none => match linRng iv.xs n l with
        | some r => if k.min ≤ r.1 ∧ r.2 ≤ k.max then some ⟨r.1, r.2, []⟩ else some ⟨k.min, k.max, []⟩
        | none => some ⟨k.min, k.max, []⟩
  | .op op a b => match findF k (.op op a b) iv.fs with
    | some f => some f
    | none => match op, b with
      | .rem, .c m => if 0 < m then (match rngF iv k a with
        | some f => if f.lo = f.hi then some ⟨f.lo.tmod m, f.lo.tmod m, []⟩ else if 0 ≤ f.lo then some ⟨0, m - 1, []⟩ else some ⟨1 - m, m - 1, []⟩
        | none => some ⟨1 - m, m - 1, []⟩) else none
      | _, _ => none
  | .cv j a => match findF k (.cv j a) iv.fs with
    | some f => some f
    | none => match rngF iv j a with
      | some f => if k.min ≤ f.lo ∧ f.hi ≤ k.max then some f else some ⟨k.min, k.max, []⟩
      | none => some ⟨k.min, k.max, []⟩
theorem wrap_xf (k : IntKind) (n : Int) : Xf.ok ⟨k.min, k.max, []⟩ (k.wrap n) := ⟨(wrap_range k n).1, (wrap_range k n).2, by simp⟩
theorem rngF_ok {e : En} {iv : Iv} (h : iv.ok e) : ∀ {s : Sy} {k : IntKind} {f : Xf}, rngF iv k s = some f → f.ok (s.ev e k) := by
  intro s
  induction s with
  | c n => intro k f hf; simp [rngF] at hf; subst hf; simp [Xf.ok, Sy.ev]
  | w l =>
    intro k f hf
    simp [rngF] at hf; subst hf
    have := wordOf_lt e.w l
    have h2 : ((wordOf e.w l : Nat) : Int) < 2 ^ l.length := by exact_mod_cast this
    simp only [Xf.ok, Sy.ev]
    exact ⟨by omega, by omega, by simp⟩
  | lin n l =>
    intro k f hf
    simp only [rngF] at hf
    split at hf
    · rename_i m up i g hs
      obtain ⟨h1, ⟨h2, h3, h4⟩, _⟩ := single_ok h hs
      rw [h1]
      cases up with
      | true =>
        simp at hf; subst hf
        simp only [if_true, Xf.ok]
        refine ⟨by omega, by omega, fun c hc => ?_⟩
        obtain ⟨d, hd, rfl⟩ := List.mem_map.1 hc
        have := h4 d hd
        omega
      | false =>
        simp at hf; subst hf
        simp only [Bool.false_eq_true, if_false, Xf.ok]
        refine ⟨by omega, by omega, fun c hc => ?_⟩
        obtain ⟨d, hd, rfl⟩ := List.mem_map.1 hc
        have := h4 d hd
        omega
    · split at hf
      · rename_i g hg
        simp at hf; subst hf
        exact findF_ok h.2.1 hg
      · split at hf
        · rename_i r hr
          obtain ⟨r1, r2⟩ := linRng_ok h hr
          split at hf
          · rename_i hc
            simp at hf; subst hf
            simp only [Sy.ev]
            rw [wrap_in k (by omega) (by omega)]
            exact ⟨r1, r2, by simp⟩
          · simp at hf; subst hf
            exact wrap_xf k _
        · simp at hf; subst hf
          exact wrap_xf k _
  | op o a b iha ihb =>
    intro k f hf
    simp only [rngF] at hf
    split at hf
    · rename_i g hg
      simp at hf; subst hf
      exact findF_ok h.2.1 hg
    · split at hf
      · rename_i m _
        split at hf
        · rename_i hm
          have hev : (Sy.op .rem a (.c m)).ev e k = (a.ev e k).tmod m := by
            have h0 : arithV .rem k (a.ev e k) m = some (.int k ((a.ev e k).tmod m)) := by
              have : ¬ m = 0 := by omega
              simp [arithV, this]
            show (match arithV .rem k (a.ev e k) m with | some (.int _ n) => n | _ => 0) = _
            rw [h0]
          rw [hev]
          have hb : (a.ev e k).tmod m ≤ m - 1 ∧ 1 - m ≤ (a.ev e k).tmod m ∧ (0 ≤ a.ev e k → 0 ≤ (a.ev e k).tmod m) := by
            rcases Int.le_total 0 (a.ev e k) with h0 | h0
            · rw [Int.tmod_eq_emod_of_nonneg h0]
              have := Int.emod_nonneg (a.ev e k) (show m ≠ 0 by omega)
              have := Int.emod_lt_of_pos (a.ev e k) hm
              exact ⟨by omega, by omega, fun _ => by omega⟩
            · have h1 : (a.ev e k).tmod m = -((-(a.ev e k)).tmod m) := by rw [Int.neg_tmod]; omega
              have h2 : (-(a.ev e k)).tmod m = (-(a.ev e k)) % m := Int.tmod_eq_emod_of_nonneg (by omega)
              have := Int.emod_nonneg (-(a.ev e k)) (show m ≠ 0 by omega)
              have := Int.emod_lt_of_pos (-(a.ev e k)) hm
              refine ⟨by omega, by omega, fun h' => ?_⟩
              have : a.ev e k = 0 := by omega
              rw [this]; simp
          split at hf
          · rename_i g hg
            have hga := iha hg
            split at hf
            · rename_i h0
              simp at hf; subst hf
              have : a.ev e k = g.lo := by have := hga.1; have := hga.2.1; omega
              rw [this]
              exact ⟨by simp, by simp, by simp⟩
            split at hf
            · rename_i h0
              simp at hf; subst hf
              exact ⟨hb.2.2 (by have := hga.1; omega), hb.1, by simp⟩
            · simp at hf; subst hf
              exact ⟨hb.2.1, hb.1, by simp⟩
          · simp at hf; subst hf
            exact ⟨hb.2.1, hb.1, by simp⟩
        · simp at hf
      · simp at hf
  | cv j a iha =>
    intro k f hf
    simp only [rngF] at hf
    split at hf
    · rename_i g hg
      simp at hf; subst hf
      exact findF_ok h.2.1 hg
    · split at hf
      · rename_i g hg
        have hga := iha hg
        split at hf
        · rename_i hc
          simp at hf; subst hf
          simp only [Sy.ev]
          rw [wrap_in k (by have := hga.1; omega) (by have := hga.2.1; omega)]
          exact hga
        · simp at hf; subst hf
          exact wrap_xf k _
      · simp at hf; subst hf
        exact wrap_xf k _

def xset : List (Nat × Xf) → Nat → Xf → List (Nat × Xf)
  | [], i, f => [(i, f)]
  | p :: l, i, f => if p.1 = i then (i, f) :: l else p :: xset l i f
theorem xset_ok {e : En} {i : Nat} {f : Xf} (hf : f.ok (e.x i)) : ∀ {l : List (Nat × Xf)}, (∀ p ∈ l, p.2.ok (e.x p.1)) → ∀ p ∈ xset l i f, p.2.ok (e.x p.1)
  | [], _, p, hp => by simp [xset] at hp; subst hp; exact hf
  | q :: l, h, p, hp => by
    simp only [xset] at hp
    split at hp
    · rcases List.mem_cons.1 hp with rfl | hp
      · exact hf
      · exact h p (List.mem_cons_of_mem _ hp)
    · rcases List.mem_cons.1 hp with rfl | hp
      · exact h _ List.mem_cons_self
      · exact xset_ok hf (fun p hp => h p (List.mem_cons_of_mem _ hp)) p hp
/-- More is known of a term. -/
def assume (iv : Iv) (k : IntKind) (s : Sy) (g : Xf) : Iv := match single iv k s with
  | some (n, up, i, _) => ⟨xset iv.xs i (if up then ⟨g.lo - n, g.hi - n, g.ex.map (· - n)⟩ else ⟨n - g.hi, n - g.lo, g.ex.map (n - ·)⟩), iv.fs, iv.ps⟩
  | none => ⟨iv.xs, ⟨k, s, g⟩ :: iv.fs, iv.ps⟩
theorem assume_ok {e : En} {iv : Iv} (h : iv.ok e) {k : IntKind} {s : Sy} {g : Xf} (hg : g.ok (s.ev e k)) : (assume iv k s g).ok e := by
  unfold assume
  split
  · rename_i n up i f hs
    obtain ⟨h1, _, _⟩ := single_ok h hs
    obtain ⟨g1, g2, g3⟩ := hg
    rw [h1] at g1 g2 g3
    refine ⟨xset_ok ?_ h.1, h.2⟩
    cases up with
    | true =>
      simp only [if_true] at g1 g2 g3 ⊢
      refine ⟨by simp only; omega, by simp only; omega, fun c hc => ?_⟩
      obtain ⟨d, hd, rfl⟩ := List.mem_map.1 hc
      have := g3 d hd
      omega
    | false =>
      simp only [Bool.false_eq_true, if_false] at g1 g2 g3 ⊢
      refine ⟨by simp only; omega, by simp only; omega, fun c hc => ?_⟩
      obtain ⟨d, hd, rfl⟩ := List.mem_map.1 hc
      have := g3 d hd
      omega
  · refine ⟨h.1, fun f hf => ?_, h.2.2⟩
    rcases List.mem_cons.1 hf with rfl | hf
    · exact hg
    · exact h.2.1 f hf

/-! ### Forcing -/
noncomputable def fXf (f : Xf) (k : Xf → Bool) : Bool := fI f.lo fun a => fI f.hi fun b => fLs (fun c k => fI c k) f.ex fun l => k ⟨a, b, l⟩
theorem fXf_eq (f : Xf) (k : Xf → Bool) : fXf f k = k f := by
  simp only [fXf, fI_eq]
  rw [fLs_eq fun _ _ => rfl]
noncomputable def fIv (iv : Iv) (k : Iv → Bool) : Bool :=
  fLs (fun p k => fN p.1 fun i => fXf p.2 fun f => k (i, f)) iv.xs fun xs => fLs (fun f k => fXf f.f fun g => k ⟨f.k, f.s, g⟩) iv.fs fun fs => k ⟨xs, fs, iv.ps⟩
theorem fIv_eq (iv : Iv) (k : Iv → Bool) : fIv iv k = k iv := by
  simp only [fIv]
  rw [fLs_eq fun a k => by simp only [fN_eq, fXf_eq], fLs_eq fun a k => by simp only [fXf_eq]]
noncomputable def fBt (b : Bt) (k : Bt → Bool) : Bool := match b with
  | .z => k .z
  | .o => k .o
  | .v i j => fN i fun i => fN j fun j => k (.v i j)
  | .not a => k (.not a)
  | .and a b => k (.and a b)
  | .or a b => k (.or a b)
  | .xor a b => k (.xor a b)
  | .sum as bs => fLs (fun a k => k a) as fun as => fLs (fun a k => k a) bs fun bs => k (.sum as bs)
theorem fBt_eq (b : Bt) (k : Bt → Bool) : fBt b k = k b := by
  cases b <;> simp only [fBt, fN_eq]
  rw [fLs_eq fun _ _ => rfl, fLs_eq fun _ _ => rfl]
/-- A term's head, forced. -/
noncomputable def fSy (s : Sy) (k : Sy → Bool) : Bool := match s with
  | .w l => fLs fBt l fun l => k (.w l)
  | .lin n l => fI n fun n => fLs (fun p k => fI p.1 fun a => fN p.2 fun i => k (a, i)) l fun l => k (.lin n l)
  | .c n => fI n fun n => k (.c n)
  | .op o a b => k (.op o a b)
  | .cv j a => k (.cv j a)
theorem fSy_eq (s : Sy) (k : Sy → Bool) : fSy s k = k s := by
  cases s <;> simp only [fSy, fI_eq]
  · rw [fLs_eq fBt_eq]
  · rw [fLs_eq fun a k => by simp only [fN_eq]]
noncomputable def fVs (v : V) (k : V → Bool) : Bool := match v with
  | .int d n => fI n fun n => k (.int d n)
  | .bool b => fB b fun b => k (.bool b)
  | .sym d s => fSy s fun s => k (.sym d s)
  | v => k v
theorem fVs_eq (v : V) (k : V → Bool) : fVs v k = k v := by
  cases v <;> simp only [fVs, fI_eq, fB_eq, fSy_eq]

/-! ### Questions -/
/-- Is what is known at odds with itself? -/
def badIv (iv : Iv) : Bool := iv.fs.any fun f => match rngF ⟨iv.xs, [], iv.ps⟩ f.k f.s with
  | some g => decide (g.hi < f.f.lo ∨ f.f.hi < g.lo ∨ (g.lo = g.hi ∧ g.lo ∈ f.f.ex))
  | none => false
theorem badIv_no {iv : Iv} {e : En} (he : iv.ok e) : badIv iv = false := by
  cases hb : badIv iv with
  | false => rfl
  | true =>
    exfalso
    simp only [badIv, List.any_eq_true] at hb
    obtain ⟨f, hf, hc⟩ := hb
    have he' : Iv.ok e ⟨iv.xs, [], iv.ps⟩ := ⟨he.1, by simp, he.2.2⟩
    obtain ⟨f1, f2, f3⟩ := he.2.1 f hf
    split at hc
    · rename_i g hg
      obtain ⟨g1, g2, g3⟩ := rngF_ok he' hg
      have hc := of_decide_eq_true hc
      rcases hc with hc | hc | ⟨hc, hm⟩
      · omega
      · omega
      · exact f3 _ hm (by omega)
    · simp at hc
/-- Go on, unless it is at odds with itself. -/
noncomputable def goIv (iv : Iv) (κ : Iv → Bool) : Bool := fIv iv fun iv => @Bool.rec (fun _ => Bool) (κ iv) true (badIv iv)
theorem goIv_true {iv : Iv} {κ : Iv → Bool} (h : goIv iv κ = true) {e : En} (he : iv.ok e) : κ iv = true := by
  unfold goIv at h
  rw [fIv_eq, badIv_no he] at h
  exact h
abbrev KI := V → Iv → Bool
/-- Both answers that may be. -/
noncomputable def both (t f : Bool → Bool) : Bool := fIf (t true) (f true)
noncomputable def askLe (iv : Iv) (k : IntKind) (s : Sy) (c : Int) (κ : Bool → Iv → Bool) : Bool := match rngF iv k s with
  | some f => if f.hi ≤ c then κ true iv else if c < f.lo then κ false iv else fIf (goIv (assume iv k s ⟨f.lo, c, f.ex⟩) fun iv => κ true iv) (goIv (assume iv k s ⟨c + 1, f.hi, f.ex⟩) fun iv => κ false iv)
  | none => false
theorem askLe_true {iv : Iv} {k : IntKind} {s : Sy} {c : Int} {κ : Bool → Iv → Bool} (h : askLe iv k s c κ = true) {e : En} (he : iv.ok e) : ∃ iv', iv'.ok e ∧ κ (decide (s.ev e k ≤ c)) iv' = true := by
  unfold askLe at h
  split at h
  · rename_i f hf
    have hr := rngF_ok he hf
    obtain ⟨h1, h2, h3⟩ := hr
    split at h
    · rename_i hc
      exact ⟨iv, he, by rw [decide_eq_true (show s.ev e k ≤ c by omega)]; exact h⟩
    · split at h
      · rename_i hc
        exact ⟨iv, he, by rw [decide_eq_false (show ¬ s.ev e k ≤ c by omega)]; exact h⟩
      · obtain ⟨ht, hf'⟩ := fIf_true h
        by_cases hle : s.ev e k ≤ c
        · have hg : Xf.ok ⟨f.lo, c, f.ex⟩ (s.ev e k) := ⟨h1, hle, h3⟩
          exact ⟨_, assume_ok he hg, by rw [decide_eq_true hle]; exact goIv_true ht (assume_ok he hg)⟩
        · have hg : Xf.ok ⟨c + 1, f.hi, f.ex⟩ (s.ev e k) := ⟨by simp only; omega, h2, h3⟩
          exact ⟨_, assume_ok he hg, by rw [decide_eq_false hle]; exact goIv_true hf' (assume_ok he hg)⟩
  · simp at h
noncomputable def askEq (iv : Iv) (k : IntKind) (s : Sy) (c : Int) (κ : Bool → Iv → Bool) : Bool := match rngF iv k s with
  | some f => if c < f.lo ∨ f.hi < c ∨ c ∈ f.ex then κ false iv else if f.lo = f.hi then κ true iv else
      fIf (goIv (assume iv k s ⟨c, c, []⟩) fun iv => κ true iv) (goIv (assume iv k s (if c = f.lo then ⟨c + 1, f.hi, f.ex⟩ else if c = f.hi then ⟨f.lo, c - 1, f.ex⟩ else ⟨f.lo, f.hi, c :: f.ex⟩)) fun iv => κ false iv)
  | none => false
theorem askEq_true {iv : Iv} {k : IntKind} {s : Sy} {c : Int} {κ : Bool → Iv → Bool} (h : askEq iv k s c κ = true) {e : En} (he : iv.ok e) : ∃ iv', iv'.ok e ∧ κ (decide (s.ev e k = c)) iv' = true := by
  unfold askEq at h
  split at h
  · rename_i f hf
    have hr := rngF_ok he hf
    obtain ⟨h1, h2, h3⟩ := hr
    split at h
    · rename_i hc
      refine ⟨iv, he, ?_⟩
      rw [decide_eq_false]
      · exact h
      · rcases hc with hc | hc | hc
        · omega
        · omega
        · exact h3 c hc
    · rename_i hnc
      simp only [not_or] at hnc
      split at h
      · rename_i hc
        exact ⟨iv, he, by rw [decide_eq_true (show s.ev e k = c by omega)]; exact h⟩
      · obtain ⟨ht, hf'⟩ := fIf_true h
        by_cases heq : s.ev e k = c
        · have hg : Xf.ok ⟨c, c, []⟩ (s.ev e k) := ⟨by simp only; omega, by simp only; omega, by simp⟩
          exact ⟨_, assume_ok he hg, by rw [decide_eq_true heq]; exact goIv_true ht (assume_ok he hg)⟩
        · have hg : Xf.ok (if c = f.lo then ⟨c + 1, f.hi, f.ex⟩ else if c = f.hi then ⟨f.lo, c - 1, f.ex⟩ else ⟨f.lo, f.hi, c :: f.ex⟩) (s.ev e k) := ?_
          exact ⟨_, assume_ok he hg, by rw [decide_eq_false heq]; exact goIv_true hf' (assume_ok he hg)⟩
          split
          · exact ⟨by simp only; omega, h2, h3⟩
          · split
            · exact ⟨h1, by simp only; omega, h3⟩
            · refine ⟨h1, h2, fun d hd => ?_⟩
              rcases List.mem_cons.1 hd with rfl | hd
              · exact heq
              · exact h3 d hd
  · simp at h

/-- All points of a range. -/
def allPts (ex : List Int) (g : Int → Bool) : Nat → Int → Bool
  | 0, _ => true
  | n + 1, a => (if a ∈ ex then true else g a) && allPts ex g n (a + 1)
theorem allPts_get {ex : List Int} {g : Int → Bool} : ∀ {n : Nat} {a : Int}, allPts ex g n a = true → ∀ c, a ≤ c → c < a + n → (∀ d ∈ ex, c ≠ d) → g c = true
  | 0, a, _, c, h1, h2, _ => by omega
  | n + 1, a, h, c, h1, h2, h3 => by
    simp only [allPts, Bool.and_eq_true] at h
    by_cases e : c = a
    · subst e
      have := h.1
      rw [if_neg (fun hm => h3 c hm rfl)] at this
      exact this
    · exact allPts_get h.2 c (by omega) (by omega) h3
/-- A term's value: a number, if need be each that may be. -/
noncomputable def askPt (iv : Iv) (k : IntKind) (s : Sy) (κ : Int → Iv → Bool) : Bool := match rngF iv k s with
  | some f => if f.lo = f.hi then fI f.lo fun n => κ n iv else match s with
    | .lin m [(a, i)] => match xget iv.xs i with
      | some g => if g.hi - g.lo ≤ 15 then allPts g.ex (fun n => goIv ⟨xset iv.xs i ⟨n, n, []⟩, iv.fs, iv.ps⟩ fun iv' => match rngF iv' k (.lin m [(a, i)]) with
          | some f' => if f'.lo = f'.hi then fI f'.lo fun n => κ n iv' else false
          | none => false) (g.hi - g.lo + 1).toNat g.lo else false
      | none => false
    | s => if f.hi - f.lo ≤ 15 then allPts f.ex (fun n => fI n fun n => goIv (assume iv k s ⟨n, n, []⟩) fun iv => κ n iv) (f.hi - f.lo + 1).toNat f.lo else false
  | none => false
theorem askPt_true {iv : Iv} {k : IntKind} {s : Sy} {κ : Int → Iv → Bool} (h : askPt iv k s κ = true) {e : En} (he : iv.ok e) : ∃ iv', iv'.ok e ∧ κ (s.ev e k) iv' = true := by
  unfold askPt at h
  split at h
  · rename_i f hf
    obtain ⟨h1, h2, h3⟩ := rngF_ok he hf
    split at h
    · rename_i hc
      rw [fI_eq] at h
      exact ⟨iv, he, by rw [show s.ev e k = f.lo by omega]; exact h⟩
    · split at h
      · rename_i m a i
        split at h
        · rename_i g hg
          obtain ⟨g1, g2, g3⟩ := he.1 _ (xget_mem hg)
          simp only at g1 g2 g3
          split at h
          · have hp := allPts_get h (e.x i) g1 (by omega) g3
            have he' : Iv.ok e ⟨xset iv.xs i ⟨e.x i, e.x i, []⟩, iv.fs, iv.ps⟩ := ⟨xset_ok ⟨by simp, by simp, by simp⟩ he.1, he.2⟩
            have hp := goIv_true hp he'
            split at hp
            · rename_i f' hf'
              obtain ⟨q1, q2, _⟩ := rngF_ok he' hf'
              split at hp
              · rename_i hq
                rw [fI_eq] at hp
                exact ⟨_, he', by rw [show (Sy.lin m [(a, i)]).ev e k = f'.lo by omega]; exact hp⟩
              · simp at hp
            · simp at hp
          · simp at h
        · simp at h
      · split at h
        · have hp := allPts_get h (s.ev e k) h1 (by omega) h3
          rw [fI_eq] at hp
          have hg : Xf.ok ⟨s.ev e k, s.ev e k, []⟩ (s.ev e k) := ⟨by simp, by simp, by simp⟩
          exact ⟨_, assume_ok he hg, goIv_true hp (assume_ok he hg)⟩
        · simp at h
  · simp at h
end Go.Abs
