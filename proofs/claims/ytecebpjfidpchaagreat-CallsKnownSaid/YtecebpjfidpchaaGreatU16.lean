/- PART of the proof of CallsKnown: A region whose order is open: the proof. No condition. -/
import Derived.Test.YtecebpjfidpchaaGreatU15
/-! A region whose order is open: the proof. -/
namespace Go.Abs

/-- Our run of a region, and what was looked at. -/
structure Canon (P : Program) (gl : List Nat) (nt : Nat) (ops : Array Oper) (M : List Nat) (its : List It) (m : MT) (call : Call) (base : Nat) (pn : Pn) (st : Nat → T V × H) (hs : Nat → List H) : Prop where
  chk : chkDraw M ops its = true
  comp : ∀ i ∈ its, ∃ o, ops[i.idx]? = some o ∧ compOp P gl nt ops o = some i.o
  fl : ∀ i ∈ its, i.heavy = !floats i.o.x
  run : Runs m call base its pn st hs
  first : hs 0 = [(st 0).2]

/-- What a frame holds when so much has been done. -/
def Shadow (its : List It) (st : Nat → T V × H) (D : Nat → Prop) (tc : T V) : Prop :=
  (∀ p i d, its[p]? = some i → D p → i.o.dst = some d → ev tc (.t d) = ev (st (p + 1)).1 (.t d)) ∧
  ∀ x, (∀ p i, its[p]? = some i → D p → i.o.dst ≠ some x) → ev tc (.t x) = ev (st 0).1 (.t x)

def Closed (ops : Array Oper) (S : Nat → Prop) : Prop := ∀ (k : Nat) o, ops[k]? = some o → S k → ∀ p ∈ predsOf o, S p

def hvs (its : List It) (p : Nat) : List It := ((its.take p).filter (·.heavy)).reverse

theorem ev_putd (t : T V) (d : Option Nat) (v : V) (x : Nat) : ev (putd t d v) (.t x) = if d = some x then v else ev t (.t x) := by
  cases d with
  | none => simp [putd]
  | some d => rw [putd, ev_put]; simp

section
variable {P : Program} {gl : List Nat} {nt : Nat} {ops : Array Oper} {M : List Nat} {its : List It} {m : MT} {call : Call} {base : Nat} {pn : Pn} {st : Nat → T V × H} {hs : Nat → List H}

namespace Canon
theorem chkM (c : Canon P gl nt ops M its m call base pn st hs) : Go.Abs.chkM M 0 ops.toList = true := by
  have := c.chk
  simp only [chkDraw, Bool.and_eq_true] at this
  exact this.1.1.1.1
theorem pair (c : Canon P gl nt ops M its m call base pn st hs) {p q : Nat} {a b : It} (h : p < q) (ha : its[p]? = some a) (hb : its[q]? = some b) :
    a.idx ≠ b.idx ∧ (∀ d, a.o.dst = some d → b.o.dst ≠ some d) ∧ (∀ d, a.o.dst = some d → b.o.uses d = true → bit M b.idx a.idx = true) ∧ (∀ d, b.o.dst = some d → a.o.uses d = true → bit M b.idx a.idx = true) ∧ (b.heavy = true → bit M b.idx a.idx = true) := by
  have := c.chk
  simp only [chkDraw, Bool.and_eq_true] at this
  have := chkPairs_get this.1.1.1.2 p q a b h ha hb
  simp only [pairOk, Bool.and_eq_true, decide_eq_true_eq, Bool.or_eq_true] at this
  obtain ⟨⟨⟨⟨h1, h2⟩, h3⟩, h4⟩, h5⟩ := this
  refine ⟨h1, fun d hd he => ?_, fun d hd hu => ?_, fun d hd hu => ?_, fun hh => ?_⟩
  · rw [hd, he] at h2; simp at h2
  · rw [hd] at h3; simpa [hu] using h3
  · rw [hd] at h4; simpa [hu] using h4
  · simpa [hh] using h5
theorem dsts (c : Canon P gl nt ops M its m call base pn st hs) {p q : Nat} {a b : It} (h : p ≠ q) (ha : its[p]? = some a) (hb : its[q]? = some b) {d : Nat} (hd : a.o.dst = some d) : b.o.dst ≠ some d := by
  rcases Nat.lt_or_gt_of_ne h with h | h
  · exact (c.pair h ha hb).2.1 d hd
  · intro he
    exact (c.pair h hb ha).2.1 d he hd
theorem idxs (c : Canon P gl nt ops M its m call base pn st hs) {p q : Nat} {a b : It} (ha : its[p]? = some a) (hb : its[q]? = some b) (he : a.idx = b.idx) : p = q := by
  rcases Nat.lt_trichotomy p q with h | h | h
  · exact absurd he (c.pair h ha hb).1
  · exact h
  · exact absurd he.symm (c.pair h hb ha).1
theorem all (c : Canon P gl nt ops M its m call base pn st hs) : its.length = ops.size ∧ (∀ i ∈ its, i.idx < ops.size) ∧ ∀ k, k < ops.size → ∃ (p : Nat) (i : It), its[p]? = some i ∧ i.idx = k := by
  have := c.chk
  simp only [chkDraw, chkAll, Bool.and_eq_true, decide_eq_true_eq, List.all_eq_true, List.any_eq_true] at this
  obtain ⟨⟨_, ⟨h1, h2⟩, h3⟩, _⟩ := this
  refine ⟨h1, h2, fun k hk => ?_⟩
  obtain ⟨i, hi, e⟩ := h3 k (by simpa using hk)
  obtain ⟨p, hp⟩ := List.getElem?_of_mem hi
  exact ⟨p, i, hp, e⟩
theorem ancs (c : Canon P gl nt ops M its m call base pn st hs) {i : It} (hi : i ∈ its) (k : Nat) : i.anc.testBit k = bit M i.idx k := by
  have := c.chk
  simp only [chkDraw, Bool.and_eq_true, List.all_eq_true, decide_eq_true_eq] at this
  rw [this.2 i hi]; rfl
theorem put (c : Canon P gl nt ops M its m call base pn st hs) {p : Nat} {i : It} (hi : its[p]? = some i) : ∃ v, (st (p + 1)).1 = putd (st p).1 i.o.dst v := by
  by_cases hl : Live pn p i
  · cases hh : i.heavy with
    | false => exact evFl_put (t' := (st (p + 1)).1) (σ' := (st (p + 1)).2) (c.run.light p i hi hl hh)
    | true => exact ev1_put (c.run.hard p i hi hl hh)
  · exact ⟨.undef, by rw [c.run.dead p i hi hl]⟩

/-- More is done. -/
theorem shadow_put (c : Canon P gl nt ops M its m call base pn st hs) {D : Nat → Prop} {tc : T V} (h : Shadow its st D tc) {p : Nat} {i : It} (hi : its[p]? = some i) {v : V} (hv : (st (p + 1)).1 = putd (st p).1 i.o.dst v) {D' : Nat → Prop} (hD : ∀ q, D' q ↔ (D q ∨ q = p)) :
    Shadow its st D' (putd tc i.o.dst v) := by
  refine ⟨fun q j d hj hq hd => ?_, fun x hx => ?_⟩
  · rw [ev_putd]
    rcases (hD q).1 hq with hq' | rfl
    · by_cases hqp : q = p
      · subst hqp
        rw [hi] at hj; simp at hj; subst hj
        rw [if_pos hd, hv, ev_putd, if_pos hd]
      · rw [if_neg (fun he => c.dsts hqp hj hi hd he)]
        exact h.1 q j d hj hq' hd
    · rw [hi] at hj; simp at hj; subst hj
      rw [if_pos hd, hv, ev_putd, if_pos hd]
  · rw [ev_putd, if_neg (hx p i hi ((hD p).2 (.inr rfl)))]
    exact h.2 x fun q j hj hq => hx q j hj ((hD q).2 (.inl hq))

theorem canon_shadow (c : Canon P gl nt ops M its m call base pn st hs) : ∀ p, p ≤ its.length → Shadow its st (· < p) (st p).1
  | 0, _ => ⟨fun p i d _ h _ => by omega, fun _ _ => rfl⟩
  | p + 1, hp => by
    have hi : its[p]? = some its[p] := by simp [show p < its.length from by omega]
    obtain ⟨v, hv⟩ := c.put hi
    rw [hv]
    exact c.shadow_put (c.canon_shadow p (by omega)) hi hv fun q => by omega

/-- What an operation uses is as it is in our run. -/
theorem agree (c : Canon P gl nt ops M its m call base pn st hs) {D : Nat → Prop} {tc : T V} (h : Shadow its st D tc) {p : Nat} {i : It} (hi : its[p]? = some i) (hp : ¬ D p)
    (hb : ∀ q j, its[q]? = some j → bit M i.idx j.idx = true → D q) (ha : ∀ q j, its[q]? = some j → bit M j.idx i.idx = true → ¬ D q) : ∀ x, i.o.uses x = true → ev tc (.t x) = ev (st p).1 (.t x) := by
  intro x hx
  have hplt : p < its.length := (List.getElem?_eq_some_iff.1 hi).1
  have hc := c.canon_shadow p (by omega)
  by_cases hw : ∃ q j, its[q]? = some j ∧ j.o.dst = some x ∧ q ≠ p
  · obtain ⟨q, j, hj, hd, hqp⟩ := hw
    have only : ∀ r k, its[r]? = some k → k.o.dst = some x → r = q := by
      intro r k hk hkd
      by_cases hrq : r = q
      · exact hrq
      · exact absurd hd (c.dsts hrq hk hj hkd)
    rcases Nat.lt_or_gt_of_ne hqp with hlt | hgt
    · have := (c.pair hlt hj hi).2.2.1 x hd hx
      rw [h.1 q j x hj (hb q j hj this) hd, hc.1 q j x hj hlt hd]
    · have := (c.pair hgt hi hj).2.2.2.1 x hd hx
      have hnq := ha q j hj this
      rw [h.2 x fun r k hk hr hkd => hnq (only r k hk hkd ▸ hr), hc.2 x fun r k hk hr hkd => by
        have := only r k hk hkd
        omega]
  · have hw' : ∀ q j, its[q]? = some j → q ≠ p → j.o.dst ≠ some x := fun q j hj hq hd => hw ⟨q, j, hj, hd, hq⟩
    rw [h.2 x fun r k hk hr => hw' r k hk (fun e => hp (e ▸ hr)), hc.2 x fun r k hk hr => hw' r k hk (by omega)]

theorem hvs_succ {p : Nat} {i : It} (hi : its[p]? = some i) : hvs its (p + 1) = if i.heavy then i :: hvs its p else hvs its p := by
  have hlt := (List.getElem?_eq_some_iff.1 hi).1
  have e := (List.getElem?_eq_some_iff.1 hi).2
  simp only [hvs]
  rw [List.take_succ_eq_append_getElem hlt, e, List.filter_append]
  by_cases hh : i.heavy
  · simp [hh]
  · simp [hh]

/-- The states and the heavy ones between two places. -/
theorem hist_split (c : Canon P gl nt ops M its m call base pn st hs) (q : Nat) : ∀ n, q + n ≤ its.length → ∃ a b, hs (q + n) = a ++ hs q ∧ hvs its (q + n) = b ++ hvs its q ∧ a.length = b.length ∧ ∀ h ∈ b, ∃ r, q ≤ r ∧ its[r]? = some h ∧ h.heavy = true
  | 0, _ => ⟨[], [], rfl, rfl, rfl, by simp⟩
  | n + 1, hn => by
    obtain ⟨a, b, h1, h2, h3, h4⟩ := c.hist_split q n (by omega)
    have hi : its[q + n]? = some (its[q + n]'(by omega)) := by simp [show q + n < its.length from by omega]
    have hr := c.run.hist _ _ hi
    have hv := hvs_succ hi
    rw [show q + (n + 1) = q + n + 1 from rfl, hr, hv, h1, h2]
    by_cases hh : (its[q + n]'(by omega)).heavy = true
    · rw [if_pos hh, if_pos hh]
      refine ⟨_ :: a, _ :: b, rfl, rfl, by simp [h3], fun h hm => ?_⟩
      rcases List.mem_cons.1 hm with rfl | hm
      · exact ⟨q + n, by omega, hi, hh⟩
      · exact h4 h hm
    · rw [if_neg hh, if_neg hh]
      exact ⟨a, b, rfl, rfl, h3, h4⟩

theorem back_get {M : List Nat} : ∀ {l hv : List It}, chkBack M hv l = true → ∀ p i, l[p]? = some i → i.heavy = false → isLoad i.o.x = true → 1 ≤ i.back ∧ ∀ h, (hvs l p ++ hv)[i.back - 1]? = some h → bit M i.idx h.idx = true
  | [], hv, _, p, i, h, _, _ => by simp at h
  | j :: l, hv, hc, p, i, hi, hh, hl => by
    simp only [chkBack, Bool.and_eq_true, Bool.or_eq_true] at hc
    cases p with
    | zero =>
      simp at hi; subst hi
      rcases hc.1 with (h | h) | h
      · rw [hh] at h; simp at h
      · rw [hl] at h; simp at h
      · simp only [decide_eq_true_eq] at h
        refine ⟨h.1, fun k hk => ?_⟩
        have : hvs (j :: l) 0 ++ hv = hv := by simp [hvs]
        rw [this] at hk
        have h2 := h.2
        rw [hk] at h2; exact h2
    | succ p =>
      have := back_get hc.2 p i (by simpa using hi) hh hl
      refine ⟨this.1, fun k hk => this.2 k ?_⟩
      rw [← hk]
      congr 1
      simp only [hvs, List.take_succ_cons, List.filter_cons]
      by_cases hj : j.heavy = true <;> simp [hj]
end Canon
end
end Go.Abs
