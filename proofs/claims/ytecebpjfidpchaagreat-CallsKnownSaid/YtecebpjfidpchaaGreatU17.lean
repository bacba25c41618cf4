/- PART of the proof of CallsKnown: A region whose order is open: every order. No condition. -/
import Derived.Test.YtecebpjfidpchaaGreatU16
/-! A region whose order is open: every order. -/
namespace Go.Abs

section
variable {P : Program} {gl : List Nat} {nt : Nat} {ops : Array Oper} {M : List Nat} {its : List It} {m : MT} {call : Call} {base : Nat} {pn : Pn} {st : Nat → T V × H} {hs : Nat → List H}
variable {φ0 : F} {σ0 : H} {w0 : World}

/-- A block that the program has made and that we make later. -/
def Pend (base : Nat) (st : Nat → T V × H) (w0 : World) (c : Nat) (φ : F) (w : World) (p : Nat) (i : It) (x : XA) : Prop :=
  ∃ B mk pl obj, stepA (ev (st p).1) x = some (B, mk) ∧ B.ro = false ∧ φ (base + i.idx) = some pl ∧ w.heap[pl.cb]? = some obj ∧ w0.heap.size ≤ pl.cb ∧
    (∀ (w' : World) (ψ : F), φ.le ψ → w'.heap[pl.cb]? = some obj → BRel ψ w' pl B ∧ Sized w' pl) ∧ ∀ b B' q, (st c).2.get b = some B' → φ b = some q → q.cb ≠ pl.cb

/-- Memory, when our run stands at a place and so much has been done. -/
structure Lite (its : List It) (base : Nat) (st : Nat → T V × H) (φ0 : F) (σ0 : H) (w0 : World) (S : Nat → Prop) (c : Nat) (φ : F) (w : World) : Prop where
  sim : Sim φ0 σ0 w0 φ (st c).2 w
  room : base + its.length ≤ (st c).2.next
  pend : ∀ (p : Nat) (i : It) (x : XA), its[p]? = some i → c ≤ p → S i.idx → i.heavy = false → i.o.x = .a x → wantedV (st p).1 i.o.g = true → Pend base st w0 c φ w p i x
  dist : ∀ (p : Nat) (i : It) (q : Nat) (j : It) (pl pl' : Pl), its[p]? = some i → its[q]? = some j → p ≠ q → c ≤ p → c ≤ q → φ (base + i.idx) = some pl → φ (base + j.idx) = some pl' → pl.cb ≠ pl'.cb

theorem Lite.mono {S S' : Nat → Prop} {c : Nat} {φ : F} {w : World} (h : Lite its base st φ0 σ0 w0 S c φ w) (hS : ∀ (p : Nat) (i : It) (x : XA), its[p]? = some i → c ≤ p → S' i.idx → i.heavy = false → i.o.x = .a x → wantedV (st p).1 i.o.g = true → S i.idx) : Lite its base st φ0 σ0 w0 S' c φ w :=
  ⟨h.sim, h.room, fun p i x hi hc hs hh hx hw => h.pend p i x hi hc (hS p i x hi hc hs hh hx hw) hh hx hw, h.dist⟩

/-- A block of ours comes into sight. -/
theorem Sim.show {φ : F} {σ : H} {w : World} (h : Sim φ0 σ0 w0 φ σ w) {id : Nat} {B : Blk} {pl : Pl} (hp : φ id = some pl) (hb : BRel φ w pl B) (hro : B.ro = false) (hcb : w0.heap.size ≤ pl.cb) (hid : σ0.next ≤ id)
    (hl : ∀ b B' q, σ.get b = some B' → φ b = some q → q.cb ≠ pl.cb) : Sim φ0 σ0 w0 φ (σ.set id B) w := by
  refine ⟨⟨?_, ?_, fun b p hp => h.rel.dom b p hp⟩, h.ext, h.keep, ?_, h.size, h.os, h.out, h.next, h.old, ?_, ?_⟩
  · intro b C hC
    rw [H.get_set] at hC
    by_cases hb' : id = b
    · rw [if_pos hb'] at hC
      simp at hC; subst hC; subst hb'
      exact ⟨pl, hp, hb⟩
    · rw [if_neg hb'] at hC; exact h.rel.blk b C hC
  · intro b C b' C' p p' hC hC' hp1 hp2 hcb'
    rw [H.get_set] at hC hC'
    by_cases h1 : id = b <;> by_cases h2 : id = b'
    · exact h1.symm.trans h2
    · subst h1
      rw [if_neg h2] at hC'
      rw [hp] at hp1; simp at hp1; subst hp1
      exact absurd hcb'.symm (hl b' C' p' hC' hp2)
    · subst h2
      rw [if_neg h1] at hC
      rw [hp] at hp2; simp at hp2; subst hp2
      exact absurd hcb' (hl b C p hC hp1)
    · rw [if_neg h1] at hC; rw [if_neg h2] at hC'
      exact h.rel.inj _ _ _ _ _ _ hC hC' hp1 hp2 hcb'
  · rintro k ⟨b, C, p, hC, hr, hp1, rfl⟩
    rw [H.get_set] at hC
    by_cases h1 : id = b
    · subst h1
      rw [hp] at hp1; simp at hp1; subst hp1
      exact .inr hcb
    · rw [if_neg h1] at hC
      exact h.foot _ ⟨b, C, p, hC, hr, hp1, rfl⟩
  · intro b C hC hlt
    rw [H.get_set, if_neg (by omega)] at hC
    exact h.back b C hC hlt
  · intro b C hC hle
    rw [H.get_set] at hC
    by_cases h1 : id = b
    · rw [if_pos h1] at hC
      simp at hC; subst hC; exact hro
    · rw [if_neg h1] at hC; exact h.fresh b C hC hle

/-- Our run goes on by one that does not wait. -/
theorem Lite.advance (cn : Canon P gl nt ops M its m call base pn st hs) (hbase : σ0.next = base) {S : Nat → Prop} {c : Nat} {φ : F} {w : World} (h : Lite its base st φ0 σ0 w0 S c φ w) {i : It} (hi : its[c]? = some i) (hh : i.heavy = false) (hS : S i.idx) (hl : Live pn c i) :
    Lite its base st φ0 σ0 w0 S (c + 1) φ w := by
  have hrun := cn.run.light c i hi hl hh
  unfold evFl at hrun
  split at hrun
  · simp at hrun
  have same : (st (c + 1)).2 = (st c).2 → Lite its base st φ0 σ0 w0 S (c + 1) φ w := fun e =>
    ⟨by rw [e]; exact h.sim, by rw [e]; exact h.room, fun p j x hj hc hs hh hx hw => by
      obtain ⟨B, mk, pl, obj, a1, a2, a3, a4, a5, a6, a7⟩ := h.pend p j x hj (by omega) hs hh hx hw
      exact ⟨B, mk, pl, obj, a1, a2, a3, a4, a5, a6, by rw [e]; exact a7⟩, fun p j q k pl pl' h1 h2 h3 h4 h5 => h.dist p j q k pl pl' h1 h2 h3 (by omega) (by omega)⟩
  split at hrun
  · rename_i hw
    split at hrun
    · obtain ⟨v, _, e⟩ := map_some' hrun
      rw [Prod.ext_iff] at e
      exact same e.2
    · rename_i x hx
      obtain ⟨⟨B, mk⟩, hst, e⟩ := map_some' hrun
      rw [Prod.ext_iff] at e
      have e2 : (st (c + 1)).2 = (st c).2.set (base + i.idx) B := e.2
      obtain ⟨B', mk', pl, obj, a1, a2, a3, a4, a5, a6, a7⟩ := h.pend c i x hi (Nat.le_refl _) hS hh hx hw
      rw [hst] at a1
      simp at a1
      obtain ⟨rfl, rfl⟩ := a1
      obtain ⟨b1, b2⟩ := a6 w φ (F.le_refl φ) a4
      refine ⟨by rw [e2]; exact h.sim.show a3 b1 a2 a5 (by omega) a7, by rw [e2]; exact h.room, fun p j y hj hc hs hh' hy hw' => ?_, fun p j q k pl pl' h1 h2 h3 h4 h5 => h.dist p j q k pl pl' h1 h2 h3 (by omega) (by omega)⟩
      obtain ⟨C, mk2, pl2, obj2, c1, c2, c3, c4, c5, c6, c7⟩ := h.pend p j y hj (by omega) hs hh' hy hw'
      refine ⟨C, mk2, pl2, obj2, c1, c2, c3, c4, c5, c6, fun b B2 q hB hq => ?_⟩
      rw [e2, H.get_set] at hB
      by_cases hb : base + i.idx = b
      · subst hb
        exact h.dist c i p j q pl2 hi hj (by omega) (Nat.le_refl _) (by omega) hq c3
      · rw [if_neg hb] at hB; exact c7 b B2 q hB hq
    · split at hrun
      · split at hrun
        · simp only [Option.some.injEq, Prod.ext_iff] at hrun
          exact same hrun.2.symm
        · simp at hrun
      · simp at hrun
    · simp at hrun
  · simp only [Option.some.injEq, Prod.ext_iff] at hrun
    exact same hrun.2.symm

theorem Lite.reach (cn : Canon P gl nt ops M its m call base pn st hs) (hbase : σ0.next = base) {S : Nat → Prop} {c : Nat} {φ : F} {w : World} (h : Lite its base st φ0 σ0 w0 S c φ w) : ∀ n, c + n ≤ its.length → (∀ (q : Nat) (i : It), c ≤ q → q < c + n → its[q]? = some i → i.heavy = false ∧ S i.idx ∧ Live pn q i) →
    Lite its base st φ0 σ0 w0 S (c + n) φ w
  | 0, _, _ => h
  | n + 1, hn, hq => by
    have hi : its[c + n]? = some (its[c + n]'(by omega)) := by simp [show c + n < its.length from by omega]
    obtain ⟨h1, h2, h3⟩ := hq _ _ (by omega) (by omega) hi
    exact (Lite.reach cn hbase h n (by omega) fun q i a b => hq q i a (by omega)).advance cn hbase hi h1 h2 h3

/-- What holds when a set of operations has been done. -/
structure DInv (P : Program) (gl : List Nat) (nt : Nat) (ds : List Deferred) (ops : Array Oper) (its : List It) (base : Nat) (pn : Pn) (st : Nat → T V × H) (φ0 : F) (σ0 : H) (w0 : World) (S : Nat → Prop) (c : Nat) (φ : F) (tc : T V) (a : Act) (w : World) : Prop where
  closed : Closed ops S
  sh : Shadow its st (fun p => ∃ i : It, its[p]? = some i ∧ S i.idx) tc
  ar : ARel φ nt ds tc a
  cle : c ≤ its.length
  pre : ∀ (p : Nat) (i : It), p < c → its[p]? = some i → S i.idx
  post : ∀ (p : Nat) (i : It), c ≤ p → its[p]? = some i → i.heavy = true → ¬ S i.idx
  last : c = 0 ∨ ∃ (i : It) (q : Nat), c = q + 1 ∧ its[q]? = some i ∧ i.heavy = true
  lite : Lite its base st φ0 σ0 w0 S c φ w
  pool : ∀ (p : Nat) (i : It), its[p]? = some i → i.heavy = false → ¬ S i.idx → φ (base + i.idx) = none
  nop : ∀ (pp k : Nat) v σp, pn = some (pp, k, v, σp) → ¬ S k

/-- What may be done is met in our run, but for the one that panics. -/
theorem Canon.live (cn : Canon P gl nt ops M its m call base pn st hs) {S : Nat → Prop} (hcl : Closed ops S) (hno : ∀ (pp k : Nat) v σp, pn = some (pp, k, v, σp) → ¬ S k) {p : Nat} {i : It} (hi : its[p]? = some i) {o : Oper} (ho : ops[i.idx]? = some o) (hp : ∀ q ∈ predsOf o, S q) :
    Live pn p i ∨ ∃ k v σp t', pn = some (p, k, v, σp) ∧ i.heavy = true ∧ ev1 m call i.o (st p).1 (st p).2 = some (.pan v t' σp) := by
  cases hpn : pn with
  | none => exact .inl trivial
  | some q =>
    obtain ⟨pp, k, v, σp⟩ := q
    obtain ⟨ip, t', a1, a2, a3, a4⟩ := cn.run.pan pp k v σp hpn
    have anc := anc_closed cn.chkM hcl i.idx o ho hp
    have hb : bit M i.idx k = false := by
      cases hb : bit M i.idx k with
      | false => rfl
      | true => exact absurd (anc k hb) (hno pp k v σp hpn)
    rcases Nat.lt_trichotomy p pp with h | h | h
    · exact .inl (.inl h)
    · subst h
      rw [hi] at a1; simp at a1; subst a1
      exact .inr ⟨k, v, σp, t', rfl, a3, a4⟩
    · refine .inl (.inr ⟨h, ?_, ?_⟩)
      · cases hh : i.heavy with
        | false => rfl
        | true =>
          have := (cn.pair h a1 hi).2.2.2.2 hh
          rw [a2, hb] at this; simp at this
      · rw [cn.ancs (List.mem_of_getElem? hi)]; exact hb
theorem Canon.live_done (cn : Canon P gl nt ops M its m call base pn st hs) {S : Nat → Prop} (hcl : Closed ops S) (hno : ∀ (pp k : Nat) v σp, pn = some (pp, k, v, σp) → ¬ S k) {p : Nat} {i : It} (hi : its[p]? = some i) (hh : i.heavy = false) (hs : S i.idx) : Live pn p i := by
  have hlt := cn.all.2.1 i (List.mem_of_getElem? hi)
  have ho : ops[i.idx]? = some ops[i.idx] := by simp [hlt]
  rcases cn.live hcl hno hi ho (hcl _ _ ho hs) with h | ⟨_, _, _, _, _, h, _⟩
  · exact h
  · rw [hh] at h; simp at h

/-- When all has been done. -/
theorem DInv.done (cn : Canon P gl nt ops M its m call base pn st hs) (hbase : σ0.next = base) {ds : List Deferred} {S : Nat → Prop} {c : Nat} {φ : F} {tc : T V} {a : Act} {w : World} (h : DInv P gl nt ds ops its base pn st φ0 σ0 w0 S c φ tc a w) (hall : ∀ (p : Nat) (i : It), its[p]? = some i → S i.idx) :
    Sim φ0 σ0 w0 φ (st its.length).2 w ∧ ARel φ nt ds (st its.length).1 a := by
  have hr := h.lite.reach cn hbase (its.length - c) (by have := h.cle; omega) fun q i hq _ hi => by
    have hh : i.heavy = false := by
      cases hh : i.heavy with
      | false => rfl
      | true => exact absurd (hall q i hi) (h.post q i hq hi hh)
    exact ⟨hh, hall q i hi, cn.live_done h.closed h.nop hi hh (hall q i hi)⟩
  rw [show c + (its.length - c) = its.length from by have := h.cle; omega] at hr
  refine ⟨hr.sim, ⟨fun x => ?_, h.ar.size, h.ar.defers⟩⟩
  have hc := cn.canon_shadow its.length (Nat.le_refl _)
  have e : ev tc (.t x) = ev (st its.length).1 (.t x) := by
    by_cases hw : ∃ (q : Nat) (j : It), its[q]? = some j ∧ j.o.dst = some x
    · obtain ⟨q, j, hj, hd⟩ := hw
      rw [h.sh.1 q j x hj ⟨j, hj, hall q j hj⟩ hd, hc.1 q j x hj (List.getElem?_eq_some_iff.1 hj).1 hd]
    · have hw' : ∀ (q : Nat) (j : It), its[q]? = some j → j.o.dst ≠ some x := fun q j hj hd => hw ⟨q, j, hj, hd⟩
      rw [h.sh.2 x fun r k hk _ => hw' r k hk, hc.2 x fun r k hk _ => hw' r k hk]
  rw [← e]; exact h.ar.rel x

theorem ev_undefs (t : T V) (x : Nat) : ∀ l : List It, (ev (undefs t l) (.t x) = .any ∨ (∀ i ∈ l, i.o.dst ≠ some x) ∧ ev (undefs t l) (.t x) = ev t (.t x))
  | [] => .inr ⟨by simp, rfl⟩
  | i :: l => by
    simp only [undefs]
    rw [ev_putd]
    by_cases h : i.o.dst = some x
    · rw [if_pos h]; exact .inl rfl
    · rw [if_neg h]
      rcases ev_undefs t x l with h1 | ⟨h1, h2⟩
      · exact .inl h1
      · refine .inr ⟨fun j hj => ?_, h2⟩
        rcases List.mem_cons.1 hj with rfl | hj
        · exact h
        · exact h1 j hj
theorem Shadow.lost {D : Nat → Prop} {φ : F} {ds : List Deferred} {tc : T V} {a : Act} (h : Shadow its st D tc) (hw : ARel φ nt ds tc a) : ARel φ nt ds (undefs (st 0).1 its) a := by
  refine ⟨fun x => ?_, hw.size, hw.defers⟩
  rcases ev_undefs (st 0).1 x its with h1 | ⟨h1, h2⟩
  · rw [h1]; exact .any _
  · rw [h2, ← h.2 x fun p i hi _ => h1 i (List.mem_of_getElem? hi)]
    exact hw.rel x
end
end Go.Abs
