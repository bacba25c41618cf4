/- PART of the proof of CallsKnown: A region whose order is open: all of it. No condition. -/
import Derived.Test.YtecebpjfidpchaaGreatU18
/-! A region whose order is open: all of it. -/
namespace Go.Abs

section
variable {P : Program} {gl : List Nat} {nt : Nat} {ops : Array Oper} {M : List Nat} {its : List It} {m : MT} {call : Call} {base : Nat} {pn : Pn} {st : Nat → T V × H} {hs : Nat → List H}
variable {φ0 : F} {σ0 : H} {w0 : World}

theorem mem_ready {listed : Array Bool} (hsz : listed.size = ops.size) {k : Nat} : k ∈ Region.ready .any ops listed ↔ ∃ o, ops[k]? = some o ∧ ¬ listed[k]? = some true ∧ ∀ p ∈ predsOf o, listed[p]? = some true := by
  have gd : ∀ j, listed.getD j false = true ↔ listed[j]? = some true := by
    intro j
    rw [Array.getD_eq_getD_getElem?]
    cases listed[j]? with
    | none => simp
    | some b => simp
  simp only [Region.ready, List.mem_filter, List.mem_range, Bool.and_eq_true]
  constructor
  · rintro ⟨hk, h1, h2⟩
    have hok : ops[k]? = some ops[k] := by simp [hk]
    refine ⟨ops[k], hok, ?_, ?_⟩
    · intro e
      rw [Array.getD_eq_getD_getElem?, e] at h1
      simp at h1
    · intro p hp
      rw [hok] at h2
      simp only [Option.map_some, Option.getD_some, Array.all_eq_true_iff_forall_mem] at h2
      simp only [predsOf, List.mem_map, List.mem_filter] at hp
      obtain ⟨e, ⟨he, hb⟩, rfl⟩ := hp
      have := h2 e (by simpa using he)
      rw [hb] at this
      simp only [Bool.not_true, Bool.false_or] at this
      exact (gd _).1 this
  · rintro ⟨o, ho, h1, h2⟩
    have hk : k < ops.size := by
      rcases Nat.lt_or_ge k ops.size with h' | h'
      · exact h'
      · simp [Array.getElem?_eq_none h'] at ho
    refine ⟨hk, ?_, ?_⟩
    · rw [Array.getD_eq_getD_getElem?]
      have : listed[k]? = some listed[k] := by simp [hsz, hk]
      rw [this] at h1 ⊢
      simpa using h1
    · rw [ho]
      simp only [Option.map_some, Option.getD_some, Array.all_eq_true_iff_forall_mem]
      intro e he
      cases hb : Region.binds .any e with
      | false => rfl
      | true =>
        simp only [Bool.not_true, Bool.false_or]
        exact (gd _).2 (h2 e.on (List.mem_map.2 ⟨e, List.mem_filter.2 ⟨by simpa using he, hb⟩, rfl⟩))

theorem ready_nil (cn : Canon P gl nt ops M its m call base pn st hs) {listed : Array Bool} (hsz : listed.size = ops.size) (h : Region.ready .any ops listed = []) : ∀ k, k < ops.size → listed[k]? = some true := by
  intro k
  induction k using Nat.strongRecOn with
  | _ k ih =>
    intro hk
    by_cases hl : listed[k]? = some true
    · exact hl
    · exfalso
      have hok : ops[k]? = some ops[k] := by simp [hk]
      have := (mem_ready (k := k) hsz).2 ⟨ops[k], hok, hl, fun p hp => by
        have hlt := (chkM_get cn.chkM k ops[k] (by simp [hok])).2 p hp
        exact ih p (by omega) (by omega)⟩
      rw [h] at this; simp at this

/-- Every order. -/
theorem any_sound (cn : Canon P gl nt ops M its m call base pn st hs) (hbase : σ0.next = base) (hm : MOk P m) (hcall : CallOk P gl call) (hg0 : GRel φ0 gl) {ds : List Deferred} {Q : Exit → Act → World → Prop}
    (hQ : pn = none → ∀ φ' a' w', Sim φ0 σ0 w0 φ' (st its.length).2 w' → ARel φ' nt ds (st its.length).1 a' → Q .normal a' w')
    (hP : ∀ (pp k : Nat) v σp, pn = some (pp, k, v, σp) → ∀ φ' a' w' v', Sim φ0 σ0 w0 φ' σp w' → ARel φ' nt ds (undefs (st 0).1 its) a' → VRel φ' v v' → Q (.panic [{ v := v', recovered := false }]) a' w') : ∀ (fuel : Nat) (listed : Array Bool), listed.size = ops.size → listed.toList.count false ≤ fuel → ∀ {c : Nat} {φ : F} {tc : T V} {a : Act} {w : World},
      DInv P gl nt ds ops its base pn st φ0 σ0 w0 (fun k => listed[k]? = some true) c φ tc a w → wpAny P .any ops Q fuel listed a w := by
  have fin : ∀ (listed : Array Bool), listed.size = ops.size → ∀ {c : Nat} {φ : F} {tc : T V} {a : Act} {w : World}, DInv P gl nt ds ops its base pn st φ0 σ0 w0 (fun k => listed[k]? = some true) c φ tc a w → Region.ready .any ops listed = [] → Q .normal a w := by
    intro listed hsz c φ tc a w h hr
    obtain ⟨h1, h2⟩ := h.done cn hbase fun p i hi => ready_nil cn hsz hr _ (cn.all.2.1 i (List.mem_of_getElem? hi))
    have hpn : pn = none := by
      cases hpn : pn with
      | none => rfl
      | some q =>
        obtain ⟨pp, k, v, σp⟩ := q
        obtain ⟨ip, t', a1, a2, a3, a4⟩ := cn.run.pan pp k v σp hpn
        have hlt := cn.all.2.1 ip (List.mem_of_getElem? a1)
        rw [a2] at hlt
        exact absurd (ready_nil cn hsz hr k hlt) (h.nop pp k v σp hpn)
    exact hQ hpn _ _ _ h1 h2
  intro fuel
  induction fuel with
  | zero =>
    intro listed hsz hcnt c φ tc a w h
    have hall : ∀ k, k < ops.size → listed[k]? = some true := by
      intro k hk
      have hk' : k < listed.size := by omega
      have : listed[k]? = some listed[k] := by simp [hk']
      rw [this]
      have h0 : List.count false listed.toList = 0 := by omega
      have := (List.count_eq_zero.1 h0)
      cases hb : listed[k] with
      | true => rfl
      | false => exact absurd (by rw [← hb]; simp) this
    have hr : Region.ready .any ops listed = [] := by
      cases hr : Region.ready .any ops listed with
      | nil => rfl
      | cons x xs =>
        obtain ⟨o, ho, h1, _⟩ := (mem_ready hsz).1 (by rw [hr]; exact List.mem_cons_self : x ∈ Region.ready .any ops listed)
        exact absurd (hall x (by
          rcases Nat.lt_or_ge x ops.size with h' | h'
          · exact h'
          · simp [Array.getElem?_eq_none h'] at ho)) h1
    exact ⟨hr, fin listed hsz h hr⟩
  | succ fuel ih =>
    intro listed hsz hcnt c φ tc a w h
    refine ⟨fin listed hsz h, fun k hk => ?_⟩
    obtain ⟨o, ho, h1, h2⟩ := (mem_ready hsz).1 hk
    have hk : k < ops.size := by
      rcases Nat.lt_or_ge k ops.size with h' | h'
      · exact h'
      · simp [Array.getElem?_eq_none h'] at ho
    obtain ⟨p, i, hi, rfl⟩ := cn.all.2.2 k hk
    have hk' : i.idx < listed.size := by omega
    have hold : listed[i.idx] = false := by
      cases hb : listed[i.idx] with
      | false => rfl
      | true => exact absurd (by rw [← hb]; simp [hk']) h1
    refine h.step cn hbase hm hcall hg0 hi ho h1 h2 (S' := fun k => (listed.setIfInBounds i.idx true)[k]? = some true) ?_ hP ?_
    · intro k
      rw [Array.getElem?_setIfInBounds]
      by_cases e : i.idx = k
      · subst e; simp [hk']
      · rw [if_neg e]
        constructor
        · exact .inl
        · rintro (h | h)
          · exact h
          · exact absurd h.symm e
    · intro c' φ' tc' a' w' h'
      refine ih _ (by simp [hsz]) ?_ h'
      rw [Array.toList_setIfInBounds, List.count_set (by simpa using hk')]
      have hmem : 0 < List.count false listed.toList := List.count_pos_iff.2 (by rw [← hold]; simp)
      simp [hold]
      have : List.count false listed.toList = Array.count false listed := by simp
      omega

theorem room_get (σ : H) (n b : Nat) : (σ.room n).get b = σ.get b := rfl

theorem Sim.room {φ : F} {σ : H} {w w' : World} (h : Rel φ σ w) (n : Nat) (e : w'.heap = w.heap) (e1 : w'.os = w.os) (e2 : w'.output = w.output) : Sim φ σ w φ (σ.room n) w' := by
  have hs := Sim.same h e e1 e2
  refine ⟨⟨hs.rel.blk, hs.rel.inj, fun b p hp => ?_⟩, hs.ext, hs.keep, hs.foot, hs.size, hs.os, hs.out, ?_, hs.old, hs.back, hs.fresh⟩
  · obtain ⟨h1, h2⟩ := hs.rel.dom b p hp
    exact ⟨by simp only [H.room]; omega, h2⟩
  · simp only [H.room]; omega

/-- The region. -/
theorem draw_sound {φ : F} {σ : H} {w : World} {t : T V} {a : Act} {ds : List Deferred} (hmix : P.follows .mixedOrders = true) (hc : compDraw P gl nt ops = some its) (h : Rel φ σ w) (hg : GRel φ gl) (ha : ARel φ nt ds t a) (hm : MOk P m) (hcall : CallOk P gl call) {oc : Oc}
    (hs : evIts m call σ.next its t (σ.room its.length) [σ.room its.length] = some oc) {Q : Exit → Act → World → Prop}
    (hQ : Goes φ nt ds σ w (Q .normal) Q (match oc with | .ok t' σ' => .ok t' σ' | .pan v _ σ' => .pan v (undefs t its) σ')) (id : Nat) : (Code.region id ops true).wp P Q a w := by
  unfold compDraw at hc
  split at hc
  · simp at hc
  · rename_i xs hxs
    split at hc
    case isFalse => simp at hc
    rename_i hchk
    simp only [Option.some.injEq] at hc
    obtain ⟨pn, st, hist, h0, h1, h3, h2⟩ := its_run hs
    have cn : Canon P gl nt ops (masksOf ops) its m call σ.next pn st hist := by
      refine ⟨by rw [← hc]; exact hchk, fun i hi => ?_, fun i hi => ?_, h3, by rw [h1, h0]⟩
      · rw [← hc] at hi
        obtain ⟨h4, h5⟩ := items_mem hi
        obtain ⟨o, ho, hco⟩ := optMap_get hxs _ _ h4
        exact ⟨o, by simpa using ho, hco⟩
      · rw [← hc] at hi
        exact (items_mem hi).2
    refine wp_region_any hmix ?_
    have hsim : Sim φ σ w φ (σ.room its.length) { w with drawn := w.drawn + 1 } := Sim.room h _ rfl rfl rfl
    have hlen := cn.all.1
    have none : ∀ i : It, φ (σ.next + i.idx) = none := by
      intro i
      cases hp : φ (σ.next + i.idx) with
      | none => rfl
      | some p =>
        have := (h.dom _ _ hp).1
        omega
    refine any_sound (c := 0) (φ := φ) (tc := t) (base := σ.next) (ds := ds) cn rfl hm hcall hg (w0 := w) (σ0 := σ) ?_ ?_ ops.size _ (by simp) (by simp) ?_
    · intro hpn
      cases oc with
      | ok t' σ' =>
        have e := h2.2
        rw [e]; exact hQ
      | pan v t' σ' =>
        obtain ⟨pp, k, e⟩ := h2
        rw [hpn] at e; simp at e
    · intro pp k v σp hpn
      cases oc with
      | ok t' σ' =>
        have e := h2.1
        rw [hpn] at e; simp at e
      | pan v' t' σ' =>
        obtain ⟨pp', k', e⟩ := h2
        rw [hpn] at e; simp at e
        obtain ⟨rfl, rfl, rfl, rfl⟩ := e
        rw [h0]; exact hQ
    have no : ∀ k : Nat, ¬ (Array.replicate ops.size false)[k]? = some true := by
      intro k
      rw [Array.getElem?_replicate]
      split <;> simp
    refine ⟨fun k o _ hs => absurd hs (no k), ⟨?_, ?_⟩, ha, Nat.zero_le _, fun p i hp => by omega, fun p i _ _ _ => no _, .inl rfl, ⟨by rw [h0]; exact hsim, by rw [h0]; simp [H.room], fun p i x _ _ hs => absurd hs (no _), fun p i q j pl pl' _ _ _ _ _ hp => by rw [none i] at hp; simp at hp⟩, fun p i _ _ _ => none i, fun pp k v σp _ => no k⟩
    · rintro p i d hi ⟨j, hj, hs⟩
      exact absurd hs (no _)
    · intro x _
      rw [h0]
end
end Go.Abs
