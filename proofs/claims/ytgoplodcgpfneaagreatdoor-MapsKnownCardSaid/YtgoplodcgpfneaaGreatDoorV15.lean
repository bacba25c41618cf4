import Derived.Test.YtgoplodcgpfneaaGreatDoorV14
/-! A region whose order is open: whatever the order, it comes to the same. -/
namespace Go.Abs

mutual
theorem V.same_eq : ∀ (n : Nat) (a b : V), V.same n a b = true → a = b
  | n + 1, .fn f a b, .fn g c d, h => by
    simp only [V.same, Bool.and_eq_true, decide_eq_true_eq] at h
    rw [h.1.1, V.sames_eq n a c h.1.2, V.sames_eq n b d h.2]
  | n + 1, .iface t v, .iface u w, h => by
    simp only [V.same, Bool.and_eq_true, decide_eq_true_eq] at h
    rw [h.1, V.same_eq n v w h.2]
  | n + 1, .agg a, .agg b, h => by simp only [V.same] at h; rw [V.sames_eq n a b h]
  | n + 1, .tup a, .tup b, h => by simp only [V.same] at h; rw [V.sames_eq n a b h]
  | 0, a, b, h => by cases a <;> cases b <;> simp_all [V.same]
  | n + 1, .undef, b, h => by cases b <;> simp_all [V.same]
  | n + 1, .bool _, b, h => by cases b <;> simp_all [V.same]
  | n + 1, .int _ _, b, h => by cases b <;> simp_all [V.same]
  | n + 1, .str _, b, h => by cases b <;> simp_all [V.same]
  | n + 1, .ptr _ _, b, h => by cases b <;> simp_all [V.same]
  | n + 1, .nil, b, h => by cases b <;> simp_all [V.same]
  | n + 1, .slice _ _ _ _ _, b, h => by cases b <;> simp_all [V.same]
  | n + 1, .snil, b, h => by cases b <;> simp_all [V.same]
  | n + 1, .map _, b, h => by cases b <;> simp_all [V.same]
  | n + 1, .mnil, b, h => by cases b <;> simp_all [V.same]
  | n + 1, .fnil, b, h => by cases b <;> simp_all [V.same]
  | n + 1, .inil, b, h => by cases b <;> simp_all [V.same]
  | n + 1, .fn _ _ _, .undef, h => by simp [V.same] at h
  | n + 1, .fn _ _ _, .bool _, h => by simp [V.same] at h
  | n + 1, .fn _ _ _, .int _ _, h => by simp [V.same] at h
  | n + 1, .fn _ _ _, .str _, h => by simp [V.same] at h
  | n + 1, .fn _ _ _, .ptr _ _, h => by simp [V.same] at h
  | n + 1, .fn _ _ _, .nil, h => by simp [V.same] at h
  | n + 1, .fn _ _ _, .slice _ _ _ _ _, h => by simp [V.same] at h
  | n + 1, .fn _ _ _, .snil, h => by simp [V.same] at h
  | n + 1, .fn _ _ _, .map _, h => by simp [V.same] at h
  | n + 1, .fn _ _ _, .mnil, h => by simp [V.same] at h
  | n + 1, .fn _ _ _, .fnil, h => by simp [V.same] at h
  | n + 1, .fn _ _ _, .inil, h => by simp [V.same] at h
  | n + 1, .fn _ _ _, .iface _ _, h => by simp [V.same] at h
  | n + 1, .fn _ _ _, .agg _, h => by simp [V.same] at h
  | n + 1, .fn _ _ _, .tup _, h => by simp [V.same] at h
  | n + 1, .iface _ _, .undef, h => by simp [V.same] at h
  | n + 1, .iface _ _, .bool _, h => by simp [V.same] at h
  | n + 1, .iface _ _, .int _ _, h => by simp [V.same] at h
  | n + 1, .iface _ _, .str _, h => by simp [V.same] at h
  | n + 1, .iface _ _, .ptr _ _, h => by simp [V.same] at h
  | n + 1, .iface _ _, .nil, h => by simp [V.same] at h
  | n + 1, .iface _ _, .slice _ _ _ _ _, h => by simp [V.same] at h
  | n + 1, .iface _ _, .snil, h => by simp [V.same] at h
  | n + 1, .iface _ _, .map _, h => by simp [V.same] at h
  | n + 1, .iface _ _, .mnil, h => by simp [V.same] at h
  | n + 1, .iface _ _, .fnil, h => by simp [V.same] at h
  | n + 1, .iface _ _, .inil, h => by simp [V.same] at h
  | n + 1, .iface _ _, .fn _ _ _, h => by simp [V.same] at h
  | n + 1, .iface _ _, .agg _, h => by simp [V.same] at h
  | n + 1, .iface _ _, .tup _, h => by simp [V.same] at h
  | n + 1, .agg _, .undef, h => by simp [V.same] at h
  | n + 1, .agg _, .bool _, h => by simp [V.same] at h
  | n + 1, .agg _, .int _ _, h => by simp [V.same] at h
  | n + 1, .agg _, .str _, h => by simp [V.same] at h
  | n + 1, .agg _, .ptr _ _, h => by simp [V.same] at h
  | n + 1, .agg _, .nil, h => by simp [V.same] at h
  | n + 1, .agg _, .slice _ _ _ _ _, h => by simp [V.same] at h
  | n + 1, .agg _, .snil, h => by simp [V.same] at h
  | n + 1, .agg _, .map _, h => by simp [V.same] at h
  | n + 1, .agg _, .mnil, h => by simp [V.same] at h
  | n + 1, .agg _, .fnil, h => by simp [V.same] at h
  | n + 1, .agg _, .inil, h => by simp [V.same] at h
  | n + 1, .agg _, .fn _ _ _, h => by simp [V.same] at h
  | n + 1, .agg _, .iface _ _, h => by simp [V.same] at h
  | n + 1, .agg _, .tup _, h => by simp [V.same] at h
  | n + 1, .tup _, .undef, h => by simp [V.same] at h
  | n + 1, .tup _, .bool _, h => by simp [V.same] at h
  | n + 1, .tup _, .int _ _, h => by simp [V.same] at h
  | n + 1, .tup _, .str _, h => by simp [V.same] at h
  | n + 1, .tup _, .ptr _ _, h => by simp [V.same] at h
  | n + 1, .tup _, .nil, h => by simp [V.same] at h
  | n + 1, .tup _, .slice _ _ _ _ _, h => by simp [V.same] at h
  | n + 1, .tup _, .snil, h => by simp [V.same] at h
  | n + 1, .tup _, .map _, h => by simp [V.same] at h
  | n + 1, .tup _, .mnil, h => by simp [V.same] at h
  | n + 1, .tup _, .fnil, h => by simp [V.same] at h
  | n + 1, .tup _, .inil, h => by simp [V.same] at h
  | n + 1, .tup _, .fn _ _ _, h => by simp [V.same] at h
  | n + 1, .tup _, .iface _ _, h => by simp [V.same] at h
  | n + 1, .tup _, .agg _, h => by simp [V.same] at h
theorem V.sames_eq : ∀ (n : Nat) (a b : List V), V.sames n a b = true → a = b
  | n + 1, a :: as, b :: bs, h => by
    simp only [V.sames, Bool.and_eq_true] at h
    rw [V.same_eq n a b h.1, V.sames_eq n as bs h.2]
  | 0, [], [], _ => rfl
  | n + 1, [], [], _ => rfl
  | 0, a :: as, b, h => by cases b <;> simp [V.sames] at h
  | 0, [], b :: bs, h => by simp [V.sames] at h
  | n + 1, [], b :: bs, h => by simp [V.sames] at h
  | n + 1, a :: as, [], h => by simp [V.sames] at h
end

theorem held_get {n : Nat} {g : Bool} {a v : V} : ∀ {k : Nat} {hist : List H}, held n g a v k hist = true → ∀ (r : Nat) σ, r < k → hist[r]? = some σ → loadV σ n g a = some v
  | 0, _, _, r, σ, hr, _ => by omega
  | k + 1, [], h, r, σ, hr, hσ => by simp at hσ
  | k + 1, s :: hist, h, r, σ, hr, hσ => by
    simp only [held, Bool.and_eq_true] at h
    cases r with
    | zero =>
      simp at hσ; subst hσ
      have h1 := h.1
      split at h1
      · rename_i u hu
        rw [V.same_eq _ _ _ h1] at hu; exact hu
      · simp at h1
    | succ r => exact held_get h.2 r σ (by omega) (by simpa using hσ)

section
variable {m : TypeId → String → Option FuncId} {call : Call}

theorem ev1_put {o : Op} {t t' : T V} {σ σ' : H} (h : ev1 m call o t σ = some (t', σ')) : ∃ v, t' = putd t o.dst v := by
  unfold ev1 at h
  split at h
  · split at h
    · simp at h; exact ⟨_, h.1.symm⟩
    · obtain ⟨p, _, e⟩ := map_some' h
      simp at e; exact ⟨_, e.1⟩
    · simp at h
  · simp at h; exact ⟨_, h.1.symm⟩

/-- An operation in another frame that agrees on what it uses. -/
theorem ev1_congr {o : Op} {t t₂ t' : T V} {σ σ' : H} (ha : ∀ x, o.uses x = true → ev t (.t x) = ev t₂ (.t x)) (h : ev1 m call o t σ = some (t', σ')) : ∃ v, t' = putd t o.dst v ∧ ev1 m call o t₂ σ = some (putd t₂ o.dst v, σ') := by
  unfold ev1 at h ⊢
  rw [← agree_wanted ha, ← step_congr m σ o.x (agree_opds ha)]
  split at h
  · rename_i hw
    rw [if_pos hw]
    split at h
    · rename_i v σ2 hst
      simp at h
      obtain ⟨rfl, rfl⟩ := h
      exact ⟨v, rfl, rfl⟩
    · rename_i f args σ2 hst
      obtain ⟨⟨v, σ3⟩, hc, e⟩ := map_some' h
      simp at e
      obtain ⟨rfl, rfl⟩ := e
      exact ⟨v, rfl, by simp [hc]⟩
    · simp at h
  · rename_i hw
    rw [if_neg hw]
    simp at h
    obtain ⟨rfl, rfl⟩ := h
    exact ⟨.undef, rfl, rfl⟩

theorem evIt_put {base : Nat} {i : It} {t t' : T V} {σ σ' : H} {hist : List H} (h : evIt m call base i t σ hist = some (t', σ')) : ∃ v, t' = putd t i.o.dst v := by
  unfold evIt at h
  split at h
  · exact ev1_put h
  · split at h
    · split at h
      · obtain ⟨v, _, e⟩ := map_some' h
        simp at e; exact ⟨_, e.1⟩
      · obtain ⟨v, _, e⟩ := map_some' h
        simp at e; exact ⟨_, e.1⟩
      · split at h
        · split at h
          · simp at h; exact ⟨_, h.1.symm⟩
          · simp at h
        · simp at h
      · simp at h
    · simp at h; exact ⟨_, h.1.symm⟩

/-- Our run of the region, state by state. -/
theorem its_run {base : Nat} : ∀ {its : List It} {t : T V} {σ : H} {hist : List H} {out : T V × H}, evIts m call base its t σ hist = some out →
    ∃ (st : Nat → T V × H) (hs : Nat → List H), st 0 = (t, σ) ∧ hs 0 = hist ∧ st its.length = out ∧
      ∀ p i, its[p]? = some i → evIt m call base i (st p).1 (st p).2 (hs p) = some (st (p + 1)) ∧ hs (p + 1) = if i.heavy then (st (p + 1)).2 :: hs p else hs p
  | [], t, σ, hist, out, h => by
    simp [evIts] at h; subst h
    exact ⟨fun _ => (t, σ), fun _ => hist, rfl, rfl, rfl, by simp⟩
  | i :: its, t, σ, hist, out, h => by
    simp only [evIts] at h
    split at h
    · rename_i q hq
      obtain ⟨st, hs, h0, h1, h2, h3⟩ := its_run h
      refine ⟨fun | 0 => (t, σ) | p + 1 => st p, fun | 0 => hist | p + 1 => hs p, rfl, rfl, h2, ?_⟩
      intro p j hj
      cases p with
      | zero =>
        simp at hj; subst hj
        simp only [h0, h1]
        exact ⟨hq, trivial⟩
      | succ p => exact h3 p j (by simpa using hj)
    · simp at h
end

end Go.Abs
