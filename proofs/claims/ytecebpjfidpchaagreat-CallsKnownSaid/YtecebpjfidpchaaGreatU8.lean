/- PART of the proof of CallsKnown: Maps with integers for keys. No condition. -/
import Derived.Test.YtecebpjfidpchaaGreatU7
/-! Maps with integers for keys. -/
namespace Go.Abs

theorem keyEq_int {j k : IntKind} {n m : Int} : keyEq (.int j n) (.int k m) = if j = k then some (n == m) else none := rfl

/-- A map's keys, all of one kind with a key. -/
theorem keyEq_isSome {k e : V} (h : (keyEq k e).isSome = true) : ∃ j n m, k = .int j n ∧ e = .int j m := by
  unfold keyEq at h
  split at h
  · split at h
    · rename_i a b c hk
      exact ⟨_, _, _, rfl, by rw [hk]⟩
    · simp at h
  · simp at h

theorem keyEq_true {k e : V} : keyEq k e = some true ↔ ∃ j n, k = .int j n ∧ e = .int j n := by
  constructor
  · intro h
    obtain ⟨j, n, m, rfl, rfl⟩ := keyEq_isSome (by rw [h]; rfl)
    rw [keyEq_int, if_pos rfl] at h
    simp at h
    exact ⟨j, n, rfl, by rw [h]⟩
  · rintro ⟨j, n, rfl, rfl⟩
    simp [keyEq_int]

theorem nodup_inj {α : Type} {l : List α} (h : l.Nodup) {i k : Nat} (hi : i < l.length) (hk : k < l.length) (e : l[i] = l[k]) : i = k := by
  have := List.pairwise_iff_getElem.1 h
  rcases Nat.lt_trichotomy i k with hlt | rfl | hlt
  · exact absurd e (this i k hi hk hlt)
  · rfl
  · exact absurd e.symm (this k i hk hi hlt)

section
variable {j : IntKind} {n : Int}

def allInts (j : IntKind) (es : List (V × V)) : Prop := ∀ e ∈ es, ∃ m, e.1 = .int j m

theorem findV_some : ∀ {es : List (V × V)} {v : V}, findV (.int j n) es = some v → (V.int j n, v) ∈ es
  | [], _, h => by simp [findV] at h
  | (k', v') :: r, v, h => by
    simp only [findV] at h
    split at h
    · rename_i hk
      obtain ⟨j', n', e1, e2⟩ := keyEq_true.1 hk
      simp at h; subst h
      rw [e2, ← e1]; simp
    · exact List.mem_cons_of_mem _ (findV_some h)
theorem findV_none : ∀ {es : List (V × V)}, findV (.int j n) es = none → ∀ e ∈ es, e.1 ≠ .int j n
  | [], _ => by simp
  | (k', v') :: r, h => by
    simp only [findV] at h
    split at h
    · simp at h
    · rename_i hk
      intro e he
      rcases List.mem_cons.1 he with rfl | he
      · intro h'
        exact hk (keyEq_true.2 ⟨j, n, rfl, h'⟩)
      · exact findV_none h e he

theorem mem_setE (v : V) : ∀ {es : List (V × V)}, (es.map (·.1)).Nodup → ∀ e, e ∈ setE (.int j n) v es ↔ (e = (.int j n, v) ∨ (e ∈ es ∧ e.1 ≠ .int j n))
  | [], _, e => by simp [setE]
  | (k', v') :: r, hn, e => by
    simp only [List.map_cons, List.nodup_cons] at hn
    simp only [setE]
    split
    · rename_i hk
      obtain ⟨j', n', e1, e2⟩ := keyEq_true.1 hk
      have e2 : k' = .int j n := by rw [e2, ← e1]
      subst e2
      simp only [List.mem_cons]
      constructor
      · rintro (rfl | h)
        · exact .inl rfl
        · exact .inr ⟨.inr h, fun h' => hn.1 (by rw [← h']; exact List.mem_map_of_mem h)⟩
      · rintro (rfl | ⟨rfl | h, h'⟩)
        · exact .inl rfl
        · exact absurd rfl h'
        · exact .inr h
    · rename_i hk
      have hk' : k' ≠ .int j n := fun h => hk (keyEq_true.2 ⟨j, n, rfl, h⟩)
      simp only [List.mem_cons, mem_setE v hn.2]
      constructor
      · rintro (rfl | rfl | ⟨h, h'⟩)
        · exact .inr ⟨.inl rfl, hk'⟩
        · exact .inl rfl
        · exact .inr ⟨.inr h, h'⟩
      · rintro (rfl | ⟨rfl | h, h'⟩)
        · exact .inr (.inl rfl)
        · exact .inl rfl
        · exact .inr (.inr ⟨h, h'⟩)
theorem keys_setE (v : V) : ∀ {es : List (V × V)}, (setE (.int j n) v es).map (·.1) = if (findV (.int j n) es).isSome then es.map (·.1) else es.map (·.1) ++ [.int j n]
  | [] => by simp [setE, findV]
  | (k', v') :: r => by
    simp only [setE, findV]
    split
    · rename_i hk
      obtain ⟨j', n', e1, e2⟩ := keyEq_true.1 hk
      have e2 : k' = .int j n := by rw [e2, ← e1]
      subst e2
      simp
    · simp only [List.map_cons, keys_setE v (es := r)]
      split <;> simp
theorem mem_delE : ∀ {es : List (V × V)}, (es.map (·.1)).Nodup → ∀ e, e ∈ delE (.int j n) es ↔ (e ∈ es ∧ e.1 ≠ .int j n)
  | [], _, e => by simp [delE]
  | (k', v') :: r, hn, e => by
    simp only [List.map_cons, List.nodup_cons] at hn
    simp only [delE]
    split
    · rename_i hk
      obtain ⟨j', n', e1, e2⟩ := keyEq_true.1 hk
      have e2 : k' = .int j n := by rw [e2, ← e1]
      subst e2
      simp only [List.mem_cons]
      constructor
      · intro h
        exact ⟨.inr h, fun h' => hn.1 (by rw [← h']; exact List.mem_map_of_mem h)⟩
      · rintro ⟨rfl | h, h'⟩
        · exact absurd rfl h'
        · exact h
    · rename_i hk
      have hk' : k' ≠ .int j n := fun h => hk (keyEq_true.2 ⟨j, n, rfl, h⟩)
      simp only [List.mem_cons, mem_delE hn.2]
      constructor
      · rintro (rfl | ⟨h, h'⟩)
        · exact ⟨.inl rfl, hk'⟩
        · exact ⟨.inr h, h'⟩
      · rintro ⟨rfl | h, h'⟩
        · exact .inl rfl
        · exact .inr ⟨h, h'⟩
theorem sub_delE : ∀ {es : List (V × V)}, (delE (.int j n) es).Sublist es
  | [] => by simp [delE]
  | (k', v') :: r => by
    simp only [delE]
    split
    · exact List.sublist_cons_self _ _
    · exact sub_delE.cons_cons _
theorem len_delE : ∀ {es : List (V × V)}, (delE (.int j n) es).length = if (findV (.int j n) es).isSome then es.length - 1 else es.length
  | [] => by simp [delE, findV]
  | (k', v') :: r => by
    simp only [delE, findV]
    split
    · simp
    · rename_i hk
      simp only [List.length_cons, len_delE (es := r)]
      cases hf : findV (.int j n) r with
      | none => simp
      | some v =>
        have := findV_some hf
        have : 0 < r.length := List.length_pos_of_mem this
        simp; omega

/-- What the program finds. -/
theorem findNow_int (kk : IntKind) : ∀ (es : List MapEntry) (i : Nat), (∀ e ∈ es, ∃ m, e.key = .int j m) →
    ∃ r, Instr.findNow (.int kk) (.int j n) es i = some r ∧
      ((r = none ∧ ∀ e ∈ es, e.key ≠ .int j n) ∨ ∃ q e, r = some (i + q, e.val) ∧ es[q]? = some e ∧ e.key = .int j n)
  | [], i, _ => ⟨none, rfl, .inl ⟨rfl, by simp⟩⟩
  | e :: es, i, h => by
    obtain ⟨m, hm⟩ := h e (by simp)
    simp only [Instr.findNow, hm, Instr.sameNow]
    by_cases hnm : n = m
    · subst hnm
      exact ⟨some (i, e.val), by simp, .inr ⟨0, e, by simp, by simp, hm⟩⟩
    · obtain ⟨r, h1, h2⟩ := findNow_int kk es (i + 1) (fun e he => h e (by simp [he]))
      have hb : (n == m) = false := by simpa using hnm
      refine ⟨r, by simp [hb, h1], ?_⟩
      rcases h2 with ⟨rfl, h2⟩ | ⟨q, e', rfl, h3, h4⟩
      · refine .inl ⟨rfl, fun e' he' => ?_⟩
        rcases List.mem_cons.1 he' with rfl | he'
        · rw [hm]; intro h'; simp at h'; exact hnm h'.symm
        · exact h2 e' he'
      · exact .inr ⟨q + 1, e', by simp; omega, by simpa using h3, h4⟩

end

section
variable {φ : F} {es : List (V × V)} {es' : List MapEntry} {j : IntKind} {n : Int}

/-- Keys of ours, keys of the program's. -/
theorem ERel.keys (h : ERel φ es es') (hk : es.all (fun e => (keyEq (.int j n) e.1).isSome) = true) : ∀ e ∈ es', ∃ m, e.key = .int j m := by
  intro e' he'
  obtain ⟨e, he, h1, _⟩ := h.of e' he'
  have := List.all_eq_true.1 hk e he
  obtain ⟨j', n', m', e1, e2⟩ := keyEq_isSome this
  rw [e2] at h1
  have := h1.int_inv
  simp at e1
  exact ⟨m', by rw [this, e1.1]⟩

theorem ERel.find (h : ERel φ es es') (hk : es.all (fun e => (keyEq (.int j n) e.1).isSome) = true) (kk : IntKind) :
    match findV (.int j n) es with
    | some v => ∃ q e', Instr.findNow (.int kk) (.int j n) es' 0 = some (some (q, e'.val)) ∧ es'[q]? = some e' ∧ e'.key = .int j n ∧ VRel φ v e'.val
    | none => Instr.findNow (.int kk) (.int j n) es' 0 = some none ∧ ∀ e' ∈ es', e'.key ≠ .int j n := by
  obtain ⟨r, h1, h2⟩ := findNow_int (j := j) (n := n) kk es' 0 (h.keys hk)
  cases hf : findV (.int j n) es with
  | some v =>
    have hm := findV_some hf
    obtain ⟨e', he', a, b⟩ := h.to _ hm
    have hek := a.int_inv
    rcases h2 with ⟨_, h2⟩ | ⟨q, e2, rfl, h3, h4⟩
    · exact absurd hek (h2 e' he')
    · have : e2 = e' := by
        have hmem := List.mem_of_getElem? h3
        obtain ⟨i1, hi1⟩ := List.getElem?_of_mem he'
        have := h.nodup'
        have hl1 := (List.getElem?_eq_some_iff.1 hi1).1
        have hl2 := (List.getElem?_eq_some_iff.1 h3).1
        have e1 : (es'.map (·.key))[i1]'(by simpa using hl1) = (es'.map (·.key))[q]'(by simpa using hl2) := by
          simp only [List.getElem_map]
          rw [(List.getElem?_eq_some_iff.1 hi1).2, (List.getElem?_eq_some_iff.1 h3).2, h4]; exact hek
        have := nodup_inj this _ _ e1
        subst this
        rw [h3] at hi1; simpa using hi1
      subst this
      refine ⟨q, e2, ?_, h3, h4, b⟩
      simpa using h1
  | none =>
    have hn := findV_none hf
    rcases h2 with ⟨rfl, h2⟩ | ⟨q, e2, rfl, h3, h4⟩
    · exact ⟨h1, h2⟩
    · exfalso
      obtain ⟨e, he, a, _⟩ := h.of e2 (List.mem_of_getElem? h3)
      rw [h4] at a
      obtain ⟨k', n', hi⟩ := h.ints e he
      rw [hi] at a
      have := a.int_inv
      simp at this
      exact hn e he (by rw [hi, this.1, this.2])

theorem nodup_map_set {es' : List MapEntry} {q : Nat} {e' : MapEntry} (h : (es'.map (·.key)).Nodup) (hq : es'[q]? = some e') (x : MapEntry) (hx : x.key = e'.key) : ((es'.set q x).map (·.key)).Nodup := by
  have : (es'.set q x).map (·.key) = es'.map (·.key) := by
    rw [List.map_set, hx]
    apply List.ext_getElem?
    intro i
    rw [List.getElem?_set]
    by_cases hi : q = i
    · subst hi
      rw [if_pos rfl]
      simp [(List.getElem?_eq_some_iff.1 hq).1, (List.getElem?_eq_some_iff.1 hq).2]
    · rw [if_neg hi]
  rw [this]; exact h

theorem key_index {es' : List MapEntry} (h : (es'.map (·.key)).Nodup) {q i : Nat} {e' e2 : MapEntry} (hq : es'[q]? = some e') (hi : es'[i]? = some e2) (hk : e2.key = e'.key) : i = q := by
  have hl1 := (List.getElem?_eq_some_iff.1 hi).1
  have hl2 := (List.getElem?_eq_some_iff.1 hq).1
  have e1 : (es'.map (·.key))[i]'(by simpa using hl1) = (es'.map (·.key))[q]'(by simpa using hl2) := by
    simp only [List.getElem_map]
    rw [(List.getElem?_eq_some_iff.1 hi).2, (List.getElem?_eq_some_iff.1 hq).2, hk]
  exact nodup_inj h _ _ e1

/-- An entry's value turns. -/
theorem ERel.set (h : ERel φ es es') {v : V} {v' : Value} (hv : VRel φ v v') {q : Nat} {e' : MapEntry} (hq : es'[q]? = some e') (hk : e'.key = .int j n) {u : V} (hf : findV (.int j n) es = some u) (b : Nat) :
    ERel φ (setE (.int j n) v es) (es'.set q { key := .int j n, val := v', born := b }) := by
  have hlt := (List.getElem?_eq_some_iff.1 hq).1
  have hkeys := keys_setE (j := j) (n := n) v (es := es)
  rw [hf] at hkeys
  simp at hkeys
  refine ⟨?_, ?_, ?_, ?_, ?_, nodup_map_set h.nodup' hq _ hk.symm⟩
  · have := congrArg List.length hkeys
    simp at this
    simp [this, h.len]
  · intro e he
    rcases (mem_setE v h.nodup e).1 he with rfl | ⟨he, hne⟩
    · exact ⟨_, List.mem_iff_getElem?.2 ⟨q, by rw [List.getElem?_set, if_pos rfl, if_pos hlt]⟩, .int _ _, hv⟩
    · obtain ⟨e2, he2, a, c⟩ := h.to e he
      obtain ⟨i, hi⟩ := List.getElem?_of_mem he2
      refine ⟨e2, List.mem_iff_getElem?.2 ⟨i, ?_⟩, a, c⟩
      rw [List.getElem?_set]
      by_cases hiq : q = i
      · subst hiq
        rw [hq] at hi; simp at hi; subst hi
        rw [hk] at a
        obtain ⟨k', n', hint⟩ := h.ints e he
        rw [hint] at a
        have := a.int_inv
        simp at this
        exact absurd (by rw [hint, this.1, this.2]) hne
      · rw [if_neg hiq]; exact hi
  · intro e2 he2
    obtain ⟨i, hi⟩ := List.getElem?_of_mem he2
    rw [List.getElem?_set] at hi
    by_cases hiq : q = i
    · subst hiq
      rw [if_pos rfl, if_pos hlt] at hi
      simp at hi; subst hi
      exact ⟨(.int j n, v), (mem_setE v h.nodup _).2 (.inl rfl), .int _ _, hv⟩
    · rw [if_neg hiq] at hi
      obtain ⟨e, he, a, c⟩ := h.of e2 (List.mem_of_getElem? hi)
      refine ⟨e, (mem_setE v h.nodup _).2 (.inr ⟨he, fun hne => ?_⟩), a, c⟩
      rw [hne] at a
      have := a.int_inv
      exact hiq (key_index h.nodup' hq hi (by rw [this, hk])).symm
  · intro e he
    rcases (mem_setE v h.nodup e).1 he with rfl | ⟨he, _⟩
    · exact ⟨j, n, rfl⟩
    · exact h.ints e he
  · rw [hkeys]; exact h.nodup

/-- A new entry. -/
theorem ERel.push (h : ERel φ es es') {v : V} {v' : Value} (hv : VRel φ v v') (hno : ∀ e' ∈ es', e'.key ≠ .int j n) (hf : findV (.int j n) es = none) (b : Nat) :
    ERel φ (setE (.int j n) v es) (es' ++ [{ key := .int j n, val := v', born := b }]) := by
  have hkeys := keys_setE (j := j) (n := n) v (es := es)
  rw [hf] at hkeys
  simp at hkeys
  have hnn := findV_none hf
  refine ⟨?_, ?_, ?_, ?_, ?_, ?_⟩
  · have := congrArg List.length hkeys
    simp at this
    simp [this, h.len]
  · intro e he
    rcases (mem_setE v h.nodup e).1 he with rfl | ⟨he, hne⟩
    · exact ⟨{ key := .int j n, val := v', born := b }, by simp, .int _ _, hv⟩
    · obtain ⟨e2, he2, a, c⟩ := h.to e he
      exact ⟨e2, by simp [he2], a, c⟩
  · intro e2 he2
    rcases List.mem_append.1 he2 with he2 | he2
    · obtain ⟨e, he, a, c⟩ := h.of e2 he2
      exact ⟨e, (mem_setE v h.nodup _).2 (.inr ⟨he, hnn e he⟩), a, c⟩
    · simp at he2; subst he2
      exact ⟨(.int j n, v), (mem_setE v h.nodup _).2 (.inl rfl), .int _ _, hv⟩
  · intro e he
    rcases (mem_setE v h.nodup e).1 he with rfl | ⟨he, _⟩
    · exact ⟨j, n, rfl⟩
    · exact h.ints e he
  · rw [hkeys, List.nodup_append]
    refine ⟨h.nodup, by simp, ?_⟩
    intro a ha b hb
    simp at hb; subst hb
    obtain ⟨e, he, rfl⟩ := List.mem_map.1 ha
    exact hnn e he
  · rw [List.map_append, List.nodup_append]
    refine ⟨h.nodup', by simp, ?_⟩
    intro a ha b hb
    simp at hb; subst hb
    obtain ⟨e, he, rfl⟩ := List.mem_map.1 ha
    exact hno e he

/-- An entry goes. -/
theorem ERel.erase (h : ERel φ es es') {q : Nat} {e' : MapEntry} (hq : es'[q]? = some e') (hk : e'.key = .int j n) {u : V} (hf : findV (.int j n) es = some u) :
    ERel φ (delE (.int j n) es) (es'.eraseIdx q) := by
  have hlt := (List.getElem?_eq_some_iff.1 hq).1
  have hl := len_delE (j := j) (n := n) (es := es)
  rw [hf] at hl
  simp at hl
  have hsub : (es'.eraseIdx q).Sublist es' := List.eraseIdx_sublist _ _
  have mem : ∀ e2, e2 ∈ es'.eraseIdx q ↔ (e2 ∈ es' ∧ e2.key ≠ .int j n) := by
    intro e2
    rw [List.mem_eraseIdx_iff_getElem?]
    constructor
    · rintro ⟨i, hne, hi⟩
      exact ⟨List.mem_of_getElem? hi, fun h' => hne (key_index h.nodup' hq hi (by rw [h', hk]))⟩
    · rintro ⟨he, hne⟩
      obtain ⟨i, hi⟩ := List.getElem?_of_mem he
      refine ⟨i, ?_, hi⟩
      rintro rfl
      rw [hq] at hi; simp at hi; subst hi
      exact hne hk
  refine ⟨?_, ?_, ?_, ?_, ?_, ?_⟩
  · rw [hl, List.length_eraseIdx, if_pos hlt, h.len]
  · intro e he
    obtain ⟨he, hne⟩ := (mem_delE h.nodup e).1 he
    obtain ⟨e2, he2, a, c⟩ := h.to e he
    refine ⟨e2, (mem e2).2 ⟨he2, fun h' => ?_⟩, a, c⟩
    obtain ⟨k', n', hint⟩ := h.ints e he
    rw [hint, h'] at a
    have := a.int_inv
    simp at this
    exact hne (by rw [hint, this.1, this.2])
  · intro e2 he2
    obtain ⟨he2, hne⟩ := (mem e2).1 he2
    obtain ⟨e, he, a, c⟩ := h.of e2 he2
    refine ⟨e, (mem_delE h.nodup e).2 ⟨he, fun h' => ?_⟩, a, c⟩
    rw [h'] at a
    exact hne a.int_inv
  · intro e he
    exact h.ints e ((mem_delE h.nodup e).1 he).1
  · exact h.nodup.sublist (sub_delE.map _)
  · exact h.nodup'.sublist (hsub.map _)
theorem ERel.none (h : ERel φ es es') (hf : findV (.int j n) es = none) : ERel φ (delE (.int j n) es) es' := by
  have hnn := findV_none hf
  have hl := len_delE (j := j) (n := n) (es := es)
  rw [hf] at hl
  simp at hl
  have mem : ∀ e, e ∈ delE (.int j n) es ↔ e ∈ es := fun e => by
    rw [mem_delE h.nodup]
    exact ⟨fun h => h.1, fun h => ⟨h, hnn e h⟩⟩
  refine ⟨by rw [hl, h.len], fun e he => h.to e ((mem e).1 he), fun e he => ?_, fun e he => h.ints e ((mem e).1 he), h.nodup.sublist (sub_delE.map _), h.nodup'⟩
  obtain ⟨e2, h2, a⟩ := h.of e he
  exact ⟨e2, (mem e2).2 h2, a⟩
end
end Go.Abs
