/- PART of the proof of CallsKnown: Where a run begins: two listed variables, an array of integers and a map from integers to integers; and where it ends. No condition. -/
import Derived.Test.YtecebpjfidpchaaGreatU24
import Derived.WideKeyElems2
import Derived.LaidLaws
import Derived.RowKit3
import Derived.ChangeAnyMap
/-! Where a run begins: two listed variables, an array of integers and a map from integers to integers; and where it ends. -/
namespace Go.Abs
open Go.WideElems

section
variable {H : Type} {enc : TypeId × Value → H} {P : Program} {w : World} {base : Nat} {sp : Nat → Bool} {held : Bool}

theorem trod_int_inv {e : TypeId} {q q' : IntKind} (he : P.underlying e = some (.int q)) {fuel : Nat} {cs : List Value} {n : Int} {ps : List MemPlace} (h : DataW.trod enc P w base sp held fuel e cs = some (.lit (.int q' n), ps)) : cs = [.int q n] := by
  cases fuel with
  | zero => simp [DataW.trod] at h
  | succ f =>
    unfold DataW.trod at h
    rw [he] at h
    split at h <;> simp_all

theorem trod_ints_inv {t e : TypeId} {q : IntKind} {m : Nat} (ht : P.underlying t = some (.array m e)) (he : P.underlying e = some (.int q)) (hc : P.cellsOf e = 1) (hct : P.cellsOf t = m) {fuel : Nat} {cs : List Value} {l : List Int} {ps : List MemPlace}
    (h : DataW.trod enc P w base sp held fuel t cs = some (.agg (l.map fun n => .lit (.int q n)), ps)) : cs = l.map (.int q) := by
  cases fuel with
  | zero => simp [DataW.trod] at h
  | succ f =>
    unfold DataW.trod at h
    simp only [ht] at h
    split at h
    · rename_i hlen
      obtain ⟨xs, hxs, e2⟩ := map_some' h
      simp only [Prod.mk.injEq, DataW.agg.injEq] at e2
      have hx1 := e2.1
      have hxl : xs.length = m := by
        have := mapM_len hxs
        simpa using this
      have hll : l.length = m := by
        have := congrArg List.length hx1
        simp at this
        omega
      refine List.ext_getElem? fun i => ?_
      by_cases hi : i < m
      · have hxi : xs[i]? = some xs[i] := by simp [hxl, hi]
        have hmi : ∀ {α β : Type} {f : α → Option β} {a : List α} {b : List β}, a.mapM f = some b → ∀ (i : Nat) y, b[i]? = some y → ∃ x, a[i]? = some x ∧ f x = some y := by
          intro α β f a
          induction a with
          | nil => intro b hb i y hy; simp at hb; subst hb; simp at hy
          | cons x a ih =>
            intro b hb i y hy
            rw [List.mapM_cons] at hb
            simp only [bind, Option.bind_eq_some_iff, pure, Option.some.injEq] at hb
            obtain ⟨y0, h0, r, hr, rfl⟩ := hb
            cases i with
            | zero => simp at hy; subst hy; exact ⟨x, by simp, h0⟩
            | succ i => exact ih hr i y (by simpa using hy)
        obtain ⟨j, hj, hf⟩ := hmi hxs i _ hxi
        rw [List.getElem?_range hi] at hj
        simp at hj; subst hj
        have hd : (l.map fun n => (.lit (.int q n) : DataW H))[i]? = some xs[i].1 := by
          rw [hx1]; simp [hxl, hi]
        rw [List.getElem?_map] at hd
        obtain ⟨n, hn, e3⟩ := map_some' hd
        have hxi2 : xs[i] = (.lit (.int q n), xs[i].2) := Prod.ext e3 rfl
        rw [hxi2] at hf
        have := trod_int_inv he hf
        rw [hc] at this
        simp only [Nat.mul_one] at this
        have h2 := congrArg (·[0]?) this
        simp only [List.getElem?_take, List.getElem?_drop] at h2
        simp at h2
        rw [h2, List.getElem?_map, hn]; rfl
      · rw [List.getElem?_eq_none (by omega), List.getElem?_eq_none (by simp; omega)]
    · simp at h

theorem trod_map_inv {t k e : TypeId} {q q' : IntKind} (ht : P.underlying t = some (.map k e)) (hk : P.underlying k = some (.int q)) (he : P.underlying e = some (.int q')) {fuel : Nat} {cs : List Value} {l : List (Int × Int)} {ps : List MemPlace} (hl : (l.map (·.1)).Nodup)
    (h : DataW.trod enc P w base sp held fuel t cs = some (.map (l.map fun p => (.int q p.1, .lit (.int q' p.2))), ps)) :
    ∃ b es clock, cs = [.map (some b)] ∧ w.heap[b]? = some (.map es clock) ∧ ∀ φ : F, ERel φ (l.map fun p => (.int q p.1, .int q' p.2)) es.toList := by
  rcases open_map ht h with ⟨_, hx⟩ | ⟨b, es, clock, n, rfl, hcs, hb, _, Fi, hx⟩
  · simp at hx
  · refine ⟨b, es, clock, hcs, hb, fun φ => ?_⟩
    simp only [Prod.mk.injEq, DataW.map.injEq] at hx
    have hperm : (l.map fun p => ((.int q p.1, .lit (.int q' p.2)) : Lit × DataW H)).Perm (es.toList.map (rg P k (elemAt enc P w base sp held n e))) := by
      rw [hx.1]; exact Go.WideShapes.sorted_perm _
    have val : ∀ y ∈ es.toList, ∀ a c, rg P k (elemAt enc P w base sp held n e) y = (.int q a, .lit (.int q' c)) → y.key = .int q a ∧ y.val = .int q' c := by
      intro y hy a c hr
      obtain ⟨z, hz⟩ := Fi.reads y hy
      have hz1 := rg_of hz
      rw [hr] at hz1; subst hz1
      have hkey := rd_key hz
      obtain ⟨u, hu, e2⟩ := rd_val hz
      refine ⟨?_, ?_⟩
      · simp only [keyOf, hk, mapKey] at hkey
        split at hkey <;> simp_all
      · simp only [elemAt] at hu
        split at hu
        · rename_i hf
          obtain ⟨u1, u2⟩ := u
          simp at e2; subst e2
          have := trod_int_inv he hu
          cases hv : y.val with
          | agg cs => rw [hv] at hf; simp [Value.formed, he] at hf
          | _ => rw [hv] at this; exact List.head_eq_of_cons_eq this
        · simp at hu
    have hlen : (l.map fun p => ((V.int q p.1, V.int q' p.2) : V × V)).length = es.toList.length := by
      have := hperm.length_eq
      simpa using this
    refine ⟨hlen, ?_, ?_, ?_, ?_, ?_⟩
    · intro p hp
      obtain ⟨r, hr, rfl⟩ := List.mem_map.1 hp
      have : ((.int q r.1, .lit (.int q' r.2)) : Lit × DataW H) ∈ es.toList.map (rg P k (elemAt enc P w base sp held n e)) := hperm.mem_iff.1 (List.mem_map.2 ⟨r, hr, rfl⟩)
      obtain ⟨y, hy, e2⟩ := List.mem_map.1 this
      obtain ⟨h1, h2⟩ := val y hy _ _ e2
      exact ⟨y, hy, by rw [h1]; exact .int _ _, by rw [h2]; exact .int _ _⟩
    · intro y hy
      have : rg P k (elemAt enc P w base sp held n e) y ∈ l.map fun p => ((.int q p.1, .lit (.int q' p.2)) : Lit × DataW H) := hperm.mem_iff.2 (List.mem_map.2 ⟨y, hy, rfl⟩)
      obtain ⟨r, hr, e2⟩ := List.mem_map.1 this
      obtain ⟨h1, h2⟩ := val y hy _ _ e2.symm
      exact ⟨_, List.mem_map.2 ⟨r, hr, rfl⟩, by rw [h1]; exact .int _ _, by rw [h2]; exact .int _ _⟩
    · intro p hp
      obtain ⟨r, hr, rfl⟩ := List.mem_map.1 hp
      exact ⟨q, r.1, rfl⟩
    · rw [List.map_map]
      have : ((fun x : V × V => x.1) ∘ fun p : Int × Int => ((V.int q p.1, V.int q' p.2) : V × V)) = (fun n : Int => V.int q n) ∘ (·.1) := rfl
      rw [this, ← List.map_map]
      exact hl.map _ fun a b hne e => hne (by simpa using e)
    · have := ((Go.MapKept.stamped_iff es clock).1 Fi.stamped).2.2
      rw [List.nodup_iff_pairwise_ne, List.pairwise_map]
      exact this
end

/-- The world's memory where a run begins. -/
structure Begins (w : World) (ga gm : Nat) (q : IntKind) (l : List Int) (es : List (Int × Int)) : Prop where
  arr : ∃ t, w.heap[ga]? = some (.cells ⟨l.map (.int q)⟩ t (0, 0))
  map : ∃ t b es' clock, w.heap[gm]? = some (.cells #[.map (some b)] t (0, 0)) ∧ w.heap[b]? = some (.map es' clock) ∧ ∀ φ : F, ERel φ (es.map fun p => (.int q p.1, .int q p.2)) es'.toList

theorem start_of_laid {P : Program} {w : World} {n1 n2 : String} {ga gm ta tm e : Nat} {q : IntKind} {l : List Int} {es : List (Int × Int)} {m : Nat}
    (h1 : P.globalNamed n1 = some ga) (h2 : (P.globals[ga]?).map (·.type) = some ta) (h3 : P.globalNamed n2 = some gm) (h4 : (P.globals[gm]?).map (·.type) = some tm)
    (u1 : P.underlying ta = some (.array m e)) (u2 : P.underlying e = some (.int q)) (u3 : P.underlying tm = some (.map e e)) (c1 : P.cellsOf e = 1) (c2 : P.cellsOf ta = m) (hl : l ≠ []) (hes : (es.map (·.1)).Nodup)
    (h : laidMet P [(n1, .agg (l.map fun n => .lit (.int q n))), (n2, .map (es.map fun p => (.int q p.1, .lit (.int q p.2))))] w) : Begins w ga gm q l es := by
  obtain ⟨ps, ⟨g, t, cs, fuel, p, r, a1, a2, a3, a4, ⟨g', t', cs', fuel', p', r', b1, b2, b3, b4, b5, b6⟩, a6⟩, hnd, hcell⟩ := h
  rw [h1] at a1; simp at a1; subst a1
  rw [h2] at a2; simp at a2; subst a2
  rw [h3] at b1; simp at b1; subst b1
  rw [h4] at b2; simp at b2; subst b2
  have e1 := trod_ints_inv u1 u2 c1 c2 a4
  obtain ⟨b, es', clock, e2, e3, e4⟩ := trod_map_inv u3 u2 u2 hes b4
  have var : ∀ n g cs, P.globalNamed n = some g → w.var? P n = some cs → ∃ t f, w.heap[g]? = some (.cells cs t f) := by
    intro n g cs hn hv
    simp only [World.var?, hn, Option.bind_some] at hv
    split at hv
    · rename_i c t f hh
      simp at hv; subst hv
      exact ⟨t, f, hh⟩
    · simp at hv
  have row : ∀ (g n : Nat), 0 < n → MemPlace.cell g 0 ∈ MemPlace.row ⟨g, 0, none⟩ n := by
    intro g n hn
    simp only [MemPlace.row, List.mem_map, List.mem_range]
    exact ⟨0, hn, by simp⟩
  obtain ⟨t1, f1, hh1⟩ := var _ _ _ h1 a3
  obtain ⟨t2, f2, hh2⟩ := var _ _ _ h3 b3
  have hcs : cs = ⟨l.map (.int q)⟩ := by rw [← e1]
  have hcs' : cs' = #[.map (some b)] := by
    have : cs'.toList = [.map (some b)] := e2
    rw [← Array.toArray_toList (xs := cs'), this]
  subst hcs hcs'
  have z1 : (∃ c t, w.heap[ga]? = some (.cells c t (0, 0))) := (hcell ga 0 (by
    rw [a6]
    refine List.mem_append_left _ (List.mem_append_left _ (row _ _ ?_))
    have : 0 < l.length := List.length_pos_iff.2 hl
    simpa using this)).1
  have z2 : (∃ c t, w.heap[gm]? = some (.cells c t (0, 0))) := (hcell gm 0 (by
    rw [a6, b6]
    exact List.mem_append_right _ (List.mem_append_left _ (List.mem_append_left _ (row _ _ (by simp)))))).1
  obtain ⟨c, t, z1⟩ := z1
  obtain ⟨c', t', z2⟩ := z2
  rw [hh1] at z1
  rw [hh2] at z2
  simp only [Option.some.injEq, Obj.cells.injEq] at z1 z2
  obtain ⟨_, _, rfl⟩ := z1
  obtain ⟨_, _, rfl⟩ := z2
  exact ⟨⟨_, hh1⟩, _, b, es', clock, hh2, e3, e4⟩

/-- Ours, of it. -/
def startH (q : IntKind) (l : List Int) (es : List (Int × Int)) : H :=
  ⟨T.ofList .e 0 [.cells true 1 (T.ofList .e 0 [.map 2]), .cells true l.length (T.ofList .e 0 (l.map (.int q))), .map true (es.map fun p => (.int q p.1, .int q p.2))], 3⟩

theorem start_rel {w : World} {q : IntKind} {l : List Int} {es : List (Int × Int)} (h : Begins w 1 0 q l es) : ∃ φ : F, Rel φ (startH q l es) w ∧ GRel φ [1, 0] ∧ ∀ k, ¬ Foot φ (startH q l es) k := by
  obtain ⟨⟨ta, ha⟩, tm, b, es', clock, hm, hb, hr⟩ := h
  have hb0 : b ≠ 0 := by rintro rfl; rw [hm] at hb; simp at hb
  have hb1 : b ≠ 1 := by rintro rfl; rw [ha] at hb; simp at hb
  let φ : F := fun k => if k = 0 then some ⟨0, 0, 1⟩ else if k = 1 then some ⟨1, 0, l.length⟩ else if k = 2 then some ⟨b, 0, 0⟩ else none
  have p0 : φ 0 = some ⟨0, 0, 1⟩ := rfl
  have p1 : φ 1 = some ⟨1, 0, l.length⟩ := rfl
  have p2 : φ 2 = some ⟨b, 0, 0⟩ := rfl
  have get : ∀ k, (startH q l es).get k = [Blk.cells true 1 (T.ofList .e 0 [.map 2]), .cells true l.length (T.ofList .e 0 (l.map (.int q))), .map true (es.map fun p => (.int q p.1, .int q p.2))][k]? := by
    intro k
    simp only [H.get, startH, T.get_ofList]
    by_cases hk : k < 3
    · rw [if_pos (by simpa using hk)]; simp
    · rw [if_neg (by simpa using hk), List.getElem?_eq_none (by simpa using hk)]; rfl
  have three : ∀ k B, (startH q l es).get k = some B → k = 0 ∧ B = .cells true 1 (T.ofList .e 0 [.map 2]) ∨ k = 1 ∧ B = .cells true l.length (T.ofList .e 0 (l.map (.int q))) ∨ k = 2 ∧ B = .map true (es.map fun p => (.int q p.1, .int q p.2)) := by
    intro k B hB
    rw [get] at hB
    match k with
    | 0 => simp at hB; exact .inl ⟨rfl, hB.symm⟩
    | 1 => simp at hB; exact .inr (.inl ⟨rfl, hB.symm⟩)
    | 2 => simp at hB; exact .inr (.inr ⟨rfl, hB.symm⟩)
    | k + 3 => simp at hB
  refine ⟨φ, ⟨?_, ?_, ?_⟩, ?_, ?_⟩
  · intro k B hB
    rcases three k B hB with ⟨rfl, rfl⟩ | ⟨rfl, rfl⟩ | ⟨rfl, rfl⟩
    · refine ⟨_, p0, by simp, ⟨_, _, hm, by simp⟩, fun i hi => ?_⟩
      have : i = 0 := by omega
      subst this
      refine ⟨.map (some b), ⟨_, _, hm, by simp⟩, ?_⟩
      simp only [cellD, T.get_ofList]
      exact .map 2 _ p2
    · refine ⟨_, p1, by simp, ⟨_, _, ha, by simp⟩, fun i hi => ?_⟩
      refine ⟨.int q l[i], ⟨_, _, ha, by simp [hi]⟩, ?_⟩
      simp only [cellD, T.get_ofList]
      rw [if_pos (by simpa using hi)]
      simp only [Nat.sub_zero, List.getElem?_map]
      simp [hi]
      exact .int _ _
    · exact ⟨_, p2, rfl, es', clock, hb, hr φ⟩
  · intro k B k' B' p p' hB hB' hp hp' hcb
    rcases three k B hB with ⟨rfl, _⟩ | ⟨rfl, _⟩ | ⟨rfl, _⟩ <;> rcases three k' B' hB' with ⟨rfl, _⟩ | ⟨rfl, _⟩ | ⟨rfl, _⟩ <;> simp only [p0, p1, p2, Option.some.injEq] at hp hp' <;> subst hp hp' <;> simp at hcb <;> first | rfl | omega
  · intro k p hp
    simp only [φ] at hp
    split at hp
    · simp at hp; subst hp
      exact ⟨by simp [startH]; omega, .inl ⟨_, _, hm, by simp⟩⟩
    · split at hp
      · simp at hp; subst hp
        exact ⟨by simp [startH]; omega, .inl ⟨_, _, ha, by simp⟩⟩
      · split at hp
        · simp at hp; subst hp
          exact ⟨by simp [startH]; omega, .inr ⟨_, _, hb⟩⟩
        · simp at hp
  · intro g hg
    simp at hg
    rcases hg with rfl | rfl
    · exact ⟨_, p1, rfl, rfl⟩
    · exact ⟨_, p0, rfl, rfl⟩
  · rintro k ⟨j, B, p, hB, hro, _⟩
    rcases three j B hB with ⟨_, rfl⟩ | ⟨_, rfl⟩ | ⟨_, rfl⟩ <;> simp [Blk.ro] at hro

/-- Nothing that was there has been written. -/
theorem kept_of_sim {φ φ' : F} {σ σ' : H} {w w' : World} (h : Sim φ σ w φ' σ' w') (hf : ∀ k, ¬ Foot φ σ k) : w.keptBut w' (fun _ => False) := by
  have keep : ∀ k, k < w.heap.size → w'.heap[k]? = w.heap[k]? := fun k hk => h.keep k hk (hf k)
  refine ⟨h.os, h.out, fun i hi => ?_⟩
  rw [keep i hi]
  have : w.heap[i]? = some w.heap[i] := by simp [hi]
  rw [this]
  cases w.heap[i] <;> simp
end Go.Abs
