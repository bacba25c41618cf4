/- PART of the proof of CallsKnown: A region whose order is open: one operation more, and all of them. No condition. -/
import Derived.Test.YtecebpjfidpchaaGreatU17
/-! A region whose order is open: one operation more, and all of them. -/
namespace Go.Abs

section
variable {P : Program} {gl : List Nat} {nt : Nat} {ops : Array Oper} {M : List Nat} {its : List It} {m : MT} {call : Call} {base : Nat} {pn : Pn} {st : Nat → T V × H} {hs : Nat → List H}
variable {φ0 : F} {σ0 : H} {w0 : World}

/-- The world gets a block that we have not made yet. -/
theorem Sim.ahead {φ : F} {σ : H} {w : World} (h : Sim φ0 σ0 w0 φ σ w) {id : Nat} (hid : φ id = none) (hlt : id < σ.next) (h0 : σ0.next ≤ id) (obj : Obj) {n : Nat} (hs : ∀ w' : World, w'.heap[w.heap.size]? = some obj → Sized w' ⟨w.heap.size, 0, n⟩) :
    Sim φ0 σ0 w0 (φ.put id ⟨w.heap.size, 0, n⟩) σ { w with heap := w.heap.push obj } := by
  have hle : φ.le (φ.put id ⟨w.heap.size, 0, n⟩) := by
    intro b p hp
    simp only [F.put]
    rw [if_neg (by rintro rfl; rw [hid] at hp; simp at hp)]; exact hp
  have hne : ∀ b B, σ.get b = some B → b ≠ id := by
    rintro b B hB rfl
    obtain ⟨p, hp, _⟩ := h.rel.blk _ _ hB
    rw [hid] at hp; simp at hp
  have hput : ∀ b, b ≠ id → (φ.put id ⟨w.heap.size, 0, n⟩) b = φ b := fun b hb => by simp only [F.put]; rw [if_neg hb]
  have keep : ∀ k, k < w.heap.size → (w.heap.push obj)[k]? = w.heap[k]? := fun k hk => heap_push_old hk
  refine ⟨⟨?_, ?_, ?_⟩, F.le_trans h.ext hle, ?_, ?_, ?_, h.os, h.out, h.next, ?_, h.back, h.fresh⟩
  · intro b B hB
    obtain ⟨p, hp, hb⟩ := h.rel.blk b B hB
    refine ⟨p, hle _ _ hp, ?_⟩
    have hlt := (h.rel.dom b p hp).2.lt
    exact hb.congr hle (keep _ hlt)
  · intro b B b' B' p p' hB hB' hp hp'
    rw [hput _ (hne _ _ hB)] at hp
    rw [hput _ (hne _ _ hB')] at hp'
    exact h.rel.inj _ _ _ _ _ _ hB hB' hp hp'
  · intro b p hp
    by_cases hb : b = id
    · subst hb
      simp [F.put] at hp; subst hp
      exact ⟨hlt, hs _ (by simp)⟩
    · rw [hput _ hb] at hp
      obtain ⟨h1, h2⟩ := h.rel.dom b p hp
      have h3 := h2.lt
      refine ⟨h1, ?_⟩
      unfold Sized at h2 ⊢
      rw [keep _ h3]; exact h2
  · intro k hk hf
    rw [← h.keep k hk hf]
    exact keep k (Nat.lt_of_lt_of_le hk h.size)
  · rintro k ⟨b, B, p, hB, hr, hp, rfl⟩
    rw [hput _ (hne _ _ hB)] at hp
    exact h.foot _ ⟨b, B, p, hB, hr, hp, rfl⟩
  · have := h.size
    (first | omega | (simp; omega))
  · intro b hb hlt'
    rw [hput _ (by omega)]
    exact h.old b hb hlt'

theorem compH_load {op : Go.Op} {n : Nat} {g : Bool} {x : Opd} (h : compH P gl op = some (.load n g x)) : ∃ t a, op = .load t a ∧ sizeOfT P t = some n ∧ aggT P t = some g ∧ compO gl a = some x := by
  cases op
  case load t a =>
    simp only [compH] at h
    split at h
    · rename_i n' g' hn hg
      obtain ⟨a1, ha, e⟩ := map_some' h
      simp at e
      obtain ⟨rfl, rfl, rfl⟩ := e
      exact ⟨t, a, rfl, hn, hg, ha⟩
    · simp at h
  case slice q1 q2 q3 q4 mx =>
    cases mx <;> simp only [compH] at h
    · (repeat' split at h) <;> (try simp at h)
    · simp at h
  case call c =>
    obtain ⟨ce, as, ts⟩ := c
    cases ce with
    | builtin b => cases b <;> simp only [compH] at h <;> (repeat' split at h) <;> simp [comp2] at h <;> (try (repeat' split at h) <;> simp at h)
    | value q => simp only [compH] at h; (repeat' split at h) <;> simp at h
    | invoke r n => simp only [compH] at h; (repeat' split at h) <;> simp at h
  all_goals (simp only [compH] at h; (repeat' split at h) <;> (try simp [comp2] at h) <;> (try (repeat' split at h) <;> simp at h))

theorem Lite.first (cn : Canon P gl nt ops M its m call base pn st hs) {c : Nat} (hl : c = 0 ∨ ∃ (i : It) (q : Nat), c = q + 1 ∧ its[q]? = some i ∧ i.heavy = true) : (hs c)[0]? = some (st c).2 := by
  rcases hl with rfl | ⟨i, q, rfl, hi, hh⟩
  · rw [cn.first]; rfl
  · rw [cn.run.hist q i hi, if_pos hh]; rfl

theorem DInv.step (cn : Canon P gl nt ops M its m call base pn st hs) (hbase : σ0.next = base) (hm : MOk P m) (hcall : CallOk P gl call) (hg0 : GRel φ0 gl) {ds : List Deferred} {S : Nat → Prop} {c : Nat} {φ : F} {tc : T V} {a : Act} {w : World} (h : DInv P gl nt ds ops its base pn st φ0 σ0 w0 S c φ tc a w)
    {p : Nat} {i : It} (hi : its[p]? = some i) {o : Oper} (ho : ops[i.idx]? = some o) (hn : ¬ S i.idx) (hp : ∀ q ∈ predsOf o, S q) {S' : Nat → Prop} (hS' : ∀ k, S' k ↔ (S k ∨ k = i.idx)) {Q : Exit → Act → World → Prop} {K : Act → World → Prop}
    (hP : ∀ (pp k : Nat) v σp, pn = some (pp, k, v, σp) → ∀ φ' a' w' v', Sim φ0 σ0 w0 φ' σp w' → ARel φ' nt ds (undefs (st 0).1 its) a' → VRel φ' v v' → Q (.panic [{ v := v', recovered := false }]) a' w')
    (hK : ∀ c' φ' tc' a' w', DInv P gl nt ds ops its base pn st φ0 σ0 w0 S' c' φ' tc' a' w' → K a' w') : wpOp P ops Q i.idx K a w := by
  have hcp : c ≤ p := by
    rcases Nat.lt_or_ge p c with h' | h'
    · exact absurd (h.pre p i h' hi) hn
    · exact h'
  have hplt : p < its.length := (List.getElem?_eq_some_iff.1 hi).1
  obtain ⟨hlen, hidx, _⟩ := cn.all
  have hidxlt : i.idx < its.length := by rw [hlen]; exact hidx i (List.mem_of_getElem? hi)
  have anc := anc_closed cn.chkM h.closed i.idx o ho hp
  have desc : ∀ (q : Nat) (j : It), its[q]? = some j → bit M j.idx i.idx = true → ¬ S j.idx := by
    intro q j hj hb hs
    have hjlt := hidx j (List.mem_of_getElem? hj)
    have hoj : ops[j.idx]? = some ops[j.idx] := by simp [hjlt]
    exact hn (anc_closed cn.chkM h.closed j.idx _ hoj (h.closed _ _ hoj hs) _ hb)
  have hD : ¬ (∃ j : It, its[p]? = some j ∧ S j.idx) := by
    rintro ⟨j, hj, hs⟩
    rw [hi] at hj; simp at hj; subst hj
    exact hn hs
  have agr := cn.agree h.sh hi hD (fun q j hj hb => ⟨j, hj, anc _ hb⟩) (fun q j hj hb => by
    rintro ⟨k, hk, hs⟩
    rw [hj] at hk; simp at hk; subst hk
    exact desc q j hj hb hs)
  have hD' : ∀ q, (∃ j : It, its[q]? = some j ∧ S' j.idx) ↔ ((∃ j : It, its[q]? = some j ∧ S j.idx) ∨ q = p) := by
    intro q
    constructor
    · rintro ⟨j, hj, hs⟩
      rcases (hS' _).1 hs with hs | he
      · exact .inl ⟨j, hj, hs⟩
      · exact .inr (cn.idxs hj hi he)
    · rintro (⟨j, hj, hs⟩ | rfl)
      · exact ⟨j, hj, (hS' _).2 (.inl hs)⟩
      · exact ⟨i, hi, (hS' _).2 (.inr rfl)⟩
  have closed' : Closed ops S' := by
    intro k o' ho' hs q hq
    rcases (hS' k).1 hs with hs | rfl
    · exact (hS' q).2 (.inl (h.closed k o' ho' hs q hq))
    · rw [ho] at ho'; simp at ho'; subst ho'
      exact (hS' q).2 (.inl (hp q hq))
  have other : ∀ (q : Nat) (j : It), its[q]? = some j → q ≠ p → S' j.idx → S j.idx := by
    intro q j hj hq hs
    rcases (hS' _).1 hs with hs | he
    · exact hs
    · exact absurd (cn.idxs hj hi he) hq
  obtain ⟨o', ho', hc⟩ := cn.comp i (List.mem_of_getElem? hi)
  rw [ho] at ho'; simp at ho'; subst ho'
  have hcomp := hc
  unfold compOp at hc
  split at hc
  case h_2 => simp at hc
  rename_i y g hy hgd
  split at hc
  case isFalse => simp at hc
  rename_i hdst
  simp only [Option.some.injEq] at hc
  have ex : i.o.x = y := by rw [← hc]
  have eg : i.o.g = g := by rw [← hc]
  have ed : i.o.dst = o.dst := by rw [← hc]
  have hgrel : GRel φ gl := hg0.mono h.lite.sim.ext
  have he := env_of h.ar.rel hgrel
  have hwant : unk (st p).1 i.o.g = false → Region.wanted o (yielded ops a.tmps) = wantedV (st p).1 i.o.g := fun hu => by
    rw [wanted_eq h.ar rfl hgd (by rw [← eg, agree_unk agr]; exact hu), ← eg, agree_wanted agr]
  have nop' : ∀ (pp k : Nat) v σp, pn = some (pp, k, v, σp) → Live pn p i → ¬ S' k := by
    intro pp k v σp e hl hs
    rcases (hS' k).1 hs with hs | rfl
    · exact h.nop pp k v σp e hs
    · obtain ⟨ip, t', a1, a2, a3, a4⟩ := cn.run.pan pp _ v σp e
      have := cn.idxs a1 hi a2
      subst this
      rw [hi] at a1; simp at a1; subst a1
      rw [e] at hl
      simp [Live, a3] at hl
  have hlv := cn.live h.closed h.nop hi ho hp
  -- what does not wait: the place stays
  have stay : ∀ (φ' : F) (v : V) (v' : Value) (w' : World), i.heavy = false → (st (p + 1)).1 = putd (st p).1 i.o.dst v → φ.le φ' → VRel φ' v v' → Lite its base st φ0 σ0 w0 S' c φ' w' →
      (∀ (q : Nat) (j : It), its[q]? = some j → j.heavy = false → ¬ S' j.idx → φ' (base + j.idx) = none) → K (a.put o.dst v') w' := by
    intro φ' v v' w' hh hv hle hvr hl hpool
    have hlive : Live pn p i := by
      rcases hlv with h' | ⟨_, _, _, _, _, h', _⟩
      · exact h'
      · rw [hh] at h'; simp at h'
    refine hK c φ' (putd tc i.o.dst v) _ w' ⟨closed', cn.shadow_put h.sh hi hv hD', ?_, h.cle, fun q j hq hj => (hS' _).2 (.inl (h.pre q j hq hj)), ?_, h.last, hl, hpool, fun pp k v σp e => nop' pp k v σp e hlive⟩
    · rw [ed]; exact (h.ar.mono hle).put hdst hvr
    · intro q j hq hj hjh hs
      refine h.post q j hq hj hjh (other q j hj ?_ hs)
      rintro rfl
      rw [hi] at hj; simp at hj; subst hj
      rw [hh] at hjh; simp at hjh
  have pool' : ∀ (q : Nat) (j : It), its[q]? = some j → j.heavy = false → ¬ S' j.idx → φ (base + j.idx) = none := fun q j hj hh hs =>
    h.pool q j hj hh fun h' => hs ((hS' _).2 (.inl h'))
  unfold wpOp
  simp only [ho]
  cases hh : i.heavy with
  | false =>
    have hlive : Live pn p i := by
      rcases hlv with h' | ⟨_, _, _, _, _, h', _⟩
      · exact h'
      · rw [hh] at h'; simp at h'
    have hrun := cn.run.light p i hi hlive hh
    unfold evFl at hrun
    split at hrun
    · simp at hrun
    rename_i hunk
    have hunk : unk (st p).1 i.o.g = false := by simpa using hunk
    have hwant := hwant hunk
    split at hrun
    · rename_i hw
      rw [hwant, hw]
      simp only [if_true]
      refine .inl ?_
      unfold Oper.wp
      have lite' : (∀ x, i.o.x ≠ .a x) → Lite its base st φ0 σ0 w0 S' c φ w := fun hx => h.lite.mono fun q j x hj hq hs hjh hjx hjw => by
        refine other q j hj ?_ hs
        rintro rfl
        rw [hi] at hj; simp at hj; subst hj
        exact hx _ hjx
      split at hrun
      · rename_i x hx
        obtain ⟨v, hv, e⟩ := map_some' hrun
        rw [Prod.ext_iff] at e
        have hcl : compL P gl o.op = some x := by
          rcases compX_cases hy with ⟨z, ez, hz⟩ | ⟨z, ez, hz⟩ | hz
          · rw [← ex, hx] at ez; simp at ez; subst ez; exact hz
          · rw [← ex, hx] at ez; simp at ez
          · rw [← ex, hx] at hz; exact absurd hz ((compH_no gl o.op).1 x)
        rw [← stepL_congr x (by have := agree_opds agr; rw [hx] at this; exact this)] at hv
        obtain ⟨v', hr, hvr⟩ := light_sound he hcl hv w
        rw [hr, Oper.upon_value]
        exact stay φ v v' w hh e.1 (F.le_refl φ) hvr (lite' (by rw [hx]; simp)) pool'
      · rename_i x hx
        obtain ⟨⟨B, mk⟩, hst, e⟩ := map_some' hrun
        rw [Prod.ext_iff] at e
        have hca : compA P gl o.op = some x := by
          rcases compX_cases hy with ⟨z, ez, hz⟩ | ⟨z, ez, hz⟩ | hz
          · rw [← ex, hx] at ez; simp at ez
          · rw [← ex, hx] at ez; simp at ez; subst ez; exact hz
          · rw [← ex, hx] at hz; exact absurd hz ((compH_no gl o.op).2 x)
        have hst2 := hst
        rw [← stepA_congr x (by have := agree_opds agr; rw [hx] at this; exact this)] at hst2
        obtain ⟨hro, hmk⟩ := make_sound he hca hst2
        obtain ⟨v', obj, n, hr, hb, hvr⟩ := hmk w
        rw [hr, Oper.upon_value]
        have hnone := h.pool p i hi hh hn
        have hroom := h.lite.room
        have hidlt : base + i.idx < (st c).2.next := by omega
        have hle : φ.le (φ.put (base + i.idx) ⟨w.heap.size, 0, n⟩) := by
          intro b q hq
          simp only [F.put]
          rw [if_neg (by rintro rfl; rw [hnone] at hq; simp at hq)]; exact hq
        have hput : ∀ b, b ≠ base + i.idx → (φ.put (base + i.idx) ⟨w.heap.size, 0, n⟩) b = φ b := fun b hb => by simp only [F.put]; rw [if_neg hb]
        have hself : (φ.put (base + i.idx) ⟨w.heap.size, 0, n⟩) (base + i.idx) = some ⟨w.heap.size, 0, n⟩ := by simp [F.put]
        have hget : ∀ b B', (st c).2.get b = some B' → b ≠ base + i.idx := by
          rintro b B' hB rfl
          obtain ⟨q, hq, _⟩ := h.lite.sim.rel.blk _ _ hB
          rw [hnone] at hq; simp at hq
        have hlt : ∀ b q, φ b = some q → q.cb < w.heap.size := fun b q hq => (h.lite.sim.rel.dom b q hq).2.lt
        have hidne : ∀ (q : Nat) (j : It), its[q]? = some j → q ≠ p → base + j.idx ≠ base + i.idx := fun q j hj hq e => hq (cn.idxs hj hi (by omega))
        refine stay _ _ v' _ hh e.1 hle (hvr _ _ hself) ⟨h.lite.sim.ahead hnone hidlt (by omega) obj fun w' hw' => (hb w' _ φ (F.le_refl φ) hw').2, hroom, ?_, ?_⟩ ?_
        · intro q j y hj hq hs hjh hjy hjw
          by_cases hqp : q = p
          · subst hqp
            rw [hi] at hj; simp at hj; subst hj
            rw [hx] at hjy; simp at hjy; subst hjy
            refine ⟨B, mk, _, obj, hst, hro, hself, by simp, h.lite.sim.size, fun w' ψ hψ hw' => hb w' _ ψ (F.le_trans hle hψ) hw', fun b B' q' hB hq' => ?_⟩
            rw [hput _ (hget _ _ hB)] at hq'
            have := hlt _ _ hq'
            (first | omega | (simp; omega))
          · obtain ⟨C, mk2, pl, obj2, a1, a2, a3, a4, a5, a6, a7⟩ := h.lite.pend q j y hj hq (other q j hj hqp hs) hjh hjy hjw
            refine ⟨C, mk2, pl, obj2, a1, a2, hle _ _ a3, ?_, a5, fun w' ψ hψ hw' => a6 w' ψ (F.le_trans hle hψ) hw', fun b B' q' hB hq' => ?_⟩
            · rw [← a4]; exact heap_push_old (lt_of_heap a4)
            · rw [hput _ (hget _ _ hB)] at hq'
              exact a7 b B' q' hB hq'
        · intro q1 j1 q2 j2 pl pl' hj1 hj2 hne h1 h2 hp1 hp2
          by_cases e1 : q1 = p
          · subst e1
            rw [hi] at hj1; simp at hj1; subst hj1
            rw [hself] at hp1; simp at hp1; subst hp1
            rw [hput _ (hidne q2 j2 hj2 (Ne.symm hne))] at hp2
            have := hlt _ _ hp2
            (first | omega | (simp; omega))
          · rw [hput _ (hidne q1 j1 hj1 e1)] at hp1
            by_cases e2 : q2 = p
            · subst e2
              rw [hi] at hj2; simp at hj2; subst hj2
              rw [hself] at hp2; simp at hp2; subst hp2
              have := hlt _ _ hp1
              (first | omega | (simp; omega))
            · rw [hput _ (hidne q2 j2 hj2 e2)] at hp2
              exact h.lite.dist q1 j1 q2 j2 pl pl' hj1 hj2 hne h1 h2 hp1 hp2
        · intro q j hj hjh hs
          rw [hput _ (hidne q j hj (by rintro rfl; rw [hi] at hj; simp at hj; subst hj; exact hs ((hS' _).2 (.inr rfl))))]
          exact pool' q j hj hjh hs
      · rename_i n ag x hx
        split at hrun
        · rename_i v hv
          split at hrun
          · rename_i hheld
            simp only [Option.some.injEq, Prod.ext_iff] at hrun
            obtain ⟨hback1, hback2⟩ := Canon.back_get (hv := []) (by have := cn.chk; simp only [chkDraw, Bool.and_eq_true] at this; exact this.1.1.2) p i hi hh (by rw [hx]; rfl)
            obtain ⟨sa, sb, s1, s2, s3, s4⟩ := cn.hist_split c (p - c) (by omega)
            rw [show c + (p - c) = p from by omega] at s1 s2
            have hget : (hs p)[sb.length]? = some (st c).2 := by
              rw [s1, List.getElem?_append_right (by omega), show sb.length - sa.length = 0 from by omega]
              exact Lite.first cn h.last
            have hlt : sb.length < i.back := by
              rcases Nat.lt_or_ge sb.length i.back with h' | h'
              · exact h'
              · exfalso
                have hb : (hvs its p ++ [])[i.back - 1]? = some (sb[i.back - 1]'(by omega)) := by
                  rw [List.append_nil, s2, List.getElem?_append_left (by omega)]
                  simp [show i.back - 1 < sb.length from by omega]
                obtain ⟨r, hr1, hr2, hr3⟩ := s4 _ (List.getElem_mem (show i.back - 1 < sb.length from by omega))
                exact h.post r _ hr1 hr2 hr3 (anc _ (hback2 _ hb))
            have hl := held_get hheld sb.length _ hlt hget
            have hae : ev (st p).1 x = ev tc x := by
              have := agree_opds agr
              rw [hx] at this
              exact (this x (by simp [X.opds])).symm
            rw [hae] at hl
            have hz : compH P gl o.op = some (.load n ag x) := by
              rcases compX_cases hy with ⟨z, ez, hz⟩ | ⟨z, ez, hz⟩ | hz
              · rw [← ex, hx] at ez; simp at ez
              · rw [← ex, hx] at ez; simp at ez
              · rw [← ex, hx] at hz; exact hz
            obtain ⟨ty, aa, hop, hsz, hag, hco⟩ := compH_load hz
            obtain ⟨v', pp, e, hr, hvr⟩ := loadV_sound h.lite.sim.rel hsz hag (he _ _ hco) hl
            have hr2 : (execOp a.eval o).run P w = .ok (.value v') w := by simp [execOp, hop, e, Instr.loadAt, Instr.sureAddr, hr]
            rw [hr2, Oper.upon_value]
            exact stay φ v v' w hh hrun.1.symm (F.le_refl φ) hvr (lite' (by rw [hx]; simp)) pool'
          · simp at hrun
        · simp at hrun
      · simp at hrun
    · rename_i hw
      have hw : wantedV (st p).1 i.o.g = false := by simpa using hw
      rw [hwant, hw]
      simp only [Bool.false_eq_true, if_false]
      simp only [Option.some.injEq, Prod.ext_iff] at hrun
      exact stay φ .undef Go.undef w hh hrun.1.symm (F.le_refl φ) .undef (h.lite.mono fun q j x hj hq hs hjh hjx hjw => by
        refine other q j hj ?_ hs
        rintro rfl
        rw [hi] at hj; simp at hj; subst hj
        rw [hw] at hjw; simp at hjw) pool'
  | true =>
    have between : ∀ (q : Nat) (j : It), c ≤ q → q < c + (p - c) → its[q]? = some j → j.heavy = false ∧ S j.idx ∧ Live pn q j := by
      intro q j h1 h2 hj
      have hsj := anc _ ((cn.pair (show q < p by omega) hj hi).2.2.2.2 hh)
      have hjh : j.heavy = false := by
        cases hjh : j.heavy with
        | false => rfl
        | true => exact absurd hsj (h.post q j h1 hj hjh)
      exact ⟨hjh, hsj, cn.live_done h.closed h.nop hj hjh hsj⟩
    have hl := h.lite.reach cn hbase (p - c) (by omega) between
    rw [show c + (p - c) = p from by omega] at hl
    rcases hlv with hlive | ⟨kp, vp, σp, tp, hpn, _, hpan⟩
    rotate_left
    · have hpan2 := ev1_congr_pan (t₂ := tc) (fun x hx => (agr x hx).symm) hpan
      have key := ev1_sound (K := K) (Q := Q) hl.sim.rel hgrel h.ar hcomp hm hcall hpan2 (fun φ' a' w' v' hsim ha' hv' => by
        refine hP p kp vp σp hpn φ' a' w' v' (hl.sim.trans hsim) (h.sh.lost ha') hv')
      split
      · rename_i hw; rw [if_pos hw] at key; exact .inl key
      · rename_i hw; rw [if_neg hw] at key; exact key
    have hrun := cn.run.hard p i hi hlive hh
    obtain ⟨v, hv, hrun2⟩ := ev1_congr (t₂ := tc) (t' := (st (p + 1)).1) (σ' := (st (p + 1)).2) (fun x hx => (agr x hx).symm) hrun
    have key := ev1_sound (K := K) (Q := Q) hl.sim.rel hgrel h.ar hcomp hm hcall hrun2 (fun φ' a' w' hsim ha' => by
      refine hK (p + 1) φ' _ a' w' ⟨closed', cn.shadow_put h.sh hi hv hD', ha', by omega, ?_, ?_, .inr ⟨i, p, rfl, hi, hh⟩, ⟨hl.sim.trans hsim, Nat.le_trans hl.room hsim.next, ?_, ?_⟩, ?_, fun pp k v σp e => nop' pp k v σp e hlive⟩
      · intro q j hq hj
        refine (hS' _).2 ?_
        rcases Nat.lt_or_ge q c with h1 | h1
        · exact .inl (h.pre q j h1 hj)
        · rcases Nat.lt_or_ge q p with h2 | h2
          · exact .inl (between q j h1 (by omega) hj).2.1
          · have : q = p := by omega
            subst this
            rw [hi] at hj; simp at hj; subst hj
            exact .inr rfl
      · intro q j hq hj hjh hs
        exact h.post q j (by omega) hj hjh (other q j hj (by omega) hs)
      · intro q j y hj hq hs hjh hjy hjw
        obtain ⟨C, mk2, pl, obj2, a1, a2, a3, a4, a5, a6, a7⟩ := hl.pend q j y hj (by omega) (other q j hj (by omega) hs) hjh hjy hjw
        have hlt := lt_of_heap a4
        have hnf : ¬ Foot φ (st p).2 pl.cb := by
          rintro ⟨b, B, q', hB, _, hq', e⟩
          exact a7 b B q' hB hq' e
        refine ⟨C, mk2, pl, obj2, a1, a2, hsim.ext _ _ a3, ?_, a5, fun w2 ψ hψ hw2 => a6 w2 ψ (F.le_trans hsim.ext hψ) hw2, fun b B' q' hB hq' => ?_⟩
        · rw [hsim.keep _ hlt hnf]; exact a4
        · rcases Nat.lt_or_ge b (st p).2.next with hb | hb
          · obtain ⟨B2, hB2, _⟩ := hsim.back b B' hB hb
            obtain ⟨q2, hq2, _⟩ := hl.sim.rel.blk b B2 hB2
            have := hsim.ext _ _ hq2
            rw [this] at hq'; simp at hq'; subst hq'
            exact a7 b B2 _ hB2 hq2
          · intro e
            rcases hsim.foot q'.cb ⟨b, B', q', hB, hsim.fresh b B' hB hb, hq', rfl⟩ with hf | hf
            · rw [e] at hf; exact hnf hf
            · omega
      · intro q1 j1 q2 j2 pl pl' hj1 hj2 hne h1 h2 hp1 hp2
        have back : ∀ (q : Nat) (j : It) pl, its[q]? = some j → φ' (base + j.idx) = some pl → φ (base + j.idx) = some pl := by
          intro q j pl hj hp1
          cases hφ : φ (base + j.idx) with
          | none =>
            have hjlt := hidx j (List.mem_of_getElem? hj)
            have := hsim.old _ hφ (by have := hl.room; omega)
            rw [this] at hp1; simp at hp1
          | some pl2 =>
            have := hsim.ext _ _ hφ
            rw [this] at hp1; exact hp1
        exact hl.dist q1 j1 q2 j2 pl pl' hj1 hj2 hne (by omega) (by omega) (back q1 j1 pl hj1 hp1) (back q2 j2 pl' hj2 hp2)
      · intro q j hj hjh hs
        have hjlt := hidx j (List.mem_of_getElem? hj)
        exact hsim.old _ (pool' q j hj hjh hs) (by have := hl.room; omega))
    split
    · rename_i hw; rw [if_pos hw] at key; exact .inl key
    · rename_i hw; rw [if_neg hw] at key; exact key
end
end Go.Abs
