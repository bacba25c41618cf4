/- PART of the proof of CallsKnown: Operations that make a block. No condition. -/
import Derived.Test.YtecebpjfidpchaaGreatU6
import Derived.IntWalk
/-! Operations that make a block. -/
namespace Go.Abs

def compA (P : Program) (gl : List Nat) : Go.Op → Option XA
  | .alloc t => (zeroOf P t).map fun z => .alloc z.cells
  | .box _ x => (compO gl x).map .box
  | .buildSlice t len parts => match P.underlying t with
    | some (.slice e) => match sizeOfT P e, zeroOf P e with
      | some (n + 1), some z => if z.cells.length = n + 1 then (pairsO gl (fun i => some (i * (n + 1), n + 1)) parts.toList).map (.buildS len (n + 1) z.cells) else none
      | _, _ => none
    | _ => none
  | .makeSlice t l c => match P.underlying t with
    | some (.slice e) => match P.info? e, zeroOf P e with
      | some i, some z => if z.cells.length = i.size ∧ 0 < i.size then comp2 gl l c (.mkSlice i.size i.bytes z.cells) else none
      | _, _ => none
    | _ => none
  | .makeMap _ none => some .mkMap
  | _ => none

/-- What is to be shown of an operation that makes a block. -/
def Makes (P : Program) (φ : F) (ρ' : Operand → Value) (o : Oper) (B : Blk) (mk : Nat → V) : Prop :=
  B.ro = false ∧ ∀ w : World, ∃ v' obj n, (execOp ρ' o).run P w = .ok (.value v') { w with heap := w.heap.push obj } ∧
    (∀ (w' : World) k (ψ : F), φ.le ψ → w'.heap[k]? = some obj → BRel ψ w' ⟨k, 0, n⟩ B ∧ Sized w' ⟨k, 0, n⟩) ∧
    ∀ (ψ : F) id, ψ id = some ⟨w.heap.size, 0, n⟩ → VRel ψ (mk id) v'

theorem row_obj {φ : F} {l : List V} {l' : List Value} (hl : VRels φ l l') (t : TypeId) (w' : World) (k : Nat) (ψ : F) (h : φ.le ψ) (e : w'.heap[k]? = some (.cells ⟨l'⟩ t (0, 0))) :
    BRel ψ w' ⟨k, 0, l'.length⟩ (blkOf l) ∧ Sized w' ⟨k, 0, l'.length⟩ :=
  ⟨by have := BRel.row (hl.mono h) t false [] (k := k) (w' := w') (by simpa using e); simpa [blkOf] using this, .inl ⟨_, _, e, by simp⟩⟩

theorem repl_get {zs : List V} : ∀ (n i : Nat), i < n * zs.length → (repl zs n)[i]? = zs[i % zs.length]? := by
  intro n
  induction n with
  | zero => intro i h; simp at h
  | succ n ih =>
    intro i h
    simp only [repl]
    by_cases hi : i < zs.length
    · rw [List.getElem?_append_left hi, Nat.mod_eq_of_lt hi]
    · rw [List.getElem?_append_right (by omega), ih _ (by rw [Nat.succ_mul] at h; omega)]
      congr 1
      exact (Nat.mod_eq_sub_mod (by omega)).symm
theorem repl_length (zs : List V) (n : Nat) : (repl zs n).length = n * zs.length := by
  induction n with
  | zero => simp [repl]
  | succ n ih => simp [repl, ih, Nat.succ_mul, Nat.add_comm]

theorem repl_rel {φ : F} {zs : List V} {zs' : List Value} (hz : VRels φ zs zs') (n : Nat) :
    VRels φ (repl zs n) ((Array.range (n * zs'.length)).map (fun i => (⟨zs'⟩ : Array Value)[i % zs'.length]!)).toList := by
  have hl := hz.length
  refine VRels.ofGet (by simp [repl_length, hl]) fun i v hi => ?_
  have hlt : i < n * zs.length := by
    have := (List.getElem?_eq_some_iff.1 hi).1
    rwa [repl_length] at this
  rw [repl_get n i hlt] at hi
  obtain ⟨v', e, r⟩ := hz.get _ _ hi
  rw [hl] at e hlt
  exact ⟨v', by simp; exact ⟨i, List.getElem?_range hlt, by simp [e]⟩, r⟩

theorem ofValue_cells {φ : F} {P : Program} {t : TypeId} {z : V} (h : zeroOf P t = some z) (w : World) : ∃ z', (zeroValue t).run P w = .ok z' w ∧ VRels φ z.cells z'.cells.toList := by
  obtain ⟨z', a, b⟩ := run_zeroOf h φ w
  have hk : z.known = true := by
    unfold zeroOf at h
    obtain ⟨v', _, hz⟩ := Option.bind_eq_some_iff.1 h
    unfold ofValue at hz
    split at hz
    · obtain ⟨l, _, rfl⟩ := map_some' hz; rfl
    · unfold ofCell at hz
      split at hz <;> simp at hz <;> subst hz <;> rfl
  exact ⟨z', a, b.cells hk⟩

section
variable {P : Program} {gl : List Nat} {φ : F} {ρ : Opd → V} {ρ' : Operand → Value}

theorem wrap_small {n : Int} (h0 : 0 ≤ n) (h1 : n < 4611686018427387904) : IntKind.i64.wrap n = n := IntWalk.i64_in n (by omega)
theorem range0 : Array.range 0 = #[] := rfl

theorem make_sound (he : Env φ gl ρ ρ') {o : Oper} {x : XA} (hc : compA P gl o.op = some x) {B : Blk} {mk : Nat → V} (hs : stepA ρ x = some (B, mk)) : Makes P φ ρ' o B mk := by
  cases ho : o.op <;> rw [ho] at hc <;> simp only [compA] at hc <;> try (simp at hc; done)
  case alloc t =>
    obtain ⟨z, hz, rfl⟩ := map_some' hc
    simp [stepA] at hs
    obtain ⟨rfl, rfl⟩ := hs
    refine ⟨rfl, fun w => ?_⟩
    obtain ⟨z', a, b⟩ := ofValue_cells (φ := φ) hz w
    refine ⟨.pointer (some ⟨w.heap.size, 0, none⟩), .cells z'.cells t, z'.cells.toList.length, ?_, fun w' k ψ hψ e => row_obj b t w' k ψ hψ (by simpa using e), fun ψ id e => ?_⟩
    · simp [execOp, ho, Instr.alloc, a, newVar, newRow]
    · have := VRel.ptr (φ := ψ) id 0 _ e; simpa using this
  case box t q =>
    obtain ⟨a, ha, rfl⟩ := map_some' hc
    simp [stepA] at hs
    obtain ⟨hk, rfl, rfl⟩ := hs
    refine ⟨rfl, fun w => ?_⟩
    have b := (he _ _ ha).cells hk
    refine ⟨.pointer (some ⟨w.heap.size, 0, none⟩), .cells (ρ' q).cells t, (ρ' q).cells.toList.length, ?_, fun w' k ψ hψ e => row_obj b t w' k ψ hψ (by simpa using e), fun ψ id e => ?_⟩
    · simp [execOp, ho, Instr.box, newVar, newRow]
    · have := VRel.ptr (φ := ψ) id 0 _ e; simpa using this
  case buildSlice t len parts =>
    split at hc
    · rename_i e ht
      split at hc
      · rename_i n z hn hz
        split at hc
        · rename_i hlen
          obtain ⟨l, hl, rfl⟩ := map_some' hc
          simp only [stepA] at hs
          split at hs
          · rename_i hsz
            obtain ⟨cs, hcs, hh⟩ := map_some' hs
            simp at hh
            obtain ⟨rfl, rfl⟩ := hh
            refine ⟨rfl, fun w => ?_⟩
            obtain ⟨z', hz', hzr⟩ := ofValue_cells (φ := φ) hz w
            have hzl := hzr.length
            rw [hlen] at hzl
            by_cases hl0 : len * (n + 1) = 0
            · have hl00 : len = 0 := by
                rcases Nat.mul_eq_zero.1 hl0 with h | h
                · exact h
                · omega
              subst hl00
              have base : VRels φ (repl z.cells 0) ([] : List Value) := .nil
              obtain ⟨r', h1, h2⟩ := fill_rel he (fun i => some (i * (n + 1), n + 1)) hl base hcs
              refine ⟨.slice (some ⟨w.heap.size, 0, none⟩) 0 0, .cells ⟨r'⟩ e, r'.length, ?_, fun w' k ψ hψ e2 => row_obj h2 e w' k ψ hψ e2, fun ψ id e2 => .sliceE _ _ _ _⟩
              have hf : Instr.fill (fun i => some (i * (n + 1), n + 1)) ⟨[]⟩ (parts.map fun p => (p.1, ρ' p.2)).toList = some ⟨r'⟩ := by simpa using h1
              simp at hf
              simp [execOp, ho, Instr.buildSlice, run_underlying ht, run_sizeOfT hn, hf, newRow, range0]
            · have base := repl_rel hzr len
              obtain ⟨r', h1, h2⟩ := fill_rel he (fun i => some (i * (n + 1), n + 1)) hl base hcs
              have hr' : r'.length = len * (n + 1) := by
                rw [← h2.length]
                have : ∀ (ps : List (Nat × Nat × V)) (c r : List V), fillL c ps = some r → r.length = c.length := by
                  intro ps
                  induction ps with
                  | nil => intro c r h; simp [fillL] at h; rw [h]
                  | cons p ps ih =>
                    intro c r h
                    obtain ⟨a, b, v⟩ := p
                    simp only [fillL] at h
                    split at h
                    · simp at h
                    · rw [ih _ _ h]
                      have : ∀ (vs : List V) (c : List V) (i : Nat), (setAll c i vs).length = c.length := by
                        intro vs
                        induction vs with
                        | nil => intro c i; rfl
                        | cons u vs ih => intro c i; simp [setAll, ih]
                      exact this _ _ _
                rw [this _ _ _ hcs, repl_length, hlen]
              refine ⟨.slice (some ⟨w.heap.size, 0, none⟩) len len, .cells ⟨r'⟩ e, r'.length, ?_, fun w' k ψ hψ e2 => row_obj h2 e w' k ψ hψ e2, fun ψ id e2 => ?_⟩
              · have hf : Instr.fill (fun i => some (i * (n + 1), n + 1)) ((Array.range (len * (n + 1))).map (fun i => z'.cells[i % (n + 1)]!)) (parts.map fun p => (p.1, ρ' p.2)).toList = some ⟨r'⟩ := by
                  have e1 : z'.cells.toList.length = n + 1 := hzl.symm
                  rw [e1] at h1
                  rw [Array.toList_map]
                  exact h1
                have e1 : z'.cells.size = n + 1 := by simpa using hzl.symm
                have h24 : ¬ (len * (n + 1) > 2 ^ 24) := by omega
                simp at hf
                simp [execOp, ho, Instr.buildSlice, run_underlying ht, run_sizeOfT hn, hz', newRow, e1, hl0, hf, h24]
              · have := VRel.slice (φ := ψ) id 0 len len (n + 1) len _ e2 (Nat.le_refl _) (Nat.le_refl _) (by simp [hr'])
                simpa using this
          · simp at hs
        · simp at hc
      · simp at hc
    · simp at hc
  case makeSlice t l c =>
    split at hc
    · rename_i e ht
      split at hc
      · rename_i i z hi hz
        split at hc
        · rename_i hlen
          obtain ⟨hlen, hpos⟩ := hlen
          obtain ⟨a1, b1, ha, hb, rfl⟩ := comp2_eq hc
          have hva := he _ _ ha
          have hvb := he _ _ hb
          simp only [stepA] at hs
          split at hs
          · rename_i a b e1 e2
            rw [e1] at hva; rw [e2] at hvb
            split at hs
            · rename_i hcond
              obtain ⟨c1, c2, c3, c4⟩ := hcond
              simp at hs
              obtain ⟨rfl, rfl⟩ := hs
              refine ⟨rfl, fun w => ?_⟩
              obtain ⟨z', hz', hzr⟩ := ofValue_cells (φ := φ) hz w
              have hzl := hzr.length
              rw [hlen] at hzl
              have wa := wrap_small c1 (by omega)
              have wb := wrap_small (n := b) (by omega) (by omega)
              obtain ⟨bn, rfl⟩ := Int.eq_ofNat_of_zero_le (show 0 ≤ b by omega)
              obtain ⟨an, rfl⟩ := Int.eq_ofNat_of_zero_le c1
              have base := repl_rel hzr bn
              have e1' : z'.cells.toList.length = i.size := hzl.symm
              have e1'' : z'.cells.size = i.size := by simpa using hzl.symm
              rw [e1'] at base
              have hsz : (sizeOf e).run P w = .ok i.size w := by simp [sizeOf, typeInfo, hi]
              have hti : (typeInfo e).run P w = .ok i w := by simp [typeInfo, hi]
              have hbig : ¬ ((i.bytes : Int) * (bn : Int) > 2 ^ 48) := by
                have : i.bytes * bn ≤ 1024 * 1048576 := Nat.mul_le_mul c4 (by omega)
                have : ((i.bytes * bn : Nat) : Int) ≤ 1024 * 1048576 := by omega
                rw [Int.natCast_mul] at this
                omega
              have hbig2 : ¬ ((i.bytes : Int) * (bn : Int) > 281474976710656) := by omega
              refine ⟨.slice (some ⟨w.heap.size, 0, none⟩) an bn, .cells ((Array.range (bn * i.size)).map (fun j => z'.cells[j % i.size]!)) e, bn * i.size, ?_, fun w' k ψ hψ e2 => ?_, fun ψ id e2 => ?_⟩
              · by_cases hb0 : bn = 0
                · subst hb0
                  have an0 : an = 0 := by omega
                  subst an0
                  have w0 : IntKind.i64.wrap 0 = 0 := by decide
                  simp [execOp, ho, Instr.makeSlice, run_underlying ht, hva.int_inv, hvb.int_inv, asInt, asIntOf, hti, hsz, w0, newRow, range0]
                · have hn0 : ¬ (bn * i.size = 0) := by
                    intro h
                    rcases Nat.mul_eq_zero.1 h with h | h <;> omega
                  have hnl' : ¬ (bn < an) := by omega
                  have hg1 : ¬ ((bn : Int) < 0) := by omega
                  have hg2 : ¬ ((an : Int) < 0) := by omega
                  simp [execOp, ho, Instr.makeSlice, run_underlying ht, hva.int_inv, hvb.int_inv, asInt, asIntOf, hti, hsz, wa, wb, newRow, hz', e1'', hn0, hbig2, hnl', hg1, hg2]
              · have := row_obj base e w' k ψ hψ e2
                simpa using this
              · have := VRel.slice (φ := ψ) id 0 an bn i.size bn _ e2 (by omega) (Nat.le_refl _) (by simp)
                simpa using this
            · simp at hs
          · simp at hs
        · simp at hc
      · simp at hc
    · simp at hc
  case makeMap t r =>
    cases r with
    | some r => simp at hc
    | none =>
      simp at hc; subst hc
      simp [stepA] at hs
      obtain ⟨rfl, rfl⟩ := hs
      refine ⟨rfl, fun w => ?_⟩
      refine ⟨.map (some w.heap.size), .map #[] 0, 0, ?_, fun w' k ψ hψ e => ⟨⟨rfl, #[], 0, e, ?_⟩, .inr ⟨_, _, e⟩⟩, fun ψ id e => ?_⟩
      · simp [execOp, ho, Instr.makeMap]
      · exact ⟨rfl, by simp, by simp, by simp, by simp, by simp⟩
      · exact .map id _ e
end
end Go.Abs
