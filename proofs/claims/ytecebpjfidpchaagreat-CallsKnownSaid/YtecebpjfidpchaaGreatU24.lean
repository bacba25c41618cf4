/- PART of the proof of CallsKnown: The program's methods, and the table of functions. No condition. -/
import Derived.Test.YtecebpjfidpchaaGreatU23
/-! The program's methods, and the table of functions. -/
namespace Go.Abs

def lookM : List ((TypeId × String) × Mt) → MT
  | [], _, _ => none
  | p :: l, t, n => if p.1.1 = t ∧ p.1.2 = n then some p.2 else lookM l t n

theorem lookM_ok {P : Program} : ∀ {l : List ((TypeId × String) × Mt)}, (∀ p ∈ l, MtOk P p.1.1 p.1.2 p.2) → MOk P (lookM l)
  | [], _ => by intro t n f h; simp [lookM] at h
  | p :: l, hl => by
    intro t n f h
    simp only [lookM] at h
    split at h
    · rename_i e
      obtain ⟨rfl, rfl⟩ := e
      simp at h; subst h
      exact hl p (by simp)
    · exact lookM_ok (fun q hq => hl q (by simp [hq])) t n f h
/-- A method of the interface that stands first in a struct. -/
theorem emb_ok {P : Program} {t ft : TypeId} {name : String} (h1 : sizeOfT P ft = some 1) (h2 : aggT P ft = some false)
    (h3 : ∀ a w, (method (P.types.size + Made.depth) t (.pointer (some a)) name).run P w = ((loadVar ft a) >>= fun x => match x with
      | .iface t' v' => method (P.types.size + Made.depth - 1) t' v' name
      | .nilIface => runtimePanic .nilDeref
      | _ => stuck "method row: interface value expected").run P w) : MtOk P t name .emb :=
  ⟨ft, h1, h2, fun a w t' v' h => by rw [h3, Sem.run_bind, h]; rfl⟩

def treeOf (l : List (Nat × FnI)) : T FnI := l.foldl (fun t p => t.put p.1 (some p.2)) .e

theorem tree_mem : ∀ (l : List (Nat × FnI)) (t : T FnI) (f : Nat) (fi : FnI), (l.foldl (fun t p => t.put p.1 (some p.2)) t).get f = some fi → t.get f = some fi ∨ (f, fi) ∈ l
  | [], t, f, fi, h => .inl h
  | (k, x) :: l, t, f, fi, h => by
    rcases tree_mem l _ f fi h with h1 | h1
    · rw [T.get_put] at h1
      split at h1
      · rename_i e
        simp at e h1
        rw [← e, ← h1]
        exact .inr (by simp)
      · exact .inl h1
    · exact .inr (by simp [h1])

/-- The table is the program's, function by function. -/
theorem tbl_ok {P : Program} {gl : List Nat} {l : List (Nat × FnI)} {t : T FnI} (ht : treeOf l = t) (h : ∀ p ∈ l, ∃ fn, P.funcs[p.1]? = some fn ∧ compF P gl fn = some p.2.plain) : TblOk P gl t.get := by
  intro f fi hf
  rw [← ht] at hf
  rcases tree_mem l _ f fi hf with h1 | h1
  · simp [T.get] at h1
  · exact h _ h1
theorem tbl_get {l : List (Nat × FnI)} {t : T FnI} (ht : treeOf l = t) {f : Nat} {fi : FnI} (hf : t.get f = some fi) : (f, fi) ∈ l := by
  rw [← ht] at hf
  rcases tree_mem l _ f fi hf with h1 | h1
  · simp [T.get] at h1
  · exact h1
theorem all_nil {α : Type} {p : α → Prop} : ∀ x ∈ ([] : List α), p x := by simp
theorem all_cons {α : Type} {p : α → Prop} {a : α} {l : List α} (h : p a) (t : ∀ x ∈ l, p x) : ∀ x ∈ a :: l, p x := by
  intro x hx
  rcases List.mem_cons.1 hx with rfl | hx
  · exact h
  · exact t x hx
end Go.Abs
