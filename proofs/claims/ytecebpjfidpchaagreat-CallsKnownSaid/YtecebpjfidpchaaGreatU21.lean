/- PART of the proof of CallsKnown: The evaluator again, for Lean's kernel: every piece of data is forced before it is handed on. No condition. -/
import Derived.Test.YtecebpjfidpchaaGreatU20
/-! The evaluator again, for Lean's kernel: every piece of data is forced before it is handed on. -/
namespace Go.Abs
set_option linter.unusedVariables false

section
variable {α β : Type}

noncomputable def fget (t : T α) : Nat → Option α :=
  @T.rec α (fun _ => Nat → Option α) (fun _ => none)
    (fun _ v _ ihl ihr i => @Bool.rec (fun _ => Option α) (@Bool.rec (fun _ => Option α) (ihr (Nat.sub (Nat.div i 2) 1)) (ihl (Nat.div i 2)) (Nat.beq (Nat.mod i 2) 1)) v (Nat.beq i 0)) t
theorem fget_eq (t : T α) : ∀ i, fget t i = t.get i := by
  induction t with
  | e => intro i; rfl
  | n l v r ihl ihr =>
    intro i
    show @Bool.rec (fun _ => Option α) (@Bool.rec (fun _ => Option α) (fget r (i / 2 - 1)) (fget l (i / 2)) (Nat.beq (i % 2) 1)) v (Nat.beq i 0) = _
    rw [ihl, ihr]
    simp only [T.get]
    by_cases h0 : i = 0
    · subst h0; rfl
    · have : Nat.beq i 0 = false := by cases hb : Nat.beq i 0 with | false => rfl | true => exact absurd (Nat.eq_of_beq_eq_true hb) h0
      rw [this, if_neg h0]
      by_cases h1 : i % 2 = 1
      · rw [if_pos h1, h1]; rfl
      · have : Nat.beq (i % 2) 1 = false := by cases hb : Nat.beq (i % 2) 1 with | false => rfl | true => exact absurd (Nat.eq_of_beq_eq_true hb) h1
        rw [this, if_neg h1]

/-- A number, forced. -/
noncomputable def fN (n : Nat) (k : Nat → β) : β := @Nat.rec (fun _ => β) (k 0) (fun m _ => k (Nat.succ m)) n
theorem fN_eq (n : Nat) (k : Nat → β) : fN n k = k n := by cases n <;> rfl
noncomputable def fB (b : Bool) (k : Bool → β) : β := @Bool.rec (fun _ => β) (k false) (k true) b
theorem fB_eq (b : Bool) (k : Bool → β) : fB b k = k b := by cases b <;> rfl
noncomputable def fI (i : Int) (k : Int → β) : β := @Int.rec (fun _ => β) (fun n => fN n fun n => k (.ofNat n)) (fun n => fN n fun n => k (.negSucc n)) i
theorem fI_eq (i : Int) (k : Int → β) : fI i k = k i := by cases i <;> simp [fI, fN_eq]
noncomputable def fLs (f : α → (α → β) → β) (l : List α) : (List α → β) → β :=
  @List.rec α (fun _ => (List α → β) → β) (fun k => k []) (fun a _ ih k => f a fun a => ih fun r => k (a :: r)) l
theorem fLs_eq {f : α → (α → β) → β} (hf : ∀ a k, f a k = k a) (l : List α) : ∀ k : List α → β, fLs f l k = k l := by
  induction l with
  | nil => intro k; rfl
  | cons a l ih =>
    intro k
    show f a (fun a => fLs f l fun r => k (a :: r)) = k (a :: l)
    rw [hf, ih]

/-- If so: go on. -/
noncomputable def fIf (b : Bool) (x : Bool) : Bool := @Bool.rec (fun _ => Bool) false x b
theorem fIf_true {b x : Bool} (h : fIf b x = true) : b = true ∧ x = true := by cases b <;> simp_all [fIf]

noncomputable def fsing (x : Option α) (f : Nat) : Nat → (T α → β) → β :=
  @Nat.rec (fun _ => Nat → (T α → β) → β) (fun _ k => k .e)
    (fun _ ih i k => @Bool.rec (fun _ => β) (@Bool.rec (fun _ => β) (ih (Nat.sub (Nat.div i 2) 1) fun r => k (.n .e none r)) (ih (Nat.div i 2) fun l => k (.n l none .e)) (Nat.beq (Nat.mod i 2) 1)) (k (.n .e x .e)) (Nat.beq i 0)) f
theorem fsing_eq (x : Option α) : ∀ (f i : Nat) (k : T α → β), fsing x f i k = k (T.sing f i x) := by
  intro f
  induction f with
  | zero => intro i k; rfl
  | succ f ih =>
    intro i k
    show @Bool.rec (fun _ => β) (@Bool.rec (fun _ => β) (fsing x f (i / 2 - 1) fun r => k (.n .e none r)) (fsing x f (i / 2) fun l => k (.n l none .e)) (Nat.beq (i % 2) 1)) (k (.n .e x .e)) (Nat.beq i 0) = _
    rw [ih, ih]
    simp only [T.sing]
    by_cases h0 : i = 0
    · subst h0; rfl
    · have : Nat.beq i 0 = false := by cases hb : Nat.beq i 0 with | false => rfl | true => exact absurd (Nat.eq_of_beq_eq_true hb) h0
      rw [this, if_neg h0]
      by_cases h1 : i % 2 = 1
      · rw [if_pos h1, h1]; rfl
      · have : Nat.beq (i % 2) 1 = false := by cases hb : Nat.beq (i % 2) 1 with | false => rfl | true => exact absurd (Nat.eq_of_beq_eq_true hb) h1
        rw [this, if_neg h1]

noncomputable def fput (x : Option α) (t : T α) : Nat → (T α → β) → β :=
  @T.rec α (fun _ => Nat → (T α → β) → β) (fun i k => fsing x (Nat.succ i) i k)
    (fun l v r ihl ihr i k => @Bool.rec (fun _ => β) (@Bool.rec (fun _ => β) (ihr (Nat.sub (Nat.div i 2) 1) fun r => k (.n l v r)) (ihl (Nat.div i 2) fun l => k (.n l v r)) (Nat.beq (Nat.mod i 2) 1)) (k (.n l x r)) (Nat.beq i 0)) t
theorem fput_eq (x : Option α) (t : T α) : ∀ (i : Nat) (k : T α → β), fput x t i k = k (t.put i x) := by
  induction t with
  | e => intro i k; show fsing x (i + 1) i k = _; rw [fsing_eq]; rfl
  | n l v r ihl ihr =>
    intro i k
    show @Bool.rec (fun _ => β) (@Bool.rec (fun _ => β) (fput x r (i / 2 - 1) fun r => k (.n l v r)) (fput x l (i / 2) fun l => k (.n l v r)) (Nat.beq (i % 2) 1)) (k (.n l x r)) (Nat.beq i 0) = _
    rw [ihl, ihr]
    simp only [T.put]
    by_cases h0 : i = 0
    · subst h0; rfl
    · have : Nat.beq i 0 = false := by cases hb : Nat.beq i 0 with | false => rfl | true => exact absurd (Nat.eq_of_beq_eq_true hb) h0
      rw [this, if_neg h0]
      by_cases h1 : i % 2 = 1
      · rw [if_pos h1, h1]; rfl
      · have : Nat.beq (i % 2) 1 = false := by cases hb : Nat.beq (i % 2) 1 with | false => rfl | true => exact absurd (Nat.eq_of_beq_eq_true hb) h1
        rw [this, if_neg h1]

noncomputable def fofList (l : List α) : T α → Nat → (T α → β) → β :=
  @List.rec α (fun _ => T α → Nat → (T α → β) → β) (fun t _ k => k t) (fun a _ ih t i k => fput (some a) t i fun t => ih t (Nat.succ i) k) l
theorem fofList_eq (l : List α) : ∀ (t : T α) (i : Nat) (k : T α → β), fofList l t i k = k (T.ofList t i l) := by
  induction l with
  | nil => intro t i k; rfl
  | cons a l ih =>
    intro t i k
    show fput (some a) t i (fun t => fofList l t (i + 1) k) = _
    rw [fput_eq, ih]; rfl
end

section
variable {β : Type}
/-- A value, forced so deep. -/
noncomputable def fV (n : Nat) : V → (V → β) → β :=
  @Nat.rec (fun _ => V → (V → β) → β) (fun v k => k v) (fun _ ih v k => match v with
    | .undef => k .undef
    | .bool b => fB b fun b => k (.bool b)
    | .int d i => fI i fun i => k (.int d i)
    | .str s => k (.str s)
    | .ptr b o => fN b fun b => fN o fun o => k (.ptr b o)
    | .nil => k .nil
    | .slice b o l c z => fN b fun b => fN o fun o => fN l fun l => fN c fun c => fN z fun z => k (.slice b o l c z)
    | .snil => k .snil
    | .map r => fN r fun r => k (.map r)
    | .mnil => k .mnil
    | .fn f a c => fLs ih a fun a => fLs ih c fun c => k (.fn f a c)
    | .fnil => k .fnil
    | .iface t v => ih v fun v => k (.iface t v)
    | .inil => k .inil
    | .agg l => fLs ih l fun l => k (.agg l)
    | .tup l => fLs ih l fun l => k (.tup l)
    | .sym d s => k (.sym d s)
    | .any => k .any) n
theorem fV_eq : ∀ (n : Nat) (v : V) (k : V → β), fV n v k = k v := by
  intro n
  induction n with
  | zero => intro v k; rfl
  | succ n ih =>
    intro v k
    have e : ∀ l k, fLs (fV (β := β) n) l k = k l := fun l k => fLs_eq ih l k
    cases v with
    | bool b => show fB b (fun b => k (.bool b)) = _; rw [fB_eq]
    | int d i => show fI i (fun i => k (.int d i)) = _; rw [fI_eq]
    | ptr b o => show fN b (fun b => fN o fun o => k (.ptr b o)) = _; simp only [fN_eq]
    | slice b o l c z => show fN b (fun b => fN o fun o => fN l fun l => fN c fun c => fN z fun z => k (.slice b o l c z)) = _; simp only [fN_eq]
    | map r => show fN r (fun r => k (.map r)) = _; simp only [fN_eq]
    | fn f a c => show fLs (fV n) a (fun a => fLs (fV n) c fun c => k (.fn f a c)) = _; simp only [e]
    | iface t v => show fV n v (fun v => k (.iface t v)) = _; rw [ih]
    | agg l => show fLs (fV n) l (fun l => k (.agg l)) = _; rw [e]
    | tup l => show fLs (fV n) l (fun l => k (.tup l)) = _; rw [e]
    | _ => rfl
end

noncomputable def fev (t : T V) : Opd → V
  | .t i => @Option.rec V (fun _ => V) .any (fun v => v) (fget t i)
  | .c v => v
theorem fev_eq (t : T V) : fev t = ev t := by
  funext q
  cases q with
  | t i => simp only [fev, ev, fget_eq]; cases t.get i <;> rfl
  | c v => rfl

noncomputable def fputd (t : T V) (d : Option Nat) (v : V) (k : T V → Bool) : Bool :=
  @Option.rec Nat (fun _ => Bool) (k t) (fun d => fput (some v) t d k) d
theorem fputd_eq (t : T V) (d : Option Nat) (v : V) (k : T V → Bool) : fputd t d v k = k (putd t d v) := by
  cases d with
  | none => rfl
  | some d => exact fput_eq _ _ _ _

noncomputable def fwant (t : T V) : Option (Nat × Bool) → Bool
  | none => true
  | some (j, b) => match fev t (.t j) with | .bool c => c == b | _ => false
theorem fwant_eq (t : T V) (g : Option (Nat × Bool)) : fwant t g = wantedV t g := by
  cases g with
  | none => rfl
  | some p => obtain ⟨j, b⟩ := p; simp only [fwant, wantedV, fev_eq]; rfl

/-! ### Memory -/
noncomputable def fset (σ : H) (b : Nat) (B : Blk) (k : H → Bool) : Bool := fput (some B) σ.t b fun t => k ⟨t, σ.next⟩
theorem fset_eq (σ : H) (b : Nat) (B : Blk) (k : H → Bool) : fset σ b B k = k (σ.set b B) := fput_eq _ _ _ _
noncomputable def fnew (σ : H) (B : Blk) (k : H → Bool) : Bool := fput (some B) σ.t σ.next fun t => fN (Nat.succ σ.next) fun n => k ⟨t, n⟩
theorem fnew_eq (σ : H) (B : Blk) (k : H → Bool) : fnew σ B k = k (σ.new B) := by simp only [fnew, fput_eq, fN_eq]; rfl
noncomputable def fkill (σ : H) (b : Nat) (k : H → Bool) : Bool := fput none σ.t b fun t => k ⟨t, σ.next⟩
theorem fkill_eq (σ : H) (b : Nat) (k : H → Bool) : fkill σ b k = k (σ.kill b) := fput_eq _ _ _ _

noncomputable def fcells (v : V) (k : List V → Bool) : Bool := match v with | .agg cs => k cs | v => k [v]
theorem fcells_eq (v : V) (k : List V → Bool) : fcells v k = k v.cells := by cases v <;> rfl

noncomputable def flen (l : List V) (k : Nat → Bool) : Bool := @List.rec V (fun _ => (Nat → Bool) → Bool) (fun k => k 0) (fun _ _ ih k => ih fun n => k (Nat.succ n)) l k
theorem flen_eq (l : List V) : ∀ k : Nat → Bool, flen l k = k l.length := by
  induction l with
  | nil => intro k; rfl
  | cons a l ih => intro k; exact ih _
noncomputable def fblk (cs : List V) (k : Blk → Bool) : Bool := fLs (fV 3) cs fun cs => flen cs fun n => fofList cs .e 0 fun c => k (.cells false n c)
theorem fblk_eq (cs : List V) (k : Blk → Bool) : fblk cs k = k (blkOf cs) := by
  simp only [fblk]
  rw [fLs_eq (fV_eq 3)]
  simp only [flen_eq, fofList_eq]; rfl

noncomputable def ftake (c : T V) (n : Nat) : Nat → (List V → Bool) → Bool :=
  @Nat.rec (fun _ => Nat → (List V → Bool) → Bool) (fun _ k => k []) (fun _ ih i k => @Option.rec V (fun _ => Bool) (ih (Nat.succ i) fun r => k (.undef :: r)) (fun v => ih (Nat.succ i) fun r => k (v :: r)) (fget c i)) n
theorem ftake_eq (c : T V) : ∀ (n i : Nat) (k : List V → Bool), ftake c n i k = k (takeCells c i n) := by
  intro n
  induction n with
  | zero => intro i k; rfl
  | succ n ih =>
    intro i k
    show @Option.rec V (fun _ => Bool) (ftake c n (i + 1) fun r => k (.undef :: r)) (fun v => ftake c n (i + 1) fun r => k (v :: r)) (fget c i) = _
    rw [fget_eq]
    simp only [takeCells, cellD, ih]
    cases c.get i <;> rfl

noncomputable def floadN (σ : H) (b o n : Nat) (k : List V → Bool) : Bool :=
  match fget σ.t b with
  | some (.cells _ m c) => fIf (Nat.ble (Nat.add o n) m) (fN o fun o => fN n fun n => ftake c n o k)
  | _ => false
theorem floadN_true {σ : H} {b o n : Nat} {k : List V → Bool} (h : floadN σ b o n k = true) : ∃ l, σ.loadN b o n = some l ∧ k l = true := by
  unfold floadN at h
  rw [fget_eq] at h
  split at h
  · rename_i r m c hb
    obtain ⟨h1, h2⟩ := fIf_true h
    simp only [fN_eq, ftake_eq] at h2
    refine ⟨takeCells c o n, ?_, h2⟩
    have : o + n ≤ m := Nat.le_of_ble_eq_true h1
    simp [H.loadN, H.get, hb, this]
  · simp at h

noncomputable def floadV (σ : H) (n : Nat) (agg : Bool) (a : V) (k : V → Bool) : Bool :=
  match a with
  | .ptr b o => floadN σ b o n fun cs => @Bool.rec (fun _ => Bool) (match cs with | v :: _ => k v | [] => false) (k (.agg cs)) agg
  | _ => false
theorem floadV_true {σ : H} {n : Nat} {agg : Bool} {a : V} {k : V → Bool} (h : floadV σ n agg a k = true) : ∃ v, loadV σ n agg a = some v ∧ k v = true := by
  unfold floadV at h
  split at h
  · rename_i b o
    obtain ⟨l, h1, h2⟩ := floadN_true h
    cases agg with
    | true => exact ⟨.agg l, by simp [loadV, h1], h2⟩
    | false =>
      cases l with
      | nil => simp at h2
      | cons v r => exact ⟨v, by simp [loadV, h1], h2⟩
  · simp at h

noncomputable def fall (p : V → Bool) (l : List V) : Bool := @List.rec V (fun _ => Bool) true (fun a _ ih => @Bool.rec (fun _ => Bool) false ih (p a)) l
theorem fall_eq (p : V → Bool) (l : List V) : fall p l = l.all p := by
  induction l with
  | nil => rfl
  | cons a l ih =>
    show @Bool.rec (fun _ => Bool) false (fall p l) (p a) = _
    rw [ih]
    cases h : p a <;> simp [h]

noncomputable def fstoreN (σ : H) (b o : Nat) (vs : List V) (k : H → Bool) : Bool :=
  match fget σ.t b with
  | some (.cells ro m c) => flen vs fun n => fIf (!ro) (fIf (Nat.ble (Nat.add o n) m) (fIf (fall V.cell vs) (fN o fun o => fofList vs c o fun c => fset σ b (.cells false m c) k)))
  | _ => false
theorem fstoreN_true {σ : H} {b o : Nat} {vs : List V} {k : H → Bool} (h : fstoreN σ b o vs k = true) : ∃ σ', σ.storeN b o vs = some σ' ∧ k σ' = true := by
  unfold fstoreN at h
  rw [fget_eq] at h
  split at h
  · rename_i r m c hb
    rw [flen_eq] at h
    obtain ⟨h0, h3⟩ := fIf_true h
    obtain ⟨h1, h4⟩ := fIf_true h3
    obtain ⟨h2, h5⟩ := fIf_true h4
    rw [fall_eq] at h2
    simp only [fN_eq, fofList_eq, fset_eq] at h5
    have hr : r = false := by simpa using h0
    subst hr
    have h1 : o + vs.length ≤ m := Nat.le_of_ble_eq_true h1
    refine ⟨_, ?_, h5⟩
    simp only [H.storeN, H.get, hb]
    rw [if_pos ⟨h1, h2⟩]
  · simp at h
end Go.Abs
