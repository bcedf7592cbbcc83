/-
  REGIONS WHOSE ORDER IS OPEN: every order does what the order of the text does. Own work; generic over the program.
-/
import Derived.Test.YtnkefikpejjjcaaDoorEnRb
import Derived.Orders
set_option linter.unusedVariables false
set_option linter.unusedSectionVars false
set_option linter.unusedSimpArgs false
namespace Go.En

def slotsO : List Operand → List Nat
  | [] => []
  | .tmp t :: r => t :: slotsO r
  | _ :: r => slotsO r
def oneO : Option Operand → List Operand
  | some x => [x]
  | none => []
def callOps : Callee → List Operand
  | .value f => [f]
  | _ => []
def partOps : List (Nat × Operand) → List Operand
  | [] => []
  | (_, x) :: r => x :: partOps r
/-- The operands of the operations that such a region may have. -/
def opsOf : Op → List Operand
  | .move x | .assign x => [x]
  | .pick c a b => [c, a, b]
  | .load _ a => [a]
  | .nilCheck x => [x]
  | .binOp _ _ x y _ => [x, y]
  | .unOp _ _ x => [x]
  | .convert _ _ x => [x]
  | .fieldAddr _ x _ => [x]
  | .field _ x _ => [x]
  | .indexAddr _ x i => [x, i]
  | .index _ x i => [x, i]
  | .extract x _ => [x]
  | .call c => cat (callOps c.callee) c.args.toList
  | .buildSlice _ _ parts => partOps parts.toList
  | _ => []
def quiet : Op → Bool
  | .move _ | .assign _ | .pick _ _ _ | .load _ _ | .nilCheck _ | .binOp _ _ _ _ _ | .unOp _ _ _ | .convert _ _ _ | .fieldAddr _ _ _ | .field _ _ _ | .indexAddr _ _ _ | .index _ _ _ | .extract _ _ => true
  | .call c => (match c.callee with | .value _ => true | .builtin .len => true | .builtin .real => true | .builtin .imag => true | .builtin .complex => true | _ => false)
  | _ => false
/-- A slice built in such a region stands still from then on. -/
def quiet2 : Op → Bool
  | .buildSlice _ _ _ => true
  | op => quiet op
def chainy : Op → Bool
  | .call c => (match c.callee with | .value _ => true | _ => false)
  | _ => false
def slots (ops : List Oper) (x : Oper) : List Nat :=
  match x.guard with
  | none => slotsO (opsOf x.op)
  | some (j, _) => (match dstOf ops j with | some d => d :: slotsO (opsOf x.op) | none => slotsO (opsOf x.op))

theorem slotsO_mem {t : Nat} : ∀ {l : List Operand}, .tmp t ∈ l → t ∈ slotsO l
  | [], h => by cases h
  | .tmp u :: r, h => by
    rcases List.mem_cons.1 h with e | h
    · cases e; simp [slotsO]
    · simp [slotsO, slotsO_mem h]
  | .const _ :: r, h => by
    rcases List.mem_cons.1 h with e | h
    · cases e
    · simpa [slotsO] using slotsO_mem h
  | .func _ :: r, h => by
    rcases List.mem_cons.1 h with e | h
    · cases e
    · simpa [slotsO] using slotsO_mem h
  | .global _ :: r, h => by
    rcases List.mem_cons.1 h with e | h
    · cases e
    · simpa [slotsO] using slotsO_mem h
theorem slots_sub {ops : List Oper} {x : Oper} {t : Nat} (h : t ∈ slotsO (opsOf x.op)) : t ∈ slots ops x := by
  unfold slots
  split
  · exact h
  · split
    · exact List.mem_cons_of_mem _ h
    · exact h

/-- The outcome, over another state. -/
def R.to (st : St) : R → R
  | .ok v _ => .ok v st
  | .pre p v _ => .pre p v st
  | .br b x y => .br b x y
  | .call f args => .call f args
  | .bad => .bad

section
variable {o : Ops} {E : Env} {st st' : St}

theorem ev_same {x : Operand} (h : ∀ t, x = .tmp t → get st'.tm t = get st.tm t) (t : Nat) : ev o E st'.tm t x = ev o E st.tm t x := by
  cases x with
  | tmp i => exact h i rfl
  | const v => rfl
  | func f => rfl
  | global g => rfl
theorem nth_more {own rows : List OB} {i : Nat} {ob : OB} (h : nth own i = some ob) : nth (own ++ rows) i = some ob := by
  rw [nth_eq] at *
  rw [List.getElem?_append_left (List.getElem?_eq_some_iff.1 h).1]
  exact h

variable (hown : ∃ rows, st'.own = st.own ++ rows)
include hown

theorem contents_more {v : V} {c : Cont} (h : contents st v = some c) : contents st' v = some c := by
  obtain ⟨rows, hr⟩ := hown
  cases v <;> simp only [contents] at h ⊢ <;> try exact h
  rename_i i
  split at h
  · rename_i e c' hn
    rw [hr, nth_more hn]
    exact h
  · cases h

theorem aLoad_to (t : Nat) (a : V) : aLoad o E st t a = .bad ∨ aLoad o E st' t a = (aLoad o E st t a).to st' := by
  obtain ⟨rows, hr⟩ := hown
  unfold aLoad
  split
  · exact .inl rfl
  · split
    · rename_i i off
      cases hn : nth st.own i with
      | none => exact .inl rfl
      | some ob =>
        rw [hr, nth_more hn]
        cases ob <;> try exact .inl rfl
        rename_i cs
        dsimp only
        split
        · split
          · exact .inr rfl
          · exact .inl rfl
        · split
          · exact .inr rfl
          · exact .inl rfl
    · split
      · split
        · exact .inr rfl
        · exact .inl rfl
      · split
        · exact .inr rfl
        · exact .inl rfl
    · rename_i i e sz off
      cases hn : nth st.own i with
      | none => exact .inl rfl
      | some ob =>
        rw [hr, nth_more hn]
        cases ob <;> try exact .inl rfl
        dsimp only
        split
        · exact .inl rfl
        · split
          · split
            · exact .inr rfl
            · exact .inl rfl
          · split
            · exact .inr rfl
            · exact .inl rfl
    · exact .inl rfl

theorem aIndexAddr_to (t : Nat) (x i : V) : aIndexAddr o E st t x i = .bad ∨ aIndexAddr o E st' t x i = (aIndexAddr o E st t x i).to st' := by
  obtain ⟨rows, hr⟩ := hown
  unfold aIndexAddr
  split
  · split
    · exact .inr rfl
    · exact .inl rfl
  · rename_i r
    cases hn : nth st.own r with
    | none => exact .inl rfl
    | some ob =>
      rw [hr, nth_more hn]
      cases ob <;> try exact .inl rfl
      dsimp only
      split
      · exact .inr rfl
      · exact .inl rfl
  · split
    · split
      · split
        · exact .inr rfl
        · exact .inl rfl
      · exact .inl rfl
    · exact .inl rfl
  · split
    · split
      · split
        · exact .inr rfl
        · exact .inl rfl
      · exact .inl rfl
    · exact .inl rfl
  · exact .inl rfl

theorem aInt_to (op : BinOp) (k : IntKind) (a b : Int) : aInt o st' op k a b = (aInt o st op k a b).to st' := by
  cases op <;> simp only [aInt] <;> first | rfl | (split <;> rfl)
theorem aFloat_to (op : BinOp) (k : FloatKind) (a b : Nat) : aFloat o st' op k a b = (aFloat o st op k a b).to st' := by
  cases op <;> rfl
theorem aBin_to (op : BinOp) (t : Nat) (x y : V) : aBin o E st' op t x y = (aBin o E st op t x y).to st' := by
  unfold aBin
  split
  · split
    · split <;> rfl
    · rfl
    · split
      · exact aInt_to hown ..
      · rfl
  · split
    · exact aFloat_to hown ..
    · rfl
  · split
    · split <;> rfl
    · rfl
  · split <;> rfl
  · split <;> rfl
  · rfl
theorem aUn_to (op : UnOp) (x : V) : aUn o st' op x = (aUn o st op x).to st' := by
  unfold aUn
  split <;> first | rfl | (split <;> rfl)
theorem aConv_to (s d : Nat) (x : V) : aConv o E st s d x = .bad ∨ aConv o E st' s d x = (aConv o E st s d x).to st' := by
  unfold aConv
  split
  · exact .inl rfl
  · exact .inr rfl
  · exact .inr rfl
  · exact .inr rfl
  · split <;> exact .inr rfl
  · exact .inr rfl
  · split
    · rename_i h1 h2
      rw [contents_more hown h2, h1]
      exact .inr rfl
    · exact .inl rfl
  · exact .inl rfl
theorem aFieldAddr_to (t f : Nat) (x : V) : aFieldAddr E st' t f x = (aFieldAddr E st t f x).to st' := by
  unfold aFieldAddr
  split
  · rfl
  · split
    · rfl
    · split <;> rfl
theorem aFieldV_to (t f : Nat) (x : V) : aFieldV E st' t f x = (aFieldV E st t f x).to st' := by
  unfold aFieldV
  split
  · rfl
  · split
    · split <;> split <;> rfl
    · rfl
theorem aCall_to (f : Nat) (args : List V) : aCall o E st' f args = (aCall o E st f args).to st' := by
  unfold aCall
  split <;> rfl
theorem aLen_to (ts : List Nat) (args : List V) : aBuiltin o E st .len ts args = .bad ∨ aBuiltin o E st' .len ts args = (aBuiltin o E st .len ts args).to st' := by
  unfold aBuiltin
  split <;> try exact .inl rfl
  all_goals try (rename_i h; cases h; done)
  · split
    · exact .inr rfl
    · split
      · rename_i h
        rw [contents_more hown h]
        exact .inr rfl
      · exact .inl rfl
    · exact .inl rfl

theorem aop_cong (ty : Nat) {op : Op} (hq : quiet op = true) (hs : ∀ t, t ∈ slotsO (opsOf op) → get st'.tm t = get st.tm t) :
    aop o E st ty op = .bad ∨ aop o E st' ty op = (aop o E st ty op).to st' := by
  replace hs : ∀ x, x ∈ opsOf op → ∀ t, ev o E st'.tm t x = ev o E st.tm t x := fun x hx t => ev_same (fun u e => hs u (slotsO_mem (e ▸ hx))) t
  cases op <;> (try cases hq; done)
  case move x => exact .inr (by simp only [aop, hs x (by simp [opsOf]), R.to])
  case assign x => exact .inr (by simp only [aop, hs x (by simp [opsOf]), R.to])
  case pick c a b =>
    simp only [aop, hs c (by simp [opsOf]), hs a (by simp [opsOf]), hs b (by simp [opsOf])]
    split
    · exact .inr rfl
    · exact .inl rfl
  case load t a => simp only [aop, hs a (by simp [opsOf])]; exact aLoad_to hown ..
  case nilCheck x =>
    simp only [aop, hs x (by simp [opsOf])]
    split <;> first | exact .inr rfl | exact .inl rfl
  case binOp op t x y t' =>
    simp only [aop, hs x (by simp [opsOf]), hs y (by simp [opsOf])]
    split
    · unfold aIfc
      split
      · split <;> first | exact .inr rfl | exact .inl rfl
      · exact .inl rfl
    · exact .inr (aBin_to hown ..)
  case unOp op t x => simp only [aop, hs x (by simp [opsOf])]; exact .inr (aUn_to hown ..)
  case convert s d x => simp only [aop, hs x (by simp [opsOf])]; exact aConv_to hown ..
  case fieldAddr t x f => simp only [aop, hs x (by simp [opsOf])]; exact .inr (aFieldAddr_to hown ..)
  case field t x f => simp only [aop, hs x (by simp [opsOf])]; exact .inr (aFieldV_to hown ..)
  case indexAddr t x i => simp only [aop, hs x (by simp [opsOf]), hs i (by simp [opsOf])]; exact aIndexAddr_to hown ..
  case index t x i =>
    simp only [aop, hs x (by simp [opsOf]), hs i (by simp [opsOf])]
    split <;> first | exact .inr rfl | exact .inl rfl
  case extract x i =>
    simp only [aop, hs x (by simp [opsOf])]
    split
    · split
      · exact .inr rfl
      · exact .inl rfl
    · exact .inl rfl
  case call c =>
    have hargs : evA o E st'.tm c.args.toList c.argTypes.toList = evA o E st.tm c.args.toList c.argTypes.toList := by
      have : ∀ (l : List Operand) (ts : List Nat), (∀ x, x ∈ l → ∀ t, ev o E st'.tm t x = ev o E st.tm t x) → evA o E st'.tm l ts = evA o E st.tm l ts := by
        intro l
        induction l with
        | nil => intro ts _; rfl
        | cons x r ih =>
          intro ts h
          cases ts with
          | nil => simp only [evA, h x List.mem_cons_self, ih [] fun y hy => h y (List.mem_cons_of_mem _ hy)]
          | cons t ts => simp only [evA, h x List.mem_cons_self, ih ts fun y hy => h y (List.mem_cons_of_mem _ hy)]
      refine this _ _ fun x hx => hs x ?_
      simp only [opsOf, cat_eq]
      exact List.mem_append_right _ hx
    simp only [aop, hargs]
    cases hc : c.callee with
    | builtin b =>
      simp only [quiet, hc] at hq
      cases b <;> (try cases hq; done)
      case len => exact aLen_to hown ..
      all_goals
        right
        simp only [aBuiltin]
        split <;> first | rfl | contradiction | (split <;> rfl)
    | value f =>
      simp only [hs f (by simp [opsOf, hc, callOps, cat_eq])]
      right
      split
      · exact aCall_to hown ..
      · rfl
    | invoke a b => exact .inl rfl
end
theorem evs_same {o : Ops} {E : Env} {tm tm' : List (Nat × V)} {f : Nat → Nat} : ∀ {l : List (Nat × Operand)}, (∀ t, t ∈ slotsO (partOps l) → get tm' t = get tm t) → evs o E tm' f l = evs o E tm f l
  | [], _ => rfl
  | (i, x) :: r, h => by
    have hx : ∀ t, ev o E tm' t x = ev o E tm t x := fun t => by
      cases x with
      | tmp j => exact h j (by simp [partOps, slotsO])
      | _ => rfl
    simp only [evs, hx]
    rw [evs_same (l := r) fun t ht => h t (by
      cases x <;> simp only [partOps, slotsO] <;> first | exact List.mem_cons_of_mem _ ht | exact ht)]
theorem aBuildSlice_alone {o : Ops} {E : Env} {st st' : St} {t n : Nat} {parts : List (Nat × Operand)} {v : V} {s1 : St} {e : Nat} {c : Cont} (h : aBuildSlice o E { st with own := [] } t n parts = .ok v s1) (h1 : s1.own = [.row e c])
    (hs : ∀ t, t ∈ slotsO (partOps parts) → get st'.tm t = get st.tm t) : aBuildSlice o E st' t n parts = .ok (.own (len st'.own)) { st' with own := cat st'.own [.row e c] } := by
  unfold aBuildSlice at h ⊢
  simp only [evs_same hs]
  split at h
  · rename_i h0
    try simp only [h0]
    split at h
    · rename_i ht
      try simp only [ht]
      split at h
      · rename_i h2 h3
        try simp only [h2, h3]
        split at h
        · rename_i h4
          try simp only [h4]
          split at h
          · rename_i h5
            try simp only [h5]
            split at h
            · rename_i q1 q2 q3 q4
              try simp only [q1, q2, q3, q4]
              cases h
              simp only [cat] at h1
              cases h1
              rfl
            · cases h
          · cases h
        · cases h
      · cases h
    · cases h
  · cases h
end Go.En
