/-
  REGIONS WHOSE ORDER IS OPEN: which orders there are, and the rule at last. Own work; generic over the program.
-/
import Derived.Test.YtnkefikpejjjcaaDoorEnT
set_option linter.unusedVariables false
set_option linter.unusedSectionVars false
set_option linter.unusedSimpArgs false
namespace Go.En

/-- What must have come up ahead of an operation, as bits. -/
def orE (acc : List Nat) : List Edge → Nat
  | [] => 0
  | e :: r =>
    match Region.binds .any e with
    | true => Nat.lor (Nat.lor (Nat.shiftLeft 1 e.on) (match nth acc e.on with | some m => m | none => 0)) (orE acc r)
    | false => orE acc r
def masksA : List Oper → List Nat → List Nat
  | [], acc => acc
  | x :: r, acc => masksA r (cat acc [orE acc x.after.toList])

def sameDst : Option Nat → Option Nat → Bool
  | some a, some b => Nat.beq a b
  | _, _ => false
def hasB (l : List Nat) (t : Nat) : Bool := match l with | [] => false | j :: r => (match Nat.beq t j with | true => true | false => hasB r t)
def pairOK (x y : Oper) (i k m : Nat) (sl : List Nat) : Bool :=
  (Nat.beq i k || !(sameDst x.dst y.dst)) &&
  ((match y.dst with | some t => !(hasB sl t) || (Nat.blt k i && Nat.testBit m k) | none => true) &&
  (!(chainy x.op && (chainy y.op && Nat.blt k i)) || Nat.testBit m k))
def pairsOK (x : Oper) (i m : Nat) (sl : List Nat) : Nat → List Oper → Bool
  | _, [] => true
  | k, y :: r => match pairOK x y i k m sl with | true => pairsOK x i m sl (k + 1) r | false => false
def edgesOK (i : Nat) : List Edge → Bool
  | [] => true
  | e :: r => match (!(Region.binds .any e) || Nat.blt e.on i) with | true => edgesOK i r | false => false
def opsOK (all : List Oper) : Nat → List Nat → List Oper → Bool
  | _, _, [] => true
  | i, ms, x :: r =>
    match ms with
    | [] => false
    | m :: ms => match quiet2 x.op, edgesOK i x.after.toList, pairsOK x i m (slots all x) 0 all with
      | true, true, true => opsOK all (i + 1) ms r
      | _, _, _ => false
def adOK0 (ops : List Oper) : Bool := opsOK ops 0 (masksA ops []) ops
/-- How many operations lead that may come up in any order. -/
def qlen : List Oper → Nat
  | [] => 0
  | x :: r => match quiet2 x.op with | true => Nat.succ (qlen r) | false => 0
def allBits (m : Nat) : Nat → Bool
  | 0 => true
  | j + 1 => match Nat.testBit m j with | true => allBits m j | false => false
/-- The operations behind those come up one after another. -/
def tailOK : Nat → List Nat → List Oper → Bool
  | _, _, [] => true
  | i, m :: ms, x :: r => match x.guard, allBits m i with | none, true => tailOK (i + 1) ms r | _, _ => false
  | _, [], _ :: _ => false
def edgesAll : Nat → List Oper → Bool
  | _, [] => true
  | i, x :: r => match edgesOK i x.after.toList with | true => edgesAll (i + 1) r | false => false
def guardsOK (k : Nat) : List Oper → Bool
  | [] => true
  | x :: r => match (match x.guard with | none => true | some (j, _) => Nat.blt j k) with | true => guardsOK k r | false => false
def adAt (k : Nat) (ops : List Oper) : Bool :=
  match adOK0 (takeN k ops), edgesAll 0 ops, guardsOK k (takeN k ops), tailOK k (dropN k (masksA ops [])) (dropN k ops), Nat.ble k (len ops) with
  | true, true, true, true, true => true
  | _, _, _, _, _ => false
def adOK (ops : List Oper) : Bool := adAt (qlen ops) ops

theorem hasB_mem : ∀ {l : List Nat} {t : Nat}, t ∈ l → hasB l t = true
  | [], _, h => by cases h
  | j :: r, t, h => by
    simp only [hasB]
    split
    · rfl
    · rename_i e
      rcases List.mem_cons.1 h with e' | h
      · exact absurd e' (Nat.ne_of_beq_eq_false e)
      · exact hasB_mem h

structure Ord (ops : List Oper) (ms : List Nat) : Prop where
  edge : ∀ (i : Nat) x e, ops[i]? = some x → e ∈ x.after → Region.binds .any e = true → e.on < i
  dst : ∀ (i j : Nat) x y d, ops[i]? = some x → ops[j]? = some y → x.dst = some d → y.dst = some d → i = j
  rd : ∀ (i k : Nat) x y t, ops[i]? = some x → t ∈ slots ops x → ops[k]? = some y → y.dst = some t → k < i ∧ ∃ m, ms[i]? = some m ∧ Nat.testBit m k = true
  ch : ∀ (i k : Nat) x y, ops[i]? = some x → ops[k]? = some y → chainy x.op = true → chainy y.op = true → k < i → ∃ m, ms[i]? = some m ∧ Nat.testBit m k = true
  quiet : ∀ x ∈ ops, quiet2 x.op = true

theorem pairsOK_ok {x : Oper} {i m : Nat} {sl : List Nat} : ∀ {l : List Oper} {k0 : Nat}, pairsOK x i m sl k0 l = true → ∀ (k : Nat) y, l[k]? = some y → pairOK x y i (k0 + k) m sl = true
  | [], _, _, k, y, hy => by simp at hy
  | z :: r, k0, h, k, y, hy => by
    simp only [pairsOK] at h
    split at h
    · rename_i e
      cases k with
      | zero => simp at hy; subst hy; exact e
      | succ k =>
        have := pairsOK_ok h k y (by simpa using hy)
        rwa [show k0 + 1 + k = k0 + (k + 1) by omega] at this
    · cases h
theorem edgesOK_ok {i : Nat} : ∀ {l : List Edge}, edgesOK i l = true → ∀ e ∈ l, Region.binds .any e = true → e.on < i
  | [], _, e, he, _ => by cases he
  | d :: r, h, e, he, hb => by
    simp only [edgesOK] at h
    split at h
    · rename_i h1
      rcases List.mem_cons.1 he with rfl | he
      · simp [hb] at h1
        exact h1
      · exact edgesOK_ok h e he hb
    · cases h
theorem opsOK_ok {all : List Oper} : ∀ {l : List Oper} {i0 : Nat} {ms : List Nat}, opsOK all i0 ms l = true → ∀ (i : Nat) x, l[i]? = some x → ∃ m, ms[i]? = some m ∧ quiet2 x.op = true ∧ edgesOK (i0 + i) x.after.toList = true ∧ pairsOK x (i0 + i) m (slots all x) 0 all = true
  | [], _, _, _, i, x, hx => by simp at hx
  | y :: r, i0, ms, h, i, x, hx => by
    cases ms with
    | nil => simp [opsOK] at h
    | cons m ms =>
      simp only [opsOK] at h
      split at h
      · rename_i h1 h2 h3
        cases i with
        | zero => simp at hx; subst hx; exact ⟨m, rfl, h1, h2, h3⟩
        | succ i =>
          obtain ⟨m', e1, e2, e3, e4⟩ := opsOK_ok h i x (by simpa using hx)
          rw [show i0 + 1 + i = i0 + (i + 1) by omega] at e3 e4
          exact ⟨m', by simpa using e1, e2, e3, e4⟩
      · cases h

theorem allBits_ok {m : Nat} : ∀ {i : Nat}, allBits m i = true → ∀ j, j < i → Nat.testBit m j = true
  | 0, _, j, h => by omega
  | i + 1, h, j, hj => by
    simp only [allBits] at h
    split at h
    · rename_i hb
      rcases Nat.lt_succ_iff_lt_or_eq.1 hj with hj | rfl
      · exact allBits_ok h j hj
      · exact hb
    · cases h
theorem tailOK_ok : ∀ {l : List Oper} {i : Nat} {ms : List Nat}, tailOK i ms l = true → ∀ (j : Nat) x, l[j]? = some x → x.guard = none ∧ ∃ m, ms[j]? = some m ∧ ∀ q, q < i + j → Nat.testBit m q = true
  | [], _, _, _, j, x, hx => by simp at hx
  | y :: r, i, [], h, j, x, hx => by simp [tailOK] at h
  | y :: r, i, m :: ms, h, j, x, hx => by
    simp only [tailOK] at h
    split at h
    · rename_i h1 h2
      cases j with
      | zero => simp at hx; subst hx; exact ⟨h1, m, rfl, fun q hq => allBits_ok h2 q (by omega)⟩
      | succ j =>
        obtain ⟨e1, m', e2, e3⟩ := tailOK_ok h j x (by simpa using hx)
        exact ⟨e1, m', by simpa using e2, fun q hq => e3 q (by omega)⟩
    · cases h
theorem edgesAll_ok : ∀ {l : List Oper} {i0 : Nat}, edgesAll i0 l = true → ∀ (i : Nat) x e, l[i]? = some x → e ∈ x.after → Region.binds .any e = true → e.on < i0 + i
  | [], _, _, i, x, e, hx, _, _ => by simp at hx
  | y :: r, i0, h, i, x, e, hx, he, hb => by
    simp only [edgesAll] at h
    split at h
    · rename_i h1
      cases i with
      | zero => simp at hx; subst hx; exact edgesOK_ok h1 e (by simpa using he) hb
      | succ i => have := edgesAll_ok h i x e (by simpa using hx) he hb; omega
    · cases h
theorem guardsOK_ok {k : Nat} : ∀ {l : List Oper}, guardsOK k l = true → ∀ x ∈ l, ∀ j want, x.guard = some (j, want) → j < k
  | [], _, x, hx, _, _, _ => by simp at hx
  | y :: r, h, x, hx, j, want, hg => by
    simp only [guardsOK] at h
    split at h
    · rename_i h1
      rcases List.mem_cons.1 hx with rfl | hx
      · rw [hg] at h1
        exact Nat.le_of_ble_eq_true h1
      · exact guardsOK_ok h x hx j want hg
    · cases h
theorem adOK_ord {ops : List Oper} (h : adOK0 ops = true) : Ord ops (masksA ops []) := by
  have hp : ∀ (i k : Nat) x y, ops[i]? = some x → ops[k]? = some y → ∃ m, (masksA ops [])[i]? = some m ∧ pairOK x y i k m (slots ops x) = true := fun i k x y hx hy => by
    obtain ⟨m, e1, _, _, e4⟩ := opsOK_ok h i x hx
    have := pairsOK_ok e4 k y hy
    simp only [Nat.zero_add] at this
    exact ⟨m, e1, this⟩
  refine ⟨fun i x e hx he hb => ?_, fun i j x y d hx hy h1 h2 => ?_, fun i k x y t hx ht hy hd => ?_, fun i k x y hx hy h1 h2 hk => ?_, fun x hx => ?_⟩
  · obtain ⟨m, _, _, e3, _⟩ := opsOK_ok h i x hx
    have := edgesOK_ok e3 e (by simpa using he) hb
    simpa using this
  · obtain ⟨m, _, e⟩ := hp i j x y hx hy
    simp only [pairOK, Bool.and_eq_true] at e
    have := e.1
    simp [h1, h2, sameDst] at this
    exact this
  · obtain ⟨m, e0, e⟩ := hp i k x y hx hy
    simp only [pairOK, Bool.and_eq_true] at e
    have := e.2.1
    simp [hd, hasB_mem ht] at this
    exact ⟨this.1, m, e0, this.2⟩
  · obtain ⟨m, e0, e⟩ := hp i k x y hx hy
    simp only [pairOK, Bool.and_eq_true] at e
    have := e.2.2
    have hlt : Nat.blt k i = true := Nat.ble_eq_true_of_le hk
    simp [h1, h2, hlt] at this
    exact ⟨m, e0, this⟩
  · obtain ⟨i, hi⟩ := List.mem_iff_getElem?.1 hx
    obtain ⟨m, _, e2, _⟩ := opsOK_ok h i x hi
    exact e2

/-- A set of operations that may have come up. -/
def Closed (ops : List Oper) (D : Nat → Prop) : Prop := ∀ (i : Nat) x e, ops[i]? = some x → D i → e ∈ x.after → Region.binds .any e = true → D e.on
def Waits (D : Nat → Prop) (x : Oper) : Prop := ∀ e, e ∈ x.after → Region.binds .any e = true → D e.on

theorem orE_bits {acc : List Nat} {D : Nat → Prop} : ∀ {l : List Edge}, (∀ e ∈ l, Region.binds .any e = true → D e.on ∧ ∀ m, acc[e.on]? = some m → ∀ k, Nat.testBit m k = true → D k) → ∀ k, Nat.testBit (orE acc l) k = true → D k
  | [], _, k, h => by simp [orE] at h
  | e :: r, hl, k, h => by
    simp only [orE] at h
    have ih := orE_bits (l := r) fun d hd => hl d (List.mem_cons_of_mem _ hd)
    split at h
    · rename_i hb
      obtain ⟨h1, h2⟩ := hl e List.mem_cons_self hb
      have h : (((1 <<< e.on) ||| (match nth acc e.on with | some m => m | none => 0)) ||| orE acc r).testBit k = true := h
      rw [Nat.testBit_or, Nat.testBit_or, Bool.or_eq_true, Bool.or_eq_true] at h
      rcases h with (h | h) | h
      · rw [Nat.one_shiftLeft, Nat.testBit_two_pow] at h
        have : e.on = k := by simpa using h
        exact this ▸ h1
      · rw [nth_eq] at h
        split at h
        · rename_i m hm; exact h2 m hm k h
        · simp at h
      · exact ih k h
    · exact ih k h

theorem masksA_ok {ops : List Oper} {D : Nat → Prop} (hD : Closed ops D) (hedge : ∀ (i : Nat) x e, ops[i]? = some x → e ∈ x.after → Region.binds .any e = true → e.on < i) :
    ∀ (l : List Oper) (acc : List Nat), (∀ (j : Nat) x, l[j]? = some x → ops[acc.length + j]? = some x) → (∀ (i : Nat) m x, acc[i]? = some m → ops[i]? = some x → Waits D x → ∀ k, Nat.testBit m k = true → D k) →
      ∀ (i : Nat) m x, (masksA l acc)[i]? = some m → ops[i]? = some x → Waits D x → ∀ k, Nat.testBit m k = true → D k
  | [], acc, _, h => h
  | y :: r, acc, hl, h => by
    have hy : ops[acc.length]? = some y := hl 0 y rfl
    refine masksA_ok hD hedge r _ (fun j x hx => ?_) fun i m x hm hx hw => ?_
    · rw [cat_eq]
      have := hl (j + 1) x (by simpa using hx)
      rw [List.length_append]
      simpa [Nat.add_assoc, Nat.add_comm 1 j] using this
    · rw [cat_eq] at hm
      rcases getElem?_snoc hm with hm | ⟨e1, e2⟩
      · exact h i m x hm hx hw
      · subst e1 e2
        rw [hy] at hx
        cases hx
        refine orE_bits fun e he hb => ?_
        have he : e ∈ y.after := by simpa using he
        have hin := hw e he hb
        refine ⟨hin, fun m hm k hk => ?_⟩
        obtain ⟨z, hz⟩ : ∃ z, ops[e.on]? = some z := by
          have := hedge _ _ _ hy he hb
          have hlt : acc.length < ops.length := (List.getElem?_eq_some_iff.1 hy).1
          exact ⟨_, List.getElem?_eq_getElem (by omega)⟩
        exact h e.on m z hm hz (fun e' he' hb' => hD _ _ _ hz hin he' hb') k hk

theorem bits_of {ops : List Oper} {D : Nat → Prop} (hedge : ∀ (i : Nat) x e, ops[i]? = some x → e ∈ x.after → Region.binds .any e = true → e.on < i) (hD : Closed ops D) {i k m : Nat} {x : Oper} (hx : ops[i]? = some x) (hw : Waits D x) (hm : (masksA ops [])[i]? = some m) (hk : Nat.testBit m k = true) : D k :=
  masksA_ok hD hedge ops [] (by simp) (by simp) i m x hm hx hw k hk
theorem bits_in {ops : List Oper} {D : Nat → Prop} (hO : Ord ops (masksA ops [])) (hD : Closed ops D) {i k m : Nat} {x : Oper} (hx : ops[i]? = some x) (hw : Waits D x) (hm : (masksA ops [])[i]? = some m) (hk : Nat.testBit m k = true) : D k :=
  masksA_ok hD hO.edge ops [] (by simp) (by simp) i m x hm hx hw k hk
end Go.En
