/-
  REGIONS WHOSE ORDER IS OPEN: the rule. Own work; generic over the program.
-/
import Derived.Test.YtnkefikpejjjcaaDoorEnS
set_option linter.unusedVariables false
set_option linter.unusedSectionVars false
set_option linter.unusedSimpArgs false
namespace Go.En

/-- A call that adds blocks and leaves the others alone. -/
structure CallR (P : PG) (f : Nat) (args : List V) (own : List OB) (Φ : V → List OB → Prop) : Prop where
  ex : ∃ r rows, FnOK P f args own (fun r' own' => r' = r ∧ own' = cat own rows) ∧ Φ r rows

/-- A slice that is built stands still. -/
def stepB (o : Ops) (E : Env) (x : Oper) (K : St → Prop) (st : St) (t n : Nat) (parts : List (Nat × Operand)) : Prop :=
  match aBuildSlice o E { st with own := [] } t n parts with
  | .ok _ s1 => (match s1.own with | [.row _ c] => putK K st x.dst (.sl c false) | _ => False)
  | _ => False
def stepC (o : Ops) (E : Env) (P : PG) (own0 : List OB) (x : Oper) (K : St → Prop) (st : St) : Prop :=
  match aop o E { st with own := own0 } x.type x.op with
  | .ok v _ => putK K st x.dst v
  | .pre p v _ => p ∧ putK K st x.dst v
  | .br b v u => (match b with | true => putK K st x.dst v | false => putK K st x.dst u)
  | .call f args => (match chainy x.op with | true => CallR P f args st.own (fun r rows => putK K { st with own := cat st.own rows } x.dst r) | false => False)
  | .bad => False

def stepQ (o : Ops) (E : Env) (P : PG) (own0 : List OB) (x : Oper) (K : St → Prop) (st : St) : Prop :=
  match x.op with
  | .buildSlice t n parts => stepB o E x K st t n parts.toList
  | _ => stepC o E P own0 x K st

def wpq (o : Ops) (E : Env) (P : PG) (own0 : List OB) (ops : List Oper) (K : St → Prop) : List Oper → St → Prop
  | [], st => K st
  | x :: r, st =>
    match x.guard with
    | none => stepQ o E P own0 x (wpq o E P own0 ops K r) st
    | some (j, want) =>
      match dstOf ops j with
      | none => False
      | some d =>
        match Nat.blt d st.N, get st.tm d with
        | true, .bool b =>
          (match b with
           | true => (match want with
             | true => stepQ o E P own0 x (wpq o E P own0 ops K r) { st with tm := upd st.tm d (.bool true) }
             | false => putK (wpq o E P own0 ops K r) { st with tm := upd st.tm d (.bool true) } x.dst (.tup []))
           | false => (match want with
             | true => putK (wpq o E P own0 ops K r) { st with tm := upd st.tm d (.bool false) } x.dst (.tup [])
             | false => stepQ o E P own0 x (wpq o E P own0 ops K r) { st with tm := upd st.tm d (.bool false) }))
        | true, .tup [] => putK (wpq o E P own0 ops K r) st x.dst (.tup [])
        | _, _ => False

def updO (tm : List (Nat × V)) (dst : Option Nat) (v : V) : List (Nat × V) := match dst with | none => tm | some d => upd tm d v
def putD (st : St) (x : Oper) (v : V) (rows : List OB) : St := { st with tm := updO st.tm x.dst v, own := st.own ++ rows }
theorem get_updO (tm : List (Nat × V)) (dst : Option Nat) (v : V) (t : Nat) : get (updO tm dst v) t = if dst = some t then v else get tm t := by
  cases dst with
  | none => simp [updO]
  | some d =>
    simp only [updO, get_upd, Option.some.injEq]
    by_cases h : t = d
    · simp [h]
    · rw [if_neg h, if_neg (fun e => h e.symm)]

structure Eqv (s s' : St) : Prop where
  N : s.N = s'.N
  base : s.base = s'.base
  own : s.own = s'.own
  tm : ∀ t, get s.tm t = get s'.tm t
theorem Eqv.refl (s : St) : Eqv s s := ⟨rfl, rfl, rfl, fun _ => rfl⟩
theorem Eqv.trans {a b c : St} (h : Eqv a b) (k : Eqv b c) : Eqv a c := ⟨h.N.trans k.N, h.base.trans k.base, h.own.trans k.own, fun t => (h.tm t).trans (k.tm t)⟩
theorem Eqv.putD {s s' : St} (h : Eqv s s') (x : Oper) (v : V) (rows : List OB) : Eqv (putD s x v rows) (putD s' x v rows) :=
  ⟨h.N, h.base, by simp [En.putD, h.own], fun t => by simp only [En.putD, get_updO, h.tm]⟩
theorem Eqv.good {G : Nat → Option Cont} {s s' : St} (h : Eqv s s') {g : Gh} {a : Act} {w : World} (hg : Good G g s a w) : Good G g s' a w :=
  ⟨⟨by rw [hg.rel.size, h.N], hg.rel.defers, hg.rel.glob, fun i => by rw [← h.tm]; exact hg.rel.slot i⟩, by rw [← h.own]; exact hg.mem⟩
theorem Eqv.know {s : St} {d : Nat} {b : Bool} (h : get s.tm d = .bool b) : Eqv { s with tm := upd s.tm d (.bool b) } s :=
  ⟨rfl, rfl, rfl, fun t => by
    show get (upd s.tm d _) t = _
    rw [get_upd]
    by_cases e : t = d
    · rw [if_pos e, e, h]
    · rw [if_neg e]⟩

structure Ag (ops : List Oper) (own0 : List OB) (x : Oper) (st st' : St) : Prop where
  N : st'.N = st.N
  base : st'.base = st.base
  tm : ∀ t, t ∈ slots ops x → get st'.tm t = get st.tm t
  pre : ∃ rows, st'.own = own0 ++ rows
  ch : chainy x.op = true → st'.own = st.own

section
variable {P : PG} {E : Env} (hE : GEnv P E) {ops : Array Oper} {own0 : List OB}

def After (G : Nat → Option Cont) (g : Gh) (w : World) (st' : St) (x : Oper) (v : V) (rows : List OB) (next : Act → World → Prop) : Prop :=
  ∀ g' a' w', Good G g' (putD st' x v rows) a' w' → Ext g w g' w' → Low st'.base g g' → next a' w'

def SemAt (P : PG) (ops : Array Oper) (own0 : List OB) (i : Nat) (x : Oper) (st : St) (v : V) (rows : List OB) : Prop :=
  ∀ (g : Gh) (st' : St) (a : Act) (w : World), Ag ops.toList own0 x st st' → Good P.G g st' a w → ∀ (Q : Exit → Act → World → Prop) (next : Act → World → Prop), After P.G g w st' x v rows next → wpOp P ops Q i next a w

theorem putD_good {g : Gh} {st : St} {a : Act} {w : World} (hg : Good P.G g st a w) {x : Oper} {v : V} {y : Value} (hr : Rd g v y) (hd : ∀ d, x.dst = some d → d < st.N) : Good P.G g { st with tm := updO st.tm x.dst v } (a.put x.dst y) w := by
  cases h : x.dst with
  | none => exact hg
  | some d => exact put_good hg hr (hd d h)

theorem putK_of {K : St → Prop} {st : St} {dst : Option Nat} {v : V} (h : putK K st dst v) : (∀ d, dst = some d → d < st.N) ∧ K { st with tm := updO st.tm dst v } := by
  unfold putK at h
  split at h
  · exact ⟨fun d e => (nomatch e), h⟩
  · rename_i d
    split at h
    · rename_i hlt
      exact ⟨fun d' e => by cases e; exact Nat.le_of_ble_eq_true hlt, h⟩
    · exact h.elim

include hE in
theorem stepC_sem {x : Oper} {K : St → Prop} {st : St} (hq : quiet x.op = true) (hpre : ∃ rows, st.own = own0 ++ rows) (h : stepC std E P own0 x K st) :
    ∃ v rows, (chainy x.op = false → rows = []) ∧ (∃ s1, K s1 ∧ Eqv s1 (putD st x v rows)) ∧
      ∀ (g : Gh) (st' : St) (a : Act) (w : World), Ag ops.toList own0 x st st' → Good P.G g st' a w → ∀ (Q : Exit → Act → World → Prop) (next : Act → World → Prop), After P.G g w st' x v rows next → x.wp P a w next Q := by
  have hc : ∀ st', Ag ops.toList own0 x st st' → aop std E { st with own := own0 } x.type x.op = .bad ∨ aop std E st' x.type x.op = (aop std E { st with own := own0 } x.type x.op).to st' := fun st' ha =>
    aop_cong (st := { st with own := own0 }) ha.pre x.type hq fun t ht => ha.tm t (slots_sub ht)
  unfold stepC at h
  have plain : ∀ {v : V}, putK K st x.dst v → (∀ (g : Gh) (st' : St) (a : Act) (w : World), Ag ops.toList own0 x st st' → Good P.G g st' a w → OpOK P E (execOp a.eval x) g a w st' v st') →
      ∃ v rows, (chainy x.op = false → rows = []) ∧ (∃ s1, K s1 ∧ Eqv s1 (putD st x v rows)) ∧
      ∀ (g : Gh) (st' : St) (a : Act) (w : World), Ag ops.toList own0 x st st' → Good P.G g st' a w → ∀ (Q : Exit → Act → World → Prop) (next : Act → World → Prop), After P.G g w st' x v rows next → x.wp P a w next Q := by
    intro v hp ho
    obtain ⟨hd, hk⟩ := putK_of hp
    refine ⟨v, [], fun _ => rfl, ⟨_, hk, rfl, rfl, by simp [putD], fun t => rfl⟩, fun g st' a w ha hg Q next hn => ?_⟩
    obtain ⟨y, g', w', hr, hrd, hg', hext, hb, hN, hlow⟩ := ho g st' a w ha hg
    have hg' := hE.of hg'
    have hg2 : Good P.G g' (putD st' x v []) (a.put x.dst y) w' := by
      have := putD_good hg' (x := x) hrd (fun d e => by rw [ha.N]; exact hd d e)
      simpa [putD] using this
    have := hn g' _ w' hg2 hext hlow
    unfold Oper.wp
    rcases hr with hr | ⟨hr, rfl⟩ <;> rw [hr] <;> exact this
  split at h
  · rename_i v st1 he
    refine plain h fun g st' a w ha hg => ?_
    have hop := aop_ok hE.ok (hE.to hg) x
    rcases hc st' ha with e | e
    · rw [he] at e; cases e
    · rw [e, he] at hop; exact hop
  · rename_i p v st1 he
    refine plain h.2 fun g st' a w ha hg => ?_
    have hop := aop_ok hE.ok (hE.to hg) x
    rcases hc st' ha with e | e
    · rw [he] at e; cases e
    · rw [e, he] at hop; exact hop h.1
  · rename_i b v u he
    have fin : ∀ c, b = c → putK K st x.dst (match c with | true => v | false => u) → ∃ v rows, (chainy x.op = false → rows = []) ∧ (∃ s1, K s1 ∧ Eqv s1 (putD st x v rows)) ∧
      ∀ (g : Gh) (st' : St) (a : Act) (w : World), Ag ops.toList own0 x st st' → Good P.G g st' a w → ∀ (Q : Exit → Act → World → Prop) (next : Act → World → Prop), After P.G g w st' x v rows next → x.wp P a w next Q := by
      intro c hbc hp
      refine plain hp fun g st' a w ha hg => ?_
      have hop := aop_ok hE.ok (hE.to hg) x
      rcases hc st' ha with e | e
      · rw [he] at e; cases e
      · rw [e, he] at hop
        subst hbc
        exact hop
    cases b
    · exact fin false rfl h
    · exact fin true rfl h
  · rename_i f args he
    split at h
    · rename_i hch
      obtain ⟨r, rows, hf, hp⟩ := h.ex
      obtain ⟨hd, hk⟩ := putK_of hp
      refine ⟨r, rows, fun e => (by rw [hch] at e; cases e), ⟨_, hk, rfl, rfl, by simp [putD, cat_eq], fun t => rfl⟩, fun g st' a w ha hg Q next hn => ?_⟩
      have hop := aop_ok hE.ok (hE.to hg) x
      rcases hc st' ha with e | e
      · rw [he] at e; cases e
      · rw [e, he] at hop
        obtain ⟨vs, hr, hrl⟩ := hop
        unfold Oper.wp
        rw [hr]
        refine (hf.run g w vs hg.rel.glob hrl (by rw [← ha.ch hch]; exact hg.mem)).mono fun e w' he => ?_
        obtain ⟨y, r', g', own', rfl, hrd, hmem, hext, hle, rfl, rfl⟩ := he
        have hg' : Good P.G g' { st' with own := cat st.own rows } a w' := ⟨hg.rel.mono hle, hmem⟩
        have hg2 : Good P.G g' (putD st' x r' rows) (a.put x.dst y) w' := by
          have := putD_good hg' (x := x) hrd (fun d e => by show d < st'.N; rw [ha.N]; exact hd d e)
          rw [cat_eq] at this
          simpa [putD, ha.ch hch] using this
        exact hn g' _ w' hg2 hext (.of_le hle)
    · exact h.elim
  · exact h.elim

include hE in
theorem stepQ_sem {x : Oper} {K : St → Prop} {st : St} (hq : quiet2 x.op = true) (hpre : ∃ rows, st.own = own0 ++ rows) (h : stepQ std E P own0 x K st) :
    ∃ v rows, (chainy x.op = false → rows = []) ∧ (∃ s1, K s1 ∧ Eqv s1 (putD st x v rows)) ∧
      ∀ (g : Gh) (st' : St) (a : Act) (w : World), Ag ops.toList own0 x st st' → Good P.G g st' a w → ∀ (Q : Exit → Act → World → Prop) (next : Act → World → Prop), After P.G g w st' x v rows next → x.wp P a w next Q := by
  unfold stepQ at h
  split at h
  · rename_i t n parts hop
    unfold stepB at h
    split at h
    · rename_i v0 s1 he
      split at h
      · rename_i e c hown
        obtain ⟨hd, hk⟩ := putK_of h
        refine ⟨.sl c false, [], fun _ => rfl, ⟨_, hk, rfl, rfl, by simp [putD], fun t => rfl⟩, fun g st' a w ha hg Q next hn => ?_⟩
        have ho := aop_ok hE.ok (hE.to hg) x
        have hal := aBuildSlice_alone (st' := st') he hown fun t ht => ha.tm t (slots_sub (by rw [hop]; exact ht))
        rw [hop] at ho
        simp only [aop, hal] at ho
        obtain ⟨y, g', w', hr, hrd, hg', hext, hb, hN, hlow⟩ := OpOK.still (hE.to hg) ho
        have hg' := hE.of hg'
        have hg2 : Good P.G g' (putD st' x (.sl c false) []) (a.put x.dst y) w' := by
          have := putD_good hg' (x := x) hrd (fun d e => by rw [ha.N]; exact hd d e)
          simpa [putD] using this
        have := hn g' _ w' hg2 hext hlow
        unfold Oper.wp
        rcases hr with hr | ⟨hr, rfl⟩ <;> rw [hr] <;> exact this
      · exact h.elim
    · exact h.elim
  · rename_i hop
    refine stepC_sem hE ?_ hpre h
    unfold quiet2 at hq
    split at hq
    · rename_i t n parts e; exact absurd e (hop t n parts)
    · exact hq

/-- The text's order, as three rows of things: what each operation yields, which blocks it adds, the states. -/
def Seqs (P : PG) (ops : Array Oper) (own0 : List OB) (l : List Oper) (k : Nat) (st : St) (K : St → Prop) : Prop :=
  ∃ (vs : Nat → V) (rs : Nat → List OB) (ss : Nat → St), Eqv (ss 0) st ∧ (∃ s1, K s1 ∧ Eqv s1 (ss l.length)) ∧
    ∀ j x, l[j]? = some x → SemAt P ops own0 (k + j) x (ss j) (vs j) (rs j) ∧ (chainy x.op = false → rs j = []) ∧ Eqv (ss (j + 1)) (putD (ss j) x (vs j) (rs j))

theorem Ag.eqv {x : Oper} {s s1 st' : St} (h : Eqv s s1) (ha : Ag ops.toList own0 x s st') : Ag ops.toList own0 x s1 st' :=
  ⟨ha.N.trans h.N, ha.base.trans h.base, fun t ht => (ha.tm t ht).trans (h.tm t), ha.pre, fun e => (ha.ch e).trans h.own⟩

theorem Seqs.cons {l : List Oper} {k : Nat} {x : Oper} {st s1 : St} {v : V} {rows : List OB} {K : St → Prop} (h1 : SemAt P ops own0 k x st v rows) (h2 : chainy x.op = false → rows = []) (h3 : Eqv s1 (putD st x v rows)) (h : Seqs P ops own0 l (k + 1) s1 K) : Seqs P ops own0 (x :: l) k st K := by
  obtain ⟨vs, rs, ss, e0, e1, e2⟩ := h
  refine ⟨fun j => match j with | 0 => v | j + 1 => vs j, fun j => match j with | 0 => rows | j + 1 => rs j, fun j => match j with | 0 => st | j + 1 => ss j, Eqv.refl _, e1, fun j y hy => ?_⟩
  cases j with
  | zero =>
    simp at hy
    subst hy
    exact ⟨h1, h2, e0.trans h3⟩
  | succ j =>
    have := e2 j y (by simpa using hy)
    rw [show k + 1 + j = k + (j + 1) by omega] at this
    exact this

include hE in
theorem wpq_seqs {K : St → Prop} : ∀ (l : List Oper) (k : Nat) (st : St), (∀ x ∈ l, quiet2 x.op = true) → (∀ j x, l[j]? = some x → ops[k + j]? = some x) → (∃ rows, st.own = own0 ++ rows) → wpq std E P own0 ops.toList K l st → Seqs P ops own0 l k st K
  | [], k, st, _, _, _, h => ⟨fun _ => .und, fun _ => [], fun _ => st, .refl _, ⟨st, h, .refl _⟩, fun j x hx => by simp at hx⟩
  | x :: r, k, st, hq, hl, hpre, h => by
    have hx : ops[k]? = some x := hl 0 x rfl
    have hr : ∀ j y, r[j]? = some y → ops[k + 1 + j]? = some y := fun j y hy => by rw [show k + 1 + j = k + (j + 1) by omega]; exact hl (j + 1) y (by simpa using hy)
    have ih : ∀ s1 : St, (∃ rows, s1.own = own0 ++ rows) → wpq std E P own0 ops.toList K r s1 → Seqs P ops own0 r (k + 1) s1 K := fun s1 hp => wpq_seqs r (k + 1) s1 (fun y hy => hq y (List.mem_cons_of_mem _ hy)) hr hp
    have hqx := hq x List.mem_cons_self
    -- a step in a state that is the same one
    have go : ∀ st1 : St, Eqv st1 st → (∀ st', Ag ops.toList own0 x st st' → ∀ (g : Gh) (a : Act) (w : World), Good P.G g st' a w → Region.wanted x (yielded ops a.tmps) = true) → stepQ std E P own0 x (wpq std E P own0 ops.toList K r) st1 → Seqs P ops own0 (x :: r) k st K := by
      intro st1 hs hw hk
      obtain ⟨v, rows, h1, ⟨s1, h2, h3⟩, h4⟩ := stepQ_sem (ops := ops) hE hqx (by rw [hs.own]; exact hpre) hk
      have h3' : Eqv s1 (putD st x v rows) := h3.trans (hs.putD x v rows)
      refine Seqs.cons (v := v) (rows := rows) (s1 := s1) ?_ h1 h3' (ih s1 ?_ h2)
      · intro g st' a w ha hg Q next hn
        unfold wpOp
        simp only [hx, hw st' ha g a w hg, if_true]
        exact .inl (h4 g st' a w (ha.eqv ⟨hs.N.symm, hs.base.symm, hs.own.symm, fun t => (hs.tm t).symm⟩) hg Q next hn)
      · obtain ⟨rows0, e⟩ := hpre
        rw [h3'.own]
        exact ⟨rows0 ++ rows, by simp [putD, e]⟩
    have skip : ∀ st1 : St, Eqv st1 st → (∀ st', Ag ops.toList own0 x st st' → ∀ (g : Gh) (a : Act) (w : World), Good P.G g st' a w → Region.wanted x (yielded ops a.tmps) = false) → putK (wpq std E P own0 ops.toList K r) st1 x.dst (.tup []) → Seqs P ops own0 (x :: r) k st K := by
      intro st1 hs hw hk
      obtain ⟨hd, hk⟩ := putK_of hk
      have h3 : Eqv { st1 with tm := updO st1.tm x.dst (.tup []) } (putD st x (.tup []) []) := by
        have := hs.putD x (.tup []) []
        have e1 : Eqv { st1 with tm := updO st1.tm x.dst (.tup []) } (putD st1 x (.tup []) []) := ⟨rfl, rfl, by simp [putD], fun t => rfl⟩
        exact e1.trans this
      refine Seqs.cons (v := .tup []) (rows := []) ?_ (fun _ => rfl) h3 (ih _ ?_ hk)
      · intro g st' a w ha hg Q next hn
        unfold wpOp
        simp only [hx, hw st' ha g a w hg, Bool.false_eq_true, if_false]
        refine hn g _ w ?_ (Ext.refl g w) (.refl _ _)
        have := putD_good hg (x := x) (v := .tup []) (y := undef) ⟨#[], rfl, trivial⟩ (fun d e => by rw [ha.N, ← hs.N]; exact hd d e)
        simpa [putD] using this
      · obtain ⟨rows0, e⟩ := hpre
        exact ⟨rows0, by show st1.own = _; rw [hs.own, e]⟩
    simp only [wpq] at h
    split at h
    · rename_i hgd
      exact go st (.refl _) (fun st' ha g a w hg => by simp [Region.wanted, hgd]) h
    · rename_i j want hgd
      split at h
      · exact h.elim
      · rename_i d hd
        split at h
        · rename_i b hlt hb
          have hlt : d < st.N := Nat.le_of_ble_eq_true hlt
          have hk := Eqv.know hb
          have hy : ∀ st', Ag ops.toList own0 x st st' → ∀ (g : Gh) (a : Act) (w : World), Good P.G g st' a w → yielded ops a.tmps j = some b := fun st' ha g a w hg =>
            yielded_eq hg hd (by rw [ha.N]; exact hlt) (by rw [ha.tm d (by simp [slots, hgd, hd])]; exact hb)
          cases b
          · cases want
            · exact go _ hk (fun st' ha g a w hg => by simp [Region.wanted, hgd, hy st' ha g a w hg]) h
            · exact skip _ hk (fun st' ha g a w hg => by simp [Region.wanted, hgd, hy st' ha g a w hg]) h
          · cases want
            · exact skip _ hk (fun st' ha g a w hg => by simp [Region.wanted, hgd, hy st' ha g a w hg]) h
            · exact go _ hk (fun st' ha g a w hg => by simp [Region.wanted, hgd, hy st' ha g a w hg]) h
        · rename_i hlt hb
          have hlt : d < st.N := Nat.le_of_ble_eq_true hlt
          exact skip _ (.refl _) (fun st' ha g a w hg => by
            have hy : yielded ops a.tmps j = none := yielded_none hg hd (by rw [ha.N]; exact hlt) (by rw [ha.tm d (by simp [slots, hgd, hd])]; exact hb)
            simp [Region.wanted, hgd, hy]) h
        · exact h.elim
end
end Go.En
