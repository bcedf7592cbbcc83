/-
  CODE OVER ABSTRACT STATES: what must hold ahead of a piece of code, as a proposition that can be reckoned; a function's contract. Own work; generic over the program.
-/
import Derived.Test.YtnkefikpejjjcaaDoorEnO
import Derived.Scope
set_option linter.unusedVariables false
set_option linter.unusedSectionVars false
set_option linter.unusedSimpArgs false
namespace Go.En

/-- A program, and what some of its package-level arrays hold. -/
structure PG where
  P : Program
  G : Nat → Option Cont
instance : Coe PG Program := ⟨PG.P⟩
structure GEnv (P : PG) (E : Env) : Prop where
  ok : EnvOK P.P E
  glob : E.G = P.G

theorem GEnv.to {P : PG} {E : Env} (h : GEnv P E) {g : Gh} {st : St} {a : Act} {w : World} (hg : Good P.G g st a w) : Good E.G g st a w := by rw [h.glob]; exact hg
theorem GEnv.of {P : PG} {E : Env} (h : GEnv P E) {g : Gh} {st : St} {a : Act} {w : World} (hg : Good E.G g st a w) : Good P.G g st a w := by rw [← h.glob]; exact hg

/-- A FUNCTION's CONTRACT: called with values that read as 'args', in memory where the blocks 'own' are handed over, it returns a value that reads as 'r', and 'Q r own'' holds. What was not handed over is as it was. -/
structure FnOK (P : PG) (f : Nat) (args : List V) (own : List OB) (Q : V → List OB → Prop) : Prop where
  run : ∀ (g : Gh) (w : World) (vs : Array Value), GOK P.G g → RdL g args vs.toList → Mem w g own → Calls P.P f vs w fun e w' => ∃ x r g' own', e = .returned x ∧ Rd g' r x ∧ Mem w' g' own' ∧ Ext g w g' w' ∧ Gle g g' ∧ Q r own'

/-- What the code's end may be. -/
def Post (G : Nat → Option Cont) (st : St) (g : Gh) (w : World) (K : Exit → St → Prop) (e : Exit) (a' : Act) (w' : World) : Prop :=
  ∃ g' st', Good G g' st' a' w' ∧ Ext g w g' w' ∧ st'.base = st.base ∧ st'.N = st.N ∧ Low st.base g g' ∧ K e st'

/-- The code, begun in a state that reads as 'st', ends as K tells. -/
structure AW (P : PG) (c : Code) (K : Exit → St → Prop) (st : St) : Prop where
  run : ∀ (g : Gh) (w : World) (a : Act), Good P.G g st a w → c.wp P (Post P.G st g w K) a w

/-- A region whose order is open. -/
structure AD (P : PG) (id : Nat) (ops : Array Oper) (K : St → Prop) (st : St) : Prop where
  run : ∀ (g : Gh) (w : World) (a : Act), Good P.G g st a w → (Code.region id ops true).wp P (Post P.G st g w fun e st' => match e with | .normal => K st' | _ => False) a w

def putK (K : St → Prop) (st : St) (dst : Option Nat) (v : V) : Prop :=
  match dst with
  | none => K st
  | some d => match Nat.blt d st.N with | true => K { st with tm := upd st.tm d v } | false => False

def dstOf (ops : List Oper) (j : Nat) : Option Nat := match nth ops j with | some o => o.dst | none => none

def stepK (o : Ops) (E : Env) (P : PG) (x : Oper) (K : St → Prop) (st : St) : Prop :=
  match aop o E st x.type x.op with
  | .ok v st' => putK K st' x.dst v
  | .pre p v st' => p ∧ putK K st' x.dst v
  | .br b v u => (match b with | true => putK K st x.dst v | false => putK K st x.dst u)
  | .call f args => FnOK P f args st.own fun r own' => putK K { st with own := own' } x.dst r
  | .bad => False

/-- The operations of a region, in the order of the text. -/
def wpo (o : Ops) (E : Env) (P : PG) (ops : List Oper) (K : St → Prop) : List Oper → St → Prop
  | [], st => K st
  | x :: r, st =>
    match x.guard with
    | none => stepK o E P x (wpo o E P ops K r) st
    | some (j, want) =>
      match dstOf ops j with
      | none => False
      | some d =>
        match Nat.blt d st.N, get st.tm d with
        | true, .bool b =>
          (match b with
           | true => (match want with
             | true => stepK o E P x (wpo o E P ops K r) { st with tm := upd st.tm d (.bool true) }
             | false => putK (wpo o E P ops K r) { st with tm := upd st.tm d (.bool true) } x.dst (.tup []))
           | false => (match want with
             | true => putK (wpo o E P ops K r) { st with tm := upd st.tm d (.bool false) } x.dst (.tup [])
             | false => stepK o E P x (wpo o E P ops K r) { st with tm := upd st.tm d (.bool false) }))
        | true, .tup [] => putK (wpo o E P ops K r) st x.dst (.tup [])
        | _, _ => False

def seqK (K2 : St → Prop) (K : Exit → St → Prop) (e : Exit) (st' : St) : Prop := match e with | .normal => K2 st' | e => K e st'
def blkK (id : Nat) (K : Exit → St → Prop) (e : Exit) (st' : St) : Prop := match e with | .exit j => (match Nat.beq j id with | true => K .normal st' | false => K (.exit j) st') | e => K e st'
def scpK (K : Exit → St → Prop) (e : Exit) (st' : St) : Prop := match e with | .goto _ => False | e => K e st'

def wpc (o : Ops) (E : Env) (P : PG) : Code → (Exit → St → Prop) → St → Prop
  | .skip, K, st => K .normal st
  | .region id ops false, K, st => wpo o E P ops.toList (K .normal) ops.toList st
  | .region id ops true, K, st => AD P id ops (K .normal) st
  | .seq x y, K, st => wpc o E P x (seqK (wpc o E P y K) K) st
  | .cond c x y, K, st =>
    (match ev o E st.tm 0 c with
     | .bool b => (match b with | true => wpc o E P x K st | false => wpc o E P y K st)
     | _ => False)
  | .block id c, K, st => wpc o E P c (blkK id K) st
  | .loop c, K, st => AW P (.loop c) K st
  | .exit id, K, st => K (.exit id) st
  | .ret, K, st => K .ret st
  | .label _, K, st => K .normal st
  | .scope c, K, st => wpc o E P c (scpK K) st
  | _, _, _ => False

/-! ### Soundness -/
theorem LetsOut.mono {Q Q' : Exit → Act → World → Prop} (hq : ∀ e a w, Q e a w → Q' e a w) (h : LetsOut Q) : LetsOut Q' := by
  obtain ⟨a, w, h⟩ := h
  exact ⟨a, w, hq _ _ _ h⟩
theorem upon_mono {P : Program} {o : Oper} {a : Act} {K K' : Act → World → Prop} {Q Q' : Exit → Act → World → Prop} (hk : ∀ a w, K a w → K' a w) (hq : ∀ e a w, Q e a w → Q' e a w) {r : Result Next} (h : o.upon P a K Q r) : o.upon P a K' Q' r := by
  cases r with
  | ok n w =>
    cases n <;> simp only [Oper.upon] at h ⊢ <;> first
      | exact hk _ _ h
      | exact h
      | exact Calls.mono h (fun e w'' he => by cases e <;> first | exact hk _ _ he | exact hq _ _ _ he | exact LetsOut.mono hq he)
      | exact Rows.mono h (fun _ _ he => hk _ _ he)
  | halt x w => cases x <;> simp only [Oper.upon] at h ⊢ <;> first | exact hq _ _ _ h | exact h
theorem wpList_mono {P : Program} {ops : Array Oper} {Q Q' : Exit → Act → World → Prop} (hq : ∀ e a w, Q e a w → Q' e a w) : ∀ {l : List Oper} {a : Act} {w : World}, wpList P ops Q l a w → wpList P ops Q' l a w
  | [], a, w, h => hq _ _ _ h
  | x :: r, a, w, h => by
    unfold wpList at h ⊢
    split
    · rename_i hw
      rw [if_pos hw] at h
      rcases h with h | ⟨h1, h2⟩
      · exact .inl (upon_mono (fun a w h => wpList_mono hq h) hq h)
      · exact .inr ⟨h1, LetsOut.mono hq h2⟩
    · rename_i hw
      rw [if_neg hw] at h
      exact wpList_mono hq h

section
variable {P : PG} {E : Env} (hE : GEnv P E)

theorem Post.mono {st : St} {g : Gh} {w : World} {K K' : Exit → St → Prop} (h : ∀ e st', st'.base = st.base → st'.N = st.N → K e st' → K' e st') {e : Exit} {a : Act} {w' : World} (p : Post P.G st g w K e a w') : Post P.G st g w K' e a w' := by
  obtain ⟨g', st', h1, h2, h3, h4, h5, h6⟩ := p
  exact ⟨g', st', h1, h2, h3, h4, h5, h e st' h3 h4 h6⟩

theorem Post.of {st st1 : St} {g g1 : Gh} {w w1 : World} {K : Exit → St → Prop} (h : Ext g w g1 w1) (hb : st1.base = st.base) (hn : st1.N = st.N) (hl : Low st.base g g1) {e : Exit} {a : Act} {w' : World} (p : Post P.G st1 g1 w1 K e a w') : Post P.G st g w K e a w' := by
  obtain ⟨g', st', h1, h2, h3, h4, h5, h6⟩ := p
  exact ⟨g', st', h1, h.trans h2, h3.trans hb, h4.trans hn, hl.trans (by rw [← hb]; exact h5), h6⟩

theorem put_good {g : Gh} {st : St} {a : Act} {w : World} (hg : Good P.G g st a w) {d : Nat} {v : V} {x : Value} (hr : Rd g v x) (hd : d < st.N) : Good P.G g { st with tm := upd st.tm d v } (a.put (some d) x) w := by
  refine ⟨⟨?_, hg.rel.defers, hg.rel.glob, fun i => ?_⟩, hg.mem⟩
  · simp [Act.put, hg.rel.size]
  · show Rd g (get (upd st.tm d v) i) _
    rw [get_upd]
    simp only [Act.put]
    by_cases hi : i = d
    · subst hi
      rw [if_pos rfl]
      have : (a.tmps.setIfInBounds i x).getD i undef = x := by
        rw [Array.getD_eq_getD_getElem?, Array.getElem?_setIfInBounds_self_of_lt (by rw [hg.rel.size]; exact hd)]
        rfl
      rw [this]
      exact hr
    · rw [if_neg hi]
      have : (a.tmps.setIfInBounds d x).getD i undef = a.tmps.getD i undef := by
        rw [Array.getD_eq_getD_getElem?, Array.getElem?_setIfInBounds_ne (fun e => hi e.symm), ← Array.getD_eq_getD_getElem?]
      rw [this]
      exact hg.rel.slot i

/-- A literal for what is known of a slot. -/
theorem Good.know {g : Gh} {st : St} {a : Act} {w : World} (hg : Good P.G g st a w) {d : Nat} {b : Bool} (h : get st.tm d = .bool b) : Good P.G g { st with tm := upd st.tm d (.bool b) } a w := by
  refine ⟨⟨hg.rel.size, hg.rel.defers, hg.rel.glob, fun i => ?_⟩, hg.mem⟩
  show Rd g (get (upd st.tm d (.bool b)) i) _
  rw [get_upd]
  by_cases hi : i = d
  · subst hi
    rw [if_pos rfl, ← h]
    exact hg.rel.slot i
  · rw [if_neg hi]
    exact hg.rel.slot i

theorem putK_ok {g : Gh} {st : St} {a : Act} {w : World} (hg : Good P.G g st a w) {dst : Option Nat} {v : V} {x : Value} (hr : Rd g v x) {K : St → Prop} (h : putK K st dst v) :
    ∃ st', Good P.G g st' (a.put dst x) w ∧ st'.base = st.base ∧ st'.N = st.N ∧ K st' := by
  unfold putK at h
  split at h
  · exact ⟨st, hg, rfl, rfl, h⟩
  · rename_i d
    split at h
    · rename_i hlt
      exact ⟨_, put_good hg hr (Nat.le_of_ble_eq_true hlt), rfl, rfl, h⟩
    · exact h.elim

/-- One operation. -/
def NextOK (P : PG) (ops : Array Oper) (st : St) (g : Gh) (w : World) (K : St → Prop) (next : Act → World → Prop) : Prop :=
  ∀ g' st' a' w', Good P.G g' st' a' w' → Ext g w g' w' → st'.base = st.base → st'.N = st.N → Low st.base g g' → K st' → next a' w'

include hE in
theorem stepK_ok {g : Gh} {st : St} {a : Act} {w : World} (hg : Good P.G g st a w) (x : Oper) {K : St → Prop} (h : stepK std E P x K st) (ops : Array Oper) {next : Act → World → Prop} {Q : Exit → Act → World → Prop} (hn : NextOK P ops st g w K next) :
    x.wp P a w next Q := by
  have hop := aop_ok hE.ok (hE.to hg) x
  unfold stepK at h
  unfold Oper.wp
  have done : ∀ {v : V} {st1 : St}, OpOK P E (execOp a.eval x) g a w st v st1 → putK K st1 x.dst v → x.upon P a next Q ((execOp a.eval x).run P w) := by
    intro v st1 ho hp
    obtain ⟨y, g', w', hr, hrd, hg', hext, hb, hN, hlow⟩ := ho
    obtain ⟨st2, h1, h2, h3, h4⟩ := putK_ok (hE.of hg') hrd hp
    have := hn g' st2 _ w' h1 hext (h2.trans hb) (h3.trans hN) hlow h4
    rcases hr with hr | ⟨hr, rfl⟩ <;> rw [hr] <;> exact this
  split at h
  · rename_i v st1 he
    rw [he] at hop
    exact done hop h
  · rename_i p v st1 he
    rw [he] at hop
    exact done (hop h.1) h.2
  · rename_i b v u he
    rw [he] at hop
    cases b
    · exact done hop h
    · exact done hop h
  · rename_i f args he
    rw [he] at hop
    obtain ⟨vs, hr, hrl⟩ := hop
    rw [hr]
    refine (h.run g w vs hg.rel.glob hrl hg.mem).mono fun e w' he => ?_
    obtain ⟨y, r, g', own', rfl, hrd, hmem, hext, hle, hq⟩ := he
    have hg' : Good P.G g' { st with own := own' } a w' := ⟨hg.rel.mono hle, hmem⟩
    obtain ⟨st2, h1, h2, h3, h4⟩ := putK_ok hg' hrd hq
    exact hn g' st2 _ w' h1 hext h2 h3 (.of_le hle) h4
  · exact h.elim

theorem yielded_eq {g : Gh} {st : St} {a : Act} {w : World} (hg : Good P.G g st a w) {ops : Array Oper} {j d : Nat} {b : Bool} (hd : dstOf ops.toList j = some d) (hlt : d < st.N) (h : get st.tm d = .bool b) : yielded ops a.tmps j = some b := by
  unfold dstOf at hd
  rw [nth_eq] at hd
  have hs : a.tmps.getD d undef = .bool b := by
    have := hg.rel.slot d
    rw [h] at this
    exact this
  have hsz : d < a.tmps.size := by rw [hg.rel.size]; exact hlt
  have hs' : a.tmps[d]? = some (.bool b) := by
    rw [Array.getD_eq_getD_getElem?, Array.getElem?_eq_getElem hsz] at hs
    rw [Array.getElem?_eq_getElem hsz]
    exact congrArg some hs
  unfold yielded
  split at hd
  · rename_i o ho
    have ho' : ops[j]? = some o := by simpa using ho
    simp [ho', hd, hs']
  · cases hd

theorem yielded_none {g : Gh} {st : St} {a : Act} {w : World} (hg : Good P.G g st a w) {ops : Array Oper} {j d : Nat} (hd : dstOf ops.toList j = some d) (hlt : d < st.N) (h : get st.tm d = .tup []) : yielded ops a.tmps j = none := by
  unfold dstOf at hd
  rw [nth_eq] at hd
  have hs : a.tmps.getD d undef = undef := by
    have := hg.rel.slot d
    rw [h] at this
    obtain ⟨vs, hx, hl⟩ := this
    have : vs.toList = [] := by
      cases hv : vs.toList with
      | nil => rfl
      | cons x r => rw [hv] at hl; exact hl.elim
    rw [hx]
    have : vs = #[] := Array.toList_eq_nil_iff.1 this
    rw [this]; rfl
  have hsz : d < a.tmps.size := by rw [hg.rel.size]; exact hlt
  have hs' : a.tmps[d]? = some undef := by
    rw [Array.getD_eq_getD_getElem?, Array.getElem?_eq_getElem hsz] at hs
    rw [Array.getElem?_eq_getElem hsz]
    exact congrArg some hs
  unfold yielded
  split at hd
  · rename_i o ho
    have ho' : ops[j]? = some o := by simpa using ho
    simp [ho', hd, hs', undef]
  · cases hd

include hE in
theorem wpo_ok {ops : Array Oper} {K : St → Prop} : ∀ (l : List Oper) {g : Gh} {st : St} {a : Act} {w : World}, Good P.G g st a w → wpo std E P ops.toList K l st →
    wpList P ops (Post P.G st g w fun e st' => match e with | .normal => K st' | _ => False) l a w
  | [], g, st, a, w, hg, h => ⟨g, st, hg, Ext.refl g w, rfl, rfl, .refl _ _, h⟩
  | x :: r, g, st, a, w, hg, h => by
    have go : ∀ {st1 : St}, Good P.G g st1 a w → st1.base = st.base → st1.N = st.N → stepK std E P x (wpo std E P ops.toList K r) st1 →
        x.wp P a w (wpList P ops (Post P.G st g w fun e st' => match e with | .normal => K st' | _ => False) r) (Post P.G st g w fun e st' => match e with | .normal => K st' | _ => False) := by
      intro st1 hg1 hb hN hs
      refine stepK_ok hE hg1 x hs ops fun g' st' a' w' h1 h2 h3 h4 h5 h6 => ?_
      have := wpo_ok r h1 h6
      refine wpList_mono (fun e a2 w2 p => ?_) this
      exact Post.of h2 (h3.trans hb) (h4.trans hN) (by rw [← hb]; exact h5) p
    have skip : ∀ {st1 : St}, Good P.G g st1 a w → st1.base = st.base → st1.N = st.N → putK (wpo std E P ops.toList K r) st1 x.dst (.tup []) →
        wpList P ops (Post P.G st g w fun e st' => match e with | .normal => K st' | _ => False) r (a.put x.dst undef) w := by
      intro st1 hg1 hb hN hs
      obtain ⟨st2, h1, h2, h3, h4⟩ := putK_ok hg1 (x := undef) (v := .tup []) ⟨#[], rfl, trivial⟩ hs
      refine wpList_mono (fun e a2 w2 p => ?_) (wpo_ok r h1 h4)
      exact Post.of (Ext.refl g w) (h2.trans hb) (h3.trans hN) (.refl _ _) p
    simp only [wpo] at h
    unfold wpList
    split at h
    · rename_i hgd
      rw [if_pos (by simp [Region.wanted, hgd])]
      exact .inl (go hg rfl rfl h)
    · rename_i j want hgd
      split at h
      · exact h.elim
      · rename_i d hd
        split at h
        · rename_i b hlt hb
          have hlt : d < st.N := Nat.le_of_ble_eq_true hlt
          have hy := yielded_eq hg hd hlt hb
          have hk := hg.know hb
          cases b
          · cases want
            · rw [if_pos (by simp [Region.wanted, hgd, hy])]
              exact .inl (go hk rfl rfl h)
            · rw [if_neg (by simp [Region.wanted, hgd, hy])]
              exact skip hk rfl rfl h
          · cases want
            · rw [if_neg (by simp [Region.wanted, hgd, hy])]
              exact skip hk rfl rfl h
            · rw [if_pos (by simp [Region.wanted, hgd, hy])]
              exact .inl (go hk rfl rfl h)
        · rename_i hlt hb
          have hlt : d < st.N := Nat.le_of_ble_eq_true hlt
          have hy := yielded_none hg hd hlt hb
          rw [if_neg (by simp [Region.wanted, hgd, hy])]
          exact skip hg rfl rfl h
        · exact h.elim

include hE in
theorem wpc_ok : ∀ (c : Code) {K : Exit → St → Prop} {st : St}, wpc std E P c K st → AW P c K st
  | .skip, K, st, h => ⟨fun g w a hg => wp_skip ⟨g, st, hg, Ext.refl g w, rfl, rfl, .refl _ _, h⟩⟩
  | .region id ops false, K, st, h => ⟨fun g w a hg => wp_region_list (wpList_mono (fun e a' w' p => p.mono (fun e st' _ _ hk => by cases e <;> first | exact hk | exact hk.elim)) (wpo_ok hE ops.toList hg h))⟩
  | .region id ops true, K, st, h => ⟨fun g w a hg => wp_mono (h.run g w a hg) fun e a' w' p => p.mono fun e st' _ _ hk => by cases e <;> first | exact hk | exact hk.elim⟩
  | .seq x y, K, st, h => ⟨fun g w a hg => wp_seq (wp_mono ((wpc_ok x h).run g w a hg) fun e a' w' p => by
      obtain ⟨g', st', h1, h2, h3, h4, h5, h6⟩ := p
      cases e with
      | normal => exact wp_mono ((wpc_ok y h6).run g' w' a' h1) fun e a w p => Post.of h2 h3 h4 h5 p
      | exit id => exact ⟨g', st', h1, h2, h3, h4, h5, h6⟩
      | goto l => exact ⟨g', st', h1, h2, h3, h4, h5, h6⟩
      | ret => exact ⟨g', st', h1, h2, h3, h4, h5, h6⟩
      | panic ch => exact ⟨g', st', h1, h2, h3, h4, h5, h6⟩
      | outgrown => exact ⟨g', st', h1, h2, h3, h4, h5, h6⟩)⟩
  | .cond c x y, K, st, h => by
    simp only [wpc] at h
    split at h
    · rename_i b hb
      refine ⟨fun g w a hg => ?_⟩
      have hc := ev_ok hE.ok (hE.to hg).rel 0 c
      rw [hb] at hc
      have hc : a.eval c = .bool b := hc
      cases b with
      | true => exact wp_cond_true hc ((wpc_ok x h).run g w a hg)
      | false => exact wp_cond_false hc ((wpc_ok y h).run g w a hg)
    · exact h.elim
  | .block id c, K, st, h => ⟨fun g w a hg => wp_block (wp_mono ((wpc_ok c h).run g w a hg) fun e a' w' p => by
      obtain ⟨g', st', h1, h2, h3, h4, h5, h6⟩ := p
      cases e with
      | exit j =>
        simp only [blkK] at h6
        split at h6
        · rename_i hj
          have hj := Nat.eq_of_beq_eq_true hj
          subst hj
          simp only [Exit.inBlock, if_true]
          exact ⟨g', st', h1, h2, h3, h4, h5, h6⟩
        · rename_i hj
          have hj := Nat.ne_of_beq_eq_false hj
          simp only [Exit.inBlock, hj, if_false]
          exact ⟨g', st', h1, h2, h3, h4, h5, h6⟩
      | normal => exact ⟨g', st', h1, h2, h3, h4, h5, h6⟩
      | goto l => exact ⟨g', st', h1, h2, h3, h4, h5, h6⟩
      | ret => exact ⟨g', st', h1, h2, h3, h4, h5, h6⟩
      | panic ch => exact ⟨g', st', h1, h2, h3, h4, h5, h6⟩
      | outgrown => exact ⟨g', st', h1, h2, h3, h4, h5, h6⟩)⟩
  | .loop c, K, st, h => h
  | .exit id, K, st, h => ⟨fun g w a hg => wp_exit ⟨g, st, hg, Ext.refl g w, rfl, rfl, .refl _ _, h⟩⟩
  | .ret, K, st, h => ⟨fun g w a hg => wp_ret ⟨g, st, hg, Ext.refl g w, rfl, rfl, .refl _ _, h⟩⟩
  | .label l, K, st, h => ⟨fun g w a hg => wp_label ⟨g, st, hg, Ext.refl g w, rfl, rfl, .refl _ _, h⟩⟩
  | .scope c, K, st, h => ⟨fun g w a hg => wp_scope_straight (wp_mono ((wpc_ok c h).run g w a hg) fun e a' w' p => by
      obtain ⟨g', st', h1, h2, h3, h4, h5, h6⟩ := p
      cases e with
      | goto l => exact h6.elim
      | exit j => exact ⟨g', st', h1, h2, h3, h4, h5, h6⟩
      | normal => exact ⟨g', st', h1, h2, h3, h4, h5, h6⟩
      | ret => exact ⟨g', st', h1, h2, h3, h4, h5, h6⟩
      | panic ch => exact ⟨g', st', h1, h2, h3, h4, h5, h6⟩
      | outgrown => exact ⟨g', st', h1, h2, h3, h4, h5, h6⟩)⟩
  | .rangeFunc .., K, st, h => h.elim
  | .goto l, K, st, h => h.elim
  | .refuse _, K, st, h => h.elim

end
end Go.En
