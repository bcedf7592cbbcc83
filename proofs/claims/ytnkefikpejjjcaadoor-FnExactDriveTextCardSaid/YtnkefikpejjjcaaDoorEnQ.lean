/-
  STATES MADE COARSER, BLOCKS RENUMBERED; LOOPS; a function's contract out of its body. Own work; generic over the program.
-/
import Derived.Test.YtnkefikpejjjcaaDoorEnP
set_option linter.unusedVariables false
set_option linter.unusedSectionVars false
set_option linter.unusedSimpArgs false
namespace Go.En

/-- Is i among the places? At which? -/
def mem1 : List Nat → Nat → Bool
  | [], _ => false
  | j :: r, i => match Nat.beq i j with | true => true | false => mem1 r i
def pos1 : List Nat → Nat → Nat
  | [], _ => 0
  | j :: r, i => match Nat.beq i j with | true => 0 | false => Nat.succ (pos1 r i)
def nodup1 : List Nat → Bool
  | [] => true
  | j :: r => match mem1 r j with | true => false | false => nodup1 r
def all1 (p : Nat → Bool) : List Nat → Bool
  | [] => true
  | j :: r => match p j with | true => all1 p r | false => false

theorem mem1_iff : ∀ {l : List Nat} {i : Nat}, mem1 l i = true ↔ i ∈ l
  | [], i => by simp [mem1]
  | j :: r, i => by
    simp only [mem1]
    split
    · rename_i h; simp [Nat.eq_of_beq_eq_true h]
    · rename_i h; simp [Nat.ne_of_beq_eq_false h, mem1_iff]
theorem pos1_get : ∀ {l : List Nat} {i : Nat}, mem1 l i = true → l[pos1 l i]? = some i
  | [], i, h => by cases h
  | j :: r, i, h => by
    cases e : Nat.beq i j with
    | true => simp only [pos1, e]; rw [Nat.eq_of_beq_eq_true e]; simp
    | false =>
      simp only [mem1, e] at h
      simp only [pos1, e]
      simpa using pos1_get h
theorem nodup1_ok : ∀ {l : List Nat}, nodup1 l = true → l.Nodup
  | [], _ => List.nodup_nil
  | j :: r, h => by
    simp only [nodup1] at h
    split at h
    · cases h
    · rename_i e
      exact List.nodup_cons.2 ⟨fun hm => (by rw [mem1_iff.2 hm] at e; cases e), nodup1_ok h⟩
theorem all1_ok {p : Nat → Bool} : ∀ {l : List Nat}, all1 p l = true → ∀ i ∈ l, p i = true
  | [], _, i, h => by cases h
  | j :: r, h, i, hi => by
    simp only [all1] at h
    split at h
    · rename_i e
      rcases List.mem_cons.1 hi with rfl | hi
      · exact e
      · exact all1_ok h i hi
    · cases h

/-- A value in the new numbers; what has none is forgotten. -/
def reV (π : List Nat) (v : V) : V := match hs (mem1 π) v with | true => ren (pos1 π) v | false => .und
def reL (π : List Nat) : List V → List V
  | [] => []
  | v :: r => reV π v :: reL π r
def reO (π : List Nat) : OB → OB
  | .cells cs => .cells (reL π cs)
  | ob => ob
def subO (π : List Nat) (own : List OB) : List Nat → List OB
  | [] => []
  | i :: r => (match nth own i with | some ob => reO π ob | none => .dead) :: subO π own r
def reT (π : List Nat) (tm : List (Nat × V)) : List Nat → List (Nat × V)
  | [] => []
  | i :: r => (i, reV π (get tm i)) :: reT π tm r

/-- The state over the slots 'keep' and the blocks 'π'. -/
def reS (π keep : List Nat) (st : St) : St := { st with tm := reT π st.tm keep, own := subO π st.own π }

def Gh.sub (g : Gh) (π : List Nat) : Gh := { g with ids := π.map fun i => (g.ids[i]?).getD (.row .nilFunc) }

section
variable {P : PG} {E : Env} {g : Gh} {st : St} {a : Act} {w : World}

theorem sub_ids {π : List Nat} (hr : ∀ i ∈ π, i < g.ids.length) : ∀ (i : Nat) (x : Id), mem1 π i = true → g.ids[i]? = some x → (g.sub π).ids[pos1 π i]? = some x := by
  intro i x hm hx
  show (π.map _)[pos1 π i]? = some x
  rw [List.getElem?_map, pos1_get hm]
  simp [hx]

theorem Rd_re {π : List Nat} (hr : ∀ i ∈ π, i < g.ids.length) {v : V} {x : Value} (h : Rd g v x) : Rd (g.sub π) (reV π v) x := by
  unfold reV
  split
  · rename_i hh
    exact Rd_ren (g := g) (g' := g.sub π) (fun _ _ h => h) (sub_ids hr) v x hh h
  · trivial
theorem RdL_re {π : List Nat} (hr : ∀ i ∈ π, i < g.ids.length) : ∀ {l : List V} {xs : List Value}, RdL g l xs → RdL (g.sub π) (reL π l) xs
  | [], [], _ => trivial
  | [], _ :: _, h => h.elim
  | _ :: _, [], h => h.elim
  | _ :: _, _ :: _, h => ⟨Rd_re hr h.1, RdL_re hr h.2⟩

theorem subO_get (π : List Nat) (own : List OB) : ∀ (l : List Nat) (k : Nat), (subO π own l)[k]? = (l[k]?).map fun i => match own[i]? with | some ob => reO π ob | none => .dead
  | [], k => by simp [subO]
  | i :: r, 0 => by simp [subO, nth_eq]
  | i :: r, k + 1 => by simpa [subO] using subO_get π own r k
theorem subO_length (π : List Nat) (own : List OB) : ∀ l : List Nat, (subO π own l).length = l.length
  | [] => rfl
  | i :: r => by simp [subO, subO_length π own r]

theorem reO_live (π : List Nat) (ob : OB) : (reO π ob).live = ob.live := by cases ob <;> rfl
theorem OBin_re {π : List Nat} (hr : ∀ i ∈ π, i < g.ids.length) {ob : OB} {id : Id} (h : OBin w g ob id) : OBin w (g.sub π) (reO π ob) id := by
  cases ob with
  | dead => trivial
  | row e c => cases id <;> exact h
  | cells cs =>
    cases id with
    | cell b => obtain ⟨arr, e, hb, hl, h1⟩ := h; exact ⟨arr, e, hb, RdL_re hr hl, h1⟩
    | row v => exact h.elim

theorem Mem.sub {own : List OB} (h : Mem w g own) {π : List Nat} (hr : ∀ i ∈ π, i < own.length) (hn : π.Nodup) : Mem w (g.sub π) (subO π own π) := by
  have hr' : ∀ i ∈ π, i < g.ids.length := fun i hi => by rw [h.len]; exact hr i hi
  have key : ∀ {k : Nat} {o : OB} {x : Id}, (subO π own π)[k]? = some o → (g.sub π).ids[k]? = some x → ∃ i o', π[k]? = some i ∧ own[i]? = some o' ∧ g.ids[i]? = some x ∧ o = reO π o' := by
    intro k o x h1 h2
    rw [subO_get] at h1
    have h2 : (π.map fun i => (g.ids[i]?).getD (.row .nilFunc))[k]? = some x := h2
    rw [List.getElem?_map] at h2
    cases hk : π[k]? with
    | none => rw [hk] at h1; cases h1
    | some i =>
      rw [hk] at h1 h2
      have hi : i ∈ π := List.mem_of_getElem? hk
      have e1 := List.getElem?_eq_getElem (hr i hi)
      have e2 := List.getElem?_eq_getElem (hr' i hi)
      simp only [Option.map_some, Option.some.injEq, e1, e2, Option.getD_some] at h1 h2
      exact ⟨i, own[i]'(hr i hi), rfl, e1, by rw [e2, h2], h1.symm⟩
  refine ⟨by rw [subO_length]; simp [Gh.sub], h.still, fun k o x h1 h2 => ?_, fun k o x b h1 h2 hl hb => ?_, fun k j ok oj x y b hkj h1 h2 h3 h4 hlk hlj hx hy => ?_⟩
  · obtain ⟨i, o', _, e1, e2, rfl⟩ := key h1 h2
    exact OBin_re hr' (h.isIn i o' x e1 e2)
  · obtain ⟨i, o', _, e1, e2, rfl⟩ := key h1 h2
    rw [reO_live] at hl
    exact h.apart i o' x b e1 e2 hl hb
  · obtain ⟨i, o', p1, e1, e2, rfl⟩ := key h1 h3
    obtain ⟨i', o'', p2, e1', e2', rfl⟩ := key h2 h4
    rw [reO_live] at hlk hlj
    refine h.two i i' o' o'' x y b (fun e => hkj ?_) e1 e1' e2 e2' hlk hlj hx hy
    subst e
    have q1 := (List.getElem?_eq_some_iff.1 p1)
    have q2 := (List.getElem?_eq_some_iff.1 p2)
    obtain ⟨l1, q1⟩ := q1
    obtain ⟨l2, q2⟩ := q2
    exact (List.getElem_inj (h₀ := l1) (h₁ := l2) hn).1 (q1.trans q2.symm)

theorem get_reT (π : List Nat) (tm : List (Nat × V)) : ∀ (l : List Nat) (i : Nat), get (reT π tm l) i = .und ∨ get (reT π tm l) i = reV π (get tm i)
  | [], i => .inl rfl
  | j :: r, i => by
    simp only [reT, get]
    split
    · rename_i h; rw [Nat.eq_of_beq_eq_true h]; exact .inr rfl
    · exact get_reT π tm r i

/-- Are these places those of the blocks, the handed-in ones first? -/
def okπ (π : List Nat) (n base : Nat) : Bool :=
  match nodup1 π, all1 (fun i => Nat.blt i n) π, Nat.ble base (len π), all1 (fun i => match nth π i with | some j => Nat.beq i j | none => false) (List.range base) with
  | true, true, true, true => true
  | _, _, _, _ => false

theorem okπ_ok {π : List Nat} {n base : Nat} (h : okπ π n base = true) : π.Nodup ∧ (∀ i ∈ π, i < n) ∧ ∀ i, i < base → π[i]? = some i := by
  unfold okπ at h
  split at h
  · rename_i h1 h2 h3 h4
    refine ⟨nodup1_ok h1, fun i hi => Nat.le_of_ble_eq_true (all1_ok h2 i hi), fun i hi => ?_⟩
    have := all1_ok h4 i (List.mem_range.2 hi)
    rw [nth_eq] at this
    split at this
    · rename_i j hj; rw [hj, Nat.eq_of_beq_eq_true this]
    · cases this
  · cases h

theorem Ext.sub {π : List Nat} (hr : ∀ i ∈ π, i < g.ids.length) : Ext g w (g.sub π) w := by
  refine ⟨rfl, rfl, rfl, Nat.le_refl _, fun _ _ _ => rfl, fun _ _ h => h, fun k x b h hb => .inl ?_, fun _ _ h => .inl h⟩
  have h : (π.map fun i => (g.ids[i]?).getD (.row .nilFunc))[k]? = some x := h
  rw [List.getElem?_map] at h
  cases hk : π[k]? with
  | none => rw [hk] at h; cases h
  | some i =>
    rw [hk] at h
    have e := List.getElem?_eq_getElem (hr i (List.mem_of_getElem? hk))
    simp only [Option.map_some, e, Option.getD_some, Option.some.injEq] at h
    exact ⟨i, x, by rw [e, h], hb⟩

theorem Low.sub {π : List Nat} {n : Nat} (h : ∀ i, i < n → π[i]? = some i) : Low n g (g.sub π) := by
  intro i x hi hx
  show (π.map _)[i]? = some x
  rw [List.getElem?_map, h i hi]
  simp [hx]

theorem Good.re (hg : Good P.G g st a w) {π keep : List Nat} (hr : ∀ i ∈ π, i < st.own.length) (hn : π.Nodup) : Good P.G (g.sub π) (reS π keep st) a w := by
  have hr' : ∀ i ∈ π, i < g.ids.length := fun i hi => by rw [hg.mem.len]; exact hr i hi
  refine ⟨⟨hg.rel.size, hg.rel.defers, hg.rel.glob, fun i => ?_⟩, hg.mem.sub hr hn⟩
  show Rd (g.sub π) (get (reT π st.tm keep) i) _
  rcases get_reT π st.tm keep i with h | h
  · rw [h]; trivial
  · rw [h]; exact Rd_re hr' (hg.rel.slot i)

/-- A coarser state ahead of a piece of code. -/
theorem AW.coarse (π keep : List Nat) {c : Code} {K : Exit → St → Prop} (hπ : okπ π (len st.own) st.base = true) (h : AW P c K (reS π keep st)) : AW P c K st := by
  obtain ⟨h1, h2, h3⟩ := okπ_ok hπ
  rw [len_eq] at h2
  refine ⟨fun g w a hg => ?_⟩
  have hr' : ∀ i ∈ π, i < g.ids.length := fun i hi => by rw [hg.mem.len]; exact h2 i hi
  exact wp_mono (h.run _ w a (hg.re h2 h1)) fun e a' w' p => Post.of (Ext.sub hr') rfl rfl (Low.sub h3) p

theorem least {p : Nat → Prop} (h : ∃ n, p n) : ∃ n, p n ∧ ∀ m, p m → n ≤ m := by
  obtain ⟨n, hn⟩ := h
  induction n using Nat.strongRecOn with
  | _ n ih =>
    by_cases hm : ∃ m, m < n ∧ p m
    · obtain ⟨m, hlt, hp⟩ := hm
      exact ih m hlt hp
    · exact ⟨n, hn, fun m hp => Nat.le_of_not_lt fun hlt => hm ⟨m, hlt, hp⟩⟩

/-- A LOOP: its states at the head are a family; each round goes to another one of it, by a measure that falls. -/
theorem AW.loop {σ : Type} (S : σ → St) (μ : σ → Nat) (s0 : σ) {c : Code} {K : Exit → St → Prop} (hb : ∀ s, (S s).base = (S s0).base) (hN : ∀ s, (S s).N = (S s0).N)
    (h : ∀ s, AW P c (fun e st' => match e with | .normal => ∃ s' π keep, okπ π (len st'.own) st'.base = true ∧ reS π keep st' = S s' ∧ μ s' < μ s | e => K e st') (S s)) : AW P (.loop c) K (S s0) := by
  refine ⟨fun g w a hg => ?_⟩
  let p : Act → World → Nat → Prop := fun a' w' n => ∃ s g', μ s = n ∧ Good P.G g' (S s) a' w' ∧ Ext g w g' w' ∧ Low (S s0).base g g'
  let m : Act → World → Nat := fun a' w' => Classical.epsilon fun n => p a' w' n ∧ ∀ k, p a' w' k → n ≤ k
  have hm : ∀ {a' w'}, (∃ n, p a' w' n) → p a' w' (m a' w') ∧ ∀ k, p a' w' k → m a' w' ≤ k := fun hp => Classical.epsilon_spec (least hp)
  refine wp_loop (fun a' w' => ∃ n, p a' w' n) m ⟨μ s0, s0, g, rfl, hg, Ext.refl g w, .refl _ _⟩ fun a1 w1 hp => ?_
  obtain ⟨⟨s, g1, hs, hg1, hext, hlow⟩, hmin⟩ := hm hp
  refine wp_mono ((h s).run g1 w1 a1 hg1) fun e a2 w2 q => ?_
  obtain ⟨g2, st2, h1, h2, h3, h4, h5, h6⟩ := q
  have hl2 : Low (S s0).base g g2 := hlow.trans (by rw [← hb s]; exact h5)
  cases e with
  | normal =>
    obtain ⟨s', π, keep, hπ, he, hlt⟩ := h6
    obtain ⟨k1, k2, k3⟩ := okπ_ok hπ
    rw [len_eq] at k2
    have hr' : ∀ i ∈ π, i < g2.ids.length := fun i hi => by rw [h1.mem.len]; exact k2 i hi
    have hg3 : Good P.G (g2.sub π) (S s') a2 w2 := by rw [← he]; exact h1.re k2 k1
    have hp' : p a2 w2 (μ s') := ⟨s', g2.sub π, rfl, hg3, (hext.trans h2).trans (Ext.sub hr'), hl2.trans (Low.sub fun i hi => k3 i (by rw [h3, hb s]; exact hi))⟩
    refine ⟨⟨_, hp'⟩, ?_⟩
    have := (hm ⟨_, hp'⟩).2 _ hp'
    omega
  | exit id => exact ⟨g2, st2, h1, hext.trans h2, h3.trans (hb s), h4.trans (hN s), hl2, h6⟩
  | goto l => exact ⟨g2, st2, h1, hext.trans h2, h3.trans (hb s), h4.trans (hN s), hl2, h6⟩
  | ret => exact ⟨g2, st2, h1, hext.trans h2, h3.trans (hb s), h4.trans (hN s), hl2, h6⟩
  | panic ch => exact ⟨g2, st2, h1, hext.trans h2, h3.trans (hb s), h4.trans (hN s), hl2, h6⟩
  | outgrown => exact ⟨g2, st2, h1, hext.trans h2, h3.trans (hb s), h4.trans (hN s), hl2, h6⟩

/-- One round of a loop ahead of the others (a loop whose rounds are counted out). -/
theorem AW.mono {c : Code} {K K' : Exit → St → Prop} (h : AW P c K st) (hk : ∀ e st', K e st' → K' e st') : AW P c K' st :=
  ⟨fun g w a hg => wp_mono (h.run g w a hg) fun e a' w' p => p.mono fun e st' _ _ h => hk e st' h⟩

/-! ### A function's contract out of its body -/
/-- What the call's own cells hold at an address. -/
def readV (E : Env) (st : St) (t : Nat) (v : V) : Option V :=
  match E.T t, v with
  | some ti, .lp i off =>
    (match nth st.own i with
     | some (.cells cs) =>
       (match ti.agg with
        | true => (match Nat.ble (off + ti.cells) (len cs) with | true => some (.agg (takeN ti.cells (dropN off cs))) | false => none)
        | false => nth cs off)
     | _ => none)
  | _, _ => none

theorem readV_ok (hE : GEnv P E) (hg : Good P.G g st a w) {t : Nat} {v u : V} {x : Value} (h : readV E st t v = some u) (hx : Rd g v x) : ∃ ad y, x = .pointer (some ad) ∧ (loadVar t ad).run P w = .ok y w ∧ Rd g u y := by
  unfold readV at h
  split at h
  · rename_i ti i off ht
    have hg := hE.to hg
    have hT := hE.ok.T t ti ht
    obtain ⟨b, hb, rfl⟩ := hx
    split at h
    · rename_i cs hn
      rw [nth_eq] at hn
      obtain ⟨b', arr, e, hid, hh, hr, h1⟩ := hg.cells hn
      rw [hb] at hid; cases hid
      have hat := At_arr hh
      refine ⟨⟨b, off, none⟩, ?_⟩
      split at h
      · rename_i hagg
        split at h
        · rename_i hle
          cases h
          rw [takeN_eq, dropN_eq]
          have hle := Nat.le_of_ble_eq_true hle
          rw [len_eq] at hle
          have hlen := RdL_length hr
          have h2 := (hat.drop off).take ti.cells
          refine ⟨_, rfl, run_loadVar_agg hT hagg _ ?_ (by simpa using h2.cell), ⟨_, rfl, RdL_take _ (RdL_drop _ hr)⟩⟩
          simp; simp at hlen; omega
        · cases h
      · rename_i hagg
        rw [nth_eq] at h
        obtain ⟨y, hy, hrd⟩ := RdL_get hr off u h
        exact ⟨y, rfl, run_loadVar_one hT hagg (by simpa using hat.cell off y hy), hrd⟩
    · cases h
  · cases h

/-- The result's parts. -/
def resV (o : Ops) (E : Env) (st : St) : List ResultVar → Option (List V)
  | [] => some []
  | .tmp t :: r => (match resV o E st r with | some l => some (get st.tm t :: l) | none => none)
  | .cell b t :: r =>
    (match readV E st t (get st.tm b), resV o E st r with
     | some v, some l => some (v :: l)
     | _, _ => none)
def resOf (o : Ops) (E : Env) (st : St) (rs : List ResultVar) : Option V :=
  match resV o E st rs with
  | some [v] => some v
  | some l => some (.tup l)
  | none => none

def entry : Nat → List V → List (Nat × V)
  | _, [] => []
  | k, v :: r => (k, v) :: entry (k + 1) r

/-- At a return: the blocks 'π' are kept, in this order. -/
def retK (o : Ops) (E : Env) (rs : List ResultVar) (Q : V → List OB → Prop) (st : St) : Prop :=
  match resOf o E st rs with
  | none => False
  | some v => ∃ π, okπ π (len st.own) st.base = true ∧ Q (reV π v) (subO π st.own π)

def bodyK (o : Ops) (E : Env) (rs : List ResultVar) (Q : V → List OB → Prop) (e : Exit) (st : St) : Prop :=
  match e with
  | .normal => retK o E rs Q st
  | .ret => retK o E rs Q st
  | _ => False

theorem get_entry : ∀ (l : List V) (k i : Nat), get (entry k l) i = if k ≤ i then (l[i - k]?).getD .und else .und
  | [], k, i => by simp [entry, get]
  | v :: r, k, i => by
    simp only [entry, get]
    split
    · rename_i h; rw [Nat.eq_of_beq_eq_true h]; simp
    · rename_i h
      have hne := Nat.ne_of_beq_eq_false h
      rw [get_entry r (k + 1) i]
      by_cases hle : k ≤ i
      · rw [if_pos (by omega), if_pos hle, show i - k = (i - (k + 1)) + 1 by omega]
        simp
      · rw [if_neg (by omega), if_neg hle]

theorem results_ok (hE : GEnv P E) (hg : Good P.G g st a w) {f : ResultVar → Sem Value} (f1 : ∀ t, f (.tmp t) = pure (a.tmps.getD t undef)) (f2 : ∀ b t, f (.cell b t) = (do loadVar t (← asAddr (a.tmps.getD b undef)))) :
    ∀ {l : List ResultVar} {vs : List V}, resV std E st l = some vs → ∃ xs : List Value, (l.mapM f).run P w = .ok xs w ∧ RdL g vs xs
  | [], vs, h => by
    simp only [resV] at h
    cases h
    exact ⟨[], rfl, trivial⟩
  | .tmp t :: r, vs, h => by
    simp only [resV] at h
    split at h
    · rename_i l hl
      cases h
      obtain ⟨xs, hx, hr⟩ := results_ok hE hg f1 f2 hl
      refine ⟨a.tmps.getD t undef :: xs, ?_, hg.rel.slot t, hr⟩
      rw [List.mapM_cons]
      simp only [Sem.run_bind, Sem.run_pure, Result.andThen_ok, hx, f1]
    · cases h
  | .cell b t :: r, vs, h => by
    simp only [resV] at h
    split at h
    · rename_i v l ha hl
      cases h
      obtain ⟨xs, hx, hr⟩ := results_ok hE hg f1 f2 hl
      obtain ⟨ad, y, e1, e2, e3⟩ := readV_ok hE hg ha (hg.rel.slot b)
      refine ⟨y :: xs, ?_, e3, hr⟩
      have head : (f (.cell b t)).run P w = .ok y w := by rw [f2]; simp [e1, asAddr, e2]
      rw [List.mapM_cons]
      simp only [Sem.run_bind, Sem.run_pure, Result.andThen_ok, hx, head]
    · cases h

theorem resOf_ok (hE : GEnv P E) (hg : Good P.G g st a w) {fn : Func} {v : V} (h : resOf std E st fn.results.toList = some v) : ∃ x, (results fn a.tmps).run P w = .ok x w ∧ Rd g v x := by
  unfold resOf at h
  have run : ∀ {vs : List V}, resV std E st fn.results.toList = some vs → ∃ xs : List Value, RdL g vs xs ∧ (results fn a.tmps).run P w = .ok (if h : xs.toArray.size = 1 then xs.toArray[0] else .tuple xs.toArray) w := by
    intro vs hv
    have key : ∀ f : ResultVar → Sem Value, (∀ t, f (.tmp t) = pure (a.tmps.getD t undef)) → (∀ b t, f (.cell b t) = (do loadVar t (← asAddr (a.tmps.getD b undef)))) →
        ∃ xs : List Value, RdL g vs xs ∧ ((do let vs ← fn.results.mapM f; pure (if h : vs.size = 1 then vs[0] else .tuple vs)) : Sem Value).run P w = .ok (if h : xs.toArray.size = 1 then xs.toArray[0] else .tuple xs.toArray) w := by
      intro f f1 f2
      obtain ⟨xs, hx, hr⟩ := results_ok hE hg f1 f2 hv
      refine ⟨xs, hr, ?_⟩
      rw [Array.mapM_eq_mapM_toList]
      simp only [Sem.run_bind, Sem.run_map, hx, Result.andThen_ok, Sem.run_pure]
    exact key _ (fun _ => rfl) (fun _ _ => rfl)
  split at h
  · rename_i u hu
    cases h
    obtain ⟨xs, hr, hx⟩ := run hu
    obtain ⟨x, r, rfl, h1, h2⟩ := RdL_cons hr
    obtain rfl := RdL_nil h2
    exact ⟨x, by simpa using hx, h1⟩
  · rename_i l hne hl
    cases h
    obtain ⟨xs, hr, hx⟩ := run hl
    have hlen := RdL_length hr
    have h1 : ¬ xs.toArray.size = 1 := by
      intro e
      have : l.length = 1 := by rw [← hlen]; simpa using e
      cases l with
      | nil => simp at this
      | cons u r =>
        cases r with
        | nil => exact hne u rfl
        | cons _ _ => simp at this
    rw [dif_neg h1] at hx
    exact ⟨_, hx, xs.toArray, rfl, by simpa using hr⟩
  · cases h

/-- A FUNCTION's CONTRACT out of what its body comes to. -/
theorem FnOK.of_body (hE : GEnv P E) {f : Nat} {fn : Func} {c : Code} {args : List V} {own : List OB} {Q : V → List OB → Prop} (hf : P.P.funcs[f]? = some fn) (hb : fn.body = some c) (hn : Nat.ble (len args) fn.ntmps = true)
    (h : wpc std E P c (bodyK std E fn.results.toList Q) ⟨fn.ntmps, len own, entry 0 args, own⟩) : FnOK P f args own Q := by
  have hn := Nat.le_of_ble_eq_true hn
  rw [len_eq] at hn
  refine ⟨fun g w vs hgl hr hm => calls_of_wp hf hb ?_⟩
  have hlen := RdL_length hr
  have hsz : vs.size = args.length := by simpa using hlen
  have hg : Good P.G g ⟨fn.ntmps, len own, entry 0 args, own⟩ { tmps := vs ++ Array.replicate (fn.ntmps - vs.size) undef, defers := [] } w := by
    refine ⟨⟨by simp; omega, rfl, hgl, fun i => ?_⟩, hm⟩
    show Rd g (get (entry 0 args) i) _
    rw [get_entry, if_pos (Nat.zero_le _), Nat.sub_zero]
    cases hi : args[i]? with
    | none => trivial
    | some v =>
      obtain ⟨x, hx, hrd⟩ := RdL_get hr i v hi
      have hx' : vs[i]? = some x := by simpa using hx
      have hlt : i < vs.size := (Array.getElem?_eq_some_iff.1 hx').1
      have : (vs ++ Array.replicate (fn.ntmps - vs.size) undef).getD i undef = x := by
        rw [Array.getD_eq_getD_getElem?, Array.getElem?_append_left hlt, hx']
        rfl
      rw [this]
      exact hrd
  refine wp_mono ((wpc_ok hE c h).run g w _ hg) fun e a' w' p => ?_
  obtain ⟨g', st', h1, h2, h3, h4, h5, h6⟩ := p
  have fin : retK std E fn.results.toList Q st' → a'.defers = [] ∧ ∃ v, (results fn a'.tmps).run P w' = .ok v w' ∧
      ∃ x r g'' own', Ending.returned v = .returned x ∧ Rd g'' r x ∧ Mem w' g'' own' ∧ Ext g w g'' w' ∧ Gle g g'' ∧ Q r own' := by
    intro hk
    unfold retK at hk
    split at hk
    · exact hk.elim
    · rename_i v hv
      obtain ⟨π, hπ, hq⟩ := hk
      obtain ⟨k1, k2, k3⟩ := okπ_ok hπ
      rw [len_eq] at k2
      obtain ⟨x, hx, hrd⟩ := resOf_ok hE h1 hv
      have hr' : ∀ i ∈ π, i < g'.ids.length := fun i hi => by rw [h1.mem.len]; exact k2 i hi
      refine ⟨h1.rel.defers, x, hx, x, reV π v, g'.sub π, subO π st'.own π, rfl, Rd_re hr' hrd, h1.mem.sub k2 k1, h2.trans (Ext.sub hr'), ?_, hq⟩
      have hl : Low (len own) g (g'.sub π) := Low.trans h5 (Low.sub fun i hi => k3 i (by rw [h3]; exact hi))
      refine ⟨fun b o hbo => h2.ws b o hbo, fun i x hx => hl i x ?_ hx⟩
      rw [len_eq, ← hm.len]
      exact (List.getElem?_eq_some_iff.1 hx).1
  cases e with
  | normal => exact fin h6
  | ret => exact fin h6
  | exit id => exact h6.elim
  | goto l => exact h6.elim
  | panic ch => exact h6.elim
  | outgrown => exact h6.elim

end
end Go.En
