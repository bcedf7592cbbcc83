/-
  REGIONS WHOSE ORDER IS OPEN: any order does what the text's order does. Own work; generic over the program.
-/
import Derived.Test.YtnkefikpejjjcaaDoorEnU
set_option linter.unusedVariables false
set_option linter.unusedSectionVars false
set_option linter.unusedSimpArgs false
namespace Go.En

section
variable {P : PG} {E : Env} {ops : Array Oper} {own0 : List OB} {vs : Nat → V} {rs : Nat → List OB} {ss : Nat → St} {st0 : St}

/-- What the slots hold when the operations D have come up. -/
structure TmAt (ops : Array Oper) (vs : Nat → V) (st0 : St) (D : Nat → Prop) (s : St) : Prop where
  done : ∀ (t k : Nat) x, ops[k]? = some x → x.dst = some t → D k → get s.tm t = vs k
  old : ∀ t, (∀ (k : Nat) x, ops[k]? = some x → x.dst = some t → ¬ D k) → get s.tm t = get st0.tm t

theorem TmAt.step {ms : List Nat} (hO : Ord ops.toList ms) {D D' : Nat → Prop} {s s' : St} {i : Nat} {x : Oper} (h : TmAt ops vs st0 D s) (hx : ops[i]? = some x) (hD : ∀ k, D' k ↔ D k ∨ k = i) (hs : ∀ t, get s'.tm t = get (updO s.tm x.dst (vs i)) t) : TmAt ops vs st0 D' s' := by
  have hx' : ops.toList[i]? = some x := by simpa using hx
  refine ⟨fun t k y hy hd hk => ?_, fun t hn => ?_⟩
  · rw [hs, get_updO]
    by_cases e : x.dst = some t
    · rw [if_pos e]
      rw [hO.dst i k x y t hx' (by simpa using hy) e hd]
    · rw [if_neg e]
      rcases (hD k).1 hk with hk | rfl
      · exact h.done t k y hy hd hk
      · rw [hx] at hy; cases hy; exact absurd hd e
  · rw [hs, get_updO]
    by_cases e : x.dst = some t
    · exact absurd ((hD i).2 (.inr rfl)) (hn i x hx e)
    · rw [if_neg e]
      exact h.old t fun k y hy hd hk => hn k y hy hd ((hD k).2 (.inl hk))

theorem tm_agree {ms : List Nat} (hO : Ord ops.toList ms) {D D' : Nat → Prop} {s s' : St} (h : TmAt ops vs st0 D s) (h' : TmAt ops vs st0 D' s') {t : Nat} (hb : ∀ (k : Nat) x, ops[k]? = some x → x.dst = some t → D k ∧ D' k) : get s.tm t = get s'.tm t := by
  by_cases e : ∃ (k : Nat) (x : Oper), ops[k]? = some x ∧ x.dst = some t
  · obtain ⟨k, x, hx, hd⟩ := e
    obtain ⟨h1, h2⟩ := hb k x hx hd
    rw [h.done t k x hx hd h1, h'.done t k x hx hd h2]
  · rw [h.old t fun k x hx hd => absurd ⟨k, x, hx, hd⟩ e, h'.old t fun k x hx hd => absurd ⟨k, x, hx, hd⟩ e]

/-- The text's order. -/
structure Row3 (P : PG) (ops : Array Oper) (own0 : List OB) (vs : Nat → V) (rs : Nat → List OB) (ss : Nat → St) (st0 : St) : Prop where
  zero : Eqv (ss 0) st0
  own1 : st0.own = own0
  step : ∀ (j : Nat) x, ops[j]? = some x → SemAt P ops own0 j x (ss j) (vs j) (rs j) ∧ (chainy x.op = false → rs j = []) ∧ Eqv (ss (j + 1)) (putD (ss j) x (vs j) (rs j))

variable (hR : Row3 P ops own0 vs rs ss st0) (hO : Ord ops.toList (masksA ops.toList []))
include hR

theorem ss_NB : ∀ j, j ≤ ops.size → (ss j).N = st0.N ∧ (ss j).base = st0.base ∧ ∃ rows, (ss j).own = own0 ++ rows
  | 0, _ => ⟨hR.zero.N, hR.zero.base, [], by rw [hR.zero.own, hR.own1]; simp⟩
  | j + 1, hj => by
    obtain ⟨h1, h2, rows, h3⟩ := ss_NB j (by omega)
    obtain ⟨_, _, e⟩ := hR.step j ops[j] (by simp)
    exact ⟨e.N.trans h1, e.base.trans h2, rows ++ rs j, by rw [e.own]; simp [putD, h3]⟩

theorem ss_own {c : Nat} : ∀ i, c ≤ i → i ≤ ops.size → (∀ (k : Nat) x, c ≤ k → k < i → ops[k]? = some x → chainy x.op = false) → (ss i).own = (ss c).own
  | 0, h, _, _ => by rw [Nat.le_zero.1 h]
  | i + 1, h, hi, hn => by
    rcases Nat.lt_or_ge i c with hlt | hge
    · rw [show i + 1 = c by omega]
    · have ih := ss_own i hge (by omega) fun k x h1 h2 => hn k x h1 (by omega)
      obtain ⟨_, hr, e⟩ := hR.step i ops[i] (by simp)
      rw [e.own, ← ih]
      simp [putD, hr (hn i ops[i] hge (by omega) (by simp))]

include hO
theorem ss_tm : ∀ j, j ≤ ops.size → TmAt ops vs st0 (fun k => k < j) (ss j)
  | 0, _ => ⟨fun t k x _ _ h => by omega, fun t _ => hR.zero.tm t⟩
  | j + 1, hj => by
    obtain ⟨_, _, e⟩ := hR.step j ops[j] (by simp)
    exact (ss_tm j (by omega)).step hO (i := j) (x := ops[j]) (by simp) (fun k => by omega) (fun t => e.tm t)

/-- A state in which the operations D have come up. -/
structure Mid (ops : Array Oper) (vs : Nat → V) (ss : Nat → St) (st0 : St) (D : Nat → Prop) (s : St) : Prop where
  N : s.N = st0.N
  base : s.base = st0.base
  tm : TmAt ops vs st0 D s
  own : ∃ c, c ≤ ops.size ∧ s.own = (ss c).own ∧ ∀ (k : Nat) x, ops[k]? = some x → chainy x.op = true → (D k ↔ k < c)

theorem Mid.ag {D : Nat → Prop} (hD : Closed ops.toList D) {s : St} (h : Mid ops vs ss st0 D s) {i : Nat} {x : Oper} (hx : ops[i]? = some x) (hi : ¬ D i) (hw : Waits D x) : Ag ops.toList own0 x (ss i) s ∧
    (chainy x.op = true → ∀ (k : Nat) y, ops[k]? = some y → chainy y.op = true → (D k ↔ k < i)) := by
  have hx' : ops.toList[i]? = some x := by simpa using hx
  have hlt : i < ops.size := (Array.getElem?_eq_some_iff.1 hx).1
  obtain ⟨h1, h2, _⟩ := ss_NB hR i (by omega)
  obtain ⟨c, hc, hown, hch⟩ := h.own
  have key : chainy x.op = true → ∀ (k : Nat) y, ops[k]? = some y → chainy y.op = true → (D k ↔ k < i) := fun hcx k y hy hcy => by
    have hci : c ≤ i := by
      rcases Nat.lt_or_ge i c with hl | hg
      · exact absurd ((hch i x hx hcx).2 hl) hi
      · exact hg
    constructor
    · intro hk
      have := (hch k y hy hcy).1 hk
      omega
    · intro hk
      obtain ⟨m, hm, hb⟩ := hO.ch i k x y hx' (by simpa using hy) hcx hcy hk
      exact bits_in hO hD hx' hw hm hb
  refine ⟨⟨h.N.trans h1.symm, h.base.trans h2.symm, fun t ht => ?_, ?_, fun hcx => ?_⟩, key⟩
  · refine tm_agree hO h.tm (ss_tm hR hO i (by omega)) fun k y hy hd => ?_
    obtain ⟨hk, m, hm, hb⟩ := hO.rd i k x y t hx' ht (by simpa using hy) hd
    exact ⟨bits_in hO hD hx' hw hm hb, hk⟩
  · obtain ⟨_, _, rows, e⟩ := ss_NB hR c hc
    exact ⟨rows, by rw [hown, e]⟩
  · have hci : c ≤ i := by
      rcases Nat.lt_or_ge i c with hl | hg
      · exact absurd ((hch i x hx hcx).2 hl) hi
      · exact hg
    rw [hown]
    refine (ss_own hR i hci (by omega) fun k y h1 h2 hy => ?_).symm
    cases hcy : chainy y.op with
    | false => rfl
    | true =>
      have := (hch k y hy hcy).1 ((key hcx k y hy hcy).2 h2)
      omega

theorem Mid.put {D D' : Nat → Prop} (hD : Closed ops.toList D) {s : St} (h : Mid ops vs ss st0 D s) {i : Nat} {x : Oper} (hx : ops[i]? = some x) (hi : ¬ D i) (hw : Waits D x) (hD' : ∀ k, D' k ↔ D k ∨ k = i) : Mid ops vs ss st0 D' (putD s x (vs i) (rs i)) := by
  obtain ⟨hag, hcx⟩ := h.ag hR hO hD hx hi hw
  obtain ⟨_, hr, e⟩ := hR.step i x hx
  have hlt : i < ops.size := (Array.getElem?_eq_some_iff.1 hx).1
  refine ⟨h.N, h.base, h.tm.step hO hx hD' fun t => rfl, ?_⟩
  cases hc : chainy x.op with
  | false =>
    obtain ⟨c, h1, h2, h3⟩ := h.own
    refine ⟨c, h1, by simp [putD, hr hc, h2], fun k y hy hcy => ?_⟩
    rw [hD']
    have hne : k ≠ i := fun e => by subst e; rw [hx] at hy; cases hy; rw [hc] at hcy; cases hcy
    rw [← h3 k y hy hcy]
    exact ⟨fun h => h.resolve_right hne, .inl⟩
  | true =>
    refine ⟨i + 1, by omega, ?_, fun k y hy hcy => ?_⟩
    · rw [e.own]
      simp [putD, hag.ch hc]
    · rw [hD', hcx hc k y hy hcy]
      omega

theorem Mid.all {s : St} {D : Nat → Prop} (hall : ∀ k, k < ops.size → D k) (h : Mid ops vs ss st0 D s) : Eqv s (ss ops.size) := by
  obtain ⟨h1, h2, _⟩ := ss_NB hR ops.size (Nat.le_refl _)
  refine ⟨h.N.trans h1.symm, h.base.trans h2.symm, ?_, fun t => ?_⟩
  · obtain ⟨c, hc, hown, hch⟩ := h.own
    rw [hown]
    refine (ss_own hR ops.size hc (Nat.le_refl _) fun k x hk h2 hx => ?_).symm
    cases hcx : chainy x.op with
    | false => rfl
    | true => have := (hch k x hx hcx).1 (hall k h2); omega
  · refine tm_agree hO h.tm (ss_tm hR hO ops.size (Nat.le_refl _)) fun k x hx hd => ?_
    have hlt : k < ops.size := (Array.getElem?_eq_some_iff.1 hx).1
    exact ⟨hall k hlt, hlt⟩

def dn (listed : Array Bool) (k : Nat) : Prop := listed.getD k true = true

def left (listed : Array Bool) : Nat := (listed.toList.filter (fun b => !b)).length

omit hR hO in
theorem dn_set {listed : Array Bool} {i : Nat} (k : Nat) : dn (listed.setIfInBounds i true) k ↔ dn listed k ∨ k = i := by
  unfold dn
  by_cases h : i = k
  · subst h
    simp only [or_true, iff_true]
    rcases Nat.lt_or_ge i listed.size with hl | hl
    · simp [hl]
    · simp [hl]
  · rw [getD_set_ne true h]
    exact ⟨.inl, fun e => e.resolve_right (fun e => h e.symm)⟩

omit hR hO in
theorem left_set {listed : Array Bool} {i : Nat} (hlt : i < listed.size) (h0 : listed.getD i true = false) : left (listed.setIfInBounds i true) < left listed := by
  unfold left
  rw [Array.setIfInBounds, dif_pos hlt]
  have hfi : listed.toList[i]? = some false := by
    rw [Array.getD_eq_getD_getElem?, Array.getElem?_eq_getElem hlt] at h0
    simp at h0
    simp [hlt, h0]
  have : ∀ (l : List Bool) (i : Nat), l[i]? = some false → ((l.set i true).filter (fun b => !b)).length < (l.filter (fun b => !b)).length := by
    intro l
    induction l with
    | nil => intro i h; simp at h
    | cons b r ih =>
      intro i h
      cases i with
      | zero => simp at h; subst h; simp
      | succ i =>
        have := ih i (by simpa using h)
        cases b <;> simp [List.set_cons_succ] <;> omega
  simpa using this listed.toList i hfi

omit hR hO in
theorem left_zero {listed : Array Bool} (h : left listed = 0) (k : Nat) : dn listed k := by
  unfold dn
  cases hd : listed.getD k true with
  | true => rfl
  | false =>
    exfalso
    have hlt : k < listed.size := by
      rcases Nat.lt_or_ge k listed.size with hl | hg
      · exact hl
      · simp [Array.getD_eq_getD_getElem?, Array.getElem?_eq_none hg] at hd
    have hmem : false ∈ listed.toList.filter (fun b => !b) := by
      refine List.mem_filter.2 ⟨?_, rfl⟩
      rw [Array.getD_eq_getD_getElem?, Array.getElem?_eq_getElem hlt] at hd
      simp at hd
      rw [← hd]
      simp
    have := List.length_pos_of_mem hmem
    unfold left at h
    omega

omit hR hO in
theorem noReady {all : Array Oper} (hedge : ∀ (i : Nat) x e, all.toList[i]? = some x → e ∈ x.after → Region.binds .any e = true → e.on < i) (listed : Array Bool) (hsz : listed.size = all.size) (hr : Region.ready .any all listed = []) : ∀ k, k < all.size → dn listed k := by
  intro k
  induction k using Nat.strongRecOn with
  | _ k ih =>
    intro hk
    cases hd : listed.getD k true with
    | true => exact hd
    | false =>
      have : k ∈ Region.ready .any all listed := by
        refine mem_ready.2 ⟨hd, all[k], by simp, fun e he hb => ?_⟩
        have hlt := hedge k all[k] e (by simp) he hb
        have := ih e.on hlt (by omega)
        unfold dn at this
        rw [Array.getD_eq_getD_getElem?, Array.getElem?_eq_getElem (by omega)] at this ⊢
        exact this
      rw [hr] at this
      cases this

omit hR hO in
theorem waits_of {all : Array Oper} {listed : Array Bool} {i : Nat} {x : Oper} (hw : ∀ e ∈ x.after, Region.binds .any e = true → listed.getD e.on false = true) : Waits (dn listed) x := fun e h1 h2 => by
  have := hw e h1 h2
  unfold dn
  rcases Nat.lt_or_ge e.on listed.size with hl | hl
  · rw [Array.getD_eq_getD_getElem?, Array.getElem?_eq_getElem hl] at this ⊢
    exact this
  · simp [Array.getD_eq_getD_getElem?, Array.getElem?_eq_none hl] at this

omit hR hO in
theorem closed_set {all : Array Oper} {listed : Array Bool} {i : Nat} {x : Oper} (hx : all[i]? = some x) (hD : Closed all.toList (dn listed)) (hw : Waits (dn listed) x) : Closed all.toList (dn (listed.setIfInBounds i true)) := by
  intro k y e hy hk he hb
  rcases (dn_set k).1 hk with hk | rfl
  · exact (dn_set _).2 (.inl (hD k y e hy hk he hb))
  · have : y = x := by
      have : all[k]? = some y := by simpa using hy
      rw [hx] at this; cases this; rfl
    subst this
    exact (dn_set _).2 (.inl (hw e he hb))

/-- One after another. -/
def wpt (o : Ops) (E : Env) (P : PG) (K : St → Prop) : List Oper → St → Prop
  | [], st => K st
  | x :: r, st => stepK o E P x (wpt o E P K r) st

omit hR hO in
/-- The operations that come up one after another. -/
theorem any2_ok (hE : GEnv P E) {K : St → Prop} {all : Array Oper} {k : Nat} {Q : Exit → Act → World → Prop} {g0 : Gh} {w0 : World} (hedge : ∀ (i : Nat) x e, all.toList[i]? = some x → e ∈ x.after → Region.binds .any e = true → e.on < i)
    (htail : ∀ (j : Nat) x, all[k + j]? = some x → x.guard = none ∧ ∃ m, (masksA all.toList [])[k + j]? = some m ∧ ∀ q, q < k + j → Nat.testBit m q = true)
    (hQ : ∀ g s a w, s.base = st0.base → s.N = st0.N → K s → Good P.G g s a w → Ext g0 w0 g w → Low st0.base g0 g → Q .normal a w) :
    ∀ (r : List Oper) (p fuel : Nat) (listed : Array Bool) (g : Gh) (s : St) (a : Act) (w : World), (∀ j, r[j]? = all[k + p + j]?) → listed.size = all.size → left listed ≤ fuel → Closed all.toList (dn listed) → (∀ i, i < all.size → (dn listed i ↔ i < k + p)) →
      s.base = st0.base → s.N = st0.N → Good P.G g s a w → Ext g0 w0 g w → Low st0.base g0 g → wpt std E P K r s → wpAny P .any all Q fuel listed a w := by
  intro r
  induction r with
  | nil =>
    intro p fuel listed g s a w hr hsz hleft hD hdn hb hN hg he hl hk
    have hend : all.size ≤ k + p := by
      have := hr 0
      simp at this
      omega
    have hq := hQ g s a w hb hN hk hg he hl
    have hnone : Region.ready .any all listed = [] := by
      cases hrd : Region.ready .any all listed with
      | nil => rfl
      | cons i l =>
        have hi : i ∈ Region.ready .any all listed := by rw [hrd]; simp
        obtain ⟨h0, x, hx, _⟩ := mem_ready.1 hi
        have hlt := (Array.getElem?_eq_some_iff.1 hx).1
        have := (hdn i hlt).2 (by omega)
        unfold dn at this
        rw [h0] at this
        cases this
    exact wpAny_done hnone hq fuel
  | cons x r ih =>
    intro p fuel listed g s a w hr hsz hleft hD hdn hb hN hg he hl hk
    have hx : all[k + p]? = some x := by have := hr 0; simpa using this.symm
    have hlt : k + p < all.size := (Array.getElem?_eq_some_iff.1 hx).1
    have hnd : ¬ dn listed (k + p) := fun h => by have := (hdn _ hlt).1 h; omega
    cases fuel with
    | zero => exact absurd (left_zero (by omega) (k + p)) hnd
    | succ fuel =>
      refine ⟨fun hrd => absurd (noReady hedge listed hsz hrd _ hlt) hnd, fun i hi => ?_⟩
      obtain ⟨h0, y, hy, hw⟩ := mem_ready.1 hi
      have hilt := (Array.getElem?_eq_some_iff.1 hy).1
      have hni : ¬ dn listed i := by unfold dn; rw [h0]; simp
      have hge : k + p ≤ i := by
        rcases Nat.lt_or_ge i (k + p) with hl | hg
        · exact absurd ((hdn i hilt).2 hl) hni
        · exact hg
      have hw' : Waits (dn listed) y := waits_of (all := all) (i := i) hw
      have hik : i = k + p := by
        rcases Nat.lt_or_ge (k + p) i with hgt | hle
        · obtain ⟨j, rfl⟩ : ∃ j, i = k + j := ⟨i - k, by omega⟩
          obtain ⟨_, m, hm, hbits⟩ := htail j y hy
          exact absurd (bits_of hedge hD (by simpa using hy) hw' hm (hbits (k + p) hgt)) hnd
        · omega
      subst hik
      rw [hx] at hy
      cases hy
      obtain ⟨hgd, _⟩ := htail p x hx
      unfold wpOp
      simp only [hx, Region.wanted, hgd, if_true]
      refine .inl (stepK_ok hE hg x hk all fun g' s' a' w' h1 h2 h3 h4 h5 h6 => ?_)
      refine ih (p + 1) fuel _ g' s' a' w' (fun j => ?_) (by simp [hsz]) ?_ (closed_set hx hD hw') (fun i hi => ?_) (h3.trans hb) (h4.trans hN) h1 (he.trans h2) (hl.trans (by rw [← hb]; exact h5)) h6
      · have := hr (j + 1)
        rw [show k + (p + 1) + j = k + p + (j + 1) by omega]
        simpa using this
      · have := left_set (listed := listed) (i := k + p) (by omega) h0
        omega
      · rw [dn_set, hdn i hi]
        omega

/-- The operations that come up in any order, and those behind them. -/
theorem any_ok (hE : GEnv P E) {K : St → Prop} {all : Array Oper} {Q : Exit → Act → World → Prop} {g0 : Gh} {w0 : World} (hedge : ∀ (i : Nat) x e, all.toList[i]? = some x → e ∈ x.after → Region.binds .any e = true → e.on < i)
    (hsize : ops.size ≤ all.size) (hpre : ∀ i, i < ops.size → all[i]? = ops[i]?) (hgd : ∀ x ∈ ops.toList, ∀ j want, x.guard = some (j, want) → j < ops.size)
    (htail : ∀ (j : Nat) x, all[ops.size + j]? = some x → x.guard = none ∧ ∃ m, (masksA all.toList [])[ops.size + j]? = some m ∧ ∀ q, q < ops.size + j → Nat.testBit m q = true)
    (hQ : ∀ g s a w, s.base = st0.base → s.N = st0.N → K s → Good P.G g s a w → Ext g0 w0 g w → Low st0.base g0 g → Q .normal a w)
    {r : List Oper} (hr : ∀ j, r[j]? = all[ops.size + j]?) {s1 : St} (hk : wpt std E P K r s1) (hs1 : Eqv s1 (ss ops.size)) :
    ∀ (fuel : Nat) (listed : Array Bool) (g : Gh) (s : St) (a : Act) (w : World), listed.size = all.size → left listed ≤ fuel → Closed all.toList (dn listed) → (∀ i, ops.size ≤ i → i < all.size → ¬ dn listed i) → Mid ops vs ss st0 (dn listed) s → Good P.G g s a w → Ext g0 w0 g w → Low st0.base g0 g →
      wpAny P .any all Q fuel listed a w := by
  have fin : ∀ (fuel : Nat) (listed : Array Bool) (g : Gh) (s : St) (a : Act) (w : World), listed.size = all.size → left listed ≤ fuel → Closed all.toList (dn listed) → (∀ i, ops.size ≤ i → i < all.size → ¬ dn listed i) → Mid ops vs ss st0 (dn listed) s → Good P.G g s a w → Ext g0 w0 g w → Low st0.base g0 g → (∀ i, i < ops.size → dn listed i) → wpAny P .any all Q fuel listed a w := by
    intro fuel listed g s a w hsz hleft hD hout hm hg he hl hall
    have hs : Eqv s s1 := (hm.all hR hO hall).trans ⟨hs1.N.symm, hs1.base.symm, hs1.own.symm, fun t => (hs1.tm t).symm⟩
    obtain ⟨n1, n2, _⟩ := ss_NB hR ops.size (Nat.le_refl _)
    refine any2_ok (k := ops.size) hE hedge htail hQ r 0 fuel listed g s1 a w (fun j => by rw [Nat.add_zero]; exact hr j) hsz hleft hD (fun i hi => ?_) (hs1.base.trans n2) (hs1.N.trans n1) (hs.good hg) he hl hk
    rw [Nat.add_zero]
    refine ⟨fun h => ?_, hall i⟩
    rcases Nat.lt_or_ge i ops.size with h1 | h1
    · exact h1
    · exact absurd h (hout i h1 hi)
  intro fuel
  induction fuel with
  | zero =>
    intro listed g s a w hsz hleft hD hout hm hg he hl
    exact fin 0 listed g s a w hsz hleft hD hout hm hg he hl fun i _ => left_zero (by omega) i
  | succ fuel ih =>
    intro listed g s a w hsz hleft hD hout hm hg he hl
    by_cases hall : ∀ i, i < ops.size → dn listed i
    · exact fin _ listed g s a w hsz hleft hD hout hm hg he hl hall
    · refine ⟨fun hrd => absurd (fun i hi => noReady hedge listed hsz hrd i (by omega)) hall, fun i hi => ?_⟩
      obtain ⟨h0, x, hxa, hw⟩ := mem_ready.1 hi
      have hlta : i < all.size := (Array.getElem?_eq_some_iff.1 hxa).1
      have hni : ¬ dn listed i := by unfold dn; rw [h0]; simp
      have hw' : Waits (dn listed) x := waits_of (all := all) (i := i) hw
      have hlt : i < ops.size := by
        rcases Nat.lt_or_ge i ops.size with h1 | h1
        · exact h1
        · exfalso
          refine hall fun q hq => ?_
          obtain ⟨j, rfl⟩ : ∃ j, i = ops.size + j := ⟨i - ops.size, by omega⟩
          obtain ⟨_, m, hm', hbits⟩ := htail j x hxa
          exact bits_of hedge hD (by simpa using hxa) hw' hm' (hbits q (by omega))
      have hx : ops[i]? = some x := by rw [← hpre i hlt]; exact hxa
      have hDp : Closed ops.toList (dn listed) := fun q y e hy hk he hb => hD q y e (by
        have hq : q < ops.size := by have := (List.getElem?_eq_some_iff.1 hy).1; simpa using this
        have := hpre q hq
        simp at hy ⊢
        rw [this]; exact hy) hk he hb
      obtain ⟨hag, _⟩ := hm.ag hR hO hDp hx hni hw'
      have hyl : ∀ tmps j want, x.guard = some (j, want) → yielded all tmps j = yielded ops tmps j := fun tmps j want hgx => by
        have hj := hgd x (by have := Array.mem_of_getElem? hx; simpa using this) j want hgx
        unfold yielded
        rw [hpre j hj]
      have hwant : ∀ tmps, Region.wanted x (yielded all tmps) = Region.wanted x (yielded ops tmps) := fun tmps => by
        unfold Region.wanted
        cases hgx : x.guard with
        | none => rfl
        | some jw => obtain ⟨j, want⟩ := jw; simp only [hyl tmps j want hgx]
      have hop : ∀ next, wpOp P ops Q i next a w → wpOp P all Q i next a w := fun next h => by
        unfold wpOp at h ⊢
        simp only [hx] at h
        simp only [hxa, hwant]
        exact h
      refine hop _ ((hR.step i x hx).1 g s a w hag hg Q _ fun g' a' w' h1 h2 h3 => ?_)
      have hcl := left_set (listed := listed) (i := i) (by omega) h0
      refine ih _ g' (putD s x (vs i) (rs i)) a' w' (by simp [hsz]) (by omega) (closed_set hxa hD hw') (fun q hq hqa hd => ?_) ?_ h1 (he.trans h2) (hl.trans (by rw [← hm.base]; exact h3))
      · rcases (dn_set q).1 hd with hd | rfl
        · exact hout q hq hqa hd
        · omega
      · exact hm.put hR hO hDp hx hni hw' fun q => dn_set q
end

section
variable {P : PG} {E : Env} (hE : GEnv P E) (hm : P.P.follows .mixedOrders = true)
include hE hm

/-- A REGION WHOSE ORDER IS OPEN: what its operations come to in the text's order, they come to. -/
theorem AD.walk {id : Nat} {ops : Array Oper} {K : St → Prop} {st : St} (hO : adOK ops.toList = true)
    (h : wpq std E P st.own (takeN (qlen ops.toList) ops.toList) (wpt std E P K (dropN (qlen ops.toList) ops.toList)) (takeN (qlen ops.toList) ops.toList) st) : AD P id ops K st := by
  unfold adOK at hO
  generalize qlen ops.toList = k at hO h
  unfold adAt at hO
  split at hO
  rotate_left
  · cases hO
  rename_i q1 q2 q3 q4 q5
  have q5 := Nat.le_of_ble_eq_true q5
  rw [len_eq] at q5
  rw [takeN_eq] at h q1 q3
  rw [dropN_eq] at h q4
  rw [dropN_eq] at q4
  have hord := adOK_ord q1
  have hedge : ∀ (i : Nat) x e, ops.toList[i]? = some x → e ∈ x.after → Region.binds .any e = true → e.on < i := fun i x e h1 h2 h3 => by
    have := edgesAll_ok q2 i x e h1 h2 h3
    rwa [Nat.zero_add] at this
  let pre : Array Oper := (ops.toList.take k).toArray
  have hpl : pre.toList = ops.toList.take k := rfl
  have hps : pre.size = k := by
    show (ops.toList.take k).toArray.size = k
    rw [List.size_toArray, List.length_take]
    omega
  obtain ⟨vs, rs, ss, e0, ⟨s1, hk, e1⟩, e2⟩ := wpq_seqs (ops := pre) (own0 := st.own) hE pre.toList 0 st hord.quiet (fun j x hx => by simpa using hx) ⟨[], by simp⟩ h
  have hR : Row3 P pre st.own vs rs ss st := ⟨e0, rfl, fun j x hx => by
    have := e2 j x (by simpa using hx)
    rwa [Nat.zero_add] at this⟩
  refine ⟨fun g w a hg => ?_⟩
  have hdrew : drewSome w { w with drawn := w.drawn + 1 } := ⟨_, rfl⟩
  simp only [Array.length_toList] at e1
  refine wp_region_any hm (any_ok (ops := pre) hR hord hE (g0 := g) (w0 := w) hedge (by rw [hps]; simpa using q5) (fun i hi => ?_) (fun x hx j want hj => ?_) (fun j x hx => ?_) (fun g' s a' w' hb hN hk' hg' hext hlow => ?_) (r := ops.toList.drop k) (fun j => ?_) hk e1 ops.size _ g st a _ (by simp) ?_ ?_ ?_ ?_ (hg.drew hdrew) (Ext.drew g hdrew) (.refl _ _))
  · show ops[i]? = (ops.toList.take k).toArray[i]?
    rw [hps] at hi
    simp [List.getElem?_take, hi]
  · rw [hps]
    exact guardsOK_ok q3 x hx j want hj
  · rw [hps] at hx ⊢
    obtain ⟨h1, m, h2, h3⟩ := tailOK_ok q4 j x (by rw [List.getElem?_drop]; simpa using hx)
    exact ⟨h1, m, by rw [List.getElem?_drop] at h2; exact h2, h3⟩
  · exact ⟨g', s, hg', hext, hb, hN, hlow, hk'⟩
  · rw [hps, List.getElem?_drop]
    simp
  · unfold left; simp
  · intro i x e hx hd he hb
    unfold dn at hd
    have hlt : i < ops.size := by have := (List.getElem?_eq_some_iff.1 hx).1; simpa using this
    simp [hlt] at hd
  · intro i _ hi hd
    unfold dn at hd
    simp [hi] at hd
  · have hle : pre.size ≤ ops.size := by rw [hps]; simpa using q5
    refine ⟨rfl, rfl, ⟨fun t q x hx hd hk => ?_, fun t _ => rfl⟩, 0, Nat.zero_le _, by rw [e0.own], fun q x hx hc => ?_⟩
    · have hlt : q < pre.size := (Array.getElem?_eq_some_iff.1 hx).1
      unfold dn at hk
      have : q < ops.size := by omega
      simp [this] at hk
    · have hlt : q < pre.size := (Array.getElem?_eq_some_iff.1 hx).1
      have : q < ops.size := by omega
      unfold dn
      simp [this]
end
end Go.En
