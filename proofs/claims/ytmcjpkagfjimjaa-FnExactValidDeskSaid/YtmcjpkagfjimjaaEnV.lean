/-
  REGIONS WHOSE ORDER IS OPEN: any order does what the text's order does. Own work; generic over the program.
-/
import Derived.Test.YtmcjpkagfjimjaaEnU
set_option linter.unusedVariables false
set_option linter.unusedSectionVars false
set_option linter.unusedSimpArgs false
namespace Go.En

section
variable {P : Program} {E : Env} {ops : Array Oper} {own0 : List OB} {vs : Nat → V} {rs : Nat → List OB} {ss : Nat → St} {st0 : St}

/-- What the slots hold when the operations D have come up. -/
structure TmAt (ops : Array Oper) (vs : Nat → V) (st0 : St) (D : Nat → Prop) (s : St) : Prop where
  done : ∀ (t k : Nat) x, ops[k]? = some x → x.dst = some t → D k → get s.tm t = vs k
  old : ∀ t, (∀ (k : Nat) x, ops[k]? = some x → x.dst = some t → ¬ D k) → get s.tm t = get st0.tm t

theorem TmAt.step {ms : List Nat} (hO : Ord ops.toList ms) {D D' : Nat → Prop} {s s' : St} {i : Nat} {x : Oper} (h : TmAt ops vs st0 D s) (hx : ops[i]? = some x) (hD : ∀ k, D' k ↔ D k ∨ k = i) (hs : ∀ t, get s'.tm t = get (updO s.tm x.dst (vs i)) t) : TmAt ops vs st0 D' s' := by
  have hx' : ops.toList[i]? = some x := by simpa using hx
  refine ⟨fun t k y hy hd hk => ?_, fun t hn => ?_⟩
  · rw [hs, get_updO]
    by_cases e : x.dst = some t
    · rw [if_pos e]
      rw [hO.dst i k x y t hx' (by simpa using hy) e hd]
    · rw [if_neg e]
      rcases (hD k).1 hk with hk | rfl
      · exact h.done t k y hy hd hk
      · rw [hx] at hy; cases hy; exact absurd hd e
  · rw [hs, get_updO]
    by_cases e : x.dst = some t
    · exact absurd ((hD i).2 (.inr rfl)) (hn i x hx e)
    · rw [if_neg e]
      exact h.old t fun k y hy hd hk => hn k y hy hd ((hD k).2 (.inl hk))

theorem tm_agree {ms : List Nat} (hO : Ord ops.toList ms) {D D' : Nat → Prop} {s s' : St} (h : TmAt ops vs st0 D s) (h' : TmAt ops vs st0 D' s') {t : Nat} (hb : ∀ (k : Nat) x, ops[k]? = some x → x.dst = some t → D k ∧ D' k) : get s.tm t = get s'.tm t := by
  by_cases e : ∃ (k : Nat) (x : Oper), ops[k]? = some x ∧ x.dst = some t
  · obtain ⟨k, x, hx, hd⟩ := e
    obtain ⟨h1, h2⟩ := hb k x hx hd
    rw [h.done t k x hx hd h1, h'.done t k x hx hd h2]
  · rw [h.old t fun k x hx hd => absurd ⟨k, x, hx, hd⟩ e, h'.old t fun k x hx hd => absurd ⟨k, x, hx, hd⟩ e]

/-- The text's order. -/
structure Row3 (P : Program) (ops : Array Oper) (own0 : List OB) (vs : Nat → V) (rs : Nat → List OB) (ss : Nat → St) (st0 : St) : Prop where
  zero : Eqv (ss 0) st0
  own1 : st0.own = own0
  step : ∀ (j : Nat) x, ops[j]? = some x → SemAt P ops own0 j x (ss j) (vs j) (rs j) ∧ (chainy x.op = false → rs j = []) ∧ Eqv (ss (j + 1)) (putD (ss j) x (vs j) (rs j))

variable (hR : Row3 P ops own0 vs rs ss st0) (hO : Ord ops.toList (masksA ops.toList []))
include hR

theorem ss_NB : ∀ j, j ≤ ops.size → (ss j).N = st0.N ∧ (ss j).base = st0.base ∧ ∃ rows, (ss j).own = own0 ++ rows
  | 0, _ => ⟨hR.zero.N, hR.zero.base, [], by rw [hR.zero.own, hR.own1]; simp⟩
  | j + 1, hj => by
    obtain ⟨h1, h2, rows, h3⟩ := ss_NB j (by omega)
    obtain ⟨_, _, e⟩ := hR.step j ops[j] (by simp)
    exact ⟨e.N.trans h1, e.base.trans h2, rows ++ rs j, by rw [e.own]; simp [putD, h3]⟩

theorem ss_own {c : Nat} : ∀ i, c ≤ i → i ≤ ops.size → (∀ (k : Nat) x, c ≤ k → k < i → ops[k]? = some x → chainy x.op = false) → (ss i).own = (ss c).own
  | 0, h, _, _ => by rw [Nat.le_zero.1 h]
  | i + 1, h, hi, hn => by
    rcases Nat.lt_or_ge i c with hlt | hge
    · rw [show i + 1 = c by omega]
    · have ih := ss_own i hge (by omega) fun k x h1 h2 => hn k x h1 (by omega)
      obtain ⟨_, hr, e⟩ := hR.step i ops[i] (by simp)
      rw [e.own, ← ih]
      simp [putD, hr (hn i ops[i] hge (by omega) (by simp))]

include hO
theorem ss_tm : ∀ j, j ≤ ops.size → TmAt ops vs st0 (fun k => k < j) (ss j)
  | 0, _ => ⟨fun t k x _ _ h => by omega, fun t _ => hR.zero.tm t⟩
  | j + 1, hj => by
    obtain ⟨_, _, e⟩ := hR.step j ops[j] (by simp)
    exact (ss_tm j (by omega)).step hO (i := j) (x := ops[j]) (by simp) (fun k => by omega) (fun t => e.tm t)

/-- A state in which the operations D have come up. -/
structure Mid (ops : Array Oper) (vs : Nat → V) (ss : Nat → St) (st0 : St) (D : Nat → Prop) (s : St) : Prop where
  N : s.N = st0.N
  base : s.base = st0.base
  tm : TmAt ops vs st0 D s
  own : ∃ c, c ≤ ops.size ∧ s.own = (ss c).own ∧ ∀ (k : Nat) x, ops[k]? = some x → chainy x.op = true → (D k ↔ k < c)

theorem Mid.ag {D : Nat → Prop} (hD : Closed ops.toList D) {s : St} (h : Mid ops vs ss st0 D s) {i : Nat} {x : Oper} (hx : ops[i]? = some x) (hi : ¬ D i) (hw : Waits D x) : Ag ops.toList own0 x (ss i) s ∧
    (chainy x.op = true → ∀ (k : Nat) y, ops[k]? = some y → chainy y.op = true → (D k ↔ k < i)) := by
  have hx' : ops.toList[i]? = some x := by simpa using hx
  have hlt : i < ops.size := (Array.getElem?_eq_some_iff.1 hx).1
  obtain ⟨h1, h2, _⟩ := ss_NB hR i (by omega)
  obtain ⟨c, hc, hown, hch⟩ := h.own
  have key : chainy x.op = true → ∀ (k : Nat) y, ops[k]? = some y → chainy y.op = true → (D k ↔ k < i) := fun hcx k y hy hcy => by
    have hci : c ≤ i := by
      rcases Nat.lt_or_ge i c with hl | hg
      · exact absurd ((hch i x hx hcx).2 hl) hi
      · exact hg
    constructor
    · intro hk
      have := (hch k y hy hcy).1 hk
      omega
    · intro hk
      obtain ⟨m, hm, hb⟩ := hO.ch i k x y hx' (by simpa using hy) hcx hcy hk
      exact bits_in hO hD hx' hw hm hb
  refine ⟨⟨h.N.trans h1.symm, h.base.trans h2.symm, fun t ht => ?_, ?_, fun hcx => ?_⟩, key⟩
  · refine tm_agree hO h.tm (ss_tm hR hO i (by omega)) fun k y hy hd => ?_
    obtain ⟨hk, m, hm, hb⟩ := hO.rd i k x y t hx' ht (by simpa using hy) hd
    exact ⟨bits_in hO hD hx' hw hm hb, hk⟩
  · obtain ⟨_, _, rows, e⟩ := ss_NB hR c hc
    exact ⟨rows, by rw [hown, e]⟩
  · have hci : c ≤ i := by
      rcases Nat.lt_or_ge i c with hl | hg
      · exact absurd ((hch i x hx hcx).2 hl) hi
      · exact hg
    rw [hown]
    refine (ss_own hR i hci (by omega) fun k y h1 h2 hy => ?_).symm
    cases hcy : chainy y.op with
    | false => rfl
    | true =>
      have := (hch k y hy hcy).1 ((key hcx k y hy hcy).2 h2)
      omega

theorem Mid.put {D D' : Nat → Prop} (hD : Closed ops.toList D) {s : St} (h : Mid ops vs ss st0 D s) {i : Nat} {x : Oper} (hx : ops[i]? = some x) (hi : ¬ D i) (hw : Waits D x) (hD' : ∀ k, D' k ↔ D k ∨ k = i) : Mid ops vs ss st0 D' (putD s x (vs i) (rs i)) := by
  obtain ⟨hag, hcx⟩ := h.ag hR hO hD hx hi hw
  obtain ⟨_, hr, e⟩ := hR.step i x hx
  have hlt : i < ops.size := (Array.getElem?_eq_some_iff.1 hx).1
  refine ⟨h.N, h.base, h.tm.step hO hx hD' fun t => rfl, ?_⟩
  cases hc : chainy x.op with
  | false =>
    obtain ⟨c, h1, h2, h3⟩ := h.own
    refine ⟨c, h1, by simp [putD, hr hc, h2], fun k y hy hcy => ?_⟩
    rw [hD']
    have hne : k ≠ i := fun e => by subst e; rw [hx] at hy; cases hy; rw [hc] at hcy; cases hcy
    rw [← h3 k y hy hcy]
    exact ⟨fun h => h.resolve_right hne, .inl⟩
  | true =>
    refine ⟨i + 1, by omega, ?_, fun k y hy hcy => ?_⟩
    · rw [e.own]
      simp [putD, hag.ch hc]
    · rw [hD', hcx hc k y hy hcy]
      omega

theorem Mid.all {s : St} {D : Nat → Prop} (hall : ∀ k, k < ops.size → D k) (h : Mid ops vs ss st0 D s) : Eqv s (ss ops.size) := by
  obtain ⟨h1, h2, _⟩ := ss_NB hR ops.size (Nat.le_refl _)
  refine ⟨h.N.trans h1.symm, h.base.trans h2.symm, ?_, fun t => ?_⟩
  · obtain ⟨c, hc, hown, hch⟩ := h.own
    rw [hown]
    refine (ss_own hR ops.size hc (Nat.le_refl _) fun k x hk h2 hx => ?_).symm
    cases hcx : chainy x.op with
    | false => rfl
    | true => have := (hch k x hx hcx).1 (hall k h2); omega
  · refine tm_agree hO h.tm (ss_tm hR hO ops.size (Nat.le_refl _)) fun k x hx hd => ?_
    have hlt : k < ops.size := (Array.getElem?_eq_some_iff.1 hx).1
    exact ⟨hall k hlt, hlt⟩

def dn (listed : Array Bool) (k : Nat) : Prop := listed.getD k true = true

def left (listed : Array Bool) : Nat := (listed.toList.filter (fun b => !b)).length

omit hR hO in
theorem dn_set {listed : Array Bool} {i : Nat} (k : Nat) : dn (listed.setIfInBounds i true) k ↔ dn listed k ∨ k = i := by
  unfold dn
  by_cases h : i = k
  · subst h
    simp only [or_true, iff_true]
    rcases Nat.lt_or_ge i listed.size with hl | hl
    · simp [hl]
    · simp [hl]
  · rw [getD_set_ne true h]
    exact ⟨.inl, fun e => e.resolve_right (fun e => h e.symm)⟩

theorem any_ok {Q : Exit → Act → World → Prop} {g0 : Gh} {w0 : World} (hQ : ∀ g s a w, Eqv s (ss ops.size) → Good g s a w → Ext g0 w0 g w → Low st0.base g0 g → Q .normal a w) :
    ∀ (fuel : Nat) (listed : Array Bool) (g : Gh) (s : St) (a : Act) (w : World), listed.size = ops.size → left listed ≤ fuel → Closed ops.toList (dn listed) → Mid ops vs ss st0 (dn listed) s → Good g s a w → Ext g0 w0 g w → Low st0.base g0 g →
      wpAny P .any ops Q fuel listed a w := by
  have noReady : ∀ (listed : Array Bool), listed.size = ops.size → Region.ready .any ops listed = [] → ∀ k, k < ops.size → dn listed k := by
    intro listed hsz hr k
    induction k using Nat.strongRecOn with
    | _ k ih =>
      intro hk
      cases hd : listed.getD k true with
      | true => exact hd
      | false =>
        have : k ∈ Region.ready .any ops listed := by
          refine mem_ready.2 ⟨hd, ops[k], by simp, fun e he hb => ?_⟩
          have hlt := hO.edge k ops[k] e (by simp) he hb
          have := ih e.on hlt (by omega)
          unfold dn at this
          rw [Array.getD_eq_getD_getElem?, Array.getElem?_eq_getElem (by omega)] at this ⊢
          exact this
        rw [hr] at this
        cases this
  have fin : ∀ (listed : Array Bool) (g : Gh) (s : St) (a : Act) (w : World), listed.size = ops.size → Mid ops vs ss st0 (dn listed) s → Good g s a w → Ext g0 w0 g w → Low st0.base g0 g → Region.ready .any ops listed = [] → Q .normal a w := by
    intro listed g s a w hsz hm hg he hl hr
    exact hQ g s a w (hm.all hR hO (noReady listed hsz hr)) hg he hl
  intro fuel
  induction fuel with
  | zero =>
    intro listed g s a w hsz hleft hD hm hg he hl
    have hr : Region.ready .any ops listed = [] := by
      cases hr : Region.ready .any ops listed with
      | nil => rfl
      | cons i r =>
        have hi : i ∈ Region.ready .any ops listed := by rw [hr]; simp
        obtain ⟨h0, x, hx, _⟩ := mem_ready.1 hi
        have hlt : i < listed.size := by rw [hsz]; exact (Array.getElem?_eq_some_iff.1 hx).1
        have hmem : false ∈ listed.toList.filter (fun b => !b) := by
          refine List.mem_filter.2 ⟨?_, rfl⟩
          rw [Array.getD_eq_getD_getElem?, Array.getElem?_eq_getElem hlt] at h0
          simp at h0
          rw [← h0]
          simp
        have := List.length_pos_of_mem hmem
        unfold left at hleft
        omega
    exact ⟨hr, fin listed g s a w hsz hm hg he hl hr⟩
  | succ fuel ih =>
    intro listed g s a w hsz hleft hD hm hg he hl
    refine ⟨fun hr => fin listed g s a w hsz hm hg he hl hr, fun i hi => ?_⟩
    obtain ⟨h0, x, hx, hw⟩ := mem_ready.1 hi
    have hlt : i < listed.size := by rw [hsz]; exact (Array.getElem?_eq_some_iff.1 hx).1
    have hni : ¬ dn listed i := by unfold dn; rw [h0]; simp
    have hw' : Waits (dn listed) x := fun e h1 h2 => by
      have := hw e h1 h2
      unfold dn
      rcases Nat.lt_or_ge e.on listed.size with hl | hl
      · rw [Array.getD_eq_getD_getElem?, Array.getElem?_eq_getElem hl] at this ⊢
        exact this
      · simp [Array.getD_eq_getD_getElem?, Array.getElem?_eq_none hl] at this
    obtain ⟨hag, _⟩ := hm.ag hR hO hD hx hni hw'
    refine (hR.step i x hx).1 g s a w hag hg Q _ fun g' a' w' h1 h2 h3 => ?_
    have hcl : left (listed.setIfInBounds i true) < left listed := by
      unfold left
      rw [Array.setIfInBounds, dif_pos hlt]
      have hfi : listed.toList[i]? = some false := by
        rw [Array.getD_eq_getD_getElem?, Array.getElem?_eq_getElem hlt] at h0
        simp at h0
        simp [hlt, h0]
      have : ∀ (l : List Bool) (i : Nat), l[i]? = some false → ((l.set i true).filter (fun b => !b)).length < (l.filter (fun b => !b)).length := by
        intro l
        induction l with
        | nil => intro i h; simp at h
        | cons b r ih =>
          intro i h
          cases i with
          | zero => simp at h; subst h; simp
          | succ i =>
            have := ih i (by simpa using h)
            cases b <;> simp [List.set_cons_succ] <;> omega
      simpa using this listed.toList i hfi
    refine ih _ g' (putD s x (vs i) (rs i)) a' w' (by simp [hsz]) (by omega) ?_ ?_ h1 (he.trans h2) (hl.trans (by rw [← hm.base]; exact h3))
    · intro k y e hy hk he hb
      rcases (dn_set k).1 hk with hk | rfl
      · exact (dn_set _).2 (.inl (hD k y e hy hk he hb))
      · have : y = x := by
          have : ops[k]? = some y := by simpa using hy
          rw [hx] at this; cases this; rfl
        subst this
        exact (dn_set _).2 (.inl (hw' e he hb))
    · exact hm.put hR hO hD hx hni hw' fun k => dn_set k
end

section
variable {P : Program} {E : Env} (hE : EnvOK P E) (hm : P.follows .mixedOrders = true)
include hE hm

/-- A REGION WHOSE ORDER IS OPEN: what its operations come to in the text's order, they come to. -/
theorem AD.walk {id : Nat} {ops : Array Oper} {K : St → Prop} {st : St} (hO : adOK ops.toList = true) (h : wpq std E P st.own ops.toList K ops.toList st) : AD P id ops K st := by
  have hord := adOK_ord hO
  obtain ⟨vs, rs, ss, e0, ⟨s1, hk, e1⟩, e2⟩ := wpq_seqs (own0 := st.own) hE ops.toList 0 st hord.quiet (fun j x hx => by simpa using hx) ⟨[], by simp⟩ h
  have hR : Row3 P ops st.own vs rs ss st := ⟨e0, rfl, fun j x hx => by
    have := e2 j x (by simpa using hx)
    rwa [Nat.zero_add] at this⟩
  refine ⟨fun g w a hg => ?_⟩
  have hdrew : drewSome w { w with drawn := w.drawn + 1 } := ⟨_, rfl⟩
  refine wp_region_any hm (any_ok hR hord (g0 := g) (w0 := w) (fun g' s a' w' he hg' hext hlow => ?_) ops.size _ g st a _ (by simp) ?_ ?_ ?_ (hg.drew hdrew) (Ext.drew g hdrew) (.refl _ _))
  · simp only [Array.length_toList] at e1
    have hs : Eqv s s1 := he.trans ⟨e1.N.symm, e1.base.symm, e1.own.symm, fun t => (e1.tm t).symm⟩
    obtain ⟨n1, n2, _⟩ := ss_NB hR ops.size (Nat.le_refl _)
    exact ⟨g', s1, hs.good hg', hext, by rw [e1.base, n2], by rw [e1.N, n1], hlow, hk⟩
  · unfold left; simp
  · intro i x e hx hd he hb
    unfold dn at hd
    have hlt : i < ops.size := by have := (List.getElem?_eq_some_iff.1 hx).1; simpa using this
    simp [hlt] at hd
  · refine ⟨rfl, rfl, ⟨fun t k x hx hd hk => ?_, fun t _ => rfl⟩, 0, Nat.zero_le _, by rw [e0.own], fun k x hx hc => ?_⟩
    · have hlt : k < ops.size := (Array.getElem?_eq_some_iff.1 hx).1
      unfold dn at hk
      simp [hlt] at hk
    · have hlt : k < ops.size := (Array.getElem?_eq_some_iff.1 hx).1
      unfold dn
      simp [hlt]
end
end Go.En
