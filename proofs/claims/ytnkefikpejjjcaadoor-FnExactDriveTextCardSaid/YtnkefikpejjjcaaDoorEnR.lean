/-
  A CONTRACT USED AT A CALL: beside blocks of the caller's own; with blocks lent. Own work; generic over the program.
-/
import Derived.Test.YtnkefikpejjjcaaDoorEnQ
set_option linter.unusedVariables false
set_option linter.unusedSectionVars false
set_option linter.unusedSimpArgs false
namespace Go.En

/-- THE PLAIN CONTRACT: for these arguments this result, and these new blocks. -/
structure Call (P : PG) (f : Nat) (args : List V) (r : V) (rows : List OB) : Prop where
  ok : FnOK P f args [] fun r' own' => r' = r ∧ own' = rows

def mapO (f : V → Option V) : List V → Option (List V)
  | [] => some []
  | v :: r => (match f v with | some u => (match mapO f r with | some l => some (u :: l) | none => none) | none => none)

/-- A value as one who only reads sees it: the caller's own blocks as memory that stands still. -/
def lendV (own : List OB) : Nat → V → Option V
  | 0, _ => none
  | n + 1, v =>
    match v with
    | .own i => (match nth own i with | some (.row _ c) => some (.sl c false) | _ => none)
    | .nils k => some (.sl (empty k) true)
    | .lp i o => (match nth own i with | some (.cells cs) => (match solids cs, mapO (lendV own n) cs with | true, some cs' => some (.sp cs' o) | _, _ => none) | _ => none)
    | .le _ _ _ _ => none
    | .sp cs o => (match mapO (lendV own n) cs with | some cs' => some (.sp cs' o) | none => none)
    | .agg cs => (match mapO (lendV own n) cs with | some cs' => some (.agg cs') | none => none)
    | .tup cs => (match mapO (lendV own n) cs with | some cs' => some (.tup cs') | none => none)
    | .fn f a b => (match mapO (lendV own n) a, mapO (lendV own n) b with | some a', some b' => some (.fn f a' b') | _, _ => none)
    | v => some v

mutual
/-- Nothing of it leads to memory that stands still. -/
def noRef : V → Bool
  | .sl _ _ => false
  | .sarr _ => false
  | .sp _ _ => false
  | .agg cs => noRefL cs
  | .tup cs => noRefL cs
  | .fn _ a b => (match noRefL a with | true => noRefL b | false => false)
  | _ => true
def noRefL : List V → Bool
  | [] => true
  | v :: r => (match noRef v with | true => noRefL r | false => false)
end

def noRefO : OB → Bool
  | .dead => true
  | .cells cs => noRefL cs
  | .row _ (.ss _) => false
  | .row _ _ => true
def noRefOs : List OB → Bool
  | [] => true
  | o :: r => (match noRefO o with | true => noRefOs r | false => false)

def shO (n : Nat) : OB → OB
  | .cells cs => .cells (renL (fun i => Nat.add i n) cs)
  | ob => ob
def shOs (n : Nat) : List OB → List OB
  | [] => []
  | o :: r => shO n o :: shOs n r

theorem shOs_get (n : Nat) : ∀ (l : List OB) (i : Nat), (shOs n l)[i]? = (l[i]?).map (shO n)
  | [], i => by simp [shOs]
  | o :: r, 0 => by simp [shOs]
  | o :: r, i + 1 => by simpa [shOs] using shOs_get n r i
theorem shOs_length (n : Nat) : ∀ l : List OB, (shOs n l).length = l.length
  | [] => rfl
  | o :: r => by simp [shOs, shOs_length n r]
theorem shO_live (n : Nat) (o : OB) : (shO n o).live = o.live := by cases o <;> rfl

section
variable {g g' : Gh} {f : Nat → Nat} (hi : ∀ (i : Nat) (x : Id), g.ids[i]? = some x → g'.ids[f i]? = some x)
include hi
mutual
theorem Rd_flat (v : V) (x : Value) (hp : noRef v = true) (h : Rd g v x) : Rd g' (ren f v) x := by
  cases v with
  | und => trivial
  | bool b => exact h
  | int k n => exact h
  | flt k y => exact h
  | cpx k r i => exact h
  | str s => exact h
  | nilp => exact h
  | nilf => exact h
  | ifc n => exact h
  | sarr c => cases hp
  | nils k => exact h
  | sl c t => cases hp
  | own i => exact ⟨hi _ _ h.1, h.2⟩
  | lp i o =>
    obtain ⟨b, hb, hx⟩ := h
    exact ⟨b, hi _ _ hb, hx⟩
  | le i e sz o =>
    obtain ⟨b, n, cap, hb, hx⟩ := h
    exact ⟨b, n, cap, hi _ _ hb, hx⟩
  | sp cs o => cases hp
  | agg cs =>
    obtain ⟨vs, hx, hl⟩ := h
    exact ⟨vs, hx, RdL_flat cs _ hp hl⟩
  | tup cs =>
    obtain ⟨vs, hx, hl⟩ := h
    exact ⟨vs, hx, RdL_flat cs _ hp hl⟩
  | fn n a b =>
    obtain ⟨vs, us, hx, h1, h2⟩ := h
    simp only [noRef] at hp
    split at hp
    · rename_i h0
      exact ⟨vs, us, hx, RdL_flat a _ h0 h1, RdL_flat b _ hp h2⟩
    · cases hp
theorem RdL_flat (l : List V) (xs : List Value) (hp : noRefL l = true) (h : RdL g l xs) : RdL g' (renL f l) xs := by
  cases l with
  | nil => cases xs with
    | nil => trivial
    | cons => exact h.elim
  | cons v r => cases xs with
    | nil => exact h.elim
    | cons x xs =>
      simp only [noRefL] at hp
      split at hp
      · rename_i h0
        exact ⟨Rd_flat v x h0 h.1, RdL_flat r xs hp h.2⟩
      · cases hp
end
end

theorem RdCell_flat {ws ws' : Ws} {c : Cont} (hc : ∀ xs, c ≠ .ss xs) {i j : Nat} {u : Value} (h : RdCell ws (c.cell i j) u) : RdCell ws' (c.cell i j) u := by
  cases c
  case ss xs => exact absurd rfl (hc xs)
  all_goals first
    | exact h
    | (rcases j3 j with rfl | rfl | ⟨k, rfl⟩ <;> exact h)

section
variable {P : PG} {w w' : World}

/-- The blocks that a callee has left, beside the caller's. -/
theorem beside {g g0 g0' g' : Gh} {own own0' : List OB} (hm : Mem w g own) (h0 : g0.ids = []) (hm0 : Mem w' g0' own0') (hext : Ext g0 w g0' w') (hids : g'.ids = g.ids ++ g0'.ids) (hws : ∀ b o, g.ws b = some o → g'.ws b = some o)
    (hst : ∀ b o, g'.ws b = some o → g0'.ws b = some o) (hnew : ∀ b o, g'.ws b = some o → g.ws b = some o ∨ w.heap.size ≤ b)
    (hin : ∀ (i : Nat) (ob : OB) (id : Id), own0'[i]? = some ob → g0'.ids[i]? = some id → OBin w' g0' ob id → OBin w' g' (shO own.length ob) id) :
    Mem w' g' (own ++ shOs own.length own0') ∧ Ext g w g' w' ∧ Gle g g' := by
  have hle : Gle g g' := ⟨hws, fun i x hx => by rw [hids, List.getElem?_append_left (List.getElem?_eq_some_iff.1 hx).1]; exact hx⟩
  have hold : ∀ b, b < w.heap.size → w'.heap[b]? = w.heap[b]? := fun b hb => hext.block b hb fun i id hi => by rw [h0] at hi; simp at hi
  have hbig : ∀ (i : Nat) (id : Id) (b : Nat), g0'.ids[i]? = some id → id.block = some b → w.heap.size ≤ b := fun i id b h1 h2 => by
    rcases hext.newId i id b h1 h2 with ⟨j, x, hj, _⟩ | h
    · rw [h0] at hj; simp at hj
    · exact h
  have part : ∀ {k : Nat} {o : OB} {x : Id}, (own ++ shOs own.length own0')[k]? = some o → g'.ids[k]? = some x →
      (own[k]? = some o ∧ g.ids[k]? = some x) ∨ (∃ o', own.length ≤ k ∧ own0'[k - own.length]? = some o' ∧ g0'.ids[k - own.length]? = some x ∧ o = shO own.length o') := by
    intro k o x h1 h2
    rw [hids] at h2
    rcases Nat.lt_or_ge k own.length with hk | hk
    · rw [List.getElem?_append_left hk] at h1
      rw [List.getElem?_append_left (by rw [hm.len]; exact hk)] at h2
      exact .inl ⟨h1, h2⟩
    · rw [List.getElem?_append_right hk, shOs_get] at h1
      rw [List.getElem?_append_right (by rw [hm.len]; exact hk), hm.len] at h2
      cases ho : own0'[k - own.length]? with
      | none => rw [ho] at h1; cases h1
      | some o' => rw [ho] at h1; simp at h1; exact .inr ⟨o', hk, rfl, h2, h1.symm⟩
  have olt : ∀ (i : Nat) (ob : OB) (id : Id) (b : Nat), own[i]? = some ob → g.ids[i]? = some id → ob.live = true → id.block = some b → b < w.heap.size := fun i ob id b h1 h2 hl hb => (hm.isIn i ob id h1 h2).lt hl hb
  refine ⟨⟨?_, fun b o hb => hm0.still b o (hst b o hb), fun k o x h1 h2 => ?_, fun k o x b h1 h2 hl hb => ?_, fun k j ok oj x y b hkj h1 h2 h3 h4 hlk hlj hx hy => ?_⟩, ?_, hle⟩
  · rw [hids]; simp [shOs_length, hm.len, hm0.len]
  · rcases part h1 h2 with ⟨e1, e2⟩ | ⟨o', hk, e1, e2, rfl⟩
    · exact ((hm.isIn k o x e1 e2).heap fun hl b hb => hold b (olt k o x b e1 e2 hl hb)).ghost hle
    · exact hin _ o' x e1 e2 (hm0.isIn _ o' x e1 e2)
  · rcases part h1 h2 with ⟨e1, e2⟩ | ⟨o', hk, e1, e2, rfl⟩
    · cases hg : g'.ws b with
      | none => rfl
      | some z =>
        rcases hnew b z hg with h | h
        · rw [hm.apart k o x b e1 e2 hl hb] at h; cases h
        · have := olt k o x b e1 e2 hl hb; omega
    · rw [shO_live] at hl
      have := hm0.apart _ o' x b e1 e2 hl hb
      cases hg : g'.ws b with
      | none => rfl
      | some z => rw [hst b z hg] at this; cases this
  · rcases part h1 h3 with ⟨e1, e2⟩ | ⟨o', hk, e1, e2, rfl⟩
    · rcases part h2 h4 with ⟨f1, f2⟩ | ⟨o'', hj, f1, f2, rfl⟩
      · exact hm.two k j ok oj x y b hkj e1 f1 e2 f2 hlk hlj hx hy
      · have := olt k ok x b e1 e2 hlk hx
        have := hbig _ y b f2 hy
        omega
    · rcases part h2 h4 with ⟨f1, f2⟩ | ⟨o'', hj, f1, f2, rfl⟩
      · have := olt j oj y b f1 f2 hlj hy
        have := hbig _ x b e2 hx
        omega
      · rw [shO_live] at hlk hlj
        exact hm0.two _ _ o' o'' x y b (by omega) e1 f1 e2 f2 hlk hlj hx hy
  · refine ⟨hext.os, hext.tape, hext.output, hext.size, fun b hb _ => hold b hb, hws, fun i id b h1 h2 => ?_, fun b o hb => ?_⟩
    · rw [hids] at h1
      rcases Nat.lt_or_ge i g.ids.length with hi | hi
      · rw [List.getElem?_append_left hi] at h1; exact .inl ⟨i, id, h1, h2⟩
      · rw [List.getElem?_append_right hi] at h1; exact .inr (hbig _ id b h1 h2)
    · rcases hnew b o hb with h | h
      · exact .inl h
      · exact .inr (.inr h)

theorem hs_false {v : V} : True := trivial

/-- A CALL WHOSE ARGUMENTS LEAD TO NO BLOCK OF THE CALLER's OWN. -/
theorem Call.still {f : Nat} {args : List V} {r : V} {rows own : List OB} {Q : V → List OB → Prop} (h : Call P f args r rows) (ha : hsL (fun _ => false) args = true)
    (hQ : Q (ren (fun i => Nat.add i (len own)) r) (cat own (shOs (len own) rows))) : FnOK P f args own Q := by
  rw [len_eq, cat_eq] at hQ
  refine ⟨fun g w vs hgl hr hm => ?_⟩
  let g0 : Gh := ⟨g.ws, []⟩
  have hr0 : RdL g0 args vs.toList := by
    have := RdL_ren (g := g) (g' := g0) (f := fun i => i) (p := fun _ => false) (fun _ _ h => h) (fun i x hp _ => by cases hp) args vs.toList ha hr
    rwa [renL_id] at this
  have hm0 : Mem w g0 [] := ⟨rfl, hm.still, fun i ob id h => by simp at h, fun i ob id b h => by simp at h, fun i j oi oj x y b _ h => by simp at h⟩
  refine (h.ok.run g0 w vs hgl hr0 hm0).mono fun e w' he => ?_
  obtain ⟨x, r', g0', own0', rfl, hrd, hmem, hext, hle, rfl, rfl⟩ := he
  let g' : Gh := ⟨g0'.ws, g.ids ++ g0'.ids⟩
  have hsh : ∀ (i : Nat) (x : Id), (fun _ => true) i = true → g0'.ids[i]? = some x → g'.ids[Nat.add i own.length]? = some x := fun i x _ hx => by
    show (g.ids ++ g0'.ids)[i + own.length]? = some x
    rw [List.getElem?_append_right (by rw [hm.len]; omega), hm.len, Nat.add_sub_cancel]
    exact hx
  obtain ⟨k1, k2, k3⟩ := beside (g' := g') hm rfl hmem hext rfl (fun b o hb => hext.ws b o hb) (fun _ _ h => h) (fun b o hb => by
      rcases hext.newWs b o hb with h | ⟨j, x, hj, _⟩ | h
      · exact .inl h
      · simp [g0] at hj
      · exact .inr h) (fun i ob id h1 h2 h3 => by
        cases ob with
        | dead => trivial
        | row e c => cases id <;> exact h3
        | cells cs =>
          cases id with
          | cell b => obtain ⟨arr, e, hb, hl, h1⟩ := h3; exact ⟨arr, e, hb, RdL_ren (g := g0') (g' := g') (fun _ _ h => h) hsh cs _ (hsL_true cs) hl, h1⟩
          | row v => exact h3.elim)
  exact ⟨x, _, g', _, rfl, Rd_ren (g := g0') (g' := g') (fun _ _ h => h) hsh r' x (hs_true r') hrd, k1, k2, k3, hQ⟩

/-- All of memory standing still. -/
def full (w : World) : Gh := ⟨fun b => w.heap[b]?, []⟩

theorem mapO_ok {g : Gh} {f : V → Option V} (hf : ∀ v u x, f v = some u → Rd g v x → Rd (full w) u x) : ∀ {l l' : List V} {xs : List Value}, mapO f l = some l' → RdL g l xs → RdL (full w) l' xs
  | [], l', xs, h, hr => by
    simp only [mapO] at h
    cases h
    cases xs with
    | nil => trivial
    | cons => exact hr.elim
  | v :: r, l', xs, h, hr => by
    simp only [mapO] at h
    split at h
    · rename_i u hu
      split at h
      · rename_i l hl
        cases h
        cases xs with
        | nil => exact hr.elim
        | cons x xs => exact ⟨hf v u x hu hr.1, mapO_ok hf hl hr.2⟩
      · cases h
    · cases h

theorem RdC_of {g : Gh} {b off : Nat} : ∀ {cs : List V} {us : List Value} {j : Nat}, RdL g cs us → (∀ (i : Nat) (u : Value), us[i]? = some u → scell g.ws b (off + (j + i)) = some u ∧ u.oneCell' = true) → RdC g b off cs j
  | [], _, _, _, _ => trivial
  | v :: r, [], _, h, _ => h.elim
  | v :: r, u :: us, j, h, hc => by
    obtain ⟨h1, h2⟩ := hc 0 u rfl
    refine ⟨⟨u, h1, h2, h.1⟩, RdC_of h.2 fun i x hx => ?_⟩
    have := hc (i + 1) x (by simpa using hx)
    rwa [show j + (i + 1) = j + 1 + i by omega] at this

theorem scell_full {b o : Nat} {arr : Array Value} {e : TypeId} {fr : Nat × Nat} (h : w.heap[b]? = some (.cells arr e fr)) : scell (full w).ws b o = arr[o]? := by
  show (match w.heap[b]? with | some (.cells c _ _) => c[o]? | _ => none) = _
  rw [h]

theorem lend_ok {g : Gh} {own : List OB} (hm : Mem w g own) : ∀ (n : Nat) (v u : V) (x : Value), lendV own n v = some u → Rd g v x → Rd (full w) u x
  | 0, v, u, x, h, _ => by cases h
  | n + 1, v, u, x, h, hr => by
    have hws : ∀ b o, g.ws b = some o → (full w).ws b = some o := hm.still
    have ih := lend_ok hm n
    cases v with
    | und => simp only [lendV] at h; cases h; trivial
    | bool b => simp only [lendV] at h; cases h; exact hr
    | int k m => simp only [lendV] at h; cases h; exact hr
    | flt k m => simp only [lendV] at h; cases h; exact hr
    | cpx k a b => simp only [lendV] at h; cases h; exact hr
    | str s => simp only [lendV] at h; cases h; exact hr
    | nilp => simp only [lendV] at h; cases h; exact hr
    | nilf => simp only [lendV] at h; cases h; exact hr
    | ifc n => simp only [lendV] at h; cases h; exact hr
    | sarr c =>
      simp only [lendV] at h; cases h
      obtain ⟨b, off, hx, hr⟩ := hr
      exact ⟨b, off, hx, hr.mono hws⟩
    | nils k =>
      simp only [lendV] at h; cases h
      obtain rfl : x = .slice none 0 0 := hr
      have h0 : (empty k).len = 0 := by cases k <;> rfl
      exact ⟨none, 0, by rw [h0], by omega, fun _ => h0.symm, .inl h0⟩
    | sl c t => simp only [lendV] at h; cases h; exact RdSl.mono hws hr
    | own i =>
      simp only [lendV] at h
      split at h
      · rename_i e c hn
        cases h
        rw [nth_eq] at hn
        obtain ⟨id, hid, hin⟩ := hm.get hn
        obtain ⟨hx, hsl⟩ := hr
        rw [hx] at hid
        cases hid
        obtain ⟨xs, ho, hc, h1⟩ := hin
        rcases ho.2 with ⟨rfl, h0⟩ | ⟨b, cap, cur, rfl, _, hb, hcap, _, _, ht⟩
        · exact ⟨none, 0, by rw [h0], by omega, (fun e => nomatch e), .inl h0⟩
        · refine ⟨_, cap, rfl, hcap, (fun e => nomatch e), .inr ⟨b, 0, rfl, fun i hi j hj => ?_⟩⟩
          obtain ⟨u, hu, hrd⟩ := hc i hi j hj
          refine ⟨u, ?_, RdCell.mono hws hrd⟩
          rw [scell_full hb]
          rw [← ht, List.getElem?_take] at hu
          split at hu
          · simpa using hu
          · cases hu
      · cases h
    | lp i o =>
      simp only [lendV] at h
      split at h
      · rename_i cs hn
        split at h
        · rename_i cs' hs hcs
          cases h
          rw [nth_eq] at hn
          obtain ⟨id, hid, hin⟩ := hm.get hn
          obtain ⟨b, hb, rfl⟩ := hr
          rw [hb] at hid
          cases hid
          obtain ⟨arr, e, hh, hl, h1⟩ := hin
          refine ⟨b, 0, by rw [Nat.zero_add], RdC_of (mapO_ok ih hcs hl) fun i u hu => ?_⟩
          rw [scell_full hh]
          have hu' : arr[i]? = some u := by simpa using hu
          exact ⟨by simpa using hu', h1 u (List.mem_of_getElem? hu)⟩
        · cases h
      · cases h
    | le i e sz o => simp only [lendV] at h; cases h
    | sp cs o =>
      simp only [lendV] at h
      split at h
      · rename_i cs' hcs
        cases h
        obtain ⟨b, off, rfl, hc⟩ := hr
        obtain ⟨us, h1, h2⟩ := RdC_list hc
        exact ⟨b, off, rfl, RdC_of (mapO_ok ih hcs h1) fun i u hu => ⟨scell_mono hws (h2 i u hu).1, (h2 i u hu).2⟩⟩
      · cases h
    | agg cs =>
      simp only [lendV] at h
      split at h
      · rename_i cs' hcs
        cases h
        obtain ⟨vs, rfl, hl⟩ := hr
        exact ⟨vs, rfl, mapO_ok ih hcs hl⟩
      · cases h
    | tup cs =>
      simp only [lendV] at h
      split at h
      · rename_i cs' hcs
        cases h
        obtain ⟨vs, rfl, hl⟩ := hr
        exact ⟨vs, rfl, mapO_ok ih hcs hl⟩
      · cases h
    | fn f a b =>
      simp only [lendV] at h
      split at h
      · rename_i a' b' ha hb
        cases h
        obtain ⟨vs, us, rfl, h1, h2⟩ := hr
        exact ⟨vs, us, rfl, mapO_ok ih ha h1, mapO_ok ih hb h2⟩
      · cases h

/-- A CALL TO WHICH BLOCKS OF THE CALLER's OWN ARE LENT: what comes back leads to none of them. -/
theorem Call.lend {f : Nat} {args args' : List V} {r : V} {rows own : List OB} {Q : V → List OB → Prop} (n : Nat) (h : Call P f args' r rows) (ha : mapO (lendV own n) args = some args') (hr : noRef r = true) (hrows : noRefOs rows = true)
    (hQ : Q (ren (fun i => Nat.add i (len own)) r) (cat own (shOs (len own) rows))) : FnOK P f args own Q := by
  rw [len_eq, cat_eq] at hQ
  refine ⟨fun g w vs hgl hrl hm => ?_⟩
  have hr0 : RdL (full w) args' vs.toList := mapO_ok (lend_ok hm n) ha hrl
  have hm0 : Mem w (full w) [] := ⟨rfl, fun b o h => h, fun i ob id h => by simp at h, fun i ob id b h => by simp at h, fun i j oi oj x y b _ h => by simp at h⟩
  refine (h.ok.run (full w) w vs (hgl.mono hm.still) hr0 hm0).mono fun e w' he => ?_
  obtain ⟨x, r', g0', own0', rfl, hrd, hmem, hext, hle, rfl, rfl⟩ := he
  let g' : Gh := ⟨g.ws, g.ids ++ g0'.ids⟩
  have hsh : ∀ (i : Nat) (x : Id), g0'.ids[i]? = some x → g'.ids[Nat.add i own.length]? = some x := fun i x hx => by
    show (g.ids ++ g0'.ids)[i + own.length]? = some x
    rw [List.getElem?_append_right (by rw [hm.len]; omega), hm.len, Nat.add_sub_cancel]
    exact hx
  have hflat : ∀ {l : List OB}, noRefOs l = true → ∀ (i : Nat) (o : OB), l[i]? = some o → noRefO o = true := by
    intro l
    induction l with
    | nil => intro _ i o h; simp at h
    | cons o r ih =>
      intro h i o' ho
      simp only [noRefOs] at h
      split at h
      · rename_i h0
        cases i with
        | zero => simp at ho; subst ho; exact h0
        | succ i => exact ih h i o' (by simpa using ho)
      · cases h
  obtain ⟨k1, k2, k3⟩ := beside (g' := g') hm rfl hmem hext rfl (fun b o hb => hb) (fun b o hb => hext.ws b o (hm.still b o hb)) (fun b o hb => .inl hb) (fun i ob id h1 h2 h3 => by
        have hf := hflat hrows i ob h1
        cases ob with
        | dead => trivial
        | row e c =>
          cases id with
          | cell b => exact h3
          | row v =>
            obtain ⟨xs, ho, hc, h1⟩ := h3
            exact ⟨xs, ho, fun i hi j hj => by
              obtain ⟨u, hu, hru⟩ := hc i hi j hj
              exact ⟨u, hu, RdCell_flat (fun xs e => by subst e; cases hf) hru⟩, h1⟩
        | cells cs =>
          cases id with
          | cell b => obtain ⟨arr, e, hb, hl, h1⟩ := h3; exact ⟨arr, e, hb, RdL_flat (g := g0') (g' := g') hsh cs _ hf hl, h1⟩
          | row v => exact h3.elim)
  exact ⟨x, _, g', _, rfl, Rd_flat (g := g0') (g' := g') hsh r' x hr hrd, k1, k2, k3, hQ⟩

end
end Go.En
