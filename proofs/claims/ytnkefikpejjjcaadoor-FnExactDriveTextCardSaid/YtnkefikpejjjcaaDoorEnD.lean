/-
  MEMORY UNDER THE STEPS OF AN OPERATION: a draw, a new block, a block of the call's own written, a row grown. Own work; generic over the program.
-/
import Derived.Test.YtnkefikpejjjcaaDoorEnC
set_option linter.unusedVariables false
set_option linter.unusedSectionVars false
set_option linter.unusedSimpArgs false
namespace Go.En

theorem ownsRow_of_heap {w w' : World} {base : Nat} {e : TypeId} {size : Nat} {v : Value} {n : Nat} {xs : List Value} (h : w.ownsRow base e size v n xs)
    (hh : ∀ b, v.ownBlock = some b → w'.heap[b]? = w.heap[b]?) : w'.ownsRow base e size v n xs := by
  refine ⟨h.1, ?_⟩
  rcases h.2 with hn | ⟨g, cap, cur, rfl, hb, hg, rest⟩
  · exact .inl hn
  · exact .inr ⟨g, cap, cur, rfl, hb, (hh g rfl).trans hg, rest⟩

theorem OBin.heap {w w' : World} {g : Gh} {ob : OB} {id : Id} (h : OBin w g ob id) (hh : ob.live = true → ∀ b, id.block = some b → w'.heap[b]? = w.heap[b]?) : OBin w' g ob id := by
  cases ob with
  | dead => trivial
  | cells cs =>
    cases id with
    | cell b =>
      obtain ⟨arr, e, hb, hr⟩ := h
      exact ⟨arr, e, (hh rfl b rfl).trans hb, hr⟩
    | row v => exact h.elim
  | row e c =>
    cases id with
    | cell b => exact h.elim
    | row v =>
      obtain ⟨xs, ho, hr⟩ := h
      exact ⟨xs, ownsRow_of_heap ho (hh rfl), hr⟩

theorem RdCells.mono {ws ws' : Ws} (h : ∀ b o, ws b = some o → ws' b = some o) {c : Cont} {xs : List Value} (e : RdCells ws c xs) : RdCells ws' c xs := by
  intro i hi j hj
  obtain ⟨u, hu, hr⟩ := e i hi j hj
  exact ⟨u, hu, hr.mono h⟩

theorem OBin.ghost {w : World} {g g' : Gh} {ob : OB} {id : Id} (h : OBin w g ob id) (hg : Gle g g') : OBin w g' ob id := by
  cases ob with
  | dead => trivial
  | cells cs =>
    cases id with
    | cell b =>
      obtain ⟨arr, e, hb, hr, h1⟩ := h
      exact ⟨arr, e, hb, RdL_mono hg hr, h1⟩
    | row v => exact h.elim
  | row e c =>
    cases id with
    | cell b => exact h.elim
    | row v =>
      obtain ⟨xs, ho, hr, h1⟩ := h
      exact ⟨xs, ho, hr.mono hg.ws, h1⟩

/-- A live block lies in the heap. -/
theorem OBin.lt {w : World} {g : Gh} {ob : OB} {id : Id} (h : OBin w g ob id) (hl : ob.live = true) {b : Nat} (hb : id.block = some b) : b < w.heap.size := by
  cases ob with
  | dead => simp [OB.live] at hl
  | cells cs =>
    cases id with
    | cell b' =>
      obtain ⟨arr, e, hh, hr⟩ := h
      simp [Id.block] at hb
      subst hb
      exact (Array.getElem?_eq_some_iff.1 hh).1
    | row v => exact h.elim
  | row e c =>
    cases id with
    | cell b => exact h.elim
    | row v =>
      obtain ⟨xs, ho, hr⟩ := h
      exact (ho.lt b hb).2

theorem Mem.ws_lt {w : World} {g : Gh} {own : List OB} (h : Mem w g own) {b : Nat} {o : Obj} (hb : g.ws b = some o) : b < w.heap.size :=
  (Array.getElem?_eq_some_iff.1 (h.still b o hb)).1

theorem Mem.get {w : World} {g : Gh} {own : List OB} (h : Mem w g own) {i : Nat} {ob : OB} (hi : own[i]? = some ob) : ∃ id, g.ids[i]? = some id ∧ OBin w g ob id := by
  have hlt : i < own.length := (List.getElem?_eq_some_iff.1 hi).1
  have hlt' : i < g.ids.length := by rw [h.len]; exact hlt
  exact ⟨g.ids[i], List.getElem?_eq_getElem hlt', h.isIn i ob _ hi (List.getElem?_eq_getElem hlt')⟩

/-- The same heap. -/
theorem Mem.sameHeap {w w' : World} {g : Gh} {own : List OB} (h : Mem w g own) (hh : w'.heap = w.heap) : Mem w' g own :=
  ⟨h.len, fun b o hb => by rw [hh]; exact h.still b o hb, fun i ob id hi hid => (h.isIn i ob id hi hid).heap fun _ b _ => by rw [hh], h.apart, h.two⟩

theorem Ext.drew (g : Gh) {w w' : World} (h : drewSome w w') : Ext g w g w' := by
  obtain ⟨n, rfl⟩ := h
  exact ⟨rfl, rfl, rfl, Nat.le_refl _, fun _ _ _ => rfl, fun _ _ h => h, fun i id b h hb => .inl ⟨i, id, h, hb⟩, fun _ _ h => .inl h⟩
theorem Mem.drew {w w' : World} {g : Gh} {own : List OB} (h : Mem w g own) (hd : drewSome w w') : Mem w' g own := by
  obtain ⟨n, rfl⟩ := hd
  exact h.sameHeap rfl

/-- A new block. -/
def Gh.push (g : Gh) (id : Id) : Gh := { g with ids := g.ids ++ [id] }
theorem Gh.push_le (g : Gh) (id : Id) : Gle g (g.push id) := ⟨fun _ _ h => h, fun i x h => by
  have hlt : i < g.ids.length := (List.getElem?_eq_some_iff.1 h).1
  simp [Gh.push, List.getElem?_append_left hlt, h]⟩

theorem getElem?_snoc {α : Type} {l : List α} {x y : α} {i : Nat} (h : (l ++ [x])[i]? = some y) : l[i]? = some y ∨ (i = l.length ∧ y = x) := by
  rcases Nat.lt_or_ge i l.length with hl | hl
  · rw [List.getElem?_append_left hl] at h; exact .inl h
  · rw [List.getElem?_append_right hl] at h
    have : i - l.length = 0 := by
      rcases Nat.eq_zero_or_pos (i - l.length) with e | e
      · exact e
      · rw [List.getElem?_eq_none (by simp; omega)] at h; cases h
    rw [this] at h
    simp at h
    exact .inr ⟨by omega, h.symm⟩

theorem Mem.push {w w' : World} {g : Gh} {own : List OB} (h : Mem w g own) {ob : OB} {id : Id} (hold : ∀ b, b < w.heap.size → w'.heap[b]? = w.heap[b]?)
    (hnew : ∀ b, id.block = some b → w.heap.size ≤ b) (hin : OBin w' (g.push id) ob id) : Mem w' (g.push id) (own ++ [ob]) := by
  have hw : ∀ b o, g.ws b = some o → w'.heap[b]? = some o := fun b o hb => (hold b (h.ws_lt hb)).trans (h.still b o hb)
  have old : ∀ (i : Nat) (ob' : OB) (id' : Id), own[i]? = some ob' → g.ids[i]? = some id' → ob'.live = true → ∀ b, id'.block = some b → b < w.heap.size :=
    fun i ob' id' h1 h2 hl b hb => (h.isIn i ob' id' h1 h2).lt hl hb
  refine ⟨by simp [Gh.push, h.len], hw, fun i ob' id' h1 h2 => ?_, fun i ob' id' b h1 h2 hl hb => ?_, fun i j oi oj x y b hij h1 h2 h3 h4 hli hlj hx hy => ?_⟩
  · rcases getElem?_snoc h1 with h1 | ⟨hi, rfl⟩
    · have hlt : i < g.ids.length := by rw [h.len]; exact (List.getElem?_eq_some_iff.1 h1).1
      rcases getElem?_snoc (show (g.ids ++ [id])[i]? = some id' from h2) with h2 | ⟨h2, _⟩
      · exact ((h.isIn i ob' id' h1 h2).heap fun hl b hb => hold b (old i ob' id' h1 h2 hl b hb)).ghost (g.push_le id)
      · omega
    · rcases getElem?_snoc (show (g.ids ++ [id])[i]? = some id' from h2) with h2 | ⟨h2, rfl⟩
      · have := (List.getElem?_eq_some_iff.1 h2).1; rw [h.len] at this; omega
      · exact hin
  · rcases getElem?_snoc h1 with h1 | ⟨hi, rfl⟩
    · have hlt : i < g.ids.length := by rw [h.len]; exact (List.getElem?_eq_some_iff.1 h1).1
      rcases getElem?_snoc (show (g.ids ++ [id])[i]? = some id' from h2) with h2 | ⟨h2, _⟩
      · exact h.apart i ob' id' b h1 h2 hl hb
      · omega
    · rcases getElem?_snoc (show (g.ids ++ [id])[i]? = some id' from h2) with h2 | ⟨h2, rfl⟩
      · have := (List.getElem?_eq_some_iff.1 h2).1; rw [h.len] at this; omega
      · show g.ws b = none
        cases hg : g.ws b with
        | none => rfl
        | some o => have := h.ws_lt hg; have := hnew b hb; omega
  · have hk : ∀ k o' z, (own ++ [ob])[k]? = some o' → (g.push id).ids[k]? = some z → (own[k]? = some o' ∧ g.ids[k]? = some z) ∨ (k = own.length ∧ o' = ob ∧ z = id) := by
      intro k o' z e1 e2
      rcases getElem?_snoc e1 with e1 | ⟨hi, rfl⟩
      · have hlt : k < g.ids.length := by rw [h.len]; exact (List.getElem?_eq_some_iff.1 e1).1
        rcases getElem?_snoc (show (g.ids ++ [id])[k]? = some z from e2) with e2 | ⟨e2, _⟩
        · exact .inl ⟨e1, e2⟩
        · omega
      · rcases getElem?_snoc (show (g.ids ++ [id])[k]? = some z from e2) with e2 | ⟨e2, rfl⟩
        · have := (List.getElem?_eq_some_iff.1 e2).1; rw [h.len] at this; omega
        · exact .inr ⟨hi, rfl, rfl⟩
    rcases hk i oi x h1 h3 with ⟨a1, a2⟩ | ⟨a1, rfl, rfl⟩
    · rcases hk j oj y h2 h4 with ⟨b1, b2⟩ | ⟨b1, rfl, rfl⟩
      · exact h.two i j oi oj x y b hij a1 b1 a2 b2 hli hlj hx hy
      · have := old i oi x a1 a2 hli b hx; have := hnew b hy; omega
    · rcases hk j oj y h2 h4 with ⟨b1, b2⟩ | ⟨b1, rfl, rfl⟩
      · have := old j oj y b1 b2 hlj b hy; have := hnew b hx; omega
      · omega

theorem Ext.push {w w' : World} (g : Gh) (id : Id) (os : w'.os = w.os) (tape : w'.tape = w.tape) (output : w'.output = w.output) (size : w.heap.size ≤ w'.heap.size)
    (hold : ∀ b, b < w.heap.size → w'.heap[b]? = w.heap[b]?) (hnew : ∀ b, id.block = some b → w.heap.size ≤ b) : Ext g w (g.push id) w' := by
  refine ⟨os, tape, output, size, fun b hb _ => hold b hb, fun _ _ h => h, fun i x b h hb => ?_, fun _ _ h => .inl h⟩
  rcases getElem?_snoc (show (g.ids ++ [id])[i]? = some x from h) with h | ⟨_, rfl⟩
  · exact .inl ⟨i, x, h, hb⟩
  · exact .inr (hnew b hb)

theorem alloc_old (w : World) (o : Obj) : ∀ b, b < w.heap.size → (w.alloc o).heap[b]? = w.heap[b]? := fun b hb => by
  show (w.heap.push o)[b]? = _
  rw [Array.getElem?_push, if_neg (by omega)]

/-- A block of the call's own turned, where it lies. -/
theorem Mem.turn {w w' : World} {g : Gh} {own : List OB} (h : Mem w g own) {i : Nat} {ob ob' : OB} {id : Id} (hi : own[i]? = some ob) (hid : g.ids[i]? = some id) (hl : ob.live = true)
    (hold : ∀ b, id.block ≠ some b → w'.heap[b]? = w.heap[b]?) (hin : OBin w' g ob' id) : Mem w' g (own.set i ob') := by
  have hlt : i < own.length := (List.getElem?_eq_some_iff.1 hi).1
  have hset : ∀ k o', (own.set i ob')[k]? = some o' → (k = i ∧ o' = ob') ∨ (k ≠ i ∧ own[k]? = some o') := by
    intro k o' e
    rw [List.getElem?_set] at e
    split at e
    · rename_i hk; subst hk; simp [hlt] at e; exact .inl ⟨rfl, e.symm⟩
    · rename_i hk; exact .inr ⟨fun x => hk x.symm, e⟩
  refine ⟨by simp [h.len], fun b o hb => ?_, fun k o' id' h1 h2 => ?_, fun k o' id' b h1 h2 hl' hb => ?_, fun k j ok oj x y b hkj h1 h2 h3 h4 hlk hlj hx hy => ?_⟩
  · rw [hold b fun e => by rw [h.apart i ob id b hi hid hl e] at hb; cases hb]
    exact h.still b o hb
  · rcases hset k o' h1 with ⟨rfl, rfl⟩ | ⟨hne, h1⟩
    · rw [hid] at h2; cases h2; exact hin
    · exact (h.isIn k o' id' h1 h2).heap fun hlv b hb => hold b fun e => h.two k i o' ob id' id b hne h1 hi h2 hid hlv hl hb e
  · rcases hset k o' h1 with ⟨rfl, rfl⟩ | ⟨hne, h1⟩
    · rw [hid] at h2; cases h2; exact h.apart k ob id b hi hid hl hb
    · exact h.apart k o' id' b h1 h2 hl' hb
  · rcases hset k ok h1 with ⟨rfl, rfl⟩ | ⟨hnk, a1⟩
    · rw [hid] at h3; cases h3
      rcases hset j oj h2 with ⟨rfl, rfl⟩ | ⟨hnj, b2⟩
      · exact hkj rfl
      · exact h.two k j ob oj id y b hkj hi b2 hid h4 hl hlj hx hy
    · rcases hset j oj h2 with ⟨rfl, rfl⟩ | ⟨hnj, b2⟩
      · rw [hid] at h4; cases h4
        exact h.two k j ok ob x id b hkj a1 hi h3 hid hlk hl hx hy
      · exact h.two k j ok oj x y b hkj a1 b2 h3 h4 hlk hlj hx hy

theorem Ext.turn {w w' : World} {g : Gh} {i : Nat} {id : Id} (hid : g.ids[i]? = some id) (os : w'.os = w.os) (tape : w'.tape = w.tape) (output : w'.output = w.output) (size : w.heap.size ≤ w'.heap.size)
    (hold : ∀ b, id.block ≠ some b → w'.heap[b]? = w.heap[b]?) : Ext g w g w' :=
  ⟨os, tape, output, size, fun b _ hn => hold b (hn i id hid), fun _ _ h => h, fun i x b h hb => .inl ⟨i, x, h, hb⟩, fun _ _ h => .inl h⟩

/-- A row grown: its slice may be another one now. -/
def Gh.reset (g : Gh) (i : Nat) (id : Id) : Gh := { g with ids := g.ids.set i id }

theorem Mem.regrow {w w' : World} {g : Gh} {own : List OB} (h : Mem w g own) {i : Nat} {ob ob' : OB} {id id' : Id} (hi : own[i]? = some ob) (hid : g.ids[i]? = some id) (hl : ob.live = true) (hl' : ob'.live = true)
    (hold : ∀ b, b < w.heap.size → id.block ≠ some b → w'.heap[b]? = w.heap[b]?) (hblk : ∀ b, id'.block = some b → id.block = some b ∨ w.heap.size ≤ b)
    (hoth : ∀ k o, own[k]? = some o → k ≠ i → ∀ x, g.ids[k]? = some x → OBin w g o x → OBin w (g.reset i id') o x)
    (hin : OBin w' (g.reset i id') ob' id') : Mem w' (g.reset i id') (own.set i ob') := by
  have hlt : i < own.length := (List.getElem?_eq_some_iff.1 hi).1
  have hlt' : i < g.ids.length := by rw [h.len]; exact hlt
  have hset : ∀ k o' z, (own.set i ob')[k]? = some o' → (g.ids.set i id')[k]? = some z → (k = i ∧ o' = ob' ∧ z = id') ∨ (k ≠ i ∧ own[k]? = some o' ∧ g.ids[k]? = some z) := by
    intro k o' z e f
    rw [List.getElem?_set] at e f
    split at e
    · rename_i hk; subst hk; simp [hlt] at e; simp [hlt'] at f; exact .inl ⟨rfl, e.symm, f.symm⟩
    · rename_i hk; simp [hk] at f; exact .inr ⟨fun x => hk x.symm, e, f⟩
  refine ⟨by simp [Gh.reset, h.len], fun b o hb => ?_, fun k o' z h1 h2 => ?_, fun k o' z b h1 h2 hlv hb => ?_, fun k j ok oj x y b hkj h1 h2 h3 h4 hlk hlj hx hy => ?_⟩
  · have hb : g.ws b = some o := hb
    rw [hold b (h.ws_lt hb) fun e => by rw [h.apart i ob id b hi hid hl e] at hb; cases hb]
    exact h.still b o hb
  · rcases hset k o' z h1 h2 with ⟨rfl, rfl, rfl⟩ | ⟨hne, h1, h2⟩
    · exact hin
    · have h0 := h.isIn k o' z h1 h2
      refine (hoth k o' h1 hne z h2 h0).heap fun hlv b hb => hold b (h0.lt hlv hb) fun e => h.two k i o' ob z id b hne h1 hi h2 hid hlv hl hb e
  · show g.ws b = none
    rcases hset k o' z h1 h2 with ⟨rfl, rfl, rfl⟩ | ⟨hne, h1, h2⟩
    · rcases hblk b hb with e | e
      · exact h.apart k ob id b hi hid hl e
      · cases hg : g.ws b with
        | none => rfl
        | some o => have := h.ws_lt hg; omega
    · exact h.apart k o' z b h1 h2 hlv hb
  · rcases hset k ok x h1 h3 with ⟨rfl, rfl, rfl⟩ | ⟨hnk, a1, a3⟩
    · rcases hset j oj y h2 h4 with ⟨rfl, rfl, rfl⟩ | ⟨hnj, b2, b4⟩
      · exact hkj rfl
      · rcases hblk b hx with e | e
        · exact h.two k j ob oj id y b hkj hi b2 hid b4 hl hlj e hy
        · have := (h.isIn j oj y b2 b4).lt hlj hy; omega
    · rcases hset j oj y h2 h4 with ⟨rfl, rfl, rfl⟩ | ⟨hnj, b2, b4⟩
      · rcases hblk b hy with e | e
        · exact h.two k j ok ob x id b hkj a1 hi a3 hid hlk hl hx e
        · have := (h.isIn k ok x a1 a3).lt hlk hx; omega
      · exact h.two k j ok oj x y b hkj a1 b2 a3 b4 hlk hlj hx hy

theorem Ext.regrow {w w' : World} {g : Gh} {i : Nat} {v v' : Value} (hid : g.ids[i]? = some (.row v)) (os : w'.os = w.os) (tape : w'.tape = w.tape) (output : w'.output = w.output) (size : w.heap.size ≤ w'.heap.size)
    (hold : ∀ b, b < w.heap.size → v.ownBlock ≠ some b → w'.heap[b]? = w.heap[b]?) (hblk : ∀ b, v'.ownBlock = some b → v.ownBlock = some b ∨ w.heap.size ≤ b) : Ext g w (g.reset i (.row v')) w' := by
  refine ⟨os, tape, output, size, fun b hb hn => hold b hb (hn i _ hid), fun _ _ h => h, fun k x b h hb => ?_, fun _ _ h => .inl h⟩
  · have hs : (g.ids.set i (.row v'))[k]? = some x := h
    rw [List.getElem?_set] at hs
    by_cases hk : i = k
    · rw [if_pos hk] at hs
      by_cases hlt : i < g.ids.length
      · rw [if_pos hlt] at hs
        cases hs
        rcases hblk b hb with e | e
        · exact .inl ⟨i, _, hid, e⟩
        · exact .inr e
      · rw [if_neg hlt] at hs; cases hs
    · rw [if_neg hk] at hs
      exact .inl ⟨k, x, hs, hb⟩

/-- A live row made dead, and a slice of the same block made a row. -/
theorem Mem.recut {w : World} {g : Gh} {own : List OB} (h : Mem w g own) {i : Nat} {ob ob' : OB} {v v' : Value} (hi : own[i]? = some ob) (hid : g.ids[i]? = some (.row v)) (hl : ob.live = true)
    (hblk : ∀ b, v'.ownBlock = some b → v.ownBlock = some b) (hin : OBin w (g.push (.row v')) ob' (.row v')) : Mem w (g.push (.row v')) (own.set i .dead ++ [ob']) := by
  have h1 : Mem w g (own.set i .dead) := h.turn hi hid hl (fun _ _ => rfl) trivial
  have hlt : i < own.length := (List.getElem?_eq_some_iff.1 hi).1
  have hlen : (own.set i .dead).length = g.ids.length := by rw [List.length_set, h.len]
  have hset : ∀ k o', (own.set i .dead)[k]? = some o' → o'.live = true → k ≠ i ∧ own[k]? = some o' := by
    intro k o' e hlv
    rw [List.getElem?_set] at e
    split at e
    · rename_i hk
      subst hk
      simp [hlt] at e
      subst e
      cases hlv
    · rename_i hk
      exact ⟨fun x => hk x.symm, e⟩
  have hk : ∀ k o' z, (own.set i .dead ++ [ob'])[k]? = some o' → (g.push (.row v')).ids[k]? = some z → ((own.set i .dead)[k]? = some o' ∧ g.ids[k]? = some z) ∨ (k = g.ids.length ∧ o' = ob' ∧ z = .row v') := by
    intro k o' z e1 e2
    rcases getElem?_snoc e1 with e1 | ⟨hi', rfl⟩
    · have hlt : k < g.ids.length := by rw [← hlen]; exact (List.getElem?_eq_some_iff.1 e1).1
      rcases getElem?_snoc (show (g.ids ++ [Id.row v'])[k]? = some z from e2) with e2 | ⟨e2, _⟩
      · exact .inl ⟨e1, e2⟩
      · omega
    · rcases getElem?_snoc (show (g.ids ++ [Id.row v'])[k]? = some z from e2) with e2 | ⟨e2, rfl⟩
      · have := (List.getElem?_eq_some_iff.1 e2).1
        omega
      · exact .inr ⟨by omega, rfl, rfl⟩
  refine ⟨by simp [Gh.push, h.len], fun b o hb => h.still b o hb, fun k o' z e1 e2 => ?_, fun k o' z b e1 e2 hlv hb => ?_, fun k j ok oj x y b hkj e1 e2 e3 e4 hlk hlj hx hy => ?_⟩
  · rcases hk k o' z e1 e2 with ⟨a1, a2⟩ | ⟨_, rfl, rfl⟩
    · exact (h1.isIn k o' z a1 a2).ghost (g.push_le _)
    · exact hin
  · rcases hk k o' z e1 e2 with ⟨a1, a2⟩ | ⟨_, rfl, rfl⟩
    · exact h1.apart k o' z b a1 a2 hlv hb
    · exact h.apart i ob (.row v) b hi hid hl (hblk b hb)
  · rcases hk k ok x e1 e3 with ⟨a1, a3⟩ | ⟨ak, rfl, rfl⟩
    · rcases hk j oj y e2 e4 with ⟨b2, b4⟩ | ⟨bk, rfl, rfl⟩
      · exact h1.two k j ok oj x y b hkj a1 b2 a3 b4 hlk hlj hx hy
      · obtain ⟨hne, a1'⟩ := hset k ok a1 hlk
        exact h.two k i ok ob x (.row v) b hne a1' hi a3 hid hlk hl hx (hblk b hy)
    · rcases hk j oj y e2 e4 with ⟨b2, b4⟩ | ⟨bk, rfl, rfl⟩
      · obtain ⟨hne, b2'⟩ := hset j oj b2 hlj
        exact h.two j i oj ob y (.row v) b hne b2' hi b4 hid hlj hl hy (hblk b hx)
      · omega
theorem Ext.recut {w : World} {g : Gh} {i : Nat} {v v' : Value} (hid : g.ids[i]? = some (.row v)) (hblk : ∀ b, v'.ownBlock = some b → v.ownBlock = some b) : Ext g w (g.push (.row v')) w := by
  refine ⟨rfl, rfl, rfl, Nat.le_refl _, fun _ _ _ => rfl, fun _ _ h => h, fun k x b h hb => ?_, fun _ _ h => .inl h⟩
  rcases getElem?_snoc (show (g.ids ++ [Id.row v'])[k]? = some x from h) with h | ⟨_, rfl⟩
  · exact .inl ⟨k, x, h, hb⟩
  · exact .inl ⟨i, _, hid, hblk b hb⟩

/-- A block of the call's own that stands still from now on. -/
def Gh.freeze (g : Gh) (w : World) (b : Nat) : Gh := { g with ws := fun k => if k = b then w.heap[k]? else g.ws k }
theorem Gh.freeze_le {w : World} {g : Gh} {own : List OB} (h : Mem w g own) (b : Nat) : Gle g (g.freeze w b) := by
  refine ⟨fun k o e => ?_, fun _ _ e => e⟩
  show (if k = b then w.heap[k]? else g.ws k) = some o
  split
  · exact h.still k o e
  · exact e
theorem Mem.freeze {w : World} {g : Gh} {own : List OB} (h : Mem w g own) {i : Nat} {ob : OB} {id : Id} {b : Nat} (hi : own[i]? = some ob) (hid : g.ids[i]? = some id) (hl : ob.live = true) (hb : id.block = some b) : Mem w (g.freeze w b) (own.set i .dead) := by
  have h1 : Mem w g (own.set i .dead) := h.turn hi hid hl (fun _ _ => rfl) trivial
  have hlt : i < own.length := (List.getElem?_eq_some_iff.1 hi).1
  have hset : ∀ k o', (own.set i .dead)[k]? = some o' → o'.live = true → k ≠ i ∧ own[k]? = some o' := by
    intro k o' e hlv
    rw [List.getElem?_set] at e
    split at e
    · rename_i hk
      subst hk
      simp [hlt] at e
      subst e
      cases hlv
    · rename_i hk
      exact ⟨fun x => hk x.symm, e⟩
  refine ⟨h1.len, fun k o e => ?_, fun k o' z e1 e2 => (h1.isIn k o' z e1 e2).ghost (Gh.freeze_le h b), fun k o' z c e1 e2 hlv hc => ?_, h1.two⟩
  · have e : (if k = b then w.heap[k]? else g.ws k) = some o := e
    split at e
    · exact e
    · exact h.still k o e
  · show (if c = b then w.heap[c]? else g.ws c) = none
    obtain ⟨hne, e1'⟩ := hset k o' e1 hlv
    split
    · rename_i hcb
      subst hcb
      exact absurd hb (h.two k i o' ob z id c hne e1' hi e2 hid hlv hl hc)
    · exact h1.apart k o' z c e1 e2 hlv hc
theorem Ext.freeze {w : World} {g : Gh} {i : Nat} {id : Id} {b : Nat} (h : ∀ b o, g.ws b = some o → w.heap[b]? = some o) (hid : g.ids[i]? = some id) (hb : id.block = some b) : Ext g w (g.freeze w b) w := by
  refine ⟨rfl, rfl, rfl, Nat.le_refl _, fun _ _ _ => rfl, fun k o e => ?_, fun k x c e hc => .inl ⟨k, x, e, hc⟩, fun k o e => ?_⟩
  · show (if k = b then w.heap[k]? else g.ws k) = some o
    split
    · exact h k o e
    · exact e
  · have e : (if k = b then w.heap[k]? else g.ws k) = some o := e
    split at e
    · rename_i hk
      subst hk
      exact .inr (.inl ⟨i, id, hid, hb⟩)
    · exact .inl e

end Go.En
