/-
  AN OPERATION OF THE MACHINE DOES WHAT 'aop' RECKONS: stores, new blocks, addresses. Own work; generic over the program.
-/
import Derived.Test.YtnkefikpejjjcaaDoorEnG
set_option linter.unusedVariables false
set_option linter.unusedSectionVars false
set_option linter.unusedSimpArgs false
namespace Go.En

theorem lay_eq : ∀ (vs cs : List V) (off : Nat), off + vs.length ≤ cs.length → lay cs off vs = cs.take off ++ vs ++ cs.drop (off + vs.length)
  | [], cs, off, _ => by simp [lay]
  | v :: r, cs, off, h => by
    have hl : off + (r.length + 1) ≤ cs.length := by simpa using h
    rw [lay, lay_eq r (setN cs off v) (off + 1) (by rw [setN_eq]; simp; omega), setN_eq]
    have e1 : (cs.set off v).take (off + 1) = cs.take off ++ [v] := by
      have hm : (cs.take off).length = off := by rw [List.length_take]; omega
      rw [List.take_set, List.take_succ_eq_append_getElem (by omega), List.set_append_right _ _ (by omega), hm, Nat.sub_self]
      rfl
    have e2 : (cs.set off v).drop (off + 1 + r.length) = cs.drop (off + (r.length + 1)) := by
      rw [List.drop_set, if_pos (by omega)]
      congr 1; omega
    rw [e1, e2]
    simp

section
variable {P : Program} {E : Env} (hE : EnvOK P E) {g : Gh} {st : St} {a : Act} {w : World}

theorem one_of_cell {c : Cont} {i j : Nat} {u : Value} {ws : Ws} (h : RdCell ws (c.cell i j) u) : u.oneCell' = true := by
  cases c <;> simp only [Cont.cell, RdCell] at h
  all_goals first
    | (obtain ⟨ad, cap, rfl, _⟩ := h; rfl)
    | (rcases j with _ | _ | j <;> simp only [Sc] at h <;> obtain ⟨_, rfl, _⟩ := h <;> rfl)
    | (simp only [Sc] at h; first | (obtain ⟨_, rfl, _⟩ := h; rfl) | (obtain ⟨_, _, rfl, _⟩ := h; rfl) | (subst h; rfl))

theorem solid_one {v : V} {x : Value} (hs : solid v = true) (h : Rd g v x) : x.oneCell' = true ∧ x.cells = #[x] := by
  cases v with
  | und => cases hs
  | agg cs => cases hs
  | tup cs => cases hs
  | bool b => obtain rfl : x = _ := h; exact ⟨rfl, rfl⟩
  | int k n => obtain rfl : x = _ := h; exact ⟨rfl, rfl⟩
  | flt k n => obtain ⟨_, rfl, _⟩ := h; exact ⟨rfl, rfl⟩
  | cpx k n m => obtain ⟨_, _, rfl, _⟩ := h; exact ⟨rfl, rfl⟩
  | str s => obtain rfl : x = _ := h; exact ⟨rfl, rfl⟩
  | nilp => obtain rfl : x = _ := h; exact ⟨rfl, rfl⟩
  | nilf => obtain rfl : x = _ := h; exact ⟨rfl, rfl⟩
  | sarr c => obtain ⟨b, off, rfl, _⟩ := h; exact ⟨rfl, rfl⟩
  | ifc n =>
    cases n
    · obtain ⟨t, v, rfl⟩ := h; exact ⟨rfl, rfl⟩
    · obtain rfl : x = _ := h; exact ⟨rfl, rfl⟩
  | nils k => obtain rfl : x = _ := h; exact ⟨rfl, rfl⟩
  | sl c t => obtain ⟨ad, cap, rfl, _⟩ := h; exact ⟨rfl, rfl⟩
  | own i => obtain ⟨_, h⟩ := h; cases x <;> first | exact ⟨rfl, rfl⟩ | cases h
  | lp i o => obtain ⟨_, _, rfl⟩ := h; exact ⟨rfl, rfl⟩
  | le i e sz o => obtain ⟨_, _, _, _, rfl⟩ := h; exact ⟨rfl, rfl⟩
  | sp cs o => obtain ⟨_, _, rfl, _⟩ := h; exact ⟨rfl, rfl⟩
  | fn f b c => obtain ⟨_, _, rfl, _⟩ := h; exact ⟨rfl, rfl⟩

theorem solids_mem : ∀ {l : List V}, solids l = true → ∀ v ∈ l, solid v = true
  | [], _, v, h => by cases h
  | x :: r, h, v, hv => by
    simp only [solids] at h
    split at h
    · rename_i h0
      rcases List.mem_cons.1 hv with rfl | hv
      · exact h0
      · exact solids_mem h v hv
    · cases h

theorem RdL_one : ∀ {l : List V} {xs : List Value}, RdL g l xs → (∀ v ∈ l, solid v = true) → ∀ u ∈ xs, u.oneCell' = true
  | [], [], _, _, u, hu => by cases hu
  | [], _ :: _, h, _, _, _ => h.elim
  | _ :: _, [], h, _, _, _ => h.elim
  | v :: r, x :: xs, h, hs, u, hu => by
    rcases List.mem_cons.1 hu with rfl | hu
    · exact (solid_one (hs v (by simp)) h.1).1
    · exact RdL_one h.2 (fun v hv => hs v (by simp [hv])) u hu

theorem cellsOf_ok {vx : V} {vs : List V} {x : Value} (h : cellsOf vx = some vs) (hx : Rd g vx x) : RdL g vs x.cells.toList ∧ ∀ u ∈ x.cells.toList, u.oneCell' = true := by
  unfold cellsOf at h
  split at h
  · rename_i cs
    split at h
    · rename_i hs
      cases h
      obtain ⟨us, rfl, hl⟩ := hx
      exact ⟨hl, RdL_one hl (solids_mem hs)⟩
    · cases h
  · split at h
    · rename_i hs
      cases h
      obtain ⟨h1, h2⟩ := solid_one hs hx
      rw [h2]
      exact ⟨⟨hx, trivial⟩, fun u hu => by simp at hu; rw [hu]; exact h1⟩
    · cases h

theorem RdL_lay {cs vs : List V} {xs us : List Value} {off : Nat} (h : RdL g cs xs) (k : RdL g vs us) (hl : off + vs.length ≤ cs.length) : RdL g (lay cs off vs) (xs.take off ++ us ++ xs.drop (off + us.length)) := by
  rw [lay_eq _ _ _ hl, ← RdL_length k]
  exact RdL_append (RdL_append (RdL_take _ h) k) (RdL_drop _ h)

theorem run_storeVar {t : Nat} {ti : TI} (hT : TIok P E t ti) {b o e : Nat} {arr : Array Value} (hh : w.heap[b]? = some (.cells arr e (0, 0))) {x : Value} (hs : x.cells.size = ti.cells) (hl : o + x.cells.size ≤ arr.size)
    (h1 : ∀ u ∈ x.cells.toList, u.oneCell' = true) : (storeVar t ⟨b, o, none⟩ x).run P w = .ok () (w.setRow b (arr.toList.take o ++ x.cells.toList ++ arr.toList.drop (o + x.cells.toList.length)).toArray) := by
  have := run_storeCells_at P b o e x.cells.toList 0 arr w hh (by simpa using hl) h1
  simp only [Nat.add_zero] at this
  simp [storeVar, run_sizeOf_ti hT, hs, this]

theorem getD_set {α : Type} (xs : List α) (i k : Nat) (x d : α) (hi : i < xs.length) : (xs.set i x).getD k d = if k = i then x else xs.getD k d := by
  simp only [List.getD_eq_getElem?_getD, List.getElem?_set]
  by_cases h : i = k
  · subst h; simp [hi]
  · simp [h, Ne.symm h]

/-- A row's element set. -/
structure OSet (g : Gh) (c c' : Cont) (e : Int) (off : Nat) (v : V) : Prop where
  len : c'.len = c.len
  sz : c'.sz = c.sz
  inside : off < c.sz
  cell : e.toNat < c.len → ∀ i j, i < c.len → j < c.sz → ∀ u, (i = e.toNat → j = off → Rd g v u → RdCell g.ws (c'.cell i j) u) ∧ (¬ (i = e.toNat ∧ j = off) → RdCell g.ws (c.cell i j) u → RdCell g.ws (c'.cell i j) u)

theorem oset_ok (g : Gh) {c c' : Cont} {e : Int} {off : Nat} {v : V} (h : c.oset std e off v = some c') : OSet g c c' e off v := by
  unfold Cont.oset at h
  split at h
  all_goals first
    | cases h; done
    | skip
  all_goals cases h
  all_goals refine ⟨by simp [Cont.len, std], rfl, by simp [Cont.sz], fun hlt i j hi hj u => ?_⟩
  all_goals simp only [Cont.len, Cont.sz] at hlt hi hj
  all_goals simp only [Cont.cell, std, getD_set _ _ _ _ _ hlt]
  all_goals first
    | (obtain rfl : j = 0 := by omega
       refine ⟨fun h1 _ hr => ?_, fun hn hr => ?_⟩
       · rw [if_pos h1]; exact hr
       · rw [if_neg (fun h1 => hn ⟨h1, rfl⟩)]; exact hr)
    | skip
  all_goals
    have hj3 : j = 0 ∨ j = 1 ∨ j = 2 := by omega
    rcases hj3 with rfl | rfl | rfl <;> simp only [Cont.cell, getD_set _ _ _ _ _ hlt] <;>
      refine ⟨fun h1 h2 hr => ?_, fun hn hr => ?_⟩ <;> first
        | (rw [if_pos h1]; exact hr)
        | (cases h2; done)
        | (by_cases h1 : i = e.toNat <;> first
            | (rw [if_neg h1]; exact hr)
            | (rw [if_pos h1]; subst h1; exact hr)
            | exact absurd (And.intro h1 trivial) hn
            | exact absurd (And.intro h1 rfl) hn)

theorem run_storeVar_one {t : Nat} {ti : TI} (hT : TIok P E t ti) {ad : Addr} {x y u : Value} (hs : x.cells.size = ti.cells) (hx : x.cells.toList = [y]) (h1 : y.oneCell' = true) (hc : w.cell? ad = some u) (hf : w.frozen? ad = false) :
    (storeVar t ad x).run P w = .ok () (w.setCell ad y) := by
  have ha : ad.add 0 = ad := by simp [Addr.add]
  have hst : (store ad y).run P w = .ok () (w.setCell ad y) := by rw [run_store P w ad y _ h1, hc]; simp [hf]
  have hl : (storeCells ad x.cells.toList).run P w = .ok () (w.setCell ad y) := by
    rw [hx]
    simp [storeCells, ha, hst]
  simp only [storeVar, Sem.run_bind, run_sizeOf_ti hT, Result.andThen_ok, hs, ne_eq, not_true_eq_false, if_false, Sem.run_pure, hl]

/-- One cell of a row of the call's own written. -/
theorem rowSet (hg : Good E.G g st a w) {i : Nat} {t' : Nat} {c c' : Cont} {b n cap : Nat} {e : Int} {off : Nat} {v : V} {y : Value} (hn : st.own[i]? = some (.row t' c)) (hb : g.ids[i]? = some (.row (.slice (some ⟨b, 0, none⟩) n cap)))
    (hc' : c.oset std e off v = some c') (hp : 0 ≤ e ∧ e < (c.len : Int)) (hry : Rd g v y) (hy1 : y.oneCell' = true) :
    (store ⟨b, e.toNat * c.sz + off, none⟩ y).run P w = .ok () (w.setCell ⟨b, e.toNat * c.sz + off, none⟩ y) ∧ (∃ u, w.cell? ⟨b, e.toNat * c.sz + off, none⟩ = some u) ∧ w.frozen? ⟨b, e.toNat * c.sz + off, none⟩ = false ∧
    Good E.G g { st with own := st.own.set i (.row t' c') } a (w.setCell ⟨b, e.toNat * c.sz + off, none⟩ y) ∧ Ext g w g (w.setCell ⟨b, e.toNat * c.sz + off, none⟩ y) := by
  obtain ⟨v, xs, hid, ho, hr, h1'⟩ := hg.row hn
  rw [hb] at hid; cases hid
  have hlt : e.toNat < c.len := by omega
  have ho' := oset_ok g hc'
  have hmul : (e.toNat + 1) * c.sz ≤ c.len * c.sz := Nat.mul_le_mul_right _ hlt
  have hsum : (e.toNat + 1) * c.sz = e.toNat * c.sz + c.sz := Nat.succ_mul _ _
  have hin := ho'.inside
  have hn' : n = c.len := by
    rcases ho.2 with ⟨h, _⟩ | ⟨_, _, _, h, _⟩
    · cases h
    · injection h
  subst hn'
  have hxl : xs.length = c.len * c.sz := ho.1
  have hcell : w.cell? ⟨b, e.toNat * c.sz + off, none⟩ = some xs[e.toNat * c.sz + off] := by
    rw [ho.cellAt _ (by omega), List.getElem?_eq_getElem (by omega)]
  obtain ⟨ho2, hgrow⟩ := ho.stored (e.toNat * c.sz + off) y
  have hold : ∀ k, (Id.row (.slice (some ⟨b, 0, none⟩) c.len cap)).block ≠ some k → (w.setCell ⟨b, e.toNat * c.sz + off, none⟩ y).heap[k]? = w.heap[k]? :=
    fun k hk => heap_setCell_other w _ k y fun q => hk (by rw [q]; rfl)
  refine ⟨?_, ⟨_, hcell⟩, ho.frozenAt _, ⟨⟨hg.rel.size, hg.rel.defers, hg.rel.glob, hg.rel.slot⟩, ?_⟩, Ext.turn hb rfl rfl rfl (by simp) hold⟩
  · rw [run_store P w _ y _ hy1, hcell]
    simp [ho.frozenAt _]
  refine hg.mem.turn hn hb rfl hold ⟨xs.set (e.toNat * c.sz + off) y, by rw [ho'.len, ho'.sz]; exact ho2, fun i hi j hj => ?_, fun u hu => ?_⟩
  · rw [ho'.len] at hi
    rw [ho'.sz] at hj ⊢
    obtain ⟨u, hu, hru⟩ := hr i hi j hj
    by_cases hij : i = e.toNat ∧ j = off
    · obtain ⟨rfl, rfl⟩ := hij
      exact ⟨y, by rw [List.getElem?_set, if_pos rfl, if_pos (by omega)], (ho'.cell hlt _ _ hi hj y).1 rfl rfl hry⟩
    · refine ⟨u, ?_, (ho'.cell hlt i j hi hj u).2 hij hru⟩
      rw [List.getElem?_set, if_neg ?_]
      · exact hu
      · intro heq
        apply hij
        have h1 : e.toNat = i := by
          have q1 : (e.toNat * c.sz + off) / c.sz = e.toNat := by rw [Nat.mul_comm, Nat.mul_add_div (by omega)]; simp [Nat.div_eq_of_lt hin]
          have q2 : (i * c.sz + j) / c.sz = i := by rw [Nat.mul_comm, Nat.mul_add_div (by omega)]; simp [Nat.div_eq_of_lt hj]
          rw [← q1, heq, q2]
        subst h1
        exact ⟨rfl, by omega⟩
  · rcases List.mem_or_eq_of_mem_set hu with hu | rfl
    · exact h1' u hu
    · exact hy1

theorem set3 {xs : List (Nat × Nat × Nat)} {e : Int} (x y z : Nat) (h : e.toNat < xs.length) : ∃ c1 c2, (Cont.r3 xs).oset std e 0 (.flt .f32 x) = some c1 ∧ c1.oset std e 1 (.flt .f32 y) = some c2 ∧ c2.oset std e 2 (.flt .f32 z) = some (.r3 (std.set xs e (x, y, z))) ∧ c1.len = xs.length ∧ c1.sz = 3 ∧ c2.len = xs.length ∧ c2.sz = 3 := by
  refine ⟨_, _, rfl, rfl, ?_, by simp [Cont.len, std], rfl, by simp [Cont.len, std], rfl⟩
  simp [Cont.oset, std, List.getD_eq_getElem?_getD, h]

include hE in
theorem aStore_ok (hg : Good E.G g st a w) {sem : Sem Next} (t : Nat) {va vx : V} {y x : Value} (hy : Rd g va y) (hx : Rd g vx x)
    (hrun : ∀ ad w', y = .pointer (some ad) → (storeVar t ad x).run P w = .ok () w' → sem.run P w = .ok .skip w') : RS P E sem g a w st (aStore std E st t va vx) := by
  unfold aStore
  split
  · trivial
  · rename_i ti ht
    have hT := hE.T t ti ht
    split
    · trivial
    · rename_i vs hvs
      obtain ⟨hrl, h1⟩ := cellsOf_ok hvs hx
      have hlen := RdL_length hrl
      split
      · trivial
      · rename_i hsz
        have hsz := Nat.eq_of_beq_eq_true hsz
        rw [len_eq] at hsz
        have hcs : x.cells.size = ti.cells := by rw [← hsz, ← hlen]; simp
        split
        · rename_i i off
          obtain ⟨b, hb, rfl⟩ := hy
          split
          · rename_i cs hn
            rw [nth_eq] at hn
            obtain ⟨b', arr, e, hid, hh, hr, h1'⟩ := hg.cells hn
            rw [hb] at hid; cases hid
            split
            · rename_i hle
              have hle := Nat.le_of_ble_eq_true hle
              rw [len_eq, len_eq] at hle
              have hal := RdL_length hr
              have hl2 : off + x.cells.size ≤ arr.size := by rw [hcs, ← hsz]; simpa [← hal] using hle
              have hst := run_storeVar hT hh hcs hl2 h1
              refine ⟨undef, g, _, .inr ⟨hrun _ _ rfl hst, rfl⟩, trivial, ⟨⟨hg.rel.size, hg.rel.defers, hg.rel.glob, hg.rel.slot⟩, ?_⟩, ?_, rfl, rfl, .refl _ _⟩
              · rw [setN_eq]
                refine hg.mem.turn hn hb rfl (fun k hk => setRow_other w b k _ fun e => hk (by rw [e]; rfl)) ⟨_, e, setRow_heap w b arr _ e _ hh, ?_, ?_⟩
                · simpa using RdL_lay hr hrl hle
                · intro u hu
                  simp only [List.mem_append, List.mem_toArray] at hu
                  rcases hu with (hu | hu) | hu
                  · exact h1' u (List.mem_of_mem_take hu)
                  · exact h1 u hu
                  · exact h1' u (List.mem_of_mem_drop hu)
              · exact Ext.turn hb rfl rfl rfl (by simp) (fun k hk => setRow_other w b k _ fun e => hk (by rw [e]; rfl))
            · trivial
          · trivial
        · rename_i i e sz off
          obtain ⟨b, n, cap, hb, rfl⟩ := hy
          split
          · rename_i t' c hn
            rw [nth_eq] at hn
            obtain ⟨v, xs, hid, ho, hr, h1'⟩ := hg.row hn
            rw [hb] at hid; cases hid
            split
            · rename_i v _
              split
              · rename_i c' hc' hsz'
                obtain rfl := Nat.eq_of_beq_eq_true hsz'
                intro hp
                rw [olen_std] at hp
                have hp : 0 ≤ e ∧ e < (c.len : Int) := hp
                have hlt : e.toNat < c.len := by omega
                have ho' := oset_ok g hc'
                obtain ⟨y, hy, hry, hy1⟩ : ∃ y, x.cells.toList = [y] ∧ Rd g v y ∧ y.oneCell' = true := by
                  cases hxl : x.cells.toList with
                  | nil => rw [hxl] at hrl; exact hrl.elim
                  | cons y r =>
                    rw [hxl] at hrl h1
                    cases r with
                    | nil => exact ⟨y, rfl, hrl.1, h1 y (by simp)⟩
                    | cons z r => exact hrl.2.elim
                have hmul : (e.toNat + 1) * c.sz ≤ c.len * c.sz := Nat.mul_le_mul_right _ hlt
                have hsum : (e.toNat + 1) * c.sz = e.toNat * c.sz + c.sz := Nat.succ_mul _ _
                have hin := ho'.inside
                have hn' : n = c.len := by
                  rcases ho.2 with ⟨h, _⟩ | ⟨_, _, _, h, _⟩
                  · cases h
                  · injection h
                subst hn'
                have hxl : xs.length = c.len * c.sz := ho.1
                have hcell : w.cell? ⟨b, e.toNat * c.sz + off, none⟩ = some xs[e.toNat * c.sz + off] := by
                  rw [ho.cellAt _ (by omega), List.getElem?_eq_getElem (by omega)]
                have hst := run_storeVar_one (P := P) hT hcs hy hy1 hcell (ho.frozenAt _)
                obtain ⟨ho2, hgrow⟩ := ho.stored (e.toNat * c.sz + off) y
                have hold : ∀ k, (Id.row (.slice (some ⟨b, 0, none⟩) c.len cap)).block ≠ some k → (w.setCell ⟨b, e.toNat * c.sz + off, none⟩ y).heap[k]? = w.heap[k]? :=
                  fun k hk => heap_setCell_other w _ k y fun q => hk (by rw [q]; rfl)
                refine ⟨undef, g, _, .inr ⟨hrun _ _ rfl hst, rfl⟩, trivial, ⟨⟨hg.rel.size, hg.rel.defers, hg.rel.glob, hg.rel.slot⟩, ?_⟩, Ext.turn hb rfl rfl rfl (by simp) hold, rfl, rfl, .refl _ _⟩
                rw [setN_eq]
                refine hg.mem.turn hn hb rfl hold ⟨xs.set (e.toNat * c.sz + off) y, by rw [ho'.len, ho'.sz]; exact ho2, fun i hi j hj => ?_, fun u hu => ?_⟩
                · rw [ho'.len] at hi
                  rw [ho'.sz] at hj ⊢
                  obtain ⟨u, hu, hru⟩ := hr i hi j hj
                  by_cases hij : i = e.toNat ∧ j = off
                  · obtain ⟨rfl, rfl⟩ := hij
                    exact ⟨y, by rw [List.getElem?_set, if_pos rfl, if_pos (by omega)], (ho'.cell hlt _ _ hi hj y).1 rfl rfl hry⟩
                  · refine ⟨u, ?_, (ho'.cell hlt i j hi hj u).2 hij hru⟩
                    rw [List.getElem?_set, if_neg ?_]
                    · exact hu
                    · intro heq
                      apply hij
                      have h1 : e.toNat = i := by
                        have q1 : (e.toNat * c.sz + off) / c.sz = e.toNat := by rw [Nat.mul_comm, Nat.mul_add_div (by omega)]; simp [Nat.div_eq_of_lt hin]
                        have q2 : (i * c.sz + j) / c.sz = i := by rw [Nat.mul_comm, Nat.mul_add_div (by omega)]; simp [Nat.div_eq_of_lt hj]
                        rw [← q1, heq, q2]
                      subst h1
                      exact ⟨rfl, by omega⟩
                · rcases List.mem_or_eq_of_mem_set hu with hu | rfl
                  · exact h1' u hu
                  · exact hy1
              · trivial
            · rename_i p q r _
              split
              · rename_i xs3 hsz3
                obtain rfl := Nat.eq_of_beq_eq_true hsz3
                intro hp
                have hp : 0 ≤ e ∧ e < ((Cont.r3 xs3).len : Int) := hp
                obtain ⟨c1, c2, k1, k2, k3, l1, s1, l2, s2⟩ := set3 p q r (show e.toNat < xs3.length by have := hp.2; simp only [Cont.len] at this; omega)
                obtain ⟨y0, y1, y2, hxl, r0, r1, r2, u0, u1, u2⟩ : ∃ y0 y1 y2, x.cells.toList = [y0, y1, y2] ∧ Rd g (.flt .f32 p) y0 ∧ Rd g (.flt .f32 q) y1 ∧ Rd g (.flt .f32 r) y2 ∧ y0.oneCell' = true ∧ y1.oneCell' = true ∧ y2.oneCell' = true := by
                  revert hrl h1
                  generalize x.cells.toList = xl
                  intro h1 hrl
                  match xl, hrl, h1 with
                  | [y0, y1, y2], hrl, h1 => exact ⟨y0, y1, y2, rfl, hrl.1, hrl.2.1, hrl.2.2.1, h1 y0 (by simp), h1 y1 (by simp), h1 y2 (by simp)⟩
                have hi : i < st.own.length := (List.getElem?_eq_some_iff.1 hn).1
                obtain ⟨a1, b1, c1', g1, e1⟩ := rowSet (P := P) hg hn hb k1 hp r0 u0
                obtain ⟨a2, b2, c2', g2, e2⟩ := rowSet (P := P) g1 (show (st.own.set i (.row t' c1))[i]? = _ by rw [List.getElem?_set, if_pos rfl, if_pos hi]) hb k2 (by rw [l1]; exact hp) r1 u1
                obtain ⟨a3, b3, c3', g3, e3⟩ := rowSet (P := P) g2 (show ((st.own.set i (.row t' c1)).set i (.row t' c2))[i]? = _ by rw [List.set_set, List.getElem?_set, if_pos rfl, if_pos hi]) hb k3 (by rw [l2]; exact hp) r2 u2
                rw [s1] at a2 b2 c2' g2 e2
                rw [s1, s2] at a3 b3 c3' g3 e3
                have hst : (storeVar t ⟨b, e.toNat * 3 + 0, none⟩ x).run P w = .ok () (((w.setCell ⟨b, e.toNat * 3 + 0, none⟩ y0).setCell ⟨b, e.toNat * 3 + 1, none⟩ y1).setCell ⟨b, e.toNat * 3 + 2, none⟩ y2) := by
                  simp only [storeVar, Sem.run_bind, run_sizeOf_ti hT, Result.andThen_ok, hcs, ne_eq, not_true_eq_false, if_false, Sem.run_pure, hxl]
                  simp only [storeCells, Addr.add, Sem.run_bind]
                  have a1 : (store ⟨b, e.toNat * 3 + 0, none⟩ y0).run P w = _ := a1
                  simp only [Nat.add_zero, Nat.add_assoc] at a1 a2 a3 ⊢
                  simp [a1, a2, a3]
                  rfl
                refine ⟨undef, g, _, .inr ⟨hrun _ _ rfl hst, rfl⟩, trivial, ?_, (e1.trans e2).trans e3, rfl, rfl, .refl _ _⟩
                have : (((st.own.set i (.row t' c1)).set i (.row t' c2)).set i (.row t' (.r3 (std.set xs3 e (p, q, r))))) = setN st.own i (.row t' (.r3 (std.set xs3 e (p, q, r)))) := by
                  rw [setN_eq, List.set_set, List.set_set]
                rw [← this]
                exact g3
              · trivial
            · trivial
          · trivial
        · trivial

end
end Go.En
