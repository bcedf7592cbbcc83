/-
  AN OPERATION OF THE MACHINE DOES WHAT 'aop' RECKONS: loads, stores, addresses. Own work; generic over the program.
-/
import Derived.Test.YtnkefikpejjjcaaDoorEnF
set_option linter.unusedVariables false
set_option linter.unusedSectionVars false
set_option linter.unusedSimpArgs false
namespace Go.En

theorem add_at (b o j : Nat) : (⟨b, o, none⟩ : Addr).add j = ⟨b, o + j, none⟩ := by unfold Addr.add; split <;> simp_all

section
variable {P : Program} {E : Env} (hE : EnvOK P E) {g : Gh} {st : St} {a : Act} {w : World}

theorem run_isAgg {t : Nat} {ti : TI} (hT : TIok P E t ti) : (isAgg t).run P w = .ok ti.agg w := by
  obtain ⟨d, hd, _, ha⟩ := hT.und
  rw [← ha]
  unfold isAgg
  rw [Sem.run_bind, run_underlying hd w]
  cases d <;> simp [aggOf]

theorem run_sizeOf_ti {t : Nat} {ti : TI} (hT : TIok P E t ti) : (sizeOf t).run P w = .ok ti.cells w := by
  obtain ⟨i, hi, hs, _⟩ := hT.info
  simp [sizeOf, typeInfo, hi, hs]

theorem run_loadVar_agg {t : Nat} {ti : TI} (hT : TIok P E t ti) (hagg : ti.agg = true) {b o : Nat} (us : List Value) (hl : us.length = ti.cells)
    (h : ∀ j v, us[j]? = some v → w.cell? ⟨b, o + j, none⟩ = some v) : (loadVar t ⟨b, o, none⟩).run P w = .ok (.agg us.toArray) w := by
  have := run_loadCells_list (P := P) w ⟨b, o, none⟩ us (fun j v hv => by rw [add_at]; exact h j v hv)
  rw [hl] at this
  simp [loadVar, run_isAgg hT, hagg, run_sizeOf_ti hT, this]

theorem run_loadVar_one {t : Nat} {ti : TI} (hT : TIok P E t ti) (hagg : ti.agg = false) {ad : Addr} {u : Value} (h : w.cell? ad = some u) : (loadVar t ad).run P w = .ok u w := by
  simp [loadVar, run_isAgg hT, hagg, h]

/-- The cells that stand still, as a list. -/
theorem RdC_list {g : Gh} {b off : Nat} : ∀ {cs : List V} {j : Nat}, RdC g b off cs j → ∃ us, RdL g cs us ∧ ∀ i u, us[i]? = some u → scell g.ws b (off + (j + i)) = some u ∧ u.oneCell' = true
  | [], j, _ => ⟨[], trivial, fun i u h => by simp at h⟩
  | v :: r, j, h => by
    obtain ⟨⟨u, hu, h1, hr⟩, hc⟩ := h
    obtain ⟨us, h2, h3⟩ := RdC_list hc
    refine ⟨u :: us, ⟨hr, h2⟩, fun i x hx => ?_⟩
    cases i with
    | zero => simp at hx; subst hx; exact ⟨hu, h1⟩
    | succ i =>
      have := h3 i x (by simpa using hx)
      rwa [show j + 1 + i = j + (i + 1) by omega] at this

theorem Mem.cell_still {own : List OB} (hm : Mem w g own) {b o : Nat} {u : Value} (h : scell g.ws b o = some u) : w.cell? ⟨b, o, none⟩ = some u := by
  unfold scell at h
  cases hb : g.ws b with
  | none => rw [hb] at h; cases h
  | some ob =>
    rw [hb] at h
    have := hm.still b ob hb
    cases ob <;> simp only at h <;> first | cases h | skip
    simp [World.cell?, this, h]

/-- Cells of a list laid out from an address on. -/
structure At (w : World) (b o : Nat) (us : List Value) : Prop where
  cell : ∀ j u, us[j]? = some u → w.cell? ⟨b, o + j, none⟩ = some u

theorem At.drop {b o : Nat} {us : List Value} (h : At w b o us) (n : Nat) : At w b (o + n) (us.drop n) :=
  ⟨fun j u hu => by rw [List.getElem?_drop] at hu; have := h.cell (n + j) u hu; rwa [← Nat.add_assoc] at this⟩
theorem At.take {b o : Nat} {us : List Value} (h : At w b o us) (n : Nat) : At w b o (us.take n) :=
  ⟨fun j u hu => by rw [List.getElem?_take] at hu; split at hu; exact h.cell j u hu; cases hu⟩

/-- A load of the type out of cells. -/
theorem loadCellsOf (hg : Good E.G g st a w) {sem : Sem Next} {t : Nat} {ti : TI} (hT : TIok P E t ti) {cs : List V} {b o : Nat} {us : List Value} (hr : RdL g cs us) (hat : At w b o us) (off : Nat)
    (hrun : ∀ v w', (loadVar t ⟨b, o + off, none⟩).run P w = .ok v w' → sem.run P w = .ok (.value v) w') :
    RS P E sem g a w st (match ti.agg with
      | true => (match Nat.ble (off + ti.cells) (len cs) with | true => .ok (.agg (takeN ti.cells (dropN off cs))) st | false => .bad)
      | false => (match nth cs off with | some v => .ok v st | none => .bad)) := by
  split
  · rename_i hagg
    split
    · rename_i hle
      rw [takeN_eq, dropN_eq]
      have hle := Nat.le_of_ble_eq_true hle
      rw [len_eq] at hle
      have hlen := RdL_length hr
      have h2 := (hat.drop off).take ti.cells
      refine OpOK.same hg (hrun _ w (run_loadVar_agg hT hagg _ ?_ h2.cell)) ⟨_, rfl, RdL_take _ (RdL_drop _ hr)⟩
      simp; omega
    · trivial
  · rename_i hagg
    split
    · rename_i v hv
      rw [nth_eq] at hv
      obtain ⟨u, hu, hrd⟩ := RdL_get hr off v hv
      exact OpOK.same hg (hrun _ w (run_loadVar_one hT hagg (hat.cell off u hu))) hrd
    · trivial

theorem Good.cells (hg : Good E.G g st a w) {i : Nat} {cs : List V} (hi : st.own[i]? = some (.cells cs)) : ∃ b arr e, g.ids[i]? = some (.cell b) ∧ w.heap[b]? = some (.cells arr e (0, 0)) ∧ RdL g cs arr.toList ∧ ∀ u ∈ arr.toList, u.oneCell' = true := by
  obtain ⟨id, hid, hin⟩ := hg.mem.get hi
  cases id with
  | cell b => obtain ⟨arr, e, hb, hr, h1⟩ := hin; exact ⟨b, arr, e, hid, hb, hr, h1⟩
  | row v => exact hin.elim

theorem Good.row (hg : Good E.G g st a w) {i : Nat} {e : Nat} {c : Cont} (hi : st.own[i]? = some (.row e c)) : ∃ v xs, g.ids[i]? = some (.row v) ∧ w.ownsRow 0 e c.sz v c.len xs ∧ RdCells g.ws c xs ∧ ∀ u ∈ xs, u.oneCell' = true := by
  obtain ⟨id, hid, hin⟩ := hg.mem.get hi
  cases id with
  | cell b => exact hin.elim
  | row v => obtain ⟨xs, ho, hr, h1⟩ := hin; exact ⟨v, xs, hid, ho, hr, h1⟩

theorem At_arr {b : Nat} {arr : Array Value} {e : Nat} (hb : w.heap[b]? = some (.cells arr e (0, 0))) : At w b 0 arr.toList :=
  ⟨fun j u hu => by simp [World.cell?, hb]; simpa using hu⟩

theorem oelem_cells (c : Cont) (e : Int) (j : Nat) (hj : j < c.sz) : (c.oelem std e)[j]? = some (c.cell e.toNat j) := by
  cases c <;> simp only [Cont.sz] at hj
  case r3 xs =>
    have : j = 0 ∨ j = 1 ∨ j = 2 := by omega
    rcases this with rfl | rfl | rfl <;> rfl
  all_goals
    obtain rfl : j = 0 := by omega
    rfl
theorem oelem_len (c : Cont) (e : Int) : (c.oelem std e).length = c.sz := by cases c <;> rfl

/-- An element of a row, its cells. -/
theorem row_elem {e : Nat} {c : Cont} {v : Value} {xs : List Value} (ho : w.ownsRow 0 e c.sz v c.len xs) (hr : RdCells g.ws c xs) {b n cap : Nat} (hv : v = .slice (some ⟨b, 0, none⟩) n cap) {i : Int} (hi : std.idx i (c.olen std)) :
    ∃ us, RdL g (c.oelem std i) us ∧ At w b (i.toNat * c.sz) us := by
  rw [olen_std] at hi
  have hi : 0 ≤ i ∧ i < (c.len : Int) := hi
  subst hv
  have hn : n = c.len := by
    rcases ho.2 with ⟨h, _⟩ | ⟨_, _, _, h, _⟩
    · cases h
    · injection h
  subst hn
  have hlt : i.toNat < c.len := by omega
  refine ⟨(xs.drop (i.toNat * c.sz)).take c.sz, ?_, ⟨fun j u hu => ?_⟩⟩
  · have hlen : xs.length = c.len * c.sz := ho.1
    have hmul : (i.toNat + 1) * c.sz ≤ c.len * c.sz := Nat.mul_le_mul_right _ hlt
    have hsum : (i.toNat + 1) * c.sz = i.toNat * c.sz + c.sz := Nat.succ_mul _ _
    have key : ∀ (l : List V) (ys : List Value), l.length = ys.length → (∀ (j : Nat) (v : V) (u : Value), l[j]? = some v → ys[j]? = some u → Rd g v u) → RdL g l ys := by
      intro l
      induction l with
      | nil => intro ys h _; cases ys with | nil => trivial | cons => simp at h
      | cons x l ih =>
        intro ys h hk
        cases ys with
        | nil => simp at h
        | cons y ys => exact ⟨hk 0 x y rfl rfl, ih ys (by simpa using h) fun j v u e1 e2 => hk (j + 1) v u (by simpa using e1) (by simpa using e2)⟩
    refine key _ _ (by rw [oelem_len]; simp; omega) fun j v u e1 e2 => ?_
    have hj : j < c.sz := by rw [← oelem_len c i]; exact (List.getElem?_eq_some_iff.1 e1).1
    rw [oelem_cells c i j hj] at e1
    cases e1
    obtain ⟨u', hu', hrd⟩ := hr i.toNat hlt j hj
    rw [List.getElem?_take, if_pos hj, List.getElem?_drop, hu'] at e2
    cases e2
    exact Rd_of_cell hrd
  · rw [List.getElem?_take] at hu
    split at hu
    · rename_i hj
      rw [List.getElem?_drop] at hu
      have hmul : (i.toNat + 1) * c.sz ≤ c.len * c.sz := Nat.mul_le_mul_right _ hlt
      have hsum : (i.toNat + 1) * c.sz = i.toNat * c.sz + c.sz := Nat.succ_mul _ _
      rw [ho.cellAt _ (by omega)]
      exact hu
    · cases hu

include hE in
theorem aLoad_ok (hg : Good E.G g st a w) {sem : Sem Next} (t : Nat) {va : V} {x : Value} (hx : Rd g va x)
    (hrun : ∀ ad v w', x = .pointer (some ad) → (loadVar t ad).run P w = .ok v w' → sem.run P w = .ok (.value v) w') : RS P E sem g a w st (aLoad std E st t va) := by
  unfold aLoad
  split
  · trivial
  · rename_i ti ht
    have hT := hE.T t ti ht
    split
    · rename_i i off
      obtain ⟨b, hb, rfl⟩ := hx
      split
      · rename_i cs hn
        rw [nth_eq] at hn
        obtain ⟨b', arr, e, hid, hh, hr, h1⟩ := hg.cells hn
        rw [hb] at hid; cases hid
        exact loadCellsOf hg hT hr (At_arr hh) off (fun v w' h => hrun _ v w' rfl (by simpa using h))
      · trivial
    · rename_i cs off
      obtain ⟨b, o, rfl, hc⟩ := hx
      obtain ⟨us, hr, hat⟩ := RdC_list hc
      exact loadCellsOf hg hT hr ⟨fun j u hu => hg.mem.cell_still (by simpa using (hat j u hu).1)⟩ off (fun v w' h => hrun _ v w' rfl h)
    · rename_i i e sz off
      obtain ⟨b, n, cap, hb, rfl⟩ := hx
      split
      · rename_i e' c hn
        rw [nth_eq] at hn
        obtain ⟨v, xs, hid, ho, hr, h1⟩ := hg.row hn
        rw [hb] at hid; cases hid
        split
        · trivial
        · rename_i hsz
          obtain rfl := Nat.eq_of_beq_eq_true hsz
          split
          · rename_i hagg
            split
            · rename_i h2 h3
              have h3 := Nat.eq_of_beq_eq_true h3
              have h2 := Nat.eq_of_beq_eq_true h2
              subst h3
              intro hp
              obtain ⟨us, hrl, hat⟩ := row_elem ho hr rfl hp
              have hl := RdL_length hrl
              rw [len_eq] at h2
              exact OpOK.same hg (hrun _ _ w rfl (run_loadVar_agg hT hagg us (by omega) (by simpa using hat.cell))) ⟨_, rfl, hrl⟩
            · trivial
          · rename_i hagg
            split
            · rename_i v hv
              rw [nth_eq] at hv
              intro hp
              obtain ⟨us, hrl, hat⟩ := row_elem ho hr rfl hp
              obtain ⟨u, hu, hrd⟩ := RdL_get hrl off v hv
              exact OpOK.same hg (hrun _ _ w rfl (run_loadVar_one hT hagg (hat.cell off u hu))) hrd
            · trivial
      · trivial
    · trivial

end
end Go.En
