/-
  AN OPERATION OF THE MACHINE DOES WHAT 'aop' RECKONS: new blocks, addresses of parts, parts of values. Own work; generic over the program.
-/
import Derived.Test.YtnkefikpejjjcaaDoorEnH
set_option linter.unusedVariables false
set_option linter.unusedSectionVars false
set_option linter.unusedSimpArgs false
namespace Go.En

section
variable {P : Program} {E : Env} (hE : EnvOK P E) {g : Gh} {st : St} {a : Act} {w : World}

theorem Gle.of_none {g0 : Gh} (h : g0 = ⟨fun _ => none, []⟩) (g : Gh) : Gle g0 g := by
  subst h
  exact ⟨fun _ _ e => (by cases e), fun i x e => (by simp at e)⟩

/-- A block of cells that the call makes. -/
theorem newCells_ok (hg : Good E.G g st a w) {sem : Sem Next} {cs : List V} {arr : Array Value} {e : Nat} (hr : RdL g cs arr.toList) (h1 : ∀ u ∈ arr.toList, u.oneCell' = true)
    (hrun : sem.run P w = .ok (.value (.pointer (some ⟨w.heap.size, 0, none⟩))) (w.alloc (.cells arr e))) : OpOK P E sem g a w st (.lp (len st.own) 0) { st with own := cat st.own [.cells cs] } := by
  have hold : ∀ b, b < w.heap.size → (w.alloc (.cells arr e)).heap[b]? = w.heap[b]? := fun b hb => alloc_old w _ b hb
  have hnew : ∀ b, (Id.cell w.heap.size).block = some b → w.heap.size ≤ b := fun b hb => by simp [Id.block] at hb; omega
  have hlen : len st.own = g.ids.length := by rw [len_eq, hg.mem.len]
  refine ⟨_, g.push (.cell w.heap.size), _, .inl hrun, ⟨w.heap.size, ?_, rfl⟩, ⟨?_, ?_⟩, Ext.push g _ rfl rfl rfl (by simp) hold hnew, rfl, rfl, .of_le (g.push_le _)⟩
  · rw [hlen]; simp [Gh.push]
  · have := hg.rel.mono (own' := cat st.own [.cells cs]) (g.push_le (.cell w.heap.size))
    exact this
  · rw [cat_eq]
    exact hg.mem.push hold hnew ⟨arr, e, heap_alloc_new w _, RdL_mono (g.push_le _) hr, h1⟩

include hE in
theorem alloc_ok (hg : Good E.G g st a w) {sem : Sem Next} (e : Nat) (hrun : ∀ v w', (Instr.alloc e true (.tuple #[])).run P w = .ok v w' → sem.run P w = .ok (.value v) w') :
    RS P E sem g a w st (match E.T e with | some ti => (match ti.zero with | z :: zs => .ok (.lp (len st.own) 0) { st with own := cat st.own [.cells (z :: zs)] } | [] => .bad) | none => .bad) := by
  split
  · rename_i ti ht
    split
    · rename_i z zs hz
      obtain ⟨i, hi, hs, hb, hzero⟩ := (hE.T e ti ht).info
      obtain ⟨zv, h1, h2, h3, h4⟩ := hzero (by rw [hz]; simp)
      rw [hz] at h3
      refine newCells_ok hg (arr := zv.cells) (e := e) (RdL_mono (Gle.of_none rfl g) h3) h4 (hrun _ _ ?_)
      simp [Instr.alloc, zeroValue, typeInfo, hi, h1, newVar, newRow]
    · trivial
  · trivial

theorem box_ok (hg : Good E.G g st a w) {sem : Sem Next} (e : Nat) {vx : V} {x : Value} (hx : Rd g vx x) (hrun : ∀ v w', (Instr.box e x).run P w = .ok v w' → sem.run P w = .ok (.value v) w') :
    RS P E sem g a w st (match cellsOf vx with | some cs => .ok (.lp (len st.own) 0) { st with own := cat st.own [.cells cs] } | none => .bad) := by
  split
  · rename_i cs hc
    obtain ⟨hr, h1⟩ := cellsOf_ok hc hx
    refine newCells_ok hg (arr := x.cells) (e := e) hr h1 (hrun _ _ ?_)
    simp [Instr.box, newVar, newRow]
  · trivial

theorem aField_some {t f off : Nat} {ti : TI} (h : aField E t f = some (off, ti)) : ∃ fs ft, tdOf E t = .struct fs ∧ fs[f]? = some (off, ft) ∧ E.T ft = some ti := by
  unfold aField at h
  split at h
  · rename_i fs hd
    split at h
    · rename_i o ft hn
      rw [nth_eq] at hn
      split at h
      · rename_i ti' ht
        cases h
        exact ⟨fs, ft, hd, hn, ht⟩
      · cases h
    · cases h
  · cases h

include hE in
theorem field_known {t f off : Nat} {ti : TI} (h : aField E t f = some (off, ti)) : ∃ (F : Array Field) (fl : Field), P.underlying t = some (.struct F) ∧ F[f]? = some fl ∧ fl.offset = off ∧ TIok P E fl.type ti := by
  obtain ⟨fs, ft, hd, hn, ht⟩ := aField_some h
  obtain ⟨_, hu, F, rfl, hF, _⟩ := td_ok hE hd (by simp)
  rw [← hF, List.getElem?_map] at hn
  cases hf : F.toList[f]? with
  | none => rw [hf] at hn; cases hn
  | some fl =>
    rw [hf] at hn
    simp at hn
    obtain ⟨rfl, rfl⟩ := hn
    exact ⟨F, fl, hu, by simpa using hf, rfl, hE.T _ _ ht⟩

include hE in
theorem run_fieldAt {t f off : Nat} {ti : TI} (h : aField E t f = some (off, ti)) (hc : ti.cells ≠ 0) (b o : Nat) : (Instr.fieldAt t (.pointer (some ⟨b, o, none⟩)) f).run P w = .ok (.pointer (some ⟨b, o + off, none⟩)) w := by
  obtain ⟨F, fl, hu, hf, rfl, hT⟩ := field_known hE h
  simp [Instr.fieldAt, run_underlying hu, hf, Instr.sureAddr, fieldPlace, run_sizeOf_ti hT, hc, add_at]

include hE in
theorem fieldAddr_ok (hg : Good E.G g st a w) {sem : Sem Next} (t f : Nat) {vx : V} {x : Value} (hx : Rd g vx x) (hrun : ∀ v w', (Instr.fieldAt t x f).run P w = .ok v w' → sem.run P w = .ok (.value v) w') :
    RS P E sem g a w st (aFieldAddr E st t f vx) := by
  unfold aFieldAddr
  split
  · trivial
  · rename_i off ti hf
    split
    · trivial
    · rename_i n hn
      split
      · rename_i i p
        obtain ⟨b, hb, rfl⟩ := hx
        exact OpOK.same hg (hrun _ w (run_fieldAt hE hf (by omega) b p)) ⟨b, hb, rfl⟩
      · rename_i cs p
        obtain ⟨b, o, rfl, hc⟩ := hx
        exact OpOK.same hg (hrun _ w (run_fieldAt hE hf (by omega) b _)) ⟨b, o, by rw [Nat.add_assoc], hc⟩
      · rename_i i e s p
        obtain ⟨b, n, cap, hb, rfl⟩ := hx
        exact OpOK.same hg (hrun _ w (run_fieldAt hE hf (by omega) b _)) ⟨b, _, _, hb, by rw [Nat.add_assoc]⟩
      · trivial

/-- A part out of an aggregate's cells. -/
theorem partOf (hg : Good E.G g st a w) {sem : Sem Next} {t : Nat} {ti : TI} (hT : TIok P E t ti) {cs : List V} {us : Array Value} (hr : RdL g cs us.toList) (off : Nat)
    (hrun : ∀ v w', (part t us off).run P w = .ok v w' → sem.run P w = .ok (.value v) w') :
    RS P E sem g a w st (match ti.agg with
      | true => (match Nat.ble (off + ti.cells) (len cs) with | true => .ok (.agg (takeN ti.cells (dropN off cs))) st | false => .bad)
      | false => (match nth cs off with | some v => .ok v st | none => .bad)) := by
  split
  · rename_i hagg
    split
    · rename_i hle
      rw [takeN_eq, dropN_eq]
      refine OpOK.same hg (x := .agg (us.extract off (off + ti.cells))) (hrun _ w ?_) ⟨_, rfl, ?_⟩
      · simp [part, run_isAgg hT, hagg, run_sizeOf_ti hT]
      · have := RdL_take ti.cells (RdL_drop off hr)
        rwa [show (us.extract off (off + ti.cells)).toList = (us.toList.drop off).take ti.cells by simp [List.extract_eq_take_drop]] 
    · trivial
  · rename_i hagg
    split
    · rename_i v hv
      rw [nth_eq] at hv
      obtain ⟨u, hu, hrd⟩ := RdL_get hr off v hv
      refine OpOK.same hg (hrun u w ?_) hrd
      have hu' : us[off]? = some u := by simpa using hu
      simp [part, run_isAgg hT, hagg, hu']
    · trivial

include hE in
theorem field_ok (hg : Good E.G g st a w) {sem : Sem Next} (t f : Nat) {vx : V} {x : Value} (hx : Rd g vx x) (hrun : ∀ v w', (Instr.field t x f).run P w = .ok v w' → sem.run P w = .ok (.value v) w') :
    RS P E sem g a w st (aFieldV E st t f vx) := by
  unfold aFieldV
  split
  · trivial
  · rename_i off ti hf
    obtain ⟨F, fl, hu, hfl, rfl, hT⟩ := field_known hE hf
    split
    · rename_i cs
      obtain ⟨us, rfl, hr⟩ := hx
      refine partOf hg hT hr _ (fun v w' h => hrun v w' ?_)
      simp [Instr.field, run_underlying hu, hfl, asAgg, h]
    · trivial

theorem elemOK_some {t e : Nat} {c : Cont} {ti : TI} (h : elemOK E t c = some (e, ti)) : ∃ k, tdOf E t = .slice e k ∧ E.T e = some ti ∧ ti.cells = c.sz := by
  unfold elemOK at h
  split at h
  · rename_i e' k hd
    split at h
    · rename_i ti' ht
      split at h
      · rename_i hs
        cases h
        exact ⟨k, hd, ht, Nat.eq_of_beq_eq_true hs⟩
      · cases h
    · cases h
  · cases h

include hE in
theorem run_indexAt {t e : Nat} {c : Cont} {ti : TI} (h : elemOK E t c = some (e, ti)) {b o n cap : Nat} {k : IntKind} {i : Int} (h0 : 0 ≤ i) (h1 : i < (n : Int)) :
    (Instr.indexAt t (.slice (some ⟨b, o, none⟩) n cap) (.int k i)).run P w = .ok (.pointer (some ⟨b, o + i.toNat * c.sz, none⟩)) w := by
  obtain ⟨_, hd, ht, hs⟩ := elemOK_some h
  obtain ⟨_, hu, rfl⟩ := td_ok hE hd (by simp)
  simp [Instr.indexAt, asIntOf, run_underlying hu, h0, h1, run_sizeOf_ti (hE.T _ _ ht), hs, add_at]

include hE in
theorem run_indexAtA {t e m : Nat} {ti : TI} (hd : tdOf E t = .array m e) (ht : E.T e = some ti) (h2 : 2 ≤ m) {b o : Nat} {k : IntKind} {i : Int} (h0 : 0 ≤ i) (h1 : i < (m : Int)) :
    (Instr.indexAt t (.pointer (some ⟨b, o, none⟩)) (.int k i)).run P w = .ok (.pointer (some ⟨b, o + i.toNat * ti.cells, none⟩)) w := by
  obtain ⟨_, hu, rfl⟩ := td_ok hE hd (by simp)
  have h3 : ¬ m ≤ 1 := by omega
  simp [Instr.indexAt, asIntOf, run_underlying hu, Instr.sureAddr, h0, h1, h3, run_sizeOf_ti (hE.T _ _ ht), add_at]

/-- The cells of an element that stands still. -/
theorem RdC_elem {g : Gh} {c : Cont} {n : Int} {b off : Nat} (hn : n.toNat < c.len) (hrow : ∀ i, i < c.len → ∀ j, j < c.sz → ∃ u, scell g.ws b (off + (i * c.sz + j)) = some u ∧ RdCell g.ws (c.cell i j) u) : RdC g b (off + n.toNat * c.sz) (c.oelem std n) 0 := by
  have key : ∀ (l : List V) (j : Nat), j + l.length ≤ c.sz → (∀ (m : Nat) (v : V), l[m]? = some v → v = c.cell n.toNat (j + m)) → RdC g b (off + n.toNat * c.sz) l j := by
    intro l
    induction l with
    | nil => intro j _ _; trivial
    | cons v r ih =>
      intro j hj hl
      have hj : j + (r.length + 1) ≤ c.sz := by simpa using hj
      obtain ⟨u, hu, hru⟩ := hrow n.toNat hn j (by omega)
      have hv : v = c.cell n.toNat j := hl 0 v rfl
      subst hv
      refine ⟨⟨u, by rw [Nat.add_assoc]; exact hu, one_of_cell hru, Rd_of_cell hru⟩, ih (j + 1) (by omega) fun m v hm => ?_⟩
      have := hl (m + 1) v (by simpa using hm)
      rwa [show j + (m + 1) = j + 1 + m by omega] at this
  refine key _ 0 (by rw [oelem_len]; omega) fun m v hm => ?_
  have hlt : m < c.sz := by rw [← oelem_len c n]; exact (List.getElem?_eq_some_iff.1 hm).1
  rw [oelem_cells c n m hlt] at hm
  cases hm
  rw [Nat.zero_add]

theorem isZ_eq {n : Int} (h : isZ n = true) : n = 0 := by
  unfold isZ at h
  split at h
  · rfl
  · cases h

include hE in
theorem aIndexAddr_ok (hg : Good E.G g st a w) {sem : Sem Next} (t : Nat) {vx vi : V} {x i : Value} (hx : Rd g vx x) (hi : Rd g vi i) (hrun : ∀ v w', (Instr.indexAt t x i).run P w = .ok v w' → sem.run P w = .ok (.value v) w') :
    RS P E sem g a w st (aIndexAddr std E st t vx vi) := by
  unfold aIndexAddr
  split
  · rename_i k n c tight
    obtain rfl : i = .int k n := hi
    split
    · rename_i p hp
      intro hq
      rw [olen_std] at hq
      have hq : 0 ≤ n ∧ n < (c.len : Int) := hq
      obtain ⟨ad, cap, rfl, _, _, hrow⟩ := hx
      rcases hrow with h0 | ⟨b, off, rfl, hrow⟩
      · omega
      · refine OpOK.same hg (hrun _ w (run_indexAt hE (e := p.1) (ti := p.2) hp hq.1 hq.2)) ⟨b, off + n.toNat * c.sz, rfl, ?_⟩
        have key : ∀ (l : List V) (j : Nat), j + l.length ≤ c.sz → (∀ (m : Nat) (v : V), l[m]? = some v → v = c.cell n.toNat (j + m)) → RdC g b (off + n.toNat * c.sz) l j := by
          intro l
          induction l with
          | nil => intro j _ _; trivial
          | cons v r ih =>
            intro j hj hl
            have hj : j + (r.length + 1) ≤ c.sz := by simpa using hj
            obtain ⟨u, hu, hru⟩ := hrow n.toNat (by omega) j (by omega)
            have hv : v = c.cell n.toNat j := hl 0 v rfl
            subst hv
            refine ⟨⟨u, by rw [Nat.add_assoc]; exact hu, one_of_cell hru, Rd_of_cell hru⟩, ih (j + 1) (by omega) fun m v hm => ?_⟩
            have := hl (m + 1) v (by simpa using hm)
            rwa [show j + (m + 1) = j + 1 + m by omega] at this
        refine key _ 0 (by rw [oelem_len]; omega) fun m v hm => ?_
        have hlt : m < c.sz := by rw [← oelem_len c n]; exact (List.getElem?_eq_some_iff.1 hm).1
        rw [oelem_cells c n m hlt] at hm
        cases hm
        rw [Nat.zero_add]
    · trivial
  · rename_i k n r
    obtain rfl : i = .int k n := hi
    split
    · rename_i e c hn
      rw [nth_eq] at hn
      split
      · rename_i p hp
        intro hq
        rw [olen_std] at hq
        have hq : 0 ≤ n ∧ n < (c.len : Int) := hq
        obtain ⟨v, xs, hid, ho, _⟩ := hg.row hn
        obtain ⟨hid', _⟩ := hx
        rw [hid] at hid'
        cases hid'
        rcases ho.2 with ⟨rfl, h0⟩ | ⟨b, cap, cur, rfl, _⟩
        · omega
        · refine OpOK.same hg (hrun _ w (run_indexAt hE (e := p.1) (ti := p.2) hp hq.1 hq.2)) ⟨b, _, _, hid, by simp⟩
      · trivial
    · trivial
  · rename_i k n c
    obtain rfl : i = .int k n := hi
    obtain ⟨b, off, rfl, hrow⟩ := hx
    split
    · rename_i m e hd
      split
      · rename_i ti ht
        split
        · rename_i hsz hm hm2
          have hsz := Nat.eq_of_beq_eq_true hsz
          have hm := Nat.eq_of_beq_eq_true hm
          have hm2 := Nat.le_of_ble_eq_true hm2
          intro hq
          have hq : 0 ≤ n ∧ n < (m : Int) := hq
          refine OpOK.same hg (x := .pointer (some ⟨b, off + n.toNat * ti.cells, none⟩)) (hrun _ w (run_indexAtA hE hd ht hm2 hq.1 hq.2)) ⟨b, off + n.toNat * c.sz, by rw [hsz]; rfl, RdC_elem (by omega) hrow⟩
        · trivial
      · trivial
    · trivial
  · rename_i k n r e0
    obtain rfl : i = .int k n := hi
    split
    · rename_i m e hd
      split
      · rename_i ti ht
        split
        · rename_i hsz hz hm2
          have hsz := Nat.eq_of_beq_eq_true hsz
          have hz := isZ_eq hz
          have hm2 := Nat.le_of_ble_eq_true hm2
          subst hz
          intro hq
          have hq : 0 ≤ n ∧ n < (m : Int) := hq
          obtain ⟨b, n', cap, hid, rfl⟩ := hx
          refine OpOK.same hg (x := .pointer (some ⟨b, 0 + n.toNat * ti.cells, none⟩)) (hrun _ w ?_) ⟨b, n', cap, hid, by rw [hsz]; simp⟩
          have := run_indexAtA (w := w) (b := b) (o := 0) (k := k) hE hd ht hm2 hq.1 hq.2
          simpa using this
        · trivial
      · trivial
    · trivial
  · trivial

end
end Go.En
