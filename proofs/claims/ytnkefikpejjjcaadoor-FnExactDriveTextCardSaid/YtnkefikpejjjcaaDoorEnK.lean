/-
  AN OPERATION OF THE MACHINE DOES WHAT 'aop' RECKONS: slices written out, made, grown, cut. Own work; generic over the program.
-/
import Derived.Test.YtnkefikpejjjcaaDoorEnJ
set_option linter.unusedVariables false
set_option linter.unusedSectionVars false
set_option linter.unusedSimpArgs false
namespace Go.En

section
variable {P : Program} {E : Env} (hE : EnvOK P E) {g : Gh} {st : St} {a : Act} {w : World}

structure OfOK (g : Gh) (cs : List V) (c : Cont) : Prop where
  len : c.len = cs.length
  sz : c.sz = 1
  cell : ∀ (i : Nat) (v : V) (u : Value), cs[i]? = some v → Rd g v u → RdCell g.ws (c.cell i 0) u

theorem OfOK.cons {cs : List V} {c c' : Cont} {v : V} (h : OfOK g cs c) (hl : c'.len = c.len + 1) (hs : c'.sz = 1) (h0 : ∀ u, Rd g v u → RdCell g.ws (c'.cell 0 0) u) (hc : ∀ i, c'.cell (i + 1) 0 = c.cell i 0) : OfOK g (v :: cs) c' := by
  refine ⟨by rw [hl, h.len]; rfl, hs, fun i x u hx hr => ?_⟩
  cases i with
  | zero => simp at hx; subst hx; exact h0 u hr
  | succ i => rw [hc]; exact h.cell i x u (by simpa using hx) hr

theorem of_ok (g : Gh) (k : CK) (hk : k ≠ .r3) : ∀ {cs : List V} {c : Cont}, Cont.of k cs = some c → OfOK g cs c
  | [], c, h => by
    simp only [Cont.of] at h
    cases h
    exact ⟨by cases k <;> rfl, by cases k <;> first | rfl | exact absurd rfl hk, fun i v u h => by simp at h⟩
  | v :: r, c, h => by
    simp only [Cont.of] at h
    split at h
    all_goals first
      | cases h; done
      | skip
    all_goals
      split at h
      · rename_i xs hx
        cases h
        refine (of_ok g _ hk hx).cons (by simp [Cont.len]) rfl (fun u hu => ?_) (fun i => by simp [Cont.cell])
        first
          | exact hu
          | (obtain ⟨ad, cap, rfl, q1, q2, q3⟩ := hu; exact ⟨ad, cap, rfl, q1, (fun e => nomatch e), q3⟩)
      · cases h

theorem of3_ok (g : Gh) : ∀ {cs : List V} {l : List (Nat × Nat × Nat)}, Cont.of3 cs = some l → cs.length = l.length * 3 ∧
    ∀ (i j : Nat) (v : V), i < l.length → j < 3 → cs[i * 3 + j]? = some v → v = (Cont.r3 l).cell i j
  | [], l, h => by simp only [Cont.of3] at h; cases h; exact ⟨rfl, fun i j v hi => by simp at hi⟩
  | .flt .f32 x :: .flt .f32 y :: .flt .f32 z :: r, l, h => by
    simp only [Cont.of3] at h
    split at h
    · rename_i l' hl
      cases h
      obtain ⟨h1, h2⟩ := of3_ok g hl
      refine ⟨by simp [h1]; omega, fun i j v hi hj hv => ?_⟩
      cases i with
      | zero =>
        have : j = 0 ∨ j = 1 ∨ j = 2 := by omega
        rcases this with rfl | rfl | rfl <;> (simp at hv; subst hv; rfl)
      | succ i =>
        have e : (i + 1) * 3 + j = (i * 3 + j) + 3 := by omega
        rw [e] at hv
        have := h2 i j v (by simpa using hi) hj (by simpa using hv)
        rw [this]
        have : j = 0 ∨ j = 1 ∨ j = 2 := by omega
        rcases this with rfl | rfl | rfl <;> simp [Cont.cell]
    · cases h

theorem contOf_ok (g : Gh) {k : CK} {cs : List V} {c : Cont} (h : contOf k cs = some c) {xs : List Value} (hr : RdL g cs xs) : cs.length = c.len * c.sz ∧ RdCells g.ws c xs := by
  have hlen := RdL_length hr
  unfold contOf at h
  split at h
  · split at h
    · rename_i l hl
      cases h
      obtain ⟨h1, h2⟩ := of3_ok g hl
      refine ⟨h1, fun i hi j hj => ?_⟩
      have hi : i < l.length := hi
      have hj : j < 3 := hj
      have hlt : i * 3 + j < cs.length := by omega
      obtain ⟨u, hu, hru⟩ := RdL_get hr (i * 3 + j) _ (List.getElem?_eq_getElem hlt)
      refine ⟨u, hu, ?_⟩
      rw [h2 i j _ hi hj (List.getElem?_eq_getElem hlt)] at hru
      have : j = 0 ∨ j = 1 ∨ j = 2 := by omega
      rcases this with rfl | rfl | rfl <;> exact hru
    · cases h
  · rename_i hk
    have ho := of_ok g k (fun e => hk e) h
    refine ⟨by rw [ho.len, ho.sz]; omega, fun i hi j hj => ?_⟩
    rw [ho.len] at hi
    rw [ho.sz] at hj ⊢
    obtain rfl : j = 0 := by omega
    obtain ⟨u, hu, hru⟩ := RdL_get hr i _ (List.getElem?_eq_getElem hi)
    exact ⟨u, by simpa using hu, ho.cell i _ u (List.getElem?_eq_getElem hi) hru⟩

theorem range_made (z : Array Value) (n : Nat) : ((Array.range (n * z.size)).map (z[· % z.size]!)).toList = (List.range (n * z.size)).map fun i => z[i % z.size]! := by simp

theorem RdL_reps {zs : List V} {z : Array Value} (h : RdL g zs z.toList) : ∀ n, RdL g (reps n zs) ((List.range (n * z.size)).map fun i => z[i % z.size]!)
  | 0 => by simp [reps, RdL]
  | n + 1 => by
    rw [reps, cat_eq, Nat.succ_mul, Nat.add_comm, List.range_add, List.map_append]
    refine RdL_append ?_ ?_
    · have e : (List.range z.size).map (fun i => z[i % z.size]!) = z.toList := by
        apply List.ext_getElem?
        intro i
        by_cases hi : i < z.size
        · simp [hi, Nat.mod_eq_of_lt hi]
        · simp [hi]
      rw [e]; exact h
    · have e : (List.map (fun x => z.size + x) (List.range (n * z.size))).map (fun i => z[i % z.size]!) = (List.range (n * z.size)).map fun i => z[i % z.size]! := by
        rw [List.map_map]
        apply List.map_congr_left
        intro i _
        simp
      rw [e]; exact RdL_reps h n

theorem one_reps {z : Array Value} (h : ∀ u ∈ z.toList, u.oneCell' = true) (n : Nat) : ∀ u ∈ (List.range (n * z.size)).map (fun i => z[i % z.size]!), u.oneCell' = true := by
  intro u hu
  obtain ⟨i, hi, rfl⟩ := List.mem_map.1 hu
  have hlt : i < n * z.size := List.mem_range.1 hi
  have hz : 0 < z.size := by
    rcases Nat.eq_zero_or_pos z.size with e | e
    · rw [e] at hlt; omega
    · exact e
  have : i % z.size < z.size := Nat.mod_lt _ hz
  rw [getElem!_pos z _ this]
  exact h _ (by simp)

/-- A row that the call makes. -/
theorem newRow_ok (hg : Good E.G g st a w) {sem : Sem Next} {e : Nat} {c : Cont} {v : Value} {w' : World} {xs : List Value} (hh : w.grownBy w' none) (hv : isSl v = true) (ho : w'.ownsRow 0 e c.sz v c.len xs) (hb : ∀ b, v.ownBlock = some b → w.heap.size ≤ b)
    (hr : RdCells g.ws c xs) (h1 : ∀ u ∈ xs, u.oneCell' = true) (hrun : sem.run P w = .ok (.value v) w') : OpOK P E sem g a w st (.own (len st.own)) { st with own := cat st.own [.row e c] } := by
  have hold : ∀ b, b < w.heap.size → w'.heap[b]? = w.heap[b]? := fun b hb => hh.block b hb (by simp)
  have hlen : len st.own = g.ids.length := by rw [len_eq, hg.mem.len]
  refine ⟨v, g.push (.row v), _, .inl hrun, ⟨?_, hv⟩, ⟨?_, ?_⟩, Ext.push g _ hh.os hh.tape hh.output hh.size hold hb, rfl, rfl, .of_le (g.push_le _)⟩
  · rw [hlen]; simp [Gh.push]
  · exact hg.rel.mono (own' := cat st.own [.row e c]) (g.push_le (.row v))
  · rw [cat_eq]
    exact hg.mem.push hold hb ⟨xs, ho, hr, h1⟩

include hE in
theorem aAlloc_ok (hg : Good E.G g st a w) {sem : Sem Next} (e : Nat) (hrun : ∀ v w', (Instr.alloc e true (.tuple #[])).run P w = .ok v w' → sem.run P w = .ok (.value v) w') :
    RS P E sem g a w st (aAlloc E st e) := by
  have old := alloc_ok hE hg e hrun
  unfold aAlloc
  split
  · trivial
  · rename_i ti ht
    rw [ht] at old
    split
    · rename_i m e' hdesc
      split
      · rename_i k hk
        split
        · rename_i c hc
          split
          · rename_i z zs h1 h2 h3 hz
            have h1 := Nat.eq_of_beq_eq_true h1
            have h3 := Nat.le_of_ble_eq_true h3
            obtain ⟨i, hi, hs, hb, hzero⟩ := (hE.T e ti ht).info
            obtain ⟨zv, q1, q2, q3, q4⟩ := hzero (by rw [hz]; simp)
            obtain ⟨r1, r2⟩ := contOf_ok g hc (RdL_mono (Gle.of_none rfl g) q3)
            have hlz : zv.cells.size = c.len := by
              have := RdL_length q3
              rw [Array.length_toList] at this
              rw [this, r1, h1, Nat.mul_one]
            have hrn : (Instr.alloc e true (.tuple #[])).run P w = .ok (.pointer (some ⟨w.heap.size, 0, none⟩)) (w.alloc (.cells zv.cells e)) := by
              simp [Instr.alloc, zeroValue, typeInfo, hi, q1, newVar, newRow]
            have hlen : len st.own = g.ids.length := by rw [len_eq, hg.mem.len]
            let v : Value := .slice (some ⟨w.heap.size, 0, none⟩) c.len c.len
            have hold : ∀ b, b < w.heap.size → (w.alloc (.cells zv.cells e)).heap[b]? = w.heap[b]? := alloc_old w _
            have hnew : ∀ b, (Id.row v).block = some b → w.heap.size ≤ b := fun b hb => by
              have : w.heap.size = b := by simpa [v, Id.block, Value.ownBlock] using hb
              omega
            refine ⟨_, g.push (.row v), _, .inl (hrun _ _ hrn), ⟨w.heap.size, c.len, c.len, ?_, by simp⟩, ⟨?_, ?_⟩, Ext.push g _ rfl rfl rfl (by simp) hold hnew, rfl, rfl, .of_le (g.push_le _)⟩
            · rw [hlen]; simp [Gh.push, v]
            · exact hg.rel.mono (own' := cat st.own [.row e c]) (g.push_le (.row v))
            · rw [cat_eq]
              refine hg.mem.push hold hnew ⟨zv.cells.toList, ⟨by rw [Array.length_toList, hlz, h1, Nat.mul_one], .inr ⟨w.heap.size, c.len, zv.cells, rfl, Nat.zero_le _, heap_alloc_new w _, Nat.le_refl _, ?_, by rw [hlz, h1, Nat.mul_one], ?_⟩⟩, ?_, q4⟩
              · have : ti.cells = c.len := by rw [← q2, hlz]
                simp only [maxLen]; omega
              · rw [h1, Nat.mul_one, ← hlz, ← Array.length_toList]; exact List.take_length
              · exact fun i hi j hj => by
                  obtain ⟨u, hu, hr⟩ := r2 i hi j hj
                  exact ⟨u, hu, hr.mono (g.push_le _).ws⟩
          · trivial
        · trivial
      · trivial
    · exact old

include hE in
theorem aBuildSlice_ok (hg : Good E.G g st a w) {sem : Sem Next} (t n : Nat) (parts : List (Nat × Operand))
    (hrun : ∀ v w', (Instr.buildSlice t n (parts.map fun p => (p.1, a.eval p.2)).toArray).run P w = .ok v w' → sem.run P w = .ok (.value v) w') : RS P E sem g a w st (aBuildSlice std E st t n parts) := by
  unfold aBuildSlice
  split
  · rename_i e k hd
    split
    · rename_i ti ht
      split
      · rename_i z zs hn hz
        split
        · rename_i cs hf
          split
          · rename_i c hc
            split
            · rename_i hsz hlen hle hsol
              have hsz := Nat.eq_of_beq_eq_true hsz
              have hlen := Nat.eq_of_beq_eq_true hlen
              have hle := Nat.le_of_ble_eq_true hle
              rw [len_eq] at hlen
              obtain ⟨_, hu, rfl⟩ := td_ok hE hd (by simp)
              obtain ⟨i, hi, hs, hb, hzero⟩ := (hE.T e ti ht).info
              obtain ⟨zv, h1, h2, h3, h4⟩ := hzero (by rw [hz]; simp)
              rw [hz] at h3
              have h3' := RdL_mono (Gle.of_none rfl g) h3
              have hpos : 0 < ti.cells := by
                have := RdL_length h3
                simp at this
                omega
              obtain ⟨cells', hc', hr', ho'⟩ := fillS_ok hE (place := fun i => some (i * ti.cells, ti.cells)) (fun _ => rfl) (Parts.of hE hg.rel (ftype E t) parts) (cs := reps n (z :: zs))
                (cells := (Array.range (n * ti.cells)).map (zv.cells[· % zv.cells.size]!)) (by rw [← h2, range_made]; exact RdL_reps h3' n) (by rw [← h2, range_made]; exact one_reps h4 n) hf
              have hcells : cells'.size = n * ti.cells := by rw [← hlen, ← RdL_length hr']; simp
              obtain ⟨q1, q2⟩ := contOf_ok g hc hr'
              have hcn : c.len = n := by
                have : c.len * c.sz = n * c.sz := by rw [← q1, hlen, hsz]
                exact Nat.eq_of_mul_eq_mul_right (by omega) this
              have hrow := World.ownsRow_lit (base := 0) (e := e) (size := ti.cells) w cells' n (Nat.zero_le _) (by simp only [maxLen]; have := Nat.le_mul_of_pos_right n hpos; omega) hcells
              refine newRow_ok hg (xs := cells'.toList) (World.grownBy_alloc w _ none) rfl (by rw [hcn, ← hsz]; exact hrow) (fun b hb => by simp [Value.ownBlock] at hb; omega) q2 ho' (hrun _ _ ?_)
              by_cases h0 : n * ti.cells = 0
              · have hn0 : n = 0 := by rcases Nat.mul_eq_zero.1 h0 with h | h <;> omega
                subst hn0
                have e00 : Array.range 0 = (#[] : Array Nat) := rfl
                have e0 : (Array.map (fun x => zv.cells[x % zv.cells.size]!) (Array.range (0 * ti.cells))) = #[] := by rw [Nat.zero_mul, e00]; simp
                rw [e0] at hc'
                simp [Instr.buildSlice, run_underlying hu, run_sizeOf_ti (hE.T e ti ht), hc', newRow, e00]
              · rw [← hs] at hc' h0 hle
                exact run_buildSlice w t e n _ cells' i zv hu hi h1 (by omega) h0 hc'
            · trivial
          · trivial
        · trivial
      · trivial
    · trivial
  · trivial

end
end Go.En
