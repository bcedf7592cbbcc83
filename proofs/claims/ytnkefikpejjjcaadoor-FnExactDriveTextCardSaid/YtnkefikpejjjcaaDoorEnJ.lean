/-
  AN OPERATION OF THE MACHINE DOES WHAT 'aop' RECKONS: literals, made slices, parts of slices. Own work; generic over the program.
-/
import Derived.Test.YtnkefikpejjjcaaDoorEnI
import Derived.Great.BuildSlice
set_option linter.unusedVariables false
set_option linter.unusedSectionVars false
set_option linter.unusedSimpArgs false
namespace Go.En

def layX (xs : List Value) (off : Nat) : List Value → List Value
  | [] => xs
  | u :: r => layX (xs.set off u) (off + 1) r

theorem fold_lay (off : Nat) : ∀ (us : List Value) (k : Nat) (arr : Array Value), ((us.zipIdx k).foldl (fun cs (p : Value × Nat) => cs.setIfInBounds (off + p.2) p.1) arr).toList = layX arr.toList (off + k) us
  | [], k, arr => rfl
  | u :: r, k, arr => by
    rw [List.zipIdx_cons, List.foldl_cons, fold_lay off r (k + 1), layX]
    simp [Array.toList_setIfInBounds, Nat.add_assoc]

theorem layX_one : ∀ (us xs : List Value) (off : Nat), (∀ u ∈ xs, u.oneCell' = true) → (∀ u ∈ us, u.oneCell' = true) → ∀ u ∈ layX xs off us, u.oneCell' = true
  | [], xs, off, h, _ => h
  | x :: r, xs, off, h, k => layX_one r (xs.set off x) (off + 1) (fun u hu => by
      rcases List.mem_or_eq_of_mem_set hu with hu | rfl
      · exact h u hu
      · exact k u (by simp)) (fun u hu => k u (by simp [hu]))

theorem layX_length : ∀ (us xs : List Value) (off : Nat), (layX xs off us).length = xs.length
  | [], xs, off => rfl
  | x :: r, xs, off => by rw [layX, layX_length r]; simp
theorem lay_length : ∀ (us xs : List V) (off : Nat), (lay xs off us).length = xs.length
  | [], xs, off => rfl
  | x :: r, xs, off => by rw [lay, lay_length r, setN_eq]; simp

section
variable {P : Program} {E : Env} (hE : EnvOK P E) {g : Gh} {st : St} {a : Act} {w : World}

theorem RdL_layX : ∀ {vs : List V} {us : List Value} {cs : List V} {xs : List Value} (off : Nat), RdL g cs xs → RdL g vs us → RdL g (lay cs off vs) (layX xs off us)
  | [], [], cs, xs, off, h, _ => h
  | [], _ :: _, _, _, _, _, k => k.elim
  | _ :: _, [], _, _, _, _, k => k.elim
  | v :: vs, u :: us, cs, xs, off, h, k => by
    rw [lay, layX, setN_eq]
    exact RdL_layX (off + 1) (RdL_set off h k.1) k.2

/-- A fill with parts that read. -/
inductive Parts (g : Gh) : List (Nat × V) → List (Nat × Value) → Prop
  | nil : Parts g [] []
  | cons {i : Nat} {v : V} {x : Value} {l : List (Nat × V)} {m : List (Nat × Value)} : Rd g v x → Parts g l m → Parts g ((i, v) :: l) ((i, x) :: m)

include hE in
theorem Parts.of (h : RelA E.G g st a) (t : Nat → Nat) : ∀ (l : List (Nat × Operand)), Parts g (evs std E st.tm t l) (l.map fun p => (p.1, a.eval p.2))
  | [] => .nil
  | (i, x) :: r => .cons (ev_ok hE h (t i) x) (Parts.of h t r)

theorem fill_step {place : Nat → Option (Nat × Nat)} {cells : Array Value} {i off size : Nat} {x : Value} {rest : List (Nat × Value)} (hp : place i = some (off, size)) (hs : x.cells.size = size) (hb : off + x.cells.size ≤ cells.size) :
    ∃ cells', cells'.toList = layX cells.toList off x.cells.toList ∧ Instr.fill place cells ((i, x) :: rest) = Instr.fill place cells' rest := by
  refine ⟨x.cells.zipIdx.foldl (fun cs (p : Value × Nat) => cs.setIfInBounds (off + p.2) p.1) cells, ?_, ?_⟩
  · have := fold_lay off x.cells.toList 0 cells
    rw [← Array.foldl_toList, Array.toList_zipIdx]
    simpa using this
  · rw [Instr.fill, hp]
    have h1 : (decide (x.cells.size ≠ size) || decide (off + x.cells.size > cells.size)) = false := by
      simp [hs]; omega
    simp only [h1, Bool.false_eq_true, if_false]

include hE in
theorem fillV_ok {fs : List (Nat × Nat)} {place : Nat → Option (Nat × Nat)} (hpl : ∀ (i off ft : Nat) (ti : TI), fs[i]? = some (off, ft) → E.T ft = some ti → place i = some (off, ti.cells)) :
    ∀ {l : List (Nat × V)} {m : List (Nat × Value)} {cs cs' : List V} {cells : Array Value}, Parts g l m → RdL g cs cells.toList → (∀ u ∈ cells.toList, u.oneCell' = true) → fillV E fs cs l = some cs' →
      ∃ cells', Instr.fill place cells m = some cells' ∧ RdL g cs' cells'.toList ∧ ∀ u ∈ cells'.toList, u.oneCell' = true
  | [], [], cs, cs', cells, _, hr, h1, h => by
    simp only [fillV] at h
    cases h
    exact ⟨cells, rfl, hr, h1⟩
  | (i, v) :: l, (j, x) :: m, cs, cs', cells, hP, hr, h1, h => by
    cases hP with
    | cons hv hP =>
      simp only [fillV] at h
      split at h
      · rename_i off ft vs hn hc
        rw [nth_eq] at hn
        split at h
        · rename_i ti ht
          split at h
          · rename_i hlen hle
            have hlen := Nat.eq_of_beq_eq_true hlen
            have hle := Nat.le_of_ble_eq_true hle
            rw [len_eq] at hlen
            rw [len_eq, len_eq] at hle
            obtain ⟨hrl, ho⟩ := cellsOf_ok hc hv
            have e1 := RdL_length hrl
            have e2 := RdL_length hr
            obtain ⟨cells', hc', hf⟩ := fill_step (rest := m) (hpl _ _ _ _ hn ht) (by rw [← hlen, ← e1]; simp) (show off + x.cells.size ≤ cells.size by simp at e1 e2; omega)
            rw [hf]
            refine fillV_ok hpl hP ?_ ?_ h
            · rw [hc']; exact RdL_layX _ hr hrl
            · rw [hc']; exact layX_one _ _ _ h1 ho
          · cases h
        · cases h
      · cases h

include hE in
theorem fillS_ok {sz : Nat} {place : Nat → Option (Nat × Nat)} (hpl : ∀ i, place i = some (i * sz, sz)) :
    ∀ {l : List (Nat × V)} {m : List (Nat × Value)} {cs cs' : List V} {cells : Array Value}, Parts g l m → RdL g cs cells.toList → (∀ u ∈ cells.toList, u.oneCell' = true) → fillS sz cs l = some cs' →
      ∃ cells', Instr.fill place cells m = some cells' ∧ RdL g cs' cells'.toList ∧ ∀ u ∈ cells'.toList, u.oneCell' = true
  | [], [], cs, cs', cells, _, hr, h1, h => by
    simp only [fillS] at h
    cases h
    exact ⟨cells, rfl, hr, h1⟩
  | (i, v) :: l, (j, x) :: m, cs, cs', cells, hP, hr, h1, h => by
    cases hP with
    | cons hv hP =>
      simp only [fillS] at h
      split at h
      · rename_i vs hc
        split at h
        · rename_i hlen hle
          have hlen := Nat.eq_of_beq_eq_true hlen
          have hle := Nat.le_of_ble_eq_true hle
          rw [len_eq] at hlen
          rw [len_eq, len_eq] at hle
          obtain ⟨hrl, ho⟩ := cellsOf_ok hc hv
          have e1 := RdL_length hrl
          have e2 := RdL_length hr
          obtain ⟨cells', hc', hf⟩ := fill_step (rest := m) (hpl i) (by rw [← hlen, ← e1]; simp) (show i * sz + x.cells.size ≤ cells.size by simp at e1 e2; omega)
          rw [hf]
          refine fillS_ok hpl hP ?_ ?_ h
          · rw [hc']; exact RdL_layX _ hr hrl
          · rw [hc']; exact layX_one _ _ _ h1 ho
        · cases h
      · cases h

include hE in
theorem aBuild_ok (hg : Good E.G g st a w) {sem : Sem Next} (t : Nat) (parts : List (Nat × Operand))
    (hrun : ∀ v w', (Instr.build t (parts.map fun p => (p.1, a.eval p.2)).toArray).run P w = .ok v w' → sem.run P w = .ok (.value v) w') : RS P E sem g a w st (aBuild std E st t parts) := by
  unfold aBuild
  split
  · rename_i ti ht
    split
    · rename_i fs z zs hd hz
      split
      · rename_i cs hf
        obtain ⟨i, hi, hs, hb, hzero⟩ := (hE.T t ti ht).info
        obtain ⟨zv, h1, h2, h3, h4⟩ := hzero (by rw [hz]; simp)
        obtain ⟨d, hu, htd, _⟩ := (hE.T t ti ht).und
        rw [hd] at htd
        obtain ⟨F, rfl, hF, hall⟩ := htd
        rw [hz] at h3
        have hpl : ∃ places, F.toList.mapM (fun f => (P.info? f.type).map fun i => (f.offset, i.size)) = some places ∧ ∀ (i off ft : Nat) (ti : TI), fs[i]? = some (off, ft) → E.T ft = some ti → places.toArray[i]? = some (off, ti.cells) := by
          have key : ∀ (l : List Field), (∀ f ∈ l, ∃ ti, E.T f.type = some ti) → ∃ places, l.mapM (fun f => (P.info? f.type).map fun i => (f.offset, i.size)) = some places ∧
              ∀ (i off ft : Nat) (ti : TI), (l.map fun x => (x.offset, x.type))[i]? = some (off, ft) → E.T ft = some ti → places[i]? = some (off, ti.cells) := by
            intro l
            induction l with
            | nil => intro _; exact ⟨[], rfl, fun i off ft ti h => by simp at h⟩
            | cons f r ih =>
              intro hall
              obtain ⟨ti, hti⟩ := hall f (by simp)
              obtain ⟨inf, hinf, hsz, _⟩ := (hE.T _ _ hti).info
              obtain ⟨ps, hps, hk⟩ := ih fun f hf => hall f (by simp [hf])
              refine ⟨(f.offset, inf.size) :: ps, by simp [List.mapM_cons, hinf, hps], fun i off ft ti' h ht' => ?_⟩
              cases i with
              | zero =>
                simp at h
                obtain ⟨rfl, rfl⟩ := h
                rw [hti] at ht'; cases ht'
                simp [hsz]
              | succ i => simpa using hk i off ft ti' (by simpa using h) ht'
          obtain ⟨places, hp, hk⟩ := key F.toList fun f hf => hall (f.offset, f.type) (by rw [← hF]; exact List.mem_map.2 ⟨f, hf, rfl⟩)
          exact ⟨places, hp, fun i off ft ti h ht => by rw [hF] at hk; simpa using hk i off ft ti h ht⟩
        obtain ⟨places, hp, hk⟩ := hpl
        obtain ⟨cells', hc', hr', _⟩ := fillV_ok hE hk (Parts.of hE hg.rel (ftype E t) parts) (RdL_mono (Gle.of_none rfl g) h3) h4 hf
        refine OpOK.same hg (hrun _ w (run_build w t _ cells' ?_)) ⟨_, rfl, hr'⟩
        unfold Program.built
        simp only [hi, hu, h1, hp]
        exact hc'
      · trivial
    · trivial
  · trivial

end
end Go.En
