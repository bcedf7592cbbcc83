/-
  THE READING OF A LAW's ARGUMENTS AS ABSTRACT VALUES: numbers, lists of numbers. Own work; generic over the program.
-/
import Derived.Test.YtnkefikpejjjcaaDoorEnXz
import Derived.Test.YtnkefikpejjjcaaDoorEnR
import Derived.ChangeArms
import Derived.ChangeSlices
import Derived.DataReads
set_option linter.unusedVariables false
set_option linter.unusedSimpArgs false
namespace Go.En

section
variable {H : Type} {enc : TypeId × Value → H} {P : Program} {w : World} {base : Nat} {spare : Nat → Bool} {held : Bool} {fuel : Nat} {t : TypeId} {cs : List Value} {x : DataW H × List MemPlace}

theorem op_f32 (ht : P.underlying t = some (.float .f32)) (h : DataW.trod enc P w base spare held fuel t cs = some x) : ∃ b, cs = [.float .f32 b] ∧ b < 4294967296 := by
  cases fuel with
  | zero => simp [DataW.trod] at h
  | succ n =>
    unfold DataW.trod at h
    rw [ht] at h
    split at h <;> simp_all
    rename_i he
    obtain ⟨⟨hk, hw⟩, _⟩ := h
    subst he
    simpa [Lit.wf] using hw
theorem op_i64 (ht : P.underlying t = some (.int .i64)) (h : DataW.trod enc P w base spare held fuel t cs = some x) : ∃ n, cs = [.int .i64 n] := by
  cases fuel with
  | zero => simp [DataW.trod] at h
  | succ n =>
    unfold DataW.trod at h
    rw [ht] at h
    split at h <;> simp_all

theorem cn_lt {b : Nat} (h : b < 4294967296) : cn .f32 b < 4294967296 := by
  unfold cn
  split
  · decide
  · exact h

theorem op_sl32 {e : TypeId} (ht : P.underlying t = some (.slice e)) (he : P.underlying e = some (.float .f32)) (hc : P.cellsOf e = 1) (h : DataW.trod enc P w base spare held fuel t cs = some x) :
    ∃ v xs, cs = [v] ∧ Rd (full w) (.sl (.f32 xs) false) v ∧ BL xs ∧ xs.length ≤ maxLen := by
  rcases DataW.trod_slice ht h with ⟨rfl, _⟩ | ⟨a, len, cap, elems, rest, n, _, rfl, _, hb, hl, hm, hlen, hel, _, _⟩
  · exact ⟨_, [], rfl, ⟨none, 0, rfl, Nat.le_refl _, fun e => (nomatch e), .inl rfl⟩, fun x hx => by simp at hx, Nat.zero_le _⟩
  · have key : ∀ i, i < len → ∃ b, w.cell? (a.add i) = some (.float .f32 b) ∧ b < 4294967296 := by
      intro i hi
      have h1 := hel i hi
      rw [List.getElem?_eq_getElem (by omega)] at h1
      rw [hc, Nat.mul_one] at h1
      rw [Option.bind_eq_some_iff] at h1
      obtain ⟨us, h2, h3⟩ := h1
      obtain ⟨b, rfl, hlt⟩ := op_f32 he h3
      exact ⟨b, Go.ChangeShapes.cell_of_cells?_one h2, hlt⟩
    let g : Nat → Nat := fun i => if hi : i < len then (key i hi).choose else 0
    have hg : ∀ i, i < len → w.cell? (a.add i) = some (.float .f32 (g i)) ∧ g i < 4294967296 := fun i hi => by
      show w.cell? (a.add i) = some (.float .f32 (if hi : i < len then (key i hi).choose else 0)) ∧ _
      rw [dif_pos hi]
      exact ⟨(key i hi).choose_spec.1, by show (if hi : i < len then (key i hi).choose else 0) < _; rw [dif_pos hi]; exact (key i hi).choose_spec.2⟩
    have hl' : ((List.range len).map fun i => cn .f32 (g i)).length = len := by simp
    refine ⟨_, (List.range len).map fun i => cn .f32 (g i), rfl, ⟨some a, cap, by simp [Cont.len], by simpa [Cont.len] using hl, fun e => (nomatch e), ?_⟩, fun y hy => ?_, by rw [hl']; omega⟩
    · rcases Nat.eq_zero_or_pos len with h0 | hpos
      · exact .inl (by simp [Cont.len, h0])
      · right
        have hsp : a = ⟨a.block, a.off, none⟩ := by
          have h1 := (hg 0 hpos).1
          have h0 : a.add 0 = a := by cases a; unfold Addr.add; split <;> simp_all
          rw [h0] at h1
          unfold World.cell? at h1
          cases a with
          | mk b o sp =>
            cases sp with
            | none => rfl
            | some q =>
              exfalso
              split at h1
              · simp at h1
              · cases h1
        refine ⟨a.block, a.off, congrArg some hsp, fun i hi j hj => ?_⟩
        simp only [Cont.len, List.length_map, List.length_range] at hi
        simp only [Cont.sz] at hj
        obtain rfl : j = 0 := by omega
        obtain ⟨h1, h2⟩ := hg i hi
        refine ⟨.float .f32 (g i), ?_, ?_⟩
        · rw [hsp, add_at] at h1
          show scell (full w).ws a.block (a.off + (i * 1 + 0)) = _
          unfold World.cell? at h1
          simp only [Nat.mul_one, Nat.add_zero]
          show (match w.heap[a.block]? with | some (.cells c _ _) => c[a.off + i]? | _ => none) = _
          split at h1
          · rename_i c e f hh
            rw [hh]
            simpa using h1
          · cases h1
        · refine ⟨g i, rfl, ?_⟩
          simp [List.getD_eq_getElem?_getD, hi]
    · simp only [List.mem_map, List.mem_range] at hy
      obtain ⟨i, hi, rfl⟩ := hy
      exact cn_lt (hg i hi).2

/-- A struct's field. -/
theorem op_field {fs : Array Field} (ht : P.underlying t = some (.struct fs)) (h : DataW.trod enc P w base spare held fuel t cs = some x) {i : Nat} {f : Field} (hf : fs[i]? = some f) :
    ∃ n y, DataW.trod enc P w base spare held n f.type ((cs.drop f.offset).take (P.cellsOf f.type)) = some y := by
  obtain ⟨xs, n, _, _, _, hl, he⟩ := DataW.trod_struct ht h
  have hi : i < xs.length := by rw [hl]; exact (Array.getElem?_eq_some_iff.1 hf).1
  exact ⟨n, xs[i], by rw [he i f hf, List.getElem?_eq_getElem hi]⟩
theorem op_len {fs : Array Field} (ht : P.underlying t = some (.struct fs)) (h : DataW.trod enc P w base spare held fuel t cs = some x) : cs.length = P.cellsOf t := by
  obtain ⟨xs, n, _, _, hc, _, _⟩ := DataW.trod_struct ht h
  exact hc

/-- Three numbers in a row. -/
theorem op_three {fs : Array Field} {f0 f1 f2 : Field} (ht : P.underlying t = some (.struct fs)) (h0 : fs[0]? = some f0) (h1 : fs[1]? = some f1) (h2 : fs[2]? = some f2) (hc : P.cellsOf t = 3)
    (o : f0.offset = 0 ∧ f1.offset = 1 ∧ f2.offset = 2) (u : P.underlying f0.type = some (.float .f32) ∧ P.underlying f1.type = some (.float .f32) ∧ P.underlying f2.type = some (.float .f32)) (z : P.cellsOf f0.type = 1 ∧ P.cellsOf f1.type = 1 ∧ P.cellsOf f2.type = 1)
    (h : DataW.trod enc P w base spare held fuel t cs = some x) : ∃ a b c, cs = [.float .f32 a, .float .f32 b, .float .f32 c] ∧ a < 4294967296 ∧ b < 4294967296 ∧ c < 4294967296 := by
  have hl := op_len ht h
  rw [hc] at hl
  obtain ⟨n0, y0, e0⟩ := op_field ht h h0
  obtain ⟨n1, y1, e1⟩ := op_field ht h h1
  obtain ⟨n2, y2, e2⟩ := op_field ht h h2
  rw [o.1, z.1] at e0
  rw [o.2.1, z.2.1] at e1
  rw [o.2.2, z.2.2] at e2
  obtain ⟨a, q0, l0⟩ := op_f32 u.1 e0
  obtain ⟨b, q1, l1⟩ := op_f32 u.2.1 e1
  obtain ⟨c, q2, l2⟩ := op_f32 u.2.2 e2
  match cs, hl with
  | [c0, c1, c2], _ =>
    simp at q0 q1 q2
    subst q0 q1 q2
    exact ⟨a, b, c, rfl, l0, l1, l2⟩

theorem op_sl3 {e : TypeId} (ht : P.underlying t = some (.slice e)) (hc : P.cellsOf e = 3)
    (h3 : ∀ (n : Nat) (us : List Value) y, DataW.trod enc P w base spare held n e us = some y → ∃ a b c, us = [.float .f32 a, .float .f32 b, .float .f32 c] ∧ a < 4294967296 ∧ b < 4294967296 ∧ c < 4294967296)
    (h : DataW.trod enc P w base spare held fuel t cs = some x) :
    ∃ v xs, cs = [v] ∧ Rd (full w) (.sl (.r3 xs) false) v ∧ BL3 xs ∧ xs.length ≤ maxLen := by
  rcases DataW.trod_slice ht h with ⟨rfl, _⟩ | ⟨a, len, cap, elems, rest, n, _, rfl, _, hb, hl, hm, hlen, hel, _, _⟩
  · exact ⟨_, [], rfl, ⟨none, 0, rfl, Nat.le_refl _, fun e => (nomatch e), .inl rfl⟩, fun x hx => by simp at hx, Nat.zero_le _⟩
  · have key : ∀ i, i < len → ∃ p : S3, w.cell? ((a.add (i * 3)).add 0) = some (.float .f32 p.1) ∧ w.cell? ((a.add (i * 3)).add 1) = some (.float .f32 p.2.1) ∧ w.cell? ((a.add (i * 3)).add 2) = some (.float .f32 p.2.2) ∧ B3 p := by
      intro i hi
      have h1 := hel i hi
      rw [List.getElem?_eq_getElem (by omega), hc, Option.bind_eq_some_iff] at h1
      obtain ⟨us, h2, h4⟩ := h1
      obtain ⟨p, q, r, rfl, l0, l1, l2⟩ := h3 _ _ _ h4
      obtain ⟨_, _, hh⟩ := World.cells?_some h2
      exact ⟨(p, q, r), hh 0 (by omega), hh 1 (by omega), hh 2 (by omega), l0, l1, l2⟩
    let g : Nat → S3 := fun i => if hi : i < len then (key i hi).choose else (0, 0, 0)
    have hg : ∀ i, i < len → w.cell? ((a.add (i * 3)).add 0) = some (.float .f32 (g i).1) ∧ w.cell? ((a.add (i * 3)).add 1) = some (.float .f32 (g i).2.1) ∧ w.cell? ((a.add (i * 3)).add 2) = some (.float .f32 (g i).2.2) ∧ B3 (g i) := fun i hi => by
      have e : g i = (key i hi).choose := by show (if hi : i < len then (key i hi).choose else (0, 0, 0)) = _; rw [dif_pos hi]
      rw [e]
      exact (key i hi).choose_spec
    let f : Nat → S3 := fun i => (cn .f32 (g i).1, cn .f32 (g i).2.1, cn .f32 (g i).2.2)
    refine ⟨_, (List.range len).map f, rfl, ⟨some a, cap, by simp [Cont.len], by simpa [Cont.len] using hl, fun e => (nomatch e), ?_⟩, fun y hy => ?_, by simp; omega⟩
    · rcases Nat.eq_zero_or_pos len with h0 | hpos
      · exact .inl (by simp [Cont.len, h0])
      · right
        have hsp : a = ⟨a.block, a.off, none⟩ := by
          have h1 := (hg 0 hpos).1
          have h0 : (a.add (0 * 3)).add 0 = a := by cases a; unfold Addr.add; split <;> simp_all
          rw [h0] at h1
          unfold World.cell? at h1
          cases a with
          | mk b o sp =>
            cases sp with
            | none => rfl
            | some q =>
              exfalso
              split at h1
              · simp at h1
              · cases h1
        refine ⟨a.block, a.off, congrArg some hsp, fun i hi j hj => ?_⟩
        simp only [Cont.len, List.length_map, List.length_range] at hi
        simp only [Cont.sz] at hj
        obtain ⟨k0, k1, k2, _⟩ := hg i hi
        have cell : ∀ (j : Nat) (v : Value), w.cell? ((a.add (i * 3)).add j) = some v → scell (full w).ws a.block (a.off + (i * 3 + j)) = some v := by
          intro j v h1
          rw [hsp, add_at, add_at] at h1
          show (match w.heap[a.block]? with | some (.cells c _ _) => c[a.off + (i * 3 + j)]? | _ => none) = _
          unfold World.cell? at h1
          split at h1
          · rename_i c e f hh
            rw [hh]
            simpa [Nat.add_assoc] using h1
          · cases h1
        have hf : ((List.range len).map f).getD i (0, 0, 0) = f i := by simp [List.getD_eq_getElem?_getD, hi]
        rcases (by omega : j = 0 ∨ j = 1 ∨ j = 2) with rfl | rfl | rfl
        · exact ⟨_, cell 0 _ k0, ⟨_, rfl, by rw [hf]⟩⟩
        · exact ⟨_, cell 1 _ k1, ⟨_, rfl, by rw [hf]⟩⟩
        · exact ⟨_, cell 2 _ k2, ⟨_, rfl, by rw [hf]⟩⟩
    · simp only [List.mem_map, List.mem_range] at hy
      obtain ⟨i, hi, rfl⟩ := hy
      obtain ⟨_, _, _, l0, l1, l2⟩ := hg i hi
      exact ⟨cn_lt l0, cn_lt l1, cn_lt l2⟩
end
end Go.En
