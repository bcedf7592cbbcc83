/-
  THE READING OF A LAW's ARGUMENTS: the leaves of a struct. Own work; generic over the program.
-/
import Derived.Test.YtnkefikpejjjcaaDoorEnLa
set_option linter.unusedVariables false
set_option linter.unusedSimpArgs false
namespace Go.En

/-- The leaves of a type: where, and of which type. -/
def leaves (E : Env) : Nat → Nat → List (Nat × Nat)
  | 0, t => [(0, t)]
  | n + 1, t =>
    match E.T t with
    | some ti => (match ti.desc with | .struct fs => fs.flatMap (fun p => (leaves E n p.2).map (fun q => (p.1 + q.1, q.2))) | _ => [(0, t)])
    | none => [(0, t)]

section
variable {H : Type} {enc : TypeId × Value → H} {P : Program} {E : Env} (hE : EnvOK P E) {w : World} {base : Nat} {spare : Nat → Bool} {held : Bool}
include hE

theorem op_leaves : ∀ (n fuel t : Nat) (cs : List Value) (x : DataW H × List MemPlace), DataW.trod enc P w base spare held fuel t cs = some x → ∀ p ∈ leaves E n t, ∃ m y us, DataW.trod enc P w base spare held m p.2 us = some y ∧ ∀ (j : Nat) v, us[j]? = some v → cs[p.1 + j]? = some v
  | 0, fuel, t, cs, x, h, p, hp => by
    simp only [leaves, List.mem_singleton] at hp
    subst hp
    exact ⟨fuel, x, cs, h, fun j v hv => by simpa using hv⟩
  | n + 1, fuel, t, cs, x, h, p, hp => by
    have self : p ∈ [(0, t)] → ∃ m y us, DataW.trod enc P w base spare held m p.2 us = some y ∧ ∀ (j : Nat) v, us[j]? = some v → cs[p.1 + j]? = some v := fun hp => by
      simp only [List.mem_singleton] at hp
      subst hp
      exact ⟨fuel, x, cs, h, fun j v hv => by simpa using hv⟩
    simp only [leaves] at hp
    split at hp
    · rename_i ti ht
      split at hp
      · rename_i fs hd
        obtain ⟨d, hu, hok, _⟩ := (hE.T t ti ht).und
        rw [hd] at hok
        obtain ⟨F, rfl, hF, _⟩ := hok
        rw [List.mem_flatMap] at hp
        obtain ⟨q, hq, hp⟩ := hp
        rw [List.mem_map] at hp
        obtain ⟨r, hr, rfl⟩ := hp
        rw [← hF, List.mem_map] at hq
        obtain ⟨f, hf, rfl⟩ := hq
        obtain ⟨i, hi⟩ := List.mem_iff_getElem?.1 hf
        obtain ⟨m, y, hy⟩ := op_field hu h (i := i) (f := f) (by simpa using hi)
        obtain ⟨m', y', us, h1, h2⟩ := op_leaves n m f.type _ y hy r hr
        refine ⟨m', y', us, h1, fun j v hv => ?_⟩
        have := h2 j v hv
        rw [List.getElem?_take] at this
        split at this
        · rw [List.getElem?_drop] at this
          simpa [Nat.add_assoc] using this
        · cases this
      · exact self hp
    · exact self hp

/-- A number's leaf. -/
theorem leaf_f32 {n fuel t : Nat} {cs : List Value} {x : DataW H × List MemPlace} (h : DataW.trod enc P w base spare held fuel t cs = some x) {i e : Nat} (hp : (i, e) ∈ leaves E n t) (he : P.underlying e = some (.float .f32)) : ∃ b, cs[i]? = some (.float .f32 b) ∧ b < 4294967296 := by
  obtain ⟨m, y, us, h1, h2⟩ := op_leaves hE n fuel t cs x h _ hp
  obtain ⟨b, rfl, hb⟩ := op_f32 he h1
  exact ⟨b, h2 0 _ rfl, hb⟩
theorem leaf_i64 {n fuel t : Nat} {cs : List Value} {x : DataW H × List MemPlace} (h : DataW.trod enc P w base spare held fuel t cs = some x) {i e : Nat} (hp : (i, e) ∈ leaves E n t) (he : P.underlying e = some (.int .i64)) : ∃ b, cs[i]? = some (.int .i64 b) := by
  obtain ⟨m, y, us, h1, h2⟩ := op_leaves hE n fuel t cs x h _ hp
  obtain ⟨b, rfl⟩ := op_i64 he h1
  exact ⟨b, h2 0 _ rfl⟩
theorem leaf_sl32 {n fuel t : Nat} {cs : List Value} {x : DataW H × List MemPlace} (h : DataW.trod enc P w base spare held fuel t cs = some x) {i e f : Nat} (hp : (i, e) ∈ leaves E n t) (he : P.underlying e = some (.slice f)) (hf : P.underlying f = some (.float .f32)) (hc : P.cellsOf f = 1) :
    ∃ v xs, cs[i]? = some v ∧ Rd (full w) (.sl (.f32 xs) false) v ∧ BL xs ∧ xs.length ≤ maxLen := by
  obtain ⟨m, y, us, h1, h2⟩ := op_leaves hE n fuel t cs x h _ hp
  obtain ⟨v, xs, rfl, h3, h4, h5⟩ := op_sl32 he hf hc h1
  exact ⟨v, xs, h2 0 _ rfl, h3, h4, h5⟩
end
end Go.En
