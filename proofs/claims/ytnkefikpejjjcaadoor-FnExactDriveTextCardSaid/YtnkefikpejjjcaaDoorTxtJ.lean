/-
  The contract of strings.Join, out of the library's shelf. Own work.
-/
import Derived.Test.YtnkefikpejjjcaaDoorEnv
import Derived.Test.YtnkefikpejjjcaaDoorEnWc
import Derived.Test.YtnkefikpejjjcaaDoorEnXz
import Derived.Test.YtnkefikpejjjcaaDoorShelf
set_option linter.unusedVariables false
set_option linter.unusedSimpArgs false
namespace Go.En
open Go.Proofs Go.RowKit
def joinB (xs : List ByteArray) (sep : ByteArray) : ByteArray := ⟨(Lib.join (xs.map (·.data.toList)) sep.data.toList).toArray⟩
theorem c_Join (xs : List ByteArray) (t : Bool) (sep : ByteArray) (hN : xs.length ≤ 140737488355328) (hl : (joinB xs sep).size ≤ 140737488355328) : Call YtnkefikpejjjcaaDoor.Env.pg 85 [.sl (.str xs) t, .str sep] (.str (joinB xs sep)) [] := by
  refine Call.of_below fun g w vs hgl hrl hm => ?_
  match hvs : vs.toList, hrl with
  | [x, y], hrl =>
    obtain rfl : vs = #[x, y] := by apply Array.toList_inj.1; simpa using hvs
    obtain ⟨h1, h2, _⟩ := hrl
    obtain rfl : y = .string sep := h2
    obtain ⟨a, cap, rfl, hcap, _, hrow⟩ := h1
    have hlen : (Cont.str xs).len = xs.length := rfl
    rcases hrow with h0 | ⟨b, off, rfl, hc⟩
    · have hx : xs = [] := List.eq_nil_of_length_eq_zero h0
      subst hx
      refine (Tryd.strings_Join_none a cap sep w).mono fun e w' h => ?_
      obtain ⟨he, rfl⟩ := h
      exact ⟨⟨_, he, rfl⟩, Below.refl _ _⟩
    · have cells : ∀ (j : Nat) x, xs[j]? = some x → w.cell? ⟨b, off + j, none⟩ = some (.string x) ∧ b < w.heap.size := fun j x hx => by
        have hj : j < xs.length := (List.getElem?_eq_some_iff.1 hx).1
        obtain ⟨u, hu, hr⟩ := hc j hj 0 Nat.zero_lt_one
        have hsz : (Cont.str xs).sz = 1 := rfl
        rw [hsz, Nat.mul_one, Nat.add_zero] at hu
        have hr : u = .string (xs.getD j ByteArray.empty) := hr
        rw [List.getD_eq_getElem?_getD, hx] at hr
        subst hr
        unfold scell at hu
        split at hu
        · rename_i cs e fr hb
          have hh := hm.still _ _ hb
          refine ⟨?_, (Array.getElem?_eq_some_iff.1 hh).1⟩
          simp only [World.cell?, hh]
          simpa using hu
        · cases hu
      by_cases hx : xs = []
      · subst hx
        refine (Tryd.strings_Join_none _ cap sep w).mono fun e w' h => ?_
        obtain ⟨he, rfl⟩ := h
        exact ⟨⟨_, he, rfl⟩, Below.refl _ _⟩
      · obtain ⟨x0, r0, hxr⟩ := List.exists_cons_of_ne_nil hx
        have hb := (cells 0 x0 (by rw [hxr]; rfl)).2
        refine (Tryd.strings_Join b off cap xs sep w (fun j x h => (cells j x h).1) hb hN hcap (by simpa [joinB, ByteArray.size] using hl)).mono fun e w' h => ?_
        exact ⟨⟨_, h.1, rfl⟩, h.2⟩
end Go.En
