/-
  A CONTRACT OF THE LIBRARY's SHELF AS A CONTRACT OF THE ENGINE's. Own work; generic over the program.
-/
import Derived.Test.YtnkefikpejjjcaaDoorEnW
import Derived.Below
set_option linter.unusedVariables false
set_option linter.unusedSimpArgs false
namespace Go.En
open Go.RowKit
theorem Mem.below {w w' : World} {g : Gh} (h : Mem w g []) (hb : Below w.heap.size w w') : Mem w' g [] :=
  ⟨h.len, fun b o e => by
    have h1 := h.still b o e
    have hlt : b < w.heap.size := (Array.getElem?_eq_some_iff.1 h1).1
    rw [hb.block b hlt]; exact h1, fun i ob id h => by simp at h, fun i ob id b h => by simp at h, fun i j oi oj x y b _ h => by simp at h⟩
theorem Ext.below {w w' : World} (g : Gh) (hb : Below w.heap.size w w') : Ext g w g w' :=
  ⟨hb.os, hb.tape, hb.output, hb.size, fun b hlt _ => hb.block b hlt, fun _ _ h => h, fun i id b h he => .inl ⟨i, id, h, he⟩, fun _ _ h => .inl h⟩
theorem Call.of_below {P : PG} {f : Nat} {args : List V} {r : V}
    (h : ∀ (g : Gh) (w : World) (vs : Array Value), GOK P.G g → RdL g args vs.toList → Mem w g [] → Calls P.P f vs w fun e w' => (∃ x, e = .returned x ∧ Rd g r x) ∧ Below w.heap.size w w') : Call P f args r [] := by
  refine ⟨⟨fun g w vs hgl hrl hm => (h g w vs hgl hrl hm).mono fun e w' he => ?_⟩⟩
  obtain ⟨⟨x, rfl, hr⟩, hb⟩ := he
  exact ⟨x, r, g, [], rfl, hr, hm.below hb, Ext.below g hb, .refl g, rfl, rfl⟩
end Go.En
