/-
  The listed tables, for the lifts of laws that reach them. Own work.
-/
import Derived.Test.YtnkefikpejjjcaaDoorTxtG
import Derived.Test.YtnkefikpejjjcaaDoorEnLc
import Derived.Test.YtnkefikpejjjcaaDoorEnLb
import Derived.Test.YtnkefikpejjjcaaDoorRows
import Derived.Test.YtnkefikpejjjcaaDoorTie
import Derived.Test.YtnkefikpejjjcaaDoorCards
import Derived.Lib.LaidTab
import Derived.ProofKit
import Derived.LaidMore
import Derived.OpenShut
import Derived.Stop.Joined
set_option linter.unusedVariables false
set_option linter.unusedSimpArgs false
set_option maxRecDepth 100000
namespace Go.Proofs.YtnkefikpejjjcaaDoor.Lift
open Go.En Go.Proofs Go.ChangeShapes Go.WideShapes Go.ChangeAt Go.RowKit
theorem own : ownKnob Tryd.prog.godebug = none := by kernel_rfl
theorem laidOut : laidOutB Tryd.prog = true := by kernel_rfl
theorem slices : ∀ t e, t < Tryd.prog.types.size → Tryd.prog.underlying t = some (.slice e) → 0 < Tryd.prog.cellsOf e := slices_full_of Tryd.prog (by kernel_rfl)
theorem kids : Kids Tryd.prog (· < Tryd.prog.types.size) := kids_rows laidOut (by kernel_rfl)
theorem RdArr_of_tab {P : Program} {W : World} {name : String} {zs : List Int} {g : Nat} (h : Lib.TabIs P W name .u8 zs) (hg : P.globalNamed name = some g) : RdArr (full W).ws (.u8 zs) g 0 := by
  intro i hi j hj
  have hj : j = 0 := by have : j < 1 := hj; omega
  subst hj
  have hc := h.cell hg i hi
  refine ⟨.int .u8 (zs.getD i 0), ?_, rfl⟩
  show (match W.heap[g]? with | some (.cells c _ _) => c[0 + (i * 1 + 0)]? | _ => none) = _
  unfold World.cell? at hc
  cases hb : W.heap[g]? with
  | none => rw [hb] at hc; cases hc
  | some o =>
    rw [hb] at hc
    cases o with
    | cells c e fr =>
      simp at hc ⊢
      exact hc
    | _ => cases hc
theorem g2 : Tryd.prog.globalNamed "math/bits.deBruijn32tab" = some 2 := by kernel_rfl
theorem g3 : Tryd.prog.globalNamed "math/bits.deBruijn64tab" = some 3 := by kernel_rfl
theorem t2 : (Tryd.prog.globals[2]?).map (·.type) = some 158 := by kernel_rfl
theorem t3 : (Tryd.prog.globals[3]?).map (·.type) = some 159 := by kernel_rfl
abbrev laid3 : List (String × DataW Unit) := [("math/bits.deBruijn32tab", Rows.laid_math_bits_deBruijn32tab), ("math/bits.deBruijn64tab", Rows.laid_math_bits_deBruijn64tab), ("internal/strconv.uint64pow10", Rows.laid_internal_strconv_uint64pow10)]
theorem of_laid {W : World} (h : laidMetH Tryd.prog laid3 W) : GOK YtnkefikpejjjcaaDoor.Env.pg.G (full W) := by
  rw [MakeChecks.laidMetH_plain _ _ _ (by kernel_rfl)] at h
  obtain ⟨ps, ⟨g0, t0, cs0, f0, p0, q0, hg0, ht0, hv0, hd0, ⟨g1, t1, cs1, f1, p1, q1, hg1, ht1, hv1, hd1, _, _⟩, _⟩, _, _⟩ := h
  obtain rfl := Option.some.inj (g2.symm.trans hg0)
  obtain rfl := Option.some.inj (g3.symm.trans hg1)
  obtain rfl := Option.some.inj (t2.symm.trans ht0)
  obtain rfl := Option.some.inj (t3.symm.trans ht1)
  have c2 : Tryd.prog.cellsOf 158 = 32 := by kernel_rfl
  have c3 : Tryd.prog.cellsOf 159 = 64 := by kernel_rfl
  have c1 : Tryd.prog.cellsOf 5 = 1 := by kernel_rfl
  intro i c hc
  have hc : YtnkefikpejjjcaaDoor.Env.look YtnkefikpejjjcaaDoor.Env.gtab i = some c := hc
  have hm := YtnkefikpejjjcaaDoor.Env.look_mem hc
  simp only [YtnkefikpejjjcaaDoor.Env.gtab, List.mem_cons, List.not_mem_nil, or_false, Prod.mk.injEq] at hm
  rcases hm with ⟨rfl, rfl⟩ | ⟨rfl, rfl⟩
  · refine RdArr_of_tab (P := Tryd.prog) (name := "math/bits.deBruijn32tab") ?_ g2
    unfold Lib.TabIs
    rw [hv0, ← Lib.cells_of_tab Tryd.underlying158 Tryd.underlying5 c1 c2 (k := .u8) hd0]
  · refine RdArr_of_tab (P := Tryd.prog) (name := "math/bits.deBruijn64tab") ?_ g3
    unfold Lib.TabIs
    rw [hv1, ← Lib.cells_of_tab Tryd.underlying159 Tryd.underlying5 c1 c3 (k := .u8) hd1]
theorem door_met (os : Os) (args : Array Value) : laidMetH Tryd.prog laid3 ((World.doorLaid Tryd.prog 400 os).forCall (fun _ _ => 0) ⟨#[], args, []⟩).memory :=
  laidMetH_of_parts3 (fuel := 8) (laidMet_of_run' 8 (by kernel_rfl) (by kernel_rfl)) (by kernel_rfl) (by kernel_rfl)
theorem cellsF : Tryd.prog.cellsOf 22 = 1 := by kernel_rfl
end Go.Proofs.YtnkefikpejjjcaaDoor.Lift
