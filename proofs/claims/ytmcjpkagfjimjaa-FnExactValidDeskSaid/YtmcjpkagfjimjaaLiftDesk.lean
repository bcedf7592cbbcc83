/-
  The reading of a desk, for the lifts of laws. Own work.
-/
import Derived.Test.YtmcjpkagfjimjaaLawB
import Derived.Test.YtmcjpkagfjimjaaEnLc
import Derived.Test.YtmcjpkagfjimjaaRows
set_option linter.unusedVariables false
set_option linter.unusedSimpArgs false
set_option maxRecDepth 100000
namespace Go.Proofs.Ytmcjpkagfjimjaa.Lift
open Go.En Go.Proofs Go.ChangeShapes Go.WideShapes Go.ChangeAt Go.RowKit
theorem own : ownKnob Try.prog.godebug = none := by kernel_rfl
theorem laidOut : laidOutB Try.prog = true := by kernel_rfl
theorem slices : ∀ t e, t < Try.prog.types.size → Try.prog.underlying t = some (.slice e) → 0 < Try.prog.cellsOf e := slices_full_of Try.prog (by kernel_rfl)
theorem kids : Kids Try.prog (· < Try.prog.types.size) := kids_rows laidOut (by kernel_rfl)
theorem lt38 : 38 < Try.prog.types.size := of_decide_eq_true (by kernel_rfl)

theorem desk_of {v : Value} {H : Type} {enc : TypeId × Value → H} {W : World} {sp : Nat → Bool} {held : Bool} {fuel : Nat} {x : DataW H × List MemPlace} (h : DataW.trod enc Try.prog W 0 sp held fuel 38 v.cells.toList = some x) : ∃ d : Dsk, Rd (full W) (.agg (deskC d)) v ∧ d.Wf := by
  have hl := op_len Try.underlying38 h
  rw [cells38] at hl
  obtain ⟨d, h1, h2⟩ := deskRead h
  refine ⟨d, ?_, h2⟩
  cases v <;> first
    | exact ⟨_, rfl, h1⟩
    | (simp [Value.cells] at hl)

noncomputable def deskZero : Value := .agg #[.slice none 0 0, .slice none 0 0, .slice none 0 0, .slice none 0 0, .int .i64 0, .float .f32 0, .float .f32 0, .float .f32 0, .float .f32 0, .float .f32 0, .float .f32 0, .float .f32 0, .float .f32 0, .float .f32 0, .float .f32 0, .float .f32 0, .float .f32 0, .float .f32 0, .float .f32 0, .int .i64 0, .float .f32 0, .float .f32 0, .float .f32 0, .slice none 0 0, .slice none 0 0, .float .f32 0, .float .f32 0, .float .f32 0]
end Go.Proofs.Ytmcjpkagfjimjaa.Lift
