/-
  FnExactProfileText: the tied card. Own work.
-/
import Derived.Test.YtnkefikpejjjcaaDoorLiftPT
import Derived.SevenTiedAt
set_option linter.unusedVariables false
namespace Go.Proofs.YtnkefikpejjjcaaDoor.ProfileText
open Go Go.Proofs.YtnkefikpejjjcaaDoor
theorem proved : Rows.FnExactProfileTextCardSaid :=
  Claim7.holds_tied_plain_at .later [] [.data, .data, .data] true Rows.fnExactProfileTextCard.stood.harness false
    Lift.row_holds (fun _ h => by cases h) (by kernel_rfl) (fun _ h => by cases h) fnExactProfileText_row_tie rfl ⟨rfl, rfl⟩ (by kernel_rfl) rfl
    (fun f fn hf hfn => by
      obtain rfl : f = 4 := Option.some.inj ((show Tryd.prog.funcNamed "loop.example/g01256/laws.FnExactProfileText" = some 4 by kernel_rfl).symm.trans hf) |>.symm
      obtain rfl : fn = Tryd.f4 := (Option.some.inj (Tryd.func4.symm.trans hfn)).symm
      exact ⟨by kernel_rfl, fun j t ht => by
        rw [Tryd.params4] at ht
        have hm : t ∈ [36] := by simpa using Array.mem_of_getElem? ht
        have hall : ([36].all fun u => !Tryd.prog.wantsStandIn u) = true := by kernel_rfl
        exact (show Tryd.prog.wantsStandIn t = false by simpa using List.all_eq_true.1 hall t hm)⟩)
    (by kernel_rfl)
end Go.Proofs.YtnkefikpejjjcaaDoor.ProfileText
