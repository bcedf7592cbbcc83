/-
  Whatever desk comes in, the law FnExactValidDesk returns true and leaves the desk as it was. No conditions. Own work.
-/
import Derived.Test.YtmcjpkagfjimjaaValG
import Derived.Test.YtmcjpkagfjimjaaLiftDesk
set_option linter.unusedVariables false
set_option linter.unusedSimpArgs false
set_option maxRecDepth 100000
namespace Go.Proofs.Ytmcjpkagfjimjaa.ValidDesk
open Go.En Go.Proofs Go.ChangeShapes Go.WideShapes Go.ChangeAt Go.RowKit Go.Proofs.Ytmcjpkagfjimjaa.Lift

theorem lifted (os : Os) (started : os.Started) (H : Type) (enc : TypeId × Value → H) :
    ReturnsInHanded {} Try.checked os 4 .any (Rows.fnExactValidDeskSpec.pre6 enc Try.prog Try.f4 Rows.fnExactValidDeskRow.domain false) (Rows.fnExactValidDeskSpec.post enc Try.prog Try.f4 false true false false) := by
  refine returnsInHanded_of_change (C := Try.checked) own started (by kernel_rfl) Try.func4
    (ChangeSpec.witness6 (enc := enc) (C := Try.checked) false ⟨#[], #[deskZero], []⟩ 8 (by kernel_rfl) (by kernel_rfl) (by kernel_rfl) (by kernel_rfl)) ?_
  intro W base args ds gs before hval0 hW hcnd _
  have hW' := hW
  obtain ⟨p, q, hA0, hV, rfl, hfz, hnd⟩ := hW
  have hA : DataW.TrodAll enc Try.prog W 0 (fun _ => true) true Try.f4.params.toList args.toList ds p := hA0
  rw [Try.params4] at hA
  obtain ⟨v0, d0, rfl, rfl, h0⟩ := trodAll_one hA
  obtain ⟨rfl, rfl⟩ := trodVars_none hV
  simp only [List.append_nil] at hW'
  obtain ⟨n0, e0⟩ := h0
  obtain ⟨d, rd, wd⟩ := desk_of e0
  refine ((lawValid d wd).ok.run (full W) W #[v0] ⟨rd, trivial⟩ (full_mem W)).mono fun ex W' hex => ?_
  obtain ⟨x, r, g', own', rfl, hrd, hmem, hext, hle, rfl, rfl⟩ := hex
  obtain rfl : x = .bool true := hrd
  have hb := below hext
  have hlt : ∀ y ∈ p, y.block < W.heap.size := fun y hy => hW'.lt y hy
  refine ⟨_, rfl, post_kept (pa := p) (pv := []) hW' (fun _ _ _ => trodAll_mk1 (shut_bool Try.underlying4 _)) (fun sp hsp => ?_) (fun _ _ => rfl) (by simp) hb (ok_one (by kernel_rfl) rfl (okWide_bool_mk Try.underlying4 _))⟩
  · rw [Try.params4]
    exact trodAll_mk1 (WideElems.Trod_stays laidOut (by kernel_rfl) lt38 ⟨n0, e0⟩ (fun x hx => hb.same (hlt x hx)) fun x hx => hsp x hx)

theorem proved : Rows.FnExactValidDeskSaid :=
  OpenClaim.holds_of_wide 4 Try.f4 rfl rfl rfl rfl rfl rfl rfl ⟨rfl, rfl, rfl, rfl, rfl⟩ rfl rfl rfl rfl rfl (by kernel_rfl) Try.func4 (by kernel_rfl)
    (of_decide_eq_true (by kernel_rfl)) (by unfold Func.isWrapper; first | (rw [if_pos (by decide +kernel)]; kernel_rfl) | (rw [if_neg (by decide +kernel)]; exact ⟨rfl, rfl⟩))
    (fun os started H enc _ => lifted os started H enc)
end Go.Proofs.Ytmcjpkagfjimjaa.ValidDesk
