/-
  FnExactDriveText: the row and the tied card. Own work.
-/
import Derived.Test.YtnkefikpejjjcaaDoorLiftTab
import Derived.Test.YtnkefikpejjjcaaDoorTxtI
import Derived.SevenTiedAt
set_option linter.unusedVariables false
set_option linter.unusedSimpArgs false
set_option maxRecDepth 100000
namespace Go.Proofs.YtnkefikpejjjcaaDoor.DriveText
open Go.En Go.Proofs Go.ChangeShapes Go.WideShapes Go.ChangeAt Go.RowKit Go.Proofs.YtnkefikpejjjcaaDoor.Lift
theorem ltX : 26 < Tryd.prog.types.size := of_decide_eq_true (by kernel_rfl)
theorem leavesX : leaves YtnkefikpejjjcaaDoor.Env.E 4 26 = [(0, 22), (1, 22), (2, 22), (3, 22), (4, 22), (5, 22), (6, 22), (7, 22), (8, 2), (9, 22), (10, 22), (11, 22)] := by kernel_rfl
theorem cellsX : Tryd.prog.cellsOf 26 = 12 := by kernel_rfl
theorem arg_of {v : Value} {H : Type} {enc : TypeId × Value → H} {W : World} {sp : Nat → Bool} {held : Bool} {fuel : Nat} {x : DataW H × List MemPlace} (h : DataW.trod enc Tryd.prog W 0 sp held fuel 26 v.cells.toList = some x) : ∃ d, Rd (full W) (.agg (drvC d)) v ∧ DWf d := by
  have hl := op_len Tryd.underlying26 h
  rw [cellsX] at hl
  obtain ⟨v_p1, q_p1, l_p1⟩ := leaf_f32 YtnkefikpejjjcaaDoor.Env.ok0 h (n := 4) (i := 0) (by rw [leavesX]; decide) Tryd.underlying22
  obtain ⟨v_p2, q_p2, l_p2⟩ := leaf_f32 YtnkefikpejjjcaaDoor.Env.ok0 h (n := 4) (i := 1) (by rw [leavesX]; decide) Tryd.underlying22
  obtain ⟨v_p3, q_p3, l_p3⟩ := leaf_f32 YtnkefikpejjjcaaDoor.Env.ok0 h (n := 4) (i := 2) (by rw [leavesX]; decide) Tryd.underlying22
  obtain ⟨v_p4, q_p4, l_p4⟩ := leaf_f32 YtnkefikpejjjcaaDoor.Env.ok0 h (n := 4) (i := 3) (by rw [leavesX]; decide) Tryd.underlying22
  obtain ⟨v_p5, q_p5, l_p5⟩ := leaf_f32 YtnkefikpejjjcaaDoor.Env.ok0 h (n := 4) (i := 4) (by rw [leavesX]; decide) Tryd.underlying22
  obtain ⟨v_p6, q_p6, l_p6⟩ := leaf_f32 YtnkefikpejjjcaaDoor.Env.ok0 h (n := 4) (i := 5) (by rw [leavesX]; decide) Tryd.underlying22
  obtain ⟨v_p7, q_p7, l_p7⟩ := leaf_f32 YtnkefikpejjjcaaDoor.Env.ok0 h (n := 4) (i := 6) (by rw [leavesX]; decide) Tryd.underlying22
  obtain ⟨v_p8, q_p8, l_p8⟩ := leaf_f32 YtnkefikpejjjcaaDoor.Env.ok0 h (n := 4) (i := 7) (by rw [leavesX]; decide) Tryd.underlying22
  obtain ⟨v_k, q_k⟩ := leaf_i64 YtnkefikpejjjcaaDoor.Env.ok0 h (n := 4) (i := 8) (by rw [leavesX]; decide) Tryd.underlying2
  obtain ⟨v_e1, q_e1, l_e1⟩ := leaf_f32 YtnkefikpejjjcaaDoor.Env.ok0 h (n := 4) (i := 9) (by rw [leavesX]; decide) Tryd.underlying22
  obtain ⟨v_e2, q_e2, l_e2⟩ := leaf_f32 YtnkefikpejjjcaaDoor.Env.ok0 h (n := 4) (i := 10) (by rw [leavesX]; decide) Tryd.underlying22
  obtain ⟨v_e3, q_e3, l_e3⟩ := leaf_f32 YtnkefikpejjjcaaDoor.Env.ok0 h (n := 4) (i := 11) (by rw [leavesX]; decide) Tryd.underlying22
  have key : ∀ cs : List Value, v.cells.toList = cs → ∃ d, RdL (full W) (drvC d) cs ∧ DWf d := by
    intro cs hcs
    rw [hcs] at q_p1 q_p2 q_p3 q_p4 q_p5 q_p6 q_p7 q_p8 q_k q_e1 q_e2 q_e3 hl
    match cs, hl with
    | [c0, c1, c2, c3, c4, c5, c6, c7, c8, c9, c10, c11], _ =>
      simp at q_p1 q_p2 q_p3 q_p4 q_p5 q_p6 q_p7 q_p8 q_k q_e1 q_e2 q_e3
      exact ⟨⟨[], [], [], [], 0, 0, 0, 0, 0, 0, 0, cn .f32 v_p1, cn .f32 v_p2, cn .f32 v_p3, cn .f32 v_p4, cn .f32 v_p5, cn .f32 v_p6, cn .f32 v_p7, cn .f32 v_p8, v_k, cn .f32 v_e1, cn .f32 v_e2, cn .f32 v_e3, [], [], 0, 0, 0⟩, ⟨⟨v_p1, q_p1, rfl⟩, ⟨v_p2, q_p2, rfl⟩, ⟨v_p3, q_p3, rfl⟩, ⟨v_p4, q_p4, rfl⟩, ⟨v_p5, q_p5, rfl⟩, ⟨v_p6, q_p6, rfl⟩, ⟨v_p7, q_p7, rfl⟩, ⟨v_p8, q_p8, rfl⟩, q_k, ⟨v_e1, q_e1, rfl⟩, ⟨v_e2, q_e2, rfl⟩, ⟨v_e3, q_e3, rfl⟩, trivial⟩, ⟨cn_lt l_p1, cn_lt l_p2, cn_lt l_p3, cn_lt l_p4, cn_lt l_p5, cn_lt l_p6, cn_lt l_p7, cn_lt l_p8, cn_lt l_e1, cn_lt l_e2, cn_lt l_e3⟩⟩
  obtain ⟨d, h1, h2⟩ := key _ rfl
  refine ⟨d, ?_, h2⟩
  cases v <;> first
    | exact ⟨_, rfl, h1⟩
    | (simp [Value.cells] at hl)
noncomputable def zero : Value := .agg #[.float .f32 0, .float .f32 0, .float .f32 0, .float .f32 0, .float .f32 0, .float .f32 0, .float .f32 0, .float .f32 0, .int .i64 0, .float .f32 0, .float .f32 0, .float .f32 0]
theorem lifted (os : Os) (started : os.Started) (H : Type) (enc : TypeId × Value → H) :
    ReturnsInHanded {} Tryd.checked os 3 .any (fun w args => (Rows.fnExactDriveTextSpec.pre enc Tryd.prog Tryd.f3 Rows.fnExactDriveTextRow.domain false w args ∧ laidMetH Tryd.prog laid3 w) ∧ sizedMet enc Tryd.prog Tryd.f3 (OpenSpec.ofChange Rows.fnExactDriveTextSpec) false w args)
      (Rows.fnExactDriveTextSpec.post enc Tryd.prog Tryd.f3 false true false false) := by
  refine returnsInHanded_of_change_and (C := Tryd.checked) (X := fun w _ => laidMetH Tryd.prog laid3 w) (fun _ _ _ hh h => h.of_heap hh) own started (by kernel_rfl) Tryd.func3
    (ChangeSpec.witness_shaped (enc := enc) (C := Tryd.checked) (os := os) (X := fun w _ => laidMetH Tryd.prog laid3 w) false (World.doorLaid Tryd.prog 400 os) #[zero] 8 rfl (World.shaped_of_RefB (by kernel_rfl) (by kernel_rfl)) (by kernel_rfl) (by kernel_rfl) (by kernel_rfl) (door_met os _)) ?_
  intro W base args ds gs before hval0 hW _ _ hL _
  have hW' := hW
  obtain ⟨p, q, hA0, hV, rfl, hfz, hnd⟩ := hW
  have hA : DataW.TrodAll enc Tryd.prog W 0 (fun _ => true) true Tryd.f3.params.toList args.toList ds p := hA0
  rw [Tryd.params3] at hA
  obtain ⟨v0, d0, rfl, rfl, h0⟩ := trodAll_one hA
  obtain ⟨rfl, rfl⟩ := trodVars_none hV
  simp only [List.append_nil] at hW'
  obtain ⟨n0, e0⟩ := h0
  obtain ⟨d, rd, wd⟩ := arg_of e0
  refine ((lawDT d wd).ok.run (full W) W #[v0] (of_laid hL) ⟨rd, trivial⟩ (full_mem W)).mono fun ex W' hex => ?_
  obtain ⟨x, r, g', own', rfl, hrd, hmem, hext, hle, rfl, rfl⟩ := hex
  obtain rfl : x = .bool true := hrd
  have hb := below hext
  have hlt : ∀ y ∈ p, y.block < W.heap.size := fun y hy => hW'.lt y hy
  refine ⟨_, rfl, post_kept (pa := p) (pv := []) hW' (fun _ _ _ => trodAll_mk1 (shut_bool Tryd.underlying4 _)) (fun sp hsp => ?_) (fun _ _ => rfl) (by simp) hb (ok_one (by kernel_rfl) rfl (okWide_bool_mk Tryd.underlying4 _))⟩
  · rw [Tryd.params3]
    exact trodAll_mk1 (WideElems.Trod_stays laidOut (by kernel_rfl) ltX ⟨n0, e0⟩ (fun x hx => hb.same (hlt x hx)) fun x hx => hsp x hx)
theorem row_holds : Rows.FnExactDriveTextSaid :=
  OpenClaim.holds_of_wide 3 Tryd.f3 rfl rfl rfl rfl rfl rfl rfl ⟨rfl, rfl, rfl, rfl, rfl⟩ rfl rfl rfl rfl rfl (by kernel_rfl) Tryd.func3 (by kernel_rfl)
    (of_decide_eq_true (by kernel_rfl)) (by unfold Func.isWrapper; first | (rw [if_pos (by decide +kernel)]; kernel_rfl) | (rw [if_neg (by decide +kernel)]; exact ⟨rfl, rfl⟩))
    (fun os started H enc _ => lifted os started H enc)
theorem proved : Rows.FnExactDriveTextCardSaid :=
  Claim7.holds_tied_plain_at .later [] [.data, .data, .data] true Rows.fnExactDriveTextCard.stood.harness false
    row_holds (fun _ h => by cases h) (by kernel_rfl) (fun _ h => by cases h) fnExactDriveText_row_tie rfl ⟨rfl, rfl⟩ (by kernel_rfl) rfl
    (fun f fn hf hfn => by
      obtain rfl : f = 3 := Option.some.inj ((show Tryd.prog.funcNamed "loop.example/g01256/laws.FnExactDriveText" = some 3 by kernel_rfl).symm.trans hf) |>.symm
      obtain rfl : fn = Tryd.f3 := (Option.some.inj (Tryd.func3.symm.trans hfn)).symm
      exact ⟨by kernel_rfl, fun j t ht => by
        rw [Tryd.params3] at ht
        have hm : t ∈ [26] := by simpa using Array.mem_of_getElem? ht
        have hall : ([26].all fun u => !Tryd.prog.wantsStandIn u) = true := by kernel_rfl
        exact (show Tryd.prog.wantsStandIn t = false by simpa using List.all_eq_true.1 hall t hm)⟩)
    (by kernel_rfl)
end Go.Proofs.YtnkefikpejjjcaaDoor.DriveText
