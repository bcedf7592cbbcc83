/-
  FnExactProfileText: the row and the tied card. Own work.
-/
import Derived.Test.YtnkefikpejjjcaaDoorLawPT
import Derived.Test.YtnkefikpejjjcaaDoorEnLc
import Derived.Test.YtnkefikpejjjcaaDoorEnLb
import Derived.Test.YtnkefikpejjjcaaDoorRows
import Derived.Test.YtnkefikpejjjcaaDoorTie
import Derived.Test.YtnkefikpejjjcaaDoorCards
import Derived.Lib.LaidTab
import Derived.ProofKit
import Derived.LaidMore
import Derived.OpenShut
import Derived.Stop.Joined
set_option linter.unusedVariables false
set_option linter.unusedSimpArgs false
set_option maxRecDepth 100000
namespace Go.Proofs.YtnkefikpejjjcaaDoor.Lift
open Go.En Go.Proofs Go.ChangeShapes Go.WideShapes Go.ChangeAt Go.RowKit
theorem own : ownKnob Tryd.prog.godebug = none := by kernel_rfl
theorem laidOut : laidOutB Tryd.prog = true := by kernel_rfl
theorem slices : ∀ t e, t < Tryd.prog.types.size → Tryd.prog.underlying t = some (.slice e) → 0 < Tryd.prog.cellsOf e := slices_full_of Tryd.prog (by kernel_rfl)
theorem kids : Kids Tryd.prog (· < Tryd.prog.types.size) := kids_rows laidOut (by kernel_rfl)
theorem RdArr_of_tab {P : Program} {W : World} {name : String} {zs : List Int} {g : Nat} (h : Lib.TabIs P W name .u8 zs) (hg : P.globalNamed name = some g) : RdArr (full W).ws (.u8 zs) g 0 := by
  intro i hi j hj
  have hj : j = 0 := by have : j < 1 := hj; omega
  subst hj
  have hc := h.cell hg i hi
  refine ⟨.int .u8 (zs.getD i 0), ?_, rfl⟩
  show (match W.heap[g]? with | some (.cells c _ _) => c[0 + (i * 1 + 0)]? | _ => none) = _
  unfold World.cell? at hc
  cases hb : W.heap[g]? with
  | none => rw [hb] at hc; cases hc
  | some o =>
    rw [hb] at hc
    cases o with
    | cells c e fr =>
      simp at hc ⊢
      exact hc
    | _ => cases hc
theorem g2 : Tryd.prog.globalNamed "math/bits.deBruijn32tab" = some 2 := by kernel_rfl
theorem g3 : Tryd.prog.globalNamed "math/bits.deBruijn64tab" = some 3 := by kernel_rfl
theorem t2 : (Tryd.prog.globals[2]?).map (·.type) = some 158 := by kernel_rfl
theorem t3 : (Tryd.prog.globals[3]?).map (·.type) = some 159 := by kernel_rfl
abbrev laid3 : List (String × DataW Unit) := [("math/bits.deBruijn32tab", Rows.laid_math_bits_deBruijn32tab), ("math/bits.deBruijn64tab", Rows.laid_math_bits_deBruijn64tab), ("internal/strconv.uint64pow10", Rows.laid_internal_strconv_uint64pow10)]
theorem of_laid {W : World} (h : laidMetH Tryd.prog laid3 W) : GOK YtnkefikpejjjcaaDoor.Env.pg.G (full W) := by
  rw [MakeChecks.laidMetH_plain _ _ _ (by kernel_rfl)] at h
  obtain ⟨ps, ⟨g0, t0, cs0, f0, p0, q0, hg0, ht0, hv0, hd0, ⟨g1, t1, cs1, f1, p1, q1, hg1, ht1, hv1, hd1, _, _⟩, _⟩, _, _⟩ := h
  obtain rfl := Option.some.inj (g2.symm.trans hg0)
  obtain rfl := Option.some.inj (g3.symm.trans hg1)
  obtain rfl := Option.some.inj (t2.symm.trans ht0)
  obtain rfl := Option.some.inj (t3.symm.trans ht1)
  have c2 : Tryd.prog.cellsOf 158 = 32 := by kernel_rfl
  have c3 : Tryd.prog.cellsOf 159 = 64 := by kernel_rfl
  have c1 : Tryd.prog.cellsOf 5 = 1 := by kernel_rfl
  intro i c hc
  have hc : YtnkefikpejjjcaaDoor.Env.look YtnkefikpejjjcaaDoor.Env.gtab i = some c := hc
  have hm := YtnkefikpejjjcaaDoor.Env.look_mem hc
  simp only [YtnkefikpejjjcaaDoor.Env.gtab, List.mem_cons, List.not_mem_nil, or_false, Prod.mk.injEq] at hm
  rcases hm with ⟨rfl, rfl⟩ | ⟨rfl, rfl⟩
  · refine RdArr_of_tab (P := Tryd.prog) (name := "math/bits.deBruijn32tab") ?_ g2
    unfold Lib.TabIs
    rw [hv0, ← Lib.cells_of_tab Tryd.underlying158 Tryd.underlying5 c1 c2 (k := .u8) hd0]
  · refine RdArr_of_tab (P := Tryd.prog) (name := "math/bits.deBruijn64tab") ?_ g3
    unfold Lib.TabIs
    rw [hv1, ← Lib.cells_of_tab Tryd.underlying159 Tryd.underlying5 c1 c3 (k := .u8) hd1]
theorem door_met (os : Os) (args : Array Value) : laidMetH Tryd.prog laid3 ((World.doorLaid Tryd.prog 400 os).forCall (fun _ _ => 0) ⟨#[], args, []⟩).memory :=
  laidMetH_of_parts3 (fuel := 8) (laidMet_of_run' 8 (by kernel_rfl) (by kernel_rfl)) (by kernel_rfl) (by kernel_rfl)
theorem ltP : 36 < Tryd.prog.types.size := of_decide_eq_true (by kernel_rfl)
theorem leavesP : leaves YtnkefikpejjjcaaDoor.Env.E 4 36 = [(0, 34), (1, 34), (2, 34)] := by kernel_rfl
theorem cellsP : Tryd.prog.cellsOf 36 = 3 := by kernel_rfl
theorem cellsF : Tryd.prog.cellsOf 22 = 1 := by kernel_rfl
theorem prof_of {v : Value} {H : Type} {enc : TypeId × Value → H} {W : World} {sp : Nat → Bool} {held : Bool} {fuel : Nat} {x : DataW H × List MemPlace} (h : DataW.trod enc Tryd.prog W 0 sp held fuel 36 v.cells.toList = some x) : ∃ a b c, Rd (full W) (.agg [SLf a, SLf b, SLf c]) v ∧ PWf a b c := by
  have hl := op_len Tryd.underlying36 h
  rw [cellsP] at hl
  obtain ⟨u_a, v_a, q_a, r_a, b_a, l_a⟩ := leaf_sl32 YtnkefikpejjjcaaDoor.Env.ok0 h (n := 4) (i := 0) (by rw [leavesP]; decide) Tryd.underlying34 Tryd.underlying22 cellsF
  obtain ⟨u_b, v_b, q_b, r_b, b_b, l_b⟩ := leaf_sl32 YtnkefikpejjjcaaDoor.Env.ok0 h (n := 4) (i := 1) (by rw [leavesP]; decide) Tryd.underlying34 Tryd.underlying22 cellsF
  obtain ⟨u_c, v_c, q_c, r_c, b_c, l_c⟩ := leaf_sl32 YtnkefikpejjjcaaDoor.Env.ok0 h (n := 4) (i := 2) (by rw [leavesP]; decide) Tryd.underlying34 Tryd.underlying22 cellsF
  have key : ∀ cs : List Value, v.cells.toList = cs → ∃ a b c, RdL (full W) [SLf a, SLf b, SLf c] cs ∧ PWf a b c := by
    intro cs hcs
    rw [hcs] at q_a q_b q_c hl
    match cs, hl with
    | [c0, c1, c2], _ =>
      simp at q_a q_b q_c
      exact ⟨v_a, v_b, v_c, ⟨q_a ▸ r_a, q_b ▸ r_b, q_c ▸ r_c, trivial⟩, ⟨b_a, b_b, b_c, l_a, l_b, l_c⟩⟩
  obtain ⟨a, b, c, h1, h2⟩ := key _ rfl
  refine ⟨a, b, c, ?_, h2⟩
  cases v <;> first
    | exact ⟨_, rfl, h1⟩
    | (simp [Value.cells] at hl)
noncomputable def profZero : Value := .agg #[.slice none 0 0, .slice none 0 0, .slice none 0 0]
theorem lifted (os : Os) (started : os.Started) (H : Type) (enc : TypeId × Value → H) :
    ReturnsInHanded {} Tryd.checked os 4 .any (fun w args => (Rows.fnExactProfileTextSpec.pre enc Tryd.prog Tryd.f4 Rows.fnExactProfileTextRow.domain false w args ∧ laidMetH Tryd.prog laid3 w) ∧ sizedMet enc Tryd.prog Tryd.f4 (OpenSpec.ofChange Rows.fnExactProfileTextSpec) false w args)
      (Rows.fnExactProfileTextSpec.post enc Tryd.prog Tryd.f4 false true false false) := by
  refine returnsInHanded_of_change_and (C := Tryd.checked) (X := fun w _ => laidMetH Tryd.prog laid3 w) (fun _ _ _ hh h => h.of_heap hh) own started (by kernel_rfl) Tryd.func4
    (ChangeSpec.witness_shaped (enc := enc) (C := Tryd.checked) (os := os) (X := fun w _ => laidMetH Tryd.prog laid3 w) false (World.doorLaid Tryd.prog 400 os) #[profZero] 8 rfl (World.shaped_of_RefB (by kernel_rfl) (by kernel_rfl)) (by kernel_rfl) (by kernel_rfl) (by kernel_rfl) (door_met os _)) ?_
  intro W base args ds gs before hval0 hW _ _ hL _
  have hW' := hW
  obtain ⟨p, q, hA0, hV, rfl, hfz, hnd⟩ := hW
  have hA : DataW.TrodAll enc Tryd.prog W 0 (fun _ => true) true Tryd.f4.params.toList args.toList ds p := hA0
  rw [Tryd.params4] at hA
  obtain ⟨v0, d0, rfl, rfl, h0⟩ := trodAll_one hA
  obtain ⟨rfl, rfl⟩ := trodVars_none hV
  simp only [List.append_nil] at hW'
  obtain ⟨n0, e0⟩ := h0
  obtain ⟨a, b, c, rd, wd⟩ := prof_of e0
  refine ((lawPT a b c wd).ok.run (full W) W #[v0] (of_laid hL) ⟨rd, trivial⟩ (full_mem W)).mono fun ex W' hex => ?_
  obtain ⟨x, r, g', own', rfl, hrd, hmem, hext, hle, rfl, rfl⟩ := hex
  obtain rfl : x = .bool true := hrd
  have hb := below hext
  have hlt : ∀ y ∈ p, y.block < W.heap.size := fun y hy => hW'.lt y hy
  refine ⟨_, rfl, post_kept (pa := p) (pv := []) hW' (fun _ _ _ => trodAll_mk1 (shut_bool Tryd.underlying4 _)) (fun sp hsp => ?_) (fun _ _ => rfl) (by simp) hb (ok_one (by kernel_rfl) rfl (okWide_bool_mk Tryd.underlying4 _))⟩
  · rw [Tryd.params4]
    exact trodAll_mk1 (WideElems.Trod_stays laidOut (by kernel_rfl) ltP ⟨n0, e0⟩ (fun x hx => hb.same (hlt x hx)) fun x hx => hsp x hx)
theorem row_holds : Rows.FnExactProfileTextSaid :=
  OpenClaim.holds_of_wide 4 Tryd.f4 rfl rfl rfl rfl rfl rfl rfl ⟨rfl, rfl, rfl, rfl, rfl⟩ rfl rfl rfl rfl rfl (by kernel_rfl) Tryd.func4 (by kernel_rfl)
    (of_decide_eq_true (by kernel_rfl)) (by unfold Func.isWrapper; first | (rw [if_pos (by decide +kernel)]; kernel_rfl) | (rw [if_neg (by decide +kernel)]; exact ⟨rfl, rfl⟩))
    (fun os started H enc _ => lifted os started H enc)
end Go.Proofs.YtnkefikpejjjcaaDoor.Lift
