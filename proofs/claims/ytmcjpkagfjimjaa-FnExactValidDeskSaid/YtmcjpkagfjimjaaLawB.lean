/-
  The reading of a desk as abstract cells. Own work.
-/
import Derived.Test.YtmcjpkagfjimjaaLawA
import Derived.Test.YtmcjpkagfjimjaaEnLb
import Derived.ProofKit
set_option linter.unusedVariables false
set_option linter.unusedSimpArgs false
set_option maxRecDepth 100000
namespace Go.En
open Go.Proofs Go.ChangeShapes Go.WideShapes Go.ChangeAt Go.RowKit
theorem leaves38 : leaves Ytmcjpkagfjimjaa.Env.E 4 38 = [(0, 22), (1, 22), (2, 22), (3, 25), (4, 2), (5, 26), (6, 26), (7, 26), (8, 26), (9, 26), (10, 26), (11, 26), (12, 26), (13, 26), (14, 26), (15, 26), (16, 26), (17, 26), (18, 26), (19, 2), (20, 26), (21, 26), (22, 26), (23, 22), (24, 22), (25, 26), (26, 26), (27, 26)] := by kernel_rfl
theorem cells26 : Try.prog.cellsOf 26 = 1 := by kernel_rfl
theorem cells38 : Try.prog.cellsOf 38 = 28 := by kernel_rfl
theorem cells145 : Try.prog.cellsOf 145 = 3 := by kernel_rfl
section
variable {H : Type} {enc : TypeId × Value → H} {W : World} {base : Nat} {sp : Nat → Bool} {held : Bool} {fuel : Nat} {cs : List Value} {x : DataW H × List MemPlace}
theorem three145 : ∀ (n : Nat) (us : List Value) y, DataW.trod enc Try.prog W base sp held n 145 us = some y → ∃ a b c, us = [.float .f32 a, .float .f32 b, .float .f32 c] ∧ a < 4294967296 ∧ b < 4294967296 ∧ c < 4294967296 :=
  fun n us y h => op_three Try.underlying145 rfl rfl rfl cells145 ⟨rfl, rfl, rfl⟩ ⟨Try.underlying26, Try.underlying26, Try.underlying26⟩ ⟨cells26, cells26, cells26⟩ h
theorem deskRead (h : DataW.trod enc Try.prog W base sp held fuel 38 cs = some x) : ∃ d : Dsk, RdL (full W) (deskC d) cs ∧ d.Wf := by
  have hl := op_len Try.underlying38 h
  rw [cells38] at hl
  obtain ⟨u_a, v_a, q_a, r_a, b_a, l_a⟩ := leaf_sl32 Ytmcjpkagfjimjaa.Env.ok h (n := 4) (i := 0) (by rw [leaves38]; decide) Try.underlying22 Try.underlying26 cells26
  obtain ⟨u_b, v_b, q_b, r_b, b_b, l_b⟩ := leaf_sl32 Ytmcjpkagfjimjaa.Env.ok h (n := 4) (i := 1) (by rw [leaves38]; decide) Try.underlying22 Try.underlying26 cells26
  obtain ⟨u_c, v_c, q_c, r_c, b_c, l_c⟩ := leaf_sl32 Ytmcjpkagfjimjaa.Env.ok h (n := 4) (i := 2) (by rw [leaves38]; decide) Try.underlying22 Try.underlying26 cells26
  obtain ⟨m_s, y_s, us_s, e_s, g_s⟩ := op_leaves Ytmcjpkagfjimjaa.Env.ok 4 fuel 38 cs x h (3, 25) (by rw [leaves38]; decide)
  obtain ⟨u_s, v_s, w_s, r_s, b_s, l_s⟩ := op_sl3 Try.underlying25 cells145 three145 e_s
  subst w_s
  have q_s := g_s 0 u_s rfl
  obtain ⟨v_n, q_n⟩ := leaf_i64 Ytmcjpkagfjimjaa.Env.ok h (n := 4) (i := 4) (by rw [leaves38]; decide) Try.underlying2
  obtain ⟨v_h, q_h, l_h⟩ := leaf_f32 Ytmcjpkagfjimjaa.Env.ok h (n := 4) (i := 5) (by rw [leaves38]; decide) Try.underlying26
  obtain ⟨v_t, q_t, l_t⟩ := leaf_f32 Ytmcjpkagfjimjaa.Env.ok h (n := 4) (i := 6) (by rw [leaves38]; decide) Try.underlying26
  obtain ⟨v_d1, q_d1, l_d1⟩ := leaf_f32 Ytmcjpkagfjimjaa.Env.ok h (n := 4) (i := 7) (by rw [leaves38]; decide) Try.underlying26
  obtain ⟨v_d2, q_d2, l_d2⟩ := leaf_f32 Ytmcjpkagfjimjaa.Env.ok h (n := 4) (i := 8) (by rw [leaves38]; decide) Try.underlying26
  obtain ⟨v_d3, q_d3, l_d3⟩ := leaf_f32 Ytmcjpkagfjimjaa.Env.ok h (n := 4) (i := 9) (by rw [leaves38]; decide) Try.underlying26
  obtain ⟨v_d4, q_d4, l_d4⟩ := leaf_f32 Ytmcjpkagfjimjaa.Env.ok h (n := 4) (i := 10) (by rw [leaves38]; decide) Try.underlying26
  obtain ⟨v_p1, q_p1, l_p1⟩ := leaf_f32 Ytmcjpkagfjimjaa.Env.ok h (n := 4) (i := 11) (by rw [leaves38]; decide) Try.underlying26
  obtain ⟨v_p2, q_p2, l_p2⟩ := leaf_f32 Ytmcjpkagfjimjaa.Env.ok h (n := 4) (i := 12) (by rw [leaves38]; decide) Try.underlying26
  obtain ⟨v_p3, q_p3, l_p3⟩ := leaf_f32 Ytmcjpkagfjimjaa.Env.ok h (n := 4) (i := 13) (by rw [leaves38]; decide) Try.underlying26
  obtain ⟨v_p4, q_p4, l_p4⟩ := leaf_f32 Ytmcjpkagfjimjaa.Env.ok h (n := 4) (i := 14) (by rw [leaves38]; decide) Try.underlying26
  obtain ⟨v_p5, q_p5, l_p5⟩ := leaf_f32 Ytmcjpkagfjimjaa.Env.ok h (n := 4) (i := 15) (by rw [leaves38]; decide) Try.underlying26
  obtain ⟨v_p6, q_p6, l_p6⟩ := leaf_f32 Ytmcjpkagfjimjaa.Env.ok h (n := 4) (i := 16) (by rw [leaves38]; decide) Try.underlying26
  obtain ⟨v_p7, q_p7, l_p7⟩ := leaf_f32 Ytmcjpkagfjimjaa.Env.ok h (n := 4) (i := 17) (by rw [leaves38]; decide) Try.underlying26
  obtain ⟨v_p8, q_p8, l_p8⟩ := leaf_f32 Ytmcjpkagfjimjaa.Env.ok h (n := 4) (i := 18) (by rw [leaves38]; decide) Try.underlying26
  obtain ⟨v_k, q_k⟩ := leaf_i64 Ytmcjpkagfjimjaa.Env.ok h (n := 4) (i := 19) (by rw [leaves38]; decide) Try.underlying2
  obtain ⟨v_e1, q_e1, l_e1⟩ := leaf_f32 Ytmcjpkagfjimjaa.Env.ok h (n := 4) (i := 20) (by rw [leaves38]; decide) Try.underlying26
  obtain ⟨v_e2, q_e2, l_e2⟩ := leaf_f32 Ytmcjpkagfjimjaa.Env.ok h (n := 4) (i := 21) (by rw [leaves38]; decide) Try.underlying26
  obtain ⟨v_e3, q_e3, l_e3⟩ := leaf_f32 Ytmcjpkagfjimjaa.Env.ok h (n := 4) (i := 22) (by rw [leaves38]; decide) Try.underlying26
  obtain ⟨u_x, v_x, q_x, r_x, b_x, l_x⟩ := leaf_sl32 Ytmcjpkagfjimjaa.Env.ok h (n := 4) (i := 23) (by rw [leaves38]; decide) Try.underlying22 Try.underlying26 cells26
  obtain ⟨u_y, v_y, q_y, r_y, b_y, l_y⟩ := leaf_sl32 Ytmcjpkagfjimjaa.Env.ok h (n := 4) (i := 24) (by rw [leaves38]; decide) Try.underlying22 Try.underlying26 cells26
  obtain ⟨v_f1, q_f1, l_f1⟩ := leaf_f32 Ytmcjpkagfjimjaa.Env.ok h (n := 4) (i := 25) (by rw [leaves38]; decide) Try.underlying26
  obtain ⟨v_f2, q_f2, l_f2⟩ := leaf_f32 Ytmcjpkagfjimjaa.Env.ok h (n := 4) (i := 26) (by rw [leaves38]; decide) Try.underlying26
  obtain ⟨v_f3, q_f3, l_f3⟩ := leaf_f32 Ytmcjpkagfjimjaa.Env.ok h (n := 4) (i := 27) (by rw [leaves38]; decide) Try.underlying26
  match cs, hl with
  | [c0, c1, c2, c3, c4, c5, c6, c7, c8, c9, c10, c11, c12, c13, c14, c15, c16, c17, c18, c19, c20, c21, c22, c23, c24, c25, c26, c27], _ =>
    simp at q_a q_b q_c q_s q_n q_h q_t q_d1 q_d2 q_d3 q_d4 q_p1 q_p2 q_p3 q_p4 q_p5 q_p6 q_p7 q_p8 q_k q_e1 q_e2 q_e3 q_x q_y q_f1 q_f2 q_f3
    refine ⟨⟨v_a, v_b, v_c, v_s, v_n, cn .f32 v_h, cn .f32 v_t, cn .f32 v_d1, cn .f32 v_d2, cn .f32 v_d3, cn .f32 v_d4, cn .f32 v_p1, cn .f32 v_p2, cn .f32 v_p3, cn .f32 v_p4, cn .f32 v_p5, cn .f32 v_p6, cn .f32 v_p7, cn .f32 v_p8, v_k, cn .f32 v_e1, cn .f32 v_e2, cn .f32 v_e3, v_x, v_y, cn .f32 v_f1, cn .f32 v_f2, cn .f32 v_f3⟩, ?_, ?_⟩
    · exact ⟨q_a ▸ r_a, q_b ▸ r_b, q_c ▸ r_c, q_s ▸ r_s, q_n, ⟨v_h, q_h, rfl⟩, ⟨v_t, q_t, rfl⟩, ⟨v_d1, q_d1, rfl⟩, ⟨v_d2, q_d2, rfl⟩, ⟨v_d3, q_d3, rfl⟩, ⟨v_d4, q_d4, rfl⟩, ⟨v_p1, q_p1, rfl⟩, ⟨v_p2, q_p2, rfl⟩, ⟨v_p3, q_p3, rfl⟩, ⟨v_p4, q_p4, rfl⟩, ⟨v_p5, q_p5, rfl⟩, ⟨v_p6, q_p6, rfl⟩, ⟨v_p7, q_p7, rfl⟩, ⟨v_p8, q_p8, rfl⟩, q_k, ⟨v_e1, q_e1, rfl⟩, ⟨v_e2, q_e2, rfl⟩, ⟨v_e3, q_e3, rfl⟩, q_x ▸ r_x, q_y ▸ r_y, ⟨v_f1, q_f1, rfl⟩, ⟨v_f2, q_f2, rfl⟩, ⟨v_f3, q_f3, rfl⟩, trivial⟩
    · exact ⟨b_a, b_b, b_c, b_s, b_x, b_y, l_a, l_b, l_c, l_s, l_x, l_y, cn_lt l_h, cn_lt l_t, cn_lt l_d1, cn_lt l_d2, cn_lt l_d3, cn_lt l_d4, cn_lt l_p1, cn_lt l_p2, cn_lt l_p3, cn_lt l_p4, cn_lt l_p5, cn_lt l_p6, cn_lt l_p7, cn_lt l_p8, cn_lt l_e1, cn_lt l_e2, cn_lt l_e3, cn_lt l_f1, cn_lt l_f2, cn_lt l_f3⟩
end
end Go.En
