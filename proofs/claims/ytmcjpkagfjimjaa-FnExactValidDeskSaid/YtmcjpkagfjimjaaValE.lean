/-
  The contracts of the functions that say whether a farm is valid. Own work.
-/
import Derived.Test.YtmcjpkagfjimjaaValC
set_option linter.unusedVariables false
set_option linter.unusedSimpArgs false
set_option maxRecDepth 100000
namespace Go.En
open Go.Proofs

def near (x : Nat) : Bool := ft x 3351465984 1203982336
def okF (x y : List Nat) (f1 f2 f3 : Nat) : Bool := decide (1 ≤ x.length) && (decide (x.length ≤ 12) && (decide (y.length = x.length) && (pos f1 && (pos f3 && (!fgt .f32 f1 1148846080 && (ft f2 0 1056964608 && (allN near x && allN near y)))))))
theorem okF_iff {x y : List Nat} {f1 f2 f3 : Nat} : okF x y f1 f2 f3 = true ↔ 1 ≤ x.length ∧ x.length ≤ 12 ∧ y.length = x.length ∧ pos f1 = true ∧ pos f3 = true ∧ fgt .f32 f1 1148846080 = false ∧ ft f2 0 1056964608 = true ∧ ∀ i, i < x.length → near (x.getD i 0) = true ∧ near (y.getD i 0) = true := by
  unfold okF allN
  simp only [Bool.and_eq_true, decide_eq_true_eq, allI_iff, Bool.not_eq_true']
  constructor
  · rintro ⟨h1, h2, h3, h4, h5, h6, h7, h8, h9⟩
    exact ⟨h1, h2, h3, h4, h5, h6, h7, fun i hi => ⟨h8 i hi, h9 i (by omega)⟩⟩
  · rintro ⟨h1, h2, h3, h4, h5, h6, h7, h8⟩
    exact ⟨h1, h2, h3, h4, h5, h6, h7, fun i hi => (h8 i hi).1, fun i hi => (h8 i (by omega)).2⟩
def farmC' (x y : List Nat) (f1 f2 f3 : Nat) : List V := [SLf x, SLf y, .flt .f32 f1, .flt .f32 f2, .flt .f32 f3]
theorem k_near (x : Nat) : Call Try.prog 120 [.flt .f32 x] (.bool (near x)) [] := c_spec_l06Near x
theorem c_spec_l06Is (x y : List Nat) (f1 f2 f3 : Nat) : Call Try.prog 77 [.sp (farmC' x y f1 f2 f3) 0] (.bool (okF x y f1 f2 f3)) [] := by
  have q_c_spec_l02Above := @c_spec_l02Above; have q_k_near := @k_near; generalize h_pos : @pos = g_pos at q_c_spec_l02Above q_k_near; generalize h_near : @near = g_near at q_c_spec_l02Above q_k_near
  refine Call.of_body Ytmcjpkagfjimjaa.Env.ok Try.func77 rfl rfl ?_; intro o P K ho hP hK; cbv
  repeat' (first | refine And.intro ?_ ?_ | (split; all_goals try cbv) | (refine useD hP Ytmcjpkagfjimjaa.Env.ok rfl ho (by kernel_rfl) ?_; try cbv) | (first | (refine useS hP (q_c_spec_l02Above _) rfl ?_; try cbv) | (refine useRS hP (q_c_spec_l02Above _) rfl ?_; try cbv) | (refine useL hP 3 (q_c_spec_l02Above _) rfl rfl rfl ?_; try cbv) | (refine useRL hP 3 (q_c_spec_l02Above _) rfl rfl rfl ?_; try cbv)))
  all_goals try (subst ho; refine hK.ret _ ⟨[], rfl, congrArg V.bool ?_, rfl⟩; symm; rw [Bool.eq_false_iff]; intro h; rw [okF_iff] at h; clear hK; subst h_pos h_near; unfold ft at h; simp only [std, natC, ofNat_toNat, Int.toNat_natCast, toNat_sub1, i64min, i64max, decide_eq_true_eq, decide_eq_false_iff_not, bne_iff_ne, bne_eq_false_iff_eq, beq_iff_eq, beq_eq_false_iff_ne, cnl_0, cnl_981668463, cnl_1008981770, cnl_1015021568, cnl_1048508891, cnl_1056964608, cnl_1065353216, cnl_1073741824, cnl_1078530011, cnl_1082130432, cnl_1086918619, cnl_1090519040, cnl_1092616192, cnl_1140850688, cnl_1148846080, cnl_1174011904, cnl_1182400512, cnl_1199570944, cnl_1203982336, cnl_2147483648, cnl_3204448256, cnl_3351465984] at *; first | (simp_all; done) | (simp_all; omega))
  have hq : 1 ≤ x.length ∧ x.length ≤ 12 ∧ y.length = x.length ∧ pos f1 = true ∧ pos f3 = true ∧ fgt .f32 f1 1148846080 = false ∧ ft f2 0 1056964608 = true := by
    subst ho h_pos
    clear hK
    unfold ft
    try simp only [std, natC, ofNat_toNat, Int.toNat_natCast, toNat_sub1, i64min, i64max, decide_eq_true_eq, decide_eq_false_iff_not, bne_iff_ne, bne_eq_false_iff_eq, beq_iff_eq, beq_eq_false_iff_ne, cnl_0, cnl_981668463, cnl_1008981770, cnl_1015021568, cnl_1048508891, cnl_1056964608, cnl_1065353216, cnl_1073741824, cnl_1078530011, cnl_1082130432, cnl_1086918619, cnl_1090519040, cnl_1092616192, cnl_1140850688, cnl_1148846080, cnl_1174011904, cnl_1182400512, cnl_1199570944, cnl_1203982336, cnl_2147483648, cnl_3204448256, cnl_3351465984] at *
    simp_all
    try omega
  obtain ⟨l1, l2, l3, l4, l5, l6, l7⟩ := hq
  refine useW hP Ytmcjpkagfjimjaa.Env.ok ho (fun z : {i : Nat // ∀ j, j < i → g_near (x.getD j 0) = true ∧ g_near (y.getD j 0) = true} => ⟨88, 0, [(0, .sp (farmC' x y f1 f2 f3) 0), (3, .int .i64 (o.len x)), (4, .int .i64 (Int.ofNat z.1))], []⟩) (fun z => x.length - z.1) ⟨0, fun j h => absurd h (Nat.not_lt_zero j)⟩ [] [0, 3, 4] rfl rfl (fun _ => rfl) (fun _ => rfl) ?_
  rintro ⟨i, hi⟩ K' hL
  cbv
  split
  · have hlt : i < x.length := by subst ho; exact ieqB ‹_›
    cbv
    repeat' (first | refine And.intro ?_ ?_ | (split; all_goals try cbv) | (refine useD hP Ytmcjpkagfjimjaa.Env.ok rfl ho (by kernel_rfl) ?_; try cbv) | (first | (refine useS hP (q_k_near _) rfl ?_; try cbv) | (refine useRS hP (q_k_near _) rfl ?_; try cbv) | (refine useL hP 3 (q_k_near _) rfl rfl rfl ?_; try cbv) | (refine useRL hP 3 (q_k_near _) rfl rfl rfl ?_; try cbv)))
    all_goals first
      | (subst ho; (try clear hL); (try clear hK); simp only [std, natC, ofNat_toNat, Int.toNat_natCast, toNat_sub1, i64min, i64max, decide_eq_true_eq, decide_eq_false_iff_not, bne_iff_ne, bne_eq_false_iff_eq, beq_iff_eq, beq_eq_false_iff_ne, cnl_0, cnl_981668463, cnl_1008981770, cnl_1015021568, cnl_1048508891, cnl_1056964608, cnl_1065353216, cnl_1073741824, cnl_1078530011, cnl_1082130432, cnl_1086918619, cnl_1090519040, cnl_1092616192, cnl_1140850688, cnl_1148846080, cnl_1174011904, cnl_1182400512, cnl_1199570944, cnl_1203982336, cnl_2147483648, cnl_3204448256, cnl_3351465984] at *; omega)
      | (refine hL.ret _ ?_; cbv; subst ho h_pos h_near; refine hK.ret _ ⟨[], rfl, congrArg V.bool ?_, rfl⟩; clear hL hK; symm; rw [Bool.eq_false_iff]; intro h; have h := (okF_iff.1 h).2.2.2.2.2.2.2 i hlt; simp only [std, natC, ofNat_toNat, Int.toNat_natCast, toNat_sub1, i64min, i64max, decide_eq_true_eq, decide_eq_false_iff_not, bne_iff_ne, bne_eq_false_iff_eq, beq_iff_eq, beq_eq_false_iff_ne, cnl_0, cnl_981668463, cnl_1008981770, cnl_1015021568, cnl_1048508891, cnl_1056964608, cnl_1065353216, cnl_1073741824, cnl_1078530011, cnl_1082130432, cnl_1086918619, cnl_1090519040, cnl_1092616192, cnl_1140850688, cnl_1148846080, cnl_1174011904, cnl_1182400512, cnl_1199570944, cnl_1203982336, cnl_2147483648, cnl_3204448256, cnl_3351465984] at *; simp_all; done)
      | (subst ho; refine hL.next _ ⟨⟨i + 1, nxt hi ?_⟩, [], [0, 3, 4], rfl, rfl, by show x.length - (i + 1) < x.length - i; omega⟩; clear hL hK; simp only [std, natC, ofNat_toNat, Int.toNat_natCast, toNat_sub1, i64min, i64max, decide_eq_true_eq, decide_eq_false_iff_not, bne_iff_ne, bne_eq_false_iff_eq, beq_iff_eq, beq_eq_false_iff_ne, cnl_0, cnl_981668463, cnl_1008981770, cnl_1015021568, cnl_1048508891, cnl_1056964608, cnl_1065353216, cnl_1073741824, cnl_1078530011, cnl_1082130432, cnl_1086918619, cnl_1090519040, cnl_1092616192, cnl_1140850688, cnl_1148846080, cnl_1174011904, cnl_1182400512, cnl_1199570944, cnl_1203982336, cnl_2147483648, cnl_3204448256, cnl_3351465984] at *; simp_all; try omega)
  · have hge : x.length ≤ i := by subst ho; exact igeB ‹_›
    cbv
    refine hL.out _ _ ?_
    cbv
    subst ho h_near
    refine hK.ret _ ⟨[], rfl, congrArg V.bool ?_, rfl⟩
    exact (okF_iff.2 ⟨l1, l2, l3, l4, l5, l6, l7, fun j hj => hi j (by omega)⟩).symm

end Go.En
