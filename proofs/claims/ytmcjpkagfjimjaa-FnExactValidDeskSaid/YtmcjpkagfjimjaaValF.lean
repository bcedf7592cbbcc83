/-
  The contracts of slices.Grow at nil and slices.Concat of two; a farm as the program sees it. Own work.
-/
import Derived.Test.YtmcjpkagfjimjaaValE
set_option linter.unusedVariables false
set_option linter.unusedSimpArgs false
set_option maxRecDepth 100000
namespace Go.En
open Go.Proofs

theorem c_Grow_nil (z : Int) (h0 : 0 < z) (hn : z ≤ 1099511627776) : Call Try.prog 125 [.nils .f32, .int .i64 z] (.own 0) [.row 26 (.f32 [])] := by
  refine Call.of_body Ytmcjpkagfjimjaa.Env.ok Try.func125 rfl rfl ?_; intro o P K ho hP hK; cbv
  repeat' (first | refine And.intro ?_ ?_ | (split; all_goals try cbv) | (refine useD hP Ytmcjpkagfjimjaa.Env.ok rfl ho (by kernel_rfl) ?_; try cbv))
  all_goals first
    | (subst ho; (try clear hL); (try clear hK); simp only [std, natC, ofNat_toNat, Int.toNat_natCast, toNat_sub1, i64min, i64max, List.length_nil, List.length_cons, List.length_append, List.length_replicate, List.length_take, List.length_drop, decide_eq_true_eq, decide_eq_false_iff_not, bne_iff_ne, bne_eq_false_iff_eq, beq_iff_eq, beq_eq_false_iff_ne, cnl_0, cnl_981668463, cnl_1008981770, cnl_1015021568, cnl_1048508891, cnl_1056964608, cnl_1065353216, cnl_1073741824, cnl_1078530011, cnl_1082130432, cnl_1086918619, cnl_1090519040, cnl_1092616192, cnl_1140850688, cnl_1148846080, cnl_1174011904, cnl_1182400512, cnl_1199570944, cnl_1203982336, cnl_2147483648, cnl_3204448256, cnl_3351465984] at *; omega)
    | (subst ho; exfalso; (try clear hL); (try clear hK); simp only [std, natC, ofNat_toNat, Int.toNat_natCast, toNat_sub1, i64min, i64max, List.length_nil, List.length_cons, List.length_append, List.length_replicate, List.length_take, List.length_drop, decide_eq_true_eq, decide_eq_false_iff_not, bne_iff_ne, bne_eq_false_iff_eq, beq_iff_eq, beq_eq_false_iff_ne, cnl_0, cnl_981668463, cnl_1008981770, cnl_1015021568, cnl_1048508891, cnl_1056964608, cnl_1065353216, cnl_1073741824, cnl_1078530011, cnl_1082130432, cnl_1086918619, cnl_1090519040, cnl_1092616192, cnl_1140850688, cnl_1148846080, cnl_1174011904, cnl_1182400512, cnl_1199570944, cnl_1203982336, cnl_2147483648, cnl_3204448256, cnl_3351465984] at *; first | omega | (simp_all; done) | (simp_all; omega))
    | (subst ho; refine hK.ret _ ⟨[1], rfl, rfl, ?_⟩; show [OB.row _ (Cont.f32 _)] = _; simp [std, natC, ofNat_toNat, Int.toNat_natCast, toNat_sub1, i64min, i64max, List.length_nil, List.length_cons, List.length_append, List.length_replicate, List.length_take, List.length_drop, decide_eq_true_eq, decide_eq_false_iff_not, bne_iff_ne, bne_eq_false_iff_eq, beq_iff_eq, beq_eq_false_iff_ne, cnl_0, cnl_981668463, cnl_1008981770, cnl_1015021568, cnl_1048508891, cnl_1056964608, cnl_1065353216, cnl_1073741824, cnl_1078530011, cnl_1082130432, cnl_1086918619, cnl_1090519040, cnl_1092616192, cnl_1140850688, cnl_1148846080, cnl_1174011904, cnl_1182400512, cnl_1199570944, cnl_1203982336, cnl_2147483648, cnl_3204448256, cnl_3351465984]; done)
def csz (x y : List Nat) : Nat → Int
  | 0 => 0
  | 1 => std.add 0 (std.len x)
  | _ => std.add (std.add 0 (std.len x)) (std.len y)
def cacc (x y : List Nat) : Nat → List Nat
  | 0 => []
  | 1 => std.app [] x
  | _ => std.app (std.app [] x) y
theorem c_Concat (x y : List Nat) (hx : x.length ≤ 1048576) (hy : y.length ≤ 1048576) (h0 : 0 < x.length) : Call Try.prog 87 [.sl (.ss [x, y]) false] (.own 0) [.row 26 (.f32 (x ++ y))] := by
  refine Call.of_body Ytmcjpkagfjimjaa.Env.ok Try.func87 rfl rfl ?_; intro o P K ho hP hK; cbv
  refine useW hP Ytmcjpkagfjimjaa.Env.ok ho (fun z : {k : Nat // k ≤ 2} => ⟨36, 0, [(0, .sl (.ss [x, y]) false), (3, .int .i64 (csz x y z.1)), (9, .sl (.ss [x, y]) false), (10, .int .i64 (o.len [x, y])), (11, .int .i64 (Int.ofNat z.1))], []⟩) (fun z => 2 - z.1) ⟨0, by omega⟩ [] [0, 3, 9, 10, 11] rfl rfl (fun _ => rfl) (fun _ => rfl) ?_
  rintro ⟨k, hk⟩ K' hL
  generalize hcz : csz x y k = cz at hL ⊢
  have hcz0 : 0 ≤ cz ∧ cz ≤ 2097152 := by
    subst hcz
    have : k = 0 ∨ k = 1 ∨ k = 2 := by omega
    rcases this with rfl | rfl | rfl <;> simp only [csz, std, natC, ofNat_toNat, Int.toNat_natCast, toNat_sub1, i64min, i64max, List.length_nil, List.length_cons, List.length_append, List.length_replicate, List.length_take, List.length_drop, decide_eq_true_eq, decide_eq_false_iff_not, bne_iff_ne, bne_eq_false_iff_eq, beq_iff_eq, beq_eq_false_iff_ne, cnl_0, cnl_981668463, cnl_1008981770, cnl_1015021568, cnl_1048508891, cnl_1056964608, cnl_1065353216, cnl_1073741824, cnl_1078530011, cnl_1082130432, cnl_1086918619, cnl_1090519040, cnl_1092616192, cnl_1140850688, cnl_1148846080, cnl_1174011904, cnl_1182400512, cnl_1199570944, cnl_1203982336, cnl_2147483648, cnl_3204448256, cnl_3351465984] <;> omega
  have hlen : ∀ k, (std.get [] [x, y] (Int.ofNat k)).length ≤ 1048576 := fun k => by
    match k with
    | 0 => exact hx
    | 1 => exact hy
    | k + 2 => exact Nat.zero_le _
  cbv
  split
  · have hlt : k < 2 := by subst ho; exact ieqB (n := 2) ‹_›
    cbv
    have hl2 := hlen k
    repeat' (first | refine And.intro ?_ ?_ | (split; all_goals try cbv) | (refine useD hP Ytmcjpkagfjimjaa.Env.ok rfl ho (by kernel_rfl) ?_; try cbv))
    all_goals first
      | (clear hcz; (subst ho; (try clear hL); (try clear hK); simp only [std, natC, ofNat_toNat, Int.toNat_natCast, toNat_sub1, i64min, i64max, List.length_nil, List.length_cons, List.length_append, List.length_replicate, List.length_take, List.length_drop, decide_eq_true_eq, decide_eq_false_iff_not, bne_iff_ne, bne_eq_false_iff_eq, beq_iff_eq, beq_eq_false_iff_ne, cnl_0, cnl_981668463, cnl_1008981770, cnl_1015021568, cnl_1048508891, cnl_1056964608, cnl_1065353216, cnl_1073741824, cnl_1078530011, cnl_1082130432, cnl_1086918619, cnl_1090519040, cnl_1092616192, cnl_1140850688, cnl_1148846080, cnl_1174011904, cnl_1182400512, cnl_1199570944, cnl_1203982336, cnl_2147483648, cnl_3204448256, cnl_3351465984] at *; omega))
      | (clear hcz; (subst ho; exfalso; (try clear hL); (try clear hK); simp only [std, natC, ofNat_toNat, Int.toNat_natCast, toNat_sub1, i64min, i64max, List.length_nil, List.length_cons, List.length_append, List.length_replicate, List.length_take, List.length_drop, decide_eq_true_eq, decide_eq_false_iff_not, bne_iff_ne, bne_eq_false_iff_eq, beq_iff_eq, beq_eq_false_iff_ne, cnl_0, cnl_981668463, cnl_1008981770, cnl_1015021568, cnl_1048508891, cnl_1056964608, cnl_1065353216, cnl_1073741824, cnl_1078530011, cnl_1082130432, cnl_1086918619, cnl_1090519040, cnl_1092616192, cnl_1140850688, cnl_1148846080, cnl_1174011904, cnl_1182400512, cnl_1199570944, cnl_1203982336, cnl_2147483648, cnl_3204448256, cnl_3351465984] at *; first | omega | (simp_all; done) | (simp_all; omega)))
      | (subst ho; subst hcz; have : k = 0 ∨ k = 1 := by omega
         rcases this with rfl | rfl
         · exact hL.next _ ⟨⟨1, by omega⟩, [], [0, 3, 9, 10, 11], rfl, rfl, by show 2 - 1 < 2 - 0; omega⟩
         · exact hL.next _ ⟨⟨2, by omega⟩, [], [0, 3, 9, 10, 11], rfl, rfl, by show 2 - 2 < 2 - 1; omega⟩)
  · have hge : 2 ≤ k := by subst ho; exact igeB (n := 2) ‹_›
    have hk2 : k = 2 := by omega
    cbv
    refine hL.out _ _ ?_
    clear hL
    cbv
    have hz : cz = (x.length : Int) + y.length := by subst hcz hk2; simp only [csz, std, natC, ofNat_toNat, Int.toNat_natCast, toNat_sub1, i64min, i64max, List.length_nil, List.length_cons, List.length_append, List.length_replicate, List.length_take, List.length_drop, decide_eq_true_eq, decide_eq_false_iff_not, bne_iff_ne, bne_eq_false_iff_eq, beq_iff_eq, beq_eq_false_iff_ne, cnl_0, cnl_981668463, cnl_1008981770, cnl_1015021568, cnl_1048508891, cnl_1056964608, cnl_1065353216, cnl_1073741824, cnl_1078530011, cnl_1082130432, cnl_1086918619, cnl_1090519040, cnl_1092616192, cnl_1140850688, cnl_1148846080, cnl_1174011904, cnl_1182400512, cnl_1199570944, cnl_1203982336, cnl_2147483648, cnl_3204448256, cnl_3351465984]; omega
    refine useS hP (c_Grow_nil cz (by omega) (by omega)) rfl ?_
    cbv
    refine useW hP Ytmcjpkagfjimjaa.Env.ok ho (fun z : {k : Nat // k ≤ 2} => ⟨36, 0, [(6, .own 0), (25, .sl (.ss [x, y]) false), (26, .int .i64 (o.len [x, y])), (27, .int .i64 (Int.ofNat z.1))], [.row 26 (.f32 (cacc x y z.1))]⟩) (fun z => 2 - z.1) ⟨0, by omega⟩ [0] [6, 25, 26, 27] rfl rfl (fun _ => rfl) (fun _ => rfl) ?_
    rintro ⟨j, hj⟩ K2 hL
    generalize hca : cacc x y j = ca at hL ⊢
    have hcl : ca.length ≤ 2097152 := by
      subst hca
      have : j = 0 ∨ j = 1 ∨ j = 2 := by omega
      rcases this with rfl | rfl | rfl <;> simp only [cacc, std_app, List.length_append, List.length_nil] <;> omega
    cbv
    split
    · have hlt : j < 2 := by subst ho; exact ieqB (n := 2) ‹_›
      cbv
      have hl2 := hlen j
      repeat' (first | refine And.intro ?_ ?_ | (split; all_goals try cbv) | (refine useD hP Ytmcjpkagfjimjaa.Env.ok rfl ho (by kernel_rfl) ?_; try cbv))
      all_goals first
        | (clear hca; (subst ho; (try clear hL); (try clear hK); simp only [std, natC, ofNat_toNat, Int.toNat_natCast, toNat_sub1, i64min, i64max, List.length_nil, List.length_cons, List.length_append, List.length_replicate, List.length_take, List.length_drop, decide_eq_true_eq, decide_eq_false_iff_not, bne_iff_ne, bne_eq_false_iff_eq, beq_iff_eq, beq_eq_false_iff_ne, cnl_0, cnl_981668463, cnl_1008981770, cnl_1015021568, cnl_1048508891, cnl_1056964608, cnl_1065353216, cnl_1073741824, cnl_1078530011, cnl_1082130432, cnl_1086918619, cnl_1090519040, cnl_1092616192, cnl_1140850688, cnl_1148846080, cnl_1174011904, cnl_1182400512, cnl_1199570944, cnl_1203982336, cnl_2147483648, cnl_3204448256, cnl_3351465984] at *; omega))
        | (subst ho; subst hca; have : j = 0 ∨ j = 1 := by omega
           rcases this with rfl | rfl
           · exact hL.next _ ⟨⟨1, by omega⟩, [0], [6, 25, 26, 27], rfl, rfl, by show 2 - 1 < 2 - 0; omega⟩
           · exact hL.next _ ⟨⟨2, by omega⟩, [0], [6, 25, 26, 27], rfl, rfl, by show 2 - 2 < 2 - 1; omega⟩)
    · have hge : 2 ≤ j := by subst ho; exact igeB (n := 2) ‹_›
      have hj2 : j = 2 := by omega
      cbv
      refine hL.out _ _ ?_
      clear hL
      cbv
      subst ho
      refine hK.ret _ ⟨[0], rfl, rfl, ?_⟩
      subst hca hj2
      rfl
theorem k_any_near (x y : List Nat) : (!(x ++ y).any nnear) = (allN near x && allN near y) := by
  have h : ∀ l : List Nat, (!l.any nnear) = allN near l := fun l => all_near l
  rw [List.any_append, Bool.not_or, h, h]
theorem c_impl_ValidFarm (x y : List Nat) (f1 f2 f3 : Nat) (hx : x.length ≤ 1048576) (hy : y.length ≤ 1048576) : Call Try.prog 39 [.agg (farmC' x y f1 f2 f3)] (.bool (okF x y f1 f2 f3)) [] := by
  have s2 : ([f1, f3] : List Nat).length ≤ 1099511627776 := by simp
  have q1 := y_nnear (x ++ y) false (by rw [List.length_append]; omega)
  have leaf : okF x y f1 f2 f3 = (decide (1 ≤ x.length) && (decide (x.length ≤ 12) && (decide (y.length = x.length) && (allN pos [f1, f3] && (!fgt .f32 f1 1148846080 && (ft f2 0 1056964608 && !(x ++ y).any nnear)))))) := by
    rw [k_any_near, allN_2, okF]
    cases pos f1 <;> cases pos f3 <;> simp
  have cc := c_Concat x y hx hy
  generalize x ++ y = xy at q1 leaf cc
  generalize hz : List.any xy nnear = z at q1 leaf
  have q_k_arePositive := @k_arePositive; have q_c_impl_isFromTo := @c_impl_isFromTo; generalize h_allN : @allN = g_allN at q_k_arePositive q_c_impl_isFromTo; generalize h_ft : @ft = g_ft at q_k_arePositive q_c_impl_isFromTo
  refine Call.of_body Ytmcjpkagfjimjaa.Env.ok Try.func39 rfl rfl ?_; intro o P K ho hP hK; cbv
  repeat' (first | refine And.intro ?_ ?_ | (split; all_goals try cbv) | (refine useD hP Ytmcjpkagfjimjaa.Env.ok rfl ho (by kernel_rfl) ?_; try cbv) | (first | (refine useS hP (q_k_arePositive [f1, f3] false s2) rfl ?_; try cbv) | (refine useRS hP (q_k_arePositive [f1, f3] false s2) rfl ?_; try cbv) | (refine useL hP 3 (q_k_arePositive [f1, f3] false s2) rfl rfl rfl ?_; try cbv) | (refine useRL hP 3 (q_k_arePositive [f1, f3] false s2) rfl rfl rfl ?_; try cbv)) | (first | (refine useS hP (q_c_impl_isFromTo _ _ _) rfl ?_; try cbv) | (refine useRS hP (q_c_impl_isFromTo _ _ _) rfl ?_; try cbv) | (refine useL hP 3 (q_c_impl_isFromTo _ _ _) rfl rfl rfl ?_; try cbv) | (refine useRL hP 3 (q_c_impl_isFromTo _ _ _) rfl rfl rfl ?_; try cbv)))
  all_goals try (subst ho; refine hK.ret _ ⟨[], rfl, congrArg V.bool ?_, rfl⟩; rw [leaf]; clear hK; subst h_allN h_ft; (try simp only [std, natC, ofNat_toNat, Int.toNat_natCast, toNat_sub1, i64min, i64max, List.length_nil, List.length_cons, List.length_append, List.length_replicate, List.length_take, List.length_drop, decide_eq_true_eq, decide_eq_false_iff_not, bne_iff_ne, bne_eq_false_iff_eq, beq_iff_eq, beq_eq_false_iff_ne, cnl_0, cnl_981668463, cnl_1008981770, cnl_1015021568, cnl_1048508891, cnl_1056964608, cnl_1065353216, cnl_1073741824, cnl_1078530011, cnl_1082130432, cnl_1086918619, cnl_1090519040, cnl_1092616192, cnl_1140850688, cnl_1148846080, cnl_1174011904, cnl_1182400512, cnl_1199570944, cnl_1203982336, cnl_2147483648, cnl_3204448256, cnl_3351465984] at *); first | (simp_all; done) | (simp_all; omega))
  have h1 : 0 < x.length := by
    subst ho
    clear hK
    try simp only [std, natC, ofNat_toNat, Int.toNat_natCast, toNat_sub1, i64min, i64max, List.length_nil, List.length_cons, List.length_append, List.length_replicate, List.length_take, List.length_drop, decide_eq_true_eq, decide_eq_false_iff_not, bne_iff_ne, bne_eq_false_iff_eq, beq_iff_eq, beq_eq_false_iff_ne, cnl_0, cnl_981668463, cnl_1008981770, cnl_1015021568, cnl_1048508891, cnl_1056964608, cnl_1065353216, cnl_1073741824, cnl_1078530011, cnl_1082130432, cnl_1086918619, cnl_1090519040, cnl_1092616192, cnl_1140850688, cnl_1148846080, cnl_1174011904, cnl_1182400512, cnl_1199570944, cnl_1203982336, cnl_2147483648, cnl_3204448256, cnl_3351465984] at *
    omega
  refine useL hP 3 (cc h1) rfl rfl rfl ?_
  cbv
  refine useL hP 3 q1 rfl rfl rfl ?_
  cbv
  repeat' (first | refine And.intro ?_ ?_ | (split; all_goals try cbv) | (refine useD hP Ytmcjpkagfjimjaa.Env.ok rfl ho (by kernel_rfl) ?_; try cbv))
  all_goals
    subst ho
    refine hK.ret _ ⟨[], rfl, congrArg V.bool ?_, rfl⟩
    rw [leaf]
    clear hK
    subst h_allN h_ft
    try simp only [std, natC, ofNat_toNat, Int.toNat_natCast, toNat_sub1, i64min, i64max, List.length_nil, List.length_cons, List.length_append, List.length_replicate, List.length_take, List.length_drop, decide_eq_true_eq, decide_eq_false_iff_not, bne_iff_ne, bne_eq_false_iff_eq, beq_iff_eq, beq_eq_false_iff_ne, cnl_0, cnl_981668463, cnl_1008981770, cnl_1015021568, cnl_1048508891, cnl_1056964608, cnl_1065353216, cnl_1073741824, cnl_1078530011, cnl_1082130432, cnl_1086918619, cnl_1090519040, cnl_1092616192, cnl_1140850688, cnl_1148846080, cnl_1174011904, cnl_1182400512, cnl_1199570944, cnl_1203982336, cnl_2147483648, cnl_3204448256, cnl_3351465984] at *
    simp_all
    try omega
end Go.En
