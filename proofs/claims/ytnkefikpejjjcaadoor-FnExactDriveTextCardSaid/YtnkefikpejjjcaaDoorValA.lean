/-
  The contracts of the functions that say whether numbers are as they must be. Own work.
-/
import Derived.Test.YtnkefikpejjjcaaDoorEnv
import Derived.Test.YtnkefikpejjjcaaDoorEnXz
import Derived.Test.YtnkefikpejjjcaaDoorSameA
set_option linter.unusedVariables false
set_option linter.unusedSimpArgs false
set_option maxRecDepth 100000
namespace Go.En
open Go.Proofs

def fin (x : Nat) : Bool := feq .f32 (fsub .f32 x x) 0
def pos (x : Nat) : Bool := fin x && fgt .f32 x 0
def lst (x : Nat) : Bool := fin x && fge .f32 x 0
def ft (x lo hi : Nat) : Bool := fge .f32 x lo && fle .f32 x hi
def inI (n lo hi : Int) : Bool := decide (lo ≤ n) && decide (n ≤ hi)
def nfin (x : Nat) : Bool := !fin x
def npos (x : Nat) : Bool := !fin x || fle .f32 x 0
def nlst (x : Nat) : Bool := !lst x
def nnear (x : Nat) : Bool := !ft x 3351465984 1203982336
def retB : Bool := true

theorem c_spec_l01Finite (x : Nat) : Call YtnkefikpejjjcaaDoor.Env.pg 52 [.flt .f32 x] (.bool (fin x)) [] := by
  refine Call.of_body YtnkefikpejjjcaaDoor.Env.ok Tryd.func52 rfl rfl ?_; intro o P K ho hP hK; cbv
  subst ho
  exact hK.ret _ ⟨[], rfl, rfl, rfl⟩
theorem c_impl_IsFinite (x : Nat) : Call YtnkefikpejjjcaaDoor.Env.pg 59 [.flt .f32 x] (.bool (fin x)) [] := by
  refine Call.of_body YtnkefikpejjjcaaDoor.Env.ok Tryd.func59 rfl rfl ?_; intro o P K ho hP hK; cbv
  subst ho
  exact hK.ret _ ⟨[], rfl, rfl, rfl⟩
theorem c_spec_l00In (n lo hi : Int) : Call YtnkefikpejjjcaaDoor.Env.pg 50 [.int .i64 n, .int .i64 lo, .int .i64 hi] (.bool (inI n lo hi)) [] := by
  refine Call.of_body YtnkefikpejjjcaaDoor.Env.ok Tryd.func50 rfl rfl ?_; intro o P K ho hP hK; cbv
  repeat' (first | refine And.intro ?_ ?_ | (split; all_goals try cbv) | (refine useD hP YtnkefikpejjjcaaDoor.Env.ok rfl ho (by kernel_rfl) ?_; try cbv))
  all_goals
    subst ho
    refine hK.ret _ ⟨[], rfl, congrArg V.bool ?_, rfl⟩
    try simp only [std, natC, ofNat_toNat, Int.toNat_natCast, toNat_sub1, i64min, i64max, List.length_nil, List.length_cons, List.length_append, List.length_replicate, List.length_take, List.length_drop, decide_eq_true_eq, decide_eq_false_iff_not, bne_iff_ne, bne_eq_false_iff_eq, beq_iff_eq, beq_eq_false_iff_ne, cnl_0, cnl_981668463, cnl_1008981770, cnl_1015021568, cnl_1048508891, cnl_1056964608, cnl_1065353216, cnl_1073741824, cnl_1078530011, cnl_1082130432, cnl_1086918619, cnl_1090519040, cnl_1092616192, cnl_1140850688, cnl_1148846080, cnl_1174011904, cnl_1182400512, cnl_1199570944, cnl_1203982336, cnl_2147483648, cnl_3204448256, cnl_3351465984] at *
    simp_all [inI] <;> omega
theorem c_impl_within (n lo hi : Int) : Call YtnkefikpejjjcaaDoor.Env.pg 71 [.int .i64 n, .int .i64 lo, .int .i64 hi] (.bool (inI n lo hi)) [] := by
  refine Call.of_body YtnkefikpejjjcaaDoor.Env.ok Tryd.func71 rfl rfl ?_; intro o P K ho hP hK; cbv
  repeat' (first | refine And.intro ?_ ?_ | (split; all_goals try cbv) | (refine useD hP YtnkefikpejjjcaaDoor.Env.ok rfl ho (by kernel_rfl) ?_; try cbv))
  all_goals
    subst ho
    refine hK.ret _ ⟨[], rfl, congrArg V.bool ?_, rfl⟩
    try simp only [std, natC, ofNat_toNat, Int.toNat_natCast, toNat_sub1, i64min, i64max, List.length_nil, List.length_cons, List.length_append, List.length_replicate, List.length_take, List.length_drop, decide_eq_true_eq, decide_eq_false_iff_not, bne_iff_ne, bne_eq_false_iff_eq, beq_iff_eq, beq_eq_false_iff_ne, cnl_0, cnl_981668463, cnl_1008981770, cnl_1015021568, cnl_1048508891, cnl_1056964608, cnl_1065353216, cnl_1073741824, cnl_1078530011, cnl_1082130432, cnl_1086918619, cnl_1090519040, cnl_1092616192, cnl_1140850688, cnl_1148846080, cnl_1174011904, cnl_1182400512, cnl_1199570944, cnl_1203982336, cnl_2147483648, cnl_3204448256, cnl_3351465984] at *
    simp_all [inI] <;> omega
theorem c_impl_isFromTo (x lo hi : Nat) : Call YtnkefikpejjjcaaDoor.Env.pg 58 [.flt .f32 x, .flt .f32 lo, .flt .f32 hi] (.bool (ft x lo hi)) [] := by
  refine Call.of_body YtnkefikpejjjcaaDoor.Env.ok Tryd.func58 rfl rfl ?_; intro o P K ho hP hK; cbv
  repeat' (first | refine And.intro ?_ ?_ | (split; all_goals try cbv) | (refine useD hP YtnkefikpejjjcaaDoor.Env.ok rfl ho (by kernel_rfl) ?_; try cbv))
  all_goals
    subst ho
    refine hK.ret _ ⟨[], rfl, congrArg V.bool ?_, rfl⟩
    try simp only [std, natC, ofNat_toNat, Int.toNat_natCast, toNat_sub1, i64min, i64max, List.length_nil, List.length_cons, List.length_append, List.length_replicate, List.length_take, List.length_drop, decide_eq_true_eq, decide_eq_false_iff_not, bne_iff_ne, bne_eq_false_iff_eq, beq_iff_eq, beq_eq_false_iff_ne, cnl_0, cnl_981668463, cnl_1008981770, cnl_1015021568, cnl_1048508891, cnl_1056964608, cnl_1065353216, cnl_1073741824, cnl_1078530011, cnl_1082130432, cnl_1086918619, cnl_1090519040, cnl_1092616192, cnl_1140850688, cnl_1148846080, cnl_1174011904, cnl_1182400512, cnl_1199570944, cnl_1203982336, cnl_2147483648, cnl_3204448256, cnl_3351465984] at *
    simp_all [ft]
theorem c_spec_l02Least (x : Nat) : Call YtnkefikpejjjcaaDoor.Env.pg 51 [.flt .f32 x] (.bool (lst x)) [] := by
  have q_c_spec_l01Finite := @c_spec_l01Finite; generalize h_fin : @fin = g_fin at q_c_spec_l01Finite
  refine Call.of_body YtnkefikpejjjcaaDoor.Env.ok Tryd.func51 rfl rfl ?_; intro o P K ho hP hK; cbv
  repeat' (first | refine And.intro ?_ ?_ | (split; all_goals try cbv) | (refine useD hP YtnkefikpejjjcaaDoor.Env.ok rfl ho (by kernel_rfl) ?_; try cbv) | (first | (refine useS hP (q_c_spec_l01Finite _) rfl ?_; try cbv) | (refine useRS hP (q_c_spec_l01Finite _) rfl ?_; try cbv) | (refine useL hP 3 (q_c_spec_l01Finite _) rfl rfl rfl ?_; try cbv) | (refine useRL hP 3 (q_c_spec_l01Finite _) rfl rfl rfl ?_; try cbv)))
  all_goals
    subst ho h_fin
    refine hK.ret _ ⟨[], rfl, congrArg V.bool ?_, rfl⟩
    try simp only [std, natC, ofNat_toNat, Int.toNat_natCast, toNat_sub1, i64min, i64max, List.length_nil, List.length_cons, List.length_append, List.length_replicate, List.length_take, List.length_drop, decide_eq_true_eq, decide_eq_false_iff_not, bne_iff_ne, bne_eq_false_iff_eq, beq_iff_eq, beq_eq_false_iff_ne, cnl_0, cnl_981668463, cnl_1008981770, cnl_1015021568, cnl_1048508891, cnl_1056964608, cnl_1065353216, cnl_1073741824, cnl_1078530011, cnl_1082130432, cnl_1086918619, cnl_1090519040, cnl_1092616192, cnl_1140850688, cnl_1148846080, cnl_1174011904, cnl_1182400512, cnl_1199570944, cnl_1203982336, cnl_2147483648, cnl_3204448256, cnl_3351465984] at *
    simp_all [lst]
theorem c_spec_l02Above (x : Nat) : Call YtnkefikpejjjcaaDoor.Env.pg 64 [.flt .f32 x] (.bool (pos x)) [] := by
  have q_c_spec_l01Finite := @c_spec_l01Finite; generalize h_fin : @fin = g_fin at q_c_spec_l01Finite
  refine Call.of_body YtnkefikpejjjcaaDoor.Env.ok Tryd.func64 rfl rfl ?_; intro o P K ho hP hK; cbv
  repeat' (first | refine And.intro ?_ ?_ | (split; all_goals try cbv) | (refine useD hP YtnkefikpejjjcaaDoor.Env.ok rfl ho (by kernel_rfl) ?_; try cbv) | (first | (refine useS hP (q_c_spec_l01Finite _) rfl ?_; try cbv) | (refine useRS hP (q_c_spec_l01Finite _) rfl ?_; try cbv) | (refine useL hP 3 (q_c_spec_l01Finite _) rfl rfl rfl ?_; try cbv) | (refine useRL hP 3 (q_c_spec_l01Finite _) rfl rfl rfl ?_; try cbv)))
  all_goals
    subst ho h_fin
    refine hK.ret _ ⟨[], rfl, congrArg V.bool ?_, rfl⟩
    try simp only [std, natC, ofNat_toNat, Int.toNat_natCast, toNat_sub1, i64min, i64max, List.length_nil, List.length_cons, List.length_append, List.length_replicate, List.length_take, List.length_drop, decide_eq_true_eq, decide_eq_false_iff_not, bne_iff_ne, bne_eq_false_iff_eq, beq_iff_eq, beq_eq_false_iff_ne, cnl_0, cnl_981668463, cnl_1008981770, cnl_1015021568, cnl_1048508891, cnl_1056964608, cnl_1065353216, cnl_1073741824, cnl_1078530011, cnl_1082130432, cnl_1086918619, cnl_1090519040, cnl_1092616192, cnl_1140850688, cnl_1148846080, cnl_1174011904, cnl_1182400512, cnl_1199570944, cnl_1203982336, cnl_2147483648, cnl_3204448256, cnl_3351465984] at *
    simp_all [pos]
theorem c_impl_isLeast (x : Nat) : Call YtnkefikpejjjcaaDoor.Env.pg 57 [.flt .f32 x] (.bool (lst x)) [] := by
  have q_c_impl_IsFinite := @c_impl_IsFinite; generalize h_fin : @fin = g_fin at q_c_impl_IsFinite
  refine Call.of_body YtnkefikpejjjcaaDoor.Env.ok Tryd.func57 rfl rfl ?_; intro o P K ho hP hK; cbv
  repeat' (first | refine And.intro ?_ ?_ | (split; all_goals try cbv) | (refine useD hP YtnkefikpejjjcaaDoor.Env.ok rfl ho (by kernel_rfl) ?_; try cbv) | (first | (refine useS hP (q_c_impl_IsFinite _) rfl ?_; try cbv) | (refine useRS hP (q_c_impl_IsFinite _) rfl ?_; try cbv) | (refine useL hP 3 (q_c_impl_IsFinite _) rfl rfl rfl ?_; try cbv) | (refine useRL hP 3 (q_c_impl_IsFinite _) rfl rfl rfl ?_; try cbv)))
  all_goals
    subst ho h_fin
    refine hK.ret _ ⟨[], rfl, congrArg V.bool ?_, rfl⟩
    try simp only [std, natC, ofNat_toNat, Int.toNat_natCast, toNat_sub1, i64min, i64max, List.length_nil, List.length_cons, List.length_append, List.length_replicate, List.length_take, List.length_drop, decide_eq_true_eq, decide_eq_false_iff_not, bne_iff_ne, bne_eq_false_iff_eq, beq_iff_eq, beq_eq_false_iff_ne, cnl_0, cnl_981668463, cnl_1008981770, cnl_1015021568, cnl_1048508891, cnl_1056964608, cnl_1065353216, cnl_1073741824, cnl_1078530011, cnl_1082130432, cnl_1086918619, cnl_1090519040, cnl_1092616192, cnl_1140850688, cnl_1148846080, cnl_1174011904, cnl_1182400512, cnl_1199570944, cnl_1203982336, cnl_2147483648, cnl_3204448256, cnl_3351465984] at *
    simp_all [lst]
theorem c_spec_l06Near (x : Nat) : Call YtnkefikpejjjcaaDoor.Env.pg 65 [.flt .f32 x] (.bool (ft x 3351465984 1203982336)) [] := by
  refine Call.of_body YtnkefikpejjjcaaDoor.Env.ok Tryd.func65 rfl rfl ?_; intro o P K ho hP hK; cbv
  repeat' (first | refine And.intro ?_ ?_ | (split; all_goals try cbv) | (refine useD hP YtnkefikpejjjcaaDoor.Env.ok rfl ho (by kernel_rfl) ?_; try cbv))
  all_goals
    subst ho
    refine hK.ret _ ⟨[], rfl, congrArg V.bool ?_, rfl⟩
    try simp only [std, natC, ofNat_toNat, Int.toNat_natCast, toNat_sub1, i64min, i64max, List.length_nil, List.length_cons, List.length_append, List.length_replicate, List.length_take, List.length_drop, decide_eq_true_eq, decide_eq_false_iff_not, bne_iff_ne, bne_eq_false_iff_eq, beq_iff_eq, beq_eq_false_iff_ne, cnl_0, cnl_981668463, cnl_1008981770, cnl_1015021568, cnl_1048508891, cnl_1056964608, cnl_1065353216, cnl_1073741824, cnl_1078530011, cnl_1082130432, cnl_1086918619, cnl_1090519040, cnl_1092616192, cnl_1140850688, cnl_1148846080, cnl_1174011904, cnl_1182400512, cnl_1199570944, cnl_1203982336, cnl_2147483648, cnl_3204448256, cnl_3351465984] at *
    simp_all [ft]
theorem c_impl_isState (n : Int) : Call YtnkefikpejjjcaaDoor.Env.pg 56 [.int .i64 n] (.bool (inI n 0 4)) [] := by
  have q_c_impl_within := @c_impl_within; generalize h_inI : @inI = g_inI at q_c_impl_within
  refine Call.of_body YtnkefikpejjjcaaDoor.Env.ok Tryd.func56 rfl rfl ?_; intro o P K ho hP hK; cbv
  repeat' (first | refine And.intro ?_ ?_ | (split; all_goals try cbv) | (refine useD hP YtnkefikpejjjcaaDoor.Env.ok rfl ho (by kernel_rfl) ?_; try cbv) | (first | (refine useS hP (q_c_impl_within _ _ _) rfl ?_; try cbv) | (refine useRS hP (q_c_impl_within _ _ _) rfl ?_; try cbv) | (refine useL hP 3 (q_c_impl_within _ _ _) rfl rfl rfl ?_; try cbv) | (refine useRL hP 3 (q_c_impl_within _ _ _) rfl rfl rfl ?_; try cbv)))
  subst ho h_inI
  exact hK.ret _ ⟨[], rfl, rfl, rfl⟩
theorem c_impl_areFinite_1 (x : Nat) : Call YtnkefikpejjjcaaDoor.Env.pg 77 [.flt .f32 x] (.bool (nfin x)) [] := by
  have q_c_impl_IsFinite := @c_impl_IsFinite; generalize h_fin : @fin = g_fin at q_c_impl_IsFinite
  refine Call.of_body YtnkefikpejjjcaaDoor.Env.ok Tryd.func77 rfl rfl ?_; intro o P K ho hP hK; cbv
  repeat' (first | refine And.intro ?_ ?_ | (split; all_goals try cbv) | (refine useD hP YtnkefikpejjjcaaDoor.Env.ok rfl ho (by kernel_rfl) ?_; try cbv) | (first | (refine useS hP (q_c_impl_IsFinite _) rfl ?_; try cbv) | (refine useRS hP (q_c_impl_IsFinite _) rfl ?_; try cbv) | (refine useL hP 3 (q_c_impl_IsFinite _) rfl rfl rfl ?_; try cbv) | (refine useRL hP 3 (q_c_impl_IsFinite _) rfl rfl rfl ?_; try cbv)))
  all_goals
    subst ho h_fin
    refine hK.ret _ ⟨[], rfl, congrArg V.bool ?_, rfl⟩
    simp_all [nfin]
theorem c_impl_areLeast_1 (x : Nat) : Call YtnkefikpejjjcaaDoor.Env.pg 78 [.flt .f32 x] (.bool (nlst x)) [] := by
  have q_c_impl_isLeast := @c_impl_isLeast; generalize h_lst : @lst = g_lst at q_c_impl_isLeast
  refine Call.of_body YtnkefikpejjjcaaDoor.Env.ok Tryd.func78 rfl rfl ?_; intro o P K ho hP hK; cbv
  repeat' (first | refine And.intro ?_ ?_ | (split; all_goals try cbv) | (refine useD hP YtnkefikpejjjcaaDoor.Env.ok rfl ho (by kernel_rfl) ?_; try cbv) | (first | (refine useS hP (q_c_impl_isLeast _) rfl ?_; try cbv) | (refine useRS hP (q_c_impl_isLeast _) rfl ?_; try cbv) | (refine useL hP 3 (q_c_impl_isLeast _) rfl rfl rfl ?_; try cbv) | (refine useRL hP 3 (q_c_impl_isLeast _) rfl rfl rfl ?_; try cbv)))
  all_goals
    subst ho h_lst
    refine hK.ret _ ⟨[], rfl, congrArg V.bool ?_, rfl⟩
    simp_all [nlst]
theorem c_impl_arePositive_1 (x : Nat) : Call YtnkefikpejjjcaaDoor.Env.pg 79 [.flt .f32 x] (.bool (npos x)) [] := by
  have q_c_impl_IsFinite := @c_impl_IsFinite; generalize h_fin : @fin = g_fin at q_c_impl_IsFinite
  refine Call.of_body YtnkefikpejjjcaaDoor.Env.ok Tryd.func79 rfl rfl ?_; intro o P K ho hP hK; cbv
  repeat' (first | refine And.intro ?_ ?_ | (split; all_goals try cbv) | (refine useD hP YtnkefikpejjjcaaDoor.Env.ok rfl ho (by kernel_rfl) ?_; try cbv) | (first | (refine useS hP (q_c_impl_IsFinite _) rfl ?_; try cbv) | (refine useRS hP (q_c_impl_IsFinite _) rfl ?_; try cbv) | (refine useL hP 3 (q_c_impl_IsFinite _) rfl rfl rfl ?_; try cbv) | (refine useRL hP 3 (q_c_impl_IsFinite _) rfl rfl rfl ?_; try cbv)))
  all_goals
    subst ho h_fin
    refine hK.ret _ ⟨[], rfl, congrArg V.bool ?_, rfl⟩
    try simp only [std, natC, ofNat_toNat, Int.toNat_natCast, toNat_sub1, i64min, i64max, List.length_nil, List.length_cons, List.length_append, List.length_replicate, List.length_take, List.length_drop, decide_eq_true_eq, decide_eq_false_iff_not, bne_iff_ne, bne_eq_false_iff_eq, beq_iff_eq, beq_eq_false_iff_ne, cnl_0, cnl_981668463, cnl_1008981770, cnl_1015021568, cnl_1048508891, cnl_1056964608, cnl_1065353216, cnl_1073741824, cnl_1078530011, cnl_1082130432, cnl_1086918619, cnl_1090519040, cnl_1092616192, cnl_1140850688, cnl_1148846080, cnl_1174011904, cnl_1182400512, cnl_1199570944, cnl_1203982336, cnl_2147483648, cnl_3204448256, cnl_3351465984] at *
    simp_all [npos]
theorem c_impl_ValidFarm_1 (x : Nat) : Call YtnkefikpejjjcaaDoor.Env.pg 69 [.flt .f32 x] (.bool (nnear x)) [] := by
  have q_c_impl_isFromTo := @c_impl_isFromTo; generalize h_ft : @ft = g_ft at q_c_impl_isFromTo
  refine Call.of_body YtnkefikpejjjcaaDoor.Env.ok Tryd.func69 rfl rfl ?_; intro o P K ho hP hK; cbv
  repeat' (first | refine And.intro ?_ ?_ | (split; all_goals try cbv) | (refine useD hP YtnkefikpejjjcaaDoor.Env.ok rfl ho (by kernel_rfl) ?_; try cbv) | (first | (refine useS hP (q_c_impl_isFromTo _ _ _) rfl ?_; try cbv) | (refine useRS hP (q_c_impl_isFromTo _ _ _) rfl ?_; try cbv) | (refine useL hP 3 (q_c_impl_isFromTo _ _ _) rfl rfl rfl ?_; try cbv) | (refine useRL hP 3 (q_c_impl_isFromTo _ _ _) rfl rfl rfl ?_; try cbv)))
  all_goals
    subst ho h_ft
    refine hK.ret _ ⟨[], rfl, congrArg V.bool ?_, rfl⟩
    try simp only [std, natC, ofNat_toNat, Int.toNat_natCast, toNat_sub1, i64min, i64max, List.length_nil, List.length_cons, List.length_append, List.length_replicate, List.length_take, List.length_drop, decide_eq_true_eq, decide_eq_false_iff_not, bne_iff_ne, bne_eq_false_iff_eq, beq_iff_eq, beq_eq_false_iff_ne, cnl_0, cnl_981668463, cnl_1008981770, cnl_1015021568, cnl_1048508891, cnl_1056964608, cnl_1065353216, cnl_1073741824, cnl_1078530011, cnl_1082130432, cnl_1086918619, cnl_1090519040, cnl_1092616192, cnl_1140850688, cnl_1148846080, cnl_1174011904, cnl_1182400512, cnl_1199570944, cnl_1203982336, cnl_2147483648, cnl_3204448256, cnl_3351465984] at *
    simp_all [nnear]
theorem x_nfin (xs : List Nat) (t : Bool) (hn : xs.length ≤ 1099511627776) : Call YtnkefikpejjjcaaDoor.Env.pg 80 [.sl (.f32 xs) t, .fn 77 [] []] (.int .i64 (idxF nfin xs)) [] := by
  have q_c_impl_areFinite_1 := @c_impl_areFinite_1; generalize h_nfin : @nfin = g_nfin at q_c_impl_areFinite_1
  refine Call.of_body YtnkefikpejjjcaaDoor.Env.ok Tryd.func80 rfl rfl ?_; intro o P K ho hP hK; cbv
  refine useW hP YtnkefikpejjjcaaDoor.Env.ok ho (fun s : {i : Nat // ∀ j, j < i → g_nfin (xs.getD j 0) = false} => ⟨19, 0, [(0, .sl (.f32 xs) t), (1, .fn 77 [] []), (6, .sl (.f32 xs) t), (7, .int .i64 (o.len xs)), (8, .int .i64 (Int.ofNat s.1))], []⟩) (fun s => xs.length - s.1) ⟨0, fun j h => absurd h (Nat.not_lt_zero j)⟩ [] [0, 1, 6, 7, 8] rfl rfl (fun _ => rfl) (fun _ => rfl) ?_
  rintro ⟨i, hi⟩ K' hL
  cbv
  repeat' (first | (split; all_goals try cbv) | refine And.intro ?_ ?_)
  · subst ho; exact idxN (ieqB ‹_›)
  · have hlt : i < xs.length := by subst ho; exact ieqB ‹_›
    refine useS hP (q_c_impl_areFinite_1 _) rfl ?_
    generalize hv : g_nfin _ = v
    have hv : g_nfin (xs.getD i 0) = v := by subst ho; exact hv
    cases v
    · cbv
      refine ⟨by subst ho; exact rngN hlt hn, ?_⟩
      subst ho
      refine hL.next _ ⟨⟨i + 1, fun j hj => ?_⟩, [], [0, 1, 6, 7, 8], rfl, rfl, ?_⟩
      · rcases Nat.lt_or_ge j i with h | h
        · exact hi j h
        · rw [show j = i by omega]; exact hv
      · show xs.length - (i + 1) < xs.length - i
        omega
    · cbv
      refine hL.ret _ ?_
      cbv
      subst ho
      refine hK.ret _ ⟨[], rfl, congrArg (V.int .i64) ?_, rfl⟩
      subst h_nfin
      exact (idxF_at hlt hv hi).symm
  · have hge : xs.length ≤ i := by subst ho; exact igeB ‹_›
    refine hL.out _ _ ?_
    cbv
    subst ho
    refine hK.ret _ ⟨[], rfl, congrArg (V.int .i64) ?_, rfl⟩
    subst h_nfin
    exact (idxF_none fun j hj => hi j (by omega)).symm
theorem y_nfin (xs : List Nat) (t : Bool) (hn : xs.length ≤ 1099511627776) : Call YtnkefikpejjjcaaDoor.Env.pg 67 [.sl (.f32 xs) t, .fn 77 [] []] (.bool (xs.any nfin)) [] := by
  have q := x_nfin xs t hn
  refine Call.of_body YtnkefikpejjjcaaDoor.Env.ok Tryd.func67 rfl rfl ?_; intro o P K ho hP hK; cbv
  generalize hz : idxF _ xs = z at q
  refine useS hP q rfl ?_
  cbv
  subst ho hz
  exact hK.ret _ ⟨[], rfl, congrArg V.bool idxF_ge, rfl⟩
theorem x_nlst (xs : List Nat) (t : Bool) (hn : xs.length ≤ 1099511627776) : Call YtnkefikpejjjcaaDoor.Env.pg 80 [.sl (.f32 xs) t, .fn 78 [] []] (.int .i64 (idxF nlst xs)) [] := by
  have q_c_impl_areLeast_1 := @c_impl_areLeast_1; generalize h_nlst : @nlst = g_nlst at q_c_impl_areLeast_1
  refine Call.of_body YtnkefikpejjjcaaDoor.Env.ok Tryd.func80 rfl rfl ?_; intro o P K ho hP hK; cbv
  refine useW hP YtnkefikpejjjcaaDoor.Env.ok ho (fun s : {i : Nat // ∀ j, j < i → g_nlst (xs.getD j 0) = false} => ⟨19, 0, [(0, .sl (.f32 xs) t), (1, .fn 78 [] []), (6, .sl (.f32 xs) t), (7, .int .i64 (o.len xs)), (8, .int .i64 (Int.ofNat s.1))], []⟩) (fun s => xs.length - s.1) ⟨0, fun j h => absurd h (Nat.not_lt_zero j)⟩ [] [0, 1, 6, 7, 8] rfl rfl (fun _ => rfl) (fun _ => rfl) ?_
  rintro ⟨i, hi⟩ K' hL
  cbv
  repeat' (first | (split; all_goals try cbv) | refine And.intro ?_ ?_)
  · subst ho; exact idxN (ieqB ‹_›)
  · have hlt : i < xs.length := by subst ho; exact ieqB ‹_›
    refine useS hP (q_c_impl_areLeast_1 _) rfl ?_
    generalize hv : g_nlst _ = v
    have hv : g_nlst (xs.getD i 0) = v := by subst ho; exact hv
    cases v
    · cbv
      refine ⟨by subst ho; exact rngN hlt hn, ?_⟩
      subst ho
      refine hL.next _ ⟨⟨i + 1, fun j hj => ?_⟩, [], [0, 1, 6, 7, 8], rfl, rfl, ?_⟩
      · rcases Nat.lt_or_ge j i with h | h
        · exact hi j h
        · rw [show j = i by omega]; exact hv
      · show xs.length - (i + 1) < xs.length - i
        omega
    · cbv
      refine hL.ret _ ?_
      cbv
      subst ho
      refine hK.ret _ ⟨[], rfl, congrArg (V.int .i64) ?_, rfl⟩
      subst h_nlst
      exact (idxF_at hlt hv hi).symm
  · have hge : xs.length ≤ i := by subst ho; exact igeB ‹_›
    refine hL.out _ _ ?_
    cbv
    subst ho
    refine hK.ret _ ⟨[], rfl, congrArg (V.int .i64) ?_, rfl⟩
    subst h_nlst
    exact (idxF_none fun j hj => hi j (by omega)).symm
theorem y_nlst (xs : List Nat) (t : Bool) (hn : xs.length ≤ 1099511627776) : Call YtnkefikpejjjcaaDoor.Env.pg 67 [.sl (.f32 xs) t, .fn 78 [] []] (.bool (xs.any nlst)) [] := by
  have q := x_nlst xs t hn
  refine Call.of_body YtnkefikpejjjcaaDoor.Env.ok Tryd.func67 rfl rfl ?_; intro o P K ho hP hK; cbv
  generalize hz : idxF _ xs = z at q
  refine useS hP q rfl ?_
  cbv
  subst ho hz
  exact hK.ret _ ⟨[], rfl, congrArg V.bool idxF_ge, rfl⟩
theorem x_npos (xs : List Nat) (t : Bool) (hn : xs.length ≤ 1099511627776) : Call YtnkefikpejjjcaaDoor.Env.pg 80 [.sl (.f32 xs) t, .fn 79 [] []] (.int .i64 (idxF npos xs)) [] := by
  have q_c_impl_arePositive_1 := @c_impl_arePositive_1; generalize h_npos : @npos = g_npos at q_c_impl_arePositive_1
  refine Call.of_body YtnkefikpejjjcaaDoor.Env.ok Tryd.func80 rfl rfl ?_; intro o P K ho hP hK; cbv
  refine useW hP YtnkefikpejjjcaaDoor.Env.ok ho (fun s : {i : Nat // ∀ j, j < i → g_npos (xs.getD j 0) = false} => ⟨19, 0, [(0, .sl (.f32 xs) t), (1, .fn 79 [] []), (6, .sl (.f32 xs) t), (7, .int .i64 (o.len xs)), (8, .int .i64 (Int.ofNat s.1))], []⟩) (fun s => xs.length - s.1) ⟨0, fun j h => absurd h (Nat.not_lt_zero j)⟩ [] [0, 1, 6, 7, 8] rfl rfl (fun _ => rfl) (fun _ => rfl) ?_
  rintro ⟨i, hi⟩ K' hL
  cbv
  repeat' (first | (split; all_goals try cbv) | refine And.intro ?_ ?_)
  · subst ho; exact idxN (ieqB ‹_›)
  · have hlt : i < xs.length := by subst ho; exact ieqB ‹_›
    refine useS hP (q_c_impl_arePositive_1 _) rfl ?_
    generalize hv : g_npos _ = v
    have hv : g_npos (xs.getD i 0) = v := by subst ho; exact hv
    cases v
    · cbv
      refine ⟨by subst ho; exact rngN hlt hn, ?_⟩
      subst ho
      refine hL.next _ ⟨⟨i + 1, fun j hj => ?_⟩, [], [0, 1, 6, 7, 8], rfl, rfl, ?_⟩
      · rcases Nat.lt_or_ge j i with h | h
        · exact hi j h
        · rw [show j = i by omega]; exact hv
      · show xs.length - (i + 1) < xs.length - i
        omega
    · cbv
      refine hL.ret _ ?_
      cbv
      subst ho
      refine hK.ret _ ⟨[], rfl, congrArg (V.int .i64) ?_, rfl⟩
      subst h_npos
      exact (idxF_at hlt hv hi).symm
  · have hge : xs.length ≤ i := by subst ho; exact igeB ‹_›
    refine hL.out _ _ ?_
    cbv
    subst ho
    refine hK.ret _ ⟨[], rfl, congrArg (V.int .i64) ?_, rfl⟩
    subst h_npos
    exact (idxF_none fun j hj => hi j (by omega)).symm
theorem y_npos (xs : List Nat) (t : Bool) (hn : xs.length ≤ 1099511627776) : Call YtnkefikpejjjcaaDoor.Env.pg 67 [.sl (.f32 xs) t, .fn 79 [] []] (.bool (xs.any npos)) [] := by
  have q := x_npos xs t hn
  refine Call.of_body YtnkefikpejjjcaaDoor.Env.ok Tryd.func67 rfl rfl ?_; intro o P K ho hP hK; cbv
  generalize hz : idxF _ xs = z at q
  refine useS hP q rfl ?_
  cbv
  subst ho hz
  exact hK.ret _ ⟨[], rfl, congrArg V.bool idxF_ge, rfl⟩
theorem x_nnear (xs : List Nat) (t : Bool) (hn : xs.length ≤ 1099511627776) : Call YtnkefikpejjjcaaDoor.Env.pg 80 [.sl (.f32 xs) t, .fn 69 [] []] (.int .i64 (idxF nnear xs)) [] := by
  have q_c_impl_ValidFarm_1 := @c_impl_ValidFarm_1; generalize h_nnear : @nnear = g_nnear at q_c_impl_ValidFarm_1
  refine Call.of_body YtnkefikpejjjcaaDoor.Env.ok Tryd.func80 rfl rfl ?_; intro o P K ho hP hK; cbv
  refine useW hP YtnkefikpejjjcaaDoor.Env.ok ho (fun s : {i : Nat // ∀ j, j < i → g_nnear (xs.getD j 0) = false} => ⟨19, 0, [(0, .sl (.f32 xs) t), (1, .fn 69 [] []), (6, .sl (.f32 xs) t), (7, .int .i64 (o.len xs)), (8, .int .i64 (Int.ofNat s.1))], []⟩) (fun s => xs.length - s.1) ⟨0, fun j h => absurd h (Nat.not_lt_zero j)⟩ [] [0, 1, 6, 7, 8] rfl rfl (fun _ => rfl) (fun _ => rfl) ?_
  rintro ⟨i, hi⟩ K' hL
  cbv
  repeat' (first | (split; all_goals try cbv) | refine And.intro ?_ ?_)
  · subst ho; exact idxN (ieqB ‹_›)
  · have hlt : i < xs.length := by subst ho; exact ieqB ‹_›
    refine useS hP (q_c_impl_ValidFarm_1 _) rfl ?_
    generalize hv : g_nnear _ = v
    have hv : g_nnear (xs.getD i 0) = v := by subst ho; exact hv
    cases v
    · cbv
      refine ⟨by subst ho; exact rngN hlt hn, ?_⟩
      subst ho
      refine hL.next _ ⟨⟨i + 1, fun j hj => ?_⟩, [], [0, 1, 6, 7, 8], rfl, rfl, ?_⟩
      · rcases Nat.lt_or_ge j i with h | h
        · exact hi j h
        · rw [show j = i by omega]; exact hv
      · show xs.length - (i + 1) < xs.length - i
        omega
    · cbv
      refine hL.ret _ ?_
      cbv
      subst ho
      refine hK.ret _ ⟨[], rfl, congrArg (V.int .i64) ?_, rfl⟩
      subst h_nnear
      exact (idxF_at hlt hv hi).symm
  · have hge : xs.length ≤ i := by subst ho; exact igeB ‹_›
    refine hL.out _ _ ?_
    cbv
    subst ho
    refine hK.ret _ ⟨[], rfl, congrArg (V.int .i64) ?_, rfl⟩
    subst h_nnear
    exact (idxF_none fun j hj => hi j (by omega)).symm
theorem y_nnear (xs : List Nat) (t : Bool) (hn : xs.length ≤ 1099511627776) : Call YtnkefikpejjjcaaDoor.Env.pg 67 [.sl (.f32 xs) t, .fn 69 [] []] (.bool (xs.any nnear)) [] := by
  have q := x_nnear xs t hn
  refine Call.of_body YtnkefikpejjjcaaDoor.Env.ok Tryd.func67 rfl rfl ?_; intro o P K ho hP hK; cbv
  generalize hz : idxF _ xs = z at q
  refine useS hP q rfl ?_
  cbv
  subst ho hz
  exact hK.ret _ ⟨[], rfl, congrArg V.bool idxF_ge, rfl⟩
def allN (p : Nat → Bool) (xs : List Nat) : Bool := allI xs.length fun i => p (xs.getD i 0)
theorem c_impl_areFinite (xs : List Nat) (t : Bool) (hn : xs.length ≤ 1099511627776) : Call YtnkefikpejjjcaaDoor.Env.pg 62 [.sl (.f32 xs) t] (.bool (!xs.any nfin)) [] := by
  have q := y_nfin xs t hn
  refine Call.of_body YtnkefikpejjjcaaDoor.Env.ok Tryd.func62 rfl rfl ?_; intro o P K ho hP hK; cbv
  generalize hz : xs.any _ = z at q
  refine useS hP q rfl ?_
  cbv
  repeat' (first | (split; all_goals try cbv) | refine And.intro ?_ ?_)
  all_goals
    subst ho
    refine hK.ret _ ⟨[], rfl, congrArg V.bool ?_, rfl⟩
    simp_all
theorem c_impl_areLeast (xs : List Nat) (t : Bool) (hn : xs.length ≤ 1099511627776) : Call YtnkefikpejjjcaaDoor.Env.pg 63 [.sl (.f32 xs) t] (.bool (!xs.any nlst)) [] := by
  have q := y_nlst xs t hn
  refine Call.of_body YtnkefikpejjjcaaDoor.Env.ok Tryd.func63 rfl rfl ?_; intro o P K ho hP hK; cbv
  generalize hz : xs.any _ = z at q
  refine useS hP q rfl ?_
  cbv
  repeat' (first | (split; all_goals try cbv) | refine And.intro ?_ ?_)
  all_goals
    subst ho
    refine hK.ret _ ⟨[], rfl, congrArg V.bool ?_, rfl⟩
    simp_all
theorem c_impl_arePositive (xs : List Nat) (t : Bool) (hn : xs.length ≤ 1099511627776) : Call YtnkefikpejjjcaaDoor.Env.pg 66 [.sl (.f32 xs) t] (.bool (!xs.any npos)) [] := by
  have q := y_npos xs t hn
  refine Call.of_body YtnkefikpejjjcaaDoor.Env.ok Tryd.func66 rfl rfl ?_; intro o P K ho hP hK; cbv
  generalize hz : xs.any _ = z at q
  refine useS hP q rfl ?_
  cbv
  repeat' (first | (split; all_goals try cbv) | refine And.intro ?_ ?_)
  all_goals
    subst ho
    refine hK.ret _ ⟨[], rfl, congrArg V.bool ?_, rfl⟩
    simp_all
/-- A number that is finite and not at most 0 is greater than 0. -/
theorem npos_pos (x : Nat) : (!npos x) = pos x := by
  unfold npos pos
  cases hf : fin x
  · rfl
  · have hx : isN x = false := by
      cases hx : isN x
      · rfl
      · have : fin x = false := by
          unfold fin
          rw [feq_v]
          have : isN (fsub .f32 x x) = true := by
            unfold fsub isN
            have : bop .f32 (fun x y => x.sum y.opposite) x x = nan .f32 := by
              have e : (FloatKind.f32.decode x).sum (FloatKind.f32.decode x).opposite = none := diff_nanny.left _ _ hx
              unfold bop
              show (Option.map _ ((FloatKind.f32.decode x).sum (FloatKind.f32.decode x).opposite)).getD _ = _
              rw [e]
              rfl
            rw [this]
            exact nan_isNaN .f32
          rw [this]; rfl
        rw [this] at hf; cases hf
    have h0 : isN 0 = false := by decide
    rw [fle_v, fgt_v, hx, h0]
    by_cases h : v32 x ≤ v32 0
    · have h' : ¬ v32 0 < v32 x := by omega
      simp [h, h']
    · have h' : v32 0 < v32 x := by omega
      simp [h, h']
theorem all_fin (xs : List Nat) : (!xs.any nfin) = allN fin xs := by
  rw [any_allI]; unfold allN nfin; simp
theorem all_lst (xs : List Nat) : (!xs.any nlst) = allN lst xs := by
  rw [any_allI]; unfold allN nlst; simp
theorem all_pos (xs : List Nat) : (!xs.any npos) = allN pos xs := by
  rw [any_allI]; unfold allN; simp only [npos_pos]
theorem all_near (xs : List Nat) : (!xs.any nnear) = allN (fun x => ft x 3351465984 1203982336) xs := by
  rw [any_allI]; unfold allN nnear; simp
end Go.En
