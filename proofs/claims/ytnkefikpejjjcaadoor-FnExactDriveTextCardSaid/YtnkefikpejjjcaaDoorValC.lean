/-
  The contracts of the functions that say whether a profile, a rotor, air, a drive is valid. Own work.
-/
import Derived.Test.YtnkefikpejjjcaaDoorValB
set_option linter.unusedVariables false
set_option linter.unusedSimpArgs false
set_option maxRecDepth 100000
namespace Go.En
open Go.Proofs

theorem c_impl_ValidProfile (a b c : List Nat) (ha : a.length ≤ 1099511627776) (hb : b.length ≤ 1099511627776) (hc : c.length ≤ 1099511627776) : Call YtnkefikpejjjcaaDoor.Env.pg 36 [.agg [SLf a, SLf b, SLf c]] (.bool (okP a b c)) [] := by
  have leaf : okP a b c = (decide (2 ≤ a.length) && (decide (a.length ≤ 24) && (decide (b.length = a.length) && (decide (c.length = a.length) && (allN fin b && (allN lst c && allI a.length (rise a))))))) := rfl
  have q_k_areFinite := @k_areFinite; have q_k_areLeast := @k_areLeast; have q_c_impl_isFromTo := @c_impl_isFromTo; generalize h_allN : @allN = g_allN at q_k_areFinite q_k_areLeast q_c_impl_isFromTo; generalize h_ft : @ft = g_ft at q_k_areFinite q_k_areLeast q_c_impl_isFromTo
  refine Call.of_body YtnkefikpejjjcaaDoor.Env.ok Tryd.func36 rfl rfl ?_; intro o P K ho hP hK; cbv
  repeat' (first | refine And.intro ?_ ?_ | (split; all_goals try cbv) | (refine useD hP YtnkefikpejjjcaaDoor.Env.ok rfl ho (by kernel_rfl) ?_; try cbv) | (first | (refine useS hP (q_k_areFinite _ _ hb) rfl ?_; try cbv) | (refine useRS hP (q_k_areFinite _ _ hb) rfl ?_; try cbv) | (refine useL hP 3 (q_k_areFinite _ _ hb) rfl rfl rfl ?_; try cbv) | (refine useRL hP 3 (q_k_areFinite _ _ hb) rfl rfl rfl ?_; try cbv)) | (first | (refine useS hP (q_k_areLeast _ _ hc) rfl ?_; try cbv) | (refine useRS hP (q_k_areLeast _ _ hc) rfl ?_; try cbv) | (refine useL hP 3 (q_k_areLeast _ _ hc) rfl rfl rfl ?_; try cbv) | (refine useRL hP 3 (q_k_areLeast _ _ hc) rfl rfl rfl ?_; try cbv)))
  all_goals try (subst ho; refine hK.ret _ ⟨[], rfl, congrArg V.bool ?_, rfl⟩; rw [leaf]; subst h_allN; clear hK; simp only [std, natC, ofNat_toNat, Int.toNat_natCast, toNat_sub1, i64min, i64max, List.length_nil, List.length_cons, List.length_append, List.length_replicate, List.length_take, List.length_drop, decide_eq_true_eq, decide_eq_false_iff_not, bne_iff_ne, bne_eq_false_iff_eq, beq_iff_eq, beq_eq_false_iff_ne, cnl_0, cnl_981668463, cnl_1008981770, cnl_1015021568, cnl_1048508891, cnl_1056964608, cnl_1065353216, cnl_1073741824, cnl_1078530011, cnl_1082130432, cnl_1086918619, cnl_1090519040, cnl_1092616192, cnl_1140850688, cnl_1148846080, cnl_1174011904, cnl_1182400512, cnl_1199570944, cnl_1203982336, cnl_2147483648, cnl_3204448256, cnl_3351465984] at *; first | (simp_all; done) | (simp_all; omega))
  have hq : 2 ≤ a.length ∧ a.length ≤ 24 ∧ b.length = a.length ∧ c.length = a.length := by
    subst ho
    clear hK
    try simp only [std, natC, ofNat_toNat, Int.toNat_natCast, toNat_sub1, i64min, i64max, List.length_nil, List.length_cons, List.length_append, List.length_replicate, List.length_take, List.length_drop, decide_eq_true_eq, decide_eq_false_iff_not, bne_iff_ne, bne_eq_false_iff_eq, beq_iff_eq, beq_eq_false_iff_ne, cnl_0, cnl_981668463, cnl_1008981770, cnl_1015021568, cnl_1048508891, cnl_1056964608, cnl_1065353216, cnl_1073741824, cnl_1078530011, cnl_1082130432, cnl_1086918619, cnl_1090519040, cnl_1092616192, cnl_1140850688, cnl_1148846080, cnl_1174011904, cnl_1182400512, cnl_1199570944, cnl_1203982336, cnl_2147483648, cnl_3204448256, cnl_3351465984] at *
    simp_all
    try omega
  have hfl : allN fin b = true ∧ allN lst c = true := by subst h_allN; constructor <;> assumption
  obtain ⟨l1, l2, l3, l4⟩ := hq
  refine useW hP YtnkefikpejjjcaaDoor.Env.ok ho (fun s : {i : Nat // ∀ j, j < i → rise a j = true} => ⟨67, 0, [(1, .lp 0 0), (42, SLf a), (43, .int .i64 (o.len a)), (44, .int .i64 (Int.ofNat s.1))], [.cells [SLf a, SLf b, SLf c]]⟩) (fun s => a.length - s.1) ⟨0, fun j h => absurd h (Nat.not_lt_zero j)⟩ [0] [1, 42, 43, 44] rfl rfl (fun _ => rfl) (fun _ => rfl) ?_
  rintro ⟨i, hi⟩ K' hL
  cbv
  repeat' (first | (split; all_goals try cbv) | refine And.intro ?_ ?_)
  · subst ho; exact idxN (ieqB ‹_›)
  · have hlt : i < a.length := by subst ho; exact ieqB ‹_›
    repeat' (first | refine And.intro ?_ ?_ | (split; all_goals try cbv) | (refine useD hP YtnkefikpejjjcaaDoor.Env.ok rfl ho (by kernel_rfl) ?_; try cbv) | (first | (refine useS hP (q_c_impl_isFromTo _ _ _) rfl ?_; try cbv) | (refine useRS hP (q_c_impl_isFromTo _ _ _) rfl ?_; try cbv) | (refine useL hP 3 (q_c_impl_isFromTo _ _ _) rfl rfl rfl ?_; try cbv) | (refine useRL hP 3 (q_c_impl_isFromTo _ _ _) rfl rfl rfl ?_; try cbv)))
    all_goals first
      | (subst ho; (try clear hL); (try clear hK); simp only [std, natC, ofNat_toNat, Int.toNat_natCast, toNat_sub1, i64min, i64max, List.length_nil, List.length_cons, List.length_append, List.length_replicate, List.length_take, List.length_drop, decide_eq_true_eq, decide_eq_false_iff_not, bne_iff_ne, bne_eq_false_iff_eq, beq_iff_eq, beq_eq_false_iff_ne, cnl_0, cnl_981668463, cnl_1008981770, cnl_1015021568, cnl_1048508891, cnl_1056964608, cnl_1065353216, cnl_1073741824, cnl_1078530011, cnl_1082130432, cnl_1086918619, cnl_1090519040, cnl_1092616192, cnl_1140850688, cnl_1148846080, cnl_1174011904, cnl_1182400512, cnl_1199570944, cnl_1203982336, cnl_2147483648, cnl_3204448256, cnl_3351465984] at *; omega)
      | (refine hL.ret _ ?_; cbv; subst ho h_allN h_ft; refine hK.ret _ ⟨[], rfl, congrArg V.bool ?_, rfl⟩; clear hL hK; symm; rw [Bool.eq_false_iff]; intro h; have h := ((okP_iff.1 h).2.2.2.2 i hlt).1; unfold rise at h; rw [← fge_fle] at h; simp only [std, natC, ofNat_toNat, Int.toNat_natCast, toNat_sub1, i64min, i64max, List.length_nil, List.length_cons, List.length_append, List.length_replicate, List.length_take, List.length_drop, decide_eq_true_eq, decide_eq_false_iff_not, bne_iff_ne, bne_eq_false_iff_eq, beq_iff_eq, beq_eq_false_iff_ne, cnl_0, cnl_981668463, cnl_1008981770, cnl_1015021568, cnl_1048508891, cnl_1056964608, cnl_1065353216, cnl_1073741824, cnl_1078530011, cnl_1082130432, cnl_1086918619, cnl_1090519040, cnl_1092616192, cnl_1140850688, cnl_1148846080, cnl_1174011904, cnl_1182400512, cnl_1199570944, cnl_1203982336, cnl_2147483648, cnl_3204448256, cnl_3351465984] at *; simp_all; done)
      | (subst ho; refine hL.next _ ⟨⟨i + 1, nxt hi ?_⟩, [0], [1, 42, 43, 44], rfl, rfl, by show a.length - (i + 1) < a.length - i; omega⟩; clear hL hK; subst h_allN h_ft; unfold rise; rw [← fge_fle]; simp only [std, natC, ofNat_toNat, Int.toNat_natCast, toNat_sub1, i64min, i64max, List.length_nil, List.length_cons, List.length_append, List.length_replicate, List.length_take, List.length_drop, decide_eq_true_eq, decide_eq_false_iff_not, bne_iff_ne, bne_eq_false_iff_eq, beq_iff_eq, beq_eq_false_iff_ne, cnl_0, cnl_981668463, cnl_1008981770, cnl_1015021568, cnl_1048508891, cnl_1056964608, cnl_1065353216, cnl_1073741824, cnl_1078530011, cnl_1082130432, cnl_1086918619, cnl_1090519040, cnl_1092616192, cnl_1140850688, cnl_1148846080, cnl_1174011904, cnl_1182400512, cnl_1199570944, cnl_1203982336, cnl_2147483648, cnl_3204448256, cnl_3351465984] at *; simp_all; try omega)
  · have hge : a.length ≤ i := by subst ho; exact igeB ‹_›
    refine hL.out _ _ ?_
    cbv
    subst ho h_allN
    refine hK.ret _ ⟨[], rfl, congrArg V.bool ?_, rfl⟩
    rw [leaf, hfl.1, hfl.2, allI_true (p := rise a) (fun j hj => hi j (by omega))]
    simp [l1, l2, l3, l4]

/-! ### Air, plants, drives -/
def okA (d1 d2 d3 d4 : Nat) : Bool := pos d1 && (pos d2 && (lst d3 && ft d4 0 1065353216))
theorem allN_1 (p : Nat → Bool) (x : Nat) : allN p [x] = p x := by simp [allN, allI, List.range, List.range.loop]
theorem allN_2 (p : Nat → Bool) (x y : Nat) : allN p [x, y] = (p x && p y) := by simp [allN, allI, List.range, List.range.loop]
theorem allN_7 (p : Nat → Bool) (a b c d e f g : Nat) : allN p [a, b, c, d, e, f, g] = (p a && (p b && (p c && (p d && (p e && (p f && p g)))))) := by simp [allN, allI, List.range, List.range.loop]
def okPl (p1 p2 p3 p4 p5 p6 p7 p8 : Nat) : Bool := pos p1 && (lst p2 && (pos p3 && (pos p4 && (fin p5 && (fgt .f32 p5 p4 && (pos p6 && (fin p7 && (fgt .f32 p7 p6 && pos p8))))))))
theorem c_spec_l05Plant (p1 p2 p3 p4 p5 p6 p7 p8 : Nat) : Call YtnkefikpejjjcaaDoor.Env.pg 49 [.sp [.flt .f32 p1, .flt .f32 p2, .flt .f32 p3, .flt .f32 p4, .flt .f32 p5, .flt .f32 p6, .flt .f32 p7, .flt .f32 p8] 0] (.bool (okPl p1 p2 p3 p4 p5 p6 p7 p8)) [] := by
  have q_c_spec_l02Above := @c_spec_l02Above; have q_c_spec_l02Least := @c_spec_l02Least; have q_c_spec_l01Finite := @c_spec_l01Finite; generalize h_pos : @pos = g_pos at q_c_spec_l02Above q_c_spec_l02Least q_c_spec_l01Finite; generalize h_lst : @lst = g_lst at q_c_spec_l02Above q_c_spec_l02Least q_c_spec_l01Finite; generalize h_fin : @fin = g_fin at q_c_spec_l02Above q_c_spec_l02Least q_c_spec_l01Finite
  refine Call.of_body YtnkefikpejjjcaaDoor.Env.ok Tryd.func49 rfl rfl ?_; intro o P K ho hP hK; cbv
  repeat' (first | refine And.intro ?_ ?_ | (split; all_goals try cbv) | (refine useD hP YtnkefikpejjjcaaDoor.Env.ok rfl ho (by kernel_rfl) ?_; try cbv) | (first | (refine useS hP (q_c_spec_l02Above _) rfl ?_; try cbv) | (refine useRS hP (q_c_spec_l02Above _) rfl ?_; try cbv) | (refine useL hP 3 (q_c_spec_l02Above _) rfl rfl rfl ?_; try cbv) | (refine useRL hP 3 (q_c_spec_l02Above _) rfl rfl rfl ?_; try cbv)) | (first | (refine useS hP (q_c_spec_l02Least _) rfl ?_; try cbv) | (refine useRS hP (q_c_spec_l02Least _) rfl ?_; try cbv) | (refine useL hP 3 (q_c_spec_l02Least _) rfl rfl rfl ?_; try cbv) | (refine useRL hP 3 (q_c_spec_l02Least _) rfl rfl rfl ?_; try cbv)) | (first | (refine useS hP (q_c_spec_l01Finite _) rfl ?_; try cbv) | (refine useRS hP (q_c_spec_l01Finite _) rfl ?_; try cbv) | (refine useL hP 3 (q_c_spec_l01Finite _) rfl rfl rfl ?_; try cbv) | (refine useRL hP 3 (q_c_spec_l01Finite _) rfl rfl rfl ?_; try cbv)))
  all_goals
    subst ho h_pos h_lst h_fin
    refine hK.ret _ ⟨[], rfl, congrArg V.bool ?_, rfl⟩
    clear hK
    try simp only [std, natC, ofNat_toNat, Int.toNat_natCast, toNat_sub1, i64min, i64max, List.length_nil, List.length_cons, List.length_append, List.length_replicate, List.length_take, List.length_drop, decide_eq_true_eq, decide_eq_false_iff_not, bne_iff_ne, bne_eq_false_iff_eq, beq_iff_eq, beq_eq_false_iff_ne, cnl_0, cnl_981668463, cnl_1008981770, cnl_1015021568, cnl_1048508891, cnl_1056964608, cnl_1065353216, cnl_1073741824, cnl_1078530011, cnl_1082130432, cnl_1086918619, cnl_1090519040, cnl_1092616192, cnl_1140850688, cnl_1148846080, cnl_1174011904, cnl_1182400512, cnl_1199570944, cnl_1203982336, cnl_2147483648, cnl_3204448256, cnl_3351465984] at *
    simp_all [okPl]
/-- What is greater than a positive number is positive. -/
theorem pos_trans {x y : Nat} (hx : pos x = true) (hy : fgt .f32 y x = true) : fgt .f32 y 0 = true := by
  unfold pos at hx
  simp only [Bool.and_eq_true] at hx
  have h2 := hx.2
  rw [fgt_v] at h2 hy ⊢
  simp only [Bool.and_eq_true, decide_eq_true_eq, Bool.not_eq_true'] at h2 hy ⊢
  exact ⟨⟨hy.1.1, h2.1.2⟩, by omega⟩
theorem c_impl_ValidPlant (p1 p2 p3 p4 p5 p6 p7 p8 : Nat) : Call YtnkefikpejjjcaaDoor.Env.pg 55 [.agg [.flt .f32 p1, .flt .f32 p2, .flt .f32 p3, .flt .f32 p4, .flt .f32 p5, .flt .f32 p6, .flt .f32 p7, .flt .f32 p8]] (.bool (okPl p1 p2 p3 p4 p5 p6 p7 p8)) [] := by
  have s7 : ([p1, p3, p4, p5, p6, p7, p8] : List Nat).length ≤ 1099511627776 := by simp
  have t1 : pos p4 = true → fgt .f32 p5 p4 = true → pos p5 = fin p5 := fun h1 h2 => by rw [pos, pos_trans h1 h2, Bool.and_true]
  have t2 : pos p6 = true → fgt .f32 p7 p6 = true → pos p7 = fin p7 := fun h1 h2 => by rw [pos, pos_trans h1 h2, Bool.and_true]
  have key : okPl p1 p2 p3 p4 p5 p6 p7 p8 = (allN pos [p1, p3, p4, p5, p6, p7, p8] && (lst p2 && (fgt .f32 p5 p4 && fgt .f32 p7 p6))) := by
    rw [allN_7, okPl]
    cases h4 : pos p4
    · simp
    · cases h6 : pos p6
      · simp
      · cases g5 : fgt .f32 p5 p4
        · simp
        · cases g7 : fgt .f32 p7 p6
          · simp
          · rw [t1 h4 g5, t2 h6 g7]
            cases pos p1 <;> cases lst p2 <;> cases pos p3 <;> cases fin p5 <;> cases fin p7 <;> cases pos p8 <;> rfl
  rw [key]
  have q_k_arePositive := @k_arePositive; have q_c_impl_isLeast := @c_impl_isLeast; generalize h_allN : @allN = g_allN at q_k_arePositive q_c_impl_isLeast; generalize h_lst : @lst = g_lst at q_k_arePositive q_c_impl_isLeast
  refine Call.of_body YtnkefikpejjjcaaDoor.Env.ok Tryd.func55 rfl rfl ?_; intro o P K ho hP hK; cbv
  repeat' (first | refine And.intro ?_ ?_ | (split; all_goals try cbv) | (refine useD hP YtnkefikpejjjcaaDoor.Env.ok rfl ho (by kernel_rfl) ?_; try cbv) | (first | (refine useS hP (q_k_arePositive [p1, p3, p4, p5, p6, p7, p8] false s7) rfl ?_; try cbv) | (refine useRS hP (q_k_arePositive [p1, p3, p4, p5, p6, p7, p8] false s7) rfl ?_; try cbv) | (refine useL hP 3 (q_k_arePositive [p1, p3, p4, p5, p6, p7, p8] false s7) rfl rfl rfl ?_; try cbv) | (refine useRL hP 3 (q_k_arePositive [p1, p3, p4, p5, p6, p7, p8] false s7) rfl rfl rfl ?_; try cbv)) | (first | (refine useS hP (q_c_impl_isLeast _) rfl ?_; try cbv) | (refine useRS hP (q_c_impl_isLeast _) rfl ?_; try cbv) | (refine useL hP 3 (q_c_impl_isLeast _) rfl rfl rfl ?_; try cbv) | (refine useRL hP 3 (q_c_impl_isLeast _) rfl rfl rfl ?_; try cbv)))
  all_goals
    subst ho h_allN h_lst
    refine hK.ret _ ⟨[], rfl, congrArg V.bool ?_, rfl⟩
    clear hK key t1 t2
    try simp only [std, natC, ofNat_toNat, Int.toNat_natCast, toNat_sub1, i64min, i64max, List.length_nil, List.length_cons, List.length_append, List.length_replicate, List.length_take, List.length_drop, decide_eq_true_eq, decide_eq_false_iff_not, bne_iff_ne, bne_eq_false_iff_eq, beq_iff_eq, beq_eq_false_iff_ne, cnl_0, cnl_981668463, cnl_1008981770, cnl_1015021568, cnl_1048508891, cnl_1056964608, cnl_1065353216, cnl_1073741824, cnl_1078530011, cnl_1082130432, cnl_1086918619, cnl_1090519040, cnl_1092616192, cnl_1140850688, cnl_1148846080, cnl_1174011904, cnl_1182400512, cnl_1199570944, cnl_1203982336, cnl_2147483648, cnl_3204448256, cnl_3351465984] at *
    simp_all
def okD (p1 p2 p3 p4 p5 p6 p7 p8 : Nat) (k : Int) (e1 e2 e3 : Nat) : Bool := okPl p1 p2 p3 p4 p5 p6 p7 p8 && (inI k 0 4 && (lst e1 && (ft e2 0 1065353216 && fin e3)))
theorem c_spec_l05Is (p1 p2 p3 p4 p5 p6 p7 p8 : Nat) (k : Int) (e1 e2 e3 : Nat) : Call YtnkefikpejjjcaaDoor.Env.pg 25 [.sp [.flt .f32 p1, .flt .f32 p2, .flt .f32 p3, .flt .f32 p4, .flt .f32 p5, .flt .f32 p6, .flt .f32 p7, .flt .f32 p8, .int .i64 k, .flt .f32 e1, .flt .f32 e2, .flt .f32 e3] 0] (.bool (okD p1 p2 p3 p4 p5 p6 p7 p8 k e1 e2 e3)) [] := by
  have q_c_spec_l05Plant := @c_spec_l05Plant; have q_c_spec_l00In := @c_spec_l00In; have q_c_spec_l02Least := @c_spec_l02Least; have q_c_spec_l01Finite := @c_spec_l01Finite; generalize h_okPl : @okPl = g_okPl at q_c_spec_l05Plant q_c_spec_l00In q_c_spec_l02Least q_c_spec_l01Finite; generalize h_inI : @inI = g_inI at q_c_spec_l05Plant q_c_spec_l00In q_c_spec_l02Least q_c_spec_l01Finite; generalize h_lst : @lst = g_lst at q_c_spec_l05Plant q_c_spec_l00In q_c_spec_l02Least q_c_spec_l01Finite; generalize h_fin : @fin = g_fin at q_c_spec_l05Plant q_c_spec_l00In q_c_spec_l02Least q_c_spec_l01Finite
  refine Call.of_body YtnkefikpejjjcaaDoor.Env.ok Tryd.func25 rfl rfl ?_; intro o P K ho hP hK; cbv
  repeat' (first | refine And.intro ?_ ?_ | (split; all_goals try cbv) | (refine useD hP YtnkefikpejjjcaaDoor.Env.ok rfl ho (by kernel_rfl) ?_; try cbv) | (first | (refine useS hP (Call.weaken [.ptr 8] (q_c_spec_l05Plant p1 p2 p3 p4 p5 p6 p7 p8)) rfl ?_; try cbv) | (refine useRS hP (Call.weaken [.ptr 8] (q_c_spec_l05Plant p1 p2 p3 p4 p5 p6 p7 p8)) rfl ?_; try cbv) | (refine useL hP 3 (Call.weaken [.ptr 8] (q_c_spec_l05Plant p1 p2 p3 p4 p5 p6 p7 p8)) rfl rfl rfl ?_; try cbv) | (refine useRL hP 3 (Call.weaken [.ptr 8] (q_c_spec_l05Plant p1 p2 p3 p4 p5 p6 p7 p8)) rfl rfl rfl ?_; try cbv)) | (first | (refine useS hP (q_c_spec_l00In _ _ _) rfl ?_; try cbv) | (refine useRS hP (q_c_spec_l00In _ _ _) rfl ?_; try cbv) | (refine useL hP 3 (q_c_spec_l00In _ _ _) rfl rfl rfl ?_; try cbv) | (refine useRL hP 3 (q_c_spec_l00In _ _ _) rfl rfl rfl ?_; try cbv)) | (first | (refine useS hP (q_c_spec_l02Least _) rfl ?_; try cbv) | (refine useRS hP (q_c_spec_l02Least _) rfl ?_; try cbv) | (refine useL hP 3 (q_c_spec_l02Least _) rfl rfl rfl ?_; try cbv) | (refine useRL hP 3 (q_c_spec_l02Least _) rfl rfl rfl ?_; try cbv)) | (first | (refine useS hP (q_c_spec_l01Finite _) rfl ?_; try cbv) | (refine useRS hP (q_c_spec_l01Finite _) rfl ?_; try cbv) | (refine useL hP 3 (q_c_spec_l01Finite _) rfl rfl rfl ?_; try cbv) | (refine useRL hP 3 (q_c_spec_l01Finite _) rfl rfl rfl ?_; try cbv)))
  all_goals
    subst ho h_okPl h_inI h_lst h_fin
    refine hK.ret _ ⟨[], rfl, congrArg V.bool ?_, rfl⟩
    clear hK
    try simp only [std, natC, ofNat_toNat, Int.toNat_natCast, toNat_sub1, i64min, i64max, List.length_nil, List.length_cons, List.length_append, List.length_replicate, List.length_take, List.length_drop, decide_eq_true_eq, decide_eq_false_iff_not, bne_iff_ne, bne_eq_false_iff_eq, beq_iff_eq, beq_eq_false_iff_ne, cnl_0, cnl_981668463, cnl_1008981770, cnl_1015021568, cnl_1048508891, cnl_1056964608, cnl_1065353216, cnl_1073741824, cnl_1078530011, cnl_1082130432, cnl_1086918619, cnl_1090519040, cnl_1092616192, cnl_1140850688, cnl_1148846080, cnl_1174011904, cnl_1182400512, cnl_1199570944, cnl_1203982336, cnl_2147483648, cnl_3204448256, cnl_3351465984] at *
    simp_all [okD, ft]
theorem c_impl_ValidDrive (p1 p2 p3 p4 p5 p6 p7 p8 : Nat) (k : Int) (e1 e2 e3 : Nat) : Call YtnkefikpejjjcaaDoor.Env.pg 28 [.agg [.flt .f32 p1, .flt .f32 p2, .flt .f32 p3, .flt .f32 p4, .flt .f32 p5, .flt .f32 p6, .flt .f32 p7, .flt .f32 p8, .int .i64 k, .flt .f32 e1, .flt .f32 e2, .flt .f32 e3]] (.bool (okD p1 p2 p3 p4 p5 p6 p7 p8 k e1 e2 e3)) [] := by
  have q_c_impl_ValidPlant := @c_impl_ValidPlant; have q_c_impl_isState := @c_impl_isState; have q_c_impl_isLeast := @c_impl_isLeast; have q_c_impl_isFromTo := @c_impl_isFromTo; have q_c_impl_IsFinite := @c_impl_IsFinite; generalize h_okPl : @okPl = g_okPl at q_c_impl_ValidPlant q_c_impl_isState q_c_impl_isLeast q_c_impl_isFromTo q_c_impl_IsFinite; generalize h_inI : @inI = g_inI at q_c_impl_ValidPlant q_c_impl_isState q_c_impl_isLeast q_c_impl_isFromTo q_c_impl_IsFinite; generalize h_lst : @lst = g_lst at q_c_impl_ValidPlant q_c_impl_isState q_c_impl_isLeast q_c_impl_isFromTo q_c_impl_IsFinite; generalize h_ft : @ft = g_ft at q_c_impl_ValidPlant q_c_impl_isState q_c_impl_isLeast q_c_impl_isFromTo q_c_impl_IsFinite; generalize h_fin : @fin = g_fin at q_c_impl_ValidPlant q_c_impl_isState q_c_impl_isLeast q_c_impl_isFromTo q_c_impl_IsFinite
  refine Call.of_body YtnkefikpejjjcaaDoor.Env.ok Tryd.func28 rfl rfl ?_; intro o P K ho hP hK; cbv
  repeat' (first | refine And.intro ?_ ?_ | (split; all_goals try cbv) | (refine useD hP YtnkefikpejjjcaaDoor.Env.ok rfl ho (by kernel_rfl) ?_; try cbv) | (first | (refine useS hP (q_c_impl_ValidPlant p1 p2 p3 p4 p5 p6 p7 p8) rfl ?_; try cbv) | (refine useRS hP (q_c_impl_ValidPlant p1 p2 p3 p4 p5 p6 p7 p8) rfl ?_; try cbv) | (refine useL hP 3 (q_c_impl_ValidPlant p1 p2 p3 p4 p5 p6 p7 p8) rfl rfl rfl ?_; try cbv) | (refine useRL hP 3 (q_c_impl_ValidPlant p1 p2 p3 p4 p5 p6 p7 p8) rfl rfl rfl ?_; try cbv)) | (first | (refine useS hP (q_c_impl_isState _) rfl ?_; try cbv) | (refine useRS hP (q_c_impl_isState _) rfl ?_; try cbv) | (refine useL hP 3 (q_c_impl_isState _) rfl rfl rfl ?_; try cbv) | (refine useRL hP 3 (q_c_impl_isState _) rfl rfl rfl ?_; try cbv)) | (first | (refine useS hP (q_c_impl_isLeast _) rfl ?_; try cbv) | (refine useRS hP (q_c_impl_isLeast _) rfl ?_; try cbv) | (refine useL hP 3 (q_c_impl_isLeast _) rfl rfl rfl ?_; try cbv) | (refine useRL hP 3 (q_c_impl_isLeast _) rfl rfl rfl ?_; try cbv)) | (first | (refine useS hP (q_c_impl_isFromTo _ _ _) rfl ?_; try cbv) | (refine useRS hP (q_c_impl_isFromTo _ _ _) rfl ?_; try cbv) | (refine useL hP 3 (q_c_impl_isFromTo _ _ _) rfl rfl rfl ?_; try cbv) | (refine useRL hP 3 (q_c_impl_isFromTo _ _ _) rfl rfl rfl ?_; try cbv)) | (first | (refine useS hP (q_c_impl_IsFinite _) rfl ?_; try cbv) | (refine useRS hP (q_c_impl_IsFinite _) rfl ?_; try cbv) | (refine useL hP 3 (q_c_impl_IsFinite _) rfl rfl rfl ?_; try cbv) | (refine useRL hP 3 (q_c_impl_IsFinite _) rfl rfl rfl ?_; try cbv)))
  all_goals
    subst ho h_okPl h_inI h_lst h_ft h_fin
    refine hK.ret _ ⟨[], rfl, congrArg V.bool ?_, rfl⟩
    clear hK
    try simp only [std, natC, ofNat_toNat, Int.toNat_natCast, toNat_sub1, i64min, i64max, List.length_nil, List.length_cons, List.length_append, List.length_replicate, List.length_take, List.length_drop, decide_eq_true_eq, decide_eq_false_iff_not, bne_iff_ne, bne_eq_false_iff_eq, beq_iff_eq, beq_eq_false_iff_ne, cnl_0, cnl_981668463, cnl_1008981770, cnl_1015021568, cnl_1048508891, cnl_1056964608, cnl_1065353216, cnl_1073741824, cnl_1078530011, cnl_1082130432, cnl_1086918619, cnl_1090519040, cnl_1092616192, cnl_1140850688, cnl_1148846080, cnl_1174011904, cnl_1182400512, cnl_1199570944, cnl_1203982336, cnl_2147483648, cnl_3204448256, cnl_3351465984] at *
    simp_all [okD]
end Go.En
