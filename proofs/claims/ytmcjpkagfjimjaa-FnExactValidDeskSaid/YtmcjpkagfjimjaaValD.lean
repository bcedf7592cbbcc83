/-
  The contracts of the functions that say whether a rotor, a farm, a desk is valid. Own work.
-/
import Derived.Test.YtmcjpkagfjimjaaValC
set_option linter.unusedVariables false
set_option linter.unusedSimpArgs false
set_option maxRecDepth 100000
namespace Go.En
open Go.Proofs

/-- What stands ahead of a station. -/
def bef (h : Nat) (s : List S3) : Nat → Nat
  | 0 => h
  | i + 1 => (s.getD i (0, 0, 0)).1
def stOK (h t : Nat) (s : List S3) (i : Nat) : Bool := fgt .f32 (s.getD i (0, 0, 0)).1 (bef h s i) && (flt .f32 (s.getD i (0, 0, 0)).1 t && (pos (s.getD i (0, 0, 0)).2.1 && fin (s.getD i (0, 0, 0)).2.2))
def okR (a b c : List Nat) (s : List S3) (n : Int) (h t : Nat) : Bool := okP a b c && (decide (2 ≤ s.length) && (decide (s.length ≤ 12) && (inI n 1 6 && (lst h && (fin t && allI s.length (stOK h t s))))))
def rotC' (a b c : List Nat) (s : List S3) (n : Int) (h t : Nat) : List V := [SLf a, SLf b, SLf c, .sl (.r3 s) false, .int .i64 n, .flt .f32 h, .flt .f32 t]
theorem c_spec_l03Is (a b c : List Nat) (s : List S3) (n : Int) (h t : Nat) : Call Try.prog 74 [.sp (rotC' a b c s n h t) 0] (.bool (okR a b c s n h t)) [] := by
  have leaf : okR a b c s n h t = (okP a b c && (decide (2 ≤ s.length) && (decide (s.length ≤ 12) && (inI n 1 6 && (lst h && (fin t && allI s.length (stOK h t s))))))) := rfl
  have q_c_spec_l02Is := @c_spec_l02Is; have q_c_spec_l00In := @c_spec_l00In; have q_c_spec_l02Least := @c_spec_l02Least; have q_c_spec_l01Finite := @c_spec_l01Finite; have q_c_spec_l02Above := @c_spec_l02Above; generalize h_okP : @okP = g_okP at q_c_spec_l02Is q_c_spec_l00In q_c_spec_l02Least q_c_spec_l01Finite q_c_spec_l02Above; generalize h_inI : @inI = g_inI at q_c_spec_l02Is q_c_spec_l00In q_c_spec_l02Least q_c_spec_l01Finite q_c_spec_l02Above; generalize h_lst : @lst = g_lst at q_c_spec_l02Is q_c_spec_l00In q_c_spec_l02Least q_c_spec_l01Finite q_c_spec_l02Above; generalize h_fin : @fin = g_fin at q_c_spec_l02Is q_c_spec_l00In q_c_spec_l02Least q_c_spec_l01Finite q_c_spec_l02Above; generalize h_pos : @pos = g_pos at q_c_spec_l02Is q_c_spec_l00In q_c_spec_l02Least q_c_spec_l01Finite q_c_spec_l02Above
  refine Call.of_body Ytmcjpkagfjimjaa.Env.ok Try.func74 rfl rfl ?_; intro o P K ho hP hK; cbv
  repeat' (first | refine And.intro ?_ ?_ | (split; all_goals try cbv) | (refine useD hP Ytmcjpkagfjimjaa.Env.ok rfl ho (by kernel_rfl) ?_; try cbv) | (first | (refine useS hP (Call.weaken [.ptr 3] (q_c_spec_l02Is a b c)) rfl ?_; try cbv) | (refine useRS hP (Call.weaken [.ptr 3] (q_c_spec_l02Is a b c)) rfl ?_; try cbv) | (refine useL hP 3 (Call.weaken [.ptr 3] (q_c_spec_l02Is a b c)) rfl rfl rfl ?_; try cbv) | (refine useRL hP 3 (Call.weaken [.ptr 3] (q_c_spec_l02Is a b c)) rfl rfl rfl ?_; try cbv)) | (first | (refine useS hP (q_c_spec_l00In _ _ _) rfl ?_; try cbv) | (refine useRS hP (q_c_spec_l00In _ _ _) rfl ?_; try cbv) | (refine useL hP 3 (q_c_spec_l00In _ _ _) rfl rfl rfl ?_; try cbv) | (refine useRL hP 3 (q_c_spec_l00In _ _ _) rfl rfl rfl ?_; try cbv)) | (first | (refine useS hP (q_c_spec_l02Least _) rfl ?_; try cbv) | (refine useRS hP (q_c_spec_l02Least _) rfl ?_; try cbv) | (refine useL hP 3 (q_c_spec_l02Least _) rfl rfl rfl ?_; try cbv) | (refine useRL hP 3 (q_c_spec_l02Least _) rfl rfl rfl ?_; try cbv)) | (first | (refine useS hP (q_c_spec_l01Finite _) rfl ?_; try cbv) | (refine useRS hP (q_c_spec_l01Finite _) rfl ?_; try cbv) | (refine useL hP 3 (q_c_spec_l01Finite _) rfl rfl rfl ?_; try cbv) | (refine useRL hP 3 (q_c_spec_l01Finite _) rfl rfl rfl ?_; try cbv)))
  all_goals try (subst ho; refine hK.ret _ ⟨[], rfl, congrArg V.bool ?_, rfl⟩; rw [leaf]; clear hK; subst h_okP h_inI h_lst h_fin; (try simp only [std, natC, ofNat_toNat, Int.toNat_natCast, toNat_sub1, i64min, i64max, decide_eq_true_eq, decide_eq_false_iff_not, bne_iff_ne, bne_eq_false_iff_eq, beq_iff_eq, beq_eq_false_iff_ne, cnl_0, cnl_981668463, cnl_1008981770, cnl_1015021568, cnl_1048508891, cnl_1056964608, cnl_1065353216, cnl_1073741824, cnl_1078530011, cnl_1082130432, cnl_1086918619, cnl_1090519040, cnl_1092616192, cnl_1140850688, cnl_1148846080, cnl_1174011904, cnl_1182400512, cnl_1199570944, cnl_1203982336, cnl_2147483648, cnl_3204448256, cnl_3351465984] at *); first | (simp_all; done) | (simp_all; omega))
  have hq : 2 ≤ s.length ∧ s.length ≤ 12 := by
    subst ho
    clear hK
    try simp only [std, natC, ofNat_toNat, Int.toNat_natCast, toNat_sub1, i64min, i64max, decide_eq_true_eq, decide_eq_false_iff_not, bne_iff_ne, bne_eq_false_iff_eq, beq_iff_eq, beq_eq_false_iff_ne, cnl_0, cnl_981668463, cnl_1008981770, cnl_1015021568, cnl_1048508891, cnl_1056964608, cnl_1065353216, cnl_1073741824, cnl_1078530011, cnl_1082130432, cnl_1086918619, cnl_1090519040, cnl_1092616192, cnl_1140850688, cnl_1148846080, cnl_1174011904, cnl_1182400512, cnl_1199570944, cnl_1203982336, cnl_2147483648, cnl_3204448256, cnl_3351465984] at *
    simp_all
    try omega
  have hp : okP a b c = true ∧ inI n 1 6 = true ∧ lst h = true ∧ fin t = true := by subst h_okP h_inI h_lst h_fin; refine ⟨?_, ?_, ?_, ?_⟩ <;> assumption
  obtain ⟨l1, l2⟩ := hq
  refine useW hP Ytmcjpkagfjimjaa.Env.ok ho (fun z : {i : Nat // ∀ j, j < i → stOK h t s j = true} => ⟨98, 0, [(0, .sp (rotC' a b c s n h t) 0), (4, .flt .f32 (bef h s z.1)), (57, .int .i64 (o.len s)), (58, .int .i64 (Int.ofNat z.1))], []⟩) (fun z => s.length - z.1) ⟨0, fun j h => absurd h (Nat.not_lt_zero j)⟩ [] [0, 4, 57, 58] rfl rfl (fun _ => rfl) (fun _ => rfl) ?_
  rintro ⟨i, hi⟩ K' hL
  generalize hbf : bef h s i = bf at hL ⊢
  cbv
  repeat' (first | (split; all_goals try cbv) | refine And.intro ?_ ?_)
  · subst ho; exact idxN (ieqB ‹_›)
  · have hlt : i < s.length := by subst ho; exact ieqB ‹_›
    repeat' (first | refine And.intro ?_ ?_ | (split; all_goals try cbv) | (refine useD hP Ytmcjpkagfjimjaa.Env.ok rfl ho (by kernel_rfl) ?_; try cbv) | (first | (refine useS hP (q_c_spec_l02Above _) rfl ?_; try cbv) | (refine useRS hP (q_c_spec_l02Above _) rfl ?_; try cbv) | (refine useL hP 3 (q_c_spec_l02Above _) rfl rfl rfl ?_; try cbv) | (refine useRL hP 3 (q_c_spec_l02Above _) rfl rfl rfl ?_; try cbv)) | (first | (refine useS hP (q_c_spec_l01Finite _) rfl ?_; try cbv) | (refine useRS hP (q_c_spec_l01Finite _) rfl ?_; try cbv) | (refine useL hP 3 (q_c_spec_l01Finite _) rfl rfl rfl ?_; try cbv) | (refine useRL hP 3 (q_c_spec_l01Finite _) rfl rfl rfl ?_; try cbv)))
    all_goals first
      | (subst ho; (try clear hL); (try clear hK); simp only [std, natC, ofNat_toNat, Int.toNat_natCast, toNat_sub1, i64min, i64max, decide_eq_true_eq, decide_eq_false_iff_not, bne_iff_ne, bne_eq_false_iff_eq, beq_iff_eq, beq_eq_false_iff_ne, cnl_0, cnl_981668463, cnl_1008981770, cnl_1015021568, cnl_1048508891, cnl_1056964608, cnl_1065353216, cnl_1073741824, cnl_1078530011, cnl_1082130432, cnl_1086918619, cnl_1090519040, cnl_1092616192, cnl_1140850688, cnl_1148846080, cnl_1174011904, cnl_1182400512, cnl_1199570944, cnl_1203982336, cnl_2147483648, cnl_3204448256, cnl_3351465984] at *; omega)
      | (refine hL.ret _ ?_; cbv; subst ho h_okP h_inI h_lst h_fin h_pos; refine hK.ret _ ⟨[], rfl, congrArg V.bool ?_, rfl⟩; clear hL hK; symm; rw [Bool.eq_false_iff]; intro h; rw [leaf] at h; simp only [Bool.and_eq_true, allI_iff] at h; have h := h.2.2.2.2.2.2 i hlt; unfold stOK at h; rw [hbf] at h; clear hi leaf hp; simp only [std, natC, ofNat_toNat, Int.toNat_natCast, toNat_sub1, i64min, i64max, decide_eq_true_eq, decide_eq_false_iff_not, bne_iff_ne, bne_eq_false_iff_eq, beq_iff_eq, beq_eq_false_iff_ne, cnl_0, cnl_981668463, cnl_1008981770, cnl_1015021568, cnl_1048508891, cnl_1056964608, cnl_1065353216, cnl_1073741824, cnl_1078530011, cnl_1082130432, cnl_1086918619, cnl_1090519040, cnl_1092616192, cnl_1140850688, cnl_1148846080, cnl_1174011904, cnl_1182400512, cnl_1199570944, cnl_1203982336, cnl_2147483648, cnl_3204448256, cnl_3351465984] at *; simp_all; done)
      | (subst ho; refine hL.next _ ⟨⟨i + 1, nxt hi ?_⟩, [], [0, 4, 57, 58], rfl, rfl, by show s.length - (i + 1) < s.length - i; omega⟩; clear hL hK; subst h_okP h_inI h_lst h_fin h_pos; unfold stOK; rw [hbf]; clear hi leaf hp; simp only [std, natC, ofNat_toNat, Int.toNat_natCast, toNat_sub1, i64min, i64max, decide_eq_true_eq, decide_eq_false_iff_not, bne_iff_ne, bne_eq_false_iff_eq, beq_iff_eq, beq_eq_false_iff_ne, cnl_0, cnl_981668463, cnl_1008981770, cnl_1015021568, cnl_1048508891, cnl_1056964608, cnl_1065353216, cnl_1073741824, cnl_1078530011, cnl_1082130432, cnl_1086918619, cnl_1090519040, cnl_1092616192, cnl_1140850688, cnl_1148846080, cnl_1174011904, cnl_1182400512, cnl_1199570944, cnl_1203982336, cnl_2147483648, cnl_3204448256, cnl_3351465984] at *; simp_all; try omega)
  · have hge : s.length ≤ i := by subst ho; exact igeB ‹_›
    refine hL.out _ _ ?_
    cbv
    subst ho
    refine hK.ret _ ⟨[], rfl, congrArg V.bool ?_, rfl⟩
    rw [leaf, hp.1, hp.2.1, hp.2.2.1, hp.2.2.2, allI_true (p := stOK h t s) (fun j hj => hi j (by omega))]
    simp [l1, l2]
theorem c_impl_ValidRotor (a b c : List Nat) (s : List S3) (n : Int) (h t : Nat) (ha : a.length ≤ 1099511627776) (hb : b.length ≤ 1099511627776) (hc : c.length ≤ 1099511627776) : Call Try.prog 36 [.agg (rotC' a b c s n h t)] (.bool (okR a b c s n h t)) [] := by
  have leaf : okR a b c s n h t = (okP a b c && (decide (2 ≤ s.length) && (decide (s.length ≤ 12) && (inI n 1 6 && (lst h && (fin t && allI s.length (stOK h t s))))))) := rfl
  have s1 : ∀ x : Nat, ([x] : List Nat).length ≤ 1099511627776 := fun x => by simp
  have q_c_impl_ValidProfile := @c_impl_ValidProfile; have q_c_impl_within := @c_impl_within; have q_c_impl_isLeast := @c_impl_isLeast; have q_c_impl_IsFinite := @c_impl_IsFinite; have q_k_arePositive := @k_arePositive; generalize h_okP : @okP = g_okP at q_c_impl_ValidProfile q_c_impl_within q_c_impl_isLeast q_c_impl_IsFinite q_k_arePositive; generalize h_inI : @inI = g_inI at q_c_impl_ValidProfile q_c_impl_within q_c_impl_isLeast q_c_impl_IsFinite q_k_arePositive; generalize h_lst : @lst = g_lst at q_c_impl_ValidProfile q_c_impl_within q_c_impl_isLeast q_c_impl_IsFinite q_k_arePositive; generalize h_fin : @fin = g_fin at q_c_impl_ValidProfile q_c_impl_within q_c_impl_isLeast q_c_impl_IsFinite q_k_arePositive; generalize h_allN : @allN = g_allN at q_c_impl_ValidProfile q_c_impl_within q_c_impl_isLeast q_c_impl_IsFinite q_k_arePositive
  refine Call.of_body Ytmcjpkagfjimjaa.Env.ok Try.func36 rfl rfl ?_; intro o P K ho hP hK; cbv
  repeat' (first | refine And.intro ?_ ?_ | (split; all_goals try cbv) | (refine useD hP Ytmcjpkagfjimjaa.Env.ok rfl ho (by kernel_rfl) ?_; try cbv) | (first | (refine useS hP (q_c_impl_ValidProfile a b c ha hb hc) rfl ?_; try cbv) | (refine useRS hP (q_c_impl_ValidProfile a b c ha hb hc) rfl ?_; try cbv) | (refine useL hP 3 (q_c_impl_ValidProfile a b c ha hb hc) rfl rfl rfl ?_; try cbv) | (refine useRL hP 3 (q_c_impl_ValidProfile a b c ha hb hc) rfl rfl rfl ?_; try cbv)) | (first | (refine useS hP (q_c_impl_within _ _ _) rfl ?_; try cbv) | (refine useRS hP (q_c_impl_within _ _ _) rfl ?_; try cbv) | (refine useL hP 3 (q_c_impl_within _ _ _) rfl rfl rfl ?_; try cbv) | (refine useRL hP 3 (q_c_impl_within _ _ _) rfl rfl rfl ?_; try cbv)) | (first | (refine useS hP (q_c_impl_isLeast _) rfl ?_; try cbv) | (refine useRS hP (q_c_impl_isLeast _) rfl ?_; try cbv) | (refine useL hP 3 (q_c_impl_isLeast _) rfl rfl rfl ?_; try cbv) | (refine useRL hP 3 (q_c_impl_isLeast _) rfl rfl rfl ?_; try cbv)) | (first | (refine useS hP (q_c_impl_IsFinite _) rfl ?_; try cbv) | (refine useRS hP (q_c_impl_IsFinite _) rfl ?_; try cbv) | (refine useL hP 3 (q_c_impl_IsFinite _) rfl rfl rfl ?_; try cbv) | (refine useRL hP 3 (q_c_impl_IsFinite _) rfl rfl rfl ?_; try cbv)))
  all_goals try (subst ho; refine hK.ret _ ⟨[], rfl, congrArg V.bool ?_, rfl⟩; rw [leaf]; clear hK; subst h_okP h_inI h_lst h_fin h_allN; (try simp only [std, natC, ofNat_toNat, Int.toNat_natCast, toNat_sub1, i64min, i64max, decide_eq_true_eq, decide_eq_false_iff_not, bne_iff_ne, bne_eq_false_iff_eq, beq_iff_eq, beq_eq_false_iff_ne, cnl_0, cnl_981668463, cnl_1008981770, cnl_1015021568, cnl_1048508891, cnl_1056964608, cnl_1065353216, cnl_1073741824, cnl_1078530011, cnl_1082130432, cnl_1086918619, cnl_1090519040, cnl_1092616192, cnl_1140850688, cnl_1148846080, cnl_1174011904, cnl_1182400512, cnl_1199570944, cnl_1203982336, cnl_2147483648, cnl_3204448256, cnl_3351465984] at *); first | (simp_all; done) | (simp_all; omega))
  have hq : 2 ≤ s.length ∧ s.length ≤ 12 := by
    subst ho
    clear hK
    try simp only [std, natC, ofNat_toNat, Int.toNat_natCast, toNat_sub1, i64min, i64max, decide_eq_true_eq, decide_eq_false_iff_not, bne_iff_ne, bne_eq_false_iff_eq, beq_iff_eq, beq_eq_false_iff_ne, cnl_0, cnl_981668463, cnl_1008981770, cnl_1015021568, cnl_1048508891, cnl_1056964608, cnl_1065353216, cnl_1073741824, cnl_1078530011, cnl_1082130432, cnl_1086918619, cnl_1090519040, cnl_1092616192, cnl_1140850688, cnl_1148846080, cnl_1174011904, cnl_1182400512, cnl_1199570944, cnl_1203982336, cnl_2147483648, cnl_3204448256, cnl_3351465984] at *
    simp_all
    try omega
  have hp : okP a b c = true ∧ inI n 1 6 = true ∧ lst h = true ∧ fin t = true := by subst h_okP h_inI h_lst h_fin; refine ⟨?_, ?_, ?_, ?_⟩ <;> assumption
  obtain ⟨l1, l2⟩ := hq
  refine useW hP Ytmcjpkagfjimjaa.Env.ok ho (fun z : {i : Nat // ∀ j, j < i → stOK h t s j = true} => ⟨77, 0, [(1, .lp 0 0), (4, .flt .f32 (bef h s z.1)), (43, .sl (.r3 s) false), (44, .int .i64 (o.len s)), (45, .int .i64 (Int.ofNat z.1))], [.cells (rotC' a b c s n h t)]⟩) (fun z => s.length - z.1) ⟨0, fun j h => absurd h (Nat.not_lt_zero j)⟩ [0] [1, 4, 43, 44, 45] rfl rfl (fun _ => rfl) (fun _ => rfl) ?_
  rintro ⟨i, hi⟩ K' hL
  generalize hbf : bef h s i = bf at hL ⊢
  cbv
  split
  · have hlt : i < s.length := by subst ho; exact ieqB ‹_›
    cbv
    repeat' (first | refine And.intro ?_ ?_ | (split; all_goals try cbv) | (refine useD hP Ytmcjpkagfjimjaa.Env.ok rfl ho (by kernel_rfl) ?_; try cbv) | (first | (refine useS hP (q_k_arePositive _ false (s1 _)) rfl ?_; try cbv) | (refine useRS hP (q_k_arePositive _ false (s1 _)) rfl ?_; try cbv) | (refine useL hP 3 (q_k_arePositive _ false (s1 _)) rfl rfl rfl ?_; try cbv) | (refine useRL hP 3 (q_k_arePositive _ false (s1 _)) rfl rfl rfl ?_; try cbv)) | (first | (refine useS hP (q_c_impl_IsFinite _) rfl ?_; try cbv) | (refine useRS hP (q_c_impl_IsFinite _) rfl ?_; try cbv) | (refine useL hP 3 (q_c_impl_IsFinite _) rfl rfl rfl ?_; try cbv) | (refine useRL hP 3 (q_c_impl_IsFinite _) rfl rfl rfl ?_; try cbv)))
    all_goals first
      | (subst ho; (try clear hL); (try clear hK); simp only [std, natC, ofNat_toNat, Int.toNat_natCast, toNat_sub1, i64min, i64max, decide_eq_true_eq, decide_eq_false_iff_not, bne_iff_ne, bne_eq_false_iff_eq, beq_iff_eq, beq_eq_false_iff_ne, cnl_0, cnl_981668463, cnl_1008981770, cnl_1015021568, cnl_1048508891, cnl_1056964608, cnl_1065353216, cnl_1073741824, cnl_1078530011, cnl_1082130432, cnl_1086918619, cnl_1090519040, cnl_1092616192, cnl_1140850688, cnl_1148846080, cnl_1174011904, cnl_1182400512, cnl_1199570944, cnl_1203982336, cnl_2147483648, cnl_3204448256, cnl_3351465984] at *; omega)
      | (refine hL.ret _ ?_; cbv; subst ho h_okP h_inI h_lst h_fin h_allN; refine hK.ret _ ⟨[], rfl, congrArg V.bool ?_, rfl⟩; clear hL hK; symm; rw [Bool.eq_false_iff]; intro h; rw [leaf] at h; simp only [Bool.and_eq_true, allI_iff] at h; have h := h.2.2.2.2.2.2 i hlt; unfold stOK at h; rw [hbf] at h; clear hi leaf hp; simp only [std, natC, ofNat_toNat, Int.toNat_natCast, toNat_sub1, i64min, i64max, decide_eq_true_eq, decide_eq_false_iff_not, bne_iff_ne, bne_eq_false_iff_eq, beq_iff_eq, beq_eq_false_iff_ne, cnl_0, cnl_981668463, cnl_1008981770, cnl_1015021568, cnl_1048508891, cnl_1056964608, cnl_1065353216, cnl_1073741824, cnl_1078530011, cnl_1082130432, cnl_1086918619, cnl_1090519040, cnl_1092616192, cnl_1140850688, cnl_1148846080, cnl_1174011904, cnl_1182400512, cnl_1199570944, cnl_1203982336, cnl_2147483648, cnl_3204448256, cnl_3351465984, allN_1] at *; simp_all; done)
      | (subst ho; refine hL.next _ ⟨⟨i + 1, nxt hi ?_⟩, [0], [1, 4, 43, 44, 45], rfl, rfl, by show s.length - (i + 1) < s.length - i; omega⟩; clear hL hK; subst h_okP h_inI h_lst h_fin h_allN; unfold stOK; rw [hbf]; clear hi leaf hp; simp only [std, natC, ofNat_toNat, Int.toNat_natCast, toNat_sub1, i64min, i64max, decide_eq_true_eq, decide_eq_false_iff_not, bne_iff_ne, bne_eq_false_iff_eq, beq_iff_eq, beq_eq_false_iff_ne, cnl_0, cnl_981668463, cnl_1008981770, cnl_1015021568, cnl_1048508891, cnl_1056964608, cnl_1065353216, cnl_1073741824, cnl_1078530011, cnl_1082130432, cnl_1086918619, cnl_1090519040, cnl_1092616192, cnl_1140850688, cnl_1148846080, cnl_1174011904, cnl_1182400512, cnl_1199570944, cnl_1203982336, cnl_2147483648, cnl_3204448256, cnl_3351465984, allN_1] at *; simp_all; try omega)
  · have hge : s.length ≤ i := by subst ho; exact igeB ‹_›
    cbv
    refine hL.out _ _ ?_
    cbv
    subst ho
    refine hK.ret _ ⟨[], rfl, congrArg V.bool ?_, rfl⟩
    rw [leaf, hp.1, hp.2.1, hp.2.2.1, hp.2.2.2, allI_true (p := stOK h t s) (fun j hj => hi j (by omega))]
    simp [l1, l2]
end Go.En
