/-
  The contracts of the functions that say whether a profile is valid. Own work.
-/
import Derived.Test.YtnkefikpejjjcaaDoorValA
set_option linter.unusedVariables false
set_option linter.unusedSimpArgs false
set_option maxRecDepth 100000
namespace Go.En
open Go.Proofs

def SLf (a : List Nat) : V := .sl (.f32 a) false
theorem k_areFinite (xs : List Nat) (t : Bool) (hn : xs.length ≤ 1099511627776) : Call YtnkefikpejjjcaaDoor.Env.pg 62 [.sl (.f32 xs) t] (.bool (allN fin xs)) [] := all_fin xs ▸ c_impl_areFinite xs t hn
theorem k_areLeast (xs : List Nat) (t : Bool) (hn : xs.length ≤ 1099511627776) : Call YtnkefikpejjjcaaDoor.Env.pg 63 [.sl (.f32 xs) t] (.bool (allN lst xs)) [] := all_lst xs ▸ c_impl_areLeast xs t hn
theorem k_arePositive (xs : List Nat) (t : Bool) (hn : xs.length ≤ 1099511627776) : Call YtnkefikpejjjcaaDoor.Env.pg 66 [.sl (.f32 xs) t] (.bool (allN pos xs)) [] := all_pos xs ▸ c_impl_arePositive xs t hn

def rise (a : List Nat) (i : Nat) : Bool := ft (a.getD i 0) 3204448256 1056964608 && (decide (i = 0) || !fle .f32 (a.getD i 0) (a.getD (i - 1) 0))
def okP (a b c : List Nat) : Bool := decide (2 ≤ a.length) && (decide (a.length ≤ 24) && (decide (b.length = a.length) && (decide (c.length = a.length) && (allN fin b && (allN lst c && allI a.length (rise a))))))
theorem okP_iff {a b c : List Nat} : okP a b c = true ↔ 2 ≤ a.length ∧ a.length ≤ 24 ∧ b.length = a.length ∧ c.length = a.length ∧ ∀ i, i < a.length → rise a i = true ∧ fin (b.getD i 0) = true ∧ lst (c.getD i 0) = true := by
  unfold okP allN
  simp only [Bool.and_eq_true, decide_eq_true_eq, allI_iff]
  constructor
  · rintro ⟨h1, h2, h3, h4, h5, h6, h7⟩
    exact ⟨h1, h2, h3, h4, fun i hi => ⟨h7 i hi, h5 i (by omega), h6 i (by omega)⟩⟩
  · rintro ⟨h1, h2, h3, h4, h5⟩
    exact ⟨h1, h2, h3, h4, fun i hi => (h5 i (by omega)).2.1, fun i hi => (h5 i (by omega)).2.2, fun i hi => (h5 i hi).1⟩
theorem sub1 {i : Nat} (h : 0 < i) : std.sub (Int.ofNat i) 1 = Int.ofNat (i - 1) := by
  show (i : Int) - 1 = ((i - 1 : Nat) : Int)
  omega
theorem gt0 {i : Nat} : std.ilt 0 (Int.ofNat i) = true → 0 < i := fun h => by
  have h : decide ((0 : Int) < (i : Int)) = true := h
  have := of_decide_eq_true h
  omega
theorem gt0F {i : Nat} : std.ilt 0 (Int.ofNat i) = false → i = 0 := fun h => by
  have h : decide ((0 : Int) < (i : Int)) = false := h
  have := of_decide_eq_false h
  omega
theorem rng_nat {n : Nat} (h : n ≤ 1099511627776) : std.rng .i64 (Int.ofNat n) := by
  rw [std_rng]
  show -9223372036854775808 ≤ (n : Int) ∧ (n : Int) ≤ 9223372036854775807
  omega
theorem nxt {p : Nat → Prop} {i : Nat} (h : ∀ j, j < i → p j) (hi : p i) : ∀ j, j < i + 1 → p j := fun j hj => by
  rcases Nat.lt_or_ge j i with h' | h'
  · exact h j h'
  · rw [show j = i by omega]; exact hi
theorem c_spec_l02Is (a b c : List Nat) : Call YtnkefikpejjjcaaDoor.Env.pg 33 [.sp [SLf a, SLf b, SLf c] 0] (.bool (okP a b c)) [] := by
  have q_c_spec_l01Finite := @c_spec_l01Finite; have q_c_spec_l02Least := @c_spec_l02Least; generalize h_fin : @fin = g_fin at q_c_spec_l01Finite q_c_spec_l02Least; generalize h_lst : @lst = g_lst at q_c_spec_l01Finite q_c_spec_l02Least
  refine Call.of_body YtnkefikpejjjcaaDoor.Env.ok Tryd.func33 rfl rfl ?_; intro o P K ho hP hK; cbv
  repeat' (first | (split; all_goals try cbv) | refine And.intro ?_ ?_)
  iterate 4
    · subst ho
      refine hK.ret _ ⟨[], rfl, congrArg V.bool ?_, rfl⟩
      symm
      rw [Bool.eq_false_iff]
      intro h
      rw [okP_iff] at h
      simp only [std, natC, ofNat_toNat, Int.toNat_natCast, toNat_sub1, i64min, i64max, List.length_nil, List.length_cons, List.length_append, List.length_replicate, List.length_take, List.length_drop, decide_eq_true_eq, decide_eq_false_iff_not, bne_iff_ne, bne_eq_false_iff_eq, beq_iff_eq, beq_eq_false_iff_ne, cnl_0, cnl_981668463, cnl_1008981770, cnl_1015021568, cnl_1048508891, cnl_1056964608, cnl_1065353216, cnl_1073741824, cnl_1078530011, cnl_1082130432, cnl_1086918619, cnl_1090519040, cnl_1092616192, cnl_1140850688, cnl_1148846080, cnl_1174011904, cnl_1182400512, cnl_1199570944, cnl_1203982336, cnl_2147483648, cnl_3204448256, cnl_3351465984] at *
      simp_all
      try omega
  have hc : 2 ≤ a.length ∧ a.length ≤ 24 ∧ b.length = a.length ∧ c.length = a.length := by
    subst ho
    simp only [std, natC, ofNat_toNat, Int.toNat_natCast, toNat_sub1, i64min, i64max, List.length_nil, List.length_cons, List.length_append, List.length_replicate, List.length_take, List.length_drop, decide_eq_true_eq, decide_eq_false_iff_not, bne_iff_ne, bne_eq_false_iff_eq, beq_iff_eq, beq_eq_false_iff_ne, cnl_0, cnl_981668463, cnl_1008981770, cnl_1015021568, cnl_1048508891, cnl_1056964608, cnl_1065353216, cnl_1073741824, cnl_1078530011, cnl_1082130432, cnl_1086918619, cnl_1090519040, cnl_1092616192, cnl_1140850688, cnl_1148846080, cnl_1174011904, cnl_1182400512, cnl_1199570944, cnl_1203982336, cnl_2147483648, cnl_3204448256, cnl_3351465984] at *
    simp_all
    omega
  obtain ⟨l1, l2, l3, l4⟩ := hc
  refine useW hP YtnkefikpejjjcaaDoor.Env.ok ho (fun s : {i : Nat // ∀ j, j < i → rise a j = true ∧ g_fin (b.getD j 0) = true ∧ g_lst (c.getD j 0) = true} => ⟨100, 0, [(0, .sp [SLf a, SLf b, SLf c] 0), (3, .int .i64 (o.len a)), (4, .int .i64 (Int.ofNat s.1))], []⟩) (fun s => a.length - s.1) ⟨0, fun j h => absurd h (Nat.not_lt_zero j)⟩ [] [0, 3, 4] rfl rfl (fun _ => rfl) (fun _ => rfl) ?_
  rintro ⟨i, hi⟩ K' hL
  cbv
  repeat' (first | (split; all_goals try cbv) | refine And.intro ?_ ?_)
  · have hlt : i < a.length := by subst ho; exact ieqB ‹_›
    repeat' (first | refine And.intro ?_ ?_ | (split; all_goals try cbv) | (refine useD hP YtnkefikpejjjcaaDoor.Env.ok rfl ho (by kernel_rfl) ?_; try cbv) | (first | (refine useS hP (q_c_spec_l01Finite _) rfl ?_; try cbv) | (refine useRS hP (q_c_spec_l01Finite _) rfl ?_; try cbv) | (refine useL hP 3 (q_c_spec_l01Finite _) rfl rfl rfl ?_; try cbv) | (refine useRL hP 3 (q_c_spec_l01Finite _) rfl rfl rfl ?_; try cbv)) | (first | (refine useS hP (q_c_spec_l02Least _) rfl ?_; try cbv) | (refine useRS hP (q_c_spec_l02Least _) rfl ?_; try cbv) | (refine useL hP 3 (q_c_spec_l02Least _) rfl rfl rfl ?_; try cbv) | (refine useRL hP 3 (q_c_spec_l02Least _) rfl rfl rfl ?_; try cbv)))
    all_goals first
      | (subst ho; (try clear hL); (try clear hK); simp only [std, natC, ofNat_toNat, Int.toNat_natCast, toNat_sub1, i64min, i64max, List.length_nil, List.length_cons, List.length_append, List.length_replicate, List.length_take, List.length_drop, decide_eq_true_eq, decide_eq_false_iff_not, bne_iff_ne, bne_eq_false_iff_eq, beq_iff_eq, beq_eq_false_iff_ne, cnl_0, cnl_981668463, cnl_1008981770, cnl_1015021568, cnl_1048508891, cnl_1056964608, cnl_1065353216, cnl_1073741824, cnl_1078530011, cnl_1082130432, cnl_1086918619, cnl_1090519040, cnl_1092616192, cnl_1140850688, cnl_1148846080, cnl_1174011904, cnl_1182400512, cnl_1199570944, cnl_1203982336, cnl_2147483648, cnl_3204448256, cnl_3351465984] at *; omega)
      | (refine hL.ret _ ?_; cbv; subst ho h_fin h_lst; refine hK.ret _ ⟨[], rfl, congrArg V.bool ?_, rfl⟩; clear hL hK; symm; rw [Bool.eq_false_iff]; intro h; have h := (okP_iff.1 h).2.2.2.2 i hlt; unfold rise ft at h; simp only [std, natC, ofNat_toNat, Int.toNat_natCast, toNat_sub1, i64min, i64max, List.length_nil, List.length_cons, List.length_append, List.length_replicate, List.length_take, List.length_drop, decide_eq_true_eq, decide_eq_false_iff_not, bne_iff_ne, bne_eq_false_iff_eq, beq_iff_eq, beq_eq_false_iff_ne, cnl_0, cnl_981668463, cnl_1008981770, cnl_1015021568, cnl_1048508891, cnl_1056964608, cnl_1065353216, cnl_1073741824, cnl_1078530011, cnl_1082130432, cnl_1086918619, cnl_1090519040, cnl_1092616192, cnl_1140850688, cnl_1148846080, cnl_1174011904, cnl_1182400512, cnl_1199570944, cnl_1203982336, cnl_2147483648, cnl_3204448256, cnl_3351465984] at *; simp_all; done)
      | (subst ho; refine hL.next _ ⟨⟨i + 1, nxt hi ?_⟩, [], [0, 3, 4], rfl, rfl, by show a.length - (i + 1) < a.length - i; omega⟩; clear hL hK; subst h_fin h_lst; unfold rise ft; simp only [std, natC, ofNat_toNat, Int.toNat_natCast, toNat_sub1, i64min, i64max, List.length_nil, List.length_cons, List.length_append, List.length_replicate, List.length_take, List.length_drop, decide_eq_true_eq, decide_eq_false_iff_not, bne_iff_ne, bne_eq_false_iff_eq, beq_iff_eq, beq_eq_false_iff_ne, cnl_0, cnl_981668463, cnl_1008981770, cnl_1015021568, cnl_1048508891, cnl_1056964608, cnl_1065353216, cnl_1073741824, cnl_1078530011, cnl_1082130432, cnl_1086918619, cnl_1090519040, cnl_1092616192, cnl_1140850688, cnl_1148846080, cnl_1174011904, cnl_1182400512, cnl_1199570944, cnl_1203982336, cnl_2147483648, cnl_3204448256, cnl_3351465984] at *; simp_all; try omega)
  · have hge : a.length ≤ i := by subst ho; exact igeB ‹_›
    refine hL.out _ _ ?_
    cbv
    subst ho h_fin h_lst
    refine hK.ret _ ⟨[], rfl, congrArg V.bool ?_, rfl⟩
    exact (okP_iff.2 ⟨l1, l2, l3, l4, fun j hj => hi j (by omega)⟩).symm
end Go.En
