/-
  The contracts of the texts of a profile, of the program's and of the reference's, and the law FnExactProfileText. Own work.
-/
import Derived.Test.YtnkefikpejjjcaaDoorEnv
import Derived.Test.YtnkefikpejjjcaaDoorTxtE
import Derived.Test.YtnkefikpejjjcaaDoorValC
import Derived.Test.YtnkefikpejjjcaaDoorLawA
set_option linter.unusedVariables false
set_option linter.unusedSimpArgs false
set_option maxRecDepth 100000
set_option maxHeartbeats 4000000
namespace Go.En
open Go.Proofs

def colon : ByteArray := ⟨#[58]⟩
def semi : ByteArray := ⟨#[59]⟩
def profT (a b c : List Nat) : ByteArray := numT a ++ colon ++ numT b ++ colon ++ numT c
theorem numT_size (xs : List Nat) : (numT xs).size ≤ 9 * xs.length + 4 := by
  cases xs with
  | nil => decide
  | cons x r => exact Nat.le_trans (jn_size _) (by omega)
theorem app_size (a b : ByteArray) : (a ++ b).size = a.size + b.size := by simp
theorem lit1 (x : UInt8) : (ByteArray.mk ⟨[x]⟩).size = 1 := rfl
theorem c_l08Profile (a b c : List Nat) (ha : BL a) (hb : BL b) (hc : BL c) (la : a.length ≤ 256) (lb : b.length ≤ 256) (lc : c.length ≤ 256) : Call YtnkefikpejjjcaaDoor.Env.pg 34 [.sp [SLf a, SLf b, SLf c] 0] (.str (profT a b c)) [] := by
  have qa := c_l01NText a false ha la
  have qb := c_l01NText b false hb lb
  have qc := c_l01NText c false hc lc
  have za := numT_size a
  have zb := numT_size b
  have zc := numT_size c
  have e : profT a b c = numT a ++ colon ++ numT b ++ colon ++ numT c := rfl
  generalize profT a b c = res at e ⊢
  generalize numT a = ta at qa za e
  generalize numT b = tb at qb zb e
  generalize numT c = tc at qc zc e
  have h1 : colon.size = 1 := rfl
  refine Call.of_body YtnkefikpejjjcaaDoor.Env.ok Tryd.func34 rfl rfl ?_; intro o P K ho hP hK; cbv
  repeat' (first | refine And.intro ?_ ?_ | (split; all_goals try cbv) | (refine useD hP YtnkefikpejjjcaaDoor.Env.ok rfl ho (by kernel_rfl) ?_; try cbv) | (first | (refine useS hP (qa) rfl ?_; try cbv) | (refine useRS hP (qa) rfl ?_; try cbv) | (refine useL hP 3 (qa) rfl rfl rfl ?_; try cbv) | (refine useRL hP 3 (qa) rfl rfl rfl ?_; try cbv)) | (first | (refine useS hP (qb) rfl ?_; try cbv) | (refine useRS hP (qb) rfl ?_; try cbv) | (refine useL hP 3 (qb) rfl rfl rfl ?_; try cbv) | (refine useRL hP 3 (qb) rfl rfl rfl ?_; try cbv)) | (first | (refine useS hP (qc) rfl ?_; try cbv) | (refine useRS hP (qc) rfl ?_; try cbv) | (refine useL hP 3 (qc) rfl rfl rfl ?_; try cbv) | (refine useRL hP 3 (qc) rfl rfl rfl ?_; try cbv)))
  all_goals first
    | (subst ho; (try clear hL); (try clear hK); simp only [std, natC, ofNat_toNat, Int.toNat_natCast, toNat_sub1, i64min, i64max, List.length_nil, List.length_cons, List.length_append, List.length_replicate, List.length_take, List.length_drop, decide_eq_true_eq, decide_eq_false_iff_not, bne_iff_ne, bne_eq_false_iff_eq, beq_iff_eq, beq_eq_false_iff_ne, cnl_0, cnl_981668463, cnl_1008981770, cnl_1015021568, cnl_1048508891, cnl_1056964608, cnl_1065353216, cnl_1073741824, cnl_1078530011, cnl_1082130432, cnl_1086918619, cnl_1090519040, cnl_1092616192, cnl_1140850688, cnl_1148846080, cnl_1174011904, cnl_1182400512, cnl_1199570944, cnl_1203982336, cnl_2147483648, cnl_3204448256, cnl_3351465984, app_size, lit1] at *; omega)
    | (subst ho; refine hK.ret _ ⟨[], rfl, congrArg V.str ?_, rfl⟩; exact e.symm)
theorem c_profileText (a b c : List Nat) (ha : BL a) (hb : BL b) (hc : BL c) (la : a.length ≤ 256) (lb : b.length ≤ 256) (lc : c.length ≤ 256) : Call YtnkefikpejjjcaaDoor.Env.pg 37 [.agg [SLf a, SLf b, SLf c]] (.str (profT a b c)) [] := by
  have qa := c_numbers a false ha la
  have qb := c_numbers b false hb lb
  have qc := c_numbers c false hc lc
  have za := numT_size a
  have zb := numT_size b
  have zc := numT_size c
  have e : profT a b c = numT a ++ colon ++ numT b ++ colon ++ numT c := rfl
  generalize profT a b c = res at e ⊢
  generalize numT a = ta at qa za e
  generalize numT b = tb at qb zb e
  generalize numT c = tc at qc zc e
  refine Call.of_body YtnkefikpejjjcaaDoor.Env.ok Tryd.func37 rfl rfl ?_; intro o P K ho hP hK; cbv
  repeat' (first | refine And.intro ?_ ?_ | (split; all_goals try cbv) | (refine useD hP YtnkefikpejjjcaaDoor.Env.ok rfl ho (by kernel_rfl) ?_; try cbv) | (first | (refine useS hP (qa) rfl ?_; try cbv) | (refine useRS hP (qa) rfl ?_; try cbv) | (refine useL hP 3 (qa) rfl rfl rfl ?_; try cbv) | (refine useRL hP 3 (qa) rfl rfl rfl ?_; try cbv)) | (first | (refine useS hP (qb) rfl ?_; try cbv) | (refine useRS hP (qb) rfl ?_; try cbv) | (refine useL hP 3 (qb) rfl rfl rfl ?_; try cbv) | (refine useRL hP 3 (qb) rfl rfl rfl ?_; try cbv)) | (first | (refine useS hP (qc) rfl ?_; try cbv) | (refine useRS hP (qc) rfl ?_; try cbv) | (refine useL hP 3 (qc) rfl rfl rfl ?_; try cbv) | (refine useRL hP 3 (qc) rfl rfl rfl ?_; try cbv)))
  all_goals first
    | (subst ho; (try clear hL); (try clear hK); simp only [std, natC, ofNat_toNat, Int.toNat_natCast, toNat_sub1, i64min, i64max, List.length_nil, List.length_cons, List.length_append, List.length_replicate, List.length_take, List.length_drop, decide_eq_true_eq, decide_eq_false_iff_not, bne_iff_ne, bne_eq_false_iff_eq, beq_iff_eq, beq_eq_false_iff_ne, cnl_0, cnl_981668463, cnl_1008981770, cnl_1015021568, cnl_1048508891, cnl_1056964608, cnl_1065353216, cnl_1073741824, cnl_1078530011, cnl_1082130432, cnl_1086918619, cnl_1090519040, cnl_1092616192, cnl_1140850688, cnl_1148846080, cnl_1174011904, cnl_1182400512, cnl_1199570944, cnl_1203982336, cnl_2147483648, cnl_3204448256, cnl_3351465984, app_size, lit1] at *; omega)
    | (subst ho; refine hK.ret _ ⟨[], rfl, congrArg V.str ?_, rfl⟩; exact e.symm)
theorem okP_len {a b c : List Nat} (h : okP a b c = true) : a.length ≤ 256 ∧ b.length ≤ 256 ∧ c.length ≤ 256 := by
  have := okP_iff.1 h
  omega
def emp : ByteArray := ⟨#[]⟩
/-- What the text's functions return. -/
def profR (a b c : List Nat) : V := match okP a b c with | true => .tup [.str (profT a b c), .bool true] | false => .tup [.str emp, .bool false]
theorem c_spec_ProfileText (a b c : List Nat) (ha : BL a) (hb : BL b) (hc : BL c) : Call YtnkefikpejjjcaaDoor.Env.pg 11 [.agg [SLf a, SLf b, SLf c]] (profR a b c) [] := by
  have q := c_spec_l02Is a b c
  unfold profR
  cases h : okP a b c
  · rw [h] at q
    refine Call.of_body YtnkefikpejjjcaaDoor.Env.ok Tryd.func11 rfl rfl ?_; intro o P K ho hP hK; cbv
    repeat' (first | refine And.intro ?_ ?_ | (split; all_goals try cbv) | (refine useD hP YtnkefikpejjjcaaDoor.Env.ok rfl ho (by kernel_rfl) ?_; try cbv) | (first | (refine useS hP (q) rfl ?_; try cbv) | (refine useRS hP (q) rfl ?_; try cbv) | (refine useL hP 3 (q) rfl rfl rfl ?_; try cbv) | (refine useRL hP 3 (q) rfl rfl rfl ?_; try cbv)))
    subst ho
    exact hK.ret _ ⟨[], rfl, rfl, rfl⟩
  · rw [h] at q
    obtain ⟨la, lb, lc⟩ := okP_len h
    have q2 := c_l08Profile a b c ha hb hc la lb lc
    generalize profT a b c = res at q2 ⊢
    refine Call.of_body YtnkefikpejjjcaaDoor.Env.ok Tryd.func11 rfl rfl ?_; intro o P K ho hP hK; cbv
    repeat' (first | refine And.intro ?_ ?_ | (split; all_goals try cbv) | (refine useD hP YtnkefikpejjjcaaDoor.Env.ok rfl ho (by kernel_rfl) ?_; try cbv) | (first | (refine useS hP (q) rfl ?_; try cbv) | (refine useRS hP (q) rfl ?_; try cbv) | (refine useL hP 3 (q) rfl rfl rfl ?_; try cbv) | (refine useRL hP 3 (q) rfl rfl rfl ?_; try cbv)) | (first | (refine useS hP (q2) rfl ?_; try cbv) | (refine useRS hP (q2) rfl ?_; try cbv) | (refine useL hP 3 (q2) rfl rfl rfl ?_; try cbv) | (refine useRL hP 3 (q2) rfl rfl rfl ?_; try cbv)))
    subst ho
    exact hK.ret _ ⟨[], rfl, rfl, rfl⟩
theorem c_impl_ProfileText (a b c : List Nat) (ha : BL a) (hb : BL b) (hc : BL c) (la : a.length ≤ 1099511627776) (lb : b.length ≤ 1099511627776) (lc : c.length ≤ 1099511627776) : Call YtnkefikpejjjcaaDoor.Env.pg 13 [.agg [SLf a, SLf b, SLf c]] (profR a b c) [] := by
  have q := c_impl_ValidProfile a b c la lb lc
  unfold profR
  cases h : okP a b c
  · rw [h] at q
    refine Call.of_body YtnkefikpejjjcaaDoor.Env.ok Tryd.func13 rfl rfl ?_; intro o P K ho hP hK; cbv
    repeat' (first | refine And.intro ?_ ?_ | (split; all_goals try cbv) | (refine useD hP YtnkefikpejjjcaaDoor.Env.ok rfl ho (by kernel_rfl) ?_; try cbv) | (first | (refine useS hP (q) rfl ?_; try cbv) | (refine useRS hP (q) rfl ?_; try cbv) | (refine useL hP 3 (q) rfl rfl rfl ?_; try cbv) | (refine useRL hP 3 (q) rfl rfl rfl ?_; try cbv)))
    subst ho
    exact hK.ret _ ⟨[], rfl, rfl, rfl⟩
  · rw [h] at q
    obtain ⟨la, lb, lc⟩ := okP_len h
    have q2 := c_profileText a b c ha hb hc la lb lc
    generalize profT a b c = res at q2 ⊢
    refine Call.of_body YtnkefikpejjjcaaDoor.Env.ok Tryd.func13 rfl rfl ?_; intro o P K ho hP hK; cbv
    repeat' (first | refine And.intro ?_ ?_ | (split; all_goals try cbv) | (refine useD hP YtnkefikpejjjcaaDoor.Env.ok rfl ho (by kernel_rfl) ?_; try cbv) | (first | (refine useS hP (q) rfl ?_; try cbv) | (refine useRS hP (q) rfl ?_; try cbv) | (refine useL hP 3 (q) rfl rfl rfl ?_; try cbv) | (refine useRL hP 3 (q) rfl rfl rfl ?_; try cbv)) | (first | (refine useS hP (q2) rfl ?_; try cbv) | (refine useRS hP (q2) rfl ?_; try cbv) | (refine useL hP 3 (q2) rfl rfl rfl ?_; try cbv) | (refine useRL hP 3 (q2) rfl rfl rfl ?_; try cbv)))
    subst ho
    exact hK.ret _ ⟨[], rfl, rfl, rfl⟩
end Go.En
