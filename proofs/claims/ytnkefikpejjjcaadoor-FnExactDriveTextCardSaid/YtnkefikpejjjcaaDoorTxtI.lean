/-
  The contracts of the texts of a drive, of the program's and of the reference's, and the law FnExactDriveText. Own work.
-/
import Derived.Test.YtnkefikpejjjcaaDoorLawPT
import Derived.Test.YtnkefikpejjjcaaDoorTxtF
import Derived.Test.YtnkefikpejjjcaaDoorEnRb
set_option linter.unusedVariables false
set_option linter.unusedSimpArgs false
set_option maxRecDepth 100000
set_option maxHeartbeats 4000000
namespace Go.En
open Go.Proofs

def drvT (d : Dsk) : ByteArray := numT (plantL d) ++ semi ++ dec1 d.k.toNat ++ semi ++ numT [d.e1, d.e2, d.e3]
structure DWf (d : Dsk) : Prop where
  p1 : d.p1 < 4294967296
  p2 : d.p2 < 4294967296
  p3 : d.p3 < 4294967296
  p4 : d.p4 < 4294967296
  p5 : d.p5 < 4294967296
  p6 : d.p6 < 4294967296
  p7 : d.p7 < 4294967296
  p8 : d.p8 < 4294967296
  e1 : d.e1 < 4294967296
  e2 : d.e2 < 4294967296
  e3 : d.e3 < 4294967296
theorem DWf.pl {d : Dsk} (w : DWf d) : BL (plantL d) := fun x hx => by
  simp only [plantL, List.mem_cons, List.not_mem_nil, or_false] at hx
  rcases hx with rfl | rfl | rfl | rfl | rfl | rfl | rfl | rfl
  · exact w.p1
  · exact w.p2
  · exact w.p3
  · exact w.p4
  · exact w.p5
  · exact w.p6
  · exact w.p7
  · exact w.p8
theorem DWf.es {d : Dsk} (w : DWf d) : BL [d.e1, d.e2, d.e3] := fun x hx => by
  simp only [List.mem_cons, List.not_mem_nil, or_false] at hx
  rcases hx with rfl | rfl | rfl
  · exact w.e1
  · exact w.e2
  · exact w.e3
def okDv (d : Dsk) : Bool := okD d.p1 d.p2 d.p3 d.p4 d.p5 d.p6 d.p7 d.p8 d.k d.e1 d.e2 d.e3
theorem okDv_k {d : Dsk} (h : okDv d = true) : inI d.k 0 6 = true := by
  simp only [okDv, okD, Bool.and_eq_true] at h
  have := h.2.1
  simp only [inI, Bool.and_eq_true, decide_eq_true_eq] at this ⊢
  omega
theorem dec1_size (k : Nat) : (dec1 k).size = 1 := rfl
theorem c_l08Drive (d : Dsk) (w : DWf d) (hk : inI d.k 0 6 = true) : Call YtnkefikpejjjcaaDoor.Env.pg 26 [.sp (drvC d) 0] (.str (drvT d)) [] := by
  have qa := c_l01NText (plantL d) false w.pl (show 8 ≤ 256 by decide)
  have qb := c_l01Dec d.k hk
  have qc := c_l01NText [d.e1, d.e2, d.e3] false w.es (show 3 ≤ 256 by decide)
  have za : (numT (plantL d)).size ≤ 76 := numT_size (plantL d)
  have zb := dec1_size d.k.toNat
  have zc : (numT [d.e1, d.e2, d.e3]).size ≤ 31 := numT_size [d.e1, d.e2, d.e3]
  have e : drvT d = numT (plantL d) ++ semi ++ dec1 d.k.toNat ++ semi ++ numT [d.e1, d.e2, d.e3] := rfl
  generalize drvT d = res at e ⊢
  generalize numT (plantL d) = ta at qa za e
  generalize dec1 d.k.toNat = tb at qb zb e
  generalize numT [d.e1, d.e2, d.e3] = tc at qc zc e
  refine Call.of_body YtnkefikpejjjcaaDoor.Env.ok Tryd.func26 rfl rfl ?_; intro o P K ho hP hK; cbv
  repeat' (first | refine And.intro ?_ ?_ | (split; all_goals try cbv) | (refine useD hP YtnkefikpejjjcaaDoor.Env.ok rfl ho (by kernel_rfl) ?_; try cbv) | (first | (refine useS hP (qa) rfl ?_; try cbv) | (refine useRS hP (qa) rfl ?_; try cbv) | (refine useL hP 3 (qa) rfl rfl rfl ?_; try cbv) | (refine useRL hP 3 (qa) rfl rfl rfl ?_; try cbv)) | (first | (refine useS hP (qb) rfl ?_; try cbv) | (refine useRS hP (qb) rfl ?_; try cbv) | (refine useL hP 3 (qb) rfl rfl rfl ?_; try cbv) | (refine useRL hP 3 (qb) rfl rfl rfl ?_; try cbv)) | (first | (refine useS hP (qc) rfl ?_; try cbv) | (refine useRS hP (qc) rfl ?_; try cbv) | (refine useL hP 3 (qc) rfl rfl rfl ?_; try cbv) | (refine useRL hP 3 (qc) rfl rfl rfl ?_; try cbv)))
  all_goals first
    | (subst ho; (try clear hL); (try clear hK); simp only [std, natC, ofNat_toNat, Int.toNat_natCast, toNat_sub1, i64min, i64max, List.length_nil, List.length_cons, List.length_append, List.length_replicate, List.length_take, List.length_drop, decide_eq_true_eq, decide_eq_false_iff_not, bne_iff_ne, bne_eq_false_iff_eq, beq_iff_eq, beq_eq_false_iff_ne, cnl_0, cnl_981668463, cnl_1008981770, cnl_1015021568, cnl_1048508891, cnl_1056964608, cnl_1065353216, cnl_1073741824, cnl_1078530011, cnl_1082130432, cnl_1086918619, cnl_1090519040, cnl_1092616192, cnl_1140850688, cnl_1148846080, cnl_1174011904, cnl_1182400512, cnl_1199570944, cnl_1203982336, cnl_2147483648, cnl_3204448256, cnl_3351465984, app_size, lit1] at *; omega)
    | (subst ho; refine hK.ret _ ⟨[], rfl, congrArg V.str ?_, rfl⟩; exact e.symm)
def drvR (d : Dsk) : V := match okDv d with | true => .tup [.str (drvT d), .bool true] | false => .tup [.str emp, .bool false]
theorem c_spec_DriveText (d : Dsk) (w : DWf d) : Call YtnkefikpejjjcaaDoor.Env.pg 7 [.agg (drvC d)] (drvR d) [] := by
  have q : Call YtnkefikpejjjcaaDoor.Env.pg 25 [.sp (drvC d) 0] (.bool (okDv d)) [] := c_spec_l05Is d.p1 d.p2 d.p3 d.p4 d.p5 d.p6 d.p7 d.p8 d.k d.e1 d.e2 d.e3
  unfold drvR
  cases h : okDv d
  · rw [h] at q
    refine Call.of_body YtnkefikpejjjcaaDoor.Env.ok Tryd.func7 rfl rfl ?_; intro o P K ho hP hK; cbv
    repeat' (first | refine And.intro ?_ ?_ | (split; all_goals try cbv) | (refine useD hP YtnkefikpejjjcaaDoor.Env.ok rfl ho (by kernel_rfl) ?_; try cbv) | (first | (refine useS hP (q) rfl ?_; try cbv) | (refine useRS hP (q) rfl ?_; try cbv) | (refine useL hP 3 (q) rfl rfl rfl ?_; try cbv) | (refine useRL hP 3 (q) rfl rfl rfl ?_; try cbv)))
    subst ho
    exact hK.ret _ ⟨[], rfl, rfl, rfl⟩
  · rw [h] at q
    have q2 := c_l08Drive d w (okDv_k h)
    generalize drvT d = res at q2 ⊢
    refine Call.of_body YtnkefikpejjjcaaDoor.Env.ok Tryd.func7 rfl rfl ?_; intro o P K ho hP hK; cbv
    repeat' (first | refine And.intro ?_ ?_ | (split; all_goals try cbv) | (refine useD hP YtnkefikpejjjcaaDoor.Env.ok rfl ho (by kernel_rfl) ?_; try cbv) | (first | (refine useS hP (q) rfl ?_; try cbv) | (refine useRS hP (q) rfl ?_; try cbv) | (refine useL hP 3 (q) rfl rfl rfl ?_; try cbv) | (refine useRL hP 3 (q) rfl rfl rfl ?_; try cbv)) | (first | (refine useS hP (q2) rfl ?_; try cbv) | (refine useRS hP (q2) rfl ?_; try cbv) | (refine useL hP 3 (q2) rfl rfl rfl ?_; try cbv) | (refine useRL hP 3 (q2) rfl rfl rfl ?_; try cbv)))
    subst ho
    exact hK.ret _ ⟨[], rfl, rfl, rfl⟩
theorem c_impl_DriveText (d : Dsk) (w : DWf d) : Call YtnkefikpejjjcaaDoor.Env.pg 9 [.agg (drvC d)] (drvR d) [] := by
  have q : Call YtnkefikpejjjcaaDoor.Env.pg 28 [.agg (drvC d)] (.bool (okDv d)) [] := c_impl_ValidDrive d.p1 d.p2 d.p3 d.p4 d.p5 d.p6 d.p7 d.p8 d.k d.e1 d.e2 d.e3
  unfold drvR
  cases h : okDv d
  · rw [h] at q
    refine Call.of_body YtnkefikpejjjcaaDoor.Env.ok Tryd.func9 rfl rfl ?_; intro o P K ho hP hK; cbv
    repeat' (first | refine And.intro ?_ ?_ | (split; all_goals try cbv) | (refine useD hP YtnkefikpejjjcaaDoor.Env.ok rfl ho (by kernel_rfl) ?_; try cbv) | (first | (refine useS hP (q) rfl ?_; try cbv) | (refine useRS hP (q) rfl ?_; try cbv) | (refine useL hP 3 (q) rfl rfl rfl ?_; try cbv) | (refine useRL hP 3 (q) rfl rfl rfl ?_; try cbv)))
    subst ho
    exact hK.ret _ ⟨[], rfl, rfl, rfl⟩
  · rw [h] at q
    have hk := okDv_k h
    have qp := (t113 d).frozen
    have qa := c_numbers (plantL d) false w.pl (show 8 ≤ 256 by decide)
    have qb := c_Decimal d.k hk
    have qc := c_numbers [d.e1, d.e2, d.e3] false w.es (show 3 ≤ 256 by decide)
    have za : (numT (plantL d)).size ≤ 76 := numT_size (plantL d)
    have zb := dec1_size d.k.toNat
    have zc : (numT [d.e1, d.e2, d.e3]).size ≤ 31 := numT_size [d.e1, d.e2, d.e3]
    have e : drvT d = numT (plantL d) ++ semi ++ dec1 d.k.toNat ++ semi ++ numT [d.e1, d.e2, d.e3] := rfl
    generalize drvT d = res at e ⊢
    generalize numT (plantL d) = ta at qa za e
    generalize dec1 d.k.toNat = tb at qb zb e
    generalize numT [d.e1, d.e2, d.e3] = tc at qc zc e
    clear h
    refine Call.of_body YtnkefikpejjjcaaDoor.Env.ok Tryd.func9 rfl rfl ?_; intro o P K ho hP hK; cbv
    repeat' (first | refine And.intro ?_ ?_ | (split; all_goals try cbv) | (refine useD hP YtnkefikpejjjcaaDoor.Env.ok rfl ho (by kernel_rfl) ?_; try cbv) | (first | (refine useS hP (q) rfl ?_; try cbv) | (refine useRS hP (q) rfl ?_; try cbv) | (refine useL hP 3 (q) rfl rfl rfl ?_; try cbv) | (refine useRL hP 3 (q) rfl rfl rfl ?_; try cbv)) | (first | (refine useS hP (qp) rfl ?_; try cbv) | (refine useRS hP (qp) rfl ?_; try cbv) | (refine useL hP 3 (qp) rfl rfl rfl ?_; try cbv) | (refine useRL hP 3 (qp) rfl rfl rfl ?_; try cbv)) | (first | (refine useS hP (qa) rfl ?_; try cbv) | (refine useRS hP (qa) rfl ?_; try cbv) | (refine useL hP 3 (qa) rfl rfl rfl ?_; try cbv) | (refine useRL hP 3 (qa) rfl rfl rfl ?_; try cbv)) | (first | (refine useS hP (qb) rfl ?_; try cbv) | (refine useRS hP (qb) rfl ?_; try cbv) | (refine useL hP 3 (qb) rfl rfl rfl ?_; try cbv) | (refine useRL hP 3 (qb) rfl rfl rfl ?_; try cbv)) | (first | (refine useS hP (qc) rfl ?_; try cbv) | (refine useRS hP (qc) rfl ?_; try cbv) | (refine useL hP 3 (qc) rfl rfl rfl ?_; try cbv) | (refine useRL hP 3 (qc) rfl rfl rfl ?_; try cbv)))
    all_goals first
      | (subst ho; (try clear hL); (try clear hK); simp only [std, natC, ofNat_toNat, Int.toNat_natCast, toNat_sub1, i64min, i64max, List.length_nil, List.length_cons, List.length_append, List.length_replicate, List.length_take, List.length_drop, decide_eq_true_eq, decide_eq_false_iff_not, bne_iff_ne, bne_eq_false_iff_eq, beq_iff_eq, beq_eq_false_iff_ne, cnl_0, cnl_981668463, cnl_1008981770, cnl_1015021568, cnl_1048508891, cnl_1056964608, cnl_1065353216, cnl_1073741824, cnl_1078530011, cnl_1082130432, cnl_1086918619, cnl_1090519040, cnl_1092616192, cnl_1140850688, cnl_1148846080, cnl_1174011904, cnl_1182400512, cnl_1199570944, cnl_1203982336, cnl_2147483648, cnl_3204448256, cnl_3351465984, app_size, lit1] at *; omega)
      | (subst ho; refine hK.ret _ ⟨[], rfl, congrArg (fun z => V.tup [V.str z, V.bool true]) ?_, rfl⟩; exact e.symm)
theorem drvR_eq (d : Dsk) : ∃ s v, drvR d = .tup [.str s, .bool v] := by
  unfold drvR
  cases okDv d
  · exact ⟨_, _, rfl⟩
  · exact ⟨_, _, rfl⟩
theorem lawDT (d : Dsk) (w : DWf d) : Call YtnkefikpejjjcaaDoor.Env.pg 3 [.agg (drvC d)] (.bool true) [] := by
  have qt := t25 d
  have qs := c_spec_DriveText d w
  have qi := c_impl_DriveText d w
  obtain ⟨s, v, e⟩ := drvR_eq d
  rw [e] at qs qi
  refine Call.of_body YtnkefikpejjjcaaDoor.Env.ok Tryd.func3 rfl rfl ?_; intro o P K ho hP hK; cbv
  repeat' (first | refine And.intro ?_ ?_ | (split; all_goals try cbv) | (refine useD hP YtnkefikpejjjcaaDoor.Env.ok rfl ho (by kernel_rfl) ?_; try cbv) | (first | (refine useS hP (qt) rfl ?_; try cbv) | (refine useRS hP (qt) rfl ?_; try cbv) | (refine useL hP 3 (qt) rfl rfl rfl ?_; try cbv) | (refine useRL hP 3 (qt) rfl rfl rfl ?_; try cbv)) | (first | (refine useS hP (qs) rfl ?_; try cbv) | (refine useRS hP (qs) rfl ?_; try cbv) | (refine useL hP 3 (qs) rfl rfl rfl ?_; try cbv) | (refine useRL hP 3 (qs) rfl rfl rfl ?_; try cbv)) | (first | (refine useS hP (qi) rfl ?_; try cbv) | (refine useRS hP (qi) rfl ?_; try cbv) | (refine useL hP 3 (qi) rfl rfl rfl ?_; try cbv) | (refine useRL hP 3 (qi) rfl rfl rfl ?_; try cbv)))
  all_goals first
    | (subst ho; exact hK.ret _ ⟨[], rfl, rfl, rfl⟩)
    | (exfalso; subst ho; exact Bool.noConfusion ((‹std.sne s s = true›).symm.trans (sneR s)))
    | (exfalso; subst ho; exact Bool.noConfusion ((‹std.bne v v = true›).symm.trans (bneR v)))
end Go.En
