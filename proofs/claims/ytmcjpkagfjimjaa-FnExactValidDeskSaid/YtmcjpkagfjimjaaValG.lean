/-
  The contracts of ValidDesk, of the reference and of the program, and the law FnExactValidDesk. Own work.
-/
import Derived.Test.YtmcjpkagfjimjaaValD
import Derived.Test.YtmcjpkagfjimjaaValF
import Derived.Test.YtmcjpkagfjimjaaLawA
set_option linter.unusedVariables false
set_option linter.unusedSimpArgs false
set_option maxRecDepth 100000
namespace Go.En
open Go.Proofs

def okDk (d : Dsk) : Bool := okR d.a d.b d.c d.s d.n d.h d.t && (okA d.d1 d.d2 d.d3 d.d4 && (okD d.p1 d.p2 d.p3 d.p4 d.p5 d.p6 d.p7 d.p8 d.k d.e1 d.e2 d.e3 && okF d.x d.y d.f1 d.f2 d.f3))
theorem c_spec_l08Is (d : Dsk) : Call Try.prog 35 [.sp (deskC d) 0] (.bool (okDk d)) [] := by
  have q_c_spec_l03Is := @c_spec_l03Is; have q_c_spec_l04Is := @c_spec_l04Is; have q_c_spec_l05Is := @c_spec_l05Is; have q_c_spec_l06Is := @c_spec_l06Is; generalize h_okR : @okR = g_okR at q_c_spec_l03Is q_c_spec_l04Is q_c_spec_l05Is q_c_spec_l06Is; generalize h_okA : @okA = g_okA at q_c_spec_l03Is q_c_spec_l04Is q_c_spec_l05Is q_c_spec_l06Is; generalize h_okD : @okD = g_okD at q_c_spec_l03Is q_c_spec_l04Is q_c_spec_l05Is q_c_spec_l06Is; generalize h_okF : @okF = g_okF at q_c_spec_l03Is q_c_spec_l04Is q_c_spec_l05Is q_c_spec_l06Is
  refine Call.of_body Ytmcjpkagfjimjaa.Env.ok Try.func35 rfl rfl ?_; intro o P K ho hP hK; cbv
  repeat' (first | refine And.intro ?_ ?_ | (split; all_goals try cbv) | (refine useD hP Ytmcjpkagfjimjaa.Env.ok rfl ho (by kernel_rfl) ?_; try cbv) | (first | (refine useS hP (Call.weaken [.ptr 7] (q_c_spec_l03Is d.a d.b d.c d.s d.n d.h d.t)) rfl ?_; try cbv) | (refine useRS hP (Call.weaken [.ptr 7] (q_c_spec_l03Is d.a d.b d.c d.s d.n d.h d.t)) rfl ?_; try cbv) | (refine useL hP 3 (Call.weaken [.ptr 7] (q_c_spec_l03Is d.a d.b d.c d.s d.n d.h d.t)) rfl rfl rfl ?_; try cbv) | (refine useRL hP 3 (Call.weaken [.ptr 7] (q_c_spec_l03Is d.a d.b d.c d.s d.n d.h d.t)) rfl rfl rfl ?_; try cbv)) | (first | (refine useS hP (Call.weaken [.ptr 4] (q_c_spec_l04Is d.d1 d.d2 d.d3 d.d4)) rfl ?_; try cbv) | (refine useRS hP (Call.weaken [.ptr 4] (q_c_spec_l04Is d.d1 d.d2 d.d3 d.d4)) rfl ?_; try cbv) | (refine useL hP 3 (Call.weaken [.ptr 4] (q_c_spec_l04Is d.d1 d.d2 d.d3 d.d4)) rfl rfl rfl ?_; try cbv) | (refine useRL hP 3 (Call.weaken [.ptr 4] (q_c_spec_l04Is d.d1 d.d2 d.d3 d.d4)) rfl rfl rfl ?_; try cbv)) | (first | (refine useS hP (Call.weaken [.ptr 12] (q_c_spec_l05Is d.p1 d.p2 d.p3 d.p4 d.p5 d.p6 d.p7 d.p8 d.k d.e1 d.e2 d.e3)) rfl ?_; try cbv) | (refine useRS hP (Call.weaken [.ptr 12] (q_c_spec_l05Is d.p1 d.p2 d.p3 d.p4 d.p5 d.p6 d.p7 d.p8 d.k d.e1 d.e2 d.e3)) rfl ?_; try cbv) | (refine useL hP 3 (Call.weaken [.ptr 12] (q_c_spec_l05Is d.p1 d.p2 d.p3 d.p4 d.p5 d.p6 d.p7 d.p8 d.k d.e1 d.e2 d.e3)) rfl rfl rfl ?_; try cbv) | (refine useRL hP 3 (Call.weaken [.ptr 12] (q_c_spec_l05Is d.p1 d.p2 d.p3 d.p4 d.p5 d.p6 d.p7 d.p8 d.k d.e1 d.e2 d.e3)) rfl rfl rfl ?_; try cbv)) | (first | (refine useS hP (Call.weaken [.ptr 5] (q_c_spec_l06Is d.x d.y d.f1 d.f2 d.f3)) rfl ?_; try cbv) | (refine useRS hP (Call.weaken [.ptr 5] (q_c_spec_l06Is d.x d.y d.f1 d.f2 d.f3)) rfl ?_; try cbv) | (refine useL hP 3 (Call.weaken [.ptr 5] (q_c_spec_l06Is d.x d.y d.f1 d.f2 d.f3)) rfl rfl rfl ?_; try cbv) | (refine useRL hP 3 (Call.weaken [.ptr 5] (q_c_spec_l06Is d.x d.y d.f1 d.f2 d.f3)) rfl rfl rfl ?_; try cbv)))
  all_goals
    subst ho h_okR h_okA h_okD h_okF
    refine hK.ret _ ⟨[], rfl, congrArg V.bool ?_, rfl⟩
    clear hK
    simp_all [okDk]
theorem c_spec_ValidDesk (d : Dsk) : Call Try.prog 11 [.agg (deskC d)] (.bool (okDk d)) [] := by
  have q_c_spec_l08Is := @c_spec_l08Is; generalize h_okDk : @okDk = g_okDk at q_c_spec_l08Is
  refine Call.of_body Ytmcjpkagfjimjaa.Env.ok Try.func11 rfl rfl ?_; intro o P K ho hP hK; cbv
  repeat' (first | refine And.intro ?_ ?_ | (split; all_goals try cbv) | (refine useD hP Ytmcjpkagfjimjaa.Env.ok rfl ho (by kernel_rfl) ?_; try cbv) | (first | (refine useS hP (q_c_spec_l08Is d) rfl ?_; try cbv) | (refine useRS hP (q_c_spec_l08Is d) rfl ?_; try cbv) | (refine useL hP 3 (q_c_spec_l08Is d) rfl rfl rfl ?_; try cbv) | (refine useRL hP 3 (q_c_spec_l08Is d) rfl rfl rfl ?_; try cbv)))
  subst ho h_okDk
  exact hK.ret _ ⟨[], rfl, rfl, rfl⟩
theorem c_impl_ValidDesk (d : Dsk) (ha : d.a.length ≤ 1048576) (hb : d.b.length ≤ 1048576) (hc : d.c.length ≤ 1048576) (hx : d.x.length ≤ 1048576) (hy : d.y.length ≤ 1048576) : Call Try.prog 12 [.agg (deskC d)] (.bool (okDk d)) [] := by
  have q_c_impl_ValidRotor := @c_impl_ValidRotor; have q_c_impl_ValidAir := @c_impl_ValidAir; have q_c_impl_ValidDrive := @c_impl_ValidDrive; have q_c_impl_ValidFarm := @c_impl_ValidFarm; generalize h_okR : @okR = g_okR at q_c_impl_ValidRotor q_c_impl_ValidAir q_c_impl_ValidDrive q_c_impl_ValidFarm; generalize h_okA : @okA = g_okA at q_c_impl_ValidRotor q_c_impl_ValidAir q_c_impl_ValidDrive q_c_impl_ValidFarm; generalize h_okD : @okD = g_okD at q_c_impl_ValidRotor q_c_impl_ValidAir q_c_impl_ValidDrive q_c_impl_ValidFarm; generalize h_okF : @okF = g_okF at q_c_impl_ValidRotor q_c_impl_ValidAir q_c_impl_ValidDrive q_c_impl_ValidFarm
  refine Call.of_body Ytmcjpkagfjimjaa.Env.ok Try.func12 rfl rfl ?_; intro o P K ho hP hK; cbv
  repeat' (first | refine And.intro ?_ ?_ | (split; all_goals try cbv) | (refine useD hP Ytmcjpkagfjimjaa.Env.ok rfl ho (by kernel_rfl) ?_; try cbv) | (first | (refine useS hP (q_c_impl_ValidRotor d.a d.b d.c d.s d.n d.h d.t (le40 ha) (le40 hb) (le40 hc)) rfl ?_; try cbv) | (refine useRS hP (q_c_impl_ValidRotor d.a d.b d.c d.s d.n d.h d.t (le40 ha) (le40 hb) (le40 hc)) rfl ?_; try cbv) | (refine useL hP 3 (q_c_impl_ValidRotor d.a d.b d.c d.s d.n d.h d.t (le40 ha) (le40 hb) (le40 hc)) rfl rfl rfl ?_; try cbv) | (refine useRL hP 3 (q_c_impl_ValidRotor d.a d.b d.c d.s d.n d.h d.t (le40 ha) (le40 hb) (le40 hc)) rfl rfl rfl ?_; try cbv)) | (first | (refine useS hP (q_c_impl_ValidAir d.d1 d.d2 d.d3 d.d4) rfl ?_; try cbv) | (refine useRS hP (q_c_impl_ValidAir d.d1 d.d2 d.d3 d.d4) rfl ?_; try cbv) | (refine useL hP 3 (q_c_impl_ValidAir d.d1 d.d2 d.d3 d.d4) rfl rfl rfl ?_; try cbv) | (refine useRL hP 3 (q_c_impl_ValidAir d.d1 d.d2 d.d3 d.d4) rfl rfl rfl ?_; try cbv)) | (first | (refine useS hP (q_c_impl_ValidDrive d.p1 d.p2 d.p3 d.p4 d.p5 d.p6 d.p7 d.p8 d.k d.e1 d.e2 d.e3) rfl ?_; try cbv) | (refine useRS hP (q_c_impl_ValidDrive d.p1 d.p2 d.p3 d.p4 d.p5 d.p6 d.p7 d.p8 d.k d.e1 d.e2 d.e3) rfl ?_; try cbv) | (refine useL hP 3 (q_c_impl_ValidDrive d.p1 d.p2 d.p3 d.p4 d.p5 d.p6 d.p7 d.p8 d.k d.e1 d.e2 d.e3) rfl rfl rfl ?_; try cbv) | (refine useRL hP 3 (q_c_impl_ValidDrive d.p1 d.p2 d.p3 d.p4 d.p5 d.p6 d.p7 d.p8 d.k d.e1 d.e2 d.e3) rfl rfl rfl ?_; try cbv)) | (first | (refine useS hP (q_c_impl_ValidFarm d.x d.y d.f1 d.f2 d.f3 hx hy) rfl ?_; try cbv) | (refine useRS hP (q_c_impl_ValidFarm d.x d.y d.f1 d.f2 d.f3 hx hy) rfl ?_; try cbv) | (refine useL hP 3 (q_c_impl_ValidFarm d.x d.y d.f1 d.f2 d.f3 hx hy) rfl rfl rfl ?_; try cbv) | (refine useRL hP 3 (q_c_impl_ValidFarm d.x d.y d.f1 d.f2 d.f3 hx hy) rfl rfl rfl ?_; try cbv)))
  all_goals
    subst ho h_okR h_okA h_okD h_okF
    refine hK.ret _ ⟨[], rfl, congrArg V.bool ?_, rfl⟩
    clear hK
    simp_all [okDk]
theorem lawValid (d : Dsk) (wd : d.Wf) : Call Try.prog 4 [.agg (deskC d)] (.bool true) [] := by
  obtain ⟨z1, b1, q1, c1⟩ := w6 d 1048576 wd ⟨by decide, by decide⟩
  cases g1 : std.ilt z1 0
  case true =>
    refine Call.of_body Ytmcjpkagfjimjaa.Env.ok Try.func4 rfl rfl ?_; intro o P K ho hP hK; cbv
    refine useS hP c1 rfl ?_
    cbv
    split; rotate_left; (subst ho; exact Bool.noConfusion (g1.symm.trans ‹std.ilt z1 0 = false›))
    cbv
    subst ho
    exact hK.ret _ ⟨[], rfl, rfl, rfl⟩
  have hd := Wf_ok wd (q1 (ilt0 g1))
  have qs := c_spec_ValidDesk d
  have qi := c_impl_ValidDesk d hd.la hd.lb hd.lc hd.lx hd.ly
  generalize okDk d = v at qs qi
  refine Call.of_body Ytmcjpkagfjimjaa.Env.ok Try.func4 rfl rfl ?_; intro o P K ho hP hK; cbv
  refine useS hP c1 rfl ?_
  cbv
  split; (subst ho; exact Bool.noConfusion (g1.symm.trans ‹std.ilt z1 0 = true›))
  cbv
  repeat' (first | refine And.intro ?_ ?_ | (split; all_goals try cbv) | (refine useD hP Ytmcjpkagfjimjaa.Env.ok rfl ho (by kernel_rfl) ?_; try cbv) | (first | (refine useS hP (t8 d hd) rfl ?_; try cbv) | (refine useRS hP (t8 d hd) rfl ?_; try cbv) | (refine useL hP 3 (t8 d hd) rfl rfl rfl ?_; try cbv) | (refine useRL hP 3 (t8 d hd) rfl rfl rfl ?_; try cbv)) | (first | (refine useS hP (qs) rfl ?_; try cbv) | (refine useRS hP (qs) rfl ?_; try cbv) | (refine useL hP 3 (qs) rfl rfl rfl ?_; try cbv) | (refine useRL hP 3 (qs) rfl rfl rfl ?_; try cbv)) | (first | (refine useS hP (qi) rfl ?_; try cbv) | (refine useRS hP (qi) rfl ?_; try cbv) | (refine useL hP 3 (qi) rfl rfl rfl ?_; try cbv) | (refine useRL hP 3 (qi) rfl rfl rfl ?_; try cbv)) | (first | (refine useS hP (t10 d hd) rfl ?_; try cbv) | (refine useRS hP (t10 d hd) rfl ?_; try cbv) | (refine useL hP 3 (t10 d hd) rfl rfl rfl ?_; try cbv) | (refine useRL hP 3 (t10 d hd) rfl rfl rfl ?_; try cbv)))
  all_goals first
    | (subst ho; exact hK.ret _ ⟨[], rfl, rfl, rfl⟩)
    | (exfalso; subst ho; clear hK; simp only [std, natC, ofNat_toNat, Int.toNat_natCast, toNat_sub1, i64min, i64max, List.length_nil, List.length_cons, List.length_append, List.length_replicate, List.length_take, List.length_drop, decide_eq_true_eq, decide_eq_false_iff_not, bne_iff_ne, bne_eq_false_iff_eq, beq_iff_eq, beq_eq_false_iff_ne, cnl_0, cnl_981668463, cnl_1008981770, cnl_1015021568, cnl_1048508891, cnl_1056964608, cnl_1065353216, cnl_1073741824, cnl_1078530011, cnl_1082130432, cnl_1086918619, cnl_1090519040, cnl_1092616192, cnl_1140850688, cnl_1148846080, cnl_1174011904, cnl_1182400512, cnl_1199570944, cnl_1203982336, cnl_2147483648, cnl_3204448256, cnl_3351465984] at *; simp_all; done)
end Go.En
