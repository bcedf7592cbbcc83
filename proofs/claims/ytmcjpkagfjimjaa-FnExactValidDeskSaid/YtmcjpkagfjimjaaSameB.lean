/-
  The contracts of the program that compare desks. Own work.
-/
import Derived.Test.YtmcjpkagfjimjaaEnv
import Derived.Test.YtmcjpkagfjimjaaEnZa
import Derived.Test.YtmcjpkagfjimjaaSameA
set_option linter.unusedVariables false
set_option linter.unusedSimpArgs false
set_option maxRecDepth 100000
namespace Go.En
open Go.Proofs

structure Dsk where
  a : List Nat
  b : List Nat
  c : List Nat
  s : List S3
  n : Int
  h : Nat
  t : Nat
  d1 : Nat
  d2 : Nat
  d3 : Nat
  d4 : Nat
  p1 : Nat
  p2 : Nat
  p3 : Nat
  p4 : Nat
  p5 : Nat
  p6 : Nat
  p7 : Nat
  p8 : Nat
  k : Int
  e1 : Nat
  e2 : Nat
  e3 : Nat
  x : List Nat
  y : List Nat
  f1 : Nat
  f2 : Nat
  f3 : Nat
def F (x : Nat) : V := .flt .f32 x
def SL (a : List Nat) : V := .sl (.f32 a) false
def S3L (a : List S3) : V := .sl (.r3 a) false
def profC (d : Dsk) : List V := [SL d.a, SL d.b, SL d.c]
def rotC (d : Dsk) : List V := [SL d.a, SL d.b, SL d.c, S3L d.s, .int .i64 d.n, F d.h, F d.t]
def airC (d : Dsk) : List V := [F d.d1, F d.d2, F d.d3, F d.d4]
def plantC (d : Dsk) : List V := [F d.p1, F d.p2, F d.p3, F d.p4, F d.p5, F d.p6, F d.p7, F d.p8]
def drvC (d : Dsk) : List V := [F d.p1, F d.p2, F d.p3, F d.p4, F d.p5, F d.p6, F d.p7, F d.p8, .int .i64 d.k, F d.e1, F d.e2, F d.e3]
def farmC (d : Dsk) : List V := [SL d.x, SL d.y, F d.f1, F d.f2, F d.f3]
def deskC (d : Dsk) : List V := cat (rotC d) (cat (airC d) (cat (drvC d) (farmC d)))
def plantL (d : Dsk) : List Nat := [d.p1, d.p2, d.p3, d.p4, d.p5, d.p6, d.p7, d.p8]
/-- What is known of a desk's numbers. -/
structure Dsk.OK (d : Dsk) : Prop where
  a : BL d.a
  b : BL d.b
  c : BL d.c
  s : BL3 d.s
  x : BL d.x
  y : BL d.y
  la : d.a.length ≤ 1048576
  lb : d.b.length ≤ 1048576
  lc : d.c.length ≤ 1048576
  ls : d.s.length ≤ 1048576
  lx : d.x.length ≤ 1048576
  ly : d.y.length ≤ 1048576
  h : d.h < 4294967296
  t : d.t < 4294967296
  d1 : d.d1 < 4294967296
  d2 : d.d2 < 4294967296
  d3 : d.d3 < 4294967296
  d4 : d.d4 < 4294967296
  p1 : d.p1 < 4294967296
  p2 : d.p2 < 4294967296
  p3 : d.p3 < 4294967296
  p4 : d.p4 < 4294967296
  p5 : d.p5 < 4294967296
  p6 : d.p6 < 4294967296
  p7 : d.p7 < 4294967296
  p8 : d.p8 < 4294967296
  e1 : d.e1 < 4294967296
  e2 : d.e2 < 4294967296
  e3 : d.e3 < 4294967296
  f1 : d.f1 < 4294967296
  f2 : d.f2 < 4294967296
  f3 : d.f3 < 4294967296
theorem le40 {n : Nat} (h : n ≤ 1048576) : n ≤ 1099511627776 := Nat.le_trans h (by decide)
def sameP (d e : Dsk) : Bool := sameL d.a e.a && (sameL d.b e.b && sameL d.c e.c)
def sameAir (d e : Dsk) : Bool := sameN d.d1 e.d1 && (sameN d.d2 e.d2 && (sameN d.d3 e.d3 && sameN d.d4 e.d4))
def samePl (d e : Dsk) : Bool := sameN d.p1 e.p1 && (sameN d.p2 e.p2 && (sameN d.p3 e.p3 && (sameN d.p4 e.p4 && (sameN d.p5 e.p5 && (sameN d.p6 e.p6 && (sameN d.p7 e.p7 && (sameN d.p8 e.p8)))))))
def sameFm (d e : Dsk) : Bool := sameL d.x e.x && (sameL d.y e.y && (sameN d.f1 e.f1 && (sameN d.f2 e.f2 && sameN d.f3 e.f3)))

theorem t68 (xs ys : List Nat) (t u : Bool) (hx : BL xs) (hy : BL ys) (hn : xs.length ≤ 1099511627776) : Call Try.prog 68 [.sl (.f32 xs) t, .sl (.f32 ys) u] (.bool (sameL xs ys)) [] := by
  refine Call.of_body Ytmcjpkagfjimjaa.Env.ok Try.func68 rfl rfl ?_
  intro o P K ho hP hK
  cbv
  refine useS hP (t114 _ _ _ _ hx hy hn) rfl ?_
  generalize hv : sameL _ _ = v
  cbv
  subst ho hv
  exact hK.ret _ ⟨[], rfl, rfl, rfl⟩
theorem t109 (d e : Dsk) (hd : d.OK) (he : e.OK) : Call Try.prog 109 [.sp (profC d) 0, .sp (profC e) 0] (.bool (sameP d e)) [] := by
  refine Call.of_body Ytmcjpkagfjimjaa.Env.ok Try.func109 rfl rfl ?_
  intro o P K ho hP hK
  cbv
  refine useD hP Ytmcjpkagfjimjaa.Env.ok rfl ho (by kernel_rfl) ?_
  cbv
  refine useRS hP (t58 _ _ _ _ hd.a he.a (le40 hd.la)) rfl ?_
  generalize h0 : sameL _ _ = v0
  cases v0
  · cbv
    subst ho
    refine hK.ret _ ⟨[], rfl, congrArg V.bool ?_, rfl⟩
    rw [sameP, h0]
    rfl
  cbv
  refine useRS hP (t58 _ _ _ _ hd.b he.b (le40 hd.lb)) rfl ?_
  generalize h1 : sameL _ _ = v1
  cases v1
  · cbv
    subst ho
    refine hK.ret _ ⟨[], rfl, congrArg V.bool ?_, rfl⟩
    rw [sameP, h0, h1]
    rfl
  cbv
  refine useRS hP (t58 _ _ _ _ hd.c he.c (le40 hd.lc)) rfl ?_
  generalize h2 : sameL _ _ = v2
  cbv
  subst ho
  refine hK.ret _ ⟨[], rfl, congrArg V.bool ?_, rfl⟩
  rw [sameP, h0, h1, h2]
  rfl
theorem t55 (d e : Dsk) (hd : d.OK) (he : e.OK) : Call Try.prog 55 [.agg (profC d), .agg (profC e)] (.bool (sameP d e)) [] := by
  refine Call.of_body Ytmcjpkagfjimjaa.Env.ok Try.func55 rfl rfl ?_
  intro o P K ho hP hK
  cbv
  refine useL hP 3 (t109 d e hd he) rfl rfl rfl ?_
  generalize hv : sameP _ _ = v
  cbv
  subst ho hv
  exact hK.ret _ ⟨[], rfl, rfl, rfl⟩
theorem t65 (d e : Dsk) (hd : d.OK) (he : e.OK) : Call Try.prog 65 [.agg (profC d), .agg (profC e)] (.bool (sameP d e)) [] := by
  refine Call.of_body Ytmcjpkagfjimjaa.Env.ok Try.func65 rfl rfl ?_
  intro o P K ho hP hK
  cbv
  refine useS hP (t68 _ _ _ _ hd.a he.a (le40 hd.la)) rfl ?_
  generalize h0 : sameL _ _ = v0
  cases v0
  · cbv
    subst ho
    refine hK.ret _ ⟨[], rfl, congrArg V.bool ?_, rfl⟩
    rw [sameP, h0]
    rfl
  cbv
  refine useS hP (t68 _ _ _ _ hd.b he.b (le40 hd.lb)) rfl ?_
  generalize h1 : sameL _ _ = v1
  cases v1
  · cbv
    subst ho
    refine hK.ret _ ⟨[], rfl, congrArg V.bool ?_, rfl⟩
    rw [sameP, h0, h1]
    rfl
  cbv
  refine useS hP (t68 _ _ _ _ hd.c he.c (le40 hd.lc)) rfl ?_
  generalize h2 : sameL _ _ = v2
  cbv
  subst ho
  refine hK.ret _ ⟨[], rfl, congrArg V.bool ?_, rfl⟩
  rw [sameP, h0, h1, h2]
  rfl
theorem t20 (d e : Dsk) (hd : d.OK) (he : e.OK) : Call Try.prog 20 [.sp (deskC d) 7, .sp (deskC e) 7] (.bool (sameAir d e)) [] := by
  refine Call.of_body Ytmcjpkagfjimjaa.Env.ok Try.func20 rfl rfl ?_
  intro o P K ho hP hK
  cbv
  refine useD hP Ytmcjpkagfjimjaa.Env.ok rfl ho (by kernel_rfl) ?_
  cbv
  refine useRS hP (t56 _ _ hd.d1 he.d1) rfl ?_
  generalize h0 : sameN _ _ = v0
  cases v0
  · cbv
    subst ho
    refine hK.ret _ ⟨[], rfl, congrArg V.bool ?_, rfl⟩
    rw [sameAir, h0]
    rfl
  cbv
  refine useRS hP (t56 _ _ hd.d2 he.d2) rfl ?_
  generalize h1 : sameN _ _ = v1
  cases v1
  · cbv
    subst ho
    refine hK.ret _ ⟨[], rfl, congrArg V.bool ?_, rfl⟩
    rw [sameAir, h0, h1]
    rfl
  cbv
  refine useRS hP (t56 _ _ hd.d3 he.d3) rfl ?_
  generalize h2 : sameN _ _ = v2
  cases v2
  · cbv
    subst ho
    refine hK.ret _ ⟨[], rfl, congrArg V.bool ?_, rfl⟩
    rw [sameAir, h0, h1, h2]
    rfl
  cbv
  refine useRS hP (t56 _ _ hd.d4 he.d4) rfl ?_
  generalize h3 : sameN _ _ = v3
  cbv
  subst ho
  refine hK.ret _ ⟨[], rfl, congrArg V.bool ?_, rfl⟩
  rw [sameAir, h0, h1, h2, h3]
  rfl
theorem t28 (d e : Dsk) (hd : d.OK) (he : e.OK) : Call Try.prog 28 [.agg (airC d), .agg (airC e)] (.bool (sameAir d e)) [] := by
  refine Call.of_body Ytmcjpkagfjimjaa.Env.ok Try.func28 rfl rfl ?_
  intro o P K ho hP hK
  cbv
  refine useS hP (t64 _ _ hd.d1 he.d1) rfl ?_
  generalize h0 : sameN _ _ = v0
  cases v0
  · cbv
    subst ho
    refine hK.ret _ ⟨[], rfl, congrArg V.bool ?_, rfl⟩
    rw [sameAir, h0]
    rfl
  cbv
  refine useS hP (t64 _ _ hd.d2 he.d2) rfl ?_
  generalize h1 : sameN _ _ = v1
  cases v1
  · cbv
    subst ho
    refine hK.ret _ ⟨[], rfl, congrArg V.bool ?_, rfl⟩
    rw [sameAir, h0, h1]
    rfl
  cbv
  refine useS hP (t64 _ _ hd.d3 he.d3) rfl ?_
  generalize h2 : sameN _ _ = v2
  cases v2
  · cbv
    subst ho
    refine hK.ret _ ⟨[], rfl, congrArg V.bool ?_, rfl⟩
    rw [sameAir, h0, h1, h2]
    rfl
  cbv
  refine useS hP (t64 _ _ hd.d4 he.d4) rfl ?_
  generalize h3 : sameN _ _ = v3
  cbv
  subst ho
  refine hK.ret _ ⟨[], rfl, congrArg V.bool ?_, rfl⟩
  rw [sameAir, h0, h1, h2, h3]
  rfl
theorem t57 (d e : Dsk) (hd : d.OK) (he : e.OK) : Call Try.prog 57 [.sp (deskC d) 11, .sp (deskC e) 11] (.bool (samePl d e)) [] := by
  refine Call.of_body Ytmcjpkagfjimjaa.Env.ok Try.func57 rfl rfl ?_
  intro o P K ho hP hK
  cbv
  refine useD hP Ytmcjpkagfjimjaa.Env.ok rfl ho (by kernel_rfl) ?_
  cbv
  refine useRS hP (t56 _ _ hd.p1 he.p1) rfl ?_
  generalize h0 : sameN _ _ = v0
  cases v0
  · cbv
    subst ho
    refine hK.ret _ ⟨[], rfl, congrArg V.bool ?_, rfl⟩
    rw [samePl, h0]
    rfl
  cbv
  refine useRS hP (t56 _ _ hd.p2 he.p2) rfl ?_
  generalize h1 : sameN _ _ = v1
  cases v1
  · cbv
    subst ho
    refine hK.ret _ ⟨[], rfl, congrArg V.bool ?_, rfl⟩
    rw [samePl, h0, h1]
    rfl
  cbv
  refine useRS hP (t56 _ _ hd.p3 he.p3) rfl ?_
  generalize h2 : sameN _ _ = v2
  cases v2
  · cbv
    subst ho
    refine hK.ret _ ⟨[], rfl, congrArg V.bool ?_, rfl⟩
    rw [samePl, h0, h1, h2]
    rfl
  cbv
  refine useRS hP (t56 _ _ hd.p4 he.p4) rfl ?_
  generalize h3 : sameN _ _ = v3
  cases v3
  · cbv
    subst ho
    refine hK.ret _ ⟨[], rfl, congrArg V.bool ?_, rfl⟩
    rw [samePl, h0, h1, h2, h3]
    rfl
  cbv
  refine useRS hP (t56 _ _ hd.p5 he.p5) rfl ?_
  generalize h4 : sameN _ _ = v4
  cases v4
  · cbv
    subst ho
    refine hK.ret _ ⟨[], rfl, congrArg V.bool ?_, rfl⟩
    rw [samePl, h0, h1, h2, h3, h4]
    rfl
  cbv
  refine useRS hP (t56 _ _ hd.p6 he.p6) rfl ?_
  generalize h5 : sameN _ _ = v5
  cases v5
  · cbv
    subst ho
    refine hK.ret _ ⟨[], rfl, congrArg V.bool ?_, rfl⟩
    rw [samePl, h0, h1, h2, h3, h4, h5]
    rfl
  cbv
  refine useRS hP (t56 _ _ hd.p7 he.p7) rfl ?_
  generalize h6 : sameN _ _ = v6
  cases v6
  · cbv
    subst ho
    refine hK.ret _ ⟨[], rfl, congrArg V.bool ?_, rfl⟩
    rw [samePl, h0, h1, h2, h3, h4, h5, h6]
    rfl
  cbv
  refine useRS hP (t56 _ _ hd.p8 he.p8) rfl ?_
  generalize h7 : sameN _ _ = v7
  cbv
  subst ho
  refine hK.ret _ ⟨[], rfl, congrArg V.bool ?_, rfl⟩
  rw [samePl, h0, h1, h2, h3, h4, h5, h6, h7]
  rfl
theorem t22 (d e : Dsk) (hd : d.OK) (he : e.OK) : Call Try.prog 22 [.sp (deskC d) 23, .sp (deskC e) 23] (.bool (sameFm d e)) [] := by
  refine Call.of_body Ytmcjpkagfjimjaa.Env.ok Try.func22 rfl rfl ?_
  intro o P K ho hP hK
  cbv
  refine useD hP Ytmcjpkagfjimjaa.Env.ok rfl ho (by kernel_rfl) ?_
  cbv
  refine useRS hP (t58 _ _ _ _ hd.x he.x (le40 hd.lx)) rfl ?_
  generalize h0 : sameL _ _ = v0
  cases v0
  · cbv
    subst ho
    refine hK.ret _ ⟨[], rfl, congrArg V.bool ?_, rfl⟩
    rw [sameFm, h0]
    rfl
  cbv
  refine useRS hP (t58 _ _ _ _ hd.y he.y (le40 hd.ly)) rfl ?_
  generalize h1 : sameL _ _ = v1
  cases v1
  · cbv
    subst ho
    refine hK.ret _ ⟨[], rfl, congrArg V.bool ?_, rfl⟩
    rw [sameFm, h0, h1]
    rfl
  cbv
  refine useRS hP (t56 _ _ hd.f1 he.f1) rfl ?_
  generalize h2 : sameN _ _ = v2
  cases v2
  · cbv
    subst ho
    refine hK.ret _ ⟨[], rfl, congrArg V.bool ?_, rfl⟩
    rw [sameFm, h0, h1, h2]
    rfl
  cbv
  refine useRS hP (t56 _ _ hd.f2 he.f2) rfl ?_
  generalize h3 : sameN _ _ = v3
  cases v3
  · cbv
    subst ho
    refine hK.ret _ ⟨[], rfl, congrArg V.bool ?_, rfl⟩
    rw [sameFm, h0, h1, h2, h3]
    rfl
  cbv
  refine useRS hP (t56 _ _ hd.f3 he.f3) rfl ?_
  generalize h4 : sameN _ _ = v4
  cbv
  subst ho
  refine hK.ret _ ⟨[], rfl, congrArg V.bool ?_, rfl⟩
  rw [sameFm, h0, h1, h2, h3, h4]
  rfl
theorem t30 (d e : Dsk) (hd : d.OK) (he : e.OK) : Call Try.prog 30 [.agg (farmC d), .agg (farmC e)] (.bool (sameFm d e)) [] := by
  refine Call.of_body Ytmcjpkagfjimjaa.Env.ok Try.func30 rfl rfl ?_
  intro o P K ho hP hK
  cbv
  refine useS hP (t68 _ _ _ _ hd.x he.x (le40 hd.lx)) rfl ?_
  generalize h0 : sameL _ _ = v0
  cases v0
  · cbv
    subst ho
    refine hK.ret _ ⟨[], rfl, congrArg V.bool ?_, rfl⟩
    rw [sameFm, h0]
    rfl
  cbv
  refine useS hP (t68 _ _ _ _ hd.y he.y (le40 hd.ly)) rfl ?_
  generalize h1 : sameL _ _ = v1
  cases v1
  · cbv
    subst ho
    refine hK.ret _ ⟨[], rfl, congrArg V.bool ?_, rfl⟩
    rw [sameFm, h0, h1]
    rfl
  cbv
  refine useS hP (t64 _ _ hd.f1 he.f1) rfl ?_
  generalize h2 : sameN _ _ = v2
  cases v2
  · cbv
    subst ho
    refine hK.ret _ ⟨[], rfl, congrArg V.bool ?_, rfl⟩
    rw [sameFm, h0, h1, h2]
    rfl
  cbv
  refine useS hP (t64 _ _ hd.f2 he.f2) rfl ?_
  generalize h3 : sameN _ _ = v3
  cases v3
  · cbv
    subst ho
    refine hK.ret _ ⟨[], rfl, congrArg V.bool ?_, rfl⟩
    rw [sameFm, h0, h1, h2, h3]
    rfl
  cbv
  refine useS hP (t64 _ _ hd.f3 he.f3) rfl ?_
  generalize h4 : sameN _ _ = v4
  cbv
  subst ho
  refine hK.ret _ ⟨[], rfl, congrArg V.bool ?_, rfl⟩
  rw [sameFm, h0, h1, h2, h3, h4]
  rfl
theorem t113 (d : Dsk) : Call Try.prog 113 [.agg (plantC d)] (.own 0) [.row 26 (.f32 (plantL d))] := by
  refine Call.of_body Ytmcjpkagfjimjaa.Env.ok Try.func113 rfl rfl ?_
  intro o P K ho hP hK
  cbv
  subst ho
  exact hK.ret _ ⟨[1], rfl, rfl, rfl⟩
theorem plantB {d : Dsk} (hd : d.OK) : BL (plantL d) := by
  intro x hx
  simp only [plantL, List.mem_cons, List.not_mem_nil, or_false] at hx
  rcases hx with rfl | rfl | rfl | rfl | rfl | rfl | rfl | rfl
  · exact hd.p1
  · exact hd.p2
  · exact hd.p3
  · exact hd.p4
  · exact hd.p5
  · exact hd.p6
  · exact hd.p7
  · exact hd.p8
theorem plant_same (d e : Dsk) : sameL (plantL d) (plantL e) = samePl d e := by
  simp [sameL, plantL, allI, samePl, List.range, List.range.loop]
def sameDr (d e : Dsk) : Bool := samePl d e && (std.ieq d.k e.k && (sameN d.e1 e.e1 && (sameN d.e2 e.e2 && sameN d.e3 e.e3)))
def sameRt (d e : Dsk) : Bool := sameP d e && (sameL3 d.s e.s && (std.ieq d.n e.n && (sameN d.h e.h && sameN d.t e.t)))
def sameDk (d e : Dsk) : Bool := sameRt d e && (sameAir d e && (sameDr d e && sameFm d e))
theorem t21 (d e : Dsk) (hd : d.OK) (he : e.OK) : Call Try.prog 21 [.sp (deskC d) 11, .sp (deskC e) 11] (.bool (sameDr d e)) [] := by
  refine Call.of_body Ytmcjpkagfjimjaa.Env.ok Try.func21 rfl rfl ?_
  intro o P K ho hP hK
  cbv
  refine useD hP Ytmcjpkagfjimjaa.Env.ok rfl ho (by kernel_rfl) ?_
  cbv
  refine useRS hP (t57 d e hd he) rfl ?_
  generalize h0 : samePl _ _ = v0
  cases v0
  · cbv
    subst ho
    refine hK.ret _ ⟨[], rfl, congrArg V.bool ?_, rfl⟩
    rw [sameDr, h0]
    rfl
  cbv
  split; rotate_left
  · rename_i h1
    cbv
    subst ho
    refine hK.ret _ ⟨[], rfl, congrArg V.bool ?_, rfl⟩
    rw [sameDr, h0, (show std.ieq _ _ = _ from h1)]
    rfl
  rename_i h1
  cbv
  refine useRS hP (t56 _ _ hd.e1 he.e1) rfl ?_
  generalize h2 : sameN _ _ = v2
  cases v2
  · cbv
    subst ho
    refine hK.ret _ ⟨[], rfl, congrArg V.bool ?_, rfl⟩
    rw [sameDr, h0, (show std.ieq _ _ = _ from h1), h2]
    rfl
  cbv
  refine useRS hP (t56 _ _ hd.e2 he.e2) rfl ?_
  generalize h3 : sameN _ _ = v3
  cases v3
  · cbv
    subst ho
    refine hK.ret _ ⟨[], rfl, congrArg V.bool ?_, rfl⟩
    rw [sameDr, h0, (show std.ieq _ _ = _ from h1), h2, h3]
    rfl
  cbv
  refine useRS hP (t56 _ _ hd.e3 he.e3) rfl ?_
  generalize h4 : sameN _ _ = v4
  cbv
  subst ho
  refine hK.ret _ ⟨[], rfl, congrArg V.bool ?_, rfl⟩
  rw [sameDr, h0, (show std.ieq _ _ = _ from h1), h2, h3, h4]
  rfl
theorem t67 (d e : Dsk) (hd : d.OK) (he : e.OK) : Call Try.prog 67 [.agg (plantC d), .agg (plantC e)] (.bool (samePl d e)) [] := by
  rw [← plant_same]
  refine Call.of_body Ytmcjpkagfjimjaa.Env.ok Try.func67 rfl rfl ?_
  intro o P K ho hP hK
  cbv
  refine useD hP Ytmcjpkagfjimjaa.Env.ok rfl ho (by kernel_rfl) ?_
  cbv
  refine useRS hP (t113 d) rfl ?_
  cbv
  refine useRS hP (t113 e) rfl ?_
  cbv
  refine useRL hP 3 (t68 (plantL d) (plantL e) false false (plantB hd) (plantB he) (by show (8 : Nat) ≤ 1099511627776; decide)) rfl rfl rfl ?_
  generalize hv : sameL _ _ = v
  cbv
  subst ho hv
  exact hK.ret _ ⟨[], rfl, rfl, rfl⟩
theorem t29 (d e : Dsk) (hd : d.OK) (he : e.OK) : Call Try.prog 29 [.agg (drvC d), .agg (drvC e)] (.bool (sameDr d e)) [] := by
  refine Call.of_body Ytmcjpkagfjimjaa.Env.ok Try.func29 rfl rfl ?_
  intro o P K ho hP hK
  cbv
  refine useS hP (t67 d e hd he) rfl ?_
  generalize h0 : samePl _ _ = v0
  cases v0
  · cbv
    subst ho
    refine hK.ret _ ⟨[], rfl, congrArg V.bool ?_, rfl⟩
    rw [sameDr, h0]
    rfl
  cbv
  split; rotate_left
  · rename_i h1
    cbv
    subst ho
    refine hK.ret _ ⟨[], rfl, congrArg V.bool ?_, rfl⟩
    rw [sameDr, h0, (show std.ieq _ _ = _ from h1)]
    rfl
  rename_i h1
  cbv
  refine useS hP (t64 _ _ hd.e1 he.e1) rfl ?_
  generalize h2 : sameN _ _ = v2
  cases v2
  · cbv
    subst ho
    refine hK.ret _ ⟨[], rfl, congrArg V.bool ?_, rfl⟩
    rw [sameDr, h0, (show std.ieq _ _ = _ from h1), h2]
    rfl
  cbv
  refine useS hP (t64 _ _ hd.e2 he.e2) rfl ?_
  generalize h3 : sameN _ _ = v3
  cases v3
  · cbv
    subst ho
    refine hK.ret _ ⟨[], rfl, congrArg V.bool ?_, rfl⟩
    rw [sameDr, h0, (show std.ieq _ _ = _ from h1), h2, h3]
    rfl
  cbv
  refine useS hP (t64 _ _ hd.e3 he.e3) rfl ?_
  generalize h4 : sameN _ _ = v4
  cbv
  subst ho
  refine hK.ret _ ⟨[], rfl, congrArg V.bool ?_, rfl⟩
  rw [sameDr, h0, (show std.ieq _ _ = _ from h1), h2, h3, h4]
  rfl
theorem t27 (d e : Dsk) (hd : d.OK) (he : e.OK) : Call Try.prog 27 [.agg (rotC d), .agg (rotC e)] (.bool (sameRt d e)) [] := by
  refine Call.of_body Ytmcjpkagfjimjaa.Env.ok Try.func27 rfl rfl ?_
  intro o P K ho hP hK
  cbv
  refine useS hP (t65 d e hd he) rfl ?_
  generalize h0 : sameP _ _ = v0
  cases v0
  · cbv
    subst ho
    refine hK.ret _ ⟨[], rfl, congrArg V.bool ?_, rfl⟩
    rw [sameRt, h0]
    rfl
  cbv
  refine useS hP (t66 _ _ _ _ hd.s he.s (le40 hd.ls)) rfl ?_
  generalize h1 : sameL3 _ _ = v1
  cases v1
  · cbv
    subst ho
    refine hK.ret _ ⟨[], rfl, congrArg V.bool ?_, rfl⟩
    rw [sameRt, h0, h1]
    rfl
  cbv
  split; rotate_left
  · rename_i h2
    cbv
    subst ho
    refine hK.ret _ ⟨[], rfl, congrArg V.bool ?_, rfl⟩
    rw [sameRt, h0, h1, (show std.ieq _ _ = _ from h2)]
    rfl
  rename_i h2
  cbv
  refine useS hP (t64 _ _ hd.h he.h) rfl ?_
  generalize h3 : sameN _ _ = v3
  cases v3
  · cbv
    subst ho
    refine hK.ret _ ⟨[], rfl, congrArg V.bool ?_, rfl⟩
    rw [sameRt, h0, h1, (show std.ieq _ _ = _ from h2), h3]
    rfl
  cbv
  refine useS hP (t64 _ _ hd.t he.t) rfl ?_
  generalize h4 : sameN _ _ = v4
  cbv
  subst ho
  refine hK.ret _ ⟨[], rfl, congrArg V.bool ?_, rfl⟩
  rw [sameRt, h0, h1, (show std.ieq _ _ = _ from h2), h3, h4]
  rfl
theorem t9 (d e : Dsk) (hd : d.OK) (he : e.OK) : Call Try.prog 9 [.agg (deskC d), .agg (deskC e)] (.bool (sameDk d e)) [] := by
  refine Call.of_body Ytmcjpkagfjimjaa.Env.ok Try.func9 rfl rfl ?_
  intro o P K ho hP hK
  cbv
  refine useS hP (t27 d e hd he) rfl ?_
  generalize h0 : sameRt _ _ = v0
  cases v0
  · cbv
    subst ho
    refine hK.ret _ ⟨[], rfl, congrArg V.bool ?_, rfl⟩
    rw [sameDk, h0]
    rfl
  cbv
  refine useS hP (t28 d e hd he) rfl ?_
  generalize h1 : sameAir _ _ = v1
  cases v1
  · cbv
    subst ho
    refine hK.ret _ ⟨[], rfl, congrArg V.bool ?_, rfl⟩
    rw [sameDk, h0, h1]
    rfl
  cbv
  refine useS hP (t29 d e hd he) rfl ?_
  generalize h2 : sameDr _ _ = v2
  cases v2
  · cbv
    subst ho
    refine hK.ret _ ⟨[], rfl, congrArg V.bool ?_, rfl⟩
    rw [sameDk, h0, h1, h2]
    rfl
  cbv
  refine useS hP (t30 d e hd he) rfl ?_
  generalize h3 : sameFm _ _ = v3
  cbv
  subst ho
  refine hK.ret _ ⟨[], rfl, congrArg V.bool ?_, rfl⟩
  rw [sameDk, h0, h1, h2, h3]
  rfl
end Go.En
