/-
  The contracts of the program that compare desks. Own work.
-/
import Derived.Test.YtnkefikpejjjcaaDoorEnv
import Derived.Test.YtnkefikpejjjcaaDoorEnXz
import Derived.Test.YtnkefikpejjjcaaDoorSameA
set_option linter.unusedVariables false
set_option linter.unusedSimpArgs false
set_option maxRecDepth 100000
namespace Go.En
open Go.Proofs

structure Dsk where
  a : List Nat
  b : List Nat
  c : List Nat
  s : List S3
  n : Int
  h : Nat
  t : Nat
  d1 : Nat
  d2 : Nat
  d3 : Nat
  d4 : Nat
  p1 : Nat
  p2 : Nat
  p3 : Nat
  p4 : Nat
  p5 : Nat
  p6 : Nat
  p7 : Nat
  p8 : Nat
  k : Int
  e1 : Nat
  e2 : Nat
  e3 : Nat
  x : List Nat
  y : List Nat
  f1 : Nat
  f2 : Nat
  f3 : Nat
def F (x : Nat) : V := .flt .f32 x
def SL (a : List Nat) : V := .sl (.f32 a) false
def S3L (a : List S3) : V := .sl (.r3 a) false
def profC (d : Dsk) : List V := [SL d.a, SL d.b, SL d.c]
def rotC (d : Dsk) : List V := [SL d.a, SL d.b, SL d.c, S3L d.s, .int .i64 d.n, F d.h, F d.t]
def airC (d : Dsk) : List V := [F d.d1, F d.d2, F d.d3, F d.d4]
def plantC (d : Dsk) : List V := [F d.p1, F d.p2, F d.p3, F d.p4, F d.p5, F d.p6, F d.p7, F d.p8]
def drvC (d : Dsk) : List V := [F d.p1, F d.p2, F d.p3, F d.p4, F d.p5, F d.p6, F d.p7, F d.p8, .int .i64 d.k, F d.e1, F d.e2, F d.e3]
def farmC (d : Dsk) : List V := [SL d.x, SL d.y, F d.f1, F d.f2, F d.f3]
def deskC (d : Dsk) : List V := cat (rotC d) (cat (airC d) (cat (drvC d) (farmC d)))
def plantL (d : Dsk) : List Nat := [d.p1, d.p2, d.p3, d.p4, d.p5, d.p6, d.p7, d.p8]
/-- What is known of a desk's numbers. -/
structure Dsk.OK (d : Dsk) : Prop where
  a : BL d.a
  b : BL d.b
  c : BL d.c
  s : BL3 d.s
  x : BL d.x
  y : BL d.y
  la : d.a.length ≤ 1048576
  lb : d.b.length ≤ 1048576
  lc : d.c.length ≤ 1048576
  ls : d.s.length ≤ 1048576
  lx : d.x.length ≤ 1048576
  ly : d.y.length ≤ 1048576
  h : d.h < 4294967296
  t : d.t < 4294967296
  d1 : d.d1 < 4294967296
  d2 : d.d2 < 4294967296
  d3 : d.d3 < 4294967296
  d4 : d.d4 < 4294967296
  p1 : d.p1 < 4294967296
  p2 : d.p2 < 4294967296
  p3 : d.p3 < 4294967296
  p4 : d.p4 < 4294967296
  p5 : d.p5 < 4294967296
  p6 : d.p6 < 4294967296
  p7 : d.p7 < 4294967296
  p8 : d.p8 < 4294967296
  e1 : d.e1 < 4294967296
  e2 : d.e2 < 4294967296
  e3 : d.e3 < 4294967296
  f1 : d.f1 < 4294967296
  f2 : d.f2 < 4294967296
  f3 : d.f3 < 4294967296
theorem le40 {n : Nat} (h : n ≤ 1048576) : n ≤ 1099511627776 := Nat.le_trans h (by decide)
def sameP (d e : Dsk) : Bool := sameL d.a e.a && (sameL d.b e.b && sameL d.c e.c)
def sameAir (d e : Dsk) : Bool := sameN d.d1 e.d1 && (sameN d.d2 e.d2 && (sameN d.d3 e.d3 && sameN d.d4 e.d4))
def samePl (d e : Dsk) : Bool := sameN d.p1 e.p1 && (sameN d.p2 e.p2 && (sameN d.p3 e.p3 && (sameN d.p4 e.p4 && (sameN d.p5 e.p5 && (sameN d.p6 e.p6 && (sameN d.p7 e.p7 && (sameN d.p8 e.p8)))))))
def sameFm (d e : Dsk) : Bool := sameL d.x e.x && (sameL d.y e.y && (sameN d.f1 e.f1 && (sameN d.f2 e.f2 && sameN d.f3 e.f3)))

theorem t113 (d : Dsk) : Call YtnkefikpejjjcaaDoor.Env.pg 30 [.agg (plantC d)] (.own 0) [.row 22 (.f32 (plantL d))] := by
  refine Call.of_body YtnkefikpejjjcaaDoor.Env.ok Tryd.func30 rfl rfl ?_
  intro o P K ho hP hK
  cbv
  subst ho
  exact hK.ret _ ⟨[1], rfl, rfl, rfl⟩
theorem plantB {d : Dsk} (hd : d.OK) : BL (plantL d) := by
  intro x hx
  simp only [plantL, List.mem_cons, List.not_mem_nil, or_false] at hx
  rcases hx with rfl | rfl | rfl | rfl | rfl | rfl | rfl | rfl
  · exact hd.p1
  · exact hd.p2
  · exact hd.p3
  · exact hd.p4
  · exact hd.p5
  · exact hd.p6
  · exact hd.p7
  · exact hd.p8
theorem plant_same (d e : Dsk) : sameL (plantL d) (plantL e) = samePl d e := by
  simp [sameL, plantL, allI, samePl, List.range, List.range.loop]
def sameDr (d e : Dsk) : Bool := samePl d e && (std.ieq d.k e.k && (sameN d.e1 e.e1 && (sameN d.e2 e.e2 && sameN d.e3 e.e3)))
def sameRt (d e : Dsk) : Bool := sameP d e && (sameL3 d.s e.s && (std.ieq d.n e.n && (sameN d.h e.h && sameN d.t e.t)))
def sameDk (d e : Dsk) : Bool := sameRt d e && (sameAir d e && (sameDr d e && sameFm d e))
end Go.En
