/-
  The law FnExactSameDesk returns true for two desks of any size. Own work.
-/
import Derived.Test.YtnkefikpejjjcaaDoorEnv
import Derived.Test.YtnkefikpejjjcaaDoorEnXz
import Derived.Test.YtnkefikpejjjcaaDoorSameD
set_option linter.unusedVariables false
set_option linter.unusedSimpArgs false
set_option maxRecDepth 100000
namespace Go.En
open Go.Proofs
theorem sub_rng2 {l : Int} {n : Nat} (hl : 0 ≤ l ∧ l ≤ 1048576) (hn : n ≤ maxLen) : std.rng .i64 (std.sub l (Int.ofNat n)) := by
  show IntKind.i64.min ≤ l - (n : Int) ∧ l - (n : Int) ≤ IntKind.i64.max
  have hn : n ≤ 2 ^ 63 - 1 := hn
  simp [IntKind.min, IntKind.max, IntKind.signed, IntKind.bits]
  omega
theorem sz1_in2 {l : Int} {n : Nat} (hl : 0 ≤ l ∧ l ≤ 1048576) : (-1 ≤ sz1 l n ∧ sz1 l n ≤ 1048576) ∧ (0 ≤ sz1 l n → n ≤ 1048576) := by
  unfold sz1
  split
  · exact ⟨by omega, fun h => by omega⟩
  · rename_i h
    have h : decide (l - (n : Int) < 0) = false := h
    have := of_decide_eq_false h
    refine ⟨?_, fun _ => by omega⟩
    show -1 ≤ l - (n : Int) ∧ l - (n : Int) ≤ 1048576
    omega
/-- What a reading tells of a desk. -/
structure Dsk.Wf (d : Dsk) : Prop where
  a : BL d.a
  b : BL d.b
  c : BL d.c
  s : BL3 d.s
  x : BL d.x
  y : BL d.y
  la : d.a.length ≤ maxLen
  lb : d.b.length ≤ maxLen
  lc : d.c.length ≤ maxLen
  ls : d.s.length ≤ maxLen
  lx : d.x.length ≤ maxLen
  ly : d.y.length ≤ maxLen
  h : d.h < 4294967296
  t : d.t < 4294967296
  d1 : d.d1 < 4294967296
  d2 : d.d2 < 4294967296
  d3 : d.d3 < 4294967296
  d4 : d.d4 < 4294967296
  p1 : d.p1 < 4294967296
  p2 : d.p2 < 4294967296
  p3 : d.p3 < 4294967296
  p4 : d.p4 < 4294967296
  p5 : d.p5 < 4294967296
  p6 : d.p6 < 4294967296
  p7 : d.p7 < 4294967296
  p8 : d.p8 < 4294967296
  e1 : d.e1 < 4294967296
  e2 : d.e2 < 4294967296
  e3 : d.e3 < 4294967296
  f1 : d.f1 < 4294967296
  f2 : d.f2 < 4294967296
  f3 : d.f3 < 4294967296
theorem Dsk.Wf.ok {d : Dsk} (w : d.Wf) (la : d.a.length ≤ 1048576) (lb : d.b.length ≤ 1048576) (lc : d.c.length ≤ 1048576) (ls : d.s.length ≤ 1048576) (lx : d.x.length ≤ 1048576) (ly : d.y.length ≤ 1048576) : d.OK :=
  ⟨w.a, w.b, w.c, w.s, w.x, w.y, la, lb, lc, ls, lx, ly, w.h, w.t, w.d1, w.d2, w.d3, w.d4, w.p1, w.p2, w.p3, w.p4, w.p5, w.p6, w.p7, w.p8, w.e1, w.e2, w.e3, w.f1, w.f2, w.f3⟩
theorem w54 (a : List Nat) (t : Bool) (l : Int) (hl : 0 ≤ l ∧ l ≤ 1048576) (hn : a.length ≤ maxLen) : ∃ z, (-1 ≤ z ∧ z ≤ 1048576) ∧ (0 ≤ z → a.length ≤ 1048576) ∧ Call YtnkefikpejjjcaaDoor.Env.pg 32 [.sl (.f32 a) t, .int .i64 l] (.int .i64 z) [] := by
  refine ⟨sz1 l a.length, (sz1_in2 hl).1, (sz1_in2 hl).2, ?_⟩
  refine Call.of_body YtnkefikpejjjcaaDoor.Env.ok Tryd.func32 rfl rfl ?_; intro o P K ho hP hK; cbv
  repeat' (first | (split; all_goals try cbv) | refine And.intro ?_ ?_)
  · subst ho; exact sub_rng2 hl hn
  · subst ho
    refine hK.ret _ ⟨[], rfl, congrArg (V.int .i64) ?_, rfl⟩
    have h : std.ilt (std.sub l (Int.ofNat a.length)) 0 = true := by assumption
    rw [sz1, h]
  · subst ho; exact sub_rng2 hl hn
  · subst ho
    refine hK.ret _ ⟨[], rfl, congrArg (V.int .i64) ?_, rfl⟩
    have h : std.ilt (std.sub l (Int.ofNat a.length)) 0 = false := by assumption
    rw [sz1, h]
    rfl
theorem w53 (a : List S3) (t : Bool) (l : Int) (hl : 0 ≤ l ∧ l ≤ 1048576) (hn : a.length ≤ maxLen) : ∃ z, (-1 ≤ z ∧ z ≤ 1048576) ∧ (0 ≤ z → a.length ≤ 1048576) ∧ Call YtnkefikpejjjcaaDoor.Env.pg 43 [.sl (.r3 a) t, .int .i64 l] (.int .i64 z) [] := by
  refine ⟨sz1 l a.length, (sz1_in2 hl).1, (sz1_in2 hl).2, ?_⟩
  refine Call.of_body YtnkefikpejjjcaaDoor.Env.ok Tryd.func43 rfl rfl ?_; intro o P K ho hP hK; cbv
  repeat' (first | (split; all_goals try cbv) | refine And.intro ?_ ?_)
  · subst ho; exact sub_rng2 hl hn
  · subst ho
    refine hK.ret _ ⟨[], rfl, congrArg (V.int .i64) ?_, rfl⟩
    have h : std.ilt (std.sub l (Int.ofNat a.length)) 0 = true := by assumption
    rw [sz1, h]
  · subst ho; exact sub_rng2 hl hn
  · subst ho
    refine hK.ret _ ⟨[], rfl, congrArg (V.int .i64) ?_, rfl⟩
    have h : std.ilt (std.sub l (Int.ofNat a.length)) 0 = false := by assumption
    rw [sz1, h]
    rfl
theorem w52 (d : Dsk) (l : Int) (hd : d.Wf) (hl : 0 ≤ l ∧ l ≤ 1048576) : ∃ z, (-1 ≤ z ∧ z ≤ 1048576) ∧ (0 ≤ z → d.a.length ≤ 1048576 ∧ d.b.length ≤ 1048576 ∧ d.c.length ≤ 1048576) ∧ Call YtnkefikpejjjcaaDoor.Env.pg 10 [.agg (profC d), .int .i64 l] (.int .i64 z) [] := by
  obtain ⟨z1, b1, q1, c1⟩ := w54 d.a false l hl hd.la
  cases g1 : std.ilt z1 0
  case true =>
    refine ⟨-1, by decide, fun h => absurd h (by decide), ?_⟩
    refine Call.of_body YtnkefikpejjjcaaDoor.Env.ok Tryd.func10 rfl rfl ?_; intro o P K ho hP hK; cbv
    refine useS hP c1 rfl ?_
    cbv
    split; rotate_left; (subst ho; exact Bool.noConfusion (g1.symm.trans ‹std.ilt z1 0 = false›))
    cbv
    subst ho
    exact hK.ret _ ⟨[], rfl, rfl, rfl⟩
  have l1 : 0 ≤ z1 ∧ z1 ≤ 1048576 := ⟨ilt0 g1, b1.2⟩
  obtain ⟨z2, b2, q2, c2⟩ := w54 d.b false z1 l1 hd.lb
  cases g2 : std.ilt z2 0
  case true =>
    refine ⟨-1, by decide, fun h => absurd h (by decide), ?_⟩
    refine Call.of_body YtnkefikpejjjcaaDoor.Env.ok Tryd.func10 rfl rfl ?_; intro o P K ho hP hK; cbv
    refine useS hP c1 rfl ?_
    cbv
    split; (subst ho; exact Bool.noConfusion (g1.symm.trans ‹std.ilt z1 0 = true›))
    cbv
    refine useS hP c2 rfl ?_
    cbv
    split; rotate_left; (subst ho; exact Bool.noConfusion (g2.symm.trans ‹std.ilt z2 0 = false›))
    cbv
    subst ho
    exact hK.ret _ ⟨[], rfl, rfl, rfl⟩
  have l2 : 0 ≤ z2 ∧ z2 ≤ 1048576 := ⟨ilt0 g2, b2.2⟩
  obtain ⟨z3, b3, q3, c3⟩ := w54 d.c false z2 l2 hd.lc
  cases g3 : std.ilt z3 0
  case true =>
    refine ⟨-1, by decide, fun h => absurd h (by decide), ?_⟩
    refine Call.of_body YtnkefikpejjjcaaDoor.Env.ok Tryd.func10 rfl rfl ?_; intro o P K ho hP hK; cbv
    refine useS hP c1 rfl ?_
    cbv
    split; (subst ho; exact Bool.noConfusion (g1.symm.trans ‹std.ilt z1 0 = true›))
    cbv
    refine useS hP c2 rfl ?_
    cbv
    split; (subst ho; exact Bool.noConfusion (g2.symm.trans ‹std.ilt z2 0 = true›))
    cbv
    refine useS hP c3 rfl ?_
    cbv
    split; rotate_left; (subst ho; exact Bool.noConfusion (g3.symm.trans ‹std.ilt z3 0 = false›))
    cbv
    subst ho
    exact hK.ret _ ⟨[], rfl, rfl, rfl⟩
  have l3 : 0 ≤ z3 ∧ z3 ≤ 1048576 := ⟨ilt0 g3, b3.2⟩
  refine ⟨z3, b3, fun _ => ⟨q1 l1.1, q2 l2.1, q3 l3.1⟩, ?_⟩
  refine Call.of_body YtnkefikpejjjcaaDoor.Env.ok Tryd.func10 rfl rfl ?_; intro o P K ho hP hK; cbv
  refine useS hP c1 rfl ?_
  cbv
  split; (subst ho; exact Bool.noConfusion (g1.symm.trans ‹std.ilt z1 0 = true›))
  cbv
  refine useS hP c2 rfl ?_
  cbv
  split; (subst ho; exact Bool.noConfusion (g2.symm.trans ‹std.ilt z2 0 = true›))
  cbv
  refine useS hP c3 rfl ?_
  cbv
  split; (subst ho; exact Bool.noConfusion (g3.symm.trans ‹std.ilt z3 0 = true›))
  cbv
  subst ho
  exact hK.ret _ ⟨[], rfl, rfl, rfl⟩
theorem w17 (d : Dsk) (l : Int) (hd : d.Wf) (hl : 0 ≤ l ∧ l ≤ 1048576) : ∃ z, (-1 ≤ z ∧ z ≤ 1048576) ∧ (0 ≤ z → d.a.length ≤ 1048576 ∧ d.b.length ≤ 1048576 ∧ d.c.length ≤ 1048576 ∧ d.s.length ≤ 1048576) ∧ Call YtnkefikpejjjcaaDoor.Env.pg 20 [.agg (rotC d), .int .i64 l] (.int .i64 z) [] := by
  obtain ⟨z1, b1, q1, c1⟩ := w52 d l hd hl
  cases g1 : std.ilt z1 0
  case true =>
    refine ⟨-1, by decide, fun h => absurd h (by decide), ?_⟩
    refine Call.of_body YtnkefikpejjjcaaDoor.Env.ok Tryd.func20 rfl rfl ?_; intro o P K ho hP hK; cbv
    refine useS hP c1 rfl ?_
    cbv
    split; rotate_left; (subst ho; exact Bool.noConfusion (g1.symm.trans ‹std.ilt z1 0 = false›))
    cbv
    subst ho
    exact hK.ret _ ⟨[], rfl, rfl, rfl⟩
  have l1 : 0 ≤ z1 ∧ z1 ≤ 1048576 := ⟨ilt0 g1, b1.2⟩
  obtain ⟨z2, b2, q2, c2⟩ := w53 d.s false z1 l1 hd.ls
  cases g2 : std.ilt z2 0
  case true =>
    refine ⟨-1, by decide, fun h => absurd h (by decide), ?_⟩
    refine Call.of_body YtnkefikpejjjcaaDoor.Env.ok Tryd.func20 rfl rfl ?_; intro o P K ho hP hK; cbv
    refine useS hP c1 rfl ?_
    cbv
    split; (subst ho; exact Bool.noConfusion (g1.symm.trans ‹std.ilt z1 0 = true›))
    cbv
    refine useS hP c2 rfl ?_
    cbv
    split; rotate_left; (subst ho; exact Bool.noConfusion (g2.symm.trans ‹std.ilt z2 0 = false›))
    cbv
    subst ho
    exact hK.ret _ ⟨[], rfl, rfl, rfl⟩
  have l2 : 0 ≤ z2 ∧ z2 ≤ 1048576 := ⟨ilt0 g2, b2.2⟩
  refine ⟨z2, b2, fun _ => ⟨(q1 l1.1).1, (q1 l1.1).2.1, (q1 l1.1).2.2, q2 l2.1⟩, ?_⟩
  refine Call.of_body YtnkefikpejjjcaaDoor.Env.ok Tryd.func20 rfl rfl ?_; intro o P K ho hP hK; cbv
  refine useS hP c1 rfl ?_
  cbv
  split; (subst ho; exact Bool.noConfusion (g1.symm.trans ‹std.ilt z1 0 = true›))
  cbv
  refine useS hP c2 rfl ?_
  cbv
  split; (subst ho; exact Bool.noConfusion (g2.symm.trans ‹std.ilt z2 0 = true›))
  cbv
  subst ho
  exact hK.ret _ ⟨[], rfl, rfl, rfl⟩
theorem w18 (d : Dsk) (l : Int) (hd : d.Wf) (hl : 0 ≤ l ∧ l ≤ 1048576) : ∃ z, (-1 ≤ z ∧ z ≤ 1048576) ∧ (0 ≤ z → d.x.length ≤ 1048576 ∧ d.y.length ≤ 1048576) ∧ Call YtnkefikpejjjcaaDoor.Env.pg 15 [.agg (farmC d), .int .i64 l] (.int .i64 z) [] := by
  obtain ⟨z1, b1, q1, c1⟩ := w54 d.x false l hl hd.lx
  cases g1 : std.ilt z1 0
  case true =>
    refine ⟨-1, by decide, fun h => absurd h (by decide), ?_⟩
    refine Call.of_body YtnkefikpejjjcaaDoor.Env.ok Tryd.func15 rfl rfl ?_; intro o P K ho hP hK; cbv
    refine useS hP c1 rfl ?_
    cbv
    split; rotate_left; (subst ho; exact Bool.noConfusion (g1.symm.trans ‹std.ilt z1 0 = false›))
    cbv
    subst ho
    exact hK.ret _ ⟨[], rfl, rfl, rfl⟩
  have l1 : 0 ≤ z1 ∧ z1 ≤ 1048576 := ⟨ilt0 g1, b1.2⟩
  obtain ⟨z2, b2, q2, c2⟩ := w54 d.y false z1 l1 hd.ly
  cases g2 : std.ilt z2 0
  case true =>
    refine ⟨-1, by decide, fun h => absurd h (by decide), ?_⟩
    refine Call.of_body YtnkefikpejjjcaaDoor.Env.ok Tryd.func15 rfl rfl ?_; intro o P K ho hP hK; cbv
    refine useS hP c1 rfl ?_
    cbv
    split; (subst ho; exact Bool.noConfusion (g1.symm.trans ‹std.ilt z1 0 = true›))
    cbv
    refine useS hP c2 rfl ?_
    cbv
    split; rotate_left; (subst ho; exact Bool.noConfusion (g2.symm.trans ‹std.ilt z2 0 = false›))
    cbv
    subst ho
    exact hK.ret _ ⟨[], rfl, rfl, rfl⟩
  have l2 : 0 ≤ z2 ∧ z2 ≤ 1048576 := ⟨ilt0 g2, b2.2⟩
  refine ⟨z2, b2, fun _ => ⟨q1 l1.1, q2 l2.1⟩, ?_⟩
  refine Call.of_body YtnkefikpejjjcaaDoor.Env.ok Tryd.func15 rfl rfl ?_; intro o P K ho hP hK; cbv
  refine useS hP c1 rfl ?_
  cbv
  split; (subst ho; exact Bool.noConfusion (g1.symm.trans ‹std.ilt z1 0 = true›))
  cbv
  refine useS hP c2 rfl ?_
  cbv
  split; (subst ho; exact Bool.noConfusion (g2.symm.trans ‹std.ilt z2 0 = true›))
  cbv
  subst ho
  exact hK.ret _ ⟨[], rfl, rfl, rfl⟩
theorem Wf_ok {d : Dsk} (w : d.Wf) (h : d.a.length ≤ 1048576 ∧ d.b.length ≤ 1048576 ∧ d.c.length ≤ 1048576 ∧ d.s.length ≤ 1048576 ∧ d.x.length ≤ 1048576 ∧ d.y.length ≤ 1048576) : d.OK := w.ok h.1 h.2.1 h.2.2.1 h.2.2.2.1 h.2.2.2.2.1 h.2.2.2.2.2

end Go.En

