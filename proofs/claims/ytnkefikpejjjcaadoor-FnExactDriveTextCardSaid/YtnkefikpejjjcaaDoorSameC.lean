/-
  The contracts of the law's own functions: sizes, copies, comparisons. Own work.
-/
import Derived.Test.YtnkefikpejjjcaaDoorEnv
import Derived.Test.YtnkefikpejjjcaaDoorEnXz
import Derived.Test.YtnkefikpejjjcaaDoorSameB
set_option linter.unusedVariables false
set_option linter.unusedSimpArgs false
set_option maxRecDepth 100000
namespace Go.En
open Go.Proofs
theorem sz1' : True := trivial
def sz1 (l : Int) (n : Nat) : Int := match std.ilt (std.sub l (Int.ofNat n)) 0 with | true => -1 | false => std.sub l (Int.ofNat n)
theorem sz1_in {l : Int} {n : Nat} (hl : 0 ≤ l ∧ l ≤ 1048576) : -1 ≤ sz1 l n ∧ sz1 l n ≤ 1048576 := by
  unfold sz1
  split
  · omega
  · rename_i h
    have h : decide (l - (n : Int) < 0) = false := h
    have := of_decide_eq_false h
    show -1 ≤ l - (n : Int) ∧ l - (n : Int) ≤ 1048576
    omega
theorem sub_rng {l : Int} {n : Nat} (hl : 0 ≤ l ∧ l ≤ 1048576) (hn : n ≤ 1048576) : std.rng .i64 (std.sub l (Int.ofNat n)) := by
  show IntKind.i64.min ≤ l - (n : Int) ∧ l - (n : Int) ≤ IntKind.i64.max
  simp [IntKind.min, IntKind.max, IntKind.signed, IntKind.bits]
  omega
theorem t54 (a : List Nat) (t : Bool) (l : Int) (hl : 0 ≤ l ∧ l ≤ 1048576) (hn : a.length ≤ 1048576) : Call YtnkefikpejjjcaaDoor.Env.pg 32 [.sl (.f32 a) t, .int .i64 l] (.int .i64 (sz1 l a.length)) [] := by
  refine Call.of_body YtnkefikpejjjcaaDoor.Env.ok Tryd.func32 rfl rfl ?_; intro o P K ho hP hK; cbv
  repeat' (first | (split; all_goals try cbv) | refine And.intro ?_ ?_)
  · subst ho; exact sub_rng hl hn
  · subst ho
    refine hK.ret _ ⟨[], rfl, congrArg (V.int .i64) ?_, rfl⟩
    have h : std.ilt (std.sub l (Int.ofNat a.length)) 0 = true := by assumption
    rw [sz1, h]
  · subst ho; exact sub_rng hl hn
  · subst ho
    refine hK.ret _ ⟨[], rfl, congrArg (V.int .i64) ?_, rfl⟩
    have h : std.ilt (std.sub l (Int.ofNat a.length)) 0 = false := by assumption
    rw [sz1, h]
    rfl
theorem t53 (a : List S3) (t : Bool) (l : Int) (hl : 0 ≤ l ∧ l ≤ 1048576) (hn : a.length ≤ 1048576) : Call YtnkefikpejjjcaaDoor.Env.pg 43 [.sl (.r3 a) t, .int .i64 l] (.int .i64 (sz1 l a.length)) [] := by
  refine Call.of_body YtnkefikpejjjcaaDoor.Env.ok Tryd.func43 rfl rfl ?_; intro o P K ho hP hK; cbv
  repeat' (first | (split; all_goals try cbv) | refine And.intro ?_ ?_)
  · subst ho; exact sub_rng hl hn
  · subst ho
    refine hK.ret _ ⟨[], rfl, congrArg (V.int .i64) ?_, rfl⟩
    have h : std.ilt (std.sub l (Int.ofNat a.length)) 0 = true := by assumption
    rw [sz1, h]
  · subst ho; exact sub_rng hl hn
  · subst ho
    refine hK.ret _ ⟨[], rfl, congrArg (V.int .i64) ?_, rfl⟩
    have h : std.ilt (std.sub l (Int.ofNat a.length)) 0 = false := by assumption
    rw [sz1, h]
    rfl

theorem ilt0 {z : Int} (h : std.ilt z 0 = false) : 0 ≤ z := by
  have h : decide (z < 0) = false := h
  have := of_decide_eq_false h
  omega
theorem s54 (a : List Nat) (t : Bool) (l : Int) (hl : 0 ≤ l ∧ l ≤ 1048576) (hn : a.length ≤ 1048576) : ∃ z, (-1 ≤ z ∧ z ≤ 1048576) ∧ Call YtnkefikpejjjcaaDoor.Env.pg 32 [.sl (.f32 a) t, .int .i64 l] (.int .i64 z) [] := ⟨_, sz1_in hl, t54 a t l hl hn⟩
theorem s53 (a : List S3) (t : Bool) (l : Int) (hl : 0 ≤ l ∧ l ≤ 1048576) (hn : a.length ≤ 1048576) : ∃ z, (-1 ≤ z ∧ z ≤ 1048576) ∧ Call YtnkefikpejjjcaaDoor.Env.pg 43 [.sl (.r3 a) t, .int .i64 l] (.int .i64 z) [] := ⟨_, sz1_in hl, t53 a t l hl hn⟩

theorem s52 (d : Dsk) (l : Int) (hd : d.OK) (hl : 0 ≤ l ∧ l ≤ 1048576) : ∃ z, (-1 ≤ z ∧ z ≤ 1048576) ∧ Call YtnkefikpejjjcaaDoor.Env.pg 10 [.agg (profC d), .int .i64 l] (.int .i64 z) [] := by
  obtain ⟨z1, b1, c1⟩ := s54 d.a false l hl hd.la
  cases g1 : std.ilt z1 0
  case true =>
    refine ⟨-1, by decide, ?_⟩
    refine Call.of_body YtnkefikpejjjcaaDoor.Env.ok Tryd.func10 rfl rfl ?_; intro o P K ho hP hK; cbv
    refine useS hP c1 rfl ?_
    cbv
    split; rotate_left; (subst ho; exact Bool.noConfusion (g1.symm.trans ‹std.ilt z1 0 = false›))
    cbv
    subst ho
    exact hK.ret _ ⟨[], rfl, rfl, rfl⟩
  have l1 : 0 ≤ z1 ∧ z1 ≤ 1048576 := ⟨ilt0 g1, b1.2⟩
  obtain ⟨z2, b2, c2⟩ := s54 d.b false z1 l1 hd.lb
  cases g2 : std.ilt z2 0
  case true =>
    refine ⟨-1, by decide, ?_⟩
    refine Call.of_body YtnkefikpejjjcaaDoor.Env.ok Tryd.func10 rfl rfl ?_; intro o P K ho hP hK; cbv
    refine useS hP c1 rfl ?_
    cbv
    split; (subst ho; exact Bool.noConfusion (g1.symm.trans ‹std.ilt z1 0 = true›))
    cbv
    refine useS hP c2 rfl ?_
    cbv
    split; rotate_left; (subst ho; exact Bool.noConfusion (g2.symm.trans ‹std.ilt z2 0 = false›))
    cbv
    subst ho
    exact hK.ret _ ⟨[], rfl, rfl, rfl⟩
  have l2 : 0 ≤ z2 ∧ z2 ≤ 1048576 := ⟨ilt0 g2, b2.2⟩
  obtain ⟨z3, b3, c3⟩ := s54 d.c false z2 l2 hd.lc
  cases g3 : std.ilt z3 0
  case true =>
    refine ⟨-1, by decide, ?_⟩
    refine Call.of_body YtnkefikpejjjcaaDoor.Env.ok Tryd.func10 rfl rfl ?_; intro o P K ho hP hK; cbv
    refine useS hP c1 rfl ?_
    cbv
    split; (subst ho; exact Bool.noConfusion (g1.symm.trans ‹std.ilt z1 0 = true›))
    cbv
    refine useS hP c2 rfl ?_
    cbv
    split; (subst ho; exact Bool.noConfusion (g2.symm.trans ‹std.ilt z2 0 = true›))
    cbv
    refine useS hP c3 rfl ?_
    cbv
    split; rotate_left; (subst ho; exact Bool.noConfusion (g3.symm.trans ‹std.ilt z3 0 = false›))
    cbv
    subst ho
    exact hK.ret _ ⟨[], rfl, rfl, rfl⟩
  have l3 : 0 ≤ z3 ∧ z3 ≤ 1048576 := ⟨ilt0 g3, b3.2⟩
  refine ⟨z3, b3, ?_⟩
  refine Call.of_body YtnkefikpejjjcaaDoor.Env.ok Tryd.func10 rfl rfl ?_; intro o P K ho hP hK; cbv
  refine useS hP c1 rfl ?_
  cbv
  split; (subst ho; exact Bool.noConfusion (g1.symm.trans ‹std.ilt z1 0 = true›))
  cbv
  refine useS hP c2 rfl ?_
  cbv
  split; (subst ho; exact Bool.noConfusion (g2.symm.trans ‹std.ilt z2 0 = true›))
  cbv
  refine useS hP c3 rfl ?_
  cbv
  split; (subst ho; exact Bool.noConfusion (g3.symm.trans ‹std.ilt z3 0 = true›))
  cbv
  subst ho
  exact hK.ret _ ⟨[], rfl, rfl, rfl⟩
theorem s17 (d : Dsk) (l : Int) (hd : d.OK) (hl : 0 ≤ l ∧ l ≤ 1048576) : ∃ z, (-1 ≤ z ∧ z ≤ 1048576) ∧ Call YtnkefikpejjjcaaDoor.Env.pg 20 [.agg (rotC d), .int .i64 l] (.int .i64 z) [] := by
  obtain ⟨z1, b1, c1⟩ := s52 d l hd hl
  cases g1 : std.ilt z1 0
  case true =>
    refine ⟨-1, by decide, ?_⟩
    refine Call.of_body YtnkefikpejjjcaaDoor.Env.ok Tryd.func20 rfl rfl ?_; intro o P K ho hP hK; cbv
    refine useS hP c1 rfl ?_
    cbv
    split; rotate_left; (subst ho; exact Bool.noConfusion (g1.symm.trans ‹std.ilt z1 0 = false›))
    cbv
    subst ho
    exact hK.ret _ ⟨[], rfl, rfl, rfl⟩
  have l1 : 0 ≤ z1 ∧ z1 ≤ 1048576 := ⟨ilt0 g1, b1.2⟩
  obtain ⟨z2, b2, c2⟩ := s53 d.s false z1 l1 hd.ls
  cases g2 : std.ilt z2 0
  case true =>
    refine ⟨-1, by decide, ?_⟩
    refine Call.of_body YtnkefikpejjjcaaDoor.Env.ok Tryd.func20 rfl rfl ?_; intro o P K ho hP hK; cbv
    refine useS hP c1 rfl ?_
    cbv
    split; (subst ho; exact Bool.noConfusion (g1.symm.trans ‹std.ilt z1 0 = true›))
    cbv
    refine useS hP c2 rfl ?_
    cbv
    split; rotate_left; (subst ho; exact Bool.noConfusion (g2.symm.trans ‹std.ilt z2 0 = false›))
    cbv
    subst ho
    exact hK.ret _ ⟨[], rfl, rfl, rfl⟩
  have l2 : 0 ≤ z2 ∧ z2 ≤ 1048576 := ⟨ilt0 g2, b2.2⟩
  refine ⟨z2, b2, ?_⟩
  refine Call.of_body YtnkefikpejjjcaaDoor.Env.ok Tryd.func20 rfl rfl ?_; intro o P K ho hP hK; cbv
  refine useS hP c1 rfl ?_
  cbv
  split; (subst ho; exact Bool.noConfusion (g1.symm.trans ‹std.ilt z1 0 = true›))
  cbv
  refine useS hP c2 rfl ?_
  cbv
  split; (subst ho; exact Bool.noConfusion (g2.symm.trans ‹std.ilt z2 0 = true›))
  cbv
  subst ho
  exact hK.ret _ ⟨[], rfl, rfl, rfl⟩
theorem s18 (d : Dsk) (l : Int) (hd : d.OK) (hl : 0 ≤ l ∧ l ≤ 1048576) : ∃ z, (-1 ≤ z ∧ z ≤ 1048576) ∧ Call YtnkefikpejjjcaaDoor.Env.pg 15 [.agg (farmC d), .int .i64 l] (.int .i64 z) [] := by
  obtain ⟨z1, b1, c1⟩ := s54 d.x false l hl hd.lx
  cases g1 : std.ilt z1 0
  case true =>
    refine ⟨-1, by decide, ?_⟩
    refine Call.of_body YtnkefikpejjjcaaDoor.Env.ok Tryd.func15 rfl rfl ?_; intro o P K ho hP hK; cbv
    refine useS hP c1 rfl ?_
    cbv
    split; rotate_left; (subst ho; exact Bool.noConfusion (g1.symm.trans ‹std.ilt z1 0 = false›))
    cbv
    subst ho
    exact hK.ret _ ⟨[], rfl, rfl, rfl⟩
  have l1 : 0 ≤ z1 ∧ z1 ≤ 1048576 := ⟨ilt0 g1, b1.2⟩
  obtain ⟨z2, b2, c2⟩ := s54 d.y false z1 l1 hd.ly
  cases g2 : std.ilt z2 0
  case true =>
    refine ⟨-1, by decide, ?_⟩
    refine Call.of_body YtnkefikpejjjcaaDoor.Env.ok Tryd.func15 rfl rfl ?_; intro o P K ho hP hK; cbv
    refine useS hP c1 rfl ?_
    cbv
    split; (subst ho; exact Bool.noConfusion (g1.symm.trans ‹std.ilt z1 0 = true›))
    cbv
    refine useS hP c2 rfl ?_
    cbv
    split; rotate_left; (subst ho; exact Bool.noConfusion (g2.symm.trans ‹std.ilt z2 0 = false›))
    cbv
    subst ho
    exact hK.ret _ ⟨[], rfl, rfl, rfl⟩
  have l2 : 0 ≤ z2 ∧ z2 ≤ 1048576 := ⟨ilt0 g2, b2.2⟩
  refine ⟨z2, b2, ?_⟩
  refine Call.of_body YtnkefikpejjjcaaDoor.Env.ok Tryd.func15 rfl rfl ?_; intro o P K ho hP hK; cbv
  refine useS hP c1 rfl ?_
  cbv
  split; (subst ho; exact Bool.noConfusion (g1.symm.trans ‹std.ilt z1 0 = true›))
  cbv
  refine useS hP c2 rfl ?_
  cbv
  split; (subst ho; exact Bool.noConfusion (g2.symm.trans ‹std.ilt z2 0 = true›))
  cbv
  subst ho
  exact hK.ret _ ⟨[], rfl, rfl, rfl⟩
theorem t59 (a b c : List Nat) (t u v : Bool) (ha : a.length ≤ 1099511627776) (hb : b.length ≤ 1099511627776) (hc : c.length ≤ 1099511627776) : Call YtnkefikpejjjcaaDoor.Env.pg 12 [.agg [.sl (.f32 a) t, .sl (.f32 b) u, .sl (.f32 c) v]] (.agg [.own 0, .own 1, .own 2]) [.row 22 (.f32 a), .row 22 (.f32 b), .row 22 (.f32 c)] := by
  refine Call.of_body YtnkefikpejjjcaaDoor.Env.ok Tryd.func12 rfl rfl ?_; intro o P K ho hP hK; cbv
  refine useS hP (t62 _ _ ha) rfl ?_
  cbv
  refine useS hP (t62 _ _ hb) rfl ?_
  cbv
  refine useS hP (t62 _ _ hc) rfl ?_
  cbv
  subst ho
  exact hK.ret _ ⟨[3, 4, 5], rfl, rfl, rfl⟩
theorem t61 (d : Dsk) : Call YtnkefikpejjjcaaDoor.Env.pg 27 [.agg (plantC d)] (.agg (plantC d)) [] := by
  refine Call.of_body YtnkefikpejjjcaaDoor.Env.ok Tryd.func27 rfl rfl ?_; intro o P K ho hP hK; cbv
  subst ho
  exact hK.ret _ ⟨[], rfl, rfl, rfl⟩
theorem t25 (d : Dsk) : Call YtnkefikpejjjcaaDoor.Env.pg 8 [.agg (drvC d)] (.agg (drvC d)) [] := by
  refine Call.of_body YtnkefikpejjjcaaDoor.Env.ok Tryd.func8 rfl rfl ?_; intro o P K ho hP hK; cbv
  refine useS hP (t61 d) rfl ?_
  cbv
  subst ho
  exact hK.ret _ ⟨[], rfl, rfl, rfl⟩

theorem t23 (d : Dsk) (hd : d.OK) : Call YtnkefikpejjjcaaDoor.Env.pg 22 [.agg (rotC d)] (.agg [.own 0, .own 1, .own 2, .own 3, .int .i64 d.n, F d.h, F d.t]) [.row 22 (.f32 d.a), .row 22 (.f32 d.b), .row 22 (.f32 d.c), .row 91 (.r3 d.s)] := by
  refine Call.of_body YtnkefikpejjjcaaDoor.Env.ok Tryd.func22 rfl rfl ?_; intro o P K ho hP hK; cbv
  refine useS hP (t59 _ _ _ _ _ _ (le40 hd.la) (le40 hd.lb) (le40 hd.lc)) rfl ?_
  cbv
  refine useS hP (t60 _ _ (le40 hd.ls)) rfl ?_
  cbv
  subst ho
  exact hK.ret _ ⟨[3, 4, 5, 6], rfl, rfl, rfl⟩
theorem t26 (d : Dsk) (hd : d.OK) : Call YtnkefikpejjjcaaDoor.Env.pg 17 [.agg (farmC d)] (.agg [.own 0, .own 1, F d.f1, F d.f2, F d.f3]) [.row 22 (.f32 d.x), .row 22 (.f32 d.y)] := by
  refine Call.of_body YtnkefikpejjjcaaDoor.Env.ok Tryd.func17 rfl rfl ?_; intro o P K ho hP hK; cbv
  refine useS hP (t62 _ _ (le40 hd.lx)) rfl ?_
  cbv
  refine useS hP (t62 _ _ (le40 hd.ly)) rfl ?_
  cbv
  subst ho
  exact hK.ret _ ⟨[3, 4], rfl, rfl, rfl⟩
/-- A desk whose lists are the call's own blocks from number i on. -/
def ownC (i : Nat) (d : Dsk) : List V := cat [.own i, .own (i + 1), .own (i + 2), .own (i + 3), .int .i64 d.n, F d.h, F d.t] (cat (airC d) (cat (drvC d) [.own (i + 4), .own (i + 5), F d.f1, F d.f2, F d.f3]))
def rowsC (d : Dsk) : List OB := [.row 22 (.f32 d.a), .row 22 (.f32 d.b), .row 22 (.f32 d.c), .row 91 (.r3 d.s), .row 22 (.f32 d.x), .row 22 (.f32 d.y)]
theorem t71 (a : Nat) : Call YtnkefikpejjjcaaDoor.Env.pg 42 [.flt .f64 a, .flt .f64 a] (.bool true) [] := by
  refine Call.of_body YtnkefikpejjjcaaDoor.Env.ok Tryd.func42 rfl rfl ?_; intro o P K ho hP hK; cbv
  repeat' (first | (split; all_goals try cbv) | refine And.intro ?_ ?_)
  all_goals subst ho
  all_goals (refine hK.ret _ ⟨[], rfl, congrArg V.bool ?_, rfl⟩)
  all_goals simp_all [std]

theorem ineZ {a b : Int} (h : std.ine a b = true) : a ≠ b := fun e => by
  subst e
  have h : (a != a) = true := h
  simp at h
theorem t73 (xs : List Nat) (t t' : Bool) (hn : xs.length ≤ 1099511627776) : Call YtnkefikpejjjcaaDoor.Env.pg 38 [.sl (.f32 xs) t, .sl (.f32 xs) t'] (.bool true) [] := by
  refine Call.of_body YtnkefikpejjjcaaDoor.Env.ok Tryd.func38 rfl rfl ?_; intro o P K ho hP hK; cbv
  split
  · subst ho
    exact absurd rfl (ineZ ‹_›)
  · cbv
    refine useW hP YtnkefikpejjjcaaDoor.Env.ok ho (fun i : Nat => ⟨29, 0, [(0, .sl (.f32 xs) t), (1, .sl (.f32 xs) t'), (5, .int .i64 (Int.ofNat i))], []⟩) (fun i => xs.length - i) 0 [] [0, 1, 5] rfl rfl (fun _ => rfl) (fun _ => rfl) ?_
    intro i K' hL
    cbv
    split
    · have hlt : i < xs.length := by subst ho; exact ieqB ‹_›
      cbv
      refine useD hP YtnkefikpejjjcaaDoor.Env.ok rfl ho (by kernel_rfl) ?_
      cbv
      refine ⟨by subst ho; exact idxN hlt, by subst ho; exact fits_up _, by subst ho; exact idxN hlt, by subst ho; exact fits_up _, ?_⟩
      refine useRS hP (t71 _) rfl ?_
      cbv
      refine ⟨by subst ho; exact rngN hlt hn, ?_⟩
      subst ho
      refine hL.next _ ⟨i + 1, [], [0, 1, 5], rfl, rfl, ?_⟩
      show xs.length - (i + 1) < xs.length - i
      omega
    · cbv
      refine hL.out _ _ ?_
      cbv
      subst ho
      exact hK.ret _ ⟨[], rfl, rfl, rfl⟩
theorem t115 (x : S3) : Call YtnkefikpejjjcaaDoor.Env.pg 72 [.agg [.flt .f32 x.1, .flt .f32 x.2.1, .flt .f32 x.2.2], .agg [.flt .f32 x.1, .flt .f32 x.2.1, .flt .f32 x.2.2]] (.bool true) [] := by
  refine Call.of_body YtnkefikpejjjcaaDoor.Env.ok Tryd.func72 rfl rfl ?_; intro o P K ho hP hK; cbv
  refine ⟨by subst ho; exact fits_up _, by subst ho; exact fits_up _, ?_⟩
  refine useS hP (t71 _) rfl ?_
  cbv
  refine ⟨by subst ho; exact fits_up _, by subst ho; exact fits_up _, ?_⟩
  refine useS hP (t71 _) rfl ?_
  cbv
  refine ⟨by subst ho; exact fits_up _, by subst ho; exact fits_up _, ?_⟩
  refine useS hP (t71 _) rfl ?_
  cbv
  subst ho
  exact hK.ret _ ⟨[], rfl, rfl, rfl⟩
theorem t70 (xs : List S3) (t t' : Bool) (hn : xs.length ≤ 1099511627776) : Call YtnkefikpejjjcaaDoor.Env.pg 48 [.sl (.r3 xs) t, .sl (.r3 xs) t'] (.bool true) [] := by
  refine Call.of_body YtnkefikpejjjcaaDoor.Env.ok Tryd.func48 rfl rfl ?_; intro o P K ho hP hK; cbv
  split
  · subst ho
    exact absurd rfl (ineZ ‹_›)
  · cbv
    refine useW hP YtnkefikpejjjcaaDoor.Env.ok ho (fun i : Nat => ⟨27, 0, [(0, .sl (.r3 xs) t), (1, .sl (.r3 xs) t'), (5, .int .i64 (Int.ofNat i))], []⟩) (fun i => xs.length - i) 0 [] [0, 1, 5] rfl rfl (fun _ => rfl) (fun _ => rfl) ?_
    intro i K' hL
    cbv
    split
    · have hlt : i < xs.length := by subst ho; exact ieqB ‹_›
      cbv
      refine useD hP YtnkefikpejjjcaaDoor.Env.ok rfl ho (by kernel_rfl) ?_
      cbv
      refine ⟨by subst ho; exact idxN hlt, by subst ho; exact idxN hlt, ?_⟩
      refine useRS hP (t115 _) rfl ?_
      cbv
      refine ⟨by subst ho; exact rngN hlt hn, ?_⟩
      subst ho
      refine hL.next _ ⟨i + 1, [], [0, 1, 5], rfl, rfl, ?_⟩
      show xs.length - (i + 1) < xs.length - i
      omega
    · cbv
      refine hL.out _ _ ?_
      cbv
      subst ho
      exact hK.ret _ ⟨[], rfl, rfl, rfl⟩
theorem t69 (d : Dsk) (hd : d.OK) : Call YtnkefikpejjjcaaDoor.Env.pg 14 [.agg (profC d), .agg (profC d)] (.bool true) [] := by
  refine Call.of_body YtnkefikpejjjcaaDoor.Env.ok Tryd.func14 rfl rfl ?_; intro o P K ho hP hK; cbv
  refine useS hP (t73 _ _ _ (le40 hd.la)) rfl ?_
  cbv
  refine useS hP (t73 _ _ _ (le40 hd.lb)) rfl ?_
  cbv
  refine useS hP (t73 _ _ _ (le40 hd.lc)) rfl ?_
  cbv
  subst ho
  exact hK.ret _ ⟨[], rfl, rfl, rfl⟩
theorem t31 (d : Dsk) (hd : d.OK) : Call YtnkefikpejjjcaaDoor.Env.pg 24 [.agg (rotC d), .agg (rotC d)] (.bool true) [] := by
  refine Call.of_body YtnkefikpejjjcaaDoor.Env.ok Tryd.func24 rfl rfl ?_; intro o P K ho hP hK; cbv
  refine useS hP (t69 d hd) rfl ?_
  cbv
  refine useS hP (t70 _ _ _ (le40 hd.ls)) rfl ?_
  cbv
  split; (subst ho; exact absurd rfl (ineZ ‹_›))
  cbv
  refine ⟨by subst ho; exact fits_up _, by subst ho; exact fits_up _, ?_⟩
  refine useS hP (t71 _) rfl ?_
  cbv
  refine ⟨by subst ho; exact fits_up _, by subst ho; exact fits_up _, ?_⟩
  refine useS hP (t71 _) rfl ?_
  cbv
  subst ho
  exact hK.ret _ ⟨[], rfl, rfl, rfl⟩
theorem t34 (d : Dsk) (hd : d.OK) : Call YtnkefikpejjjcaaDoor.Env.pg 19 [.agg (farmC d), .agg (farmC d)] (.bool true) [] := by
  refine Call.of_body YtnkefikpejjjcaaDoor.Env.ok Tryd.func19 rfl rfl ?_; intro o P K ho hP hK; cbv
  refine useS hP (t73 _ _ _ (le40 hd.lx)) rfl ?_
  cbv
  refine useS hP (t73 _ _ _ (le40 hd.ly)) rfl ?_
  cbv
  refine ⟨by subst ho; exact fits_up _, by subst ho; exact fits_up _, ?_⟩
  refine useS hP (t71 _) rfl ?_
  cbv
  refine ⟨by subst ho; exact fits_up _, by subst ho; exact fits_up _, ?_⟩
  refine useS hP (t71 _) rfl ?_
  cbv
  refine ⟨by subst ho; exact fits_up _, by subst ho; exact fits_up _, ?_⟩
  refine useS hP (t71 _) rfl ?_
  cbv
  subst ho
  exact hK.ret _ ⟨[], rfl, rfl, rfl⟩
end Go.En
