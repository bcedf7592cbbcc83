/-
  The law FnExactProfileText. Own work.
-/
import Derived.Test.YtnkefikpejjjcaaDoorTxtG
set_option linter.unusedVariables false
set_option linter.unusedSimpArgs false
set_option maxRecDepth 100000
set_option maxHeartbeats 4000000
namespace Go.En
open Go.Proofs

def dP (a b c : List Nat) : Dsk := ⟨a, b, c, [], 0, 0, 0, 0, 0, 0, 0, 0, 0, 0, 0, 0, 0, 0, 0, 0, 0, 0, 0, [], [], 0, 0, 0⟩
structure PWf (a b c : List Nat) : Prop where
  ba : BL a
  bb : BL b
  bc : BL c
  la : a.length ≤ maxLen
  lb : b.length ≤ maxLen
  lc : c.length ≤ maxLen
theorem BLn : BL [] := fun x h => by simp at h
theorem BL3n : BL3 [] := fun x h => by simp at h
theorem z32 : (0 : Nat) < 4294967296 := by decide
theorem PWf.wf {a b c : List Nat} (w : PWf a b c) : (dP a b c).Wf :=
  ⟨w.ba, w.bb, w.bc, BL3n, BLn, BLn, w.la, w.lb, w.lc, Nat.zero_le _, Nat.zero_le _, Nat.zero_le _, z32, z32, z32, z32, z32, z32, z32, z32, z32, z32, z32, z32, z32, z32, z32, z32, z32, z32, z32, z32⟩
theorem profR_eq (a b c : List Nat) : ∃ s v, profR a b c = .tup [.str s, .bool v] := by
  unfold profR
  cases okP a b c
  · exact ⟨_, _, rfl⟩
  · exact ⟨_, _, rfl⟩
theorem sneR (s : ByteArray) : std.sne s s = false := by show (!(s.toList == s.toList)) = false; simp
theorem bneR (v : Bool) : std.bne v v = false := by cases v <;> rfl
theorem lawPT (a b c : List Nat) (w : PWf a b c) : Call YtnkefikpejjjcaaDoor.Env.pg 4 [.agg [SLf a, SLf b, SLf c]] (.bool true) [] := by
  obtain ⟨z1, b1, q1, c1⟩ := w52 (dP a b c) 1048576 w.wf ⟨by decide, by decide⟩
  replace c1 : Call YtnkefikpejjjcaaDoor.Env.pg 10 [.agg [SLf a, SLf b, SLf c], .int .i64 1048576] (.int .i64 z1) [] := c1
  cases g1 : std.ilt z1 0
  case true =>
    refine Call.of_body YtnkefikpejjjcaaDoor.Env.ok Tryd.func4 rfl rfl ?_; intro o P K ho hP hK; cbv
    refine useS hP c1 rfl ?_
    cbv
    split; rotate_left; (subst ho; exact Bool.noConfusion (g1.symm.trans ‹std.ilt z1 0 = false›))
    cbv
    subst ho
    exact hK.ret _ ⟨[], rfl, rfl, rfl⟩
  obtain ⟨la, lb, lc⟩ := q1 (ilt0 g1)
  replace la : a.length ≤ 1048576 := la
  replace lb : b.length ≤ 1048576 := lb
  replace lc : c.length ≤ 1048576 := lc
  have qt := t59 a b c false false false (le40 la) (le40 lb) (le40 lc)
  have qs := c_spec_ProfileText a b c w.ba w.bb w.bc
  have qi := c_impl_ProfileText a b c w.ba w.bb w.bc (le40 la) (le40 lb) (le40 lc)
  have hd : (dP a b c).OK := Wf_ok w.wf ⟨la, lb, lc, Nat.zero_le _, Nat.zero_le _, Nat.zero_le _⟩
  have qe : Call YtnkefikpejjjcaaDoor.Env.pg 14 [.agg [SLf a, SLf b, SLf c], .agg [SLf a, SLf b, SLf c]] (.bool true) [] := t69 (dP a b c) hd
  obtain ⟨s, v, e⟩ := profR_eq a b c
  rw [e] at qs qi
  refine Call.of_body YtnkefikpejjjcaaDoor.Env.ok Tryd.func4 rfl rfl ?_; intro o P K ho hP hK; cbv
  refine useS hP c1 rfl ?_
  cbv
  split; (subst ho; exact Bool.noConfusion (g1.symm.trans ‹std.ilt z1 0 = true›))
  cbv
  repeat' (first | refine And.intro ?_ ?_ | (split; all_goals try cbv) | (refine useD hP YtnkefikpejjjcaaDoor.Env.ok rfl ho (by kernel_rfl) ?_; try cbv) | (first | (refine useS hP (qt) rfl ?_; try cbv) | (refine useRS hP (qt) rfl ?_; try cbv) | (refine useL hP 3 (qt) rfl rfl rfl ?_; try cbv) | (refine useRL hP 3 (qt) rfl rfl rfl ?_; try cbv)) | (first | (refine useS hP (qs) rfl ?_; try cbv) | (refine useRS hP (qs) rfl ?_; try cbv) | (refine useL hP 3 (qs) rfl rfl rfl ?_; try cbv) | (refine useRL hP 3 (qs) rfl rfl rfl ?_; try cbv)) | (first | (refine useS hP (qi) rfl ?_; try cbv) | (refine useRS hP (qi) rfl ?_; try cbv) | (refine useL hP 3 (qi) rfl rfl rfl ?_; try cbv) | (refine useRL hP 3 (qi) rfl rfl rfl ?_; try cbv)) | (first | (refine useS hP (qe) rfl ?_; try cbv) | (refine useRS hP (qe) rfl ?_; try cbv) | (refine useL hP 3 (qe) rfl rfl rfl ?_; try cbv) | (refine useRL hP 3 (qe) rfl rfl rfl ?_; try cbv)))
  all_goals first
    | (subst ho; exact hK.ret _ ⟨[], rfl, rfl, rfl⟩)
    | (exfalso; subst ho; exact Bool.noConfusion ((‹std.sne s s = true›).symm.trans (sneR s)))
    | (exfalso; subst ho; exact Bool.noConfusion ((‹std.bne v v = true›).symm.trans (bneR v)))
end Go.En
