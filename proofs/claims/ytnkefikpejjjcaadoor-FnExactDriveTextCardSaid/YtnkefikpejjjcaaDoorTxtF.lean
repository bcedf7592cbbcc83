/-
  The contract of the reference's decimal writing, at numbers of one digit. Own work.
-/
import Derived.Test.YtnkefikpejjjcaaDoorEnv
import Derived.Test.YtnkefikpejjjcaaDoorTxtE
set_option linter.unusedVariables false
set_option linter.unusedSimpArgs false
set_option maxRecDepth 100000
set_option maxHeartbeats 4000000
namespace Go.En
open Go.Proofs

def decX (k : Int) : Nat → Int | 0 => k | _ + 1 => 0
def decL (k : Int) : Nat → List Int | 0 => [] | _ + 1 => [48 + k]
theorem c_l01Dec_0 : Call YtnkefikpejjjcaaDoor.Env.pg 54 [.int .i64 0] (.str (dec1 0)) [] := by
  generalize hr : dec1 0 = res
  refine Call.of_body YtnkefikpejjjcaaDoor.Env.ok Tryd.func54 rfl rfl ?_; intro o P K ho hP hK; cbv
  refine useW hP YtnkefikpejjjcaaDoor.Env.ok ho (fun z : {j : Nat // j ≤ 1} => ⟨36, 0, [(0, .int .i64 0), (3, .own 0), (4, .int .i64 (decX 0 z.1))], [.row 5 (.u8 (decL 0 z.1))]⟩) (fun z => 1 - z.1) ⟨0, by omega⟩ [0] [0, 3, 4] rfl rfl (fun _ => rfl) (fun _ => rfl) ?_
  rintro ⟨j, hj⟩ K' hL
  have : j = 0 ∨ j = 1 := by omega
  rcases this with rfl | rfl
  · cbv
    repeat' (first | refine And.intro ?_ ?_ | (split <;> first | (exfalso; clear hK; rename_i h1; subst_vars; exact absurd h1 (by decide)) | (try cbv)) | (refine useD hP YtnkefikpejjjcaaDoor.Env.ok rfl ho (by kernel_rfl) ?_; try cbv))
    all_goals first
      | (subst ho; first | decide | (show ¬ _; decide) | (show (_ : Int) ≠ _; decide) | (refine And.intro ?_ ?_ <;> decide) | (refine And.intro ?_ (And.intro ?_ ?_) <;> decide) | exact absurd ‹_› (by decide))
      | (subst ho; refine hL.next _ ?_; refine ⟨⟨1, by omega⟩, [1], [0, 3, 4], rfl, ?_, by show 1 - 1 < 1 - 0; omega⟩; rfl)
  · cbv
    repeat' (first | refine And.intro ?_ ?_ | (split <;> first | (exfalso; clear hK; rename_i h1; subst_vars; exact absurd h1 (by decide)) | (try cbv)) | (refine useD hP YtnkefikpejjjcaaDoor.Env.ok rfl ho (by kernel_rfl) ?_; try cbv))
    refine hL.out _ _ ?_
    clear hL
    cbv
    repeat' (first | refine And.intro ?_ ?_ | (split <;> first | (exfalso; clear hK; rename_i h1; subst_vars; exact absurd h1 (by decide)) | (try cbv)) | (refine useD hP YtnkefikpejjjcaaDoor.Env.ok rfl ho (by kernel_rfl) ?_; try cbv))
    subst ho
    subst hr
    exact hK.ret _ ⟨[], rfl, congrArg V.str (by decide), rfl⟩
theorem c_l01Dec_1 : Call YtnkefikpejjjcaaDoor.Env.pg 54 [.int .i64 1] (.str (dec1 1)) [] := by
  generalize hr : dec1 1 = res
  refine Call.of_body YtnkefikpejjjcaaDoor.Env.ok Tryd.func54 rfl rfl ?_; intro o P K ho hP hK; cbv
  refine useW hP YtnkefikpejjjcaaDoor.Env.ok ho (fun z : {j : Nat // j ≤ 1} => ⟨36, 0, [(0, .int .i64 1), (3, .own 0), (4, .int .i64 (decX 1 z.1))], [.row 5 (.u8 (decL 1 z.1))]⟩) (fun z => 1 - z.1) ⟨0, by omega⟩ [0] [0, 3, 4] rfl rfl (fun _ => rfl) (fun _ => rfl) ?_
  rintro ⟨j, hj⟩ K' hL
  have : j = 0 ∨ j = 1 := by omega
  rcases this with rfl | rfl
  · cbv
    repeat' (first | refine And.intro ?_ ?_ | (split <;> first | (exfalso; clear hK; rename_i h1; subst_vars; exact absurd h1 (by decide)) | (try cbv)) | (refine useD hP YtnkefikpejjjcaaDoor.Env.ok rfl ho (by kernel_rfl) ?_; try cbv))
    all_goals first
      | (subst ho; first | decide | (show ¬ _; decide) | (show (_ : Int) ≠ _; decide) | (refine And.intro ?_ ?_ <;> decide) | (refine And.intro ?_ (And.intro ?_ ?_) <;> decide) | exact absurd ‹_› (by decide))
      | (subst ho; refine hL.next _ ?_; refine ⟨⟨1, by omega⟩, [1], [0, 3, 4], rfl, ?_, by show 1 - 1 < 1 - 0; omega⟩; rfl)
  · cbv
    repeat' (first | refine And.intro ?_ ?_ | (split <;> first | (exfalso; clear hK; rename_i h1; subst_vars; exact absurd h1 (by decide)) | (try cbv)) | (refine useD hP YtnkefikpejjjcaaDoor.Env.ok rfl ho (by kernel_rfl) ?_; try cbv))
    refine hL.out _ _ ?_
    clear hL
    cbv
    repeat' (first | refine And.intro ?_ ?_ | (split <;> first | (exfalso; clear hK; rename_i h1; subst_vars; exact absurd h1 (by decide)) | (try cbv)) | (refine useD hP YtnkefikpejjjcaaDoor.Env.ok rfl ho (by kernel_rfl) ?_; try cbv))
    subst ho
    subst hr
    exact hK.ret _ ⟨[], rfl, congrArg V.str (by decide), rfl⟩
theorem c_l01Dec_2 : Call YtnkefikpejjjcaaDoor.Env.pg 54 [.int .i64 2] (.str (dec1 2)) [] := by
  generalize hr : dec1 2 = res
  refine Call.of_body YtnkefikpejjjcaaDoor.Env.ok Tryd.func54 rfl rfl ?_; intro o P K ho hP hK; cbv
  refine useW hP YtnkefikpejjjcaaDoor.Env.ok ho (fun z : {j : Nat // j ≤ 1} => ⟨36, 0, [(0, .int .i64 2), (3, .own 0), (4, .int .i64 (decX 2 z.1))], [.row 5 (.u8 (decL 2 z.1))]⟩) (fun z => 1 - z.1) ⟨0, by omega⟩ [0] [0, 3, 4] rfl rfl (fun _ => rfl) (fun _ => rfl) ?_
  rintro ⟨j, hj⟩ K' hL
  have : j = 0 ∨ j = 1 := by omega
  rcases this with rfl | rfl
  · cbv
    repeat' (first | refine And.intro ?_ ?_ | (split <;> first | (exfalso; clear hK; rename_i h1; subst_vars; exact absurd h1 (by decide)) | (try cbv)) | (refine useD hP YtnkefikpejjjcaaDoor.Env.ok rfl ho (by kernel_rfl) ?_; try cbv))
    all_goals first
      | (subst ho; first | decide | (show ¬ _; decide) | (show (_ : Int) ≠ _; decide) | (refine And.intro ?_ ?_ <;> decide) | (refine And.intro ?_ (And.intro ?_ ?_) <;> decide) | exact absurd ‹_› (by decide))
      | (subst ho; refine hL.next _ ?_; refine ⟨⟨1, by omega⟩, [1], [0, 3, 4], rfl, ?_, by show 1 - 1 < 1 - 0; omega⟩; rfl)
  · cbv
    repeat' (first | refine And.intro ?_ ?_ | (split <;> first | (exfalso; clear hK; rename_i h1; subst_vars; exact absurd h1 (by decide)) | (try cbv)) | (refine useD hP YtnkefikpejjjcaaDoor.Env.ok rfl ho (by kernel_rfl) ?_; try cbv))
    refine hL.out _ _ ?_
    clear hL
    cbv
    repeat' (first | refine And.intro ?_ ?_ | (split <;> first | (exfalso; clear hK; rename_i h1; subst_vars; exact absurd h1 (by decide)) | (try cbv)) | (refine useD hP YtnkefikpejjjcaaDoor.Env.ok rfl ho (by kernel_rfl) ?_; try cbv))
    subst ho
    subst hr
    exact hK.ret _ ⟨[], rfl, congrArg V.str (by decide), rfl⟩
theorem c_l01Dec_3 : Call YtnkefikpejjjcaaDoor.Env.pg 54 [.int .i64 3] (.str (dec1 3)) [] := by
  generalize hr : dec1 3 = res
  refine Call.of_body YtnkefikpejjjcaaDoor.Env.ok Tryd.func54 rfl rfl ?_; intro o P K ho hP hK; cbv
  refine useW hP YtnkefikpejjjcaaDoor.Env.ok ho (fun z : {j : Nat // j ≤ 1} => ⟨36, 0, [(0, .int .i64 3), (3, .own 0), (4, .int .i64 (decX 3 z.1))], [.row 5 (.u8 (decL 3 z.1))]⟩) (fun z => 1 - z.1) ⟨0, by omega⟩ [0] [0, 3, 4] rfl rfl (fun _ => rfl) (fun _ => rfl) ?_
  rintro ⟨j, hj⟩ K' hL
  have : j = 0 ∨ j = 1 := by omega
  rcases this with rfl | rfl
  · cbv
    repeat' (first | refine And.intro ?_ ?_ | (split <;> first | (exfalso; clear hK; rename_i h1; subst_vars; exact absurd h1 (by decide)) | (try cbv)) | (refine useD hP YtnkefikpejjjcaaDoor.Env.ok rfl ho (by kernel_rfl) ?_; try cbv))
    all_goals first
      | (subst ho; first | decide | (show ¬ _; decide) | (show (_ : Int) ≠ _; decide) | (refine And.intro ?_ ?_ <;> decide) | (refine And.intro ?_ (And.intro ?_ ?_) <;> decide) | exact absurd ‹_› (by decide))
      | (subst ho; refine hL.next _ ?_; refine ⟨⟨1, by omega⟩, [1], [0, 3, 4], rfl, ?_, by show 1 - 1 < 1 - 0; omega⟩; rfl)
  · cbv
    repeat' (first | refine And.intro ?_ ?_ | (split <;> first | (exfalso; clear hK; rename_i h1; subst_vars; exact absurd h1 (by decide)) | (try cbv)) | (refine useD hP YtnkefikpejjjcaaDoor.Env.ok rfl ho (by kernel_rfl) ?_; try cbv))
    refine hL.out _ _ ?_
    clear hL
    cbv
    repeat' (first | refine And.intro ?_ ?_ | (split <;> first | (exfalso; clear hK; rename_i h1; subst_vars; exact absurd h1 (by decide)) | (try cbv)) | (refine useD hP YtnkefikpejjjcaaDoor.Env.ok rfl ho (by kernel_rfl) ?_; try cbv))
    subst ho
    subst hr
    exact hK.ret _ ⟨[], rfl, congrArg V.str (by decide), rfl⟩
theorem c_l01Dec_4 : Call YtnkefikpejjjcaaDoor.Env.pg 54 [.int .i64 4] (.str (dec1 4)) [] := by
  generalize hr : dec1 4 = res
  refine Call.of_body YtnkefikpejjjcaaDoor.Env.ok Tryd.func54 rfl rfl ?_; intro o P K ho hP hK; cbv
  refine useW hP YtnkefikpejjjcaaDoor.Env.ok ho (fun z : {j : Nat // j ≤ 1} => ⟨36, 0, [(0, .int .i64 4), (3, .own 0), (4, .int .i64 (decX 4 z.1))], [.row 5 (.u8 (decL 4 z.1))]⟩) (fun z => 1 - z.1) ⟨0, by omega⟩ [0] [0, 3, 4] rfl rfl (fun _ => rfl) (fun _ => rfl) ?_
  rintro ⟨j, hj⟩ K' hL
  have : j = 0 ∨ j = 1 := by omega
  rcases this with rfl | rfl
  · cbv
    repeat' (first | refine And.intro ?_ ?_ | (split <;> first | (exfalso; clear hK; rename_i h1; subst_vars; exact absurd h1 (by decide)) | (try cbv)) | (refine useD hP YtnkefikpejjjcaaDoor.Env.ok rfl ho (by kernel_rfl) ?_; try cbv))
    all_goals first
      | (subst ho; first | decide | (show ¬ _; decide) | (show (_ : Int) ≠ _; decide) | (refine And.intro ?_ ?_ <;> decide) | (refine And.intro ?_ (And.intro ?_ ?_) <;> decide) | exact absurd ‹_› (by decide))
      | (subst ho; refine hL.next _ ?_; refine ⟨⟨1, by omega⟩, [1], [0, 3, 4], rfl, ?_, by show 1 - 1 < 1 - 0; omega⟩; rfl)
  · cbv
    repeat' (first | refine And.intro ?_ ?_ | (split <;> first | (exfalso; clear hK; rename_i h1; subst_vars; exact absurd h1 (by decide)) | (try cbv)) | (refine useD hP YtnkefikpejjjcaaDoor.Env.ok rfl ho (by kernel_rfl) ?_; try cbv))
    refine hL.out _ _ ?_
    clear hL
    cbv
    repeat' (first | refine And.intro ?_ ?_ | (split <;> first | (exfalso; clear hK; rename_i h1; subst_vars; exact absurd h1 (by decide)) | (try cbv)) | (refine useD hP YtnkefikpejjjcaaDoor.Env.ok rfl ho (by kernel_rfl) ?_; try cbv))
    subst ho
    subst hr
    exact hK.ret _ ⟨[], rfl, congrArg V.str (by decide), rfl⟩
theorem c_l01Dec_5 : Call YtnkefikpejjjcaaDoor.Env.pg 54 [.int .i64 5] (.str (dec1 5)) [] := by
  generalize hr : dec1 5 = res
  refine Call.of_body YtnkefikpejjjcaaDoor.Env.ok Tryd.func54 rfl rfl ?_; intro o P K ho hP hK; cbv
  refine useW hP YtnkefikpejjjcaaDoor.Env.ok ho (fun z : {j : Nat // j ≤ 1} => ⟨36, 0, [(0, .int .i64 5), (3, .own 0), (4, .int .i64 (decX 5 z.1))], [.row 5 (.u8 (decL 5 z.1))]⟩) (fun z => 1 - z.1) ⟨0, by omega⟩ [0] [0, 3, 4] rfl rfl (fun _ => rfl) (fun _ => rfl) ?_
  rintro ⟨j, hj⟩ K' hL
  have : j = 0 ∨ j = 1 := by omega
  rcases this with rfl | rfl
  · cbv
    repeat' (first | refine And.intro ?_ ?_ | (split <;> first | (exfalso; clear hK; rename_i h1; subst_vars; exact absurd h1 (by decide)) | (try cbv)) | (refine useD hP YtnkefikpejjjcaaDoor.Env.ok rfl ho (by kernel_rfl) ?_; try cbv))
    all_goals first
      | (subst ho; first | decide | (show ¬ _; decide) | (show (_ : Int) ≠ _; decide) | (refine And.intro ?_ ?_ <;> decide) | (refine And.intro ?_ (And.intro ?_ ?_) <;> decide) | exact absurd ‹_› (by decide))
      | (subst ho; refine hL.next _ ?_; refine ⟨⟨1, by omega⟩, [1], [0, 3, 4], rfl, ?_, by show 1 - 1 < 1 - 0; omega⟩; rfl)
  · cbv
    repeat' (first | refine And.intro ?_ ?_ | (split <;> first | (exfalso; clear hK; rename_i h1; subst_vars; exact absurd h1 (by decide)) | (try cbv)) | (refine useD hP YtnkefikpejjjcaaDoor.Env.ok rfl ho (by kernel_rfl) ?_; try cbv))
    refine hL.out _ _ ?_
    clear hL
    cbv
    repeat' (first | refine And.intro ?_ ?_ | (split <;> first | (exfalso; clear hK; rename_i h1; subst_vars; exact absurd h1 (by decide)) | (try cbv)) | (refine useD hP YtnkefikpejjjcaaDoor.Env.ok rfl ho (by kernel_rfl) ?_; try cbv))
    subst ho
    subst hr
    exact hK.ret _ ⟨[], rfl, congrArg V.str (by decide), rfl⟩
theorem c_l01Dec_6 : Call YtnkefikpejjjcaaDoor.Env.pg 54 [.int .i64 6] (.str (dec1 6)) [] := by
  generalize hr : dec1 6 = res
  refine Call.of_body YtnkefikpejjjcaaDoor.Env.ok Tryd.func54 rfl rfl ?_; intro o P K ho hP hK; cbv
  refine useW hP YtnkefikpejjjcaaDoor.Env.ok ho (fun z : {j : Nat // j ≤ 1} => ⟨36, 0, [(0, .int .i64 6), (3, .own 0), (4, .int .i64 (decX 6 z.1))], [.row 5 (.u8 (decL 6 z.1))]⟩) (fun z => 1 - z.1) ⟨0, by omega⟩ [0] [0, 3, 4] rfl rfl (fun _ => rfl) (fun _ => rfl) ?_
  rintro ⟨j, hj⟩ K' hL
  have : j = 0 ∨ j = 1 := by omega
  rcases this with rfl | rfl
  · cbv
    repeat' (first | refine And.intro ?_ ?_ | (split <;> first | (exfalso; clear hK; rename_i h1; subst_vars; exact absurd h1 (by decide)) | (try cbv)) | (refine useD hP YtnkefikpejjjcaaDoor.Env.ok rfl ho (by kernel_rfl) ?_; try cbv))
    all_goals first
      | (subst ho; first | decide | (show ¬ _; decide) | (show (_ : Int) ≠ _; decide) | (refine And.intro ?_ ?_ <;> decide) | (refine And.intro ?_ (And.intro ?_ ?_) <;> decide) | exact absurd ‹_› (by decide))
      | (subst ho; refine hL.next _ ?_; refine ⟨⟨1, by omega⟩, [1], [0, 3, 4], rfl, ?_, by show 1 - 1 < 1 - 0; omega⟩; rfl)
  · cbv
    repeat' (first | refine And.intro ?_ ?_ | (split <;> first | (exfalso; clear hK; rename_i h1; subst_vars; exact absurd h1 (by decide)) | (try cbv)) | (refine useD hP YtnkefikpejjjcaaDoor.Env.ok rfl ho (by kernel_rfl) ?_; try cbv))
    refine hL.out _ _ ?_
    clear hL
    cbv
    repeat' (first | refine And.intro ?_ ?_ | (split <;> first | (exfalso; clear hK; rename_i h1; subst_vars; exact absurd h1 (by decide)) | (try cbv)) | (refine useD hP YtnkefikpejjjcaaDoor.Env.ok rfl ho (by kernel_rfl) ?_; try cbv))
    subst ho
    subst hr
    exact hK.ret _ ⟨[], rfl, congrArg V.str (by decide), rfl⟩
theorem c_l01Dec (k : Int) (h : inI k 0 6 = true) : Call YtnkefikpejjjcaaDoor.Env.pg 54 [.int .i64 k] (.str (dec1 k.toNat)) [] := by
  have h : 0 ≤ k ∧ k ≤ 6 := by simpa [inI] using h
  have : k = 0 ∨ k = 1 ∨ k = 2 ∨ k = 3 ∨ k = 4 ∨ k = 5 ∨ k = 6 := by omega
  rcases this with rfl | rfl | rfl | rfl | rfl | rfl | rfl
  · exact c_l01Dec_0
  · exact c_l01Dec_1
  · exact c_l01Dec_2
  · exact c_l01Dec_3
  · exact c_l01Dec_4
  · exact c_l01Dec_5
  · exact c_l01Dec_6
end Go.En
