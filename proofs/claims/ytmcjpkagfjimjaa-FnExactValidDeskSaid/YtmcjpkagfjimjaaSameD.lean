/-
  The contracts of the reference that compare desks. Own work.
-/
import Derived.Test.YtmcjpkagfjimjaaEnv
import Derived.Test.YtmcjpkagfjimjaaEnZa
import Derived.Test.YtmcjpkagfjimjaaSameC
set_option linter.unusedVariables false
set_option linter.unusedSimpArgs false
set_option maxRecDepth 100000
namespace Go.En
open Go.Proofs
theorem ieqF {a b : Int} (h : std.ine a b = true) : std.ieq a b = false := by
  have h : (a != b) = true := h
  show (a == b) = false
  simpa using h
theorem ieqT {a b : Int} (h : std.ine a b = false) : std.ieq a b = true := by
  have h : (a != b) = false := h
  show (a == b) = true
  simpa using h
theorem t19 (d e : Dsk) (hd : d.OK) (he : e.OK) : Call Try.prog 19 [.sp (deskC d) 0, .sp (deskC e) 0] (.bool (sameRt d e)) [] := by
  refine Call.of_body Ytmcjpkagfjimjaa.Env.ok Try.func19 rfl rfl ?_; intro o P K ho hP hK; cbv
  refine useD hP Ytmcjpkagfjimjaa.Env.ok rfl ho (by kernel_rfl) ?_
  cbv
  refine useRS hP (t55 d e hd he) rfl ?_
  generalize h0 : sameP _ _ = v0
  cases v0
  · cbv
    subst ho
    refine hK.ret _ ⟨[], rfl, congrArg V.bool ?_, rfl⟩
    rw [sameRt, h0]; rfl
  cbv
  split
  · rename_i h1
    cbv
    subst ho
    refine hK.ret _ ⟨[], rfl, congrArg V.bool ?_, rfl⟩
    have hs : sameL3 d.s e.s = false := by rw [sameL3, if_neg (ineT h1)]
    rw [sameRt, hs]; simp
  rename_i h1
  cbv
  split
  · rename_i h2
    cbv
    subst ho
    refine hK.ret _ ⟨[], rfl, congrArg V.bool ?_, rfl⟩
    rw [sameRt, ieqF h2]; simp
  rename_i h2
  cbv
  refine useRS hP (t56 _ _ hd.h he.h) rfl ?_
  generalize h3 : sameN _ _ = v3
  cases v3
  · cbv
    subst ho
    refine hK.ret _ ⟨[], rfl, congrArg V.bool ?_, rfl⟩
    rw [sameRt, show sameN d.h e.h = false from h3]; simp
  cbv
  refine useRS hP (t56 _ _ hd.t he.t) rfl ?_
  generalize h4 : sameN _ _ = v4
  cases v4
  · cbv
    subst ho
    refine hK.ret _ ⟨[], rfl, congrArg V.bool ?_, rfl⟩
    rw [sameRt, show sameN d.t e.t = false from h4]; simp
  cbv
  have hl : d.s.length = e.s.length := by subst ho; exact ineF h1
  have hres : sameRt d e = sameL3 d.s e.s := by
    subst ho
    rw [sameRt, h0, ieqT h2, show sameN d.h e.h = true from h3, show sameN d.t e.t = true from h4]; simp
  rw [hres] at hK
  refine useW hP Ytmcjpkagfjimjaa.Env.ok ho (fun s : {i : Nat // ∀ j, j < i → same3 (d.s.getD j (0, 0, 0)) (e.s.getD j (0, 0, 0)) = true} => ⟨111, 0, [(0, .sp (deskC d) 0), (1, .sp (deskC e) 0), (70, .int .i64 (o.len d.s)), (71, .int .i64 (Int.ofNat s.1))], []⟩) (fun s => d.s.length - s.1) ⟨0, fun j h => absurd h (Nat.not_lt_zero j)⟩ [] [0, 1, 70, 71] rfl rfl (fun _ => rfl) (fun _ => rfl) ?_
  rintro ⟨i, hi⟩ K' hL
  cbv
  split
  · have hlt : i < d.s.length := by subst ho; exact ieqB ‹_›
    have bad : same3 (d.s.getD i (0, 0, 0)) (e.s.getD i (0, 0, 0)) = false → sameL3 d.s e.s = false := fun h => by
      rw [sameL3, if_pos hl]
      exact allI_false hlt h
    have bx := hd.s.get i
    have bY := he.s.get i
    cbv
    refine ⟨by subst ho; exact idxN hlt, by subst ho; exact idxN (hl ▸ hlt), ?_⟩
    refine useS hP (t56 _ _ (by subst ho; exact bx.1) (by subst ho; exact bY.1)) rfl ?_
    generalize hu : sameN _ _ = u
    cases u
    · cbv
      refine hL.ret _ ?_
      cbv
      subst ho
      refine hK.ret _ ⟨[], rfl, congrArg V.bool ?_, rfl⟩
      refine (bad ?_).symm
      rw [same3, show sameN (d.s.getD i (0, 0, 0)).1 (e.s.getD i (0, 0, 0)).1 = false from hu]; rfl
    cbv
    refine useS hP (t56 _ _ (by subst ho; exact bx.2.1) (by subst ho; exact bY.2.1)) rfl ?_
    generalize hv : sameN _ _ = v
    cases v
    · cbv
      refine hL.ret _ ?_
      cbv
      subst ho
      refine hK.ret _ ⟨[], rfl, congrArg V.bool ?_, rfl⟩
      refine (bad ?_).symm
      rw [same3, show sameN (d.s.getD i (0, 0, 0)).2.1 (e.s.getD i (0, 0, 0)).2.1 = false from hv]; simp
    cbv
    refine useS hP (t56 _ _ (by subst ho; exact bx.2.2) (by subst ho; exact bY.2.2)) rfl ?_
    generalize hw : sameN _ _ = w
    cases w
    · cbv
      refine hL.ret _ ?_
      cbv
      subst ho
      refine hK.ret _ ⟨[], rfl, congrArg V.bool ?_, rfl⟩
      refine (bad ?_).symm
      rw [same3, show sameN (d.s.getD i (0, 0, 0)).2.2 (e.s.getD i (0, 0, 0)).2.2 = false from hw]; simp
    cbv
    refine ⟨by subst ho; exact rngN hlt (le40 hd.ls), ?_⟩
    subst ho
    refine hL.next _ ⟨⟨i + 1, fun j hj => ?_⟩, [], [0, 1, 70, 71], rfl, rfl, ?_⟩
    · rcases Nat.lt_or_ge j i with h | h
      · exact hi j h
      · rw [show j = i by omega, same3, show sameN (d.s.getD i (0, 0, 0)).1 (e.s.getD i (0, 0, 0)).1 = true from hu, show sameN (d.s.getD i (0, 0, 0)).2.1 (e.s.getD i (0, 0, 0)).2.1 = true from hv, show sameN (d.s.getD i (0, 0, 0)).2.2 (e.s.getD i (0, 0, 0)).2.2 = true from hw]
        rfl
    · show d.s.length - (i + 1) < d.s.length - i
      omega
  · have hge : d.s.length ≤ i := by subst ho; exact igeB ‹_›
    cbv
    refine hL.out _ _ ?_
    cbv
    subst ho
    refine hK.ret _ ⟨[], rfl, congrArg V.bool ?_, rfl⟩
    rw [sameL3, if_pos hl]
    exact (allI_true fun j hj => hi j (by omega)).symm
theorem t7 (d e : Dsk) (hd : d.OK) (he : e.OK) : Call Try.prog 7 [.agg (deskC d), .agg (deskC e)] (.bool (sameDk d e)) [] := by
  refine Call.of_body Ytmcjpkagfjimjaa.Env.ok Try.func7 rfl rfl ?_; intro o P K ho hP hK; cbv
  refine useL hP 3 (t19 d e hd he) rfl rfl rfl ?_
  generalize h0 : sameRt _ _ = v0
  cases v0
  · cbv
    subst ho
    refine hK.ret _ ⟨[], rfl, congrArg V.bool ?_, rfl⟩
    rw [sameDk, h0]; rfl
  cbv
  refine useL hP 3 (t20 d e hd he) rfl rfl rfl ?_
  generalize h1 : sameAir _ _ = v1
  cases v1
  · cbv
    subst ho
    refine hK.ret _ ⟨[], rfl, congrArg V.bool ?_, rfl⟩
    rw [sameDk, h1]; simp
  cbv
  refine useL hP 3 (t21 d e hd he) rfl rfl rfl ?_
  generalize h2 : sameDr _ _ = v2
  cases v2
  · cbv
    subst ho
    refine hK.ret _ ⟨[], rfl, congrArg V.bool ?_, rfl⟩
    rw [sameDk, h2]; simp
  cbv
  refine useL hP 3 (t22 d e hd he) rfl rfl rfl ?_
  generalize h3 : sameFm _ _ = v3
  cbv
  subst ho
  refine hK.ret _ ⟨[], rfl, congrArg V.bool ?_, rfl⟩
  rw [sameDk, h0, h1, h2, h3]; rfl
end Go.En
