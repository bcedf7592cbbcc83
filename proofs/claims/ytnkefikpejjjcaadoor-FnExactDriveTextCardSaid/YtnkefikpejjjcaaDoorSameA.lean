/-
  The contracts of the functions that compare and copy numbers and lists. Own work.
-/
import Derived.Test.YtnkefikpejjjcaaDoorEnv
import Derived.Test.YtnkefikpejjjcaaDoorEnXz
set_option linter.unusedVariables false
set_option linter.unusedSimpArgs false
set_option maxRecDepth 100000
namespace Go.En
open Go.Proofs
def sgn (y : Nat) : Bool := std.ilt (std.wrap .i64 (std.ofNat y)) 0
theorem t110 (a : Nat) (la : a < 4294967296) : Call YtnkefikpejjjcaaDoor.Env.pg 82 [.flt .f32 a] (.int .i64 (fb a)) [] := by
  have fn : ∀ x, std.fne .f32 x x = (FloatKind.f32.decode x).isNaN := fun x => by show (!feq .f32 x x) = _; rw [feq_self]; simp
  refine Call.of_body YtnkefikpejjjcaaDoor.Env.ok Tryd.func82 rfl rfl ?_
  intro o P K ho hP hK
  cbv
  repeat' (first | (split; all_goals try cbv) | refine And.intro ?_ ?_)
  · subst ho
    refine hK.ret _ ⟨[], rfl, congrArg (V.int .i64) ?_, rfl⟩
    rw [fb, (fn a).symm.trans ‹std.fne .f32 a a = true›]
    rfl
  · subst ho; exact (fn a).symm.trans ‹std.fne .f32 a a = false›
  · subst ho
    refine hK.ret _ ⟨[], rfl, congrArg (V.int .i64) ?_, rfl⟩
    rw [fb, (fn a).symm.trans ‹std.fne .f32 a a = false›]
    show IntKind.i64.wrap (a : Int) = (a : Int)
    exact wrap_in _ _ (by simp [IntKind.min, IntKind.max, IntKind.signed, IntKind.bits]; omega)
theorem ieqB {i n : Nat} : std.ilt (Int.ofNat i) (Int.ofNat n) = true → i < n := fun h => by
  have h : decide ((i : Int) < (n : Int)) = true := h
  have := of_decide_eq_true h
  omega
theorem igeB {i n : Nat} : std.ilt (Int.ofNat i) (Int.ofNat n) = false → n ≤ i := fun h => by
  have h : decide ((i : Int) < (n : Int)) = false := h
  have := of_decide_eq_false h
  omega
theorem ineF {i n : Nat} : std.ine (Int.ofNat i) (Int.ofNat n) = false → i = n := fun h => by
  have h : ((i : Int) != (n : Int)) = false := h
  simp at h
  omega
theorem ineT {i n : Nat} : std.ine (Int.ofNat i) (Int.ofNat n) = true → i ≠ n := fun h e => by
  subst e
  have h : ((i : Int) != (i : Int)) = true := h
  simp at h
theorem idxN {i n : Nat} (h : i < n) : std.idx (Int.ofNat i) (Int.ofNat n) := ⟨Int.natCast_nonneg i, Int.ofNat_lt.2 h⟩
theorem rngN {i n : Nat} (h : i < n) (hn : n ≤ 1099511627776) : std.rng .i64 (std.add (Int.ofNat i) 1) := by
  show IntKind.i64.min ≤ (i : Int) + 1 ∧ (i : Int) + 1 ≤ IntKind.i64.max
  simp [IntKind.min, IntKind.max, IntKind.signed, IntKind.bits]
  omega
theorem t111 (x : S3) : Call YtnkefikpejjjcaaDoor.Env.pg 70 [.agg [.flt .f32 x.1, .flt .f32 x.2.1, .flt .f32 x.2.2]] (.agg [.flt .f32 x.1, .flt .f32 x.2.1, .flt .f32 x.2.2]) [] := by
  refine Call.of_body YtnkefikpejjjcaaDoor.Env.ok Tryd.func70 rfl rfl ?_
  intro o P K ho hP hK
  cbv
  subst ho
  exact hK.ret _ ⟨[], rfl, rfl, rfl⟩
theorem smallN {n : Nat} (h : n ≤ 1099511627776) : std.small (Int.ofNat n) := ⟨Int.natCast_nonneg n, Int.ofNat_le.2 h⟩
theorem sub3N {n : Nat} : std.sub3 0 (Int.ofNat n) (Int.ofNat n) := ⟨Int.le_refl 0, Int.natCast_nonneg n, Int.le_refl _⟩
theorem sub3M {n : Nat} : std.sub3 0 (Int.ofNat n) (Int.ofNat n) := sub3N
theorem t62 (xs : List Nat) (t : Bool) (hn : xs.length ≤ 1099511627776) : Call YtnkefikpejjjcaaDoor.Env.pg 35 [.sl (.f32 xs) t] (.own 0) [.row 22 (.f32 xs)] := by
  refine Call.of_body YtnkefikpejjjcaaDoor.Env.ok Tryd.func35 rfl rfl ?_
  intro o P K ho hP hK
  cbv
  repeat' (first | (split; all_goals try cbv) | refine And.intro ?_ ?_)
  · subst ho; exact sub3N
  · subst ho; exact smallN hn
  refine useW hP YtnkefikpejjjcaaDoor.Env.ok ho (fun s : {s : Nat × List Nat // s.1 ≤ xs.length ∧ s.2 = part 0 xs s.1} => ⟨22, 0, [(0, .sl (.f32 xs) t), (3, .own 0), (4, .int .i64 (Int.ofNat s.1.1))], [.row 22 (.f32 s.1.2)]⟩) (fun s => xs.length - s.1.1) ⟨(0, part 0 xs 0), Nat.zero_le _, rfl⟩ [0] [0, 3, 4] rfl (by subst ho; rfl) (fun _ => rfl) (fun _ => rfl) ?_
  rintro ⟨⟨i, L⟩, hi, hv⟩ K' hL
  have hi : i ≤ xs.length := hi
  have hv : L = part 0 xs i := hv
  have hlL : L.length = xs.length := by rw [hv]; exact part_length 0 xs hi
  cbv
  split
  · have hlt : i < xs.length := by subst ho; exact ieqB ‹_›
    cbv
    refine ⟨by subst ho; exact idxN hlt, by subst ho; exact idxN (by omega), by subst ho; exact idxN (by omega), by subst ho; exact rngN hlt hn, ?_⟩
    subst ho
    refine hL.next _ ⟨⟨(i + 1, L.set i (xs.getD i 0)), hlt, ?_⟩, [0], [0, 3, 4], rfl, rfl, ?_⟩
    · show L.set i (xs.getD i 0) = part 0 xs (i + 1)
      rw [hv]
      exact part_step 0 xs hlt
    · show xs.length - (i + 1) < xs.length - i
      omega
  · have hge : xs.length ≤ i := by subst ho; exact igeB ‹_›
    cbv
    refine hL.out _ _ ?_
    cbv
    subst ho
    refine hK.ret _ ⟨[0], rfl, rfl, ?_⟩
    rw [part_all 0 xs hge] at hv
    rw [← hv]
    rfl
theorem t60 (xs : List S3) (t : Bool) (hn : xs.length ≤ 1099511627776) : Call YtnkefikpejjjcaaDoor.Env.pg 46 [.sl (.r3 xs) t] (.own 0) [.row 91 (.r3 xs)] := by
  refine Call.of_body YtnkefikpejjjcaaDoor.Env.ok Tryd.func46 rfl rfl ?_
  intro o P K ho hP hK
  cbv
  repeat' (first | (split; all_goals try cbv) | refine And.intro ?_ ?_)
  · subst ho; exact sub3N
  · subst ho; exact smallN hn
  refine useW hP YtnkefikpejjjcaaDoor.Env.ok ho (fun s : {s : Nat × List S3 // s.1 ≤ xs.length ∧ s.2 = part (0, 0, 0) xs s.1} => ⟨23, 0, [(0, .sl (.r3 xs) t), (3, .own 0), (4, .int .i64 (Int.ofNat s.1.1))], [.row 91 (.r3 s.1.2)]⟩) (fun s => xs.length - s.1.1) ⟨(0, part (0, 0, 0) xs 0), Nat.zero_le _, rfl⟩ [0] [0, 3, 4] rfl (by subst ho; rfl) (fun _ => rfl) (fun _ => rfl) ?_
  rintro ⟨⟨i, L⟩, hi, hv⟩ K' hL
  have hi : i ≤ xs.length := hi
  have hv : L = part (0, 0, 0) xs i := hv
  have hlL : L.length = xs.length := by rw [hv]; exact part_length (0, 0, 0) xs hi
  cbv
  split
  · have hlt : i < xs.length := by subst ho; exact ieqB ‹_›
    cbv
    refine ⟨by subst ho; exact idxN hlt, ?_⟩
    refine useS hP (t111 _) rfl ?_
    cbv
    refine ⟨by subst ho; exact idxN (by omega), by subst ho; exact idxN (by omega), by subst ho; exact rngN hlt hn, ?_⟩
    subst ho
    refine hL.next _ ⟨⟨(i + 1, L.set i (xs.getD i (0, 0, 0))), hlt, ?_⟩, [0], [0, 3, 4], rfl, rfl, ?_⟩
    · show L.set i (xs.getD i (0, 0, 0)) = part (0, 0, 0) xs (i + 1)
      rw [hv]
      exact part_step (0, 0, 0) xs hlt
    · show xs.length - (i + 1) < xs.length - i
      omega
  · have hge : xs.length ≤ i := by subst ho; exact igeB ‹_›
    cbv
    refine hL.out _ _ ?_
    cbv
    subst ho
    refine hK.ret _ ⟨[0], rfl, rfl, ?_⟩
    rw [part_all (0, 0, 0) xs hge] at hv
    rw [← hv]
    rfl
end Go.En
