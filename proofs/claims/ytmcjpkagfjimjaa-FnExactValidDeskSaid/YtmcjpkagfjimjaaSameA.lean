/-
  The contracts of the functions that compare and copy numbers and lists. Own work.
-/
import Derived.Test.YtmcjpkagfjimjaaEnv
import Derived.Test.YtmcjpkagfjimjaaEnZa
set_option linter.unusedVariables false
set_option linter.unusedSimpArgs false
set_option maxRecDepth 100000
namespace Go.En
open Go.Proofs
def sgn (y : Nat) : Bool := std.ilt (std.wrap .i64 (std.ofNat y)) 0
theorem t112 (y : Nat) (h : (FloatKind.f64.decode y).isNaN = false) : Call Try.prog 112 [.flt .f64 y] (.bool (sgn y)) [] := by
  refine Call.of_body Ytmcjpkagfjimjaa.Env.ok Try.func112 rfl rfl ?_
  intro o P K ho hP hK
  cbv
  refine ⟨?_, ?_⟩
  · subst ho; exact h
  · subst ho
    exact hK.ret _ ⟨[], rfl, congrArg V.bool rfl, rfl⟩
theorem t64 (a b : Nat) (la : a < 4294967296) (lb : b < 4294967296) : Call Try.prog 64 [.flt .f32 a, .flt .f32 b] (.bool (sameN a b)) [] := by
  have fn : ∀ x, std.fne .f32 x x = (FloatKind.f32.decode x).isNaN := fun x => by show (!feq .f32 x x) = _; rw [feq_self]; simp
  have key : (FloatKind.f32.decode a).isNaN = false → (FloatKind.f32.decode b).isNaN = false → sameN a b = (feq .f32 a b && (sgn (std.conv .f32 .f64 a) == sgn (std.conv .f32 .f64 b))) := by
    intro ha hb
    obtain ⟨_, r, er, hr⟩ := sign_up a ha
    obtain ⟨_, q, eq, hq⟩ := sign_up b hb
    rw [er, eq, sgn, sgn, signbit_word _ _ hr, signbit_word _ _ hq, sameN_num la lb ha hb]
  refine Call.of_body Ytmcjpkagfjimjaa.Env.ok Try.func64 rfl rfl ?_
  intro o P K ho hP hK
  cbv
  repeat' (first | (split; all_goals try cbv) | refine And.intro ?_ ?_)
  iterate 4
    · subst ho
      refine hK.ret _ ⟨[], rfl, congrArg V.bool ?_, rfl⟩
      simp only [fn] at *
      first
        | rw [sameN_nan (.inl ‹(FloatKind.f32.decode a).isNaN = true›)]
        | rw [sameN_nan (.inr ‹(FloatKind.f32.decode b).isNaN = true›)]
      clear key
      simp_all
  · subst ho; exact fits_up _
  · have ha : (FloatKind.f32.decode a).isNaN = false := by subst ho; exact (fn a).symm.trans ‹std.fne .f32 a a = false›
    have hb : (FloatKind.f32.decode b).isNaN = false := by subst ho; exact (fn b).symm.trans ‹std.fne .f32 b b = false›
    have hf : feq .f32 a b = true := by subst ho; assumption
    refine useS hP (t112 _ ?_) rfl ?_
    · subst ho; exact (sign_up a ha).1
    generalize hu : sgn _ = u
    cbv
    refine ⟨?_, ?_⟩
    · subst ho; exact fits_up _
    refine useS hP (t112 _ ?_) rfl ?_
    · subst ho; exact (sign_up b hb).1
    generalize hv : sgn _ = v
    cbv
    subst ho hu hv
    refine hK.ret _ ⟨[], rfl, congrArg V.bool ?_, rfl⟩
    rw [key ha hb, hf]
    rfl
  · have ha : (FloatKind.f32.decode a).isNaN = false := by subst ho; exact (fn a).symm.trans ‹std.fne .f32 a a = false›
    have hb : (FloatKind.f32.decode b).isNaN = false := by subst ho; exact (fn b).symm.trans ‹std.fne .f32 b b = false›
    have hf : feq .f32 a b = false := by subst ho; assumption
    subst ho
    refine hK.ret _ ⟨[], rfl, congrArg V.bool ?_, rfl⟩
    rw [key ha hb, hf]
    rfl
theorem t110 (a : Nat) (la : a < 4294967296) : Call Try.prog 110 [.flt .f32 a] (.int .i64 (fb a)) [] := by
  have fn : ∀ x, std.fne .f32 x x = (FloatKind.f32.decode x).isNaN := fun x => by show (!feq .f32 x x) = _; rw [feq_self]; simp
  refine Call.of_body Ytmcjpkagfjimjaa.Env.ok Try.func110 rfl rfl ?_
  intro o P K ho hP hK
  cbv
  repeat' (first | (split; all_goals try cbv) | refine And.intro ?_ ?_)
  · subst ho
    refine hK.ret _ ⟨[], rfl, congrArg (V.int .i64) ?_, rfl⟩
    rw [fb, (fn a).symm.trans ‹std.fne .f32 a a = true›]
    rfl
  · subst ho; exact (fn a).symm.trans ‹std.fne .f32 a a = false›
  · subst ho
    refine hK.ret _ ⟨[], rfl, congrArg (V.int .i64) ?_, rfl⟩
    rw [fb, (fn a).symm.trans ‹std.fne .f32 a a = false›]
    show IntKind.i64.wrap (a : Int) = (a : Int)
    exact wrap_in _ _ (by simp [IntKind.min, IntKind.max, IntKind.signed, IntKind.bits]; omega)
theorem t56 (a b : Nat) (la : a < 4294967296) (lb : b < 4294967296) : Call Try.prog 56 [.flt .f32 a, .flt .f32 b] (.bool (sameN a b)) [] := by
  refine Call.of_body Ytmcjpkagfjimjaa.Env.ok Try.func56 rfl rfl ?_
  intro o P K ho hP hK
  cbv
  refine useS hP (t110 _ la) rfl ?_
  generalize hu : fb a = u
  cbv
  refine useS hP (t110 _ lb) rfl ?_
  generalize hv : fb b = v
  cbv
  subst ho hu hv
  exact hK.ret _ ⟨[], rfl, rfl, rfl⟩

theorem ieqB {i n : Nat} : std.ilt (Int.ofNat i) (Int.ofNat n) = true → i < n := fun h => by
  have h : decide ((i : Int) < (n : Int)) = true := h
  have := of_decide_eq_true h
  omega
theorem igeB {i n : Nat} : std.ilt (Int.ofNat i) (Int.ofNat n) = false → n ≤ i := fun h => by
  have h : decide ((i : Int) < (n : Int)) = false := h
  have := of_decide_eq_false h
  omega
theorem ineF {i n : Nat} : std.ine (Int.ofNat i) (Int.ofNat n) = false → i = n := fun h => by
  have h : ((i : Int) != (n : Int)) = false := h
  simp at h
  omega
theorem ineT {i n : Nat} : std.ine (Int.ofNat i) (Int.ofNat n) = true → i ≠ n := fun h e => by
  subst e
  have h : ((i : Int) != (i : Int)) = true := h
  simp at h
theorem idxN {i n : Nat} (h : i < n) : std.idx (Int.ofNat i) (Int.ofNat n) := ⟨Int.natCast_nonneg i, Int.ofNat_lt.2 h⟩
theorem rngN {i n : Nat} (h : i < n) (hn : n ≤ 1099511627776) : std.rng .i64 (std.add (Int.ofNat i) 1) := by
  show IntKind.i64.min ≤ (i : Int) + 1 ∧ (i : Int) + 1 ≤ IntKind.i64.max
  simp [IntKind.min, IntKind.max, IntKind.signed, IntKind.bits]
  omega
theorem t58 (xs ys : List Nat) (t u : Bool) (hx : BL xs) (hy : BL ys) (hn : xs.length ≤ 1099511627776) : Call Try.prog 58 [.sl (.f32 xs) t, .sl (.f32 ys) u] (.bool (sameL xs ys)) [] := by
  refine Call.of_body Ytmcjpkagfjimjaa.Env.ok Try.func58 rfl rfl ?_
  intro o P K ho hP hK
  cbv
  repeat' (first | (split; all_goals try cbv) | refine And.intro ?_ ?_)
  · subst ho
    refine hK.ret _ ⟨[], rfl, congrArg V.bool ?_, rfl⟩
    rw [sameL, if_neg (ineT ‹_›)]
  · have hl : xs.length = ys.length := by subst ho; exact ineF ‹_›
    refine useW hP Ytmcjpkagfjimjaa.Env.ok ho (fun s : {i : Nat // ∀ j, j < i → sameN (xs.getD j 0) (ys.getD j 0) = true} => ⟨27, 0, [(0, .sl (.f32 xs) t), (1, .sl (.f32 ys) u), (5, .int .i64 (Int.ofNat s.1))], []⟩) (fun s => xs.length - s.1) ⟨0, fun j h => absurd h (Nat.not_lt_zero j)⟩ [] [0, 1, 5] rfl rfl (fun _ => rfl) (fun _ => rfl) ?_
    rintro ⟨i, hi⟩ K' hL
    cbv
    repeat' (first | (split; all_goals try cbv) | refine And.intro ?_ ?_)
    · have hlt : i < xs.length := by subst ho; exact ieqB ‹_›
      refine useD hP Ytmcjpkagfjimjaa.Env.ok rfl ho (by kernel_rfl) ?_
      cbv
      refine ⟨by subst ho; exact idxN hlt, by subst ho; exact idxN (hl ▸ hlt), ?_⟩
      refine useRS hP (t56 _ _ (by subst ho; exact hx.get i) (by subst ho; exact hy.get i)) rfl ?_
      generalize hv : sameN _ _ = v
      cases v
      · cbv
        refine hL.ret _ ?_
        cbv
        subst ho
        refine hK.ret _ ⟨[], rfl, congrArg V.bool ?_, rfl⟩
        rw [sameL, if_pos hl]
        exact (allI_false hlt hv).symm
      · cbv
        refine ⟨by subst ho; exact rngN hlt hn, ?_⟩
        subst ho
        refine hL.next _ ⟨⟨i + 1, fun j hj => ?_⟩, [], [0, 1, 5], rfl, rfl, ?_⟩
        · rcases Nat.lt_or_ge j i with h | h
          · exact hi j h
          · rw [show j = i by omega]; exact hv
        · show xs.length - (i + 1) < xs.length - i
          omega
    · have hge : xs.length ≤ i := by subst ho; exact igeB ‹_›
      refine hL.out _ _ ?_
      cbv
      subst ho
      refine hK.ret _ ⟨[], rfl, congrArg V.bool ?_, rfl⟩
      rw [sameL, if_pos hl]
      exact (allI_true fun j hj => hi j (by omega)).symm

theorem t114 (xs ys : List Nat) (t u : Bool) (hx : BL xs) (hy : BL ys) (hn : xs.length ≤ 1099511627776) : Call Try.prog 114 [.sl (.f32 xs) t, .sl (.f32 ys) u, .fn 64 [] []] (.bool (sameL xs ys)) [] := by
  refine Call.of_body Ytmcjpkagfjimjaa.Env.ok Try.func114 rfl rfl ?_
  intro o P K ho hP hK
  cbv
  repeat' (first | (split; all_goals try cbv) | refine And.intro ?_ ?_)
  · subst ho
    refine hK.ret _ ⟨[], rfl, congrArg V.bool ?_, rfl⟩
    rw [sameL, if_neg (ineT ‹_›)]
  · have hl : xs.length = ys.length := by subst ho; exact ineF ‹_›
    refine useW hP Ytmcjpkagfjimjaa.Env.ok ho (fun s : {i : Nat // ∀ j, j < i → sameN (xs.getD j 0) (ys.getD j 0) = true} => ⟨32, 0, [(0, .sl (.f32 xs) t), (1, .sl (.f32 ys) u), (2, .fn 64 [] []), (15, .sl (.f32 xs) t), (16, .int .i64 (o.len xs)), (17, .int .i64 (Int.ofNat s.1))], []⟩) (fun s => xs.length - s.1) ⟨0, fun j h => absurd h (Nat.not_lt_zero j)⟩ [] [0, 1, 2, 15, 16, 17] rfl rfl (fun _ => rfl) (fun _ => rfl) ?_
    rintro ⟨i, hi⟩ K' hL
    cbv
    repeat' (first | (split; all_goals try cbv) | refine And.intro ?_ ?_)
    · have hlt : i < xs.length := by subst ho; exact ieqB ‹_›
      subst ho; exact idxN hlt
    · have hlt : i < xs.length := by subst ho; exact ieqB ‹_›
      subst ho; exact idxN (hl ▸ hlt)
    · have hlt : i < xs.length := by subst ho; exact ieqB ‹_›
      refine useS hP (t64 _ _ (by subst ho; exact hx.get i) (by subst ho; exact hy.get i)) rfl ?_
      generalize hv : sameN _ _ = v
      cases v
      · cbv
        refine hL.ret _ ?_
        cbv
        subst ho
        refine hK.ret _ ⟨[], rfl, congrArg V.bool ?_, rfl⟩
        rw [sameL, if_pos hl]
        exact (allI_false hlt hv).symm
      · cbv
        refine ⟨by subst ho; exact rngN hlt hn, ?_⟩
        subst ho
        refine hL.next _ ⟨⟨i + 1, fun j hj => ?_⟩, [], [0, 1, 2, 15, 16, 17], rfl, rfl, ?_⟩
        · rcases Nat.lt_or_ge j i with h | h
          · exact hi j h
          · rw [show j = i by omega]; exact hv
        · show xs.length - (i + 1) < xs.length - i
          omega
    · have hge : xs.length ≤ i := by subst ho; exact igeB ‹_›
      refine hL.out _ _ ?_
      cbv
      subst ho
      refine hK.ret _ ⟨[], rfl, congrArg V.bool ?_, rfl⟩
      rw [sameL, if_pos hl]
      exact (allI_true fun j hj => hi j (by omega)).symm
theorem t63 (x y : S3) (hx : B3 x) (hy : B3 y) : Call Try.prog 63 [.agg [.flt .f32 x.1, .flt .f32 x.2.1, .flt .f32 x.2.2], .agg [.flt .f32 y.1, .flt .f32 y.2.1, .flt .f32 y.2.2]] (.bool (same3 x y)) [] := by
  refine Call.of_body Ytmcjpkagfjimjaa.Env.ok Try.func63 rfl rfl ?_
  intro o P K ho hP hK
  cbv
  refine useS hP (t64 _ _ hx.1 hy.1) rfl ?_
  generalize hu : sameN _ _ = u
  cases u
  · cbv
    subst ho
    refine hK.ret _ ⟨[], rfl, congrArg V.bool ?_, rfl⟩
    rw [same3, hu]
    rfl
  cbv
  refine useS hP (t64 _ _ hx.2.1 hy.2.1) rfl ?_
  generalize hv : sameN _ _ = v
  cases v
  · cbv
    subst ho
    refine hK.ret _ ⟨[], rfl, congrArg V.bool ?_, rfl⟩
    rw [same3, hu, hv]
    rfl
  cbv
  refine useS hP (t64 _ _ hx.2.2 hy.2.2) rfl ?_
  generalize hw : sameN _ _ = w
  cbv
  subst ho
  refine hK.ret _ ⟨[], rfl, congrArg V.bool ?_, rfl⟩
  rw [same3, hu, hv, hw]
  rfl
theorem t66 (xs ys : List S3) (t u : Bool) (hx : BL3 xs) (hy : BL3 ys) (hn : xs.length ≤ 1099511627776) : Call Try.prog 66 [.sl (.r3 xs) t, .sl (.r3 ys) u, .fn 63 [] []] (.bool (sameL3 xs ys)) [] := by
  refine Call.of_body Ytmcjpkagfjimjaa.Env.ok Try.func66 rfl rfl ?_
  intro o P K ho hP hK
  cbv
  repeat' (first | (split; all_goals try cbv) | refine And.intro ?_ ?_)
  · subst ho
    refine hK.ret _ ⟨[], rfl, congrArg V.bool ?_, rfl⟩
    rw [sameL3, if_neg (ineT ‹_›)]
  · have hl : xs.length = ys.length := by subst ho; exact ineF ‹_›
    refine useW hP Ytmcjpkagfjimjaa.Env.ok ho (fun s : {i : Nat // ∀ j, j < i → same3 (xs.getD j (0, 0, 0)) (ys.getD j (0, 0, 0)) = true} => ⟨32, 0, [(0, .sl (.r3 xs) t), (1, .sl (.r3 ys) u), (2, .fn 63 [] []), (15, .sl (.r3 xs) t), (16, .int .i64 (o.len xs)), (17, .int .i64 (Int.ofNat s.1))], []⟩) (fun s => xs.length - s.1) ⟨0, fun j h => absurd h (Nat.not_lt_zero j)⟩ [] [0, 1, 2, 15, 16, 17] rfl rfl (fun _ => rfl) (fun _ => rfl) ?_
    rintro ⟨i, hi⟩ K' hL
    cbv
    repeat' (first | (split; all_goals try cbv) | refine And.intro ?_ ?_)
    · have hlt : i < xs.length := by subst ho; exact ieqB ‹_›
      subst ho; exact idxN hlt
    · have hlt : i < xs.length := by subst ho; exact ieqB ‹_›
      subst ho; exact idxN (hl ▸ hlt)
    · have hlt : i < xs.length := by subst ho; exact ieqB ‹_›
      refine useS hP (t63 _ _ (by subst ho; exact hx.get i) (by subst ho; exact hy.get i)) rfl ?_
      generalize hv : same3 _ _ = v
      cases v
      · cbv
        refine hL.ret _ ?_
        cbv
        subst ho
        refine hK.ret _ ⟨[], rfl, congrArg V.bool ?_, rfl⟩
        rw [sameL3, if_pos hl]
        exact (allI_false hlt hv).symm
      · cbv
        refine ⟨by subst ho; exact rngN hlt hn, ?_⟩
        subst ho
        refine hL.next _ ⟨⟨i + 1, fun j hj => ?_⟩, [], [0, 1, 2, 15, 16, 17], rfl, rfl, ?_⟩
        · rcases Nat.lt_or_ge j i with h | h
          · exact hi j h
          · rw [show j = i by omega]; exact hv
        · show xs.length - (i + 1) < xs.length - i
          omega
    · have hge : xs.length ≤ i := by subst ho; exact igeB ‹_›
      refine hL.out _ _ ?_
      cbv
      subst ho
      refine hK.ret _ ⟨[], rfl, congrArg V.bool ?_, rfl⟩
      rw [sameL3, if_pos hl]
      exact (allI_true fun j hj => hi j (by omega)).symm
theorem t111 (x : S3) : Call Try.prog 111 [.agg [.flt .f32 x.1, .flt .f32 x.2.1, .flt .f32 x.2.2]] (.agg [.flt .f32 x.1, .flt .f32 x.2.1, .flt .f32 x.2.2]) [] := by
  refine Call.of_body Ytmcjpkagfjimjaa.Env.ok Try.func111 rfl rfl ?_
  intro o P K ho hP hK
  cbv
  subst ho
  exact hK.ret _ ⟨[], rfl, rfl, rfl⟩
theorem smallN {n : Nat} (h : n ≤ 1099511627776) : std.small (Int.ofNat n) := ⟨Int.natCast_nonneg n, Int.ofNat_le.2 h⟩
theorem sub3N {n : Nat} : std.sub3 0 (Int.ofNat n) (Int.ofNat n) := ⟨Int.le_refl 0, Int.natCast_nonneg n, Int.le_refl _⟩
theorem sub3M {n : Nat} : std.sub3 0 (Int.ofNat n) (Int.ofNat n) := sub3N
theorem t62 (xs : List Nat) (t : Bool) (hn : xs.length ≤ 1099511627776) : Call Try.prog 62 [.sl (.f32 xs) t] (.own 0) [.row 26 (.f32 xs)] := by
  refine Call.of_body Ytmcjpkagfjimjaa.Env.ok Try.func62 rfl rfl ?_
  intro o P K ho hP hK
  cbv
  repeat' (first | (split; all_goals try cbv) | refine And.intro ?_ ?_)
  · subst ho; exact sub3N
  · subst ho; exact smallN hn
  refine useW hP Ytmcjpkagfjimjaa.Env.ok ho (fun s : {s : Nat × List Nat // s.1 ≤ xs.length ∧ s.2 = part 0 xs s.1} => ⟨22, 0, [(0, .sl (.f32 xs) t), (3, .own 0), (4, .int .i64 (Int.ofNat s.1.1))], [.row 26 (.f32 s.1.2)]⟩) (fun s => xs.length - s.1.1) ⟨(0, part 0 xs 0), Nat.zero_le _, rfl⟩ [0] [0, 3, 4] rfl (by subst ho; rfl) (fun _ => rfl) (fun _ => rfl) ?_
  rintro ⟨⟨i, L⟩, hi, hv⟩ K' hL
  have hi : i ≤ xs.length := hi
  have hv : L = part 0 xs i := hv
  have hlL : L.length = xs.length := by rw [hv]; exact part_length 0 xs hi
  cbv
  split
  · have hlt : i < xs.length := by subst ho; exact ieqB ‹_›
    cbv
    refine ⟨by subst ho; exact idxN hlt, by subst ho; exact idxN (by omega), by subst ho; exact idxN (by omega), by subst ho; exact rngN hlt hn, ?_⟩
    subst ho
    refine hL.next _ ⟨⟨(i + 1, L.set i (xs.getD i 0)), hlt, ?_⟩, [0], [0, 3, 4], rfl, rfl, ?_⟩
    · show L.set i (xs.getD i 0) = part 0 xs (i + 1)
      rw [hv]
      exact part_step 0 xs hlt
    · show xs.length - (i + 1) < xs.length - i
      omega
  · have hge : xs.length ≤ i := by subst ho; exact igeB ‹_›
    cbv
    refine hL.out _ _ ?_
    cbv
    subst ho
    refine hK.ret _ ⟨[0], rfl, rfl, ?_⟩
    rw [part_all 0 xs hge] at hv
    rw [← hv]
    rfl
theorem t60 (xs : List S3) (t : Bool) (hn : xs.length ≤ 1099511627776) : Call Try.prog 60 [.sl (.r3 xs) t] (.own 0) [.row 101 (.r3 xs)] := by
  refine Call.of_body Ytmcjpkagfjimjaa.Env.ok Try.func60 rfl rfl ?_
  intro o P K ho hP hK
  cbv
  repeat' (first | (split; all_goals try cbv) | refine And.intro ?_ ?_)
  · subst ho; exact sub3N
  · subst ho; exact smallN hn
  refine useW hP Ytmcjpkagfjimjaa.Env.ok ho (fun s : {s : Nat × List S3 // s.1 ≤ xs.length ∧ s.2 = part (0, 0, 0) xs s.1} => ⟨23, 0, [(0, .sl (.r3 xs) t), (3, .own 0), (4, .int .i64 (Int.ofNat s.1.1))], [.row 101 (.r3 s.1.2)]⟩) (fun s => xs.length - s.1.1) ⟨(0, part (0, 0, 0) xs 0), Nat.zero_le _, rfl⟩ [0] [0, 3, 4] rfl (by subst ho; rfl) (fun _ => rfl) (fun _ => rfl) ?_
  rintro ⟨⟨i, L⟩, hi, hv⟩ K' hL
  have hi : i ≤ xs.length := hi
  have hv : L = part (0, 0, 0) xs i := hv
  have hlL : L.length = xs.length := by rw [hv]; exact part_length (0, 0, 0) xs hi
  cbv
  split
  · have hlt : i < xs.length := by subst ho; exact ieqB ‹_›
    cbv
    refine ⟨by subst ho; exact idxN hlt, ?_⟩
    refine useS hP (t111 _) rfl ?_
    cbv
    refine ⟨by subst ho; exact idxN (by omega), by subst ho; exact idxN (by omega), by subst ho; exact rngN hlt hn, ?_⟩
    subst ho
    refine hL.next _ ⟨⟨(i + 1, L.set i (xs.getD i (0, 0, 0))), hlt, ?_⟩, [0], [0, 3, 4], rfl, rfl, ?_⟩
    · show L.set i (xs.getD i (0, 0, 0)) = part (0, 0, 0) xs (i + 1)
      rw [hv]
      exact part_step (0, 0, 0) xs hlt
    · show xs.length - (i + 1) < xs.length - i
      omega
  · have hge : xs.length ≤ i := by subst ho; exact igeB ‹_›
    cbv
    refine hL.out _ _ ?_
    cbv
    subst ho
    refine hK.ret _ ⟨[0], rfl, rfl, ?_⟩
    rw [part_all (0, 0, 0) xs hge] at hv
    rw [← hv]
    rfl
end Go.En
