/-
  The contracts of strconv's writing of a number in base sixteen. Own work.
-/
import Derived.Test.YtnkefikpejjjcaaDoorEnv
import Derived.Test.YtnkefikpejjjcaaDoorEnXz
import Derived.Test.YtnkefikpejjjcaaDoorSameA
set_option linter.unusedVariables false
set_option linter.unusedSimpArgs false
set_option maxRecDepth 100000
namespace Go.En
open Go.Proofs

theorem c_isPow2 : Call YtnkefikpejjjcaaDoor.Env.pg 100 [.int .i64 16] (.bool true) [] := by
  refine Call.of_body YtnkefikpejjjcaaDoor.Env.ok Tryd.func100 rfl rfl ?_; intro o P K ho hP hK; cbv
  repeat' (first | refine And.intro ?_ ?_ | (split; all_goals try cbv) | (refine useD hP YtnkefikpejjjcaaDoor.Env.ok rfl ho (by kernel_rfl) ?_; try cbv))
  all_goals first
    | (subst ho; first | decide | (refine And.intro ?_ ?_ <;> decide) | (refine And.intro ?_ (And.intro ?_ ?_) <;> decide) | exact absurd ‹_› (by decide))
    | (subst ho; exact hK.ret _ ⟨[], rfl, congrArg V.bool (by decide), rfl⟩)
theorem c_TZ64 : Call YtnkefikpejjjcaaDoor.Env.pg 108 [.int .u64 16] (.int .i64 4) [] := by
  refine Call.of_body YtnkefikpejjjcaaDoor.Env.ok Tryd.func108 rfl rfl ?_; intro o P K ho hP hK; cbv
  repeat' (first | refine And.intro ?_ ?_ | (split; all_goals try cbv) | (refine useD hP YtnkefikpejjjcaaDoor.Env.ok rfl ho (by kernel_rfl) ?_; try cbv))
  all_goals first
    | (subst ho; first | decide | (refine And.intro ?_ ?_ <;> decide) | (refine And.intro ?_ (And.intro ?_ ?_) <;> decide) | exact absurd ‹_› (by decide))
    | (subst ho; exact hK.ret _ ⟨[], rfl, congrArg (V.int .i64) (by decide), rfl⟩)
theorem c_TZ : Call YtnkefikpejjjcaaDoor.Env.pg 101 [.int .u64 16] (.int .i64 4) [] := by
  refine Call.of_body YtnkefikpejjjcaaDoor.Env.ok Tryd.func101 rfl rfl ?_; intro o P K ho hP hK; cbv
  repeat' (first | refine And.intro ?_ ?_ | (split; all_goals try cbv) | (refine useD hP YtnkefikpejjjcaaDoor.Env.ok rfl ho (by kernel_rfl) ?_; try cbv) | (first | (refine useS hP (c_TZ64) rfl ?_; try cbv) | (refine useRS hP (c_TZ64) rfl ?_; try cbv) | (refine useL hP 3 (c_TZ64) rfl rfl rfl ?_; try cbv) | (refine useRL hP 3 (c_TZ64) rfl rfl rfl ?_; try cbv)))
  subst ho
  exact hK.ret _ ⟨[], rfl, rfl, rfl⟩
theorem w16 : std.wrap .u64 16 = 16 := by decide
theorem c_TZw (o : Ops) (ho : std = o) : Call YtnkefikpejjjcaaDoor.Env.pg 101 [.int .u64 (o.wrap .u64 16)] (.int .i64 4) [] := by
  subst ho; rw [w16]; exact c_TZ
theorem c_BitsOf (a : Nat) (la : a < 4294967296) : Call YtnkefikpejjjcaaDoor.Env.pg 83 [.flt .f32 a] (.int .i64 (fb a)) [] := by
  have fn : ∀ x, std.fne .f32 x x = (FloatKind.f32.decode x).isNaN := fun x => by show (!feq .f32 x x) = _; rw [feq_self]; simp
  refine Call.of_body YtnkefikpejjjcaaDoor.Env.ok Tryd.func83 rfl rfl ?_
  intro o P K ho hP hK
  cbv
  repeat' (first | (split; all_goals try cbv) | refine And.intro ?_ ?_)
  · subst ho
    refine hK.ret _ ⟨[], rfl, congrArg (V.int .i64) ?_, rfl⟩
    rw [fb, (fn a).symm.trans ‹std.fne .f32 a a = true›]
    rfl
  · subst ho; exact (fn a).symm.trans ‹std.fne .f32 a a = false›
  · subst ho
    refine hK.ret _ ⟨[], rfl, congrArg (V.int .i64) ?_, rfl⟩
    rw [fb, (fn a).symm.trans ‹std.fne .f32 a a = false›]
    show IntKind.i64.wrap (a : Int) = (a : Int)
    exact wrap_in _ _ (by simp [IntKind.min, IntKind.max, IntKind.signed, IntKind.bits]; omega)
def dig36 : ByteArray := ⟨#[48, 49, 50, 51, 52, 53, 54, 55, 56, 57, 97, 98, 99, 100, 101, 102, 103, 104, 105, 106, 107, 108, 109, 110, 111, 112, 113, 114, 115, 116, 117, 118, 119, 120, 121, 122]⟩
theorem dig36_at (d : Nat) (h : d < 16) : std.sget dig36 (Int.ofNat d) = dig d := by
  have : d = 0 ∨ d = 1 ∨ d = 2 ∨ d = 3 ∨ d = 4 ∨ d = 5 ∨ d = 6 ∨ d = 7 ∨ d = 8 ∨ d = 9 ∨ d = 10 ∨ d = 11 ∨ d = 12 ∨ d = 13 ∨ d = 14 ∨ d = 15 := by omega
  rcases this with rfl | rfl | rfl | rfl | rfl | rfl | rfl | rfl | rfl | rfl | rfl | rfl | rfl | rfl | rfl | rfl <;> decide
theorem c_formatBits (n : Nat) (hn : n < 4294967296) : Call YtnkefikpejjjcaaDoor.Env.pg 89 [.nils .u8, .int .u64 (Int.ofNat n), .int .i64 16, .bool false, .bool false] (.tup [.nils .u8, .str (strOfNums (hexD n (kOf n + 1)))]) [] := by
  refine Call.of_body YtnkefikpejjjcaaDoor.Env.ok Tryd.func89 rfl rfl ?_; intro o P K ho hP hK; cbv
  have g1 : std.ilt 16 2 = false := by decide
  have g2 : std.ieq 16 10 = false := by decide
  have g3 : std.ilt 36 16 = false := by decide
  repeat' (first | refine And.intro ?_ ?_ | (split; all_goals try cbv) | (refine useD hP YtnkefikpejjjcaaDoor.Env.ok rfl ho (by kernel_rfl) ?_; try cbv) | (first | (refine useS hP (c_isPow2) rfl ?_; try cbv) | (refine useRS hP (c_isPow2) rfl ?_; try cbv) | (refine useL hP 3 (c_isPow2) rfl rfl rfl ?_; try cbv) | (refine useRL hP 3 (c_isPow2) rfl rfl rfl ?_; try cbv)) | (first | (refine useS hP (c_TZw o ho) rfl ?_; try cbv) | (refine useRS hP (c_TZw o ho) rfl ?_; try cbv) | (refine useL hP 3 (c_TZw o ho) rfl rfl rfl ?_; try cbv) | (refine useRL hP 3 (c_TZw o ho) rfl rfl rfl ?_; try cbv)))
  all_goals try (exfalso; (subst ho; first | decide | (refine And.intro ?_ ?_ <;> decide) | (refine And.intro ?_ (And.intro ?_ ?_) <;> decide) | exact absurd ‹_› (by decide)))
  refine useW hP YtnkefikpejjjcaaDoor.Env.ok ho (fun z : {k : Nat // k ≤ kOf n} => ⟨102, 0, [(1, .int .u64 (Int.ofNat (n / 16 ^ z.1))), (3, .bool false), (4, .bool false), (10, .nils .u8), (12, .le 0 0 1 0), (13, .int .i64 (65 - Int.ofNat z.1)), (14, .int .u64 4), (15, .int .u64 16), (16, .int .u64 15)], [.row 146 (.u8 (arrF n z.1))]⟩) (fun z => kOf n - z.1) ⟨0, by omega⟩ [0] [1, 3, 4, 10, 12, 13, 14, 15, 16] rfl (by subst ho; simp only [Nat.pow_zero, Nat.div_one]; rfl) (fun _ => rfl) (fun _ => rfl) ?_
  rintro ⟨k, hk⟩ K' hL
  have hk7 := kOf_le hn
  generalize hA : arrF n k = A at hL ⊢
  have hAl : A.length = 65 := by rw [← hA]; exact arrF_length n k
  generalize hi : (65 - Int.ofNat k : Int) = i at hL ⊢
  generalize hu : n / 16 ^ k = u at hL ⊢
  have hul : u < 4294967296 := by rw [← hu]; exact Nat.lt_of_le_of_lt (Nat.div_le_self _ _) hn
  cbv
  have ek : Int.ofNat k = (k : Int) := rfl
  have ei : i - 1 = Int.ofNat (64 - k) := by
    have e : Int.ofNat (64 - k) = ((64 - k : Nat) : Int) := rfl
    omega
  have hrng : std.rng .i64 (std.sub i 1) := by
    show std.rng .i64 (i - 1)
    rw [std_rng]; omega
  have hix : std.idx (std.sub i 1) (Int.ofNat 65) := by
    show std.idx (i - 1) (Int.ofNat 65)
    rw [ei]; exact idxN (by omega)
  have hixA : std.idx (std.sub i 1) (std.len A) := by
    show std.idx (i - 1) (Int.ofNat A.length)
    rw [ei, hAl]; exact idxN (by omega)
  split
  · have h16 : 16 ≤ u := by
      subst ho
      have h : decide ((16 : Int) ≤ (u : Int)) = true := ‹_›
      have := of_decide_eq_true h
      omega
    have hlt : k < kOf n := by
      rcases Nat.lt_or_ge k (kOf n) with h | h
      · exact h
      · have e : k = kOf n := by omega
        have := kOf_top n
        rw [← e, hu] at this
        omega
    have hb : std.band .u64 (Int.ofNat u) 15 = Int.ofNat (u % 16) := band_u64 u (by omega)
    have hg : std.sget dig36 (std.band .u64 (Int.ofNat u) 15) = dig (n / 16 ^ k % 16) := by
      rw [hb, hu]; exact dig36_at _ (Nat.mod_lt _ (by decide))
    cbv
    refine ⟨?_, ?_, ?_, ?_, ?_, ?_⟩
    · subst ho; exact hrng
    · subst ho
      show std.idx (std.band .u64 (Int.ofNat u) 15) (Int.ofNat 36)
      rw [hb]
      exact idxN (by have := Nat.mod_lt u (show 0 < 16 by decide); omega)
    · subst ho; exact hix
    · subst ho; exact hixA
    · subst ho
      exact ⟨by decide, by decide⟩
    · subst ho
      refine hL.next _ ⟨⟨k + 1, by omega⟩, [0], [1, 3, 4, 10, 12, 13, 14, 15, 16], rfl, ?_, by show kOf n - (k + 1) < kOf n - k; omega⟩
      show (⟨102, 0, [(1, .int .u64 (std.shr (Int.ofNat u) (Int.ofNat 4))), (3, .bool false), (4, .bool false), (10, .nils .u8), (12, .le 0 0 1 0), (13, .int .i64 (i - 1)), (14, .int .u64 4), (15, .int .u64 16), (16, .int .u64 15)], [.row 146 (.u8 (A.set (i - 1).toNat (std.sget dig36 (std.band .u64 (Int.ofNat u) 15))))]⟩ : St) = ⟨102, 0, [(1, .int .u64 (Int.ofNat (n / 16 ^ (k + 1)))), (3, .bool false), (4, .bool false), (10, .nils .u8), (12, .le 0 0 1 0), (13, .int .i64 (65 - Int.ofNat (k + 1))), (14, .int .u64 4), (15, .int .u64 16), (16, .int .u64 15)], [.row 146 (.u8 (arrF n (k + 1)))]⟩
      have e1 : std.shr (Int.ofNat u) (Int.ofNat 4) = Int.ofNat (n / 16 ^ (k + 1)) := by
        rw [shr_nat .u64, ← hu, Nat.div_div_eq_div_mul]
        rfl
      have e2 : i - 1 = 65 - Int.ofNat (k + 1) := by
        rw [← hi]
        show (65 - (k : Int)) - 1 = 65 - ((k + 1 : Nat) : Int)
        omega
      have e3 : (i - 1).toNat = 64 - k := by rw [ei]; rfl
      rw [hg, e1, e3, e2, arrF, hA]
  · have h16 : u < 16 := by
      subst ho
      have h : decide ((16 : Int) ≤ (u : Int)) = false := ‹_›
      have := of_decide_eq_false h
      omega
    have hke : k = kOf n := by
      rcases Nat.lt_or_ge k (kOf n) with h | h
      · have := kOf_lt h
        rw [hu] at this
        omega
      · omega
    have hg : std.sget dig36 (Int.ofNat u) = dig (n / 16 ^ k % 16) := by
      rw [hu, Nat.mod_eq_of_lt h16]; exact dig36_at _ h16
    cbv
    refine hL.out _ _ ?_
    clear hL
    cbv
    refine ⟨?_, ?_, ?_, ?_, ?_, ?_⟩
    · subst ho; exact hrng
    · subst ho
      show std.idx (Int.ofNat u) (Int.ofNat 36)
      exact idxN (by omega)
    · subst ho; exact hix
    · subst ho; exact hixA
    · subst ho
      have hl : ∀ x, (A.set (i - 1).toNat x).length = 65 := fun x => by rw [List.length_set, hAl]
      have hle : std.sub3 (i - 1) (Int.ofNat 65) (Int.ofNat 65) := by
        rw [ei]
        exact ⟨Int.natCast_nonneg _, Int.ofNat_le.2 (by omega), Int.le_refl _⟩
      refine And.intro ?_ ?_
      · show std.sub3 (i - 1) (Int.ofNat 65) (Int.ofNat (A.set (i - 1).toNat (std.sget dig36 (Int.ofNat u))).length)
        rw [hl]; exact hle
      · show std.sub3 (i - 1) (Int.ofNat (A.set (i - 1).toNat (std.sget dig36 (Int.ofNat u))).length) (Int.ofNat 65)
        rw [hl]; exact hle
    · subst ho
      refine hK.ret _ ⟨[], rfl, congrArg (fun z => V.tup [V.nils .u8, V.str z]) ?_, rfl⟩
      show strOfNums (((A.set (i - 1).toNat (std.sget dig36 (Int.ofNat u))).take (Int.ofNat (A.set (i - 1).toNat (std.sget dig36 (Int.ofNat u))).length).toNat).drop (i - 1).toNat) = _
      have e3 : (i - 1).toNat = 64 - k := by rw [ei]; rfl
      have e4 : ∀ l : List Int, l.take (Int.ofNat l.length).toNat = l := fun l => List.take_length
      rw [e4, hg, e3, ← hke, ← hA]
      have := arrF_drop n (k + 1) (by omega)
      rw [show 65 - (k + 1) = 64 - k by omega, arrF] at this
      rw [this]
end Go.En
