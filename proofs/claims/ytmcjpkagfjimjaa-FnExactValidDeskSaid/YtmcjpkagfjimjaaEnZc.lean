/-
  SMALL FACTS that leaves of walks want: what the plain operations are, ranges, indexes. Own work; generic over the program.
-/
import Derived.Test.YtmcjpkagfjimjaaEnZa
import Derived.Test.YtmcjpkagfjimjaaEnYb
import Derived.Test.YtmcjpkagfjimjaaEnWb
set_option linter.unusedVariables false
set_option linter.unusedSimpArgs false
namespace Go.En

theorem std_fge : std.fge = fge := rfl
theorem std_fle : std.fle = fle := rfl
theorem std_fgt : std.fgt = fgt := rfl
theorem std_flt : std.flt = flt := rfl
theorem std_feq : std.feq = feq := rfl
theorem std_fadd : std.fadd = fadd := rfl
theorem std_fsub : std.fsub = fsub := rfl
theorem std_fmul : std.fmul = fmul := rfl
theorem std_fdiv : std.fdiv = fdiv := rfl
theorem std_fneg : std.fneg = fneg := rfl
theorem std_fne (k : FloatKind) (x y : Nat) : std.fne k x y = !feq k x y := rfl
theorem std_cn : std.cn = cn := rfl
theorem std_ilt (a b : Int) : std.ilt a b = decide (a < b) := rfl
theorem std_ile (a b : Int) : std.ile a b = decide (a ≤ b) := rfl
theorem std_ieq (a b : Int) : std.ieq a b = (a == b) := rfl
theorem std_ine (a b : Int) : std.ine a b = (a != b) := rfl
theorem std_beq (a b : Bool) : std.beq a b = (a == b) := rfl
theorem std_bne (a b : Bool) : std.bne a b = (a != b) := rfl
theorem std_add (a b : Int) : std.add a b = a + b := rfl
theorem std_sub (a b : Int) : std.sub a b = a - b := rfl
theorem std_mul (a b : Int) : std.mul a b = a * b := rfl
theorem std_quo (a b : Int) : std.quo a b = a.tdiv b := rfl
theorem std_rem (a b : Int) : std.rem a b = a.tmod b := rfl
theorem std_neg (a : Int) : std.neg a = 0 - a := rfl
theorem std_len {α : Type} (l : List α) : std.len l = (l.length : Int) := rfl
theorem std_get {α : Type} (d : α) (l : List α) (i : Int) : std.get d l i = l.getD i.toNat d := rfl
theorem std_set {α : Type} (l : List α) (i : Int) (x : α) : std.set l i x = l.set i.toNat x := rfl
theorem std_app {α : Type} (a b : List α) : std.app a b = a ++ b := rfl
theorem std_rep {α : Type} (n : Int) (x : α) : std.rep n x = List.replicate n.toNat x := rfl
theorem std_cut {α : Type} (l : List α) (a b : Int) : std.cut l a b = (l.take b.toNat).drop a.toNat := rfl
theorem std_ofNat (n : Nat) : std.ofNat n = (n : Int) := rfl
theorem std_slen (s : ByteArray) : std.slen s = (s.size : Int) := rfl
theorem std_scat (a b : ByteArray) : std.scat a b = a ++ b := rfl
theorem std_nz (n : Int) : std.nz n = (n ≠ 0) := rfl
theorem std_idx (i n : Int) : std.idx i n = (0 ≤ i ∧ i < n) := rfl
theorem std_sub3 (l h n : Int) : std.sub3 l h n = (0 ≤ l ∧ l ≤ h ∧ h ≤ n) := rfl
theorem std_small (n : Int) : std.small n = (0 ≤ n ∧ n ≤ 1099511627776) := rfl
theorem std_rng (n : Int) : std.rng .i64 n = (-9223372036854775808 ≤ n ∧ n ≤ 9223372036854775807) := by
  show (IntKind.i64.min ≤ n ∧ n ≤ IntKind.i64.max) = _
  have e1 : IntKind.i64.min = -9223372036854775808 := by decide
  have e2 : IntKind.i64.max = 9223372036854775807 := by decide
  rw [e1, e2]
theorem ofNat_toNat (n : Nat) : (Int.ofNat n).toNat = n := rfl
theorem getD_nat {α : Type} (d : α) (l : List α) (i : Nat) : std.get d l (Int.ofNat i) = l.getD i d := rfl
theorem i64min : IntKind.i64.min = -9223372036854775808 := by decide
theorem i64max : IntKind.i64.max = 9223372036854775807 := by decide
theorem toNat_sub1 (n : Nat) : ((n : Int) - 1).toNat = n - 1 := by omega
theorem natC (n : Nat) : Int.ofNat n = (n : Int) := rfl

theorem cnl_0 : cn .f32 0 = 0 := by decide
theorem cnl_981668463 : cn .f32 981668463 = 981668463 := by decide
theorem cnl_1008981770 : cn .f32 1008981770 = 1008981770 := by decide
theorem cnl_1015021568 : cn .f32 1015021568 = 1015021568 := by decide
theorem cnl_1048508891 : cn .f32 1048508891 = 1048508891 := by decide
theorem cnl_1056964608 : cn .f32 1056964608 = 1056964608 := by decide
theorem cnl_1065353216 : cn .f32 1065353216 = 1065353216 := by decide
theorem cnl_1073741824 : cn .f32 1073741824 = 1073741824 := by decide
theorem cnl_1078530011 : cn .f32 1078530011 = 1078530011 := by decide
theorem cnl_1082130432 : cn .f32 1082130432 = 1082130432 := by decide
theorem cnl_1086918619 : cn .f32 1086918619 = 1086918619 := by decide
theorem cnl_1090519040 : cn .f32 1090519040 = 1090519040 := by decide
theorem cnl_1092616192 : cn .f32 1092616192 = 1092616192 := by decide
theorem cnl_1140850688 : cn .f32 1140850688 = 1140850688 := by decide
theorem cnl_1148846080 : cn .f32 1148846080 = 1148846080 := by decide
theorem cnl_1174011904 : cn .f32 1174011904 = 1174011904 := by decide
theorem cnl_1182400512 : cn .f32 1182400512 = 1182400512 := by decide
theorem cnl_1199570944 : cn .f32 1199570944 = 1199570944 := by decide
theorem cnl_1203982336 : cn .f32 1203982336 = 1203982336 := by decide
theorem cnl_2147483648 : cn .f32 2147483648 = 2147483648 := by decide
theorem cnl_3204448256 : cn .f32 3204448256 = 3204448256 := by decide
theorem cnl_3351465984 : cn .f32 3351465984 = 3351465984 := by decide

/-- What is known of a list at each place. -/
theorem allI_iff {n : Nat} {p : Nat → Bool} : allI n p = true ↔ ∀ j, j < n → p j = true := by
  refine ⟨fun h j hj => ?_, allI_true⟩
  cases hp : p j
  · rw [allI_false hj hp] at h; cases h
  · rfl

/-- The first place of a list at which p holds, or -1. -/
def idxF (p : Nat → Bool) (xs : List Nat) : Int := if xs.findIdx p < xs.length then (xs.findIdx p : Int) else -1
theorem getD_get {xs : List Nat} {i : Nat} (h : i < xs.length) (d : Nat) : xs.getD i d = xs[i] := by
  rw [List.getD_eq_getElem?_getD, List.getElem?_eq_getElem h]; rfl
theorem idxF_at {p : Nat → Bool} {xs : List Nat} {i : Nat} (hi : i < xs.length) (hp : p (xs.getD i 0) = true) (hn : ∀ j, j < i → p (xs.getD j 0) = false) : idxF p xs = (i : Int) := by
  have : xs.findIdx p = i := by
    refine (List.findIdx_eq hi).2 ⟨by rw [← getD_get hi 0]; exact hp, fun j hj => ?_⟩
    have := hn j hj
    rwa [getD_get (by omega)] at this
  unfold idxF
  rw [this, if_pos hi]
theorem idxF_none {p : Nat → Bool} {xs : List Nat} (hn : ∀ j, j < xs.length → p (xs.getD j 0) = false) : idxF p xs = -1 := by
  have : xs.findIdx p = xs.length := by
    refine List.findIdx_eq_length.2 fun x hx => ?_
    obtain ⟨j, hj, rfl⟩ := List.mem_iff_getElem.1 hx
    have := hn j hj
    rwa [getD_get hj] at this
  unfold idxF
  rw [this, if_neg (by omega)]
theorem idxF_ge {p : Nat → Bool} {xs : List Nat} : decide (0 ≤ idxF p xs) = xs.any p := by
  unfold idxF
  by_cases h : xs.findIdx p < xs.length
  · rw [if_pos h]
    have := List.findIdx_lt_length.1 h
    obtain ⟨x, hx, hp⟩ := this
    rw [List.any_eq_true.2 ⟨x, hx, hp⟩]
    simp
  · rw [if_neg h]
    cases ha : xs.any p
    · rfl
    · obtain ⟨x, hx, hp⟩ := List.any_eq_true.1 ha
      exact absurd (List.findIdx_lt_length.2 ⟨x, hx, hp⟩) h
theorem any_allI (p : Nat → Bool) (xs : List Nat) : (!xs.any p) = allI xs.length fun i => !p (xs.getD i 0) := by
  cases ha : xs.any p
  · refine (allI_true fun j hj => ?_).symm
    have := List.any_eq_false.1 ha xs[j] (List.getElem_mem hj)
    rw [getD_get hj]
    simpa using this
  · obtain ⟨x, hx, hp⟩ := List.any_eq_true.1 ha
    obtain ⟨j, hj, rfl⟩ := List.mem_iff_getElem.1 hx
    exact (allI_false hj (by rw [getD_get hj, hp]; rfl)).symm
end Go.En
