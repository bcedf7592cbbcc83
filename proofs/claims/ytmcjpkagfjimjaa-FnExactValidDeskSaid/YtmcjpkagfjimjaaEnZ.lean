/-
  FACTS OF NUMBERS: the same number. Own work; generic over the program.
-/
import Derived.Test.YtmcjpkagfjimjaaEnY
set_option linter.unusedVariables false
set_option linter.unusedSimpArgs false
namespace Go.En

/-- The bits of a single, all that are no number being one. -/
def fb (x : Nat) : Int := if (FloatKind.f32.decode x).isNaN then 2143289344 else (x : Int)
def sameN (a b : Nat) : Bool := fb a == fb b

theorem signbit_word (neg : Bool) (r : Nat) (h : r < 9223372036854775808) : std.ilt (std.wrap .i64 (std.ofNat (Ieee.double.word neg r))) 0 = neg := by
  have hs : Ieee.double.signWeight = 9223372036854775808 := by decide
  show decide (IntKind.i64.wrap ((Ieee.double.word neg r : Nat) : Int) < 0) = neg
  have hw : ∀ n : Int, IntKind.i64.wrap n = if n % 18446744073709551616 < 9223372036854775808 then n % 18446744073709551616 else n % 18446744073709551616 - 18446744073709551616 := by
    intro n
    simp only [IntKind.wrap, IntKind.bits, IntKind.signed]
    simp
    try omega
  rw [hw]
  unfold Ieee.Format.word
  rw [hs]
  cases neg
  · simp; omega
  · simp only [if_true]
    refine decide_eq_true ?_
    omega

theorem nan_bits {a : Nat} (h : (FloatKind.f32.decode a).isNaN = false) : a ≠ 2143289344 := by
  intro e
  subst e
  revert h
  decide

theorem sameN_nan {a b : Nat} (h : (FloatKind.f32.decode a).isNaN = true ∨ (FloatKind.f32.decode b).isNaN = true) : sameN a b = ((FloatKind.f32.decode a).isNaN && (FloatKind.f32.decode b).isNaN) := by
  unfold sameN fb
  cases ha : (FloatKind.f32.decode a).isNaN <;> cases hb : (FloatKind.f32.decode b).isNaN <;> simp [ha, hb] at h ⊢
  · have := nan_bits ha; omega
  · have := nan_bits hb; omega

theorem sameN_num {a b : Nat} (la : a < 4294967296) (lb : b < 4294967296) (ha : (FloatKind.f32.decode a).isNaN = false) (hb : (FloatKind.f32.decode b).isNaN = false) :
    sameN a b = (feq .f32 a b && (a / 2147483648 % 2 == 1) == (b / 2147483648 % 2 == 1)) := by
  have h1 : sameN a b = (a == b) := by
    unfold sameN fb
    simp only [ha, hb]
    by_cases e : a = b
    · subst e; simp
    · rw [beq_eq_false_iff_ne.2 e]
      simp
      omega
  rw [h1]
  by_cases e : a = b
  · subst e
    rw [feq_self, ha]
    simp
  · rw [beq_eq_false_iff_ne.2 e]
    symm
    rw [Bool.and_eq_false_iff]
    cases hf : feq .f32 a b with
    | false => exact .inl rfl
    | true =>
      right
      cases hs : ((a / 2147483648 % 2 == 1) == (b / 2147483648 % 2 == 1)) with
      | false => rfl
      | true =>
        exfalso
        refine e (feq_bits la lb ha ?_ hf)
        rw [beq_iff_eq] at hs
        have q1 : a / 2147483648 < 2 := by omega
        have q2 : b / 2147483648 < 2 := by omega
        generalize a / 2147483648 = u at *
        generalize b / 2147483648 = v at *
        rcases (by omega : u = 0 ∨ u = 1) with rfl | rfl <;> rcases (by omega : v = 0 ∨ v = 1) with rfl | rfl <;> simp at hs <;> rfl
end Go.En
