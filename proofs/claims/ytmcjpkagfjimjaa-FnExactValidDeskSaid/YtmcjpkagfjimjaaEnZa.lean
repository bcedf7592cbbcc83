/-
  FACTS OF LISTS for loops. Own work; generic over the program.
-/
import Derived.Test.YtmcjpkagfjimjaaEnZ
set_option linter.unusedVariables false
set_option linter.unusedSimpArgs false
namespace Go.En

def allI (n : Nat) (p : Nat → Bool) : Bool := (List.range n).all p
theorem allI_true {n : Nat} {p : Nat → Bool} (h : ∀ j, j < n → p j = true) : allI n p = true := by
  unfold allI
  rw [List.all_eq_true]
  intro j hj
  exact h j (List.mem_range.1 hj)
theorem allI_false {n i : Nat} {p : Nat → Bool} (hi : i < n) (h : p i = false) : allI n p = false := by
  cases e : allI n p with
  | false => rfl
  | true =>
    unfold allI at e
    rw [List.all_eq_true] at e
    have := e i (List.mem_range.2 hi)
    rw [h] at this
    cases this

/-- Two lists of singles have the same numbers. -/
def sameL (xs ys : List Nat) : Bool := if xs.length = ys.length then allI xs.length fun i => sameN (xs.getD i 0) (ys.getD i 0) else false
abbrev S3 := Nat × Nat × Nat
def same3 (x y : S3) : Bool := sameN x.1 y.1 && (sameN x.2.1 y.2.1 && sameN x.2.2 y.2.2)
def sameL3 (xs ys : List S3) : Bool := if xs.length = ys.length then allI xs.length fun i => same3 (xs.getD i (0, 0, 0)) (ys.getD i (0, 0, 0)) else false

/-- The bits of singles. -/
def B32 (x : Nat) : Prop := x < 4294967296
def BL (xs : List Nat) : Prop := ∀ x ∈ xs, x < 4294967296
def B3 (x : S3) : Prop := x.1 < 4294967296 ∧ x.2.1 < 4294967296 ∧ x.2.2 < 4294967296
def BL3 (xs : List S3) : Prop := ∀ x ∈ xs, B3 x
theorem BL.get {xs : List Nat} (h : BL xs) (i : Nat) : xs.getD i 0 < 4294967296 := by
  rw [List.getD_eq_getElem?_getD]
  cases e : xs[i]? with
  | none => simp
  | some x => exact h x (List.mem_of_getElem? e)
theorem BL3.get {xs : List S3} (h : BL3 xs) (i : Nat) : B3 (xs.getD i (0, 0, 0)) := by
  rw [List.getD_eq_getElem?_getD]
  cases e : xs[i]? with
  | none => simp [B3]
  | some x => exact h x (List.mem_of_getElem? e)

/-- A list half copied. -/
def part {α : Type} (d : α) (xs : List α) (i : Nat) : List α := xs.take i ++ List.replicate (xs.length - i) d
theorem part_all {α : Type} (d : α) (xs : List α) {i : Nat} (h : xs.length ≤ i) : part d xs i = xs := by
  unfold part
  rw [List.take_of_length_le h, Nat.sub_eq_zero_of_le h]
  simp
theorem part_length {α : Type} (d : α) (xs : List α) {i : Nat} (h : i ≤ xs.length) : (part d xs i).length = xs.length := by
  unfold part
  simp
  omega
theorem part_step {α : Type} (d : α) (xs : List α) {i : Nat} (h : i < xs.length) : (part d xs i).set i (xs.getD i d) = part d xs (i + 1) := by
  unfold part
  rw [List.set_append_right _ _ (by simp; omega)]
  rw [show xs.length - i = (xs.length - (i + 1)) + 1 by omega, List.replicate_succ]
  have h1 : i - (xs.take i).length = 0 := by simp; omega
  rw [h1, List.set_cons_zero]
  have h2 : xs.take (i + 1) = xs.take i ++ [xs.getD i d] := by
    rw [List.take_add_one, List.getD_eq_getElem?_getD, List.getElem?_eq_getElem h]
    rfl
  rw [h2, List.append_assoc]
  rfl
end Go.En
