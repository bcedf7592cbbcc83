/-
  FACTS OF NUMBERS: how two singles stand to each other, by whole numbers. Own work; generic over the program.
-/
import Derived.Test.YtmcjpkagfjimjaaEnY
set_option linter.unusedVariables false
set_option linter.unusedSimpArgs false
namespace Go.En

def bigN : Nat := 2 ^ 200 * 2 ^ 200
theorem cmp_lt {a b : Int} (h : a < b) : compare a b = .lt := by simp [compare, compareOfLessAndEq, h]
theorem cmp_eq (a : Int) : compare a a = .eq := by simp [compare, compareOfLessAndEq]
theorem cmp_gt {a b : Int} (h : b < a) : compare a b = .gt := by
  have h1 : ¬ a < b := by omega
  have h2 : ¬ a = b := by omega
  simp [compare, compareOfLessAndEq, h1, h2]
/-- A single in units of its least place. -/
def v32 (x : Nat) : Int :=
  match FloatKind.f32.decode x with
  | .number s m p => Ieee.signed s m (p + 149).toNat
  | .infinity s => if s then -(bigN : Int) else (bigN : Int)
  | .nan _ _ => 0
def isN (x : Nat) : Bool := (FloatKind.f32.decode x).isNaN

theorem signed_shift (s : Bool) (m a b : Nat) : Ieee.signed s m (a + b) = Ieee.signed s m a * 2 ^ b := by
  unfold Ieee.signed
  simp only [Nat.shiftLeft_eq, Nat.pow_add]
  split
  · rw [Int.neg_mul]
    congr 1
    simp only [Int.natCast_mul, Int.natCast_pow]
    rw [Int.mul_assoc]
    rfl
  · simp only [Int.natCast_mul, Int.natCast_pow]
    rw [Int.mul_assoc]
    rfl
theorem compare_scale (a b : Int) (k : Nat) : compare (a * 2 ^ k) (b * 2 ^ k) = compare a b := by
  have hp : (0 : Int) < 2 ^ k := Int.pow_pos (by decide)
  rcases Int.lt_trichotomy a b with h | h | h
  · have : a * 2 ^ k < b * 2 ^ k := Int.mul_lt_mul_of_pos_right h hp
    rw [cmp_lt h, cmp_lt this]
  · rw [h, cmp_eq, cmp_eq]
  · have : b * 2 ^ k < a * 2 ^ k := Int.mul_lt_mul_of_pos_right h hp
    rw [cmp_gt h, cmp_gt this]
theorem signed_bound (s : Bool) (m : Nat) (p : Int) (hm : m < 16777216) (h1 : -149 ≤ p) (h2 : p ≤ 104) : -(bigN : Int) < Ieee.signed s m (p + 149).toNat ∧ Ieee.signed s m (p + 149).toNat < (bigN : Int) := by
  have h3 : (p + 149).toNat ≤ 253 := by omega
  have h4 : m <<< (p + 149).toNat < bigN := by
    rw [Nat.shiftLeft_eq]
    calc m * 2 ^ (p + 149).toNat ≤ m * 2 ^ 253 := Nat.mul_le_mul_left _ (Nat.pow_le_pow_right (by decide) h3)
      _ < 16777216 * 2 ^ 253 := Nat.mul_lt_mul_of_pos_right hm (Nat.two_pow_pos _)
      _ ≤ bigN := by decide
  have h5 : ((m <<< (p + 149).toNat : Nat) : Int) < (bigN : Int) := Int.ofNat_lt.2 h4
  have h6 : (0 : Int) ≤ ((m <<< (p + 149).toNat : Nat) : Int) := Int.natCast_nonneg _
  unfold Ieee.signed
  generalize ((m <<< (p + 149).toNat : Nat) : Int) = z at *
  split <;> omega
theorem order_v32 (x y : Nat) (hx : isN x = false) (hy : isN y = false) : FloatKind.f32.format.order x y = some (compare (v32 x) (v32 y)) := by
  show (FloatKind.f32.decode x).order (FloatKind.f32.decode y) = _
  unfold isN at hx hy
  unfold v32
  rcases read_single x with ⟨m, p, ex, hm, h1, h2⟩ | ex | ⟨t, ex, _⟩
  · rcases read_single y with ⟨n, q, ey, hn, h3, h4⟩ | ey | ⟨t, ey, _⟩
    · rw [ex, ey]
      simp only [Ieee.Datum.order]
      congr 1
      generalize (x / 2147483648 % 2 == 1) = s
      generalize (y / 2147483648 % 2 == 1) = r
      have e1 : (p + 149).toNat = (p - min p q).toNat + (min p q + 149).toNat := by omega
      have e2 : (q + 149).toNat = (q - min p q).toNat + (min p q + 149).toNat := by omega
      rw [e1, e2, signed_shift, signed_shift, compare_scale]
    · rw [ex, ey]
      simp only [Ieee.Datum.order]
      have := signed_bound (x / 2147483648 % 2 == 1) m p hm h1 h2
      generalize (y / 2147483648 % 2 == 1) = r
      cases r
      · simp only [if_neg (by decide : ¬ false = true), Bool.false_eq_true, if_false]
        rw [cmp_lt this.2]
      · simp only [if_true]
        rw [cmp_gt this.1]
    · rw [ey] at hy; cases hy
  · rcases read_single y with ⟨n, q, ey, hn, h3, h4⟩ | ey | ⟨t, ey, _⟩
    · rw [ex, ey]
      simp only [Ieee.Datum.order]
      have := signed_bound (y / 2147483648 % 2 == 1) n q hn h3 h4
      generalize (x / 2147483648 % 2 == 1) = r
      cases r
      · simp only [Bool.false_eq_true, if_false]
        rw [cmp_gt this.2]
      · simp only [if_true]
        rw [cmp_lt this.1]
    · rw [ex, ey]
      simp only [Ieee.Datum.order]
      generalize (x / 2147483648 % 2 == 1) = r
      generalize (y / 2147483648 % 2 == 1) = s
      cases r <;> cases s <;> decide
    · rw [ey] at hy; cases hy
  · rw [ex] at hx; cases hx
theorem order_nan (x y : Nat) (h : isN x = true ∨ isN y = true) : FloatKind.f32.format.order x y = none := by
  rcases h with h | h
  · exact order_nan_left _ _ h
  · exact order_nan_right _ _ h

theorem flt_v (x y : Nat) : flt .f32 x y = (!isN x && !isN y && decide (v32 x < v32 y)) := by
  unfold flt
  cases hx : isN x
  · cases hy : isN y
    · rw [order_v32 x y hx hy]
      by_cases h : v32 x < v32 y
      · simp [cmp_lt h, h]
      · rcases Int.lt_trichotomy (v32 x) (v32 y) with h' | h' | h'
        · exact absurd h' h
        · simp [h', cmp_eq]
        · simp [cmp_gt h', h] <;> omega
    · rw [order_nan x y (.inr hy)]; rfl
  · rw [order_nan x y (.inl hx)]; rfl
theorem fgt_v (x y : Nat) : fgt .f32 x y = (!isN x && !isN y && decide (v32 y < v32 x)) := by
  unfold fgt
  cases hx : isN x
  · cases hy : isN y
    · rw [order_v32 x y hx hy]
      rcases Int.lt_trichotomy (v32 x) (v32 y) with h' | h' | h'
      · simp [cmp_lt h'] <;> omega
      · simp [h', cmp_eq]
      · simp [cmp_gt h', h'] <;> omega
    · rw [order_nan x y (.inr hy)]; rfl
  · rw [order_nan x y (.inl hx)]; rfl
theorem fle_v (x y : Nat) : fle .f32 x y = (!isN x && !isN y && decide (v32 x ≤ v32 y)) := by
  unfold fle
  cases hx : isN x
  · cases hy : isN y
    · rw [order_v32 x y hx hy]
      rcases Int.lt_trichotomy (v32 x) (v32 y) with h' | h' | h'
      · simp [cmp_lt h'] <;> omega
      · simp [h', cmp_eq]
      · simp [cmp_gt h', h'] <;> omega
    · rw [order_nan x y (.inr hy)]; rfl
  · rw [order_nan x y (.inl hx)]; rfl
theorem fge_v (x y : Nat) : fge .f32 x y = (!isN x && !isN y && decide (v32 y ≤ v32 x)) := by
  unfold fge
  cases hx : isN x
  · cases hy : isN y
    · rw [order_v32 x y hx hy]
      rcases Int.lt_trichotomy (v32 x) (v32 y) with h' | h' | h'
      · simp [cmp_lt h'] <;> omega
      · simp [h', cmp_eq]
      · simp [cmp_gt h'] <;> omega
    · rw [order_nan x y (.inr hy)]; rfl
  · rw [order_nan x y (.inl hx)]; rfl
theorem feq_v (x y : Nat) : feq .f32 x y = (!isN x && !isN y && decide (v32 x = v32 y)) := by
  unfold feq
  cases hx : isN x
  · cases hy : isN y
    · rw [order_v32 x y hx hy]
      rcases Int.lt_trichotomy (v32 x) (v32 y) with h' | h' | h'
      · simp [cmp_lt h'] <;> omega
      · simp [h', cmp_eq]
      · simp [cmp_gt h'] <;> omega
    · rw [order_nan x y (.inr hy)]; rfl
  · rw [order_nan x y (.inl hx)]; rfl
theorem fge_fle (x y : Nat) : fge .f32 x y = fle .f32 y x := by
  rw [fge_v, fle_v, Bool.and_comm (!isN x)]
theorem fgt_flt (x y : Nat) : fgt .f32 x y = flt .f32 y x := by
  rw [fgt_v, flt_v, Bool.and_comm (!isN x)]
end Go.En
