/-
  FACTS OF NUMBERS: two singles are equal and of one sign if and only if their bits are the same. Own work; generic over the program.
-/
import Derived.Test.YtmcjpkagfjimjaaEnX
set_option linter.unusedVariables false
set_option linter.unusedSimpArgs false
namespace Go.En

theorem order_self (d : Ieee.Datum) : d.order d = if d.isNaN then none else some .eq := by
  cases d with
  | number s m p => simp [Ieee.Datum.order, Ieee.Datum.isNaN]
  | infinity s => simp [Ieee.Datum.order, Ieee.Datum.isNaN]
  | nan s t => simp [Ieee.Datum.order, Ieee.Datum.isNaN]
theorem feq_self (k : FloatKind) (x : Nat) : feq k x x = !(k.decode x).isNaN := by
  show (((k.decode x).order (k.decode x)) == some .eq) = _
  rw [order_self]
  cases (k.decode x).isNaN <;> rfl

/-- A rung's magnitude, in units of the last place. -/
def mag (B r : Nat) : Nat := if r < B then r else (B + r % B) * 2 ^ (r / B - 1)

theorem mag_inj {B r q : Nat} (hB : 0 < B) (h : mag B r = mag B q) : r = q := by
  have big : ∀ {r : Nat}, ¬ r < B → B ≤ mag B r := fun {r} hr => by
    unfold mag
    rw [if_neg hr]
    calc B ≤ B + r % B := Nat.le_add_right _ _
      _ = (B + r % B) * 1 := (Nat.mul_one _).symm
      _ ≤ _ := Nat.mul_le_mul_left _ (Nat.two_pow_pos _)
  have two : ∀ {u v e f : Nat}, B ≤ u → u < 2 * B → B ≤ v → v < 2 * B → u * 2 ^ e = v * 2 ^ f → e ≤ f := by
    intro u v e f h1 h2 h3 h4 he
    rcases Nat.lt_or_ge f e with hlt | hge
    · exfalso
      have : u * 2 ^ (e - f) = v := by
        have hp : 2 ^ e = 2 ^ (e - f) * 2 ^ f := by rw [← Nat.pow_add]; congr 1; omega
        rw [hp, ← Nat.mul_assoc] at he
        exact Nat.eq_of_mul_eq_mul_right (Nat.two_pow_pos f) he
      have h5 : 2 ^ 1 ≤ 2 ^ (e - f) := Nat.pow_le_pow_right (by omega) (by omega)
      have h6 : u * 2 ^ 1 ≤ u * 2 ^ (e - f) := Nat.mul_le_mul_left _ h5
      omega
    · exact hge
  by_cases h1 : r < B
  · by_cases h2 : q < B
    · simpa [mag, h1, h2] using h
    · have := big h2
      rw [← h] at this
      simp [mag, h1] at this
      omega
  · by_cases h2 : q < B
    · have := big h1
      rw [h] at this
      simp [mag, h2] at this
      omega
    · unfold mag at h
      rw [if_neg h1, if_neg h2] at h
      have m1 := Nat.mod_lt r hB
      have m2 := Nat.mod_lt q hB
      have e : r / B - 1 = q / B - 1 := Nat.le_antisymm (two (by omega) (by omega) (by omega) (by omega) h) (two (by omega) (by omega) (by omega) (by omega) h.symm)
      rw [e] at h
      have h := Nat.eq_of_mul_eq_mul_right (Nat.two_pow_pos _) h
      have d1 : 1 ≤ r / B := (Nat.le_div_iff_mul_le hB).2 (by omega)
      have d2 : 1 ≤ q / B := (Nat.le_div_iff_mul_le hB).2 (by omega)
      have e1 := Nat.div_add_mod r B
      have e2 := Nat.div_add_mod q B
      have e3 : r / B = q / B := by omega
      rw [← e1, ← e2, e3]
      omega

/-- What a single reads as, to the point. -/
theorem read_rung (x : Nat) : FloatKind.f32.decode x =
    (if x % 2147483648 < 8388608 then .number (x / 2147483648 % 2 == 1) (x % 2147483648) (-149)
    else if x % 2147483648 < 2139095040 then .number (x / 2147483648 % 2 == 1) (8388608 + x % 2147483648 % 8388608) (-149 + ((x % 2147483648 / 8388608 - 1 : Nat) : Int))
    else if x % 2147483648 = 2139095040 then .infinity (x / 2147483648 % 2 == 1) else .nan (x / 2147483648 % 2 == 1) (x % 2147483648 - 2139095040)) := by
  have hb : Ieee.single.binade = 8388608 := by decide
  have hi : Ieee.single.infRung = 2139095040 := by decide
  have hs : Ieee.single.signWeight = 2147483648 := by decide
  have hl : Ieee.single.leastPlace = -149 := by decide
  show Ieee.single.read x = _
  unfold Ieee.Format.read
  simp only [hb, hi, hs, hl]

/-- The magnitude of a number that is no infinity. -/
theorem read_mag (x : Nat) (h : x % 2147483648 < 2139095040) : ∃ (m : Nat) (k : Nat), FloatKind.f32.decode x = .number (x / 2147483648 % 2 == 1) m (-149 + (k : Int)) ∧ m * 2 ^ k = mag 8388608 (x % 2147483648) := by
  rw [read_rung]
  by_cases h1 : x % 2147483648 < 8388608
  · exact ⟨x % 2147483648, 0, by rw [if_pos h1]; rfl, by simp [mag, h1]⟩
  · exact ⟨_, _, by rw [if_neg h1, if_pos h], by simp [mag, h1]⟩

theorem signed_eq {s : Bool} {m n i j k : Nat} (h : Ieee.signed s m i = Ieee.signed s n j) : m * 2 ^ i = n * 2 ^ j := by
  unfold Ieee.signed at h
  rw [Nat.shiftLeft_eq, Nat.shiftLeft_eq] at h
  split at h <;> omega

theorem feq_bits {a b : Nat} (ha : a < 4294967296) (hb : b < 4294967296) (na : (FloatKind.f32.decode a).isNaN = false) (hs : a / 2147483648 = b / 2147483648) (h : feq .f32 a b = true) : a = b := by
  have h : ((FloatKind.f32.decode a).order (FloatKind.f32.decode b) == some .eq) = true := h
  have hda := Nat.div_add_mod a 2147483648
  have hdb := Nat.div_add_mod b 2147483648
  have fin : a % 2147483648 = b % 2147483648 → a = b := fun e => by rw [hs, e] at hda; exact hda.symm.trans hdb
  have lta : a % 2147483648 ≤ 2139095040 := by
    rw [read_rung] at na
    by_cases h1 : a % 2147483648 < 8388608
    · omega
    · rw [if_neg h1] at na
      by_cases h2 : a % 2147483648 < 2139095040
      · omega
      · rw [if_neg h2] at na
        by_cases h3 : a % 2147483648 = 2139095040
        · omega
        · rw [if_neg h3] at na; cases na
  rcases Nat.lt_or_ge (a % 2147483648) 2139095040 with ia | ia
  · obtain ⟨m, k, e1, e2⟩ := read_mag a ia
    rcases Nat.lt_or_ge (b % 2147483648) 2139095040 with ib | ib
    · obtain ⟨n, l, e3, e4⟩ := read_mag b ib
      rw [e1, e3, hs] at h
      simp only [Ieee.Datum.order, beq_iff_eq, Option.some.injEq] at h
      rw [Int.compare_eq_eq] at h
      have h := signed_eq (k := 0) h
      refine fin (mag_inj (B := 8388608) (by decide) ?_)
      rw [← e2, ← e4]
      rcases Nat.le_total k l with hkl | hkl
      · rw [show ((-149 + (k : Int)) - min (-149 + (k : Int)) (-149 + (l : Int))).toNat = 0 by omega, show ((-149 + (l : Int)) - min (-149 + (k : Int)) (-149 + (l : Int))).toNat = l - k by omega] at h
        rw [Nat.pow_zero, Nat.mul_one] at h
        rw [h, Nat.mul_assoc, ← Nat.pow_add, Nat.sub_add_cancel hkl]
      · rw [show ((-149 + (l : Int)) - min (-149 + (k : Int)) (-149 + (l : Int))).toNat = 0 by omega, show ((-149 + (k : Int)) - min (-149 + (k : Int)) (-149 + (l : Int))).toNat = k - l by omega] at h
        rw [Nat.pow_zero, Nat.mul_one] at h
        rw [← h, Nat.mul_assoc, ← Nat.pow_add, Nat.sub_add_cancel hkl]
    · exfalso
      rw [e1, read_rung b, if_neg (by omega), if_neg (by omega)] at h
      split at h
      · simp [Ieee.Datum.order] at h
        split at h <;> cases h
      · simp [Ieee.Datum.order] at h
  · have ea : FloatKind.f32.decode a = .infinity (a / 2147483648 % 2 == 1) := by rw [read_rung, if_neg (by omega), if_neg (by omega), if_pos (by omega)]
    rcases Nat.lt_or_ge (b % 2147483648) 2139095040 with ib | ib
    · exfalso
      obtain ⟨n, l, e3, e4⟩ := read_mag b ib
      rw [ea, e3] at h
      simp [Ieee.Datum.order] at h
      split at h <;> cases h
    · by_cases hb' : b % 2147483648 = 2139095040
      · exact fin (by omega)
      · exfalso
        rw [ea, read_rung b, if_neg (by omega), if_neg (by omega), if_neg hb'] at h
        simp [Ieee.Datum.order] at h
end Go.En
