/-
  FACTS OF NUMBERS: a single made a double; which singles are the same. Own work; generic over the program.
-/
import Derived.Test.YtmcjpkagfjimjaaEnC
set_option linter.unusedVariables false
set_option linter.unusedSimpArgs false
namespace Go.En

theorem cut_zero (neg : Bool) (n : Nat) : Ieee.Toward.even.cut neg n 0 = n := by
  simp [Ieee.Toward.cut, Nat.mod_one]

theorem fin_up {k n B : Nat} (h : k ≤ 1149) (hn : n < 2 * B) : min (k * B + n) (2047 * B) < 2047 * B := by
  have h1 : k * B ≤ 1149 * B := Nat.mul_le_mul_right B h
  have h2 : 0 < B := by omega
  have h3 : min (k * B + n) (2047 * B) ≤ k * B + n := Nat.min_le_left _ _
  generalize k * B = q at *
  omega

theorem near_up (neg : Bool) (m : Nat) (p : Int) (hm : m < 16777216) (h1 : -149 ≤ p) (h2 : p ≤ 104) :
    ∃ r, Ieee.double.nearest neg m p = Ieee.double.word neg r ∧ r < 2047 * 4503599627370496 := by
  unfold Ieee.Format.nearest
  split
  · exact ⟨0, rfl, by omega⟩
  · rename_i h0
    have hl : m.log2 < 24 := (Nat.log2_lt h0).2 (by simpa using hm)
    have hlp : Ieee.double.leastPlace = -1074 := by decide
    have hfb : Ieee.double.fractionBits = 52 := rfl
    have hb : Ieee.double.binade = 4503599627370496 := by decide
    have hi : Ieee.double.infRung = 2047 * 4503599627370496 := by decide
    simp only [hlp, hfb, hb, hi]
    generalize hlast : max (p + (m.log2 : Int) - ((52 : Nat) : Int)) (-1074) = last
    have e0 : (last - p).toNat = 0 := by omega
    rw [e0, cut_zero, Nat.shiftLeft_eq]
    have hn : m * 2 ^ (p - last).toNat < 2 ^ 53 := by
      have h3 : m < 2 ^ (m.log2 + 1) := Nat.lt_log2_self
      have h4 : (p - last).toNat ≤ 52 - m.log2 := by omega
      calc m * 2 ^ (p - last).toNat < 2 ^ (m.log2 + 1) * 2 ^ (p - last).toNat := Nat.mul_lt_mul_of_pos_right h3 (Nat.two_pow_pos _)
        _ ≤ 2 ^ (m.log2 + 1) * 2 ^ (52 - m.log2) := Nat.mul_le_mul_left _ (Nat.pow_le_pow_right (by omega) h4)
        _ = 2 ^ 53 := by rw [← Nat.pow_add]; congr 1; omega
    have h5 : (last - -1074).toNat ≤ 1149 := by omega
    exact ⟨_, rfl, fin_up h5 (by rw [show (2 : Nat) ^ 53 = 2 * 4503599627370496 from rfl] at hn; exact hn)⟩

theorem read_word_double (neg : Bool) (r : Nat) (h : r < 2047 * 4503599627370496) : (Ieee.double.read (Ieee.double.word neg r)).isInfinity = false ∧ (Ieee.double.read (Ieee.double.word neg r)).neg = neg := by
  have hb : Ieee.double.binade = 4503599627370496 := by decide
  have hi : Ieee.double.infRung = 2047 * 4503599627370496 := by decide
  have hs : Ieee.double.signWeight = 9223372036854775808 := by decide
  have e1 : Ieee.double.word neg r % 9223372036854775808 = r := by
    unfold Ieee.Format.word
    split
    · rw [hs]; omega
    · omega
  have e2 : (Ieee.double.word neg r / 9223372036854775808 % 2 == 1) = neg := by
    unfold Ieee.Format.word
    cases neg
    · simp; omega
    · simp only [if_true, hs]
      have : (9223372036854775808 + r) / 9223372036854775808 % 2 = 1 := by omega
      rw [this]; rfl
  unfold Ieee.Format.read
  simp only [hb, hi, hs, e1, e2]
  split
  · exact ⟨rfl, rfl⟩
  · first
      | exact ⟨rfl, rfl⟩
      | (split
         · exact ⟨rfl, rfl⟩
         · omega)

/-- What a single reads as. -/
theorem read_single (x : Nat) : (∃ m p, FloatKind.f32.decode x = .number (x / 2147483648 % 2 == 1) m p ∧ m < 16777216 ∧ -149 ≤ p ∧ p ≤ 104) ∨ FloatKind.f32.decode x = .infinity (x / 2147483648 % 2 == 1) ∨ ∃ t, FloatKind.f32.decode x = .nan (x / 2147483648 % 2 == 1) t ∧ 0 < t ∧ t < 8388608 := by
  have hb : Ieee.single.binade = 8388608 := by decide
  have hi : Ieee.single.infRung = 255 * 8388608 := by decide
  have hs : Ieee.single.signWeight = 2147483648 := by decide
  have hl : Ieee.single.leastPlace = -149 := by decide
  show (∃ m p, Ieee.single.read x = _ ∧ _) ∨ Ieee.single.read x = _ ∨ ∃ t, Ieee.single.read x = _ ∧ _
  unfold Ieee.Format.read
  simp only [hb, hi, hs, hl]
  split
  · exact .inl ⟨_, _, rfl, by omega, by omega, by omega⟩
  · split
    · exact .inl ⟨_, _, rfl, by omega, by omega, by omega⟩
    · split
      · exact .inr (.inl rfl)
      · exact .inr (.inr ⟨_, rfl, by omega, by omega⟩)

/-- A single made a double never is too great. -/
theorem fits_up (x : Nat) : std.fits .f32 .f64 x := by
  show (FloatKind.f32.decode x).isInfinity = true ∨ (FloatKind.f64.decode (FloatKind.f64.encode (FloatKind.f32.decode x))).isInfinity = false
  rcases read_single x with ⟨m, p, h, hm, h1, h2⟩ | h | ⟨t, h, h0, ht⟩
  · right
    obtain ⟨r, hr, hlt⟩ := near_up (x / 2147483648 % 2 == 1) m p hm h1 h2
    rw [h]
    show (Ieee.double.read (Ieee.double.nearest _ m p)).isInfinity = false
    rw [hr]
    exact (read_word_double _ r hlt).1
  · left; rw [h]; rfl
  · right
    rw [h]
    have hb : Ieee.double.binade = 4503599627370496 := by decide
    have hi : Ieee.double.infRung = 2047 * 4503599627370496 := by decide
    have hs : Ieee.double.signWeight = 9223372036854775808 := by decide
    show (Ieee.double.read (Ieee.double.word _ (Ieee.double.infRung + t % Ieee.double.binade))).isInfinity = false
    have e1 : ∀ neg, Ieee.double.word neg (Ieee.double.infRung + t % Ieee.double.binade) % 9223372036854775808 = 2047 * 4503599627370496 + t := by
      intro neg
      unfold Ieee.Format.word
      rw [hi, hb, hs]
      split <;> omega
    unfold Ieee.Format.read
    simp only [hs, e1]
    simp only [hb, hi]
    split
    · rfl
    · split
      · rfl
      · split
        · omega
        · rfl

theorem sign_up (x : Nat) (h : (FloatKind.f32.decode x).isNaN = false) : (FloatKind.f64.decode (std.conv .f32 .f64 x)).isNaN = false ∧ ∃ r, std.conv .f32 .f64 x = Ieee.double.word (x / 2147483648 % 2 == 1) r ∧ r < 9223372036854775808 := by
  have hc : std.conv .f32 .f64 x = FloatKind.f64.encode (FloatKind.f32.decode x) := by
    show (if (FloatKind.f32.decode x).isNaN then nan .f64 else FloatKind.f64.encode (FloatKind.f32.decode x)) = _
    rw [h]; rfl
  refine ⟨by rw [hc]; exact write_num _ _ h, ?_⟩
  rw [hc]
  rcases read_single x with ⟨m, p, e, hm, h1, h2⟩ | e | ⟨t, e, h0, ht⟩
  · obtain ⟨r, hr, hlt⟩ := near_up (x / 2147483648 % 2 == 1) m p hm h1 h2
    rw [e]
    exact ⟨r, hr, by omega⟩
  · rw [e]
    exact ⟨Ieee.double.infRung, rfl, by decide⟩
  · rw [e] at h; cases h
end Go.En
