import Derived.Test.YtnkefikpejjjcaaDoorEnC
import Derived.Test.YtnkefikpejjjcaaDoorEnW
set_option linter.unusedVariables false
set_option linter.unusedSimpArgs false
/-
  FACTS OF NUMBERS: a single made a double; which singles are the same. Own work; generic over the program.
-/
namespace Go.En

theorem cut_zero (neg : Bool) (n : Nat) : Ieee.Toward.even.cut neg n 0 = n := by
  simp [Ieee.Toward.cut, Nat.mod_one]

theorem fin_up {k n B : Nat} (h : k ≤ 1149) (hn : n < 2 * B) : min (k * B + n) (2047 * B) < 2047 * B := by
  have h1 : k * B ≤ 1149 * B := Nat.mul_le_mul_right B h
  have h2 : 0 < B := by omega
  have h3 : min (k * B + n) (2047 * B) ≤ k * B + n := Nat.min_le_left _ _
  generalize k * B = q at *
  omega

theorem near_up (neg : Bool) (m : Nat) (p : Int) (hm : m < 16777216) (h1 : -149 ≤ p) (h2 : p ≤ 104) :
    ∃ r, Ieee.double.nearest neg m p = Ieee.double.word neg r ∧ r < 2047 * 4503599627370496 := by
  unfold Ieee.Format.nearest
  split
  · exact ⟨0, rfl, by omega⟩
  · rename_i h0
    have hl : m.log2 < 24 := (Nat.log2_lt h0).2 (by simpa using hm)
    have hlp : Ieee.double.leastPlace = -1074 := by decide
    have hfb : Ieee.double.fractionBits = 52 := rfl
    have hb : Ieee.double.binade = 4503599627370496 := by decide
    have hi : Ieee.double.infRung = 2047 * 4503599627370496 := by decide
    simp only [hlp, hfb, hb, hi]
    generalize hlast : max (p + (m.log2 : Int) - ((52 : Nat) : Int)) (-1074) = last
    have e0 : (last - p).toNat = 0 := by omega
    rw [e0, cut_zero, Nat.shiftLeft_eq]
    have hn : m * 2 ^ (p - last).toNat < 2 ^ 53 := by
      have h3 : m < 2 ^ (m.log2 + 1) := Nat.lt_log2_self
      have h4 : (p - last).toNat ≤ 52 - m.log2 := by omega
      calc m * 2 ^ (p - last).toNat < 2 ^ (m.log2 + 1) * 2 ^ (p - last).toNat := Nat.mul_lt_mul_of_pos_right h3 (Nat.two_pow_pos _)
        _ ≤ 2 ^ (m.log2 + 1) * 2 ^ (52 - m.log2) := Nat.mul_le_mul_left _ (Nat.pow_le_pow_right (by omega) h4)
        _ = 2 ^ 53 := by rw [← Nat.pow_add]; congr 1; omega
    have h5 : (last - -1074).toNat ≤ 1149 := by omega
    exact ⟨_, rfl, fin_up h5 (by rw [show (2 : Nat) ^ 53 = 2 * 4503599627370496 from rfl] at hn; exact hn)⟩

theorem read_word_double (neg : Bool) (r : Nat) (h : r < 2047 * 4503599627370496) : (Ieee.double.read (Ieee.double.word neg r)).isInfinity = false ∧ (Ieee.double.read (Ieee.double.word neg r)).neg = neg := by
  have hb : Ieee.double.binade = 4503599627370496 := by decide
  have hi : Ieee.double.infRung = 2047 * 4503599627370496 := by decide
  have hs : Ieee.double.signWeight = 9223372036854775808 := by decide
  have e1 : Ieee.double.word neg r % 9223372036854775808 = r := by
    unfold Ieee.Format.word
    split
    · rw [hs]; omega
    · omega
  have e2 : (Ieee.double.word neg r / 9223372036854775808 % 2 == 1) = neg := by
    unfold Ieee.Format.word
    cases neg
    · simp; omega
    · simp only [if_true, hs]
      have : (9223372036854775808 + r) / 9223372036854775808 % 2 = 1 := by omega
      rw [this]; rfl
  unfold Ieee.Format.read
  simp only [hb, hi, hs, e1, e2]
  split
  · exact ⟨rfl, rfl⟩
  · first
      | exact ⟨rfl, rfl⟩
      | (split
         · exact ⟨rfl, rfl⟩
         · omega)

/-- What a single reads as. -/
theorem read_single (x : Nat) : (∃ m p, FloatKind.f32.decode x = .number (x / 2147483648 % 2 == 1) m p ∧ m < 16777216 ∧ -149 ≤ p ∧ p ≤ 104) ∨ FloatKind.f32.decode x = .infinity (x / 2147483648 % 2 == 1) ∨ ∃ t, FloatKind.f32.decode x = .nan (x / 2147483648 % 2 == 1) t ∧ 0 < t ∧ t < 8388608 := by
  have hb : Ieee.single.binade = 8388608 := by decide
  have hi : Ieee.single.infRung = 255 * 8388608 := by decide
  have hs : Ieee.single.signWeight = 2147483648 := by decide
  have hl : Ieee.single.leastPlace = -149 := by decide
  show (∃ m p, Ieee.single.read x = _ ∧ _) ∨ Ieee.single.read x = _ ∨ ∃ t, Ieee.single.read x = _ ∧ _
  unfold Ieee.Format.read
  simp only [hb, hi, hs, hl]
  split
  · exact .inl ⟨_, _, rfl, by omega, by omega, by omega⟩
  · split
    · exact .inl ⟨_, _, rfl, by omega, by omega, by omega⟩
    · split
      · exact .inr (.inl rfl)
      · exact .inr (.inr ⟨_, rfl, by omega, by omega⟩)

/-- A single made a double never is too great. -/
theorem fits_up (x : Nat) : std.fits .f32 .f64 x := by
  show (FloatKind.f32.decode x).isInfinity = true ∨ (FloatKind.f64.decode (FloatKind.f64.encode (FloatKind.f32.decode x))).isInfinity = false
  rcases read_single x with ⟨m, p, h, hm, h1, h2⟩ | h | ⟨t, h, h0, ht⟩
  · right
    obtain ⟨r, hr, hlt⟩ := near_up (x / 2147483648 % 2 == 1) m p hm h1 h2
    rw [h]
    show (Ieee.double.read (Ieee.double.nearest _ m p)).isInfinity = false
    rw [hr]
    exact (read_word_double _ r hlt).1
  · left; rw [h]; rfl
  · right
    rw [h]
    have hb : Ieee.double.binade = 4503599627370496 := by decide
    have hi : Ieee.double.infRung = 2047 * 4503599627370496 := by decide
    have hs : Ieee.double.signWeight = 9223372036854775808 := by decide
    show (Ieee.double.read (Ieee.double.word _ (Ieee.double.infRung + t % Ieee.double.binade))).isInfinity = false
    have e1 : ∀ neg, Ieee.double.word neg (Ieee.double.infRung + t % Ieee.double.binade) % 9223372036854775808 = 2047 * 4503599627370496 + t := by
      intro neg
      unfold Ieee.Format.word
      rw [hi, hb, hs]
      split <;> omega
    unfold Ieee.Format.read
    simp only [hs, e1]
    simp only [hb, hi]
    split
    · rfl
    · split
      · rfl
      · split
        · omega
        · rfl

theorem sign_up (x : Nat) (h : (FloatKind.f32.decode x).isNaN = false) : (FloatKind.f64.decode (std.conv .f32 .f64 x)).isNaN = false ∧ ∃ r, std.conv .f32 .f64 x = Ieee.double.word (x / 2147483648 % 2 == 1) r ∧ r < 9223372036854775808 := by
  have hc : std.conv .f32 .f64 x = FloatKind.f64.encode (FloatKind.f32.decode x) := by
    show (if (FloatKind.f32.decode x).isNaN then nan .f64 else FloatKind.f64.encode (FloatKind.f32.decode x)) = _
    rw [h]; rfl
  refine ⟨by rw [hc]; exact write_num _ _ h, ?_⟩
  rw [hc]
  rcases read_single x with ⟨m, p, e, hm, h1, h2⟩ | e | ⟨t, e, h0, ht⟩
  · obtain ⟨r, hr, hlt⟩ := near_up (x / 2147483648 % 2 == 1) m p hm h1 h2
    rw [e]
    exact ⟨r, hr, by omega⟩
  · rw [e]
    exact ⟨Ieee.double.infRung, rfl, by decide⟩
  · rw [e] at h; cases h
end Go.En
/-
  FACTS OF NUMBERS: two singles are equal and of one sign if and only if their bits are the same. Own work; generic over the program.
-/
namespace Go.En

theorem order_self (d : Ieee.Datum) : d.order d = if d.isNaN then none else some .eq := by
  cases d with
  | number s m p => simp [Ieee.Datum.order, Ieee.Datum.isNaN]
  | infinity s => simp [Ieee.Datum.order, Ieee.Datum.isNaN]
  | nan s t => simp [Ieee.Datum.order, Ieee.Datum.isNaN]
theorem feq_self (k : FloatKind) (x : Nat) : feq k x x = !(k.decode x).isNaN := by
  show (((k.decode x).order (k.decode x)) == some .eq) = _
  rw [order_self]
  cases (k.decode x).isNaN <;> rfl

/-- A rung's magnitude, in units of the last place. -/
def mag (B r : Nat) : Nat := if r < B then r else (B + r % B) * 2 ^ (r / B - 1)

theorem mag_inj {B r q : Nat} (hB : 0 < B) (h : mag B r = mag B q) : r = q := by
  have big : ∀ {r : Nat}, ¬ r < B → B ≤ mag B r := fun {r} hr => by
    unfold mag
    rw [if_neg hr]
    calc B ≤ B + r % B := Nat.le_add_right _ _
      _ = (B + r % B) * 1 := (Nat.mul_one _).symm
      _ ≤ _ := Nat.mul_le_mul_left _ (Nat.two_pow_pos _)
  have two : ∀ {u v e f : Nat}, B ≤ u → u < 2 * B → B ≤ v → v < 2 * B → u * 2 ^ e = v * 2 ^ f → e ≤ f := by
    intro u v e f h1 h2 h3 h4 he
    rcases Nat.lt_or_ge f e with hlt | hge
    · exfalso
      have : u * 2 ^ (e - f) = v := by
        have hp : 2 ^ e = 2 ^ (e - f) * 2 ^ f := by rw [← Nat.pow_add]; congr 1; omega
        rw [hp, ← Nat.mul_assoc] at he
        exact Nat.eq_of_mul_eq_mul_right (Nat.two_pow_pos f) he
      have h5 : 2 ^ 1 ≤ 2 ^ (e - f) := Nat.pow_le_pow_right (by omega) (by omega)
      have h6 : u * 2 ^ 1 ≤ u * 2 ^ (e - f) := Nat.mul_le_mul_left _ h5
      omega
    · exact hge
  by_cases h1 : r < B
  · by_cases h2 : q < B
    · simpa [mag, h1, h2] using h
    · have := big h2
      rw [← h] at this
      simp [mag, h1] at this
      omega
  · by_cases h2 : q < B
    · have := big h1
      rw [h] at this
      simp [mag, h2] at this
      omega
    · unfold mag at h
      rw [if_neg h1, if_neg h2] at h
      have m1 := Nat.mod_lt r hB
      have m2 := Nat.mod_lt q hB
      have e : r / B - 1 = q / B - 1 := Nat.le_antisymm (two (by omega) (by omega) (by omega) (by omega) h) (two (by omega) (by omega) (by omega) (by omega) h.symm)
      rw [e] at h
      have h := Nat.eq_of_mul_eq_mul_right (Nat.two_pow_pos _) h
      have d1 : 1 ≤ r / B := (Nat.le_div_iff_mul_le hB).2 (by omega)
      have d2 : 1 ≤ q / B := (Nat.le_div_iff_mul_le hB).2 (by omega)
      have e1 := Nat.div_add_mod r B
      have e2 := Nat.div_add_mod q B
      have e3 : r / B = q / B := by omega
      rw [← e1, ← e2, e3]
      omega

/-- What a single reads as, to the point. -/
theorem read_rung (x : Nat) : FloatKind.f32.decode x =
    (if x % 2147483648 < 8388608 then .number (x / 2147483648 % 2 == 1) (x % 2147483648) (-149)
    else if x % 2147483648 < 2139095040 then .number (x / 2147483648 % 2 == 1) (8388608 + x % 2147483648 % 8388608) (-149 + ((x % 2147483648 / 8388608 - 1 : Nat) : Int))
    else if x % 2147483648 = 2139095040 then .infinity (x / 2147483648 % 2 == 1) else .nan (x / 2147483648 % 2 == 1) (x % 2147483648 - 2139095040)) := by
  have hb : Ieee.single.binade = 8388608 := by decide
  have hi : Ieee.single.infRung = 2139095040 := by decide
  have hs : Ieee.single.signWeight = 2147483648 := by decide
  have hl : Ieee.single.leastPlace = -149 := by decide
  show Ieee.single.read x = _
  unfold Ieee.Format.read
  simp only [hb, hi, hs, hl]

/-- The magnitude of a number that is no infinity. -/
theorem read_mag (x : Nat) (h : x % 2147483648 < 2139095040) : ∃ (m : Nat) (k : Nat), FloatKind.f32.decode x = .number (x / 2147483648 % 2 == 1) m (-149 + (k : Int)) ∧ m * 2 ^ k = mag 8388608 (x % 2147483648) := by
  rw [read_rung]
  by_cases h1 : x % 2147483648 < 8388608
  · exact ⟨x % 2147483648, 0, by rw [if_pos h1]; rfl, by simp [mag, h1]⟩
  · exact ⟨_, _, by rw [if_neg h1, if_pos h], by simp [mag, h1]⟩

theorem signed_eq {s : Bool} {m n i j k : Nat} (h : Ieee.signed s m i = Ieee.signed s n j) : m * 2 ^ i = n * 2 ^ j := by
  unfold Ieee.signed at h
  rw [Nat.shiftLeft_eq, Nat.shiftLeft_eq] at h
  split at h <;> omega

theorem feq_bits {a b : Nat} (ha : a < 4294967296) (hb : b < 4294967296) (na : (FloatKind.f32.decode a).isNaN = false) (hs : a / 2147483648 = b / 2147483648) (h : feq .f32 a b = true) : a = b := by
  have h : ((FloatKind.f32.decode a).order (FloatKind.f32.decode b) == some .eq) = true := h
  have hda := Nat.div_add_mod a 2147483648
  have hdb := Nat.div_add_mod b 2147483648
  have fin : a % 2147483648 = b % 2147483648 → a = b := fun e => by rw [hs, e] at hda; exact hda.symm.trans hdb
  have lta : a % 2147483648 ≤ 2139095040 := by
    rw [read_rung] at na
    by_cases h1 : a % 2147483648 < 8388608
    · omega
    · rw [if_neg h1] at na
      by_cases h2 : a % 2147483648 < 2139095040
      · omega
      · rw [if_neg h2] at na
        by_cases h3 : a % 2147483648 = 2139095040
        · omega
        · rw [if_neg h3] at na; cases na
  rcases Nat.lt_or_ge (a % 2147483648) 2139095040 with ia | ia
  · obtain ⟨m, k, e1, e2⟩ := read_mag a ia
    rcases Nat.lt_or_ge (b % 2147483648) 2139095040 with ib | ib
    · obtain ⟨n, l, e3, e4⟩ := read_mag b ib
      rw [e1, e3, hs] at h
      simp only [Ieee.Datum.order, beq_iff_eq, Option.some.injEq] at h
      rw [Int.compare_eq_eq] at h
      have h := signed_eq (k := 0) h
      refine fin (mag_inj (B := 8388608) (by decide) ?_)
      rw [← e2, ← e4]
      rcases Nat.le_total k l with hkl | hkl
      · rw [show ((-149 + (k : Int)) - min (-149 + (k : Int)) (-149 + (l : Int))).toNat = 0 by omega, show ((-149 + (l : Int)) - min (-149 + (k : Int)) (-149 + (l : Int))).toNat = l - k by omega] at h
        rw [Nat.pow_zero, Nat.mul_one] at h
        rw [h, Nat.mul_assoc, ← Nat.pow_add, Nat.sub_add_cancel hkl]
      · rw [show ((-149 + (l : Int)) - min (-149 + (k : Int)) (-149 + (l : Int))).toNat = 0 by omega, show ((-149 + (k : Int)) - min (-149 + (k : Int)) (-149 + (l : Int))).toNat = k - l by omega] at h
        rw [Nat.pow_zero, Nat.mul_one] at h
        rw [← h, Nat.mul_assoc, ← Nat.pow_add, Nat.sub_add_cancel hkl]
    · exfalso
      rw [e1, read_rung b, if_neg (by omega), if_neg (by omega)] at h
      split at h
      · simp [Ieee.Datum.order] at h
        split at h <;> cases h
      · simp [Ieee.Datum.order] at h
  · have ea : FloatKind.f32.decode a = .infinity (a / 2147483648 % 2 == 1) := by rw [read_rung, if_neg (by omega), if_neg (by omega), if_pos (by omega)]
    rcases Nat.lt_or_ge (b % 2147483648) 2139095040 with ib | ib
    · exfalso
      obtain ⟨n, l, e3, e4⟩ := read_mag b ib
      rw [ea, e3] at h
      simp [Ieee.Datum.order] at h
      split at h <;> cases h
    · by_cases hb' : b % 2147483648 = 2139095040
      · exact fin (by omega)
      · exfalso
        rw [ea, read_rung b, if_neg (by omega), if_neg (by omega), if_neg hb'] at h
        simp [Ieee.Datum.order] at h
end Go.En
/-
  FACTS OF NUMBERS: the same number. Own work; generic over the program.
-/
namespace Go.En

/-- The bits of a single, all that are no number being one. -/
def fb (x : Nat) : Int := if (FloatKind.f32.decode x).isNaN then 2143289344 else (x : Int)
def sameN (a b : Nat) : Bool := fb a == fb b

theorem signbit_word (neg : Bool) (r : Nat) (h : r < 9223372036854775808) : std.ilt (std.wrap .i64 (std.ofNat (Ieee.double.word neg r))) 0 = neg := by
  have hs : Ieee.double.signWeight = 9223372036854775808 := by decide
  show decide (IntKind.i64.wrap ((Ieee.double.word neg r : Nat) : Int) < 0) = neg
  have hw : ∀ n : Int, IntKind.i64.wrap n = if n % 18446744073709551616 < 9223372036854775808 then n % 18446744073709551616 else n % 18446744073709551616 - 18446744073709551616 := by
    intro n
    simp only [IntKind.wrap, IntKind.bits, IntKind.signed]
    simp
    try omega
  rw [hw]
  unfold Ieee.Format.word
  rw [hs]
  cases neg
  · simp; omega
  · simp only [if_true]
    refine decide_eq_true ?_
    omega

theorem nan_bits {a : Nat} (h : (FloatKind.f32.decode a).isNaN = false) : a ≠ 2143289344 := by
  intro e
  subst e
  revert h
  decide

theorem sameN_nan {a b : Nat} (h : (FloatKind.f32.decode a).isNaN = true ∨ (FloatKind.f32.decode b).isNaN = true) : sameN a b = ((FloatKind.f32.decode a).isNaN && (FloatKind.f32.decode b).isNaN) := by
  unfold sameN fb
  cases ha : (FloatKind.f32.decode a).isNaN <;> cases hb : (FloatKind.f32.decode b).isNaN <;> simp [ha, hb] at h ⊢
  · have := nan_bits ha; omega
  · have := nan_bits hb; omega

theorem sameN_num {a b : Nat} (la : a < 4294967296) (lb : b < 4294967296) (ha : (FloatKind.f32.decode a).isNaN = false) (hb : (FloatKind.f32.decode b).isNaN = false) :
    sameN a b = (feq .f32 a b && (a / 2147483648 % 2 == 1) == (b / 2147483648 % 2 == 1)) := by
  have h1 : sameN a b = (a == b) := by
    unfold sameN fb
    simp only [ha, hb]
    by_cases e : a = b
    · subst e; simp
    · rw [beq_eq_false_iff_ne.2 e]
      simp
      omega
  rw [h1]
  by_cases e : a = b
  · subst e
    rw [feq_self, ha]
    simp
  · rw [beq_eq_false_iff_ne.2 e]
    symm
    rw [Bool.and_eq_false_iff]
    cases hf : feq .f32 a b with
    | false => exact .inl rfl
    | true =>
      right
      cases hs : ((a / 2147483648 % 2 == 1) == (b / 2147483648 % 2 == 1)) with
      | false => rfl
      | true =>
        exfalso
        refine e (feq_bits la lb ha ?_ hf)
        rw [beq_iff_eq] at hs
        have q1 : a / 2147483648 < 2 := by omega
        have q2 : b / 2147483648 < 2 := by omega
        generalize a / 2147483648 = u at *
        generalize b / 2147483648 = v at *
        rcases (by omega : u = 0 ∨ u = 1) with rfl | rfl <;> rcases (by omega : v = 0 ∨ v = 1) with rfl | rfl <;> simp at hs <;> rfl
end Go.En
/-
  FACTS OF LISTS for loops. Own work; generic over the program.
-/
namespace Go.En

def allI (n : Nat) (p : Nat → Bool) : Bool := (List.range n).all p
theorem allI_true {n : Nat} {p : Nat → Bool} (h : ∀ j, j < n → p j = true) : allI n p = true := by
  unfold allI
  rw [List.all_eq_true]
  intro j hj
  exact h j (List.mem_range.1 hj)
theorem allI_false {n i : Nat} {p : Nat → Bool} (hi : i < n) (h : p i = false) : allI n p = false := by
  cases e : allI n p with
  | false => rfl
  | true =>
    unfold allI at e
    rw [List.all_eq_true] at e
    have := e i (List.mem_range.2 hi)
    rw [h] at this
    cases this

/-- Two lists of singles have the same numbers. -/
def sameL (xs ys : List Nat) : Bool := if xs.length = ys.length then allI xs.length fun i => sameN (xs.getD i 0) (ys.getD i 0) else false
abbrev S3 := Nat × Nat × Nat
def same3 (x y : S3) : Bool := sameN x.1 y.1 && (sameN x.2.1 y.2.1 && sameN x.2.2 y.2.2)
def sameL3 (xs ys : List S3) : Bool := if xs.length = ys.length then allI xs.length fun i => same3 (xs.getD i (0, 0, 0)) (ys.getD i (0, 0, 0)) else false

/-- The bits of singles. -/
def B32 (x : Nat) : Prop := x < 4294967296
def BL (xs : List Nat) : Prop := ∀ x ∈ xs, x < 4294967296
def B3 (x : S3) : Prop := x.1 < 4294967296 ∧ x.2.1 < 4294967296 ∧ x.2.2 < 4294967296
def BL3 (xs : List S3) : Prop := ∀ x ∈ xs, B3 x
theorem BL.get {xs : List Nat} (h : BL xs) (i : Nat) : xs.getD i 0 < 4294967296 := by
  rw [List.getD_eq_getElem?_getD]
  cases e : xs[i]? with
  | none => simp
  | some x => exact h x (List.mem_of_getElem? e)
theorem BL3.get {xs : List S3} (h : BL3 xs) (i : Nat) : B3 (xs.getD i (0, 0, 0)) := by
  rw [List.getD_eq_getElem?_getD]
  cases e : xs[i]? with
  | none => simp [B3]
  | some x => exact h x (List.mem_of_getElem? e)

/-- A list half copied. -/
def part {α : Type} (d : α) (xs : List α) (i : Nat) : List α := xs.take i ++ List.replicate (xs.length - i) d
theorem part_all {α : Type} (d : α) (xs : List α) {i : Nat} (h : xs.length ≤ i) : part d xs i = xs := by
  unfold part
  rw [List.take_of_length_le h, Nat.sub_eq_zero_of_le h]
  simp
theorem part_length {α : Type} (d : α) (xs : List α) {i : Nat} (h : i ≤ xs.length) : (part d xs i).length = xs.length := by
  unfold part
  simp
  omega
theorem part_step {α : Type} (d : α) (xs : List α) {i : Nat} (h : i < xs.length) : (part d xs i).set i (xs.getD i d) = part d xs (i + 1) := by
  unfold part
  rw [List.set_append_right _ _ (by simp; omega)]
  rw [show xs.length - i = (xs.length - (i + 1)) + 1 by omega, List.replicate_succ]
  have h1 : i - (xs.take i).length = 0 := by simp; omega
  rw [h1, List.set_cons_zero]
  have h2 : xs.take (i + 1) = xs.take i ++ [xs.getD i d] := by
    rw [List.take_add_one, List.getD_eq_getElem?_getD, List.getElem?_eq_getElem h]
    rfl
  rw [h2, List.append_assoc]
  rfl
end Go.En
/-
  FACTS OF NUMBERS: how two singles stand to each other, by whole numbers. Own work; generic over the program.
-/
namespace Go.En

def bigN : Nat := 2 ^ 200 * 2 ^ 200
theorem cmp_lt {a b : Int} (h : a < b) : compare a b = .lt := by simp [compare, compareOfLessAndEq, h]
theorem cmp_eq (a : Int) : compare a a = .eq := by simp [compare, compareOfLessAndEq]
theorem cmp_gt {a b : Int} (h : b < a) : compare a b = .gt := by
  have h1 : ¬ a < b := by omega
  have h2 : ¬ a = b := by omega
  simp [compare, compareOfLessAndEq, h1, h2]
/-- A single in units of its least place. -/
def v32 (x : Nat) : Int :=
  match FloatKind.f32.decode x with
  | .number s m p => Ieee.signed s m (p + 149).toNat
  | .infinity s => if s then -(bigN : Int) else (bigN : Int)
  | .nan _ _ => 0
def isN (x : Nat) : Bool := (FloatKind.f32.decode x).isNaN

theorem signed_shift (s : Bool) (m a b : Nat) : Ieee.signed s m (a + b) = Ieee.signed s m a * 2 ^ b := by
  unfold Ieee.signed
  simp only [Nat.shiftLeft_eq, Nat.pow_add]
  split
  · rw [Int.neg_mul]
    congr 1
    simp only [Int.natCast_mul, Int.natCast_pow]
    rw [Int.mul_assoc]
    rfl
  · simp only [Int.natCast_mul, Int.natCast_pow]
    rw [Int.mul_assoc]
    rfl
theorem compare_scale (a b : Int) (k : Nat) : compare (a * 2 ^ k) (b * 2 ^ k) = compare a b := by
  have hp : (0 : Int) < 2 ^ k := Int.pow_pos (by decide)
  rcases Int.lt_trichotomy a b with h | h | h
  · have : a * 2 ^ k < b * 2 ^ k := Int.mul_lt_mul_of_pos_right h hp
    rw [cmp_lt h, cmp_lt this]
  · rw [h, cmp_eq, cmp_eq]
  · have : b * 2 ^ k < a * 2 ^ k := Int.mul_lt_mul_of_pos_right h hp
    rw [cmp_gt h, cmp_gt this]
theorem signed_bound (s : Bool) (m : Nat) (p : Int) (hm : m < 16777216) (h1 : -149 ≤ p) (h2 : p ≤ 104) : -(bigN : Int) < Ieee.signed s m (p + 149).toNat ∧ Ieee.signed s m (p + 149).toNat < (bigN : Int) := by
  have h3 : (p + 149).toNat ≤ 253 := by omega
  have h4 : m <<< (p + 149).toNat < bigN := by
    rw [Nat.shiftLeft_eq]
    calc m * 2 ^ (p + 149).toNat ≤ m * 2 ^ 253 := Nat.mul_le_mul_left _ (Nat.pow_le_pow_right (by decide) h3)
      _ < 16777216 * 2 ^ 253 := Nat.mul_lt_mul_of_pos_right hm (Nat.two_pow_pos _)
      _ ≤ bigN := by decide
  have h5 : ((m <<< (p + 149).toNat : Nat) : Int) < (bigN : Int) := Int.ofNat_lt.2 h4
  have h6 : (0 : Int) ≤ ((m <<< (p + 149).toNat : Nat) : Int) := Int.natCast_nonneg _
  unfold Ieee.signed
  generalize ((m <<< (p + 149).toNat : Nat) : Int) = z at *
  split <;> omega
theorem order_v32 (x y : Nat) (hx : isN x = false) (hy : isN y = false) : FloatKind.f32.format.order x y = some (compare (v32 x) (v32 y)) := by
  show (FloatKind.f32.decode x).order (FloatKind.f32.decode y) = _
  unfold isN at hx hy
  unfold v32
  rcases read_single x with ⟨m, p, ex, hm, h1, h2⟩ | ex | ⟨t, ex, _⟩
  · rcases read_single y with ⟨n, q, ey, hn, h3, h4⟩ | ey | ⟨t, ey, _⟩
    · rw [ex, ey]
      simp only [Ieee.Datum.order]
      congr 1
      generalize (x / 2147483648 % 2 == 1) = s
      generalize (y / 2147483648 % 2 == 1) = r
      have e1 : (p + 149).toNat = (p - min p q).toNat + (min p q + 149).toNat := by omega
      have e2 : (q + 149).toNat = (q - min p q).toNat + (min p q + 149).toNat := by omega
      rw [e1, e2, signed_shift, signed_shift, compare_scale]
    · rw [ex, ey]
      simp only [Ieee.Datum.order]
      have := signed_bound (x / 2147483648 % 2 == 1) m p hm h1 h2
      generalize (y / 2147483648 % 2 == 1) = r
      cases r
      · simp only [if_neg (by decide : ¬ false = true), Bool.false_eq_true, if_false]
        rw [cmp_lt this.2]
      · simp only [if_true]
        rw [cmp_gt this.1]
    · rw [ey] at hy; cases hy
  · rcases read_single y with ⟨n, q, ey, hn, h3, h4⟩ | ey | ⟨t, ey, _⟩
    · rw [ex, ey]
      simp only [Ieee.Datum.order]
      have := signed_bound (y / 2147483648 % 2 == 1) n q hn h3 h4
      generalize (x / 2147483648 % 2 == 1) = r
      cases r
      · simp only [Bool.false_eq_true, if_false]
        rw [cmp_gt this.2]
      · simp only [if_true]
        rw [cmp_lt this.1]
    · rw [ex, ey]
      simp only [Ieee.Datum.order]
      generalize (x / 2147483648 % 2 == 1) = r
      generalize (y / 2147483648 % 2 == 1) = s
      cases r <;> cases s <;> decide
    · rw [ey] at hy; cases hy
  · rw [ex] at hx; cases hx
theorem order_nan (x y : Nat) (h : isN x = true ∨ isN y = true) : FloatKind.f32.format.order x y = none := by
  rcases h with h | h
  · exact order_nan_left _ _ h
  · exact order_nan_right _ _ h

theorem flt_v (x y : Nat) : flt .f32 x y = (!isN x && !isN y && decide (v32 x < v32 y)) := by
  unfold flt
  cases hx : isN x
  · cases hy : isN y
    · rw [order_v32 x y hx hy]
      by_cases h : v32 x < v32 y
      · simp [cmp_lt h, h]
      · rcases Int.lt_trichotomy (v32 x) (v32 y) with h' | h' | h'
        · exact absurd h' h
        · simp [h', cmp_eq]
        · simp [cmp_gt h', h] <;> omega
    · rw [order_nan x y (.inr hy)]; rfl
  · rw [order_nan x y (.inl hx)]; rfl
theorem fgt_v (x y : Nat) : fgt .f32 x y = (!isN x && !isN y && decide (v32 y < v32 x)) := by
  unfold fgt
  cases hx : isN x
  · cases hy : isN y
    · rw [order_v32 x y hx hy]
      rcases Int.lt_trichotomy (v32 x) (v32 y) with h' | h' | h'
      · simp [cmp_lt h'] <;> omega
      · simp [h', cmp_eq]
      · simp [cmp_gt h', h'] <;> omega
    · rw [order_nan x y (.inr hy)]; rfl
  · rw [order_nan x y (.inl hx)]; rfl
theorem fle_v (x y : Nat) : fle .f32 x y = (!isN x && !isN y && decide (v32 x ≤ v32 y)) := by
  unfold fle
  cases hx : isN x
  · cases hy : isN y
    · rw [order_v32 x y hx hy]
      rcases Int.lt_trichotomy (v32 x) (v32 y) with h' | h' | h'
      · simp [cmp_lt h'] <;> omega
      · simp [h', cmp_eq]
      · simp [cmp_gt h', h'] <;> omega
    · rw [order_nan x y (.inr hy)]; rfl
  · rw [order_nan x y (.inl hx)]; rfl
theorem fge_v (x y : Nat) : fge .f32 x y = (!isN x && !isN y && decide (v32 y ≤ v32 x)) := by
  unfold fge
  cases hx : isN x
  · cases hy : isN y
    · rw [order_v32 x y hx hy]
      rcases Int.lt_trichotomy (v32 x) (v32 y) with h' | h' | h'
      · simp [cmp_lt h'] <;> omega
      · simp [h', cmp_eq]
      · simp [cmp_gt h'] <;> omega
    · rw [order_nan x y (.inr hy)]; rfl
  · rw [order_nan x y (.inl hx)]; rfl
theorem feq_v (x y : Nat) : feq .f32 x y = (!isN x && !isN y && decide (v32 x = v32 y)) := by
  unfold feq
  cases hx : isN x
  · cases hy : isN y
    · rw [order_v32 x y hx hy]
      rcases Int.lt_trichotomy (v32 x) (v32 y) with h' | h' | h'
      · simp [cmp_lt h'] <;> omega
      · simp [h', cmp_eq]
      · simp [cmp_gt h'] <;> omega
    · rw [order_nan x y (.inr hy)]; rfl
  · rw [order_nan x y (.inl hx)]; rfl
theorem fge_fle (x y : Nat) : fge .f32 x y = fle .f32 y x := by
  rw [fge_v, fle_v, Bool.and_comm (!isN x)]
theorem fgt_flt (x y : Nat) : fgt .f32 x y = flt .f32 y x := by
  rw [fgt_v, flt_v, Bool.and_comm (!isN x)]
end Go.En
/-
  A CONTRACT USED AT ARGUMENTS THAT TELL MORE THAN IT ASKS: a place within more cells than it asks for, a slice whose capacity is known. Own work; generic over the program.
-/
namespace Go.En

/-- What is forgotten of an argument: nothing; all but n cells from a place on; a slice's capacity. -/
inductive Wk where
  | id
  | ptr (n : Nat)
  | sl

mutual
/-- Capacities forgotten. -/
def loose : V → V
  | .sl c _ => .sl c false
  | .nils k => .sl (empty k) false
  | .sp cs o => .sp (looseL cs) o
  | .agg cs => .agg (looseL cs)
  | .tup cs => .tup (looseL cs)
  | v => v
def looseL : List V → List V
  | [] => []
  | v :: r => loose v :: looseL r
end
def wk : Wk → V → V
  | .ptr n, .sp cs o => .sp (takeN n (dropN o cs)) 0
  | .sl, v => loose v
  | _, v => v
def wkL : List Wk → List V → List V
  | k :: ks, v :: r => wk k v :: wkL ks r
  | _, l => l

theorem RdC_drop {g : Gh} {b off : Nat} : ∀ (o : Nat) {cs : List V} {j : Nat}, RdC g b off cs j → RdC g b off (dropN o cs) (j + o)
  | 0, cs, j, h => h
  | o + 1, [], j, h => trivial
  | o + 1, v :: r, j, h => by
    have := RdC_drop o h.2
    rwa [show j + 1 + o = j + (o + 1) by omega] at this
theorem RdC_take {g : Gh} {b off : Nat} : ∀ (n : Nat) {cs : List V} {j : Nat}, RdC g b off cs j → RdC g b off (takeN n cs) j
  | 0, cs, j, h => by cases cs <;> trivial
  | n + 1, [], j, h => trivial
  | n + 1, v :: r, j, h => ⟨h.1, RdC_take n h.2⟩
theorem RdC_shift {g : Gh} {b off o : Nat} : ∀ {cs : List V} {j : Nat}, RdC g b off cs (j + o) → RdC g b (off + o) cs j
  | [], j, h => trivial
  | v :: r, j, h => by
    refine ⟨?_, RdC_shift ?_⟩
    · have := h.1
      rwa [show off + (j + o) = off + o + j by omega] at this
    · have := h.2
      rwa [show j + o + 1 = j + 1 + o by omega] at this
theorem RdSl_loose {ws : Ws} {c : Cont} {t : Bool} {x : Value} (h : RdSl ws c t x) : RdSl ws c false x := by
  obtain ⟨a, cap, hx, hc, _, hr⟩ := h
  exact ⟨a, cap, hx, hc, (fun e => nomatch e), hr⟩
mutual
theorem Rd_loose {g : Gh} (v : V) (x : Value) (h : Rd g v x) : Rd g (loose v) x := by
  cases v with
  | sl c t => exact RdSl_loose h
  | nils k =>
    have h : x = .slice none 0 0 := h
    have h0 : (empty k).len = 0 := by cases k <;> rfl
    exact ⟨none, 0, by rw [h0]; exact h, by omega, (fun e => nomatch e), .inl h0⟩
  | sp cs o =>
    obtain ⟨b, off, hx, hc⟩ := h
    exact ⟨b, off, hx, RdC_loose b off cs 0 hc⟩
  | agg cs =>
    obtain ⟨vs, hx, hl⟩ := h
    exact ⟨vs, hx, RdL_loose cs _ hl⟩
  | tup cs =>
    obtain ⟨vs, hx, hl⟩ := h
    exact ⟨vs, hx, RdL_loose cs _ hl⟩
  | _ => exact h
theorem RdL_loose {g : Gh} (l : List V) (xs : List Value) (h : RdL g l xs) : RdL g (looseL l) xs := by
  cases l with
  | nil => cases xs with
    | nil => trivial
    | cons => exact h.elim
  | cons v r => cases xs with
    | nil => exact h.elim
    | cons x xs => exact ⟨Rd_loose v x h.1, RdL_loose r xs h.2⟩
theorem RdC_loose {g : Gh} (b off : Nat) (l : List V) (j : Nat) (h : RdC g b off l j) : RdC g b off (looseL l) j := by
  cases l with
  | nil => trivial
  | cons v r =>
    obtain ⟨⟨u, hu, ho, hr⟩, hc⟩ := h
    exact ⟨⟨u, hu, ho, Rd_loose v u hr⟩, RdC_loose b off r (j + 1) hc⟩
end
theorem Rd_wk {g : Gh} (k : Wk) (v : V) (x : Value) (h : Rd g v x) : Rd g (wk k v) x := by
  cases k with
  | id => cases v <;> exact h
  | sl => exact Rd_loose v x h
  | ptr n =>
    cases v with
    | sp cs o =>
      obtain ⟨b, off, hx, hc⟩ := h
      refine ⟨b, off + o, by rw [Nat.add_zero]; exact hx, ?_⟩
      have h1 := RdC_take n (RdC_drop o hc)
      rw [show (0 : Nat) + o = 0 + o from rfl] at h1
      exact RdC_shift h1
    | _ => exact h
theorem RdL_wk {g : Gh} : ∀ (ks : List Wk) (l : List V) (xs : List Value), RdL g l xs → RdL g (wkL ks l) xs
  | [], l, xs, h => by cases l <;> exact h
  | k :: ks, [], xs, h => h
  | k :: ks, v :: r, [], h => h.elim
  | k :: ks, v :: r, x :: xs, h => ⟨Rd_wk k v x h.1, RdL_wk ks r xs h.2⟩

theorem FnOK.weaken {P : PG} {f : Nat} {args : List V} {own : List OB} {Q : V → List OB → Prop} (ks : List Wk) (h : FnOK P f (wkL ks args) own Q) : FnOK P f args own Q :=
  ⟨fun g w vs hgl hr hm => h.run g w vs hgl (RdL_wk ks args _ hr) hm⟩
theorem Call.weaken {P : PG} {f : Nat} {args : List V} {r : V} {rows : List OB} (ks : List Wk) (h : Call P f (wkL ks args) r rows) : Call P f args r rows :=
  ⟨h.ok.weaken ks⟩
end Go.En
/-
  SMALL FACTS that leaves of walks want: what the plain operations are, ranges, indexes. Own work; generic over the program.
-/
namespace Go.En

theorem std_fge : std.fge = fge := rfl
theorem std_fle : std.fle = fle := rfl
theorem std_fgt : std.fgt = fgt := rfl
theorem std_flt : std.flt = flt := rfl
theorem std_feq : std.feq = feq := rfl
theorem std_fadd : std.fadd = fadd := rfl
theorem std_fsub : std.fsub = fsub := rfl
theorem std_fmul : std.fmul = fmul := rfl
theorem std_fdiv : std.fdiv = fdiv := rfl
theorem std_fneg : std.fneg = fneg := rfl
theorem std_fne (k : FloatKind) (x y : Nat) : std.fne k x y = !feq k x y := rfl
theorem std_cn : std.cn = cn := rfl
theorem std_ilt (a b : Int) : std.ilt a b = decide (a < b) := rfl
theorem std_ile (a b : Int) : std.ile a b = decide (a ≤ b) := rfl
theorem std_ieq (a b : Int) : std.ieq a b = (a == b) := rfl
theorem std_ine (a b : Int) : std.ine a b = (a != b) := rfl
theorem std_beq (a b : Bool) : std.beq a b = (a == b) := rfl
theorem std_bne (a b : Bool) : std.bne a b = (a != b) := rfl
theorem std_add (a b : Int) : std.add a b = a + b := rfl
theorem std_sub (a b : Int) : std.sub a b = a - b := rfl
theorem std_mul (a b : Int) : std.mul a b = a * b := rfl
theorem std_quo (a b : Int) : std.quo a b = a.tdiv b := rfl
theorem std_rem (a b : Int) : std.rem a b = a.tmod b := rfl
theorem std_neg (a : Int) : std.neg a = 0 - a := rfl
theorem std_len {α : Type} (l : List α) : std.len l = (l.length : Int) := rfl
theorem std_get {α : Type} (d : α) (l : List α) (i : Int) : std.get d l i = l.getD i.toNat d := rfl
theorem std_set {α : Type} (l : List α) (i : Int) (x : α) : std.set l i x = l.set i.toNat x := rfl
theorem std_app {α : Type} (a b : List α) : std.app a b = a ++ b := rfl
theorem std_rep {α : Type} (n : Int) (x : α) : std.rep n x = List.replicate n.toNat x := rfl
theorem std_cut {α : Type} (l : List α) (a b : Int) : std.cut l a b = (l.take b.toNat).drop a.toNat := rfl
theorem std_ofNat (n : Nat) : std.ofNat n = (n : Int) := rfl
theorem std_slen (s : ByteArray) : std.slen s = (s.size : Int) := rfl
theorem std_scat (a b : ByteArray) : std.scat a b = a ++ b := rfl
theorem std_nz (n : Int) : std.nz n = (n ≠ 0) := rfl
theorem std_idx (i n : Int) : std.idx i n = (0 ≤ i ∧ i < n) := rfl
theorem std_sub3 (l h n : Int) : std.sub3 l h n = (0 ≤ l ∧ l ≤ h ∧ h ≤ n) := rfl
theorem std_small (n : Int) : std.small n = (0 ≤ n ∧ n ≤ 1099511627776) := rfl
theorem std_rng (n : Int) : std.rng .i64 n = (-9223372036854775808 ≤ n ∧ n ≤ 9223372036854775807) := by
  show (IntKind.i64.min ≤ n ∧ n ≤ IntKind.i64.max) = _
  have e1 : IntKind.i64.min = -9223372036854775808 := by decide
  have e2 : IntKind.i64.max = 9223372036854775807 := by decide
  rw [e1, e2]
theorem ofNat_toNat (n : Nat) : (Int.ofNat n).toNat = n := rfl
theorem getD_nat {α : Type} (d : α) (l : List α) (i : Nat) : std.get d l (Int.ofNat i) = l.getD i d := rfl
theorem i64min : IntKind.i64.min = -9223372036854775808 := by decide
theorem i64max : IntKind.i64.max = 9223372036854775807 := by decide
theorem toNat_sub1 (n : Nat) : ((n : Int) - 1).toNat = n - 1 := by omega
theorem natC (n : Nat) : Int.ofNat n = (n : Int) := rfl

theorem cnl_0 : cn .f32 0 = 0 := by decide
theorem cnl_981668463 : cn .f32 981668463 = 981668463 := by decide
theorem cnl_1008981770 : cn .f32 1008981770 = 1008981770 := by decide
theorem cnl_1015021568 : cn .f32 1015021568 = 1015021568 := by decide
theorem cnl_1048508891 : cn .f32 1048508891 = 1048508891 := by decide
theorem cnl_1056964608 : cn .f32 1056964608 = 1056964608 := by decide
theorem cnl_1065353216 : cn .f32 1065353216 = 1065353216 := by decide
theorem cnl_1073741824 : cn .f32 1073741824 = 1073741824 := by decide
theorem cnl_1078530011 : cn .f32 1078530011 = 1078530011 := by decide
theorem cnl_1082130432 : cn .f32 1082130432 = 1082130432 := by decide
theorem cnl_1086918619 : cn .f32 1086918619 = 1086918619 := by decide
theorem cnl_1090519040 : cn .f32 1090519040 = 1090519040 := by decide
theorem cnl_1092616192 : cn .f32 1092616192 = 1092616192 := by decide
theorem cnl_1140850688 : cn .f32 1140850688 = 1140850688 := by decide
theorem cnl_1148846080 : cn .f32 1148846080 = 1148846080 := by decide
theorem cnl_1174011904 : cn .f32 1174011904 = 1174011904 := by decide
theorem cnl_1182400512 : cn .f32 1182400512 = 1182400512 := by decide
theorem cnl_1199570944 : cn .f32 1199570944 = 1199570944 := by decide
theorem cnl_1203982336 : cn .f32 1203982336 = 1203982336 := by decide
theorem cnl_2147483648 : cn .f32 2147483648 = 2147483648 := by decide
theorem cnl_3204448256 : cn .f32 3204448256 = 3204448256 := by decide
theorem cnl_3351465984 : cn .f32 3351465984 = 3351465984 := by decide

/-- What is known of a list at each place. -/
theorem allI_iff {n : Nat} {p : Nat → Bool} : allI n p = true ↔ ∀ j, j < n → p j = true := by
  refine ⟨fun h j hj => ?_, allI_true⟩
  cases hp : p j
  · rw [allI_false hj hp] at h; cases h
  · rfl

/-- The first place of a list at which p holds, or -1. -/
def idxF (p : Nat → Bool) (xs : List Nat) : Int := if xs.findIdx p < xs.length then (xs.findIdx p : Int) else -1
theorem getD_get {xs : List Nat} {i : Nat} (h : i < xs.length) (d : Nat) : xs.getD i d = xs[i] := by
  rw [List.getD_eq_getElem?_getD, List.getElem?_eq_getElem h]; rfl
theorem idxF_at {p : Nat → Bool} {xs : List Nat} {i : Nat} (hi : i < xs.length) (hp : p (xs.getD i 0) = true) (hn : ∀ j, j < i → p (xs.getD j 0) = false) : idxF p xs = (i : Int) := by
  have : xs.findIdx p = i := by
    refine (List.findIdx_eq hi).2 ⟨by rw [← getD_get hi 0]; exact hp, fun j hj => ?_⟩
    have := hn j hj
    rwa [getD_get (by omega)] at this
  unfold idxF
  rw [this, if_pos hi]
theorem idxF_none {p : Nat → Bool} {xs : List Nat} (hn : ∀ j, j < xs.length → p (xs.getD j 0) = false) : idxF p xs = -1 := by
  have : xs.findIdx p = xs.length := by
    refine List.findIdx_eq_length.2 fun x hx => ?_
    obtain ⟨j, hj, rfl⟩ := List.mem_iff_getElem.1 hx
    have := hn j hj
    rwa [getD_get hj] at this
  unfold idxF
  rw [this, if_neg (by omega)]
theorem idxF_ge {p : Nat → Bool} {xs : List Nat} : decide (0 ≤ idxF p xs) = xs.any p := by
  unfold idxF
  by_cases h : xs.findIdx p < xs.length
  · rw [if_pos h]
    have := List.findIdx_lt_length.1 h
    obtain ⟨x, hx, hp⟩ := this
    rw [List.any_eq_true.2 ⟨x, hx, hp⟩]
    simp
  · rw [if_neg h]
    cases ha : xs.any p
    · rfl
    · obtain ⟨x, hx, hp⟩ := List.any_eq_true.1 ha
      exact absurd (List.findIdx_lt_length.2 ⟨x, hx, hp⟩) h
theorem any_allI (p : Nat → Bool) (xs : List Nat) : (!xs.any p) = allI xs.length fun i => !p (xs.getD i 0) := by
  cases ha : xs.any p
  · refine (allI_true fun j hj => ?_).symm
    have := List.any_eq_false.1 ha xs[j] (List.getElem_mem hj)
    rw [getD_get hj]
    simpa using this
  · obtain ⟨x, hx, hp⟩ := List.any_eq_true.1 ha
    obtain ⟨j, hj, rfl⟩ := List.mem_iff_getElem.1 hx
    exact (allI_false hj (by rw [getD_get hj, hp]; rfl)).symm
end Go.En
/-
  HEXADECIMAL DIGITS, plain facts. Own work; generic over the program.
-/
namespace Go.En

/-- A digit's letter. -/
def dig (d : Nat) : Int := if d < 10 then 48 + (d : Int) else 87 + (d : Int)
/-- The last k digits. -/
def hexD (n k : Nat) : List Int := (List.range k).reverse.map fun j => dig (n / 16 ^ j % 16)
def hex8 (n : Nat) : ByteArray := strOfNums (hexD n 8)
def fbN (x : Nat) : Nat := (fb x).toNat
theorem fbN_eq {x : Nat} (h : x < 4294967296) : fb x = Int.ofNat (fbN x) := by
  unfold fbN fb
  split <;> rfl
theorem fbN_lt {x : Nat} (h : x < 4294967296) : fbN x < 4294967296 := by
  unfold fbN fb
  split
  · decide
  · show ((x : Int)).toNat < _
    simpa using h

theorem hexD_succ (n k : Nat) : hexD n (k + 1) = dig (n / 16 ^ k % 16) :: hexD n k := by
  simp [hexD, List.range_succ]
theorem hexD_length (n k : Nat) : (hexD n k).length = k := by simp [hexD]

/-- The leading digits, r of eight. -/
def accH (n : Nat) (r : Nat) : List Int := (List.range r).map fun q => dig (n / 16 ^ (7 - q) % 16)
theorem accH_succ (n r : Nat) : accH n (r + 1) = accH n r ++ [dig (n / 16 ^ (7 - r) % 16)] := by simp [accH, List.range_succ]
theorem accH_length (n r : Nat) : (accH n r).length = r := by simp [accH]
theorem accH_all (n : Nat) : accH n 8 = hexD n 8 := by simp [accH, hexD, List.range, List.range.loop]

theorem wrap_u64 {n : Nat} (h : n < 18446744073709551616) : std.wrap .u64 (Int.ofNat n) = Int.ofNat n := wrap_in .u64 _ (by simp [IntKind.min, IntKind.max, IntKind.signed, IntKind.bits]; omega)
theorem wrap_i64 {n : Nat} (h : n < 9223372036854775808) : std.wrap .i64 (Int.ofNat n) = Int.ofNat n := wrap_in .i64 _ (by simp [IntKind.min, IntKind.max, IntKind.signed, IntKind.bits]; omega)
theorem shr_nat (k : IntKind) (a b : Nat) : std.shr (Int.ofNat a) (Int.ofNat b) = Int.ofNat (a / 2 ^ b) := by
  show (Int.ofNat a).fdiv (2 ^ b) = _
  rw [Int.fdiv_eq_ediv_of_nonneg _ (Int.pow_nonneg (by decide))]
  show (a : Int) / (2 ^ b : Int) = ((a / 2 ^ b : Nat) : Int)
  simp
theorem and15 (a : Nat) (h : a < 18446744073709551616) : a &&& 15 = a % 16 := Nat.and_two_pow_sub_one_eq_mod a 4
theorem bv_and (a : Nat) (h : a < 18446744073709551616) : (BitVec.ofInt 64 (Int.ofNat a) &&& BitVec.ofInt 64 15).toNat = a % 16 := by
  have e : BitVec.ofInt 64 (Int.ofNat a) = BitVec.ofNat 64 a := rfl
  have e2 : BitVec.ofInt 64 15 = BitVec.ofNat 64 15 := rfl
  rw [e, e2, BitVec.toNat_and, BitVec.toNat_ofNat, BitVec.toNat_ofNat, Nat.mod_eq_of_lt (by omega), Nat.mod_eq_of_lt (by decide), and15 a h]
theorem band_i64 (a : Nat) (h : a < 9223372036854775808) : std.band .i64 (Int.ofNat a) 15 = Int.ofNat (a % 16) := by
  show IntKind.i64.wrap ((BitVec.ofInt 64 (Int.ofNat a) &&& BitVec.ofInt 64 15).toNat : Int) = _
  rw [bv_and a (by omega)]
  exact wrap_i64 (by omega)
theorem band_u64 (a : Nat) (h : a < 18446744073709551616) : std.band .u64 (Int.ofNat a) 15 = Int.ofNat (a % 16) := by
  show IntKind.u64.wrap ((BitVec.ofInt 64 (Int.ofNat a) &&& BitVec.ofInt 64 15).toNat : Int) = _
  rw [bv_and a h]
  exact wrap_u64 (by omega)
/-- The number of digits, less one. -/
def kOf (n : Nat) : Nat := n.log2 / 4
theorem kOf_lt {n k : Nat} (h : k < kOf n) : 16 ≤ n / 16 ^ k := by
  unfold kOf at h
  have h1 : 4 * (k + 1) ≤ n.log2 := by omega
  have hn : n ≠ 0 := fun e => by subst e; simp at h1
  have h2 := (Nat.le_log2 hn).1 h1
  rw [Nat.pow_mul] at h2
  exact (Nat.le_div_iff_mul_le (Nat.pow_pos (by decide))).2 (by rw [Nat.mul_comm, ← Nat.pow_succ]; exact h2)
theorem kOf_top (n : Nat) : n / 16 ^ kOf n < 16 := by
  unfold kOf
  refine Nat.div_lt_of_lt_mul ?_
  rw [← Nat.pow_succ]
  refine Nat.lt_of_lt_of_le (Nat.lt_log2_self (n := n)) ?_
  show 2 ^ (n.log2 + 1) ≤ (2 ^ 4) ^ (n.log2 / 4 + 1)
  rw [← Nat.pow_mul]
  exact Nat.pow_le_pow_right (by decide) (by omega)
theorem kOf_le {n : Nat} (h : n < 4294967296) : kOf n ≤ 7 := by
  unfold kOf
  by_cases hn : n = 0
  · subst hn; decide
  · have := (Nat.log2_lt hn).2 (show n < 2 ^ 32 from h)
    omega
theorem hexD_pad (n k j : Nat) (h : n < 16 ^ k) : hexD n (k + j) = List.replicate j 48 ++ hexD n k := by
  induction j with
  | zero => rfl
  | succ j ih =>
    rw [show k + (j + 1) = (k + j) + 1 by omega, hexD_succ, ih, List.replicate_succ]
    have : n / 16 ^ (k + j) = 0 := Nat.div_eq_of_lt (Nat.lt_of_lt_of_le h (Nat.pow_le_pow_right (by decide) (by omega)))
    rw [this]
    rfl
theorem lt_kOf (n : Nat) : n < 16 ^ (kOf n + 1) := by
  have := kOf_top n
  have h := (Nat.div_lt_iff_lt_mul (Nat.pow_pos (n := kOf n) (show 0 < 16 by decide))).1 this
  rw [Nat.pow_succ, Nat.mul_comm]
  exact h
/-- The array of letters, k of them laid from its end on. -/
def arrF (n : Nat) : Nat → List Int
  | 0 => List.replicate 65 0
  | k + 1 => (arrF n k).set (64 - k) (dig (n / 16 ^ k % 16))
theorem arrF_length (n : Nat) : ∀ k, (arrF n k).length = 65
  | 0 => by simp [arrF]
  | k + 1 => by simp [arrF, arrF_length n k]
theorem arrF_drop (n : Nat) : ∀ k, k ≤ 65 → (arrF n k).drop (65 - k) = hexD n k
  | 0, _ => by simp [arrF, hexD]
  | k + 1, h => by
    have ih := arrF_drop n k (by omega)
    have hlt : 64 - k < (arrF n k).length := by rw [arrF_length]; omega
    rw [arrF, hexD_succ, ← ih, show 65 - (k + 1) = 64 - k by omega, List.drop_eq_getElem_cons (by simpa using hlt), List.getElem_set_self, List.drop_set]
    rw [if_pos (by omega)]
    congr 2
    omega
end Go.En
