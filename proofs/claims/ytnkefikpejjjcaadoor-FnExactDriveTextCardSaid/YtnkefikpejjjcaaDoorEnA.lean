/-
  FLOATS UP TO THE BITS OF A NOT-A-NUMBER: each operation of the model, told on canonical bits. Own work; generic over the program.
-/
import Derived.Laws.FloatArith
import Derived.WalkKit
set_option linter.unusedVariables false
namespace Go.En

/-- The canonical not-a-number of a kind. -/
def nan : FloatKind → Nat
  | .f32 => 2143289344
  | .f64 => 9221120237041090560

/-- Bits, all not-a-numbers made one. -/
def cn (k : FloatKind) (b : Nat) : Nat := if (k.decode b).isNaN then nan k else b

theorem nan_isNaN (k : FloatKind) : (k.decode (nan k)).isNaN = true := by cases k <;> decide

theorem cn_isNaN (k : FloatKind) (b : Nat) : (k.decode (cn k b)).isNaN = (k.decode b).isNaN := by
  unfold cn; split
  · rename_i h; rw [h, nan_isNaN]
  · rfl

theorem cn_of_not {k : FloatKind} {b : Nat} (h : (k.decode b).isNaN = false) : cn k b = b := by simp [cn, h]
theorem cn_of_nan {k : FloatKind} {b : Nat} (h : (k.decode b).isNaN = true) : cn k b = nan k := by simp [cn, h]
theorem cn_cn (k : FloatKind) (b : Nat) : cn k (cn k b) = cn k b := by
  by_cases h : (k.decode b).isNaN = true
  · rw [cn_of_nan h, cn_of_nan (nan_isNaN k)]
  · have h : (k.decode b).isNaN = false := by simpa using h
    rw [cn_of_not h, cn_of_not h]

/-- What a binary operation of the data does where one of both is a not-a-number, and what it gives. -/
structure Nanny (f : Ieee.Datum → Ieee.Datum → Option Ieee.Datum) : Prop where
  left : ∀ x y, x.isNaN = true → f x y = none
  right : ∀ x y, y.isNaN = true → f x y = none
  out : ∀ x y z, f x y = some z → z.isNaN = false

theorem sum_nanny : Nanny Ieee.Datum.sum := by
  refine ⟨fun x y h => ?_, fun x y h => ?_, fun x y z h => ?_⟩
  · cases x <;> cases y <;> simp_all [Ieee.Datum.isNaN, Ieee.Datum.sum]
  · cases x <;> cases y <;> simp_all [Ieee.Datum.isNaN, Ieee.Datum.sum]
  · cases x <;> cases y <;> simp only [Ieee.Datum.sum] at h <;> first | (cases h; rfl) | (split at h <;> cases h; rfl) | cases h

theorem diff_nanny : Nanny (fun x y => x.sum y.opposite) := by
  have ho : ∀ y : Ieee.Datum, y.opposite.isNaN = y.isNaN := fun y => by cases y <;> rfl
  exact ⟨fun x y h => sum_nanny.left _ _ h, fun x y h => sum_nanny.right _ _ (by rw [ho, h]), fun x y z h => sum_nanny.out _ _ _ h⟩

theorem product_nanny : Nanny Ieee.Datum.product := by
  refine ⟨fun x y h => ?_, fun x y h => ?_, fun x y z h => ?_⟩
  · cases x <;> cases y <;> simp_all [Ieee.Datum.isNaN, Ieee.Datum.product]
  · cases x <;> cases y <;> simp_all [Ieee.Datum.isNaN, Ieee.Datum.product]
  · cases x <;> cases y <;> simp only [Ieee.Datum.product] at h <;> first | (cases h; rfl) | (split at h <;> cases h; rfl) | cases h

theorem quotient_nanny (d : Nat) : Nanny (Ieee.Datum.quotient d) := by
  refine ⟨fun x y h => ?_, fun x y h => ?_, fun x y z h => ?_⟩
  · cases x <;> cases y <;> simp_all [Ieee.Datum.isNaN, Ieee.Datum.quotient]
  · cases x <;> cases y <;> simp_all [Ieee.Datum.isNaN, Ieee.Datum.quotient]
  · cases x <;> cases y <;> simp only [Ieee.Datum.quotient] at h <;> first | (cases h; rfl) | (split at h <;> (try split at h) <;> cases h <;> rfl) | cases h

theorem order_nan_left (x y : Ieee.Datum) (h : x.isNaN = true) : x.order y = none := by
  cases x <;> cases y <;> simp_all [Ieee.Datum.isNaN, Ieee.Datum.order]
theorem order_nan_right (x y : Ieee.Datum) (h : y.isNaN = true) : x.order y = none := by
  cases x <;> cases y <;> simp_all [Ieee.Datum.isNaN, Ieee.Datum.order]

/-- A word of a rung up to infinity's reads as no not-a-number. -/
theorem read_word_num (f : Ieee.Format) (neg : Bool) (r : Nat) (h : r ≤ f.infRung) : (f.read (f.word neg r)).isNaN = false := by
  have hw : f.infRung < f.signWeight := f.infRung_lt
  have hs : 0 < f.signWeight := Nat.two_pow_pos _
  have hmod : f.word neg r % f.signWeight = r := by
    unfold Ieee.Format.word
    split
    · rw [Nat.add_mod_left, Nat.mod_eq_of_lt (by omega)]
    · exact Nat.mod_eq_of_lt (by omega)
  unfold Ieee.Format.read
  simp only [hmod]
  split
  · rfl
  · split
    · rfl
    · have : r = f.infRung := by omega
      simp [this, Ieee.Datum.isNaN]

theorem nearest_num (f : Ieee.Format) (neg : Bool) (m : Nat) (p : Int) : (f.read (f.nearest neg m p)).isNaN = false := by
  unfold Ieee.Format.nearest
  dsimp only
  split
  · exact read_word_num f neg 0 (Nat.zero_le _)
  · exact read_word_num f neg _ (Nat.min_le_right ..)

theorem write_num (f : Ieee.Format) (d : Ieee.Datum) (h : d.isNaN = false) : (f.read (f.write d)).isNaN = false := by
  cases d with
  | number s m e => exact nearest_num f s m e
  | infinity s => exact read_word_num f s _ (Nat.le_refl _)
  | nan s t => simp [Ieee.Datum.isNaN] at h

/-- A binary operation on bits, told on canonical bits. -/
def bop (k : FloatKind) (f : Ieee.Datum → Ieee.Datum → Option Ieee.Datum) (x y : Nat) : Nat := (((f (k.decode x) (k.decode y)).map k.format.write)).getD (nan k)

theorem bop_cn (k : FloatKind) {f : Ieee.Datum → Ieee.Datum → Option Ieee.Datum} (hf : Nanny f) (x y : Nat) :
    (f (k.decode (cn k x)) (k.decode (cn k y))) = f (k.decode x) (k.decode y) := by
  by_cases hx : (k.decode x).isNaN = true
  · rw [hf.left _ _ hx, hf.left _ _ (by rw [cn_isNaN, hx])]
  · have hx : (k.decode x).isNaN = false := by simpa using hx
    rw [cn_of_not hx]
    by_cases hy : (k.decode y).isNaN = true
    · rw [hf.right _ _ hy, hf.right _ _ (by rw [cn_isNaN, hy])]
    · rw [cn_of_not (by simpa using hy)]

theorem bop_some {k : FloatKind} {f : Ieee.Datum → Ieee.Datum → Option Ieee.Datum} (hf : Nanny f) {x y r : Nat} (h : (f (k.decode x) (k.decode y)).map k.format.write = some r) :
    cn k r = bop k f (cn k x) (cn k y) := by
  unfold bop
  rw [bop_cn k hf, h, Option.getD_some]
  cases hz : f (k.decode x) (k.decode y) with
  | none => rw [hz] at h; cases h
  | some z =>
    rw [hz] at h
    cases h
    exact cn_of_not (write_num k.format z (hf.out _ _ _ hz))

theorem bop_none {k : FloatKind} {f : Ieee.Datum → Ieee.Datum → Option Ieee.Datum} (hf : Nanny f) {x y : Nat} (h : (f (k.decode x) (k.decode y)).map k.format.write = none) :
    bop k f (cn k x) (cn k y) = nan k := by
  unfold bop
  rw [bop_cn k hf, h, Option.getD_none]

/-- The four operations on canonical bits. -/
def fadd (k : FloatKind) (x y : Nat) : Nat := bop k Ieee.Datum.sum x y
def fsub (k : FloatKind) (x y : Nat) : Nat := bop k (fun x y => x.sum y.opposite) x y
def fmul (k : FloatKind) (x y : Nat) : Nat := bop k Ieee.Datum.product x y
def fdiv (k : FloatKind) (x y : Nat) : Nat := bop k (Ieee.Datum.quotient (k.format.fractionBits + 2)) x y
def feq (k : FloatKind) (x y : Nat) : Bool := k.format.order x y == some .eq
def flt (k : FloatKind) (x y : Nat) : Bool := k.format.order x y == some .lt
def fle (k : FloatKind) (x y : Nat) : Bool := k.format.order x y == some .lt || k.format.order x y == some .eq
def fgt (k : FloatKind) (x y : Nat) : Bool := k.format.order x y == some .gt
def fge (k : FloatKind) (x y : Nat) : Bool := k.format.order x y == some .gt || k.format.order x y == some .eq

theorem order_cn (k : FloatKind) (x y : Nat) : k.format.order (cn k x) (cn k y) = k.format.order x y := by
  show (k.decode (cn k x)).order (k.decode (cn k y)) = (k.decode x).order (k.decode y)
  by_cases hx : (k.decode x).isNaN = true
  · rw [order_nan_left _ _ hx, order_nan_left _ _ (by rw [cn_isNaN, hx])]
  · have hx : (k.decode x).isNaN = false := by simpa using hx
    rw [cn_of_not hx]
    by_cases hy : (k.decode y).isNaN = true
    · rw [order_nan_right _ _ hy, order_nan_right _ _ (by rw [cn_isNaN, hy])]
    · rw [cn_of_not (by simpa using hy)]

/-- Bits whose rung lies beyond infinity's are a not-a-number. -/
theorem isNaN_of_rung (k : FloatKind) (b : Nat) (h : k.format.infRung < b % k.format.signWeight) : (k.decode b).isNaN = true := by
  have h1 : ¬ b % k.format.signWeight < k.format.infRung := by omega
  have h2 : ¬ b % k.format.signWeight = k.format.infRung := by omega
  have h3 : k.format.binade ≤ k.format.infRung := by cases k <;> decide
  have h0 : ¬ b % k.format.signWeight < k.format.binade := by omega
  show (k.format.read b).isNaN = true
  unfold Ieee.Format.read
  simp only [h0, h1, h2, if_false]
  rfl

theorem cut_nan32 (t : Nat) : (FloatKind.f32.decode ((t % 2) * 2 ^ 31 + 0x7f800000 + 1 + (t / 2) % (2 ^ 23 - 1))).isNaN = true := by
  refine isNaN_of_rung .f32 _ ?_
  have := Nat.mod_lt (t / 2) (show 0 < 2 ^ 23 - 1 by decide)
  generalize (t / 2) % (2 ^ 23 - 1) = m at *
  have h2 : t % 2 = 0 ∨ t % 2 = 1 := by omega
  show 2139095040 < _ % 2147483648
  rcases h2 with h2 | h2 <;> rw [h2] <;> omega

theorem cut_nan64 (t : Nat) : (FloatKind.f64.decode ((t % 2) * 2 ^ 63 + 0x7ff0000000000000 + 1 + (t / 2) % (2 ^ 52 - 1))).isNaN = true := by
  refine isNaN_of_rung .f64 _ ?_
  have := Nat.mod_lt (t / 2) (show 0 < 2 ^ 52 - 1 by decide)
  generalize (t / 2) % (2 ^ 52 - 1) = m at *
  have h2 : t % 2 = 0 ∨ t % 2 = 1 := by omega
  show 9218868437227405312 < _ % 9223372036854775808
  rcases h2 with h2 | h2 <;> rw [h2] <;> omega

theorem cut_nanBits (k : FloatKind) (x y t : Nat) : (k.decode ((Question.nanBits k x y).cut t)).isNaN = true := by
  cases k
  · exact cut_nan32 t
  · exact cut_nan64 t
theorem cut_nanConv (k : FloatKind) (x t : Nat) : (k.decode ((Question.nanConv k x).cut t)).isNaN = true := by
  cases k
  · exact cut_nan32 t
  · exact cut_nan64 t
theorem cut_nanMinMax (k : FloatKind) (m : Bool) (x y t : Nat) : (k.decode ((Question.nanMinMax k m x y).cut t)).isNaN = true := by
  cases k
  · exact cut_nan32 t
  · exact cut_nan64 t

/-- The world behind a draw has the same heap. -/
def drewSome (w w' : World) : Prop := ∃ n, w' = { w with drawn := n }
theorem drewSome.refl (w : World) : drewSome w w := ⟨w.drawn, rfl⟩
theorem drewSome.trans {w w1 w2 : World} (h : drewSome w w1) (h' : drewSome w1 w2) : drewSome w w2 := by
  obtain ⟨n, rfl⟩ := h
  obtain ⟨m, rfl⟩ := h'
  exact ⟨m, rfl⟩

/-- An operation that may draw a not-a-number's bits. -/
theorem run_bop (P : Program) (w : World) (k : FloatKind) {f : Ieee.Datum → Ieee.Datum → Option Ieee.Datum} (hf : Nanny f) (x y : Nat) :
    ∃ r w', (match (f (k.decode x) (k.decode y)).map k.format.write with
      | some r => (pure (.float k r) : Sem Value)
      | none => do pure (.float k (← choose (.nanBits k x y)))).run P w = .ok (.float k r) w' ∧ cn k r = bop k f (cn k x) (cn k y) ∧ drewSome w w' := by
  cases h : (f (k.decode x) (k.decode y)).map k.format.write with
  | some r => exact ⟨r, w, rfl, bop_some hf h, .refl w⟩
  | none =>
    refine ⟨(Question.nanBits k x y).cut (w.tape w.drawn (.nanBits k x y)), { w with drawn := w.drawn + 1 }, ?_, ?_, _, rfl⟩
    · simp [Question.forced]
    · rw [bop_none hf h, cn_of_nan (cut_nanBits k x y _)]

/-- '+', '-', '*', '/' on canonical bits. -/
def farith (op : BinOp) (k : FloatKind) (x y : Nat) : Nat :=
  match op with
  | .add => fadd k x y
  | .sub => fsub k x y
  | .mul => fmul k x y
  | .quo => fdiv k x y
  | _ => 0

theorem run_floatArith (P : Program) (w : World) (op : BinOp) (h : op = .add ∨ op = .sub ∨ op = .mul ∨ op = .quo) (k : FloatKind) (x y : Nat) :
    ∃ r w', (Op.floatArith op k x y).run P w = .ok (.float k r) w' ∧ cn k r = farith op k (cn k x) (cn k y) ∧ drewSome w w' := by
  rcases h with rfl | rfl | rfl | rfl
  · exact run_bop P w k sum_nanny x y
  · exact run_bop P w k diff_nanny x y
  · exact run_bop P w k product_nanny x y
  · exact run_bop P w k (quotient_nanny _) x y

/-- The comparisons on canonical bits. -/
def fcmp (op : BinOp) (k : FloatKind) (x y : Nat) : Bool :=
  match op with
  | .eql => feq k x y
  | .neq => !feq k x y
  | .lss => flt k x y
  | .leq => fle k x y
  | .gtr => fgt k x y
  | _ => fge k x y

theorem run_floatCmp (P : Program) (w : World) (op : BinOp) (h : op = .eql ∨ op = .neq ∨ op = .lss ∨ op = .leq ∨ op = .gtr ∨ op = .geq) (k : FloatKind) (x y : Nat) :
    (Op.floatCmp op k x y).run P w = .ok (.bool (fcmp op k (cn k x) (cn k y))) w := by
  rcases h with rfl | rfl | rfl | rfl | rfl | rfl <;> simp [Op.floatCmp, fcmp, feq, flt, fle, fgt, fge, order_cn, bne]

/-- The opposite. -/
def fneg (k : FloatKind) (x : Nat) : Nat := cn k (Op.negFloat k x)

end Go.En
