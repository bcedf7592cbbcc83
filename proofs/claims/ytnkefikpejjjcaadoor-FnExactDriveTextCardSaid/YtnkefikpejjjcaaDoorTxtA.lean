/-
  The contracts of the functions that write a number's bits in hexadecimal digits, of the reference's. Own work.
-/
import Derived.Test.YtnkefikpejjjcaaDoorEnv
import Derived.Test.YtnkefikpejjjcaaDoorEnXz
import Derived.Test.YtnkefikpejjjcaaDoorSameA
set_option linter.unusedVariables false
set_option linter.unusedSimpArgs false
set_option maxRecDepth 100000
namespace Go.En
open Go.Proofs

def hexT : ByteArray := strOfNums [48, 49, 50, 51, 52, 53, 54, 55, 56, 57, 97, 98, 99, 100, 101, 102]
theorem hexT_at (d : Nat) (h : d < 16) : std.sget ("0123456789abcdef".toUTF8) (Int.ofNat d) = dig d := by
  have : d = 0 ∨ d = 1 ∨ d = 2 ∨ d = 3 ∨ d = 4 ∨ d = 5 ∨ d = 6 ∨ d = 7 ∨ d = 8 ∨ d = 9 ∨ d = 10 ∨ d = 11 ∨ d = 12 ∨ d = 13 ∨ d = 14 ∨ d = 15 := by omega
  rcases this with rfl | rfl | rfl | rfl | rfl | rfl | rfl | rfl | rfl | rfl | rfl | rfl | rfl | rfl | rfl | rfl <;> decide
theorem c_spec_l01Hex (x : Nat) (hx : x < 4294967296) : Call YtnkefikpejjjcaaDoor.Env.pg 73 [.flt .f32 x] (.str (hex8 (fbN x))) [] := by
  have q := t110 x hx
  rw [fbN_eq hx] at q
  have hn := fbN_lt hx
  generalize fbN x = n at q hn ⊢
  refine Call.of_body YtnkefikpejjjcaaDoor.Env.ok Tryd.func73 rfl rfl ?_; intro o P K ho hP hK; cbv
  refine useS hP q rfl ?_; cbv
  refine useW hP YtnkefikpejjjcaaDoor.Env.ok ho (fun z : {r : Nat // r ≤ 8} => ⟨24, 0, [(3, .int .i64 (Int.ofNat n)), (4, .own 0), (5, .int .i64 (28 - 4 * Int.ofNat z.1))], [.row 5 (.u8 (accH n z.1))]⟩) (fun z => 8 - z.1) ⟨0, by omega⟩ [0] [3, 4, 5] rfl (by subst ho; rfl) (fun _ => rfl) (fun _ => rfl) ?_
  rintro ⟨r, hr⟩ K' hL
  generalize hz : (28 - 4 * Int.ofNat r : Int) = z at hL ⊢
  have hacc := accH_length n r
  generalize hA : accH n r = A at hL hacc ⊢
  cbv
  split
  · have h7 : r ≤ 7 := by
      subst ho
      have h : decide (0 ≤ z) = true := ‹_›
      have := of_decide_eq_true h
      have e : Int.ofNat r = (r : Int) := rfl
      omega
    have hz' : z = Int.ofNat (28 - 4 * r) := by
      have e : Int.ofNat r = (r : Int) := rfl
      have e2 : Int.ofNat (28 - 4 * r) = ((28 - 4 * r : Nat) : Int) := rfl
      omega
    have hw : std.wrap .u64 z = Int.ofNat (28 - 4 * r) := by rw [hz']; exact wrap_u64 (by omega)
    have hs : std.shr (Int.ofNat n) (std.wrap .u64 z) = Int.ofNat (n / 2 ^ (28 - 4 * r)) := by rw [hw]; exact shr_nat .i64 n _
    have hdiv : n / 2 ^ (28 - 4 * r) < 9223372036854775808 := Nat.lt_of_le_of_lt (Nat.div_le_self _ _) (by omega)
    have hb : std.band .i64 (std.shr (Int.ofNat n) (std.wrap .u64 z)) 15 = Int.ofNat (n / 2 ^ (28 - 4 * r) % 16) := by rw [hs]; exact band_i64 _ hdiv
    have hp : 2 ^ (28 - 4 * r) = 16 ^ (7 - r) := by
      rw [show 28 - 4 * r = 4 * (7 - r) by omega, Nat.pow_mul]
    cbv
    have hg : std.sget ⟨#[48, 49, 50, 51, 52, 53, 54, 55, 56, 57, 97, 98, 99, 100, 101, 102]⟩ (std.band .i64 (std.shr (Int.ofNat n) (std.wrap .u64 z)) 15) = dig (n / 16 ^ (7 - r) % 16) := by
      rw [hb, hp]; exact hexT_at _ (Nat.mod_lt _ (by decide))
    have e4 : z - 4 = 28 - 4 * Int.ofNat (r + 1) := by
      have e : Int.ofNat (r + 1) = (r : Int) + 1 := rfl
      have e' : Int.ofNat r = (r : Int) := rfl
      omega
    refine ⟨?_, ?_, ?_, ?_, ?_⟩
    · subst ho
      show 0 ≤ std.wrap .u64 z ∧ std.wrap .u64 z ≤ 64
      rw [hw]
      exact ⟨Int.natCast_nonneg _, by show ((28 - 4 * r : Nat) : Int) ≤ 64; omega⟩
    · subst ho
      show std.idx (std.band .i64 (std.shr (Int.ofNat n) (std.wrap .u64 z)) 15) (Int.ofNat 16)
      rw [hb]
      exact idxN (Nat.mod_lt _ (by decide))
    · subst ho
      show 0 ≤ ((A ++ [_]).length : Int) ∧ ((A ++ [_]).length : Int) ≤ 1099511627776
      simp only [List.length_append, List.length_cons, List.length_nil]
      omega
    · subst ho
      show std.rng .i64 (z - 4)
      rw [std_rng, hz']
      have e2 : Int.ofNat (28 - 4 * r) = ((28 - 4 * r : Nat) : Int) := rfl
      omega
    · subst ho
      refine hL.next _ ⟨⟨r + 1, by omega⟩, [0], [3, 4, 5], rfl, ?_, by show 8 - (r + 1) < 8 - r; omega⟩
      show (⟨24, 0, [(3, .int .i64 (Int.ofNat n)), (4, .own 0), (5, .int .i64 (z - 4))], [.row 5 (.u8 (A ++ [std.sget ⟨#[48, 49, 50, 51, 52, 53, 54, 55, 56, 57, 97, 98, 99, 100, 101, 102]⟩ (std.band .i64 (std.shr (Int.ofNat n) (std.wrap .u64 z)) 15)]))]⟩ : St) = ⟨24, 0, [(3, .int .i64 (Int.ofNat n)), (4, .own 0), (5, .int .i64 (28 - 4 * Int.ofNat (r + 1)))], [.row 5 (.u8 (accH n (r + 1)))]⟩
      rw [hg, e4, accH_succ, hA]
  · have h8 : r = 8 := by
      subst ho
      have h : decide (0 ≤ z) = false := ‹_›
      have := of_decide_eq_false h
      have e : Int.ofNat r = (r : Int) := rfl
      omega
    cbv
    refine hL.out _ _ ?_
    clear hL
    cbv
    subst ho
    refine hK.ret _ ⟨[], rfl, congrArg V.str ?_, rfl⟩
    show strOfNums A = hex8 n
    subst hA h8
    rw [accH_all]
    rfl
end Go.En
