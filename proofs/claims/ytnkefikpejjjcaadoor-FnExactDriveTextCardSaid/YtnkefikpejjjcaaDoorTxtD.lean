/-
  The contracts of the writing of numbers, of the program's and of the reference's. Own work.
-/
import Derived.Test.YtnkefikpejjjcaaDoorEnv
import Derived.Test.YtnkefikpejjjcaaDoorEnRb
import Derived.Test.YtnkefikpejjjcaaDoorTxtA
import Derived.Test.YtnkefikpejjjcaaDoorTxtC
import Derived.Test.YtnkefikpejjjcaaDoorTxtJ
set_option linter.unusedVariables false
set_option linter.unusedSimpArgs false
set_option maxRecDepth 100000
set_option maxHeartbeats 4000000
namespace Go.En
open Go.Proofs

theorem str_app (a b : List Int) : strOfNums (a ++ b) = strOfNums a ++ strOfNums b := by
  apply ByteArray.ext
  simp [strOfNums, ByteArray.data_append]
theorem str_rep (k : Nat) : strOfNums (List.replicate k 48) = ⟨(List.replicate k 48).toArray⟩ := by
  simp [strOfNums, List.map_replicate]
theorem hex8_eq (n : Nat) (hn : n < 4294967296) : (⟨(List.replicate (7 - kOf n) 48).toArray⟩ : ByteArray) ++ strOfNums (hexD n (kOf n + 1)) = hex8 n := by
  have hk := kOf_le hn
  rw [← str_rep, ← str_app, ← hexD_pad n (kOf n + 1) (7 - kOf n) (lt_kOf n), hex8, show kOf n + 1 + (7 - kOf n) = 8 by omega]
theorem c_Rw (n : Nat) (hn : n < 4294967296) (o : Ops) (ho : std = o) : Call YtnkefikpejjjcaaDoor.Env.pg 84 [.str z1, .int .i64 (o.sub 8 (o.slen (strOfNums (hexD n (kOf n + 1)))))] (.str ⟨(List.replicate (7 - kOf n) 48).toArray⟩) [] := by
  subst ho
  have hk := kOf_le hn
  have : std.sub 8 (std.slen (strOfNums (hexD n (kOf n + 1)))) = Int.ofNat (7 - kOf n) := by
    show (8 : Int) - ((strOfNums (hexD n (kOf n + 1))).size : Int) = ((7 - kOf n : Nat) : Int)
    rw [strOfNums_size, hexD_length]
    omega
  rw [this]
  exact c_Repeat _ (by omega)
theorem c_hexOf (x : Nat) (hx : x < 4294967296) : Call YtnkefikpejjjcaaDoor.Env.pg 74 [.flt .f32 x] (.str (hex8 (fbN x))) [] := by
  have q1 := c_BitsOf x hx
  rw [fbN_eq hx] at q1
  have hn := fbN_lt hx
  generalize fbN x = n at q1 hn ⊢
  have q2 := c_FormatInt16 n hn
  have q3 := @c_Rw n hn
  have e := hex8_eq n hn
  have hsz : (strOfNums (hexD n (kOf n + 1))).size ≤ 8 := by rw [strOfNums_size, hexD_length]; have := kOf_le hn; omega
  have hsr : (⟨(List.replicate (7 - kOf n) 48).toArray⟩ : ByteArray).size ≤ 7 := by simp [ByteArray.size]
  generalize strOfNums (hexD n (kOf n + 1)) = s at q2 q3 e hsz
  generalize (⟨(List.replicate (7 - kOf n) 48).toArray⟩ : ByteArray) = z at q3 e hsr
  refine Call.of_body YtnkefikpejjjcaaDoor.Env.ok Tryd.func74 rfl rfl ?_; intro o P K ho hP hK; cbv
  repeat' (first | refine And.intro ?_ ?_ | (split; all_goals try cbv) | (refine useD hP YtnkefikpejjjcaaDoor.Env.ok rfl ho (by kernel_rfl) ?_; try cbv) | (first | (refine useS hP (q1) rfl ?_; try cbv) | (refine useRS hP (q1) rfl ?_; try cbv) | (refine useL hP 3 (q1) rfl rfl rfl ?_; try cbv) | (refine useRL hP 3 (q1) rfl rfl rfl ?_; try cbv)) | (first | (refine useS hP (q2) rfl ?_; try cbv) | (refine useRS hP (q2) rfl ?_; try cbv) | (refine useL hP 3 (q2) rfl rfl rfl ?_; try cbv) | (refine useRL hP 3 (q2) rfl rfl rfl ?_; try cbv)) | (first | (refine useS hP (q3 o ho) rfl ?_; try cbv) | (refine useRS hP (q3 o ho) rfl ?_; try cbv) | (refine useL hP 3 (q3 o ho) rfl rfl rfl ?_; try cbv) | (refine useRL hP 3 (q3 o ho) rfl rfl rfl ?_; try cbv)))
  · subst ho
    show std.rng .i64 ((8 : Int) - (s.size : Int))
    rw [std_rng]; omega
  · subst ho
    show std.rng .i64 ((z.size : Int) + (s.size : Int))
    rw [std_rng]; omega
  · subst ho
    refine hK.ret _ ⟨[], rfl, congrArg V.str ?_, rfl⟩
    exact e
def comma : ByteArray := ⟨#[44]⟩
def noneT : ByteArray := ⟨#[110, 111, 110, 101]⟩
def hx (x : Nat) : ByteArray := hex8 (fbN x)
theorem hx_size (x : Nat) : (hx x).size = 8 := by rw [hx, hex8, strOfNums_size, hexD_length]
theorem joinB_snoc (l : List ByteArray) (h : l ≠ []) (y sep : ByteArray) : joinB (l ++ [y]) sep = joinB l sep ++ (sep ++ y) := by
  obtain ⟨x, r, rfl⟩ := List.exists_cons_of_ne_nil h
  apply ByteArray.ext
  simp [joinB, Lib.join_cons, Lib.joinTail, ByteArray.data_append]
def jn (xs : List Nat) : ByteArray := joinB (xs.map hx) comma
theorem jn_one (x : Nat) : jn [x] = hx x := by
  apply ByteArray.ext
  simp [jn, joinB, Lib.join_one]
theorem jn_step (xs : List Nat) {i : Nat} (h1 : 1 ≤ i) (h : i < xs.length) : jn (xs.take (i + 1)) = jn (xs.take i) ++ (comma ++ hx (xs.getD i 0)) := by
  have e : xs.take (i + 1) = xs.take i ++ [xs.getD i 0] := by
    rw [List.take_add_one, List.getD_eq_getElem?_getD, List.getElem?_eq_getElem h]
    rfl
  rw [e, jn, List.map_append]
  refine joinB_snoc _ (fun h0 => ?_) _ _
  have h2 : (List.map hx (xs.take i)).length = 0 := by rw [h0]; rfl
  rw [List.length_map, List.length_take] at h2
  omega
theorem jn_size : ∀ (xs : List Nat), (jn xs).size ≤ 9 * xs.length := by
  intro xs
  have key : ∀ i, 1 ≤ i → i ≤ xs.length → (jn (xs.take i)).size ≤ 9 * i := by
    intro i h1
    induction i with
    | zero => omega
    | succ i ih =>
      intro h
      by_cases h0 : i = 0
      · subst h0
        have hx0 : xs.take 1 = [xs.getD 0 0] := by
          cases xs with
          | nil => simp at h
          | cons a r => simp
        rw [hx0, jn_one, hx_size]
        omega
      · rw [jn_step xs (by omega) (by omega)]
        have := ih (by omega) (by omega)
        have e : ∀ a b : ByteArray, (a ++ b).size = a.size + b.size := fun a b => by simp
        rw [e, e, hx_size]
        have : comma.size = 1 := rfl
        omega
  by_cases h : xs = []
  · subst h; simp [jn, joinB, Lib.join_nil, ByteArray.size]
  · have := key xs.length (by have := List.length_pos_iff.2 h; omega) (Nat.le_refl _)
    rwa [List.take_length] at this
def numT (xs : List Nat) : ByteArray := match xs with | [] => noneT | x :: r => jn (x :: r)
theorem c_l01NText (xs : List Nat) (t : Bool) (hb : BL xs) (hn : xs.length ≤ 256) : Call YtnkefikpejjjcaaDoor.Env.pg 53 [.sl (.f32 xs) t] (.str (numT xs)) [] := by
  have q : ∀ x, x < 4294967296 → Call YtnkefikpejjjcaaDoor.Env.pg 73 [.flt .f32 x] (.str (hx x)) [] := c_spec_l01Hex
  have hg : ∀ i, xs.getD i 0 < 4294967296 := fun i => by
    rw [List.getD_eq_getElem?_getD]
    rcases Nat.lt_or_ge i xs.length with h | h
    · rw [List.getElem?_eq_getElem h]; exact hb _ (List.getElem_mem h)
    · rw [List.getElem?_eq_none h]; decide
  have qg : ∀ (o : Ops) (ho : std = o) (i : Int), Call YtnkefikpejjjcaaDoor.Env.pg 73 [.flt .f32 (o.get 0 xs i)] (.str (hx (o.get 0 xs i))) [] := fun o ho i => by subst ho; exact q _ (hg i.toNat)
  clear q
  have hstep := @jn_step xs
  have hone : 0 < xs.length → jn (xs.take 1) = hx (xs.getD 0 0) := fun e => by
    cases xs with
    | nil => simp at e
    | cons x r => exact jn_one x
  have hsz : ∀ i, (jn (xs.take i)).size ≤ 2304 := fun i => Nat.le_trans (jn_size _) (by rw [List.length_take]; omega)
  have hhx := hx_size
  have hall : jn (xs.take xs.length) = jn xs := by rw [List.take_length]
  have hn0 : xs = [] → numT xs = noneT := fun e => by rw [e]; rfl
  have hn1 : 0 < xs.length → numT xs = jn xs := fun e => by
    cases xs with
    | nil => simp at e
    | cons x r => rfl
  generalize hr : numT xs = res at hn0 hn1 ⊢
  generalize hj : jn = J at hstep hone hsz hall hn1
  generalize hh : hx = g at qg hstep hone hhx
  clear hj hh
  refine Call.of_body YtnkefikpejjjcaaDoor.Env.ok Tryd.func53 rfl rfl ?_; intro o P K ho hP hK; cbv
  split
  · have h0 : xs = [] := by
      subst ho
      have h : ((xs.length : Int) == 0) = true := ‹_›
      have := eq_of_beq h
      exact List.eq_nil_of_length_eq_zero (by omega)
    cbv
    subst ho
    refine hK.ret _ ⟨[], rfl, congrArg V.str ?_, rfl⟩
    exact (hn0 h0).symm
  have hpos : 0 < xs.length := by
    subst ho
    have h : ((xs.length : Int) == 0) = false := ‹_›
    have h := ne_of_beq_false h
    omega
  cbv
  refine And.intro ?_ ?_
  · subst ho; exact idxN hpos
  repeat' (first | refine And.intro ?_ ?_ | (split; all_goals try cbv) | (refine useD hP YtnkefikpejjjcaaDoor.Env.ok rfl ho (by kernel_rfl) ?_; try cbv) | (first | (refine useS hP (qg o ho 0) rfl ?_; try cbv) | (refine useRS hP (qg o ho 0) rfl ?_; try cbv) | (refine useL hP 3 (qg o ho 0) rfl rfl rfl ?_; try cbv) | (refine useRL hP 3 (qg o ho 0) rfl rfl rfl ?_; try cbv)))
  refine useW hP YtnkefikpejjjcaaDoor.Env.ok ho (fun z : {i : Nat // 1 ≤ i ∧ i ≤ xs.length} => ⟨27, 0, [(0, .sl (.f32 xs) t), (3, .str (J (xs.take z.1))), (4, .int .i64 (Int.ofNat z.1))], []⟩) (fun z => xs.length - z.1) ⟨1, by omega⟩ [] [0, 3, 4] rfl (by subst ho; simp only [hone hpos]; rfl) (fun _ => rfl) (fun _ => rfl) ?_
  rintro ⟨i, hi1, hi⟩ K' hL
  have hJ := hsz i
  generalize hA : J (xs.take i) = A at hL hJ ⊢
  cbv
  split
  · have hlt : i < xs.length := by subst ho; exact ieqB ‹_›
    cbv
    repeat' (first | refine And.intro ?_ ?_ | (split; all_goals try cbv) | (refine useD hP YtnkefikpejjjcaaDoor.Env.ok rfl ho (by kernel_rfl) ?_; try cbv) | (first | (refine useS hP (qg o ho (Int.ofNat i)) rfl ?_; try cbv) | (refine useRS hP (qg o ho (Int.ofNat i)) rfl ?_; try cbv) | (refine useL hP 3 (qg o ho (Int.ofNat i)) rfl rfl rfl ?_; try cbv) | (refine useRL hP 3 (qg o ho (Int.ofNat i)) rfl rfl rfl ?_; try cbv)))
    · subst ho; exact idxN hlt
    · subst ho
      show std.rng .i64 (((1 : Nat) : Int) + ((g (std.get 0 xs (Int.ofNat i))).size : Int))
      rw [std_rng, hhx]; omega
    · subst ho
      show std.rng .i64 ((A.size : Int) + (((⟨#[44]⟩ : ByteArray) ++ g (std.get 0 xs (Int.ofNat i))).size : Int))
      have e : ∀ a b : ByteArray, (a ++ b).size = a.size + b.size := fun a b => by simp
      have e1 : (⟨#[44]⟩ : ByteArray).size = 1 := rfl
      rw [std_rng, e, hhx, e1]; omega
    · subst ho; exact rngN hlt (by omega)
    · subst ho
      refine hL.next _ ⟨⟨i + 1, by omega, by omega⟩, [], [0, 3, 4], rfl, ?_, by show xs.length - (i + 1) < xs.length - i; omega⟩
      have := hstep hi1 hlt
      show (⟨27, 0, [(0, .sl (.f32 xs) t), (3, .str (A ++ (comma ++ g (xs.getD i 0)))), (4, .int .i64 (Int.ofNat (i + 1)))], []⟩ : St) = ⟨27, 0, [(0, .sl (.f32 xs) t), (3, .str (J (xs.take (i + 1)))), (4, .int .i64 (Int.ofNat (i + 1)))], []⟩
      rw [this, hA]
  · have hge : xs.length ≤ i := by subst ho; exact igeB ‹_›
    cbv
    refine hL.out _ _ ?_
    clear hL
    cbv
    subst ho
    refine hK.ret _ ⟨[], rfl, congrArg V.str ?_, rfl⟩
    rw [hn1 hpos, ← hall, ← hA, show i = xs.length by omega]
end Go.En
