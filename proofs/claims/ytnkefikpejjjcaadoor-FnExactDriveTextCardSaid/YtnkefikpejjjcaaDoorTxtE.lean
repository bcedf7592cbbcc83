/-
  The contracts of the writing of lists of numbers, of the program's. Own work.
-/
import Derived.Test.YtnkefikpejjjcaaDoorEnv
import Derived.Test.YtnkefikpejjjcaaDoorTxtD
import Derived.Test.YtnkefikpejjjcaaDoorValA
set_option linter.unusedVariables false
set_option linter.unusedSimpArgs false
set_option maxRecDepth 100000
set_option maxHeartbeats 4000000
namespace Go.En
open Go.Proofs

theorem c_listOrNone (xs : List Nat) (l : List ByteArray) (hl : l = xs.map hx) (t : Bool) (hn : xs.length ≤ 256) : Call YtnkefikpejjjcaaDoor.Env.pg 75 [.sl (.str l) t] (.str (numT xs)) [] := by
  have hlen : l.length = xs.length := by rw [hl, List.length_map]
  have q := c_Join l t comma (by omega) (by
    have := jn_size xs
    rw [jn, ← hl] at this
    omega)
  have hn0 : xs = [] → numT xs = noneT := fun e => by rw [e]; rfl
  have hn1 : 0 < xs.length → numT xs = joinB l comma := fun e => by
    cases xs with
    | nil => simp at e
    | cons x r => rw [hl]; rfl
  generalize hr : numT xs = res at hn0 hn1 ⊢
  generalize hj : joinB l comma = J at q hn1
  unfold comma at q
  refine Call.of_body YtnkefikpejjjcaaDoor.Env.ok Tryd.func75 rfl rfl ?_; intro o P K ho hP hK; cbv
  split
  · have h0 : xs = [] := by
      subst ho
      have h : ((l.length : Int) == 0) = true := ‹_›
      have := eq_of_beq h
      exact List.eq_nil_of_length_eq_zero (by omega)
    cbv
    subst ho
    refine hK.ret _ ⟨[], rfl, congrArg V.str ?_, rfl⟩
    exact (hn0 h0).symm
  have hpos : 0 < xs.length := by
    subst ho
    have h : ((l.length : Int) == 0) = false := ‹_›
    have h := ne_of_beq_false h
    omega
  cbv
  repeat' (first | refine And.intro ?_ ?_ | (split; all_goals try cbv) | (refine useD hP YtnkefikpejjjcaaDoor.Env.ok rfl ho (by kernel_rfl) ?_; try cbv) | (first | (refine useS hP (q) rfl ?_; try cbv) | (refine useRS hP (q) rfl ?_; try cbv) | (refine useL hP 3 (q) rfl rfl rfl ?_; try cbv) | (refine useRL hP 3 (q) rfl rfl rfl ?_; try cbv)))
  subst ho
  refine hK.ret _ ⟨[], rfl, congrArg V.str ?_, rfl⟩
  exact (hn1 hpos).symm
theorem c_NumbersText (xs : List Nat) (t : Bool) (hb : BL xs) (hn : xs.length ≤ 256) : Call YtnkefikpejjjcaaDoor.Env.pg 60 [.sl (.f32 xs) t] (.tup [.str (numT xs), .bool true]) [] := by
  have q : ∀ x, x < 4294967296 → Call YtnkefikpejjjcaaDoor.Env.pg 74 [.flt .f32 x] (.str (hx x)) [] := c_hexOf
  have hg : ∀ i, xs.getD i 0 < 4294967296 := fun i => by
    rw [List.getD_eq_getElem?_getD]
    rcases Nat.lt_or_ge i xs.length with h | h
    · rw [List.getElem?_eq_getElem h]; exact hb _ (List.getElem_mem h)
    · rw [List.getElem?_eq_none h]; decide
  have qg : ∀ (o : Ops) (ho : std = o) (i : Int), Call YtnkefikpejjjcaaDoor.Env.pg 74 [.flt .f32 (o.get 0 xs i)] (.str (hx (o.get 0 xs i))) [] := fun o ho i => by subst ho; exact q _ (hg i.toNat)
  clear q
  have ql := fun l hl => c_listOrNone xs l hl false hn
  have hstep : ∀ i, i < xs.length → (xs.take (i + 1)).map hx = (xs.take i).map hx ++ [hx (xs.getD i 0)] := fun i h => by
    have e : xs.take (i + 1) = xs.take i ++ [xs.getD i 0] := by
      rw [List.take_add_one, List.getD_eq_getElem?_getD, List.getElem?_eq_getElem h]
      rfl
    rw [e, List.map_append]
    rfl
  have hall : (xs.take xs.length).map hx = xs.map hx := by rw [List.take_length]
  have hlen : ∀ i, ((xs.take i).map hx).length ≤ 256 := fun i => by rw [List.length_map, List.length_take]; omega
  generalize numT xs = res at ql ⊢
  generalize hA : (fun i => (xs.take i).map hx) = A
  have hAi : ∀ i, (xs.take i).map hx = A i := fun i => by rw [← hA]
  simp only [hAi] at hstep hall hlen
  have hA0 : A 0 = [] := by rw [← hA]; rfl
  rw [← hall] at ql
  clear hA hAi hall
  generalize hx = g at qg hstep
  refine Call.of_body YtnkefikpejjjcaaDoor.Env.ok Tryd.func60 rfl rfl ?_; intro o P K ho hP hK; cbv
  split
  · exfalso
    subst ho
    have h : decide ((256 : Int) < (xs.length : Int)) = true := ‹_›
    have := of_decide_eq_true h
    omega
  cbv
  refine useW hP YtnkefikpejjjcaaDoor.Env.ok ho (fun z : {i : Nat // i ≤ xs.length} => ⟨25, 0, [(4, .own 0), (11, .sl (.f32 xs) t), (12, .int .i64 (o.len xs)), (13, .int .i64 (Int.ofNat z.1))], [.row 9 (.str (A z.1))]⟩) (fun z => xs.length - z.1) ⟨0, by omega⟩ [0] [4, 11, 12, 13] rfl (by simp only [hA0]; subst ho; rfl) (fun _ => rfl) (fun _ => rfl) ?_
  rintro ⟨i, hi⟩ K' hL
  have hl := hlen i
  generalize hB : A i = B at hL hl ⊢
  cbv
  split
  · have hlt : i < xs.length := by subst ho; exact ieqB ‹_›
    cbv
    repeat' (first | refine And.intro ?_ ?_ | (split; all_goals try cbv) | (refine useD hP YtnkefikpejjjcaaDoor.Env.ok rfl ho (by kernel_rfl) ?_; try cbv) | (first | (refine useS hP (qg o ho (Int.ofNat i)) rfl ?_; try cbv) | (refine useRS hP (qg o ho (Int.ofNat i)) rfl ?_; try cbv) | (refine useL hP 3 (qg o ho (Int.ofNat i)) rfl rfl rfl ?_; try cbv) | (refine useRL hP 3 (qg o ho (Int.ofNat i)) rfl rfl rfl ?_; try cbv)))
    · subst ho; exact idxN hlt
    · subst ho
      show 0 ≤ ((B ++ [_]).length : Int) ∧ ((B ++ [_]).length : Int) ≤ 1099511627776
      simp only [List.length_append, List.length_cons, List.length_nil]
      omega
    · subst ho; exact rngN hlt (by omega)
    · subst ho
      refine hL.next _ ⟨⟨i + 1, by omega⟩, [0], [4, 11, 12, 13], rfl, ?_, by show xs.length - (i + 1) < xs.length - i; omega⟩
      have := hstep i hlt
      show (⟨25, 0, [(4, .own 0), (11, .sl (.f32 xs) t), (12, .int .i64 (std.len xs)), (13, .int .i64 (Int.ofNat (i + 1)))], [.row 9 (.str (B ++ [g (xs.getD i 0)]))]⟩ : St) = ⟨25, 0, [(4, .own 0), (11, .sl (.f32 xs) t), (12, .int .i64 (std.len xs)), (13, .int .i64 (Int.ofNat (i + 1)))], [.row 9 (.str (A (i + 1)))]⟩
      rw [this, hB]
  · have hge : xs.length ≤ i := by subst ho; exact igeB ‹_›
    cbv
    refine hL.out _ _ ?_
    clear hL
    cbv
    have q := ql B (by rw [← hB, show i = xs.length by omega])
    repeat' (first | refine And.intro ?_ ?_ | (split; all_goals try cbv) | (refine useD hP YtnkefikpejjjcaaDoor.Env.ok rfl ho (by kernel_rfl) ?_; try cbv) | (first | (refine useS hP (q) rfl ?_; try cbv) | (refine useRS hP (q) rfl ?_; try cbv) | (refine useL hP 3 (q) rfl rfl rfl ?_; try cbv) | (refine useRL hP 3 (q) rfl rfl rfl ?_; try cbv)))
    subst ho
    refine hK.ret _ ⟨[], rfl, rfl, rfl⟩
theorem c_numbers (xs : List Nat) (t : Bool) (hb : BL xs) (hn : xs.length ≤ 256) : Call YtnkefikpejjjcaaDoor.Env.pg 29 [.sl (.f32 xs) t] (.str (numT xs)) [] := by
  have q := c_NumbersText xs t hb hn
  generalize numT xs = res at q ⊢
  refine Call.of_body YtnkefikpejjjcaaDoor.Env.ok Tryd.func29 rfl rfl ?_; intro o P K ho hP hK; cbv
  repeat' (first | refine And.intro ?_ ?_ | (split; all_goals try cbv) | (refine useD hP YtnkefikpejjjcaaDoor.Env.ok rfl ho (by kernel_rfl) ?_; try cbv) | (first | (refine useS hP (q) rfl ?_; try cbv) | (refine useRS hP (q) rfl ?_; try cbv) | (refine useL hP 3 (q) rfl rfl rfl ?_; try cbv) | (refine useRL hP 3 (q) rfl rfl rfl ?_; try cbv)))
  subst ho
  exact hK.ret _ ⟨[], rfl, rfl, rfl⟩
/-- The number's one decimal letter. -/
def dec1 (k : Nat) : ByteArray := ⟨#[UInt8.ofNat (48 + k)]⟩
theorem c_small_0 : Call YtnkefikpejjjcaaDoor.Env.pg 86 [.int .i64 0] (.str (dec1 0)) [] := by
  refine Call.of_body YtnkefikpejjjcaaDoor.Env.ok Tryd.func86 rfl rfl ?_; intro o P K ho hP hK; cbv
  repeat' (first | refine And.intro ?_ ?_ | (split <;> first | (exfalso; clear hK; rename_i h1; subst_vars; exact absurd h1 (by decide)) | (try cbv)) | (refine useD hP YtnkefikpejjjcaaDoor.Env.ok rfl ho (by kernel_rfl) ?_; try cbv))
  all_goals first
    | (subst ho; first | decide | (refine And.intro ?_ ?_ <;> decide) | (refine And.intro ?_ (And.intro ?_ ?_) <;> decide) | exact absurd ‹_› (by decide))
    | (subst ho; exact hK.ret _ ⟨[], rfl, congrArg V.str (by decide), rfl⟩)
theorem c_isF10_0 : Call YtnkefikpejjjcaaDoor.Env.pg 76 [.int .i64 0, .int .i64 10] (.str (dec1 0)) [] := by
  have q := c_small_0
  generalize dec1 0 = r at q ⊢
  refine Call.of_body YtnkefikpejjjcaaDoor.Env.ok Tryd.func76 rfl rfl ?_; intro o P K ho hP hK; cbv
  repeat' (first | refine And.intro ?_ ?_ | (split <;> first | (exfalso; clear hK; rename_i h1; subst_vars; exact absurd h1 (by decide)) | (try cbv)) | (refine useD hP YtnkefikpejjjcaaDoor.Env.ok rfl ho (by kernel_rfl) ?_; try cbv) | (first | (refine useS hP (q) rfl ?_; try cbv) | (refine useRS hP (q) rfl ?_; try cbv) | (refine useL hP 3 (q) rfl rfl rfl ?_; try cbv) | (refine useRL hP 3 (q) rfl rfl rfl ?_; try cbv)))
  all_goals first
    | (subst ho; first | decide | (refine And.intro ?_ ?_ <;> decide) | (refine And.intro ?_ (And.intro ?_ ?_) <;> decide) | exact absurd ‹_› (by decide))
    | (subst ho; exact hK.ret _ ⟨[], rfl, rfl, rfl⟩)
theorem c_dec_0 : Call YtnkefikpejjjcaaDoor.Env.pg 31 [.int .i64 0] (.str (dec1 0)) [] := by
  have q0 := c_isF10_0
  generalize dec1 0 = r at q0 ⊢
  have q : Call YtnkefikpejjjcaaDoor.Env.pg 61 [.int .i64 0, .int .i64 10] (.str r) [] := by
    refine Call.of_body YtnkefikpejjjcaaDoor.Env.ok Tryd.func61 rfl rfl ?_; intro o P K ho hP hK; cbv
    repeat' (first | refine And.intro ?_ ?_ | (split; all_goals try cbv) | (refine useD hP YtnkefikpejjjcaaDoor.Env.ok rfl ho (by kernel_rfl) ?_; try cbv) | (first | (refine useS hP (q0) rfl ?_; try cbv) | (refine useRS hP (q0) rfl ?_; try cbv) | (refine useL hP 3 (q0) rfl rfl rfl ?_; try cbv) | (refine useRL hP 3 (q0) rfl rfl rfl ?_; try cbv)))
    subst ho
    exact hK.ret _ ⟨[], rfl, rfl, rfl⟩
  refine Call.of_body YtnkefikpejjjcaaDoor.Env.ok Tryd.func31 rfl rfl ?_; intro o P K ho hP hK; cbv
  repeat' (first | refine And.intro ?_ ?_ | (split; all_goals try cbv) | (refine useD hP YtnkefikpejjjcaaDoor.Env.ok rfl ho (by kernel_rfl) ?_; try cbv) | (first | (refine useS hP (q) rfl ?_; try cbv) | (refine useRS hP (q) rfl ?_; try cbv) | (refine useL hP 3 (q) rfl rfl rfl ?_; try cbv) | (refine useRL hP 3 (q) rfl rfl rfl ?_; try cbv)))
  subst ho
  exact hK.ret _ ⟨[], rfl, rfl, rfl⟩
theorem c_small_1 : Call YtnkefikpejjjcaaDoor.Env.pg 86 [.int .i64 1] (.str (dec1 1)) [] := by
  refine Call.of_body YtnkefikpejjjcaaDoor.Env.ok Tryd.func86 rfl rfl ?_; intro o P K ho hP hK; cbv
  repeat' (first | refine And.intro ?_ ?_ | (split <;> first | (exfalso; clear hK; rename_i h1; subst_vars; exact absurd h1 (by decide)) | (try cbv)) | (refine useD hP YtnkefikpejjjcaaDoor.Env.ok rfl ho (by kernel_rfl) ?_; try cbv))
  all_goals first
    | (subst ho; first | decide | (refine And.intro ?_ ?_ <;> decide) | (refine And.intro ?_ (And.intro ?_ ?_) <;> decide) | exact absurd ‹_› (by decide))
    | (subst ho; exact hK.ret _ ⟨[], rfl, congrArg V.str (by decide), rfl⟩)
theorem c_isF10_1 : Call YtnkefikpejjjcaaDoor.Env.pg 76 [.int .i64 1, .int .i64 10] (.str (dec1 1)) [] := by
  have q := c_small_1
  generalize dec1 1 = r at q ⊢
  refine Call.of_body YtnkefikpejjjcaaDoor.Env.ok Tryd.func76 rfl rfl ?_; intro o P K ho hP hK; cbv
  repeat' (first | refine And.intro ?_ ?_ | (split <;> first | (exfalso; clear hK; rename_i h1; subst_vars; exact absurd h1 (by decide)) | (try cbv)) | (refine useD hP YtnkefikpejjjcaaDoor.Env.ok rfl ho (by kernel_rfl) ?_; try cbv) | (first | (refine useS hP (q) rfl ?_; try cbv) | (refine useRS hP (q) rfl ?_; try cbv) | (refine useL hP 3 (q) rfl rfl rfl ?_; try cbv) | (refine useRL hP 3 (q) rfl rfl rfl ?_; try cbv)))
  all_goals first
    | (subst ho; first | decide | (refine And.intro ?_ ?_ <;> decide) | (refine And.intro ?_ (And.intro ?_ ?_) <;> decide) | exact absurd ‹_› (by decide))
    | (subst ho; exact hK.ret _ ⟨[], rfl, rfl, rfl⟩)
theorem c_dec_1 : Call YtnkefikpejjjcaaDoor.Env.pg 31 [.int .i64 1] (.str (dec1 1)) [] := by
  have q0 := c_isF10_1
  generalize dec1 1 = r at q0 ⊢
  have q : Call YtnkefikpejjjcaaDoor.Env.pg 61 [.int .i64 1, .int .i64 10] (.str r) [] := by
    refine Call.of_body YtnkefikpejjjcaaDoor.Env.ok Tryd.func61 rfl rfl ?_; intro o P K ho hP hK; cbv
    repeat' (first | refine And.intro ?_ ?_ | (split; all_goals try cbv) | (refine useD hP YtnkefikpejjjcaaDoor.Env.ok rfl ho (by kernel_rfl) ?_; try cbv) | (first | (refine useS hP (q0) rfl ?_; try cbv) | (refine useRS hP (q0) rfl ?_; try cbv) | (refine useL hP 3 (q0) rfl rfl rfl ?_; try cbv) | (refine useRL hP 3 (q0) rfl rfl rfl ?_; try cbv)))
    subst ho
    exact hK.ret _ ⟨[], rfl, rfl, rfl⟩
  refine Call.of_body YtnkefikpejjjcaaDoor.Env.ok Tryd.func31 rfl rfl ?_; intro o P K ho hP hK; cbv
  repeat' (first | refine And.intro ?_ ?_ | (split; all_goals try cbv) | (refine useD hP YtnkefikpejjjcaaDoor.Env.ok rfl ho (by kernel_rfl) ?_; try cbv) | (first | (refine useS hP (q) rfl ?_; try cbv) | (refine useRS hP (q) rfl ?_; try cbv) | (refine useL hP 3 (q) rfl rfl rfl ?_; try cbv) | (refine useRL hP 3 (q) rfl rfl rfl ?_; try cbv)))
  subst ho
  exact hK.ret _ ⟨[], rfl, rfl, rfl⟩
theorem c_small_2 : Call YtnkefikpejjjcaaDoor.Env.pg 86 [.int .i64 2] (.str (dec1 2)) [] := by
  refine Call.of_body YtnkefikpejjjcaaDoor.Env.ok Tryd.func86 rfl rfl ?_; intro o P K ho hP hK; cbv
  repeat' (first | refine And.intro ?_ ?_ | (split <;> first | (exfalso; clear hK; rename_i h1; subst_vars; exact absurd h1 (by decide)) | (try cbv)) | (refine useD hP YtnkefikpejjjcaaDoor.Env.ok rfl ho (by kernel_rfl) ?_; try cbv))
  all_goals first
    | (subst ho; first | decide | (refine And.intro ?_ ?_ <;> decide) | (refine And.intro ?_ (And.intro ?_ ?_) <;> decide) | exact absurd ‹_› (by decide))
    | (subst ho; exact hK.ret _ ⟨[], rfl, congrArg V.str (by decide), rfl⟩)
theorem c_isF10_2 : Call YtnkefikpejjjcaaDoor.Env.pg 76 [.int .i64 2, .int .i64 10] (.str (dec1 2)) [] := by
  have q := c_small_2
  generalize dec1 2 = r at q ⊢
  refine Call.of_body YtnkefikpejjjcaaDoor.Env.ok Tryd.func76 rfl rfl ?_; intro o P K ho hP hK; cbv
  repeat' (first | refine And.intro ?_ ?_ | (split <;> first | (exfalso; clear hK; rename_i h1; subst_vars; exact absurd h1 (by decide)) | (try cbv)) | (refine useD hP YtnkefikpejjjcaaDoor.Env.ok rfl ho (by kernel_rfl) ?_; try cbv) | (first | (refine useS hP (q) rfl ?_; try cbv) | (refine useRS hP (q) rfl ?_; try cbv) | (refine useL hP 3 (q) rfl rfl rfl ?_; try cbv) | (refine useRL hP 3 (q) rfl rfl rfl ?_; try cbv)))
  all_goals first
    | (subst ho; first | decide | (refine And.intro ?_ ?_ <;> decide) | (refine And.intro ?_ (And.intro ?_ ?_) <;> decide) | exact absurd ‹_› (by decide))
    | (subst ho; exact hK.ret _ ⟨[], rfl, rfl, rfl⟩)
theorem c_dec_2 : Call YtnkefikpejjjcaaDoor.Env.pg 31 [.int .i64 2] (.str (dec1 2)) [] := by
  have q0 := c_isF10_2
  generalize dec1 2 = r at q0 ⊢
  have q : Call YtnkefikpejjjcaaDoor.Env.pg 61 [.int .i64 2, .int .i64 10] (.str r) [] := by
    refine Call.of_body YtnkefikpejjjcaaDoor.Env.ok Tryd.func61 rfl rfl ?_; intro o P K ho hP hK; cbv
    repeat' (first | refine And.intro ?_ ?_ | (split; all_goals try cbv) | (refine useD hP YtnkefikpejjjcaaDoor.Env.ok rfl ho (by kernel_rfl) ?_; try cbv) | (first | (refine useS hP (q0) rfl ?_; try cbv) | (refine useRS hP (q0) rfl ?_; try cbv) | (refine useL hP 3 (q0) rfl rfl rfl ?_; try cbv) | (refine useRL hP 3 (q0) rfl rfl rfl ?_; try cbv)))
    subst ho
    exact hK.ret _ ⟨[], rfl, rfl, rfl⟩
  refine Call.of_body YtnkefikpejjjcaaDoor.Env.ok Tryd.func31 rfl rfl ?_; intro o P K ho hP hK; cbv
  repeat' (first | refine And.intro ?_ ?_ | (split; all_goals try cbv) | (refine useD hP YtnkefikpejjjcaaDoor.Env.ok rfl ho (by kernel_rfl) ?_; try cbv) | (first | (refine useS hP (q) rfl ?_; try cbv) | (refine useRS hP (q) rfl ?_; try cbv) | (refine useL hP 3 (q) rfl rfl rfl ?_; try cbv) | (refine useRL hP 3 (q) rfl rfl rfl ?_; try cbv)))
  subst ho
  exact hK.ret _ ⟨[], rfl, rfl, rfl⟩
theorem c_small_3 : Call YtnkefikpejjjcaaDoor.Env.pg 86 [.int .i64 3] (.str (dec1 3)) [] := by
  refine Call.of_body YtnkefikpejjjcaaDoor.Env.ok Tryd.func86 rfl rfl ?_; intro o P K ho hP hK; cbv
  repeat' (first | refine And.intro ?_ ?_ | (split <;> first | (exfalso; clear hK; rename_i h1; subst_vars; exact absurd h1 (by decide)) | (try cbv)) | (refine useD hP YtnkefikpejjjcaaDoor.Env.ok rfl ho (by kernel_rfl) ?_; try cbv))
  all_goals first
    | (subst ho; first | decide | (refine And.intro ?_ ?_ <;> decide) | (refine And.intro ?_ (And.intro ?_ ?_) <;> decide) | exact absurd ‹_› (by decide))
    | (subst ho; exact hK.ret _ ⟨[], rfl, congrArg V.str (by decide), rfl⟩)
theorem c_isF10_3 : Call YtnkefikpejjjcaaDoor.Env.pg 76 [.int .i64 3, .int .i64 10] (.str (dec1 3)) [] := by
  have q := c_small_3
  generalize dec1 3 = r at q ⊢
  refine Call.of_body YtnkefikpejjjcaaDoor.Env.ok Tryd.func76 rfl rfl ?_; intro o P K ho hP hK; cbv
  repeat' (first | refine And.intro ?_ ?_ | (split <;> first | (exfalso; clear hK; rename_i h1; subst_vars; exact absurd h1 (by decide)) | (try cbv)) | (refine useD hP YtnkefikpejjjcaaDoor.Env.ok rfl ho (by kernel_rfl) ?_; try cbv) | (first | (refine useS hP (q) rfl ?_; try cbv) | (refine useRS hP (q) rfl ?_; try cbv) | (refine useL hP 3 (q) rfl rfl rfl ?_; try cbv) | (refine useRL hP 3 (q) rfl rfl rfl ?_; try cbv)))
  all_goals first
    | (subst ho; first | decide | (refine And.intro ?_ ?_ <;> decide) | (refine And.intro ?_ (And.intro ?_ ?_) <;> decide) | exact absurd ‹_› (by decide))
    | (subst ho; exact hK.ret _ ⟨[], rfl, rfl, rfl⟩)
theorem c_dec_3 : Call YtnkefikpejjjcaaDoor.Env.pg 31 [.int .i64 3] (.str (dec1 3)) [] := by
  have q0 := c_isF10_3
  generalize dec1 3 = r at q0 ⊢
  have q : Call YtnkefikpejjjcaaDoor.Env.pg 61 [.int .i64 3, .int .i64 10] (.str r) [] := by
    refine Call.of_body YtnkefikpejjjcaaDoor.Env.ok Tryd.func61 rfl rfl ?_; intro o P K ho hP hK; cbv
    repeat' (first | refine And.intro ?_ ?_ | (split; all_goals try cbv) | (refine useD hP YtnkefikpejjjcaaDoor.Env.ok rfl ho (by kernel_rfl) ?_; try cbv) | (first | (refine useS hP (q0) rfl ?_; try cbv) | (refine useRS hP (q0) rfl ?_; try cbv) | (refine useL hP 3 (q0) rfl rfl rfl ?_; try cbv) | (refine useRL hP 3 (q0) rfl rfl rfl ?_; try cbv)))
    subst ho
    exact hK.ret _ ⟨[], rfl, rfl, rfl⟩
  refine Call.of_body YtnkefikpejjjcaaDoor.Env.ok Tryd.func31 rfl rfl ?_; intro o P K ho hP hK; cbv
  repeat' (first | refine And.intro ?_ ?_ | (split; all_goals try cbv) | (refine useD hP YtnkefikpejjjcaaDoor.Env.ok rfl ho (by kernel_rfl) ?_; try cbv) | (first | (refine useS hP (q) rfl ?_; try cbv) | (refine useRS hP (q) rfl ?_; try cbv) | (refine useL hP 3 (q) rfl rfl rfl ?_; try cbv) | (refine useRL hP 3 (q) rfl rfl rfl ?_; try cbv)))
  subst ho
  exact hK.ret _ ⟨[], rfl, rfl, rfl⟩
theorem c_small_4 : Call YtnkefikpejjjcaaDoor.Env.pg 86 [.int .i64 4] (.str (dec1 4)) [] := by
  refine Call.of_body YtnkefikpejjjcaaDoor.Env.ok Tryd.func86 rfl rfl ?_; intro o P K ho hP hK; cbv
  repeat' (first | refine And.intro ?_ ?_ | (split <;> first | (exfalso; clear hK; rename_i h1; subst_vars; exact absurd h1 (by decide)) | (try cbv)) | (refine useD hP YtnkefikpejjjcaaDoor.Env.ok rfl ho (by kernel_rfl) ?_; try cbv))
  all_goals first
    | (subst ho; first | decide | (refine And.intro ?_ ?_ <;> decide) | (refine And.intro ?_ (And.intro ?_ ?_) <;> decide) | exact absurd ‹_› (by decide))
    | (subst ho; exact hK.ret _ ⟨[], rfl, congrArg V.str (by decide), rfl⟩)
theorem c_isF10_4 : Call YtnkefikpejjjcaaDoor.Env.pg 76 [.int .i64 4, .int .i64 10] (.str (dec1 4)) [] := by
  have q := c_small_4
  generalize dec1 4 = r at q ⊢
  refine Call.of_body YtnkefikpejjjcaaDoor.Env.ok Tryd.func76 rfl rfl ?_; intro o P K ho hP hK; cbv
  repeat' (first | refine And.intro ?_ ?_ | (split <;> first | (exfalso; clear hK; rename_i h1; subst_vars; exact absurd h1 (by decide)) | (try cbv)) | (refine useD hP YtnkefikpejjjcaaDoor.Env.ok rfl ho (by kernel_rfl) ?_; try cbv) | (first | (refine useS hP (q) rfl ?_; try cbv) | (refine useRS hP (q) rfl ?_; try cbv) | (refine useL hP 3 (q) rfl rfl rfl ?_; try cbv) | (refine useRL hP 3 (q) rfl rfl rfl ?_; try cbv)))
  all_goals first
    | (subst ho; first | decide | (refine And.intro ?_ ?_ <;> decide) | (refine And.intro ?_ (And.intro ?_ ?_) <;> decide) | exact absurd ‹_› (by decide))
    | (subst ho; exact hK.ret _ ⟨[], rfl, rfl, rfl⟩)
theorem c_dec_4 : Call YtnkefikpejjjcaaDoor.Env.pg 31 [.int .i64 4] (.str (dec1 4)) [] := by
  have q0 := c_isF10_4
  generalize dec1 4 = r at q0 ⊢
  have q : Call YtnkefikpejjjcaaDoor.Env.pg 61 [.int .i64 4, .int .i64 10] (.str r) [] := by
    refine Call.of_body YtnkefikpejjjcaaDoor.Env.ok Tryd.func61 rfl rfl ?_; intro o P K ho hP hK; cbv
    repeat' (first | refine And.intro ?_ ?_ | (split; all_goals try cbv) | (refine useD hP YtnkefikpejjjcaaDoor.Env.ok rfl ho (by kernel_rfl) ?_; try cbv) | (first | (refine useS hP (q0) rfl ?_; try cbv) | (refine useRS hP (q0) rfl ?_; try cbv) | (refine useL hP 3 (q0) rfl rfl rfl ?_; try cbv) | (refine useRL hP 3 (q0) rfl rfl rfl ?_; try cbv)))
    subst ho
    exact hK.ret _ ⟨[], rfl, rfl, rfl⟩
  refine Call.of_body YtnkefikpejjjcaaDoor.Env.ok Tryd.func31 rfl rfl ?_; intro o P K ho hP hK; cbv
  repeat' (first | refine And.intro ?_ ?_ | (split; all_goals try cbv) | (refine useD hP YtnkefikpejjjcaaDoor.Env.ok rfl ho (by kernel_rfl) ?_; try cbv) | (first | (refine useS hP (q) rfl ?_; try cbv) | (refine useRS hP (q) rfl ?_; try cbv) | (refine useL hP 3 (q) rfl rfl rfl ?_; try cbv) | (refine useRL hP 3 (q) rfl rfl rfl ?_; try cbv)))
  subst ho
  exact hK.ret _ ⟨[], rfl, rfl, rfl⟩
theorem c_small_5 : Call YtnkefikpejjjcaaDoor.Env.pg 86 [.int .i64 5] (.str (dec1 5)) [] := by
  refine Call.of_body YtnkefikpejjjcaaDoor.Env.ok Tryd.func86 rfl rfl ?_; intro o P K ho hP hK; cbv
  repeat' (first | refine And.intro ?_ ?_ | (split <;> first | (exfalso; clear hK; rename_i h1; subst_vars; exact absurd h1 (by decide)) | (try cbv)) | (refine useD hP YtnkefikpejjjcaaDoor.Env.ok rfl ho (by kernel_rfl) ?_; try cbv))
  all_goals first
    | (subst ho; first | decide | (refine And.intro ?_ ?_ <;> decide) | (refine And.intro ?_ (And.intro ?_ ?_) <;> decide) | exact absurd ‹_› (by decide))
    | (subst ho; exact hK.ret _ ⟨[], rfl, congrArg V.str (by decide), rfl⟩)
theorem c_isF10_5 : Call YtnkefikpejjjcaaDoor.Env.pg 76 [.int .i64 5, .int .i64 10] (.str (dec1 5)) [] := by
  have q := c_small_5
  generalize dec1 5 = r at q ⊢
  refine Call.of_body YtnkefikpejjjcaaDoor.Env.ok Tryd.func76 rfl rfl ?_; intro o P K ho hP hK; cbv
  repeat' (first | refine And.intro ?_ ?_ | (split <;> first | (exfalso; clear hK; rename_i h1; subst_vars; exact absurd h1 (by decide)) | (try cbv)) | (refine useD hP YtnkefikpejjjcaaDoor.Env.ok rfl ho (by kernel_rfl) ?_; try cbv) | (first | (refine useS hP (q) rfl ?_; try cbv) | (refine useRS hP (q) rfl ?_; try cbv) | (refine useL hP 3 (q) rfl rfl rfl ?_; try cbv) | (refine useRL hP 3 (q) rfl rfl rfl ?_; try cbv)))
  all_goals first
    | (subst ho; first | decide | (refine And.intro ?_ ?_ <;> decide) | (refine And.intro ?_ (And.intro ?_ ?_) <;> decide) | exact absurd ‹_› (by decide))
    | (subst ho; exact hK.ret _ ⟨[], rfl, rfl, rfl⟩)
theorem c_dec_5 : Call YtnkefikpejjjcaaDoor.Env.pg 31 [.int .i64 5] (.str (dec1 5)) [] := by
  have q0 := c_isF10_5
  generalize dec1 5 = r at q0 ⊢
  have q : Call YtnkefikpejjjcaaDoor.Env.pg 61 [.int .i64 5, .int .i64 10] (.str r) [] := by
    refine Call.of_body YtnkefikpejjjcaaDoor.Env.ok Tryd.func61 rfl rfl ?_; intro o P K ho hP hK; cbv
    repeat' (first | refine And.intro ?_ ?_ | (split; all_goals try cbv) | (refine useD hP YtnkefikpejjjcaaDoor.Env.ok rfl ho (by kernel_rfl) ?_; try cbv) | (first | (refine useS hP (q0) rfl ?_; try cbv) | (refine useRS hP (q0) rfl ?_; try cbv) | (refine useL hP 3 (q0) rfl rfl rfl ?_; try cbv) | (refine useRL hP 3 (q0) rfl rfl rfl ?_; try cbv)))
    subst ho
    exact hK.ret _ ⟨[], rfl, rfl, rfl⟩
  refine Call.of_body YtnkefikpejjjcaaDoor.Env.ok Tryd.func31 rfl rfl ?_; intro o P K ho hP hK; cbv
  repeat' (first | refine And.intro ?_ ?_ | (split; all_goals try cbv) | (refine useD hP YtnkefikpejjjcaaDoor.Env.ok rfl ho (by kernel_rfl) ?_; try cbv) | (first | (refine useS hP (q) rfl ?_; try cbv) | (refine useRS hP (q) rfl ?_; try cbv) | (refine useL hP 3 (q) rfl rfl rfl ?_; try cbv) | (refine useRL hP 3 (q) rfl rfl rfl ?_; try cbv)))
  subst ho
  exact hK.ret _ ⟨[], rfl, rfl, rfl⟩
theorem c_small_6 : Call YtnkefikpejjjcaaDoor.Env.pg 86 [.int .i64 6] (.str (dec1 6)) [] := by
  refine Call.of_body YtnkefikpejjjcaaDoor.Env.ok Tryd.func86 rfl rfl ?_; intro o P K ho hP hK; cbv
  repeat' (first | refine And.intro ?_ ?_ | (split <;> first | (exfalso; clear hK; rename_i h1; subst_vars; exact absurd h1 (by decide)) | (try cbv)) | (refine useD hP YtnkefikpejjjcaaDoor.Env.ok rfl ho (by kernel_rfl) ?_; try cbv))
  all_goals first
    | (subst ho; first | decide | (refine And.intro ?_ ?_ <;> decide) | (refine And.intro ?_ (And.intro ?_ ?_) <;> decide) | exact absurd ‹_› (by decide))
    | (subst ho; exact hK.ret _ ⟨[], rfl, congrArg V.str (by decide), rfl⟩)
theorem c_isF10_6 : Call YtnkefikpejjjcaaDoor.Env.pg 76 [.int .i64 6, .int .i64 10] (.str (dec1 6)) [] := by
  have q := c_small_6
  generalize dec1 6 = r at q ⊢
  refine Call.of_body YtnkefikpejjjcaaDoor.Env.ok Tryd.func76 rfl rfl ?_; intro o P K ho hP hK; cbv
  repeat' (first | refine And.intro ?_ ?_ | (split <;> first | (exfalso; clear hK; rename_i h1; subst_vars; exact absurd h1 (by decide)) | (try cbv)) | (refine useD hP YtnkefikpejjjcaaDoor.Env.ok rfl ho (by kernel_rfl) ?_; try cbv) | (first | (refine useS hP (q) rfl ?_; try cbv) | (refine useRS hP (q) rfl ?_; try cbv) | (refine useL hP 3 (q) rfl rfl rfl ?_; try cbv) | (refine useRL hP 3 (q) rfl rfl rfl ?_; try cbv)))
  all_goals first
    | (subst ho; first | decide | (refine And.intro ?_ ?_ <;> decide) | (refine And.intro ?_ (And.intro ?_ ?_) <;> decide) | exact absurd ‹_› (by decide))
    | (subst ho; exact hK.ret _ ⟨[], rfl, rfl, rfl⟩)
theorem c_dec_6 : Call YtnkefikpejjjcaaDoor.Env.pg 31 [.int .i64 6] (.str (dec1 6)) [] := by
  have q0 := c_isF10_6
  generalize dec1 6 = r at q0 ⊢
  have q : Call YtnkefikpejjjcaaDoor.Env.pg 61 [.int .i64 6, .int .i64 10] (.str r) [] := by
    refine Call.of_body YtnkefikpejjjcaaDoor.Env.ok Tryd.func61 rfl rfl ?_; intro o P K ho hP hK; cbv
    repeat' (first | refine And.intro ?_ ?_ | (split; all_goals try cbv) | (refine useD hP YtnkefikpejjjcaaDoor.Env.ok rfl ho (by kernel_rfl) ?_; try cbv) | (first | (refine useS hP (q0) rfl ?_; try cbv) | (refine useRS hP (q0) rfl ?_; try cbv) | (refine useL hP 3 (q0) rfl rfl rfl ?_; try cbv) | (refine useRL hP 3 (q0) rfl rfl rfl ?_; try cbv)))
    subst ho
    exact hK.ret _ ⟨[], rfl, rfl, rfl⟩
  refine Call.of_body YtnkefikpejjjcaaDoor.Env.ok Tryd.func31 rfl rfl ?_; intro o P K ho hP hK; cbv
  repeat' (first | refine And.intro ?_ ?_ | (split; all_goals try cbv) | (refine useD hP YtnkefikpejjjcaaDoor.Env.ok rfl ho (by kernel_rfl) ?_; try cbv) | (first | (refine useS hP (q) rfl ?_; try cbv) | (refine useRS hP (q) rfl ?_; try cbv) | (refine useL hP 3 (q) rfl rfl rfl ?_; try cbv) | (refine useRL hP 3 (q) rfl rfl rfl ?_; try cbv)))
  subst ho
  exact hK.ret _ ⟨[], rfl, rfl, rfl⟩
theorem c_Decimal (k : Int) (h : inI k 0 6 = true) : Call YtnkefikpejjjcaaDoor.Env.pg 31 [.int .i64 k] (.str (dec1 k.toNat)) [] := by
  have h : 0 ≤ k ∧ k ≤ 6 := by simpa [inI] using h
  have : k = 0 ∨ k = 1 ∨ k = 2 ∨ k = 3 ∨ k = 4 ∨ k = 5 ∨ k = 6 := by omega
  rcases this with rfl | rfl | rfl | rfl | rfl | rfl | rfl
  · exact c_dec_0
  · exact c_dec_1
  · exact c_dec_2
  · exact c_dec_3
  · exact c_dec_4
  · exact c_dec_5
  · exact c_dec_6
end Go.En
