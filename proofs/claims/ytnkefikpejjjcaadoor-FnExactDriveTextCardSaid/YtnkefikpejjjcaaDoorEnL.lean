/-
  AN OPERATION OF THE MACHINE DOES WHAT 'aop' RECKONS: slices made, grown, cut. Own work; generic over the program.
-/
import Derived.Test.YtnkefikpejjjcaaDoorEnK
import Derived.Lib.AppendZeros
set_option linter.unusedVariables false
set_option linter.unusedSectionVars false
set_option linter.unusedSimpArgs false
namespace Go.En

/-- What one content behind another is. -/
structure AppOK (c d c' : Cont) : Prop where
  len : c'.len = c.len + d.len
  sz : c'.sz = c.sz
  sz' : d.sz = c.sz
  cellL : ∀ i j, i < c.len → c'.cell i j = c.cell i j
  cellR : ∀ i j, c.len ≤ i → c'.cell i j = d.cell (i - c.len) j

theorem getD_lt {α : Type} (a b : List α) (i : Nat) (d : α) (h : i < a.length) : (a ++ b).getD i d = a.getD i d := by
  simp only [List.getD_eq_getElem?_getD]
  rw [List.getElem?_append_left h]
theorem getD_ge {α : Type} (a b : List α) (i : Nat) (d : α) (h : a.length ≤ i) : (a ++ b).getD i d = b.getD (i - a.length) d := by
  simp only [List.getD_eq_getElem?_getD]
  rw [List.getElem?_append_right h]

theorem j3 (j : Nat) : j = 0 ∨ j = 1 ∨ ∃ k, j = k + 2 := by
  rcases j with _ | _ | k
  · exact .inl rfl
  · exact .inr (.inl rfl)
  · exact .inr (.inr ⟨k, rfl⟩)

theorem oapp_ok {c d c' : Cont} (h : c.oapp std d = some c') : AppOK c d c' := by
  unfold Cont.oapp at h
  split at h
  all_goals first
    | cases h; done
    | skip
  all_goals
    rename_i a b
    cases h
    refine ⟨by simp [Cont.len, std], rfl, rfl, fun i j hi => ?_, fun i j hi => ?_⟩
    all_goals
      have hi' := hi
      simp only [Cont.len] at hi'
      first
        | (simp only [Cont.cell, std, getD_lt _ _ _ _ hi']; done)
        | (simp only [Cont.cell, Cont.len, std, getD_ge _ _ _ _ hi']; done)
        | (rcases j3 j with rfl | rfl | ⟨k, rfl⟩ <;> simp only [Cont.cell, Cont.len, std] <;> first | (rw [getD_lt _ _ _ _ hi']; done) | (rw [getD_ge _ _ _ _ hi']; done))

theorem div_at {m i j : Nat} (hj : j < m) : (i * m + j) / m = i ∧ (i * m + j) % m = j := by
  constructor
  · rw [Nat.mul_comm, Nat.mul_add_div (by omega)]; simp [Nat.div_eq_of_lt hj]
  · rw [Nat.mul_comm, Nat.mul_add_mod]; exact Nat.mod_eq_of_lt hj

theorem list_of {n : Nat} {R : Nat → Value → Prop} (h : ∀ k, k < n → ∃ u, R k u) : ∃ us : List Value, us.length = n ∧ ∀ (k : Nat) (u : Value), us[k]? = some u → R k u := by
  induction n with
  | zero => exact ⟨[], rfl, fun k u h => by simp at h⟩
  | succ n ih =>
    obtain ⟨us, hl, hu⟩ := ih fun k hk => h k (by omega)
    obtain ⟨u, hr⟩ := h n (by omega)
    refine ⟨us ++ [u], by simp [hl], fun k x hx => ?_⟩
    rcases getElem?_snoc hx with hx | ⟨rfl, rfl⟩
    · exact hu k x hx
    · rw [hl]; exact hr

theorem RdCells.app {ws : Ws} {c d c' : Cont} (ha : AppOK c d c') {xs ys : List Value} (hl : xs.length = c.len * c.sz) (h : RdCells ws c xs) (k : RdCells ws d ys) : RdCells ws c' (xs ++ ys) := by
  intro i hi j hj
  rw [ha.len] at hi
  rw [ha.sz] at hj ⊢
  by_cases hlt : i < c.len
  · rw [ha.cellL i j hlt]
    obtain ⟨u, hu, hr⟩ := h i hlt j hj
    refine ⟨u, ?_, hr⟩
    have : (i + 1) * c.sz ≤ c.len * c.sz := Nat.mul_le_mul_right _ hlt
    rw [Nat.succ_mul] at this
    rw [List.getElem?_append_left (by omega)]
    exact hu
  · rw [ha.cellR i j (by omega)]
    obtain ⟨u, hu, hr⟩ := k (i - c.len) (by omega) j (by rw [ha.sz']; exact hj)
    refine ⟨u, ?_, hr⟩
    rw [ha.sz'] at hu
    have e : i * c.sz + j = c.len * c.sz + ((i - c.len) * c.sz + j) := by
      have : i * c.sz = c.len * c.sz + (i - c.len) * c.sz := by rw [← Nat.add_mul]; congr 1; omega
      omega
    rw [List.getElem?_append_right (by rw [hl, e]; omega), hl, e, Nat.add_sub_cancel_left]
    exact hu

section
variable {P : Program} {E : Env} (hE : EnvOK P E) {g : Gh} {st : St} {a : Act} {w : World}

/-- The cells of what is appended. -/
theorem news_of {d : Cont} {b off : Nat} {ws : Ws} (hl : ∀ i, i < d.len → ∀ j, j < d.sz → ∃ u, w.cell? ⟨b, off + (i * d.sz + j), none⟩ = some u ∧ RdCell ws (d.cell i j) u ∧ u.oneCell' = true) (hs : 0 < d.sz) :
    ∃ news : List Value, news.length = d.len * d.sz ∧ (∀ (j : Nat) (u : Value), news[j]? = some u → w.cell? ((⟨b, off, none⟩ : Addr).add j) = some u) ∧ (∀ u ∈ news, u.oneCell' = true) ∧ RdCells ws d news := by
  obtain ⟨us, h1, h2⟩ := list_of (n := d.len * d.sz) (R := fun k u => w.cell? ⟨b, off + k, none⟩ = some u ∧ RdCell ws (d.cell (k / d.sz) (k % d.sz)) u ∧ u.oneCell' = true) (fun k hk => by
    have hi : k / d.sz < d.len := (Nat.div_lt_iff_lt_mul hs).2 hk
    have hj : k % d.sz < d.sz := Nat.mod_lt _ hs
    obtain ⟨u, hu⟩ := hl _ hi _ hj
    rw [Nat.mul_comm, Nat.div_add_mod] at hu
    exact ⟨u, hu⟩)
  refine ⟨us, h1, fun j u hu => by rw [add_at]; exact (h2 j u hu).1, fun u hu => ?_, fun i hi j hj => ?_⟩
  · obtain ⟨k, hk⟩ := List.mem_iff_getElem?.1 hu
    exact (h2 k u hk).2.2
  · have hlt : i * d.sz + j < us.length := by
      rw [h1]
      have : (i + 1) * d.sz ≤ d.len * d.sz := Nat.mul_le_mul_right _ hi
      rw [Nat.succ_mul] at this
      omega
    refine ⟨us[i * d.sz + j], List.getElem?_eq_getElem hlt, ?_⟩
    have := (h2 _ _ (List.getElem?_eq_getElem hlt)).2.1
    rwa [(div_at hj).1, (div_at hj).2] at this

theorem sz_pos (c : Cont) : 0 < c.sz := by cases c <;> simp [Cont.sz]

/-- 'append', onto a row of the call's own or a nil slice. -/
theorem run_app {t e : Nat} (ty : Nat) {i : TypeInfo} {z : Value} {c d c' : Cont} (ht : P.underlying t = some (.slice e)) (hi : P.info? e = some i) (hz : i.zero = some z) (hzs : z.cells.size = c.sz) (hs : i.size = c.sz) (hb : i.bytes ≤ 64)
    {v : Value} {xs : List Value} (ho : w.ownsRow 0 e c.sz v c.len xs) (hr : RdCells g.ws c xs) (h1 : ∀ u ∈ xs, u.oneCell' = true) (ha : AppOK c d c') (hsm : c'.len ≤ 1099511627776)
    {ad : Option Addr} {cap : Nat} (hcap : d.len ≤ cap) (hd : d.len = 0 ∨ ∃ b off, ad = some ⟨b, off, none⟩ ∧ ∀ i, i < d.len → ∀ j, j < d.sz → ∃ u, w.cell? ⟨b, off + (i * d.sz + j), none⟩ = some u ∧ RdCell g.ws (d.cell i j) u ∧ u.oneCell' = true) :
    ∃ v' w' xs', (Builtin.append_ #[t, t] ty #[v, .slice ad d.len cap]).run P w = .ok v' w' ∧ isSl v' = true ∧ w'.ownsRow 0 e c'.sz v' c'.len xs' ∧ RdCells g.ws c' xs' ∧ (∀ u ∈ xs', u.oneCell' = true) ∧ w.grownBy w' v.ownBlock ∧
      ∀ b, v'.ownBlock = some b → v.ownBlock = some b ∨ w.heap.size ≤ b := by
  have hlx : xs.length = c.len * c.sz := ho.1
  by_cases h0 : d.len = 0
  · -- nothing is appended
    have hrun : (Builtin.append_ #[t, t] ty #[v, .slice ad d.len cap]).run P w = .ok v w := by
      rw [h0]
      rcases ho.2 with ⟨rfl, _⟩ | ⟨b, cp, cur, rfl, _, _, hnc, _⟩
      · cases ad <;> simp [Builtin.append_, run_underlying ht, sizeOf, typeInfo, hi, Builtin.lenOf, Builtin.firstCells, loadCells, loadCellsFrom]
      · cases ad <;> simp [Builtin.append_, run_underlying ht, sizeOf, typeInfo, hi, Builtin.lenOf, Builtin.firstCells, loadCells, loadCellsFrom, hnc, storeCells]
    have hlen : c'.len = c.len := by rw [ha.len, h0, Nat.add_zero]
    refine ⟨v, w, xs, hrun, ?_, by rw [hlen, ha.sz]; exact ho, fun i hi j hj => ?_, h1, ⟨rfl, rfl, rfl, Nat.le_refl _, fun _ _ _ => rfl⟩, fun b hb => .inl hb⟩
    · rcases ho.2 with ⟨rfl, _⟩ | ⟨b, cp, cur, rfl, _⟩ <;> rfl
    · rw [hlen] at hi
      rw [ha.cellL i j hi, ha.sz]
      rw [ha.sz] at hj
      exact hr i hi j hj
  · rcases hd with hd | ⟨b, off, rfl, hd⟩
    · exact absurd hd h0
    · obtain ⟨news, hl, hn, hn1, hnr⟩ := news_of hd (sz_pos d)
      rw [ha.sz'] at hl
      have hsum : c.len + d.len ≤ 1099511627776 := by rw [← ha.len]; exact hsm
      have hby : (c.len + d.len) * i.bytes ≤ 140737488355328 := by
        have : (c.len + d.len) * i.bytes ≤ 1099511627776 * 64 := Nat.mul_le_mul hsum hb
        omega
      obtain ⟨v', w', hrun, ho', hg, _⟩ := run_append_own (P := P) w 0 t ty e i z c.sz i.bytes ht hi hz hs rfl hzs (sz_pos c) v c.len xs ho ⟨b, off, none⟩ d.len cap news hl hn hn1 (by simp only [maxLen]; omega) hby (Nat.zero_le _)
      refine ⟨v', w', xs ++ news, hrun, ?_, by rw [ha.len, ha.sz]; exact ho', hr.app ha hlx hnr, fun u hu => ?_, hg, fun b' hb' => ?_⟩
      · rcases ho'.2 with ⟨rfl, _⟩ | ⟨_, _, _, rfl, _⟩ <;> rfl
      · rcases List.mem_append.1 hu with hu | hu
        · exact h1 u hu
        · exact hn1 u hu
      · rcases ho.2 with ⟨rfl, hc0⟩ | ⟨b0, cp, cur, rfl, _, hb0, hnc, _, hcs, htk⟩
        · have := run_append_nil (P := P) w t ty e i z ht hi hz ⟨b, off, none⟩ d.len cap news (by rw [hs]; exact hl) hn (by omega) (by omega) (by rw [hc0] at hby; simp at hby; omega)
          rw [this] at hrun
          injection hrun with hv
          subst hv
          simp [Value.ownBlock] at hb'
          omega
        · by_cases hroom : c.len + d.len ≤ cp
          · have := run_append_room (P := P) w t ty e i ht hi b0 c.len cp cur hb0 ⟨b, off, none⟩ d.len cap news (by rw [hs]; exact hl) hn hn1 hroom (by rw [hs, hl, hcs, ← Nat.add_mul]; exact Nat.mul_le_mul_right _ hroom)
            rw [this] at hrun
            injection hrun with hv
            subst hv
            exact .inl hb'
          · have := run_append_grow (P := P) w t ty e i z ht hi hz ⟨b0, 0, none⟩ c.len cp xs (by rw [hs]; exact hlx) (fun j u hu => ho.cells (g := b0) rfl j u hu) ⟨b, off, none⟩ d.len cap news (by rw [hs]; exact hl) hn (by omega) (by omega) (growslice_fits (by omega) hby)
            rw [this] at hrun
            injection hrun with hv
            subst hv
            simp [Value.ownBlock] at hb'
            omega

/-- A fresh row's facts behind a growth. -/
theorem grown_row {e : Nat} {i : TypeInfo} {z : Value} {sz n m old : Nat} (hzs : z.cells.size = sz) (xs news : List Value) (hx : xs.length = n * sz) (hl : news.length = m * sz) (h63 : n + m ≤ maxLen) :
    (w.drew.alloc (.cells (xs.toArray ++ news.toArray ++ Builtin.zeroCells z.cells (grownCap w (n + m) old e - (n + m))) e)).ownsRow 0 e sz (.slice (some ⟨w.heap.size, 0, none⟩) (n + m) (grownCap w (n + m) old e)) (n + m) (xs ++ news) ∧
      w.grownBy (w.drew.alloc (.cells (xs.toArray ++ news.toArray ++ Builtin.zeroCells z.cells (grownCap w (n + m) old e - (n + m))) e)) none := by
  have hlen : (xs ++ news).length = (n + m) * sz := by rw [List.length_append, hx, hl, Nat.add_mul]
  have hge := grownCap_ge w (n + m) old e
  have hcm : grownCap w (n + m) old e ≤ maxLen := grownCap_le_maxLen w (n + m) old e h63
  refine ⟨⟨hlen, .inr ⟨w.heap.size, _, _, rfl, Nat.zero_le _, heap_alloc_new w.drew _, hge, hcm, ?_, ?_⟩⟩, ⟨rfl, rfl, rfl, by simp, fun k hk _ => alloc_old w.drew _ k hk⟩⟩
  · simp only [Array.size_append, List.size_toArray, size_zeroCells, hzs, hx, hl, ← Nat.add_mul]
    congr 1
    omega
  · simp only [Array.toList_append, List.append_assoc]
    rw [← List.append_assoc, ← hlen]
    exact List.take_left

/-- 'append', onto a slice whose capacity is its length: always a new row. -/
theorem run_app_tight {t e : Nat} (ty : Nat) {i : TypeInfo} {z : Value} {c d c' : Cont} (ht : P.underlying t = some (.slice e)) (hi : P.info? e = some i) (hz : i.zero = some z) (hzs : z.cells.size = c.sz) (hs : i.size = c.sz) (hb : i.bytes ≤ 64)
    (ha : AppOK c d c') (hsm : c'.len ≤ 1099511627776) (hd0 : d.len ≠ 0)
    {ad0 : Option Addr} (hc : c.len = 0 ∨ ∃ b off, ad0 = some ⟨b, off, none⟩ ∧ ∀ i, i < c.len → ∀ j, j < c.sz → ∃ u, w.cell? ⟨b, off + (i * c.sz + j), none⟩ = some u ∧ RdCell g.ws (c.cell i j) u ∧ u.oneCell' = true)
    {ad : Option Addr} {cap : Nat} (hd : d.len = 0 ∨ ∃ b off, ad = some ⟨b, off, none⟩ ∧ ∀ i, i < d.len → ∀ j, j < d.sz → ∃ u, w.cell? ⟨b, off + (i * d.sz + j), none⟩ = some u ∧ RdCell g.ws (d.cell i j) u ∧ u.oneCell' = true) :
    ∃ v' w' xs', (Builtin.append_ #[t, t] ty #[.slice ad0 c.len c.len, .slice ad d.len cap]).run P w = .ok v' w' ∧ isSl v' = true ∧ w'.ownsRow 0 e c'.sz v' c'.len xs' ∧ RdCells g.ws c' xs' ∧ (∀ u ∈ xs', u.oneCell' = true) ∧ w.grownBy w' none ∧
      ∀ b, v'.ownBlock = some b → w.heap.size ≤ b := by
  rcases hd with hd | ⟨b, off, rfl, hd⟩
  · exact absurd hd hd0
  obtain ⟨news, hl, hn, hn1, hnr⟩ := news_of hd (sz_pos d)
  rw [ha.sz'] at hl
  have hsum : c.len + d.len ≤ 1099511627776 := by rw [← ha.len]; exact hsm
  have hby : (c.len + d.len) * i.bytes ≤ 140737488355328 := by
    have : (c.len + d.len) * i.bytes ≤ 1099511627776 * 64 := Nat.mul_le_mul hsum hb
    omega
  have h63 : c.len + d.len ≤ maxLen := by simp only [maxLen]; omega
  have fin : ∀ (xs : List Value), xs.length = c.len * c.sz → RdCells g.ws c xs → (∀ u ∈ xs, u.oneCell' = true) →
      (Builtin.append_ #[t, t] ty #[.slice ad0 c.len c.len, .slice (some ⟨b, off, none⟩) d.len cap]).run P w = .ok (.slice (some ⟨w.heap.size, 0, none⟩) (c.len + d.len) (grownCap w (c.len + d.len) c.len e)) (w.drew.alloc (.cells (xs.toArray ++ news.toArray ++ Builtin.zeroCells z.cells (grownCap w (c.len + d.len) c.len e - (c.len + d.len))) e)) →
      ∃ v' w' xs', (Builtin.append_ #[t, t] ty #[.slice ad0 c.len c.len, .slice (some ⟨b, off, none⟩) d.len cap]).run P w = .ok v' w' ∧ isSl v' = true ∧ w'.ownsRow 0 e c'.sz v' c'.len xs' ∧ RdCells g.ws c' xs' ∧ (∀ u ∈ xs', u.oneCell' = true) ∧ w.grownBy w' none ∧
        ∀ b, v'.ownBlock = some b → w.heap.size ≤ b := by
    intro xs hx hr h1 hrun
    obtain ⟨q1, q2⟩ := grown_row (w := w) (e := e) (i := i) (z := z) (old := c.len) hzs xs news hx hl h63
    refine ⟨_, _, xs ++ news, hrun, rfl, by rw [ha.len, ha.sz]; exact q1, hr.app ha hx hnr, fun u hu => ?_, q2, fun b' hb' => by simp [Value.ownBlock] at hb'; omega⟩
    rcases List.mem_append.1 hu with hu | hu
    · exact h1 u hu
    · exact hn1 u hu
  by_cases h0 : c.len = 0
  · refine fin [] (by rw [h0]; simp) (fun i hi => by omega) (fun u hu => by simp at hu) ?_
    cases ad0 with
    | none =>
      have := run_append_nil (P := P) w t ty e i z ht hi hz ⟨b, off, none⟩ d.len cap news (by rw [hs]; exact hl) hn (by omega) (by omega) (by rw [h0] at hby; simp at hby; omega)
      rw [h0]
      simp only [Nat.zero_add, List.nil_append, Array.empty_append]
      rw [this]
    | some a0 =>
      have := run_append_grow (P := P) w t ty e i z ht hi hz a0 0 0 [] (by simp) (fun j u hu => by simp at hu) ⟨b, off, none⟩ d.len cap news (by rw [hs]; exact hl) hn (by omega) (by omega) (growslice_fits (by omega) (by rw [h0] at hby; exact hby))
      rw [h0]
      exact this
  · rcases hc with hc | ⟨b0, off0, rfl, hc⟩
    · exact absurd hc h0
    · obtain ⟨xs, hxl, hxn, hx1, hxr⟩ := news_of hc (sz_pos c)
      refine fin xs hxl hxr hx1 ?_
      exact run_append_grow (P := P) w t ty e i z ht hi hz ⟨b0, off0, none⟩ c.len c.len xs (by rw [hs]; exact hxl) hxn ⟨b, off, none⟩ d.len cap news (by rw [hs]; exact hl) hn (by omega) (by omega) (growslice_fits (by omega) hby)

end
end Go.En
