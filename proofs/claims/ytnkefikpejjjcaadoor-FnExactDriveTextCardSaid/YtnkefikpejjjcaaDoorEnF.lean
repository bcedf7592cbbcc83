/-
  AN OPERATION OF THE MACHINE DOES WHAT 'aop' RECKONS: conversions and memory. Own work; generic over the program.
-/
import Derived.Test.YtnkefikpejjjcaaDoorEnE
set_option linter.unusedVariables false
set_option linter.unusedSectionVars false
set_option linter.unusedSimpArgs false
namespace Go.En

theorem isNaN_iff (k : FloatKind) (b : Nat) : (k.decode b).isNaN = decide (k.format.infRung < b % k.format.signWeight) := by
  by_cases h : k.format.infRung < b % k.format.signWeight
  · rw [isNaN_of_rung k b h, decide_eq_true h]
  · rw [decide_eq_false h]
    show (k.format.read b).isNaN = false
    unfold Ieee.Format.read
    simp only
    split
    · rfl
    · split
      · rfl
      · have : b % k.format.signWeight = k.format.infRung := by omega
        simp [this, Ieee.Datum.isNaN]

theorem neg_isNaN (k : FloatKind) (b : Nat) : (k.decode (Op.negFloat k b)).isNaN = (k.decode b).isNaN := by
  rw [isNaN_iff, isNaN_iff]
  have : Op.negFloat k b % k.format.signWeight = b % k.format.signWeight := by
    unfold Op.negFloat Ieee.Format.signWeight
    rw [Nat.xor_mod_two_pow]
    simp
  rw [this]

theorem fneg_cn (k : FloatKind) (b : Nat) : cn k (Op.negFloat k b) = fneg k (cn k b) := by
  unfold fneg
  by_cases h : (k.decode b).isNaN = true
  · rw [cn_of_nan h, cn_of_nan (by rw [neg_isNaN, h]), cn_of_nan (by rw [neg_isNaN, nan_isNaN])]
  · rw [cn_of_not (b := b) (by simpa using h)]

section
variable {P : Program} {E : Env} (hE : EnvOK P E) {g : Gh} {st : St} {a : Act} {w : World}

theorem aUn_ok (hg : Good E.G g st a w) {sem : Sem Next} (op : UnOp) {vx : V} {x : Value} (hx : Rd g vx x)
    (hrun : ∀ v w', (Op.unary op x).run P w = .ok v w' → sem.run P w = .ok (.value v) w') : RS P E sem g a w st (aUn std st op vx) := by
  unfold aUn
  split
  · rename_i b
    obtain rfl : x = .bool b := hx
    refine OpOK.same hg (hrun (.bool !b) w (by simp [Op.unary])) ?_
    cases b <;> rfl
  · rename_i k n
    obtain rfl : x = .int k n := hx
    split
    · refine OpOK.same hg (hrun _ w ?_) rfl
      simp only [Op.unary, Op.intArith, std]
      rfl
    intro hp
    have hp : k.min ≤ 0 - n ∧ 0 - n ≤ k.max := hp
    refine OpOK.same hg (hrun _ w ?_) rfl
    simp only [Op.unary, Op.intArith, wrap_in k _ hp, std]
    rfl
  · rename_i k n
    obtain ⟨b, rfl, rfl⟩ := hx
    refine OpOK.same hg (hrun (.float k (Op.negFloat k b)) w (by simp [Op.unary])) ⟨_, rfl, fneg_cn k b⟩
  · rename_i k n m
    obtain ⟨b, c, rfl, rfl, rfl⟩ := hx
    refine OpOK.same hg (hrun (.complex k (Op.negFloat k b) (Op.negFloat k c)) w (by simp [Op.unary])) ⟨_, _, rfl, fneg_cn k b, fneg_cn k c⟩
  · trivial

/-- Float to float. -/
theorem run_conv (q k : FloatKind) (hne : q ≠ k) (b : Nat) (hf : std.fits q k (cn q b)) : ∃ r w', (Conv.floatToFloat q b k).run P w = .ok (.float k r) w' ∧ cn k r = std.conv q k (cn q b) ∧ drewSome w w' := by
  unfold Conv.floatToFloat
  rw [if_neg hne]
  have hc : std.conv q k (cn q b) = if (q.decode (cn q b)).isNaN then nan k else k.encode (q.decode (cn q b)) := rfl
  rw [hc]
  cases hd : q.decode b with
  | nan s f =>
    have hn : (q.decode b).isNaN = true := by rw [hd]; rfl
    refine ⟨(Question.nanConv k b).cut (w.tape w.drawn (.nanConv k b)), { w with drawn := w.drawn + 1 }, by simp [Question.forced], ?_, _, rfl⟩
    rw [cn_of_nan (cut_nanConv k b _), cn_isNaN, hn]
    rfl
  | infinity s =>
    have hn : (q.decode b).isNaN = false := by rw [hd]; rfl
    refine ⟨k.encode (.infinity s), w, rfl, ?_, .refl w⟩
    rw [cn_of_not hn, hd]
    exact cn_of_not (write_num k.format _ rfl)
  | number s m e =>
    have hn : (q.decode b).isNaN = false := by rw [hd]; rfl
    have hf' : (k.decode (k.encode (.number s m e))).isInfinity = false := by
      rcases hf with h | h
      · rw [cn_of_not hn, hd] at h; cases h
      · rw [cn_of_not hn, hd] at h; exact h
    refine ⟨k.encode (.number s m e), w, ?_, ?_, .refl w⟩
    · simp [hf']
    · rw [cn_of_not hn, hd]
      exact cn_of_not (write_num k.format _ rfl)

theorem td_ne_other_int {td : TD} {k : IntKind} (h : td = .int k) : td ≠ .other := by rw [h]; simp

theorem ofint_cn (k : FloatKind) (n : Int) : cn k (k.nearest n) = k.nearest n :=
  cn_of_not (show (k.format.read (k.format.write (.number (n < 0) n.natAbs 0))).isNaN = false from write_num k.format _ rfl)

/-- What a slice's value is. -/
theorem contents_ok (hg : Good E.G g st a w) {v : V} {c : Cont} (hc : contents st v = some c) {x : Value} (hx : Rd g v x) :
    ∃ ad cap, x = .slice ad c.len cap ∧ c.len ≤ cap ∧ (c.len = 0 ∨ ∃ b off, ad = some ⟨b, off, none⟩ ∧ ∀ i, i < c.len → ∀ j, j < c.sz → ∃ u, w.cell? ⟨b, off + (i * c.sz + j), none⟩ = some u ∧ RdCell g.ws (c.cell i j) u ∧ u.oneCell' = true) := by
  have one : ∀ {u : Value} {i j : Nat}, RdCell g.ws (c.cell i j) u → u.oneCell' = true := by
    intro u i j h
    cases c <;> simp only [Cont.cell, RdCell] at h
    all_goals first
      | (obtain ⟨ad, cap, rfl, _⟩ := h; rfl)
      | (rcases j with _ | _ | j <;> simp only [Sc] at h <;> obtain ⟨_, rfl, _⟩ := h <;> rfl)
      | (simp only [Sc] at h; first | (obtain ⟨_, rfl, _⟩ := h; rfl) | (obtain ⟨_, _, rfl, _⟩ := h; rfl) | (subst h; rfl))
  unfold contents at hc
  split at hc
  · cases hc
    obtain ⟨ad, cap, rfl, h1, _, h2⟩ := hx
    refine ⟨ad, cap, rfl, h1, ?_⟩
    rcases h2 with h2 | ⟨b, off, had, h2⟩
    · exact .inl h2
    · refine .inr ⟨b, off, had, fun i hi j hj => ?_⟩
      obtain ⟨u, hu, hr⟩ := h2 i hi j hj
      refine ⟨u, ?_, hr, one hr⟩
      unfold scell at hu
      cases hb : g.ws b with
      | none => rw [hb] at hu; cases hu
      | some ob =>
        rw [hb] at hu
        have := hg.mem.still b ob hb
        cases ob <;> simp only at hu <;> first | cases hu | skip
        simp [World.cell?, this, hu]
  · cases hc
    rename_i k
    have : (empty k).len = 0 := by cases k <;> rfl
    obtain rfl : x = .slice none 0 0 := hx
    exact ⟨none, 0, by rw [this], by omega, .inl this⟩
  · rename_i i
    split at hc
    · rename_i e c' hn
      cases hc
      rw [nth_eq] at hn
      obtain ⟨id, hid, hin⟩ := hg.mem.get hn
      have hx : g.ids[i]? = some (.row x) := hx.1
      rw [hx] at hid
      cases hid
      obtain ⟨xs, ho, hr, h1⟩ := hin
      rcases ho.2 with ⟨rfl, h0⟩ | ⟨b, cap, cur, rfl, _, hb, hcap, _, _, ht⟩
      · exact ⟨none, 0, by rw [h0], by omega, .inl h0⟩
      · refine ⟨_, cap, rfl, hcap, .inr ⟨b, 0, rfl, fun i hi j hj => ?_⟩⟩
        obtain ⟨u, hu, hrd⟩ := hr i hi j hj
        refine ⟨u, ?_, hrd, one hrd⟩
        rw [← ht, List.getElem?_take] at hu
        split at hu
        · simp [World.cell?, hb] ; simpa using hu
        · cases hu
    · cases hc
  · cases hc

theorem olen_std (c : Cont) : c.olen std = (c.len : Int) := by cases c <;> rfl
theorem ocell_std (c : Cont) (i : Int) (j : Nat) : c.ocell std i j = c.cell i.toNat j := by
  cases c <;> first | rfl | (rcases j with _ | _ | j <;> rfl)

theorem Rd_of_cell {v : V} {x : Value} (h : RdCell g.ws v x) : Rd g v x := by
  cases v with
  | sl c t =>
    cases c with
    | f32 xs =>
      obtain ⟨ad, cap, rfl, h1, h2, h3⟩ := h
      exact ⟨ad, cap, rfl, h1, h2, h3⟩
    | _ => exact False.elim h
  | bool b => exact h
  | int k n => exact h
  | flt k n => exact h
  | cpx k n m => exact h
  | str s => exact h
  | _ => exact False.elim h

theorem cv_int_int {s d : Nat} {ds : TypeDesc} {k q : IntKind} {n : Int} (hu : P.underlying s = some ds) (hv : P.underlying d = some (.int k)) : (convert s d (.int q n)).run P w = .ok (.int k (k.wrap n)) w := by
  cases ds <;> simp [convert, run_underlying hu, run_underlying hv, Conv.intToInt]
theorem cv_int_flt {s d : Nat} {ds : TypeDesc} {k : FloatKind} {q : IntKind} {n : Int} (hu : P.underlying s = some ds) (hv : P.underlying d = some (.float k)) : (convert s d (.int q n)).run P w = .ok (.float k (k.nearest n)) w := by
  cases ds <;> simp [convert, run_underlying hu, run_underlying hv, Conv.intToFloat]
theorem cv_flt_int {s d : Nat} {ds : TypeDesc} {k : IntKind} {q : FloatKind} {b : Nat} (hu : P.underlying s = some ds) (hv : P.underlying d = some (.int k)) : (convert s d (.float q b)).run P w = (Conv.floatToInt q b k).run P w := by
  cases ds <;> simp only [convert, run_underlying hu, run_underlying hv, Sem.run_bind, Result.andThen_ok]
theorem cv_flt_flt {s d : Nat} {ds : TypeDesc} {k : FloatKind} {q : FloatKind} {b : Nat} (hu : P.underlying s = some ds) (hv : P.underlying d = some (.float k)) : (convert s d (.float q b)).run P w = (Conv.floatToFloat q b k).run P w := by
  cases ds <;> simp only [convert, run_underlying hu, run_underlying hv, Sem.run_bind, Result.andThen_ok]
theorem cv_str_str {s d : Nat} {ds : TypeDesc} {t : ByteArray} (hu : P.underlying s = some ds) (hv : P.underlying d = some .string) : (convert s d (.string t)).run P w = .ok (.string t) w := by
  cases ds <;> simp only [convert, run_underlying hu, run_underlying hv, Sem.run_bind, Result.andThen_ok, Sem.run_pure]

include hE in
theorem aConv_ok (hg : Good E.G g st a w) {sem : Sem Next} (s d : Nat) {vx : V} {x : Value} (hx : Rd g vx x)
    (hrun : ∀ v w', (convert s d x).run P w = .ok v w' → sem.run P w = .ok (.value v) w') : RS P E sem g a w st (aConv std E st s d vx) := by
  unfold aConv
  split
  · trivial
  · rename_i td k q n hd hs
    obtain ⟨ds, hu, _⟩ := td_ok hE (t := s) rfl (fun e => hs (by rw [e]))
    obtain ⟨_, hv, rfl⟩ := td_ok hE hd (by simp)
    obtain rfl : x = .int q n := hx
    refine OpOK.same hg (hrun (.int k (k.wrap n)) w ?_) rfl
    exact cv_int_int hu hv
  · rename_i td k q n hd hs
    obtain ⟨ds, hu, _⟩ := td_ok hE (t := s) rfl (fun e => hs (by rw [e]))
    obtain ⟨_, hv, rfl⟩ := td_ok hE hd (by simp)
    obtain rfl : x = .int q n := hx
    refine OpOK.same hg (hrun (.float k (k.nearest n)) w ?_) ⟨_, rfl, ofint_cn k n⟩
    exact cv_int_flt hu hv
  · rename_i td k q n hd hs
    obtain ⟨ds, hu, _⟩ := td_ok hE (t := s) rfl (fun e => hs (by rw [e]))
    obtain ⟨_, hv, rfl⟩ := td_ok hE hd (by simp)
    obtain ⟨b, rfl, rfl⟩ := hx
    intro hp
    obtain ⟨m, hm, h1, h2⟩ := hp
    have hn : (q.decode b).isNaN = false := by
      cases hb : (q.decode b).isNaN with
      | false => rfl
      | true =>
        have : (q.decode (cn q b)).isNaN = true := by rw [cn_isNaN, hb]
        cases hq : q.decode (cn q b) <;> rw [hq] at this <;> simp [Ieee.Datum.isNaN] at this
        rw [hq] at hm
        simp [Ieee.Datum.toInt, Ieee.Datum.integral] at hm
    rw [cn_of_not hn] at hm
    refine OpOK.same hg (hrun (.int k m) w ?_) ?_
    · rw [cv_flt_int hu hv]; simp [Conv.floatToInt, hm, h1, h2]
    · show Value.int k m = .int k (((q.decode (cn q b)).toInt .zero).getD 0)
      rw [cn_of_not hn, hm]; rfl
  · rename_i td k q n hd hs
    obtain ⟨ds, hu, _⟩ := td_ok hE (t := s) rfl (fun e => hs (by rw [e]))
    obtain ⟨_, hv, rfl⟩ := td_ok hE hd (by simp)
    obtain ⟨b, rfl, rfl⟩ := hx
    split
    · rename_i he
      obtain rfl := eqFK_eq he
      refine OpOK.same hg (hrun (.float k b) w ?_) ⟨b, rfl, rfl⟩
      rw [cv_flt_flt hu hv]; simp [Conv.floatToFloat]
    · rename_i he
      intro hp
      have hne : q ≠ k := fun e => by subst e; cases q <;> cases he
      obtain ⟨r, w', h1, h2, h3⟩ := run_conv (P := P) (w := w) q k hne b hp
      refine OpOK.drawn hg (hrun (.float k r) w' ?_) h3 ⟨r, rfl, h2⟩
      rw [cv_flt_flt hu hv, h1]
  · rename_i td t hd hs
    obtain ⟨ds, hu, _⟩ := td_ok hE (t := s) rfl (fun e => hs (by rw [e]))
    obtain ⟨_, hv, rfl⟩ := td_ok hE hd (by simp)
    obtain rfl : x = .string t := hx
    refine OpOK.same hg (hrun (.string t) w ?_) rfl
    exact cv_str_str hu hv
  · rename_i e hs hd hn
    split
    · rename_i xs he hc
      obtain ⟨_, hu, rfl⟩ := td_ok hE hs (by simp)
      obtain ⟨_, hv, rfl⟩ := td_ok hE hd (by simp)
      obtain ⟨_, hk, rfl⟩ := td_ok hE he (by simp)
      obtain ⟨ad, cap, rfl, hcap, hl⟩ := contents_ok hg hc hx
      have hlen : (Cont.u8 xs).len = xs.length := rfl
      rw [hlen] at *
      refine OpOK.same hg (hrun (.string (strOfNums xs)) w ?_) rfl
      rcases hl with h0 | ⟨b, off, rfl, hl⟩
      · obtain rfl : xs = [] := List.eq_nil_of_length_eq_zero h0
        have e0 : strOfNums [] = ByteArray.empty := rfl
        refine (run_convert_bytes_string w s d e ad _ cap hu hk hv).trans ?_
        rw [e0]
        cases ad <;> simp [Conv.bytesToString, loadCells, loadCellsFrom, Cont.len]
      · refine run_convert_bytes_arg w s e hu hk b off xs.length cap xs rfl (fun i hi => ?_) d hv
        obtain ⟨u, hu', hr, _⟩ := hl i hi 0 Nat.zero_lt_one
        obtain rfl : u = .int .u8 (xs.getD i 0) := hr
        simpa [Cont.sz] using hu'
    · trivial
  · trivial

end
end Go.En
