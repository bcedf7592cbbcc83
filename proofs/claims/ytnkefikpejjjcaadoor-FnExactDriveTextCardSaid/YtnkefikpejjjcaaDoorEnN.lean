/-
  AN OPERATION OF THE MACHINE DOES WHAT 'aop' RECKONS: all of it in one theorem. Own work; generic over the program.
-/
import Derived.Test.YtnkefikpejjjcaaDoorEnM
set_option linter.unusedVariables false
set_option linter.unusedSectionVars false
set_option linter.unusedSimpArgs false
namespace Go.En

/-- What a cut of a content is. -/
structure CutOK (c c' : Cont) (l h : Int) : Prop where
  len : c'.len = (h - l).toNat
  sz : c'.sz = c.sz
  cell : ∀ i j, i < c'.len → c'.cell i j = c.cell (l.toNat + i) j

theorem getD_cut {α : Type} (a : List α) (l h : Int) (i : Nat) (d : α) (hi : i < ((a.take h.toNat).drop l.toNat).length) : ((a.take h.toNat).drop l.toNat).getD i d = a.getD (l.toNat + i) d := by
  simp only [List.length_drop, List.length_take] at hi
  simp only [List.getD_eq_getElem?_getD, List.getElem?_drop, List.getElem?_take]
  rw [if_pos (by omega)]

theorem ocut_ok (c : Cont) {l h : Int} (h0 : 0 ≤ l) (h1 : l ≤ h) (h2 : h ≤ (c.len : Int)) : CutOK c (c.ocut std l h) l h := by
  cases c
  all_goals
    rename_i a
    simp only [Cont.len] at h2
    refine ⟨by simp [Cont.ocut, Cont.len, std]; omega, rfl, fun i j hi => ?_⟩
    simp only [Cont.ocut, Cont.len, std] at hi
    first
      | (simp only [Cont.ocut, Cont.cell, std, getD_cut _ _ _ _ _ hi]; done)
      | (rcases j3 j with rfl | rfl | ⟨k, rfl⟩ <;> simp only [Cont.ocut, Cont.cell, std, getD_cut _ _ _ _ _ hi])

section
variable {P : Program} {E : Env} (hE : EnvOK P E) {g : Gh} {st : St} {a : Act} {w : World}

theorem RdSl_cut {ws : Ws} {c c' : Cont} {t t' : Bool} {l h : Int} {ad : Option Addr} {cap : Nat} (h0 : 0 ≤ l) (h1 : l ≤ h) (h2 : h ≤ (c.len : Int)) (hc : CutOK c c' l h) (hx : RdSl ws c t (.slice ad c.len cap)) (ht : t' = true → cap = h.toNat) :
    RdSl ws c' t' (.slice (if cap = l.toNat then ad else ad.map (·.add (l.toNat * c.sz))) (h.toNat - l.toNat) (cap - l.toNat)) := by
  obtain ⟨ad', cap', he, hcap, _, hrow⟩ := hx
  cases he
  have hl : c'.len = h.toNat - l.toNat := by rw [hc.len]; omega
  refine ⟨_, _, by rw [hl], by omega, fun e => by have := ht e; omega, ?_⟩
  rcases hrow with hz | ⟨b, off, rfl, hrow⟩
  · exact .inl (by omega)
  · by_cases hcl : cap = l.toNat
    · exact .inl (by omega)
    · rw [if_neg hcl]
      refine .inr ⟨b, off + l.toNat * c.sz, by simp [add_at], fun i hi j hj => ?_⟩
      rw [hl] at hi
      rw [hc.sz] at hj ⊢
      obtain ⟨u, hu, hr⟩ := hrow (l.toNat + i) (by omega) j hj
      refine ⟨u, ?_, by show RdCell ws (c'.cell i j) u; rw [hc.cell i j (by omega)]; exact hr⟩
      rw [← hu]
      congr 1
      rw [Nat.add_mul]
      omega

theorem RdSl_cut3 {ws : Ws} {c c' : Cont} {t t' : Bool} {h m : Int} {ad : Option Addr} {cap : Nat} (h0 : 0 ≤ h) (h1 : h ≤ m) (h2 : m ≤ (c.len : Int)) (hc : CutOK c c' 0 h) (hx : RdSl ws c t (.slice ad c.len cap)) (ht : t' = true → m = h) :
    RdSl ws c' t' (.slice ad h.toNat m.toNat) := by
  obtain ⟨ad', cap', he, hcap, _, hrow⟩ := hx
  cases he
  have hl : c'.len = h.toNat := by rw [hc.len]; omega
  refine ⟨_, _, by rw [hl], by omega, fun e => by have := ht e; omega, ?_⟩
  rcases hrow with hz | ⟨b, off, rfl, hrow⟩
  · exact .inl (by omega)
  · refine .inr ⟨b, off, rfl, fun i hi j hj => ?_⟩
    rw [hl] at hi
    rw [hc.sz] at hj ⊢
    obtain ⟨u, hu, hr⟩ := hrow i (by omega) j hj
    refine ⟨u, hu, ?_⟩
    show RdCell ws (c'.cell i j) u
    rw [hc.cell i j (by omega)]
    simpa using hr

theorem sub3_std {l h n : Int} (hp : std.sub3 l h n) : 0 ≤ l ∧ l ≤ h ∧ h ≤ n := hp

/-- The bounds of a slice expression. -/
theorem run_bound {k : IntKind} {i : Int} {y : Nat} {code : BoundsCode} (h0 : 0 ≤ i) (h1 : i ≤ (y : Int)) : (Instr.sliceBound (.int k i) y code).run P w = .ok i.toNat w := by
  simp [Instr.sliceBound, asIntOf, h0, h1]

theorem Rd_opt {x : Option Operand} (h : RelA E.G g st a) (hE : EnvOK P E) : (optV std E st.tm x = none ∧ x.map a.eval = none) ∨ ∃ v u, optV std E st.tm x = some v ∧ x.map a.eval = some u ∧ Rd g v u := by
  cases x with
  | none => exact .inl ⟨rfl, rfl⟩
  | some x => exact .inr ⟨_, _, rfl, rfl, ev_ok hE h 0 x⟩

/-- An optional bound that reads. -/
def RdO (g : Gh) : Option V → Option Value → Prop
  | none, none => True
  | some v, some u => Rd g v u
  | _, _ => False
theorem RdO_of (h : RelA E.G g st a) (hE : EnvOK P E) (x : Option Operand) : RdO g (optV std E st.tm x) (x.map a.eval) := by
  cases x with
  | none => trivial
  | some x => exact ev_ok hE h 0 x

include hE in
theorem aSlice_ok (hg : Good E.G g st a w) {sem : Sem Next} (t : Nat) {vx : V} {x : Value} {vlo vhi vmx : Option V} {lo hi mx : Option Value} (hx : Rd g vx x) (hlo : RdO g vlo lo) (hhi : RdO g vhi hi) (hmx : RdO g vmx mx)
    (hrun : ∀ v w', (Instr.sliceAt t x lo hi mx).run P w = .ok v w' → sem.run P w = .ok (.value v) w') : RS P E sem g a w st (aSlice std E st t vx vlo vhi vmx) := by
  unfold aSlice
  split
  · rename_i k
    obtain rfl : x = .slice none 0 0 := hx
    split
    · rename_i e k' htd
      obtain ⟨_, hu, rfl⟩ := td_ok hE htd (by simp)
      split
      rotate_left
      · trivial
      rename_i te ht
      have hS := run_sizeOf_ti (P := P) (w := w) (hE.T _ _ ht)
      have base : ∀ v w', (Instr.slice t (.slice none 0 0) lo hi mx).run P w = .ok v w' → sem.run P w = .ok (.value v) w' := fun v w' h => hrun v w' (by simpa [Instr.sliceAt, run_underlying hu] using h)
      split
      · rename_i k h
        cases lo with
        | some => exact hlo.elim
        | none => cases hi with
          | none => exact hhi.elim
          | some hi => cases mx with
            | some => exact hmx.elim
            | none =>
              obtain rfl : hi = .int k h := hhi
              intro hp
              obtain ⟨p0, p1, p2⟩ := sub3_std hp
              obtain rfl : h = 0 := by omega
              refine OpOK.same hg (base (.slice none 0 0) w ?_) rfl
              simp [Instr.slice, run_underlying hu, Instr.sliceBounds, hS, run_bound (Int.le_refl 0) (show (0 : Int) ≤ ((0 : Nat) : Int) by omega)]
      · rename_i k h k' m
        cases lo with
        | some => exact hlo.elim
        | none => cases hi with
          | none => exact hhi.elim
          | some hi => cases mx with
            | none => exact hmx.elim
            | some mx =>
              obtain rfl : hi = .int k h := hhi
              obtain rfl : mx = .int k' m := hmx
              intro hp
              obtain ⟨hp1, hp2⟩ := hp
              obtain ⟨p0, p1, p2⟩ := sub3_std hp1
              obtain ⟨_, q1, q2⟩ := sub3_std hp2
              obtain rfl : m = 0 := by omega
              obtain rfl : h = 0 := by omega
              refine OpOK.same hg (base (.slice none 0 0) w ?_) rfl
              simp [Instr.slice, run_underlying hu, Instr.sliceBounds, hS, run_bound (Int.le_refl 0) (show (0 : Int) ≤ ((0 : Nat) : Int) by omega)]
      · trivial
    · trivial
  · rename_i i
    split
    · rename_i e c hn
      rw [nth_eq] at hn
      split
      · rename_i p hp
        obtain ⟨k, htd, ht, hsz⟩ := elemOK_some (e := p.1) (ti := p.2) hp
        obtain ⟨_, hu, rfl⟩ := td_ok hE htd (by simp)
        have hS := run_sizeOf_ti (P := P) (w := w) (hE.T _ _ ht)
        obtain ⟨v, xs, hid, ho, hr, ho1⟩ := hg.row hn
        obtain ⟨hsv, hsl⟩ := hx
        rw [hid] at hsv
        cases hsv
        split
        · rename_i k h
          cases lo with
          | some => exact hlo.elim
          | none => cases hi with
            | none => exact hhi.elim
            | some hi => cases mx with
              | some => exact hmx.elim
              | none =>
                obtain rfl : hi = .int k h := hhi
                intro hp
                rw [olen_std] at hp
                obtain ⟨p0, p1, p2⟩ := sub3_std hp
                have hcut := ocut_ok c (Int.le_refl 0) p1 p2
                have hcl : (c.ocut std 0 h).len = h.toNat := by have := hcut.len; omega
                have hcs : (c.ocut std 0 h).sz = c.sz := hcut.sz
                have hle : h.toNat * c.sz ≤ c.len * c.sz := Nat.mul_le_mul_right _ (by omega)
                have hlx : xs.length = c.len * c.sz := ho.1
                have hcells : RdCells g.ws (c.ocut std 0 h) (xs.take (h.toNat * c.sz)) := by
                  intro a ha j hj
                  rw [hcl] at ha
                  rw [hcs] at hj ⊢
                  obtain ⟨u, hu', hru⟩ := hr a (by omega) j hj
                  refine ⟨u, ?_, ?_⟩
                  · have : (a + 1) * c.sz ≤ h.toNat * c.sz := Nat.mul_le_mul_right _ ha
                    rw [Nat.succ_mul] at this
                    rw [List.getElem?_take, if_pos (by omega)]
                    exact hu'
                  · have := hcut.cell a j (by rw [hcl]; exact ha) 
                    rw [this]
                    simpa using hru
                have hlen : len st.own = g.ids.length := by rw [len_eq, hg.mem.len]
                have fin : ∀ v' : Value, isSl v' = true → (∀ b, v'.ownBlock = some b → x.ownBlock = some b) → w.ownsRow 0 e (c.ocut std 0 h).sz v' (c.ocut std 0 h).len (xs.take (h.toNat * c.sz)) → (Instr.sliceAt t x none (some (.int k h)) none).run P w = .ok v' w →
                    OpOK P E sem g a w st (.own (len st.own)) { st with own := cat (setN st.own i .dead) [.row e (c.ocut std 0 h)] } := by
                  intro v' hs' hb' ho' hrn
                  refine ⟨v', g.push (.row v'), w, .inl (hrun _ _ hrn), ⟨?_, hs'⟩, ⟨?_, ?_⟩, Ext.recut hid hb', rfl, rfl, .of_le (g.push_le _)⟩
                  · rw [hlen]; simp [Gh.push]
                  · exact hg.rel.mono (own' := cat (setN st.own i .dead) [.row e (c.ocut std 0 h)]) (g.push_le (.row v'))
                  · rw [cat_eq, setN_eq]
                    exact hg.mem.recut hn hid rfl hb' ⟨_, ho', hcells, fun u hu => ho1 u (List.mem_of_mem_take hu)⟩
                rcases ho.2 with ⟨rfl, h0⟩ | ⟨b, cap, cur, rfl, hb0, hb, hncap, hcm, hcsz, htk⟩
                · obtain rfl : h = 0 := by omega
                  refine fin (.slice none 0 0) rfl (fun _ h => h) ⟨by simp [hcl], .inl ⟨rfl, by rw [hcl]; rfl⟩⟩ ?_
                  simp [Instr.sliceAt, Instr.slice, run_underlying hu, Instr.sliceBounds, hS, run_bound (Int.le_refl 0) (show (0 : Int) ≤ ((0 : Nat) : Int) by omega)]
                · refine fin (.slice (some ⟨b, 0, none⟩) h.toNat cap) rfl (fun _ h => h) ⟨?_, .inr ⟨b, cap, cur, by rw [hcl], hb0, hb, by rw [hcl]; omega, hcm, by rw [hcs]; exact hcsz, ?_⟩⟩ ?_
                  · rw [hcl, hcs, List.length_take, hlx, Nat.min_eq_left hle]
                  · rw [hcl, hcs, ← htk, List.take_take, Nat.min_eq_left hle]
                  · have q : h ≤ (cap : Int) := by omega
                    simp [Instr.sliceAt, Instr.slice, run_underlying hu, Instr.sliceBounds, hS, run_bound p1 q, hsz, add_at]
        · trivial
      · trivial
    · trivial
  · rename_i r e0
    split
    · rename_i m e t' c hz hd hn
      have hz := isZ_eq hz
      subst hz
      rw [nth_eq] at hn
      obtain ⟨_, hu, rfl⟩ := td_ok hE hd (by simp)
      split
      · rename_i ti ht
        split
        · rename_i k l h1 h2
          cases lo with
          | none => exact hlo.elim
          | some lo => cases hi with
            | some => exact hhi.elim
            | none => cases mx with
              | some => exact hmx.elim
              | none =>
                have h1 := Nat.eq_of_beq_eq_true h1
                have h2 := Nat.eq_of_beq_eq_true h2
                obtain rfl : lo = .int k l := hlo
                obtain ⟨b, n, cap, hid, rfl⟩ := hx
                obtain ⟨v, xs, hid', ho, hr, ho1⟩ := hg.row hn
                rw [hid] at hid'
                cases hid'
                intro hp
                rw [olen_std] at hp ⊢
                obtain ⟨hp1, hp2⟩ := hp
                obtain ⟨p0, p1, p2⟩ := sub3_std hp1
                obtain ⟨_, p3, p4⟩ := sub3_std hp2
                have hm : m = c.len := by
                  have p2 : (m : Int) ≤ (c.len : Int) := p2
                  have p4 : (c.len : Int) ≤ (m : Int) := p4
                  omega
                subst hm
                have hS := run_sizeOf_ti (P := P) (w := w) (hE.T _ _ ht)
                have p1 : l ≤ (c.len : Int) := p1
                have hcut := ocut_ok c p0 p1 (Int.le_refl _)
                rcases ho.2 with ⟨hnil, h0⟩ | ⟨b', cap', cur, hsl, _, hb, hncap, _, hcsz, htk⟩
                · cases hnil
                · cases hsl
                  rw [h2, Nat.mul_one] at hcsz htk
                  have hrun' : (Instr.sliceAt t (.pointer (some ⟨b, 0, none⟩)) (some (.int k l)) none none).run P w = .ok (.slice (some (if c.len = l.toNat then ⟨b, 0, none⟩ else ⟨b, l.toNat, none⟩)) (c.len - l.toNat) (c.len - l.toNat)) w := by
                    have hq : l ≤ ((c.len : Nat) : Int) := p1
                    simp [Instr.sliceAt, run_underlying hu, Instr.sureAddr, Instr.sliceBounds, run_bound p0 hq, hS, h1, add_at]
                  have hfz := Gh.freeze_le hg.mem b
                  have hblk : (Id.row (.slice (some ⟨b, 0, none⟩) c.len cap)).block = some b := rfl
                  refine ⟨_, g.freeze w b, w, .inl (hrun _ _ (by simpa using hrun')), ?_, ⟨hg.rel.mono (own' := setN st.own r .dead) hfz, ?_⟩, Ext.freeze hg.mem.still hid hblk, rfl, rfl, .of_le hfz⟩
                  · refine ⟨_, _, by rw [hcut.len]; congr 1; omega, by rw [hcut.len]; omega, (fun e => nomatch e), ?_⟩
                    by_cases hcl : c.len = l.toNat
                    · exact .inl (by rw [hcut.len]; omega)
                    · rw [if_neg hcl]
                      refine .inr ⟨b, l.toNat, rfl, fun i hi j hj => ?_⟩
                      have hi' : i < c.len - l.toNat := by have := hcut.len; omega
                      rw [hcut.sz, h2] at hj ⊢
                      obtain ⟨u, hu', hru⟩ := hr (l.toNat + i) (by omega) j (by rw [h2]; exact hj)
                      rw [h2, Nat.mul_one] at hu'
                      refine ⟨u, ?_, by show RdCell _ ((c.ocut std l (c.len : Int)).cell i j) u; rw [hcut.cell i j hi]; exact hru.mono hfz.ws⟩
                      show (match (if b = b then w.heap[b]? else g.ws b) with | some (.cells cs _ _) => cs[l.toNat + (i * 1 + j)]? | _ => none) = some u
                      rw [if_pos rfl, hb]
                      show cur[l.toNat + (i * 1 + j)]? = some u
                      rw [← htk, List.getElem?_take] at hu'
                      split at hu'
                      · rw [Array.getElem?_toList] at hu'
                        rw [← hu']
                        congr 1
                        omega
                      · cases hu'
                  · rw [setN_eq]
                    exact hg.mem.freeze hn hid rfl hblk
        · trivial
      · trivial
    · trivial
  · rename_i s
    obtain rfl : x = .string s := hx
    split
    · rename_i htd
      obtain ⟨_, hu, rfl⟩ := td_ok hE htd (by simp)
      have base : ∀ v w', (Instr.slice t (.string s) lo hi mx).run P w = .ok v w' → sem.run P w = .ok (.value v) w' := fun v w' h => hrun v w' (by simpa [Instr.sliceAt, run_underlying hu] using h)
      split
      · cases lo with
        | some => exact hlo.elim
        | none => cases hi with
          | some => exact hhi.elim
          | none => cases mx with
            | some => exact hmx.elim
            | none =>
              refine OpOK.same hg (base (.string s) w ?_) rfl
              simp [Instr.slice, run_underlying hu, Instr.sliceBounds]
      · rename_i k l
        cases lo with
        | none => exact hlo.elim
        | some lo => cases hi with
          | some => exact hhi.elim
          | none => cases mx with
            | some => exact hmx.elim
            | none =>
              obtain rfl : lo = .int k l := hlo
              intro hp
              obtain ⟨p0, p1, p2⟩ := sub3_std hp
              refine OpOK.same hg (base (.string (s.extract l.toNat s.size)) w ?_) ?_
              · simp [Instr.slice, run_underlying hu, Instr.sliceBounds, run_bound p0 p1]
              · show Value.string _ = .string (s.extract l.toNat (std.slen s).toNat)
                have : (std.slen s).toNat = s.size := by show ((s.size : Int)).toNat = s.size; omega
                rw [this]
      · rename_i k h
        cases lo with
        | some => exact hlo.elim
        | none => cases hi with
          | none => exact hhi.elim
          | some hi => cases mx with
            | some => exact hmx.elim
            | none =>
              obtain rfl : hi = .int k h := hhi
              intro hp
              obtain ⟨p0, p1, p2⟩ := sub3_std hp
              refine OpOK.same hg (base (.string (s.extract 0 h.toNat)) w ?_) rfl
              simp [Instr.slice, run_underlying hu, Instr.sliceBounds, run_bound p1 p2]
      · rename_i k l k' h
        cases lo with
        | none => exact hlo.elim
        | some lo => cases hi with
          | none => exact hhi.elim
          | some hi => cases mx with
            | some => exact hmx.elim
            | none =>
              obtain rfl : lo = .int k l := hlo
              obtain rfl : hi = .int k' h := hhi
              intro hp
              obtain ⟨p0, p1, p2⟩ := sub3_std hp
              refine OpOK.same hg (base (.string (s.extract l.toNat h.toNat)) w ?_) rfl
              have p2' : h ≤ (s.size : Int) := p2
              have q : l ≤ (h.toNat : Int) := by omega
              simp [Instr.slice, run_underlying hu, Instr.sliceBounds, run_bound (show (0 : Int) ≤ h by omega) p2', run_bound p0 q]
      · trivial
    · trivial
  · rename_i c tight
    split
    · rename_i p hp
      obtain ⟨k, htd, ht, hsz⟩ := elemOK_some (e := p.1) (ti := p.2) hp
      obtain ⟨_, hu, rfl⟩ := td_ok hE htd (by simp)
      have hS := run_sizeOf_ti (P := P) (w := w) (hE.T _ _ ht)
      have hx0 := hx
      obtain ⟨ad, cap, rfl, hcap, htt, hrow⟩ := hx
      have base : ∀ v w', (Instr.slice t (.slice ad c.len cap) lo hi mx).run P w = .ok v w' → sem.run P w = .ok (.value v) w' := fun v w' h => hrun v w' (by simpa [Instr.sliceAt, run_underlying hu] using h)
      split
      · cases lo with
        | some => exact hlo.elim
        | none => cases hi with
          | some => exact hhi.elim
          | none => cases mx with
            | some => exact hmx.elim
            | none =>
              refine OpOK.same hg (base (.slice ad c.len cap) w ?_) hx0
              simp [Instr.slice, run_underlying hu, Instr.sliceBounds, hS]
              intro _
              cases ad with
              | none => rfl
              | some ad => simp [Addr.add]
      · rename_i k l
        cases lo with
        | none => exact hlo.elim
        | some lo => cases hi with
          | some => exact hhi.elim
          | none => cases mx with
            | some => exact hmx.elim
            | none =>
              obtain rfl : lo = .int k l := hlo
              intro hp
              rw [olen_std] at hp ⊢
              obtain ⟨p0, p1, p2⟩ := sub3_std hp
              refine OpOK.same hg (base _ w ?_) (RdSl_cut p0 p1 p2 (ocut_ok c p0 p1 p2) hx0 fun e => by have := htt e; omega)
              simp [Instr.slice, run_underlying hu, Instr.sliceBounds, hS, run_bound p0 p1, hsz]
      · rename_i k h
        cases lo with
        | some => exact hlo.elim
        | none => cases hi with
          | none => exact hhi.elim
          | some hi => cases mx with
            | some => exact hmx.elim
            | none =>
              obtain rfl : hi = .int k h := hhi
              intro hp
              rw [olen_std] at hp
              obtain ⟨p0, p1, p2⟩ := sub3_std hp
              refine OpOK.same hg (base _ w ?_) (RdSl_cut p0 p1 p2 (ocut_ok c p0 p1 p2) hx0 fun e => by cases e)
              have q : h ≤ (cap : Int) := by omega
              simp [Instr.slice, run_underlying hu, Instr.sliceBounds, hS, run_bound p1 q, hsz]
      · rename_i k l k' h
        cases lo with
        | none => exact hlo.elim
        | some lo => cases hi with
          | none => exact hhi.elim
          | some hi => cases mx with
            | some => exact hmx.elim
            | none =>
              obtain rfl : lo = .int k l := hlo
              obtain rfl : hi = .int k' h := hhi
              intro hp
              rw [olen_std] at hp
              obtain ⟨p0, p1, p2⟩ := sub3_std hp
              refine OpOK.same hg (base _ w ?_) (RdSl_cut p0 p1 p2 (ocut_ok c p0 p1 p2) hx0 fun e => by cases e)
              have q : h ≤ (cap : Int) := by omega
              have q' : l ≤ (h.toNat : Int) := by omega
              simp [Instr.slice, run_underlying hu, Instr.sliceBounds, hS, run_bound (show (0 : Int) ≤ h by omega) q, run_bound p0 q', hsz]
      · rename_i k h k' m
        cases lo with
        | some => exact hlo.elim
        | none => cases hi with
          | none => exact hhi.elim
          | some hi => cases mx with
            | none => exact hmx.elim
            | some mx =>
              obtain rfl : hi = .int k h := hhi
              obtain rfl : mx = .int k' m := hmx
              intro hp
              rw [olen_std] at hp
              obtain ⟨hp1, hp2⟩ := hp
              obtain ⟨p0, p1, p2⟩ := sub3_std hp1
              obtain ⟨_, q1, q2⟩ := sub3_std hp2
              have q : m ≤ (cap : Int) := by omega
              have q' : h ≤ (m.toNat : Int) := by omega
              have hz : eqI h m = true → m = h := fun e => by
                cases h <;> cases m <;> simp only [eqI] at e <;> first | cases e; done | (rw [Nat.eq_of_beq_eq_true e])
              refine OpOK.same hg (base (.slice ad h.toNat m.toNat) w ?_) (RdSl_cut3 p1 p2 q2 (ocut_ok c p0 p1 (by omega)) hx0 hz)
              cases ad <;> simp [Instr.slice, run_underlying hu, Instr.sliceBounds, hS, run_bound q1 q, run_bound p1 q', hsz, Addr.add]
      · trivial
    · trivial
  · trivial

/-- A zeroed row. -/
theorem orep_ok {ws : Ws} {k : CK} {c : Cont} {n : Int} (h : Cont.orep std k n = some c) {zs : List V} (hz : isZero k zs = true) : c.len = n.toNat ∧ zs.length = c.sz ∧ ∀ i j, i < c.len → j < c.sz → ∀ (g : Gh) u v, zs[j]? = some v → Rd g v u → RdCell ws (c.cell i j) u := by
  have rep : ∀ {α : Type} (m i : Nat) (x d : α), i < m → (List.replicate m x).getD i d = x := fun m i x d hi => by simp [List.getD_eq_getElem?_getD, hi]
  unfold isZero at hz
  split at hz
  all_goals first
    | cases hz; done
    | skip
  all_goals try (split at hz <;> first | (cases hz; done) | skip)
  all_goals simp only [Cont.orep, std, Option.some.injEq] at h
  all_goals subst h
  all_goals refine ⟨by simp [Cont.len], rfl, fun i j hi hj g u v hv hr => ?_⟩
  all_goals simp only [Cont.len, Cont.sz, List.length_replicate] at hi hj
  all_goals rcases j3 j with rfl | rfl | ⟨q, rfl⟩
  all_goals first
    | (exfalso; omega)
    | (simp at hv; subst hv; simp only [Cont.cell, rep _ _ _ _ hi]; exact hr)
    | (cases q <;> first | (exfalso; omega) | (simp at hv; subst hv; simp only [Cont.cell, rep _ _ _ _ hi]; exact hr))

include hE in
theorem aMake_ok (hg : Good E.G g st a w) {sem : Sem Next} (t : Nat) {vl vc : V} {l c : Value} (hl : Rd g vl l) (hc : Rd g vc c)
    (hrun : ∀ v w', (Instr.makeSlice t l c).run P w = .ok v w' → sem.run P w = .ok (.value v) w') : RS P E sem g a w st (aMake std E st t vl vc) := by
  unfold aMake
  split
  · rename_i e k q n q' m hd
    obtain rfl : l = .int q n := hl
    obtain rfl : c = .int q' m := hc
    obtain ⟨_, hu, rfl⟩ := td_ok hE hd (by simp)
    split
    · rename_i ti ct ht hrep
      split
      · rename_i hz hb hsz
        have hb := Nat.le_of_ble_eq_true hb
        have hsz := Nat.eq_of_beq_eq_true hsz
        obtain ⟨inf, hi, his, hib, hzero⟩ := (hE.T e ti ht).info
        obtain ⟨hlen, hzl, hcell⟩ := orep_ok (ws := g.ws) hrep hz
        have hne : ti.zero ≠ [] := fun h => by rw [h] at hzl; have := sz_pos ct; simp at hzl; omega
        obtain ⟨zv, h1, h2, h3, h4⟩ := hzero hne
        intro hp
        obtain ⟨hp1, hp2⟩ := hp
        obtain ⟨_, p0, p1⟩ := sub3_std hp1
        have hp2 : 0 ≤ m ∧ m ≤ 1099511627776 := hp2
        have hby : (inf.bytes : Int) * m ≤ 281474976710656 := by
          have h64 : (inf.bytes : Int) ≤ 64 := by omega
          have : (inf.bytes : Int) * m ≤ 64 * 1099511627776 := Int.mul_le_mul h64 hp2.2 hp2.1 (by omega)
          omega
        have hrn := run_make (P := P) w t e inf zv hu hi h1 q q' n m p0 (by omega) hby (by omega)
        have hsize : (madeCells zv.cells (m.toNat * inf.size)).size = m.toNat * ct.sz := by rw [size_madeCells, his, hsz]
        refine newRow_ok hg (v := .slice (some ⟨w.heap.size, 0, none⟩) n.toNat m.toNat) (xs := (madeCells zv.cells (m.toNat * inf.size)).toList.take (n.toNat * ct.sz)) (World.grownBy_alloc w _ none) rfl ?_ (fun b hb => by simp [Value.ownBlock] at hb; omega) ?_ ?_ (hrun _ _ hrn)
        · rw [hlen]
          have hmul : n.toNat * ct.sz ≤ m.toNat * ct.sz := Nat.mul_le_mul_right _ (by omega)
          refine ⟨?_, .inr ⟨w.heap.size, m.toNat, _, rfl, Nat.zero_le _, heap_alloc_new w _, by omega, by simp only [maxLen]; omega, hsize, rfl⟩⟩
          rw [List.length_take, Array.length_toList, hsize, Nat.min_eq_left hmul]
        · intro i hi' j hj
          rw [hlen] at hi'
          have hpos := sz_pos ct
          have hle : (i + 1) * ct.sz ≤ n.toNat * ct.sz := Nat.mul_le_mul_right _ hi'
          rw [Nat.succ_mul] at hle
          have hmul : n.toNat * ct.sz ≤ m.toNat * ct.sz := Nat.mul_le_mul_right _ (by omega)
          have hj' : j < zv.cells.size := by rw [h2, hsz]; exact hj
          refine ⟨zv.cells[j], ?_, ?_⟩
          · rw [List.getElem?_take, if_pos (by omega)]
            have hlt : i * ct.sz + j < (madeCells zv.cells (m.toNat * inf.size)).size := by rw [hsize]; omega
            rw [Array.getElem?_toList, Array.getElem?_eq_getElem hlt]
            simp only [madeCells, Array.getElem_map, Array.getElem_range]
            have e1 : (i * ct.sz + j) % zv.cells.size = j := by rw [h2, hsz]; exact (div_at hj).2
            rw [e1, getElem!_pos zv.cells j hj']
          · have hj2 : j < ti.zero.length := by rw [hzl]; exact hj
            obtain ⟨u, hu2, hru⟩ := RdL_get h3 j _ (List.getElem?_eq_getElem hj2)
            have : zv.cells[j] = u := by
              have q1 : zv.cells.toList[j]? = some zv.cells[j] := by simp [hj']
              rw [q1] at hu2; cases hu2; rfl
            rw [this]
            exact hcell i j (by rw [hlen]; exact hi') hj _ u _ (List.getElem?_eq_getElem hj2) hru
        · intro u hu2
          have hu2 := List.mem_of_mem_take hu2
          simp only [madeCells, Array.toList_map, List.mem_map] at hu2
          obtain ⟨i, _, rfl⟩ := hu2
          have hpos : 0 < zv.cells.size := by rw [h2, hsz]; exact sz_pos ct
          have : i % zv.cells.size < zv.cells.size := Nat.mod_lt _ hpos
          rw [getElem!_pos zv.cells _ this]
          exact h4 _ (by simp)
      · trivial
    · trivial
  · trivial

include hE in
theorem aAppendZ_ok (hg : Good E.G g st a w) {sem : Sem Next} (ty t t' : Nat) {vs : V} {s : Value} {kn q : IntKind} {n : Int} (hsv : Rd g vs s) (htn : P.underlying t' = some (.int kn))
    (hrun : ∀ v w', (Builtin.append_ #[t, t'] ty #[s, .int q n]).run P w = .ok v w' → sem.run P w = .ok (.value v) w') : RS P E sem g a w st (aAppendZ std E st t vs n) := by
  unfold aAppendZ
  split
  · rename_i e k k' hd
    obtain rfl : s = .slice none 0 0 := hsv
    obtain ⟨_, hu, rfl⟩ := td_ok hE hd (by simp)
    split
    · rename_i ti ct ht hrep
      split
      · rename_i hz hb hsz
        have hb := Nat.le_of_ble_eq_true hb
        have hsz := Nat.eq_of_beq_eq_true hsz
        obtain ⟨inf, hi, his, hib, hzero⟩ := (hE.T e ti ht).info
        obtain ⟨hlen, hzl, hcell⟩ := orep_ok (ws := g.ws) hrep hz
        have hne : ti.zero ≠ [] := fun h => by rw [h] at hzl; have := sz_pos ct; simp at hzl; omega
        obtain ⟨zv, h1, h2, h3, h4⟩ := hzero hne
        intro hp
        obtain ⟨hp1, hp2, hp3⟩ := hp
        obtain ⟨p0, _, _⟩ := sub3_std hp1
        have hp2 : 0 ≤ n ∧ n ≤ 1099511627776 := hp2
        have hp3 : n ≠ 0 := hp3
        obtain ⟨m, rfl⟩ : ∃ m : Nat, n = (m : Int) := ⟨n.toNat, by omega⟩
        have hm : (m : Int).toNat = m := by omega
        rw [hm] at hlen
        have hby : m * inf.bytes ≤ 281474976710656 := by
          have : m * inf.bytes ≤ 1099511627776 * 64 := Nat.mul_le_mul (by omega) (by omega)
          omega
        have hrn := Lib.run_append_nil_zeros (P := P) w t t' ty e inf zv q kn hu htn hi h1 m (by omega) (by rw [his, hsz]; exact sz_pos ct) (by omega) hby
        have hzs : zv.cells.size = ct.sz := by rw [h2, hsz]
        obtain ⟨q1, q2⟩ := grown_row (w := w) (e := e) (i := inf) (z := zv) (n := 0) (m := m) (old := 0) hzs [] (Builtin.zeroCells zv.cells m).toList (by simp) (by simp [size_zeroCells, hzs]) (by simp only [maxLen]; omega)
        simp only [Nat.zero_add, List.nil_append, Array.empty_append, Array.toArray_toList] at q1 q2
        refine newRow_ok hg (v := .slice (some ⟨w.heap.size, 0, none⟩) m (grownCap w m 0 e)) (xs := (Builtin.zeroCells zv.cells m).toList) q2 rfl (by rw [hlen]; exact q1) (fun b hb => by simp [Value.ownBlock] at hb; omega) ?_ ?_ (hrun _ _ hrn)
        · intro i hi' j hj
          rw [hlen] at hi'
          have hle : (i + 1) * ct.sz ≤ m * ct.sz := Nat.mul_le_mul_right _ hi'
          rw [Nat.succ_mul] at hle
          have hj' : j < zv.cells.size := by rw [hzs]; exact hj
          refine ⟨zv.cells[j], ?_, ?_⟩
          · have hlt : i * ct.sz + j < (Builtin.zeroCells zv.cells m).size := by rw [size_zeroCells, hzs]; omega
            rw [Array.getElem?_toList, Array.getElem?_eq_getElem hlt]
            simp only [Builtin.zeroCells, Array.getElem_map, Array.getElem_range]
            have e1 : (i * ct.sz + j) % zv.cells.size = j := by rw [hzs]; exact (div_at hj).2
            rw [e1, getElem!_pos zv.cells j hj']
          · have hj2 : j < ti.zero.length := by rw [hzl]; exact hj
            obtain ⟨u, hu2, hru⟩ := RdL_get h3 j _ (List.getElem?_eq_getElem hj2)
            have : zv.cells[j] = u := by
              have q1 : zv.cells.toList[j]? = some zv.cells[j] := by simp [hj']
              rw [q1] at hu2; cases hu2; rfl
            rw [this]
            exact hcell i j (by rw [hlen]; exact hi') hj _ u _ (List.getElem?_eq_getElem hj2) hru
        · intro u hu2
          simp only [Builtin.zeroCells, Array.toList_map, List.mem_map] at hu2
          obtain ⟨i, _, rfl⟩ := hu2
          have hpos : 0 < zv.cells.size := by rw [hzs]; exact sz_pos ct
          have : i % zv.cells.size < zv.cells.size := Nat.mod_lt _ hpos
          rw [getElem!_pos zv.cells _ this]
          exact h4 _ (by simp)
      · trivial
    · trivial
  · trivial

end
end Go.En
