/-
  AN OPERATION OF THE MACHINE DOES WHAT 'aop' RECKONS: append, make, parts of slices, built-in functions, calls; and all of it in one theorem. Own work; generic over the program.
-/
import Derived.Test.YtnkefikpejjjcaaDoorEnL
set_option linter.unusedVariables false
set_option linter.unusedSectionVars false
set_option linter.unusedSimpArgs false
namespace Go.En

theorem ne1_true {i k : Nat} (h : ne1 i k = true) : k ≠ i := by
  unfold ne1 at h
  split at h
  · cases h
  · rename_i h0; exact fun e => Nat.ne_of_beq_eq_false h0 e.symm

theorem clrV_hs (i : Nat) (v : V) : hs (ne1 i) (clrV i v) = true := by
  unfold clrV
  split
  · assumption
  · rfl
theorem clrL_hs (i : Nat) : ∀ l : List V, hsL (ne1 i) (clrL i l) = true
  | [] => rfl
  | v :: r => by simp only [clrL, hsL, clrV_hs, clrL_hs i r]

section
variable {P : Program} {E : Env} (hE : EnvOK P E) {g : Gh} {st : St} {a : Act} {w : World}

theorem Rd_clr (i : Nat) {v : V} {x : Value} (h : Rd g v x) : Rd g (clrV i v) x := by
  unfold clrV
  split
  · exact h
  · trivial
theorem RdL_clr (i : Nat) : ∀ {l : List V} {xs : List Value}, RdL g l xs → RdL g (clrL i l) xs
  | [], [], _ => trivial
  | [], _ :: _, h => h.elim
  | _ :: _, [], h => h.elim
  | _ :: _, _ :: _, h => ⟨Rd_clr i h.1, RdL_clr i h.2⟩
theorem get_clrT (i : Nat) : ∀ (tm : List (Nat × V)) (k : Nat), get (clrT i tm) k = clrV i (get tm k)
  | [], k => rfl
  | (j, v) :: r, k => by
    simp only [clrT, get]
    split
    · rfl
    · exact get_clrT i r k
theorem clrO_get (i : Nat) : ∀ (own : List OB) (k : Nat), (clrO i own)[k]? = (own[k]?).map fun ob => match ob with | .cells cs => .cells (clrL i cs) | ob => ob
  | [], k => by simp [clrO]
  | .cells cs :: r, 0 => by simp [clrO]
  | .dead :: r, 0 => by simp [clrO]
  | .row e c :: r, 0 => by simp [clrO]
  | .cells cs :: r, k + 1 => by simpa [clrO] using clrO_get i r k
  | .dead :: r, k + 1 => by simpa [clrO] using clrO_get i r k
  | .row e c :: r, k + 1 => by simpa [clrO] using clrO_get i r k
theorem clrO_length (i : Nat) : ∀ own : List OB, (clrO i own).length = own.length
  | [] => rfl
  | .cells cs :: r => by simp [clrO, clrO_length i r]
  | .dead :: r => by simp [clrO, clrO_length i r]
  | .row e c :: r => by simp [clrO, clrO_length i r]

theorem clrO_of {i k : Nat} {own : List OB} {o : OB} (h : (clrO i own)[k]? = some o) : ∃ o', own[k]? = some o' ∧ o'.live = o.live ∧ (∀ id, OBin w g o' id → OBin w g o id) := by
  rw [clrO_get] at h
  cases hk : own[k]? with
  | none => rw [hk] at h; cases h
  | some ob =>
    rw [hk] at h
    simp at h
    refine ⟨ob, rfl, ?_⟩
    subst h
    cases ob with
    | dead => exact ⟨rfl, fun _ h => h⟩
    | row e c => exact ⟨rfl, fun _ h => h⟩
    | cells cs =>
      refine ⟨rfl, fun id h => ?_⟩
      cases id with
      | cell b => obtain ⟨arr, e, hb, hr, h1⟩ := h; exact ⟨arr, e, hb, RdL_clr i hr, h1⟩
      | row v => exact h.elim

theorem Mem.clr {own : List OB} (h : Mem w g own) (i : Nat) : Mem w g (clrO i own) := by
  refine ⟨by rw [clrO_length]; exact h.len, h.still, fun k o id h1 h2 => ?_, fun k o id b h1 h2 hl hb => ?_, fun k j ok oj x y b hkj h1 h2 h3 h4 hlk hlj hx hy => ?_⟩
  · obtain ⟨o', h1', _, h3⟩ := clrO_of (w := w) (g := g) h1
    exact h3 id (h.isIn k o' id h1' h2)
  · obtain ⟨o', h1', h3, _⟩ := clrO_of (w := w) (g := g) h1
    exact h.apart k o' id b h1' h2 (by rw [h3]; exact hl) hb
  · obtain ⟨o', h1', q1, _⟩ := clrO_of (w := w) (g := g) h1
    obtain ⟨o'', h2', q2, _⟩ := clrO_of (w := w) (g := g) h2
    exact h.two k j o' o'' x y b hkj h1' h2' h3 h4 (by rw [q1]; exact hlk) (by rw [q2]; exact hlj) hx hy

theorem reset_ids (g : Gh) (i : Nat) (id : Id) : ∀ (k : Nat) (x : Id), ne1 i k = true → g.ids[k]? = some x → (g.reset i id).ids[k]? = some x := by
  intro k x hk hx
  show (g.ids.set i id)[k]? = some x
  rw [List.getElem?_set, if_neg (fun e => ne1_true hk e.symm)]
  exact hx

theorem Rd_reset {i : Nat} {id : Id} {v : V} {x : Value} (hh : hs (ne1 i) v = true) (h : Rd g v x) : Rd (g.reset i id) v x := by
  have := Rd_ren (g := g) (g' := g.reset i id) (f := fun i => i) (p := ne1 i) (fun _ _ h => h) (reset_ids g i id) v x hh h
  rwa [ren_id] at this
theorem RdL_reset {i : Nat} {id : Id} {l : List V} {xs : List Value} (hh : hsL (ne1 i) l = true) (h : RdL g l xs) : RdL (g.reset i id) l xs := by
  have := RdL_ren (g := g) (g' := g.reset i id) (f := fun i => i) (p := ne1 i) (fun _ _ h => h) (reset_ids g i id) l xs hh h
  rwa [renL_id] at this

include hE in
theorem aAppend_ok (hg : Good E.G g st a w) {sem : Sem Next} (ty t t' : Nat) {vs vx : V} {s x : Value} (hsv : Rd g vs s) (hx : Rd g vx x)
    (hrun : ∀ v w', (Builtin.append_ #[t, t'] ty #[s, x]).run P w = .ok v w' → sem.run P w = .ok (.value v) w') : RS P E sem g a w st (aAppend std E st t t' vs vx) := by
  unfold aAppend
  split
  · rename_i e k d htt hd hc
    have htt := Nat.eq_of_beq_eq_true htt
    subst htt
    obtain ⟨_, hu, rfl⟩ := td_ok hE hd (by simp)
    obtain ⟨ad, cap, rfl, hcap, hcells⟩ := contents_ok hg hc hx
    split
    · rename_i ti ht
      obtain ⟨inf, hi, his, hib, hzero⟩ := (hE.T e ti ht).info
      split
      · rename_i z zs hb hz
        have hb := Nat.le_of_ble_eq_true hb
        obtain ⟨zv, h1, h2, _, _⟩ := hzero (by rw [hz]; simp)
        split
        · rename_i i
          split
          · rename_i e' c hn
            rw [nth_eq] at hn
            split
            · rename_i c' he happ hsz hbs
              have he := Nat.eq_of_beq_eq_true he
              have hsz := Nat.eq_of_beq_eq_true hsz
              subst he
              intro hp
              rw [olen_std] at hp
              have hp : 0 ≤ (c'.len : Int) ∧ (c'.len : Int) ≤ 1099511627776 := hp
              have ha := oapp_ok happ
              obtain ⟨v, xs, hid, ho, hr, ho1⟩ := hg.row hn
              obtain ⟨hsv, hsl⟩ := hsv
              rw [hid] at hsv
              cases hsv
              obtain ⟨v', w', xs', hrn, hsl', ho', hr', ho1', hgr, hblk⟩ := run_app (P := P) (w := w) ty hu hi h1 (by rw [h2, hsz]) (by rw [his, hsz]) (by omega) ho hr ho1 ha (by omega) hcap hcells
              have hlt : i < g.ids.length := (List.getElem?_eq_some_iff.1 hid).1
              refine ⟨v', g.reset i (.row v'), w', .inl (hrun _ _ hrn), ⟨by simp [Gh.reset, hlt], hsl'⟩, ⟨⟨hg.rel.size, hg.rel.defers, hg.rel.glob, fun k => ?_⟩, ?_⟩, ?_, rfl, rfl, fun k x hk hx => ?_⟩
              · rw [get_clrT]
                exact Rd_reset (clrV_hs i _) (Rd_clr i (hg.rel.slot k))
              · rw [setN_eq]
                have hn' : (clrO i st.own)[i]? = some (.row e c) := by rw [clrO_get, hn]; rfl
                refine (hg.mem.clr i).regrow hn' hid rfl rfl (fun b hb hne => hgr.block b hb (fun q => hne q.symm)) hblk (fun k o hk hne x _ hin => ?_) ⟨xs', ho', hr', ho1'⟩
                rw [clrO_get] at hk
                cases hk' : st.own[k]? with
                | none => rw [hk'] at hk; cases hk
                | some ob =>
                  rw [hk'] at hk
                  simp at hk
                  subst hk
                  cases ob with
                  | dead => trivial
                  | row e2 c2 => cases x <;> exact hin
                  | cells cs =>
                    cases x with
                    | cell b => obtain ⟨arr, e2, hb2, hr2, h12⟩ := hin; exact ⟨arr, e2, hb2, RdL_reset (clrL_hs i cs) hr2, h12⟩
                    | row v => exact hin.elim
              · exact Ext.regrow hid hgr.os hgr.tape hgr.output hgr.size (fun b hb hne => hgr.block b hb (fun q => hne q.symm)) hblk
              · have hbs := Nat.le_of_ble_eq_true hbs
                refine reset_ids g i _ k x ?_ hx
                unfold ne1
                split
                · rename_i q; have := Nat.eq_of_beq_eq_true q; omega
                · rfl
            · trivial
          · trivial
        · rename_i k'
          obtain rfl : s = .slice none 0 0 := hsv
          split
          · rename_i c' happ hsz
            have hsz := Nat.eq_of_beq_eq_true hsz
            intro hp
            rw [olen_std] at hp
            have hp : 0 ≤ (c'.len : Int) ∧ (c'.len : Int) ≤ 1099511627776 := hp
            have ha := oapp_ok happ
            have hel : (empty k').len = 0 := by cases k' <;> rfl
            have ho : w.ownsRow 0 e (empty k').sz (.slice none 0 0) (empty k').len [] := by rw [hel]; exact World.ownsRow_nil _ _ _ _
            obtain ⟨v', w', xs', hrn, hsl', ho', hr', ho1', hgr, hblk⟩ := run_app (P := P) (w := w) (g := g) ty hu hi h1 (by rw [h2, hsz, ha.sz']) (by rw [his, hsz, ha.sz']) (by omega) ho (fun i hi => by rw [hel] at hi; omega) (fun u hu => by simp at hu) ha (by omega) hcap hcells
            exact newRow_ok hg hgr hsl' ho' (fun b hb => (hblk b hb).resolve_left (by simp [Value.ownBlock])) hr' ho1' (hrun _ _ hrn)
          · trivial
        · rename_i c
          obtain ⟨ad0, cap0, rfl, _, hcells0⟩ := contents_ok hg (v := .sl c true) rfl hsv
          obtain ⟨ad0', cap0', hx0, _, htt0, _⟩ := hsv
          cases hx0
          obtain rfl := htt0 rfl
          split
          · rename_i c' happ hsz
            have hsz := Nat.eq_of_beq_eq_true hsz
            intro hp
            rw [olen_std, olen_std] at hp
            obtain ⟨hp, hp0⟩ := hp
            have hp : 0 ≤ (c'.len : Int) ∧ (c'.len : Int) ≤ 1099511627776 := hp
            have hp0 : (d.len : Int) ≠ 0 := hp0
            have ha := oapp_ok happ
            obtain ⟨v', w', xs', hrn, hsl', ho', hr', ho1', hgr, hblk⟩ := run_app_tight (P := P) (w := w) (g := g) ty hu hi h1 (by rw [h2, hsz, ha.sz']) (by rw [his, hsz, ha.sz']) (by omega) ha (by omega) (by omega) hcells0 (cap := cap) hcells
            exact newRow_ok hg hgr hsl' ho' hblk hr' ho1' (hrun _ _ hrn)
          · trivial
        · trivial
      · trivial
    · trivial
  · trivial

end
end Go.En
