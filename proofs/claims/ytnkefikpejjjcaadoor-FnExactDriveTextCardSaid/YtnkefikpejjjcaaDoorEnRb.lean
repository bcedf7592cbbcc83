/-
  A ROW OF THE CALL's OWN THAT STANDS STILL FROM NOW ON, and is the call's own no more. Own work; generic over the program.
-/
import Derived.Test.YtnkefikpejjjcaaDoorEnR
set_option linter.unusedVariables false
set_option linter.unusedSectionVars false
set_option linter.unusedSimpArgs false
namespace Go.En

/-- Places below n. -/
def below1 (n i : Nat) : Bool := decide (i < n)
theorem below1_of {n i : Nat} (h : i < n) : below1 n i = true := decide_eq_true h

mutual
/-- What reads has no handles but those that there are. -/
theorem Rd_hs {g : Gh} (v : V) (x : Value) (h : Rd g v x) : hs (below1 g.ids.length) v = true := by
  cases v with
  | own i => exact below1_of (List.getElem?_eq_some_iff.1 h.1).1
  | lp i o => obtain ⟨b, hb, _⟩ := h; exact below1_of (List.getElem?_eq_some_iff.1 hb).1
  | le i e sz o => obtain ⟨b, n, cap, hb, _⟩ := h; exact below1_of (List.getElem?_eq_some_iff.1 hb).1
  | sp cs o => obtain ⟨b, off, _, hc⟩ := h; exact RdC_hs b off cs 0 hc
  | agg cs => obtain ⟨vs, _, hl⟩ := h; exact RdL_hs cs _ hl
  | tup cs => obtain ⟨vs, _, hl⟩ := h; exact RdL_hs cs _ hl
  | fn f a b =>
    obtain ⟨vs, us, _, h1, h2⟩ := h
    simp only [hs, RdL_hs a _ h1, RdL_hs b _ h2]
  | _ => rfl
theorem RdL_hs {g : Gh} (l : List V) (xs : List Value) (h : RdL g l xs) : hsL (below1 g.ids.length) l = true := by
  cases l with
  | nil => rfl
  | cons v r => cases xs with
    | nil => exact h.elim
    | cons x xs => simp only [hsL, Rd_hs v x h.1, RdL_hs r xs h.2]
theorem RdC_hs {g : Gh} (b off : Nat) (l : List V) (j : Nat) (h : RdC g b off l j) : hsL (below1 g.ids.length) l = true := by
  cases l with
  | nil => rfl
  | cons v r =>
    obtain ⟨⟨u, _, _, hr⟩, hc⟩ := h
    simp only [hsL, Rd_hs v u hr, RdC_hs b off r (j + 1) hc]
end

/-- The first n blocks. -/
def Gh.cut (g : Gh) (n : Nat) : Gh := ⟨g.ws, g.ids.take n⟩
theorem cut_ids {g : Gh} {n : Nat} (i : Nat) (x : Id) (hp : below1 n i = true) (he : g.ids[i]? = some x) : (g.cut n).ids[i]? = some x := by
  have : i < n := of_decide_eq_true hp
  show (g.ids.take n)[i]? = some x
  rw [List.getElem?_take, if_pos this, he]
theorem cut_back {g : Gh} {n i : Nat} {x : Id} (h : (g.cut n).ids[i]? = some x) : i < n ∧ g.ids[i]? = some x := by
  have h : (g.ids.take n)[i]? = some x := h
  rw [List.getElem?_take] at h
  split at h
  · exact ⟨by assumption, h⟩
  · cases h
theorem Rd_cut {g : Gh} {n : Nat} {v : V} {x : Value} (hp : hs (below1 n) v = true) (h : Rd g v x) : Rd (g.cut n) v x := by
  have := Rd_ren (g := g) (g' := g.cut n) (f := fun i => i) (fun _ _ h => h) cut_ids v x hp h
  rwa [ren_id] at this
theorem RdL_cut {g : Gh} {n : Nat} {l : List V} {xs : List Value} (hp : hsL (below1 n) l = true) (h : RdL g l xs) : RdL (g.cut n) l xs := by
  have := RdL_ren (g := g) (g' := g.cut n) (f := fun i => i) (fun _ _ h => h) cut_ids l xs hp h
  rwa [renL_id] at this
theorem Ext.cut (g : Gh) (w : World) (n : Nat) : Ext g w (g.cut n) w :=
  ⟨rfl, rfl, rfl, Nat.le_refl _, fun _ _ _ => rfl, fun _ _ h => h, fun i id b h hb => .inl ⟨i, id, (cut_back h).2, hb⟩, fun _ _ h => .inl h⟩

theorem Mem.cut {w w' : World} {g g' : Gh} {own : List OB} {ob : OB} (h : Mem w g own) (h' : Mem w' g' (own ++ [ob])) : Mem w' (g'.cut own.length) own := by
  have up : ∀ {i : Nat} {o : OB}, own[i]? = some o → (own ++ [ob])[i]? = some o := fun {i o} hi => by
    rw [List.getElem?_append_left (List.getElem?_eq_some_iff.1 hi).1]; exact hi
  refine ⟨?_, h'.still, fun i o id h1 h2 => ?_, fun i o id b h1 h2 h3 h4 => h'.apart i o id b (up h1) (cut_back h2).2 h3 h4, fun i j oi oj x y b hne h1 h2 h3 h4 h5 h6 h7 => h'.two i j oi oj x y b hne (up h1) (up h2) (cut_back h3).2 (cut_back h4).2 h5 h6 h7⟩
  · show (g'.ids.take own.length).length = own.length
    rw [List.length_take, h'.len, List.length_append]
    simp
  · have hin := h'.isIn i o id (up h1) (cut_back h2).2
    cases o with
    | dead => trivial
    | row e c => cases id <;> exact hin
    | cells cs =>
      cases id with
      | row v => exact hin.elim
      | cell b =>
        obtain ⟨arr, e, hb, hl, h1'⟩ := hin
        refine ⟨arr, e, hb, RdL_cut ?_ hl, h1'⟩
        obtain ⟨id0, _, hin0⟩ := h.get h1
        cases id0 with
        | row v => exact hin0.elim
        | cell b0 =>
          obtain ⟨arr0, e0, _, hl0, _⟩ := hin0
          have := RdL_hs _ _ hl0
          rwa [h.len] at this

/-- A row as memory that stands still. -/
theorem row_still {w : World} {g : Gh} {own : List OB} {e : Nat} {c : Cont} {x : Value} (h : Mem w g own) {n : Nat} (hn : own[n]? = some (.row e c)) (hid : g.ids[n]? = some (.row x)) :
    ∃ gf, Mem w gf (own.set n .dead) ∧ Gle g gf ∧ gf.ids = g.ids ∧ Ext g w gf w ∧ Rd gf (.sl c false) x := by
  obtain ⟨id, hid', hin⟩ := h.get hn
  rw [hid] at hid'
  cases hid'
  obtain ⟨xs, ho, hc, h1⟩ := hin
  rcases ho.2 with ⟨rfl, h0⟩ | ⟨b, cap, cur, rfl, _, hb, hcap, _, _, ht⟩
  · exact ⟨g, h.turn hn hid rfl (fun _ _ => rfl) trivial, .refl _, rfl, .refl _ _, none, 0, by rw [h0], by omega, (fun e => nomatch e), .inl h0⟩
  · have hblk : (Id.row (.slice (some ⟨b, 0, none⟩) c.len cap)).block = some b := rfl
    refine ⟨g.freeze w b, h.freeze hn hid rfl hblk, Gh.freeze_le h b, rfl, Ext.freeze h.still hid hblk, _, cap, rfl, hcap, (fun e => nomatch e), .inr ⟨b, 0, rfl, fun i hi j hj => ?_⟩⟩
    obtain ⟨u, hu, hrd⟩ := hc i hi j hj
    refine ⟨u, ?_, RdCell.mono (Gh.freeze_le h b).ws hrd⟩
    show (match (if b = b then w.heap[b]? else g.ws b) with | some (.cells cs _ _) => cs[0 + (i * c.sz + j)]? | _ => none) = some u
    rw [if_pos rfl, hb]
    show cur[0 + (i * c.sz + j)]? = some u
    rw [← ht, List.getElem?_take] at hu
    split at hu
    · simpa using hu
    · cases hu

section
variable {P : Program} {E : Env} {g : Gh} {st : St} {a : Act} {w : World}
/-- An operation's new row, still. -/
theorem OpOK.still {sem : Sem Next} (hg : Good E.G g st a w) {e : Nat} {c : Cont} (h : OpOK P E sem g a w st (.own (len st.own)) { st with own := cat st.own [.row e c] }) : OpOK P E sem g a w st (.sl c false) st := by
  obtain ⟨x, g', w', hr, hrd, hg', hext, hb, hN, hlow⟩ := h
  have hmem : Mem w' g' (st.own ++ [.row e c]) := by have := hg'.mem; simpa only [cat_eq] using this
  rw [len_eq] at hrd
  obtain ⟨gf, h1, h2, h3, h4, h5⟩ := row_still (e := e) (c := c) hmem (n := st.own.length) (by simp) hrd.1
  have hset : (st.own ++ [OB.row e c]).set st.own.length .dead = st.own ++ [.dead] := by simp
  rw [hset] at h1
  have hm := hg.mem.cut h1
  refine ⟨x, gf.cut st.own.length, w', hr, ?_, ⟨⟨hg'.rel.size, hg'.rel.defers, hg'.rel.glob.mono h2.ws, fun i => ?_⟩, hm⟩, (hext.trans h4).trans (Ext.cut gf w' _), rfl, rfl, fun i x hi he => ?_⟩
  · exact Rd_cut rfl h5
  · have hhs := Rd_hs _ _ (hg.rel.slot i)
    rw [hg.mem.len] at hhs
    exact Rd_cut hhs (Rd_mono h2 (hg'.rel.slot i))
  · have hlt : i < st.own.length := by rw [← hg.mem.len]; exact (List.getElem?_eq_some_iff.1 he).1
    exact cut_ids i x (below1_of hlt) (by rw [h3]; exact hlow i x hi he)
end

/-- A contract whose result is a new row, as one whose result stands still. -/
theorem Call.frozen {P : PG} {f : Nat} {args : List V} {e : Nat} {c : Cont} (h : Call P f args (.own 0) [.row e c]) : Call P f args (.sl c false) [] := by
  refine ⟨⟨fun g w vs hgl hrl hm => (h.ok.run g w vs hgl hrl hm).mono fun ex w' he => ?_⟩⟩
  obtain ⟨x, r, g', own', rfl, hrd, hmem, hext, hle, rfl, rfl⟩ := he
  obtain ⟨gf, h1, h2, h3, h4, h5⟩ := row_still hmem (n := 0) rfl hrd.1
  have hm0 : Mem w (g.cut 0) [] := ⟨by simp [Gh.cut], hm.still, fun i ob id h => by simp at h, fun i ob id b h => by simp at h, fun i j oi oj x y b _ h => by simp at h⟩
  have hg0 : g.ids = [] := List.eq_nil_of_length_eq_zero hm.len
  have hmc := hm0.cut (own := []) (ob := .dead) h1
  refine ⟨x, _, gf.cut 0, [], rfl, Rd_cut rfl h5, hmc, (hext.trans h4).trans (Ext.cut gf w' _), ⟨fun b o hb => h2.ws b o (hle.ws b o hb), fun i y hy => ?_⟩, rfl, rfl⟩
  rw [hg0] at hy
  cases hy
end Go.En
