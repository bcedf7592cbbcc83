/-
  A CONTRACT USED AT ARGUMENTS THAT TELL MORE THAN IT ASKS: a place within more cells than it asks for, a slice whose capacity is known. Own work; generic over the program.
-/
import Derived.Test.YtmcjpkagfjimjaaEnW
set_option linter.unusedVariables false
set_option linter.unusedSimpArgs false
namespace Go.En

/-- What is forgotten of an argument: nothing; all but n cells from a place on; a slice's capacity. -/
inductive Wk where
  | id
  | ptr (n : Nat)
  | sl

mutual
/-- Capacities forgotten. -/
def loose : V → V
  | .sl c _ => .sl c false
  | .nils k => .sl (empty k) false
  | .sp cs o => .sp (looseL cs) o
  | .agg cs => .agg (looseL cs)
  | .tup cs => .tup (looseL cs)
  | v => v
def looseL : List V → List V
  | [] => []
  | v :: r => loose v :: looseL r
end
def wk : Wk → V → V
  | .ptr n, .sp cs o => .sp (takeN n (dropN o cs)) 0
  | .sl, v => loose v
  | _, v => v
def wkL : List Wk → List V → List V
  | k :: ks, v :: r => wk k v :: wkL ks r
  | _, l => l

theorem RdC_drop {g : Gh} {b off : Nat} : ∀ (o : Nat) {cs : List V} {j : Nat}, RdC g b off cs j → RdC g b off (dropN o cs) (j + o)
  | 0, cs, j, h => h
  | o + 1, [], j, h => trivial
  | o + 1, v :: r, j, h => by
    have := RdC_drop o h.2
    rwa [show j + 1 + o = j + (o + 1) by omega] at this
theorem RdC_take {g : Gh} {b off : Nat} : ∀ (n : Nat) {cs : List V} {j : Nat}, RdC g b off cs j → RdC g b off (takeN n cs) j
  | 0, cs, j, h => by cases cs <;> trivial
  | n + 1, [], j, h => trivial
  | n + 1, v :: r, j, h => ⟨h.1, RdC_take n h.2⟩
theorem RdC_shift {g : Gh} {b off o : Nat} : ∀ {cs : List V} {j : Nat}, RdC g b off cs (j + o) → RdC g b (off + o) cs j
  | [], j, h => trivial
  | v :: r, j, h => by
    refine ⟨?_, RdC_shift ?_⟩
    · have := h.1
      rwa [show off + (j + o) = off + o + j by omega] at this
    · have := h.2
      rwa [show j + o + 1 = j + 1 + o by omega] at this
theorem RdSl_loose {ws : Ws} {c : Cont} {t : Bool} {x : Value} (h : RdSl ws c t x) : RdSl ws c false x := by
  obtain ⟨a, cap, hx, hc, _, hr⟩ := h
  exact ⟨a, cap, hx, hc, (fun e => nomatch e), hr⟩
mutual
theorem Rd_loose {g : Gh} (v : V) (x : Value) (h : Rd g v x) : Rd g (loose v) x := by
  cases v with
  | sl c t => exact RdSl_loose h
  | nils k =>
    have h : x = .slice none 0 0 := h
    have h0 : (empty k).len = 0 := by cases k <;> rfl
    exact ⟨none, 0, by rw [h0]; exact h, by omega, (fun e => nomatch e), .inl h0⟩
  | sp cs o =>
    obtain ⟨b, off, hx, hc⟩ := h
    exact ⟨b, off, hx, RdC_loose b off cs 0 hc⟩
  | agg cs =>
    obtain ⟨vs, hx, hl⟩ := h
    exact ⟨vs, hx, RdL_loose cs _ hl⟩
  | tup cs =>
    obtain ⟨vs, hx, hl⟩ := h
    exact ⟨vs, hx, RdL_loose cs _ hl⟩
  | _ => exact h
theorem RdL_loose {g : Gh} (l : List V) (xs : List Value) (h : RdL g l xs) : RdL g (looseL l) xs := by
  cases l with
  | nil => cases xs with
    | nil => trivial
    | cons => exact h.elim
  | cons v r => cases xs with
    | nil => exact h.elim
    | cons x xs => exact ⟨Rd_loose v x h.1, RdL_loose r xs h.2⟩
theorem RdC_loose {g : Gh} (b off : Nat) (l : List V) (j : Nat) (h : RdC g b off l j) : RdC g b off (looseL l) j := by
  cases l with
  | nil => trivial
  | cons v r =>
    obtain ⟨⟨u, hu, ho, hr⟩, hc⟩ := h
    exact ⟨⟨u, hu, ho, Rd_loose v u hr⟩, RdC_loose b off r (j + 1) hc⟩
end
theorem Rd_wk {g : Gh} (k : Wk) (v : V) (x : Value) (h : Rd g v x) : Rd g (wk k v) x := by
  cases k with
  | id => cases v <;> exact h
  | sl => exact Rd_loose v x h
  | ptr n =>
    cases v with
    | sp cs o =>
      obtain ⟨b, off, hx, hc⟩ := h
      refine ⟨b, off + o, by rw [Nat.add_zero]; exact hx, ?_⟩
      have h1 := RdC_take n (RdC_drop o hc)
      rw [show (0 : Nat) + o = 0 + o from rfl] at h1
      exact RdC_shift h1
    | _ => exact h
theorem RdL_wk {g : Gh} : ∀ (ks : List Wk) (l : List V) (xs : List Value), RdL g l xs → RdL g (wkL ks l) xs
  | [], l, xs, h => by cases l <;> exact h
  | k :: ks, [], xs, h => h
  | k :: ks, v :: r, [], h => h.elim
  | k :: ks, v :: r, x :: xs, h => ⟨Rd_wk k v x h.1, RdL_wk ks r xs h.2⟩

theorem FnOK.weaken {P : Program} {f : Nat} {args : List V} {own : List OB} {Q : V → List OB → Prop} (ks : List Wk) (h : FnOK P f (wkL ks args) own Q) : FnOK P f args own Q :=
  ⟨fun g w vs hr hm => h.run g w vs (RdL_wk ks args _ hr) hm⟩
theorem Call.weaken {P : Program} {f : Nat} {args : List V} {r : V} {rows : List OB} (ks : List Wk) (h : Call P f (wkL ks args) r rows) : Call P f args r rows :=
  ⟨h.ok.weaken ks⟩
end Go.En
