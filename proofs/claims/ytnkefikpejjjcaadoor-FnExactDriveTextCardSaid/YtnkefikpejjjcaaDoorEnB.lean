/-
  ABSTRACT VALUES, HOW A VALUE OF THE MACHINE READS AS ONE, AND MEMORY IN TWO PARTS: what stands still, and blocks of the call's own. Own work; generic over the program.
-/
import Derived.Test.YtnkefikpejjjcaaDoorEnA
set_option linter.unusedVariables false
set_option linter.unusedSectionVars false
namespace Go.En

/-- What a slice holds, by kinds: numbers up to a not-a-number's bits. -/
inductive Cont where
  | f32 (xs : List Nat)
  | f64 (xs : List Nat)
  | i64 (xs : List Int)
  | u8 (xs : List Int)
  | bool (xs : List Bool)
  | str (xs : List ByteArray)
  | c64 (xs : List (Nat × Nat))
  | r3 (xs : List (Nat × Nat × Nat))
  | ss (xs : List (List Nat))

inductive CK where
  | f32 | f64 | i64 | u8 | bool | str | c64 | r3 | ss
  deriving DecidableEq

/-- Abstract values. -/
inductive V where
  | und
  | bool (b : Bool) | int (k : IntKind) (n : Int) | flt (k : FloatKind) (x : Nat) | cpx (k : FloatKind) (re im : Nat) | str (s : ByteArray)
  | nilp | nilf
  /-- an interface value: nil, or not -/
  | ifc (n : Bool)
  /-- the address of an array that stands still -/
  | sarr (c : Cont)
  | nils (k : CK)
  /-- a slice in memory that stands still; 'tight': its capacity is its length -/
  | sl (c : Cont) (tight : Bool)
  /-- the slice that is the call's own row i, whole -/
  | own (i : Nat)
  /-- the address of a cell of the call's own block i -/
  | lp (i o : Nat)
  /-- the address of cell o of element e of the call's own row i -/
  | le (i : Nat) (e : Int) (sz o : Nat)
  /-- the address of cell o of cells that stand still -/
  | sp (cs : List V) (o : Nat)
  | agg (cs : List V)
  | tup (cs : List V)
  | fn (f : Nat) (first caps : List V)

/-- A block of the call's own. -/
inductive OB where
  | dead
  | cells (cs : List V)
  | row (e : Nat) (c : Cont)

namespace Cont
def len : Cont → Nat
  | .f32 xs => xs.length | .f64 xs => xs.length | .i64 xs => xs.length | .u8 xs => xs.length | .bool xs => xs.length | .str xs => xs.length | .c64 xs => xs.length | .r3 xs => xs.length | .ss xs => xs.length
def sz : Cont → Nat
  | .r3 _ => 3
  | _ => 1
def ck : Cont → CK
  | .f32 _ => .f32 | .f64 _ => .f64 | .i64 _ => .i64 | .u8 _ => .u8 | .bool _ => .bool | .str _ => .str | .c64 _ => .c64 | .r3 _ => .r3 | .ss _ => .ss
/-- Cell j of element i. -/
def cell : Cont → Nat → Nat → V
  | .f32 xs, i, _ => .flt .f32 (xs.getD i 0)
  | .f64 xs, i, _ => .flt .f64 (xs.getD i 0)
  | .i64 xs, i, _ => .int .i64 (xs.getD i 0)
  | .u8 xs, i, _ => .int .u8 (xs.getD i 0)
  | .bool xs, i, _ => .bool (xs.getD i false)
  | .str xs, i, _ => .str (xs.getD i ByteArray.empty)
  | .c64 xs, i, _ => .cpx .f32 (xs.getD i (0, 0)).1 (xs.getD i (0, 0)).2
  | .r3 xs, i, 0 => .flt .f32 (xs.getD i (0, 0, 0)).1
  | .r3 xs, i, 1 => .flt .f32 (xs.getD i (0, 0, 0)).2.1
  | .r3 xs, i, _ => .flt .f32 (xs.getD i (0, 0, 0)).2.2
  | .ss xs, i, _ => .sl (.f32 (xs.getD i [])) false
end Cont

abbrev Ws := Nat → Option Obj

/-- A block of the call's own, by its number or (a row) by the very slice. -/
inductive Id where
  | cell (b : Nat)
  | row (v : Value)

def Id.block : Id → Option Nat
  | .cell b => some b
  | .row v => v.ownBlock

/-- What is known of memory: the blocks that stand still, and which block each of the call's own is. -/
structure Gh where
  ws : Ws
  ids : List Id

def scell (ws : Ws) (b o : Nat) : Option Value :=
  match ws b with
  | some (.cells c _ _) => c[o]?
  | _ => none

/-- Scalars. -/
def Sc : V → Value → Prop
  | .bool b, x => x = .bool b
  | .int k n, x => x = .int k n
  | .flt k y, x => ∃ b, x = .float k b ∧ cn k b = y
  | .cpx k r i, x => ∃ a b, x = .complex k a b ∧ cn k a = r ∧ cn k b = i
  | .str s, x => x = .string s
  | _, _ => False

/-- n elements of sz cells from an address on, each cell as R tells. -/
def Row (ws : Ws) (a : Option Addr) (n sz : Nat) (R : Nat → Nat → Value → Prop) : Prop :=
  n = 0 ∨ ∃ b off, a = some ⟨b, off, none⟩ ∧ ∀ i, i < n → ∀ j, j < sz → ∃ u, scell ws b (off + (i * sz + j)) = some u ∧ R i j u

/-- A slice of scalars. -/
def RdS (ws : Ws) (n sz : Nat) (cell : Nat → Nat → V) (tight : Bool) (x : Value) : Prop :=
  ∃ a cap, x = .slice a n cap ∧ n ≤ cap ∧ (tight = true → cap = n) ∧ Row ws a n sz (fun i j u => Sc (cell i j) u)

/-- A cell of a slice: a scalar, or a slice of numbers. -/
def RdCell (ws : Ws) : V → Value → Prop
  | .sl (.f32 xs) t, x => RdS ws xs.length 1 (Cont.f32 xs).cell t x
  | v, x => Sc v x

/-- A slice in memory that stands still. -/
def RdSl (ws : Ws) (c : Cont) (tight : Bool) (x : Value) : Prop :=
  ∃ a cap, x = .slice a c.len cap ∧ c.len ≤ cap ∧ (tight = true → cap = c.len) ∧ Row ws a c.len c.sz (fun i j u => RdCell ws (c.cell i j) u)

/-- An array that stands still. -/
def RdArr (ws : Ws) (c : Cont) (b off : Nat) : Prop := ∀ i, i < c.len → ∀ j, j < c.sz → ∃ u, scell ws b (off + (i * c.sz + j)) = some u ∧ RdCell ws (c.cell i j) u

def isSl : Value → Bool
  | .slice .. => true
  | _ => false

mutual
/-- How a value of the machine reads as an abstract one. -/
def Rd (g : Gh) : V → Value → Prop
  | .und, _ => True
  | .bool b, x => x = .bool b
  | .int k n, x => x = .int k n
  | .flt k y, x => ∃ b, x = .float k b ∧ cn k b = y
  | .cpx k r i, x => ∃ a b, x = .complex k a b ∧ cn k a = r ∧ cn k b = i
  | .str s, x => x = .string s
  | .nilp, x => x = .pointer none
  | .nilf, x => x = .nilFunc
  | .sarr c, x => ∃ b off, x = .pointer (some ⟨b, off, none⟩) ∧ RdArr g.ws c b off
  | .ifc n, x => if n then x = .nilIface else ∃ t v, x = .iface t v
  | .nils _, x => x = .slice none 0 0
  | .sl c t, x => RdSl g.ws c t x
  | .own i, x => g.ids[i]? = some (.row x) ∧ isSl x = true
  | .lp i o, x => ∃ b, g.ids[i]? = some (.cell b) ∧ x = .pointer (some ⟨b, o, none⟩)
  | .le i e sz o, x => ∃ b n cap, g.ids[i]? = some (.row (.slice (some ⟨b, 0, none⟩) n cap)) ∧ x = .pointer (some ⟨b, e.toNat * sz + o, none⟩)
  | .sp cs o, x => ∃ b off, x = .pointer (some ⟨b, off + o, none⟩) ∧ RdC g b off cs 0
  | .agg cs, x => ∃ vs, x = .agg vs ∧ RdL g cs vs.toList
  | .tup cs, x => ∃ vs, x = .tuple vs ∧ RdL g cs vs.toList
  | .fn f first caps, x => ∃ vs us, x = .func (.func f) vs us ∧ RdL g first vs.toList ∧ RdL g caps us.toList
def RdL (g : Gh) : List V → List Value → Prop
  | [], [] => True
  | v :: r, x :: xs => Rd g v x ∧ RdL g r xs
  | _, _ => False
/-- Cells that stand still, from cell j on. -/
def RdC (g : Gh) (b off : Nat) : List V → Nat → Prop
  | [], _ => True
  | v :: r, j => (∃ u, scell g.ws b (off + j) = some u ∧ u.oneCell' = true ∧ Rd g v u) ∧ RdC g b off r (j + 1)
end

/-- More stands still, and the call's own blocks that were there are the same ones. -/
structure Gle (g g' : Gh) : Prop where
  ws : ∀ b o, g.ws b = some o → g'.ws b = some o
  ids : ∀ (i : Nat) (x : Id), g.ids[i]? = some x → g'.ids[i]? = some x

theorem Gle.refl (g : Gh) : Gle g g := ⟨fun _ _ h => h, fun _ _ h => h⟩
theorem Gle.trans {a b c : Gh} (h : Gle a b) (k : Gle b c) : Gle a c := ⟨fun x o e => k.ws x o (h.ws x o e), fun i x e => k.ids i x (h.ids i x e)⟩

theorem scell_mono {ws ws' : Ws} (h : ∀ b o, ws b = some o → ws' b = some o) {b o : Nat} {u : Value} (e : scell ws b o = some u) : scell ws' b o = some u := by
  unfold scell at *
  cases hb : ws b with
  | none => rw [hb] at e; cases e
  | some x => rw [hb] at e; rw [h b x hb]; exact e

theorem Row.mono {ws ws' : Ws} (h : ∀ b o, ws b = some o → ws' b = some o) {a : Option Addr} {n sz : Nat} {R R' : Nat → Nat → Value → Prop} (hR : ∀ i j u, R i j u → R' i j u) (e : Row ws a n sz R) : Row ws' a n sz R' := by
  rcases e with e | ⟨b, off, ha, hc⟩
  · exact .inl e
  · refine .inr ⟨b, off, ha, fun i hi j hj => ?_⟩
    obtain ⟨u, hu, hr⟩ := hc i hi j hj
    exact ⟨u, scell_mono h hu, hR i j u hr⟩

theorem RdS.mono {ws ws' : Ws} (h : ∀ b o, ws b = some o → ws' b = some o) {n sz : Nat} {cell : Nat → Nat → V} {t : Bool} {x : Value} (e : RdS ws n sz cell t x) : RdS ws' n sz cell t x := by
  obtain ⟨a, cap, hx, hc, ht, hr⟩ := e
  exact ⟨a, cap, hx, hc, ht, hr.mono h fun _ _ _ h => h⟩

theorem RdCell.mono {ws ws' : Ws} (h : ∀ b o, ws b = some o → ws' b = some o) {v : V} {x : Value} (e : RdCell ws v x) : RdCell ws' v x := by
  unfold RdCell at *
  split at e
  · exact e.mono h
  · exact e

theorem RdSl.mono {ws ws' : Ws} (h : ∀ b o, ws b = some o → ws' b = some o) {c : Cont} {t : Bool} {x : Value} (e : RdSl ws c t x) : RdSl ws' c t x := by
  obtain ⟨a, cap, hx, hc, ht, hr⟩ := e
  exact ⟨a, cap, hx, hc, ht, hr.mono h fun _ _ _ hc => RdCell.mono h hc⟩

theorem RdArr.mono {ws ws' : Ws} (h : ∀ b o, ws b = some o → ws' b = some o) {c : Cont} {b off : Nat} (e : RdArr ws c b off) : RdArr ws' c b off := fun i hi j hj => by
  obtain ⟨u, hu, hr⟩ := e i hi j hj
  exact ⟨u, scell_mono h hu, RdCell.mono h hr⟩

mutual
/-- The handles of a value satisfy p. -/
def hs (p : Nat → Bool) : V → Bool
  | .own i => p i
  | .lp i _ => p i
  | .le i _ _ _ => p i
  | .sp cs _ => hsL p cs
  | .agg cs => hsL p cs
  | .tup cs => hsL p cs
  | .fn _ a b => (match hsL p a with | true => hsL p b | false => false)
  | _ => true
def hsL (p : Nat → Bool) : List V → Bool
  | [] => true
  | v :: r => (match hs p v with | true => hsL p r | false => false)
end

mutual
/-- The handles renamed. -/
def ren (f : Nat → Nat) : V → V
  | .own i => .own (f i)
  | .lp i o => .lp (f i) o
  | .le i e sz o => .le (f i) e sz o
  | .sp cs o => .sp (renL f cs) o
  | .agg cs => .agg (renL f cs)
  | .tup cs => .tup (renL f cs)
  | .fn n a b => .fn n (renL f a) (renL f b)
  | v => v
def renL (f : Nat → Nat) : List V → List V
  | [] => []
  | v :: r => ren f v :: renL f r
end

section
variable {g g' : Gh} {f : Nat → Nat} {p : Nat → Bool} (hw : ∀ b o, g.ws b = some o → g'.ws b = some o) (hi : ∀ (i : Nat) (x : Id), p i = true → g.ids[i]? = some x → g'.ids[f i]? = some x)
include hw hi
mutual
theorem Rd_ren (v : V) (x : Value) (hp : hs p v = true) (h : Rd g v x) : Rd g' (ren f v) x := by
  cases v with
  | und => trivial
  | bool b => exact h
  | int k n => exact h
  | flt k y => exact h
  | cpx k r i => exact h
  | str s => exact h
  | nilp => exact h
  | nilf => exact h
  | ifc n => exact h
  | sarr c =>
    obtain ⟨b, off, hx, hr⟩ := h
    exact ⟨b, off, hx, hr.mono hw⟩
  | nils k => exact h
  | sl c t => exact RdSl.mono hw h
  | own i => exact ⟨hi _ _ hp h.1, h.2⟩
  | lp i o =>
    obtain ⟨b, hb, hx⟩ := h
    exact ⟨b, hi _ _ hp hb, hx⟩
  | le i e sz o =>
    obtain ⟨b, n, cap, hb, hx⟩ := h
    exact ⟨b, n, cap, hi _ _ hp hb, hx⟩
  | sp cs o =>
    obtain ⟨b, off, hx, hc⟩ := h
    exact ⟨b, off, hx, RdC_ren b off cs 0 hp hc⟩
  | agg cs =>
    obtain ⟨vs, hx, hl⟩ := h
    exact ⟨vs, hx, RdL_ren cs _ hp hl⟩
  | tup cs =>
    obtain ⟨vs, hx, hl⟩ := h
    exact ⟨vs, hx, RdL_ren cs _ hp hl⟩
  | fn n a b =>
    obtain ⟨vs, us, hx, h1, h2⟩ := h
    simp only [hs] at hp
    split at hp
    · rename_i h0
      exact ⟨vs, us, hx, RdL_ren a _ h0 h1, RdL_ren b _ hp h2⟩
    · cases hp
theorem RdL_ren (l : List V) (xs : List Value) (hp : hsL p l = true) (h : RdL g l xs) : RdL g' (renL f l) xs := by
  cases l with
  | nil => cases xs with
    | nil => trivial
    | cons => exact h.elim
  | cons v r => cases xs with
    | nil => exact h.elim
    | cons x xs =>
      simp only [hsL] at hp
      split at hp
      · rename_i h0
        exact ⟨Rd_ren v x h0 h.1, RdL_ren r xs hp h.2⟩
      · cases hp
theorem RdC_ren (b off : Nat) (l : List V) (j : Nat) (hp : hsL p l = true) (h : RdC g b off l j) : RdC g' b off (renL f l) j := by
  cases l with
  | nil => trivial
  | cons v r =>
    simp only [hsL] at hp
    split at hp
    · rename_i h0
      obtain ⟨⟨u, hu, ho, hr⟩, hc⟩ := h
      exact ⟨⟨u, scell_mono hw hu, ho, Rd_ren v u h0 hr⟩, RdC_ren b off r (j + 1) hp hc⟩
    · cases hp
end
end

mutual
theorem ren_id (v : V) : ren (fun i => i) v = v := by
  cases v with
  | sp cs o => simp only [ren, renL_id]
  | agg cs => simp only [ren, renL_id]
  | tup cs => simp only [ren, renL_id]
  | fn n a b => simp only [ren, renL_id]
  | _ => rfl
theorem renL_id (l : List V) : renL (fun i => i) l = l := by
  cases l with
  | nil => rfl
  | cons v r => simp only [renL, ren_id, renL_id]
end

mutual
theorem hs_true (v : V) : hs (fun _ => true) v = true := by
  cases v with
  | sp cs o => simp only [hs, hsL_true]
  | agg cs => simp only [hs, hsL_true]
  | tup cs => simp only [hs, hsL_true]
  | fn n a b => simp only [hs, hsL_true]
  | _ => rfl
theorem hsL_true (l : List V) : hsL (fun _ => true) l = true := by
  cases l with
  | nil => rfl
  | cons v r => simp only [hsL, hs_true, hsL_true]
end

theorem Rd_mono {g g' : Gh} (h : Gle g g') {v : V} {x : Value} (e : Rd g v x) : Rd g' v x := by
  have := Rd_ren (f := fun i => i) (p := fun _ => true) h.ws (fun i x _ e => h.ids i x e) v x (hs_true v) e
  rwa [ren_id] at this
theorem RdL_mono {g g' : Gh} (h : Gle g g') {l : List V} {xs : List Value} (e : RdL g l xs) : RdL g' l xs := by
  have := RdL_ren (f := fun i => i) (p := fun _ => true) h.ws (fun i x _ e => h.ids i x e) l xs (hsL_true l) e
  rwa [renL_id] at this

theorem RdL_length {g : Gh} : ∀ {l : List V} {xs : List Value}, RdL g l xs → xs.length = l.length
  | [], [], _ => rfl
  | [], _ :: _, h => h.elim
  | _ :: _, [], h => h.elim
  | _ :: r, _ :: xs, h => by simp [RdL_length h.2]

theorem RdL_get {g : Gh} : ∀ {l : List V} {xs : List Value}, RdL g l xs → ∀ (i : Nat) (v : V), l[i]? = some v → ∃ x, xs[i]? = some x ∧ Rd g v x
  | [], [], _, i, v, h => by simp at h
  | [], _ :: _, h, _, _, _ => h.elim
  | _ :: _, [], h, _, _, _ => h.elim
  | v :: r, x :: xs, h, 0, u, e => by simp at e; subst e; exact ⟨x, rfl, h.1⟩
  | v :: r, x :: xs, h, i + 1, u, e => by simpa using RdL_get h.2 i u (by simpa using e)

theorem RdC_get {g : Gh} {b off : Nat} : ∀ {l : List V} {j : Nat}, RdC g b off l j → ∀ (i : Nat) (v : V), l[i]? = some v → ∃ u, scell g.ws b (off + (j + i)) = some u ∧ u.oneCell' = true ∧ Rd g v u
  | [], _, _, i, v, h => by simp at h
  | v :: r, j, h, 0, u, e => by simp at e; subst e; exact h.1
  | v :: r, j, h, i + 1, u, e => by
    have := RdC_get h.2 i u (by simpa using e)
    rwa [show j + 1 + i = j + (i + 1) by omega] at this

/-- Blocks of the call's own. -/
def RdCells (ws : Ws) (c : Cont) (xs : List Value) : Prop := ∀ i, i < c.len → ∀ j, j < c.sz → ∃ u, xs[i * c.sz + j]? = some u ∧ RdCell ws (c.cell i j) u

def OBin (w : World) (g : Gh) : OB → Id → Prop
  | .dead, _ => True
  | .cells cs, .cell b => ∃ arr e, w.heap[b]? = some (.cells arr e (0, 0)) ∧ RdL g cs arr.toList ∧ ∀ u ∈ arr.toList, u.oneCell' = true
  | .row e c, .row v => ∃ xs, w.ownsRow 0 e c.sz v c.len xs ∧ RdCells g.ws c xs ∧ ∀ u ∈ xs, u.oneCell' = true
  | _, _ => False

def OB.live : OB → Bool
  | .dead => false
  | _ => true

/-- Memory as it is known. -/
structure Mem (w : World) (g : Gh) (own : List OB) : Prop where
  len : g.ids.length = own.length
  still : ∀ b o, g.ws b = some o → w.heap[b]? = some o
  isIn : ∀ (i : Nat) (ob : OB) (id : Id), own[i]? = some ob → g.ids[i]? = some id → OBin w g ob id
  apart : ∀ (i : Nat) (ob : OB) (id : Id) (b : Nat), own[i]? = some ob → g.ids[i]? = some id → ob.live = true → id.block = some b → g.ws b = none
  two : ∀ (i j : Nat) (oi oj : OB) (x y : Id) (b : Nat), i ≠ j → own[i]? = some oi → own[j]? = some oj → g.ids[i]? = some x → g.ids[j]? = some y → oi.live = true → oj.live = true → x.block = some b → y.block ≠ some b

/-- From one world and ghost to a later one: what is not of the call's own is as it was. -/
structure Ext (g : Gh) (w : World) (g' : Gh) (w' : World) : Prop where
  os : w'.os = w.os
  tape : w'.tape = w.tape
  output : w'.output = w.output
  size : w.heap.size ≤ w'.heap.size
  block : ∀ b, b < w.heap.size → (∀ (i : Nat) (id : Id), g.ids[i]? = some id → id.block ≠ some b) → w'.heap[b]? = w.heap[b]?
  ws : ∀ b o, g.ws b = some o → g'.ws b = some o
  newId : ∀ (i : Nat) (id : Id) (b : Nat), g'.ids[i]? = some id → id.block = some b → (∃ (j : Nat) (x : Id), g.ids[j]? = some x ∧ x.block = some b) ∨ w.heap.size ≤ b
  newWs : ∀ b o, g'.ws b = some o → g.ws b = some o ∨ (∃ (j : Nat) (x : Id), g.ids[j]? = some x ∧ x.block = some b) ∨ w.heap.size ≤ b

theorem Ext.refl (g : Gh) (w : World) : Ext g w g w :=
  ⟨rfl, rfl, rfl, Nat.le_refl _, fun _ _ _ => rfl, fun _ _ h => h, fun i id b h hb => .inl ⟨i, id, h, hb⟩, fun _ _ h => .inl h⟩

theorem Ext.trans {g g1 g2 : Gh} {w w1 w2 : World} (h : Ext g w g1 w1) (k : Ext g1 w1 g2 w2) : Ext g w g2 w2 := by
  refine ⟨k.os.trans h.os, k.tape.trans h.tape, k.output.trans h.output, Nat.le_trans h.size k.size, fun b hb hn => ?_, fun b o e => k.ws b o (h.ws b o e), fun i id b e hb => ?_, fun b o e => ?_⟩
  · rw [k.block b (Nat.lt_of_lt_of_le hb h.size) fun i id e he => ?_, h.block b hb hn]
    rcases h.newId i id b e he with ⟨j, x, hj, hx⟩ | hge
    · exact hn j x hj hx
    · omega
  · rcases k.newId i id b e hb with ⟨j, x, hj, hx⟩ | hge
    · exact h.newId j x b hj hx
    · exact .inr (Nat.le_trans h.size hge)
  · rcases k.newWs b o e with h1 | ⟨j, x, hj, hx⟩ | hge
    · exact h.newWs b o h1
    · exact .inr (h.newId j x b hj hx)
    · exact .inr (.inr (Nat.le_trans h.size hge))

end Go.En
