/-
  AN OPERATION OF THE MACHINE DOES WHAT 'aop' RECKONS. Own work; generic over the program.
-/
import Derived.Test.YtnkefikpejjjcaaDoorEnD
set_option linter.unusedVariables false
set_option linter.unusedSectionVars false
set_option linter.unusedSimpArgs false
namespace Go.En

/-! ### Lists -/
theorem nth_eq {α : Type} : ∀ (l : List α) (i : Nat), nth l i = l[i]?
  | [], i => by simp [nth]
  | x :: r, 0 => by simp [nth]
  | x :: r, i + 1 => by simp [nth, nth_eq r i]
theorem setN_eq {α : Type} : ∀ (l : List α) (i : Nat) (x : α), setN l i x = l.set i x
  | [], i, x => by simp [setN]
  | y :: r, 0, x => by simp [setN]
  | y :: r, i + 1, x => by simp [setN, setN_eq r i x]
theorem len_eq {α : Type} : ∀ (l : List α), len l = l.length
  | [] => rfl
  | x :: r => by simp [len, len_eq r]
theorem cat_eq {α : Type} : ∀ (l m : List α), cat l m = l ++ m
  | [], m => rfl
  | x :: r, m => by simp [cat, cat_eq r m]
theorem takeN_eq {α : Type} : ∀ (n : Nat) (l : List α), takeN n l = l.take n
  | 0, l => by simp [takeN]
  | n + 1, [] => by simp [takeN]
  | n + 1, x :: r => by simp [takeN, takeN_eq n r]
theorem dropN_eq {α : Type} : ∀ (n : Nat) (l : List α), dropN n l = l.drop n
  | 0, l => by simp [dropN]
  | n + 1, [] => by simp [dropN]
  | n + 1, x :: r => by simp [dropN, dropN_eq n r]
theorem get_upd : ∀ (tm : List (Nat × V)) (d i : Nat) (v : V), get (upd tm d v) i = if i = d then v else get tm i
  | [], d, i, v => by
    simp only [upd, get]
    cases h : Nat.beq i d with
    | true => simp [Nat.eq_of_beq_eq_true h]
    | false => simp [Nat.ne_of_beq_eq_false h]
  | (j, u) :: r, d, i, v => by
    simp only [upd]
    cases h : Nat.beq d j with
    | true =>
      have hd := Nat.eq_of_beq_eq_true h
      subst hd
      simp only [get]
      cases h' : Nat.beq i d with
      | true => simp [Nat.eq_of_beq_eq_true h']
      | false => simp [Nat.ne_of_beq_eq_false h']
    | false =>
      have hd := Nat.ne_of_beq_eq_false h
      simp only [get, get_upd r d i v]
      cases h' : Nat.beq i j with
      | true =>
        have e := Nat.eq_of_beq_eq_true h'
        have : ¬ i = d := fun x => hd (by omega)
        simp [this]
      | false => rfl

theorem RdL_take {g : Gh} : ∀ {l : List V} {xs : List Value} (n : Nat), RdL g l xs → RdL g (l.take n) (xs.take n)
  | _, _, 0, _ => by simp [RdL]
  | [], [], n + 1, _ => by simp [RdL]
  | [], _ :: _, n + 1, h => h.elim
  | _ :: _, [], n + 1, h => h.elim
  | _ :: _, _ :: _, n + 1, h => ⟨h.1, RdL_take n h.2⟩
theorem RdL_drop {g : Gh} : ∀ {l : List V} {xs : List Value} (n : Nat), RdL g l xs → RdL g (l.drop n) (xs.drop n)
  | _, _, 0, h => by simpa using h
  | [], [], n + 1, _ => by simp [RdL]
  | [], _ :: _, n + 1, h => h.elim
  | _ :: _, [], n + 1, h => h.elim
  | _ :: _, _ :: _, n + 1, h => by simpa using RdL_drop n h.2
theorem RdL_set {g : Gh} : ∀ {l : List V} {xs : List Value} (i : Nat) {v : V} {x : Value}, RdL g l xs → Rd g v x → RdL g (l.set i v) (xs.set i x)
  | [], [], i, v, x, _, _ => by simp [RdL]
  | [], _ :: _, _, _, _, h, _ => h.elim
  | _ :: _, [], _, _, _, h, _ => h.elim
  | _ :: _, _ :: _, 0, v, x, h, hv => ⟨hv, h.2⟩
  | _ :: _, _ :: _, i + 1, v, x, h, hv => ⟨h.1, RdL_set i h.2 hv⟩
theorem RdL_append {g : Gh} : ∀ {l m : List V} {xs ys : List Value}, RdL g l xs → RdL g m ys → RdL g (l ++ m) (xs ++ ys)
  | [], m, [], ys, _, h => by simpa using h
  | [], _, _ :: _, _, h, _ => h.elim
  | _ :: _, _, [], _, h, _ => h.elim
  | _ :: _, _, _ :: _, _, h, k => ⟨h.1, RdL_append h.2 k⟩

/-! ### What is known of the program -/
def TDok (E : Env) : TD → TypeDesc → Prop
  | .slice e _, d => d = .slice e
  | .struct fs, d => ∃ f : Array Field, d = .struct f ∧ f.toList.map (fun x => (x.offset, x.type)) = fs ∧ ∀ p ∈ fs, ∃ ti, E.T p.2 = some ti
  | .string, d => d = .string
  | .int k, d => d = .int k
  | .flt k, d => d = .float k
  | .cpx k, d => d = .complex k
  | .bool, d => d = .bool
  | .array n e, d => d = .array n e
  | .ifc, d => ∃ ms, d = .interface ms
  | .other, _ => True

def aggOf : TypeDesc → Bool
  | .struct _ | .array _ _ => true
  | _ => false

structure TIok (P : Program) (E : Env) (t : Nat) (ti : TI) : Prop where
  und : ∃ d, P.underlying t = some d ∧ TDok E ti.desc d ∧ aggOf d = ti.agg
  info : ∃ i, P.info? t = some i ∧ i.size = ti.cells ∧ i.bytes = ti.bytes ∧ (ti.zero ≠ [] → ∃ z, i.zero = some z ∧ z.cells.size = ti.cells ∧ RdL ⟨fun _ => none, []⟩ ti.zero z.cells.toList ∧ ∀ u ∈ z.cells.toList, u.oneCell' = true)

structure EnvOK (P : Program) (E : Env) : Prop where
  T : ∀ t ti, E.T t = some ti → TIok P E t ti
  body : ∀ f, E.F f = .body → ∀ args w, (callFunc f args).run P w = .ok (.enter f args) w
  f32bits : ∀ f, E.F f = .f32bits → ∀ b w, (callFunc f #[.float .f32 b]).run P w = .ok (.value (.int .u32 b)) w
  f32from : ∀ f, E.F f = .f32from → ∀ n w, (callFunc f #[.int .u32 n]).run P w = .ok (.value (.float .f32 n.toNat)) w
  f64bits : ∀ f, E.F f = .f64bits → ∀ b w, (callFunc f #[.float .f64 b]).run P w = .ok (.value (.int .u64 b)) w
  f64from : ∀ f, E.F f = .f64from → ∀ n w, (callFunc f #[.int .u64 n]).run P w = .ok (.value (.float .f64 n.toNat)) w

/-- The package-level arrays hold what they are laid with. -/
def GOK (G : Nat → Option Cont) (g : Gh) : Prop := ∀ i c, G i = some c → RdArr g.ws c i 0
theorem GOK.mono {G : Nat → Option Cont} {g g' : Gh} (h : GOK G g) (hg : ∀ b o, g.ws b = some o → g'.ws b = some o) : GOK G g' := fun i c e => (h i c e).mono hg

structure RelA (G : Nat → Option Cont) (g : Gh) (st : St) (a : Act) : Prop where
  size : a.tmps.size = st.N
  defers : a.defers = []
  glob : GOK G g
  slot : ∀ i, Rd g (get st.tm i) (a.tmps.getD i undef)

structure Good (G : Nat → Option Cont) (g : Gh) (st : St) (a : Act) (w : World) : Prop where
  rel : RelA G g st a
  mem : Mem w g st.own

/-- The blocks that were handed in are the same ones. -/
def Low (n : Nat) (g g' : Gh) : Prop := ∀ (i : Nat) (x : Id), i < n → g.ids[i]? = some x → g'.ids[i]? = some x
theorem Low.refl (n : Nat) (g : Gh) : Low n g g := fun _ _ _ h => h
theorem Low.of_le {n : Nat} {g g' : Gh} (h : Gle g g') : Low n g g' := fun i x _ e => h.ids i x e
theorem Low.trans {n : Nat} {a b c : Gh} (h : Low n a b) (k : Low n b c) : Low n a c := fun i x l e => k i x l (h i x l e)

/-- An operation's outcome. -/
def OpOK (P : Program) (E : Env) (sem : Sem Next) (g : Gh) (a : Act) (w : World) (st : St) (v : V) (st' : St) : Prop :=
  ∃ x g' w', (sem.run P w = .ok (.value x) w' ∨ (sem.run P w = .ok .skip w' ∧ x = undef)) ∧ Rd g' v x ∧ Good E.G g' st' a w' ∧ Ext g w g' w' ∧ st'.base = st.base ∧ st'.N = st.N ∧ Low st.base g g'

def RS (P : Program) (E : Env) (sem : Sem Next) (g : Gh) (a : Act) (w : World) (st : St) : R → Prop
  | .ok v st' => OpOK P E sem g a w st v st'
  | .pre p v st' => p → OpOK P E sem g a w st v st'
  | .br b x y => OpOK P E sem g a w st (match b with | true => x | false => y) st
  | .call f args => ∃ vs, sem.run P w = .ok (.enter f vs) w ∧ RdL g args vs.toList
  | .bad => True

section
variable {P : Program} {E : Env} (hE : EnvOK P E) {g : Gh} {st : St} {a : Act} {w : World}

theorem OpOK.same {sem : Sem Next} {v : V} {x : Value} (hg : Good E.G g st a w) (h : sem.run P w = .ok (.value x) w) (hr : Rd g v x) : OpOK P E sem g a w st v st :=
  ⟨x, g, w, .inl h, hr, hg, Ext.refl g w, rfl, rfl, .refl _ _⟩

theorem Good.drew {G : Nat → Option Cont} {w' : World} (hg : Good G g st a w) (h : drewSome w w') : Good G g st a w' := ⟨hg.rel, hg.mem.drew h⟩

theorem OpOK.drawn {sem : Sem Next} {v : V} {x : Value} {w' : World} (hg : Good E.G g st a w) (h : sem.run P w = .ok (.value x) w') (hd : drewSome w w') (hr : Rd g v x) : OpOK P E sem g a w st v st :=
  ⟨x, g, w', .inl h, hr, hg.drew hd, Ext.drew g hd, rfl, rfl, .refl _ _⟩

theorem RelA.mono {G : Nat → Option Cont} {g' : Gh} {own' : List OB} (h : RelA G g st a) (hg : Gle g g') : RelA G g' { st with own := own' } a :=
  ⟨h.size, h.defers, h.glob.mono hg.ws, fun i => Rd_mono hg (h.slot i)⟩

theorem cvt_ok (g : Gh) (x : Value) : Rd g (cvt std x) x := by
  unfold cvt
  split <;> simp [Rd, std]
  exact ⟨_, _, ⟨rfl, rfl⟩, rfl, rfl⟩

include hE in
theorem cval_ok (g : Gh) (t : Nat) (x : Value) : Rd g (cval std E t x) x := by
  unfold cval
  split
  · split
    · simp [Rd]
    · trivial
  · exact cvt_ok g x

include hE in
theorem ev_ok (h : RelA E.G g st a) (t : Nat) (x : Operand) : Rd g (ev std E st.tm t x) (a.eval x) := by
  cases x with
  | tmp i => exact h.slot i
  | const v => exact cval_ok hE g t v
  | global n =>
    simp only [ev]
    split
    · rename_i c hc
      exact ⟨n, 0, rfl, h.glob n c hc⟩
    · trivial
  | func f => exact ⟨#[], #[], rfl, trivial, trivial⟩

include hE in
theorem evA_ok (h : RelA E.G g st a) : ∀ (l : List Operand) (ts : List Nat), RdL g (evA std E st.tm l ts) (l.map a.eval)
  | [], _ => trivial
  | x :: r, [] => ⟨ev_ok hE h 0 x, evA_ok h r []⟩
  | x :: r, t :: ts => ⟨ev_ok hE h t x, evA_ok h r ts⟩

theorem tdOf_some {t : Nat} {td : TD} (h : tdOf E t = td) (hn : td ≠ .other) : ∃ ti, E.T t = some ti ∧ ti.desc = td := by
  unfold tdOf at h
  split at h
  · rename_i ti e; exact ⟨ti, e, h⟩
  · exact absurd h.symm hn

include hE in
theorem td_ok {t : Nat} {td : TD} (h : tdOf E t = td) (hn : td ≠ .other) : ∃ d, P.underlying t = some d ∧ TDok E td d := by
  obtain ⟨ti, e, rfl⟩ := tdOf_some h hn
  obtain ⟨d, h1, h2, _⟩ := (hE.T t ti e).und
  exact ⟨d, h1, h2⟩

/-! ### Moves, picks, numbers -/
include hE in
theorem move_ok (hg : Good E.G g st a w) (o : Oper) (x : Operand) (h : o.op = .move x ∨ o.op = .assign x) : RS P E (execOp a.eval o) g a w st (.ok (ev std E st.tm o.type x) st) := by
  refine OpOK.same hg (x := a.eval x) ?_ (ev_ok hE hg.rel _ x)
  rcases h with h | h <;> simp [execOp, h]

theorem eqIK_eq {k k' : IntKind} (h : eqIK k k' = true) : k = k' := by cases k <;> cases k' <;> first | rfl | cases h
theorem eqFK_eq {k k' : FloatKind} (h : eqFK k k' = true) : k = k' := by cases k <;> cases k' <;> first | rfl | cases h

theorem wrap_in (k : IntKind) (n : Int) (h : k.min ≤ n ∧ n ≤ k.max) : k.wrap n = n := by
  cases k <;> simp only [IntKind.min, IntKind.max, IntKind.signed, IntKind.bits] at h <;> simp only [IntKind.wrap, IntKind.signed, IntKind.bits] <;> simp_all <;> omega

theorem aInt_ok (hg : Good E.G g st a w) {sem : Sem Next} (op : BinOp) (t : Nat) (k : IntKind) (x y : Int) (h : op ≠ .shl ∧ op ≠ .shr)
    (hrun : ∀ v w', (binOp op t (.int k x) (.int k y)).run P w = .ok v w' → sem.run P w = .ok (.value v) w') : RS P E sem g a w st (aInt std st op k x y) := by
  have b := IntKind.bits k
  cases op
  case add =>
    simp only [aInt]
    split
    · exact OpOK.same hg (hrun _ _ (by simp [binOp, Op.intArith, std])) rfl
    · intro hp
      have hp : k.min ≤ x + y ∧ x + y ≤ k.max := hp
      exact OpOK.same hg (hrun _ _ (by simp [binOp, Op.intArith, std, wrap_in k _ hp])) rfl
  case sub =>
    simp only [aInt]
    split
    · exact OpOK.same hg (hrun _ _ (by simp [binOp, Op.intArith, std])) rfl
    · intro hp
      have hp : k.min ≤ x - y ∧ x - y ≤ k.max := hp
      exact OpOK.same hg (hrun _ _ (by simp [binOp, Op.intArith, std, wrap_in k _ hp])) rfl
  case mul =>
    simp only [aInt]
    split
    · exact OpOK.same hg (hrun _ _ (by simp [binOp, Op.intArith, std])) rfl
    · intro hp
      have hp : k.min ≤ x * y ∧ x * y ≤ k.max := hp
      exact OpOK.same hg (hrun _ _ (by simp [binOp, Op.intArith, std, wrap_in k _ hp])) rfl
  all_goals simp only [aInt, RS] <;> (try trivial) <;> (try intro hp) <;> refine OpOK.same hg (hrun _ _ ?_) rfl
  · obtain ⟨h0, hp⟩ := hp
    have h0 : y ≠ 0 := h0
    have hp : k.min ≤ x.tdiv y ∧ x.tdiv y ≤ k.max := hp
    simp [binOp, Op.intDiv, std, wrap_in k _ hp, h0]
  · have h0 : y ≠ 0 := hp
    simp [binOp, Op.intDiv, std, h0]
  all_goals first
    | (simp [binOp, Op.intBits, std]; done)
    | (simp [binOp, Op.intCmp, std]; done)
    | skip

theorem bits_of_shc {k : IntKind} {n : Int} (h : std.shc k n) : 0 ≤ n ∧ n.toNat ≤ k.bits := by
  have h : 0 ≤ n ∧ n ≤ (k.bits : Int) := h
  omega

theorem aFloat_ok (hg : Good E.G g st a w) {sem : Sem Next} (op : BinOp) (t : Nat) (k : FloatKind) (x y : Nat)
    (hrun : ∀ v w', (binOp op t (.float k x) (.float k y)).run P w = .ok v w' → sem.run P w = .ok (.value v) w') : RS P E sem g a w st (aFloat std st op k (cn k x) (cn k y)) := by
  have ar : ∀ op : BinOp, (op = .add ∨ op = .sub ∨ op = .mul ∨ op = .quo) → (∀ v w', (binOp op t (.float k x) (.float k y)).run P w = .ok v w' → sem.run P w = .ok (.value v) w') →
      OpOK P E sem g a w st (.flt k (farith op k (cn k x) (cn k y))) st := fun op hop hr => by
    obtain ⟨r, w', h1, h2, h3⟩ := run_floatArith P w op hop k x y
    refine OpOK.drawn hg (hr (.float k r) w' ?_) h3 ⟨r, rfl, h2⟩
    rcases hop with rfl | rfl | rfl | rfl <;> simpa [binOp] using h1
  have cm : ∀ op : BinOp, (op = .eql ∨ op = .neq ∨ op = .lss ∨ op = .leq ∨ op = .gtr ∨ op = .geq) → (∀ v w', (binOp op t (.float k x) (.float k y)).run P w = .ok v w' → sem.run P w = .ok (.value v) w') →
      OpOK P E sem g a w st (.bool (fcmp op k (cn k x) (cn k y))) st := fun op hop hr => by
    have h1 := run_floatCmp P w op hop k x y
    refine OpOK.same hg (hr _ w ?_) rfl
    rcases hop with rfl | rfl | rfl | rfl | rfl | rfl <;> simpa [binOp] using h1
  cases op <;> simp only [aFloat, RS]
  case add => exact ar .add (by simp) hrun
  case sub => exact ar .sub (by simp) hrun
  case mul => exact ar .mul (by simp) hrun
  case quo => exact ar .quo (by simp) hrun
  case eql => exact cm .eql (by simp) hrun
  case neq => exact cm .neq (by simp) hrun
  case lss => exact cm .lss (by simp) hrun
  case leq => exact cm .leq (by simp) hrun
  case gtr => exact cm .gtr (by simp) hrun
  case geq => exact cm .geq (by simp) hrun

theorem run_equalIn_bool {t : Nat} (h : P.underlying t = some .bool) (d : Nat) (x y : Bool) (w : World) : (Op.equalIn (d + 1) t (.bool x) (.bool y)).run P w = .ok (x == y) w := by
  simp only [Op.equalIn, Sem.run_bind, run_underlying h, Result.andThen_ok, Sem.run_pure]
theorem run_equal_bool {t : Nat} (h : P.underlying t = some .bool) (x y : Bool) (w : World) : (Op.equal t (.bool x) (.bool y)).run P w = .ok (x == y) w :=
  run_equalIn_bool h 9999 x y w

theorem Rd_int {k : IntKind} {n : Int} {x : Value} (h : Rd g (.int k n) x) : x = .int k n := h
theorem negFloat_isNaN (k : FloatKind) (b : Nat) : True := trivial

include hE in
theorem aBin_ok (hg : Good E.G g st a w) {sem : Sem Next} (op : BinOp) (t : Nat) {vx vy : V} {x y : Value} (hx : Rd g vx x) (hy : Rd g vy y)
    (hrun : (∀ l m, x ≠ .agg l ∨ y ≠ .agg m) → (x ≠ .nilIface ∨ y ≠ .nilIface) → ∀ v w', (binOp op t x y).run P w = .ok v w' → sem.run P w = .ok (.value v) w') : RS P E sem g a w st (aBin std E st op t vx vy) := by
  unfold aBin
  split
  · -- integers
    rename_i k m k' n
    obtain rfl : x = .int k m := hx
    obtain rfl : y = .int k' n := hy
    have hr := hrun (by simp) (by simp)
    split
    · split
      · intro hp
        obtain ⟨h0, hb⟩ := bits_of_shc hp
        refine OpOK.same hg (hr _ _ ?_) rfl
        have hm : min n.toNat k.bits = n.toNat := Nat.min_eq_left hb
        have hn : ¬ n < 0 := by omega
        simp [binOp, Op.shift, hm, hn, std]
      intro hp
      obtain ⟨h1, h2⟩ := hp
      obtain ⟨h0, hb⟩ := bits_of_shc h1
      have h2 : k.min ≤ m * 2 ^ n.toNat ∧ m * 2 ^ n.toNat ≤ k.max := h2
      refine OpOK.same hg (hr _ _ ?_) rfl
      have hm : min n.toNat k.bits = n.toNat := Nat.min_eq_left hb
      have hn : ¬ n < 0 := by omega
      simp [binOp, Op.shift, hm, hn, std, wrap_in k _ h2]
    · intro hp
      obtain ⟨h0, hb⟩ := bits_of_shc hp
      refine OpOK.same hg (hr _ _ ?_) rfl
      have hm : min n.toNat k.bits = n.toNat := Nat.min_eq_left hb
      have hn : ¬ n < 0 := by omega
      simp [binOp, Op.shift, hm, hn, std]
    · rename_i n1 n2
      split
      · rename_i he
        obtain rfl := eqIK_eq he
        exact aInt_ok hg op t k m n ⟨n1, n2⟩ hr
      · trivial
  · rename_i k m k' n
    obtain ⟨b, rfl, rfl⟩ := hx
    obtain ⟨c, rfl, rfl⟩ := hy
    split
    · rename_i he
      obtain rfl := eqFK_eq he
      exact aFloat_ok hg op t k b c (hrun (by simp) (by simp))
    · trivial
  · rename_i m n
    obtain rfl : x = .bool m := hx
    obtain rfl : y = .bool n := hy
    have hr := hrun (by simp) (by simp)
    split
    · rename_i ht
      obtain ⟨d, hd, h2⟩ := td_ok hE ht (by simp)
      obtain rfl : d = .bool := h2
      split
      · exact OpOK.same hg (hr _ _ (by simp only [binOp, Sem.run_bind, run_equal_bool hd, Result.andThen_ok, Sem.run_pure]; rfl)) rfl
      · exact OpOK.same hg (hr _ _ (by simp only [binOp, Sem.run_bind, run_equal_bool hd, Result.andThen_ok, Sem.run_pure]; rfl)) rfl
      · trivial
    · trivial
  · rename_i m n
    obtain rfl : x = .string m := hx
    obtain rfl : y = .string n := hy
    have hr := hrun (by simp) (by simp)
    split
    · intro hp
      have hp : IntKind.i64.min ≤ (m.size : Int) + (n.size : Int) ∧ (m.size : Int) + (n.size : Int) ≤ IntKind.i64.max := hp
      have h1 : ¬ ((m.size + n.size : Nat) : Int) > IntKind.i64.max := by omega
      refine OpOK.same hg (hr _ _ ?_) rfl
      simp only [binOp, Op.stringOp, h1, if_false, std]
      rfl
    · exact OpOK.same hg (hr _ _ (by simp [binOp, Op.stringOp, std])) rfl
    · exact OpOK.same hg (hr _ _ (by simp [binOp, Op.stringOp, std])) rfl
    · exact OpOK.same hg (hr _ _ (by simp [binOp, Op.stringOp, std])) rfl
    · trivial
  · rename_i k m n k' m' n'
    obtain ⟨b, b', rfl, rfl, rfl⟩ := hx
    obtain ⟨c, c', rfl, rfl, rfl⟩ := hy
    have hr := hrun (by simp) (by simp)
    split
    · rename_i he
      obtain rfl := eqFK_eq he
      obtain ⟨r, w1, h1, h2, h3⟩ := run_floatArith P w .add (by simp) k b c
      obtain ⟨r', w2, h1', h2', h3'⟩ := run_floatArith P w1 .add (by simp) k b' c'
      refine OpOK.drawn (x := .complex k r r') hg (hr _ w2 ?_) (h3.trans h3') ⟨r, r', rfl, h2, h2'⟩
      simp [binOp, Op.complexOp, Op.Complex.arith, h1, h1']
    · rename_i he
      obtain rfl := eqFK_eq he
      obtain ⟨r, w1, h1, h2, h3⟩ := run_floatArith P w .sub (by simp) k b c
      obtain ⟨r', w2, h1', h2', h3'⟩ := run_floatArith P w1 .sub (by simp) k b' c'
      refine OpOK.drawn (x := .complex k r r') hg (hr _ w2 ?_) (h3.trans h3') ⟨r, r', rfl, h2, h2'⟩
      simp [binOp, Op.complexOp, Op.Complex.arith, h1, h1']
    · trivial
  · trivial

end
end Go.En
