/-
  AN OPERATION OF THE MACHINE DOES WHAT 'aop' RECKONS: the theorem. Own work; generic over the program.
-/
import Derived.Test.YtnkefikpejjjcaaDoorEnN
set_option linter.unusedVariables false
set_option linter.unusedSectionVars false
set_option linter.unusedSimpArgs false
namespace Go.En

section
variable {P : Program} {E : Env} (hE : EnvOK P E) {g : Gh} {st : St} {a : Act} {w : World}

theorem RdL_cons {v : V} {l : List V} {xs : List Value} (h : RdL g (v :: l) xs) : ∃ x r, xs = x :: r ∧ Rd g v x ∧ RdL g l r := by
  cases xs with
  | nil => exact h.elim
  | cons x r => exact ⟨x, r, rfl, h.1, h.2⟩
theorem RdL_nil {xs : List Value} (h : RdL g [] xs) : xs = [] := by
  cases xs with
  | nil => rfl
  | cons x r => exact h.elim

include hE in
theorem aBuiltin_ok (hg : Good E.G g st a w) {sem : Sem Next} (b : Builtin) (ts : Array Nat) (ty : Nat) (cs : Array Bool) {args : List V} {xs : List Value} (hx : RdL g args xs)
    (hrun : ∀ r, (builtin b ts ty cs xs.toArray).run P w = r → sem.run P w = r) : RS P E sem g a w st (aBuiltin std E st b ts.toList args) := by
  unfold aBuiltin
  split
  · rename_i t r v hts
    obtain ⟨x, q, rfl, hv, hq⟩ := RdL_cons hx
    obtain rfl := RdL_nil hq
    have ht0 : ts[0]? = some t := by rw [← Array.getElem?_toList, hts]; rfl
    split
    · rename_i s htd
      obtain ⟨_, hu, rfl⟩ := td_ok hE htd (by simp)
      obtain rfl : x = .string s := hv
      refine OpOK.same hg (x := .int .i64 s.size) (hrun _ ?_) rfl
      simp [builtin, Builtin.len_, ht0, run_underlying hu, goInt]
    · rename_i _ e k htd
      obtain ⟨_, hu, rfl⟩ := td_ok hE htd (by simp)
      split
      · rename_i c hc
        obtain ⟨ad, cap, rfl, _⟩ := contents_ok hg hc hv
        refine OpOK.same hg (x := .int .i64 c.len) (hrun _ ?_) (by rw [olen_std]; rfl)
        simp [builtin, Builtin.len_, ht0, run_underlying hu, goInt]
      · trivial
    · trivial
  · rename_i t t' r s v hts
    obtain ⟨x, q, rfl, hv, hq⟩ := RdL_cons hx
    obtain ⟨y, q', rfl, hv', hq'⟩ := RdL_cons hq
    obtain rfl := RdL_nil hq'
    have e0 : ts[0]? = some t := by rw [← Array.getElem?_toList, hts]; rfl
    have e1 : ts[1]? = some t' := by rw [← Array.getElem?_toList, hts]; rfl
    have same : ∀ v w', (Builtin.append_ #[t, t'] ty #[x, y]).run P w = .ok v w' → sem.run P w = .ok (.value v) w' := fun v w' h => hrun _ (by
      have : (Builtin.append_ ts ty #[x, y]).run P w = .ok v w' := by
        rw [← h]
        simp only [Builtin.append_, e0, e1]
        rfl
      simp [builtin, this])
    split
    · rename_i kn q n htd
      obtain ⟨_, hu, rfl⟩ := td_ok hE htd (by simp)
      obtain rfl : y = .int q n := hv'
      exact aAppendZ_ok hE hg ty t t' hv hu same
    · exact aAppend_ok hE hg ty t t' hv hv' same
  · rename_i t r v hts
    obtain ⟨x, q, rfl, hv, hq⟩ := RdL_cons hx
    obtain rfl := RdL_nil hq
    have ht0 : ts[0]? = some t := by rw [← Array.getElem?_toList, hts]; rfl
    split
    · rename_i e k k' htd
      obtain ⟨_, hu, rfl⟩ := td_ok hE htd (by simp)
      obtain rfl : x = .slice none 0 0 := hv
      refine OpOK.same hg (x := .int .i64 0) (hrun _ ?_) rfl
      simp [builtin, Builtin.cap_, ht0, run_underlying hu, goInt]
    · rename_i e k c htd
      obtain ⟨_, hu, rfl⟩ := td_ok hE htd (by simp)
      obtain ⟨ad, cap, rfl, _, htt, _⟩ := hv
      obtain rfl := htt rfl
      refine OpOK.same hg (x := .int .i64 c.len) (hrun _ ?_) (by rw [olen_std]; rfl)
      simp [builtin, Builtin.cap_, ht0, run_underlying hu, goInt]
    · trivial
  · rename_i k m n
    obtain ⟨x, q, rfl, hv, hq⟩ := RdL_cons hx
    obtain rfl := RdL_nil hq
    obtain ⟨c, d, rfl, rfl, rfl⟩ := hv
    refine OpOK.same hg (x := .float k c) (hrun _ ?_) ⟨c, rfl, rfl⟩
    rfl
  · rename_i k m n
    obtain ⟨x, q, rfl, hv, hq⟩ := RdL_cons hx
    obtain rfl := RdL_nil hq
    obtain ⟨c, d, rfl, rfl, rfl⟩ := hv
    refine OpOK.same hg (x := .float k d) (hrun _ ?_) ⟨d, rfl, rfl⟩
    rfl
  · rename_i k m k' n
    obtain ⟨x, q, rfl, hv, hq⟩ := RdL_cons hx
    obtain ⟨y, q', rfl, hv', hq'⟩ := RdL_cons hq
    obtain rfl := RdL_nil hq'
    obtain ⟨c, rfl, rfl⟩ := hv
    obtain ⟨d, rfl, rfl⟩ := hv'
    split
    · rename_i he
      obtain rfl := eqFK_eq he
      refine OpOK.same hg (x := .complex k c d) (hrun _ ?_) ⟨c, d, rfl, rfl, rfl⟩
      show (builtin .complex ts ty cs #[.float k c, .float k d]).run P w = _
      have : Builtin.complex_ ts ty #[.float k c, .float k d] = if k = k then pure (.complex k c d) else stuck "complex: parts of different kinds" := rfl
      simp only [builtin, this, if_true, Sem.run_bind, Sem.run_pure, Result.andThen_ok]
    · trivial
  · rename_i k m k' n
    obtain ⟨x, q, rfl, hv, hq⟩ := RdL_cons hx
    obtain ⟨y, q', rfl, hv', hq'⟩ := RdL_cons hq
    obtain rfl := RdL_nil hq'
    obtain rfl : x = .int k m := hv
    obtain rfl : y = .int k' n := hv'
    refine OpOK.same hg (x := .int k (if n < m then n else m)) (hrun _ ?_) ?_
    · simp [builtin, Builtin.min_, Builtin.min2]
    · by_cases h : n < m
      · rw [if_pos h]; have : std.ilt n m = true := decide_eq_true h; rw [this]; rfl
      · rw [if_neg h]; have : std.ilt n m = false := decide_eq_false h; rw [this]; rfl
  · rename_i k m k' n
    obtain ⟨x, q, rfl, hv, hq⟩ := RdL_cons hx
    obtain ⟨y, q', rfl, hv', hq'⟩ := RdL_cons hq
    obtain rfl := RdL_nil hq'
    obtain rfl : x = .int k m := hv
    obtain rfl : y = .int k' n := hv'
    refine OpOK.same hg (x := .int k (if n > m then n else m)) (hrun _ ?_) ?_
    · simp [builtin, Builtin.max_, Builtin.max2]
    · by_cases h : m < n
      · rw [if_pos h]; have : std.ilt m n = true := decide_eq_true h; rw [this]; rfl
      · rw [if_neg h]; have : std.ilt m n = false := decide_eq_false h; rw [this]; rfl
  · trivial

include hE in
theorem aCall_ok (hg : Good E.G g st a w) {sem : Sem Next} (f : Nat) {args : List V} {xs : List Value} (hx : RdL g args xs) (hrun : ∀ r, (callFunc f xs.toArray).run P w = r → sem.run P w = r) :
    RS P E sem g a w st (aCall std E st f args) := by
  unfold aCall
  split
  · rename_i hf
    exact ⟨xs.toArray, hrun _ (hE.body f hf _ _), by simpa using hx⟩
  · rename_i y hf
    obtain ⟨x, q, rfl, hv, hq⟩ := RdL_cons hx
    obtain rfl := RdL_nil hq
    obtain ⟨b, rfl, rfl⟩ := hv
    intro hp
    have hp : (FloatKind.f32.decode (cn .f32 b)).isNaN = false := hp
    rw [cn_isNaN] at hp
    refine OpOK.same hg (hrun _ (hE.f32bits f hf b w)) ?_
    show Value.int .u32 b = .int .u32 ((cn .f32 b : Nat) : Int)
    rw [cn_of_not hp]
  · rename_i n hf
    obtain ⟨x, q, rfl, hv, hq⟩ := RdL_cons hx
    obtain rfl := RdL_nil hq
    obtain rfl : x = .int .u32 n := hv
    exact OpOK.same hg (hrun _ (hE.f32from f hf n w)) ⟨n.toNat, rfl, rfl⟩
  · rename_i y hf
    obtain ⟨x, q, rfl, hv, hq⟩ := RdL_cons hx
    obtain rfl := RdL_nil hq
    obtain ⟨b, rfl, rfl⟩ := hv
    intro hp
    have hp : (FloatKind.f64.decode (cn .f64 b)).isNaN = false := hp
    rw [cn_isNaN] at hp
    refine OpOK.same hg (hrun _ (hE.f64bits f hf b w)) ?_
    show Value.int .u64 b = .int .u64 ((cn .f64 b : Nat) : Int)
    rw [cn_of_not hp]
  · rename_i n hf
    obtain ⟨x, q, rfl, hv, hq⟩ := RdL_cons hx
    obtain rfl := RdL_nil hq
    obtain rfl : x = .int .u64 n := hv
    exact OpOK.same hg (hrun _ (hE.f64from f hf n w)) ⟨n.toNat, rfl, rfl⟩
  · trivial

theorem eqGuard_run {op : BinOp} {t : Nat} {x y : Operand} {u v : Value} (h : (∀ l m, u ≠ .agg l ∨ v ≠ .agg m)) (h' : u ≠ .nilIface ∨ v ≠ .nilIface) : (eqGuard op t x y u v).run P w = .ok () w := by
  unfold eqGuard
  cases op <;> first
    | rfl
    | (cases u <;> first
        | rfl
        | (cases v <;> first
            | rfl
            | exact h'.elim (fun q => absurd rfl q) (fun q => absurd rfl q)
            | exact (h _ _).elim (fun q => absurd rfl q) (fun q => absurd rfl q)))

theorem run_equalIn_nil {t : Nat} {ms} (h : P.underlying t = some (.interface ms)) (d : Nat) (w : World) : (Op.equalIn (d + 1) t .nilIface .nilIface).run P w = .ok true w := by
  simp [Op.equalIn, run_underlying h]
theorem run_equalIn_some {t : Nat} {ms} (h : P.underlying t = some (.interface ms)) (d : Nat) (ty : TypeId) (v : Value) (w : World) : (Op.equalIn (d + 1) t (.iface ty v) .nilIface).run P w = .ok false w := by
  simp [Op.equalIn, run_underlying h]
theorem guard_nil (op : BinOp) (t : Nat) (x : Operand) : (eqGuard op t x (.const .nilIface) .nilIface .nilIface).run P w = .ok () w := by
  unfold eqGuard
  cases op <;> cases x <;> rfl
theorem guard_some (op : BinOp) (t : Nat) (x : Operand) (ty : TypeId) (v : Value) : (eqGuard op t x (.const .nilIface) (.iface ty v) .nilIface).run P w = .ok () w := by
  unfold eqGuard
  cases op <;> rfl
theorem ifc_ops {t : Nat} {ms} (h : P.underlying t = some (.interface ms)) : (binOp .eql t .nilIface .nilIface).run P w = .ok (.bool true) w ∧ (binOp .neq t .nilIface .nilIface).run P w = .ok (.bool false) w ∧
    ∀ ty v, (binOp .eql t (.iface ty v) .nilIface).run P w = .ok (.bool false) w ∧ (binOp .neq t (.iface ty v) .nilIface).run P w = .ok (.bool true) w := by
  have e1 : (Op.equal t .nilIface .nilIface).run P w = .ok true w := run_equalIn_nil h 9999 w
  have e2 : ∀ ty v, (Op.equal t (.iface ty v) .nilIface).run P w = .ok false w := fun ty v => run_equalIn_some h 9999 ty v w
  refine ⟨?_, ?_, fun ty v => ⟨?_, ?_⟩⟩
  · simp only [binOp, Sem.run_bind, e1, Result.andThen_ok, Sem.run_pure]
  · simp only [binOp, Sem.run_bind, e1, Result.andThen_ok, Sem.run_pure]; rfl
  · simp only [binOp, Sem.run_bind, e2, Result.andThen_ok, Sem.run_pure]
  · simp only [binOp, Sem.run_bind, e2, Result.andThen_ok, Sem.run_pure]; rfl

include hE in
theorem aop_ok (hg : Good E.G g st a w) (o : Oper) : RS P E (execOp a.eval o) g a w st (aop std E st o.type o.op) := by
  unfold aop
  split
  · rename_i x hop
    exact move_ok hE hg o x (.inl hop)
  · rename_i x hop
    exact move_ok hE hg o x (.inr hop)
  · rename_i c x y hop
    split
    · rename_i t ht
      have hc := ev_ok hE hg.rel 0 c
      rw [ht] at hc
      have hc : a.eval c = .bool t := hc
      refine OpOK.same hg (x := if t then a.eval x else a.eval y) ?_ ?_
      · simp [execOp, hop, hc, asBool]
      · cases t
        · exact ev_ok hE hg.rel _ y
        · exact ev_ok hE hg.rel _ x
    · trivial
  · rename_i e hop
    exact aAlloc_ok hE hg e fun v w' h => by simp [execOp, hop, h]
  · rename_i e x hop
    exact box_ok hg e (ev_ok hE hg.rel e x) fun v w' h => by simp [execOp, hop, h]
  · rename_i t parts hop
    refine aBuild_ok hE hg t parts.toList fun v w' h => ?_
    have : (parts.map fun p => (p.1, a.eval p.2)) = (parts.toList.map fun p => (p.1, a.eval p.2)).toArray := by apply Array.ext'; simp
    simp only [execOp, hop, Sem.run_bind, this, h, Result.andThen_ok, Sem.run_pure]
  · rename_i t n parts hop
    refine aBuildSlice_ok hE hg t n parts.toList fun v w' h => ?_
    have : (parts.map fun p => (p.1, a.eval p.2)) = (parts.toList.map fun p => (p.1, a.eval p.2)).toArray := by apply Array.ext'; simp
    simp only [execOp, hop, Sem.run_bind, this, h, Result.andThen_ok, Sem.run_pure]
  · rename_i t x hop
    refine aLoad_ok hE hg t (ev_ok hE hg.rel 0 x) fun ad v w' hx h => ?_
    simp [execOp, hop, Instr.loadAt, hx, Instr.sureAddr, h]
  · rename_i t x y hop
    refine aStore_ok hE hg t (ev_ok hE hg.rel 0 x) (ev_ok hE hg.rel t y) fun ad w' hx h => ?_
    simp [execOp, hop, Instr.storeAt, hx, Instr.sureAddr, h]
  · rename_i x hop
    have hx := ev_ok hE hg.rel 0 x
    split
    · rename_i i p he
      rw [he] at hx
      obtain ⟨b, hb, hx⟩ := hx
      refine OpOK.same hg (x := a.eval x) ?_ ⟨b, hb, hx⟩
      simp [execOp, hop, hx]
    · rename_i cs p he
      rw [he] at hx
      obtain ⟨b, o, hx, hc⟩ := hx
      refine OpOK.same hg (x := a.eval x) ?_ ⟨b, o, hx, hc⟩
      simp [execOp, hop, hx]
    · rename_i i e s p he
      rw [he] at hx
      obtain ⟨b, n, cap, hb, hx⟩ := hx
      refine OpOK.same hg (x := a.eval x) ?_ ⟨b, n, cap, hb, hx⟩
      simp [execOp, hop, hx]
    · rename_i f b c he
      rw [he] at hx
      obtain ⟨vs, us, hx, h1, h2⟩ := hx
      refine OpOK.same hg (x := a.eval x) ?_ ⟨vs, us, hx, h1, h2⟩
      simp [execOp, hop, hx]
    · trivial
  · rename_i op t x y t' hop
    split
    · rename_i hy
      have hy : y = .const .nilIface := by
        cases y with
        | const v => cases v <;> first | rfl | cases hy
        | _ => cases hy
      subst hy
      unfold aIfc
      split
      · rename_i vx b htx hev
        have hx := ev_ok hE hg.rel t x
        rw [htx] at hx
        obtain ⟨ti, h1, h2⟩ := tdOf_some hev (by simp)
        obtain ⟨d, hu, hd⟩ := td_ok hE hev (by simp)
        obtain ⟨ms, rfl⟩ := hd
        have hxn : (b = true ∧ a.eval x = .nilIface) ∨ (b = false ∧ ∃ ty v, a.eval x = .iface ty v) := by
          cases b
          · exact .inr ⟨rfl, hx⟩
          · exact .inl ⟨rfl, hx⟩
        have hgd : (eqGuard op t x (.const .nilIface) (a.eval x) (a.eval (.const .nilIface))).run P w = .ok () w := by
          rcases hxn with ⟨_, hx⟩ | ⟨_, ty, v, hx⟩ <;> rw [hx]
          · exact guard_nil op t x
          · exact guard_some op t x ty v
        have hb : ∀ q, (op = .eql ∧ q = b) ∨ (op = .neq ∧ q = !b) → (binOp op t (a.eval x) (a.eval (.const .nilIface))).run P w = .ok (.bool q) w := by
          intro q ho
          rcases hxn with ⟨rfl, hx⟩ | ⟨rfl, ty, v, hx⟩ <;> rw [hx]
          · rcases ho with ⟨rfl, rfl⟩ | ⟨rfl, rfl⟩
            · exact (ifc_ops hu).1
            · exact (ifc_ops hu).2.1
          · rcases ho with ⟨rfl, rfl⟩ | ⟨rfl, rfl⟩
            · exact ((ifc_ops hu).2.2 ty v).1
            · exact ((ifc_ops hu).2.2 ty v).2
        split
        · refine OpOK.same hg (x := .bool b) ?_ rfl
          simp only [execOp, hop, Sem.run_bind, hgd, Result.andThen_ok, hb b (.inl ⟨rfl, rfl⟩), Sem.run_pure]
        · cases b
          · refine OpOK.same hg (x := .bool true) ?_ rfl
            simp only [execOp, hop, Sem.run_bind, hgd, Result.andThen_ok, hb true (.inr ⟨rfl, rfl⟩), Sem.run_pure]
          · refine OpOK.same hg (x := .bool false) ?_ rfl
            simp only [execOp, hop, Sem.run_bind, hgd, Result.andThen_ok, hb false (.inr ⟨rfl, rfl⟩), Sem.run_pure]
        · trivial
      · trivial
    refine aBin_ok hE hg op t (ev_ok hE hg.rel t x) (ev_ok hE hg.rel t' y) fun h1 h2 v w' h => ?_
    simp only [execOp, hop, Sem.run_bind, eqGuard_run h1 h2, h, Result.andThen_ok, Sem.run_pure]
  · rename_i op t x hop
    refine aUn_ok hg op (ev_ok hE hg.rel t x) fun v w' h => ?_
    simp only [execOp, hop, Sem.run_bind, h, Result.andThen_ok, Sem.run_pure]
  · rename_i s d x hop
    refine aConv_ok hE hg s d (ev_ok hE hg.rel s x) fun v w' h => ?_
    simp only [execOp, hop, Sem.run_bind, h, Result.andThen_ok, Sem.run_pure]
  · rename_i f first caps hop
    refine OpOK.same hg (x := .func (.func f) (first.map a.eval) (caps.map a.eval)) ?_ ⟨_, _, rfl, ?_, ?_⟩
    · simp [execOp, hop, Instr.makeFunc]
    · simpa using evA_ok hE hg.rel first.toList []
    · simpa using evA_ok hE hg.rel caps.toList []
  · rename_i t l c hop
    refine aMake_ok hE hg t (ev_ok hE hg.rel 0 l) (ev_ok hE hg.rel 0 c) fun v w' h => ?_
    simp only [execOp, hop, Sem.run_bind, h, Result.andThen_ok, Sem.run_pure]
  · rename_i t x lo hi mx hop
    refine aSlice_ok hE hg t (ev_ok hE hg.rel t x) (RdO_of hg.rel hE lo) (RdO_of hg.rel hE hi) (RdO_of hg.rel hE mx) fun v w' h => ?_
    simp only [execOp, hop, Sem.run_bind, h, Result.andThen_ok, Sem.run_pure]
  · rename_i t x f hop
    refine fieldAddr_ok hE hg t f (ev_ok hE hg.rel 0 x) fun v w' h => ?_
    simp only [execOp, hop, Sem.run_bind, h, Result.andThen_ok, Sem.run_pure]
  · rename_i t x f hop
    refine field_ok hE hg t f (ev_ok hE hg.rel t x) fun v w' h => ?_
    simp only [execOp, hop, Sem.run_bind, h, Result.andThen_ok, Sem.run_pure]
  · rename_i t x i hop
    refine aIndexAddr_ok hE hg t (ev_ok hE hg.rel t x) (ev_ok hE hg.rel 0 i) fun v w' h => ?_
    simp only [execOp, hop, Sem.run_bind, h, Result.andThen_ok, Sem.run_pure]
  · rename_i t x i hop
    split
    · rename_i s k n htd hs hn
      obtain ⟨_, hu, rfl⟩ := td_ok hE htd (by simp)
      have hx := ev_ok hE hg.rel t x
      have hi := ev_ok hE hg.rel 0 i
      rw [hs] at hx
      rw [hn] at hi
      have hx : a.eval x = .string s := hx
      have hi : a.eval i = .int k n := hi
      intro hp
      have hp : 0 ≤ n ∧ n < (s.size : Int) := hp
      have hlt : n.toNat < s.size := by omega
      refine OpOK.same hg (x := .int .u8 (s[n.toNat]'hlt).toNat) ?_ ?_
      · simp [execOp, hop, hx, hi, Instr.index, asIntOf, run_underlying hu, hp.1, hlt]
      · show Value.int .u8 _ = .int .u8 ((s.data.getD n.toNat 0).toNat : Int)
        have hd : n.toNat < s.data.size := hlt
        have : s.data.getD n.toNat 0 = s[n.toNat]'hlt := by
          rw [Array.getD_eq_getD_getElem?, Array.getElem?_eq_getElem hd]
          rfl
        rw [this]
    · trivial
  · rename_i x i hop
    split
    · rename_i cs he
      have hx := ev_ok hE hg.rel 0 x
      rw [he] at hx
      obtain ⟨vs, hx, hl⟩ := hx
      split
      · rename_i v hv
        rw [nth_eq] at hv
        obtain ⟨u, hu, hr⟩ := RdL_get hl i v hv
        refine OpOK.same hg (x := u) ?_ hr
        have hu' : vs[i]? = some u := by simpa using hu
        simp [execOp, hop, hx, Instr.extract, hu']
      · trivial
    · trivial
  · rename_i c hop
    split
    · rename_i b hb
      refine aBuiltin_ok hE hg b c.argTypes o.type (c.args.map fun | .const _ => true | _ => false) (evA_ok hE hg.rel c.args.toList c.argTypes.toList) fun r h => ?_
      have e : (c.args.toList.map a.eval).toArray = c.args.map a.eval := by apply Array.ext'; simp
      rw [e] at h
      simp only [execOp, hop, resolve, hb, Sem.run_bind, Sem.run_pure, Result.andThen_ok, invoke]
      exact h
    · rename_i f hf
      split
      · rename_i n first caps he
        have hx := ev_ok hE hg.rel 0 f
        rw [he] at hx
        obtain ⟨vs, us, hx, h1, h2⟩ := hx
        rw [cat_eq, cat_eq]
        refine aCall_ok hE hg n (RdL_append h1 (RdL_append (evA_ok hE hg.rel c.args.toList c.argTypes.toList) h2)) fun r h => ?_
        have e : (vs.toList ++ (c.args.toList.map a.eval ++ us.toList)).toArray = vs ++ c.args.map a.eval ++ us := by apply Array.ext'; simp
        rw [e] at h
        simp only [execOp, hop, resolve, hf, hx, Deferred.ofValue, Sem.run_bind, Sem.run_pure, Result.andThen_ok, invoke]
        exact h
      · trivial
    · trivial
  · trivial

end
end Go.En
