/-
  THE RULES AS THEY ARE USED: the operations and the program as variables. Own work; generic over the program.
-/
import Derived.Test.YtnkefikpejjjcaaDoorEnV
set_option linter.unusedVariables false
set_option linter.unusedSectionVars false
set_option linter.unusedSimpArgs false
namespace Go.En

/-- What a function's end must meet. -/
structure Fin (E : Env) (rs : List ResultVar) (Q : V → List OB → Prop) (K : Exit → St → Prop) : Prop where
  ret : ∀ st, retK std E rs Q st → K .ret st
  normal : ∀ st, retK std E rs Q st → K .normal st

theorem FnOK.of_body2 {P : PG} {E : Env} (hE : GEnv P E) {f : Nat} {fn : Func} {c : Code} {args : List V} {own : List OB} {Q : V → List OB → Prop} (hf : P.P.funcs[f]? = some fn) (hb : fn.body = some c) (hn : Nat.ble (len args) fn.ntmps = true)
    (h : ∀ (o : Ops) (P' : PG) (K : Exit → St → Prop), std = o → P = P' → Fin E fn.results.toList Q K → wpc o E P' c K ⟨fn.ntmps, len own, entry 0 args, own⟩) : FnOK P f args own Q :=
  .of_body hE hf hb hn (h std P _ rfl rfl ⟨fun _ h => h, fun _ h => h⟩)

theorem Call.of_body {P : PG} {E : Env} (hE : GEnv P E) {f : Nat} {fn : Func} {c : Code} {args : List V} {r : V} {rows : List OB} (hf : P.P.funcs[f]? = some fn) (hb : fn.body = some c) (hn : Nat.ble (len args) fn.ntmps = true)
    (h : ∀ (o : Ops) (P' : PG) (K : Exit → St → Prop), std = o → P = P' → Fin E fn.results.toList (fun r' own' => r' = r ∧ own' = rows) K → wpc o E P' c K ⟨fn.ntmps, 0, entry 0 args, []⟩) : Call P f args r rows :=
  ⟨.of_body2 hE hf hb hn h⟩

section
variable {P P' : PG} (hP : P = P')
include hP

theorem useS {f : Nat} {args : List V} {r : V} {rows own : List OB} {Q : V → List OB → Prop} (h : Call P f args r rows) (ha : hsL (fun _ => false) args = true)
    (hQ : Q (ren (fun i => Nat.add i (len own)) r) (cat own (shOs (len own) rows))) : FnOK P' f args own Q := by
  subst hP; exact h.still ha hQ
theorem useL {f : Nat} {args args' : List V} {r : V} {rows own : List OB} {Q : V → List OB → Prop} (n : Nat) (h : Call P f args' r rows) (ha : mapO (lendV own n) args = some args') (hr : noRef r = true) (hrows : noRefOs rows = true)
    (hQ : Q (ren (fun i => Nat.add i (len own)) r) (cat own (shOs (len own) rows))) : FnOK P' f args own Q := by
  subst hP; exact h.lend n ha hr hrows hQ
theorem useRS {f : Nat} {args : List V} {r : V} {rows own : List OB} {Φ : V → List OB → Prop} (h : Call P f args r rows) (ha : hsL (fun _ => false) args = true)
    (hQ : Φ (ren (fun i => Nat.add i (len own)) r) (shOs (len own) rows)) : CallR P' f args own Φ := by
  subst hP; exact ⟨_, _, h.still ha ⟨rfl, rfl⟩, hQ⟩
theorem useRL {f : Nat} {args args' : List V} {r : V} {rows own : List OB} {Φ : V → List OB → Prop} (n : Nat) (h : Call P f args' r rows) (ha : mapO (lendV own n) args = some args') (hr : noRef r = true) (hrows : noRefOs rows = true)
    (hQ : Φ (ren (fun i => Nat.add i (len own)) r) (shOs (len own) rows)) : CallR P' f args own Φ := by
  subst hP; exact ⟨_, _, h.lend n ha hr hrows ⟨rfl, rfl⟩, hQ⟩

theorem useD {E : Env} (hE : GEnv P E) (hm : P.P.follows .mixedOrders = true) {o : Ops} (ho : std = o) {id : Nat} {ops : Array Oper} {K : St → Prop} {st : St} (hO : adOK ops.toList = true) (h : wpq o E P' st.own (takeN (qlen ops.toList) ops.toList) (wpt o E P' K (dropN (qlen ops.toList) ops.toList)) (takeN (qlen ops.toList) ops.toList) st) : AD P' id ops K st := by
  subst hP ho; exact AD.walk hE hm hO h

/-- Where a round of a loop may lead. -/
structure Lap {σ : Type} (S : σ → St) (μ : σ → Nat) (s : σ) (K K' : Exit → St → Prop) : Prop where
  next : ∀ st', (∃ s' π keep, okπ π (len st'.own) st'.base = true ∧ reS π keep st' = S s' ∧ μ s' < μ s) → K' .normal st'
  out : ∀ id st', K (.exit id) st' → K' (.exit id) st'
  ret : ∀ st', K .ret st' → K' .ret st'

theorem useW {E : Env} (hE : GEnv P E) {o : Ops} (ho : std = o) {σ : Type} (S : σ → St) (μ : σ → Nat) (s0 : σ) (π keep : List Nat) {c : Code} {K : Exit → St → Prop} {st : St}
    (hπ : okπ π (len st.own) st.base = true) (hs : reS π keep st = S s0) (hb : ∀ s, (S s).base = (S s0).base) (hN : ∀ s, (S s).N = (S s0).N)
    (h : ∀ (s : σ) (K' : Exit → St → Prop), Lap S μ s K K' → wpc o E P' c K' (S s)) : AW P' (.loop c) K st := by
  subst hP ho
  refine AW.coarse π keep hπ ?_
  rw [hs]
  refine AW.loop S μ s0 hb hN fun s => wpc_ok hE c (h s _ ⟨fun st' h => h, fun id st' h => h, fun st' h => h⟩)
end
end Go.En
