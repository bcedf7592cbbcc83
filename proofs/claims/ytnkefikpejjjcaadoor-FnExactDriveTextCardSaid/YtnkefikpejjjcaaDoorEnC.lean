/-
  WHAT AN OPERATION DOES TO ABSTRACT STATES, as a function that can be reckoned. Own work; generic over the program.
-/
import Derived.Test.YtnkefikpejjjcaaDoorEnB
set_option linter.unusedVariables false
namespace Go.En

/-- The plain operations; handed over as a variable where an operation is reckoned, so that nothing looks into them. -/
structure Ops where
  add : Int → Int → Int
  sub : Int → Int → Int
  mul : Int → Int → Int
  quo : Int → Int → Int
  rem : Int → Int → Int
  neg : Int → Int
  shl : Int → Int → Int
  shr : Int → Int → Int
  band : IntKind → Int → Int → Int
  bor : IntKind → Int → Int → Int
  bxor : IntKind → Int → Int → Int
  bclr : IntKind → Int → Int → Int
  wrap : IntKind → Int → Int
  ilt : Int → Int → Bool
  ile : Int → Int → Bool
  ieq : Int → Int → Bool
  ine : Int → Int → Bool
  beq : Bool → Bool → Bool
  bne : Bool → Bool → Bool
  rng : IntKind → Int → Prop
  idx : Int → Int → Prop
  sub3 : Int → Int → Int → Prop
  nz : Int → Prop
  shc : IntKind → Int → Prop
  small : Int → Prop
  fadd : FloatKind → Nat → Nat → Nat
  fsub : FloatKind → Nat → Nat → Nat
  fmul : FloatKind → Nat → Nat → Nat
  fdiv : FloatKind → Nat → Nat → Nat
  feq : FloatKind → Nat → Nat → Bool
  fne : FloatKind → Nat → Nat → Bool
  flt : FloatKind → Nat → Nat → Bool
  fle : FloatKind → Nat → Nat → Bool
  fgt : FloatKind → Nat → Nat → Bool
  fge : FloatKind → Nat → Nat → Bool
  fneg : FloatKind → Nat → Nat
  ofint : FloatKind → Int → Nat
  toi : FloatKind → IntKind → Nat → Int
  toiOK : FloatKind → IntKind → Nat → Prop
  conv : FloatKind → FloatKind → Nat → Nat
  fits : FloatKind → FloatKind → Nat → Prop
  notNaN : FloatKind → Nat → Prop
  cn : FloatKind → Nat → Nat
  len : {α : Type} → List α → Int
  get : {α : Type} → α → List α → Int → α
  set : {α : Type} → List α → Int → α → List α
  app : {α : Type} → List α → List α → List α
  rep : {α : Type} → Int → α → List α
  cut : {α : Type} → List α → Int → Int → List α
  slen : ByteArray → Int
  sget : ByteArray → Int → Int
  scat : ByteArray → ByteArray → ByteArray
  scut : ByteArray → Int → Int → ByteArray
  seq : ByteArray → ByteArray → Bool
  sne : ByteArray → ByteArray → Bool
  slt : ByteArray → ByteArray → Bool
  ofBytes : List Int → ByteArray
  ofNat : Nat → Int
  frbits : FloatKind → Int → Nat

/-- What they are. -/
def std : Ops where
  add := fun a b => a + b
  sub := fun a b => a - b
  mul := fun a b => a * b
  quo := fun a b => a.tdiv b
  rem := fun a b => a.tmod b
  neg := fun a => 0 - a
  shl := fun a b => a * 2 ^ b.toNat
  shr := fun a b => a.fdiv (2 ^ b.toNat)
  band := fun k a b => k.wrap ((BitVec.ofInt k.bits a &&& BitVec.ofInt k.bits b).toNat)
  bor := fun k a b => k.wrap ((BitVec.ofInt k.bits a ||| BitVec.ofInt k.bits b).toNat)
  bxor := fun k a b => k.wrap ((BitVec.ofInt k.bits a ^^^ BitVec.ofInt k.bits b).toNat)
  bclr := fun k a b => k.wrap ((BitVec.ofInt k.bits a &&& ~~~BitVec.ofInt k.bits b).toNat)
  wrap := fun k n => k.wrap n
  ilt := fun a b => decide (a < b)
  ile := fun a b => decide (a ≤ b)
  ieq := fun a b => a == b
  ine := fun a b => a != b
  beq := fun a b => a == b
  bne := fun a b => a != b
  rng := fun k n => k.min ≤ n ∧ n ≤ k.max
  idx := fun i n => 0 ≤ i ∧ i < n
  sub3 := fun l h n => 0 ≤ l ∧ l ≤ h ∧ h ≤ n
  nz := fun n => n ≠ 0
  shc := fun k n => 0 ≤ n ∧ n ≤ k.bits
  small := fun n => 0 ≤ n ∧ n ≤ 1099511627776
  fadd := fadd
  fsub := fsub
  fmul := fmul
  fdiv := fdiv
  feq := feq
  fne := fun k x y => !feq k x y
  flt := flt
  fle := fle
  fgt := fgt
  fge := fge
  fneg := fneg
  ofint := fun k n => k.nearest n
  toi := fun s k x => (((s.decode x).toInt .zero).getD 0)
  toiOK := fun s k x => ∃ n, (s.decode x).toInt .zero = some n ∧ k.min ≤ n ∧ n ≤ k.max
  conv := fun s d x => if (s.decode x).isNaN then nan d else d.encode (s.decode x)
  fits := fun s d x => (s.decode x).isInfinity = true ∨ (d.decode (d.encode (s.decode x))).isInfinity = false
  notNaN := fun k x => (k.decode x).isNaN = false
  cn := cn
  len := fun l => (l.length : Int)
  get := fun d l i => l.getD i.toNat d
  set := fun l i x => l.set i.toNat x
  app := fun a b => a ++ b
  rep := fun n x => List.replicate n.toNat x
  cut := fun l a b => (l.take b.toNat).drop a.toNat
  slen := fun s => (s.size : Int)
  sget := fun s i => ((s.data.getD i.toNat 0).toNat : Int)
  scat := fun a b => a ++ b
  scut := fun s a b => s.extract a.toNat b.toNat
  seq := fun a b => a.toList == b.toList
  sne := fun a b => !(a.toList == b.toList)
  slt := fun a b => Op.bytesLess a.toList b.toList
  ofBytes := fun xs => strOfNums xs
  ofNat := fun n => (n : Int)
  frbits := fun k n => cn k n.toNat

/-- What is known of a type. -/
inductive TD where
  | slice (e : Nat) (k : CK)
  | struct (fs : List (Nat × Nat))
  | string
  | int (k : IntKind) | flt (k : FloatKind) | cpx (k : FloatKind) | bool
  | array (n e : Nat)
  | ifc
  | other

structure TI where
  desc : TD
  cells : Nat
  bytes : Nat
  agg : Bool
  zero : List V

/-- The function's kind: one with a body, or one of the machine's own. -/
inductive FK where
  | body | f32bits | f32from | f64bits | f64from | trunc | floor | sqrt | none

structure Env where
  T : Nat → Option TI
  F : Nat → FK
  /-- package-level arrays that hold what they are laid with -/
  G : Nat → Option Cont

structure St where
  N : Nat
  base : Nat
  tm : List (Nat × V)
  own : List OB

def get : List (Nat × V) → Nat → V
  | [], _ => .und
  | (j, u) :: r, i => match Nat.beq i j with | true => u | false => get r i
def upd : List (Nat × V) → Nat → V → List (Nat × V)
  | [], i, v => [(i, v)]
  | (j, u) :: r, i, v => match Nat.beq i j with | true => (i, v) :: r | false => (j, u) :: upd r i v

inductive R where
  | ok (v : V) (st : St)
  | pre (p : Prop) (v : V) (st : St)
  | br (b : Bool) (x y : V)
  | call (f : Nat) (args : List V)
  | bad

def cvt (o : Ops) : Value → V
  | .bool b => .bool b
  | .int k n => .int k n
  | .float k b => .flt k (o.cn k b)
  | .complex k a b => .cpx k (o.cn k a) (o.cn k b)
  | .string s => .str s
  | .pointer none => .nilp
  | .nilFunc => .nilf
  | .nilIface => .ifc true
  | _ => .und

def empty : CK → Cont
  | .f32 => .f32 [] | .f64 => .f64 [] | .i64 => .i64 [] | .u8 => .u8 [] | .bool => .bool [] | .str => .str [] | .c64 => .c64 [] | .r3 => .r3 [] | .ss => .ss []

def tdOf (E : Env) (t : Nat) : TD := match E.T t with | some ti => ti.desc | none => .other

/-- A constant; nil slices are told apart by their type. -/
def cval (o : Ops) (E : Env) (t : Nat) : Value → V
  | .slice none 0 0 => match tdOf E t with | .slice _ k => .nils k | _ => .und
  | v => cvt o v

def ev (o : Ops) (E : Env) (tm : List (Nat × V)) (t : Nat) : Operand → V
  | .tmp i => get tm i
  | .const v => cval o E t v
  | .func f => .fn f [] []
  | .global i => (match E.G i with | some c => .sarr c | none => .und)

/-- The cells of a value of one variable. -/
def solid : V → Bool
  | .und | .agg _ | .tup _ => false
  | _ => true
def solids : List V → Bool
  | [] => true
  | v :: r => match solid v with | true => solids r | false => false
def cellsOf : V → Option (List V)
  | .agg cs => (match solids cs with | true => some cs | false => none)
  | v => (match solid v with | true => some [v] | false => none)

def nth {α : Type} : List α → Nat → Option α
  | [], _ => none
  | x :: _, 0 => some x
  | _ :: r, n + 1 => nth r n
def setN {α : Type} : List α → Nat → α → List α
  | [], _, _ => []
  | _ :: r, 0, y => y :: r
  | x :: r, n + 1, y => x :: setN r n y
def len {α : Type} : List α → Nat
  | [] => 0
  | _ :: r => Nat.succ (len r)
def cat {α : Type} : List α → List α → List α
  | [], m => m
  | x :: r, m => x :: cat r m
def takeN {α : Type} : Nat → List α → List α
  | 0, _ => []
  | _, [] => []
  | n + 1, x :: r => x :: takeN n r
def dropN {α : Type} : Nat → List α → List α
  | 0, l => l
  | _, [] => []
  | n + 1, _ :: r => dropN n r
/-- Cells vs laid over cs from off on. -/
def lay (cs : List V) (off : Nat) : List V → List V
  | [] => cs
  | v :: r => lay (setN cs off v) (off + 1) r

namespace Cont
def olen (o : Ops) : Cont → Int
  | .f32 xs => o.len xs | .f64 xs => o.len xs | .i64 xs => o.len xs | .u8 xs => o.len xs | .bool xs => o.len xs | .str xs => o.len xs | .c64 xs => o.len xs | .r3 xs => o.len xs | .ss xs => o.len xs
def ocell (o : Ops) : Cont → Int → Nat → V
  | .f32 xs, i, _ => .flt .f32 (o.get 0 xs i)
  | .f64 xs, i, _ => .flt .f64 (o.get 0 xs i)
  | .i64 xs, i, _ => .int .i64 (o.get 0 xs i)
  | .u8 xs, i, _ => .int .u8 (o.get 0 xs i)
  | .bool xs, i, _ => .bool (o.get false xs i)
  | .str xs, i, _ => .str (o.get ByteArray.empty xs i)
  | .c64 xs, i, _ => .cpx .f32 (o.get (0, 0) xs i).1 (o.get (0, 0) xs i).2
  | .r3 xs, i, 0 => .flt .f32 (o.get (0, 0, 0) xs i).1
  | .r3 xs, i, 1 => .flt .f32 (o.get (0, 0, 0) xs i).2.1
  | .r3 xs, i, _ => .flt .f32 (o.get (0, 0, 0) xs i).2.2
  | .ss xs, i, _ => .sl (.f32 (o.get [] xs i)) false
/-- The cells of an element. -/
def oelem (o : Ops) : Cont → Int → List V
  | .r3 xs, i => [.flt .f32 (o.get (0, 0, 0) xs i).1, .flt .f32 (o.get (0, 0, 0) xs i).2.1, .flt .f32 (o.get (0, 0, 0) xs i).2.2]
  | c, i => [c.ocell o i 0]
/-- Cell j of element i made v. -/
def oset (o : Ops) : Cont → Int → Nat → V → Option Cont
  | .f32 xs, i, 0, .flt .f32 x => some (.f32 (o.set xs i x))
  | .f64 xs, i, 0, .flt .f64 x => some (.f64 (o.set xs i x))
  | .i64 xs, i, 0, .int .i64 x => some (.i64 (o.set xs i x))
  | .u8 xs, i, 0, .int .u8 x => some (.u8 (o.set xs i x))
  | .bool xs, i, 0, .bool x => some (.bool (o.set xs i x))
  | .str xs, i, 0, .str x => some (.str (o.set xs i x))
  | .c64 xs, i, 0, .cpx .f32 a b => some (.c64 (o.set xs i (a, b)))
  | .r3 xs, i, 0, .flt .f32 x => some (.r3 (o.set xs i (x, (o.get (0, 0, 0) xs i).2.1, (o.get (0, 0, 0) xs i).2.2)))
  | .r3 xs, i, 1, .flt .f32 x => some (.r3 (o.set xs i ((o.get (0, 0, 0) xs i).1, x, (o.get (0, 0, 0) xs i).2.2)))
  | .r3 xs, i, 2, .flt .f32 x => some (.r3 (o.set xs i ((o.get (0, 0, 0) xs i).1, (o.get (0, 0, 0) xs i).2.1, x)))
  | _, _, _, _ => none
def oapp (o : Ops) : Cont → Cont → Option Cont
  | .f32 a, .f32 b => some (.f32 (o.app a b)) | .f64 a, .f64 b => some (.f64 (o.app a b)) | .i64 a, .i64 b => some (.i64 (o.app a b)) | .u8 a, .u8 b => some (.u8 (o.app a b))
  | .bool a, .bool b => some (.bool (o.app a b)) | .str a, .str b => some (.str (o.app a b)) | .c64 a, .c64 b => some (.c64 (o.app a b)) | .r3 a, .r3 b => some (.r3 (o.app a b)) | .ss a, .ss b => some (.ss (o.app a b))
  | _, _ => none
def ocut (o : Ops) : Cont → Int → Int → Cont
  | .f32 a, l, h => .f32 (o.cut a l h) | .f64 a, l, h => .f64 (o.cut a l h) | .i64 a, l, h => .i64 (o.cut a l h) | .u8 a, l, h => .u8 (o.cut a l h)
  | .bool a, l, h => .bool (o.cut a l h) | .str a, l, h => .str (o.cut a l h) | .c64 a, l, h => .c64 (o.cut a l h) | .r3 a, l, h => .r3 (o.cut a l h) | .ss a, l, h => .ss (o.cut a l h)
def orep (o : Ops) : CK → Int → Option Cont
  | .f32, n => some (.f32 (o.rep n 0)) | .f64, n => some (.f64 (o.rep n 0)) | .i64, n => some (.i64 (o.rep n 0)) | .u8, n => some (.u8 (o.rep n 0)) | .bool, n => some (.bool (o.rep n false))
  | .str, n => some (.str (o.rep n ByteArray.empty)) | .c64, n => some (.c64 (o.rep n (0, 0))) | .r3, n => some (.r3 (o.rep n (0, 0, 0))) | .ss, _ => none
/-- Out of cells that are written out. -/
def of (k : CK) : List V → Option Cont
  | [] => some (empty k)
  | v :: r =>
    match k, v with
    | .f32, .flt .f32 x => (match of k r with | some (.f32 xs) => some (.f32 (x :: xs)) | _ => none)
    | .f64, .flt .f64 x => (match of k r with | some (.f64 xs) => some (.f64 (x :: xs)) | _ => none)
    | .i64, .int .i64 x => (match of k r with | some (.i64 xs) => some (.i64 (x :: xs)) | _ => none)
    | .u8, .int .u8 x => (match of k r with | some (.u8 xs) => some (.u8 (x :: xs)) | _ => none)
    | .bool, .bool x => (match of k r with | some (.bool xs) => some (.bool (x :: xs)) | _ => none)
    | .str, .str x => (match of k r with | some (.str xs) => some (.str (x :: xs)) | _ => none)
    | .c64, .cpx .f32 a b => (match of k r with | some (.c64 xs) => some (.c64 ((a, b) :: xs)) | _ => none)
    | .ss, .sl (.f32 ys) _ => (match of k r with | some (.ss xs) => some (.ss (ys :: xs)) | _ => none)
    | _, _ => none
def of3 : List V → Option (List (Nat × Nat × Nat))
  | [] => some []
  | .flt .f32 x :: .flt .f32 y :: .flt .f32 z :: r => (match of3 r with | some l => some ((x, y, z) :: l) | none => none)
  | _ => none
end Cont
def contOf (k : CK) (cs : List V) : Option Cont :=
  match k with
  | .r3 => (match Cont.of3 cs with | some l => some (.r3 l) | none => none)
  | k => Cont.of k cs

/-- Values that mention the row i are forgotten. -/
def ne1 (i : Nat) (j : Nat) : Bool := match Nat.beq i j with | true => false | false => true
def clrV (i : Nat) (v : V) : V := match hs (ne1 i) v with | true => v | false => .und
def clrL (i : Nat) : List V → List V
  | [] => []
  | v :: r => clrV i v :: clrL i r
def clrT (i : Nat) : List (Nat × V) → List (Nat × V)
  | [] => []
  | (j, v) :: r => (j, clrV i v) :: clrT i r
def clrO (i : Nat) : List OB → List OB
  | [] => []
  | .cells cs :: r => .cells (clrL i cs) :: clrO i r
  | ob :: r => ob :: clrO i r

/-- What a slice holds. -/
def contents (st : St) : V → Option Cont
  | .sl c _ => some c
  | .nils k => some (empty k)
  | .own i => (match nth st.own i with | some (.row _ c) => some c | _ => none)
  | _ => none

def aLoad (o : Ops) (E : Env) (st : St) (t : Nat) (a : V) : R :=
  match E.T t with
  | none => .bad
  | some ti =>
    match a with
    | .lp i off =>
      (match nth st.own i with
       | some (.cells cs) =>
         (match ti.agg with
          | true => (match Nat.ble (off + ti.cells) (len cs) with | true => .ok (.agg (takeN ti.cells (dropN off cs))) st | false => .bad)
          | false => (match nth cs off with | some v => .ok v st | none => .bad))
       | _ => .bad)
    | .sp cs off =>
      (match ti.agg with
       | true => (match Nat.ble (off + ti.cells) (len cs) with | true => .ok (.agg (takeN ti.cells (dropN off cs))) st | false => .bad)
       | false => (match nth cs off with | some v => .ok v st | none => .bad))
    | .le i e sz off =>
      (match nth st.own i with
       | some (.row _ c) =>
         (match Nat.beq sz c.sz with
          | false => .bad
          | true => (match ti.agg with
          | true => (match Nat.beq (off + ti.cells) (len (c.oelem o e)), Nat.beq off 0 with | true, true => .pre (o.idx e (c.olen o)) (.agg (c.oelem o e)) st | _, _ => .bad)
          | false => (match nth (c.oelem o e) off with | some v => .pre (o.idx e (c.olen o)) v st | none => .bad)))
       | _ => .bad)
    | _ => .bad

def aStore (o : Ops) (E : Env) (st : St) (t : Nat) (a x : V) : R :=
  match E.T t with
  | none => .bad
  | some ti =>
    match cellsOf x with
    | none => .bad
    | some vs =>
      match Nat.beq (len vs) ti.cells with
      | false => .bad
      | true =>
        match a with
        | .lp i off =>
          (match nth st.own i with
           | some (.cells cs) => (match Nat.ble (off + len vs) (len cs) with | true => .ok .und { st with own := setN st.own i (.cells (lay cs off vs)) } | false => .bad)
           | _ => .bad)
        | .le i e sz off =>
          (match nth st.own i with
           | some (.row t' c) =>
             (match vs with
              | [v] => (match c.oset o e off v, Nat.beq sz c.sz with | some c', true => .pre (o.idx e (c.olen o)) .und { st with own := setN st.own i (.row t' c') } | _, _ => .bad)
              | [.flt .f32 x, .flt .f32 y, .flt .f32 z] =>
                (match c, off, Nat.beq sz 3 with
                 | .r3 xs, 0, true => .pre (o.idx e (o.len xs)) .und { st with own := setN st.own i (.row t' (.r3 (o.set xs e (x, y, z)))) }
                 | _, _, _ => .bad)
              | _ => .bad)
           | _ => .bad)
        | _ => .bad

def isU : IntKind → Bool
  | .u8 | .u16 | .u32 | .u64 => true
  | _ => false
def aInt (o : Ops) (st : St) (op : BinOp) (k : IntKind) (a b : Int) : R :=
  match op with
  | .add => (match isU k with | true => .ok (.int k (o.wrap k (o.add a b))) st | false => .pre (o.rng k (o.add a b)) (.int k (o.add a b)) st)
  | .sub => (match isU k with | true => .ok (.int k (o.wrap k (o.sub a b))) st | false => .pre (o.rng k (o.sub a b)) (.int k (o.sub a b)) st)
  | .mul => (match isU k with | true => .ok (.int k (o.wrap k (o.mul a b))) st | false => .pre (o.rng k (o.mul a b)) (.int k (o.mul a b)) st)
  | .quo => .pre (o.nz b ∧ o.rng k (o.quo a b)) (.int k (o.quo a b)) st
  | .rem => .pre (o.nz b) (.int k (o.rem a b)) st
  | .and => .ok (.int k (o.band k a b)) st
  | .or => .ok (.int k (o.bor k a b)) st
  | .xor => .ok (.int k (o.bxor k a b)) st
  | .andNot => .ok (.int k (o.bclr k a b)) st
  | .eql => .ok (.bool (o.ieq a b)) st
  | .neq => .ok (.bool (o.ine a b)) st
  | .lss => .ok (.bool (o.ilt a b)) st
  | .leq => .ok (.bool (o.ile a b)) st
  | .gtr => .ok (.bool (o.ilt b a)) st
  | .geq => .ok (.bool (o.ile b a)) st
  | _ => .bad

def aFloat (o : Ops) (st : St) (op : BinOp) (k : FloatKind) (a b : Nat) : R :=
  match op with
  | .add => .ok (.flt k (o.fadd k a b)) st
  | .sub => .ok (.flt k (o.fsub k a b)) st
  | .mul => .ok (.flt k (o.fmul k a b)) st
  | .quo => .ok (.flt k (o.fdiv k a b)) st
  | .eql => .ok (.bool (o.feq k a b)) st
  | .neq => .ok (.bool (o.fne k a b)) st
  | .lss => .ok (.bool (o.flt k a b)) st
  | .leq => .ok (.bool (o.fle k a b)) st
  | .gtr => .ok (.bool (o.fgt k a b)) st
  | .geq => .ok (.bool (o.fge k a b)) st
  | _ => .bad

def eqIK : IntKind → IntKind → Bool
  | .i8, .i8 | .i16, .i16 | .i32, .i32 | .i64, .i64 | .u8, .u8 | .u16, .u16 | .u32, .u32 | .u64, .u64 => true
  | _, _ => false
def eqFK : FloatKind → FloatKind → Bool
  | .f32, .f32 | .f64, .f64 => true
  | _, _ => false

def aBin (o : Ops) (E : Env) (st : St) (op : BinOp) (t : Nat) (x y : V) : R :=
  match x, y with
  | .int k a, .int k' b =>
    (match op with
     | .shl => (match isU k with | true => .pre (o.shc k b) (.int k (o.wrap k (o.shl a b))) st | false => .pre (o.shc k b ∧ o.rng k (o.shl a b)) (.int k (o.shl a b)) st)
     | .shr => .pre (o.shc k b) (.int k (o.shr a b)) st
     | op => (match eqIK k k' with | true => aInt o st op k a b | false => .bad))
  | .flt k a, .flt k' b => (match eqFK k k' with | true => aFloat o st op k a b | false => .bad)
  | .bool a, .bool b => (match tdOf E t with | .bool => (match op with | .eql => .ok (.bool (o.beq a b)) st | .neq => .ok (.bool (o.bne a b)) st | _ => .bad) | _ => .bad)
  | .str a, .str b =>
    (match op with
     | .add => .pre (o.rng .i64 (o.add (o.slen a) (o.slen b))) (.str (o.scat a b)) st
     | .eql => .ok (.bool (o.seq a b)) st
     | .neq => .ok (.bool (o.sne a b)) st
     | .lss => .ok (.bool (o.slt a b)) st
     | _ => .bad)
  | .cpx k a b, .cpx k' c d =>
    (match eqFK k k', op with
     | true, .add => .ok (.cpx k (o.fadd k a c) (o.fadd k b d)) st
     | true, .sub => .ok (.cpx k (o.fsub k a c) (o.fsub k b d)) st
     | _, _ => .bad)
  | _, _ => .bad

def aUn (o : Ops) (st : St) (op : UnOp) (x : V) : R :=
  match op, x with
  | .not, .bool b => .br b (.bool false) (.bool true)
  | .neg, .int k n => (match isU k with | true => .ok (.int k (o.wrap k (o.neg n))) st | false => .pre (o.rng k (o.neg n)) (.int k (o.neg n)) st)
  | .neg, .flt k n => .ok (.flt k (o.fneg k n)) st
  | .neg, .cpx k a b => .ok (.cpx k (o.fneg k a) (o.fneg k b)) st
  | _, _ => .bad

def aConv (o : Ops) (E : Env) (st : St) (s d : Nat) (x : V) : R :=
  match tdOf E s, tdOf E d, x with
  | .other, _, _ => .bad
  | _, .int k, .int _ n => .ok (.int k (o.wrap k n)) st
  | _, .flt k, .int _ n => .ok (.flt k (o.ofint k n)) st
  | _, .int k, .flt q n => .pre (o.toiOK q k n) (.int k (o.toi q k n)) st
  | _, .flt k, .flt q n => (match eqFK k q with | true => .ok (.flt k n) st | false => .pre (o.fits q k n) (.flt k (o.conv q k n)) st)
  | _, .string, .str t => .ok (.str t) st
  | .slice e .u8, .string, v => (match tdOf E e, contents st v with | .int .u8, some (.u8 xs) => .ok (.str (o.ofBytes xs)) st | _, _ => .bad)
  | _, _, _ => .bad

def aField (E : Env) (t f : Nat) : Option (Nat × TI) :=
  match tdOf E t with
  | .struct fs => (match nth fs f with | some (off, ft) => (match E.T ft with | some ti => some (off, ti) | none => none) | none => none)
  | _ => none

/-- The element's type of a slice's type, if it fits what the slice holds. -/
def elemOK (E : Env) (t : Nat) (c : Cont) : Option (Nat × TI) :=
  match tdOf E t with
  | .slice e _ => (match E.T e with | some ti => (match Nat.beq ti.cells c.sz with | true => some (e, ti) | false => none) | none => none)
  | _ => none

def eqI : Int → Int → Bool
  | .ofNat a, .ofNat b => Nat.beq a b
  | _, _ => false
def isZ : Int → Bool
  | .ofNat 0 => true
  | _ => false

def aIndexAddr (o : Ops) (E : Env) (st : St) (t : Nat) (x i : V) : R :=
  match i, x with
  | .int _ n, .sl c _ => (match elemOK E t c with | some _ => .pre (o.idx n (c.olen o)) (.sp (c.oelem o n) 0) st | none => .bad)
  | .int _ n, .own r =>
    (match nth st.own r with
     | some (.row _ c) => (match elemOK E t c with | some _ => .pre (o.idx n (c.olen o)) (.le r n c.sz 0) st | none => .bad)
     | _ => .bad)
  | .int _ n, .sarr c =>
    (match tdOf E t with
     | .array m e => (match E.T e with | some ti => (match Nat.beq ti.cells c.sz, Nat.beq m c.len, Nat.ble 2 m with | true, true, true => .pre (o.idx n (Int.ofNat m)) (.sp (c.oelem o n) 0) st | _, _, _ => .bad) | none => .bad)
     | _ => .bad)
  | .int _ n, .le r e0 1 0 =>
    (match tdOf E t with
     | .array m e => (match E.T e with | some ti => (match Nat.beq ti.cells 1, isZ e0, Nat.ble 2 m with | true, true, true => .pre (o.idx n (Int.ofNat m)) (.le r n 1 0) st | _, _, _ => .bad) | none => .bad)
     | _ => .bad)
  | _, _ => .bad

/-- The kind of what an array holds. -/
def ckOf : TD → Option CK
  | .int .u8 => some .u8
  | .int .i64 => some .i64
  | .flt .f32 => some .f32
  | .flt .f64 => some .f64
  | .bool => some .bool
  | _ => none
def aAlloc (E : Env) (st : St) (e : Nat) : R :=
  match E.T e with
  | none => .bad
  | some ti =>
    match ti.desc with
    | .array m e' =>
      (match ckOf (tdOf E e') with
       | some k => (match contOf k ti.zero with
         | some c => (match Nat.beq c.sz 1, solids ti.zero, Nat.ble ti.cells 65536, ti.zero with | true, true, true, _ :: _ => .ok (.le (len st.own) 0 1 0) { st with own := cat st.own [.row e c] } | _, _, _, _ => .bad)
         | none => .bad)
       | none => .bad)
    | _ => (match ti.zero with | z :: zs => .ok (.lp (len st.own) 0) { st with own := cat st.own [.cells (z :: zs)] } | [] => .bad)
def aSlice (o : Ops) (E : Env) (st : St) (t : Nat) (x : V) (lo hi mx : Option V) : R :=
  match x with
  | .nils k =>
    (match tdOf E t with
     | .slice e _ => (match E.T e with
       | some _ => (match lo, hi, mx with
       | none, some (.int _ h), none => .pre (o.sub3 0 h 0) (.nils k) st
       | none, some (.int _ h), some (.int _ m) => .pre (o.sub3 0 h m ∧ o.sub3 0 m 0) (.nils k) st
       | _, _, _ => .bad)
       | none => .bad)
     | _ => .bad)
  | .own i =>
    (match nth st.own i with
     | some (.row e c) =>
       (match elemOK E t c with
        | some _ => (match lo, hi, mx with
        | none, some (.int _ h), none => .pre (o.sub3 0 h (c.olen o)) (.own (len st.own)) { st with own := cat (setN st.own i .dead) [.row e (c.ocut o 0 h)] }
        | _, _, _ => .bad)
        | none => .bad)
     | _ => .bad)
  | .le r e0 1 0 =>
    (match isZ e0, tdOf E t, nth st.own r with
     | true, .array m e, some (.row t' c) =>
       (match E.T e with
        | some ti => (match Nat.beq ti.cells 1, Nat.beq c.sz 1, lo, hi, mx with
          | true, true, some (.int _ l), none, none => .pre (o.sub3 l (Int.ofNat m) (c.olen o) ∧ o.sub3 l (c.olen o) (Int.ofNat m)) (.sl (c.ocut o l (c.olen o)) false) { st with own := setN st.own r .dead }
          | _, _, _, _, _ => .bad)
        | none => .bad)
     | _, _, _ => .bad)
  | .str s =>
    (match tdOf E t with
     | .string => (match lo, hi, mx with
     | none, none, none => .ok (.str s) st
     | some (.int _ l), none, none => .pre (o.sub3 l (o.slen s) (o.slen s)) (.str (o.scut s l (o.slen s))) st
     | none, some (.int _ h), none => .pre (o.sub3 0 h (o.slen s)) (.str (o.scut s 0 h)) st
     | some (.int _ l), some (.int _ h), none => .pre (o.sub3 l h (o.slen s)) (.str (o.scut s l h)) st
     | _, _, _ => .bad)
     | _ => .bad)
  | .sl c tight =>
    (match elemOK E t c with
     | some _ => (match lo, hi, mx with
     | none, none, none => .ok (.sl c tight) st
     | some (.int _ l), none, none => .pre (o.sub3 l (c.olen o) (c.olen o)) (.sl (c.ocut o l (c.olen o)) tight) st
     | none, some (.int _ h), none => .pre (o.sub3 0 h (c.olen o)) (.sl (c.ocut o 0 h) false) st
     | some (.int _ l), some (.int _ h), none => .pre (o.sub3 l h (c.olen o)) (.sl (c.ocut o l h) false) st
     | none, some (.int _ h), some (.int _ m) => .pre (o.sub3 0 h m ∧ o.sub3 0 m (c.olen o)) (.sl (c.ocut o 0 h) (eqI h m)) st
     | _, _, _ => .bad)
     | none => .bad)
  | _ => .bad

/-- Parts laid into a struct's cells. -/
def fillV (E : Env) (fs : List (Nat × Nat)) : List V → List (Nat × V) → Option (List V)
  | cs, [] => some cs
  | cs, (i, v) :: r =>
    match nth fs i, cellsOf v with
    | some (off, ft), some vs =>
      (match E.T ft with
       | some ti => (match Nat.beq (len vs) ti.cells, Nat.ble (off + len vs) (len cs) with | true, true => fillV E fs (lay cs off vs) r | _, _ => none)
       | none => none)
    | _, _ => none
def fillS (sz : Nat) : List V → List (Nat × V) → Option (List V)
  | cs, [] => some cs
  | cs, (i, v) :: r =>
    match cellsOf v with
    | some vs => (match Nat.beq (len vs) sz, Nat.ble (i * sz + len vs) (len cs) with | true, true => fillS sz (lay cs (i * sz) vs) r | _, _ => none)
    | none => none
def evs (o : Ops) (E : Env) (tm : List (Nat × V)) (t : Nat → Nat) : List (Nat × Operand) → List (Nat × V)
  | [] => []
  | (i, x) :: r => (i, ev o E tm (t i) x) :: evs o E tm t r
def reps (n : Nat) (l : List V) : List V := match n with | 0 => [] | m + 1 => cat l (reps m l)

def ftype (E : Env) (t i : Nat) : Nat := match tdOf E t with | .struct fs => (match nth fs i with | some (_, ft) => ft | none => 0) | .array _ e => e | .slice e _ => e | _ => 0

def aBuild (o : Ops) (E : Env) (st : St) (t : Nat) (parts : List (Nat × Operand)) : R :=
  match E.T t with
  | some ti =>
    (match ti.desc, ti.zero with
     | .struct fs, z :: zs => (match fillV E fs (z :: zs) (evs o E st.tm (ftype E t) parts) with | some cs => .ok (.agg cs) st | none => .bad)
     | _, _ => .bad)
  | none => .bad

def aBuildSlice (o : Ops) (E : Env) (st : St) (t n : Nat) (parts : List (Nat × Operand)) : R :=
  match tdOf E t with
  | .slice e k =>
    (match E.T e with
     | some ti =>
       (match Nat.ble n 4096, ti.zero with
        | true, z :: zs =>
          (match fillS ti.cells (reps n (z :: zs)) (evs o E st.tm (ftype E t) parts) with
           | some cs => (match contOf k cs with | some c => (match Nat.beq ti.cells c.sz, Nat.beq (len cs) (n * ti.cells), Nat.ble (n * ti.cells) 4096, solids cs with | true, true, true, true => .ok (.own (len st.own)) { st with own := cat st.own [.row e c] } | _, _, _, _ => .bad) | none => .bad)
           | none => .bad)
        | _, _ => .bad)
     | none => .bad)
  | _ => .bad

/-- The zero cells of a kind. -/
def isZero : CK → List V → Bool
  | .f32, [.flt .f32 0] | .f64, [.flt .f64 0] | .c64, [.cpx .f32 0 0] | .bool, [.bool false] | .r3, [.flt .f32 0, .flt .f32 0, .flt .f32 0] => true
  | .i64, [.int .i64 n] => (match n with | .ofNat 0 => true | _ => false)
  | .u8, [.int .u8 n] => (match n with | .ofNat 0 => true | _ => false)
  | .str, [.str ⟨⟨[]⟩⟩] => true
  | _, _ => false

def aMake (o : Ops) (E : Env) (st : St) (t : Nat) (l c : V) : R :=
  match tdOf E t, l, c with
  | .slice e k, .int _ n, .int _ m =>
    (match E.T e, Cont.orep o k n with
     | some ti, some ct =>
       (match isZero k ti.zero, Nat.ble ti.bytes 64, Nat.beq ti.cells ct.sz with
        | true, true, true => .pre (o.sub3 0 n m ∧ o.small m) (.own (len st.own)) { st with own := cat st.own [.row e ct] }
        | _, _, _ => .bad)
     | _, _ => .bad)
  | _, _, _ => .bad

def aAppend (o : Ops) (E : Env) (st : St) (t t' : Nat) (s x : V) : R :=
  match Nat.beq t t', tdOf E t, contents st x with
  | true, .slice e k, some d =>
    (match E.T e with
     | some ti =>
       (match Nat.ble ti.bytes 64, ti.zero with
        | true, _ :: _ =>
          (match s with
           | .own i =>
             (match nth st.own i with
              | some (.row e' c) =>
                (match Nat.beq e e', c.oapp o d, Nat.beq ti.cells c.sz, Nat.ble st.base i with
                 | true, some c', true, true => .pre (o.small (c'.olen o)) (.own i) { st with tm := clrT i st.tm, own := setN (clrO i st.own) i (.row e' c') }
                 | _, _, _, _ => .bad)
              | _ => .bad)
           | .nils k' =>
             (match (empty k').oapp o d, Nat.beq ti.cells d.sz with
              | some c', true => .pre (o.small (c'.olen o)) (.own (len st.own)) { st with own := cat st.own [.row e c'] }
              | _, _ => .bad)
           | .sl c true =>
             (match c.oapp o d, Nat.beq ti.cells d.sz with
              | some c', true => .pre (o.small (c'.olen o) ∧ o.nz (d.olen o)) (.own (len st.own)) { st with own := cat st.own [.row e c'] }
              | _, _ => .bad)
           | _ => .bad)
        | _, _ => .bad)
     | none => .bad)
  | _, _, _ => .bad

/-- Zeroes appended to a nil slice: 'append(s, make([]T, n)...)'. -/
def aAppendZ (o : Ops) (E : Env) (st : St) (t : Nat) (s : V) (n : Int) : R :=
  match tdOf E t, s with
  | .slice e k, .nils k' =>
    (match E.T e, Cont.orep o k' n with
     | some ti, some ct =>
       (match isZero k' ti.zero, Nat.ble ti.bytes 64, Nat.beq ti.cells ct.sz with
        | true, true, true => .pre (o.sub3 0 n n ∧ o.small n ∧ o.nz n) (.own (len st.own)) { st with own := cat st.own [.row e ct] }
        | _, _, _ => .bad)
     | _, _ => .bad)
  | _, _ => .bad

def argTy (ts : Array Nat) (i : Nat) : Nat := match nth ts.toList i with | some t => t | none => 0
def evA (o : Ops) (E : Env) (tm : List (Nat × V)) : List Operand → List Nat → List V
  | [], _ => []
  | x :: r, [] => ev o E tm 0 x :: evA o E tm r []
  | x :: r, t :: ts => ev o E tm t x :: evA o E tm r ts

def aBuiltin (o : Ops) (E : Env) (st : St) (b : Builtin) (ts : List Nat) (args : List V) : R :=
  match b, ts, args with
  | .len, t :: _, [v] =>
    (match tdOf E t, v with
     | .string, .str s => .ok (.int .i64 (o.slen s)) st
     | .slice _ _, v => (match contents st v with | some c => .ok (.int .i64 (c.olen o)) st | none => .bad)
     | _, _ => .bad)
  | .append, t :: t' :: _, [s, x] => (match tdOf E t', x with | .int _, .int _ n => aAppendZ o E st t s n | _, x => aAppend o E st t t' s x)
  | .cap, t :: _, [v] =>
    (match tdOf E t, v with
     | .slice _ _, .nils _ => .ok (.int .i64 0) st
     | .slice _ _, .sl c true => .ok (.int .i64 (c.olen o)) st
     | _, _ => .bad)
  | .real, _, [.cpx k a b] => .ok (.flt k a) st
  | .imag, _, [.cpx k a b] => .ok (.flt k b) st
  | .complex, _, [.flt k a, .flt k' b] => (match eqFK k k' with | true => .ok (.cpx k a b) st | false => .bad)
  | .min, _, [.int k a, .int k' b] => .br (o.ilt b a) (.int k b) (.int k a)
  | .max, _, [.int k a, .int k' b] => .br (o.ilt a b) (.int k b) (.int k a)
  | _, _, _ => .bad

def aCall (o : Ops) (E : Env) (st : St) (f : Nat) (args : List V) : R :=
  match E.F f, args with
  | .body, args => .call f args
  | .f32bits, [.flt .f32 x] => .pre (o.notNaN .f32 x) (.int .u32 (o.ofNat x)) st
  | .f32from, [.int .u32 n] => .ok (.flt .f32 (o.frbits .f32 n)) st
  | .f64bits, [.flt .f64 x] => .pre (o.notNaN .f64 x) (.int .u64 (o.ofNat x)) st
  | .f64from, [.int .u64 n] => .ok (.flt .f64 (o.frbits .f64 n)) st
  | _, _ => .bad

def aFieldAddr (E : Env) (st : St) (t f : Nat) (vx : V) : R :=
  match aField E t f with
  | none => .bad
  | some (off, ti) =>
    match ti.cells with
    | 0 => .bad
    | _ + 1 =>
      match vx with
      | .lp i p => .ok (.lp i (p + off)) st
      | .sp cs p => .ok (.sp cs (p + off)) st
      | .le i e s p => .ok (.le i e s (p + off)) st
      | _ => .bad
def aFieldV (E : Env) (st : St) (t f : Nat) (vx : V) : R :=
  match aField E t f with
  | none => .bad
  | some (off, ti) =>
    match vx with
    | .agg cs =>
      (match ti.agg with
       | true => (match Nat.ble (off + ti.cells) (len cs) with | true => .ok (.agg (takeN ti.cells (dropN off cs))) st | false => .bad)
       | false => (match nth cs off with | some v => .ok v st | none => .bad))
    | _ => .bad

def nilI : Operand → Bool
  | .const .nilIface => true
  | _ => false
/-- An interface value held against nil. -/
def aIfc (E : Env) (st : St) (op : BinOp) (t : Nat) (x : V) : R :=
  match x, tdOf E t with
  | .ifc b, .ifc => (match op with | .eql => .ok (.bool b) st | .neq => .br b (.bool false) (.bool true) | _ => .bad)
  | _, _ => .bad
def optV (o : Ops) (E : Env) (tm : List (Nat × V)) : Option Operand → Option V
  | none => none
  | some x => some (ev o E tm 0 x)

def aop (o : Ops) (E : Env) (st : St) (ty : Nat) : Op → R
  | .move x | .assign x => .ok (ev o E st.tm ty x) st
  | .pick c a b => (match ev o E st.tm 0 c with | .bool t => .br t (ev o E st.tm ty a) (ev o E st.tm ty b) | _ => .bad)
  | .alloc e => aAlloc E st e
  | .box e x => (match cellsOf (ev o E st.tm e x) with | some cs => .ok (.lp (len st.own) 0) { st with own := cat st.own [.cells cs] } | none => .bad)
  | .build t parts => aBuild o E st t parts.toList
  | .buildSlice t n parts => aBuildSlice o E st t n parts.toList
  | .load t a => aLoad o E st t (ev o E st.tm 0 a)
  | .store t a x => aStore o E st t (ev o E st.tm 0 a) (ev o E st.tm t x)
  | .nilCheck x => (match ev o E st.tm 0 x with | .lp i p => .ok (.lp i p) st | .sp cs p => .ok (.sp cs p) st | .le i e s p => .ok (.le i e s p) st | .fn f a b => .ok (.fn f a b) st | _ => .bad)
  | .binOp op t x y t' => (match nilI y with | true => aIfc E st op t (ev o E st.tm t x) | false => aBin o E st op t (ev o E st.tm t x) (ev o E st.tm t' y))
  | .unOp op t x => aUn o st op (ev o E st.tm t x)
  | .convert s d x => aConv o E st s d (ev o E st.tm s x)
  | .makeFunc (.func f) first caps => .ok (.fn f (evA o E st.tm first.toList []) (evA o E st.tm caps.toList [])) st
  | .makeSlice t l c => aMake o E st t (ev o E st.tm 0 l) (ev o E st.tm 0 c)
  | .slice t x lo hi mx => aSlice o E st t (ev o E st.tm t x) (optV o E st.tm lo) (optV o E st.tm hi) (optV o E st.tm mx)
  | .fieldAddr t x f => aFieldAddr E st t f (ev o E st.tm 0 x)
  | .field t x f => aFieldV E st t f (ev o E st.tm t x)
  | .indexAddr t x i => aIndexAddr o E st t (ev o E st.tm t x) (ev o E st.tm 0 i)
  | .index t x i =>
    (match tdOf E t, ev o E st.tm t x, ev o E st.tm 0 i with
     | .string, .str s, .int _ n => .pre (o.idx n (o.slen s)) (.int .u8 (o.sget s n)) st
     | _, _, _ => .bad)
  | .extract x i => (match ev o E st.tm 0 x with | .tup cs => (match nth cs i with | some v => .ok v st | none => .bad) | _ => .bad)
  | .call c =>
    (match c.callee with
     | .builtin b => aBuiltin o E st b c.argTypes.toList (evA o E st.tm c.args.toList c.argTypes.toList)
     | .value f => (match ev o E st.tm 0 f with | .fn n first caps => aCall o E st n (cat first (cat (evA o E st.tm c.args.toList c.argTypes.toList) caps)) | _ => .bad)
     | .invoke _ _ => .bad)
  | _ => .bad

end Go.En
