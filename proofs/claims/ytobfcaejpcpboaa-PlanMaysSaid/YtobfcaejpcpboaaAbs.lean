/- An interpreter of the program's code over typed values, by which a call's result is told in plain terms: its words. No conditions. -/
import Derived.Calls
import Derived.Orders
import Derived.KernelRfl
set_option autoImplicit false
set_option linter.unusedVariables false
namespace Go.Abs

/-- What a slot may hold. Objects (rows that are owned, variables) stand in it by number. -/
inductive Ty where
  | dead | nil (e : Nat) | nilptr | nilfn | bool | int (k : IntKind) | str
  | list (t : Ty) | own (t : Ty) (id : Nat) | ptr (id off : Nat)
  | eptr (t : Ty) (off : Nat) | rptr (t : Ty) (id off : Nat) | aptr (t : Ty) (m id base off : Nat)
  | fn (f : Nat) (cap : Ty)
  | arr (n : Nat) (t : Ty)
  | unit | pair (a b : Ty) | tnil | tcons (a b : Ty)
  deriving DecidableEq, Inhabited

@[reducible] def den : Ty → Type
  | .bool => Bool
  | .int _ => Int
  | .str => ByteArray
  | .list t => List (den t)
  | .arr _ t => List (den t)
  | .eptr t _ => den t
  | .rptr _ _ _ => Int
  | .aptr _ _ _ _ _ => Int
  | .fn _ c => den c
  | .pair a b => den a × den b
  | .tcons a b => den a × den b
  | .dead => Unit | .nil _ => Unit | .nilptr => Unit | .nilfn => Unit | .own _ _ => Unit | .ptr _ _ => Unit | .unit => Unit | .tnil => Unit

def dflt : (t : Ty) → den t
  | .bool => false
  | .int _ => 0
  | .str => ByteArray.empty
  | .list t => []
  | .arr _ t => []
  | .eptr t _ => dflt t
  | .rptr _ _ _ => 0
  | .aptr _ _ _ _ _ => 0
  | .fn _ c => dflt c
  | .pair a b => (dflt a, dflt b)
  | .tcons a b => (dflt a, dflt b)
  | .dead => () | .nil _ => () | .nilptr => () | .nilfn => () | .own _ _ => () | .ptr _ _ => () | .unit => () | .tnil => ()

structure Dyn where
  t : Ty
  x : den t

instance : Inhabited Dyn := ⟨⟨.dead, ()⟩⟩
def nope : Dyn := ⟨.dead, ()⟩

def Dyn.as (d : Dyn) (t : Ty) : Option (den t) := if h : d.t = t then some (h ▸ d.x) else none

/-- How many cells. -/
def Ty.width : Ty → Nat
  | .pair a b => a.width + b.width
  | .unit => 0
  | .arr n t => n * t.width
  | _ => 1
/-- A struct, as the chain of its cells. -/
def Ty.chain : Ty → Bool
  | .pair _ _ => true
  | .unit => true
  | _ => false
inductive VK where
  | dead | agg | tup | one
def Ty.vk : Ty → VK
  | .dead => .dead
  | .pair _ _ => .agg
  | .unit => .agg
  | .arr _ _ => .agg
  | .tnil => .tup
  | .tcons _ _ => .tup
  | _ => .one
def Ty.alive : Ty → Bool
  | .dead => false
  | _ => true

/-- Does a type name none? -/
def Ty.pure : Ty → Bool
  | .own _ _ => false
  | .ptr _ _ => false
  | .rptr _ _ _ => false
  | .aptr _ _ _ _ _ => false
  | .eptr t _ => t.pure
  | .list t => t.pure
  | .arr _ t => t.pure
  | .fn _ c => c.pure
  | .pair a b => a.pure && b.pure
  | .tcons a b => a.pure && b.pure
  | .dead => false
  | _ => true
/-- Types of cells: no tuples. -/
def Ty.cel : Ty → Bool
  | .pair a b => a.cel && b.cel && b.chain
  | .arr _ t => t.cel
  | .tnil => false
  | .tcons _ _ => false
  | _ => true
/-- Types of elements. -/
def Ty.elt (t : Ty) : Bool := t.cel && t.pure

/-! ### Chains -/
def dropC : Nat → (t : Ty) → den t → Dyn
  | n, .pair a b, x => if n = 0 then ⟨.pair a b, x⟩ else if a.width ≤ n then dropC (n - a.width) b x.2 else nope
  | n, t, x => if n = 0 then ⟨t, x⟩ else nope
def takeC : Nat → (t : Ty) → den t → Dyn
  | n, .pair a b, x => if n = 0 then ⟨.unit, ()⟩ else if a.width ≤ n then (let r := takeC (n - a.width) b x.2; if r.t.chain then ⟨.pair a r.t, (x.1, r.x)⟩ else nope) else nope
  | n, _, _ => if n = 0 then ⟨.unit, ()⟩ else nope
def catC : (t : Ty) → den t → Dyn → Dyn
  | .pair a b, x, e => let r := catC b x.2 e; ⟨.pair a r.t, (x.1, r.x)⟩
  | _, _, e => e
def headC : (t : Ty) → den t → Dyn
  | .pair a _, x => ⟨a, x.1⟩
  | _, _ => nope
/-- The part of a value from a cell on: a struct (st, of so many cells), or one thing. -/
def Dyn.part (d : Dyn) (off n : Nat) (st : Bool) : Dyn :=
  if d.t.chain then
    let r := dropC off d.t d.x
    if st then takeC n r.t r.x else headC r.t r.x
  else if st then nope else (if off = 0 then d else nope)
def Dyn.toC (d : Dyn) : Dyn := if d.t.chain then d else ⟨.pair d.t .unit, (d.x, ())⟩
def Dyn.setPart (d : Dyn) (off : Nat) (v : Dyn) : Dyn :=
  if d.t.chain then
    let a := takeC off d.t d.x
    let c := v.toC
    let r := dropC (off + c.t.width) d.t d.x
    if a.t.chain && r.t.chain then (let z := catC c.t c.x r; catC a.t a.x z) else nope
  else if off = 0 then (if v.t.chain then nope else v) else nope

/-! ### Objects -/
inductive OTy where
  | row (e : Nat) (t : Ty) (fix : Bool) | box (t : Ty) | gone
  deriving DecidableEq, Inhabited
@[reducible] def denO : OTy → Type
  | .row _ t _ => List (den t)
  | .box t => den t
  | .gone => Unit
structure AObj where
  t : OTy
  x : denO t
instance : Inhabited AObj := ⟨⟨.gone, ()⟩⟩
def gone : AObj := ⟨.gone, ()⟩
@[reducible] def denOs : List OTy → Type
  | [] => Unit
  | o :: os => denO o × denOs os
@[reducible] def denR (t : Ty) : List OTy → Type
  | [] => den t
  | o :: os => den t × denOs (o :: os)
def AObj.as (d : AObj) (t : OTy) : Option (denO t) := if h : d.t = t then some (h ▸ d.x) else none
def asObjs : (ts : List OTy) → List AObj → Option (denOs ts)
  | [], [] => some ()
  | t :: ts, o :: os => match o.as t with
    | some x => match asObjs ts os with
      | some y => some (x, y)
      | none => none
    | none => none
  | _, _ => none
def objsOf : (ts : List OTy) → denOs ts → List AObj
  | [], _ => []
  | t :: ts, x => ⟨t, x.1⟩ :: objsOf ts x.2
def resT (t : Ty) : (ts : List OTy) → denR t ts → den t
  | [], x => x
  | _ :: _, x => x.1
def resO (t : Ty) : (ts : List OTy) → denR t ts → List AObj
  | [], _ => []
  | o :: os, x => objsOf (o :: os) x.2
def mkR (t : Ty) (x : den t) : (ts : List OTy) → denOs ts → denR t ts
  | [], _ => x
  | _ :: _, y => (x, y)

/-! ### The state: the slots that are kept, by number; the objects, by place -/
structure St where
  tmps : List (Nat × Dyn)
  heap : List AObj

def ofConst : Value → Dyn
  | .bool b => ⟨.bool, b⟩
  | .int k n => ⟨.int k, n⟩
  | .string s => ⟨.str, s⟩
  | .slice none 0 0 => ⟨.nil 0, ()⟩
  | .pointer none => ⟨.nilptr, ()⟩
  | .nilFunc => ⟨.nilfn, ()⟩
  | _ => nope

def getT : List (Nat × Dyn) → Nat → Dyn
  | [], _ => nope
  | (u, d) :: l, t => if u = t then d else getT l t
def putT : List (Nat × Dyn) → Nat → Dyn → List (Nat × Dyn)
  | [], t, v => [(t, v)]
  | (u, d) :: l, t, v => if t < u then (t, v) :: (u, d) :: l else if u = t then (t, v) :: l else (u, d) :: putT l t v
def offT : List (Nat × Dyn) → Nat → List (Nat × Dyn)
  | [], _ => []
  | (u, d) :: l, t => if u = t then offT l t else (u, d) :: offT l t
def St.get (s : St) : Operand → Dyn
  | .tmp t => getT s.tmps t
  | .const v => ofConst v
  | .func f => ⟨.fn f .tnil, ()⟩
  | .global _ => nope
def St.put (s : St) (d : Option Tmp) (v : Dyn) : St :=
  match d with
  | some t => ⟨putT s.tmps t v, s.heap⟩
  | none => s
def St.obj (s : St) (i : Nat) : AObj := s.heap.getD i gone
def St.setObj (s : St) (i : Nat) (o : AObj) : St := ⟨s.tmps, s.heap.set i o⟩
def St.new (s : St) (o : AObj) : St := ⟨s.tmps, s.heap ++ [o]⟩

/-- Does a type name an object? -/
def Ty.names (i : Nat) : Ty → Bool
  | .own _ j => i == j
  | .ptr j _ => i == j
  | .rptr _ j _ => i == j
  | .aptr _ _ j _ _ => i == j
  | .eptr t _ => t.names i
  | .list t => t.names i
  | .arr _ t => t.names i
  | .fn _ c => c.names i
  | .pair a b => a.names i || b.names i
  | .tcons a b => a.names i || b.names i
  | _ => false

/-! ### Values made others: names of rows that are names no more; rows frozen; names changed -/
/-- A map over the names in a value. -/
structure Tr where
  own : Ty → Nat → Dyn
  rptr : Ty → Nat → Nat → Int → Dyn
  ptr : Nat → Nat → Dyn
  aptr : Ty → Nat → Nat → Nat → Nat → Int → Dyn
def Tr.app (r : Tr) : (t : Ty) → den t → Dyn
  | .own t i, _ => r.own t i
  | .ptr i o, _ => r.ptr i o
  | .rptr t i o, x => r.rptr t i o x
  | .aptr t m i b o, x => r.aptr t m i b o x
  | .fn f c, x => let p := Tr.app r c x; ⟨.fn f p.t, p.x⟩
  | .pair a b, x => let p := Tr.app r a x.1; let q := Tr.app r b x.2; ⟨.pair p.t q.t, (p.x, q.x)⟩
  | .tcons a b, x => let p := Tr.app r a x.1; let q := Tr.app r b x.2; ⟨.tcons p.t q.t, (p.x, q.x)⟩
  | t, x => ⟨t, x⟩
def Tr.dyn (r : Tr) (d : Dyn) : Dyn := r.app d.t d.x
def Tr.obj (r : Tr) : AObj → AObj
  | ⟨.box t, x⟩ => let p := r.app t x; ⟨.box p.t, p.x⟩
  | o => o
def Tr.st (r : Tr) (s : St) : St := ⟨s.tmps.map fun p => (p.1, r.dyn p.2), s.heap.map r.obj⟩
/-- Rows that were appended to are named no more by what named them before. -/
def killR (l : List Nat) : Tr where
  own t i := if l.contains i then nope else ⟨.own t i, ()⟩
  rptr t i o x := if l.contains i then nope else ⟨.rptr t i o, x⟩
  ptr i o := if l.contains i then nope else ⟨.ptr i o, ()⟩
  aptr t m i b o x := if l.contains i then nope else ⟨.aptr t m i b o, x⟩
/-- Names changed. -/
def renR (r : Nat → Nat) : Tr where
  own t i := ⟨.own t (r i), ()⟩
  rptr t i o x := ⟨.rptr t (r i) o, x⟩
  ptr i o := ⟨.ptr (r i) o, ()⟩
  aptr t m i b o x := ⟨.aptr t m (r i) b o, x⟩

/-! ### The words for values: by name, so that they are told by name -/
-- WORDS BEGIN
def addI (k : IntKind) (a b : Int) : Int := k.wrap (a + b)
def subI (k : IntKind) (a b : Int) : Int := k.wrap (a - b)
def mulI (k : IntKind) (a b : Int) : Int := k.wrap (a * b)
def quoI (k : IntKind) (a b : Int) : Int := k.wrap (a.tdiv b)
def remI (a b : Int) : Int := a.tmod b
def andI (k : IntKind) (a b : Int) : Int := k.wrap (BitVec.ofInt k.bits a &&& BitVec.ofInt k.bits b).toNat
def orI (k : IntKind) (a b : Int) : Int := k.wrap (BitVec.ofInt k.bits a ||| BitVec.ofInt k.bits b).toNat
def xorI (k : IntKind) (a b : Int) : Int := k.wrap (BitVec.ofInt k.bits a ^^^ BitVec.ofInt k.bits b).toNat
def andNotI (k : IntKind) (a b : Int) : Int := k.wrap (BitVec.ofInt k.bits a &&& ~~~ BitVec.ofInt k.bits b).toNat
def shlI (k : IntKind) (a b : Int) : Int := k.wrap (a * 2 ^ min b.toNat k.bits)
def shrI (k : IntKind) (a b : Int) : Int := a.fdiv (2 ^ min b.toNat k.bits)
def wrapI (k : IntKind) (a : Int) : Int := k.wrap a
def eqI (a b : Int) : Bool := decide (a = b)
def ltI (a b : Int) : Bool := decide (a < b)
def leI (a b : Int) : Bool := decide (a ≤ b)
def maxI (a b : Int) : Int := if a < b then b else a
def minI (a b : Int) : Int := if b < a then b else a
def toN (a : Int) : Nat := a.toNat
def ofN (n : Nat) : Int := n
def eqB (a b : Bool) : Bool := a == b
def notB (a : Bool) : Bool := !a
def andB (a b : Bool) : Bool := a && b
def eqS (a b : ByteArray) : Bool := a.toList == b.toList
def addS (a b : ByteArray) : ByteArray := a ++ b
def lenS (a : ByteArray) : Nat := a.size
def getS (a : ByteArray) (i : Nat) : Int := (a.get! i).toNat
def subS (a : ByteArray) (i j : Nat) : ByteArray := a.extract i j
def fitS (a b : ByteArray) : Bool := decide (a.size + b.size < 4294967296)
def lenL (t : Ty) (l : List (den t)) : Nat := l.length
def ixL (t : Ty) (l : List (den t)) (i : Int) : den t := l.getD i.toNat (dflt t)
def appL (t : Ty) (a b : List (den t)) : List (den t) := a ++ b
def subL (t : Ty) (l : List (den t)) (i j : Nat) : List (den t) := (l.drop i).take (j - i)
def setL (t : Ty) (l : List (den t)) (i : Int) (z : den t) : List (den t) := l.set i.toNat z
def repL (t : Ty) (n : Nat) (z : den t) : List (den t) := List.replicate n z
def fitL (t : Ty) (l : List (den t)) : Bool := decide (l.length ≤ 1073741824)
def fitN (n : Int) : Bool := decide (0 ≤ n ∧ n ≤ 1073741824)
def br {R : Type} (b : Bool) (x y : Option R) : Option R := cond b x y
def bnd {A R : Type} (x : Option A) (K : A → Option R) : Option R := x.bind K
open Classical in
/-- One answer, whichever of two orders is taken. -/
noncomputable def both {R : Type} (x y : Option R) : Option R := if x = y then x else none
-- WORDS END
/-! ### The program's types, in a table -/
inductive TD where
  | other | int (k : IntKind) | str | bool | slice (e : Nat) | struct (fs : List (Nat × Nat)) | array (n e : Nat) | pointer
  deriving DecidableEq, Inhabited
structure TI where
  d : TD
  eqs : Bool
  siz : Nat
  byt : Nat
  zer : Dyn
  ty : Ty
instance : Inhabited TI := ⟨⟨.other, false, 0, 0, nope, .dead⟩⟩
def TI.st (i : TI) : Bool := match i.d with
  | .struct _ => true
  | _ => false
abbrev Tabs := List (Nat × TI)
def look {α : Type} : List (Nat × α) → Nat → Option α
  | [], _ => none
  | (k, a) :: l, t => if k = t then some a else look l t
section
variable (P : Program)
def chainT : List Ty → Ty
  | [] => .unit
  | t :: l => .pair t (chainT l)
def cellsT (t : Ty) : List Ty := match t with
  | .pair a b => a :: cellsT b
  | .unit => []
  | t => [t]
def tyT : Nat → TypeId → Ty
  | 0, _ => .dead
  | d + 1, t => match P.underlying t with
    | some .bool => .bool
    | some (.int k) => .int k
    | some .string => .str
    | some (.slice e) => .list (tyT d e)
    | some (.struct fs) => chainT (fs.toList.flatMap fun f => cellsT (tyT d f.type))
    | some (.array n e) => .arr n (tyT d e)
    | some (.pointer _) => .nilptr
    | some (.func _ _ _) => .nilfn
    | _ => .dead
/-- Nil slices as lists, where lists are wanted. -/
def coe0 : Ty → (t : Ty) → den t → Dyn
  | .list t, .nil _, _ => if t.elt then ⟨.list t, []⟩ else nope
  | .pair a b, .pair c d, x => let p := coe0 a c x.1; let q := coe0 b d x.2; ⟨.pair p.t q.t, (p.x, q.x)⟩
  | .tcons a b, .tcons c d, x => let p := coe0 a c x.1; let q := coe0 b d x.2; ⟨.tcons p.t q.t, (p.x, q.x)⟩
  | _, t, x => ⟨t, x⟩
def zeroD : Nat → TypeId → Dyn
  | 0, _ => nope
  | d + 1, t => match P.underlying t with
    | some .bool => ⟨.bool, false⟩
    | some (.int k) => ⟨.int k, 0⟩
    | some .string => ⟨.str, ByteArray.empty⟩
    | some (.slice e) => ⟨.nil e, ()⟩
    | some (.struct fs) => fs.toList.foldr (fun f r => let v := (zeroD d f.type).toC; catC v.t v.x r) ⟨.unit, ()⟩
    | some (.array n e) => let z := zeroD d e; let z := coe0 (tyT P d e) z.t z.x; if z.t.elt then ⟨.arr n z.t, List.replicate n z.x⟩ else nope
    | some (.pointer _) => ⟨.nilptr, ()⟩
    | some (.func _ _ _) => ⟨.nilfn, ()⟩
    | _ => nope
def tdT (t : TypeId) : TD := match P.underlying t with
  | some .bool => .bool
  | some (.int k) => .int k
  | some .string => .str
  | some (.slice e) => .slice e
  | some (.struct fs) => .struct (fs.toList.map fun g => (g.offset, g.type))
  | some (.array n e) => .array n e
  | some (.pointer _) => .pointer
  | _ => .other
def eqsT (t : TypeId) : Bool := match P.underlying t with
  | some (.struct fs) => !P.stoodInHeld t && !P.eqGuardType P.depth t && fs.toList.all fun f => f.name != "_"
  | _ => false
def tabRow (t : Nat) : TI := ⟨tdT P t, eqsT P t, P.cellsOf t, P.bytesOf t, zeroD P 9 t, tyT P 9 t⟩
end

abbrev AbsFn := (f : Nat) → List Dyn → List AObj → (rt : Ty) → (ots : List OTy) → Option (denR rt ots)
/-- What the interpreter is told of a function: its result's type, and its objects' behind the call; its parameters' types (none: handed over as they are, objects and all). -/
structure Hint where
  rt : Ty
  ots : List OTy
  pars : List (Option Ty)
/-- What the interpreter is told of a program. -/
structure Told where
  tb : Tabs
  hint : Nat → List Ty → Option Hint
  keep : Nat → Nat → List Nat
  trunc : Nat → Bool
  again : Nat → Nat → Bool
  meet : Nat → List Nat → Bool

abbrev Out := Option (Bool × Dyn × St)
def put1 (d : Dyn) (s : St) : Out := if d.t.alive then some (true, d, s) else none
/-- Is a part of a variable what a type's variables hold? -/
def TI.fits (i : TI) (t : Ty) : Bool := match i.d with
  | .struct _ => t.chain && t.width == i.siz
  | .array _ _ => (match t with | .arr _ _ => true | _ => false) && t.width == i.siz
  | _ => match t.vk with
    | .one => true
    | _ => false
def put2 (i : TI) (d : Dyn) (s : St) : Out := if i.fits d.t && decide (0 < i.siz) then some (true, d, s) else none

def intBin (op : BinOp) (k : IntKind) (a b : Int) : Option (Bool × Dyn) :=
  match op with
  | .add => some (true, ⟨.int k, addI k a b⟩)
  | .sub => some (true, ⟨.int k, subI k a b⟩)
  | .mul => some (true, ⟨.int k, mulI k a b⟩)
  | .quo => some (notB (eqI b 0), ⟨.int k, quoI k a b⟩)
  | .rem => some (notB (eqI b 0), ⟨.int k, remI a b⟩)
  | .and => some (true, ⟨.int k, andI k a b⟩)
  | .or => some (true, ⟨.int k, orI k a b⟩)
  | .xor => some (true, ⟨.int k, xorI k a b⟩)
  | .andNot => some (true, ⟨.int k, andNotI k a b⟩)
  | .eql => some (true, ⟨.bool, eqI a b⟩)
  | .neq => some (true, ⟨.bool, notB (eqI a b)⟩)
  | .lss => some (true, ⟨.bool, ltI a b⟩)
  | .leq => some (true, ⟨.bool, leI a b⟩)
  | .gtr => some (true, ⟨.bool, ltI b a⟩)
  | .geq => some (true, ⟨.bool, leI b a⟩)
  | _ => none
def shiftBin (op : BinOp) (k : IntKind) (a b : Int) : Option (Bool × Dyn) :=
  match op with
  | .shl => some (leI 0 b, ⟨.int k, shlI k a b⟩)
  | .shr => some (leI 0 b, ⟨.int k, shrI k a b⟩)
  | _ => none
def strBin (op : BinOp) (a b : ByteArray) : Option (Bool × Dyn) :=
  match op with
  | .eql => some (true, ⟨.bool, eqS a b⟩)
  | .neq => some (true, ⟨.bool, notB (eqS a b)⟩)
  | .add => some (fitS a b, ⟨.str, addS a b⟩)
  | _ => none
/-- Are two values of numbers, texts and bools the same? -/
def eqD : (t : Ty) → den t → Dyn → Option Bool
  | .bool, a, ⟨.bool, b⟩ => some (eqB a b)
  | .int k, a, ⟨.int j, b⟩ => if k = j then some (eqI a b) else none
  | .str, a, ⟨.str, b⟩ => some (eqS a b)
  | _, _, _ => none
/-- Is a thing of a type a number, a text or a bool? -/
def TD.scalar (d : TD) (t : Ty) : Bool := match d, t with
  | .bool, .bool => true
  | .int k, .int j => decide (k = j)
  | .str, .str => true
  | _, _ => false
/-- Are two structs of these fields, one cell each, the same? -/
def eqC (tb : Tabs) : List (Nat × Nat) → Nat → (t : Ty) → den t → Dyn → Option Bool
  | [], n, .unit, _, ⟨.unit, _⟩ => some true
  | (off, f) :: fs, n, .pair a b, x, ⟨.pair c d, y⟩ => match look tb f with
    | some ti => if off = n ∧ ti.d.scalar a then (match eqD a x.1 ⟨c, y.1⟩ with
      | some p => match eqC tb fs (n + 1) b x.2 ⟨d, y.2⟩ with
        | some q => some (andB p q)
        | none => none
      | none => none) else none
    | none => none
  | _, _, _, _, _ => none
def eqAny (tb : Tabs) (xt : Nat) (x y : Dyn) : Option Bool := match look tb xt with
  | some ⟨.struct fs, true, _, _, _, _⟩ => eqC tb fs 0 x.t x.x y
  | some ⟨.bool, _, _, _, _, _⟩ => match x, y with
    | ⟨.bool, a⟩, ⟨.bool, b⟩ => some (eqB a b)
    | _, _ => none
  | some ⟨.pointer, _, _, _, _, _⟩ => match x, y with
    | ⟨.nilptr, _⟩, ⟨.nilptr, _⟩ => some true
    | ⟨.nilptr, _⟩, ⟨.ptr _ _, _⟩ => some false
    | ⟨.ptr _ _, _⟩, ⟨.nilptr, _⟩ => some false
    | _, _ => none
  | _ => none
def binD (tb : Tabs) (op : BinOp) (xt : Nat) (x y : Dyn) : Option (Bool × Dyn) :=
  match x, y with
  | ⟨.int k, a⟩, ⟨.int j, b⟩ =>
    match op with
    | .shl => shiftBin .shl k a b
    | .shr => shiftBin .shr k a b
    | op => if k = j then intBin op k a b else none
  | ⟨.str, a⟩, ⟨.str, b⟩ => strBin op a b
  | x, y =>
    match op with
    | .eql => match eqAny tb xt x y with
      | some b => some (true, ⟨.bool, b⟩)
      | none => none
    | .neq => match eqAny tb xt x y with
      | some b => some (true, ⟨.bool, notB b⟩)
      | none => none
    | _ => none
def unD (op : UnOp) (x : Dyn) : Option Dyn :=
  match op, x with
  | .neg, ⟨.int k, n⟩ => some ⟨.int k, subI k 0 n⟩
  | .not, ⟨.bool, b⟩ => some ⟨.bool, notB b⟩
  | _, _ => none

/-- A row's elements. -/
def rowOf (s : St) (t : Ty) (i : Nat) : Option (List (den t)) := match s.obj i with
  | ⟨.row _ u _, l⟩ => (⟨.list u, l⟩ : Dyn).as (.list t)
  | _ => none
/-- A value's rows, frozen: lists. -/
def thawR (s : St) (l : List Nat) : Tr where
  own t i := if l.contains i then (match rowOf s t i with | some xs => ⟨.list t, xs⟩ | none => nope) else ⟨.own t i, ()⟩
  rptr t i o x := if l.contains i then (match rowOf s t i with | some xs => ⟨.eptr t o, ixL t xs x⟩ | none => nope) else ⟨.rptr t i o, x⟩
  ptr i o := ⟨.ptr i o, ()⟩
  aptr t m i b o x := ⟨.aptr t m i b o, x⟩
def goneL : List Nat → List AObj → List AObj
  | [], h => h
  | i :: l, h => goneL l (h.set i gone)
/-- Rows that are written no more. -/
def St.freeze (s : St) (l : List Nat) : St :=
  match l with
  | [] => s
  | l => let s' := (thawR s l).st s; ⟨s'.tmps, goneL l s'.heap⟩
/-- The objects that a type names, each once, behind others. -/
def addN (i : Nat) (l : List Nat) : List Nat := if l.contains i then l else l ++ [i]
def idsT : Ty → List Nat → List Nat
  | .own _ i, l => addN i l
  | .ptr i _, l => addN i l
  | .rptr _ i _, l => addN i l
  | .aptr _ _ i _ _, l => addN i l
  | .fn _ c, l => idsT c l
  | .eptr t _, l => idsT t l
  | .list t, l => idsT t l
  | .arr _ t, l => idsT t l
  | .pair a b, l => idsT b (idsT a l)
  | .tcons a b, l => idsT b (idsT a l)
  | _, l => l
def idsO : AObj → List Nat → List Nat
  | ⟨.box t, _⟩, l => idsT t l
  | _, l => l
def posN (i : Nat) : List Nat → Nat
  | [] => 0
  | j :: l => if i = j then 0 else posN i l + 1
/-- A value as one of a type: nil and owned rows as lists, where lists are wanted. -/
def coe (s : St) : Ty → (t : Ty) → den t → Dyn
  | .list t, .nil _, _ => if t.elt then ⟨.list t, []⟩ else nope
  | .list t, .own u i, _ => match rowOf s t i with
    | some l => ⟨.list t, l⟩
    | none => nope
  | .pair a b, .pair c d, x => let p := coe s a c x.1; let q := coe s b d x.2; ⟨.pair p.t q.t, (p.x, q.x)⟩
  | .tcons a b, .tcons c d, x => let p := coe s a c x.1; let q := coe s b d x.2; ⟨.tcons p.t q.t, (p.x, q.x)⟩
  | _, t, x => ⟨t, x⟩
/-- The rows that are made lists so. -/
def coeIds : Ty → Ty → List Nat → List Nat
  | .list _, .own _ i, l => addN i l
  | .pair a b, .pair c d, l => coeIds b d (coeIds a c l)
  | .tcons a b, .tcons c d, l => coeIds b d (coeIds a c l)
  | _, _, l => l
/-- The rows that a value names. -/
def ownsT : Ty → List Nat → List Nat
  | .own _ i, l => addN i l
  | .rptr _ i _, l => addN i l
  | .fn _ c, l => ownsT c l
  | .pair a b, l => ownsT b (ownsT a l)
  | .tcons a b, l => ownsT b (ownsT a l)
  | _, l => l
/-- A value as one of a type for ever: its rows are frozen. -/
def coeF (s : St) (t : Ty) (d : Dyn) : Option (den t × St) :=
  match (coe s t d.t d.x).as t with
  | some x => if t.elt then some (x, s.freeze (ownsT d.t [])) else none
  | none => none
/-- A struct's slices that are nil, made rows. -/
def ownNils : (t : Ty) → den t → Tabs → List AObj → Dyn × List AObj
  | .nil e, _, tb, h => match look tb e with
    | some i => if i.ty.elt then (⟨.own i.ty h.length, ()⟩, h ++ [⟨.row e i.ty false, []⟩]) else (⟨.nil e, ()⟩, h)
    | none => (⟨.nil e, ()⟩, h)
  | .pair a b, x, tb, h =>
    let p := ownNils a x.1 tb h
    let q := ownNils b x.2 tb p.2
    (⟨.pair p.1.t q.1.t, (p.1.x, q.1.x)⟩, q.2)
  | t, x, _, h => (⟨t, x⟩, h)

/-- Nil slices made rows, where a type wants rows. -/
def ownAs : Ty → (t : Ty) → den t → Tabs → List AObj → Dyn × List AObj
  | .own _ _, .nil e, _, tb, h => match look tb e with
    | some i => if i.ty.elt then (⟨.own i.ty h.length, ()⟩, h ++ [⟨.row e i.ty false, []⟩]) else (⟨.nil e, ()⟩, h)
    | none => (⟨.nil e, ()⟩, h)
  | .pair c d, .pair a b, x, tb, h =>
    let p := ownAs c a x.1 tb h
    let q := ownAs d b x.2 tb p.2
    (⟨.pair p.1.t q.1.t, (p.1.x, q.1.x)⟩, q.2)
  | _, t, x, _, h => (⟨t, x⟩, h)
def ownRs : Ty → List Dyn → Tabs → List AObj → List Dyn × List AObj
  | .tcons c r, d :: l, tb, h =>
    let p := ownAs c d.t d.x tb h
    let q := ownRs r l tb p.2
    (p.1 :: q.1, q.2)
  | _, l, _, h => (l, h)
def ownOne (rt : Ty) (l : List Dyn) (tb : Tabs) (h : List AObj) : List Dyn × List AObj := match l with
  | [d] => let p := ownAs rt d.t d.x tb h
    ([p.1], p.2)
  | l => ownRs rt l tb h

section
variable (T : Told)

/-- Parts laid into a chain. -/
def layParts (fs : List (Nat × Nat)) (s : St) : List (Nat × Operand) → Dyn → Dyn
  | [], d => d
  | (i, x) :: l, d => match fs[i]? with
    | some (off, u) => match look T.tb u with
      | some ti => if decide ((s.get x).t.width = ti.siz) && (s.get x).t.alive && (s.get x).t.cel && (d.setPart off (s.get x)).t.chain && decide ((d.setPart off (s.get x)).t.width = d.t.width) then layParts fs s l (d.setPart off (s.get x)) else nope
      | none => nope
    | none => nope

/-- What a list literal's elements are: each given once, in order. -/
def litParts (e : Ty) (s : St) : Nat → List (Nat × Operand) → Option (List (den e) × St)
  | _, [] => some ([], s)
  | n, (i, x) :: l => if i = n ∧ (s.get x).t.alive ∧ (s.get x).t.cel ∧ (s.get x).t.width = e.width then
      (match coeF s e (s.get x) with
      | some (v, s') => match litParts e s' (n + 1) l with
        | some (r, s2) => some (v :: r, s2)
        | none => none
      | none => none)
    else none

/-- A list that is read: out of an owned row, or such. -/
def readL (s : St) (e : Ty) (d : Dyn) : Option (List (den e)) := (coe s (.list e) d.t d.x).as (.list e)
def lenD (s : St) (d : Dyn) : Option Nat := match d with
  | ⟨.nil _, _⟩ => some 0
  | ⟨.list t, l⟩ => some (lenL t l)
  | ⟨.own t i, _⟩ => match rowOf s t i with
    | some l => some (lenL t l)
    | none => none
  | ⟨.str, b⟩ => some (lenS b)
  | _ => none

def minD (mx : Bool) : List Dyn → Option Dyn
  | [⟨.int k, a⟩, ⟨.int j, b⟩] => if k = j then some ⟨.int k, if mx then maxI a b else minI a b⟩ else none
  | _ => none

/-- A row's element type, of a slice type, if rows of it may be made. -/
def rowT (t : Nat) : Option (Nat × TI) := match look T.tb t with
  | some ⟨.slice e, _, _, _, _, _⟩ => match look T.tb e with
    | some i => if 0 < i.siz ∧ i.ty.width = i.siz ∧ i.byt ≤ 131072 ∧ i.ty.elt ∧ i.zer.t.alive ∧ i.zer.t.cel ∧ i.siz ≤ 16384 then some (e, i) else none
    | none => none
  | _ => none

def builtinP (b : Builtin) (args : List Dyn) (argTypes : List TypeId) (s : St) : Out :=
  match b, args, argTypes with
  | .len, [d], t :: _ => match lenD s d with
    | some n => match look T.tb t with
      | some ⟨.slice _, _, _, _, _, _⟩ => if d.t = .str then none else some (true, ⟨.int .i64, ofN n⟩, s)
      | some ⟨.str, _, _, _, _, _⟩ => if d.t = .str then some (true, ⟨.int .i64, ofN n⟩, s) else none
      | _ => none
    | none => none
  | .min, l, _ => match minD false l with
    | some d => some (true, d, s)
    | none => none
  | .max, l, _ => match minD true l with
    | some d => some (true, d, s)
    | none => none
  | .append, [d, y], [t, u] => if t = u then (match rowT T t with
    | none => none
    | some (e, i) => match readL s i.ty y with
      | none => none
      | some ys => match d with
        | ⟨.nil _, _⟩ => some (fitL i.ty ys, ⟨.own i.ty s.heap.length, ()⟩, s.new ⟨.row e i.ty false, ys⟩)
        | ⟨.own _ j, _⟩ => match s.obj j with
          | ⟨.row e' u' f, xs⟩ => if e' = e then (match (⟨.list u', xs⟩ : Dyn).as (.list i.ty) with
            | some xs => some (fitL i.ty (appL i.ty xs ys), ⟨.own i.ty j, ()⟩, ((killR [j]).st s).setObj j ⟨.row e i.ty false, appL i.ty xs ys⟩)
            | none => none) else none
          | _ => none
        | _ => none) else none
  | _, _, _ => none

def bound (d : Option Dyn) (n : Nat) : Option Int := match d with
  | some ⟨.int _, a⟩ => some a
  | some _ => none
  | none => some (ofN n)
def lowB (d : Option Dyn) : Option Int := match d with
  | some ⟨.int _, a⟩ => some a
  | some _ => none
  | none => some 0
def inB (a b n : Int) : Bool := andB (leI 0 a) (andB (leI a b) (leI b n))

/-- A bound that is nought. -/
def isZero : Option Operand → Bool
  | some (.const (.int _ n)) => n == 0
  | _ => false

/-- The thing at a place of a variable. -/
def compAt (d : Dyn) (base : Nat) : Dyn := d.part base 0 false
def arrAt (d : Dyn) (base m : Nat) (u : Ty) : Option (List (den u)) := (compAt d base).as (.arr m u)

def opP (fn : Nat) (o : Oper) (s : St) : Out :=
  match o.op with
  | .move x => put1 (s.get x) s
  | .assign x =>
    match s.get x with
    | ⟨.nil _, _⟩ => match rowT T o.type with
      | some (e, i) => some (true, ⟨.own i.ty s.heap.length, ()⟩, s.new ⟨.row e i.ty false, []⟩)
      | none => none
    | v => put1 v s
  | .alloc t => match look T.tb t with
    | some i => if i.zer.t.alive && i.zer.t.cel then
        (let p := ownNils i.zer.t i.zer.x T.tb s.heap
        some (true, ⟨.ptr p.2.length 0, ()⟩, ⟨s.tmps, p.2 ++ [⟨.box p.1.t, p.1.x⟩]⟩)) else none
    | none => none
  | .box _ x => let d := s.get x
    if d.t.alive && d.t.cel then
      (let p := ownNils d.t d.x T.tb s.heap
      some (true, ⟨.ptr p.2.length 0, ()⟩, ⟨s.tmps, p.2 ++ [⟨.box p.1.t, p.1.x⟩]⟩)) else none
  | .build t parts => match look T.tb t with
    | some ⟨.struct fs, _, n, _, z, _⟩ => if z.t.chain && z.t.cel && decide (z.t.width = n) && fs.all (fun g => (look T.tb g.2).isSome) then put1 (layParts T fs s parts.toList z) s else none
    | _ => none
  | .buildSlice t n parts => match rowT T t with
    | some (e, i) => match litParts i.ty s 0 parts.toList with
      | some (l, s') => if parts.size = n ∧ n ≤ 1000 then some (true, ⟨.own i.ty s'.heap.length, ()⟩, s'.new ⟨.row e i.ty false, l⟩) else none
      | none => none
    | none => none
  | .load t a => match look T.tb t with
    | none => none
    | some ti => match s.get a with
      | ⟨.ptr i off, _⟩ => match s.obj i with
        | ⟨.box u, x⟩ => put2 ti ((⟨u, x⟩ : Dyn).part off ti.siz ti.st) s
        | _ => none
      | ⟨.eptr u off, x⟩ => put2 ti ((⟨u, x⟩ : Dyn).part off ti.siz ti.st) s
      | ⟨.rptr u i off, n⟩ => match rowOf s u i with
        | some l => put2 ti ((⟨u, ixL u l n⟩ : Dyn).part off ti.siz ti.st) s
        | none => none
      | ⟨.aptr u m i base off, n⟩ => match s.obj i with
        | ⟨.box v, x⟩ => match arrAt ⟨v, x⟩ base m u with
          | some l => put2 ti ((⟨u, ixL u l n⟩ : Dyn).part off ti.siz ti.st) s
          | none => none
        | _ => none
      | _ => none
  | .store t a x => match look T.tb t with
    | none => none
    | some ti => let v := s.get x
      if v.t.alive && v.t.cel && v.t.width == ti.siz then (match s.get a with
      | ⟨.ptr i off, _⟩ => match s.obj i with
        | ⟨.box u, y⟩ =>
          (let z := (⟨u, y⟩ : Dyn).setPart off v
          if z.t.alive && z.t.width == u.width then some (true, nope, s.setObj i ⟨.box z.t, z.x⟩) else none)
        | _ => none
      | ⟨.rptr u i off, n⟩ => match rowOf s u i with
        | some l => if ((⟨u, ixL u l n⟩ : Dyn).setPart off v).t.alive && ((⟨u, ixL u l n⟩ : Dyn).setPart off v).t.width == u.width then
          (match coeF s u ((⟨u, ixL u l n⟩ : Dyn).setPart off v) with
          | some (z, s') => match s'.obj i with
            | ⟨.row e u' f, l'⟩ => match (⟨.list u', l'⟩ : Dyn).as (.list u) with
              | some l' => some (true, nope, s'.setObj i ⟨.row e u f, setL u l' n z⟩)
              | none => none
            | _ => none
          | none => none) else none
        | none => none
      | ⟨.aptr u m i base off, n⟩ => match s.obj i with
        | ⟨.box b, y⟩ => match arrAt ⟨b, y⟩ base m u with
          | some l => if ((⟨u, ixL u l n⟩ : Dyn).setPart off v).t.alive && ((⟨u, ixL u l n⟩ : Dyn).setPart off v).t.width == u.width then
            (match coeF s u ((⟨u, ixL u l n⟩ : Dyn).setPart off v) with
            | some (z, s') => match s'.obj i with
              | ⟨.box b', y'⟩ => match arrAt ⟨b', y'⟩ base m u with
                | some l' =>
                  (let w := (⟨b', y'⟩ : Dyn).setPart base ⟨.arr m u, setL u l' n z⟩
                  if w.t.alive && w.t.width == b'.width then some (true, nope, s'.setObj i ⟨.box w.t, w.x⟩) else none)
                | none => none
              | _ => none
            | none => none) else none
          | none => none
        | _ => none
      | _ => none) else none
  | .nilCheck x => match s.get x with
    | ⟨.ptr i o, _⟩ => some (true, ⟨.ptr i o, ()⟩, s)
    | ⟨.eptr t o, x⟩ => some (true, ⟨.eptr t o, x⟩, s)
    | ⟨.rptr t i o, x⟩ => some (true, ⟨.rptr t i o, x⟩, s)
    | ⟨.aptr t m i b o, x⟩ => some (true, ⟨.aptr t m i b o, x⟩, s)
    | _ => none
  | .binOp op t x y _ => match binD T.tb op t (s.get x) (s.get y) with
    | some (b, d) => some (b, d, s)
    | none => none
  | .unOp op _ x => match unD op (s.get x) with
    | some d => some (true, d, s)
    | none => none
  | .convert src dst x => match look T.tb src, look T.tb dst, s.get x with
    | some ⟨.int _, _, _, _, _, _⟩, some ⟨.int k, _, _, _, _, _⟩, ⟨.int _, n⟩ => some (true, ⟨.int k, wrapI k n⟩, s)
    | _, _, _ => none
  | .fieldAddr t x f => match look T.tb t with
    | some ⟨.struct fs, _, _, _, _, _⟩ => match fs[f]? with
      | some (o, u) => match look T.tb u with
        | some ti => if 0 < ti.siz then (match s.get x with
          | ⟨.ptr i off, _⟩ => some (true, ⟨.ptr i (off + o), ()⟩, s)
          | ⟨.eptr u off, v⟩ => some (true, ⟨.eptr u (off + o), v⟩, s)
          | ⟨.rptr u i off, n⟩ => some (true, ⟨.rptr u i (off + o), n⟩, s)
          | ⟨.aptr u m i b off, n⟩ => some (true, ⟨.aptr u m i b (off + o), n⟩, s)
          | _ => none) else none
        | none => none
      | none => none
    | _ => none
  | .field t x f => match look T.tb t with
    | some ⟨.struct fs, _, _, _, _, _⟩ => match fs[f]? with
      | some (o, u) => match look T.tb u with
        | some ti => if (s.get x).t.chain then put2 ti ((s.get x).part o ti.siz ti.st) s else none
        | none => none
      | none => none
    | _ => none
  | .indexAddr t x i => match s.get i with
    | ⟨.int _, n⟩ => match look T.tb t with
      | some ⟨.slice e, _, _, _, _, _⟩ => match look T.tb e with
        | some ti => match s.get x with
          | ⟨.list u, l⟩ => if u.width = ti.siz ∧ 0 < ti.siz then some (andB (leI 0 n) (ltI n (ofN (lenL u l))), ⟨.eptr u 0, ixL u l n⟩, s) else none
          | ⟨.own u i, _⟩ => match rowOf s u i with
            | some l => if u.width = ti.siz ∧ 0 < ti.siz then some (andB (leI 0 n) (ltI n (ofN (lenL u l))), ⟨.rptr u i 0, n⟩, s) else none
            | none => none
          | _ => none
        | none => none
      | some ⟨.array m e, _, _, _, _, _⟩ => match look T.tb e with
        | some ti => match s.get x with
          | ⟨.ptr i off, _⟩ => match s.obj i with
            | ⟨.box v, y⟩ => match compAt ⟨v, y⟩ off with
              | ⟨.arr m' u, _⟩ => if m' = m ∧ u.width = ti.siz ∧ 0 < ti.siz ∧ 1 < m then some (andB (leI 0 n) (ltI n (ofN m)), ⟨.aptr u m i off 0, n⟩, s) else none
              | _ => none
            | _ => none
          | _ => none
        | none => none
      | _ => none
    | _ => none
  | .index t x i => match s.get i with
    | ⟨.int _, n⟩ => match look T.tb t, s.get x with
      | some ⟨.str, _, _, _, _, _⟩, ⟨.str, b⟩ => some (andB (leI 0 n) (ltI n (ofN (lenS b))), ⟨.int .u8, getS b (toN n)⟩, s)
      | _, _ => none
    | _ => none
  | .slice t x lo hi none => match lowB (lo.map s.get) with
    | none => none
    | some a => match look T.tb t, s.get x with
      | some ⟨.str, _, _, _, _, _⟩, ⟨.str, b⟩ => match bound (hi.map s.get) (lenS b) with
        | some h => some (inB a h (ofN (lenS b)), ⟨.str, subS b (toN a) (toN h)⟩, s)
        | none => none
      | some ⟨.slice e, _, _, _, _, _⟩, ⟨.list u, l⟩ => match look T.tb e, bound (hi.map s.get) (lenL u l) with
        | some ti, some h => if u.width = ti.siz then some (inB a h (ofN (lenL u l)), ⟨.list u, subL u l (toN a) (toN h)⟩, s) else none
        | _, _ => none
      | some ⟨.slice e, _, _, _, _, _⟩, ⟨.nil e', _⟩ => match bound (hi.map s.get) 0, look T.tb e with
        | some h, some _ => some (inB a h (ofN 0), ⟨.nil e', ()⟩, s)
        | _, _ => none
      | some ⟨.slice e, _, _, _, _, _⟩, ⟨.own u i, _⟩ => match rowOf s u i, look T.tb e with
        | some l, some ti => if u.width = ti.siz then (match bound (hi.map s.get) (lenL u l) with
          | some h => if T.trunc fn then (match lo with
              | none => match s.obj i with
                | ⟨.row e' u' _, _⟩ => if u' = u then some (inB a h (ofN (lenL u l)), ⟨.own u i, ()⟩, ((killR [i]).st s).setObj i ⟨.row e' u false, subL u l 0 (toN h)⟩) else none
                | _ => none
              | _ => none)
            else some (inB a h (ofN (lenL u l)), ⟨.list u, subL u l (toN a) (toN h)⟩, s.freeze [i])
          | none => none) else none
        | _, _ => none
      | _, _ => none
  | .slice t x lo hi (some mx) => if lo.isNone && isZero hi && isZero (some mx) then (match rowT T t, s.get x with
    | some (e, i), ⟨.list _, _⟩ => some (true, ⟨.own i.ty s.heap.length, ()⟩, s.new ⟨.row e i.ty false, []⟩)
    | some (e, i), ⟨.nil _, _⟩ => some (true, ⟨.own i.ty s.heap.length, ()⟩, s.new ⟨.row e i.ty false, []⟩)
    | some (e, i), ⟨.own u j, _⟩ => match rowOf s u j with
      | some _ => some (true, ⟨.own i.ty s.heap.length, ()⟩, s.new ⟨.row e i.ty false, []⟩)
      | none => none
    | _, _ => none) else none
  | .makeSlice t l c => match rowT T t, s.get l, s.get c with
    | some (e, i), ⟨.int _, n⟩, ⟨.int _, m⟩ => match (coe0 i.ty i.zer.t i.zer.x).as i.ty with
      | some z => some (andB (fitN n) (eqI m n), ⟨.own i.ty s.heap.length, ()⟩, s.new ⟨.row e i.ty false, repL i.ty (toN n) z⟩)
      | none => none
    | _, _, _ => none
  | .makeFunc (.func f) first cap =>
    if first.size = 0 then
      let c := (cap.toList.map s.get).foldr (fun d r => (⟨.tcons d.t r.t, (d.x, r.x)⟩ : Dyn)) ⟨.tnil, ()⟩
      if (cap.toList.map s.get).all (fun d => d.t.alive && d.t.cel) then some (true, ⟨.fn f c.t, c.x⟩, s) else none
    else none
  | .extract x i => match s.get x with
    | ⟨.tcons a b, v⟩ => match i with
      | 0 => put1 ⟨a, v.1⟩ s
      | 1 => match b, v.2 with
        | .tcons c _, z => put1 ⟨c, z.1⟩ s
        | _, _ => none
      | 2 => match b, v.2 with
        | .tcons _ (.tcons c _), z => put1 ⟨c, z.2.1⟩ s
        | _, _ => none
      | 3 => match b, v.2 with
        | .tcons _ (.tcons _ (.tcons c _)), z => put1 ⟨c, z.2.2.1⟩ s
        | _, _ => none
      | _ => none
    | _ => none
  | .call c => match c.callee with
    | .builtin b => builtinP T b (c.args.toList.map s.get) c.argTypes.toList s
    | _ => none
  | _ => none

/-! ### Calls -/
/-- Arguments as a function wants them: lists out of owned rows, or the values as they are. -/
def handArgs (s : St) : List (Option Ty) → List Dyn → Option (List Dyn)
  | some t :: ps, d :: ds => match handArgs s ps ds with
    | some r => match (coe s t d.t d.x).as t with
      | some x => if t.pure then some (⟨t, x⟩ :: r) else none
      | none => none
    | none => none
  | none :: ps, d :: ds => match handArgs s ps ds with
    | some r => if d.t.alive then some (d :: r) else none
    | none => none
  | [], ds => if ds.all (·.t.alive) then some ds else none
  | _, _ => none
/-- The objects that are handed over with the values; those that are read alone. -/
def rawIds : List (Option Ty) → List Dyn → List Nat → List Nat
  | some _ :: ps, _ :: ds, l => rawIds ps ds l
  | none :: ps, d :: ds, l => rawIds ps ds (idsT d.t l)
  | [], d :: ds, l => rawIds [] ds (idsT d.t l)
  | _, [], l => l
def readIds : List (Option Ty) → List Dyn → List Nat → List Nat
  | some _ :: ps, d :: ds, l => readIds ps ds (ownsT d.t l)
  | none :: ps, _ :: ds, l => readIds ps ds l
  | _, _, l => l
def reach (h : List AObj) : Nat → List Nat → List Nat
  | 0, l => l
  | n + 1, l => reach h n (l.foldl (fun l i => idsO (h.getD i gone) l) l)
def subN (l m : List Nat) : Bool := l.all fun i => m.contains i
def noneIn (l m : List Nat) : Bool := l.all fun i => !m.contains i
/-- Are all objects that some objects name among them, and there? -/
def closed (h : List AObj) (ids : List Nat) : Bool :=
  ids.all fun i => decide (i < h.length) && subN (idsO (h.getD i gone) []) ids
def distinct : List Nat → Bool
  | [] => true
  | i :: l => !l.contains i && distinct l
def OTy.handed : OTy → OTy
  | .row e t _ => .row e t true
  | t => t
def AObj.handed : AObj → AObj
  | ⟨.row e t _, x⟩ => ⟨.row e t true, x⟩
  | o => o
/-- Behind a call: an object as it is then. -/
def AObj.back (was o : AObj) : AObj := match was, o with
  | ⟨.row _ _ f, _⟩, ⟨.row e t g, x⟩ => ⟨.row e t (f && g), x⟩
  | _, ⟨.row e t _, x⟩ => ⟨.row e t false, x⟩
  | ⟨.box _, _⟩, o => o
  | _, _ => gone
def layBack : List Nat → List AObj → List AObj → List AObj
  | i :: ids, o :: os, h => layBack ids os (h.set i ((h.getD i gone).back o))
  | _, os, h => h ++ os
def Ty.bears : Ty → Bool
  | .list _ => true
  | .eptr _ _ => true
  | .arr _ t => t.bears
  | .fn _ c => c.bears
  | .pair a b => a.bears || b.bears
  | .tcons a b => a.bears || b.bears
  | _ => false
def OTy.bears : OTy → Bool
  | .row _ t _ => t.bears
  | .box t => t.bears
  | .gone => false
/-- The rows that a call turned. -/
def turned : List Nat → List OTy → List Nat
  | i :: ids, .row _ _ true :: os => turned ids os
  | i :: ids, .box _ :: os => turned ids os
  | i :: ids, _ :: os => i :: turned ids os
  | _, _ => []
/-- A store: what alone turns a variable in its place. -/
def isStore : Op → Bool
  | .store _ _ _ => true
  | _ => false
variable {R : Type}
section
variable (T : Told) (C : AbsFn)
/-- Do variables that are handed over stay variables? -/
def keptBoxes (h : List AObj) : List Nat → List OTy → Bool
  | i :: ids, t :: ts => (match (h.getD i gone).t, t with
      | .box _, .box _ => true
      | .box _, _ => false
      | _, _ => true) && keptBoxes h ids ts
  | _, _ => true
/-- A call that is handed no objects. -/
def plainCall (s : St) (f : Nat) (args : List Dyn) : Bool := match T.hint f (args.map (·.t)) with
  | none => false
  | some h => (reach s.heap 3 (rawIds h.pars args [])).isEmpty
def callD (f : Nat) (args : List Dyn) (s : St) (K : Dyn → St → Option R) : Option R :=
  match T.hint f (args.map (·.t)) with
  | none => none
  | some h => match handArgs s h.pars args with
    | none => none
    | some as =>
      let ids := reach s.heap 3 (rawIds h.pars args [])
      let red := readIds h.pars args []
      if noneIn red ids && closed s.heap ids && distinct ids && decide (ids.length ≤ h.ots.length) && as.all (fun d => subN (idsT d.t []) ids) && keptBoxes s.heap ids h.ots then
        let r0 := renR (posN · ids)
        bnd (C f (as.map r0.dyn) (ids.map fun i => (r0.obj (s.heap.getD i gone)).handed) h.rt h.ots) fun r =>
          let n := s.heap.length
          let back : Tr := renR fun i => if i < ids.length then ids.getD i 0 else n + (i - ids.length)
          let os := (resO h.rt h.ots r).map back.obj
          let v : Dyn := back.dyn ⟨h.rt, resT h.rt h.ots r⟩
          let s0 := if h.rt.bears || h.ots.any OTy.bears then s.freeze red else s
          let s1 := (killR (turned ids h.ots)).st s0
          K v ⟨s1.tmps, layBack ids os s1.heap⟩
      else none
/-- Captured values. -/
def capD : (t : Ty) → den t → Option (List Dyn)
  | .tnil, _ => some []
  | .tcons a b, x => match capD b x.2 with
    | some l => some (⟨a, x.1⟩ :: l)
    | none => none
  | _, _ => none
/-- A slice against nil: is it asked whether it is nil, and is it empty? -/
def nilD (s : St) (o : Oper) : Option (Bool × Bool) := match o.op with
  | .binOp .eql t x (.const (.slice none 0 0)) _ => (match look T.tb t with
    | some ⟨.slice _, _, _, _, _, _⟩ => if (s.get x).t = .str then none else (match lenD s (s.get x) with
      | some n => some (true, eqI (ofN n) 0)
      | none => none)
    | _ => none)
  | .binOp .neq t x (.const (.slice none 0 0)) _ => (match look T.tb t with
    | some ⟨.slice _, _, _, _, _, _⟩ => if (s.get x).t = .str then none else (match lenD s (s.get x) with
      | some n => some (false, eqI (ofN n) 0)
      | none => none)
    | _ => none)
  | _ => none
noncomputable def opD (fn : Nat) (o : Oper) (s : St) (K : Dyn → St → Option R) : Option R :=
  match o.op with
  | .pick c a b => match s.get c with
    | ⟨.bool, p⟩ => br p (if (s.get a).t.alive then K (s.get a) s else none) (if (s.get b).t.alive then K (s.get b) s else none)
    | _ => none
  | .call ⟨.value f, args, _⟩ => match s.get f with
      | ⟨.fn n cap, x⟩ => match capD cap x with
        | some ds => callD T C n (args.toList.map s.get ++ ds) s K
        | none => none
      | _ => none
  | _ => match nilD T s o with
    | some (e, z) => br z (both (K ⟨.bool, true⟩ s) (K ⟨.bool, false⟩ s)) (K ⟨.bool, !e⟩ s)
    | none => match opP T fn o s with
      | some (b, d, s') => br b (K d s') none
      | none => none

/-- Is a slot one of the function's? -/
def dstOk (nt : Nat) : Option Tmp → Bool
  | some t => decide (t < nt)
  | none => true
/-- What a slot holds whose operation was passed over. -/
def undefD : Dyn := ⟨.tnil, ()⟩
/-- One operation of a region, if its guard lets it; a guard is decided where it is asked. -/
noncomputable def stepD (fn nt : Nat) (all : Array Oper) (i : Nat) (s : St) (K : St → Option R) : Option R :=
  match all[i]? with
  | none => none
  | some o => if !dstOk nt o.dst then none else match o.guard with
    | none => opD T C fn o s fun v s' => K (s'.put o.dst v)
    | some (j, want) => match (all[j]?).bind (·.dst) with
      | none => none
      | some t => match getT s.tmps t with
        | ⟨.bool, b⟩ =>
          br b (match want with
            | true => opD T C fn o ⟨putT s.tmps t ⟨.bool, true⟩, s.heap⟩ fun v s' => K (s'.put o.dst v)
            | false => K ((⟨putT s.tmps t ⟨.bool, true⟩, s.heap⟩ : St).put o.dst undefD))
          (match want with
            | false => opD T C fn o ⟨putT s.tmps t ⟨.bool, false⟩, s.heap⟩ fun v s' => K (s'.put o.dst v)
            | true => K ((⟨putT s.tmps t ⟨.bool, false⟩, s.heap⟩ : St).put o.dst undefD))
        | ⟨.tnil, _⟩ => K (s.put o.dst undefD)
        | _ => none
/-- A place where the state is looked at. -/
abbrev here (K : St → Option R) (s : St) : Option R := K s
noncomputable def opsD (fn nt : Nat) (all : Array Oper) : List Nat → St → (St → Option R) → Option R
  | [], s, K => K s
  | i :: l, s, K => stepD T C fn nt all i s fun s' => here (fun s => opsD fn nt all l s K) s'
noncomputable def boths : List (Option R) → Option R
  | [] => none
  | [x] => x
  | x :: l => both x (boths l)
/-- Operations that ask nothing of memory. -/
def worldless : Op → Bool
  | .move _ | .binOp _ _ _ _ _ | .unOp _ _ _ | .convert _ _ _ | .fieldAddr _ _ _ | .field _ _ _ | .indexAddr _ _ _ | .extract _ _ | .index _ _ _ | .nilCheck _ | .build _ _ => true
  | .makeFunc (.func _) _ _ => true
  | .call ⟨.builtin .len, _, _⟩ => true
  | _ => false
def still : Ty → Bool
  | .rptr _ _ _ => false
  | _ => true
/-- Does an operation turn no variable? -/
def growOp (s : St) (o : Oper) : Bool := match o.op with
  | .store _ _ _ => false
  | .call ⟨.value f, args, _⟩ => (match s.get f with
      | ⟨.fn n cap, x⟩ => (match capD cap x with
        | some ds => plainCall T s n (args.toList.map s.get ++ ds)
        | none => false)
      | _ => false)
  | _ => true
/-- What can come before an operation, reckoned. -/
def bef (ops : Array Oper) (listed : Array Bool) (i : Nat) : List Nat :=
  (List.range ops.size).foldl (fun B j => if j != i && !listed.getD j true && (match ops[j]? with
    | some oj => oj.after.all fun e => !Region.binds .any e || listed.getD e.on false || B.contains e.on
    | none => false) then j :: B else B) []
def befOK (ops : Array Oper) (listed : Array Bool) (i : Nat) (B : List Nat) : Bool :=
  (List.range ops.size).all fun j => j == i || listed.getD j true || B.contains j || match ops[j]? with
    | some oj => oj.after.any fun e => Region.binds .any e && !(listed.getD e.on false || B.contains e.on)
    | none => true
def calm (ops : Array Oper) (oi : Oper) (j : Nat) : Bool := match ops[j]? with
  | some oj => oi.apart ops oj && (match oj.op with | .select _ _ => false | _ => true)
  | none => true
def noStore (ops : Array Oper) (j : Nat) : Bool := match ops[j]? with
  | some oj => !isStore oj.op
  | none => true
def quietL (s : St) : Op → Bool
  | .load _ x => still (s.get x).t
  | _ => false
def noNil : Ty → Bool
  | .nil _ => false
  | _ => true
/-- Operations that ask nothing of memory here. -/
def quiet0 (s : St) : Op → Bool
  | .assign x => noNil (s.get x).t
  | op => worldless op
/-- An operation that may come first, and those that keep what it reads. -/
def takeQ (ops : Array Oper) (listed : Array Bool) (s : St) (i : Nat) : Option (List Nat) := match ops[i]? with
  | none => none
  | some o => if quiet0 s o.op || quietL s o.op then
      let B := bef ops listed i
      if befOK ops listed i B && B.all (calm ops o) then
        if quiet0 s o.op then some [] else if B.all (noStore ops) then some B else none
      else none
    else none
def pickQ (ops : Array Oper) (listed : Array Bool) (s : St) : List Nat → Option (Nat × List Nat)
  | [] => none
  | i :: l => match takeQ ops listed s i with
    | some B => some (i, B)
    | none => pickQ ops listed s l
noncomputable def anyD (fn nt : Nat) (all : Array Oper) : Nat → Array Bool → List Nat → St → (St → Option R) → Option R
  | 0, listed, _, s, K => match Region.ready .any all listed with
    | [] => K s
    | _ => none
  | n + 1, listed, need, s, K => match Region.ready .any all listed with
    | [] => K s
    | rs => match pickQ all listed s rs with
      | some (i, B) => stepD T C fn nt all i s fun s' => here (fun s => anyD fn nt all n (listed.setIfInBounds i true) (B ++ need) s K) s'
      | none => boths (rs.map fun i => match all[i]? with
        | some o => if need.contains i && !growOp T s o then none else stepD T C fn nt all i s fun s' => here (fun s => anyD fn nt all n (listed.setIfInBounds i true) need s K) s'
        | none => none)

inductive Ex where
  | normal | exit (id : Nat) | ret

/-- Objects in an order of their own: the first so many, then as they are met; none that is not. -/
def St.norm (s : St) (m : Nat) : Option St :=
  let ids := reach s.heap 3 (s.tmps.foldl (fun l p => idsT p.2.t l) (List.range m))
  if closed s.heap ids && distinct ids && s.tmps.all (fun p => subN (idsT p.2.t []) ids) && decide (ids.take m = List.range m) then
    let r := renR (posN · ids)
    some ⟨s.tmps.map fun p => (p.1, r.dyn p.2), ids.map fun i => r.obj (s.heap.getD i gone)⟩
  else none
def St.only (s : St) (ks : List Nat) : St := ⟨s.tmps.filter fun p => ks.contains p.1 && p.2.t.alive, s.heap⟩

/-- What is done next, and its name. -/
inductive Tag where
  | seq (p : List Nat) | block (i : Nat) | again (p : List Nat) | fin
structure Kn (R : Type) where
  tag : List Tag
  go : Ex → St → Option R
abbrev Run (R : Type) := St → Kn R → Option R
def againK (p : List Nat) (lp : Run R) (K : Kn R) : Kn R := ⟨.again p :: K.tag, fun e s => match e with
  | .normal => lp s K
  | e => K.go e s⟩
def loopD (p : List Nat) (body : Run R) : Nat → Run R
  | 0, _, _ => none
  | j + 1, s, K => body s (againK p (loopD p body j) K)
theorem jnO_ex (R : Type) : ∃ f : List Nat → Run R → Run R, f = fun _ b => b := ⟨_, rfl⟩
/-- Where ways meet that is told by a name. -/
noncomputable def jnO {R : Type} (p : List Nat) (b : Run R) : Run R := Classical.choose (jnO_ex R) p b
theorem jnO_eq {R : Type} (p : List Nat) (b : Run R) : jnO p b = b := by
  unfold jnO
  rw [Classical.choose_spec (jnO_ex R)]
/-- Where ways meet. -/
noncomputable def jn (f : Bool) (p : List Nat) (b : Run R) : Run R := match f with
  | true => jnO p b
  | false => b
theorem jn_eq (f : Bool) (p : List Nat) (b : Run R) : jn f p b = b := by
  cases f
  · rfl
  · exact jnO_eq p b
noncomputable def seqK (f : Bool) (p : List Nat) (b : Run R) (K : Kn R) : Kn R := ⟨.seq p :: K.tag, fun e s => match e with
  | .normal => jn f p b s K
  | e => K.go e s⟩
def blockK (i : Nat) (K : Kn R) : Kn R := ⟨.block i :: K.tag, fun e s => match e with
  | .exit j => if j = i then K.go .normal s else K.go (.exit j) s
  | e => K.go e s⟩
/-- Behind a branching: the slot that was asked is known, if it is asked again; else it is let go. -/
def cutT (fn : Nat) (s : St) (t : Nat) (b : Bool) : St := if T.again fn t then ⟨putT s.tmps t ⟨.bool, b⟩, s.heap⟩ else ⟨offT s.tmps t, s.heap⟩
/-- The code of a function, with what is done behind it. The way to it is told along. -/
noncomputable def runD (LP : List Nat → Run R → Run R) (fn nt m : Nat) (p : List Nat) : Code → St → Kn R → Option R
  | .skip, s, K => K.go .normal s
  | .label _, s, K => K.go .normal s
  | .region i ops false, s, K => opsD T C fn nt ops (List.range ops.size) s fun s' => match (s'.only (T.keep fn i)).norm m with
    | some s' => here (fun s => K.go .normal s) s'
    | none => none
  | .region i ops true, s, K => anyD T C fn nt ops ops.size (Array.replicate ops.size false) [] s fun s' => match (s'.only (T.keep fn i)).norm m with
    | some s' => here (fun s => K.go .normal s) s'
    | none => none
  | .seq a b, s, K => runD LP fn nt m (p ++ [0]) a s (seqK (T.meet fn (p ++ [1])) (p ++ [1]) (fun s K => runD LP fn nt m (p ++ [1]) b s K) K)
  | .cond c x y, s, K => match c with
    | .tmp t => match getT s.tmps t with
      | ⟨.bool, b⟩ => br b (runD LP fn nt m (p ++ [0]) x (cutT T fn s t true) K) (runD LP fn nt m (p ++ [1]) y (cutT T fn s t false) K)
      | _ => none
    | _ => none
  | .block i c, s, K => runD LP fn nt m (p ++ [0]) c s (blockK i K)
  | .loop c, s, K => LP (p ++ [0]) (fun s K => runD LP fn nt m (p ++ [0]) c s K) s K
  | .exit i, s, K => K.go (.exit i) s
  | .ret, s, K => K.go .ret s
  | _, _, _ => none

/-- A function's results, as one value. -/
def resD (s : St) : List ResultVar → Option (List Dyn)
  | [] => some []
  | .tmp t :: l => match resD s l with
    | some r => if (getT s.tmps t).t.alive && (getT s.tmps t).t.cel then some (getT s.tmps t :: r) else none
    | none => none
  | .cell a t :: l => match resD s l with
    | none => none
    | some r => match look T.tb t, getT s.tmps a with
      | some ti, ⟨.ptr i off, _⟩ => match s.obj i with
        | ⟨.box u, x⟩ => let d := (⟨u, x⟩ : Dyn).part off ti.siz ti.st
          if ti.fits d.t && decide (0 < ti.siz) && d.t.cel then some (d :: r) else none
        | _ => none
      | _, _ => none
def tupD : List Dyn → Dyn
  | [] => ⟨.tnil, ()⟩
  | d :: l => let r := tupD l; ⟨.tcons d.t r.t, (d.x, r.x)⟩
def oneD : List Dyn → Dyn
  | [d] => d
  | l => tupD l
/-- A function's end: what is handed back, and the objects. -/
def finE (rt : Ty) (ots : List OTy) (m : Nat) (s : St) (d : Dyn) : Option (denR rt ots) :=
    let v := coe s rt d.t d.x
    let l := coeIds rt d.t []
    let s' := s.freeze l
    if noneIn l (idsT v.t []) then match (⟨[(0, v)], s'.heap⟩ : St).norm m with
    | some ⟨[(_, w)], h⟩ => match w.as rt with
      | none => none
      | some x => match asObjs ots h with
        | some y => some (mkR rt x ots y)
        | none => none
    | _ => none else none
def finD (fn : Func) (rt : Ty) (ots : List OTy) (m : Nat) (s : St) : Option (denR rt ots) :=
  match resD T s fn.results.toList with
  | none => none
  | some l => finE rt ots m ⟨s.tmps, (ownOne rt l T.tb s.heap).2⟩ (oneD (ownOne rt l T.tb s.heap).1)
def finK (fn : Func) (rt : Ty) (ots : List OTy) (m : Nat) : Kn (denR rt ots) := ⟨[.fin], fun e s => match e with
  | .exit _ => none
  | _ => finD T fn rt ots m s⟩
end
/-- A part of a code, by the way to it. -/
def sub : List Nat → Code → Code
  | [], c => c
  | 0 :: p, .seq a _ => sub p a
  | _ :: p, .seq _ b => sub p b
  | 0 :: p, .cond _ a _ => sub p a
  | _ :: p, .cond _ _ b => sub p b
  | _ :: p, .block _ c => sub p c
  | _ :: p, .loop c => sub p c
  | _, c => c
def numD : Nat → List Dyn → List (Nat × Dyn)
  | _, [] => []
  | n, d :: l => (n, d) :: numD (n + 1) l
def codeOf (P : Program) (f : Nat) : Code := match P.funcs[f]? with
  | none => .skip
  | some fn => match fn.body with
    | none => .skip
    | some c => c
def funcOf (P : Program) (f : Nat) : Func := match P.funcs[f]? with
  | none => default
  | some fn => fn
def hasBody (P : Program) (f : Nat) : Bool := match P.funcs[f]? with
  | none => false
  | some fn => fn.body.isSome
/-- Functions that are told of otherwise than by their code. -/
abbrev Prims := Nat → Option AbsFn
/-- A loop, by a number of rounds at most or none. -/
abbrev Looper := (R : Type) → List Nat → Run R → Run R
noncomputable def bodyF {R : Type} (P : Program) (T : Told) (C : AbsFn) (LP : Looper) (f m : Nat) (p : List Nat) : Run R :=
  fun s K => runD T C (LP R) f (funcOf P f).ntmps m p (sub p (codeOf P f)) s K
noncomputable def callB (P : Program) (T : Told) (pr : Prims) (C : AbsFn) (LP : Looper) : AbsFn :=
  fun f args objs rt ots => match pr f with
    | some c => c f args objs rt ots
    | none => match hasBody P f with
      | false => none
      | true => if args.length ≤ (funcOf P f).ntmps then bodyF P T C LP f objs.length [] ⟨numD 0 args, objs⟩ (finK T (funcOf P f) rt ots objs.length) else none
-- CALL BEGIN
open Classical in
/-- What is answered in the end, by more and more of what is answered at all. -/
noncomputable def lim {R : Type} (x : Nat → Option R) : Option R := if h : ∃ k r, x k = some r then x (Classical.choose h) else none
/-- A loop, by any number of rounds. -/
noncomputable def loopW {R : Type} (p : List Nat) (body : Run R) : Run R := fun s K => lim fun j => loopD p body j s K
/-- Calls, by a depth at most. -/
noncomputable def callG (P : Program) (T : Told) (pr : Prims) : Nat → AbsFn
  | 0 => fun _ _ _ _ _ => none
  | k + 1 => callB P T pr (callG P T pr k) @loopW
/-- Calls. -/
noncomputable def callW (P : Program) (T : Told) (pr : Prims) : AbsFn := fun f args objs rt ots => lim fun k => callG P T pr k f args objs rt ots
-- CALL END
/-- A function whose parameters and results are plain, as its types tell. -/
def parT (P : Program) (t : TypeId) : Option Ty := match P.underlying t with
  | some (.pointer _) => none
  | some (.func _ _ _) => none
  | some _ => some (tyT P 9 t)
  | none => none
def tupT : List Ty → Ty
  | [] => .tnil
  | t :: l => .tcons t (tupT l)
def hintOf (P : Program) (f : Nat) : Option Hint := match P.funcs[f]? with
  | none => none
  | some fn => some ⟨match fn.resultTypes.toList.map (tyT P 9) with
      | [t] => t
      | l => tupT l, [], fn.params.toList.map (parT P)⟩
/-- What is told of a function that is handed a nil, or a row of one's own, at a place. -/
def pickV (ats : List Ty) : List (Nat × Bool × Hint) → Option Hint
  | [] => none
  | (k, n, h) :: l => match ats[k]? with
    | some (.nil _) => if n then some h else pickV ats l
    | some (.own _ _) => if n then pickV ats l else some h
    | _ => pickV ats l
/-- The variables that closures among the arguments have caught. -/
def capO (ft : List (Nat × List OTy)) : List Ty → List OTy
  | .fn g _ :: l => (match look ft g with
    | some o => o
    | none => []) ++ capO ft l
  | _ :: l => capO ft l
  | [] => []
def hintV (ht : List (Nat × Hint)) (vt : List (Nat × List (Nat × Bool × Hint))) (ft : List (Nat × List OTy)) (f : Nat) (ats : List Ty) : Option Hint :=
  match (match look vt f with
    | some l => pickV ats l
    | none => none) with
  | some h => some h
  | none => match look ht f with
    | some h => some ⟨h.rt, capO ft ats ++ h.ots, h.pars⟩
    | none => none
end
end Go.Abs
