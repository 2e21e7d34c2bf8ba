/- Texts of one proof, laid together: how the interpreter's words stand for the program's code and what the functions do. No conditions but those that each lemma names. -/
import Derived.Calls
import Derived.Orders
import Derived.KernelRfl
import Derived.Lib.TrailingZeros
import Derived.Laws.AppendOwn
import Derived.Laws.OwnMore
import Derived.Maps.AppendAt
import Derived.Laws.StructEq
set_option linter.unusedSimpArgs false
set_option autoImplicit false
set_option linter.unusedVariables false
namespace Go.Abs
inductive Ty where
  | dead | nil (e : Nat) | nilptr | nilfn | bool | int (k : IntKind) | str
  | list (t : Ty) | own (t : Ty) (id : Nat) | ptr (id off : Nat)
  | eptr (t : Ty) (off : Nat) | rptr (t : Ty) (id off : Nat) | aptr (t : Ty) (m id base off : Nat)
  | fn (f : Nat) (cap : Ty)
  | arr (n : Nat) (t : Ty)
  | mp (t : Ty)
  | unit | pair (a b : Ty) | tnil | tcons (a b : Ty)
  deriving DecidableEq, Inhabited
@[reducible] def den : Ty → Type
  | .bool => Bool
  | .int _ => Int
  | .str => ByteArray
  | .list t => List (den t)
  | .arr _ t => List (den t)
  | .mp t => Int → List (den t)
  | .eptr t _ => den t
  | .rptr _ _ _ => Int
  | .aptr _ _ _ _ _ => Int
  | .fn _ c => den c
  | .pair a b => den a × den b
  | .tcons a b => den a × den b
  | .dead => Unit | .nil _ => Unit | .nilptr => Unit | .nilfn => Unit | .own _ _ => Unit | .ptr _ _ => Unit | .unit => Unit | .tnil => Unit
def dflt : (t : Ty) → den t
  | .bool => false
  | .int _ => 0
  | .str => ByteArray.empty
  | .list t => []
  | .arr _ t => []
  | .mp t => fun _ => []
  | .eptr t _ => dflt t
  | .rptr _ _ _ => 0
  | .aptr _ _ _ _ _ => 0
  | .fn _ c => dflt c
  | .pair a b => (dflt a, dflt b)
  | .tcons a b => (dflt a, dflt b)
  | .dead => () | .nil _ => () | .nilptr => () | .nilfn => () | .own _ _ => () | .ptr _ _ => () | .unit => () | .tnil => ()
structure Dyn where
  t : Ty
  x : den t
instance : Inhabited Dyn := ⟨⟨.dead, ()⟩⟩
def nope : Dyn := ⟨.dead, ()⟩
def Dyn.as (d : Dyn) (t : Ty) : Option (den t) := if h : d.t = t then some (h ▸ d.x) else none
def Ty.width : Ty → Nat
  | .pair a b => a.width + b.width
  | .unit => 0
  | .arr n t => n * t.width
  | _ => 1
def Ty.chain : Ty → Bool
  | .pair _ _ => true
  | .unit => true
  | _ => false
inductive VK where
  | dead | agg | tup | one
def Ty.vk : Ty → VK
  | .dead => .dead
  | .pair _ _ => .agg
  | .unit => .agg
  | .arr _ _ => .agg
  | .tnil => .tup
  | .tcons _ _ => .tup
  | _ => .one
def Ty.alive : Ty → Bool
  | .dead => false
  | _ => true
def Ty.isNil : Ty → Bool
  | .nil _ => true
  | _ => false
def Ty.pure : Ty → Bool
  | .own _ _ => false
  | .ptr _ _ => false
  | .rptr _ _ _ => false
  | .aptr _ _ _ _ _ => false
  | .eptr t _ => t.pure
  | .list t => t.pure
  | .arr _ t => t.pure
  | .mp t => t.pure
  | .fn _ c => c.pure
  | .pair a b => a.pure && b.pure
  | .tcons a b => a.pure && b.pure
  | .dead => false
  | _ => true
def Ty.cel : Ty → Bool
  | .pair a b => a.cel && b.cel && b.chain
  | .arr _ t => t.cel
  | .tnil => false
  | .tcons _ _ => false
  | _ => true
def Ty.elt (t : Ty) : Bool := t.cel && t.pure
def dropC : Nat → (t : Ty) → den t → Dyn
  | n, .pair a b, x => if n = 0 then ⟨.pair a b, x⟩ else if a.width ≤ n then dropC (n - a.width) b x.2 else nope
  | n, t, x => if n = 0 then ⟨t, x⟩ else nope
def takeC : Nat → (t : Ty) → den t → Dyn
  | n, .pair a b, x => if n = 0 then ⟨.unit, ()⟩ else if a.width ≤ n then (let r := takeC (n - a.width) b x.2; if r.t.chain then ⟨.pair a r.t, (x.1, r.x)⟩ else nope) else nope
  | n, _, _ => if n = 0 then ⟨.unit, ()⟩ else nope
def catC : (t : Ty) → den t → Dyn → Dyn
  | .pair a b, x, e => let r := catC b x.2 e; ⟨.pair a r.t, (x.1, r.x)⟩
  | _, _, e => e
def headC : (t : Ty) → den t → Dyn
  | .pair a _, x => ⟨a, x.1⟩
  | _, _ => nope
def Dyn.part (d : Dyn) (off n : Nat) (st : Bool) : Dyn :=
  if d.t.chain then
    let r := dropC off d.t d.x
    if st then takeC n r.t r.x else headC r.t r.x
  else if st then nope else (if off = 0 then d else nope)
def Dyn.toC (d : Dyn) : Dyn := if d.t.chain then d else ⟨.pair d.t .unit, (d.x, ())⟩
def Dyn.setPart (d : Dyn) (off : Nat) (v : Dyn) : Dyn :=
  if d.t.chain then
    let a := takeC off d.t d.x
    let c := v.toC
    let r := dropC (off + c.t.width) d.t d.x
    if a.t.chain && r.t.chain then (let z := catC c.t c.x r; catC a.t a.x z) else nope
  else if off = 0 then (if v.t.chain then nope else v) else nope
inductive OTy where
  | row (e : Nat) (t : Ty) (fix : Bool) | box (t : Ty) | gone | held
  deriving DecidableEq, Inhabited
@[reducible] def denO : OTy → Type
  | .row _ t _ => List (den t)
  | .box t => den t
  | .gone => Unit
  | .held => Unit
structure AObj where
  t : OTy
  x : denO t
instance : Inhabited AObj := ⟨⟨.gone, ()⟩⟩
def gone : AObj := ⟨.gone, ()⟩
def heldO : AObj := ⟨.held, ()⟩
def isIt : List AObj → Bool
  | [⟨.held, _⟩] => true
  | _ => false
@[reducible] def denOs : List OTy → Type
  | [] => Unit
  | o :: os => denO o × denOs os
@[reducible] def denR (t : Ty) : List OTy → Type
  | [] => den t
  | o :: os => den t × denOs (o :: os)
def AObj.as (d : AObj) (t : OTy) : Option (denO t) := if h : d.t = t then some (h ▸ d.x) else none
def asObjs : (ts : List OTy) → List AObj → Option (denOs ts)
  | [], [] => some ()
  | t :: ts, o :: os => match o.as t with
    | some x => match asObjs ts os with
      | some y => some (x, y)
      | none => none
    | none => none
  | _, _ => none
def objsOf : (ts : List OTy) → denOs ts → List AObj
  | [], _ => []
  | t :: ts, x => ⟨t, x.1⟩ :: objsOf ts x.2
def resT (t : Ty) : (ts : List OTy) → denR t ts → den t
  | [], x => x
  | _ :: _, x => x.1
def resO (t : Ty) : (ts : List OTy) → denR t ts → List AObj
  | [], _ => []
  | o :: os, x => objsOf (o :: os) x.2
def mkR (t : Ty) (x : den t) : (ts : List OTy) → denOs ts → denR t ts
  | [], _ => x
  | _ :: _, y => (x, y)
structure St where
  tmps : List (Nat × Dyn)
  heap : List AObj
def ofConst : Value → Dyn
  | .bool b => ⟨.bool, b⟩
  | .int k n => ⟨.int k, n⟩
  | .string s => ⟨.str, s⟩
  | .slice none 0 0 => ⟨.nil 0, ()⟩
  | .pointer none => ⟨.nilptr, ()⟩
  | .nilFunc => ⟨.nilfn, ()⟩
  | _ => nope
def getT : List (Nat × Dyn) → Nat → Dyn
  | [], _ => nope
  | (u, d) :: l, t => if u = t then d else getT l t
def putT : List (Nat × Dyn) → Nat → Dyn → List (Nat × Dyn)
  | [], t, v => [(t, v)]
  | (u, d) :: l, t, v => if t < u then (t, v) :: (u, d) :: l else if u = t then (t, v) :: l else (u, d) :: putT l t v
def offT : List (Nat × Dyn) → Nat → List (Nat × Dyn)
  | [], _ => []
  | (u, d) :: l, t => if u = t then offT l t else (u, d) :: offT l t
def St.get (s : St) : Operand → Dyn
  | .tmp t => getT s.tmps t
  | .const v => ofConst v
  | .func f => ⟨.fn f .tnil, ()⟩
  | .global _ => nope
def St.put (s : St) (d : Option Tmp) (v : Dyn) : St :=
  match d with
  | some t => ⟨putT s.tmps t v, s.heap⟩
  | none => s
def St.obj (s : St) (i : Nat) : AObj := s.heap.getD i gone
def St.setObj (s : St) (i : Nat) (o : AObj) : St := ⟨s.tmps, s.heap.set i o⟩
def St.new (s : St) (o : AObj) : St := ⟨s.tmps, s.heap ++ [o]⟩
def Ty.names (i : Nat) : Ty → Bool
  | .own _ j => i == j
  | .ptr j _ => i == j
  | .rptr _ j _ => i == j
  | .aptr _ _ j _ _ => i == j
  | .eptr t _ => t.names i
  | .list t => t.names i
  | .arr _ t => t.names i
  | .fn _ c => c.names i
  | .pair a b => a.names i || b.names i
  | .tcons a b => a.names i || b.names i
  | _ => false
structure Tr where
  own : Ty → Nat → Dyn
  rptr : Ty → Nat → Nat → Int → Dyn
  ptr : Nat → Nat → Dyn
  aptr : Ty → Nat → Nat → Nat → Nat → Int → Dyn
def Tr.app (r : Tr) : (t : Ty) → den t → Dyn
  | .own t i, _ => r.own t i
  | .ptr i o, _ => r.ptr i o
  | .rptr t i o, x => r.rptr t i o x
  | .aptr t m i b o, x => r.aptr t m i b o x
  | .fn f c, x => let p := Tr.app r c x; ⟨.fn f p.t, p.x⟩
  | .pair a b, x => let p := Tr.app r a x.1; let q := Tr.app r b x.2; ⟨.pair p.t q.t, (p.x, q.x)⟩
  | .tcons a b, x => let p := Tr.app r a x.1; let q := Tr.app r b x.2; ⟨.tcons p.t q.t, (p.x, q.x)⟩
  | t, x => ⟨t, x⟩
def Tr.dyn (r : Tr) (d : Dyn) : Dyn := r.app d.t d.x
def Tr.obj (r : Tr) : AObj → AObj
  | ⟨.box t, x⟩ => let p := r.app t x; ⟨.box p.t, p.x⟩
  | o => o
def Tr.st (r : Tr) (s : St) : St := ⟨s.tmps.map fun p => (p.1, r.dyn p.2), s.heap.map r.obj⟩
def killR (l : List Nat) : Tr where
  own t i := if l.contains i then nope else ⟨.own t i, ()⟩
  rptr t i o x := if l.contains i then nope else ⟨.rptr t i o, x⟩
  ptr i o := if l.contains i then nope else ⟨.ptr i o, ()⟩
  aptr t m i b o x := if l.contains i then nope else ⟨.aptr t m i b o, x⟩
def renR (r : Nat → Nat) : Tr where
  own t i := ⟨.own t (r i), ()⟩
  rptr t i o x := ⟨.rptr t (r i) o, x⟩
  ptr i o := ⟨.ptr (r i) o, ()⟩
  aptr t m i b o x := ⟨.aptr t m (r i) b o, x⟩
-- WORDS BEGIN
def addI (k : IntKind) (a b : Int) : Int := k.wrap (a + b)
def subI (k : IntKind) (a b : Int) : Int := k.wrap (a - b)
def mulI (k : IntKind) (a b : Int) : Int := k.wrap (a * b)
def quoI (k : IntKind) (a b : Int) : Int := k.wrap (a.tdiv b)
def remI (a b : Int) : Int := a.tmod b
def andI (k : IntKind) (a b : Int) : Int := k.wrap (BitVec.ofInt k.bits a &&& BitVec.ofInt k.bits b).toNat
def orI (k : IntKind) (a b : Int) : Int := k.wrap (BitVec.ofInt k.bits a ||| BitVec.ofInt k.bits b).toNat
def xorI (k : IntKind) (a b : Int) : Int := k.wrap (BitVec.ofInt k.bits a ^^^ BitVec.ofInt k.bits b).toNat
def andNotI (k : IntKind) (a b : Int) : Int := k.wrap (BitVec.ofInt k.bits a &&& ~~~ BitVec.ofInt k.bits b).toNat
def shlI (k : IntKind) (a b : Int) : Int := k.wrap (a * 2 ^ min b.toNat k.bits)
def shrI (k : IntKind) (a b : Int) : Int := a.fdiv (2 ^ min b.toNat k.bits)
def wrapI (k : IntKind) (a : Int) : Int := k.wrap a
def eqI (a b : Int) : Bool := decide (a = b)
def ltI (a b : Int) : Bool := decide (a < b)
def leI (a b : Int) : Bool := decide (a ≤ b)
def maxI (a b : Int) : Int := if a < b then b else a
def minI (a b : Int) : Int := if b < a then b else a
def toN (a : Int) : Nat := a.toNat
def ofN (n : Nat) : Int := n
def eqB (a b : Bool) : Bool := a == b
def notB (a : Bool) : Bool := !a
def andB (a b : Bool) : Bool := a && b
def eqS (a b : ByteArray) : Bool := a.toList == b.toList
def addS (a b : ByteArray) : ByteArray := a ++ b
def lenS (a : ByteArray) : Nat := a.size
def getS (a : ByteArray) (i : Nat) : Int := (a.get! i).toNat
def subS (a : ByteArray) (i j : Nat) : ByteArray := a.extract i j
def fitS (a b : ByteArray) : Bool := decide (a.size + b.size < 4294967296)
def lenL (t : Ty) (l : List (den t)) : Nat := l.length
def ixL (t : Ty) (l : List (den t)) (i : Int) : den t := l.getD i.toNat (dflt t)
def appL (t : Ty) (a b : List (den t)) : List (den t) := a ++ b
def subL (t : Ty) (l : List (den t)) (i j : Nat) : List (den t) := (l.drop i).take (j - i)
def setL (t : Ty) (l : List (den t)) (i : Int) (z : den t) : List (den t) := l.set i.toNat z
def repL (t : Ty) (n : Nat) (z : den t) : List (den t) := List.replicate n z
def fitL (t : Ty) (l : List (den t)) : Bool := decide (l.length ≤ 1073741824)
def fitN (n : Int) : Bool := decide (0 ≤ n ∧ n ≤ 1073741824)
def getM (t : Ty) (m : den (.mp t)) (i : Int) : List (den t) := m i
def br {R : Type} (b : Bool) (x y : Option R) : Option R := cond b x y
def bnd {A R : Type} (x : Option A) (K : A → Option R) : Option R := x.bind K
open Classical in
noncomputable def both {R : Type} (x y : Option R) : Option R := if x = y then x else none
-- WORDS END
def yieldL {t : Ty} (x : den t) (kt kf : Option (List (den t))) : Option (List (den t)) := match kf with
  | some [] => (match kt with
    | some l => some (x :: l)
    | none => none)
  | _ => none
open Classical in
noncomputable def yieldW {R : Type} (d : Dyn) (kt kf : Option R) : Option R :=
  if h : R = List (den d.t) then cast (congrArg Option h.symm) (yieldL d.x (cast (congrArg Option h) kt) (cast (congrArg Option h) kf)) else none
theorem yieldW_eq (t : Ty) (x : den t) (kt kf : Option (List (den t))) : yieldW ⟨t, x⟩ kt kf = yieldL x kt kf := by
  unfold yieldW
  rw [dif_pos rfl]
  rfl
-- YIELD END
inductive TD where
  | other | int (k : IntKind) | str | bool | slice (e : Nat) | struct (fs : List (Nat × Nat)) | array (n e : Nat) | pointer | map (k e : Nat)
  deriving DecidableEq, Inhabited
structure TI where
  d : TD
  eqs : Bool
  siz : Nat
  byt : Nat
  zer : Dyn
  ty : Ty
instance : Inhabited TI := ⟨⟨.other, false, 0, 0, nope, .dead⟩⟩
def TI.st (i : TI) : Bool := match i.d with
  | .struct _ => true
  | _ => false
abbrev Tabs := List (Nat × TI)
def look {α : Type} : List (Nat × α) → Nat → Option α
  | [], _ => none
  | (k, a) :: l, t => if k = t then some a else look l t
section
variable (P : Program)
def coe0 : Ty → (t : Ty) → den t → Dyn
  | .list t, .nil _, _ => if t.elt then ⟨.list t, []⟩ else nope
  | .pair a b, .pair c d, x => let p := coe0 a c x.1; let q := coe0 b d x.2; ⟨.pair p.t q.t, (p.x, q.x)⟩
  | .tcons a b, .tcons c d, x => let p := coe0 a c x.1; let q := coe0 b d x.2; ⟨.tcons p.t q.t, (p.x, q.x)⟩
  | _, t, x => ⟨t, x⟩
end
abbrev AbsFn := (f : Nat) → List Dyn → List AObj → (rt : Ty) → (ots : List OTy) → Option (denR rt ots)
structure Hint where
  rt : Ty
  ots : List OTy
  pars : List (Option Ty)
structure Told where
  tb : Tabs
  hint : Nat → List Ty → Option Hint
  keep : Nat → Nat → List Nat
  trunc : Nat → Bool
  again : Nat → Nat → Bool
  meet : Nat → List Nat → Bool
  it : Nat → Option Ty
  who : Nat → Option Nat → Nat → Option Hint
def Told.site (T : Told) (fn : Nat) (d : Option Nat) : Told := ⟨T.tb, fun g ts => match T.who fn d g with
  | some h => some h
  | none => T.hint g ts, T.keep, T.trunc, T.again, T.meet, T.it, T.who⟩
abbrev Out := Option (Bool × Dyn × St)
def put1 (d : Dyn) (s : St) : Out := if d.t.alive then some (true, d, s) else none
def TI.fits (i : TI) (t : Ty) : Bool := match i.d with
  | .struct _ => t.chain && t.width == i.siz
  | .array _ _ => (match t with | .arr _ _ => true | _ => false) && t.width == i.siz
  | _ => match t.vk with
    | .one => true
    | _ => false
def put2 (i : TI) (d : Dyn) (s : St) : Out := if i.fits d.t && decide (0 < i.siz) then some (true, d, s) else none
def intBin (op : BinOp) (k : IntKind) (a b : Int) : Option (Bool × Dyn) :=
  match op with
  | .add => some (true, ⟨.int k, addI k a b⟩)
  | .sub => some (true, ⟨.int k, subI k a b⟩)
  | .mul => some (true, ⟨.int k, mulI k a b⟩)
  | .quo => some (notB (eqI b 0), ⟨.int k, quoI k a b⟩)
  | .rem => some (notB (eqI b 0), ⟨.int k, remI a b⟩)
  | .and => some (true, ⟨.int k, andI k a b⟩)
  | .or => some (true, ⟨.int k, orI k a b⟩)
  | .xor => some (true, ⟨.int k, xorI k a b⟩)
  | .andNot => some (true, ⟨.int k, andNotI k a b⟩)
  | .eql => some (true, ⟨.bool, eqI a b⟩)
  | .neq => some (true, ⟨.bool, notB (eqI a b)⟩)
  | .lss => some (true, ⟨.bool, ltI a b⟩)
  | .leq => some (true, ⟨.bool, leI a b⟩)
  | .gtr => some (true, ⟨.bool, ltI b a⟩)
  | .geq => some (true, ⟨.bool, leI b a⟩)
  | _ => none
def shiftBin (op : BinOp) (k : IntKind) (a b : Int) : Option (Bool × Dyn) :=
  match op with
  | .shl => some (leI 0 b, ⟨.int k, shlI k a b⟩)
  | .shr => some (leI 0 b, ⟨.int k, shrI k a b⟩)
  | _ => none
def strBin (op : BinOp) (a b : ByteArray) : Option (Bool × Dyn) :=
  match op with
  | .eql => some (true, ⟨.bool, eqS a b⟩)
  | .neq => some (true, ⟨.bool, notB (eqS a b)⟩)
  | .add => some (fitS a b, ⟨.str, addS a b⟩)
  | _ => none
def eqD : (t : Ty) → den t → Dyn → Option Bool
  | .bool, a, ⟨.bool, b⟩ => some (eqB a b)
  | .int k, a, ⟨.int j, b⟩ => if k = j then some (eqI a b) else none
  | .str, a, ⟨.str, b⟩ => some (eqS a b)
  | _, _, _ => none
def TD.scalar (d : TD) (t : Ty) : Bool := match d, t with
  | .bool, .bool => true
  | .int k, .int j => decide (k = j)
  | .str, .str => true
  | _, _ => false
def eqC (tb : Tabs) : List (Nat × Nat) → Nat → (t : Ty) → den t → Dyn → Option Bool
  | [], n, .unit, _, ⟨.unit, _⟩ => some true
  | (off, f) :: fs, n, .pair a b, x, ⟨.pair c d, y⟩ => match look tb f with
    | some ti => if off = n ∧ ti.d.scalar a then (match eqD a x.1 ⟨c, y.1⟩ with
      | some p => match eqC tb fs (n + 1) b x.2 ⟨d, y.2⟩ with
        | some q => some (andB p q)
        | none => none
      | none => none) else none
    | none => none
  | _, _, _, _, _ => none
def eqAny (tb : Tabs) (xt : Nat) (x y : Dyn) : Option Bool := match look tb xt with
  | some ⟨.struct fs, true, _, _, _, _⟩ => eqC tb fs 0 x.t x.x y
  | some ⟨.bool, _, _, _, _, _⟩ => match x, y with
    | ⟨.bool, a⟩, ⟨.bool, b⟩ => some (eqB a b)
    | _, _ => none
  | some ⟨.pointer, _, _, _, _, _⟩ => match x, y with
    | ⟨.nilptr, _⟩, ⟨.nilptr, _⟩ => some true
    | ⟨.nilptr, _⟩, ⟨.ptr _ _, _⟩ => some false
    | ⟨.ptr _ _, _⟩, ⟨.nilptr, _⟩ => some false
    | _, _ => none
  | _ => none
def binD (tb : Tabs) (op : BinOp) (xt : Nat) (x y : Dyn) : Option (Bool × Dyn) :=
  match x, y with
  | ⟨.int k, a⟩, ⟨.int j, b⟩ =>
    match op with
    | .shl => shiftBin .shl k a b
    | .shr => shiftBin .shr k a b
    | op => if k = j then intBin op k a b else none
  | ⟨.str, a⟩, ⟨.str, b⟩ => strBin op a b
  | x, y =>
    match op with
    | .eql => match eqAny tb xt x y with
      | some b => some (true, ⟨.bool, b⟩)
      | none => none
    | .neq => match eqAny tb xt x y with
      | some b => some (true, ⟨.bool, notB b⟩)
      | none => none
    | _ => none
def unD (op : UnOp) (x : Dyn) : Option Dyn :=
  match op, x with
  | .neg, ⟨.int k, n⟩ => some ⟨.int k, subI k 0 n⟩
  | .not, ⟨.bool, b⟩ => some ⟨.bool, notB b⟩
  | _, _ => none
def rowOf (s : St) (t : Ty) (i : Nat) : Option (List (den t)) := match s.obj i with
  | ⟨.row _ u _, l⟩ => (⟨.list u, l⟩ : Dyn).as (.list t)
  | _ => none
def thawR (s : St) (l : List Nat) : Tr where
  own t i := if l.contains i then (match rowOf s t i with | some xs => ⟨.list t, xs⟩ | none => nope) else ⟨.own t i, ()⟩
  rptr t i o x := if l.contains i then (match rowOf s t i with | some xs => ⟨.eptr t o, ixL t xs x⟩ | none => nope) else ⟨.rptr t i o, x⟩
  ptr i o := ⟨.ptr i o, ()⟩
  aptr t m i b o x := ⟨.aptr t m i b o, x⟩
def goneL : List Nat → List AObj → List AObj
  | [], h => h
  | i :: l, h => goneL l (h.set i gone)
def St.freeze (s : St) (l : List Nat) : St :=
  match l with
  | [] => s
  | l => let s' := (thawR s l).st s; ⟨s'.tmps, goneL l s'.heap⟩
def addN (i : Nat) (l : List Nat) : List Nat := if l.contains i then l else l ++ [i]
def idsT : Ty → List Nat → List Nat
  | .own _ i, l => addN i l
  | .ptr i _, l => addN i l
  | .rptr _ i _, l => addN i l
  | .aptr _ _ i _ _, l => addN i l
  | .fn _ c, l => idsT c l
  | .eptr t _, l => idsT t l
  | .list t, l => idsT t l
  | .arr _ t, l => idsT t l
  | .pair a b, l => idsT b (idsT a l)
  | .tcons a b, l => idsT b (idsT a l)
  | _, l => l
def idsO : AObj → List Nat → List Nat
  | ⟨.box t, _⟩, l => idsT t l
  | _, l => l
def posN (i : Nat) : List Nat → Nat
  | [] => 0
  | j :: l => if i = j then 0 else posN i l + 1
def coe (s : St) : Ty → (t : Ty) → den t → Dyn
  | .list t, .nil _, _ => if t.elt then ⟨.list t, []⟩ else nope
  | .list t, .own u i, _ => match rowOf s t i with
    | some l => ⟨.list t, l⟩
    | none => nope
  | .pair a b, .pair c d, x => let p := coe s a c x.1; let q := coe s b d x.2; ⟨.pair p.t q.t, (p.x, q.x)⟩
  | .tcons a b, .tcons c d, x => let p := coe s a c x.1; let q := coe s b d x.2; ⟨.tcons p.t q.t, (p.x, q.x)⟩
  | _, t, x => ⟨t, x⟩
def coeIds : Ty → Ty → List Nat → List Nat
  | .list _, .own _ i, l => addN i l
  | .pair a b, .pair c d, l => coeIds b d (coeIds a c l)
  | .tcons a b, .tcons c d, l => coeIds b d (coeIds a c l)
  | _, _, l => l
def boxIds : List OTy → List AObj → List Nat → List Nat
  | .box t :: ts, ⟨.box u, _⟩ :: os, l => boxIds ts os (coeIds t u l)
  | _ :: ts, _ :: os, l => boxIds ts os l
  | _, _, l => l
def ptrIds (ots : List OTy) (h : List AObj) : Ty → Ty → List Nat → List Nat
  | .ptr k _, .ptr i _, l => match ots[k]?, h.getD i gone with
    | some (.box t), ⟨.box u, _⟩ => coeIds t u l
    | _, _ => l
  | .pair a b, .pair c d, l => ptrIds ots h b d (ptrIds ots h a c l)
  | .tcons a b, .tcons c d, l => ptrIds ots h b d (ptrIds ots h a c l)
  | _, _, l => l
def ownsT : Ty → List Nat → List Nat
  | .own _ i, l => addN i l
  | .rptr _ i _, l => addN i l
  | .fn _ c, l => ownsT c l
  | .pair a b, l => ownsT b (ownsT a l)
  | .tcons a b, l => ownsT b (ownsT a l)
  | _, l => l
def coeF (s : St) (t : Ty) (d : Dyn) : Option (den t × St) :=
  match (coe s t d.t d.x).as t with
  | some x => if t.elt then some (x, s.freeze (ownsT d.t [])) else none
  | none => none
def ownNils : (t : Ty) → den t → Tabs → List AObj → Dyn × List AObj
  | .nil e, _, tb, h => match look tb e with
    | some i => if i.ty.elt then (⟨.own i.ty h.length, ()⟩, h ++ [⟨.row e i.ty false, []⟩]) else (⟨.nil e, ()⟩, h)
    | none => (⟨.nil e, ()⟩, h)
  | .pair a b, x, tb, h =>
    let p := ownNils a x.1 tb h
    let q := ownNils b x.2 tb p.2
    (⟨.pair p.1.t q.1.t, (p.1.x, q.1.x)⟩, q.2)
  | t, x, _, h => (⟨t, x⟩, h)
def ownAs : Ty → (t : Ty) → den t → Tabs → List AObj → Dyn × List AObj
  | .own _ _, .nil e, _, tb, h => match look tb e with
    | some i => if i.ty.elt then (⟨.own i.ty h.length, ()⟩, h ++ [⟨.row e i.ty false, []⟩]) else (⟨.nil e, ()⟩, h)
    | none => (⟨.nil e, ()⟩, h)
  | .pair c d, .pair a b, x, tb, h =>
    let p := ownAs c a x.1 tb h
    let q := ownAs d b x.2 tb p.2
    (⟨.pair p.1.t q.1.t, (p.1.x, q.1.x)⟩, q.2)
  | _, t, x, _, h => (⟨t, x⟩, h)
def ownRs : Ty → List Dyn → Tabs → List AObj → List Dyn × List AObj
  | .tcons c r, d :: l, tb, h =>
    let p := ownAs c d.t d.x tb h
    let q := ownRs r l tb p.2
    (p.1 :: q.1, q.2)
  | _, l, _, h => (l, h)
def ownOne (rt : Ty) (l : List Dyn) (tb : Tabs) (h : List AObj) : List Dyn × List AObj := match l with
  | [d] => let p := ownAs rt d.t d.x tb h
    ([p.1], p.2)
  | l => ownRs rt l tb h
section
variable (T : Told)
def layParts (fs : List (Nat × Nat)) (s : St) : List (Nat × Operand) → Dyn → Dyn
  | [], d => d
  | (i, x) :: l, d => match fs[i]? with
    | some (off, u) => match look T.tb u with
      | some ti => if decide ((s.get x).t.width = ti.siz) && (s.get x).t.alive && (s.get x).t.cel && (d.setPart off (s.get x)).t.chain && decide ((d.setPart off (s.get x)).t.width = d.t.width) then layParts fs s l (d.setPart off (s.get x)) else nope
      | none => nope
    | none => nope
def litParts (e : Ty) (s : St) : Nat → List (Nat × Operand) → Option (List (den e) × St)
  | _, [] => some ([], s)
  | n, (i, x) :: l => if i = n ∧ (s.get x).t.alive ∧ (s.get x).t.cel ∧ (s.get x).t.width = e.width then
      (match coeF s e (s.get x) with
      | some (v, s') => match litParts e s' (n + 1) l with
        | some (r, s2) => some (v :: r, s2)
        | none => none
      | none => none)
    else none
def arrParts (e : Ty) (s : St) : Nat → List (Nat × Operand) → Option (List (den e))
  | _, [] => some []
  | n, (i, x) :: l => if i = n ∧ (s.get x).t.alive ∧ (s.get x).t.cel ∧ (s.get x).t.width = e.width then
      (match (coe0 e (s.get x).t (s.get x).x).as e with
      | some v => match arrParts e s (n + 1) l with
        | some r => some (v :: r)
        | none => none
      | none => none)
    else none
def readL (s : St) (e : Ty) (d : Dyn) : Option (List (den e)) := (coe s (.list e) d.t d.x).as (.list e)
def lenD (s : St) (d : Dyn) : Option Nat := match d with
  | ⟨.nil _, _⟩ => some 0
  | ⟨.list t, l⟩ => some (lenL t l)
  | ⟨.own t i, _⟩ => match rowOf s t i with
    | some l => some (lenL t l)
    | none => none
  | ⟨.str, b⟩ => some (lenS b)
  | _ => none
def minD (mx : Bool) : List Dyn → Option Dyn
  | [⟨.int k, a⟩, ⟨.int j, b⟩] => if k = j then some ⟨.int k, if mx then maxI a b else minI a b⟩ else none
  | _ => none
def rowT (t : Nat) : Option (Nat × TI) := match look T.tb t with
  | some ⟨.slice e, _, _, _, _, _⟩ => match look T.tb e with
    | some i => if 0 < i.siz ∧ i.ty.width = i.siz ∧ i.byt ≤ 131072 ∧ i.ty.elt ∧ i.zer.t.alive ∧ i.zer.t.cel ∧ i.siz ≤ 16384 then some (e, i) else none
    | none => none
  | _ => none
def builtinP (b : Builtin) (args : List Dyn) (argTypes : List TypeId) (s : St) : Out :=
  match b, args, argTypes with
  | .len, [d], t :: _ => match lenD s d with
    | some n => match look T.tb t with
      | some ⟨.slice _, _, _, _, _, _⟩ => if d.t = .str then none else some (true, ⟨.int .i64, ofN n⟩, s)
      | some ⟨.str, _, _, _, _, _⟩ => if d.t = .str then some (true, ⟨.int .i64, ofN n⟩, s) else none
      | _ => none
    | none => none
  | .min, l, _ => match minD false l with
    | some d => some (true, d, s)
    | none => none
  | .max, l, _ => match minD true l with
    | some d => some (true, d, s)
    | none => none
  | .append, [d, y], [t, u] => if t = u then (match rowT T t with
    | none => none
    | some (e, i) => match readL s i.ty y with
      | none => none
      | some ys => match d with
        | ⟨.nil _, _⟩ => some (fitL i.ty ys, ⟨.own i.ty s.heap.length, ()⟩, s.new ⟨.row e i.ty false, ys⟩)
        | ⟨.own _ j, _⟩ => match s.obj j with
          | ⟨.row e' u' f, xs⟩ => if e' = e then (match (⟨.list u', xs⟩ : Dyn).as (.list i.ty) with
            | some xs => some (fitL i.ty (appL i.ty xs ys), ⟨.own i.ty j, ()⟩, ((killR [j]).st s).setObj j ⟨.row e i.ty false, appL i.ty xs ys⟩)
            | none => none) else none
          | _ => none
        | _ => none) else none
  | _, _, _ => none
def bound (d : Option Dyn) (n : Nat) : Option Int := match d with
  | some ⟨.int _, a⟩ => some a
  | some _ => none
  | none => some (ofN n)
def lowB (d : Option Dyn) : Option Int := match d with
  | some ⟨.int _, a⟩ => some a
  | some _ => none
  | none => some 0
def inB (a b n : Int) : Bool := andB (leI 0 a) (andB (leI a b) (leI b n))
def isZero : Option Operand → Bool
  | some (.const (.int _ n)) => n == 0
  | _ => false
def compAt (d : Dyn) (base : Nat) : Dyn := d.part base 0 false
def arrAt (d : Dyn) (base m : Nat) (u : Ty) : Option (List (den u)) := (compAt d base).as (.arr m u)
def opP (fn : Nat) (o : Oper) (s : St) : Out :=
  match o.op with
  | .move x => put1 (s.get x) s
  | .assign x =>
    match s.get x with
    | ⟨.nil _, _⟩ => match rowT T o.type with
      | some (e, i) => some (true, ⟨.own i.ty s.heap.length, ()⟩, s.new ⟨.row e i.ty false, []⟩)
      | none => none
    | v => put1 v s
  | .alloc t => match look T.tb t with
    | some i => if i.zer.t.alive && i.zer.t.cel then
        (let p := ownNils i.zer.t i.zer.x T.tb s.heap
        some (true, ⟨.ptr p.2.length 0, ()⟩, ⟨s.tmps, p.2 ++ [⟨.box p.1.t, p.1.x⟩]⟩)) else none
    | none => none
  | .box _ x => let d := s.get x
    if d.t.alive && d.t.cel then
      (let p := ownNils d.t d.x T.tb s.heap
      some (true, ⟨.ptr p.2.length 0, ()⟩, ⟨s.tmps, p.2 ++ [⟨.box p.1.t, p.1.x⟩]⟩)) else none
  | .build t parts => match look T.tb t with
    | some ⟨.struct fs, _, n, _, z, _⟩ => if z.t.chain && z.t.cel && decide (z.t.width = n) && fs.all (fun g => (look T.tb g.2).isSome) then put1 (layParts T fs s parts.toList z) s else none
    | some ⟨.array m e, _, n, _, z, _⟩ => match look T.tb e with
      | some i => if parts.size = m ∧ i.ty.elt = true ∧ n = m * i.siz ∧ i.ty.width = i.siz ∧ z.t.alive = true then (match arrParts i.ty s 0 parts.toList with
        | some l => put1 ⟨.arr m i.ty, l⟩ s
        | none => none) else none
      | none => none
    | _ => none
  | .buildSlice t n parts => match rowT T t with
    | some (e, i) => match litParts i.ty s 0 parts.toList with
      | some (l, s') => if parts.size = n ∧ n ≤ 1000 then some (true, ⟨.own i.ty s'.heap.length, ()⟩, s'.new ⟨.row e i.ty false, l⟩) else none
      | none => none
    | none => none
  | .load t a => match look T.tb t with
    | none => none
    | some ti => match s.get a with
      | ⟨.ptr i off, _⟩ => match s.obj i with
        | ⟨.box u, x⟩ => put2 ti ((⟨u, x⟩ : Dyn).part off ti.siz ti.st) s
        | _ => none
      | ⟨.eptr u off, x⟩ => put2 ti ((⟨u, x⟩ : Dyn).part off ti.siz ti.st) s
      | ⟨.rptr u i off, n⟩ => match rowOf s u i with
        | some l => put2 ti ((⟨u, ixL u l n⟩ : Dyn).part off ti.siz ti.st) s
        | none => none
      | ⟨.aptr u m i base off, n⟩ => match s.obj i with
        | ⟨.box v, x⟩ => match arrAt ⟨v, x⟩ base m u with
          | some l => put2 ti ((⟨u, ixL u l n⟩ : Dyn).part off ti.siz ti.st) s
          | none => none
        | _ => none
      | _ => none
  | .store t a x => match look T.tb t with
    | none => none
    | some ti => let v := s.get x
      if v.t.alive && v.t.cel && v.t.width == ti.siz then (match s.get a with
      | ⟨.ptr i off, _⟩ => match s.obj i with
        | ⟨.box u, y⟩ =>
          (let z := (⟨u, y⟩ : Dyn).setPart off v
          if z.t.alive && z.t.width == u.width then some (true, nope, s.setObj i ⟨.box z.t, z.x⟩) else none)
        | _ => none
      | ⟨.rptr u i off, n⟩ => match rowOf s u i with
        | some l => if ((⟨u, ixL u l n⟩ : Dyn).setPart off v).t.alive && ((⟨u, ixL u l n⟩ : Dyn).setPart off v).t.width == u.width then
          (match coeF s u ((⟨u, ixL u l n⟩ : Dyn).setPart off v) with
          | some (z, s') => match s'.obj i with
            | ⟨.row e u' f, l'⟩ => match (⟨.list u', l'⟩ : Dyn).as (.list u) with
              | some l' => some (true, nope, s'.setObj i ⟨.row e u f, setL u l' n z⟩)
              | none => none
            | _ => none
          | none => none) else none
        | none => none
      | ⟨.aptr u m i base off, n⟩ => match s.obj i with
        | ⟨.box b, y⟩ => match arrAt ⟨b, y⟩ base m u with
          | some l => if ((⟨u, ixL u l n⟩ : Dyn).setPart off v).t.alive && ((⟨u, ixL u l n⟩ : Dyn).setPart off v).t.width == u.width then
            (match coeF s u ((⟨u, ixL u l n⟩ : Dyn).setPart off v) with
            | some (z, s') => match s'.obj i with
              | ⟨.box b', y'⟩ => match arrAt ⟨b', y'⟩ base m u with
                | some l' =>
                  (let w := (⟨b', y'⟩ : Dyn).setPart base ⟨.arr m u, setL u l' n z⟩
                  if w.t.alive && w.t.width == b'.width then some (true, nope, s'.setObj i ⟨.box w.t, w.x⟩) else none)
                | none => none
              | _ => none
            | none => none) else none
          | none => none
        | _ => none
      | _ => none) else none
  | .nilCheck x => match s.get x with
    | ⟨.ptr i o, _⟩ => some (true, ⟨.ptr i o, ()⟩, s)
    | ⟨.eptr t o, x⟩ => some (true, ⟨.eptr t o, x⟩, s)
    | ⟨.rptr t i o, x⟩ => some (true, ⟨.rptr t i o, x⟩, s)
    | ⟨.aptr t m i b o, x⟩ => some (true, ⟨.aptr t m i b o, x⟩, s)
    | _ => none
  | .binOp op t x y _ => match binD T.tb op t (s.get x) (s.get y) with
    | some (b, d) => some (b, d, s)
    | none => none
  | .unOp op _ x => match unD op (s.get x) with
    | some d => some (true, d, s)
    | none => none
  | .convert src dst x => match look T.tb src, look T.tb dst, s.get x with
    | some ⟨.int _, _, _, _, _, _⟩, some ⟨.int k, _, _, _, _, _⟩, ⟨.int _, n⟩ => some (true, ⟨.int k, wrapI k n⟩, s)
    | _, _, _ => none
  | .fieldAddr t x f => match look T.tb t with
    | some ⟨.struct fs, _, _, _, _, _⟩ => match fs[f]? with
      | some (o, u) => match look T.tb u with
        | some ti => if 0 < ti.siz then (match s.get x with
          | ⟨.ptr i off, _⟩ => some (true, ⟨.ptr i (off + o), ()⟩, s)
          | ⟨.eptr u off, v⟩ => some (true, ⟨.eptr u (off + o), v⟩, s)
          | ⟨.rptr u i off, n⟩ => some (true, ⟨.rptr u i (off + o), n⟩, s)
          | ⟨.aptr u m i b off, n⟩ => some (true, ⟨.aptr u m i b (off + o), n⟩, s)
          | _ => none) else none
        | none => none
      | none => none
    | _ => none
  | .field t x f => match look T.tb t with
    | some ⟨.struct fs, _, _, _, _, _⟩ => match fs[f]? with
      | some (o, u) => match look T.tb u with
        | some ti => if (s.get x).t.chain then put2 ti ((s.get x).part o ti.siz ti.st) s else none
        | none => none
      | none => none
    | _ => none
  | .indexAddr t x i => match s.get i with
    | ⟨.int _, n⟩ => match look T.tb t with
      | some ⟨.slice e, _, _, _, _, _⟩ => match look T.tb e with
        | some ti => match s.get x with
          | ⟨.list u, l⟩ => if u.width = ti.siz ∧ 0 < ti.siz then some (andB (leI 0 n) (ltI n (ofN (lenL u l))), ⟨.eptr u 0, ixL u l n⟩, s) else none
          | ⟨.own u i, _⟩ => match rowOf s u i with
            | some l => if u.width = ti.siz ∧ 0 < ti.siz then some (andB (leI 0 n) (ltI n (ofN (lenL u l))), ⟨.rptr u i 0, n⟩, s) else none
            | none => none
          | _ => none
        | none => none
      | some ⟨.array m e, _, _, _, _, _⟩ => match look T.tb e with
        | some ti => match s.get x with
          | ⟨.ptr i off, _⟩ => match s.obj i with
            | ⟨.box v, y⟩ => match compAt ⟨v, y⟩ off with
              | ⟨.arr m' u, _⟩ => if m' = m ∧ u.width = ti.siz ∧ 0 < ti.siz ∧ 1 < m then some (andB (leI 0 n) (ltI n (ofN m)), ⟨.aptr u m i off 0, n⟩, s) else none
              | _ => none
            | _ => none
          | _ => none
        | none => none
      | _ => none
    | _ => none
  | .index t x i => match s.get i with
    | ⟨.int _, n⟩ => match look T.tb t, s.get x with
      | some ⟨.str, _, _, _, _, _⟩, ⟨.str, b⟩ => some (andB (leI 0 n) (ltI n (ofN (lenS b))), ⟨.int .u8, getS b (toN n)⟩, s)
      | _, _ => none
    | _ => none
  | .lookup t x i ok => match ok, look T.tb t, s.get x, s.get i with
    | false, some ⟨.map k e, _, _, _, _, _⟩, ⟨.mp u, m⟩, ⟨.int .i64, n⟩ => match look T.tb k, look T.tb e with
      | some ⟨.int .i64, _, _, _, _, _⟩, some ⟨.slice _, _, _, _, z, _⟩ => if z.t.isNil then some (true, ⟨.list u, getM u m n⟩, s) else none
      | _, _ => none
    | _, _, _, _ => none
  | .slice t x lo hi none => match lowB (lo.map s.get) with
    | none => none
    | some a => match look T.tb t, s.get x with
      | some ⟨.str, _, _, _, _, _⟩, ⟨.str, b⟩ => match bound (hi.map s.get) (lenS b) with
        | some h => some (inB a h (ofN (lenS b)), ⟨.str, subS b (toN a) (toN h)⟩, s)
        | none => none
      | some ⟨.slice e, _, _, _, _, _⟩, ⟨.list u, l⟩ => match look T.tb e, bound (hi.map s.get) (lenL u l) with
        | some ti, some h => if u.width = ti.siz then some (inB a h (ofN (lenL u l)), ⟨.list u, subL u l (toN a) (toN h)⟩, s) else none
        | _, _ => none
      | some ⟨.slice e, _, _, _, _, _⟩, ⟨.nil e', _⟩ => match bound (hi.map s.get) 0, look T.tb e with
        | some h, some _ => some (inB a h (ofN 0), ⟨.nil e', ()⟩, s)
        | _, _ => none
      | some ⟨.slice e, _, _, _, _, _⟩, ⟨.own u i, _⟩ => match rowOf s u i, look T.tb e with
        | some l, some ti => if u.width = ti.siz then (match bound (hi.map s.get) (lenL u l) with
          | some h => if T.trunc fn then (match lo with
              | none => match s.obj i with
                | ⟨.row e' u' _, _⟩ => if u' = u then some (inB a h (ofN (lenL u l)), ⟨.own u i, ()⟩, ((killR [i]).st s).setObj i ⟨.row e' u false, subL u l 0 (toN h)⟩) else none
                | _ => none
              | _ => none)
            else some (inB a h (ofN (lenL u l)), ⟨.list u, subL u l (toN a) (toN h)⟩, s.freeze [i])
          | none => none) else none
        | _, _ => none
      | _, _ => none
  | .slice t x lo hi (some mx) => if lo.isNone && isZero hi && isZero (some mx) then (match rowT T t, s.get x with
    | some (e, i), ⟨.list _, _⟩ => some (true, ⟨.own i.ty s.heap.length, ()⟩, s.new ⟨.row e i.ty false, []⟩)
    | some (e, i), ⟨.nil _, _⟩ => some (true, ⟨.own i.ty s.heap.length, ()⟩, s.new ⟨.row e i.ty false, []⟩)
    | some (e, i), ⟨.own u j, _⟩ => match rowOf s u j with
      | some _ => some (true, ⟨.own i.ty s.heap.length, ()⟩, s.new ⟨.row e i.ty false, []⟩)
      | none => none
    | _, _ => none) else none
  | .makeSlice t l c => match rowT T t, s.get l, s.get c with
    | some (e, i), ⟨.int _, n⟩, ⟨.int _, m⟩ => match (coe0 i.ty i.zer.t i.zer.x).as i.ty with
      | some z => some (andB (fitN n) (eqI m n), ⟨.own i.ty s.heap.length, ()⟩, s.new ⟨.row e i.ty false, repL i.ty (toN n) z⟩)
      | none => none
    | _, _, _ => none
  | .makeFunc (.func f) first cap =>
    if first.size = 0 then
      let c := (cap.toList.map s.get).foldr (fun d r => (⟨.tcons d.t r.t, (d.x, r.x)⟩ : Dyn)) ⟨.tnil, ()⟩
      if (cap.toList.map s.get).all (fun d => d.t.alive && d.t.cel) then some (true, ⟨.fn f c.t, c.x⟩, s) else none
    else none
  | .extract x i => match s.get x with
    | ⟨.tcons a b, v⟩ => match i with
      | 0 => put1 ⟨a, v.1⟩ s
      | 1 => match b, v.2 with
        | .tcons c _, z => put1 ⟨c, z.1⟩ s
        | _, _ => none
      | 2 => match b, v.2 with
        | .tcons _ (.tcons c _), z => put1 ⟨c, z.2.1⟩ s
        | _, _ => none
      | 3 => match b, v.2 with
        | .tcons _ (.tcons _ (.tcons c _)), z => put1 ⟨c, z.2.2.1⟩ s
        | _, _ => none
      | _ => none
    | _ => none
  | .call c => match c.callee with
    | .builtin b => builtinP T b (c.args.toList.map s.get) c.argTypes.toList s
    | _ => none
  | _ => none
def handArgs (s : St) : List (Option Ty) → List Dyn → Option (List Dyn)
  | some t :: ps, d :: ds => match handArgs s ps ds with
    | some r => match (coe s t d.t d.x).as t with
      | some x => if t.pure then some (⟨t, x⟩ :: r) else none
      | none => none
    | none => none
  | none :: ps, d :: ds => match handArgs s ps ds with
    | some r => if d.t.alive then some (d :: r) else none
    | none => none
  | [], ds => if ds.all (·.t.alive) then some ds else none
  | _, _ => none
def rawIds : List (Option Ty) → List Dyn → List Nat → List Nat
  | some _ :: ps, _ :: ds, l => rawIds ps ds l
  | none :: ps, d :: ds, l => rawIds ps ds (idsT d.t l)
  | [], d :: ds, l => rawIds [] ds (idsT d.t l)
  | _, [], l => l
def readIds : List (Option Ty) → List Dyn → List Nat → List Nat
  | some _ :: ps, d :: ds, l => readIds ps ds (ownsT d.t l)
  | none :: ps, _ :: ds, l => readIds ps ds l
  | _, _, l => l
def reach (h : List AObj) : Nat → List Nat → List Nat
  | 0, l => l
  | n + 1, l => reach h n (l.foldl (fun l i => idsO (h.getD i gone) l) l)
def subN (l m : List Nat) : Bool := l.all fun i => m.contains i
def noneIn (l m : List Nat) : Bool := l.all fun i => !m.contains i
def closed (h : List AObj) (ids : List Nat) : Bool :=
  ids.all fun i => decide (i < h.length) && subN (idsO (h.getD i gone) []) ids
def distinct : List Nat → Bool
  | [] => true
  | i :: l => !l.contains i && distinct l
def OTy.handed : OTy → OTy
  | .row e t _ => .row e t true
  | t => t
def AObj.handed : AObj → AObj
  | ⟨.row e t _, x⟩ => ⟨.row e t true, x⟩
  | o => o
def AObj.back (was o : AObj) : AObj := match was, o with
  | ⟨.row _ _ f, _⟩, ⟨.row e t g, x⟩ => ⟨.row e t (f && g), x⟩
  | _, ⟨.row e t _, x⟩ => ⟨.row e t false, x⟩
  | ⟨.box _, _⟩, o => o
  | _, _ => gone
def layBack : List Nat → List AObj → List AObj → List AObj
  | i :: ids, o :: os, h => layBack ids os (h.set i ((h.getD i gone).back o))
  | _, os, h => h ++ os
def Ty.bears : Ty → Bool
  | .list _ => true
  | .mp _ => true
  | .eptr _ _ => true
  | .arr _ t => t.bears
  | .fn _ c => c.bears
  | .pair a b => a.bears || b.bears
  | .tcons a b => a.bears || b.bears
  | _ => false
def OTy.bears : OTy → Bool
  | .row _ t _ => t.bears
  | .box t => t.bears
  | .gone => false
  | .held => false
def turned : List Nat → List OTy → List Nat
  | i :: ids, .row _ _ true :: os => turned ids os
  | i :: ids, .box _ :: os => turned ids os
  | i :: ids, _ :: os => i :: turned ids os
  | _, _ => []
def isStore : Op → Bool
  | .store _ _ _ => true
  | _ => false
variable {R : Type}
section
variable (T : Told) (C : AbsFn)
def keptBoxes (h : List AObj) : List Nat → List OTy → Bool
  | i :: ids, t :: ts => (match (h.getD i gone).t, t with
      | .box _, .box _ => true
      | .box _, _ => false
      | _, _ => true) && keptBoxes h ids ts
  | _, _ => true
def asWas : List OTy → List OTy → List OTy
  | [], _ => []
  | .held :: ts, a :: as => a :: asWas ts as
  | .held :: ts, [] => asWas ts []
  | t :: ts, _ :: as => t :: asWas ts as
  | t :: ts, [] => t :: asWas ts []
def plainCall (s : St) (f : Nat) (args : List Dyn) : Bool := match T.hint f (args.map (·.t)) with
  | none => false
  | some h => (reach s.heap 3 (rawIds h.pars args [])).isEmpty
def callD (f : Nat) (args : List Dyn) (s : St) (K : Dyn → St → Option R) : Option R :=
  match T.hint f (args.map (·.t)) with
  | none => none
  | some h => match handArgs s h.pars args with
    | none => none
    | some as =>
      let ids := reach s.heap 3 (rawIds h.pars args [])
      let red := readIds h.pars args []
      let os0 := ids.map fun i => ((renR (posN · ids)).obj (s.heap.getD i gone)).handed
      let ots := asWas h.ots (os0.map (·.t))
      if noneIn red ids && closed s.heap ids && distinct ids && decide (ids.length ≤ ots.length) && as.all (fun d => subN (idsT d.t []) ids) && keptBoxes s.heap ids ots && !isIt os0 then
        let r0 := renR (posN · ids)
        bnd (C f (as.map r0.dyn) os0 h.rt ots) fun r =>
          let n := s.heap.length
          let back : Tr := renR fun i => if i < ids.length then ids.getD i 0 else n + (i - ids.length)
          let os := (resO h.rt ots r).map back.obj
          let v : Dyn := back.dyn ⟨h.rt, resT h.rt ots r⟩
          let s0 := if h.rt.bears || ots.any OTy.bears then s.freeze red else s
          let s1 := (killR (turned ids ots)).st s0
          K v ⟨s1.tmps, layBack ids os s1.heap⟩
      else none
def capD : (t : Ty) → den t → Option (List Dyn)
  | .tnil, _ => some []
  | .tcons a b, x => match capD b x.2 with
    | some l => some (⟨a, x.1⟩ :: l)
    | none => none
  | _, _ => none
def tupD : List Dyn → Dyn
  | [] => ⟨.tnil, ()⟩
  | d :: l => let r := tupD l; ⟨.tcons d.t r.t, (d.x, r.x)⟩
def nilD (s : St) (o : Oper) : Option (Bool × Bool) := match o.op with
  | .binOp .eql t x (.const (.slice none 0 0)) _ => (match look T.tb t with
    | some ⟨.slice _, _, _, _, _, _⟩ => if (s.get x).t = .str then none else (match lenD s (s.get x) with
      | some n => some (true, eqI (ofN n) 0)
      | none => none)
    | _ => none)
  | .binOp .neq t x (.const (.slice none 0 0)) _ => (match look T.tb t with
    | some ⟨.slice _, _, _, _, _, _⟩ => if (s.get x).t = .str then none else (match lenD s (s.get x) with
      | some n => some (false, eqI (ofN n) 0)
      | none => none)
    | _ => none)
  | _ => none
noncomputable def opD (fn : Nat) (o : Oper) (s : St) (K : Dyn → St → Option R) : Option R :=
  match o.op with
  | .pick c a b => match s.get c with
    | ⟨.bool, p⟩ => br p (if (s.get a).t.alive then K (s.get a) s else none) (if (s.get b).t.alive then K (s.get b) s else none)
    | _ => none
  | .call ⟨.value f, args, _⟩ => match s.get f with
      | ⟨.fn n cap, x⟩ => match capD cap x with
        | some ds => callD (T.site fn o.dst) C n (args.toList.map s.get ++ ds) s K
        | none => none
      | _ => none
  | _ => match nilD T s o with
    | some (e, z) => br z (both (K ⟨.bool, true⟩ s) (K ⟨.bool, false⟩ s)) (K ⟨.bool, !e⟩ s)
    | none => match opP T fn o s with
      | some (b, d, s') => br b (K d s') none
      | none => none
def dstOk (nt : Nat) : Option Tmp → Bool
  | some t => decide (t < nt)
  | none => true
def undefD : Dyn := ⟨.tnil, ()⟩
noncomputable def stepD (fn nt : Nat) (all : Array Oper) (i : Nat) (s : St) (K : St → Option R) : Option R :=
  match all[i]? with
  | none => none
  | some o => if !dstOk nt o.dst then none else match o.guard with
    | none => opD T C fn o s fun v s' => K (s'.put o.dst v)
    | some (j, want) => match (all[j]?).bind (·.dst) with
      | none => none
      | some t => match getT s.tmps t with
        | ⟨.bool, b⟩ =>
          br b (match want with
            | true => opD T C fn o ⟨putT s.tmps t ⟨.bool, true⟩, s.heap⟩ fun v s' => K (s'.put o.dst v)
            | false => K ((⟨putT s.tmps t ⟨.bool, true⟩, s.heap⟩ : St).put o.dst undefD))
          (match want with
            | false => opD T C fn o ⟨putT s.tmps t ⟨.bool, false⟩, s.heap⟩ fun v s' => K (s'.put o.dst v)
            | true => K ((⟨putT s.tmps t ⟨.bool, false⟩, s.heap⟩ : St).put o.dst undefD))
        | ⟨.tnil, _⟩ => K (s.put o.dst undefD)
        | _ => none
abbrev here (K : St → Option R) (s : St) : Option R := K s
def yieldOf (el : Ty) (s : St) (all : Array Oper) (i : Nat) : Option (Dyn × Option Tmp) := match all[i]? with
  | none => none
  | some o => match o.op, o.guard with
    | .call ⟨.value f, args, _⟩, none => match s.get f, s.obj 0 with
      | ⟨.own .dead 0, _⟩, ⟨.held, _⟩ => if (tupD (args.toList.map s.get)).t = el ∧ el.pure = true then some (tupD (args.toList.map s.get), o.dst) else none
      | _, _ => none
    | _, _ => none
noncomputable def opsD (fn nt : Nat) (all : Array Oper) : List Nat → St → (St → Option R) → Option R
  | [], s, K => K s
  | i :: l, s, K => match (match T.it fn with
      | some el => yieldOf el s all i
      | none => none) with
    | some (d, dst) => if dstOk nt dst then yieldW d (here (fun s => opsD fn nt all l s K) (s.put dst ⟨.bool, true⟩)) (here (fun s => opsD fn nt all l s K) (s.put dst ⟨.bool, false⟩)) else none
    | none => stepD T C fn nt all i s fun s' => here (fun s => opsD fn nt all l s K) s'
noncomputable def boths : List (Option R) → Option R
  | [] => none
  | [x] => x
  | x :: l => both x (boths l)
def worldless : Op → Bool
  | .move _ | .binOp _ _ _ _ _ | .unOp _ _ _ | .convert _ _ _ | .fieldAddr _ _ _ | .field _ _ _ | .indexAddr _ _ _ | .extract _ _ | .index _ _ _ | .nilCheck _ | .build _ _ => true
  | .makeFunc (.func _) _ _ => true
  | .call ⟨.builtin .len, _, _⟩ => true
  | _ => false
def still : Ty → Bool
  | .rptr _ _ _ => false
  | _ => true
def growOp (fn : Nat) (s : St) (o : Oper) : Bool := match o.op with
  | .store _ _ _ => false
  | .call ⟨.value f, args, _⟩ => (match s.get f with
      | ⟨.fn n cap, x⟩ => (match capD cap x with
        | some ds => plainCall (T.site fn o.dst) s n (args.toList.map s.get ++ ds)
        | none => false)
      | _ => false)
  | _ => true
def bef (ops : Array Oper) (listed : Array Bool) (i : Nat) : List Nat :=
  (List.range ops.size).foldl (fun B j => if j != i && !listed.getD j true && (match ops[j]? with
    | some oj => oj.after.all fun e => !Region.binds .any e || listed.getD e.on false || B.contains e.on
    | none => false) then j :: B else B) []
def befOK (ops : Array Oper) (listed : Array Bool) (i : Nat) (B : List Nat) : Bool :=
  (List.range ops.size).all fun j => j == i || listed.getD j true || B.contains j || match ops[j]? with
    | some oj => oj.after.any fun e => Region.binds .any e && !(listed.getD e.on false || B.contains e.on)
    | none => true
def calm (ops : Array Oper) (oi : Oper) (j : Nat) : Bool := match ops[j]? with
  | some oj => oi.apart ops oj && (match oj.op with | .select _ _ => false | _ => true)
  | none => true
def noStore (s : St) (ops : Array Oper) (j : Nat) : Bool := match ops[j]? with
  | some oj => !isStore oj.op && (match oj.op with
    | .call ⟨.value f, args, _⟩ => (match s.get f with
      | ⟨.fn _ cap, _⟩ => (idsT cap []).isEmpty
      | _ => false)
    | _ => true)
  | none => true
def quietL (s : St) : Op → Bool
  | .load _ x => still (s.get x).t
  | .lookup _ _ _ _ => true
  | _ => false
def noNil : Ty → Bool
  | .nil _ => false
  | _ => true
def isPart : Ty → Bool
  | .list _ => true
  | .str => true
  | _ => false
def quiet0 (s : St) : Op → Bool
  | .assign x => noNil (s.get x).t
  | .slice _ x _ _ none => isPart (s.get x).t
  | op => worldless op
def takeQ (ops : Array Oper) (listed : Array Bool) (s : St) (i : Nat) : Option (List Nat) := match ops[i]? with
  | none => none
  | some o => if quiet0 s o.op || quietL s o.op then
      let B := bef ops listed i
      if befOK ops listed i B && B.all (calm ops o) then
        if quiet0 s o.op then some [] else if B.all (noStore s ops) then some B else none
      else none
    else none
def pickQ (ops : Array Oper) (listed : Array Bool) (s : St) : List Nat → Option (Nat × List Nat)
  | [] => none
  | i :: l => match takeQ ops listed s i with
    | some B => some (i, B)
    | none => pickQ ops listed s l
noncomputable def anyD (fn nt : Nat) (all : Array Oper) : Nat → Array Bool → List Nat → St → (St → Option R) → Option R
  | 0, listed, _, s, K => match Region.ready .any all listed with
    | [] => K s
    | _ => none
  | n + 1, listed, need, s, K => match Region.ready .any all listed with
    | [] => K s
    | rs => match pickQ all listed s rs with
      | some (i, B) => stepD T C fn nt all i s fun s' => here (fun s => anyD fn nt all n (listed.setIfInBounds i true) (B ++ need) s K) s'
      | none => boths (rs.map fun i => match all[i]? with
        | some o => if need.contains i && !growOp T fn s o then none else stepD T C fn nt all i s fun s' => here (fun s => anyD fn nt all n (listed.setIfInBounds i true) need s K) s'
        | none => none)
inductive Ex where
  | normal | exit (id : Nat) | ret
def St.norm (s : St) (m : Nat) : Option St :=
  let ids := reach s.heap 3 (s.tmps.foldl (fun l p => idsT p.2.t l) (List.range m))
  if closed s.heap ids && distinct ids && s.tmps.all (fun p => subN (idsT p.2.t []) ids) && decide (ids.take m = List.range m) then
    let r := renR (posN · ids)
    some ⟨s.tmps.map fun p => (p.1, r.dyn p.2), ids.map fun i => r.obj (s.heap.getD i gone)⟩
  else none
def layIds : Ty → Ty → List Nat → List Nat
  | .own _ k, .own _ j, l => l.set k j
  | .pair a b, .pair c d, l => layIds b d (layIds a c l)
  | .tcons a b, .tcons c d, l => layIds b d (layIds a c l)
  | _, _, l => l
def freeO : AObj → Bool
  | ⟨.row _ _ false, _⟩ => true
  | ⟨.gone, _⟩ => true
  | _ => false
def St.normF (s : St) (fs : List Nat) : Option St :=
  let ids := reach s.heap 3 (s.tmps.foldl (fun l p => idsT p.2.t l) fs)
  if closed s.heap ids && distinct ids && s.tmps.all (fun p => subN (idsT p.2.t []) ids) && decide (ids.take fs.length = fs) && (List.range fs.length).all (fun k => fs.getD k 0 == k || freeO (s.heap.getD (fs.getD k 0) gone)) then
    let r := renR (posN · ids)
    some ⟨s.tmps.map fun p => (p.1, r.dyn p.2), ids.map fun i => r.obj (s.heap.getD i gone)⟩
  else none
def St.only (s : St) (ks : List Nat) : St := ⟨s.tmps.filter fun p => ks.contains p.1 && p.2.t.alive, s.heap⟩
inductive Tag where
  | seq (p : List Nat) | block (i : Nat) | again (p : List Nat) | fin | round
structure Kn (R : Type) where
  tag : List Tag
  go : Ex → St → Option R
abbrev Run (R : Type) := St → Kn R → Option R
def againK (p : List Nat) (lp : Run R) (K : Kn R) : Kn R := ⟨.again p :: K.tag, fun e s => match e with
  | .normal => lp s K
  | e => K.go e s⟩
def loopD (p : List Nat) (body : Run R) : Nat → Run R
  | 0, _, _ => none
  | j + 1, s, K => body s (againK p (loopD p body j) K)
theorem jnO_ex (R : Type) : ∃ f : List Nat → Run R → Run R, f = fun _ b => b := ⟨_, rfl⟩
noncomputable def jnO {R : Type} (p : List Nat) (b : Run R) : Run R := Classical.choose (jnO_ex R) p b
theorem jnO_eq {R : Type} (p : List Nat) (b : Run R) : jnO p b = b := by
  unfold jnO
  rw [Classical.choose_spec (jnO_ex R)]
noncomputable def jn (f : Bool) (p : List Nat) (b : Run R) : Run R := match f with
  | true => jnO p b
  | false => b
theorem jn_eq (f : Bool) (p : List Nat) (b : Run R) : jn f p b = b := by
  cases f
  · rfl
  · exact jnO_eq p b
noncomputable def seqK (f : Bool) (p : List Nat) (b : Run R) (K : Kn R) : Kn R := ⟨.seq p :: K.tag, fun e s => match e with
  | .normal => jn f p b s K
  | e => K.go e s⟩
def blockK (i : Nat) (K : Kn R) : Kn R := ⟨.block i :: K.tag, fun e s => match e with
  | .exit j => if j = i then K.go .normal s else K.go (.exit j) s
  | e => K.go e s⟩
def cutT (fn : Nat) (s : St) (t : Nat) (b : Bool) : St := if T.again fn t then ⟨putT s.tmps t ⟨.bool, b⟩, s.heap⟩ else ⟨offT s.tmps t, s.heap⟩
def putL : List Tmp → List Dyn → St → St
  | t :: ps, d :: ds, s => putL ps ds (s.put (some t) d)
  | _, _, s => s
def roundK (m : Nat) (ks : List Nat) (nx : Run R) (K : Kn R) : Kn R := ⟨.round :: K.tag, fun e s => match (s.only ks).norm m with
  | none => none
  | some s' => match e with
    | .normal => nx s' K
    | e => K.go e s'⟩
def asgK (rd : Run R) (K : Kn R) : Kn R := ⟨.round :: K.tag, fun e s => match e with
  | .normal => rd s K
  | _ => none⟩
-- RANGE BEGIN
noncomputable def rangeD (el : Ty) (p : List Nat) (m : Nat) (ks : List Nat) (ps : List Tmp) (ra rd : Run R) : List (den el) → Run R
  | [], s, K => K.go .normal s
  | x :: l, s, K => match capD el x with
    | some ds => if ps.length = ds.length then ra (putL ps ds s) (asgK rd (roundK m ks (rangeD el p m ks ps ra rd l) K)) else none
    | none => none
-- RANGE END
def wrO (o : Oper) : List Nat := match o.dst with
  | some t => [t]
  | none => []
def wr : Code → List Nat
  | .region _ ops _ => ops.toList.flatMap wrO
  | .seq a b => wr a ++ wr b
  | .cond _ a b => wr a ++ wr b
  | .block _ c => wr c
  | .loop c => wr c
  | .scope c => wr c
  | _ => []
def flatC : Code → Bool
  | .seq a b => flatC a && flatC b
  | .cond _ a b => flatC a && flatC b
  | .block _ c => flatC c
  | .loop c => flatC c
  | .rangeFunc _ _ _ _ => false
  | .scope _ => false
  | _ => true
def slotO : Operand → List Nat
  | .tmp t => [t]
  | _ => []
def caught (s : St) : (t : Ty) → Option (List Dyn × List Nat)
  | .tnil => some ([], [])
  | .tcons (.ptr i 0) r => match s.obj i, caught s r with
    | ⟨.box u, x⟩, some (ds, ids) => if u.elt then some (⟨.eptr u 0, x⟩ :: ds, i :: ids) else none
    | _, _ => none
  | _ => none
noncomputable def runD (LP : List Nat → Run R → Run R) (fn nt m : Nat) (p : List Nat) : Code → St → Kn R → Option R
  | .skip, s, K => K.go .normal s
  | .label _, s, K => K.go .normal s
  | .region i ops false, s, K => opsD T C fn nt ops (List.range ops.size) s fun s' => match (s'.only (T.keep fn i)).norm m with
    | some s' => here (fun s => K.go .normal s) s'
    | none => none
  | .region i ops true, s, K => anyD T C fn nt ops ops.size (Array.replicate ops.size false) [] s fun s' => match (s'.only (T.keep fn i)).norm m with
    | some s' => here (fun s => K.go .normal s) s'
    | none => none
  | .seq a b, s, K => runD LP fn nt m (p ++ [0]) a s (seqK (T.meet fn (p ++ [1])) (p ++ [1]) (fun s K => runD LP fn nt m (p ++ [1]) b s K) K)
  | .cond c x y, s, K => match c with
    | .tmp t => match getT s.tmps t with
      | ⟨.bool, b⟩ => br b (runD LP fn nt m (p ++ [0]) x (cutT T fn s t true) K) (runD LP fn nt m (p ++ [1]) y (cutT T fn s t false) K)
      | _ => none
    | _ => none
  | .block i c, s, K => runD LP fn nt m (p ++ [0]) c s (blockK i K)
  | .loop c, s, K => LP (p ++ [0]) (fun s K => runD LP fn nt m (p ++ [0]) c s K) s K
  | .scope c, s, K => runD LP fn nt m (p ++ [0]) c s K
  | .exit i, s, K => K.go (.exit i) s
  | .ret, s, K => K.go .ret s
  | .rangeFunc g ps asg b, s, K => match s.get g with
    | ⟨.fn f cap, _⟩ => match caught s cap with
      | some (ds, ids) => match T.hint f (.own .dead 0 :: ds.map (·.t)) with
        | some ⟨.list el, [], _⟩ => if flatC asg && flatC b && el.pure && ps.toList.all (fun t => decide (t < nt)) then
            bnd (C f (⟨.own .dead 0, ()⟩ :: ds) [heldO] (.list el) []) fun xs =>
              match (⟨s.tmps.filter fun q => !(wr asg ++ wr b ++ ps.toList ++ slotO g).contains q.1, goneL ids s.heap⟩ : St).norm m with
              | some s' => rangeD el p m (s'.tmps.map (·.1)) ps.toList (fun s K => runD LP fn nt m (p ++ [0]) asg s K) (fun s K => runD LP fn nt m (p ++ [1]) b s K) xs s' K
              | none => none
          else none
        | _ => none
      | none => none
    | _ => none
  | _, _, _ => none
def resD (s : St) : List ResultVar → Option (List Dyn)
  | [] => some []
  | .tmp t :: l => match resD s l with
    | some r => if (getT s.tmps t).t.alive && (getT s.tmps t).t.cel then some (getT s.tmps t :: r) else none
    | none => none
  | .cell a t :: l => match resD s l with
    | none => none
    | some r => match look T.tb t, getT s.tmps a with
      | some ti, ⟨.ptr i off, _⟩ => match s.obj i with
        | ⟨.box u, x⟩ => let d := (⟨u, x⟩ : Dyn).part off ti.siz ti.st
          if ti.fits d.t && decide (0 < ti.siz) && d.t.cel then some (d :: r) else none
        | _ => none
      | _, _ => none
def oneD : List Dyn → Dyn
  | [d] => d
  | l => tupD l
def looseL : List OTy → List AObj → List AObj
  | .row _ _ false :: ts, ⟨.row e t _, x⟩ :: os => ⟨.row e t false, x⟩ :: looseL ts os
  | _ :: ts, o :: os => o :: looseL ts os
  | _, os => os
def finE (rt : Ty) (ots : List OTy) (m : Nat) (s : St) (d : Dyn) : Option (denR rt ots) :=
    let v := coe s rt d.t d.x
    let l := ptrIds ots s.heap rt d.t (coeIds rt d.t [])
    let s' := s.freeze l
    if noneIn l (idsT v.t []) then match (⟨[(0, v)], s'.heap⟩ : St).normF (layIds rt v.t (List.range m)) with
    | some ⟨[(_, w)], h⟩ => match w.as rt with
      | none => none
      | some x => match asObjs ots (looseL ots h) with
        | some y => some (mkR rt x ots y)
        | none => none
    | _ => none else none
def finD (fn : Func) (rt : Ty) (ots : List OTy) (m : Nat) (s : St) : Option (denR rt ots) :=
  match resD T s fn.results.toList with
  | none => none
  | some l => finE rt ots m ⟨s.tmps, (ownOne rt l T.tb s.heap).2⟩ (oneD (ownOne rt l T.tb s.heap).1)
def iterK (R : Type) (r : R) : Kn R := ⟨[.fin], fun e s => match e with
  | .exit _ => none
  | _ => some r⟩
def finK (fn : Func) (rt : Ty) (ots : List OTy) (m : Nat) : Kn (denR rt ots) := ⟨[.fin], fun e s => match e with
  | .exit _ => none
  | _ => finD T fn rt ots m s⟩
end
def calmO (o : Oper) : Bool := match o.op with
  | .defer _ => false
  | _ => true
def calmC : Code → Bool
  | .region _ ops _ => ops.all calmO
  | .seq a b => calmC a && calmC b
  | .cond _ a b => calmC a && calmC b
  | .block _ c => calmC c
  | .loop c => calmC c
  | .rangeFunc _ _ a b => calmC a && calmC b
  | .scope c => calmC c
  | _ => true
def sub : List Nat → Code → Code
  | [], c => c
  | 0 :: p, .seq a _ => sub p a
  | _ :: p, .seq _ b => sub p b
  | 0 :: p, .cond _ a _ => sub p a
  | _ :: p, .cond _ _ b => sub p b
  | _ :: p, .block _ c => sub p c
  | _ :: p, .loop c => sub p c
  | _ :: p, .scope c => sub p c
  | 0 :: p, .rangeFunc _ _ a _ => sub p a
  | _ :: p, .rangeFunc _ _ _ c => sub p c
  | _, c => c
def numD : Nat → List Dyn → List (Nat × Dyn)
  | _, [] => []
  | n, d :: l => (n, d) :: numD (n + 1) l
def codeOf (P : Program) (f : Nat) : Code := match P.funcs[f]? with
  | none => .skip
  | some fn => match fn.body with
    | none => .skip
    | some c => c
def funcOf (P : Program) (f : Nat) : Func := match P.funcs[f]? with
  | none => default
  | some fn => fn
def hasBody (P : Program) (f : Nat) : Bool := match P.funcs[f]? with
  | none => false
  | some fn => fn.body.isSome
abbrev Looper := (R : Type) → List Nat → Run R → Run R
def putM (t : Ty) (m : Int → List (den t)) (i : Int) (p : den t) : Int → List (den t) := fun j => if j = i then m j ++ [p] else m j
noncomputable def partL (C : AbsFn) (fh fc fw : Nat) (r : Ty) (level bits : Int) : List (den (.pair .str r)) → (Int → List (den (.pair .str r))) → Int → Option ((Int → List (den (.pair .str r))) × Int)
  | [], m, s => some (m, s)
  | p :: l, m, s => bnd (C fh [⟨.str, p.1⟩, ⟨.int .i64, bits⟩] [] (.int .u64) []) fun h => bnd (C fc [⟨.int .u64, h⟩, ⟨.int .i64, level⟩, ⟨.int .i64, bits⟩] [] (.int .i64) []) fun i =>
    bnd (C fw [⟨.int .u32, s⟩, ⟨.int .i64, i⟩] [] (.int .u32) []) fun s' => partL C fh fc fw r level bits l (putM (.pair .str r) m i p) s'
noncomputable def partP (fh fc fw : Nat) (r : Ty) (e : Nat) (N : Ty) (C : AbsFn) : AbsFn := fun _ args objs rt ots => match args, objs with
  | [⟨.ptr 0 0, _⟩, ⟨.list t, l⟩, ⟨.int .i64, level⟩], [⟨.box (.pair (.int .i64) (.pair (.own t1 1) .unit)), x⟩, ⟨.row e1 t2 true, ns⟩] => if t1 = N ∧ t2 = N ∧ e1 = e then (match (⟨.list t, l⟩ : Dyn).as (.list (.pair .str r)) with
    | some l => br (fitL (.pair .str r) l) (bnd (partL C fh fc fw r level x.1 l (fun _ => []) 0) fun q => (match (⟨.tcons (.mp (.pair .str r)) (.tcons (.int .u32) .tnil), (q.1, (q.2, ()))⟩ : Dyn).as rt, asObjs ots [⟨.box (.pair (.int .i64) (.pair (.own t1 1) .unit)), x⟩, ⟨.row e1 t2 true, ns⟩] with
      | some v, some y => some (mkR rt v ots y)
      | _, _ => none)) none
    | none => none) else none
  | _, _ => none
def ctzI (n : Int) : Int := (Lib.ctz 32 n.toNat : Nat)
def tzP : AbsFn := fun _ args objs rt ots => match args, objs with
  | [⟨.int .u32, n⟩], [] => (match (⟨.int .i64, ctzI n⟩ : Dyn).as rt, asObjs ots [] with
    | some v, some y => br (andB (leI 0 n) (ltI n 4294967296)) (some (mkR rt v ots y)) none
    | _, _ => none)
  | _, _ => none
inductive Prim where
  | plain (c : AbsFn)
  | part (fh fc fw : Nat) (r : Ty) (e : Nat) (N : Ty)
noncomputable def Prim.run (p : Prim) (C : AbsFn) : AbsFn := match p with
  | .plain c => c
  | .part fh fc fw r e N => partP fh fc fw r e N C
abbrev Prims := Nat → Option Prim
noncomputable def bodyF {R : Type} (P : Program) (T : Told) (C : AbsFn) (LP : Looper) (f m : Nat) (p : List Nat) : Run R :=
  fun s K => runD T C (LP R) f (funcOf P f).ntmps m p (sub p (codeOf P f)) s K
noncomputable def callB (P : Program) (T : Told) (pr : Prims) (C : AbsFn) (LP : Looper) : AbsFn :=
  fun f args objs rt ots => if isIt objs then (match rt, ots with
    | .list el, [] => if T.it f = some el ∧ hasBody P f = true ∧ (funcOf P f).results.size = 0 ∧ args.length ≤ (funcOf P f).ntmps ∧ calmC (codeOf P f) = true ∧ flatC (codeOf P f) = true then bodyF P T C LP f objs.length [] ⟨numD 0 args, objs⟩ (iterK (List (den el)) []) else none
    | _, _ => none) else match pr f with
    | some c => c.run C f args objs rt ots
    | none => match hasBody P f with
      | false => none
      | true => if T.it f = none ∧ args.length ≤ (funcOf P f).ntmps ∧ calmC (codeOf P f) = true then bodyF P T C LP f objs.length [] (St.freeze ⟨numD 0 args, objs⟩ (boxIds ots objs [])) (finK T (funcOf P f) rt ots objs.length) else none
-- CALL BEGIN
open Classical in
noncomputable def lim {R : Type} (x : Nat → Option R) : Option R := if h : ∃ k r, x k = some r then x (Classical.choose h) else none
noncomputable def loopW {R : Type} (p : List Nat) (body : Run R) : Run R := fun s K => lim fun j => loopD p body j s K
noncomputable def callG (P : Program) (T : Told) (pr : Prims) : Nat → AbsFn
  | 0 => fun _ _ _ _ _ => none
  | k + 1 => callB P T pr (callG P T pr k) @loopW
noncomputable def callW (P : Program) (T : Told) (pr : Prims) : AbsFn := fun f args objs rt ots => lim fun k => callG P T pr k f args objs rt ots
-- CALL END
def pickV (ats : List Ty) : List (Nat × Bool × Hint) → Option Hint
  | [] => none
  | (k, n, h) :: l => match ats[k]? with
    | some (.nil _) => if n then some h else pickV ats l
    | some .nilptr => if n then some h else pickV ats l
    | some (.own _ _) => if n then pickV ats l else some h
    | _ => pickV ats l
def capO (ft : List (Nat × List OTy)) : List Ty → List OTy
  | .fn g _ :: l => (match look ft g with
    | some o => o
    | none => []) ++ capO ft l
  | _ :: l => capO ft l
  | [] => []
def Ty.shape : Ty → Ty
  | .own t _ => .own t 0
  | .ptr _ o => .ptr 0 o
  | .rptr t _ o => .rptr t 0 o
  | .aptr t m _ b o => .aptr t m 0 b o
  | .fn f c => .fn f c.shape
  | .pair a b => .pair a.shape b.shape
  | .tcons a b => .tcons a.shape b.shape
  | t => t
def lookE (ats : List Ty) : List (Nat × Ty × Hint) → Option Hint
  | [] => none
  | (k, sh, h) :: l => match ats[k]? with
    | some t => if t.shape = sh then some h else lookE ats l
    | none => lookE ats l
def pickW (d : Option Nat) (g : Nat) : List (Nat × Option Nat × Hint) → Option Hint
  | [] => none
  | (k, e, h) :: l => if k = g ∧ (e = none ∨ e = d) then some h else pickW d g l
def hintV (ht : List (Nat × Hint)) (vt : List (Nat × List (Nat × Bool × Hint))) (ft : List (Nat × List OTy)) (et : List (Nat × List (Nat × Ty × Hint))) (f : Nat) (ats : List Ty) : Option Hint :=
  match (match look et f with
    | some l => lookE ats l
    | none => none) with
  | some h => some h
  | none => match (match look vt f with
      | some l => pickV ats l
      | none => none) with
    | some h => some h
    | none => match look ht f with
      | some h => some ⟨h.rt, capO ft ats ++ h.ots, h.pars⟩
      | none => none
end
end Go.Abs
set_option autoImplicit false
set_option linter.unusedVariables false
namespace Go.Abs
def GT : List (Nat × List Value) := [(0, Lib.deBruijn32tab.map fun z : Nat => Value.int .u8 (z : Int))]
theorem alloc_kept (w : World) (o : Obj) (k : Nat) (h : k < w.heap.size) : (w.alloc o).heap[k]? = w.heap[k]? := by first | exact heap_alloc_old w o k h | exact heap_alloc_old w o h
structure Loc where
  loc : Nat
  hdr : Value
instance : Inhabited Loc := ⟨⟨0, .slice none 0 0⟩⟩
def RowAt (w : World) (L : Loc) (e : TypeId) (width n : Nat) (cells : List Value) : Prop :=
  (∃ ad, L.hdr = .slice ad 0 0 ∧ n = 0 ∧ L.hdr.ownBlock ≠ some L.loc) ∨ (L.hdr.ownBlock = some L.loc ∧ w.ownsRow 0 e width L.hdr n cells)
def rows {A : Type} (f : A → List Value → Prop) : List A → List Value → Prop
  | [], l => l = []
  | x :: xs, l => ∃ l1 l2, l = l1 ++ l2 ∧ f x l1 ∧ rows f xs l2
def At (w : World) (b o : Nat) (cs : List Value) : Prop := ∀ k v, cs[k]? = some v → w.cell? ⟨b, o + k, none⟩ = some v
def Gl (w : World) (Fr : Nat → Prop) : Prop := ∀ p ∈ GT, Fr p.1 ∧ At w p.1 0 p.2
def SlAt {A : Type} (w : World) (Fr : Nat → Prop) (f : A → List Value → Prop) (xs : List A) (v : Value) : Prop := ∃ a c cells, v = .slice a xs.length c ∧ xs.length ≤ c ∧ rows f xs cells ∧ (xs = [] ∨ ∃ b o, a = some ⟨b, o, none⟩ ∧ Fr b ∧ At w b o cells)
def MpAt {A : Type} (w : World) (Fr : Nat → Prop) (f : A → List Value → Prop) (m : Int → List A) (es : Array MapEntry) : Prop :=
  (∀ x ∈ es.toList, ∃ i : Int, x.key = .int .i64 i ∧ SlAt w Fr f (m i) x.val) ∧ es.toList.Pairwise (fun x y => x.key ≠ y.key) ∧ ∀ i : Int, (∀ x ∈ es.toList, x.key ≠ .int .i64 i) → m i = []
section
variable (w : World) (Fr : Nat → Prop) (mu : Nat → Loc)
def Rp : (t : Ty) → den t → List Value → Prop
  | .dead, _, l => ∃ v : Value, l = [v] ∧ v.oneCell' = true
  | .nil _, _, l => l = [.slice none 0 0]
  | .nilptr, _, l => l = [.pointer none]
  | .nilfn, _, l => l = [.nilFunc]
  | .bool, b, l => l = [.bool b]
  | .int k, n, l => l = [.int k n]
  | .str, s, l => l = [.string s]
  | .list t, xs, l => t.elt = true ∧ ∃ a c cells, l = [.slice a xs.length c] ∧ xs.length ≤ c ∧ rows (fun x l => Rp t x l) xs cells ∧
      (xs = [] ∨ ∃ b o, a = some ⟨b, o, none⟩ ∧ Fr b ∧ At w b o cells)
  | .arr n t, xs, l => t.elt = true ∧ xs.length = n ∧ rows (fun x l => Rp t x l) xs l
  | .mp t, m, l => t.elt = true ∧ ∃ b es clock, l = [.map (some b)] ∧ Fr b ∧ w.heap[b]? = some (.map es clock) ∧ MpAt w Fr (fun x l => Rp t x l) m es
  | .own _ i, _, l => l = [(mu i).hdr]
  | .ptr i o, _, l => l = [.pointer (some ⟨(mu i).loc, o, none⟩)]
  | .eptr t o, x, l => t.elt = true ∧ ∃ b o' cells, l = [.pointer (some ⟨b, o' + o, none⟩)] ∧ Fr b ∧ Rp t x cells ∧ At w b o' cells
  | .rptr t i o, x, l => ∃ b n c, (mu i).hdr = .slice (some ⟨b, 0, none⟩) n c ∧ 0 ≤ x ∧ x < n ∧ l = [.pointer (some ⟨b, x.toNat * t.width + o, none⟩)]
  | .aptr t m i base o, x, l => (0 ≤ x ∧ x < m) ∧ l = [.pointer (some ⟨(mu i).loc, base + (x.toNat * t.width + o), none⟩)]
  | .fn f c, x, l => ∃ vs : List Value, l = [.func (.func f) #[] vs.toArray] ∧ Rp c x vs
  | .unit, _, l => l = []
  | .pair a b, x, l => ∃ l1 l2, l = l1 ++ l2 ∧ Rp a x.1 l1 ∧ Rp b x.2 l2
  | .tnil, _, l => l = []
  | .tcons a b, x, l => ∃ v vs, l = v :: vs ∧ (match a.vk with
      | .dead => True
      | .agg => a.cel = true ∧ ∃ cs : List Value, v = .agg cs.toArray ∧ Rp a x.1 cs
      | .tup => False
      | .one => Rp a x.1 [v]) ∧ Rp b x.2 vs
def VR (d : Dyn) (v : Value) : Prop := match d.t.vk with
  | .dead => True
  | .agg => d.t.cel = true ∧ ∃ cs : List Value, v = .agg cs.toArray ∧ Rp w Fr mu d.t d.x cs
  | .tup => ∃ vs : List Value, v = .tuple vs.toArray ∧ Rp w Fr mu d.t d.x vs
  | .one => Rp w Fr mu d.t d.x [v]
def OR (i : Nat) : AObj → Prop
  | ⟨.gone, _⟩ => True
  | ⟨.held, _⟩ => True
  | ⟨.box t, x⟩ => t.cel = true ∧ ∃ (cells : List Value) (e : TypeId), w.heap[(mu i).loc]? = some (.cells cells.toArray e (0, 0)) ∧ Rp w Fr mu t x cells
  | ⟨.row e t _, xs⟩ => t.elt = true ∧ ∃ cells, rows (fun x l => Rp w Fr mu t x l) xs cells ∧ RowAt w (mu i) e t.width xs.length cells
end
def occ (mu : Nat → Loc) (i : Nat) : AObj → Prop
  | ⟨.gone, _⟩ => False
  | ⟨.held, _⟩ => False
  | ⟨.box _, _⟩ => True
  | ⟨.row _ _ _, _⟩ => (mu i).hdr.ownBlock = some (mu i).loc
theorem rows_mono {A : Type} {f g : A → List Value → Prop} (h : ∀ x l, f x l → g x l) : ∀ {xs : List A} {l}, rows f xs l → rows g xs l
  | [], _, hr => hr
  | _ :: _, _, ⟨l1, l2, e, h1, h2⟩ => ⟨l1, l2, e, h _ _ h1, rows_mono h h2⟩
theorem rows_append {A : Type} {f : A → List Value → Prop} : ∀ {xs ys : List A} {l m}, rows f xs l → rows f ys m → rows f (xs ++ ys) (l ++ m)
  | [], _, _, _, h, hm => by cases h; exact hm
  | _ :: _, _, _, _, ⟨l1, l2, e, h1, h2⟩, hm => ⟨l1, l2 ++ _, by rw [e, List.append_assoc], h1, rows_append h2 hm⟩
theorem rows_len {A : Type} {f : A → List Value → Prop} {n : Nat} (h : ∀ x l, f x l → l.length = n) : ∀ {xs : List A} {l}, rows f xs l → l.length = xs.length * n
  | [], _, e => by cases e; simp
  | _ :: xs, _, ⟨l1, l2, e, h1, h2⟩ => by
    rw [e, List.length_append, h _ _ h1, rows_len h h2, List.length_cons, Nat.add_mul, Nat.one_mul, Nat.add_comm]
theorem rows_all {A : Type} {f : A → List Value → Prop} {p : Value → Prop} (h : ∀ x l, f x l → ∀ v ∈ l, p v) : ∀ {xs : List A} {l}, rows f xs l → ∀ v ∈ l, p v
  | [], _, e => by cases e; simp
  | _ :: xs, _, ⟨l1, l2, e, h1, h2⟩ => by
    subst e
    intro v hv
    rcases List.mem_append.1 hv with hv | hv
    · exact h _ _ h1 v hv
    · exact rows_all h h2 v hv
theorem rows_get {A : Type} {f : A → List Value → Prop} {n : Nat} (h : ∀ x l, f x l → l.length = n) : ∀ {xs : List A} {l} {j : Nat} {x : A}, rows f xs l → xs[j]? = some x →
    ∃ c, f x c ∧ c.length = n ∧ ∃ a b, l = a ++ (c ++ b) ∧ a.length = j * n
  | [], _, j, _, _, hx => by simp at hx
  | y :: xs, _, 0, x, ⟨l1, l2, e, h1, h2⟩, hx => by
    simp at hx; subst hx
    exact ⟨l1, h1, h _ _ h1, [], l2, by simp [e], by simp⟩
  | y :: xs, _, j + 1, x, ⟨l1, l2, e, h1, h2⟩, hx => by
    obtain ⟨c, hc, hl, a, b, he, ha⟩ := rows_get h h2 (by simpa using hx)
    exact ⟨c, hc, hl, l1 ++ a, b, by rw [e, he]; simp, by rw [List.length_append, h _ _ h1, ha, Nat.add_mul, Nat.one_mul, Nat.add_comm]⟩
theorem rows_split {A : Type} {f : A → List Value → Prop} : ∀ {xs ys : List A} {l}, rows f (xs ++ ys) l → ∃ a b, l = a ++ b ∧ rows f xs a ∧ rows f ys b
  | [], _, l, h => ⟨[], l, rfl, rfl, h⟩
  | _ :: _, _, _, ⟨l1, l2, e, h1, h2⟩ => by
    obtain ⟨a, b, he, ha, hb⟩ := rows_split h2
    exact ⟨l1 ++ a, b, by rw [e, he]; simp, ⟨l1, a, rfl, h1, ha⟩, hb⟩
theorem rows_set {A : Type} {f : A → List Value → Prop} {n : Nat} (h : ∀ x l, f x l → l.length = n) : ∀ {xs : List A} {l} {j : Nat} {z : A} {c}, rows f xs l → j < xs.length → f z c →
    rows f (xs.set j z) (l.take (j * n) ++ (c ++ l.drop (j * n + n)))
  | [], _, j, _, _, _, hx, _ => by simp at hx
  | y :: xs, _, 0, z, c, ⟨l1, l2, e, h1, h2⟩, hx, hc => by
    subst e
    refine ⟨c, l2, ?_, hc, h2⟩
    simp [← h _ _ h1]
  | y :: xs, _, j + 1, z, c, ⟨l1, l2, e, h1, h2⟩, hx, hc => by
    subst e
    have := rows_set (z := z) (c := c) h h2 (j := j) (by simpa using hx) hc
    refine ⟨l1, _, ?_, h1, this⟩
    have e1 : (j + 1) * n = l1.length + j * n := by rw [h _ _ h1, Nat.add_mul, Nat.one_mul, Nat.add_comm]
    rw [e1, Nat.add_assoc, List.take_append, List.drop_append]
    have : l1.take (l1.length + j * n) = l1 := List.take_of_length_le (by omega)
    have h0 : l1.drop (l1.length + (j * n + n)) = [] := List.drop_of_length_le (by omega)
    simp [this, h0, Nat.add_sub_cancel_left]
theorem rows_replicate {A : Type} {f : A → List Value → Prop} {z : A} {c} (h : f z c) : ∀ n, rows f (List.replicate n z) (List.replicate n c).flatten
  | 0 => rfl
  | n + 1 => ⟨c, _, by simp [List.replicate_succ], h, rows_replicate h n⟩
theorem rows_take {A : Type} {f : A → List Value → Prop} {n : Nat} (h : ∀ x l, f x l → l.length = n) {xs : List A} {l} (hr : rows f xs l) (j : Nat) : rows f (xs.take j) (l.take (j * n)) := by
  have hr' := hr
  rw [← List.take_append_drop j xs] at hr'
  obtain ⟨a, b, e, ha, hb⟩ := rows_split hr'
  subst e
  have hl := rows_len h ha
  rw [List.length_take] at hl
  by_cases hj : j ≤ xs.length
  · rw [Nat.min_eq_left hj] at hl
    rw [← hl, List.take_left']
    · exact ha
    · rfl
  · have : xs.drop j = [] := List.drop_of_length_le (by omega)
    rw [this] at hb
    cases hb
    rw [Nat.min_eq_right (by omega)] at hl
    rw [List.append_nil, List.take_of_length_le (l := a) (by rw [hl]; exact Nat.mul_le_mul_right _ (by omega))]
    exact ha
theorem rows_drop {A : Type} {f : A → List Value → Prop} {n : Nat} (h : ∀ x l, f x l → l.length = n) {xs : List A} {l} (hr : rows f xs l) (j : Nat) : rows f (xs.drop j) (l.drop (j * n)) := by
  have hr' := hr
  rw [← List.take_append_drop j xs] at hr'
  obtain ⟨a, b, e, ha, hb⟩ := rows_split hr'
  subst e
  have hl := rows_len h ha
  rw [List.length_take] at hl
  by_cases hj : j ≤ xs.length
  · rw [Nat.min_eq_left hj] at hl
    rw [← hl, List.drop_left']
    · exact hb
    · rfl
  · have : xs.drop j = [] := List.drop_of_length_le (by omega)
    rw [this] at hb ⊢
    cases hb
    rw [Nat.min_eq_right (by omega)] at hl
    rw [List.append_nil, List.drop_of_length_le (l := a) (by rw [hl]; exact Nat.mul_le_mul_right _ (by omega))]
    exact rfl
theorem At.left {w : World} {b o : Nat} {c d : List Value} (h : At w b o (c ++ d)) : At w b o c := fun k v hk => h k v (by
  have := (List.getElem?_eq_some_iff.1 hk).1
  rw [List.getElem?_append_left this]; exact hk)
theorem At.right {w : World} {b o : Nat} {c d : List Value} (h : At w b o (c ++ d)) : At w b (o + c.length) d := fun k v hk => by
  have := h (c.length + k) v (by rw [List.getElem?_append_right (by omega)]; simpa using hk)
  rwa [Nat.add_assoc]
theorem At.of {w : World} {b o : Nat} {c d : List Value} (h1 : At w b o c) (h2 : At w b (o + c.length) d) : At w b o (c ++ d) := fun k v hk => by
  by_cases hlt : k < c.length
  · exact h1 k v (by rwa [List.getElem?_append_left hlt] at hk)
  · rw [List.getElem?_append_right (by omega)] at hk
    have := h2 _ v hk
    rwa [Nat.add_assoc, Nat.add_sub_cancel' (by omega)] at this
theorem At.keep {w w' : World} {b o : Nat} {c : List Value} (h : At w b o c) (hb : w'.heap[b]? = w.heap[b]?) : At w' b o c := fun k v hk => by
  rw [World.cell?_of_block (w := w) (by exact hb)]; exact h k v hk
theorem At.nil {w : World} {b o : Nat} : At w b o [] := fun k v hk => by simp at hk
theorem Gl.keep {w w' : World} {Fr Fr' : Nat → Prop} (h : Gl w Fr) (hF : ∀ b, Fr b → Fr' b) (hw : ∀ b, Fr b → w'.heap[b]? = w.heap[b]?) : Gl w' Fr' := fun p hp => ⟨hF _ (h p hp).1, (h p hp).2.keep (hw _ (h p hp).1)⟩
theorem SlAt.keep {A : Type} {w w' : World} {Fr Fr' : Nat → Prop} {f g : A → List Value → Prop} (hF : ∀ b, Fr b → Fr' b) (hw : ∀ b, Fr b → w'.heap[b]? = w.heap[b]?) (hfg : ∀ x l, f x l → g x l) {xs : List A} {v : Value} (h : SlAt w Fr f xs v) : SlAt w' Fr' g xs v := by
  obtain ⟨a, c, cells, e, hc, hr, hx⟩ := h
  refine ⟨a, c, cells, e, hc, rows_mono hfg hr, hx.imp id ?_⟩
  rintro ⟨b, o, e, hb, hat⟩
  exact ⟨b, o, e, hF b hb, hat.keep (hw b hb)⟩
theorem MpAt.keep {A : Type} {w w' : World} {Fr Fr' : Nat → Prop} {f g : A → List Value → Prop} (hF : ∀ b, Fr b → Fr' b) (hw : ∀ b, Fr b → w'.heap[b]? = w.heap[b]?) (hfg : ∀ x l, f x l → g x l) {m : Int → List A} {es : Array MapEntry} (h : MpAt w Fr f m es) : MpAt w' Fr' g m es := by
  obtain ⟨h1, h2, h3⟩ := h
  refine ⟨fun x hx => ?_, h2, h3⟩
  obtain ⟨i, e, hs⟩ := h1 x hx
  exact ⟨i, e, hs.keep hF hw hfg⟩
theorem Rp_len {w : World} {Fr : Nat → Prop} {mu : Nat → Loc} : ∀ (t : Ty) (x : den t) (l : List Value), t.cel = true → Rp w Fr mu t x l → l.length = t.width
  | .dead, _, l, _, h => by obtain ⟨v, rfl, _⟩ := h; rfl
  | .nil _, _, l, _, h => by cases h; rfl
  | .nilptr, _, l, _, h => by cases h; rfl
  | .nilfn, _, l, _, h => by cases h; rfl
  | .bool, _, l, _, h => by cases h; rfl
  | .int _, _, l, _, h => by cases h; rfl
  | .str, _, l, _, h => by cases h; rfl
  | .list t, _, l, _, h => by obtain ⟨_, a, c, cells, rfl, _⟩ := h; rfl
  | .mp _, _, l, _, h => by obtain ⟨_, b, es, ck, rfl, _⟩ := h; rfl
  | .arr n t, xs, l, hc, h => by
    obtain ⟨_, e, h⟩ := h
    have := rows_len (fun x l h => Rp_len t x l hc h) h
    rw [this, e]; rfl
  | .own _ _, _, l, _, h => by cases h; rfl
  | .ptr _ _, _, l, _, h => by cases h; rfl
  | .eptr _ _, _, l, _, h => by obtain ⟨_, b, o, c, rfl, _⟩ := h; rfl
  | .rptr _ _ _, _, l, _, h => by obtain ⟨b, o, c, _, _, _, rfl⟩ := h; rfl
  | .aptr _ _ _ _ _, _, l, _, h => by obtain ⟨_, rfl⟩ := h; rfl
  | .fn _ _, _, l, _, h => by obtain ⟨vs, rfl, _⟩ := h; rfl
  | .unit, _, l, _, h => by cases h; rfl
  | .pair a b, x, l, hc, h => by
    simp only [Ty.cel, Bool.and_eq_true] at hc
    obtain ⟨l1, l2, rfl, h1, h2⟩ := h
    rw [List.length_append, Rp_len a _ _ hc.1.1 h1, Rp_len b _ _ hc.1.2 h2]; rfl
theorem Rp_one {w : World} {Fr : Nat → Prop} {mu : Nat → Loc} (hh : ∀ i, (mu i).hdr.oneCell' = true) : ∀ (t : Ty) (x : den t) (l : List Value), t.cel = true → Rp w Fr mu t x l → ∀ v ∈ l, v.oneCell' = true
  | .dead, _, l, _, h => by obtain ⟨v, rfl, h⟩ := h; simpa using h
  | .nil _, _, l, _, h => by cases h; simp [Value.oneCell']
  | .nilptr, _, l, _, h => by cases h; simp [Value.oneCell']
  | .nilfn, _, l, _, h => by cases h; simp [Value.oneCell']
  | .bool, _, l, _, h => by cases h; simp [Value.oneCell']
  | .int _, _, l, _, h => by cases h; simp [Value.oneCell']
  | .str, _, l, _, h => by cases h; simp [Value.oneCell']
  | .list t, _, l, _, h => by obtain ⟨_, a, c, cells, rfl, _⟩ := h; simp [Value.oneCell']
  | .mp _, _, l, _, h => by obtain ⟨_, b, es, ck, rfl, _⟩ := h; simp [Value.oneCell']
  | .arr n t, xs, l, hc, h => by
    obtain ⟨_, _, h⟩ := h
    exact rows_all (fun x l h => Rp_one hh t x l hc h) h
  | .own _ i, _, l, _, h => by cases h; simpa using hh i
  | .ptr _ _, _, l, _, h => by cases h; simp [Value.oneCell']
  | .eptr _ _, _, l, _, h => by obtain ⟨_, b, o, c, rfl, _⟩ := h; simp [Value.oneCell']
  | .rptr _ _ _, _, l, _, h => by obtain ⟨b, o, c, _, _, _, rfl⟩ := h; simp [Value.oneCell']
  | .aptr _ _ _ _ _, _, l, _, h => by obtain ⟨_, rfl⟩ := h; simp [Value.oneCell']
  | .fn _ _, _, l, _, h => by obtain ⟨vs, rfl, _⟩ := h; simp [Value.oneCell']
  | .unit, _, l, _, h => by cases h; simp
  | .pair a b, x, l, hc, h => by
    simp only [Ty.cel, Bool.and_eq_true] at hc
    obtain ⟨l1, l2, rfl, h1, h2⟩ := h
    intro v hv
    rcases List.mem_append.1 hv with hv | hv
    · exact Rp_one hh a _ _ hc.1.1 h1 v hv
    · exact Rp_one hh b _ _ hc.1.2 h2 v hv
def Ty.okN (p : Nat → Prop) : Ty → Prop
  | .own _ i => p i
  | .ptr i _ => p i
  | .rptr _ i _ => p i
  | .aptr _ _ i _ _ => p i
  | .fn _ c => c.okN p
  | .pair a b => a.okN p ∧ b.okN p
  | .tcons a b => a.okN p ∧ b.okN p
  | _ => True
theorem Ty.okN_mono {p q : Nat → Prop} (h : ∀ i, p i → q i) : ∀ (t : Ty), t.okN p → t.okN q
  | .own _ i, hp => h i hp
  | .ptr i _, hp => h i hp
  | .rptr _ i _, hp => h i hp
  | .aptr _ _ i _ _, hp => h i hp
  | .fn _ c, hp => Ty.okN_mono h c hp
  | .pair a b, hp => ⟨Ty.okN_mono h a hp.1, Ty.okN_mono h b hp.2⟩
  | .tcons a b, hp => ⟨Ty.okN_mono h a hp.1, Ty.okN_mono h b hp.2⟩
  | .eptr _ _, _ => trivial | .list _, _ => trivial | .arr _ _, _ => trivial | .mp _, _ => trivial | .dead, _ => trivial | .nil _, _ => trivial | .nilptr, _ => trivial | .nilfn, _ => trivial | .bool, _ => trivial | .int _, _ => trivial | .str, _ => trivial | .unit, _ => trivial | .tnil, _ => trivial
theorem Ty.okN_all {p : Nat → Prop} (h : ∀ i, p i) : ∀ (t : Ty), t.okN p
  | .own _ i => h i
  | .ptr i _ => h i
  | .rptr _ i _ => h i
  | .aptr _ _ i _ _ => h i
  | .fn _ c => Ty.okN_all h c
  | .pair a b => ⟨Ty.okN_all h a, Ty.okN_all h b⟩
  | .tcons a b => ⟨Ty.okN_all h a, Ty.okN_all h b⟩
  | .eptr _ _ => trivial | .list _ => trivial | .arr _ _ => trivial | .mp _ => trivial | .dead => trivial | .nil _ => trivial | .nilptr => trivial | .nilfn => trivial | .bool => trivial | .int _ => trivial | .str => trivial | .unit => trivial | .tnil => trivial
theorem Ty.pure_okN {p : Nat → Prop} : ∀ (t : Ty), t.pure = true → t.okN p
  | .fn _ c, h => Ty.pure_okN c h
  | .pair a b, h => by simp only [Ty.pure, Bool.and_eq_true] at h; exact ⟨Ty.pure_okN a h.1, Ty.pure_okN b h.2⟩
  | .tcons a b, h => by simp only [Ty.pure, Bool.and_eq_true] at h; exact ⟨Ty.pure_okN a h.1, Ty.pure_okN b h.2⟩
  | .eptr _ _, _ => trivial | .list _, _ => trivial | .arr _ _, _ => trivial | .mp _, _ => trivial | .nil _, _ => trivial | .nilptr, _ => trivial | .nilfn, _ => trivial | .bool, _ => trivial | .int _, _ => trivial | .str, _ => trivial | .unit, _ => trivial | .tnil, _ => trivial
theorem Ty.elt_cel {t : Ty} (h : t.elt = true) : t.cel = true := by simp only [Ty.elt, Bool.and_eq_true] at h; exact h.1
theorem Ty.elt_pure {t : Ty} (h : t.elt = true) : t.pure = true := by simp only [Ty.elt, Bool.and_eq_true] at h; exact h.2
theorem Rp_keep {w w' : World} {Fr Fr' : Nat → Prop} {mu mu' : Nat → Loc} (hF : ∀ b, Fr b → Fr' b) (hw : ∀ b, Fr b → w'.heap[b]? = w.heap[b]?) :
    ∀ (t : Ty) (x : den t) (l : List Value), t.okN (fun i => mu' i = mu i) → Rp w Fr mu t x l → Rp w' Fr' mu' t x l
  | .dead, _, l, _, h => h
  | .nil _, _, l, _, h => h
  | .nilptr, _, l, _, h => h
  | .nilfn, _, l, _, h => h
  | .bool, _, l, _, h => h
  | .int _, _, l, _, h => h
  | .str, _, l, _, h => h
  | .list t, xs, l, hn, h => by
    obtain ⟨he, a, c, cells, e, hc, hr, hx⟩ := h
    refine ⟨he, a, c, cells, e, hc, rows_mono (fun x l h => Rp_keep hF hw t x l (t.pure_okN (Ty.elt_pure he)) h) hr, hx.imp id ?_⟩
    rintro ⟨b, o, e, hb, hat⟩
    exact ⟨b, o, e, hF b hb, hat.keep (hw b hb)⟩
  | .mp t, m, l, hn, h => by
    obtain ⟨he, b, es, ck, e, hb, hh, hm⟩ := h
    exact ⟨he, b, es, ck, e, hF b hb, (hw b hb).trans hh, hm.keep hF hw (fun x l h => Rp_keep hF hw t x l (t.pure_okN (Ty.elt_pure he)) h)⟩
  | .arr n t, xs, l, hn, h => ⟨h.1, h.2.1, rows_mono (fun x l h' => Rp_keep hF hw t x l (t.pure_okN (Ty.elt_pure h.1)) h') h.2.2⟩
  | .own _ i, _, l, hn, h => by
    have hn : mu' i = mu i := hn
    show l = _
    rw [hn]; exact h
  | .ptr i o, _, l, hn, h => by
    have hn : mu' i = mu i := hn
    show l = _
    rw [hn]; exact h
  | .eptr t o, x, l, hn, h => by
    obtain ⟨he, b, o', cells, e, hb, hr, hat⟩ := h
    exact ⟨he, b, o', cells, e, hF b hb, Rp_keep hF hw t x cells (t.pure_okN (Ty.elt_pure he)) hr, hat.keep (hw b hb)⟩
  | .rptr t i o, x, l, hn, h => by
    have hn : mu' i = mu i := hn
    obtain ⟨b, n, c, e, hh⟩ := h
    exact ⟨b, n, c, by rw [hn]; exact e, hh⟩
  | .aptr t m i b o, x, l, hn, h => by
    have hn : mu' i = mu i := hn
    refine ⟨h.1, ?_⟩
    rw [hn]; exact h.2
  | .fn f c, x, l, hn, h => by
    obtain ⟨vs, e, hr⟩ := h
    exact ⟨vs, e, Rp_keep hF hw c x vs hn hr⟩
  | .unit, _, l, _, h => h
  | .pair a b, x, l, hn, h => by
    obtain ⟨l1, l2, e, h1, h2⟩ := h
    exact ⟨l1, l2, e, Rp_keep hF hw a _ _ hn.1 h1, Rp_keep hF hw b _ _ hn.2 h2⟩
  | .tnil, _, l, _, h => h
  | .tcons a b, x, l, hn, h => by
    obtain ⟨v, vs, e, h1, h2⟩ := h
    refine ⟨v, vs, e, ?_, Rp_keep hF hw b _ _ hn.2 h2⟩
    revert h1
    cases a.vk with
    | dead => exact id
    | agg => rintro ⟨hc, cs, e, h⟩; exact ⟨hc, cs, e, Rp_keep hF hw a _ _ hn.1 h⟩
    | tup => exact id
    | one => exact fun h => Rp_keep hF hw a _ _ hn.1 h
theorem VR_keep {w w' : World} {Fr Fr' : Nat → Prop} {mu mu' : Nat → Loc} (hF : ∀ b, Fr b → Fr' b) (hw : ∀ b, Fr b → w'.heap[b]? = w.heap[b]?)
    {d : Dyn} {v : Value} (hn : d.t.okN (fun i => mu' i = mu i)) (h : VR w Fr mu d v) : VR w' Fr' mu' d v := by
  unfold VR at *
  split at h
  · trivial
  · obtain ⟨hc, cs, e, h⟩ := h; exact ⟨hc, cs, e, Rp_keep hF hw _ _ _ hn h⟩
  · obtain ⟨cs, e, h⟩ := h; exact ⟨cs, e, Rp_keep hF hw _ _ _ hn h⟩
  · exact Rp_keep hF hw _ _ _ hn h
end Go.Abs
set_option autoImplicit false
set_option linter.unusedVariables false
namespace Go.Abs
section
variable {w w' : World} {Fr Fr' : Nat → Prop} {mu mu' : Nat → Loc}
def LeafOK (w : World) (Fr : Nat → Prop) (mu : Nat → Loc) (d : Dyn) (l : List Value) : Prop :=
  (d.t.vk = .one ∨ d.t = .dead) ∧ d.t.cel = true ∧ Rp w Fr mu d.t d.x l
structure TrOK (w : World) (Fr : Nat → Prop) (mu : Nat → Loc) (w' : World) (Fr' : Nat → Prop) (mu' : Nat → Loc) (r : Tr) (p : Nat → Prop) : Prop where
  fr : ∀ b, Fr b → Fr' b
  wd : ∀ b, Fr b → w'.heap[b]? = w.heap[b]?
  own : ∀ t i, p i → LeafOK w' Fr' mu' (r.own t i) [(mu i).hdr]
  rptr : ∀ t i o x l, p i → Rp w Fr mu (.rptr t i o) x l → LeafOK w' Fr' mu' (r.rptr t i o x) l
  ptr : ∀ i o, p i → LeafOK w' Fr' mu' (r.ptr i o) [.pointer (some ⟨(mu i).loc, o, none⟩)]
  aptr : ∀ t m i b o x l, p i → Rp w Fr mu (.aptr t m i b o) x l → LeafOK w' Fr' mu' (r.aptr t m i b o x) l
structure TrT (r : Tr) : Prop where
  own : ∀ t i, ((r.own t i).t.vk = .one ∨ (r.own t i).t = .dead) ∧ (r.own t i).t.cel = true
  rptr : ∀ t i o x, ((r.rptr t i o x).t.vk = .one ∨ (r.rptr t i o x).t = .dead) ∧ (r.rptr t i o x).t.cel = true
  ptr : ∀ i o, ((r.ptr i o).t.vk = .one ∨ (r.ptr i o).t = .dead) ∧ (r.ptr i o).t.cel = true
  aptr : ∀ t m i b o x, ((r.aptr t m i b o x).t.vk = .one ∨ (r.aptr t m i b o x).t = .dead) ∧ (r.aptr t m i b o x).t.cel = true
theorem vk_app {r : Tr} (h : TrT r) :
    ∀ (t : Ty) (x : den t), (r.app t x).t.vk = t.vk ∨ (t.vk = .one ∧ (r.app t x).t = .dead)
  | .own t i, _ => (h.own t i).1.imp id fun e => ⟨rfl, e⟩
  | .rptr t i o, x => (h.rptr t i o x).1.imp id fun e => ⟨rfl, e⟩
  | .ptr i o, _ => (h.ptr i o).1.imp id fun e => ⟨rfl, e⟩
  | .aptr t m i b o, x => (h.aptr t m i b o x).1.imp id fun e => ⟨rfl, e⟩
  | .fn _ _, _ => .inl rfl
  | .pair _ _, _ => .inl rfl
  | .tcons _ _, _ => .inl rfl
  | .eptr _ _, _ => .inl rfl | .list _, _ => .inl rfl | .arr _ _, _ => .inl rfl | .mp _, _ => .inl rfl | .dead, _ => .inl rfl | .nil _, _ => .inl rfl | .nilptr, _ => .inl rfl | .nilfn, _ => .inl rfl | .bool, _ => .inl rfl | .int _, _ => .inl rfl | .str, _ => .inl rfl | .unit, _ => .inl rfl | .tnil, _ => .inl rfl
theorem chain_app (r : Tr) : ∀ (t : Ty) (x : den t), t.chain = true → (r.app t x).t.chain = true
  | .pair _ _, _, _ => rfl
  | .unit, _, _ => rfl
theorem cel_app {r : Tr} (h : TrT r) : ∀ (t : Ty) (x : den t), t.cel = true → (r.app t x).t.cel = true
  | .own t i, _, _ => (h.own t i).2
  | .rptr t i o, x, _ => (h.rptr t i o x).2
  | .ptr i o, _, _ => (h.ptr i o).2
  | .aptr t m i b o, x, _ => (h.aptr t m i b o x).2
  | .fn _ _, _, _ => rfl
  | .pair a b, x, hc => by
    simp only [Ty.cel, Bool.and_eq_true] at hc
    show ((r.app a x.1).t.cel && (r.app b x.2).t.cel && (r.app b x.2).t.chain) = true
    rw [cel_app h a _ hc.1.1, cel_app h b _ hc.1.2, chain_app r b _ hc.2]; rfl
  | .eptr _ _, _, h => h | .list _, _, h => h | .arr _ _, _, h => h | .mp _, _, h => h | .dead, _, h => h | .nil _, _, h => h | .nilptr, _, h => h | .nilfn, _, h => h | .bool, _, h => h | .int _, _, h => h | .str, _, h => h | .unit, _, h => h
theorem Rp_tr {r : Tr} {p : Nat → Prop} (hT : TrT r) (h : TrOK w Fr mu w' Fr' mu' r p) : ∀ (t : Ty) (x : den t) (l : List Value), t.okN p → Rp w Fr mu t x l → Rp w' Fr' mu' (r.app t x).t (r.app t x).x l
  | .own t i, _, l, hn, hr => by
    cases hr
    exact (h.own t i hn).2.2
  | .rptr t i o, x, l, hn, hr => (h.rptr t i o x l hn hr).2.2
  | .ptr i o, _, l, hn, hr => by
    cases hr
    exact (h.ptr i o hn).2.2
  | .aptr t m i b o, x, l, hn, hr => (h.aptr t m i b o x l hn hr).2.2
  | .fn f c, x, l, hn, hr => by
    obtain ⟨vs, e, hr⟩ := hr
    exact ⟨vs, e, Rp_tr hT h c x vs hn hr⟩
  | .pair a b, x, l, hn, hr => by
    obtain ⟨l1, l2, e, h1, h2⟩ := hr
    exact ⟨l1, l2, e, Rp_tr hT h a _ _ hn.1 h1, Rp_tr hT h b _ _ hn.2 h2⟩
  | .tcons a b, x, l, hn, hr => by
    obtain ⟨v, vs, e, h1, h2⟩ := hr
    refine ⟨v, vs, e, ?_, Rp_tr hT h b _ _ hn.2 h2⟩
    have hv := vk_app hT a x.1
    rcases hv with hv | ⟨hv, hd⟩
    · show (match (r.app a x.1).t.vk with | .dead => True | .agg => _ | .tup => False | .one => _)
      rw [hv]
      revert h1
      cases ha : a.vk with
      | dead => exact id
      | agg => rintro ⟨hc, cs, e, h'⟩; exact ⟨cel_app hT a _ hc, cs, e, Rp_tr hT h a _ _ hn.1 h'⟩
      | tup => exact id
      | one => exact fun h' => Rp_tr hT h a _ _ hn.1 h'
    · have hd' : (r.app a x.1).t.vk = .dead := by rw [hd]; rfl
      show (match (r.app a x.1).t.vk with | .dead => True | .agg => _ | .tup => False | .one => _)
      rw [hd']; trivial
  | .list t, xs, l, hn, hr => Rp_keep h.fr h.wd (.list t) xs l trivial hr
  | .arr n t, xs, l, hn, hr => Rp_keep h.fr h.wd (.arr n t) xs l trivial hr
  | .eptr t o, x, l, hn, hr => Rp_keep h.fr h.wd (.eptr t o) x l trivial hr
  | .mp t, m, l, hn, hr => Rp_keep h.fr h.wd (.mp t) m l trivial hr
  | .dead, _, l, _, hr => hr | .nil _, _, l, _, hr => hr | .nilptr, _, l, _, hr => hr | .nilfn, _, l, _, hr => hr | .bool, _, l, _, hr => hr | .int _, _, l, _, hr => hr | .str, _, l, _, hr => hr | .unit, _, l, _, hr => hr | .tnil, _, l, _, hr => hr
theorem VR_tr {r : Tr} {p : Nat → Prop} (hT : TrT r) (h : TrOK w Fr mu w' Fr' mu' r p) {d : Dyn} {v : Value} (hn : d.t.okN p) (hv : VR w Fr mu d v) : VR w' Fr' mu' (r.dyn d) v := by
  obtain ⟨t, x⟩ := d
  have hk := vk_app hT t x
  unfold VR at *
  simp only [Tr.dyn]
  rcases hk with hk | ⟨hk, hd⟩
  · rw [hk]
    revert hv
    cases ht : t.vk with
    | dead => exact id
    | agg => rintro ⟨hc, cs, e, h'⟩; exact ⟨cel_app hT t _ hc, cs, e, Rp_tr hT h t _ _ hn h'⟩
    | tup => rintro ⟨cs, e, h'⟩; exact ⟨cs, e, Rp_tr hT h t _ _ hn h'⟩
    | one => exact fun h' => Rp_tr hT h t _ _ hn h'
  · have hd' : (r.app t x).t.vk = .dead := by rw [hd]; rfl
    rw [hd']; trivial
end
theorem okN_app {r : Tr} {p q : Nat → Prop} (ho : ∀ t i, p i → (r.own t i).t.okN q) (hr : ∀ t i o x, p i → (r.rptr t i o x).t.okN q) (hp : ∀ i o, p i → (r.ptr i o).t.okN q) (ha : ∀ t m i b o x, p i → (r.aptr t m i b o x).t.okN q) :
    ∀ (t : Ty) (x : den t), t.okN p → (r.app t x).t.okN q
  | .own t i, _, h => ho t i h
  | .rptr t i o, x, h => hr t i o x h
  | .ptr i o, _, h => hp i o h
  | .aptr t m i b o, x, h => ha t m i b o x h
  | .fn _ c, x, h => okN_app ho hr hp ha c x h
  | .pair a b, x, h => ⟨okN_app ho hr hp ha a _ h.1, okN_app ho hr hp ha b _ h.2⟩
  | .tcons a b, x, h => ⟨okN_app ho hr hp ha a _ h.1, okN_app ho hr hp ha b _ h.2⟩
  | .eptr _ _, _, _ => trivial | .list _, _, _ => trivial | .arr _ _, _, _ => trivial | .mp _, _, _ => trivial | .dead, _, _ => trivial | .nil _, _, _ => trivial | .nilptr, _, _ => trivial | .nilfn, _, _ => trivial | .bool, _, _ => trivial | .int _, _, _ => trivial | .str, _, _ => trivial | .unit, _, _ => trivial | .tnil, _, _ => trivial
structure Grow (O : Nat → Prop) (w w' : World) : Prop where
  os : w'.os = w.os
  tape : w'.tape = w.tape
  output : w'.output = w.output
  size : w.heap.size ≤ w'.heap.size
  block : ∀ k, k < w.heap.size → ¬ O k → w'.heap[k]? = w.heap[k]?
theorem Grow.refl (O : Nat → Prop) (w : World) : Grow O w w := ⟨rfl, rfl, rfl, Nat.le_refl _, fun _ _ _ => rfl⟩
theorem Grow.trans {O : Nat → Prop} {a b c : World} {O' : Nat → Prop} (h : Grow O a b) (h' : Grow O' b c) (ho : ∀ k, k < a.heap.size → O' k → O k) : Grow O a c :=
  ⟨h'.os.trans h.os, h'.tape.trans h.tape, h'.output.trans h.output, Nat.le_trans h.size h'.size, fun k hk hn =>
    (h'.block k (Nat.lt_of_lt_of_le hk h.size) (fun hk' => hn (ho k hk hk'))).trans (h.block k hk hn)⟩
theorem Grow.drew {O : Nat → Prop} (w : World) : Grow O w w.drew := ⟨rfl, rfl, rfl, Nat.le_refl _, fun _ _ _ => rfl⟩
structure Env where
  w0 : World
  Fr0 : Nat → Prop
  O0 : Nat → Prop
  mu0 : Nat → Loc
  m : Nat
  ds : List Deferred := []
def Handed (L L0 : Loc) : AObj → Prop
  | ⟨.box _, _⟩ => L = L0
  | ⟨.row _ _ true, _⟩ => L = L0
  | ⟨.held, _⟩ => L = L0
  | _ => True
structure SI (E : Env) (w : World) (Fr : Nat → Prop) (mu : Nat → Loc) (h : List AObj) : Prop where
  grow : Grow E.O0 E.w0 w
  fr0 : ∀ b, E.Fr0 b → Fr b
  frN : ∀ b, Fr b → E.Fr0 b ∨ E.O0 b ∨ E.w0.heap.size ≤ b
  frL : ∀ b, Fr b → b < w.heap.size
  hh : ∀ i, (mu i).hdr.oneCell' = true
  obj : ∀ (i : Nat) (o : AObj), h[i]? = some o → OR w Fr mu i o
  nm : ∀ (i : Nat) (t : Ty) (x : den t), h[i]? = some (⟨.box t, x⟩ : AObj) → t.okN (· < h.length)
  sep : ∀ (i j : Nat) (o o' : AObj), h[i]? = some o → h[j]? = some o' → i ≠ j → occ mu i o → occ mu j o' → (mu i).loc ≠ (mu j).loc
  own : ∀ (i : Nat) (o : AObj), h[i]? = some o → occ mu i o → (E.O0 (mu i).loc ∨ E.w0.heap.size ≤ (mu i).loc) ∧ ¬ Fr (mu i).loc ∧ (mu i).loc < w.heap.size
  hand : ∀ (i : Nat) (o : AObj), i < E.m → h[i]? = some o → Handed (mu i) (E.mu0 i) o
  len : E.m ≤ h.length
  gl : Gl w Fr
structure Rep (E : Env) (w : World) (Fr : Nat → Prop) (mu : Nat → Loc) (s : St) (a : Act) : Prop where
  si : SI E w Fr mu s.heap
  tm : ∀ u d, (u, d) ∈ s.tmps → u < a.tmps.size ∧ VR w Fr mu d (a.tmps.getD u undef) ∧ d.t.okN (· < s.heap.length)
  df : a.defers = E.ds
  so : (s.tmps.map (·.1)).Pairwise (· < ·)
theorem getT_mem : ∀ {l : List (Nat × Dyn)} {t : Nat}, (t, getT l t) ∈ l ∨ getT l t = nope
  | [], _ => .inr rfl
  | (u, d) :: l, t => by
    unfold getT
    split
    · rename_i h; subst h; exact .inl (by simp)
    · exact (getT_mem (l := l) (t := t)).imp (fun h => List.mem_cons_of_mem _ h) id
theorem mem_putT : ∀ {l : List (Nat × Dyn)} {t u : Nat} {v d : Dyn}, (u, d) ∈ putT l t v → (u = t ∧ d = v) ∨ (u, d) ∈ l
  | [], t, u, v, d, h => by simp [putT] at h; exact .inl h
  | (u', d') :: l, t, u, v, d, h => by
    unfold putT at h
    split at h
    · rcases List.mem_cons.1 h with h | h
      · left; injection h with h1 h2; exact ⟨h1, h2⟩
      · exact .inr h
    · split at h
      · rcases List.mem_cons.1 h with h | h
        · left; injection h with h1 h2; exact ⟨h1, h2⟩
        · exact .inr (List.mem_cons_of_mem _ h)
      · rcases List.mem_cons.1 h with h | h
        · exact .inr (by rw [h]; exact List.mem_cons_self)
        · exact (mem_putT h).imp id fun h => List.mem_cons_of_mem _ h
theorem mem_putT_ne : ∀ {l : List (Nat × Dyn)} {t u : Nat} {v d : Dyn}, (l.map (·.1)).Pairwise (· < ·) → (u, d) ∈ putT l t v → (u = t ∧ d = v) ∨ ((u, d) ∈ l ∧ u ≠ t)
  | [], t, u, v, d, _, h => by simp [putT] at h; exact .inl h
  | (u', d') :: l, t, u, v, d, hs, h => by
    simp only [List.map_cons, List.pairwise_cons, List.mem_map] at hs
    have hlt : ∀ p ∈ l, u' < p.1 := fun p hp => hs.1 _ ⟨p, hp, rfl⟩
    unfold putT at h
    split at h
    · rename_i htu
      rcases List.mem_cons.1 h with h | h
      · left; injection h with h1 h2; exact ⟨h1, h2⟩
      · refine .inr ⟨h, ?_⟩
        rcases List.mem_cons.1 h with h | h
        · injection h with h1 h2; omega
        · have := hlt _ h; simp at this; omega
    · rename_i hnl
      split at h
      · rename_i he
        rcases List.mem_cons.1 h with h | h
        · left; injection h with h1 h2; exact ⟨h1, h2⟩
        · refine .inr ⟨List.mem_cons_of_mem _ h, ?_⟩
          have := hlt _ h; simp at this; omega
      · rename_i hne
        rcases List.mem_cons.1 h with h | h
        · injection h with h1 h2
          exact .inr ⟨by rw [h1, h2]; exact List.mem_cons_self, by omega⟩
        · exact (mem_putT_ne hs.2 h).imp id fun h => ⟨List.mem_cons_of_mem _ h.1, h.2⟩
end Go.Abs
set_option autoImplicit false
set_option linter.unusedVariables false
namespace Go.Abs
def Mine (mu : Nat → Loc) (h : List AObj) (b : Nat) : Prop := ∃ (i : Nat) (o : AObj), h[i]? = some o ∧ occ mu i o ∧ b = (mu i).loc
theorem SI.frKeep {E : Env} {w : World} {Fr : Nat → Prop} {mu : Nat → Loc} {h : List AObj} (H : SI E w Fr mu h) {w' : World} (hg : Grow (Mine mu h) w w') (b : Nat) (hb : Fr b) : w'.heap[b]? = w.heap[b]? :=
  hg.block b (H.frL b hb) (fun ⟨i, o, hi, ho, e⟩ => (H.own i o hi ho).2.1 (e ▸ hb))
structure SO (w : World) (Fr : Nat → Prop) (mu : Nat → Loc) (h : List AObj) : Prop where
  hh : ∀ i, (mu i).hdr.oneCell' = true
  obj : ∀ (i : Nat) (o : AObj), h[i]? = some o → OR w Fr mu i o
  nm : ∀ (i : Nat) (t : Ty) (x : den t), h[i]? = some (⟨.box t, x⟩ : AObj) → t.okN (· < h.length)
  sep : ∀ (i j : Nat) (o o' : AObj), h[i]? = some o → h[j]? = some o' → i ≠ j → occ mu i o → occ mu j o' → (mu i).loc ≠ (mu j).loc
  own : ∀ (i : Nat) (o : AObj), h[i]? = some o → occ mu i o → ¬ Fr (mu i).loc ∧ (mu i).loc < w.heap.size
theorem SI.chg2 {E : Env} {w : World} {Fr : Nat → Prop} {mu : Nat → Loc} {h : List AObj} (H : SI E w Fr mu h) {w' : World} {Fr' : Nat → Prop} {mu' : Nat → Loc} {h' : List AObj}
    (hg : Grow (Mine mu h) w w') (hF : ∀ b, Fr b → Fr' b) (hF' : ∀ b, Fr' b → Fr b ∨ Mine mu h b ∨ w.heap.size ≤ b) (hL : ∀ b, Fr' b → b < w'.heap.size) (hl : h.length ≤ h'.length) (hso : SO w' Fr' mu' h')
    (hown : ∀ (i : Nat) (o' : AObj), h'[i]? = some o' → occ mu' i o' → Mine mu h (mu' i).loc ∨ w.heap.size ≤ (mu' i).loc)
    (hhand : ∀ (i : Nat) (o : AObj), i < E.m → h'[i]? = some o → Handed (mu' i) (E.mu0 i) o) : SI E w' Fr' mu' h' where
  grow := H.grow.trans hg (fun k hk ⟨i, o, hi, ho, e⟩ => by
    have := (H.own i o hi ho).1
    rw [← e] at this
    exact this.resolve_right (by omega))
  fr0 b hb := hF b (H.fr0 b hb)
  frN b hb := by
    rcases hF' b hb with hb | ⟨i, o, hi, ho, e⟩ | hb
    · exact H.frN b hb
    · subst e; exact .inr (H.own i o hi ho).1
    · exact .inr (.inr (Nat.le_trans H.grow.size hb))
  frL := hL
  hh := hso.hh
  obj := hso.obj
  nm := hso.nm
  sep := hso.sep
  own i o hi ho := by
    refine ⟨?_, hso.own i o hi ho⟩
    rcases hown i o hi ho with ⟨j, o0, hj, ho0, e⟩ | h3
    · rw [e]; exact (H.own j o0 hj ho0).1
    · exact .inr (Nat.le_trans H.grow.size h3)
  hand := hhand
  len := Nat.le_trans H.len hl
  gl := H.gl.keep hF (fun b hb => hg.block b (H.frL b hb) fun ⟨i, o, hi, ho, e⟩ => (H.own i o hi ho).2.1 (e ▸ hb))
theorem SI.chg {E : Env} {w : World} {Fr : Nat → Prop} {mu : Nat → Loc} {h : List AObj} (H : SI E w Fr mu h) {w' : World} {Fr' : Nat → Prop} {mu' : Nat → Loc} {h' : List AObj}
    (hg : Grow (Mine mu h) w w') (hF : ∀ b, Fr b → Fr' b) (hF' : ∀ b, Fr' b → Fr b ∨ Mine mu h b)
    (hh : ∀ i, (mu' i).hdr.oneCell' = true) (hl : h.length ≤ h'.length)
    (hobj : ∀ (i : Nat) (o' : AObj), h'[i]? = some o' → OR w' Fr' mu' i o')
    (hown : ∀ (i : Nat) (o' : AObj), h'[i]? = some o' → occ mu' i o' → (mu' i).loc < w'.heap.size ∧ ¬ Fr' (mu' i).loc ∧
      ((∃ o, h[i]? = some o ∧ occ mu i o ∧ (mu' i).loc = (mu i).loc) ∨ w.heap.size ≤ (mu' i).loc))
    (hnm : ∀ (i : Nat) (t : Ty) (x : den t), h'[i]? = some (⟨.box t, x⟩ : AObj) → t.okN (· < h'.length))
    (hhand : ∀ (i : Nat) (o : AObj), i < E.m → h'[i]? = some o → Handed (mu' i) (E.mu0 i) o)
    (hsep : ∀ (i j : Nat) (o o' : AObj), h'[i]? = some o → h'[j]? = some o' → i ≠ j → occ mu' i o → occ mu' j o' → w.heap.size ≤ (mu' i).loc → w.heap.size ≤ (mu' j).loc → (mu' i).loc ≠ (mu' j).loc) :
    SI E w' Fr' mu' h' where
  grow := H.grow.trans hg (fun k hk ⟨i, o, hi, ho, e⟩ => by
    have := (H.own i o hi ho).1
    rw [← e] at this
    exact this.resolve_right (by omega))
  fr0 b hb := hF b (H.fr0 b hb)
  frN b hb := by
    rcases hF' b hb with hb | ⟨i, o, hi, ho, e⟩
    · exact H.frN b hb
    · subst e; exact .inr (H.own i o hi ho).1
  frL b hb := by
    refine Nat.lt_of_lt_of_le ?_ hg.size
    rcases hF' b hb with hb | ⟨i, o, hi, ho, e⟩
    · exact H.frL b hb
    · subst e; exact (H.own i o hi ho).2.2
  hh := hh
  obj := hobj
  nm := hnm
  sep i j o o' hi hj hne ho ho' := by
    rcases (hown i o hi ho).2.2 with ⟨oi, hi0, ho0, e⟩ | hfi
    · rcases (hown j o' hj ho').2.2 with ⟨oj, hj0, ho0', e'⟩ | hfj
      · rw [e, e']; exact H.sep i j oi oj hi0 hj0 hne ho0 ho0'
      · have := (H.own i oi hi0 ho0).2.2
        omega
    · rcases (hown j o' hj ho').2.2 with ⟨oj, hj0, ho0', e'⟩ | hfj
      · have := (H.own j oj hj0 ho0').2.2
        omega
      · exact hsep i j o o' hi hj hne ho ho' hfi hfj
  own i o hi ho := by
    obtain ⟨h1, h2, h3⟩ := hown i o hi ho
    refine ⟨?_, h2, h1⟩
    rcases h3 with ⟨o0, hi0, ho0, e⟩ | h3
    · rw [e]; exact (H.own i o0 hi0 ho0).1
    · exact .inr (Nat.le_trans H.grow.size h3)
  hand := hhand
  len := Nat.le_trans H.len hl
  gl := H.gl.keep hF (fun b hb => hg.block b (H.frL b hb) fun ⟨i, o, hi, ho, e⟩ => (H.own i o hi ho).2.1 (e ▸ hb))
theorem RowAt.keep {w w' : World} {L : Loc} {e width n : Nat} {cells : List Value} (h : RowAt w L e width n cells) (hb : L.hdr.ownBlock = some L.loc → w'.heap[L.loc]? = w.heap[L.loc]?) : RowAt w' L e width n cells := by
  rcases h with h | ⟨h0, h1, h2⟩
  · exact .inl h
  · refine .inr ⟨h0, h1, ?_⟩
    rcases h2 with h2 | ⟨g, cap, cur, hv, hb0, hg, rest⟩
    · exact .inl h2
    · refine .inr ⟨g, cap, cur, hv, hb0, ?_, rest⟩
      have hgl : L.loc = g := by rw [hv] at h0; injection h0 with h0; exact h0.symm
      rw [← hgl, hb h0, hgl]; exact hg
theorem OR_tr {w w' : World} {Fr Fr' : Nat → Prop} {mu mu' : Nat → Loc} {r : Tr} {p : Nat → Prop} (hT : TrT r) (h : TrOK w Fr mu w' Fr' mu' r p) {i i' : Nat} (hi : mu' i' = mu i) {o : AObj}
    (hn : ∀ (t : Ty) (x : den t), o = ⟨.box t, x⟩ → t.okN p) (hb : occ mu i o → w'.heap[(mu i).loc]? = w.heap[(mu i).loc]?) (ho : OR w Fr mu i o) : OR w' Fr' mu' i' (r.obj o) := by
  obtain ⟨t, x⟩ := o
  cases t with
  | gone => trivial
  | held => trivial
  | box t =>
    obtain ⟨hc, cells, e, hcell, hr⟩ := ho
    exact ⟨cel_app hT t x hc, cells, e, by rw [hi]; rw [hb trivial]; exact hcell, Rp_tr hT h t x cells (hn t x rfl) hr⟩
  | row e t f =>
    obtain ⟨he, cells, hr, hat⟩ := ho
    exact ⟨he, cells, rows_mono (fun x l hr => Rp_keep h.fr h.wd t x l (t.pure_okN (Ty.elt_pure he)) hr) hr, by rw [hi]; exact hat.keep hb⟩
theorem OR_keep {w w' : World} {Fr Fr' : Nat → Prop} {mu mu' : Nat → Loc} (hF : ∀ b, Fr b → Fr' b) (hw : ∀ b, Fr b → w'.heap[b]? = w.heap[b]?) {i : Nat} (hi : mu' i = mu i) {o : AObj}
    (hn : ∀ (t : Ty) (x : den t), o = ⟨.box t, x⟩ → t.okN (fun i => mu' i = mu i)) (hb : occ mu i o → w'.heap[(mu i).loc]? = w.heap[(mu i).loc]?) (ho : OR w Fr mu i o) : OR w' Fr' mu' i o := by
  obtain ⟨t, x⟩ := o
  cases t with
  | gone => trivial
  | held => trivial
  | box t =>
    obtain ⟨hc, cells, e, hcell, hr⟩ := ho
    exact ⟨hc, cells, e, by rw [hi]; rw [hb trivial]; exact hcell, Rp_keep hF hw t x cells (hn t x rfl) hr⟩
  | row e t f =>
    obtain ⟨he, cells, hr, hat⟩ := ho
    exact ⟨he, cells, rows_mono (fun x l hr => Rp_keep hF hw t x l (t.pure_okN (Ty.elt_pure he)) hr) hr, by rw [hi]; exact hat.keep hb⟩
theorem Rep.get {E : Env} {w : World} {Fr : Nat → Prop} {mu : Nat → Loc} {s : St} {a : Act} (H : Rep E w Fr mu s a) (t : Nat) : VR w Fr mu (getT s.tmps t) (a.tmps.getD t undef) ∧ (getT s.tmps t).t.okN (· < s.heap.length) := by
  rcases getT_mem (l := s.tmps) (t := t) with h | h
  · exact (H.tm _ _ h).2
  · rw [h]; exact ⟨trivial, trivial⟩
theorem VR_const {w : World} {Fr : Nat → Prop} {mu : Nat → Loc} (v : Value) : VR w Fr mu (ofConst v) v := by
  unfold ofConst
  split <;> first | rfl | trivial
theorem ofConst_ok {p : Nat → Prop} (v : Value) : (ofConst v).t.okN p := by
  unfold ofConst
  split <;> trivial
theorem Rep.op {E : Env} {w : World} {Fr : Nat → Prop} {mu : Nat → Loc} {s : St} {a : Act} (H : Rep E w Fr mu s a) (x : Operand) : VR w Fr mu (s.get x) (a.eval x) ∧ (s.get x).t.okN (· < s.heap.length) := by
  cases x with
  | tmp t => exact H.get t
  | const v => exact ⟨VR_const v, ofConst_ok v⟩
  | global g => exact ⟨trivial, trivial⟩
  | func f => exact ⟨⟨[], rfl, rfl⟩, trivial⟩
theorem size_put (a : Act) (d : Option Tmp) (v : Value) : (a.put d v).tmps.size = a.tmps.size := by cases d <;> simp [Act.put]
theorem put_defers (a : Act) (d : Option Tmp) (v : Value) : (a.put d v).defers = a.defers := by cases d <;> rfl
theorem map_putT_lt : ∀ {l : List (Nat × Dyn)} {t : Nat} {v : Dyn} {k : Nat}, (∀ p ∈ l, k < p.1) → k < t → ∀ p ∈ putT l t v, k < p.1 := by
  intro l t v k hl ht p hp
  rcases mem_putT (u := p.1) (d := p.2) hp with ⟨h, _⟩ | h
  · omega
  · exact hl _ h
theorem sorted_putT : ∀ {l : List (Nat × Dyn)} {t : Nat} {v : Dyn}, (l.map (·.1)).Pairwise (· < ·) → ((putT l t v).map (·.1)).Pairwise (· < ·)
  | [], _, _, _ => by simp [putT]
  | (u, d) :: l, t, v, h => by
    have h0 := h
    simp only [List.map_cons, List.pairwise_cons, List.mem_map] at h
    have hlt : ∀ p ∈ l, u < p.1 := fun p hp => h.1 _ ⟨p, hp, rfl⟩
    unfold putT
    split
    · rename_i htu
      simp only [List.map_cons, List.pairwise_cons]
      refine ⟨?_, by simpa using h0⟩
      intro a ha
      rcases List.mem_cons.1 ha with ha | ha
      · omega
      · obtain ⟨p, hp, rfl⟩ := List.mem_map.1 ha
        have := hlt p hp; omega
    · rename_i hnl
      split
      · rename_i he
        subst he
        simp only [List.map_cons, List.pairwise_cons, List.mem_map]
        exact ⟨h.1, h.2⟩
      · rename_i hne
        simp only [List.map_cons, List.pairwise_cons, List.mem_map]
        refine ⟨?_, sorted_putT h.2⟩
        rintro a ⟨p, hp, rfl⟩
        exact map_putT_lt hlt (by omega) p hp
theorem Rep.put {E : Env} {w : World} {Fr : Nat → Prop} {mu : Nat → Loc} {s : St} {a : Act} (H : Rep E w Fr mu s a) (dst : Option Tmp) (hd : ∀ t, dst = some t → t < a.tmps.size) {d : Dyn} {v : Value}
    (hv : VR w Fr mu d v) (hn : d.t.okN (· < s.heap.length)) : Rep E w Fr mu (s.put dst d) (a.put dst v) := by
  cases dst with
  | none => exact H
  | some t =>
    refine ⟨H.si, fun u d' hm => ?_, H.df, sorted_putT H.so⟩
    rcases mem_putT_ne H.so hm with ⟨rfl, rfl⟩ | ⟨hm, hne⟩
    · refine ⟨by rw [size_put]; exact hd _ rfl, ?_, hn⟩
      have := hd _ rfl
      simp only [Act.put]
      simpa [this] using hv
    · obtain ⟨h1, h2, h3⟩ := H.tm u d' hm
      refine ⟨by rw [size_put]; exact h1, ?_, h3⟩
      simp only [Act.put]
      rw [show (a.tmps.setIfInBounds t v).getD u undef = a.tmps.getD u undef by simp [Array.getElem?_setIfInBounds_ne (Ne.symm hne)]]
      exact h2
theorem Rep.world {E : Env} {w w' : World} {Fr : Nat → Prop} {mu : Nat → Loc} {s : St} {a : Act} (H : Rep E w Fr mu s a) (hg : Grow (fun _ => False) w w') : Rep E w' Fr mu s a := by
  have hw : ∀ b, Fr b → w'.heap[b]? = w.heap[b]? := fun b hb => hg.block b (H.si.frL b hb) id
  refine ⟨H.si.chg ⟨hg.os, hg.tape, hg.output, hg.size, fun k hk _ => hg.block k hk id⟩ (fun _ => id) (fun _ => .inl) H.si.hh (Nat.le_refl _) ?_ ?_ H.si.nm H.si.hand ?_, ?_, H.df, H.so⟩
  · intro i o hi
    refine OR_keep (fun _ => id) hw rfl (fun t x _ => Ty.okN_all (fun _ => rfl) t) (fun ho => hg.block _ (H.si.own i o hi ho).2.2 id) (H.si.obj i o hi)
  · intro i o hi ho
    obtain ⟨h1, h2, h3⟩ := H.si.own i o hi ho
    exact ⟨Nat.lt_of_lt_of_le h3 hg.size, h2, .inl ⟨o, hi, ho, rfl⟩⟩
  · intro i j o o' hi hj hne ho ho' hfi
    have := (H.si.own i o hi ho).2.2
    omega
  · intro u d hm
    obtain ⟨h1, h2, h3⟩ := H.tm u d hm
    exact ⟨h1, VR_keep (fun _ => id) hw (Ty.okN_all (fun _ => rfl) _) h2, h3⟩
end Go.Abs
set_option autoImplicit false
set_option linter.unusedVariables false
namespace Go.Abs
theorem Ty.cel_pair {a b : Ty} (h : (Ty.pair a b).cel = true) : a.cel = true ∧ b.cel = true ∧ b.chain = true := by
  simp only [Ty.cel, Bool.and_eq_true] at h; exact ⟨h.1.1, h.1.2, h.2⟩
theorem Ty.pair_cel {a b : Ty} (h : a.cel = true) (h' : b.cel = true) (h2 : b.chain = true) : (Ty.pair a b).cel = true := by
  simp only [Ty.cel, Bool.and_eq_true]; exact ⟨⟨h, h'⟩, h2⟩
section
variable {w : World} {Fr : Nat → Prop} {mu : Nat → Loc} {p : Nat → Prop}
structure CD (w : World) (Fr : Nat → Prop) (mu : Nat → Loc) (p : Nat → Prop) (d : Dyn) (l : List Value) : Prop where
  cel : d.t.cel = true
  ok : d.t.okN p
  rp : Rp w Fr mu d.t d.x l
theorem CD.len {d : Dyn} {l : List Value} (h : CD w Fr mu p d l) : l.length = d.t.width := Rp_len _ _ _ h.cel h.rp
theorem dropC_pair0 (a b : Ty) (x : den (.pair a b)) : dropC 0 (.pair a b) x = ⟨.pair a b, x⟩ := by unfold dropC; rw [if_pos rfl]
theorem dropC_pair {a b : Ty} {n : Nat} (x : den (.pair a b)) (h : n ≠ 0) : dropC n (.pair a b) x = if a.width ≤ n then dropC (n - a.width) b x.2 else nope := by rw [dropC]; rw [if_neg h]
theorem dropC_unit {n : Nat} (x : den .unit) (h : n ≠ 0) : dropC n .unit x = nope := by unfold dropC; rw [if_neg h]
theorem takeC_pair0 (a b : Ty) (x : den (.pair a b)) : takeC 0 (.pair a b) x = ⟨.unit, ()⟩ := by unfold takeC; rw [if_pos rfl]
theorem takeC_pair {a b : Ty} {n : Nat} (x : den (.pair a b)) (h : n ≠ 0) : takeC n (.pair a b) x =
    if a.width ≤ n then (if (takeC (n - a.width) b x.2).t.chain then ⟨.pair a (takeC (n - a.width) b x.2).t, (x.1, (takeC (n - a.width) b x.2).x)⟩ else nope) else nope := by rw [takeC]; rw [if_neg h]
theorem takeC_unit {n : Nat} (x : den .unit) (h : n ≠ 0) : takeC n .unit x = nope := by unfold takeC; rw [if_neg h]
theorem dropC_ok : ∀ (t : Ty) (n : Nat) (x : den t) (l : List Value), t.chain = true → CD w Fr mu p ⟨t, x⟩ l → (dropC n t x).t.alive = true →
    (dropC n t x).t.chain = true ∧ ∃ l1 l2, l = l1 ++ l2 ∧ l1.length = n ∧ CD w Fr mu p (dropC n t x) l2
  | .pair a b, n, x, l, hch, hr, ha => by
    obtain ⟨h1, h2, h3⟩ := Ty.cel_pair hr.cel
    by_cases h0 : n = 0
    · subst h0
      rw [dropC_pair0]
      exact ⟨rfl, [], l, rfl, rfl, hr⟩
    · rw [dropC_pair x h0] at ha ⊢
      by_cases hw : a.width ≤ n
      · rw [if_pos hw] at ha ⊢
        obtain ⟨l1, l2, e, ra, rb⟩ := hr.rp
        obtain ⟨c1, m1, m2, e2, em, rr⟩ := dropC_ok b (n - a.width) x.2 l2 h3 ⟨h2, hr.ok.2, rb⟩ ha
        refine ⟨c1, l1 ++ m1, m2, by rw [e, e2, List.append_assoc], ?_, rr⟩
        rw [List.length_append, Rp_len a _ _ h1 ra, em]; omega
      · rw [if_neg hw] at ha; cases ha
  | .unit, n, x, l, hch, hr, ha => by
    by_cases h0 : n = 0
    · subst h0
      exact ⟨rfl, [], l, rfl, rfl, hr⟩
    · rw [dropC_unit x h0] at ha; cases ha
theorem takeC_ok : ∀ (t : Ty) (n : Nat) (x : den t) (l : List Value), t.chain = true → CD w Fr mu p ⟨t, x⟩ l → (takeC n t x).t.chain = true →
    ∃ l1 l2, l = l1 ++ l2 ∧ l1.length = n ∧ CD w Fr mu p (takeC n t x) l1
  | .pair a b, n, x, l, hch, hr, ha => by
    obtain ⟨h1, h2, h3⟩ := Ty.cel_pair hr.cel
    by_cases h0 : n = 0
    · subst h0
      rw [takeC_pair0]
      exact ⟨[], l, rfl, rfl, rfl, trivial, rfl⟩
    · rw [takeC_pair x h0] at ha ⊢
      by_cases hw : a.width ≤ n
      · rw [if_pos hw] at ha ⊢
        by_cases hch' : (takeC (n - a.width) b x.2).t.chain = true
        · rw [if_pos hch'] at ha ⊢
          obtain ⟨l1, l2, e, ra, rb⟩ := hr.rp
          obtain ⟨m1, m2, e2, em, rr⟩ := takeC_ok b (n - a.width) x.2 l2 h3 ⟨h2, hr.ok.2, rb⟩ hch'
          refine ⟨l1 ++ m1, m2, by rw [e, e2, List.append_assoc], ?_, Ty.pair_cel h1 rr.cel hch', ⟨hr.ok.1, rr.ok⟩, l1, m1, rfl, ra, rr.rp⟩
          rw [List.length_append, Rp_len a _ _ h1 ra, em]; omega
        · rw [if_neg hch'] at ha; cases ha
      · rw [if_neg hw] at ha; cases ha
  | .unit, n, x, l, hch, hr, ha => by
    by_cases h0 : n = 0
    · subst h0
      exact ⟨[], l, rfl, rfl, rfl, trivial, rfl⟩
    · rw [takeC_unit x h0] at ha; cases ha
theorem catC_ok : ∀ (t : Ty) (x : den t) (l : List Value) (e : Dyn) (l' : List Value), t.chain = true → CD w Fr mu p ⟨t, x⟩ l → e.t.chain = true → CD w Fr mu p e l' →
    (catC t x e).t.chain = true ∧ CD w Fr mu p (catC t x e) (l ++ l')
  | .pair a b, x, l, e, l', hch, hr, h2, h => by
    obtain ⟨g1, g2, g3⟩ := Ty.cel_pair hr.cel
    obtain ⟨l1, l2, el, ra, rb⟩ := hr.rp
    obtain ⟨c2, c⟩ := catC_ok b x.2 l2 e l' g3 ⟨g2, hr.ok.2, rb⟩ h2 h
    exact ⟨rfl, Ty.pair_cel g1 c.cel c2, ⟨hr.ok.1, c.ok⟩, l1, l2 ++ l', by rw [el, List.append_assoc], ra, c.rp⟩
  | .unit, x, l, e, l', hch, hr, h2, h => by
    have := hr.rp
    cases this
    exact ⟨h2, h⟩
theorem headC_ok : ∀ (t : Ty) (x : den t) (l : List Value), CD w Fr mu p ⟨t, x⟩ l → (headC t x).t.alive = true →
    ∃ l1 l2, l = l1 ++ l2 ∧ CD w Fr mu p (headC t x) l1
  | .pair a b, x, l, hr, ha => by
    obtain ⟨l1, l2, el, ra, rb⟩ := hr.rp
    exact ⟨l1, l2, el, (Ty.cel_pair hr.cel).1, hr.ok.1, ra⟩
theorem toC_ok {d : Dyn} {l : List Value} (h : CD w Fr mu p d l) : d.toC.t.chain = true ∧ CD w Fr mu p d.toC l := by
  unfold Dyn.toC
  by_cases hc : d.t.chain = true
  · rw [if_pos hc]; exact ⟨hc, h⟩
  · rw [if_neg hc]; exact ⟨rfl, Ty.pair_cel h.cel rfl rfl, ⟨h.ok, trivial⟩, l, [], by simp, h.rp, rfl⟩
theorem takeC_nope {n : Nat} {x : den nope.t} : (takeC n nope.t x).t.chain = true → n = 0 := by
  by_cases h : n = 0
  · exact fun _ => h
  · unfold takeC; simp [nope, h, Ty.chain]
theorem chain_alive {t : Ty} (h : t.chain = true) : t.alive = true := by cases t <;> first | rfl | cases h
theorem part_ok {d : Dyn} {off n : Nat} {st : Bool} {l : List Value} (h : CD w Fr mu p d l) (ha : (d.part off n st).t.alive = true) (hz : st = true → 0 < n) (hch : st = true → (d.part off n st).t.chain = true) :
    ∃ l1 lp l2, l = l1 ++ (lp ++ l2) ∧ l1.length = off ∧ CD w Fr mu p (d.part off n st) lp := by
  unfold Dyn.part at ha hch ⊢
  by_cases hc : d.t.chain = true
  · rw [if_pos hc] at ha hch ⊢
    by_cases hd : (dropC off d.t d.x).t.alive = true
    · obtain ⟨c1, l1, l2, e, el, hr⟩ := dropC_ok d.t off d.x l hc h hd
      cases st with
      | true =>
        simp only [if_true] at ha hch ⊢
        obtain ⟨m1, m2, e2, em, rr⟩ := takeC_ok _ n _ l2 c1 hr (hch trivial)
        exact ⟨l1, m1, m2, by rw [e, e2], el, rr⟩
      | false =>
        simp only [Bool.false_eq_true, if_false] at ha hch ⊢
        obtain ⟨m1, m2, e2, rr⟩ := headC_ok _ _ l2 hr ha
        exact ⟨l1, m1, m2, by rw [e, e2], el, rr⟩
    · exfalso
      have hdead : ∀ r : Dyn, r.t.alive = false → (∀ m, (takeC m r.t r.x).t.chain = true → m = 0) ∧ (headC r.t r.x).t.alive = false := by
        rintro ⟨t, x⟩ hr
        cases t <;> first | (cases hr; done) | skip
        refine ⟨fun m hm => ?_, rfl⟩
        exact takeC_nope (x := x) hm
      have := hdead (dropC off d.t d.x) (by simpa using hd)
      cases st with
      | true =>
        simp only [if_true] at hch
        have := this.1 n (hch trivial)
        have := hz rfl
        omega
      | false =>
        simp only [Bool.false_eq_true, if_false] at ha
        rw [this.2] at ha; cases ha
  · rw [if_neg hc] at ha hch ⊢
    cases st with
    | true => simp only [if_true] at hch; cases hch trivial
    | false =>
      simp only [Bool.false_eq_true, if_false] at ha ⊢
      by_cases h0 : off = 0
      · rw [if_pos h0] at ha ⊢
        exact ⟨[], l, [], by simp, by simp [h0], h⟩
      · rw [if_neg h0] at ha; cases ha
theorem setPart_ok {d v : Dyn} {off : Nat} {l lv : List Value} (h : CD w Fr mu p d l) (hv : CD w Fr mu p v lv) (ha : (d.setPart off v).t.alive = true) (hw : (d.setPart off v).t.width = d.t.width) :
    ∃ l1 lm l2, l = l1 ++ (lm ++ l2) ∧ l1.length = off ∧ lm.length = lv.length ∧ (d.setPart off v).t.chain = d.t.chain ∧ CD w Fr mu p (d.setPart off v) (l1 ++ (lv ++ l2)) := by
  unfold Dyn.setPart at ha hw ⊢
  by_cases hc : d.t.chain = true
  · rw [if_pos hc] at ha hw ⊢
    dsimp only at ha hw ⊢
    obtain ⟨hvc, hvC⟩ := toC_ok hv
    by_cases hb : ((takeC off d.t d.x).t.chain && (dropC (off + v.toC.t.width) d.t d.x).t.chain) = true
    · rw [if_pos hb] at ha hw ⊢
      simp only [Bool.and_eq_true] at hb
      obtain ⟨l1, r1, e1, n1, c1⟩ := takeC_ok d.t off d.x l hc h hb.1
      obtain ⟨_, l2, r2, e2, n2, c2⟩ := dropC_ok d.t _ d.x l hc h (chain_alive hb.2)
      obtain ⟨k1, k2⟩ := catC_ok v.toC.t v.toC.x lv (dropC (off + v.toC.t.width) d.t d.x) r2 hvc hvC hb.2 c2
      obtain ⟨j1, j2⟩ := catC_ok (takeC off d.t d.x).t (takeC off d.t d.x).x l1 (catC v.toC.t v.toC.x (dropC (off + v.toC.t.width) d.t d.x)) (lv ++ r2) hb.1 c1 k1 k2
      have hlv : lv.length = v.toC.t.width := hvC.len
      have hl2 : l2 = l1 ++ l2.drop off := by
        have : l1 = l2.take off := by
          have a1 : l.take off = l1 := by rw [e1, ← n1, List.take_left' rfl]
          have a2 : l.take off = l2.take off := by rw [e2, List.take_append_of_le_length (by omega)]
          rw [← a1, a2]
        rw [this]; exact (List.take_append_drop off l2).symm
      refine ⟨l1, l2.drop off, r2, ?_, n1, ?_, ?_, j2⟩
      · rw [e2]; conv => lhs; rw [hl2]
        rw [List.append_assoc]
      · rw [List.length_drop, n2, hlv]; omega
      · rw [j1, hc]
    · rw [if_neg hb] at ha; cases ha
  · rw [if_neg hc] at ha hw ⊢
    by_cases h0 : off = 0
    · rw [if_pos h0] at ha hw ⊢
      by_cases hvc : v.t.chain = true
      · rw [if_pos hvc] at ha; cases ha
      · rw [if_neg hvc] at ha hw ⊢
        refine ⟨[], l, [], by simp, by simp [h0], ?_, ?_, by simpa using hv⟩
        · rw [h.len, hv.len, hw]
        · simp at hc hvc; rw [hc, hvc]
    · rw [if_neg h0] at ha; cases ha
end
end Go.Abs
set_option autoImplicit false
set_option linter.unusedVariables false
namespace Go.Abs
def upd (mu : Nat → Loc) (j : Nat) (L : Loc) : Nat → Loc := fun i => if i = j then L else mu i
theorem upd_same {mu : Nat → Loc} {j : Nat} {L : Loc} : upd mu j L j = L := if_pos rfl
theorem upd_ne {mu : Nat → Loc} {j i : Nat} {L : Loc} (h : i ≠ j) : upd mu j L i = mu i := if_neg h
theorem occ_upd_ne {mu : Nat → Loc} {j i : Nat} {L : Loc} (h : i ≠ j) {o : AObj} : occ (upd mu j L) i o = occ mu i o := by
  obtain ⟨t, x⟩ := o
  cases t <;> simp only [occ, upd_ne h]
theorem occ_eq {mu mu' : Nat → Loc} {i : Nat} (h : mu' i = mu i) {o : AObj} : occ mu' i o = occ mu i o := by
  obtain ⟨t, x⟩ := o
  cases t <;> simp only [occ, h]
theorem occ_obj {mu : Nat → Loc} {i : Nat} {r : Tr} {o : AObj} : occ mu i (r.obj o) = occ mu i o := by
  obtain ⟨t, x⟩ := o
  cases t <;> rfl
section
variable {E : Env} {w : World} {Fr : Nat → Prop} {mu : Nat → Loc} {s : St} {a : Act}
theorem SI.newObj (H : SI E w Fr mu s.heap) {w' : World} (hg : Grow (fun _ => False) w w') {L : Loc} {o : AObj} (hh : L.hdr.oneCell' = true)
    (ho : OR w' Fr (upd mu s.heap.length L) s.heap.length o) (hocc : occ (upd mu s.heap.length L) s.heap.length o → w.heap.size ≤ L.loc ∧ L.loc < w'.heap.size)
    (hn : ∀ (t : Ty) (x : den t), o = ⟨.box t, x⟩ → t.okN (· < s.heap.length + 1)) : SI E w' Fr (upd mu s.heap.length L) (s.heap ++ [o]) := by
  have hlast : ∀ (i : Nat) (o' : AObj), (s.heap ++ [o])[i]? = some o' → (s.heap[i]? = some o' ∧ i < s.heap.length) ∨ (i = s.heap.length ∧ o' = o) := by
    intro i o' hi
    rcases Nat.lt_or_ge i s.heap.length with hlt | hge
    · exact .inl ⟨by rwa [List.getElem?_append_left hlt] at hi, hlt⟩
    · rw [List.getElem?_append_right hge] at hi
      have : i = s.heap.length := by
        have := (List.getElem?_eq_some_iff.1 hi).1
        simp at this; omega
      subst this
      simp at hi
      exact .inr ⟨rfl, hi.symm⟩
  have hw : ∀ b, Fr b → w'.heap[b]? = w.heap[b]? := fun b hb => hg.block b (H.frL b hb) id
  refine H.chg ⟨hg.os, hg.tape, hg.output, hg.size, fun k hk _ => hg.block k hk id⟩ (fun _ => id) (fun _ => .inl) ?_ (by simp) ?_ ?_ ?_ ?_ ?_
  · intro i
    by_cases hi : i = s.heap.length
    · rw [hi, upd_same]; exact hh
    · rw [upd_ne hi]; exact H.hh i
  · intro i o' hi
    rcases hlast i o' hi with ⟨hi, hlt⟩ | ⟨rfl, rfl⟩
    · have hne : i ≠ s.heap.length := by omega
      exact OR_keep (fun _ => id) hw (upd_ne hne) (fun t x e => Ty.okN_mono (fun k hk => upd_ne (by omega)) t (H.nm i t x (e ▸ hi))) (fun hoc => hg.block _ (H.own i o' hi hoc).2.2 id) (H.obj i o' hi)
    · exact ho
  · intro i o' hi hoc
    rcases hlast i o' hi with ⟨hi, hlt⟩ | ⟨rfl, rfl⟩
    · have hne : i ≠ s.heap.length := by omega
      rw [occ_upd_ne hne] at hoc
      obtain ⟨h1, h2, h3⟩ := H.own i o' hi hoc
      rw [upd_ne hne]
      exact ⟨Nat.lt_of_lt_of_le h3 hg.size, h2, .inl ⟨o', hi, hoc, rfl⟩⟩
    · obtain ⟨h1, h2⟩ := hocc hoc
      rw [upd_same]
      exact ⟨h2, fun hf => by have := H.frL _ hf; omega, .inr h1⟩
  · intro i t x hi
    rcases hlast i _ hi with ⟨hi, hlt⟩ | ⟨rfl, rfl⟩
    · exact Ty.okN_mono (fun k hk => by simp; omega) t (H.nm i t x hi)
    · simpa using hn t x rfl
  · intro i o' hm hi
    rcases hlast i o' hi with ⟨hi, hlt⟩ | ⟨rfl, rfl⟩
    · have hne : i ≠ s.heap.length := by omega
      rw [upd_ne hne]
      exact H.hand i o' hm hi
    · have := H.len; omega
  · intro i j o1 o2 hi hj hne ho1 ho2 h1 h2
    rcases hlast i o1 hi with ⟨hi, hlt⟩ | ⟨rfl, rfl⟩
    · have hne' : i ≠ s.heap.length := by omega
      rw [occ_upd_ne hne'] at ho1
      rw [upd_ne hne'] at h1
      have := (H.own i o1 hi ho1).2.2
      omega
    · rcases hlast j o2 hj with ⟨hj, hlt⟩ | ⟨rfl, rfl⟩
      · have hne' : j ≠ s.heap.length := by omega
        rw [occ_upd_ne hne'] at ho2
        rw [upd_ne hne'] at h2
        have := (H.own j o2 hj ho2).2.2
        omega
      · exact absurd rfl hne
theorem VR_new (H : SI E w Fr mu s.heap) {w' : World} (hg : Grow (fun _ => False) w w') {L : Loc} {d : Dyn} {v : Value} (hv : VR w Fr mu d v) (hn : d.t.okN (· < s.heap.length)) : VR w' Fr (upd mu s.heap.length L) d v :=
  VR_keep (fun _ => id) (fun b hb => hg.block b (H.frL b hb) id) (Ty.okN_mono (fun k hk => upd_ne (by omega)) _ hn) hv
theorem Rep.newObj (H : Rep E w Fr mu s a) {w' : World} (hg : Grow (fun _ => False) w w') {L : Loc} {o : AObj} (hh : L.hdr.oneCell' = true)
    (ho : OR w' Fr (upd mu s.heap.length L) s.heap.length o) (hocc : occ (upd mu s.heap.length L) s.heap.length o → w.heap.size ≤ L.loc ∧ L.loc < w'.heap.size)
    (hn : ∀ (t : Ty) (x : den t), o = ⟨.box t, x⟩ → t.okN (· < s.heap.length + 1)) : Rep E w' Fr (upd mu s.heap.length L) (s.new o) a := by
  refine ⟨H.si.newObj hg hh ho hocc hn, fun u d hm => ?_, H.df, H.so⟩
  obtain ⟨h1, h2, h3⟩ := H.tm u d hm
  exact ⟨h1, VR_new H.si hg h2 h3, Ty.okN_mono (fun k hk => by simp [St.new]; omega) _ h3⟩
theorem map_get {r : Tr} {h : List AObj} {i : Nat} {o : AObj} (hi : (h.map r.obj)[i]? = some o) : ∃ o0, h[i]? = some o0 ∧ o = r.obj o0 := by
  rw [List.getElem?_map] at hi
  cases h0 : h[i]? with
  | none => rw [h0] at hi; cases hi
  | some o0 => rw [h0] at hi; injection hi with hi; exact ⟨o0, rfl, hi.symm⟩
theorem SI.setObj (H : SI E w Fr mu s.heap) {r : Tr} {w' : World} {j : Nat} {oj : AObj} (hj : s.heap[j]? = some oj) {L : Loc} {o : AObj} (hT : TrT r)
    (hr : TrOK w Fr mu w' Fr (upd mu j L) r (· < s.heap.length)) (hrn : ∀ (t : Ty) (x : den t), t.okN (· < s.heap.length) → (r.app t x).t.okN (· < s.heap.length))
    (hg : Grow (fun b => occ mu j oj ∧ b = (mu j).loc) w w') (hh : L.hdr.oneCell' = true) (ho : OR w' Fr (upd mu j L) j o)
    (hocc : occ (upd mu j L) j o → L.loc < w'.heap.size ∧ (occ mu j oj ∧ L.loc = (mu j).loc ∨ w.heap.size ≤ L.loc))
    (hn : ∀ (t : Ty) (x : den t), o = ⟨.box t, x⟩ → t.okN (· < s.heap.length))
    (hhand : j < E.m → Handed L (E.mu0 j) o) : SI E w' Fr (upd mu j L) ((s.heap.map r.obj).set j o) := by
  have hjl : j < s.heap.length := (List.getElem?_eq_some_iff.1 hj).1
  have hget : ∀ (i : Nat) (o' : AObj), ((s.heap.map r.obj).set j o)[i]? = some o' → (i = j ∧ o' = o) ∨ (i ≠ j ∧ ∃ o0, s.heap[i]? = some o0 ∧ o' = r.obj o0) := by
    intro i o' hi
    rw [List.getElem?_set] at hi
    by_cases hij : j = i
    · rw [if_pos hij] at hi
      simp at hi
      exact .inl ⟨hij.symm, hi.2.symm⟩
    · rw [if_neg hij] at hi
      obtain ⟨o0, h0, e⟩ := map_get hi
      exact .inr ⟨fun e => hij e.symm, o0, h0, e⟩
  have hblk : ∀ (i : Nat) (o0 : AObj), s.heap[i]? = some o0 → i ≠ j → occ mu i o0 → w'.heap[(mu i).loc]? = w.heap[(mu i).loc]? := by
    intro i o0 hi hne hoc
    refine hg.block _ (H.own i o0 hi hoc).2.2 ?_
    rintro ⟨hoj, e⟩
    exact H.sep i j o0 oj hi hj hne hoc hoj e
  refine H.chg ⟨hg.os, hg.tape, hg.output, hg.size, fun k hk hn => hg.block k hk (fun ⟨h1, h2⟩ => hn ⟨j, oj, hj, h1, h2⟩)⟩ (fun _ => id) (fun _ => .inl) ?_ (by simp) ?_ ?_ ?_ ?_ ?_
  · intro i
    by_cases hi : i = j
    · rw [hi, upd_same]; exact hh
    · rw [upd_ne hi]; exact H.hh i
  · intro i o' hi
    rcases hget i o' hi with ⟨rfl, rfl⟩ | ⟨hne, o0, h0, rfl⟩
    · exact ho
    · exact OR_tr hT hr (upd_ne hne) (fun t x e => H.nm i t x (e ▸ h0)) (hblk i o0 h0 hne) (H.obj i o0 h0)
  · intro i o' hi hoc
    rcases hget i o' hi with ⟨rfl, rfl⟩ | ⟨hne, o0, h0, rfl⟩
    · obtain ⟨h1, h2⟩ := hocc hoc
      rw [upd_same]
      refine ⟨h1, fun hf => ?_, ?_⟩
      · rcases h2 with ⟨h2, e⟩ | h2
        · rw [e] at hf; exact (H.own _ oj hj h2).2.1 hf
        · have := H.frL _ hf; omega
      · exact h2.imp (fun h => ⟨oj, hj, h.1, h.2⟩) id
    · rw [occ_upd_ne hne, occ_obj] at hoc
      obtain ⟨h1, h2, h3⟩ := H.own i o0 h0 hoc
      rw [upd_ne hne]
      exact ⟨Nat.lt_of_lt_of_le h3 hg.size, h2, .inl ⟨o0, h0, hoc, rfl⟩⟩
  · intro i t x hi
    simp only [List.length_set, List.length_map]
    rcases hget i _ hi with ⟨rfl, e⟩ | ⟨hne, o0, h0, e⟩
    · exact hn t x e.symm
    · obtain ⟨t0, x0⟩ := o0
      cases t0 with
      | box t0 =>
        have e' : (⟨.box t, x⟩ : AObj) = ⟨.box (r.app t0 x0).t, (r.app t0 x0).x⟩ := e
        injection e' with e1 e2
        injection e1 with e1
        rw [e1]
        exact hrn t0 x0 (H.nm i t0 x0 h0)
      | row _ _ _ => injection (show (⟨.box t, x⟩ : AObj) = _ from e) with e1 e2; cases e1
      | gone => injection (show (⟨.box t, x⟩ : AObj) = _ from e) with e1 e2; cases e1
      | held => injection (show (⟨.box t, x⟩ : AObj) = _ from e) with e1 e2; cases e1
  · intro i o' hm hi
    rcases hget i o' hi with ⟨rfl, rfl⟩ | ⟨hne, o0, h0, rfl⟩
    · rw [upd_same]; exact hhand hm
    · have := H.hand i o0 hm h0
      rw [upd_ne hne]
      obtain ⟨t0, x0⟩ := o0
      cases t0 with
      | box t0 => exact this
      | row _ _ f => exact this
      | gone => trivial
      | held => exact this
  · intro i k o1 o2 hi hk hne ho1 ho2 h1 h2
    rcases hget i o1 hi with ⟨rfl, rfl⟩ | ⟨hne', o0, h0, rfl⟩
    · rcases hget k o2 hk with ⟨rfl, rfl⟩ | ⟨hne', o0, h0, rfl⟩
      · exact absurd rfl hne
      · rw [occ_upd_ne hne', occ_obj] at ho2
        rw [upd_ne hne'] at h2
        have := (H.own k o0 h0 ho2).2.2
        omega
    · rw [occ_upd_ne hne', occ_obj] at ho1
      rw [upd_ne hne'] at h1
      have := (H.own i o0 h0 ho1).2.2
      omega
theorem Rep.setObj (H : Rep E w Fr mu s a) {r : Tr} {w' : World} {j : Nat} {oj : AObj} (hj : s.heap[j]? = some oj) {L : Loc} {o : AObj} (hT : TrT r)
    (hr : TrOK w Fr mu w' Fr (upd mu j L) r (· < s.heap.length)) (hrn : ∀ (t : Ty) (x : den t), t.okN (· < s.heap.length) → (r.app t x).t.okN (· < s.heap.length))
    (hg : Grow (fun b => occ mu j oj ∧ b = (mu j).loc) w w') (hh : L.hdr.oneCell' = true) (ho : OR w' Fr (upd mu j L) j o)
    (hocc : occ (upd mu j L) j o → L.loc < w'.heap.size ∧ (occ mu j oj ∧ L.loc = (mu j).loc ∨ w.heap.size ≤ L.loc))
    (hn : ∀ (t : Ty) (x : den t), o = ⟨.box t, x⟩ → t.okN (· < s.heap.length))
    (hhand : j < E.m → Handed L (E.mu0 j) o) : Rep E w' Fr (upd mu j L) ((r.st s).setObj j o) a := by
  refine ⟨H.si.setObj hj hT hr hrn hg hh ho hocc hn hhand, fun u d hm => ?_, H.df, by simpa [Tr.st, St.setObj, Function.comp_def] using H.so⟩
  obtain ⟨⟨u0, d0⟩, hm0, e⟩ := List.mem_map.1 (show (u, d) ∈ s.tmps.map fun p => (p.1, r.dyn p.2) from hm)
  injection e with e1 e2
  subst e1; subst e2
  obtain ⟨h1, h2, h3⟩ := H.tm u0 d0 hm0
  refine ⟨h1, VR_tr hT hr h3 h2, ?_⟩
  have : ((r.st s).setObj j o).heap.length = s.heap.length := by simp [Tr.st, St.setObj]
  rw [this]
  exact hrn d0.t d0.x h3
def idR : Tr where
  own t i := ⟨.own t i, ()⟩
  rptr t i o x := ⟨.rptr t i o, x⟩
  ptr i o := ⟨.ptr i o, ()⟩
  aptr t m i b o x := ⟨.aptr t m i b o, x⟩
theorem idR_app : ∀ (t : Ty) (x : den t), idR.app t x = ⟨t, x⟩
  | .own _ _, _ => rfl
  | .rptr _ _ _, _ => rfl
  | .ptr _ _, _ => rfl
  | .aptr _ _ _ _ _, _ => rfl
  | .fn f c, x => by show (⟨.fn f (idR.app c x).t, (idR.app c x).x⟩ : Dyn) = _; rw [idR_app c x]
  | .pair a b, x => by show (⟨.pair (idR.app a x.1).t (idR.app b x.2).t, ((idR.app a x.1).x, (idR.app b x.2).x)⟩ : Dyn) = _; rw [idR_app a x.1, idR_app b x.2]
  | .tcons a b, x => by show (⟨.tcons (idR.app a x.1).t (idR.app b x.2).t, ((idR.app a x.1).x, (idR.app b x.2).x)⟩ : Dyn) = _; rw [idR_app a x.1, idR_app b x.2]
  | .eptr _ _, _ => rfl | .list _, _ => rfl | .arr _ _, _ => rfl | .mp _, _ => rfl | .dead, _ => rfl | .nil _, _ => rfl | .nilptr, _ => rfl | .nilfn, _ => rfl | .bool, _ => rfl | .int _, _ => rfl | .str, _ => rfl | .unit, _ => rfl | .tnil, _ => rfl
theorem idR_dyn (d : Dyn) : idR.dyn d = d := idR_app d.t d.x
theorem idR_obj (o : AObj) : idR.obj o = o := by
  obtain ⟨t, x⟩ := o
  cases t with
  | box t => show (⟨.box (idR.app t x).t, (idR.app t x).x⟩ : AObj) = _; rw [idR_app t x]
  | row _ _ _ => rfl
  | gone => rfl
  | held => rfl
theorem idR_st (s : St) : idR.st s = s := by
  obtain ⟨t, h⟩ := s
  have e1 : t.map (fun p => (p.1, idR.dyn p.2)) = t := by
    conv => rhs; rw [← List.map_id t]
    exact List.map_congr_left fun p _ => by rw [idR_dyn]; rfl
  have e2 : h.map idR.obj = h := by
    conv => rhs; rw [← List.map_id h]
    exact List.map_congr_left fun p _ => by rw [idR_obj]; rfl
  show (⟨t.map _, h.map _⟩ : St) = _
  rw [e1, e2]
theorem idR_T : TrT idR := ⟨fun _ _ => ⟨.inl rfl, rfl⟩, fun _ _ _ _ => ⟨.inl rfl, rfl⟩, fun _ _ => ⟨.inl rfl, rfl⟩, fun _ _ _ _ _ _ => ⟨.inl rfl, rfl⟩⟩
theorem idR_OK {w w' : World} {Fr : Nat → Prop} {mu mu' : Nat → Loc} {p : Nat → Prop} (hw : ∀ b, Fr b → w'.heap[b]? = w.heap[b]?) (hm : ∀ i, p i → mu' i = mu i) : TrOK w Fr mu w' Fr mu' idR p where
  fr _ := id
  wd := hw
  own t i hi := ⟨.inl rfl, rfl, by show _ = [(mu' i).hdr]; rw [hm i hi]⟩
  rptr t i o x l hi hr := ⟨.inl rfl, rfl, Rp_keep (fun _ => id) hw (.rptr t i o) x l (hm i hi) hr⟩
  ptr i o hi := ⟨.inl rfl, rfl, by show _ = [Value.pointer (some ⟨(mu' i).loc, o, none⟩)]; rw [hm i hi]⟩
  aptr t m i b o x l hi hr := ⟨.inl rfl, rfl, Rp_keep (fun _ => id) hw (.aptr t m i b o) x l (hm i hi) hr⟩
theorem Rep.put1 (H : Rep E w Fr mu s a) {w' : World} {j : Nat} {oj : AObj} (hj : s.heap[j]? = some oj) {o : AObj}
    (hg : Grow (fun b => occ mu j oj ∧ b = (mu j).loc) w w') (ho : OR w' Fr mu j o) (hocc : occ mu j o → occ mu j oj)
    (hn : ∀ (t : Ty) (x : den t), o = ⟨.box t, x⟩ → t.okN (· < s.heap.length))
    (hhand : j < E.m → Handed (mu j) (E.mu0 j) o) : Rep E w' Fr mu (s.setObj j o) a := by
  have hu : upd mu j (mu j) = mu := by funext i; by_cases hi : i = j
                                       · rw [hi, upd_same]
                                       · rw [upd_ne hi]
  have hw : ∀ b, Fr b → w'.heap[b]? = w.heap[b]? := fun b hb => hg.block b (H.si.frL b hb) (fun ⟨h1, h2⟩ => (H.si.own j oj hj h1).2.1 (h2 ▸ hb))
  have := H.setObj (r := idR) (L := mu j) (o := o) hj idR_T (by rw [hu]; exact idR_OK hw (fun _ _ => rfl)) (fun t x h => by rw [idR_app]; exact h) hg (H.si.hh j) (by rw [hu]; exact ho)
    (fun hoc => by rw [hu] at hoc; have h := hocc hoc; exact ⟨Nat.lt_of_lt_of_le (H.si.own j oj hj h).2.2 hg.size, .inl ⟨h, rfl⟩⟩) hn hhand
  rw [hu, idR_st] at this
  exact this
end
end Go.Abs
set_option autoImplicit false
set_option linter.unusedVariables false
namespace Go.Abs
def FrL (Fr : Nat → Prop) (mu : Nat → Loc) (h : List AObj) (l : List Nat) (b : Nat) : Prop := Fr b ∨ ∃ (i : Nat) (o : AObj), i ∈ l ∧ h[i]? = some o ∧ occ mu i o ∧ b = (mu i).loc
theorem FrL_nil (Fr : Nat → Prop) (mu : Nat → Loc) (h : List AObj) : FrL Fr mu h [] = Fr := by
  funext b
  simp [FrL]
theorem getD_some {h : List AObj} {i : Nat} {t : OTy} {x : denO t} (e : h.getD i gone = ⟨t, x⟩) (hne : t ≠ .gone) : h[i]? = some ⟨t, x⟩ := by
  rw [List.getD_eq_getElem?_getD] at e
  cases hi : h[i]? with
  | none => rw [hi] at e; simp [gone] at e; exact absurd e.1.symm hne
  | some o => rw [hi] at e; simp at e; rw [e]
theorem as_some {d : Dyn} {t : Ty} {x : den t} (h : d.as t = some x) : d = ⟨t, x⟩ := by
  obtain ⟨t', x'⟩ := d
  unfold Dyn.as at h
  split at h
  · rename_i e
    have e : t' = t := e
    subst e
    injection h with h
    rw [← h]
  · cases h
theorem rowOf_some {s : St} {t : Ty} {i : Nat} {xs : List (den t)} (h : rowOf s t i = some xs) : ∃ e f, s.heap[i]? = some (⟨.row e t f, xs⟩ : AObj) := by
  unfold rowOf at h
  split at h
  · rename_i e u f l hl
    have := as_some h
    injection this with h1 h2
    injection h1 with h1
    subst h1
    have h2 := eq_of_heq h2
    subst h2
    exact ⟨e, f, getD_some hl (by simp)⟩
  · cases h
section
variable {E : Env} {w : World} {Fr : Nat → Prop} {mu : Nat → Loc} {s : St} {a : Act}
theorem row_cells {i : Nat} {e : Nat} {t : Ty} {f : Bool} {xs : List (den t)} (h : OR w Fr mu i ⟨.row e t f, xs⟩) :
    t.elt = true ∧ ∃ cells, rows (fun x l => Rp w Fr mu t x l) xs cells ∧ ((∃ ad, (mu i).hdr = .slice ad 0 0 ∧ xs = []) ∨
      ∃ cap cur, (mu i).hdr = .slice (some ⟨(mu i).loc, 0, none⟩) xs.length cap ∧ xs.length ≤ cap ∧ cap ≤ maxLen ∧ occ mu i (⟨.row e t f, xs⟩ : AObj) ∧ w.heap[(mu i).loc]? = some (.cells cur e (0, 0)) ∧ cur.size = cap * t.width ∧ cur.toList.take (xs.length * t.width) = cells ∧ At w (mu i).loc 0 cells) := by
  obtain ⟨he, cells, hr, hat⟩ := h
  refine ⟨he, cells, hr, ?_⟩
  rcases hat with ⟨ad, h0, h1, _⟩ | ⟨hloc, hown⟩
  · exact .inl ⟨ad, h0, List.eq_nil_of_length_eq_zero h1⟩
  rcases hown.2 with ⟨h0, h1⟩ | ⟨g, cap, cur, hv, hb0, hg, hn, hc, hcs, htk⟩
  · exact .inl ⟨none, h0, List.eq_nil_of_length_eq_zero h1⟩
  · have hl : (mu i).loc = g := by rw [hv] at hloc; injection hloc with e; exact e.symm
    refine .inr ⟨cap, cur, by rw [hl]; exact hv, hn, hc, hloc, by rw [hl]; exact hg, hcs, htk, ?_⟩
    intro k v hk
    rw [hl, Nat.zero_add, cell_of_row w g k cur e (0, 0) hg]
    rw [← htk, List.getElem?_take] at hk
    split at hk
    · simpa using hk
    · cases hk
theorem row_list {Fr' : Nat → Prop} {i : Nat} {e : Nat} {t : Ty} {f : Bool} {xs : List (den t)} (hF : ∀ b, Fr b → Fr' b) (hb : occ mu i (⟨.row e t f, xs⟩ : AObj) → Fr' (mu i).loc) (h : OR w Fr mu i ⟨.row e t f, xs⟩) :
    Rp w Fr' mu (.list t) xs [(mu i).hdr] := by
  obtain ⟨he, cells, hr, hc⟩ := row_cells h
  have hr' : rows (fun x l => Rp w Fr' mu t x l) xs cells := rows_mono (fun x l h => Rp_keep hF (fun _ _ => rfl) t x l (t.pure_okN (Ty.elt_pure he)) h) hr
  rcases hc with ⟨ad, h0, h1⟩ | ⟨cap, cur, hv, hn, hc, hocc, hg, hcs, htk, hat⟩
  · subst h1
    exact ⟨he, ad, 0, cells, by rw [h0]; rfl, Nat.le_refl _, hr', .inl rfl⟩
  · exact ⟨he, _, cap, cells, by rw [hv], hn, hr', .inr ⟨_, 0, rfl, hb hocc, hat⟩⟩
theorem row_at {Fr' : Nat → Prop} {i : Nat} {e : Nat} {t : Ty} {f : Bool} {xs : List (den t)} (hF : ∀ b, Fr b → Fr' b) (h : OR w Fr mu i ⟨.row e t f, xs⟩) {b n c : Nat} (hv : (mu i).hdr = .slice (some ⟨b, 0, none⟩) n c) {x : Int} (h0 : 0 ≤ x) (h1 : x < n) :
    ∃ cells, Rp w Fr' mu t (ixL t xs x) cells ∧ At w b (x.toNat * t.width) cells ∧ b = (mu i).loc ∧ n = xs.length := by
  obtain ⟨he, cells, hr, hc⟩ := row_cells h
  rcases hc with ⟨ad, h2, _⟩ | ⟨cap, cur, hv', hn, hc, hocc, hg, hcs, htk, hat⟩
  · rw [hv] at h2
    injection h2 with _ h2 _
    have h0 : (0 : Int) ≤ x := h0
    have h1 : x < (n : Int) := h1
    omega
  · rw [hv] at hv'
    injection hv' with e1 e2 e3
    injection e1 with e1
    injection e1 with e1
    subst e2
    have hx : xs[x.toNat]? = some (ixL t xs x) := by
      have : x.toNat < xs.length := by omega
      unfold ixL
      rw [List.getD_eq_getElem?_getD, List.getElem?_eq_getElem this]; rfl
    obtain ⟨c, hc, hl, p, q, e, hp⟩ := rows_get (n := t.width) (fun x l h => Rp_len t x l (Ty.elt_cel he) h) hr hx
    refine ⟨c, Rp_keep hF (fun _ _ => rfl) t _ _ (t.pure_okN (Ty.elt_pure he)) hc, ?_, e1, rfl⟩
    rw [e] at hat
    have := hat.right.left
    rw [hp, Nat.zero_add, ← e1] at this
    exact this
theorem thaw_T (s : St) (l : List Nat) : TrT (thawR s l) := by
  constructor
  · intro t i
    show ((if l.contains i then _ else _ : Dyn).t.vk = .one ∨ (if l.contains i then _ else _ : Dyn).t = .dead) ∧ (if l.contains i then _ else _ : Dyn).t.cel = true
    split
    · split
      · exact ⟨.inl rfl, rfl⟩
      · exact ⟨.inr rfl, rfl⟩
    · exact ⟨.inl rfl, rfl⟩
  · intro t i o x
    show ((if l.contains i then _ else _ : Dyn).t.vk = .one ∨ (if l.contains i then _ else _ : Dyn).t = .dead) ∧ (if l.contains i then _ else _ : Dyn).t.cel = true
    split
    · split
      · exact ⟨.inl rfl, rfl⟩
      · exact ⟨.inr rfl, rfl⟩
    · exact ⟨.inl rfl, rfl⟩
  · exact fun _ _ => ⟨.inl rfl, rfl⟩
  · exact fun _ _ _ _ _ _ => ⟨.inl rfl, rfl⟩
theorem thaw_OK (H : SI E w Fr mu s.heap) (l : List Nat) : TrOK w Fr mu w (FrL Fr mu s.heap l) mu (thawR s l) (· < s.heap.length) where
  fr b hb := .inl hb
  wd _ _ := rfl
  own t i hi := by
    show LeafOK _ _ _ (if l.contains i then _ else _) _
    by_cases hc : l.contains i = true
    · rw [if_pos hc]
      cases hr : rowOf s t i with
      | none => exact ⟨.inr rfl, rfl, _, rfl, H.hh i⟩
      | some xs =>
        obtain ⟨e, f, ho⟩ := rowOf_some hr
        exact ⟨.inl rfl, rfl, row_list (fun b hb => .inl hb) (fun hocc => .inr ⟨i, _, by simpa using hc, ho, hocc, rfl⟩) (H.obj i _ ho)⟩
    · rw [if_neg hc]; exact ⟨.inl rfl, rfl, rfl⟩
  rptr t i o x l' hi hr := by
    show LeafOK _ _ _ (if l.contains i then _ else _) _
    by_cases hc : l.contains i = true
    · rw [if_pos hc]
      obtain ⟨b, n, c, hv, h0, h1, e⟩ := hr
      cases hro : rowOf s t i with
      | none => exact ⟨.inr rfl, rfl, _, e, by simp [Value.oneCell']⟩
      | some xs =>
        obtain ⟨e', f, ho⟩ := rowOf_some hro
        obtain ⟨cells, hc1, hc2, hb, hn⟩ := row_at (Fr' := FrL Fr mu s.heap l) (fun b hb => .inl hb) (H.obj i _ ho) hv h0 h1
        have helt : t.elt = true := (H.obj i _ ho).1
        refine ⟨.inl rfl, rfl, helt, b, _, cells, e, ?_, hc1, hc2⟩
        refine .inr ⟨i, _, by simpa using hc, ho, ?_, hb⟩
        show (mu i).hdr.ownBlock = some (mu i).loc
        rw [hv, ← hb]; rfl
    · rw [if_neg hc]; exact ⟨.inl rfl, rfl, Rp_keep (fun b hb => .inl hb) (fun _ _ => rfl) (.rptr t i o) x l' rfl hr⟩
  ptr i o hi := ⟨.inl rfl, rfl, rfl⟩
  aptr t m i b o x l' hi hr := ⟨.inl rfl, rfl, Rp_keep (fun b hb => .inl hb) (fun _ _ => rfl) (.aptr t m i b o) x l' rfl hr⟩
theorem thaw_okN (s : St) (l : List Nat) {q : Nat → Prop} (hq : ∀ (i : Nat) (o : AObj), s.heap[i]? = some o → q i) (h0 : ∀ i, i < s.heap.length → q i) (t : Ty) (x : den t) (h : t.okN (· < s.heap.length)) : ((thawR s l).app t x).t.okN q := by
  refine okN_app (r := thawR s l) (p := (· < s.heap.length)) (q := q) ?_ ?_ (fun i o hi => h0 i hi) (fun t m i b o x hi => h0 i hi) t x h
  · intro t i hi
    show (if l.contains i then _ else _ : Dyn).t.okN q
    split
    · split <;> trivial
    · exact h0 i hi
  · intro t i o x hi
    show (if l.contains i then _ else _ : Dyn).t.okN q
    split
    · split <;> trivial
    · exact h0 i hi
theorem goneL_len : ∀ (l : List Nat) (h : List AObj), (goneL l h).length = h.length
  | [], h => rfl
  | i :: l, h => by show (goneL l (h.set i gone)).length = _; rw [goneL_len l]; simp
theorem goneL_get : ∀ (l : List Nat) (h : List AObj) (i : Nat) (o : AObj), (goneL l h)[i]? = some o → (i ∈ l ∧ o = gone) ∨ (i ∉ l ∧ h[i]? = some o) ∨ o = gone
  | [], h, i, o, hi => .inr (.inl ⟨by simp, hi⟩)
  | j :: l, h, i, o, hi => by
    rcases goneL_get l (h.set j gone) i o hi with ⟨h1, h2⟩ | ⟨h1, h2⟩ | h2
    · exact .inl ⟨List.mem_cons_of_mem _ h1, h2⟩
    · rw [List.getElem?_set] at h2
      by_cases hij : j = i
      · rw [if_pos hij] at h2
        simp at h2
        exact .inr (.inr h2.2.symm)
      · rw [if_neg hij] at h2
        exact .inr (.inl ⟨by simp [h1]; exact fun e => hij e.symm, h2⟩)
    · exact .inr (.inr h2)
theorem freeze_eq (s : St) {l : List Nat} (h : l ≠ []) : s.freeze l = ⟨((thawR s l).st s).tmps, goneL l ((thawR s l).st s).heap⟩ := by
  cases l with
  | nil => exact absurd rfl h
  | cons _ _ => rfl
theorem freeze_len (s : St) (l : List Nat) : (s.freeze l).heap.length = s.heap.length := by
  by_cases h : l = []
  · subst h; rfl
  · rw [freeze_eq s h]; simp [goneL_len, Tr.st]
theorem SI.freeze (H : SI E w Fr mu s.heap) (l : List Nat) : SI E w (FrL Fr mu s.heap l) mu (s.freeze l).heap := by
  by_cases hl : l = []
  · subst hl; rw [FrL_nil]; exact H
  rw [freeze_eq s hl]
  have hget : ∀ (i : Nat) (o' : AObj), (goneL l ((thawR s l).st s).heap)[i]? = some o' → o' = gone ∨ (i ∉ l ∧ ∃ o0, s.heap[i]? = some o0 ∧ o' = (thawR s l).obj o0) := by
    intro i o' hi
    rcases goneL_get _ _ _ _ hi with ⟨h1, h2⟩ | ⟨h1, h2⟩ | h2
    · exact .inl h2
    · obtain ⟨o0, h0, e⟩ := map_get h2
      exact .inr ⟨h1, o0, h0, e⟩
    · exact .inl h2
  refine H.chg (Grow.refl _ w) (fun b hb => .inl hb) ?_ H.hh (by simp [goneL_len, Tr.st]) ?_ ?_ ?_ ?_ ?_
  · rintro b (hb | ⟨i, o, hi, ho, hoc, e⟩)
    · exact .inl hb
    · exact .inr ⟨i, o, ho, hoc, e⟩
  · intro i o' hi
    rcases hget i o' hi with rfl | ⟨h1, o0, h0, rfl⟩
    · trivial
    · exact OR_tr (thaw_T s l) (thaw_OK H l) rfl (fun t x e => H.nm i t x (e ▸ h0)) (fun _ => rfl) (H.obj i o0 h0)
  · intro i o' hi hoc
    rcases hget i o' hi with rfl | ⟨h1, o0, h0, rfl⟩
    · cases hoc
    · rw [occ_obj] at hoc
      obtain ⟨g1, g2, g3⟩ := H.own i o0 h0 hoc
      refine ⟨g3, ?_, .inl ⟨o0, h0, hoc, rfl⟩⟩
      rintro (hf | ⟨k, ok, hk, hko, hkoc, e⟩)
      · exact g2 hf
      · exact H.sep i k o0 ok h0 hko (fun e => h1 (e ▸ hk)) hoc hkoc e
  · intro i t x hi
    have hlen : (goneL l ((thawR s l).st s).heap).length = s.heap.length := by simp [goneL_len, Tr.st]
    rw [hlen]
    rcases hget i _ hi with e | ⟨h1, o0, h0, e⟩
    · cases e
    · obtain ⟨t0, x0⟩ := o0
      cases t0 with
      | box t0 =>
        have e' : (⟨.box t, x⟩ : AObj) = ⟨.box ((thawR s l).app t0 x0).t, ((thawR s l).app t0 x0).x⟩ := e
        injection e' with e1 e2
        injection e1 with e1
        rw [e1]
        exact thaw_okN s l (fun i o ho => (List.getElem?_eq_some_iff.1 ho).1) (fun i hi => hi) t0 x0 (H.nm i t0 x0 h0)
      | row _ _ _ => injection (show (⟨.box t, x⟩ : AObj) = _ from e) with e1 e2; cases e1
      | gone => injection (show (⟨.box t, x⟩ : AObj) = _ from e) with e1 e2; cases e1
      | held => injection (show (⟨.box t, x⟩ : AObj) = _ from e) with e1 e2; cases e1
  · intro i o' hm hi
    rcases hget i o' hi with rfl | ⟨h1, o0, h0, rfl⟩
    · trivial
    · have := H.hand i o0 hm h0
      obtain ⟨t0, x0⟩ := o0
      cases t0 with
      | box t0 => exact this
      | row _ _ f => exact this
      | gone => trivial
      | held => exact this
  · intro i j o1 o2 hi hj hne ho1 ho2 h1 h2
    rcases hget i o1 hi with rfl | ⟨h3, o0, h0, rfl⟩
    · cases ho1
    · rw [occ_obj] at ho1
      have := (H.own i o0 h0 ho1).2.2
      omega
theorem Rep.freeze (H : Rep E w Fr mu s a) (l : List Nat) : Rep E w (FrL Fr mu s.heap l) mu (s.freeze l) a := by
  refine ⟨H.si.freeze l, ?_, H.df, ?_⟩
  · by_cases hl : l = []
    · subst hl; rw [FrL_nil]; exact H.tm
    intro u d hm
    rw [freeze_len]
    rw [freeze_eq s hl] at hm
    obtain ⟨⟨u0, d0⟩, hm0, e⟩ := List.mem_map.1 (show (u, d) ∈ s.tmps.map fun p => (p.1, (thawR s l).dyn p.2) from hm)
    injection e with e1 e2
    subst e1; subst e2
    obtain ⟨h1, h2, h3⟩ := H.tm u0 d0 hm0
    exact ⟨h1, VR_tr (thaw_T s l) (thaw_OK H.si l) h3 h2, thaw_okN s l (fun i o ho => (List.getElem?_eq_some_iff.1 ho).1) (fun i hi => hi) d0.t d0.x h3⟩
  · by_cases hl : l = []
    · subst hl; exact H.so
    · rw [freeze_eq s hl]; simpa [Tr.st, Function.comp_def] using H.so
def Ty.ownN (q : Nat → Prop) : Ty → Prop
  | .own _ i => q i
  | .pair a b => a.ownN q ∧ b.ownN q
  | .tcons a b => a.ownN q ∧ b.ownN q
  | _ => True
theorem addN_mem {i j : Nat} {l : List Nat} : j ∈ addN i l ↔ j = i ∨ j ∈ l := by
  unfold addN
  split
  · rename_i h
    simp at h
    constructor
    · exact .inr
    · rintro (rfl | h')
      · exact h
      · exact h'
  · simp [or_comm]
theorem ownsT_mono : ∀ (t : Ty) (l : List Nat) (i : Nat), i ∈ l → i ∈ ownsT t l
  | .own _ j, l, i, h => addN_mem.2 (.inr h)
  | .rptr _ j _, l, i, h => addN_mem.2 (.inr h)
  | .fn _ c, l, i, h => ownsT_mono c l i h
  | .pair a b, l, i, h => ownsT_mono b _ i (ownsT_mono a l i h)
  | .tcons a b, l, i, h => ownsT_mono b _ i (ownsT_mono a l i h)
  | .ptr _ _, _, _, h => h | .aptr _ _ _ _ _, _, _, h => h | .eptr _ _, _, _, h => h | .list _, _, _, h => h | .arr _ _, _, _, h => h | .mp _, _, _, h => h | .dead, _, _, h => h | .nil _, _, _, h => h | .nilptr, _, _, h => h | .nilfn, _, _, h => h | .bool, _, _, h => h | .int _, _, _, h => h | .str, _, _, h => h | .unit, _, _, h => h | .tnil, _, _, h => h
theorem ownsT_ok {q : Nat → Prop} : ∀ (t : Ty) (l : List Nat), (∀ i ∈ ownsT t l, q i) → t.ownN q
  | .own _ j, l, h => h j (addN_mem.2 (.inl rfl))
  | .pair a b, l, h => ⟨ownsT_ok a l (fun i hi => h i (ownsT_mono b _ i hi)), ownsT_ok b _ h⟩
  | .tcons a b, l, h => ⟨ownsT_ok a l (fun i hi => h i (ownsT_mono b _ i hi)), ownsT_ok b _ h⟩
  | .rptr _ _ _, _, _ => trivial | .fn _ _, _, _ => trivial | .ptr _ _, _, _ => trivial | .aptr _ _ _ _ _, _, _ => trivial | .eptr _ _, _, _ => trivial | .list _, _, _ => trivial | .arr _ _, _, _ => trivial | .mp _, _, _ => trivial | .dead, _, _ => trivial | .nil _, _, _ => trivial | .nilptr, _, _ => trivial | .nilfn, _, _ => trivial | .bool, _, _ => trivial | .int _, _, _ => trivial | .str, _, _ => trivial | .unit, _, _ => trivial | .tnil, _, _ => trivial
end
end Go.Abs
set_option autoImplicit false
set_option linter.unusedVariables false
namespace Go.Abs
section
variable {E : Env} {w : World} {Fr Fr' : Nat → Prop} {mu : Nat → Loc} {s : St} {a : Act}
theorem coe_shape (s : St) : ∀ (u t : Ty) (x : den t), ((coe s u t x).t.vk = t.vk ∨ (t.vk = .one ∧ (coe s u t x).t = .dead)) ∧ (t.chain = true → (coe s u t x).t.chain = true) ∧ (t.cel = true → (coe s u t x).t.cel = true) := by
  intro u t x
  fun_induction coe s u t x with
  | case1 => exact ⟨.inl rfl, fun h => (by cases h), fun _ => rfl⟩
  | case2 => exact ⟨.inr ⟨rfl, rfl⟩, fun h => (by cases h), fun _ => rfl⟩
  | case3 => exact ⟨.inl rfl, fun h => (by cases h), fun _ => rfl⟩
  | case4 => exact ⟨.inr ⟨rfl, rfl⟩, fun h => (by cases h), fun _ => rfl⟩
  | case5 a b c d x p q ih1 ih2 =>
    refine ⟨.inl rfl, fun _ => rfl, fun h => ?_⟩
    simp only [Ty.cel, Bool.and_eq_true] at h ⊢
    exact ⟨⟨ih1.2.2 h.1.1, ih2.2.2 h.1.2⟩, ih2.2.1 h.2⟩
  | case6 => exact ⟨.inl rfl, fun h => (by cases h), fun h => (by cases h)⟩
  | case7 => exact ⟨.inl rfl, id, id⟩
def coeN (q : Nat → Prop) : Ty → Ty → Prop
  | .list _, .own _ i => q i
  | .pair a b, .pair c d => coeN q a c ∧ coeN q b d
  | .tcons a b, .tcons c d => coeN q a c ∧ coeN q b d
  | _, _ => True
theorem coeN_own {q : Nat → Prop} : ∀ (u t : Ty), t.ownN q → coeN q u t := by
  intro u t
  fun_induction coeN q u t with
  | case1 => exact id
  | case2 a b c d ih1 ih2 => exact fun h => ⟨ih1 h.1, ih2 h.2⟩
  | case3 a b c d ih1 ih2 => exact fun h => ⟨ih1 h.1, ih2 h.2⟩
  | case4 => exact fun _ => trivial
theorem coeIds_mono : ∀ (u t : Ty) (l : List Nat) (i : Nat), i ∈ l → i ∈ coeIds u t l := by
  intro u t l
  fun_induction coeIds u t l with
  | case1 => exact fun i h => addN_mem.2 (.inr h)
  | case2 a b c d l ih1 ih2 => exact fun i h => ih2 i (ih1 i h)
  | case3 a b c d l ih1 ih2 => exact fun i h => ih2 i (ih1 i h)
  | case4 => exact fun _ h => h
theorem layIds_len : ∀ (u t : Ty) (l : List Nat), (layIds u t l).length = l.length := by
  intro u t l
  fun_induction layIds u t l with
  | case1 => exact List.length_set ..
  | case2 a b c d l ih1 ih2 => rw [ih2, ih1]
  | case3 a b c d l ih1 ih2 => rw [ih2, ih1]
  | case4 => rfl
theorem ptrIds_mono {ots : List OTy} {h : List AObj} : ∀ (u t : Ty) (l : List Nat) (i : Nat), i ∈ l → i ∈ ptrIds ots h u t l := by
  intro u t l
  fun_induction ptrIds ots h u t l with
  | case1 => exact fun i h => coeIds_mono _ _ _ i h
  | case2 => exact fun _ h => h
  | case3 a b c d l ih1 ih2 => exact fun i h => ih2 i (ih1 i h)
  | case4 a b c d l ih1 ih2 => exact fun i h => ih2 i (ih1 i h)
  | case5 => exact fun _ h => h
theorem coeIds_ok {q : Nat → Prop} : ∀ (u t : Ty) (l : List Nat), (∀ i ∈ coeIds u t l, q i) → coeN q u t := by
  intro u t l
  fun_induction coeIds u t l with
  | case1 => exact fun h => h _ (addN_mem.2 (.inl rfl))
  | case2 a b c d l ih1 ih2 => exact fun h => ⟨ih1 (fun i hi => h i (coeIds_mono b d _ i hi)), ih2 h⟩
  | case3 a b c d l ih1 ih2 => exact fun h => ⟨ih1 (fun i hi => h i (coeIds_mono b d _ i hi)), ih2 h⟩
  | case4 u t l h1 h2 h3 =>
    intro _
    unfold coeN
    split
    · exact absurd rfl (h1 _ _ _ rfl)
    · exact absurd rfl (h2 _ _ _ _ rfl)
    · exact absurd rfl (h3 _ _ _ _ rfl)
    · trivial
theorem coe_okN {p : Nat → Prop} (s : St) : ∀ (u t : Ty) (x : den t), t.okN p → (coe s u t x).t.okN p := by
  intro u t x
  fun_induction coe s u t x with
  | case1 => exact fun _ => trivial
  | case2 => exact fun _ => trivial
  | case3 => exact fun _ => trivial
  | case4 => exact fun _ => trivial
  | case5 a b c d x p q ih1 ih2 => exact fun h => ⟨ih1 h.1, ih2 h.2⟩
  | case6 a b c d x p q ih1 ih2 => exact fun h => ⟨ih1 h.1, ih2 h.2⟩
  | case7 => exact id
theorem coe_ok (H : SI E w Fr mu s.heap) (hF : ∀ b, Fr b → Fr' b) {q : Nat → Prop} (hq : ∀ (i : Nat) (o : AObj), q i → s.heap[i]? = some o → occ mu i o → Fr' (mu i).loc) :
    ∀ (u t : Ty) (x : den t) (l : List Value), coeN q u t → Rp w Fr mu t x l → Rp w Fr' mu (coe s u t x).t (coe s u t x).x l := by
  intro u t x
  fun_induction coe s u t x with
  | case1 t e h x => intro l _ hr; cases hr; exact ⟨h, none, 0, [], rfl, Nat.le_refl _, rfl, .inl rfl⟩
  | case2 t e x h => intro l _ hr; cases hr; exact ⟨_, rfl, rfl⟩
  | case3 t u i xs hro x =>
    intro l hn hr
    cases hr
    obtain ⟨e, f, ho⟩ := rowOf_some hro
    exact row_list hF (fun hocc => hq i _ hn ho hocc) (H.obj i _ ho)
  | case4 t u i hro x => intro l hn hr; cases hr; exact ⟨_, rfl, H.hh i⟩
  | case5 a b c d x p q ih1 ih2 =>
    rintro l ⟨hn1, hn2⟩ ⟨l1, l2, e, r1, r2⟩
    exact ⟨l1, l2, e, ih1 _ hn1 r1, ih2 _ hn2 r2⟩
  | case6 a b c d x p q ih1 ih2 =>
    rintro l ⟨hn1, hn2⟩ ⟨v, vs, e, r1, r2⟩
    refine ⟨v, vs, e, ?_, ih2 _ hn2 r2⟩
    rcases (coe_shape s a c x.1).1 with hv | ⟨hv, hd⟩
    · show (match p.t.vk with | .dead => True | .agg => _ | .tup => False | .one => _)
      rw [show p.t.vk = c.vk from hv]
      revert r1
      cases hc : c.vk with
      | dead => exact id
      | agg => rintro ⟨hcel, cs, e, h'⟩; exact ⟨(coe_shape s a c x.1).2.2 hcel, cs, e, ih1 _ hn1 h'⟩
      | tup => exact id
      | one => exact fun h' => ih1 _ hn1 h'
    · have hd' : p.t.vk = .dead := by rw [show p.t = .dead from hd]; rfl
      show (match p.t.vk with | .dead => True | .agg => _ | .tup => False | .one => _)
      rw [hd']; trivial
  | case7 u t x h1 h2 h3 h4 =>
    intro l hn hr
    exact Rp_keep hF (fun _ _ => rfl) t x l (Ty.okN_all (fun _ => rfl) t) hr
theorem coe_VR0 (H : SI E w Fr mu s.heap) (hF : ∀ b, Fr b → Fr' b) {q : Nat → Prop} (hq : ∀ (i : Nat) (o : AObj), q i → s.heap[i]? = some o → occ mu i o → Fr' (mu i).loc)
    {u : Ty} {d : Dyn} {v : Value} (hn : coeN q u d.t) (hv : VR w Fr mu d v) : VR w Fr' mu (coe s u d.t d.x) v := by
  have hsh := coe_shape s u d.t d.x
  have hok := coe_ok H hF hq u d.t d.x
  unfold VR at *
  revert hsh hok
  generalize coe s u d.t d.x = c
  intro hsh hok
  rcases hsh.1 with hk | ⟨hk, hd⟩
  · rw [hk]
    revert hv
    cases hdk : d.t.vk with
    | dead => exact id
    | agg => rintro ⟨hc, cs, e, h'⟩; exact ⟨hsh.2.2 hc, cs, e, hok _ hn h'⟩
    | tup => rintro ⟨cs, e, h'⟩; exact ⟨cs, e, hok _ hn h'⟩
    | one => exact fun h' => hok _ hn h'
  · have : c.t.vk = .dead := by rw [hd]; rfl
    rw [this]; trivial
theorem coe_VR (H : SI E w Fr mu s.heap) (hF : ∀ b, Fr b → Fr' b) {q : Nat → Prop} (hq : ∀ (i : Nat) (o : AObj), q i → s.heap[i]? = some o → occ mu i o → Fr' (mu i).loc)
    {u : Ty} {d : Dyn} {v : Value} (hn : d.t.ownN q) (hv : VR w Fr mu d v) : VR w Fr' mu (coe s u d.t d.x) v := coe_VR0 H hF hq (coeN_own u d.t hn) hv
theorem coe_CD (H : SI E w Fr mu s.heap) (hF : ∀ b, Fr b → Fr' b) {q : Nat → Prop} (hq : ∀ (i : Nat) (o : AObj), q i → s.heap[i]? = some o → occ mu i o → Fr' (mu i).loc)
    {u : Ty} {d : Dyn} {l : List Value} {p : Nat → Prop} (hn : d.t.ownN q) (hv : CD w Fr mu p d l) : (coe s u d.t d.x).t.cel = true ∧ Rp w Fr' mu (coe s u d.t d.x).t (coe s u d.t d.x).x l :=
  ⟨(coe_shape s u d.t d.x).2.2 hv.cel, coe_ok H hF hq u d.t d.x l (coeN_own u d.t hn) hv.rp⟩
theorem coeF_ok (H : Rep E w Fr mu s a) {t : Ty} {d : Dyn} {x : den t} {s' : St} (h : coeF s t d = some (x, s')) {l : List Value} {p : Nat → Prop} (hd : CD w Fr mu p d l) :
    t.elt = true ∧ s' = s.freeze (ownsT d.t []) ∧ Rp w (FrL Fr mu s.heap (ownsT d.t [])) mu t x l ∧ Rep E w (FrL Fr mu s.heap (ownsT d.t [])) mu s' a := by
  unfold coeF at h
  split at h
  · rename_i y hy
    split at h
    · rename_i he
      injection h with h
      injection h with h1 h2
      subst h1; subst h2
      have hc := coe_CD (u := t) (Fr' := FrL Fr mu s.heap (ownsT d.t [])) (q := fun i => i ∈ ownsT d.t []) H.si (fun b hb => .inl hb) (fun i o hi ho hoc => .inr ⟨i, o, hi, ho, hoc, rfl⟩) (ownsT_ok _ _ (fun _ => id)) hd
      rw [as_some hy] at hc
      exact ⟨he, rfl, hc.2, H.freeze _⟩
    · cases h
  · cases h
theorem idsT_mono : ∀ (t : Ty) (l : List Nat) (i : Nat), i ∈ l → i ∈ idsT t l
  | .own _ j, l, i, h => addN_mem.2 (.inr h)
  | .ptr j _, l, i, h => addN_mem.2 (.inr h)
  | .rptr _ j _, l, i, h => addN_mem.2 (.inr h)
  | .aptr _ _ j _ _, l, i, h => addN_mem.2 (.inr h)
  | .fn _ c, l, i, h => idsT_mono c l i h
  | .eptr t _, l, i, h => idsT_mono t l i h
  | .list t, l, i, h => idsT_mono t l i h
  | .arr _ t, l, i, h => idsT_mono t l i h
  | .mp _, _, _, h => h
  | .pair a b, l, i, h => idsT_mono b _ i (idsT_mono a l i h)
  | .tcons a b, l, i, h => idsT_mono b _ i (idsT_mono a l i h)
  | .dead, _, _, h => h | .nil _, _, _, h => h | .nilptr, _, _, h => h | .nilfn, _, _, h => h | .bool, _, _, h => h | .int _, _, _, h => h | .str, _, _, h => h | .unit, _, _, h => h | .tnil, _, _, h => h
theorem idsT_ok {q : Nat → Prop} : ∀ (t : Ty) (l : List Nat), (∀ i ∈ idsT t l, q i) → t.okN q
  | .own _ j, l, h => h j (addN_mem.2 (.inl rfl))
  | .ptr j _, l, h => h j (addN_mem.2 (.inl rfl))
  | .rptr _ j _, l, h => h j (addN_mem.2 (.inl rfl))
  | .aptr _ _ j _ _, l, h => h j (addN_mem.2 (.inl rfl))
  | .fn _ c, l, h => idsT_ok c l h
  | .pair a b, l, h => ⟨idsT_ok a l (fun i hi => h i (idsT_mono b _ i hi)), idsT_ok b _ h⟩
  | .tcons a b, l, h => ⟨idsT_ok a l (fun i hi => h i (idsT_mono b _ i hi)), idsT_ok b _ h⟩
  | .eptr _ _, _, _ => trivial | .list _, _, _ => trivial | .arr _ _, _, _ => trivial | .mp _, _, _ => trivial | .dead, _, _ => trivial | .nil _, _, _ => trivial | .nilptr, _, _ => trivial | .nilfn, _, _ => trivial | .bool, _, _ => trivial | .int _, _, _ => trivial | .str, _, _ => trivial | .unit, _, _ => trivial | .tnil, _, _ => trivial
theorem subN_ok {l m : List Nat} (h : subN l m = true) : ∀ i ∈ l, i ∈ m := by
  unfold subN at h
  intro i hi
  simpa using List.all_eq_true.1 h i hi
theorem distinct_ok : ∀ {l : List Nat}, distinct l = true → l.Nodup
  | [], _ => List.nodup_nil
  | i :: l, h => by
    simp only [distinct, Bool.and_eq_true] at h
    exact List.nodup_cons.2 ⟨by simpa using h.1, distinct_ok h.2⟩
theorem closed_ok {h : List AObj} {ids : List Nat} (hc : closed h ids = true) : ∀ i ∈ ids, i < h.length ∧ ∀ (t : Ty) (x : den t), h[i]? = some (⟨.box t, x⟩ : AObj) → t.okN (· ∈ ids) := by
  intro i hi
  have := List.all_eq_true.1 hc i hi
  simp only [Bool.and_eq_true, decide_eq_true_eq] at this
  refine ⟨this.1, fun t x e => idsT_ok t [] ?_⟩
  have h2 := subN_ok this.2
  rw [show h.getD i gone = ⟨.box t, x⟩ by rw [List.getD_eq_getElem?_getD, e]; rfl] at h2
  exact h2
theorem posN_get : ∀ {l : List Nat} {i : Nat}, i ∈ l → posN i l < l.length ∧ l.getD (posN i l) 0 = i
  | [], _, h => by cases h
  | j :: l, i, h => by
    unfold posN
    by_cases hij : i = j
    · rw [if_pos hij]; exact ⟨by simp, by simp [hij]⟩
    · rw [if_neg hij]
      have := posN_get (l := l) (i := i) ((List.mem_cons.1 h).resolve_left hij)
      exact ⟨by simp; exact this.1, by simpa using this.2⟩
def muOf (mu : Nat → Loc) (ids : List Nat) : Nat → Loc := fun j => mu (ids.getD j 0)
theorem renR_T (r : Nat → Nat) : TrT (renR r) := ⟨fun _ _ => ⟨.inl rfl, rfl⟩, fun _ _ _ _ => ⟨.inl rfl, rfl⟩, fun _ _ => ⟨.inl rfl, rfl⟩, fun _ _ _ _ _ _ => ⟨.inl rfl, rfl⟩⟩
theorem renR_OK {w : World} {Fr : Nat → Prop} {mu mu' : Nat → Loc} {r : Nat → Nat} {p : Nat → Prop} (h : ∀ i, p i → mu' (r i) = mu i) : TrOK w Fr mu w Fr mu' (renR r) p where
  fr _ := id
  wd _ _ := rfl
  own t i hi := ⟨.inl rfl, rfl, by show _ = [(mu' (r i)).hdr]; rw [h i hi]⟩
  rptr t i o x l hi hr := ⟨.inl rfl, rfl, by
    obtain ⟨b, n, c, hv, rest⟩ := hr
    exact ⟨b, n, c, by rw [h i hi]; exact hv, rest⟩⟩
  ptr i o hi := ⟨.inl rfl, rfl, by show _ = [Value.pointer (some ⟨(mu' (r i)).loc, o, none⟩)]; rw [h i hi]⟩
  aptr t m i b o x l hi hr := ⟨.inl rfl, rfl, hr.1, by rw [h i hi]; exact hr.2⟩
theorem posR_OK {ids : List Nat} : TrOK w Fr mu w Fr (muOf mu ids) (renR (posN · ids)) (· ∈ ids) :=
  renR_OK fun i hi => by unfold muOf; rw [(posN_get hi).2]
theorem posR_okN {ids : List Nat} (t : Ty) (x : den t) (h : t.okN (· ∈ ids)) : ((renR (posN · ids)).app t x).t.okN (· < ids.length) :=
  okN_app (r := renR (posN · ids)) (p := (· ∈ ids)) (q := (· < ids.length)) (fun t i hi => (posN_get hi).1) (fun t i o x hi => (posN_get hi).1) (fun i o hi => (posN_get hi).1) (fun t m i b o x hi => (posN_get hi).1) t x h
theorem nodup_getD {l : List Nat} (h : l.Nodup) {i j : Nat} (hi : i < l.length) (hj : j < l.length) (hne : i ≠ j) : l.getD i 0 ≠ l.getD j 0 := by
  simp only [List.getD_eq_getElem?_getD, List.getElem?_eq_getElem hi, List.getElem?_eq_getElem hj, Option.getD_some]
  intro e
  exact hne ((List.getElem_inj h).1 e)
theorem sub_get {h : List AObj} {ids : List Nat} {f : AObj → AObj} {j : Nat} {o : AObj} (hc : closed h ids = true) (hj : (ids.map fun i => f (h.getD i gone))[j]? = some o) :
    j < ids.length ∧ ids.getD j 0 ∈ ids ∧ ∃ o0, h[ids.getD j 0]? = some o0 ∧ o = f o0 := by
  rw [List.getElem?_map] at hj
  cases hk : ids[j]? with
  | none => rw [hk] at hj; cases hj
  | some k =>
    rw [hk] at hj
    injection hj with hj
    have hlt := (List.getElem?_eq_some_iff.1 hk).1
    have hm : k ∈ ids := List.mem_of_getElem? hk
    have hlk := (closed_ok hc k hm).1
    have e : ids.getD j 0 = k := by rw [List.getD_eq_getElem?_getD, hk]; rfl
    rw [e]
    refine ⟨hlt, hm, h[k], by rw [List.getElem?_eq_getElem hlk], ?_⟩
    rw [← hj]; show f (h.getD k gone) = _; rw [List.getD_eq_getElem?_getD, List.getElem?_eq_getElem hlk]; rfl
theorem occ_back {mu : Nat → Loc} {i : Nat} {o o' : AObj} (h : occ mu i (o.back o')) : occ mu i o' := by
  obtain ⟨t, x⟩ := o
  obtain ⟨t', x'⟩ := o'
  cases t <;> cases t' <;> first | exact h | exact h.elim
theorem occ_handed {mu : Nat → Loc} {i : Nat} {o : AObj} : occ mu i o.handed = occ mu i o := by
  obtain ⟨t, x⟩ := o
  cases t <;> rfl
theorem OR_handed {i : Nat} {o : AObj} (h : OR w Fr mu i o) : OR w Fr mu i o.handed := by
  obtain ⟨t, x⟩ := o
  cases t <;> exact h
theorem SI.so {h : List AObj} (H : SI E w Fr mu h) : SO w Fr mu h := ⟨H.hh, H.obj, H.nm, H.sep, fun i o hi ho => (H.own i o hi ho).2⟩
theorem box_handed {t : Ty} {x : den t} : ∀ {o : AObj}, (⟨.box t, x⟩ : AObj) = o.handed → (⟨.box t, x⟩ : AObj) = o
  | ⟨.box _, _⟩, h => h
  | ⟨.row _ _ _, _⟩, h => by injection h with e1 e2; cases e1
  | ⟨.gone, _⟩, h => h
  | ⟨.held, _⟩, h => h
theorem SO.sub {h : List AObj} (H : SO w Fr mu h) {ids : List Nat} (hc : closed h ids = true) (hd : distinct ids = true) {f : AObj → AObj} (hf : ∀ o, f o = (renR (posN · ids)).obj o ∨ f o = ((renR (posN · ids)).obj o).handed) :
    SO w Fr (muOf mu ids) (ids.map fun i => f (h.getD i gone)) := by
  have hocc : ∀ (mu : Nat → Loc) i o, occ mu i (f o) = occ mu i o := by
    intro mu i o
    rcases hf o with e | e
    · rw [e, occ_obj]
    · rw [e, occ_handed, occ_obj]
  have hlen : (ids.map fun i => f (h.getD i gone)).length = ids.length := by simp
  refine ⟨fun i => H.hh _, ?_, ?_, ?_, ?_⟩
  · intro j o hj
    obtain ⟨hlt, hm, o0, h0, rfl⟩ := sub_get hc hj
    have := OR_tr (i' := j) (renR_T _) (posR_OK (w := w) (Fr := Fr) (mu := mu) (ids := ids)) (i := ids.getD j 0) rfl (fun t x e => (closed_ok hc _ hm).2 t x (e ▸ h0)) (fun _ => rfl) (H.obj _ o0 h0)
    rcases hf o0 with e | e
    · rw [e]; exact this
    · rw [e]; exact OR_handed this
  · intro j t x hj
    rw [hlen]
    obtain ⟨hlt, hm, o0, h0, e⟩ := sub_get hc hj
    have hbx : (⟨.box t, x⟩ : AObj) = (renR (posN · ids)).obj o0 := by
      rcases hf o0 with e' | e'
      · rw [e, e']
      · exact box_handed (by rw [e, e'])
    obtain ⟨t0, x0⟩ := o0
    cases t0 with
    | box t0 =>
      have e' : (⟨.box t, x⟩ : AObj) = ⟨.box ((renR (posN · ids)).app t0 x0).t, ((renR (posN · ids)).app t0 x0).x⟩ := hbx
      injection e' with e1 e2
      injection e1 with e1
      rw [e1]
      exact posR_okN t0 x0 ((closed_ok hc _ hm).2 t0 x0 h0)
    | row _ _ _ => injection (show (⟨.box t, x⟩ : AObj) = _ from hbx) with e1 e2; cases e1
    | gone => injection (show (⟨.box t, x⟩ : AObj) = _ from hbx) with e1 e2; cases e1
    | held => injection (show (⟨.box t, x⟩ : AObj) = _ from hbx) with e1 e2; cases e1
  · intro i j o o' hi hj hne ho ho'
    obtain ⟨hlt, hm, o0, h0, rfl⟩ := sub_get hc hi
    obtain ⟨hlt', hm', o0', h0', rfl⟩ := sub_get hc hj
    rw [hocc] at ho ho'
    have a1 : occ mu (ids.getD i 0) o0 := by
      obtain ⟨t, x⟩ := o0; cases t <;> exact ho
    have a2 : occ mu (ids.getD j 0) o0' := by
      obtain ⟨t, x⟩ := o0'; cases t <;> exact ho'
    exact H.sep _ _ o0 o0' h0 h0' (nodup_getD (distinct_ok hd) hlt hlt' hne) a1 a2
  · intro i o hi ho
    obtain ⟨hlt, hm, o0, h0, rfl⟩ := sub_get hc hi
    rw [hocc] at ho
    have a1 : occ mu (ids.getD i 0) o0 := by
      obtain ⟨t, x⟩ := o0; cases t <;> exact ho
    exact H.own _ o0 h0 a1
end
end Go.Abs
set_option autoImplicit false
set_option linter.unusedVariables false
namespace Go.Abs
def aggDesc : TypeDesc → Bool
  | .struct _ => true
  | .array _ _ => true
  | _ => false
def TD.agg : TD → Bool
  | .struct _ => true
  | .array _ _ => true
  | _ => false
structure Good (P : Program) (t : Nat) (ti : TI) : Prop where
  eqs : ti.eqs = true → P.stoodInHeld t = false ∧ P.eqGuardType P.depth t = false ∧ ∀ F : Array Field, P.underlying t = some (.struct F) → ∀ f ∈ F.toList, f.name ≠ "_"
  info : ∃ i, P.info? t = some i ∧ i.size = ti.siz ∧ i.bytes = ti.byt ∧
    (ti.zer.t.alive = true → ∃ z, i.zero = some z ∧ z.cells.size = ti.siz ∧ (∀ p, ti.zer.t.okN p) ∧ ∀ w Fr mu, VR w Fr mu ti.zer z)
  und : match ti.d with
    | .int k => P.underlying t = some (.int k)
    | .str => P.underlying t = some .string
    | .bool => P.underlying t = some .bool
    | .slice e => P.underlying t = some (.slice e)
    | .struct fs => ∃ F : Array Field, P.underlying t = some (.struct F) ∧ fs = F.toList.map (fun g => (g.offset, g.type))
    | .array n e => P.underlying t = some (.array n e)
    | .pointer => ∃ e, P.underlying t = some (.pointer e)
    | .map k e => P.underlying t = some (.map k e)
    | .other => ∃ d, P.underlying t = some d ∧ aggDesc d = false
def TabOK (P : Program) (tb : Tabs) : Prop := ∀ t ti, look tb t = some ti → Good P t ti
theorem run_isAgg {P : Program} {t : TypeId} {d : TypeDesc} (w : World) (h : P.underlying t = some d) : (isAgg t).run P w = .ok (aggDesc d) w := by
  unfold isAgg
  rw [Sem.run_bind, run_underlying h w]
  cases d <;> rfl
theorem run_sizeOf {P : Program} {t : TypeId} {i : TypeInfo} (w : World) (h : P.info? t = some i) : (sizeOf t).run P w = .ok i.size w := by
  simp [sizeOf, typeInfo, h]
theorem Good.size {P : Program} {t : Nat} {ti : TI} (h : Good P t ti) (w : World) : (sizeOf t).run P w = .ok ti.siz w := by
  obtain ⟨i, hi, hs, _⟩ := h.info
  rw [run_sizeOf w hi, hs]
theorem Good.agg {P : Program} {t : Nat} {ti : TI} (h : Good P t ti) (w : World) : (isAgg t).run P w = .ok ti.d.agg w := by
  have hu := h.und
  revert hu
  cases ti.d <;> intro hu
  case other => obtain ⟨d, hd, e⟩ := hu; rw [run_isAgg w hd, e]; rfl
  case struct fs => obtain ⟨F, hd, e⟩ := hu; rw [run_isAgg w hd]; rfl
  case pointer => obtain ⟨e, hd⟩ := hu; rw [run_isAgg w hd]; rfl
  all_goals (rw [run_isAgg w hu]; rfl)
section
variable {P : Program} {E : Env} {w : World} {Fr : Nat → Prop} {mu : Nat → Loc} {s : St} {a : Act}
def Safe (Fr : Nat → Prop) (mu : Nat → Loc) (h : List AObj) (b : Nat) : Prop := Fr b ∨ ∃ (m : Nat) (t : Ty) (x : den t), h[m]? = some (⟨.box t, x⟩ : AObj) ∧ b = (mu m).loc
structure Kept (g : Bool) (w : World) (Fr : Nat → Prop) (mu : Nat → Loc) (h : List AObj) (w' : World) (Fr' : Nat → Prop) (mu' : Nat → Loc) (h' : List AObj) : Prop where
  safe : ∀ b, Safe Fr mu h b → Safe Fr' mu' h' b
  same : g = true → ∀ b, Safe Fr mu h b → w'.heap[b]? = w.heap[b]?
theorem Kept.refl {g : Bool} {h : List AObj} : Kept g w Fr mu h w Fr mu h := ⟨fun _ => id, fun _ _ _ => rfl⟩
theorem Kept.trans {g : Bool} {h h' h'' : List AObj} {w' w'' : World} {Fr' Fr'' : Nat → Prop} {mu' mu'' : Nat → Loc} (k : Kept g w Fr mu h w' Fr' mu' h') (k' : Kept g w' Fr' mu' h' w'' Fr'' mu'' h'') : Kept g w Fr mu h w'' Fr'' mu'' h'' :=
  ⟨fun b hb => k'.safe b (k.safe b hb), fun hg b hb => (k'.same hg b (k.safe b hb)).trans (k.same hg b hb)⟩
def StepOK (P : Program) (E : Env) (w : World) (Fr : Nat → Prop) (mu : Nat → Loc) (s : St) (a : Act) (o : Oper) (d : Dyn) (s' : St) : Prop :=
  ∃ n v w' Fr' mu', (execOp a.eval o).run P w = .ok n w' ∧ (n = .value v ∨ (n = .skip ∧ v = undef)) ∧ VR w' Fr' mu' d v ∧ d.t.okN (· < s'.heap.length) ∧ Rep E w' Fr' mu' s' a ∧ Kept (!isStore o.op) w Fr mu s.heap w' Fr' mu' s'.heap
theorem StepOK.pure {o : Oper} {d : Dyn} {v : Value} (H : Rep E w Fr mu s a) (hr : (execOp a.eval o).run P w = .ok (.value v) w) (hv : VR w Fr mu d v) (hn : d.t.okN (· < s.heap.length)) : StepOK P E w Fr mu s a o d s :=
  ⟨_, v, w, Fr, mu, hr, .inl rfl, hv, hn, H, Kept.refl⟩
def StepQ (P : Program) (w : World) (Fr : Nat → Prop) (mu : Nat → Loc) (s : St) (a : Act) (o : Oper) (d : Dyn) (s' : St) : Prop :=
  s' = s ∧ ∃ v, VR w Fr mu d v ∧ d.t.okN (· < s.heap.length) ∧ ∀ w' : World, (execOp a.eval o).run P w' = .ok (.value v) w'
theorem StepQ.ok {o : Oper} {d : Dyn} {s' : St} (H : Rep E w Fr mu s a) (h : StepQ P w Fr mu s a o d s') : StepOK P E w Fr mu s a o d s' := by
  obtain ⟨rfl, v, h1, h2, h3⟩ := h
  exact .pure H (h3 w) h1 h2
theorem StepQ.mk {o : Oper} {d : Dyn} {v : Value} (hr : ∀ w' : World, (execOp a.eval o).run P w' = .ok (.value v) w') (hv : VR w Fr mu d v) (hn : d.t.okN (· < s.heap.length)) : StepQ P w Fr mu s a o d s :=
  ⟨rfl, v, hv, hn, hr⟩
def StepL (P : Program) (w : World) (Fr : Nat → Prop) (mu : Nat → Loc) (s : St) (a : Act) (o : Oper) (d : Dyn) (s' : St) : Prop :=
  s' = s ∧ ∃ v, VR w Fr mu d v ∧ d.t.okN (· < s.heap.length) ∧ ∀ w' : World, (∀ b, Safe Fr mu s.heap b → w'.heap[b]? = w.heap[b]?) → (execOp a.eval o).run P w' = .ok (.value v) w'
theorem StepL.ok {o : Oper} {d : Dyn} {s' : St} (H : Rep E w Fr mu s a) (h : StepL P w Fr mu s a o d s') : StepOK P E w Fr mu s a o d s' := by
  obtain ⟨rfl, v, h1, h2, h3⟩ := h
  exact .pure H (h3 w fun _ _ => rfl) h1 h2
theorem StepL.mk {o : Oper} {d : Dyn} {v : Value} (hr : ∀ w' : World, (∀ b, Safe Fr mu s.heap b → w'.heap[b]? = w.heap[b]?) → (execOp a.eval o).run P w' = .ok (.value v) w') (hv : VR w Fr mu d v) (hn : d.t.okN (· < s.heap.length)) : StepL P w Fr mu s a o d s :=
  ⟨rfl, v, hv, hn, hr⟩
theorem ok_move {o : Oper} {x : Operand} (ho : o.op = .move x ∨ o.op = .assign x) (H : Rep E w Fr mu s a) : StepQ P w Fr mu s a o (s.get x) s :=
  .mk (v := a.eval x) (fun w' => by unfold execOp; rcases ho with ho | ho <;> simp [ho]) (H.op x).1 (H.op x).2
theorem run_loadVar {t : Nat} {ti : TI} (hg : Good P t ti) {b o : Nat} {d : Dyn} {l : List Value} {p : Nat → Prop} (hd : CD w Fr mu p d l) (hf : ti.fits d.t = true) :
    ∃ v, (∀ w' : World, At w' b o l → (loadVar t ⟨b, o, none⟩).run P w' = .ok v w') ∧ VR w Fr mu d v := by
  have hagg := hg.agg
  have hsz := hg.size
  have hadd : ∀ j, (⟨b, o, none⟩ : Addr).add j = ⟨b, o + j, none⟩ := by intro j; unfold Addr.add; split <;> simp_all
  have many : l.length = ti.siz → d.t.vk = .agg → ti.d.agg = true → ∃ v, (∀ w' : World, At w' b o l → (loadVar t ⟨b, o, none⟩).run P w' = .ok v w') ∧ VR w Fr mu d v := by
    intro hl hk ha
    rw [ha] at hagg
    refine ⟨.agg l.toArray, fun w' hat => ?_, ?_⟩
    · have hc := run_loadCells_list (P := P) w' ⟨b, o, none⟩ l (fun j v hv => by rw [hadd]; exact hat j v hv)
      simp [loadVar, hagg, hsz, ← hl, hc]
    unfold VR
    rw [hk]
    exact ⟨hd.cel, l, rfl, hd.rp⟩
  have one : d.t.vk = .one → ti.d.agg = false → ∃ v, (∀ w' : World, At w' b o l → (loadVar t ⟨b, o, none⟩).run P w' = .ok v w') ∧ VR w Fr mu d v := by
    intro hk ha
    rw [ha] at hagg
    have hl : l.length = 1 := by
      rw [hd.len]
      revert hk
      cases d.t <;> first | (intro h; rfl) | (intro h; cases h)
    obtain ⟨v, rfl⟩ : ∃ v, l = [v] := by
      match l, hl with
      | [v], _ => exact ⟨v, rfl⟩
    refine ⟨v, fun w' hat => ?_, ?_⟩
    · have h0 := hat 0 v rfl
      simp [loadVar, hagg, h0, show (⟨b, o, none⟩ : Addr) = ⟨b, o + 0, none⟩ from rfl]
    · unfold VR; rw [hk]; exact hd.rp
  unfold TI.fits at hf
  cases hdd : ti.d
  case struct fs =>
    rw [hdd] at hf
    simp only [Bool.and_eq_true, beq_iff_eq] at hf
    refine many (by rw [hd.len, hf.2]) ?_ (by rw [hdd]; rfl)
    revert hf
    cases d.t <;> first | (intro h; rfl) | (intro h; cases h.1)
  case array n e =>
    rw [hdd] at hf
    simp only [Bool.and_eq_true, beq_iff_eq] at hf
    refine many (by rw [hd.len, hf.2]) ?_ (by rw [hdd]; rfl)
    revert hf
    cases d.t <;> first | (intro h; rfl) | (intro h; cases h.1)
  all_goals
    rw [hdd] at hf
    refine one ?_ (by rw [hdd]; rfl)
    revert hf
    cases d.t.vk <;> first | (intro h; rfl) | (intro h; cases h)
theorem fits_alive {ti : TI} {t : Ty} (h : ti.fits t = true) : t.alive = true := by
  unfold TI.fits at h
  cases t <;> first | rfl | (cases hd : ti.d <;> rw [hd] at h <;> simp [Ty.chain, Ty.vk] at h)
theorem fits_chain {ti : TI} {t : Ty} (h : ti.fits t = true) (hs : ti.st = true) : t.chain = true ∧ t.width = ti.siz := by
  unfold TI.fits at h
  unfold TI.st at hs
  revert h hs
  cases ti.d <;> intro h hs
  case struct => simp only [Bool.and_eq_true, beq_iff_eq] at h; exact h
  all_goals cases hs
theorem run_loadPart {t : Nat} {ti : TI} (hg : Good P t ti) {b o off : Nat} {d : Dyn} {l : List Value} {p : Nat → Prop} (hd : CD w Fr mu p d l) (hf : ti.fits (d.part off ti.siz ti.st).t = true) (hz : 0 < ti.siz ∨ ti.st = false) :
    ∃ v, (∀ w' : World, At w' b o l → (loadVar t ⟨b, o + off, none⟩).run P w' = .ok v w') ∧ VR w Fr mu (d.part off ti.siz ti.st) v ∧ (d.part off ti.siz ti.st).t.okN p := by
  obtain ⟨l1, lp, l2, e, hl1, hc⟩ := part_ok hd (fits_alive hf) (fun h => hz.resolve_right (by simp [h])) (fun h => (fits_chain hf h).1)
  obtain ⟨v, h1, h2⟩ := run_loadVar (b := b) (o := o + off) hg hc hf
  refine ⟨v, fun w' hat => h1 w' ?_, h2, hc.ok⟩
  rw [e] at hat
  have := hat.right.left
  rw [hl1] at this
  exact this
theorem ex_load {o : Oper} {t : Nat} {x : Operand} (ho : o.op = .load t x) {ρ : Operand → Value} {b off : Nat} (hx : ρ x = .pointer (some ⟨b, off, none⟩)) {v : Value} (h : (loadVar t ⟨b, off, none⟩).run P w = .ok v w) :
    (execOp ρ o).run P w = .ok (.value v) w := by
  unfold execOp
  simp [ho, hx, Instr.loadAt, Instr.sureAddr, h]
theorem safe_lt (H : SI E w Fr mu s.heap) {b : Nat} (hb : Safe Fr mu s.heap b) : b < w.heap.size := by
  rcases hb with hb | ⟨m, t, x, hm, rfl⟩
  · exact H.frL b hb
  · exact (H.own m _ hm trivial).2.2
theorem Kept.set (H : SI E w Fr mu s.heap) {g : Bool} {r : Tr} {w' : World} {j : Nat} {oj o : AObj} {L : Loc} (hj : s.heap[j]? = some oj) (hbox : ∀ (t : Ty) (x : den t), oj = ⟨.box t, x⟩ → (∃ (t' : Ty) (x' : den t'), o = ⟨.box t', x'⟩) ∧ L.loc = (mu j).loc)
    (hg : Grow (fun b => occ mu j oj ∧ b = (mu j).loc) w w') (hgb : g = true → ∀ (t : Ty) (x : den t), oj ≠ ⟨.box t, x⟩) : Kept g w Fr mu s.heap w' Fr (upd mu j L) ((s.heap.map r.obj).set j o) := by
  refine ⟨?_, ?_⟩
  · rintro b (hb | ⟨m, t, x, hm, rfl⟩)
    · exact .inl hb
    · by_cases hmj : m = j
      · subst hmj
        rw [hj] at hm
        injection hm with hm
        obtain ⟨⟨t', x', e⟩, hL⟩ := hbox t x hm
        refine .inr ⟨m, t', x', ?_, by rw [upd_same]; exact hL.symm⟩
        rw [List.getElem?_set_self (by simpa using (List.getElem?_eq_some_iff.1 hj).1), e]
      · refine .inr ⟨m, (r.app t x).t, (r.app t x).x, ?_, by rw [upd_ne hmj]⟩
        rw [List.getElem?_set_ne (fun e => hmj e.symm), List.getElem?_map, hm]; rfl
  · intro hgt b hb
    refine hg.block b (safe_lt H hb) ?_
    rintro ⟨hoc, e⟩
    rcases hb with hb | ⟨m, t, x, hm, rfl⟩
    · exact (H.own j oj hj hoc).2.1 (e ▸ hb)
    · by_cases hmj : m = j
      · subst hmj
        rw [hj] at hm
        injection hm with hm
        exact hgb hgt t x hm
      · exact H.sep m j _ oj hm hj hmj trivial hoc e
theorem Kept.put1 (H : SI E w Fr mu s.heap) {g : Bool} {w' : World} {j : Nat} {oj o : AObj} (hj : s.heap[j]? = some oj) (hbox : ∀ (t : Ty) (x : den t), oj = ⟨.box t, x⟩ → ∃ (t' : Ty) (x' : den t'), o = ⟨.box t', x'⟩)
    (hg : Grow (fun b => occ mu j oj ∧ b = (mu j).loc) w w') (hgb : g = true → ∀ (t : Ty) (x : den t), oj ≠ ⟨.box t, x⟩) : Kept g w Fr mu s.heap w' Fr mu (s.setObj j o).heap := by
  have hu : upd mu j (mu j) = mu := by funext i; by_cases hi : i = j
                                       · rw [hi, upd_same]
                                       · rw [upd_ne hi]
  have := Kept.set (r := idR) (o := o) (L := mu j) H hj (fun t x e => ⟨hbox t x e, rfl⟩) hg hgb
  rw [hu] at this
  have e : s.heap.map idR.obj = s.heap := by
    conv => rhs; rw [← List.map_id s.heap]
    exact List.map_congr_left fun p _ => by rw [idR_obj]; rfl
  rw [e] at this
  exact this
theorem Kept.new (H : SI E w Fr mu s.heap) {g : Bool} {w' : World} {o : AObj} {L : Loc} (hg : Grow (fun _ => False) w w') : Kept g w Fr mu s.heap w' Fr (upd mu s.heap.length L) (s.new o).heap := by
  refine ⟨?_, fun _ b hb => hg.block b (safe_lt H hb) id⟩
  rintro b (hb | ⟨m, t, x, hm, rfl⟩)
  · exact .inl hb
  · have hlt := (List.getElem?_eq_some_iff.1 hm).1
    refine .inr ⟨m, t, x, ?_, by rw [upd_ne (by omega)]⟩
    show (s.heap ++ [o])[m]? = _
    rw [List.getElem?_append_left hlt]; exact hm
theorem Kept.frz {g : Bool} {l : List Nat} : Kept g w Fr mu s.heap w (FrL Fr mu s.heap l) mu (s.freeze l).heap := by
  refine ⟨?_, fun _ _ _ => rfl⟩
  rintro b (hb | ⟨m, t, x, hm, rfl⟩)
  · exact .inl (.inl hb)
  · by_cases hl : m ∈ l
    · exact .inl (.inr ⟨m, _, hl, hm, trivial, rfl⟩)
    · by_cases hl0 : l = []
      · subst hl0; exact .inr ⟨m, t, x, hm, rfl⟩
      · have hgl : ∀ (l : List Nat) (hp : List AObj), m ∉ l → (goneL l hp)[m]? = hp[m]? := by
          intro l
          induction l with
          | nil => intro hp _; rfl
          | cons k l ih =>
            intro hp hnk
            simp only [List.mem_cons, not_or] at hnk
            show (goneL l (hp.set k gone))[m]? = _
            rw [ih _ hnk.2, List.getElem?_set_ne (fun e => hnk.1 e.symm)]
        refine .inr ⟨m, ((thawR s l).app t x).t, ((thawR s l).app t x).x, ?_, rfl⟩
        rw [freeze_eq s hl0]
        show (goneL l (s.heap.map _))[m]? = _
        rw [hgl l _ hl, List.getElem?_map, hm]; rfl
end
end Go.Abs
set_option autoImplicit false
set_option linter.unusedVariables false
namespace Go.Abs
section
variable {P : Program} {E : Env} {w : World} {Fr : Nat → Prop} {mu : Nat → Loc} {s : St} {a : Act}
theorem put2_some {ti : TI} {d d' : Dyn} {s s' : St} {b : Bool} (h : put2 ti d s = some (b, d', s')) : ti.fits d.t = true ∧ 0 < ti.siz ∧ b = true ∧ d' = d ∧ s' = s := by
  unfold put2 at h
  split at h
  · rename_i hc
    simp only [Bool.and_eq_true, decide_eq_true_eq] at hc
    injection h with h
    injection h with h1 h2
    injection h2 with h2 h3
    exact ⟨hc.1, hc.2, h1.symm, h2.symm, h3.symm⟩
  · cases h
theorem obj_some {s : St} {i : Nat} {t : OTy} {x : denO t} (h : s.obj i = ⟨t, x⟩) (hne : t ≠ .gone) : s.heap[i]? = some (⟨t, x⟩ : AObj) := getD_some h hne
theorem box_CD (H : Rep E w Fr mu s a) {i : Nat} {u : Ty} {x : den u} (h : s.heap[i]? = some (⟨.box u, x⟩ : AObj)) : ∃ (cells : List Value) (e : TypeId), w.heap[(mu i).loc]? = some (.cells cells.toArray e (0, 0)) ∧ CD w Fr mu (· < s.heap.length) ⟨u, x⟩ cells ∧ At w (mu i).loc 0 cells := by
  obtain ⟨hc, cells, e, hcell, hr⟩ := H.si.obj i _ h
  refine ⟨cells, e, hcell, ⟨hc, H.si.nm i u x h, hr⟩, fun k v hk => ?_⟩
  rw [Nat.zero_add, cell_of_row w _ k _ e (0, 0) hcell]
  simpa using hk
theorem row_CD (H : Rep E w Fr mu s a) {i : Nat} {u : Ty} {l : List (den u)} (hl : rowOf s u i = some l) {n : Int} {off : Nat} {v : List Value} (hr : Rp w Fr mu (.rptr u i off) n v) :
    ∃ cells, CD w Fr mu (· < s.heap.length) ⟨u, ixL u l n⟩ cells ∧ At w (mu i).loc (n.toNat * u.width) cells ∧ v = [.pointer (some ⟨(mu i).loc, n.toNat * u.width + off, none⟩)] ∧ 0 ≤ n ∧ n < l.length := by
  obtain ⟨e, f, ho⟩ := rowOf_some hl
  obtain ⟨b, m, c, hv, h0, h1, hp⟩ := hr
  obtain ⟨cells, h2, h3, hb, hn⟩ := row_at (Fr' := Fr) (fun _ => id) (H.si.obj i _ ho) hv h0 h1
  have he := (H.si.obj i _ ho).1
  subst hb
  exact ⟨cells, ⟨Ty.elt_cel he, u.pure_okN (Ty.elt_pure he), h2⟩, h3, hp, h0, by rw [← hn]; exact h1⟩
theorem arr_CD {p : Nat → Prop} {d : Dyn} {base : Nat} {u : Ty} {m : Nat} {l : List (den u)} {cells : List Value} (hd : CD w Fr mu p d cells) (h : arrAt d base m u = some l) :
    u.elt = true ∧ l.length = m ∧ ∃ l1 lp l2, cells = l1 ++ (lp ++ l2) ∧ l1.length = base ∧ rows (fun x l => Rp w Fr mu u x l) l lp := by
  have h' := as_some h
  unfold compAt at h'
  obtain ⟨l1, lp, l2, e, hl1, hc⟩ := part_ok (off := base) (n := 0) (st := false) hd (by rw [h']; rfl) (by simp) (by simp)
  rw [h'] at hc
  obtain ⟨he, hl, hr⟩ := hc.rp
  exact ⟨he, hl, l1, lp, l2, e, hl1, hr⟩
theorem arr_at {p : Nat → Prop} {d : Dyn} {base : Nat} {u : Ty} {m : Nat} {l : List (den u)} {cells : List Value} (hd : CD w Fr mu p d cells) (h : arrAt d base m u = some l) {n : Int} (h0 : 0 ≤ n) (h1 : n < l.length) :
    ∃ A c B, cells = A ++ (c ++ B) ∧ A.length = base + n.toNat * u.width ∧ CD w Fr mu p ⟨u, ixL u l n⟩ c := by
  obtain ⟨he, hl, l1, lp, l2, e, hl1, hr⟩ := arr_CD hd h
  have hx : l[n.toNat]? = some (ixL u l n) := by
    have : n.toNat < l.length := by omega
    unfold ixL
    rw [List.getD_eq_getElem?_getD, List.getElem?_eq_getElem this]; rfl
  obtain ⟨c, hc, hcl, A, B, e2, hA⟩ := rows_get (n := u.width) (fun x l h => Rp_len u x l (Ty.elt_cel he) h) hr hx
  exact ⟨l1 ++ A, c, B ++ l2, by rw [e, e2]; simp, by rw [List.length_append, hl1, hA], Ty.elt_cel he, u.pure_okN (Ty.elt_pure he), hc⟩
end
end Go.Abs
set_option autoImplicit false
set_option linter.unusedVariables false
namespace Go.Abs
section
variable {P : Program} {T : Told} {E : Env} {w : World} {Fr : Nat → Prop} {mu : Nat → Loc} {s : St} {a : Act}
theorem ok_load2 (hT : TabOK P T.tb) (H : Rep E w Fr mu s a) {fn : Nat} {o : Oper} {t : Nat} {x : Operand} (ho : o.op = .load t x) {d : Dyn} {s' : St} (h : opP T fn o s = some (true, d, s')) : StepOK P E w Fr mu s a o d s' ∧ (still (s.get x).t = true → StepL P w Fr mu s a o d s') := by
  unfold opP at h
  rw [ho] at h
  dsimp only at h
  split at h
  · cases h
  rename_i ti hti
  have hg := hT t ti hti
  have hx := (H.op x).1
  have two : StepL P w Fr mu s a o d s' → StepOK P E w Fr mu s a o d s' ∧ (still (s.get x).t = true → StepL P w Fr mu s a o d s') := fun h => ⟨h.ok H, fun _ => h⟩
  split at h
  · rename_i i off _ hq
    rw [hq] at hx
    have hx : [a.eval x] = [.pointer (some ⟨(mu i).loc, off, none⟩)] := hx
    injection hx with hx
    split at h
    · rename_i u y hob
      obtain ⟨hf, hz, _, rfl, rfl⟩ := put2_some h
      obtain ⟨cells, e, hcell, hcd, hat⟩ := box_CD H (obj_some hob (by simp))
      obtain ⟨v, h1, h2, h3⟩ := run_loadPart (b := (mu i).loc) (o := 0) hg hcd hf (.inl hz)
      rw [Nat.zero_add] at h1
      exact two (.mk (fun w' ha => ex_load ho hx (h1 w' (hat.keep (ha _ (.inr ⟨i, u, y, obj_some hob (by simp), rfl⟩))))) h2 h3)
    · cases h
  · rename_i u off y hq
    rw [hq] at hx
    obtain ⟨he, b, o', cells, hx, hb, hr, hat⟩ := hx
    injection hx with hx
    obtain ⟨hf, hz, _, rfl, rfl⟩ := put2_some h
    have hcd : CD w Fr mu (· < s'.heap.length) ⟨u, y⟩ cells := ⟨Ty.elt_cel he, u.pure_okN (Ty.elt_pure he), hr⟩
    obtain ⟨v, h1, h2, h3⟩ := run_loadPart (b := b) (o := o') hg hcd hf (.inl hz)
    exact two (.mk (fun w' ha => ex_load ho hx (h1 w' (hat.keep (ha _ (.inl hb))))) h2 h3)
  · rename_i u i off n hq
    rw [hq] at hx
    split at h
    · rename_i l hl
      obtain ⟨hf, hz, _, rfl, rfl⟩ := put2_some h
      obtain ⟨cells, hcd, hat, hx, _⟩ := row_CD H hl hx
      injection hx with hx
      obtain ⟨v, h1, h2, h3⟩ := run_loadPart (b := (mu i).loc) (o := n.toNat * u.width) hg hcd hf (.inl hz)
      exact ⟨.pure H (ex_load ho hx (h1 w hat)) h2 h3, fun h => by rw [hq] at h; cases h⟩
    · cases h
  · rename_i u m i base off n hq
    rw [hq] at hx
    split at h
    · rename_i v0 y hob
      split at h
      · rename_i l hl
        obtain ⟨hf, hz, _, rfl, rfl⟩ := put2_some h
        obtain ⟨cells, e, hcell, hcd, hat⟩ := box_CD H (obj_some hob (by simp))
        obtain ⟨⟨h0, h1⟩, hx⟩ := hx
        injection hx with hx
        have hlen := (arr_CD hcd hl).2.1
        obtain ⟨A, c, B, e, hA, hcd'⟩ := arr_at (n := n) hcd hl h0 (by rw [hlen]; exact h1)
        rw [e] at hat
        have hat := hat.right.left
        rw [hA, Nat.zero_add] at hat
        obtain ⟨v, h1, h2, h3⟩ := run_loadPart (b := (mu i).loc) (o := base + n.toNat * u.width) hg hcd' hf (.inl hz)
        rw [show base + (n.toNat * u.width + off) = base + n.toNat * u.width + off by omega] at hx
        exact two (.mk (fun w' ha => ex_load ho hx (h1 w' (hat.keep (ha _ (.inr ⟨i, v0, y, obj_some hob (by simp), rfl⟩))))) h2 h3)
      · cases h
    · cases h
  · cases h
theorem ok_load (hT : TabOK P T.tb) (H : Rep E w Fr mu s a) {fn : Nat} {o : Oper} {t : Nat} {x : Operand} (ho : o.op = .load t x) {d : Dyn} {s' : St} (h : opP T fn o s = some (true, d, s')) : StepOK P E w Fr mu s a o d s' := (ok_load2 hT H ho h).1
theorem VR_cells {p : Nat → Prop} (hh : ∀ i, (mu i).hdr.oneCell' = true) {d : Dyn} {v : Value} (hv : VR w Fr mu d v) (hc : d.t.cel = true) (ha : d.t.alive = true) (hn : d.t.okN p) :
    CD w Fr mu p d v.cells.toList ∧ ∀ u ∈ v.cells.toList, u.oneCell' = true := by
  have key : ∀ l : List Value, v.cells.toList = l → Rp w Fr mu d.t d.x l → CD w Fr mu p d v.cells.toList ∧ ∀ u ∈ v.cells.toList, u.oneCell' = true := by
    intro l e hr
    rw [e]
    exact ⟨⟨hc, hn, hr⟩, Rp_one hh _ _ _ hc hr⟩
  unfold VR at hv
  cases hk : d.t.vk
  case dead => revert hk ha; cases d.t <;> intro h1 h2 <;> first | (cases h1; done) | (cases h2; done)
  case tup => revert hk hc; cases d.t <;> intro h1 h2 <;> first | (cases h1; done) | (cases h2; done)
  case agg =>
    rw [hk] at hv
    obtain ⟨_, cs, rfl, hr⟩ := hv
    exact key cs rfl hr
  case one =>
    rw [hk] at hv
    refine key [v] ?_ hv
    have := Rp_one hh _ _ _ hc hv v (by simp)
    cases v <;> first | rfl | (simp [Value.oneCell'] at this)
theorem ex_store {o : Oper} {t : Nat} {x y : Operand} (ho : o.op = .store t x y) {ρ : Operand → Value} {ti : TI} (hg : Good P t ti) {g off : Nat} (hx : ρ x = .pointer (some ⟨g, off, none⟩)) {cur : Array Value} {e : TypeId} (hcell : w.heap[g]? = some (.cells cur e (0, 0)))
    (hsz : (ρ y).cells.toList.length = ti.siz) (h1 : ∀ u ∈ (ρ y).cells.toList, u.oneCell' = true) (hfit : off + (ρ y).cells.toList.length ≤ cur.size) :
    (execOp ρ o).run P w = .ok .skip (w.setRow g (cur.toList.take off ++ (ρ y).cells.toList ++ cur.toList.drop (off + (ρ y).cells.toList.length)).toArray) := by
  have hst := run_storeCells_at P g off e (ρ y).cells.toList 0 cur w hcell (by simpa using hfit) h1
  have hsz' : (ρ y).cells.size = ti.siz := by rw [← hsz]; simp
  unfold execOp
  simp only [Nat.add_zero] at hst
  simp [ho, hx, Instr.storeAt, Instr.sureAddr, storeVar, hg.size w, hsz', hst]
theorem grow_setRow {g : Nat} {cs : Array Value} {O : Nat → Prop} (ho : O g) : Grow O w (w.setRow g cs) :=
  ⟨rfl, rfl, rfl, by simp, fun k hk hn => setRow_other w g k cs (fun e => hn (e ▸ ho))⟩
theorem list_put (A l1 lm l2 R lv : List Value) (h : lm.length = lv.length) :
    (A ++ (l1 ++ (lm ++ l2)) ++ R).take (A.length + l1.length) ++ lv ++ (A ++ (l1 ++ (lm ++ l2)) ++ R).drop (A.length + l1.length + lv.length) = A ++ (l1 ++ (lv ++ l2)) ++ R := by
  have e : A ++ (l1 ++ (lm ++ l2)) ++ R = (A ++ l1) ++ (lm ++ (l2 ++ R)) := by simp
  rw [e, List.take_left' (by simp), ← h, ← List.append_assoc (A ++ l1) lm, List.drop_left' (by simp; omega)]
  simp
theorem CD_keep {w' : World} {Fr' : Nat → Prop} {p : Nat → Prop} {d : Dyn} {l : List Value} (hF : ∀ b, Fr b → Fr' b) (hw : ∀ b, Fr b → w'.heap[b]? = w.heap[b]?) (h : CD w Fr mu p d l) : CD w' Fr' mu p d l :=
  ⟨h.cel, h.ok, Rp_keep hF hw _ _ _ (Ty.okN_all (fun _ => rfl) _) h.rp⟩
theorem ok_box_put {o : Oper} {t : Nat} {x y : Operand} (ho : o.op = .store t x y) {ti : TI} (hg : Good P t ti) (H : Rep E w Fr mu s a) {i off : Nat} (hx : a.eval x = .pointer (some ⟨(mu i).loc, off, none⟩)) {u : Ty} {b : den u}
    (hob : s.heap[i]? = some (⟨.box u, b⟩ : AObj)) {z : Dyn} {lv : List Value} (hv : (a.eval y).cells.toList = lv) (hl : lv.length = ti.siz) (h1 : ∀ u ∈ lv, u.oneCell' = true)
    (hz : ∀ cells : List Value, CD w Fr mu (· < s.heap.length) ⟨u, b⟩ cells → ∃ A lm B, cells = A ++ (lm ++ B) ∧ A.length = off ∧ lm.length = lv.length ∧ CD w Fr mu (· < s.heap.length) z (A ++ (lv ++ B))) :
    StepOK P E w Fr mu s a o nope (s.setObj i ⟨.box z.t, z.x⟩) := by
  obtain ⟨cells, e, hcell, hcd, hat⟩ := box_CD H hob
  obtain ⟨A, lm, B, ec, hA, hlm, hcdz⟩ := hz cells hcd
  have hocc : occ mu i (⟨.box u, b⟩ : AObj) := trivial
  have hst := ex_store (P := P) (w := w) (ρ := a.eval) ho hg hx hcell (by rw [hv, hl]) (by rw [hv]; exact h1) (by rw [hv, ec]; simp [hA, hlm])
  rw [hv] at hst
  have hlist : cells.toArray.toList.take off ++ lv ++ cells.toArray.toList.drop (off + lv.length) = A ++ (lv ++ B) := by
    have := list_put [] A lm B [] lv hlm
    simp only [List.nil_append, List.append_nil, List.length_nil, Nat.zero_add] at this
    rw [ec, ← hA]
    simpa using this
  rw [hlist] at hst
  have hgrow : Grow (fun b' => occ mu i (⟨.box u, b⟩ : AObj) ∧ b' = (mu i).loc) w (w.setRow (mu i).loc (A ++ (lv ++ B)).toArray) := grow_setRow ⟨hocc, rfl⟩
  have hfr : ∀ b', Fr b' → (w.setRow (mu i).loc (A ++ (lv ++ B)).toArray).heap[b']? = w.heap[b']? := fun b' hb => hgrow.block b' (H.si.frL b' hb) (fun ⟨_, e⟩ => (H.si.own i _ hob hocc).2.1 (e ▸ hb))
  refine ⟨_, undef, _, Fr, mu, hst, .inr ⟨rfl, rfl⟩, trivial, trivial, ?_, Kept.put1 H.si hob (fun t x _ => ⟨_, _, rfl⟩) hgrow (by rw [ho]; intro h; cases h)⟩
  refine H.put1 hob hgrow ?_ (fun _ => hocc) ?_ ?_
  · exact ⟨hcdz.cel, _, e, setRow_heap w _ _ _ e (0, 0) hcell, (CD_keep (fun _ => id) hfr hcdz).rp⟩
  · intro t' x' e'
    injection e' with e1 e2
    injection e1 with e1
    rw [← e1]; exact hcdz.ok
  · intro hm
    show mu i = E.mu0 i
    exact H.si.hand i _ hm hob
theorem freeze_row {l : List Nat} {i : Nat} {e : Nat} {t : Ty} {f : Bool} {xs : List (den t)} (h : (s.freeze l).heap[i]? = some (⟨.row e t f, xs⟩ : AObj)) : s.heap[i]? = some (⟨.row e t f, xs⟩ : AObj) := by
  by_cases hl : l = []
  · subst hl; exact h
  rw [freeze_eq s hl] at h
  rcases goneL_get _ _ _ _ h with ⟨_, h2⟩ | ⟨_, h2⟩ | h2
  · cases h2
  · obtain ⟨⟨t0, x0⟩, h0, e0⟩ := map_get h2
    cases t0 with
    | row _ _ _ => rw [h0, e0]; rfl
    | box _ => injection (show (⟨.row e t f, xs⟩ : AObj) = _ from e0) with e1 e2; cases e1
    | gone => injection (show (⟨.row e t f, xs⟩ : AObj) = _ from e0) with e1 e2; cases e1
    | held => injection (show (⟨.row e t f, xs⟩ : AObj) = _ from e0) with e1 e2; cases e1
  · cases h2
theorem list_as {u u' : Ty} {l' : List (den u')} {l : List (den u)} (h : (⟨.list u', l'⟩ : Dyn).as (.list u) = some l) {e : Nat} {f : Bool} : (⟨.row e u' f, l'⟩ : AObj) = ⟨.row e u f, l⟩ := by
  have := as_some h
  injection this with h5 h6
  injection h5 with h5
  subst h5
  rw [eq_of_heq h6]
theorem ok_store_row (hT : TabOK P T.tb) (H : Rep E w Fr mu s a) {o : Oper} {t : Nat} {x y : Operand} (ho : o.op = .store t x y) {ti : TI} (hg : Good P t ti) {u : Ty} {i off : Nat} {n : Int} (hx : Rp w Fr mu (.rptr u i off) n [a.eval x])
    {v : Dyn} {lv : List Value} (hv : (a.eval y).cells.toList = lv) (hcv : CD w Fr mu (· < s.heap.length) v lv) (hl : lv.length = ti.siz) (h1 : ∀ u ∈ lv, u.oneCell' = true)
    {l : List (den u)} (hrow : rowOf s u i = some l) (hza : ((⟨u, ixL u l n⟩ : Dyn).setPart off v).t.alive = true) (hzw : ((⟨u, ixL u l n⟩ : Dyn).setPart off v).t.width = u.width)
    {z : den u} {s' : St} (hcf : coeF s u ((⟨u, ixL u l n⟩ : Dyn).setPart off v) = some (z, s')) {e : Nat} {f : Bool} {l' : List (den u)} (hob : s'.heap[i]? = some (⟨.row e u f, l'⟩ : AObj)) :
    StepOK P E w Fr mu s a o nope (s'.setObj i ⟨.row e u f, setL u l' n z⟩) := by
  obtain ⟨e0, f0, ho0⟩ := rowOf_some hrow
  obtain ⟨b, m, cc, hhdr, h0, hn, hp⟩ := hx
  injection hp with hp
  obtain ⟨he, cells, hr, hc⟩ := row_cells (H.si.obj i _ ho0)
  rcases hc with ⟨ad, hnil, _⟩ | ⟨cap, cur, hhdr', hlen, hmax, hocc, hcell, hcs, htk, hat⟩
  · rw [hnil] at hhdr
    injection hhdr with _ hh _
    have h0 : (0 : Int) ≤ n := h0
    have hn : n < (m : Int) := hn
    omega
  rw [hhdr'] at hhdr
  injection hhdr with hb hm _
  injection hb with hb
  injection hb with hb
  subst hb
  have h0 : (0 : Int) ≤ n := h0
  have hn : n < (m : Int) := hn
  have hnl : n.toNat < l.length := by omega
  have hxn : l[n.toNat]? = some (ixL u l n) := by
    unfold ixL
    rw [List.getD_eq_getElem?_getD, List.getElem?_eq_getElem hnl]; rfl
  have hwid : ∀ (x : den u) (l : List Value), Rp w Fr mu u x l → l.length = u.width := fun x l h => Rp_len u x l (Ty.elt_cel he) h
  obtain ⟨c, hc, hcl, A, B, ec, hA⟩ := rows_get hwid hr hxn
  have hcd : CD w Fr mu (· < s.heap.length) ⟨u, ixL u l n⟩ c := ⟨Ty.elt_cel he, u.pure_okN (Ty.elt_pure he), hc⟩
  obtain ⟨l1, lm, l2, el, hl1, hlm, _, hz⟩ := setPart_ok hcd hcv hza hzw
  obtain ⟨_, hs', hrz, H'⟩ := coeF_ok H hcf hz
  have hsame : l' = l ∧ e = e0 := by
    rw [hs'] at hob
    have := freeze_row hob
    rw [ho0] at this
    injection this with this
    injection this with h3 h4
    injection h3 with h5 h6 h7
    exact ⟨h4.symm, h5.symm⟩
  obtain ⟨rfl, rfl⟩ := hsame
  -- the block, and what is written
  have hcur : cur.toList = A ++ (l1 ++ (lm ++ l2)) ++ (B ++ cur.toList.drop (l'.length * u.width)) := by
    conv => lhs; rw [← List.take_append_drop (l'.length * u.width) cur.toList, htk, ec, el]
    simp
  have hfit : n.toNat * u.width + off + lv.length ≤ cur.size := by
    have : cur.size = cur.toList.length := by simp
    rw [this, hcur]
    simp only [List.length_append, hA, hl1, hlm]; omega
  have hst := ex_store (P := P) (w := w) (ρ := a.eval) ho hg hp hcell (by rw [hv, hl]) (by rw [hv]; exact h1) (by rw [hv]; exact hfit)
  rw [hv] at hst
  have hput := list_put A l1 lm l2 (B ++ cur.toList.drop (l'.length * u.width)) lv hlm
  rw [← hcur, hA, hl1] at hput
  rw [hput] at hst
  generalize hnew : (A ++ (l1 ++ (lv ++ l2)) ++ (B ++ cur.toList.drop (l'.length * u.width))) = new at hst hput
  have hgrow : Grow (fun b' => occ mu i (⟨.row e u f, l'⟩ : AObj) ∧ b' = (mu i).loc) w (w.setRow (mu i).loc new.toArray) := grow_setRow ⟨hocc, rfl⟩
  have hown := H'.si.own i _ hob hocc
  have hfr : ∀ b', FrL Fr mu s.heap (ownsT ((⟨u, ixL u l' n⟩ : Dyn).setPart off v).t []) b' → (w.setRow (mu i).loc new.toArray).heap[b']? = w.heap[b']? := fun b' hb => hgrow.block b' (H'.si.frL b' hb) (fun ⟨_, e⟩ => hown.2.1 (e ▸ hb))
  refine ⟨_, undef, _, FrL Fr mu s.heap (ownsT ((⟨u, ixL u l' n⟩ : Dyn).setPart off v).t []), mu, hst, .inr ⟨rfl, rfl⟩, trivial, trivial, ?_, Kept.trans (by rw [hs']; exact Kept.frz) (Kept.put1 H'.si hob (fun t x e => by cases e) hgrow (by rw [ho]; intro h; cases h))⟩
  have hlenz : (l1 ++ (lv ++ l2)).length = u.width := by
    rw [el] at hcl
    simp only [List.length_append] at hcl ⊢
    omega
  refine H'.put1 hob hgrow ?_ (fun _ => hocc) (fun t x e => by cases e) (fun hm => by have := H'.si.hand i _ hm hob; cases f <;> exact this)
  refine ⟨he, A ++ ((l1 ++ (lv ++ l2)) ++ B), ?_, .inr ⟨hocc, ?_, ?_⟩⟩
  · have h3 : rows (fun x l => Rp (w.setRow (mu i).loc new.toArray) (FrL Fr mu s.heap (ownsT ((⟨u, ixL u l' n⟩ : Dyn).setPart off v).t [])) mu u x l) l' cells :=
      rows_mono (fun x l h => Rp_keep (fun b hb => .inl hb) (fun b hb => hfr b (.inl hb)) u x l (Ty.okN_all (fun _ => rfl) u) h) hr
    have h4 := rows_set (n := u.width) (fun x l h => Rp_len u x l (Ty.elt_cel he) h) h3 hnl (Rp_keep (fun _ => id) hfr u z _ (Ty.okN_all (fun _ => rfl) u) hrz)
    have e1 : cells.take (n.toNat * u.width) = A := by rw [ec, ← hA, List.take_left' rfl]
    have e2 : cells.drop (n.toNat * u.width + u.width) = B := by rw [ec, ← List.append_assoc, List.drop_left' (by simp [hA, hcl])]
    rw [e1, e2] at h4
    exact h4
  · have : (setL u l' n z).length = l'.length := by simp [setL]
    rw [this]
    have h5 := rows_len hwid hr
    rw [ec] at h5
    simp only [List.length_append] at h5 hlenz ⊢
    omega
  · have hll : (setL u l' n z).length = l'.length := by simp [setL]
    refine .inr ⟨(mu i).loc, cap, new.toArray, by rw [hll]; exact hhdr', Nat.zero_le _, setRow_heap w _ _ _ _ (0, 0) hcell, by rw [hll]; exact hlen, hmax, ?_, ?_⟩
    · rw [← hcs, ← hnew]
      have : cur.size = cur.toList.length := by simp
      rw [this]; conv => rhs; rw [hcur]
      simp only [List.size_toArray, List.length_append]; omega
    · rw [hll, ← hnew]
      have h5 := rows_len hwid hr
      rw [ec] at h5
      have e3 : A ++ (l1 ++ (lv ++ l2)) ++ (B ++ cur.toList.drop (l'.length * u.width)) = (A ++ ((l1 ++ (lv ++ l2)) ++ B)) ++ cur.toList.drop (l'.length * u.width) := by simp
      rw [List.toList_toArray, e3, List.take_left']
      simp only [List.length_append] at h5 hlenz ⊢
      omega
theorem ok_store_arr (H : Rep E w Fr mu s a) {o : Oper} {t : Nat} {x y : Operand} (ho : o.op = .store t x y) {ti : TI} (hg : Good P t ti) {u : Ty} {m i base off : Nat} {n : Int} (hx : Rp w Fr mu (.aptr u m i base off) n [a.eval x])
    {v : Dyn} {lv : List Value} (hv : (a.eval y).cells.toList = lv) (hcv : CD w Fr mu (· < s.heap.length) v lv) (hl : lv.length = ti.siz) (h1 : ∀ u ∈ lv, u.oneCell' = true)
    {bt : Ty} {bx : den bt} (hbox : s.heap[i]? = some (⟨.box bt, bx⟩ : AObj)) {l : List (den u)} (harr : arrAt ⟨bt, bx⟩ base m u = some l)
    (hza : ((⟨u, ixL u l n⟩ : Dyn).setPart off v).t.alive = true) (hzw : ((⟨u, ixL u l n⟩ : Dyn).setPart off v).t.width = u.width)
    {z : den u} {s' : St} (hcf : coeF s u ((⟨u, ixL u l n⟩ : Dyn).setPart off v) = some (z, s')) {bt' : Ty} {bx' : den bt'} (hob : s'.heap[i]? = some (⟨.box bt', bx'⟩ : AObj)) {l' : List (den u)} (harr' : arrAt ⟨bt', bx'⟩ base m u = some l')
    (hwa : ((⟨bt', bx'⟩ : Dyn).setPart base ⟨.arr m u, setL u l' n z⟩).t.alive = true) (hww : ((⟨bt', bx'⟩ : Dyn).setPart base ⟨.arr m u, setL u l' n z⟩).t.width = bt'.width) :
    StepOK P E w Fr mu s a o nope (s'.setObj i ⟨.box ((⟨bt', bx'⟩ : Dyn).setPart base ⟨.arr m u, setL u l' n z⟩).t, ((⟨bt', bx'⟩ : Dyn).setPart base ⟨.arr m u, setL u l' n z⟩).x⟩) := by
  obtain ⟨⟨h0, hn⟩, hp⟩ := hx
  injection hp with hp
  have h0 : (0 : Int) ≤ n := h0
  have hn : n < (m : Int) := hn
  obtain ⟨cells, e, hcell, hcd, hat⟩ := box_CD H hbox
  have hlen := (arr_CD hcd harr).2.1
  have helt := (arr_CD hcd harr).1
  obtain ⟨A, c, B, ec, hA, hce⟩ := arr_at (n := n) hcd harr h0 (by rw [hlen]; exact hn)
  obtain ⟨x1, xm, x2, ex, hx1, hxm, _, hz⟩ := setPart_ok hce hcv hza hzw
  obtain ⟨_, hs', hrz, H'⟩ := coeF_ok H hcf hz
  generalize hFr' : FrL Fr mu s.heap (ownsT ((⟨u, ixL u l n⟩ : Dyn).setPart off v).t []) = Fr' at hrz H'
  obtain ⟨cells', e', hcell', hcd', hat'⟩ := box_CD H' hob
  have hcells : cells' = cells := by
    rw [hcell] at hcell'
    injection hcell' with h
    injection h with h2 h3 h4
    have := congrArg Array.toList h2
    simpa using this.symm
  subst hcells
  obtain ⟨helt', hlen', l1, lp, l2, e2, hl1, hrl⟩ := arr_CD hcd' harr'
  have hwid : ∀ (x : den u) (l : List Value), Rp w Fr' mu u x l → l.length = u.width := fun x l h => Rp_len u x l (Ty.elt_cel helt) h
  have hlp := rows_len hwid hrl
  have hnl : n.toNat < l'.length := by rw [hlen']; omega
  have hnm : n.toNat * u.width + u.width ≤ lp.length := by
    rw [hlp, hlen', ← Nat.succ_mul]
    exact Nat.mul_le_mul_right _ (by omega)
  -- the array's cells then
  have hnewr := rows_set (z := z) (c := x1 ++ (lv ++ x2)) hwid hrl hnl hrz
  have hcl : c.length = u.width := hce.len
  have hxl : (x1 ++ (lv ++ x2)).length = u.width := by
    rw [ex] at hcl
    simp only [List.length_append] at hcl ⊢
    omega
  have hsplit : A = l1 ++ lp.take (n.toNat * u.width) ∧ c ++ B = lp.drop (n.toNat * u.width) ++ l2 := by
    apply List.append_inj
    · rw [← ec, e2, List.append_assoc, ← List.append_assoc (lp.take _), List.take_append_drop]
    · rw [hA, List.length_append, hl1, List.length_take]; omega
  have hB : B = lp.drop (n.toNat * u.width + u.width) ++ l2 := by
    have := hsplit.2
    have h6 : (c ++ B).drop u.width = B := by rw [List.drop_left' hcl]
    rw [← h6, this, List.drop_append_of_le_length (by rw [List.length_drop]; omega), List.drop_drop]
  generalize hnl' : (lp.take (n.toNat * u.width) ++ ((x1 ++ (lv ++ x2)) ++ lp.drop (n.toNat * u.width + u.width))) = newarr at hnewr
  have hnlen : newarr.length = lp.length := by
    rw [← hnl']
    simp only [List.length_append, List.length_take, List.length_drop] at hxl ⊢
    omega
  have hcn : CD w Fr' mu (· < s'.heap.length) ⟨.arr m u, setL u l' n z⟩ newarr := ⟨Ty.elt_cel helt, trivial, helt, by rw [← hlen']; simp [setL], hnewr⟩
  obtain ⟨L1, LM, L2, eL, hL1, hLM, _, hZ⟩ := setPart_ok hcd' hcn hwa hww
  have hL : L1 = l1 ∧ L2 = l2 := by
    have h7 : L1 ++ (LM ++ L2) = l1 ++ (lp ++ l2) := by rw [← eL, e2]
    obtain ⟨h8, h9⟩ := List.append_inj h7 (by rw [hL1, hl1])
    exact ⟨h8, (List.append_inj h9 (by rw [hLM, hnlen])).2⟩
  obtain ⟨rfl, rfl⟩ := hL
  have hocc : occ mu i (⟨.box bt', bx'⟩ : AObj) := trivial
  have hfit : base + (n.toNat * u.width + off) + lv.length ≤ cells'.toArray.size := by
    have : cells'.toArray.size = cells'.length := by simp
    rw [this, ec, ex]
    simp only [List.length_append, hA, hx1, hxm]; omega
  have hst := ex_store (P := P) (w := w) (ρ := a.eval) ho hg hp hcell (by rw [hv, hl]) (by rw [hv]; exact h1) (by rw [hv]; exact hfit)
  rw [hv] at hst
  have hput := list_put A x1 xm x2 B lv hxm
  have hcur : A ++ (x1 ++ (xm ++ x2)) ++ B = cells' := by rw [ec, ex]; simp
  rw [hcur, hA, hx1] at hput
  have hres : A ++ (x1 ++ (lv ++ x2)) ++ B = L1 ++ (newarr ++ L2) := by
    rw [hsplit.1, hB, ← hnl']; simp
  rw [hres, show base + n.toNat * u.width + off = base + (n.toNat * u.width + off) by omega] at hput
  simp only [List.toList_toArray] at hst
  rw [hput] at hst
  have hgrow : Grow (fun b' => occ mu i (⟨.box bt', bx'⟩ : AObj) ∧ b' = (mu i).loc) w (w.setRow (mu i).loc (L1 ++ (newarr ++ L2)).toArray) := grow_setRow ⟨hocc, rfl⟩
  have hfr : ∀ b', Fr' b' → (w.setRow (mu i).loc (L1 ++ (newarr ++ L2)).toArray).heap[b']? = w.heap[b']? := fun b' hb => hgrow.block b' (H'.si.frL b' hb) (fun ⟨_, e⟩ => (H'.si.own i _ hob hocc).2.1 (e ▸ hb))
  refine ⟨_, undef, _, Fr', mu, hst, .inr ⟨rfl, rfl⟩, trivial, trivial, ?_, Kept.trans (by rw [hs', ← hFr']; exact Kept.frz) (Kept.put1 H'.si hob (fun t x _ => ⟨_, _, rfl⟩) hgrow (by rw [ho]; intro h; cases h))⟩
  refine H'.put1 hob hgrow ?_ (fun _ => hocc) ?_ ?_
  · exact ⟨hZ.cel, _, e, setRow_heap w _ _ _ e (0, 0) hcell, (CD_keep (fun _ => id) hfr hZ).rp⟩
  · intro t' x' e'
    injection e' with e1 e2
    injection e1 with e1
    rw [← e1]; exact hZ.ok
  · intro hm
    show mu i = E.mu0 i
    exact H'.si.hand i _ hm hob
theorem ok_store (hT : TabOK P T.tb) (H : Rep E w Fr mu s a) {fn : Nat} {o : Oper} {t : Nat} {x y : Operand} (ho : o.op = .store t x y) {d : Dyn} {s' : St} (h : opP T fn o s = some (true, d, s')) : StepOK P E w Fr mu s a o d s' := by
  unfold opP at h
  rw [ho] at h
  dsimp only at h
  split at h
  · cases h
  rename_i ti hti
  have hg := hT t ti hti
  split at h
  case isFalse => cases h
  rename_i hc
  simp only [Bool.and_eq_true, beq_iff_eq] at hc
  obtain ⟨⟨hal, hcel⟩, hwid⟩ := hc
  obtain ⟨hcv, h1⟩ := VR_cells (p := (· < s.heap.length)) H.si.hh (H.op y).1 hcel hal (H.op y).2
  have hl : (a.eval y).cells.toList.length = ti.siz := by rw [hcv.len, hwid]
  have hx := (H.op x).1
  split at h
  · rename_i i off _ hq
    rw [hq] at hx
    have hx : [a.eval x] = [.pointer (some ⟨(mu i).loc, off, none⟩)] := hx
    injection hx with hx
    split at h
    · rename_i u b hob
      split at h
      · rename_i hz
        simp only [Bool.and_eq_true, beq_iff_eq] at hz
        injection h with h
        injection h with _ h
        injection h with h2 h3
        subst h2; subst h3
        refine ok_box_put ho hg H hx (obj_some hob (by simp)) rfl hl h1 fun cells hcd => ?_
        obtain ⟨l1, lm, l2, e, e1, e2, _, e3⟩ := setPart_ok hcd hcv hz.1 hz.2
        exact ⟨l1, lm, l2, e, e1, e2, e3⟩
      · cases h
    · cases h
  · rename_i u i off n hq
    rw [hq] at hx
    split at h
    · rename_i l hrow
      split at h
      · rename_i hz
        simp only [Bool.and_eq_true, beq_iff_eq] at hz
        split at h
        · rename_i z s2 hcf
          split at h
          · rename_i e u' f l0 hob
            split at h
            · rename_i l' hl'
              injection h with h
              injection h with _ h
              injection h with h2 h3
              subst h2; subst h3
              have hob' := obj_some hob (by simp)
              rw [list_as hl'] at hob'
              exact ok_store_row hT H ho hg hx rfl hcv hl h1 hrow hz.1 hz.2 hcf hob'
            · cases h
          · cases h
        · cases h
      · cases h
    · cases h
  · rename_i u m i base off n hq
    rw [hq] at hx
    split at h
    · rename_i bt bx hbox
      split at h
      · rename_i l harr
        split at h
        · rename_i hz
          simp only [Bool.and_eq_true, beq_iff_eq] at hz
          split at h
          · rename_i z s2 hcf
            split at h
            · rename_i bt' bx' hob
              split at h
              · rename_i l' harr'
                split at h
                · rename_i hw
                  simp only [Bool.and_eq_true, beq_iff_eq] at hw
                  injection h with h
                  injection h with _ h
                  injection h with h2 h3
                  subst h2; subst h3
                  exact ok_store_arr H ho hg hx rfl hcv hl h1 (obj_some hbox (by simp)) harr hz.1 hz.2 hcf (obj_some hob (by simp)) harr' hw.1 hw.2
                · cases h
              · cases h
            · cases h
          · cases h
        · cases h
      · cases h
    · cases h
  · cases h
end
end Go.Abs
set_option autoImplicit false
set_option linter.unusedVariables false
namespace Go.Abs
section
variable {P : Program} {T : Told} {E : Env} {w : World} {Fr : Nat → Prop} {mu : Nat → Loc} {s : St} {a : Act}
def nilLoc : Loc := ⟨0, .slice none 0 0⟩
theorem OR_nil {mu : Nat → Loc} {i e : Nat} {t : Ty} {f : Bool} (he : t.elt = true) (hm : mu i = nilLoc) : OR w Fr mu i ⟨.row e t f, []⟩ :=
  ⟨he, [], rfl, .inl ⟨none, by rw [hm]; rfl, rfl, by rw [hm]; simp [nilLoc, Value.ownBlock]⟩⟩
theorem occ_nil {mu : Nat → Loc} {i e : Nat} {t : Ty} {f : Bool} {xs : List (den t)} (hm : mu i = nilLoc) : ¬ occ mu i (⟨.row e t f, xs⟩ : AObj) := by
  intro h
  have h : (mu i).hdr.ownBlock = some (mu i).loc := h
  rw [hm] at h
  cases h
structure More (E : Env) (w w' : World) (Fr : Nat → Prop) (mu mu' : Nat → Loc) (h h' : List AObj) : Prop where
  si : SI E w' Fr mu' h'
  same : ∀ i, i < h.length → mu' i = mu i
  len : h.length ≤ h'.length
  fr : ∀ b, Fr b → w'.heap[b]? = w.heap[b]?
  pre : ∀ (i : Nat) (o : AObj), h[i]? = some o → h'[i]? = some o
  blk : ∀ b, b < w.heap.size → w'.heap[b]? = w.heap[b]?
  size : w.heap.size ≤ w'.heap.size
theorem More.refl {h : List AObj} (H : SI E w Fr mu h) : More E w w Fr mu mu h h := ⟨H, fun _ _ => rfl, Nat.le_refl _, fun _ _ => rfl, fun _ _ => id, fun _ _ => rfl, Nat.le_refl _⟩
theorem More.trans {w' w'' : World} {mu' mu'' : Nat → Loc} {h h' h'' : List AObj} (H : More E w w' Fr mu mu' h h') (H' : More E w' w'' Fr mu' mu'' h' h'') : More E w w'' Fr mu mu'' h h'' :=
  ⟨H'.si, fun i hi => (H'.same i (Nat.lt_of_lt_of_le hi H.len)).trans (H.same i hi), Nat.le_trans H.len H'.len, fun b hb => (H'.fr b hb).trans (H.fr b hb), fun i o h => H'.pre i o (H.pre i o h), fun b hb => (H'.blk b (Nat.lt_of_lt_of_le hb H.size)).trans (H.blk b hb), Nat.le_trans H.size H'.size⟩
theorem More.vr {w' : World} {mu' : Nat → Loc} {h h' : List AObj} (H : More E w w' Fr mu mu' h h') {d : Dyn} {v : Value} (hv : VR w Fr mu d v) (hn : d.t.okN (· < h.length)) : VR w' Fr mu' d v :=
  VR_keep (fun _ => id) H.fr (Ty.okN_mono (fun i hi => H.same i hi) _ hn) hv
theorem More.cd {w' : World} {mu' : Nat → Loc} {h h' : List AObj} (H : More E w w' Fr mu mu' h h') {d : Dyn} {l : List Value} (hv : CD w Fr mu (· < h.length) d l) : CD w' Fr mu' (· < h'.length) d l :=
  ⟨hv.cel, Ty.okN_mono (fun i hi => Nat.lt_of_lt_of_le hi H.len) _ hv.ok, Rp_keep (fun _ => id) H.fr _ _ _ (Ty.okN_mono (fun i hi => H.same i hi) _ hv.ok) hv.rp⟩
theorem More.rep {w' : World} {mu' : Nat → Loc} {h' : List AObj} (H : Rep E w Fr mu s a) (H' : More E w w' Fr mu mu' s.heap h') : Rep E w' Fr mu' ⟨s.tmps, h'⟩ a :=
  ⟨H'.si, fun u d hm => by obtain ⟨h1, h2, h3⟩ := H.tm u d hm; exact ⟨h1, H'.vr h2 h3, Ty.okN_mono (fun i hi => Nat.lt_of_lt_of_le hi H'.len) _ h3⟩, H.df, H.so⟩
theorem More.one {h : List AObj} (H : SI E w Fr mu h) {w' : World} (hg : Grow (fun _ => False) w w') {L : Loc} {o : AObj} (hh : L.hdr.oneCell' = true)
    (ho : OR w' Fr (upd mu h.length L) h.length o) (hocc : occ (upd mu h.length L) h.length o → w.heap.size ≤ L.loc ∧ L.loc < w'.heap.size)
    (hn : ∀ (t : Ty) (x : den t), o = ⟨.box t, x⟩ → t.okN (· < h.length + 1)) : More E w w' Fr mu (upd mu h.length L) h (h ++ [o]) :=
  ⟨SI.newObj (s := ⟨[], h⟩) H hg hh ho hocc hn, fun i hi => upd_ne (by omega), by simp, fun b hb => hg.block b (H.frL b hb) id, fun i o hi => by rw [List.getElem?_append_left (List.getElem?_eq_some_iff.1 hi).1]; exact hi, fun b hb => hg.block b hb id, hg.size⟩
theorem More.kept {g : Bool} {w' : World} {mu' : Nat → Loc} {h' : List AObj} (H : SI E w Fr mu s.heap) (M : More E w w' Fr mu mu' s.heap h') : Kept g w Fr mu s.heap w' Fr mu' h' := by
  refine ⟨?_, fun _ b hb => M.blk b (safe_lt H hb)⟩
  rintro b (hb | ⟨m, t, x, hm, rfl⟩)
  · exact .inl hb
  · exact .inr ⟨m, t, x, M.pre m _ hm, by rw [M.same m (List.getElem?_eq_some_iff.1 hm).1]⟩
theorem ownNils_chain {tb : Tabs} : ∀ (t : Ty) (x : den t) (h : List AObj), t.chain = true → (ownNils t x tb h).1.t.chain = true := by
  intro t x h
  fun_induction ownNils t x tb h <;> first | (intro h; exact h) | (intro h; cases h) | (intro h; rfl)
theorem ownNils_ok {tb : Tabs} : ∀ (t : Ty) (x : den t) (h : List AObj) (mu : Nat → Loc), SI E w Fr mu h → ∀ l, CD w Fr mu (· < h.length) ⟨t, x⟩ l →
    ∃ mu', More E w w Fr mu mu' h (ownNils t x tb h).2 ∧ CD w Fr mu' (· < (ownNils t x tb h).2.length) (ownNils t x tb h).1 l := by
  intro t x h
  fun_induction ownNils t x tb h with
  | case1 e tb h i hi he =>
    intro mu H l hd
    have := hd.rp
    cases this
    refine ⟨upd mu h.length nilLoc, More.one H (Grow.refl _ w) rfl (OR_nil he upd_same) (fun hoc => absurd hoc (occ_nil upd_same)) (fun t x e => by cases e), rfl, ?_, ?_⟩
    · show h.length < (h ++ [_]).length; simp
    · show _ = [(upd mu h.length nilLoc h.length).hdr]; rw [upd_same]; rfl
  | case2 e tb h i hi he => intro mu H l hd; exact ⟨mu, More.refl H, hd⟩
  | case3 e tb h hi => intro mu H l hd; exact ⟨mu, More.refl H, hd⟩
  | case4 a b tb h x p q ih1 ih2 =>
    intro mu H l hd
    obtain ⟨l1, l2, e, r1, r2⟩ := hd.rp
    obtain ⟨c1, c2, c3⟩ := Ty.cel_pair hd.cel
    obtain ⟨mu1, m1, d1⟩ := ih1 mu H l1 ⟨c1, hd.ok.1, r1⟩
    have d2 : CD w Fr mu1 (· < p.2.length) ⟨b, x.2⟩ l2 := m1.cd ⟨c2, hd.ok.2, r2⟩
    obtain ⟨mu2, m2, d3⟩ := ih2 mu1 m1.si l2 d2
    have d4 := m2.cd d1
    exact ⟨mu2, m1.trans m2, Ty.pair_cel d4.cel d3.cel (ownNils_chain b x.2 p.2 c3), ⟨d4.ok, d3.ok⟩, l1, l2, e, d4.rp, d3.rp⟩
  | case5 => intro mu H l hd; exact ⟨mu, More.refl H, hd⟩
theorem new_box {h : List AObj} (H : SI E w Fr mu h) {d : Dyn} {l : List Value} (hd : CD w Fr mu (· < h.length) d l) (e : TypeId) :
    More E w (w.alloc (.cells l.toArray e)) Fr mu (upd mu h.length ⟨w.heap.size, .slice none 0 0⟩) h (h ++ [⟨.box d.t, d.x⟩]) := by
  have hg : Grow (fun _ => False) w (w.alloc (.cells l.toArray e)) := ⟨rfl, rfl, rfl, by simp, fun k hk _ => alloc_kept w _ k hk⟩
  refine More.one H hg rfl ?_ ?_ ?_
  · refine ⟨hd.cel, l, e, by rw [upd_same]; exact heap_alloc_new w _, ?_⟩
    exact Rp_keep (fun _ => id) (fun b hb => hg.block b (H.frL b hb) id) _ _ _ (Ty.okN_mono (fun i hi => upd_ne (by omega)) _ hd.ok) hd.rp
  · intro _; simp
  · intro t x e'
    injection e' with e1 e2
    injection e1 with e1
    rw [← e1]; exact Ty.okN_mono (fun i hi => by omega) _ hd.ok
theorem VR_ptr {mu : Nat → Loc} {i : Nat} : VR w Fr mu ⟨.ptr i 0, ()⟩ (.pointer (some ⟨(mu i).loc, 0, none⟩)) := rfl
theorem ok_newVar (H : Rep E w Fr mu s a) {o : Oper} {d : Dyn} {v : Value} {e : TypeId} (hd : CD w Fr mu (· < s.heap.length) d v.cells.toList) (hr : (execOp a.eval o).run P w = .ok (.value (.pointer (some ⟨w.heap.size, 0, none⟩))) (w.alloc (.cells v.cells e))) :
    StepOK P E w Fr mu s a o ⟨.ptr (ownNils d.t d.x T.tb s.heap).2.length 0, ()⟩ ⟨s.tmps, (ownNils d.t d.x T.tb s.heap).2 ++ [⟨.box (ownNils d.t d.x T.tb s.heap).1.t, (ownNils d.t d.x T.tb s.heap).1.x⟩]⟩ := by
  obtain ⟨mu1, m1, d1⟩ := ownNils_ok (tb := T.tb) d.t d.x s.heap mu H.si v.cells.toList hd
  have m2 := new_box m1.si d1 e
  rw [Array.toArray_toList] at m2
  refine ⟨_, _, _, Fr, _, hr, .inl rfl, ?_, ?_, More.rep H (m1.trans m2), More.kept H.si (m1.trans m2)⟩
  · have := VR_ptr (w := w.alloc (.cells v.cells e)) (Fr := Fr) (mu := upd mu1 (ownNils d.t d.x T.tb s.heap).2.length ⟨w.heap.size, .slice none 0 0⟩) (i := (ownNils d.t d.x T.tb s.heap).2.length)
    rw [upd_same] at this
    exact this
  · show _ < _
    simp
theorem ok_box (H : Rep E w Fr mu s a) {fn : Nat} {o : Oper} {t : Nat} {x : Operand} (ho : o.op = .box t x) {d : Dyn} {s' : St} (h : opP T fn o s = some (true, d, s')) : StepOK P E w Fr mu s a o d s' := by
  unfold opP at h
  rw [ho] at h
  dsimp only at h
  split at h
  · rename_i hc
    simp only [Bool.and_eq_true] at hc
    injection h with h
    injection h with _ h
    injection h with h2 h3
    subst h2; subst h3
    obtain ⟨hcv, h1⟩ := VR_cells (p := (· < s.heap.length)) H.si.hh (H.op x).1 hc.2 hc.1 (H.op x).2
    exact ok_newVar H (e := t) hcv (by unfold execOp; simp [ho, Instr.box, newVar, newRow])
  · cases h
theorem ok_alloc (hT : TabOK P T.tb) (H : Rep E w Fr mu s a) {fn : Nat} {o : Oper} {t : Nat} (ho : o.op = .alloc t) {d : Dyn} {s' : St} (h : opP T fn o s = some (true, d, s')) : StepOK P E w Fr mu s a o d s' := by
  unfold opP at h
  rw [ho] at h
  dsimp only at h
  split at h
  · rename_i ti hti
    split at h
    · rename_i hc
      simp only [Bool.and_eq_true] at hc
      injection h with h
      injection h with _ h
      injection h with h2 h3
      subst h2; subst h3
      obtain ⟨i, hi, _, _, hz⟩ := (hT t ti hti).info
      obtain ⟨z, hz1, hz2, hz3, hz4⟩ := hz hc.1
      obtain ⟨hcv, h1⟩ := VR_cells (p := (· < s.heap.length)) H.si.hh (hz4 w Fr mu) hc.2 hc.1 (hz3 _)
      exact ok_newVar H (e := t) hcv (by unfold execOp; simp [ho, Instr.alloc, zeroValue, typeInfo, hi, hz1, newVar, newRow])
    · cases h
  · cases h
end
end Go.Abs
set_option autoImplicit false
set_option linter.unusedVariables false
namespace Go.Abs
section
variable {P : Program} {T : Told} {E : Env} {w : World} {Fr : Nat → Prop} {mu : Nat → Loc} {s : St} {a : Act}
theorem VR_int {k : IntKind} {n : Int} {v : Value} (h : VR w Fr mu ⟨.int k, n⟩ v) : v = .int k n := by injection (show [v] = [_] from h)
theorem VR_bool {n : Bool} {v : Value} (h : VR w Fr mu ⟨.bool, n⟩ v) : v = .bool n := by injection (show [v] = [_] from h)
theorem VR_str {n : ByteArray} {v : Value} (h : VR w Fr mu ⟨.str, n⟩ v) : v = .string n := by injection (show [v] = [_] from h)
theorem int_ne (x y : Int) : (x != y) = notB (eqI x y) := by unfold notB eqI; show (!(x == y)) = _; congr 1
theorem run_intBin {op : BinOp} {k : IntKind} {x y : Int} {d : Dyn} (h : intBin op k x y = some (true, d)) (hs : op ≠ .shl ∧ op ≠ .shr) (xt : TypeId) :
    ∃ v, (∀ w' : World, (binOp op xt (.int k x) (.int k y)).run P w' = .ok v w') ∧ VR w Fr mu d v ∧ ∀ p, d.t.okN p := by
  cases op <;> simp only [intBin] at h <;> first | (cases h; done) | skip
  all_goals injection h with h
  all_goals injection h with hb h
  all_goals subst h
  all_goals first
    | exact ⟨_, fun w' => by simp [binOp, Op.intArith]; rfl, rfl, fun _ => trivial⟩
    | (have hy : y ≠ 0 := by (simp [notB, eqI] at hb; exact hb)
       exact ⟨_, fun w' => by simp [binOp, Op.intDiv, hy]; rfl, rfl, fun _ => trivial⟩)
    | exact ⟨_, fun w' => by simp [binOp, Op.intBits]; rfl, rfl, fun _ => trivial⟩
    | exact ⟨_, fun w' => by simp [binOp, Op.intCmp]; rfl, rfl, fun _ => trivial⟩
    | exact ⟨_, fun w' => by simp only [binOp, Op.intCmp]; simp; rfl, by rw [int_ne]; exact rfl, fun _ => trivial⟩
    | exact absurd rfl hs.1
    | exact absurd rfl hs.2
theorem run_shiftBin {op : BinOp} {k j : IntKind} {x y : Int} {d : Dyn} (hs : op = .shl ∨ op = .shr) (h : shiftBin op k x y = some (true, d)) (xt : TypeId) :
    ∃ v, (∀ w' : World, (binOp op xt (.int k x) (.int j y)).run P w' = .ok v w') ∧ VR w Fr mu d v ∧ ∀ p, d.t.okN p := by
  rcases hs with rfl | rfl
  all_goals simp only [shiftBin] at h
  all_goals injection h with h
  all_goals injection h with hb h
  all_goals subst h
  all_goals have hy : ¬ y < 0 := by (simp [leI] at hb; omega)
  all_goals exact ⟨_, fun w' => by simp [binOp, Op.shift, hy]; rfl, rfl, fun _ => trivial⟩
theorem run_strBin {op : BinOp} {x y : ByteArray} {d : Dyn} (h : strBin op x y = some (true, d)) (xt : TypeId) :
    ∃ v, (∀ w' : World, (binOp op xt (.string x) (.string y)).run P w' = .ok v w') ∧ VR w Fr mu d v ∧ ∀ p, d.t.okN p := by
  cases op <;> simp only [strBin] at h <;> first | (cases h; done) | skip
  all_goals injection h with h
  all_goals injection h with hb h
  all_goals subst h
  · have hf : ¬ ((x.size + y.size : Nat) : Int) > IntKind.i64.max := by
      simp only [fitS, decide_eq_true_eq] at hb
      have : IntKind.i64.max = 9223372036854775807 := by decide
      omega
    exact ⟨_, fun w' => by simp only [binOp, Op.stringOp]; rw [if_neg hf]; rfl, rfl, fun _ => trivial⟩
  · exact ⟨_, fun w' => by simp only [binOp, Op.stringOp]; rfl, rfl, fun _ => trivial⟩
  · exact ⟨_, fun w' => by simp only [binOp, Op.stringOp]; rfl, rfl, fun _ => trivial⟩
theorem run_eqD {t : Nat} {ti : TI} (hg : Good P t ti) {u : Ty} {x : den u} {y : Dyn} {b : Bool} (hs : ti.d.scalar u = true) (h : eqD u x y = some b) {v v' : Value} (hv : Rp w Fr mu u x [v]) (hv' : Rp w Fr mu y.t y.x [v']) (n : Nat) (w' : World) :
    (Op.equalIn (n + 1) t v v').run P w' = .ok b w' := by
  have hu := hg.und
  obtain ⟨yt, yx⟩ := y
  unfold TD.scalar at hs
  split at hs
  · rename_i hd
    rw [hd] at hu
    cases yt <;> simp only [eqD] at h <;> first | (cases h; done) | skip
    injection h with h
    injection hv with hv; injection hv' with hv'
    subst hv; subst hv'; subst h
    exact run_equalIn_bool' w' n t _ _ hu
  · rename_i k j hd
    rw [hd] at hu
    cases yt <;> simp only [eqD] at h <;> first | (cases h; done) | skip
    split at h
    · rename_i hk
      injection h with h
      injection hv with hv; injection hv' with hv'
      subst hv; subst hv'; subst h; subst hk
      exact run_equalIn_int w' n t _ _ _ _ hu
    · cases h
  · rename_i hd
    rw [hd] at hu
    cases yt <;> simp only [eqD] at h <;> first | (cases h; done) | skip
    injection h with h
    injection hv with hv; injection hv' with hv'
    subst hv; subst hv'; subst h
    exact run_equalIn_string w' n t _ _ hu
  · cases hs
theorem scalar_width {d : TD} {t : Ty} (h : d.scalar t = true) : t.width = 1 ∧ t.cel = true ∧ d.agg = false := by
  unfold TD.scalar at h
  split at h <;> first | exact ⟨rfl, rfl, by simp_all [TD.agg]⟩ | cases h
theorem eqD_scalar {d : TD} {u : Ty} {x : den u} {y : Dyn} {b : Bool} (hs : d.scalar u = true) (h : eqD u x y = some b) : d.scalar y.t = true ∨ ∃ k, u = .int k ∧ y.t = .int k := by
  obtain ⟨yt, yx⟩ := y
  unfold TD.scalar at hs
  split at hs
  · cases yt <;> simp only [eqD] at h <;> first | (cases h; done) | exact .inl rfl
  · cases yt <;> simp only [eqD] at h <;> first | (cases h; done) | skip
    split at h
    · rename_i hk; exact .inr ⟨_, rfl, by rw [hk]⟩
    · cases h
  · cases yt <;> simp only [eqD] at h <;> first | (cases h; done) | exact .inl rfl
  · cases hs
theorem run_eqC {tb : Tabs} (hT : TabOK P tb) (n : Nat) (cs cs' : List Value) (w' : World) : ∀ (F : List Field) (pre : List Value) (pre' : List Value) (t : Ty) (x : den t) (y : Dyn) (l l' : List Value) (b : Bool),
    eqC tb (F.map fun g => (g.offset, g.type)) pre.length t x y = some b → pre.length = pre'.length → cs = pre ++ l → cs' = pre' ++ l' → Rp w Fr mu t x l → Rp w Fr mu y.t y.x l' → (∀ f ∈ F, f.name ≠ "_") →
    (Op.eqFields (n + 1) cs.toArray cs'.toArray F).run P w' = .ok b w'
  | [], pre, pre', t, x, y, l, l', b, h, _, _, _, _, _, _ => by
    obtain ⟨yt, yx⟩ := y
    cases t <;> cases yt <;> simp only [List.map_nil, eqC] at h <;> first | (cases h; done) | skip
    injection h with h
    subst h
    simp [Op.eqFields]
  | f :: F, pre, pre', t, x, y, l, l', b, h, hp, e, e', hr, hr', hn => by
    obtain ⟨yt, yx⟩ := y
    cases t <;> cases yt <;> simp only [List.map_cons, eqC] at h <;> first | (cases h; done) | skip
    rename_i ta tb' tc td
    split at h
    · rename_i ti hti
      split at h
      · rename_i hc
        split at h
        · rename_i p hpq
          split at h
          · rename_i q hq
            injection h with h
            obtain ⟨l1, l2, el, ra, rb⟩ := hr
            obtain ⟨l1', l2', el', ra', rb'⟩ := hr'
            obtain ⟨hw, hcel, hag⟩ := scalar_width hc.2
            have hl1 : l1.length = 1 := by rw [Rp_len _ _ _ hcel ra, hw]
            have hw' : tc.width = 1 ∧ tc.cel = true := by
              rcases eqD_scalar hc.2 hpq with h1 | ⟨k, _, h1⟩
              · exact ⟨(scalar_width h1).1, (scalar_width h1).2.1⟩
              · have h1 : tc = .int k := h1
                rw [h1]; exact ⟨rfl, rfl⟩
            have hl1' : l1'.length = 1 := by rw [Rp_len _ _ _ hw'.2 ra', hw'.1]
            obtain ⟨v, rfl⟩ : ∃ v, l1 = [v] := by match l1, hl1 with | [v], _ => exact ⟨v, rfl⟩
            obtain ⟨v', rfl⟩ : ∃ v, l1' = [v] := by match l1', hl1' with | [v], _ => exact ⟨v, rfl⟩
            have hg := hT _ _ hti
            have hagg := hg.agg w'
            rw [hag] at hagg
            have hoff : f.offset = pre.length := hc.1
            have p1 : (part f.type cs.toArray f.offset).run P w' = .ok v w' := by
              simp [part, hagg, hoff, e, el]
            have p2 : (part f.type cs'.toArray f.offset).run P w' = .ok v' w' := by
              simp [part, hagg, hoff, hp, e', el']
            have heq := run_eqD (w := w) (Fr := Fr) (mu := mu) hg hc.2 hpq ra ra' n w'
            have ih := run_eqC hT n cs cs' w' F (pre ++ [v]) (pre' ++ [v']) tb' x.2 ⟨td, yx.2⟩ l2 l2' q (by rw [List.length_append]; exact hq) (by simp [hp]) (by rw [e, el]; simp) (by rw [e', el']; simp) rb rb' (fun f hf => hn f (List.mem_cons_of_mem _ hf))
            have hname : f.name ≠ "_" := hn f (by simp)
            subst h
            cases p with
            | true => simp [Op.eqFields, hname, p1, p2, heq, ih, andB]
            | false => simp [Op.eqFields, hname, p1, p2, heq, andB]
          · cases h
        · cases h
      · cases h
    · cases h
theorem run_equalIn_ptr {t e : TypeId} (hu : P.underlying t = some (.pointer e)) (n : Nat) : ∀ {p q : Option Addr}, (p = none ∨ q = none) → (Op.equalIn (n + 1) t (.pointer p) (.pointer q)).run P w = .ok (p.isNone && q.isNone) w := by
  intro p q h
  cases p <;> cases q <;> simp [Op.equalIn, run_underlying hu] at h ⊢
theorem run_eqAny {tb : Tabs} (hT : TabOK P tb) {xt : Nat} {x y : Dyn} {b : Bool} (h : eqAny tb xt x y = some b) {v v' : Value} (hv : VR w Fr mu x v) (hv' : VR w Fr mu y v') (op : BinOp) (hop : op = .eql ∨ op = .neq) (ox oy : Operand) :
    (∀ w' : World, (eqGuard op xt ox oy v v').run P w' = .ok () w') ∧ (∀ w' : World, (Op.equal xt v v').run P w' = .ok b w') ∧ (∀ s, v ≠ .string s) ∧ (∀ k n, v ≠ .int k n) ∧ (∀ k n, v ≠ .float k n) ∧ (∀ k m n, v ≠ .complex k m n) := by
  unfold eqAny at h
  split at h
  · rename_i fs siz byt zer ty hti
    have hg := hT _ _ hti
    obtain ⟨F, hu, hF⟩ := hg.und
    obtain ⟨h1, h2, h3⟩ := hg.eqs rfl
    obtain ⟨xt', xx⟩ := x
    obtain ⟨yt', yx⟩ := y
    have hFl : F.toList.map (fun g => (g.offset, g.type)) = fs := hF.symm
    have hxk : xt'.vk = .agg ∧ yt'.vk = .agg := by
      rw [← hFl] at h
      cases hFc : F.toList with
      | nil => rw [hFc] at h; cases xt' <;> cases yt' <;> simp only [List.map_nil, eqC] at h <;> first | (cases h; done) | exact ⟨rfl, rfl⟩
      | cons f F' => rw [hFc] at h; cases xt' <;> cases yt' <;> simp only [List.map_cons, eqC] at h <;> first | (cases h; done) | exact ⟨rfl, rfl⟩
    unfold VR at hv hv'
    rw [show (⟨xt', xx⟩ : Dyn).t.vk = .agg from hxk.1] at hv
    rw [show (⟨yt', yx⟩ : Dyn).t.vk = .agg from hxk.2] at hv'
    obtain ⟨_, cs, rfl, hr⟩ := hv
    obtain ⟨_, cs', rfl, hr'⟩ := hv'
    have hfo : P.fieldsOf xt = F := by simp [Program.fieldsOf, hu]
    have := fun w' => run_eqC (w := w) (Fr := Fr) (mu := mu) hT 9998 cs cs' w' F.toList [] [] xt' xx ⟨yt', yx⟩ cs cs' b (by rw [hFl]; exact h) rfl rfl rfl hr hr' (h3 F hu)
    refine ⟨fun w' => run_eqGuard_agg w' op xt ox oy _ _ h2, fun w' => ?_, by simp, by simp, by simp, by simp⟩
    show (Op.equalIn (9999 + 1) xt _ _).run P w' = _
    rw [run_equalIn_struct w' 9999 xt _ _ (by rw [hfo]; exact hu) h1, hfo]
    exact this w'
  · rename_i siz byt zer ty hti
    have hu := (hT _ _ hti).und
    split at h
    · injection h with h
      have := VR_bool hv
      have := VR_bool hv'
      subst_vars
      refine ⟨fun w' => by rcases hop with rfl | rfl <;> simp [eqGuard], fun w' => run_equalIn_bool' w' 9999 xt _ _ hu, by simp, by simp, by simp, by simp⟩
    · cases h
  · rename_i siz byt zer ty hti
    obtain ⟨e, hu⟩ := (hT _ _ hti).und
    split at h <;> first | (cases h; done) | skip
    all_goals
      injection h with h
      injection (show [v] = [_] from hv) with hv
      injection (show [v'] = [_] from hv') with hv'
      subst hv; subst hv'; subst h
      refine ⟨fun w' => by rcases hop with rfl | rfl <;> simp [eqGuard], fun w' => ?_, by simp, by simp, by simp, by simp⟩
      exact run_equalIn_ptr hu 9999 (by simp)
  · cases h
theorem binD_any {tb : Tabs} {op : BinOp} {xt : Nat} {x y : Dyn} {b : Bool} {d : Dyn} (h : binD tb op xt x y = some (b, d)) :
    (∃ k p j q, x = ⟨.int k, p⟩ ∧ y = ⟨.int j, q⟩ ∧ ((op = .shl ∨ op = .shr) ∧ shiftBin op k p q = some (b, d) ∨ (op ≠ .shl ∧ op ≠ .shr) ∧ k = j ∧ intBin op k p q = some (b, d))) ∨
    (∃ p q, x = ⟨.str, p⟩ ∧ y = ⟨.str, q⟩ ∧ strBin op p q = some (b, d)) ∨
    (∃ r, eqAny tb xt x y = some r ∧ b = true ∧ ((op = .eql ∧ d = ⟨.bool, r⟩) ∨ (op = .neq ∧ d = ⟨.bool, notB r⟩))) := by
  unfold binD at h
  split at h
  · rename_i k p j q
    split at h
    · exact .inl ⟨k, p, j, q, rfl, rfl, .inl ⟨.inl rfl, h⟩⟩
    · exact .inl ⟨k, p, j, q, rfl, rfl, .inl ⟨.inr rfl, h⟩⟩
    · rename_i h1 h2
      split at h
      · rename_i hk
        exact .inl ⟨k, p, j, q, rfl, rfl, .inr ⟨⟨h1, h2⟩, hk, h⟩⟩
      · cases h
  · rename_i p q
    exact .inr (.inl ⟨p, q, rfl, rfl, h⟩)
  · split at h
    · split at h
      · rename_i r hr
        injection h with h
        injection h with h1 h2
        exact .inr (.inr ⟨r, hr, h1.symm, .inl ⟨rfl, h2.symm⟩⟩)
      · cases h
    · split at h
      · rename_i r hr
        injection h with h
        injection h with h1 h2
        exact .inr (.inr ⟨r, hr, h1.symm, .inr ⟨rfl, h2.symm⟩⟩)
      · cases h
    · cases h
theorem eqGuard_plain {op : BinOp} {t : TypeId} {x y : Operand} {v v' : Value} (h1 : ∀ s, v ≠ .agg s) (h2 : v ≠ .nilIface) : (eqGuard op t x y v v').run P w = .ok () w := by
  unfold eqGuard
  cases op <;> simp <;> cases v <;> first | (exact absurd rfl h2) | (exact absurd rfl (h1 _)) | rfl
theorem binOp_eql {t : TypeId} {v v' : Value} (h1 : ∀ s, v ≠ .string s) (h2 : ∀ k n, v ≠ .int k n) (h3 : ∀ k n, v ≠ .float k n) (h4 : ∀ k m n, v ≠ .complex k m n) :
    binOp .eql t v v' = (do Pure.pure (.bool (← Op.equal t v v')) : Sem Value) := by
  cases v <;> first | (exact absurd rfl (h1 _)) | (exact absurd rfl (h2 _ _)) | (exact absurd rfl (h3 _ _)) | (exact absurd rfl (h4 _ _ _)) | rfl
theorem binOp_neq {t : TypeId} {v v' : Value} (h1 : ∀ s, v ≠ .string s) (h2 : ∀ k n, v ≠ .int k n) (h3 : ∀ k n, v ≠ .float k n) (h4 : ∀ k m n, v ≠ .complex k m n) :
    binOp .neq t v v' = (do Pure.pure (.bool (!(← Op.equal t v v'))) : Sem Value) := by
  cases v <;> first | (exact absurd rfl (h1 _)) | (exact absurd rfl (h2 _ _)) | (exact absurd rfl (h3 _ _)) | (exact absurd rfl (h4 _ _ _)) | rfl
theorem ok_binOp (hT : TabOK P T.tb) (H : Rep E w Fr mu s a) {fn : Nat} {o : Oper} {op : BinOp} {xt yt : Nat} {x y : Operand} (ho : o.op = .binOp op xt x y yt) {d : Dyn} {s' : St} (h : opP T fn o s = some (true, d, s')) : StepQ P w Fr mu s a o d s' := by
  unfold opP at h
  rw [ho] at h
  dsimp only at h
  split at h
  case h_2 => cases h
  rename_i b d' hb
  injection h with h
  injection h with h1 h
  injection h with h2 h3
  subst h1; subst h2; subst h3
  have hx := (H.op x).1
  have hy := (H.op y).1
  have key : ∀ v, (∀ w' : World, (eqGuard op xt x y (a.eval x) (a.eval y)).run P w' = .ok () w') → (∀ w' : World, (binOp op xt (a.eval x) (a.eval y)).run P w' = .ok v w') → ∀ w' : World, (execOp a.eval o).run P w' = .ok (.value v) w' := by
    intro v h1 h2 w'
    unfold execOp
    simp [ho, h1 w', h2 w']
  rcases binD_any hb with ⟨k, p, j, q, ex, ey, hc⟩ | ⟨p, q, ex, ey, hc⟩ | ⟨r, hr, _, hc⟩
  · rw [ex] at hx
    rw [ey] at hy
    have hx := VR_int hx
    have hy := VR_int hy
    rw [hx, hy] at key
    have hg := fun w' => eqGuard_plain (P := P) (w := w') (op := op) (t := xt) (x := x) (y := y) (v := .int k p) (v' := .int j q) (by simp) (by simp)
    rcases hc with ⟨hs, hc⟩ | ⟨hs, rfl, hc⟩
    · obtain ⟨v, e1, e2, e3⟩ := run_shiftBin (P := P) (w := w) (Fr := Fr) (mu := mu) (j := j) hs hc xt
      exact .mk (key v hg e1) e2 (e3 _)
    · obtain ⟨v, e1, e2, e3⟩ := run_intBin (P := P) (w := w) (Fr := Fr) (mu := mu) hc hs xt
      exact .mk (key v hg e1) e2 (e3 _)
  · rw [ex] at hx
    rw [ey] at hy
    have hx := VR_str hx
    have hy := VR_str hy
    rw [hx, hy] at key
    have hg := fun w' => eqGuard_plain (P := P) (w := w') (op := op) (t := xt) (x := x) (y := y) (v := .string p) (v' := .string q) (by simp) (by simp)
    obtain ⟨v, e1, e2, e3⟩ := run_strBin (P := P) (w := w) (Fr := Fr) (mu := mu) hc xt
    exact .mk (key v hg e1) e2 (e3 _)
  · have hop : op = .eql ∨ op = .neq := hc.imp (·.1) (·.1)
    obtain ⟨g1, g2, g3, g4, g5, g6⟩ := run_eqAny (w := w) (Fr := Fr) (mu := mu) hT hr hx hy op hop x y
    rcases hc with ⟨rfl, rfl⟩ | ⟨rfl, rfl⟩
    · exact .mk (key (.bool r) g1 (fun w' => by rw [binOp_eql g3 g4 g5 g6]; simp [g2 w'])) rfl trivial
    · exact .mk (key (.bool (notB r)) g1 (fun w' => by rw [binOp_neq g3 g4 g5 g6]; simp only [Sem.run_bind, g2 w', Result.andThen_ok, Sem.run_pure]; rfl)) rfl trivial
theorem ok_unOp (H : Rep E w Fr mu s a) {fn : Nat} {o : Oper} {op : UnOp} {xt : Nat} {x : Operand} (ho : o.op = .unOp op xt x) {d : Dyn} {s' : St} (h : opP T fn o s = some (true, d, s')) : StepQ P w Fr mu s a o d s' := by
  unfold opP at h
  rw [ho] at h
  dsimp only at h
  split at h
  case h_2 => cases h
  rename_i d' hu
  injection h with h
  injection h with h1 h
  injection h with h2 h3
  subst h2; subst h3
  have hx := (H.op x).1
  unfold unD at hu
  split at hu
  · rename_i k n hq
    injection hu with hu
    subst hu
    rw [hq] at hx
    exact .mk (v := .int k (subI k 0 n)) (fun w' => by unfold execOp; simp only [ho, VR_int hx, Op.unary, Op.intArith, Sem.run_bind, Sem.run_pure, Result.andThen_ok]; rfl) rfl trivial
  · rename_i b hq
    injection hu with hu
    subst hu
    rw [hq] at hx
    exact .mk (v := .bool (notB b)) (fun w' => by unfold execOp; simp only [ho, VR_bool hx, Op.unary, Sem.run_bind, Sem.run_pure, Result.andThen_ok]; rfl) rfl trivial
  · cases hu
theorem ok_convert (hT : TabOK P T.tb) (H : Rep E w Fr mu s a) {fn : Nat} {o : Oper} {src dst : Nat} {x : Operand} (ho : o.op = .convert src dst x) {d : Dyn} {s' : St} (h : opP T fn o s = some (true, d, s')) : StepQ P w Fr mu s a o d s' := by
  unfold opP at h
  rw [ho] at h
  dsimp only at h
  split at h
  case h_2 => cases h
  rename_i h1 h2 hq
  injection h with h
  injection h with e1 h
  injection h with e2 e3
  subst e2; subst e3
  have hx := (H.op x).1
  rw [hq] at hx
  have u1 := (hT _ _ h1).und
  have u2 := (hT _ _ h2).und
  dsimp only at u1 u2
  exact .mk (fun w' => by unfold execOp; simp only [ho, VR_int hx, convert, Sem.run_bind, run_underlying u1, run_underlying u2, Result.andThen_ok, Conv.intToInt]; rfl) rfl trivial
theorem ok_nilCheck (H : Rep E w Fr mu s a) {fn : Nat} {o : Oper} {x : Operand} (ho : o.op = .nilCheck x) {d : Dyn} {s' : St} (h : opP T fn o s = some (true, d, s')) : StepQ P w Fr mu s a o d s' := by
  unfold opP at h
  rw [ho] at h
  dsimp only at h
  have hx := (H.op x).1
  have hn := (H.op x).2
  have key : ∀ ad, a.eval x = .pointer (some ad) → ∀ w' : World, (execOp a.eval o).run P w' = .ok (.value (a.eval x)) w' := by
    intro ad e w'
    unfold execOp
    simp [ho, e]
  split at h <;> first | (cases h; done) | skip
  all_goals
    rename_i hq
    injection h with h
    injection h with _ h
    injection h with h2 h3
    subst h2; subst h3
    rw [hq] at hx hn
    have hk : ∃ ad, a.eval x = .pointer (some ad) := by
      first
        | exact ⟨_, (List.cons.inj (show [a.eval x] = [_] from hx)).1⟩
        | (obtain ⟨_, b, o', cells, e, _⟩ := hx; exact ⟨_, (List.cons.inj e).1⟩)
        | (obtain ⟨b, m, c, _, _, _, e⟩ := hx; exact ⟨_, (List.cons.inj e).1⟩)
        | exact ⟨_, (List.cons.inj hx.2).1⟩
    obtain ⟨ad, e⟩ := hk
    exact .mk (key ad e) hx hn
end
end Go.Abs
