/- Functions that are told of otherwise than by their code: slices.Insert, slices.Delete. No conditions. -/
import Derived.Test.YtobfcaejpcpboaaLim
set_option autoImplicit false
set_option linter.unusedVariables false
namespace Go.Abs
/-- May things be laid into a row at a place? -/
def insG (t : Ty) (xs : List (den t)) (i : Int) (vs : List (den t)) : Bool := decide (0 ≤ i ∧ i.toNat ≤ xs.length ∧ 0 < vs.length ∧ xs.length + vs.length ≤ 1073741824)
def insL (t : Ty) (xs : List (den t)) (i : Int) (vs : List (den t)) : List (den t) := xs.take i.toNat ++ vs ++ xs.drop i.toNat
/-- May things be taken out of a row? -/
def delG (t : Ty) (xs : List (den t)) (i j : Int) : Bool := decide (0 ≤ i ∧ i ≤ j ∧ j.toNat ≤ xs.length)
def delL (t : Ty) (xs : List (den t)) (i j : Int) : List (den t) := xs.take i.toNat ++ xs.drop j.toNat
/-- slices.Insert, on a row of one's own; what is laid in is another one. -/
def insP (e : Nat) (t : Ty) : AbsFn := fun f args objs rt ots => match args, objs with
  | [⟨.own t1 0, _⟩, ⟨.int .i64, i⟩, ⟨.own t2 1, _⟩], [⟨.row e1 u1 f1, xs⟩, ⟨.row e2 u2 true, vs⟩] =>
    if e1 = e ∧ e2 = e then (match (⟨.list u1, xs⟩ : Dyn).as (.list t), (⟨.list u2, vs⟩ : Dyn).as (.list t) with
      | some xs, some vs => (match (⟨.own t 0, ()⟩ : Dyn).as rt, asObjs ots [⟨.row e t false, insL t xs i vs⟩, ⟨.row e t true, vs⟩] with
        | some x, some y => br (insG t xs i vs) (some (mkR rt x ots y)) none
        | _, _ => none)
      | _, _ => none) else none
  | _, _ => none
/-- slices.Delete, on a row of one's own. -/
def delP (e : Nat) (t : Ty) : AbsFn := fun f args objs rt ots => match args, objs with
  | [⟨.own t1 0, _⟩, ⟨.int .i64, i⟩, ⟨.int .i64, j⟩], [⟨.row e1 u1 f1, xs⟩] =>
    if e1 = e then (match (⟨.list u1, xs⟩ : Dyn).as (.list t) with
      | some xs => (match (⟨.own t 0, ()⟩ : Dyn).as rt, asObjs ots [⟨.row e t false, delL t xs i j⟩] with
        | some x, some y => br (delG t xs i j) (some (mkR rt x ots y)) none
        | _, _ => none)
      | _ => none) else none
  | _, _ => none
end Go.Abs
