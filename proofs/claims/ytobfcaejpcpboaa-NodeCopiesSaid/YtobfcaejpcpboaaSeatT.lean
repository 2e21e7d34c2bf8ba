/- What the interpreter is told of this seat's functions. No conditions. -/
import Derived.Test.YtobfcaejpcpboaaProg
import Derived.Test.YtobfcaejpcpboaaPrim
set_option maxRecDepth 100000
namespace Go.Proofs.Ytobfcaejpcpboaa.AT
open Go.Abs
noncomputable abbrev PP : Program := Go.Proofs.Try.prog
@[reducible] def tapiPair : Ty := (.pair .str (.pair .str .unit))
@[reducible] def tapiNode : Ty := (.pair (.int .i64) (.pair .str (.pair .str (.pair (.int .u32) (.pair (.list (.int .i64)) (.pair (.int .i64) (.pair (.list tapiPair) (.pair (.int .i64) (.pair (.int .i64) .unit)))))))))
def TB : Tabs := [
  (0, ⟨.other, false, 1, 0, ⟨.dead, ()⟩, .dead⟩),
  (3, ⟨(.int .i64), false, 1, 8, ⟨(.int .i64), (0 : Int)⟩, (.int .i64)⟩),
  (4, ⟨.bool, false, 1, 1, ⟨.bool, false⟩, .bool⟩),
  (5, ⟨(.int .u8), false, 1, 1, ⟨(.int .u8), (0 : Int)⟩, (.int .u8)⟩),
  (9, ⟨.str, false, 1, 16, ⟨.str, ByteArray.empty⟩, .str⟩),
  (22, ⟨(.int .u32), false, 1, 4, ⟨(.int .u32), (0 : Int)⟩, (.int .u32)⟩),
  (23, ⟨(.slice 24), false, 1, 24, ⟨(.nil 24), ()⟩, (.list (.int .i64))⟩),
  (24, ⟨(.int .i64), false, 1, 8, ⟨(.int .i64), (0 : Int)⟩, (.int .i64)⟩),
  (25, ⟨(.slice 43), false, 1, 24, ⟨(.nil 43), ()⟩, (.list tapiPair)⟩),
  (27, ⟨(.struct [(0, 3), (1, 9), (2, 9), (3, 22), (4, 23), (5, 24), (6, 25), (7, 3), (8, 3)]), true, 9, 120, ⟨(.pair (.int .i64) (.pair .str (.pair .str (.pair (.int .u32) (.pair (.nil 24) (.pair (.int .i64) (.pair (.nil 43) (.pair (.int .i64) (.pair (.int .i64) .unit))))))))), ((0 : Int), (ByteArray.empty, (ByteArray.empty, ((0 : Int), ((), ((0 : Int), ((), ((0 : Int), ((0 : Int), ())))))))))⟩, tapiNode⟩),
  (29, ⟨(.int .i64), false, 1, 8, ⟨(.int .i64), (0 : Int)⟩, (.int .i64)⟩),
  (43, ⟨(.struct [(0, 9), (1, 9)]), true, 2, 32, ⟨tapiPair, (ByteArray.empty, (ByteArray.empty, ()))⟩, tapiPair⟩),
  (109, ⟨(.slice 3), false, 1, 24, ⟨(.nil 3), ()⟩, (.list (.int .i64))⟩),
  (121, ⟨.other, false, 1, 0, ⟨.dead, ()⟩, .dead⟩),
  (126, ⟨.other, false, 1, 8, ⟨.nilfn, ()⟩, .nilfn⟩),
  (143, ⟨(.int .u64), false, 1, 8, ⟨(.int .u64), (0 : Int)⟩, (.int .u64)⟩),
  (146, ⟨.other, false, 1, 8, ⟨.nilfn, ()⟩, .nilfn⟩)]
def HT : List (Nat × Hint) := [
  (3, ⟨.bool, [], [some tapiNode]⟩),
  (4, ⟨.bool, [], [some .str, some .str, some (.int .u32), some (.list (.int .i64)), some (.list tapiPair), some (.int .i64)]⟩),
  (5, ⟨.bool, [], [some tapiNode]⟩),
  (6, ⟨.bool, [], [some tapiNode, some tapiNode]⟩),
  (17, ⟨tapiNode, [], [some tapiNode]⟩),
  (18, ⟨(.int .i64), [], [some tapiNode]⟩),
  (19, ⟨(.int .i64), [], [some tapiNode]⟩),
  (20, ⟨.bool, [], []⟩),
  (21, ⟨.str, [], [some .str, some (.int .i64)]⟩),
  (22, ⟨(.list tapiPair), [], [some (.list tapiPair)]⟩),
  (23, ⟨.bool, [], [some tapiNode, some tapiNode]⟩),
  (24, ⟨tapiNode, [], [some .str, some .str]⟩),
  (25, ⟨tapiNode, [], [some .str, some .str]⟩),
  (26, ⟨tapiNode, [], [some .str, some .str, some (.int .i64), some (.int .i64), some (.int .i64)]⟩),
  (27, ⟨tapiNode, [], [some (.int .i64)]⟩),
  (28, ⟨tapiNode, [], [some (.list tapiPair)]⟩),
  (29, ⟨(.list tapiPair), [], [some (.list tapiPair)]⟩),
  (30, ⟨tapiNode, [], [some (.int .u32), some (.list (.int .i64)), some (.int .i64)]⟩),
  (31, ⟨(.pair (.int .i64) (.pair .str (.pair .str (.pair (.int .u32) (.pair (.own (.int .i64) 0) (.pair (.int .i64) (.pair (.own tapiPair 1) (.pair (.int .i64) (.pair (.int .i64) .unit))))))))), [(.row 24 (.int .i64) false), (.row 43 tapiPair false)], [some tapiNode]⟩),
  (32, ⟨.bool, [], [some tapiNode, some tapiNode]⟩),
  (33, ⟨.bool, [], [some (.list (.int .i64)), some (.list (.int .i64))]⟩),
  (34, ⟨(.list (.int .i64)), [], [some tapiNode]⟩),
  (35, ⟨(.list (.int .i64)), [], [some tapiNode]⟩),
  (36, ⟨.bool, [], [some (.list tapiPair), some (.list tapiPair)]⟩),
  (37, ⟨(.list tapiPair), [], [some tapiNode]⟩),
  (38, ⟨(.list tapiPair), [], [some tapiNode]⟩),
  (76, ⟨tapiNode, [], [some tapiNode]⟩),
  (77, ⟨.bool, [], [some tapiNode]⟩),
  (78, ⟨.bool, [], [some tapiNode]⟩),
  (79, ⟨.bool, [], [some tapiNode]⟩),
  (80, ⟨.bool, [], [some tapiNode]⟩),
  (81, ⟨(.list tapiPair), [], [some (.list tapiPair)]⟩),
  (82, ⟨.bool, [], [some (.list tapiPair), some (.int .i64)]⟩),
  (83, ⟨.bool, [], [some .str, some .str]⟩),
  (84, ⟨(.own (.int .i64) 0), [(.row 24 (.int .i64) false)], [some (.list (.int .i64))]⟩),
  (85, ⟨(.own tapiPair 0), [(.row 43 tapiPair false)], [some (.list tapiPair)]⟩),
  (86, ⟨.bool, [], [some (.list (.int .i64)), some (.list (.int .i64))]⟩),
  (87, ⟨.bool, [], [some (.list tapiPair), some (.list tapiPair)]⟩),
  (88, ⟨(.list (.int .i64)), [], [some (.int .u32)]⟩),
  (111, ⟨.bool, [], [some tapiPair]⟩),
  (112, ⟨.bool, [], [some (.list tapiPair), none]⟩),
  (113, ⟨(.int .i64), [], [some (.int .u32)]⟩),
  (114, ⟨.bool, [], [some (.list (.int .i64)), some (.int .i64)]⟩),
  (115, ⟨.bool, [], [some (.list tapiPair)]⟩),
  (116, ⟨.bool, [], [some tapiNode, some .bool, some .bool, some .bool, some .bool]⟩),
  (117, ⟨.bool, [], [some (.list tapiPair)]⟩),
  (118, ⟨(.own tapiPair 0), [(.row 43 tapiPair false)], [some (.list tapiPair), some tapiPair]⟩),
  (119, ⟨.bool, [], [some (.int .u32), some (.int .i64)]⟩),
  (121, ⟨(.int .i64), [], [some (.int .u32)]⟩),
  (130, ⟨(.int .i64), [], [some (.list tapiPair), none]⟩),
  (131, ⟨(.int .i64), [], [some (.list (.int .i64)), some (.int .i64)]⟩),
  (132, ⟨(.int .i64), [], [some .str, some .str]⟩),
  (133, ⟨(.tcons (.int .i64) (.tcons .bool .tnil)), [], [some (.list tapiPair), some .str]⟩),
  (134, ⟨(.own tapiPair 0), [(.row 43 tapiPair false), (.row 43 tapiPair true)], [none, some (.int .i64), none]⟩),
  (137, ⟨(.int .i64), [], [some .str, some .str]⟩),
  (138, ⟨(.tcons (.int .i64) (.tcons .bool .tnil)), [], [some (.list tapiPair), some .str, none]⟩),
  (139, ⟨(.int .i64), [], [some tapiPair, some .str]⟩)]
def KT : List (Nat × List (List Nat)) := [
  (3, [[1], [1], [2]]),
  (4, [[0, 1, 2, 3, 4, 5], [0, 1, 2, 3, 4, 5], [0, 1, 2, 3, 4, 5], [0, 1, 2, 3, 4, 5, 13, 14], [0, 1, 2, 3, 4, 5, 13, 14, 33], [0, 1, 2, 3, 4, 5, 13, 14], [0, 1, 2, 3, 4, 5, 13, 14, 57], [12], [2, 3, 4, 5, 80], [12], [2, 3, 5, 15, 16], [2, 3, 5, 15, 16, 17], [12]]),
  (5, [[1], [1, 8], [2], [1], [1, 3], [1, 3, 16], [2], [1, 3, 4], [1, 3, 4, 5], [1, 3, 4, 5, 23], [1, 3, 4, 5], [1, 3, 4, 5], [1, 3, 4, 6], [1, 3, 4, 6, 37], [1, 3, 4, 6], [1, 3, 4, 6], [2]]),
  (6, [[2, 3], [2, 3], [2, 25], [4], [4]]),
  (17, [[1, 2], [1, 2], [1, 2], [1, 2], [2]]),
  (18, [[1], [1, 3], [1, 3], [1, 3, 10], [2], [1, 3, 19], [2], [22], [2], [2]]),
  (19, [[1], [1, 10], [2], [1, 12], [2], [15], [2], [2]]),
  (20, [[], [1], [0]]),
  (21, [[0, 1], [4]]),
  (22, [[0], [0, 3], [0, 3, 4], [0, 3, 4, 13], [0, 3, 4], [0, 3, 4], [2]]),
  (23, [[2, 3], [2, 3, 51], [4], [4]]),
  (24, [[0, 1, 4], [4]]),
  (25, [[0, 1, 4], [4]]),
  (26, [[0, 1, 2, 3, 4, 10], [10]]),
  (27, [[0, 2], [2]]),
  (28, [[0, 2], [2, 3], [2]]),
  (29, [[0], [0, 3], [0, 3, 4], [0, 3, 4, 10], [0, 3, 4], [0, 3, 4, 16], [0, 3, 4, 5], [0, 3, 4, 5, 33], [0, 3, 4, 5], [0, 3, 4], [2]]),
  (30, [[0, 1, 2, 6], [6]]),
  (31, [[1, 2], [1, 2], [1, 2], [2]]),
  (32, [[2, 3], [2, 3, 5], [4]]),
  (33, [[0, 1], [0, 1, 10], [4], [0, 1, 5], [0, 1, 5, 14], [0, 1, 5], [0, 1, 5, 25], [4], [4]]),
  (34, [[1], [1, 3], [3, 12, 13, 14], [3, 12, 13, 14, 15], [3, 5, 12, 13, 14], [3, 5, 12, 13, 14, 19], [3, 12, 13, 14], [3, 12, 13, 14], [2]]),
  (35, [[1], [1, 3], [1, 3, 4], [1, 3, 4, 10], [1, 3, 4], [1, 3, 4, 18], [1, 3, 4], [1, 3, 29], [3], [2]]),
  (36, [[0, 1], [0, 1, 10], [4], [0, 1, 5], [0, 1, 5, 14], [0, 1, 5], [0, 1, 5, 25], [4], [4]]),
  (37, [[1], [1, 4], [1, 4, 5], [1, 4, 5], [1, 4, 5], [2], [1, 15], [2], [2]]),
  (38, [[1], [1, 15], [2], [1, 24], [2], [2]]),
  (76, [[1, 2], [1, 2, 4], [1, 2, 4, 5], [2], [1, 2, 4, 12], [2], [1, 2, 4, 19], [2], [1, 2, 4, 29], [2], [1, 2, 4, 34], [1, 2, 39], [2], [1, 2, 56], [2], [2]]),
  (77, [[1], [1, 3], [2]]),
  (78, [[1], [1, 4], [1, 4, 5], [2], [1, 4, 20], [2], [1, 31], [2], [2]]),
  (79, [[1], [1, 3], [1, 3, 4], [1, 3, 4, 19], [1, 3, 4], [1, 3, 4], [2]]),
  (80, [[1], [1, 6], [2], [1, 8], [1, 8, 9], [1, 8, 9], [2], [1, 8, 19], [1, 3], [1, 3, 25], [1, 3], [1, 3, 33], [2], [2], [1, 8, 51], [2], [1, 74], [2], [2]]),
  (81, [[0], [0, 3], [3, 6, 7, 8], [3, 6, 7, 8, 9], [3, 5, 6, 7, 8], [3, 6, 7, 8], [3, 6, 7, 8], [2]]),
  (82, [[0, 1], [0, 1, 5], [0, 1, 5, 11], [0, 1, 5], [0, 1, 5, 24], [4], [4]]),
  (83, [[0, 1], [0, 1, 5], [0, 1, 5, 15], [0, 1, 5], [0, 1, 5, 24], [4], [4]]),
  (84, [[0], [0, 4], [2], [2]]),
  (85, [[0], [0, 4], [2], [2]]),
  (86, [[0, 1], [0, 1, 10], [4], [0, 1, 12, 13], [0, 1, 12, 13, 14], [0, 1, 5, 12, 13], [0, 1, 12, 13, 24], [4], [0, 1, 12, 13], [4]]),
  (87, [[0, 1], [0, 1, 10], [4], [0, 1, 12, 13], [0, 1, 12, 13, 14], [0, 1, 5, 12, 13], [0, 1, 12, 13, 24], [4], [0, 1, 12, 13], [4]]),
  (88, [[0], [0, 3], [0, 3, 4], [0, 3, 4, 7], [0, 3, 4], [0, 3, 4, 12], [0, 3, 4], [2]]),
  (111, [[1], [2]]),
  (112, [[0, 1], [4]]),
  (113, [[0], [2]]),
  (114, [[0, 1], [4]]),
  (115, [[0], [0, 5, 6], [0, 5, 6, 7], [0, 3, 5, 6], [0, 5, 6, 25], [2], [0, 5, 6], [2]]),
  (116, [[1, 2, 3, 4, 5], [3, 4, 5, 35], [10], [10]]),
  (117, [[0], [0, 3], [0, 3, 7], [0, 3], [0, 3, 22], [2], [2]]),
  (118, [[0, 3], [0, 3, 5, 6], [0, 3, 5, 15], [3, 5, 7], [7], [4], [4]]),
  (119, [[0, 1], [0, 1, 5], [0, 1, 5, 7], [0, 1, 5], [0, 1, 5, 17], [4], [0, 1, 5], [4]]),
  (121, [[0], [2]]),
  (130, [[0, 1], [0, 1, 7, 8], [0, 1, 7, 8, 9], [0, 1, 5, 7, 8], [0, 1, 5, 7, 8, 16], [4], [0, 1, 7, 8], [4]]),
  (131, [[0, 1], [0, 1, 7, 8], [0, 1, 7, 8, 9], [0, 1, 5, 7, 8], [0, 1, 5, 7, 8, 16], [4], [0, 1, 7, 8], [4]]),
  (132, [[0, 1], [0, 1, 5], [0, 1, 5, 9], [4], [0, 1, 5, 20], [4], [25], [4], [4]]),
  (133, [[0, 1], [4, 5]]),
  (134, [[0, 1, 2], [0, 1, 2], [0, 1, 2, 7], [0, 1, 2, 7, 16], [6], [0, 1, 2, 7, 8], [0, 1, 2, 7, 8, 22], [6], [0, 1, 2, 7, 8, 31], [0, 1, 2, 7, 9], [0, 1, 7, 9], [9], [6], [0, 1, 2, 7, 8], [0, 1, 2, 7, 8, 68], [0, 1, 2], [0], [6], [0, 1, 7], [0], [6]]),
  (137, [[0, 1], [0, 1, 5], [0, 1, 5, 12, 13], [0, 1, 5, 12, 13, 14], [0, 1, 5, 6, 12, 13], [0, 1, 5, 6, 12, 13, 22], [4], [0, 1, 5, 12, 13], [4]]),
  (138, [[0, 1, 2], [0, 1, 2, 8], [0, 1, 2, 8, 9, 10], [0, 1, 2, 8, 9, 10, 17], [0, 1, 2, 8, 9, 10, 11], [0, 1, 2, 8, 9, 10, 11, 31], [0, 1, 2, 8, 9, 10], [0, 1, 2, 8, 9, 10], [6, 7]]),
  (139, [[1, 2], [4]])]
def AT : List (Nat × List Nat) := [(37, [5]), (80, [9])]
def MT : List (Nat × List (List Nat)) := [(4, [[1, 1, 1, 1, 1, 1, 0, 1], [1, 1, 1, 1, 1, 0, 1], [1, 1, 1, 1, 1]]), (6, [[1, 1, 0, 1]]), (22, [[1, 1, 0, 1, 0, 0, 0, 1]]), (29, [[1, 1, 0, 1, 0, 0, 1, 0, 0, 1, 1, 0, 0, 0, 0, 1]]), (32, [[1, 1]]), (80, [[1, 1, 0, 1, 0, 1]]), (83, [[1, 0, 1, 0, 0, 0, 1]]), (132, [[1, 1, 0, 0, 1]])]
def RR : Prims := fun f => if f = 134 then some (insP 43 tapiPair) else none
def KK (f i : Nat) : List Nat := match Abs.look KT f with
  | some l => l.getD i []
  | none => []
def AG (f t : Nat) : Bool := match Abs.look AT f with
  | some l => l.contains t
  | none => false
def MM (f : Nat) (p : List Nat) : Bool := match Abs.look MT f with
  | some l => l.contains p
  | none => false
def HH (f : Nat) (ats : List Ty) : Option Hint := Abs.look HT f
def TT : Go.Abs.Told := ⟨TB, HH, KK, fun _ => false, AG, MM⟩
noncomputable abbrev CF : AbsFn := callW PP TT RR
noncomputable abbrev CB : AbsFn := callB PP TT RR CF @loopW
noncomputable abbrev BF {R : Type} (f m : Nat) (p : List Nat) : Run R := bodyF PP TT CF @loopW f m p
noncomputable abbrev finF (f : Nat) (rt : Ty) (ots : List OTy) (m : Nat) : Kn (denR rt ots) := finK TT (funcOf PP f) rt ots m
end Go.Proofs.Ytobfcaejpcpboaa.AT
