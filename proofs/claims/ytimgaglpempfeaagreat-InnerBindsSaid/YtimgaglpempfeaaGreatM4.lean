/- Texts of one proof, laid together: how the interpreter's words stand for the program's code and what the functions do. No conditions but those that each lemma names. -/
import Derived.Test.YtimgaglpempfeaaGreatM3
import Derived.Test.YtimgaglpempfeaaGreatM2
import Derived.WideShapes
import Derived.Laws.BitsLemmas
import Derived.Lib.TrailingZeros
set_option linter.unusedSimpArgs false
set_option maxRecDepth 100000
set_option linter.unusedVariables false
namespace Go.Proofs.YtimgaglpempfeaaGreat.AB
open Go.Abs
theorem inner_two_2.eq (a0 : den (.int .i64)) (a1 : denO (.box (.int .i64))) (a2 : denO (.box .bool)) (a3 : denO (.box (.fn 63 (.tcons (.ptr 8 0) .tnil)))) (a4 : denO (.box tapiNode)) (a5 : denO (.box .str)) (a6 : denO (.box .str)) (a7 : denO (.box (.fn 64 (.tcons (.ptr 0 0) (.tcons (.ptr 1 0) (.tcons (.ptr 2 0) (.tcons (.ptr 3 0) (.tcons (.ptr 4 0) (.tcons (.ptr 5 0) (.tcons (.ptr 6 0) (.tcons (.ptr 7 0) .tnil))))))))))) (a8 : denO (.box (.int .i64))) (a9 : denO (.box (.pair (.own tapiNode 9) (.pair (.int .i64) (.pair (.own (.int .i64) 10) .unit))))) (a10 : denO (.row 28 tapiNode true)) (a11 : denO (.row 25 (.int .i64) true)) : inner_two_2 a0 a1 a2 a3 a4 a5 a6 a7 a8 a9 a10 a11 =
  bnd (hash_Levels a1) fun r0 =>
  br (leI r0 a0)
   (both
    (bnd (node_Binds a4) fun r1 =>
    br (fitL tapiPair (appL tapiPair r1.2.1 ((a5, (a6, ())) :: []))) (bnd (node_Bucket (appL tapiPair r1.2.1 ((a5, (a6, ())) :: []))) fun r2 =>
    bnd (inner_two_1 r2 ((), (a9.2.1, ((), ()))) a10 a11) fun r3 =>
    some (r3.1, (a1, (false, (((), ()), (a4, (a5, (a6, (((), ((), ((), ((), ((), ((), ((), ((), ())))))))), (a8, (((), (r3.2.1.2.1, ((), ()))), ((), (r3.2.2.2.1, (r3.2.2.2.2.1, ())))))))))))))) none)
    (bnd (node_Binds a4) fun r4 =>
    br (fitL tapiPair (appL tapiPair r4.2.1 ((a5, (a6, ())) :: []))) (bnd (node_Bucket (appL tapiPair r4.2.1 ((a5, (a6, ())) :: []))) fun r5 =>
    bnd (inner_two_1 r5 ((), (a9.2.1, ((), ()))) a10 a11) fun r6 =>
    some (r6.1, (a1, (false, (((), ()), (a4, (a5, (a6, (((), ((), ((), ((), ((), ((), ((), ((), ())))))))), (a8, (((), (r6.2.1.2.1, ((), ()))), ((), (r6.2.2.2.1, (r6.2.2.2.2.1, ())))))))))))))) none))
   (bnd (inner_chunk a5 a0 a1) fun r7 =>
   bnd (inner_chunk a4.2.1 a0 a1) fun r8 =>
   br (eqI r7 r8)
    (both
     (bnd (inner_two_2 (addI .i64 a0 (1 : Int)) a1 a2 ((), ()) a4 a5 a6 ((), ((), ((), ((), ((), ((), ((), ((), ())))))))) a8 ((), (a9.2.1, ((), ()))) a10 a11) fun r9 =>
     bnd (node_Inner r9.1) fun r10 =>
     bnd (inner_two_1 r10 ((), (r9.2.2.2.2.2.2.2.2.2.1.2.1, ((), ()))) r9.2.2.2.2.2.2.2.2.2.2.2.2.1 r9.2.2.2.2.2.2.2.2.2.2.2.1) fun r11 =>
     inner_two_2.j0 r7 r11.1 r9.2.1 r9.2.2.1 ((), ()) r9.2.2.2.2.1 r9.2.2.2.2.2.1 r9.2.2.2.2.2.2.1 ((), ((), ((), ((), ((), ((), ((), ((), ())))))))) r9.2.2.2.2.2.2.2.2.1 ((), (r11.2.1.2.1, ((), ()))) r11.2.2.2.1 r11.2.2.2.2.1)
     (bnd (inner_two_2 (addI .i64 a0 (1 : Int)) a1 a2 ((), ()) a4 a5 a6 ((), ((), ((), ((), ((), ((), ((), ((), ())))))))) a8 ((), (a9.2.1, ((), ()))) a10 a11) fun r12 =>
     bnd (node_Inner r12.1) fun r13 =>
     bnd (inner_two_1 r13 ((), (r12.2.2.2.2.2.2.2.2.2.1.2.1, ((), ()))) r12.2.2.2.2.2.2.2.2.2.2.2.2.1 r12.2.2.2.2.2.2.2.2.2.2.2.1) fun r14 =>
     inner_two_2.j0 r7 r14.1 r12.2.1 r12.2.2.1 ((), ()) r12.2.2.2.2.1 r12.2.2.2.2.2.1 r12.2.2.2.2.2.2.1 ((), ((), ((), ((), ((), ((), ((), ((), ())))))))) r12.2.2.2.2.2.2.2.2.1 ((), (r14.2.1.2.1, ((), ()))) r14.2.2.2.1 r14.2.2.2.2.1))
    (bnd (node_Leaf a5 a6) fun r15 =>
    bnd (inner_two_1 r15 ((), (a9.2.1, ((), ()))) a10 a11) fun r16 =>
    bnd (branch_With ((0 : Int), (ByteArray.empty, (ByteArray.empty, ((0 : Int), ([], ((0 : Int), ([], ((0 : Int), ((0 : Int), ()))))))))) r7 r16.1) fun r17 =>
    bnd (branch_With r17 r8 a8) fun r18 =>
    bnd (inner_two_1 r18 ((), (r16.2.1.2.1, ((), ()))) r16.2.2.2.2.1 r16.2.2.2.1) fun r19 =>
    some (r19.1, (a1, (a2, (((), ()), (a4, (a5, (a6, (((), ((), ((), ((), ((), ((), ((), ((), ())))))))), (a8, (((), (r19.2.1.2.1, ((), ()))), ((), (r19.2.2.2.1, (r19.2.2.2.2.1, ()))))))))))))))) :=
  (callW_eq (P := PP) (T := TT) (pr := RR) 64 [⟨(.int .i64), a0⟩, ⟨(.ptr 0 0), ()⟩, ⟨(.ptr 1 0), ()⟩, ⟨(.ptr 2 0), ()⟩, ⟨(.ptr 3 0), ()⟩, ⟨(.ptr 4 0), ()⟩, ⟨(.ptr 5 0), ()⟩, ⟨(.ptr 6 0), ()⟩, ⟨(.ptr 7 0), ()⟩] [⟨(.box (.int .i64)), a1⟩, ⟨(.box .bool), a2⟩, ⟨(.box (.fn 63 (.tcons (.ptr 8 0) .tnil))), a3⟩, ⟨(.box tapiNode), a4⟩, ⟨(.box .str), a5⟩, ⟨(.box .str), a6⟩, ⟨(.box (.fn 64 (.tcons (.ptr 0 0) (.tcons (.ptr 1 0) (.tcons (.ptr 2 0) (.tcons (.ptr 3 0) (.tcons (.ptr 4 0) (.tcons (.ptr 5 0) (.tcons (.ptr 6 0) (.tcons (.ptr 7 0) .tnil)))))))))), a7⟩, ⟨(.box (.int .i64)), a8⟩, ⟨(.box (.pair (.own tapiNode 9) (.pair (.int .i64) (.pair (.own (.int .i64) 10) .unit)))), a9⟩, ⟨(.row 28 tapiNode true), a10⟩, ⟨(.row 25 (.int .i64) true), a11⟩] (.int .i64) [(.box (.int .i64)), (.box .bool), (.box (.fn 63 (.tcons (.ptr 8 0) .tnil))), (.box tapiNode), (.box .str), (.box .str), (.box (.fn 64 (.tcons (.ptr 0 0) (.tcons (.ptr 1 0) (.tcons (.ptr 2 0) (.tcons (.ptr 3 0) (.tcons (.ptr 4 0) (.tcons (.ptr 5 0) (.tcons (.ptr 6 0) (.tcons (.ptr 7 0) .tnil)))))))))), (.box (.int .i64)), (.box (.pair (.own tapiNode 11) (.pair (.int .i64) (.pair (.own (.int .i64) 10) .unit)))), .gone, (.row 25 (.int .i64) false), (.row 28 tapiNode false)]).trans (by kernel_rfl)
theorem inner_two_2.j0.eq (x0 : den (.int .i64)) (x1 : den (.int .i64)) (x2 : denO (.box (.int .i64))) (x3 : denO (.box .bool)) (x4 : denO (.box (.fn 63 (.tcons (.ptr 8 0) .tnil)))) (x5 : denO (.box tapiNode)) (x6 : denO (.box .str)) (x7 : denO (.box .str)) (x8 : denO (.box (.fn 64 (.tcons (.ptr 0 0) (.tcons (.ptr 1 0) (.tcons (.ptr 2 0) (.tcons (.ptr 3 0) (.tcons (.ptr 4 0) (.tcons (.ptr 5 0) (.tcons (.ptr 6 0) (.tcons (.ptr 7 0) .tnil))))))))))) (x9 : denO (.box (.int .i64))) (x10 : denO (.box (.pair (.own tapiNode 11) (.pair (.int .i64) (.pair (.own (.int .i64) 10) .unit))))) (x11 : denO (.row 25 (.int .i64) false)) (x12 : denO (.row 28 tapiNode false)) : inner_two_2.j0 x0 x1 x2 x3 x4 x5 x6 x7 x8 x9 x10 x11 x12 =
  bnd (branch_With ((0 : Int), (ByteArray.empty, (ByteArray.empty, ((0 : Int), ([], ((0 : Int), ([], ((0 : Int), ((0 : Int), ()))))))))) x0 x1) fun r0 =>
  bnd (inner_two_1 r0 ((), (x10.2.1, ((), ()))) x12 x11) fun r1 =>
  some (r1.1, (x2, (x3, (((), ()), (x5, (x6, (x7, (((), ((), ((), ((), ((), ((), ((), ((), ())))))))), (x9, (((), (r1.2.1.2.1, ((), ()))), ((), (r1.2.2.2.1, (r1.2.2.2.2.1, ()))))))))))))) :=
  (congrFun (congrFun (jnO_eq [1, 1, 1, 0, 1, 0, 1] (BF (R := denR (.int .i64) [(.box (.int .i64)), (.box .bool), (.box (.fn 63 (.tcons (.ptr 8 0) .tnil))), (.box tapiNode), (.box .str), (.box .str), (.box (.fn 64 (.tcons (.ptr 0 0) (.tcons (.ptr 1 0) (.tcons (.ptr 2 0) (.tcons (.ptr 3 0) (.tcons (.ptr 4 0) (.tcons (.ptr 5 0) (.tcons (.ptr 6 0) (.tcons (.ptr 7 0) .tnil)))))))))), (.box (.int .i64)), (.box (.pair (.own tapiNode 11) (.pair (.int .i64) (.pair (.own (.int .i64) 10) .unit)))), .gone, (.row 25 (.int .i64) false), (.row 28 tapiNode false)]) 64 11 [1, 1, 1, 0, 1, 0, 1])) ⟨[(3, ⟨(.ptr 2 0), ()⟩), (11, ⟨(.int .i64), x0⟩), (13, ⟨(.int .i64), x1⟩)], [⟨(.box (.int .i64)), x2⟩, ⟨(.box .bool), x3⟩, ⟨(.box (.fn 63 (.tcons (.ptr 8 0) .tnil))), x4⟩, ⟨(.box tapiNode), x5⟩, ⟨(.box .str), x6⟩, ⟨(.box .str), x7⟩, ⟨(.box (.fn 64 (.tcons (.ptr 0 0) (.tcons (.ptr 1 0) (.tcons (.ptr 2 0) (.tcons (.ptr 3 0) (.tcons (.ptr 4 0) (.tcons (.ptr 5 0) (.tcons (.ptr 6 0) (.tcons (.ptr 7 0) .tnil)))))))))), x8⟩, ⟨(.box (.int .i64)), x9⟩, ⟨(.box (.pair (.own tapiNode 11) (.pair (.int .i64) (.pair (.own (.int .i64) 10) .unit)))), x10⟩, ⟨.gone, ()⟩, ⟨(.row 25 (.int .i64) false), x11⟩, ⟨(.row 28 tapiNode false), x12⟩]⟩) (seqK false [1, 1, 1, 1] (BF 64 11 [1, 1, 1, 1]) (finF 64 (.int .i64) [(.box (.int .i64)), (.box .bool), (.box (.fn 63 (.tcons (.ptr 8 0) .tnil))), (.box tapiNode), (.box .str), (.box .str), (.box (.fn 64 (.tcons (.ptr 0 0) (.tcons (.ptr 1 0) (.tcons (.ptr 2 0) (.tcons (.ptr 3 0) (.tcons (.ptr 4 0) (.tcons (.ptr 5 0) (.tcons (.ptr 6 0) (.tcons (.ptr 7 0) .tnil)))))))))), (.box (.int .i64)), (.box (.pair (.own tapiNode 11) (.pair (.int .i64) (.pair (.own (.int .i64) 10) .unit)))), .gone, (.row 25 (.int .i64) false), (.row 28 tapiNode false)] 11))).trans (by kernel_rfl)
theorem ref04_Levels.eq (a0 : den (.int .i64)) : ref04_Levels a0 =
  ref04_Levels.l0 a0 (0 : Int) :=
  (callW_eq (P := PP) (T := TT) (pr := RR) 66 [⟨(.int .i64), a0⟩] [] (.int .i64) []).trans (by kernel_rfl)
theorem ref04_Levels.l0.eq (x0 : den (.int .i64)) (x1 : den (.int .i64)) : ref04_Levels.l0 x0 x1 =
  bnd (ref04_clamp x0) fun r0 =>
  br (ltI (mulI .i64 (5 : Int) x1) r0)
   (ref04_Levels.l0 x0 (addI .i64 x1 (1 : Int)))
   (some x1) :=
  (loopB_eq (P := PP) (T := TT) (C := CF) [1, 1, 0, 0, 0] [1, 1, 0, 0, 0] 66 0 ⟨[(0, ⟨(.int .i64), x0⟩), (3, ⟨(.int .i64), x1⟩)], []⟩ (blockK 0 (seqK false [1, 1, 1] (BF 66 0 [1, 1, 1]) (finF 66 (.int .i64) [] 0)))).trans (by kernel_rfl)
theorem ref18_SameHeap.eq (a0 : den (.list tapiNode)) (a1 : den (.list tapiNode)) : ref18_SameHeap a0 a1 =
  br (notB (eqI (ofN (lenL tapiNode a0)) (ofN (lenL tapiNode a1))))
   (some false)
   (ref18_SameHeap.l0 a0 a1 (0 : Int)) :=
  (callW_eq (P := PP) (T := TT) (pr := RR) 67 [⟨(.list tapiNode), a0⟩, ⟨(.list tapiNode), a1⟩] [] .bool []).trans (by kernel_rfl)
theorem ref18_SameHeap.l0.eq (x0 : den (.list tapiNode)) (x1 : den (.list tapiNode)) (x2 : den (.int .i64)) : ref18_SameHeap.l0 x0 x1 x2 =
  br (ltI x2 (ofN (lenL tapiNode x0)))
   (br (andB (leI (0 : Int) x2) (ltI x2 (ofN (lenL tapiNode x0)))) (br (andB (leI (0 : Int) x2) (ltI x2 (ofN (lenL tapiNode x1)))) (bnd (ref13_Same (ixL tapiNode x0 x2) (ixL tapiNode x1 x2)) fun r0 =>
   br (notB r0)
    (some false)
    (ref18_SameHeap.l0 x0 x1 (addI .i64 x2 (1 : Int)))) none) none)
   (some true) :=
  (loopB_eq (P := PP) (T := TT) (C := CF) [1, 1, 0, 1, 0, 0] [1, 1, 0, 1, 0, 0] 67 0 ⟨[(0, ⟨(.list tapiNode), x0⟩), (1, ⟨(.list tapiNode), x1⟩), (5, ⟨(.int .i64), x2⟩)], []⟩ (blockK 0 (seqK false [1, 1, 1] (BF 67 0 [1, 1, 1]) (finF 67 .bool [] 0)))).trans (by kernel_rfl)
theorem slices_Cloneapi_Pair_api_Pair.eq (a0 : den (.list tapiPair)) : slices_Cloneapi_Pair_api_Pair a0 =
  br (eqI (ofN (lenL tapiPair a0)) (0 : Int))
   (both
    (some ((), ([], ())))
    (br (fitL tapiPair (appL tapiPair [] a0)) (some ((), ((appL tapiPair [] a0), ()))) none))
   (br (fitL tapiPair (appL tapiPair [] a0)) (some ((), ((appL tapiPair [] a0), ()))) none) :=
  (callW_eq (P := PP) (T := TT) (pr := RR) 74 [⟨(.list tapiPair), a0⟩] [] (.own tapiPair 0) [(.row 52 tapiPair false)]).trans (by kernel_rfl)
theorem pair_ordered.eq (a0 : den (.list tapiPair)) : pair_ordered a0 =
  bnd (pair_Is a0) fun r0 =>
  br r0
   (some a0)
   (bnd (pair_Make a0) fun r1 =>
   some r1) :=
  (callW_eq (P := PP) (T := TT) (pr := RR) 73 [⟨(.list tapiPair), a0⟩] [] (.list tapiPair) []).trans (by kernel_rfl)
theorem pair_put.eq (a0 : den (.list tapiPair)) (a1 : den tapiPair) : pair_put a0 a1 =
  bnd (pair_place a0 a1.1) fun r0 =>
  br r0.2.1
   (bnd (slices_Cloneapi_Pair_api_Pair a0) fun r1 =>
   br (andB (leI (0 : Int) r0.1) (ltI r0.1 (ofN (lenL tapiPair r1.2.1)))) (some ((), ((setL tapiPair r1.2.1 r0.1 a1), ()))) none)
   (both
    (bnd (slices_Cloneapi_Pair_api_Pair a0) fun r2 =>
    bnd (slices_Insertapi_Pair_api_Pair r0.1 r2.2.1 (a1 :: [])) fun r3 =>
    some ((), (r3.2.1, ())))
    (bnd (slices_Cloneapi_Pair_api_Pair a0) fun r4 =>
    bnd (slices_Insertapi_Pair_api_Pair r0.1 r4.2.1 (a1 :: [])) fun r5 =>
    some ((), (r5.2.1, ())))) :=
  (callW_eq (P := PP) (T := TT) (pr := RR) 72 [⟨(.list tapiPair), a0⟩, ⟨tapiPair, a1⟩] [] (.own tapiPair 0) [(.row 52 tapiPair false)]).trans (by kernel_rfl)
theorem pair_Make.eq (a0 : den (.list tapiPair)) : pair_Make a0 =
  pair_Make.l0 a0 (ofN (lenL tapiPair a0)) (0 : Int) [] :=
  (callW_eq (P := PP) (T := TT) (pr := RR) 71 [⟨(.list tapiPair), a0⟩] [] (.list tapiPair) []).trans (by kernel_rfl)
theorem pair_Make.l0.eq (x0 : den (.list tapiPair)) (x1 : den (.int .i64)) (x2 : den (.int .i64)) (x3 : denO (.row 52 tapiPair false)) : pair_Make.l0 x0 x1 x2 x3 =
  br (ltI x2 x1)
   (br (andB (leI (0 : Int) x2) (ltI x2 (ofN (lenL tapiPair x0)))) (bnd (pair_put x3 (ixL tapiPair x0 x2)) fun r0 =>
   pair_Make.l0 x0 x1 (addI .i64 x2 (1 : Int)) r0.2.1) none)
   (some x3) :=
  (loopB_eq (P := PP) (T := TT) (C := CF) [1, 1, 0, 1, 0, 0] [1, 1, 0, 1, 0, 0] 71 0 ⟨[(3, ⟨(.own tapiPair 0), ()⟩), (6, ⟨(.list tapiPair), x0⟩), (7, ⟨(.int .i64), x1⟩), (8, ⟨(.int .i64), x2⟩)], [⟨(.row 52 tapiPair false), x3⟩]⟩ (blockK 0 (seqK false [1, 1, 1] (BF 71 0 [1, 1, 1]) (finF 71 (.list tapiPair) [] 0)))).trans (by kernel_rfl)
theorem slices_Cloneapi_Node_api_Node.eq (a0 : den (.list tapiNode)) : slices_Cloneapi_Node_api_Node a0 =
  br (eqI (ofN (lenL tapiNode a0)) (0 : Int))
   (both
    (some ((), ([], ())))
    (br (fitL tapiNode (appL tapiNode [] a0)) (some ((), ((appL tapiNode [] a0), ()))) none))
   (br (fitL tapiNode (appL tapiNode [] a0)) (some ((), ((appL tapiNode [] a0), ()))) none) :=
  (callW_eq (P := PP) (T := TT) (pr := RR) 68 [⟨(.list tapiNode), a0⟩] [] (.own tapiNode 0) [(.row 28 tapiNode false)]).trans (by kernel_rfl)
theorem node_Copy.eq (a0 : den tapiNode) : node_Copy a0 =
  bnd (slices_Cloneapi_Ref_api_Ref a0.2.2.2.2.1) fun r0 =>
  bnd (slices_Cloneapi_Pair_api_Pair a0.2.2.2.2.2.2.1) fun r1 =>
  some ((a0.1, (a0.2.1, (a0.2.2.1, (a0.2.2.2.1, ((), (a0.2.2.2.2.2.1, ((), a0.2.2.2.2.2.2.2))))))), (r0.2.1, (r1.2.1, ()))) :=
  (callW_eq (P := PP) (T := TT) (pr := RR) 69 [⟨tapiNode, a0⟩] [] (.pair (.int .i64) (.pair .str (.pair .str (.pair (.int .u32) (.pair (.own (.int .i64) 0) (.pair (.int .i64) (.pair (.own tapiPair 1) (.pair (.int .i64) (.pair (.int .i64) .unit))))))))) [(.row 25 (.int .i64) false), (.row 52 tapiPair false)]).trans (by kernel_rfl)
theorem ref_New.eq (a0 : den (.int .i64)) : ref_New a0 =
  br (ltI a0 (0 : Int))
   (some (0 : Int))
   (some (subI .i64 (-1 : Int) a0)) :=
  (callW_eq (P := PP) (T := TT) (pr := RR) 70 [⟨(.int .i64), a0⟩] [] (.int .i64) []).trans (by kernel_rfl)
theorem branch_Sized.eq (a0 : den tapiNode) (a1 : den (.int .i64)) : branch_Sized a0 a1 =
  bnd (branch_branch a0) fun r0 =>
  br (leI (0 : Int) a1)
   (some (r0.1.1, (r0.1.2.1, (r0.1.2.2.1, (r0.1.2.2.2.1, (r0.2.1, (r0.1.2.2.2.2.2.1, (r0.2.2.1, (a1, r0.1.2.2.2.2.2.2.2.2)))))))))
   (some (r0.1.1, (r0.1.2.1, (r0.1.2.2.1, (r0.1.2.2.2.1, (r0.2.1, (r0.1.2.2.2.2.2.1, (r0.2.2.1, r0.1.2.2.2.2.2.2.2)))))))) :=
  (callW_eq (P := PP) (T := TT) (pr := RR) 80 [⟨tapiNode, a0⟩, ⟨(.int .i64), a1⟩] [] tapiNode []).trans (by kernel_rfl)
theorem hash_Of.eq (a0 : den .str) (a1 : den (.int .i64)) : hash_Of a0 a1 =
  hash_Of.l0 a0 a1 (14695981039346656037 : Int) (ofN (lenS a0)) (0 : Int) :=
  (callW_eq (P := PP) (T := TT) (pr := RR) 82 [⟨.str, a0⟩, ⟨(.int .i64), a1⟩] [] (.int .u64) []).trans (by kernel_rfl)
theorem hash_Of.l0.eq (x0 : den .str) (x1 : den (.int .i64)) (x2 : den (.int .u64)) (x3 : den (.int .i64)) (x4 : den (.int .i64)) : hash_Of.l0 x0 x1 x2 x3 x4 =
  br (ltI x4 x3)
   (br (andB (leI (0 : Int) x4) (ltI x4 (ofN (lenS x0)))) (hash_Of.l0 x0 x1 (mulI .u64 (xorI .u64 x2 (wrapI .u64 (getS x0 (toN x4)))) (1099511628211 : Int)) x3 (addI .i64 x4 (1 : Int))) none)
   (bnd (hash_cut x2 x1) fun r0 =>
   some r0) :=
  (loopB_eq (P := PP) (T := TT) (C := CF) [1, 1, 0, 1, 0, 0] [1, 1, 0, 1, 0, 0] 82 0 ⟨[(0, ⟨.str, x0⟩), (1, ⟨(.int .i64), x1⟩), (5, ⟨(.int .u64), x2⟩), (8, ⟨(.int .i64), x3⟩), (9, ⟨(.int .i64), x4⟩)], []⟩ (blockK 0 (seqK false [1, 1, 1] (BF 82 0 [1, 1, 1]) (finF 82 (.int .u64) [] 0)))).trans (by kernel_rfl)
theorem hash_Chunk.eq (a0 : den (.int .u64)) (a1 : den (.int .i64)) (a2 : den (.int .i64)) : hash_Chunk a0 a1 a2 =
  br (ltI a1 (0 : Int))
   (some (0 : Int))
   (bnd (hash_Levels a2) fun r0 =>
   br (leI r0 a1)
    (some (0 : Int))
    (bnd (hash_cut a0 a2) fun r1 =>
    br (leI (0 : Int) (mulI .i64 (5 : Int) a1)) (some (wrapI .i64 (andI .u64 (shrI .u64 r1 (mulI .i64 (5 : Int) a1)) (31 : Int)))) none)) :=
  (callW_eq (P := PP) (T := TT) (pr := RR) 81 [⟨(.int .u64), a0⟩, ⟨(.int .i64), a1⟩, ⟨(.int .i64), a2⟩] [] (.int .i64) []).trans (by kernel_rfl)
theorem branch_branch.eq (a0 : den tapiNode) : branch_branch a0 =
  br (notB (eqI a0.1 (2 : Int)))
   (bnd (node_Branch_o (0 : Int) [] (0 : Int)) fun r0 =>
   some (r0.1, (r0.2.1, (r0.2.2.1, ()))))
   (bnd (node_May a0) fun r1 =>
   br (notB (eqI r1 (0 : Int)))
    (bnd (node_Branch_o (0 : Int) [] (0 : Int)) fun r2 =>
    some (r2.1, (r2.2.1, (r2.2.2.1, ()))))
    (bnd (node_Copy a0) fun r3 =>
    some (r3.1, (r3.2.1, (r3.2.2.1, ()))))) :=
  (callW_eq (P := PP) (T := TT) (pr := RR) 75 [⟨tapiNode, a0⟩] [] (.pair (.int .i64) (.pair .str (.pair .str (.pair (.int .u32) (.pair (.own (.int .i64) 0) (.pair (.int .i64) (.pair (.own tapiPair 1) (.pair (.int .i64) (.pair (.int .i64) .unit))))))))) [(.row 25 (.int .i64) false), (.row 52 tapiPair false)]).trans (by kernel_rfl)
theorem mask_With.eq (a0 : den (.int .u32)) (a1 : den (.int .i64)) : mask_With a0 a1 =
  bnd (mask_in a1) fun r0 =>
  br (notB r0)
   (some a0)
   (br (leI (0 : Int) a1) (some (orI .u32 a0 (shlI .u32 (1 : Int) a1))) none) :=
  (callW_eq (P := PP) (T := TT) (pr := RR) 76 [⟨(.int .u32), a0⟩, ⟨(.int .i64), a1⟩] [] (.int .u32) []).trans (by kernel_rfl)
theorem mask_Place.eq (a0 : den (.int .u32)) (a1 : den (.int .i64)) : mask_Place a0 a1 =
  bnd (mask_below a1) fun r0 =>
  bnd (math_bits_OnesCount32 (andI .u32 a0 r0)) fun r1 =>
  some r1 :=
  (callW_eq (P := PP) (T := TT) (pr := RR) 77 [⟨(.int .u32), a0⟩, ⟨(.int .i64), a1⟩] [] (.int .i64) []).trans (by kernel_rfl)
theorem mask_Has.eq (a0 : den (.int .u32)) (a1 : den (.int .i64)) : mask_Has a0 a1 =
  bnd (mask_in a1) fun r0 =>
  br r0
   (br (leI (0 : Int) a1) (some (eqI (andI .u32 (shrI .u32 a0 a1) (1 : Int)) (1 : Int))) none)
   (some false) :=
  (callW_eq (P := PP) (T := TT) (pr := RR) 78 [⟨(.int .u32), a0⟩, ⟨(.int .i64), a1⟩] [] .bool []).trans (by kernel_rfl)
theorem slices_Insertapi_Ref_api_Ref.eq (a0 : den (.int .i64)) (a1 : denO (.row 25 (.int .i64) true)) (a2 : denO (.row 25 (.int .i64) true)) : slices_Insertapi_Ref_api_Ref a0 a1 a2 =
  br (insG (.int .i64) a1 a0 a2) (some ((), ((insL (.int .i64) a1 a0 a2), (a2, ())))) none :=
  (callW_eq (P := PP) (T := TT) (pr := RR) 79 [⟨(.own (.int .i64) 0), ()⟩, ⟨(.int .i64), a0⟩, ⟨(.own (.int .i64) 1), ()⟩] [⟨(.row 25 (.int .i64) true), a1⟩, ⟨(.row 25 (.int .i64) true), a2⟩] (.own (.int .i64) 0) [(.row 25 (.int .i64) false), (.row 25 (.int .i64) true)]).trans (by kernel_rfl)
theorem hash_Levels.eq (a0 : den (.int .i64)) : hash_Levels a0 =
  bnd (hash_within a0) fun r0 =>
  br (notB (eqI (5 : Int) (0 : Int))) (some (quoI .i64 (subI .i64 (addI .i64 r0 (5 : Int)) (1 : Int)) (5 : Int))) none :=
  (callW_eq (P := PP) (T := TT) (pr := RR) 65 [⟨(.int .i64), a0⟩] [] (.int .i64) []).trans (by kernel_rfl)
theorem ref06_All.eq (a0 : den (.int .u32)) : ref06_All a0 =
  ref06_All.l0 a0 (0 : Int) [] :=
  (callW_eq (P := PP) (T := TT) (pr := RR) 83 [⟨(.int .u32), a0⟩] [] (.list (.int .i64)) []).trans (by kernel_rfl)
theorem ref06_All.l0.eq (x0 : den (.int .u32)) (x1 : den (.int .i64)) (x2 : denO (.row 3 (.int .i64) false)) : ref06_All.l0 x0 x1 x2 =
  br (ltI x1 (32 : Int))
   (bnd (ref06_Has x0 x1) fun r0 =>
   br r0
    (br (fitL (.int .i64) (appL (.int .i64) x2 (x1 :: []))) (ref06_All.l0 x0 (addI .i64 x1 (1 : Int)) (appL (.int .i64) x2 (x1 :: []))) none)
    (ref06_All.l0 x0 (addI .i64 x1 (1 : Int)) x2))
   (some x2) :=
  (loopB_eq (P := PP) (T := TT) (C := CF) [1, 1, 0, 1, 0, 0] [1, 1, 0, 1, 0, 0] 83 0 ⟨[(0, ⟨(.int .u32), x0⟩), (3, ⟨(.own (.int .i64) 0), ()⟩), (4, ⟨(.int .i64), x1⟩)], [⟨(.row 3 (.int .i64) false), x2⟩]⟩ (blockK 0 (seqK false [1, 1, 1] (BF 83 0 [1, 1, 1]) (finF 83 (.list (.int .i64)) [] 0)))).trans (by kernel_rfl)
theorem ref04_Of.eq (a0 : den .str) (a1 : den (.int .i64)) : ref04_Of a0 a1 =
  ref04_Of.l0 a0 a1 (14695981039346656037 : Int) (0 : Int) :=
  (callW_eq (P := PP) (T := TT) (pr := RR) 85 [⟨.str, a0⟩, ⟨(.int .i64), a1⟩] [] (.int .u64) []).trans (by kernel_rfl)
theorem ref04_Of.l0.eq (x0 : den .str) (x1 : den (.int .i64)) (x2 : den (.int .u64)) (x3 : den (.int .i64)) : ref04_Of.l0 x0 x1 x2 x3 =
  br (ltI x3 (ofN (lenS x0)))
   (br (andB (leI (0 : Int) x3) (ltI x3 (ofN (lenS x0)))) (ref04_Of.l0 x0 x1 (mulI .u64 (xorI .u64 x2 (wrapI .u64 (getS x0 (toN x3)))) (1099511628211 : Int)) (addI .i64 x3 (1 : Int))) none)
   (ref04_Of.l1 x1 x2 (0 : Int) (1 : Int) (0 : Int)) :=
  (loopB_eq (P := PP) (T := TT) (C := CF) [1, 1, 0, 1, 0, 0] [1, 1, 0, 1, 0, 0] 85 0 ⟨[(0, ⟨.str, x0⟩), (1, ⟨(.int .i64), x1⟩), (5, ⟨(.int .u64), x2⟩), (6, ⟨(.int .i64), x3⟩)], []⟩ (blockK 0 (seqK false [1, 1, 1] (BF 85 0 [1, 1, 1]) (finF 85 (.int .u64) [] 0)))).trans (by kernel_rfl)
theorem ref04_Of.l1.eq (x0 : den (.int .i64)) (x1 : den (.int .u64)) (x2 : den (.int .u64)) (x3 : den (.int .u64)) (x4 : den (.int .i64)) : ref04_Of.l1 x0 x1 x2 x3 x4 =
  bnd (ref04_clamp x0) fun r0 =>
  br (ltI x4 r0)
   (br (notB (eqI (2 : Int) (0 : Int))) (br (notB (eqI (2 : Int) (0 : Int))) (ref04_Of.l1 x0 (quoI .u64 x1 (2 : Int)) (addI .u64 x2 (mulI .u64 x3 (remI x1 (2 : Int)))) (mulI .u64 (2 : Int) x3) (addI .i64 x4 (1 : Int))) none) none)
   (some x2) :=
  (loopB_eq (P := PP) (T := TT) (C := CF) [1, 1, 1, 1, 0, 1, 0, 0] [1, 1, 1, 1, 0, 1, 0, 0] 85 0 ⟨[(1, ⟨(.int .i64), x0⟩), (5, ⟨(.int .u64), x1⟩), (7, ⟨(.int .u64), x2⟩), (8, ⟨(.int .u64), x3⟩), (9, ⟨(.int .i64), x4⟩)], []⟩ (blockK 2 (seqK false [1, 1, 1, 1, 1] (BF 85 0 [1, 1, 1, 1, 1]) (finF 85 (.int .u64) [] 0)))).trans (by kernel_rfl)
theorem ref04_Chunk.eq (a0 : den (.int .u64)) (a1 : den (.int .i64)) (a2 : den (.int .i64)) : ref04_Chunk a0 a1 a2 =
  br (ltI a1 (0 : Int))
   (some (0 : Int))
   (bnd (ref04_Levels a2) fun r0 =>
   br (leI r0 a1)
    (some (0 : Int))
    (ref04_Chunk.l0 a0 a1 a2 (0 : Int) (1 : Int) (mulI .i64 (5 : Int) a1))) :=
  (callW_eq (P := PP) (T := TT) (pr := RR) 84 [⟨(.int .u64), a0⟩, ⟨(.int .i64), a1⟩, ⟨(.int .i64), a2⟩] [] (.int .i64) []).trans (by kernel_rfl)
theorem ref04_Chunk.l0.eq (x0 : den (.int .u64)) (x1 : den (.int .i64)) (x2 : den (.int .i64)) (x3 : den (.int .i64)) (x4 : den (.int .i64)) (x5 : den (.int .i64)) : ref04_Chunk.l0 x0 x1 x2 x3 x4 x5 =
  br (ltI x5 (addI .i64 (mulI .i64 (5 : Int) x1) (5 : Int)))
   (bnd (ref04_clamp x2) fun r0 =>
   br (ltI x5 r0)
    (bnd (ref04_bit x0 x5) fun r1 =>
    ref04_Chunk.l0 x0 x1 x2 (addI .i64 x3 (mulI .i64 x4 r1)) (mulI .i64 (2 : Int) x4) (addI .i64 x5 (1 : Int)))
    (some x3))
   (some x3) :=
  (loopB_eq (P := PP) (T := TT) (C := CF) [1, 1, 1, 0, 1, 0, 0] [1, 1, 1, 0, 1, 0, 0] 84 0 ⟨[(0, ⟨(.int .u64), x0⟩), (1, ⟨(.int .i64), x1⟩), (2, ⟨(.int .i64), x2⟩), (7, ⟨(.int .i64), x3⟩), (8, ⟨(.int .i64), x4⟩), (9, ⟨(.int .i64), x5⟩)], []⟩ (blockK 0 (seqK false [1, 1, 1, 1] (BF 84 0 [1, 1, 1, 1]) (finF 84 (.int .i64) [] 0)))).trans (by kernel_rfl)
theorem ref19_Branch_Node.eq (a0 : den tboscageref19Branch) : ref19_Branch_Node a0 =
  ref19_Branch_Node.l0 (0 : Int) a0 ((0 : Int), (ByteArray.empty, (ByteArray.empty, ((0 : Int), ((), ((0 : Int), ((), ((0 : Int), ((0 : Int), ()))))))))) [] [] [] [] :=
  (callW_eq (P := PP) (T := TT) (pr := RR) 86 [⟨tboscageref19Branch, a0⟩] [] tapiNode []).trans (by kernel_rfl)
theorem ref19_Branch_Node.l0.eq (x0 : den (.int .i64)) (x1 : denO (.box tboscageref19Branch)) (x2 : denO (.box (.pair (.int .i64) (.pair .str (.pair .str (.pair (.int .u32) (.pair (.own (.int .i64) 4) (.pair (.int .i64) (.pair (.own tapiPair 5) (.pair (.int .i64) (.pair (.int .i64) .unit))))))))))) (x3 : denO (.row 3 (.int .i64) false)) (x4 : denO (.row 25 (.int .i64) false)) (x5 : denO (.row 25 (.int .i64) false)) (x6 : denO (.row 52 tapiPair false)) : ref19_Branch_Node.l0 x0 x1 x2 x3 x4 x5 x6 =
  br (ltI x0 (32 : Int))
   (br (andB (leI (0 : Int) x0) (ltI x0 (ofN 32))) (br (notB (eqI (ixL (.int .i64) x1.1 x0) (0 : Int)))
    (br (fitL (.int .i64) (appL (.int .i64) x3 (x0 :: []))) (br (andB (leI (0 : Int) x0) (ltI x0 (ofN 32))) (br (fitL (.int .i64) (appL (.int .i64) x4 ((ixL (.int .i64) x1.1 x0) :: []))) (ref19_Branch_Node.l0 (addI .i64 x0 (1 : Int)) x1 x2 (appL (.int .i64) x3 (x0 :: [])) (appL (.int .i64) x4 ((ixL (.int .i64) x1.1 x0) :: [])) x5 x6) none) none) none)
    (ref19_Branch_Node.l0 (addI .i64 x0 (1 : Int)) x1 x2 x3 x4 x5 x6)) none)
   (bnd (ref06_Make x3) fun r0 =>
   some ((2 : Int), (ByteArray.empty, (ByteArray.empty, (r0, (x4, ((0 : Int), ([], x1.2)))))))) :=
  (loopB_eq (P := PP) (T := TT) (C := CF) [1, 1, 0, 1, 0, 0] [1, 1, 0, 1, 0, 0] 86 0 ⟨[(1, ⟨(.ptr 0 0), ()⟩), (2, ⟨(.ptr 1 0), ()⟩), (3, ⟨(.own (.int .i64) 2), ()⟩), (4, ⟨(.own (.int .i64) 3), ()⟩), (5, ⟨(.int .i64), x0⟩)], [⟨(.box tboscageref19Branch), x1⟩, ⟨(.box (.pair (.int .i64) (.pair .str (.pair .str (.pair (.int .u32) (.pair (.own (.int .i64) 4) (.pair (.int .i64) (.pair (.own tapiPair 5) (.pair (.int .i64) (.pair (.int .i64) .unit)))))))))), x2⟩, ⟨(.row 3 (.int .i64) false), x3⟩, ⟨(.row 25 (.int .i64) false), x4⟩, ⟨(.row 25 (.int .i64) false), x5⟩, ⟨(.row 52 tapiPair false), x6⟩]⟩ (blockK 0 (seqK false [1, 1, 1] (BF 86 0 [1, 1, 1]) (finF 86 tapiNode [] 0)))).trans (by kernel_rfl)
theorem slices_Cloneapi_Ref_api_Ref.eq (a0 : den (.list (.int .i64))) : slices_Cloneapi_Ref_api_Ref a0 =
  br (eqI (ofN (lenL (.int .i64) a0)) (0 : Int))
   (both
    (some ((), ([], ())))
    (br (fitL (.int .i64) (appL (.int .i64) [] a0)) (some ((), ((appL (.int .i64) [] a0), ()))) none))
   (br (fitL (.int .i64) (appL (.int .i64) [] a0)) (some ((), ((appL (.int .i64) [] a0), ()))) none) :=
  (callW_eq (P := PP) (T := TT) (pr := RR) 87 [⟨(.list (.int .i64)), a0⟩] [] (.own (.int .i64) 0) [(.row 25 (.int .i64) false)]).trans (by kernel_rfl)
theorem ref13_bare.eq (a0 : den tapiNode) (a1 : den .bool) (a2 : den .bool) (a3 : den .bool) (a4 : den .bool) : ref13_bare a0 a1 a2 a3 a4 =
  br a1
   (br (notB (eqS a0.2.1 ByteArray.empty))
    (some false)
    (br (notB (eqS a0.2.2.1 ByteArray.empty))
     (some false)
     (br a2
      (br (notB (eqI a0.2.2.2.1 (0 : Int)))
       (some false)
       (br (ltI (0 : Int) (ofN (lenL (.int .i64) a0.2.2.2.2.1)))
        (some false)
        (br (notB a3)
         (br (notB a4)
          (some true)
          (some (eqI (ofN (lenL tapiPair a0.2.2.2.2.2.2.1)) (0 : Int))))
         (br (eqI a0.2.2.2.2.2.1 (0 : Int))
          (br (notB a4)
           (some true)
           (some (eqI (ofN (lenL tapiPair a0.2.2.2.2.2.2.1)) (0 : Int))))
          (some false)))))
      (br (notB a3)
       (br (notB a4)
        (some true)
        (some (eqI (ofN (lenL tapiPair a0.2.2.2.2.2.2.1)) (0 : Int))))
       (br (eqI a0.2.2.2.2.2.1 (0 : Int))
        (br (notB a4)
         (some true)
         (some (eqI (ofN (lenL tapiPair a0.2.2.2.2.2.2.1)) (0 : Int))))
        (some false))))))
   (br a2
    (br (notB (eqI a0.2.2.2.1 (0 : Int)))
     (some false)
     (br (ltI (0 : Int) (ofN (lenL (.int .i64) a0.2.2.2.2.1)))
      (some false)
      (br (notB a3)
       (br (notB a4)
        (some true)
        (some (eqI (ofN (lenL tapiPair a0.2.2.2.2.2.2.1)) (0 : Int))))
       (br (eqI a0.2.2.2.2.2.1 (0 : Int))
        (br (notB a4)
         (some true)
         (some (eqI (ofN (lenL tapiPair a0.2.2.2.2.2.2.1)) (0 : Int))))
        (some false)))))
    (br (notB a3)
     (br (notB a4)
      (some true)
      (some (eqI (ofN (lenL tapiPair a0.2.2.2.2.2.2.1)) (0 : Int))))
     (br (eqI a0.2.2.2.2.2.1 (0 : Int))
      (br (notB a4)
       (some true)
       (some (eqI (ofN (lenL tapiPair a0.2.2.2.2.2.2.1)) (0 : Int))))
      (some false)))) :=
  (callW_eq (P := PP) (T := TT) (pr := RR) 88 [⟨tapiNode, a0⟩, ⟨.bool, a1⟩, ⟨.bool, a2⟩, ⟨.bool, a3⟩, ⟨.bool, a4⟩] [] .bool []).trans (by kernel_rfl)
theorem ref07_Is.eq (a0 : den (.list tapiPair)) : ref07_Is a0 =
  ref07_Is.l0 a0 (1 : Int) :=
  (callW_eq (P := PP) (T := TT) (pr := RR) 89 [⟨(.list tapiPair), a0⟩] [] .bool []).trans (by kernel_rfl)
theorem ref07_Is.l0.eq (x0 : den (.list tapiPair)) (x1 : den (.int .i64)) : ref07_Is.l0 x0 x1 =
  br (ltI x1 (ofN (lenL tapiPair x0)))
   (br (andB (leI (0 : Int) (subI .i64 x1 (1 : Int))) (ltI (subI .i64 x1 (1 : Int)) (ofN (lenL tapiPair x0)))) (br (andB (leI (0 : Int) x1) (ltI x1 (ofN (lenL tapiPair x0)))) (bnd (ref01_Less (ixL tapiPair x0 (subI .i64 x1 (1 : Int))).1 (ixL tapiPair x0 x1).1) fun r0 =>
   br (notB r0)
    (some false)
    (ref07_Is.l0 x0 (addI .i64 x1 (1 : Int)))) none) none)
   (some true) :=
  (loopB_eq (P := PP) (T := TT) (C := CF) [1, 0, 1, 0, 0] [1, 0, 1, 0, 0] 89 0 ⟨[(0, ⟨(.list tapiPair), x0⟩), (3, ⟨(.int .i64), x1⟩)], []⟩ (blockK 0 (seqK false [1, 1] (BF 89 0 [1, 1]) (finF 89 .bool [] 0)))).trans (by kernel_rfl)
theorem node_formed.eq (a0 : den tapiNode) : node_formed a0 =
  br (eqI a0.1 (1 : Int))
   (bnd (node_Leaf a0.2.1 a0.2.2.1) fun r0 =>
   some r0)
   (br (eqI a0.1 (6 : Int))
    (bnd (node_Tomb a0.2.1 a0.2.2.1) fun r1 =>
    some r1)
    (br (eqI a0.1 (2 : Int))
     (bnd (node_Branch a0.2.2.2.1 a0.2.2.2.2.1 (maxI a0.2.2.2.2.2.2.2.1 (0 : Int))) fun r2 =>
     some r2)
     (br (eqI a0.1 (3 : Int))
      (bnd (node_Bucket a0.2.2.2.2.2.2.1) fun r3 =>
      some r3)
      (br (eqI a0.1 (4 : Int))
       (br (eqI (ofN (lenL (.int .i64) a0.2.2.2.2.1)) (2 : Int))
        (br (andB (leI (0 : Int) (0 : Int)) (ltI (0 : Int) (ofN (lenL (.int .i64) a0.2.2.2.2.1)))) (br (andB (leI (0 : Int) (1 : Int)) (ltI (1 : Int) (ofN (lenL (.int .i64) a0.2.2.2.2.1)))) (bnd (node_Tree a0.2.1 a0.2.2.1 (ixL (.int .i64) a0.2.2.2.2.1 (0 : Int)) (ixL (.int .i64) a0.2.2.2.2.1 (1 : Int)) (maxI a0.2.2.2.2.2.2.2.1 (1 : Int))) fun r4 =>
        some r4) none) none)
        (some ((0 : Int), (ByteArray.empty, (ByteArray.empty, ((0 : Int), ([], ((0 : Int), ([], ((0 : Int), ((0 : Int), ())))))))))))
       (br (eqI a0.1 (5 : Int))
        (bnd (node_Inner a0.2.2.2.2.2.1) fun r5 =>
        some r5)
        (some ((0 : Int), (ByteArray.empty, (ByteArray.empty, ((0 : Int), ([], ((0 : Int), ([], ((0 : Int), ((0 : Int), ()))))))))))))))) :=
  (callW_eq (P := PP) (T := TT) (pr := RR) 90 [⟨tapiNode, a0⟩] [] tapiNode []).trans (by kernel_rfl)
theorem node_long.eq (a0 : den tapiNode) : node_long a0 =
  bnd (node_long_1 (a0.2.1, (a0.2.2.1, ()))) fun r0 =>
  br r0
   (some true)
   (bnd (slices_ContainsFuncapi_Pair_api_Pair a0.2.2.2.2.2.2.1) fun r1 =>
   some r1) :=
  (callW_eq (P := PP) (T := TT) (pr := RR) 91 [⟨tapiNode, a0⟩] [] .bool []).trans (by kernel_rfl)
theorem node_Same.eq (a0 : den tapiNode) (a1 : den tapiNode) : node_Same a0 a1 =
  br (eqI a0.1 a1.1)
   (br (eqS a0.2.1 a1.2.1)
    (br (eqS a0.2.2.1 a1.2.2.1)
     (node_Same.j0 (eqI a0.2.2.2.1 a1.2.2.2.1) a0 a1)
     (node_Same.j0 false a0 a1))
    (node_Same.j0 false a0 a1))
   (node_Same.j0 false a0 a1) :=
  (callW_eq (P := PP) (T := TT) (pr := RR) 92 [⟨tapiNode, a0⟩, ⟨tapiNode, a1⟩] [] .bool []).trans (by kernel_rfl)
theorem node_Same.j0.eq (x0 : den .bool) (x1 : denO (.box tapiNode)) (x2 : denO (.box tapiNode)) : node_Same.j0 x0 x1 x2 =
  br x0
   (br (eqI x1.2.2.2.2.2.1 x2.2.2.2.2.2.1)
    (br (eqI x1.2.2.2.2.2.2.2.1 x2.2.2.2.2.2.2.2.1)
     (br (eqI x1.2.2.2.2.2.2.2.2.1 x2.2.2.2.2.2.2.2.2.1)
      (bnd (slices_Equalapi_Ref_api_Ref x1.2.2.2.2.1 x2.2.2.2.2.1) fun r0 =>
      br r0
       (bnd (slices_Equalapi_Pair_api_Pair x1.2.2.2.2.2.2.1 x2.2.2.2.2.2.2.1) fun r1 =>
       some r1)
       (some false))
      (some false))
     (some false))
    (some false))
   (some false) :=
  (congrFun (congrFun (jnO_eq [1, 1] (BF (R := den .bool) 92 0 [1, 1])) ⟨[(2, ⟨(.ptr 0 0), ()⟩), (3, ⟨(.ptr 1 0), ()⟩), (5, ⟨.bool, x0⟩)], [⟨(.box tapiNode), x1⟩, ⟨(.box tapiNode), x2⟩]⟩) (finF 92 .bool [] 0)).trans (by kernel_rfl)
theorem node_whole.eq (a0 : den tapiNode) : node_whole a0 =
  br (eqI a0.1 (2 : Int))
   (bnd (mask_Count a0.2.2.2.1) fun r0 =>
   br (eqI (ofN (lenL (.int .i64) a0.2.2.2.2.1)) r0)
    (bnd (slices_Containsapi_Ref_api_Ref a0.2.2.2.2.1 (0 : Int)) fun r1 =>
    some (notB r1))
    (some false))
   (br (eqI a0.1 (3 : Int))
    (br (leI (2 : Int) (ofN (lenL tapiPair a0.2.2.2.2.2.2.1)))
     (bnd (pair_Is a0.2.2.2.2.2.2.1) fun r2 =>
     some r2)
     (some false))
    (br (eqI a0.1 (5 : Int))
     (some (notB (eqI a0.2.2.2.2.2.1 (0 : Int))))
     (some true))) :=
  (callW_eq (P := PP) (T := TT) (pr := RR) 93 [⟨tapiNode, a0⟩] [] .bool []).trans (by kernel_rfl)
theorem slices_IndexFuncapi_Ref_api_Ref.eq (a0 : den (.list (.int .i64))) (a1 : den (.fn 54 (.tcons (.ptr 0 0) .tnil))) (a2 : denO (.box (.int .i64))) : slices_IndexFuncapi_Ref_api_Ref a0 a1 a2 =
  slices_IndexFuncapi_Ref_api_Ref.l0 a0 ((), ()) (ofN (lenL (.int .i64) a0)) (0 : Int) a2 :=
  (callW_eq (P := PP) (T := TT) (pr := RR) 94 [⟨(.list (.int .i64)), a0⟩, ⟨(.fn 54 (.tcons (.ptr 0 0) .tnil)), a1⟩] [⟨(.box (.int .i64)), a2⟩] (.int .i64) [(.box (.int .i64))]).trans (by kernel_rfl)
theorem slices_IndexFuncapi_Ref_api_Ref.l0.eq (x0 : den (.list (.int .i64))) (x1 : den (.fn 54 (.tcons (.ptr 0 0) .tnil))) (x2 : den (.int .i64)) (x3 : den (.int .i64)) (x4 : denO (.box (.int .i64))) : slices_IndexFuncapi_Ref_api_Ref.l0 x0 x1 x2 x3 x4 =
  br (ltI x3 x2)
   (br (andB (leI (0 : Int) x3) (ltI x3 (ofN (lenL (.int .i64) x0)))) (bnd (plan_May_1 (ixL (.int .i64) x0 x3) x4) fun r0 =>
   br r0.1
    (some (x3, (r0.2.1, ())))
    (slices_IndexFuncapi_Ref_api_Ref.l0 x0 ((), ()) x2 (addI .i64 x3 (1 : Int)) r0.2.1)) none)
   (some ((-1 : Int), (x4, ()))) :=
  (loopB_eq (P := PP) (T := TT) (C := CF) [1, 0, 1, 0, 0] [1, 0, 1, 0, 0] 94 1 ⟨[(0, ⟨(.list (.int .i64)), x0⟩), (1, ⟨(.fn 54 (.tcons (.ptr 0 0) .tnil)), x1⟩), (7, ⟨(.int .i64), x2⟩), (8, ⟨(.int .i64), x3⟩)], [⟨(.box (.int .i64)), x4⟩]⟩ (blockK 0 (seqK false [1, 1] (BF 94 1 [1, 1]) (finF 94 (.int .i64) [(.box (.int .i64))] 1)))).trans (by kernel_rfl)
theorem ref_Which.eq (a0 : den (.int .i64)) : ref_Which a0 =
  bnd (ref_Kind a0) fun r0 =>
  br (notB (eqI r0 (2 : Int)))
   (some ((0 : Int), (false, ())))
   (some ((subI .i64 (-1 : Int) a0), (true, ()))) :=
  (callW_eq (P := PP) (T := TT) (pr := RR) 95 [⟨(.int .i64), a0⟩] [] (.tcons (.int .i64) (.tcons .bool .tnil)) []).trans (by kernel_rfl)
theorem slices_IndexFuncapi_Ref_api_Ref_v1.eq (a0 : den (.list (.int .i64))) : slices_IndexFuncapi_Ref_api_Ref_v1 a0 =
  slices_IndexFuncapi_Ref_api_Ref_v1.l0 a0 (ofN (lenL (.int .i64) a0)) (0 : Int) :=
  (callW_eq (P := PP) (T := TT) (pr := RR) 94 [⟨(.list (.int .i64)), a0⟩, ⟨(.fn 56 .tnil), ()⟩] [] (.int .i64) []).trans (by kernel_rfl)
theorem slices_IndexFuncapi_Ref_api_Ref_v1.l0.eq (x0 : den (.list (.int .i64))) (x1 : den (.int .i64)) (x2 : den (.int .i64)) : slices_IndexFuncapi_Ref_api_Ref_v1.l0 x0 x1 x2 =
  br (ltI x2 x1)
   (br (andB (leI (0 : Int) x2) (ltI x2 (ofN (lenL (.int .i64) x0)))) (bnd (plan_May_2 (ixL (.int .i64) x0 x2)) fun r0 =>
   br r0
    (some x2)
    (slices_IndexFuncapi_Ref_api_Ref_v1.l0 x0 x1 (addI .i64 x2 (1 : Int)))) none)
   (some (-1 : Int)) :=
  (loopB_eq (P := PP) (T := TT) (C := CF) [1, 0, 1, 0, 0] [1, 0, 1, 0, 0] 94 0 ⟨[(0, ⟨(.list (.int .i64)), x0⟩), (1, ⟨(.fn 56 .tnil), ()⟩), (7, ⟨(.int .i64), x1⟩), (8, ⟨(.int .i64), x2⟩)], []⟩ (blockK 0 (seqK false [1, 1] (BF 94 0 [1, 1]) (finF 94 (.int .i64) [] 0)))).trans (by kernel_rfl)
theorem pair_place.eq (a0 : den (.list tapiPair)) (a1 : den .str) : pair_place a0 a1 =
  bnd (slices_BinarySearchFuncapi_Pair_api_Pair_string a0 a1) fun r0 =>
  some r0 :=
  (callW_eq (P := PP) (T := TT) (pr := RR) 96 [⟨(.list tapiPair), a0⟩, ⟨.str, a1⟩] [] (.tcons (.int .i64) (.tcons .bool .tnil)) []).trans (by kernel_rfl)
theorem slices_Deleteapi_Pair_api_Pair.eq (a0 : den (.int .i64)) (a1 : den (.int .i64)) (a2 : denO (.row 52 tapiPair true)) : slices_Deleteapi_Pair_api_Pair a0 a1 a2 =
  br (delG tapiPair a2 a0 a1) (some ((), ((delL tapiPair a2 a0 a1), ()))) none :=
  (callW_eq (P := PP) (T := TT) (pr := RR) 97 [⟨(.own tapiPair 0), ()⟩, ⟨(.int .i64), a0⟩, ⟨(.int .i64), a1⟩] [⟨(.row 52 tapiPair true), a2⟩] (.own tapiPair 0) [(.row 52 tapiPair false)]).trans (by kernel_rfl)
theorem branch_Only.eq (a0 : den tapiNode) : branch_Only a0 =
  bnd (branch_branch a0) fun r0 =>
  br (notB (eqI (ofN (lenL (.int .i64) r0.2.1)) (1 : Int)))
   (some ((0 : Int), (false, ())))
   (br (andB (leI (0 : Int) (0 : Int)) (ltI (0 : Int) (ofN (lenL (.int .i64) r0.2.1)))) (some ((ixL (.int .i64) r0.2.1 (0 : Int)), (true, ()))) none) :=
  (callW_eq (P := PP) (T := TT) (pr := RR) 98 [⟨tapiNode, a0⟩] [] (.tcons (.int .i64) (.tcons .bool .tnil)) []).trans (by kernel_rfl)
theorem slices_Deleteapi_Ref_api_Ref.eq (a0 : den (.int .i64)) (a1 : den (.int .i64)) (a2 : denO (.row 25 (.int .i64) true)) : slices_Deleteapi_Ref_api_Ref a0 a1 a2 =
  br (delG (.int .i64) a2 a0 a1) (some ((), ((delL (.int .i64) a2 a0 a1), ()))) none :=
  (callW_eq (P := PP) (T := TT) (pr := RR) 99 [⟨(.own (.int .i64) 0), ()⟩, ⟨(.int .i64), a0⟩, ⟨(.int .i64), a1⟩] [⟨(.row 25 (.int .i64) true), a2⟩] (.own (.int .i64) 0) [(.row 25 (.int .i64) false)]).trans (by kernel_rfl)
theorem mask_Without.eq (a0 : den (.int .u32)) (a1 : den (.int .i64)) : mask_Without a0 a1 =
  bnd (mask_in a1) fun r0 =>
  br (notB r0)
   (some a0)
   (br (leI (0 : Int) a1) (some (andNotI .u32 a0 (shlI .u32 (1 : Int) a1))) none) :=
  (callW_eq (P := PP) (T := TT) (pr := RR) 100 [⟨(.int .u32), a0⟩, ⟨(.int .i64), a1⟩] [] (.int .u32) []).trans (by kernel_rfl)
theorem inner_two_1.eq (a0 : den tapiNode) (a1 : denO (.box (.pair (.own tapiNode 1) (.pair (.int .i64) (.pair (.own (.int .i64) 2) .unit))))) (a2 : denO (.row 28 tapiNode true)) (a3 : denO (.row 25 (.int .i64) true)) : inner_two_1 a0 a1 a2 a3 =
  bnd (plan_Add_v1 ((), (a1.2.1, ((), ()))) a0 a2 a3) fun r0 =>
  some (r0.1.2.1, (((), (r0.1.1.2.1, ((), ()))), ((), (r0.2.2.1, (r0.2.2.2.1, ()))))) :=
  (callW_eq (P := PP) (T := TT) (pr := RR) 63 [⟨tapiNode, a0⟩, ⟨(.ptr 0 0), ()⟩] [⟨(.box (.pair (.own tapiNode 1) (.pair (.int .i64) (.pair (.own (.int .i64) 2) .unit)))), a1⟩, ⟨(.row 28 tapiNode true), a2⟩, ⟨(.row 25 (.int .i64) true), a3⟩] (.int .i64) [(.box (.pair (.own tapiNode 3) (.pair (.int .i64) (.pair (.own (.int .i64) 2) .unit)))), .gone, (.row 25 (.int .i64) false), (.row 28 tapiNode false)]).trans (by kernel_rfl)
theorem ref04_clamp.eq (a0 : den (.int .i64)) : ref04_clamp a0 =
  br (ltI a0 (0 : Int))
   (some (0 : Int))
   (br (ltI (64 : Int) a0)
    (some (64 : Int))
    (some a0)) :=
  (callW_eq (P := PP) (T := TT) (pr := RR) 102 [⟨(.int .i64), a0⟩] [] (.int .i64) []).trans (by kernel_rfl)
theorem ref13_Same.eq (a0 : den tapiNode) (a1 : den tapiNode) : ref13_Same a0 a1 =
  br (notB (eqI a0.1 a1.1))
   (some false)
   (br (notB (eqS a0.2.1 a1.2.1))
    (some false)
    (br (notB (eqS a0.2.2.1 a1.2.2.1))
     (some false)
     (br (notB (eqI a0.2.2.2.1 a1.2.2.2.1))
      (some false)
      (br (notB (eqI a0.2.2.2.2.2.1 a1.2.2.2.2.2.1))
       (some false)
       (br (notB (eqI a0.2.2.2.2.2.2.2.1 a1.2.2.2.2.2.2.2.1))
        (some false)
        (br (notB (eqI a0.2.2.2.2.2.2.2.2.1 a1.2.2.2.2.2.2.2.2.1))
         (some false)
         (bnd (ref13_SameRefs a0.2.2.2.2.1 a1.2.2.2.2.1) fun r0 =>
         br r0
          (bnd (ref07_Same a0.2.2.2.2.2.2.1 a1.2.2.2.2.2.2.1) fun r1 =>
          some r1)
          (some false)))))))) :=
  (callW_eq (P := PP) (T := TT) (pr := RR) 103 [⟨tapiNode, a0⟩, ⟨tapiNode, a1⟩] [] .bool []).trans (by kernel_rfl)
theorem pair_Is.eq (a0 : den (.list tapiPair)) : pair_Is a0 =
  pair_Is.l0 a0 (ofN (lenL tapiPair a0)) (0 : Int) :=
  (callW_eq (P := PP) (T := TT) (pr := RR) 105 [⟨(.list tapiPair), a0⟩] [] .bool []).trans (by kernel_rfl)
theorem pair_Is.l0.eq (x0 : den (.list tapiPair)) (x1 : den (.int .i64)) (x2 : den (.int .i64)) : pair_Is.l0 x0 x1 x2 =
  br (ltI x2 x1)
   (br (ltI (0 : Int) x2)
    (br (andB (leI (0 : Int) (subI .i64 x2 (1 : Int))) (ltI (subI .i64 x2 (1 : Int)) (ofN (lenL tapiPair x0)))) (br (andB (leI (0 : Int) x2) (ltI x2 (ofN (lenL tapiPair x0)))) (bnd (order_Compare (ixL tapiPair x0 (subI .i64 x2 (1 : Int))).1 (ixL tapiPair x0 x2).1) fun r0 =>
    br (leI (0 : Int) r0)
     (some false)
     (pair_Is.l0 x0 x1 (addI .i64 x2 (1 : Int)))) none) none)
    (pair_Is.l0 x0 x1 (addI .i64 x2 (1 : Int))))
   (some true) :=
  (loopB_eq (P := PP) (T := TT) (C := CF) [1, 0, 1, 0, 0] [1, 0, 1, 0, 0] 105 0 ⟨[(0, ⟨(.list tapiPair), x0⟩), (5, ⟨(.int .i64), x1⟩), (6, ⟨(.int .i64), x2⟩)], []⟩ (blockK 0 (seqK false [1, 1] (BF 105 0 [1, 1]) (finF 105 .bool [] 0)))).trans (by kernel_rfl)
theorem slices_Insertapi_Pair_api_Pair.eq (a0 : den (.int .i64)) (a1 : denO (.row 52 tapiPair true)) (a2 : denO (.row 52 tapiPair true)) : slices_Insertapi_Pair_api_Pair a0 a1 a2 =
  br (insG tapiPair a1 a0 a2) (some ((), ((insL tapiPair a1 a0 a2), (a2, ())))) none :=
  (callW_eq (P := PP) (T := TT) (pr := RR) 104 [⟨(.own tapiPair 0), ()⟩, ⟨(.int .i64), a0⟩, ⟨(.own tapiPair 1), ()⟩] [⟨(.row 52 tapiPair true), a1⟩, ⟨(.row 52 tapiPair true), a2⟩] (.own tapiPair 0) [(.row 52 tapiPair false), (.row 52 tapiPair true)]).trans (by kernel_rfl)
theorem hash_cut.eq (a0 : den (.int .u64)) (a1 : den (.int .i64)) : hash_cut a0 a1 =
  bnd (hash_within a1) fun r0 =>
  br (eqI r0 (64 : Int))
   (some a0)
   (bnd (hash_within a1) fun r1 =>
   br (leI (0 : Int) r1) (some (andI .u64 a0 (subI .u64 (shlI .u64 (1 : Int) r1) (1 : Int)))) none) :=
  (callW_eq (P := PP) (T := TT) (pr := RR) 111 [⟨(.int .u64), a0⟩, ⟨(.int .i64), a1⟩] [] (.int .u64) []).trans (by kernel_rfl)
theorem mask_in.eq (a0 : den (.int .i64)) : mask_in a0 =
  br (leI (0 : Int) a0)
   (some (ltI a0 (32 : Int)))
   (some false) :=
  (callW_eq (P := PP) (T := TT) (pr := RR) 106 [⟨(.int .i64), a0⟩] [] .bool []).trans (by kernel_rfl)
theorem mask_below.eq (a0 : den (.int .i64)) : mask_below a0 =
  br (leI a0 (0 : Int))
   (some (0 : Int))
   (br (leI (32 : Int) a0)
    (some (4294967295 : Int))
    (br (leI (0 : Int) a0) (some (subI .u32 (shlI .u32 (1 : Int) a0) (1 : Int))) none)) :=
  (callW_eq (P := PP) (T := TT) (pr := RR) 108 [⟨(.int .i64), a0⟩] [] (.int .u32) []).trans (by kernel_rfl)
theorem math_bits_OnesCount32.eq (a0 : den (.int .u32)) : math_bits_OnesCount32 a0 =
  br (leI (0 : Int) (24 : Int)) (br (andB (leI (0 : Int) (shrI .u32 a0 (24 : Int))) (ltI (shrI .u32 a0 (24 : Int)) (ofN (lenS (ByteArray.mk #[0, 1, 1, 2, 1, 2, 2, 3, 1, 2, 2, 3, 2, 3, 3, 4, 1, 2, 2, 3, 2, 3, 3, 4, 2, 3, 3, 4, 3, 4, 4, 5, 1, 2, 2, 3, 2, 3, 3, 4, 2, 3, 3, 4, 3, 4, 4, 5, 2, 3, 3, 4, 3, 4, 4, 5, 3, 4, 4, 5, 4, 5, 5, 6, 1, 2, 2, 3, 2, 3, 3, 4, 2, 3, 3, 4, 3, 4, 4, 5, 2, 3, 3, 4, 3, 4, 4, 5, 3, 4, 4, 5, 4, 5, 5, 6, 2, 3, 3, 4, 3, 4, 4, 5, 3, 4, 4, 5, 4, 5, 5, 6, 3, 4, 4, 5, 4, 5, 5, 6, 4, 5, 5, 6, 5, 6, 6, 7, 1, 2, 2, 3, 2, 3, 3, 4, 2, 3, 3, 4, 3, 4, 4, 5, 2, 3, 3, 4, 3, 4, 4, 5, 3, 4, 4, 5, 4, 5, 5, 6, 2, 3, 3, 4, 3, 4, 4, 5, 3, 4, 4, 5, 4, 5, 5, 6, 3, 4, 4, 5, 4, 5, 5, 6, 4, 5, 5, 6, 5, 6, 6, 7, 2, 3, 3, 4, 3, 4, 4, 5, 3, 4, 4, 5, 4, 5, 5, 6, 3, 4, 4, 5, 4, 5, 5, 6, 4, 5, 5, 6, 5, 6, 6, 7, 3, 4, 4, 5, 4, 5, 5, 6, 4, 5, 5, 6, 5, 6, 6, 7, 4, 5, 5, 6, 5, 6, 6, 7, 5, 6, 6, 7, 6, 7, 7, 8]))))) (br (leI (0 : Int) (16 : Int)) (br (andB (leI (0 : Int) (andI .u32 (shrI .u32 a0 (16 : Int)) (255 : Int))) (ltI (andI .u32 (shrI .u32 a0 (16 : Int)) (255 : Int)) (ofN (lenS (ByteArray.mk #[0, 1, 1, 2, 1, 2, 2, 3, 1, 2, 2, 3, 2, 3, 3, 4, 1, 2, 2, 3, 2, 3, 3, 4, 2, 3, 3, 4, 3, 4, 4, 5, 1, 2, 2, 3, 2, 3, 3, 4, 2, 3, 3, 4, 3, 4, 4, 5, 2, 3, 3, 4, 3, 4, 4, 5, 3, 4, 4, 5, 4, 5, 5, 6, 1, 2, 2, 3, 2, 3, 3, 4, 2, 3, 3, 4, 3, 4, 4, 5, 2, 3, 3, 4, 3, 4, 4, 5, 3, 4, 4, 5, 4, 5, 5, 6, 2, 3, 3, 4, 3, 4, 4, 5, 3, 4, 4, 5, 4, 5, 5, 6, 3, 4, 4, 5, 4, 5, 5, 6, 4, 5, 5, 6, 5, 6, 6, 7, 1, 2, 2, 3, 2, 3, 3, 4, 2, 3, 3, 4, 3, 4, 4, 5, 2, 3, 3, 4, 3, 4, 4, 5, 3, 4, 4, 5, 4, 5, 5, 6, 2, 3, 3, 4, 3, 4, 4, 5, 3, 4, 4, 5, 4, 5, 5, 6, 3, 4, 4, 5, 4, 5, 5, 6, 4, 5, 5, 6, 5, 6, 6, 7, 2, 3, 3, 4, 3, 4, 4, 5, 3, 4, 4, 5, 4, 5, 5, 6, 3, 4, 4, 5, 4, 5, 5, 6, 4, 5, 5, 6, 5, 6, 6, 7, 3, 4, 4, 5, 4, 5, 5, 6, 4, 5, 5, 6, 5, 6, 6, 7, 4, 5, 5, 6, 5, 6, 6, 7, 5, 6, 6, 7, 6, 7, 7, 8]))))) (br (leI (0 : Int) (8 : Int)) (br (andB (leI (0 : Int) (andI .u32 (shrI .u32 a0 (8 : Int)) (255 : Int))) (ltI (andI .u32 (shrI .u32 a0 (8 : Int)) (255 : Int)) (ofN (lenS (ByteArray.mk #[0, 1, 1, 2, 1, 2, 2, 3, 1, 2, 2, 3, 2, 3, 3, 4, 1, 2, 2, 3, 2, 3, 3, 4, 2, 3, 3, 4, 3, 4, 4, 5, 1, 2, 2, 3, 2, 3, 3, 4, 2, 3, 3, 4, 3, 4, 4, 5, 2, 3, 3, 4, 3, 4, 4, 5, 3, 4, 4, 5, 4, 5, 5, 6, 1, 2, 2, 3, 2, 3, 3, 4, 2, 3, 3, 4, 3, 4, 4, 5, 2, 3, 3, 4, 3, 4, 4, 5, 3, 4, 4, 5, 4, 5, 5, 6, 2, 3, 3, 4, 3, 4, 4, 5, 3, 4, 4, 5, 4, 5, 5, 6, 3, 4, 4, 5, 4, 5, 5, 6, 4, 5, 5, 6, 5, 6, 6, 7, 1, 2, 2, 3, 2, 3, 3, 4, 2, 3, 3, 4, 3, 4, 4, 5, 2, 3, 3, 4, 3, 4, 4, 5, 3, 4, 4, 5, 4, 5, 5, 6, 2, 3, 3, 4, 3, 4, 4, 5, 3, 4, 4, 5, 4, 5, 5, 6, 3, 4, 4, 5, 4, 5, 5, 6, 4, 5, 5, 6, 5, 6, 6, 7, 2, 3, 3, 4, 3, 4, 4, 5, 3, 4, 4, 5, 4, 5, 5, 6, 3, 4, 4, 5, 4, 5, 5, 6, 4, 5, 5, 6, 5, 6, 6, 7, 3, 4, 4, 5, 4, 5, 5, 6, 4, 5, 5, 6, 5, 6, 6, 7, 4, 5, 5, 6, 5, 6, 6, 7, 5, 6, 6, 7, 6, 7, 7, 8]))))) (br (andB (leI (0 : Int) (andI .u32 a0 (255 : Int))) (ltI (andI .u32 a0 (255 : Int)) (ofN (lenS (ByteArray.mk #[0, 1, 1, 2, 1, 2, 2, 3, 1, 2, 2, 3, 2, 3, 3, 4, 1, 2, 2, 3, 2, 3, 3, 4, 2, 3, 3, 4, 3, 4, 4, 5, 1, 2, 2, 3, 2, 3, 3, 4, 2, 3, 3, 4, 3, 4, 4, 5, 2, 3, 3, 4, 3, 4, 4, 5, 3, 4, 4, 5, 4, 5, 5, 6, 1, 2, 2, 3, 2, 3, 3, 4, 2, 3, 3, 4, 3, 4, 4, 5, 2, 3, 3, 4, 3, 4, 4, 5, 3, 4, 4, 5, 4, 5, 5, 6, 2, 3, 3, 4, 3, 4, 4, 5, 3, 4, 4, 5, 4, 5, 5, 6, 3, 4, 4, 5, 4, 5, 5, 6, 4, 5, 5, 6, 5, 6, 6, 7, 1, 2, 2, 3, 2, 3, 3, 4, 2, 3, 3, 4, 3, 4, 4, 5, 2, 3, 3, 4, 3, 4, 4, 5, 3, 4, 4, 5, 4, 5, 5, 6, 2, 3, 3, 4, 3, 4, 4, 5, 3, 4, 4, 5, 4, 5, 5, 6, 3, 4, 4, 5, 4, 5, 5, 6, 4, 5, 5, 6, 5, 6, 6, 7, 2, 3, 3, 4, 3, 4, 4, 5, 3, 4, 4, 5, 4, 5, 5, 6, 3, 4, 4, 5, 4, 5, 5, 6, 4, 5, 5, 6, 5, 6, 6, 7, 3, 4, 4, 5, 4, 5, 5, 6, 4, 5, 5, 6, 5, 6, 6, 7, 4, 5, 5, 6, 5, 6, 6, 7, 5, 6, 6, 7, 6, 7, 7, 8]))))) (some (wrapI .i64 (addI .u8 (addI .u8 (addI .u8 (getS (ByteArray.mk #[0, 1, 1, 2, 1, 2, 2, 3, 1, 2, 2, 3, 2, 3, 3, 4, 1, 2, 2, 3, 2, 3, 3, 4, 2, 3, 3, 4, 3, 4, 4, 5, 1, 2, 2, 3, 2, 3, 3, 4, 2, 3, 3, 4, 3, 4, 4, 5, 2, 3, 3, 4, 3, 4, 4, 5, 3, 4, 4, 5, 4, 5, 5, 6, 1, 2, 2, 3, 2, 3, 3, 4, 2, 3, 3, 4, 3, 4, 4, 5, 2, 3, 3, 4, 3, 4, 4, 5, 3, 4, 4, 5, 4, 5, 5, 6, 2, 3, 3, 4, 3, 4, 4, 5, 3, 4, 4, 5, 4, 5, 5, 6, 3, 4, 4, 5, 4, 5, 5, 6, 4, 5, 5, 6, 5, 6, 6, 7, 1, 2, 2, 3, 2, 3, 3, 4, 2, 3, 3, 4, 3, 4, 4, 5, 2, 3, 3, 4, 3, 4, 4, 5, 3, 4, 4, 5, 4, 5, 5, 6, 2, 3, 3, 4, 3, 4, 4, 5, 3, 4, 4, 5, 4, 5, 5, 6, 3, 4, 4, 5, 4, 5, 5, 6, 4, 5, 5, 6, 5, 6, 6, 7, 2, 3, 3, 4, 3, 4, 4, 5, 3, 4, 4, 5, 4, 5, 5, 6, 3, 4, 4, 5, 4, 5, 5, 6, 4, 5, 5, 6, 5, 6, 6, 7, 3, 4, 4, 5, 4, 5, 5, 6, 4, 5, 5, 6, 5, 6, 6, 7, 4, 5, 5, 6, 5, 6, 6, 7, 5, 6, 6, 7, 6, 7, 7, 8]) (toN (shrI .u32 a0 (24 : Int)))) (getS (ByteArray.mk #[0, 1, 1, 2, 1, 2, 2, 3, 1, 2, 2, 3, 2, 3, 3, 4, 1, 2, 2, 3, 2, 3, 3, 4, 2, 3, 3, 4, 3, 4, 4, 5, 1, 2, 2, 3, 2, 3, 3, 4, 2, 3, 3, 4, 3, 4, 4, 5, 2, 3, 3, 4, 3, 4, 4, 5, 3, 4, 4, 5, 4, 5, 5, 6, 1, 2, 2, 3, 2, 3, 3, 4, 2, 3, 3, 4, 3, 4, 4, 5, 2, 3, 3, 4, 3, 4, 4, 5, 3, 4, 4, 5, 4, 5, 5, 6, 2, 3, 3, 4, 3, 4, 4, 5, 3, 4, 4, 5, 4, 5, 5, 6, 3, 4, 4, 5, 4, 5, 5, 6, 4, 5, 5, 6, 5, 6, 6, 7, 1, 2, 2, 3, 2, 3, 3, 4, 2, 3, 3, 4, 3, 4, 4, 5, 2, 3, 3, 4, 3, 4, 4, 5, 3, 4, 4, 5, 4, 5, 5, 6, 2, 3, 3, 4, 3, 4, 4, 5, 3, 4, 4, 5, 4, 5, 5, 6, 3, 4, 4, 5, 4, 5, 5, 6, 4, 5, 5, 6, 5, 6, 6, 7, 2, 3, 3, 4, 3, 4, 4, 5, 3, 4, 4, 5, 4, 5, 5, 6, 3, 4, 4, 5, 4, 5, 5, 6, 4, 5, 5, 6, 5, 6, 6, 7, 3, 4, 4, 5, 4, 5, 5, 6, 4, 5, 5, 6, 5, 6, 6, 7, 4, 5, 5, 6, 5, 6, 6, 7, 5, 6, 6, 7, 6, 7, 7, 8]) (toN (andI .u32 (shrI .u32 a0 (16 : Int)) (255 : Int))))) (getS (ByteArray.mk #[0, 1, 1, 2, 1, 2, 2, 3, 1, 2, 2, 3, 2, 3, 3, 4, 1, 2, 2, 3, 2, 3, 3, 4, 2, 3, 3, 4, 3, 4, 4, 5, 1, 2, 2, 3, 2, 3, 3, 4, 2, 3, 3, 4, 3, 4, 4, 5, 2, 3, 3, 4, 3, 4, 4, 5, 3, 4, 4, 5, 4, 5, 5, 6, 1, 2, 2, 3, 2, 3, 3, 4, 2, 3, 3, 4, 3, 4, 4, 5, 2, 3, 3, 4, 3, 4, 4, 5, 3, 4, 4, 5, 4, 5, 5, 6, 2, 3, 3, 4, 3, 4, 4, 5, 3, 4, 4, 5, 4, 5, 5, 6, 3, 4, 4, 5, 4, 5, 5, 6, 4, 5, 5, 6, 5, 6, 6, 7, 1, 2, 2, 3, 2, 3, 3, 4, 2, 3, 3, 4, 3, 4, 4, 5, 2, 3, 3, 4, 3, 4, 4, 5, 3, 4, 4, 5, 4, 5, 5, 6, 2, 3, 3, 4, 3, 4, 4, 5, 3, 4, 4, 5, 4, 5, 5, 6, 3, 4, 4, 5, 4, 5, 5, 6, 4, 5, 5, 6, 5, 6, 6, 7, 2, 3, 3, 4, 3, 4, 4, 5, 3, 4, 4, 5, 4, 5, 5, 6, 3, 4, 4, 5, 4, 5, 5, 6, 4, 5, 5, 6, 5, 6, 6, 7, 3, 4, 4, 5, 4, 5, 5, 6, 4, 5, 5, 6, 5, 6, 6, 7, 4, 5, 5, 6, 5, 6, 6, 7, 5, 6, 6, 7, 6, 7, 7, 8]) (toN (andI .u32 (shrI .u32 a0 (8 : Int)) (255 : Int))))) (getS (ByteArray.mk #[0, 1, 1, 2, 1, 2, 2, 3, 1, 2, 2, 3, 2, 3, 3, 4, 1, 2, 2, 3, 2, 3, 3, 4, 2, 3, 3, 4, 3, 4, 4, 5, 1, 2, 2, 3, 2, 3, 3, 4, 2, 3, 3, 4, 3, 4, 4, 5, 2, 3, 3, 4, 3, 4, 4, 5, 3, 4, 4, 5, 4, 5, 5, 6, 1, 2, 2, 3, 2, 3, 3, 4, 2, 3, 3, 4, 3, 4, 4, 5, 2, 3, 3, 4, 3, 4, 4, 5, 3, 4, 4, 5, 4, 5, 5, 6, 2, 3, 3, 4, 3, 4, 4, 5, 3, 4, 4, 5, 4, 5, 5, 6, 3, 4, 4, 5, 4, 5, 5, 6, 4, 5, 5, 6, 5, 6, 6, 7, 1, 2, 2, 3, 2, 3, 3, 4, 2, 3, 3, 4, 3, 4, 4, 5, 2, 3, 3, 4, 3, 4, 4, 5, 3, 4, 4, 5, 4, 5, 5, 6, 2, 3, 3, 4, 3, 4, 4, 5, 3, 4, 4, 5, 4, 5, 5, 6, 3, 4, 4, 5, 4, 5, 5, 6, 4, 5, 5, 6, 5, 6, 6, 7, 2, 3, 3, 4, 3, 4, 4, 5, 3, 4, 4, 5, 4, 5, 5, 6, 3, 4, 4, 5, 4, 5, 5, 6, 4, 5, 5, 6, 5, 6, 6, 7, 3, 4, 4, 5, 4, 5, 5, 6, 4, 5, 5, 6, 5, 6, 6, 7, 4, 5, 5, 6, 5, 6, 6, 7, 5, 6, 6, 7, 6, 7, 7, 8]) (toN (andI .u32 a0 (255 : Int))))))) none) none) none) none) none) none) none :=
  (callW_eq (P := PP) (T := TT) (pr := RR) 107 [⟨(.int .u32), a0⟩] [] (.int .i64) []).trans (by kernel_rfl)
theorem hash_within.eq (a0 : den (.int .i64)) : hash_within a0 =
  some (minI (maxI a0 (0 : Int)) (64 : Int)) :=
  (callW_eq (P := PP) (T := TT) (pr := RR) 101 [⟨(.int .i64), a0⟩] [] (.int .i64) []).trans (by kernel_rfl)
theorem ref06_Has.eq (a0 : den (.int .u32)) (a1 : den (.int .i64)) : ref06_Has a0 a1 =
  ref06_Has.l0 a0 a1 (0 : Int) :=
  (callW_eq (P := PP) (T := TT) (pr := RR) 112 [⟨(.int .u32), a0⟩, ⟨(.int .i64), a1⟩] [] .bool []).trans (by kernel_rfl)
theorem ref06_Has.l0.eq (x0 : den (.int .u32)) (x1 : den (.int .i64)) (x2 : den (.int .i64)) : ref06_Has.l0 x0 x1 x2 =
  br (ltI x2 (32 : Int))
   (br (notB (eqI (2 : Int) (0 : Int))) (br (eqI (remI x0 (2 : Int)) (1 : Int))
    (br (eqI x2 x1)
     (some true)
     (br (notB (eqI (2 : Int) (0 : Int))) (ref06_Has.l0 (quoI .u32 x0 (2 : Int)) x1 (addI .i64 x2 (1 : Int))) none))
    (br (notB (eqI (2 : Int) (0 : Int))) (ref06_Has.l0 (quoI .u32 x0 (2 : Int)) x1 (addI .i64 x2 (1 : Int))) none)) none)
   (some false) :=
  (loopB_eq (P := PP) (T := TT) (C := CF) [1, 0, 1, 0, 0] [1, 0, 1, 0, 0] 112 0 ⟨[(0, ⟨(.int .u32), x0⟩), (1, ⟨(.int .i64), x1⟩), (5, ⟨(.int .i64), x2⟩)], []⟩ (blockK 0 (seqK false [1, 1] (BF 112 0 [1, 1]) (finF 112 .bool [] 0)))).trans (by kernel_rfl)
theorem ref04_bit.eq (a0 : den (.int .u64)) (a1 : den (.int .i64)) : ref04_bit a0 a1 =
  ref04_bit.l0 a0 a1 (0 : Int) :=
  (callW_eq (P := PP) (T := TT) (pr := RR) 113 [⟨(.int .u64), a0⟩, ⟨(.int .i64), a1⟩] [] (.int .i64) []).trans (by kernel_rfl)
theorem ref04_bit.l0.eq (x0 : den (.int .u64)) (x1 : den (.int .i64)) (x2 : den (.int .i64)) : ref04_bit.l0 x0 x1 x2 =
  br (ltI x2 x1)
   (br (notB (eqI (2 : Int) (0 : Int))) (ref04_bit.l0 (quoI .u64 x0 (2 : Int)) x1 (addI .i64 x2 (1 : Int))) none)
   (br (notB (eqI (2 : Int) (0 : Int))) (some (wrapI .i64 (remI x0 (2 : Int)))) none) :=
  (loopB_eq (P := PP) (T := TT) (C := CF) [1, 0, 1, 0, 0] [1, 0, 1, 0, 0] 113 0 ⟨[(0, ⟨(.int .u64), x0⟩), (1, ⟨(.int .i64), x1⟩), (5, ⟨(.int .i64), x2⟩)], []⟩ (blockK 0 (seqK false [1, 1] (BF 113 0 [1, 1]) (finF 113 (.int .i64) [] 0)))).trans (by kernel_rfl)
theorem ref06_Make.eq (a0 : den (.list (.int .i64))) : ref06_Make a0 =
  ref06_Make.l0 a0 (0 : Int) (1 : Int) (0 : Int) :=
  (callW_eq (P := PP) (T := TT) (pr := RR) 114 [⟨(.list (.int .i64)), a0⟩] [] (.int .u32) []).trans (by kernel_rfl)
theorem ref06_Make.l0.eq (x0 : den (.list (.int .i64))) (x1 : den (.int .u32)) (x2 : den (.int .u32)) (x3 : den (.int .i64)) : ref06_Make.l0 x0 x1 x2 x3 =
  br (ltI x3 (32 : Int))
   (ref06_Make.l1 x0 x1 x2 x3 false (0 : Int))
   (some x1) :=
  (loopB_eq (P := PP) (T := TT) (C := CF) [1, 1, 0, 1, 0, 0] [1, 1, 0, 1, 0, 0] 114 0 ⟨[(0, ⟨(.list (.int .i64)), x0⟩), (3, ⟨(.int .u32), x1⟩), (4, ⟨(.int .u32), x2⟩), (5, ⟨(.int .i64), x3⟩)], []⟩ (blockK 0 (seqK false [1, 1, 1] (BF 114 0 [1, 1, 1]) (finF 114 (.int .u32) [] 0)))).trans (by kernel_rfl)
theorem ref06_Make.l1.eq (x0 : den (.list (.int .i64))) (x1 : den (.int .u32)) (x2 : den (.int .u32)) (x3 : den (.int .i64)) (x4 : den .bool) (x5 : den (.int .i64)) : ref06_Make.l1 x0 x1 x2 x3 x4 x5 =
  br (ltI x5 (ofN (lenL (.int .i64) x0)))
   (br x4
    (ref06_Make.l1 x0 x1 x2 x3 true (addI .i64 x5 (1 : Int)))
    (br (andB (leI (0 : Int) x5) (ltI x5 (ofN (lenL (.int .i64) x0)))) (ref06_Make.l1 x0 x1 x2 x3 (eqI (ixL (.int .i64) x0 x5) x3) (addI .i64 x5 (1 : Int))) none))
   (br x4
    (ref06_Make.l0 x0 (addI .u32 x1 x2) (mulI .u32 (2 : Int) x2) (addI .i64 x3 (1 : Int)))
    (ref06_Make.l0 x0 x1 (mulI .u32 (2 : Int) x2) (addI .i64 x3 (1 : Int)))) :=
  (loopB_eq (P := PP) (T := TT) (C := CF) [1, 1, 0, 1, 0, 0, 1, 0, 0, 1, 0, 1, 0, 0] [1, 1, 0, 1, 0, 0, 1, 0, 0, 1, 0, 1, 0, 0] 114 0 ⟨[(0, ⟨(.list (.int .i64)), x0⟩), (3, ⟨(.int .u32), x1⟩), (4, ⟨(.int .u32), x2⟩), (5, ⟨(.int .i64), x3⟩), (6, ⟨.bool, x4⟩), (7, ⟨(.int .i64), x5⟩)], []⟩ (blockK 2 (seqK false [1, 1, 0, 1, 0, 0, 1, 0, 0, 1, 1] (BF 114 0 [1, 1, 0, 1, 0, 0, 1, 0, 0, 1, 1]) (blockK 1 (seqK false [1, 1, 0, 1, 0, 0, 1, 1] (BF 114 0 [1, 1, 0, 1, 0, 0, 1, 1]) (againK [1, 1, 0, 1, 0, 0] (loopW [1, 1, 0, 1, 0, 0] (BF 114 0 [1, 1, 0, 1, 0, 0])) (blockK 0 (seqK false [1, 1, 1] (BF 114 0 [1, 1, 1]) (finF 114 (.int .u32) [] 0))))))))).trans (by kernel_rfl)
theorem node_Branch.eq (a0 : den (.int .u32)) (a1 : den (.list (.int .i64))) (a2 : den (.int .i64)) : node_Branch a0 a1 a2 =
  bnd (slices_Cloneapi_Ref_api_Ref a1) fun r0 =>
  some ((2 : Int), (ByteArray.empty, (ByteArray.empty, (a0, (r0.2.1, ((0 : Int), ([], (a2, ((0 : Int), ()))))))))) :=
  (callW_eq (P := PP) (T := TT) (pr := RR) 45 [⟨(.int .u32), a0⟩, ⟨(.list (.int .i64)), a1⟩, ⟨(.int .i64), a2⟩] [] tapiNode []).trans (by kernel_rfl)
theorem node_Tree.eq (a0 : den .str) (a1 : den .str) (a2 : den (.int .i64)) (a3 : den (.int .i64)) (a4 : den (.int .i64)) : node_Tree a0 a1 a2 a3 a4 =
  some ((4 : Int), (a0, (a1, ((0 : Int), ((a2 :: (a3 :: [])), ((0 : Int), ([], (a4, ((0 : Int), ()))))))))) :=
  (callW_eq (P := PP) (T := TT) (pr := RR) 115 [⟨.str, a0⟩, ⟨.str, a1⟩, ⟨(.int .i64), a2⟩, ⟨(.int .i64), a3⟩, ⟨(.int .i64), a4⟩] [] tapiNode []).trans (by kernel_rfl)
theorem node_long_1.eq (a0 : den tapiPair) : node_long_1 a0 =
  br (ltI (16 : Int) (ofN (lenS a0.1)))
   (some true)
   (some (ltI (16 : Int) (ofN (lenS a0.2.1)))) :=
  (callW_eq (P := PP) (T := TT) (pr := RR) 116 [⟨tapiPair, a0⟩] [] .bool []).trans (by kernel_rfl)
theorem slices_ContainsFuncapi_Pair_api_Pair.eq (a0 : den (.list tapiPair)) : slices_ContainsFuncapi_Pair_api_Pair a0 =
  bnd (slices_IndexFuncapi_Pair_api_Pair a0) fun r0 =>
  some (leI (0 : Int) r0) :=
  (callW_eq (P := PP) (T := TT) (pr := RR) 117 [⟨(.list tapiPair), a0⟩, ⟨(.fn 116 .tnil), ()⟩] [] .bool []).trans (by kernel_rfl)
theorem slices_Equalapi_Ref_api_Ref.eq (a0 : den (.list (.int .i64))) (a1 : den (.list (.int .i64))) : slices_Equalapi_Ref_api_Ref a0 a1 =
  br (notB (eqI (ofN (lenL (.int .i64) a0)) (ofN (lenL (.int .i64) a1))))
   (some false)
   (slices_Equalapi_Ref_api_Ref.l0 a0 a1 (ofN (lenL (.int .i64) a0)) (0 : Int)) :=
  (callW_eq (P := PP) (T := TT) (pr := RR) 118 [⟨(.list (.int .i64)), a0⟩, ⟨(.list (.int .i64)), a1⟩] [] .bool []).trans (by kernel_rfl)
theorem slices_Equalapi_Ref_api_Ref.l0.eq (x0 : den (.list (.int .i64))) (x1 : den (.list (.int .i64))) (x2 : den (.int .i64)) (x3 : den (.int .i64)) : slices_Equalapi_Ref_api_Ref.l0 x0 x1 x2 x3 =
  br (ltI x3 x2)
   (br (andB (leI (0 : Int) x3) (ltI x3 (ofN (lenL (.int .i64) x0)))) (br (andB (leI (0 : Int) x3) (ltI x3 (ofN (lenL (.int .i64) x1)))) (br (notB (eqI (ixL (.int .i64) x0 x3) (ixL (.int .i64) x1 x3)))
    (some false)
    (slices_Equalapi_Ref_api_Ref.l0 x0 x1 x2 (addI .i64 x3 (1 : Int)))) none) none)
   (some true) :=
  (loopB_eq (P := PP) (T := TT) (C := CF) [1, 1, 0, 1, 0, 0] [1, 1, 0, 1, 0, 0] 118 0 ⟨[(0, ⟨(.list (.int .i64)), x0⟩), (1, ⟨(.list (.int .i64)), x1⟩), (12, ⟨(.int .i64), x2⟩), (13, ⟨(.int .i64), x3⟩)], []⟩ (blockK 0 (seqK false [1, 1, 1] (BF 118 0 [1, 1, 1]) (finF 118 .bool [] 0)))).trans (by kernel_rfl)
theorem slices_Equalapi_Pair_api_Pair.eq (a0 : den (.list tapiPair)) (a1 : den (.list tapiPair)) : slices_Equalapi_Pair_api_Pair a0 a1 =
  br (notB (eqI (ofN (lenL tapiPair a0)) (ofN (lenL tapiPair a1))))
   (some false)
   (slices_Equalapi_Pair_api_Pair.l0 a0 a1 (ofN (lenL tapiPair a0)) (0 : Int)) :=
  (callW_eq (P := PP) (T := TT) (pr := RR) 119 [⟨(.list tapiPair), a0⟩, ⟨(.list tapiPair), a1⟩] [] .bool []).trans (by kernel_rfl)
theorem slices_Equalapi_Pair_api_Pair.l0.eq (x0 : den (.list tapiPair)) (x1 : den (.list tapiPair)) (x2 : den (.int .i64)) (x3 : den (.int .i64)) : slices_Equalapi_Pair_api_Pair.l0 x0 x1 x2 x3 =
  br (ltI x3 x2)
   (br (andB (leI (0 : Int) x3) (ltI x3 (ofN (lenL tapiPair x0)))) (br (andB (leI (0 : Int) x3) (ltI x3 (ofN (lenL tapiPair x1)))) (br (notB (andB (eqS (ixL tapiPair x0 x3).1 (ixL tapiPair x1 x3).1) (andB (eqS (ixL tapiPair x0 x3).2.1 (ixL tapiPair x1 x3).2.1) true)))
    (some false)
    (slices_Equalapi_Pair_api_Pair.l0 x0 x1 x2 (addI .i64 x3 (1 : Int)))) none) none)
   (some true) :=
  (loopB_eq (P := PP) (T := TT) (C := CF) [1, 1, 0, 1, 0, 0] [1, 1, 0, 1, 0, 0] 119 0 ⟨[(0, ⟨(.list tapiPair), x0⟩), (1, ⟨(.list tapiPair), x1⟩), (12, ⟨(.int .i64), x2⟩), (13, ⟨(.int .i64), x3⟩)], []⟩ (blockK 0 (seqK false [1, 1, 1] (BF 119 0 [1, 1, 1]) (finF 119 .bool [] 0)))).trans (by kernel_rfl)
theorem mask_Count.eq (a0 : den (.int .u32)) : mask_Count a0 =
  bnd (math_bits_OnesCount32 a0) fun r0 =>
  some r0 :=
  (callW_eq (P := PP) (T := TT) (pr := RR) 120 [⟨(.int .u32), a0⟩] [] (.int .i64) []).trans (by kernel_rfl)
theorem slices_Containsapi_Ref_api_Ref.eq (a0 : den (.list (.int .i64))) (a1 : den (.int .i64)) : slices_Containsapi_Ref_api_Ref a0 a1 =
  bnd (slices_Indexapi_Ref_api_Ref a0 a1) fun r0 =>
  some (leI (0 : Int) r0) :=
  (callW_eq (P := PP) (T := TT) (pr := RR) 121 [⟨(.list (.int .i64)), a0⟩, ⟨(.int .i64), a1⟩] [] .bool []).trans (by kernel_rfl)
theorem plan_May_1.eq (a0 : den (.int .i64)) (a1 : denO (.box (.int .i64))) : plan_May_1 a0 a1 =
  bnd (plan_ahead a0 a1) fun r0 =>
  some ((notB r0), (a1, ())) :=
  (callW_eq (P := PP) (T := TT) (pr := RR) 54 [⟨(.int .i64), a0⟩, ⟨(.ptr 0 0), ()⟩] [⟨(.box (.int .i64)), a1⟩] .bool [(.box (.int .i64))]).trans (by kernel_rfl)
theorem ref_Kind.eq (a0 : den (.int .i64)) : ref_Kind a0 =
  br (eqI a0 (0 : Int))
   (some (0 : Int))
   (br (ltI a0 (0 : Int))
    (some (2 : Int))
    (br (notB (eqI (1024 : Int) (0 : Int))) (br (notB (eqI (1024 : Int) (0 : Int))) (bnd (ref_Make (remI a0 (1024 : Int)) (quoI .i64 a0 (1024 : Int))) fun r0 =>
    br (notB (eqI r0.2.1 (0 : Int)))
     (some (3 : Int))
     (some (1 : Int))) none) none)) :=
  (callW_eq (P := PP) (T := TT) (pr := RR) 122 [⟨(.int .i64), a0⟩] [] (.int .i64) []).trans (by kernel_rfl)
theorem plan_May_2.eq (a0 : den (.int .i64)) : plan_May_2 a0 =
  some (leI a0 (0 : Int)) :=
  (callW_eq (P := PP) (T := TT) (pr := RR) 56 [⟨(.int .i64), a0⟩] [] .bool []).trans (by kernel_rfl)
theorem slices_BinarySearchFuncapi_Pair_api_Pair_string.eq (a0 : den (.list tapiPair)) (a1 : den .str) : slices_BinarySearchFuncapi_Pair_api_Pair_string a0 a1 =
  slices_BinarySearchFuncapi_Pair_api_Pair_string.l0 a0 a1 (ofN (lenL tapiPair a0)) (0 : Int) (ofN (lenL tapiPair a0)) :=
  (callW_eq (P := PP) (T := TT) (pr := RR) 123 [⟨(.list tapiPair), a0⟩, ⟨.str, a1⟩, ⟨(.fn 124 .tnil), ()⟩] [] (.tcons (.int .i64) (.tcons .bool .tnil)) []).trans (by kernel_rfl)
theorem slices_BinarySearchFuncapi_Pair_api_Pair_string.l0.eq (x0 : den (.list tapiPair)) (x1 : den .str) (x2 : den (.int .i64)) (x3 : den (.int .i64)) (x4 : den (.int .i64)) : slices_BinarySearchFuncapi_Pair_api_Pair_string.l0 x0 x1 x2 x3 x4 =
  br (ltI x3 x4)
   (br (leI (0 : Int) (1 : Int)) (br (andB (leI (0 : Int) (wrapI .i64 (shrI .u64 (wrapI .u64 (addI .i64 x3 x4)) (1 : Int)))) (ltI (wrapI .i64 (shrI .u64 (wrapI .u64 (addI .i64 x3 x4)) (1 : Int))) (ofN (lenL tapiPair x0)))) (bnd (pair_place_1 (ixL tapiPair x0 (wrapI .i64 (shrI .u64 (wrapI .u64 (addI .i64 x3 x4)) (1 : Int)))) x1) fun r0 =>
   br (ltI r0 (0 : Int))
    (slices_BinarySearchFuncapi_Pair_api_Pair_string.l0 x0 x1 x2 (addI .i64 (wrapI .i64 (shrI .u64 (wrapI .u64 (addI .i64 x3 x4)) (1 : Int))) (1 : Int)) x4)
    (slices_BinarySearchFuncapi_Pair_api_Pair_string.l0 x0 x1 x2 x3 (wrapI .i64 (shrI .u64 (wrapI .u64 (addI .i64 x3 x4)) (1 : Int))))) none) none)
   (br (ltI x3 x2)
    (br (andB (leI (0 : Int) x3) (ltI x3 (ofN (lenL tapiPair x0)))) (bnd (pair_place_1 (ixL tapiPair x0 x3) x1) fun r1 =>
    some (x3, ((eqI r1 (0 : Int)), ()))) none)
    (some (x3, (false, ())))) :=
  (loopB_eq (P := PP) (T := TT) (C := CF) [1, 1, 1, 0, 0, 0] [1, 1, 1, 0, 0, 0] 123 0 ⟨[(0, ⟨(.list tapiPair), x0⟩), (1, ⟨.str, x1⟩), (2, ⟨(.fn 124 .tnil), ()⟩), (8, ⟨(.int .i64), x2⟩), (9, ⟨(.int .i64), x3⟩), (10, ⟨(.int .i64), x4⟩)], []⟩ (blockK 0 (seqK false [1, 1, 1, 1] (BF 123 0 [1, 1, 1, 1]) (finF 123 (.tcons (.int .i64) (.tcons .bool .tnil)) [] 0)))).trans (by kernel_rfl)
theorem ref13_SameRefs.eq (a0 : den (.list (.int .i64))) (a1 : den (.list (.int .i64))) : ref13_SameRefs a0 a1 =
  br (notB (eqI (ofN (lenL (.int .i64) a0)) (ofN (lenL (.int .i64) a1))))
   (some false)
   (ref13_SameRefs.l0 a0 a1 (0 : Int)) :=
  (callW_eq (P := PP) (T := TT) (pr := RR) 126 [⟨(.list (.int .i64)), a0⟩, ⟨(.list (.int .i64)), a1⟩] [] .bool []).trans (by kernel_rfl)
theorem ref13_SameRefs.l0.eq (x0 : den (.list (.int .i64))) (x1 : den (.list (.int .i64))) (x2 : den (.int .i64)) : ref13_SameRefs.l0 x0 x1 x2 =
  br (ltI x2 (ofN (lenL (.int .i64) x0)))
   (br (andB (leI (0 : Int) x2) (ltI x2 (ofN (lenL (.int .i64) x0)))) (br (andB (leI (0 : Int) x2) (ltI x2 (ofN (lenL (.int .i64) x1)))) (br (notB (eqI (ixL (.int .i64) x0 x2) (ixL (.int .i64) x1 x2)))
    (some false)
    (ref13_SameRefs.l0 x0 x1 (addI .i64 x2 (1 : Int)))) none) none)
   (some true) :=
  (loopB_eq (P := PP) (T := TT) (C := CF) [1, 1, 0, 1, 0, 0] [1, 1, 0, 1, 0, 0] 126 0 ⟨[(0, ⟨(.list (.int .i64)), x0⟩), (1, ⟨(.list (.int .i64)), x1⟩), (5, ⟨(.int .i64), x2⟩)], []⟩ (blockK 0 (seqK false [1, 1, 1] (BF 126 0 [1, 1, 1]) (finF 126 .bool [] 0)))).trans (by kernel_rfl)
theorem order_Compare.eq (a0 : den .str) (a1 : den .str) : order_Compare a0 a1 =
  bnd (order_Common a0 a1) fun r0 =>
  br (eqI r0 (ofN (lenS a0)))
   (order_Compare.j0 a0 a1 r0 (eqI r0 (ofN (lenS a1))))
   (order_Compare.j0 a0 a1 r0 false) :=
  (callW_eq (P := PP) (T := TT) (pr := RR) 125 [⟨.str, a0⟩, ⟨.str, a1⟩] [] (.int .i64) []).trans (by kernel_rfl)
theorem order_Compare.j0.eq (x0 : den .str) (x1 : den .str) (x2 : den (.int .i64)) (x3 : den .bool) : order_Compare.j0 x0 x1 x2 x3 =
  br x3
   (some (0 : Int))
   (br (eqI x2 (ofN (lenS x0)))
    (some (-1 : Int))
    (br (eqI x2 (ofN (lenS x1)))
     (some (1 : Int))
     (br (andB (leI (0 : Int) x2) (ltI x2 (ofN (lenS x0)))) (br (andB (leI (0 : Int) x2) (ltI x2 (ofN (lenS x1)))) (br (ltI (getS x1 (toN x2)) (getS x0 (toN x2)))
      (some (1 : Int))
      (some (-1 : Int))) none) none))) :=
  (congrFun (congrFun (jnO_eq [1, 1, 0, 0, 1] (BF (R := den (.int .i64)) 125 0 [1, 1, 0, 0, 1])) ⟨[(0, ⟨.str, x0⟩), (1, ⟨.str, x1⟩), (5, ⟨(.int .i64), x2⟩), (9, ⟨.bool, x3⟩)], []⟩) (blockK 0 (seqK false [1, 1, 1] (BF 125 0 [1, 1, 1]) (finF 125 (.int .i64) [] 0)))).trans (by kernel_rfl)
theorem slices_IndexFuncapi_Pair_api_Pair.eq (a0 : den (.list tapiPair)) : slices_IndexFuncapi_Pair_api_Pair a0 =
  slices_IndexFuncapi_Pair_api_Pair.l0 a0 (ofN (lenL tapiPair a0)) (0 : Int) :=
  (callW_eq (P := PP) (T := TT) (pr := RR) 130 [⟨(.list tapiPair), a0⟩, ⟨(.fn 116 .tnil), ()⟩] [] (.int .i64) []).trans (by kernel_rfl)
theorem slices_IndexFuncapi_Pair_api_Pair.l0.eq (x0 : den (.list tapiPair)) (x1 : den (.int .i64)) (x2 : den (.int .i64)) : slices_IndexFuncapi_Pair_api_Pair.l0 x0 x1 x2 =
  br (ltI x2 x1)
   (br (andB (leI (0 : Int) x2) (ltI x2 (ofN (lenL tapiPair x0)))) (bnd (node_long_1 (ixL tapiPair x0 x2)) fun r0 =>
   br r0
    (some x2)
    (slices_IndexFuncapi_Pair_api_Pair.l0 x0 x1 (addI .i64 x2 (1 : Int)))) none)
   (some (-1 : Int)) :=
  (loopB_eq (P := PP) (T := TT) (C := CF) [1, 0, 1, 0, 0] [1, 0, 1, 0, 0] 130 0 ⟨[(0, ⟨(.list tapiPair), x0⟩), (1, ⟨(.fn 116 .tnil), ()⟩), (7, ⟨(.int .i64), x1⟩), (8, ⟨(.int .i64), x2⟩)], []⟩ (blockK 0 (seqK false [1, 1] (BF 130 0 [1, 1]) (finF 130 (.int .i64) [] 0)))).trans (by kernel_rfl)
theorem slices_Indexapi_Ref_api_Ref.eq (a0 : den (.list (.int .i64))) (a1 : den (.int .i64)) : slices_Indexapi_Ref_api_Ref a0 a1 =
  slices_Indexapi_Ref_api_Ref.l0 a0 a1 (ofN (lenL (.int .i64) a0)) (0 : Int) :=
  (callW_eq (P := PP) (T := TT) (pr := RR) 131 [⟨(.list (.int .i64)), a0⟩, ⟨(.int .i64), a1⟩] [] (.int .i64) []).trans (by kernel_rfl)
theorem slices_Indexapi_Ref_api_Ref.l0.eq (x0 : den (.list (.int .i64))) (x1 : den (.int .i64)) (x2 : den (.int .i64)) (x3 : den (.int .i64)) : slices_Indexapi_Ref_api_Ref.l0 x0 x1 x2 x3 =
  br (ltI x3 x2)
   (br (andB (leI (0 : Int) x3) (ltI x3 (ofN (lenL (.int .i64) x0)))) (br (eqI x1 (ixL (.int .i64) x0 x3))
    (some x3)
    (slices_Indexapi_Ref_api_Ref.l0 x0 x1 x2 (addI .i64 x3 (1 : Int)))) none)
   (some (-1 : Int)) :=
  (loopB_eq (P := PP) (T := TT) (C := CF) [1, 0, 1, 0, 0] [1, 0, 1, 0, 0] 131 0 ⟨[(0, ⟨(.list (.int .i64)), x0⟩), (1, ⟨(.int .i64), x1⟩), (7, ⟨(.int .i64), x2⟩), (8, ⟨(.int .i64), x3⟩)], []⟩ (blockK 0 (seqK false [1, 1] (BF 131 0 [1, 1]) (finF 131 (.int .i64) [] 0)))).trans (by kernel_rfl)
theorem ref_Make.eq (a0 : den (.int .i64)) (a1 : den (.int .i64)) : ref_Make a0 a1 =
  br (ltI a0 (1 : Int))
   (some ((0 : Int), ((2 : Int), ())))
   (br (ltI (1000 : Int) a0)
    (some ((0 : Int), ((2 : Int), ())))
    (br (ltI a1 (1 : Int))
     (some ((0 : Int), ((8 : Int), ())))
     (br (ltI (4503599627370496 : Int) a1)
      (some ((0 : Int), ((8 : Int), ())))
      (some ((addI .i64 (mulI .i64 a1 (1024 : Int)) a0), ((0 : Int), ())))))) :=
  (callW_eq (P := PP) (T := TT) (pr := RR) 132 [⟨(.int .i64), a0⟩, ⟨(.int .i64), a1⟩] [] (.tcons (.int .i64) (.tcons (.int .i64) .tnil)) []).trans (by kernel_rfl)
theorem pair_place_1.eq (a0 : den tapiPair) (a1 : den .str) : pair_place_1 a0 a1 =
  bnd (order_Compare a0.1 a1) fun r0 =>
  some r0 :=
  (callW_eq (P := PP) (T := TT) (pr := RR) 124 [⟨tapiPair, a0⟩, ⟨.str, a1⟩] [] (.int .i64) []).trans (by kernel_rfl)
theorem order_Common.eq (a0 : den .str) (a1 : den .str) : order_Common a0 a1 =
  order_Common.l0 a0 a1 (minI (ofN (lenS a0)) (ofN (lenS a1))) (minI (ofN (lenS a0)) (ofN (lenS a1))) (0 : Int) :=
  (callW_eq (P := PP) (T := TT) (pr := RR) 133 [⟨.str, a0⟩, ⟨.str, a1⟩] [] (.int .i64) []).trans (by kernel_rfl)
theorem order_Common.l0.eq (x0 : den .str) (x1 : den .str) (x2 : den (.int .i64)) (x3 : den (.int .i64)) (x4 : den (.int .i64)) : order_Common.l0 x0 x1 x2 x3 x4 =
  br (ltI x4 x3)
   (br (andB (leI (0 : Int) x4) (ltI x4 (ofN (lenS x0)))) (br (andB (leI (0 : Int) x4) (ltI x4 (ofN (lenS x1)))) (br (notB (eqI (getS x0 (toN x4)) (getS x1 (toN x4))))
    (some x4)
    (order_Common.l0 x0 x1 x2 x3 (addI .i64 x4 (1 : Int)))) none) none)
   (some x2) :=
  (loopB_eq (P := PP) (T := TT) (C := CF) [1, 1, 0, 1, 0, 0] [1, 1, 0, 1, 0, 0] 133 0 ⟨[(0, ⟨.str, x0⟩), (1, ⟨.str, x1⟩), (5, ⟨(.int .i64), x2⟩), (12, ⟨(.int .i64), x3⟩), (13, ⟨(.int .i64), x4⟩)], []⟩ (blockK 0 (seqK false [1, 1, 1] (BF 133 0 [1, 1, 1]) (finF 133 (.int .i64) [] 0)))).trans (by kernel_rfl)
end Go.Proofs.YtimgaglpempfeaaGreat.AB

set_option linter.unusedVariables false
namespace Go.Abs
/-- A byte of a text. -/
def bt (a : ByteArray) (i : Int) : Int := getS a (toN i)

/-- A text as a list of bytes. -/
abbrev bl (s : ByteArray) : List UInt8 := s.data.toList

theorem loop_eq (bs : ByteArray) : ∀ (d i : Nat) (r : List UInt8), bs.size - i = d → ByteArray.toList.loop bs i r = r.reverse ++ (bl bs).drop i := by
  intro d
  induction d with
  | zero =>
    intro i r h
    unfold ByteArray.toList.loop
    rw [if_neg (by omega), List.drop_eq_nil_of_le (by simp [bl]; show bs.size ≤ i; omega)]
    simp
  | succ d ih =>
    intro i r h
    unfold ByteArray.toList.loop
    rw [if_pos (by omega), ih (i + 1) _ (by omega)]
    have hi : i < (bl bs).length := by simp [bl]; show i < bs.size; omega
    rw [List.drop_eq_getElem_cons hi]
    have : bs.get! i = (bl bs)[i] := by
      have hi' : i < bs.data.size := by show i < bs.size; omega
      simp only [bl, ByteArray.get!]
      rw [getElem!_pos bs.data i hi']
      rfl
    rw [this]
    simp

theorem toList_eq (bs : ByteArray) : bs.toList = bl bs := by
  unfold ByteArray.toList
  rw [loop_eq bs bs.size 0 [] rfl]
  simp

theorem bl_inj {a b : ByteArray} (h : bl a = bl b) : a = b := Go.WideShapes.bytes_inj h
theorem bl_len (a : ByteArray) : (bl a).length = a.size := by
  show a.data.toList.length = a.data.size
  simp
theorem toList_iff {a b : ByteArray} : a.toList = b.toList ↔ a = b := by
  constructor
  · intro h
    rw [toList_eq, toList_eq] at h
    exact bl_inj h
  · intro h
    rw [h]
theorem toList_beq (a b : ByteArray) : (a.toList == b.toList) = decide (a = b) := by
  by_cases h : a = b
  · subst h; simp
  · have : ¬ a.toList = b.toList := fun e => h (toList_iff.1 e)
    simp [h, this]

theorem bt_get (a : ByteArray) (i : Nat) (h : i < (bl a).length) : bt a (i : Int) = ((bl a)[i].toNat : Int) := by
  have h' : i < a.data.size := h
  unfold bt getS toN
  simp only [Int.toNat_natCast, bl, ByteArray.get!]
  rw [getElem!_pos a.data i h']
  rfl

/-- Which of two lists of bytes is ahead. -/
def ltL : List UInt8 → List UInt8 → Bool
  | _, [] => false
  | [], _ :: _ => true
  | x :: xs, y :: ys => if x = y then ltL xs ys else decide (x.toNat < y.toNat)
/-- How many bytes two lists have in common. -/
def comL : List UInt8 → List UInt8 → Nat
  | x :: xs, y :: ys => if x = y then comL xs ys + 1 else 0
  | _, _ => 0
/-- Which of two texts is ahead. -/
def lt (a b : ByteArray) : Bool := ltL (bl a) (bl b)
def com (a b : ByteArray) : Nat := comL (bl a) (bl b)
/-- As Go's Compare tells it. -/
def cmp (a b : ByteArray) : Int := if a = b then 0 else if lt a b then -1 else 1

theorem byte_eq {x y : UInt8} : x = y ↔ (x.toNat : Int) = (y.toNat : Int) := by
  constructor
  · intro h; rw [h]
  · intro h; exact UInt8.toNat_inj.1 (by omega)

theorem ltL_irrefl : ∀ a, ltL a a = false
  | [] => rfl
  | x :: xs => by simp [ltL, ltL_irrefl xs]
theorem ltL_trans : ∀ a b c, ltL a b = true → ltL b c = true → ltL a c = true
  | _, _, [], _, h => by cases ‹List UInt8› <;> simp [ltL] at h
  | _, [], _ :: _, h, _ => by cases ‹List UInt8› <;> simp [ltL] at h
  | [], _ :: _, _ :: _, _, _ => rfl
  | x :: xs, y :: ys, z :: zs, h1, h2 => by
    unfold ltL at h1 h2 ⊢
    by_cases e1 : x = y <;> by_cases e2 : y = z
    · subst e1; subst e2; simp at h1 h2 ⊢; exact ltL_trans _ _ _ h1 h2
    · subst e1; simp [e2] at h2 ⊢; exact h2
    · subst e2; simp [e1] at h1 ⊢; exact h1
    · simp [e1] at h1; simp [e2] at h2
      have : x ≠ z := by intro e; subst e; omega
      simp [this]; omega
theorem ltL_total : ∀ a b, a ≠ b → ltL a b = true ∨ ltL b a = true
  | [], [], h => absurd rfl h
  | [], _ :: _, _ => .inl rfl
  | _ :: _, [], _ => .inr rfl
  | x :: xs, y :: ys, h => by
    unfold ltL
    by_cases e : x = y
    · subst e
      simp
      exact ltL_total xs ys (fun e => h (by rw [e]))
    · have e' : ¬ y = x := fun k => e k.symm
      have hn : x.toNat ≠ y.toNat := fun k => e (UInt8.toNat_inj.1 k)
      simp [e, e']
      omega

theorem lt_irrefl (a : ByteArray) : lt a a = false := ltL_irrefl _
theorem lt_trans {a b c : ByteArray} (h : lt a b = true) (k : lt b c = true) : lt a c = true := ltL_trans _ _ _ h k
theorem lt_total {a b : ByteArray} (h : a ≠ b) : lt a b = true ∨ lt b a = true := ltL_total _ _ (fun e => h (bl_inj e))
theorem lt_asymm {a b : ByteArray} (h : lt a b = true) : lt b a = false := by
  cases k : lt b a with
  | false => rfl
  | true => have := lt_trans h k; rw [lt_irrefl] at this; cases this
theorem lt_ne {a b : ByteArray} (h : lt a b = true) : a ≠ b := by
  intro e; subst e; rw [lt_irrefl] at h; cases h

theorem comL_le : ∀ a b, comL a b ≤ a.length ∧ comL a b ≤ b.length
  | [], _ => by simp [comL]
  | _ :: _, [] => by simp [comL]
  | x :: xs, y :: ys => by
    have := comL_le xs ys
    unfold comL
    split <;> simp <;> omega
theorem com_le (a b : ByteArray) : com a b ≤ a.size ∧ com a b ≤ b.size := by
  have := comL_le (bl a) (bl b)
  rw [bl_len, bl_len] at this
  exact this

theorem cmp_eq {a b : ByteArray} : cmp a b = 0 ↔ a = b := by
  unfold cmp
  by_cases h : a = b
  · simp [h]
  · simp only [h, if_false, iff_false]; split <;> omega
theorem cmp_neg {a b : ByteArray} : cmp a b < 0 ↔ lt a b = true := by
  unfold cmp
  by_cases h : a = b
  · subst h; simp [lt_irrefl]
  · simp only [h, if_false]; split <;> simp_all
theorem cmp_pos {a b : ByteArray} : 0 < cmp a b ↔ lt b a = true := by
  unfold cmp
  by_cases h : a = b
  · subst h; simp [lt_irrefl]
  · simp only [h, if_false]
    rcases lt_total h with k | k
    · simp [k, lt_asymm k]
    · simp [k, lt_asymm k]

/-- What the first bytes in which two texts differ say. -/
theorem ltL_com : ∀ a b, ltL a b = (if comL a b = b.length then false else if comL a b = a.length then true else decide ((a.getD (comL a b) 0).toNat < (b.getD (comL a b) 0).toNat))
  | _, [] => by simp [ltL, comL]
  | [], _ :: _ => by simp [ltL, comL]
  | x :: xs, y :: ys => by
    unfold ltL comL
    by_cases e : x = y
    · subst e
      simp only [if_true, List.length_cons, Nat.add_right_cancel_iff, List.getD_cons_succ]
      exact ltL_com xs ys
    · simp [e]

/-- A beginning of a list: which one is ahead of it. -/
theorem ltL_take : ∀ (a b : List UInt8) (i : Nat), ltL a b = true → (ltL a (b.take i) = true ↔ comL a b < i)
  | a, [], _, h => by cases a <;> simp [ltL] at h
  | [], y :: ys, i, _ => by cases i <;> simp [ltL, comL]
  | x :: xs, y :: ys, 0, _ => by simp [ltL]
  | x :: xs, y :: ys, i + 1, h => by
    unfold ltL at h
    simp only [List.take_succ_cons]
    unfold ltL comL
    by_cases e : x = y
    · simp only [e, if_true] at h ⊢
      rw [ltL_take xs ys i h]; omega
    · simp only [e, if_false] at h ⊢
      simp [h]
theorem ltL_take_not : ∀ (a b : List UInt8) (i : Nat), ltL a b = false → ltL a (b.take i) = false
  | _, _, 0, _ => by simp [ltL]
  | _, [], i + 1, h => by simp [ltL]
  | [], y :: ys, i + 1, h => by simp [ltL] at h
  | x :: xs, y :: ys, i + 1, h => by
    unfold ltL at h
    simp only [List.take_succ_cons]
    unfold ltL
    by_cases e : x = y
    · simp only [e, if_true] at h ⊢
      exact ltL_take_not xs ys i h
    · simp only [e, if_false] at h ⊢
      exact h
theorem ltL_len : ∀ (a b : List UInt8), ltL a b = true → comL a b < b.length
  | a, [], h => by cases a <;> simp [ltL] at h
  | [], y :: ys, _ => by simp [comL]
  | x :: xs, y :: ys, h => by
    unfold ltL at h
    unfold comL
    by_cases e : x = y
    · simp only [e, if_true] at h ⊢
      have := ltL_len xs ys h
      simp; omega
    · simp [e]
/-- What is behind a text and not behind another one is no shorter than the common beginning and one. -/
theorem ltL_short : ∀ (a b c : List UInt8), ltL a c = true → ltL b c = false → comL a b < b.length → ltL a b = true → comL a b < c.length
  | a, b, [], h, _, _, _ => by cases a <;> simp [ltL] at h
  | [], _ :: _, _ :: _, _, _, _, _ => by simp [comL]
  | _, [], _ :: _, _, _, h, _ => by simp at h
  | x :: xs, y :: ys, z :: zs, h1, h2, h3, h4 => by
    unfold ltL at h1 h2 h4
    unfold comL at h3 ⊢
    by_cases e : x = y
    · subst e
      simp only [if_true, List.length_cons] at h3 h4 ⊢
      by_cases e2 : x = z
      · subst e2
        simp only [if_true] at h1 h2
        have := ltL_short xs ys zs h1 h2 (by omega) h4
        omega
      · simp only [e2, if_false] at h1 h2
        simp_all
    · simp [e]

theorem bl_take (b : ByteArray) (i : Nat) : bl (b.extract 0 i) = (bl b).take i := by
  simp [bl]
theorem take_all (b : ByteArray) (i : Nat) (h : b.size ≤ i) : b.extract 0 i = b := by
  apply bl_inj
  rw [bl_take, List.take_of_length_le (by rw [bl_len]; exact h)]
theorem drop_cons (a : ByteArray) (i : Nat) (h : i < a.size) : ∃ x : UInt8, (bl a).drop i = x :: (bl a).drop (i + 1) ∧ bt a i = (x.toNat : Int) := by
  have h' : i < (bl a).length := by rw [bl_len]; exact h
  exact ⟨(bl a)[i], List.drop_eq_getElem_cons h', bt_get a i h'⟩
theorem comL_nil (l : List UInt8) : comL l [] = 0 := by cases l <;> rfl
theorem comL_end (a b : ByteArray) (i : Nat) (h : a.size ≤ i ∨ b.size ≤ i) : comL ((bl a).drop i) ((bl b).drop i) = 0 := by
  rcases h with h | h
  · rw [List.drop_eq_nil_of_le (by rw [bl_len]; exact h)]; rfl
  · rw [List.drop_eq_nil_of_le (show (bl b).length ≤ i by rw [bl_len]; exact h)]; exact comL_nil _
theorem comL_step (a b : ByteArray) (i : Nat) (h : i < a.size) (h' : i < b.size) :
    comL ((bl a).drop i) ((bl b).drop i) = if bt a i = bt b i then comL ((bl a).drop (i + 1)) ((bl b).drop (i + 1)) + 1 else 0 := by
  obtain ⟨x, e, hx⟩ := drop_cons a i h
  obtain ⟨y, e', hy⟩ := drop_cons b i h'
  rw [e, e', hx, hy]
  show (if x = y then _ else _) = _
  by_cases q : x = y
  · rw [if_pos q, if_pos (byte_eq.1 q)]
  · rw [if_neg q, if_neg (fun k => q (byte_eq.2 k))]
theorem ltL_step (a b : ByteArray) (i : Nat) (h : i < a.size) (h' : i < b.size) :
    ltL ((bl a).drop i) ((bl b).drop i) = if bt a i = bt b i then ltL ((bl a).drop (i + 1)) ((bl b).drop (i + 1)) else decide (bt a i < bt b i) := by
  obtain ⟨x, e, hx⟩ := drop_cons a i h
  obtain ⟨y, e', hy⟩ := drop_cons b i h'
  rw [e, e', hx, hy]
  conv => lhs; unfold ltL
  by_cases q : x = y
  · rw [if_pos q, if_pos (byte_eq.1 q)]
  · rw [if_neg q, if_neg (fun k => q (byte_eq.2 k))]
    exact decide_eq_decide.2 (by omega)
theorem ltL_nil (l : List UInt8) : ltL l [] = false := by cases l <;> rfl
theorem ltL_end (a b : ByteArray) (i : Nat) (h1 : i ≤ a.size) (h2 : i ≤ b.size) (h : a.size ≤ i ∨ b.size ≤ i) : ltL ((bl a).drop i) ((bl b).drop i) = decide (a.size < b.size) := by
  by_cases e : b.size ≤ i
  · rw [List.drop_eq_nil_of_le (show (bl b).length ≤ i by rw [bl_len]; exact e), ltL_nil]
    exact (decide_eq_false (by omega)).symm
  · have h3 : a.size ≤ i := by omega
    obtain ⟨y, e', _⟩ := drop_cons b i (by omega)
    rw [List.drop_eq_nil_of_le (by rw [bl_len]; exact h3), e']
    exact (decide_eq_true (by omega)).symm
theorem comL_self : ∀ l, comL l l = l.length
  | [] => rfl
  | x :: xs => by simp [comL, comL_self xs]
theorem com_self (a : ByteArray) : com a a = a.size := by rw [com, comL_self, bl_len]
theorem comL_full : ∀ a b, comL a b = a.length → comL a b = b.length → a = b
  | [], [], _, _ => rfl
  | [], _ :: _, _, h => by simp [comL] at h
  | _ :: _, [], h, _ => by simp [comL] at h
  | x :: xs, y :: ys, h, h' => by
    unfold comL at h h'
    by_cases e : x = y
    · simp only [e, if_true, List.length_cons, Nat.add_right_cancel_iff] at h h'
      rw [e, comL_full xs ys h h']
    · simp [e] at h
theorem com_full {a b : ByteArray} (h : com a b = a.size) (h' : com a b = b.size) : a = b :=
  bl_inj (comL_full _ _ (by rw [bl_len]; exact h) (by rw [bl_len]; exact h'))
theorem comL_ne : ∀ a b, comL a b < a.length → comL a b < b.length → a.getD (comL a b) 0 ≠ b.getD (comL a b) 0
  | [], _, h, _ => by simp at h
  | _ :: _, [], _, h => by simp at h
  | x :: xs, y :: ys, h, h' => by
    unfold comL at h h' ⊢
    by_cases e : x = y
    · simp only [e, if_true, List.length_cons] at h h' ⊢
      rw [List.getD_cons_succ, List.getD_cons_succ]
      exact comL_ne xs ys (by omega) (by omega)
    · simp only [e, if_false]
      simpa using e
theorem bt_getD (a : ByteArray) (i : Nat) (h : i < a.size) : bt a i = (((bl a).getD i 0).toNat : Int) := by
  have h' : i < (bl a).length := by rw [bl_len]; exact h
  rw [bt_get a i h', List.getD_eq_getElem?_getD, List.getElem?_eq_getElem h']
  rfl
theorem lt_com (a b : ByteArray) : lt a b = if com a b = b.size then false else if com a b = a.size then true else decide (bt a (com a b) < bt b (com a b)) := by
  have hle := com_le a b
  have h := ltL_com (bl a) (bl b)
  rw [bl_len, bl_len] at h
  show ltL (bl a) (bl b) = _
  rw [h]
  show (if com a b = b.size then _ else if com a b = a.size then _ else _) = _
  by_cases h1 : com a b = b.size
  · rw [if_pos h1, if_pos h1]
  · rw [if_neg h1, if_neg h1]
    by_cases h2 : com a b = a.size
    · rw [if_pos h2, if_pos h2]
    · rw [if_neg h2, if_neg h2, bt_getD a _ (by omega), bt_getD b _ (by omega)]
      exact decide_eq_decide.2 (by unfold com; omega)
theorem com_ne {a b : ByteArray} (h1 : com a b ≠ a.size) (h2 : com a b ≠ b.size) : bt a (com a b) ≠ bt b (com a b) := by
  have hle := com_le a b
  rw [bt_getD a _ (by omega), bt_getD b _ (by omega)]
  have h := comL_ne (bl a) (bl b) (by rw [bl_len]; show com a b < _; omega) (by rw [bl_len]; show com a b < _; omega)
  intro e
  exact h (byte_eq.2 e)
theorem cmp_com (a b : ByteArray) : cmp a b = if com a b = a.size then (if com a b = b.size then 0 else -1) else if com a b = b.size then 1 else if bt a (com a b) > bt b (com a b) then 1 else -1 := by
  by_cases e : a = b
  · subst e
    unfold cmp
    rw [if_pos rfl, if_pos (com_self a), if_pos (com_self a)]
  · unfold cmp
    rw [if_neg e, lt_com]
    by_cases h1 : com a b = a.size
    · have h2 : com a b ≠ b.size := fun k => e (com_full h1 k)
      rw [if_pos h1, if_neg h2, if_neg h2, if_pos h1, if_pos rfl]
    · rw [if_neg h1, if_neg h1]
      by_cases h2 : com a b = b.size
      · rw [if_pos h2, if_pos h2]; rfl
      · have := com_ne h1 h2
        rw [if_neg h2, if_neg h2]
        by_cases h3 : bt a (com a b) > bt b (com a b)
        · rw [if_pos h3, if_neg (by simp; omega)]
        · rw [if_neg h3, if_pos (by simp; omega)]
theorem lt_com_lt {a b : ByteArray} (h : lt a b = true) : com a b < b.size := by
  have := ltL_len (bl a) (bl b) h
  rw [bl_len] at this
  exact this
theorem lt_take {a b : ByteArray} (h : lt a b = true) (i : Nat) : lt a (b.extract 0 i) = true ↔ com a b < i := by
  unfold lt
  rw [bl_take]
  exact ltL_take _ _ i h
theorem lt_take_not {a b : ByteArray} (h : lt a b = false) (i : Nat) : lt a (b.extract 0 i) = false := by
  unfold lt
  rw [bl_take]
  exact ltL_take_not _ _ i h
theorem lt_short {a b c : ByteArray} (h1 : lt a c = true) (h2 : lt b c = false) (h4 : lt a b = true) : com a b < c.size := by
  have := ltL_short (bl a) (bl b) (bl c) h1 h2 (by rw [bl_len]; exact lt_com_lt h4) h4
  rw [bl_len] at this
  exact this
/-- What is ahead of a text with a zero byte behind it: what is ahead of the text, and the text. -/
theorem ltL_zero : ∀ a b : List UInt8, ltL b (a ++ [0]) = (ltL b a || decide (b = a))
  | [], [] => rfl
  | [], y :: ys => by
    simp only [List.nil_append]
    unfold ltL
    by_cases e : y = 0
    · subst e; cases ys <;> simp [ltL]
    · simp [e]
  | x :: xs, [] => rfl
  | x :: xs, y :: ys => by
    simp only [List.cons_append]
    unfold ltL
    by_cases e : y = x
    · subst e
      simp only [if_true, ltL_zero xs ys, List.cons.injEq, true_and]
    · simp [e]
theorem lt_zero (a b : ByteArray) : lt b (a ++ (⟨#[0]⟩ : ByteArray)) = (lt b a || decide (b = a)) := by
  have h := ltL_zero (bl a) (bl b)
  have e : bl (a ++ (⟨#[0]⟩ : ByteArray)) = bl a ++ [0] := by simp [bl]
  unfold lt
  rw [e, h]
  congr 1
  exact decide_eq_decide.2 ⟨fun q => bl_inj q, fun q => by rw [q]⟩
end Go.Abs
set_option autoImplicit false
set_option linter.unusedVariables false
namespace Go.Abs
section
variable {A R : Type}
/-- (No proofs by computing: so that the kernel doesn't unfold what stands in them.) -/
theorem bnd_some (a : A) (K : A → Option R) : bnd (some a) K = K a := by
  have h : ∀ o, o = K a → bnd (some a) K = o := fun o h => h ▸ rfl
  exact h _ rfl
theorem br_t (x y : Option R) : br true x y = x := by
  have h : ∀ o, o = x → br true x y = o := fun o h => h ▸ rfl
  exact h _ rfl
theorem br_f (x y : Option R) : br false x y = y := by
  have h : ∀ o, o = y → br false x y = o := fun o h => h ▸ rfl
  exact h _ rfl
theorem br_if (p : Prop) [Decidable p] (x y : Option R) : br (decide p) x y = if p then x else y := by
  by_cases h : p
  · rw [if_pos h, decide_eq_true h, br_t]
  · rw [if_neg h, decide_eq_false h, br_f]
theorem br_b (b : Bool) (x y : Option R) : br b x y = if b = true then x else y := by
  cases b
  · rw [br_f, if_neg (by simp)]
  · rw [br_t, if_pos rfl]
theorem both_self (x : Option R) : both x x = x := by
  unfold both
  rw [if_pos rfl]
theorem eqI_d (a b : Int) : eqI a b = decide (a = b) := rfl
theorem ltI_d (a b : Int) : ltI a b = decide (a < b) := rfl
theorem leI_d (a b : Int) : leI a b = decide (a ≤ b) := rfl
theorem notB_d (p : Prop) [Decidable p] : notB (decide p) = decide (¬ p) := by by_cases h : p <;> simp [notB, h]
theorem andB_d (p q : Prop) [Decidable p] [Decidable q] : andB (decide p) (decide q) = decide (p ∧ q) := by by_cases h : p <;> by_cases k : q <;> simp [andB, h, k]
theorem eqS_d (a b : ByteArray) : eqS a b = decide (a = b) := toList_beq a b
theorem ofN_d (n : Nat) : ofN n = (n : Int) := rfl
theorem toN_d (n : Nat) : toN (n : Int) = n := Int.toNat_natCast n
theorem lenL_d (t : Ty) (l : List (den t)) : lenL t l = l.length := rfl
theorem lenS_d (s : ByteArray) : lenS s = s.size := rfl
theorem appL_d (t : Ty) (a b : List (den t)) : appL t a b = a ++ b := rfl
theorem fitL_d (t : Ty) (l : List (den t)) : fitL t l = decide (l.length ≤ 1073741824) := rfl
theorem ixL_d (t : Ty) (l : List (den t)) (i : Nat) (h : i < l.length) : ixL t l (i : Int) = l[i] := by
  unfold ixL
  rw [Int.toNat_natCast, List.getD_eq_getElem?_getD, List.getElem?_eq_getElem h]
  rfl
theorem wrap_i64_id {x : Int} (h0 : -9223372036854775808 ≤ x) (h1 : x ≤ 9223372036854775807) : IntKind.i64.wrap x = x := by
  rw [IntKind.wrap_i64]; omega
theorem addI_d {a b : Int} (h0 : -9223372036854775808 ≤ a + b) (h1 : a + b ≤ 9223372036854775807) : addI .i64 a b = a + b := wrap_i64_id h0 h1
theorem subI_d {a b : Int} (h0 : -9223372036854775808 ≤ a - b) (h1 : a - b ≤ 9223372036854775807) : subI .i64 a b = a - b := wrap_i64_id h0 h1
theorem add1 (n : Nat) (h : n < 9223372036854775807) : addI .i64 (n : Int) 1 = ((n + 1 : Nat) : Int) := by
  rw [addI_d (by omega) (by omega)]; omega
theorem sub1 (n : Nat) (h : 0 < n) (h' : n < 9223372036854775807) : subI .i64 (n : Int) 1 = ((n - 1 : Nat) : Int) := by
  rw [subI_d (by omega) (by omega)]; omega
theorem maxI_d (a b : Int) : maxI a b = max a b := by unfold maxI; rw [Int.max_def]; split <;> split <;> omega
theorem minI_d (a b : Int) : minI a b = min a b := by unfold minI; rw [Int.min_def]; split <;> split <;> omega
theorem subL0 (t : Ty) (l : List (den t)) (j : Nat) : subL t l 0 j = l.take j := by
  unfold subL
  rw [List.drop_zero, Nat.sub_zero]
theorem getS_bt (a : ByteArray) (i : Int) : getS a (toN i) = bt a i := rfl
theorem some_int {a b : Int} (h : a = b) : (some a : Option Int) = some b := by rw [h]
theorem some_bool {a b : Bool} (h : a = b) : (some a : Option Bool) = some b := by rw [h]
theorem subS_d (a : ByteArray) (i j : Nat) : subS a i j = a.extract i j := rfl
end
end Go.Abs
set_option linter.unusedVariables false
set_option linter.unusedSimpArgs false
namespace Go.Proofs.YtimgaglpempfeaaGreat.AB
open Go.Abs
theorem common_loop (a b : ByteArray) (m : Nat) (hm : m = min a.size b.size) (hs : a.size ≤ 9223372036854775806) (d : Nat) : ∀ (i : Nat), i ≤ m → m - i = d →
    order_Common.l0 a b m m i = some ((i + comL ((bl a).drop i) ((bl b).drop i) : Nat) : Int) := by
  induction d with
  | zero =>
    intro i h1 h2
    rw [order_Common.l0.eq]
    simp only [ltI_d, leI_d, ofN_d, lenS_d, andB_d, eqI_d, notB_d, br_if, getS_bt]
    rw [if_neg (by omega), comL_end a b i (by omega)]
    exact some_int (by omega)
  | succ d ih =>
    intro i h1 h2
    rw [order_Common.l0.eq]
    simp only [ltI_d, leI_d, ofN_d, lenS_d, andB_d, eqI_d, notB_d, br_if, getS_bt]
    rw [if_pos (by omega), if_pos (by omega), if_pos (by omega), comL_step a b i (by omega) (by omega)]
    by_cases e : bt a i = bt b i
    · rw [if_neg (by intro h; exact h e), if_pos e, add1 i (by omega), ih (i + 1) (by omega) (by omega)]
      exact some_int (by omega)
    · rw [if_pos e, if_neg e]
      exact some_int (by omega)
theorem common_any (a b : ByteArray) (hs : a.size ≤ 9223372036854775806) : order_Common a b = some (com a b : Int) := by
  rw [order_Common.eq]
  simp only [ofN_d, lenS_d, minI_d]
  have e : min (a.size : Int) (b.size : Int) = ((min a.size b.size : Nat) : Int) := by omega
  rw [e]
  have := common_loop a b (min a.size b.size) rfl hs (min a.size b.size) 0 (by omega) (by omega)
  simp only [List.drop_zero, Nat.zero_add, Int.ofNat_zero, Int.cast_ofNat_Int] at this
  exact this
theorem compare_any (a b : ByteArray) (hs : a.size ≤ 9223372036854775806) : order_Compare a b = some (cmp a b) := by
  have hle := com_le a b
  rw [order_Compare.eq, common_any a b hs, bnd_some]
  simp only [ofN_d, lenS_d, eqI_d, br_if]
  rw [cmp_com]
  by_cases h1 : com a b = a.size
  · rw [if_pos h1, if_pos (by omega), order_Compare.j0.eq]
    simp only [ltI_d, leI_d, ofN_d, lenS_d, andB_d, eqI_d, notB_d, br_if, getS_bt]
    by_cases h2 : com a b = b.size
    · rw [if_pos (by omega), if_pos h2]
    · rw [if_neg (by omega), if_neg h2, if_pos (by omega)]
  · rw [if_neg h1, if_neg (by omega), order_Compare.j0.eq, br_f]
    simp only [ltI_d, leI_d, ofN_d, lenS_d, andB_d, eqI_d, notB_d, br_if, getS_bt]
    rw [if_neg (by omega)]
    by_cases h2 : com a b = b.size
    · rw [if_pos (by omega), if_pos h2]
    · rw [if_neg (by omega), if_neg h2, if_pos (by omega), if_pos (by omega)]
      show (if bt b (com a b) < bt a (com a b) then _ else _) = _
      by_cases h3 : bt b (com a b) < bt a (com a b)
      · rw [if_pos h3, if_pos h3]
      · rw [if_neg h3, if_neg h3]
theorem less_loop (a b : ByteArray) (hs : a.size ≤ 9223372036854775806) (d : Nat) : ∀ (i : Nat), i ≤ a.size → i ≤ b.size → a.size - i = d →
    ref01_Less.l0 a b i = some (ltL ((bl a).drop i) ((bl b).drop i)) := by
  have stop : ∀ (i : Nat), i ≤ a.size → i ≤ b.size → (a.size ≤ i ∨ b.size ≤ i) → ref01_Less.j1 a b i false = some (ltL ((bl a).drop i) ((bl b).drop i)) := by
    intro i h1 h2 h3
    rw [ref01_Less.j1.eq, br_f, ltL_end a b i h1 h2 h3]
    simp only [ltI_d, ofN_d, lenS_d]
    exact some_bool (decide_eq_decide.2 (by omega))
  induction d with
  | zero =>
    intro i h1 h1' h2
    rw [ref01_Less.l0.eq]
    simp only [ltI_d, ofN_d, lenS_d, br_if]
    rw [if_neg (by omega)]
    exact stop i h1 h1' (.inl (by omega))
  | succ d ih =>
    intro i h1 h1' h2
    rw [ref01_Less.l0.eq]
    simp only [ltI_d, ofN_d, lenS_d, br_if]
    rw [if_pos (by omega)]
    by_cases hb : i < b.size
    · rw [show decide ((i : Int) < (b.size : Int)) = true from decide_eq_true (by omega), ref01_Less.j1.eq, br_t]
      simp only [ltI_d, leI_d, ofN_d, lenS_d, andB_d, eqI_d, notB_d, br_if, getS_bt]
      rw [if_pos (by omega), if_pos (by omega), ltL_step a b i (by omega) hb]
      by_cases e : bt a i = bt b i
      · rw [if_neg (by intro h; exact h e), if_pos e, add1 i (by omega)]
        exact ih (i + 1) (by omega) (by omega) (by omega)
      · rw [if_pos e, if_neg e, if_pos (by omega), if_pos (by omega)]
    · rw [show decide ((i : Int) < (b.size : Int)) = false from decide_eq_false (by omega)]
      exact stop i h1 h1' (.inr (by omega))
theorem less_any (a b : ByteArray) (hs : a.size ≤ 9223372036854775806) : ref01_Less a b = some (lt a b) := by
  rw [ref01_Less.eq]
  have := less_loop a b hs a.size 0 (by omega) (by omega) (by omega)
  simp only [List.drop_zero, Int.ofNat_zero, Int.cast_ofNat_Int] at this
  exact this
/-- The first bytes of a text. -/
def cut (k : Nat) (s : ByteArray) : ByteArray := s.extract 0 k
theorem cut_size (k : Nat) (s : ByteArray) : (cut k s).size = min k s.size := by
  unfold cut
  rw [ByteArray.size_extract]
  omega
theorem cut_cut (k : Nat) (s : ByteArray) : cut k (cut k s) = cut k s := by
  have h : (cut k s).size ≤ k := by rw [cut_size]; omega
  exact take_all _ _ h
theorem base_Cut_any (s : ByteArray) (k : Nat) : base_Cut s (k : Int) = some (cut k s) := by
  rw [base_Cut.eq]
  simp only [ltI_d, leI_d, ofN_d, lenS_d, andB_d, minI_d, br_if, subS_d]
  have hk : (0 : Int) ≤ (k : Int) := by omega
  rw [if_pos (by omega)]
  have e : toN (min (s.size : Int) (k : Int)) = min s.size k := by unfold toN; omega
  rw [e]
  show some (s.extract 0 (min s.size k)) = some (cut k s)
  congr 1
  by_cases h : s.size ≤ k
  · rw [show min s.size k = s.size by omega]
    unfold cut
    rw [take_all s s.size (Nat.le_refl _), take_all s k h]
  · rw [show min s.size k = k by omega]; rfl
theorem base_Cut_40 (s : ByteArray) : base_Cut s (40 : Int) = some (cut 40 s) := base_Cut_any s 40
end Go.Proofs.YtimgaglpempfeaaGreat.AB
set_option linter.unusedVariables false
set_option linter.unusedSimpArgs false
namespace Go.Abs

theorem wf_u32 {a : Int} (h : (Lit.int .u32 a).wf = true) : 0 ≤ a ∧ a < 4294967296 := by
  simp [Lit.wf, IntKind.min, IntKind.max, IntKind.bits, IntKind.signed] at h
  omega
theorem wf_u8 {a : Int} (h : (Lit.int .u8 a).wf = true) : 0 ≤ a ∧ a < 256 := by
  simp [Lit.wf, IntKind.min, IntKind.max, IntKind.bits, IntKind.signed] at h
  omega
theorem wraps_u32 (n : Int) (h0 : 0 ≤ n) (h1 : n < 2 ^ 32) : IntKind.u32.wrap n = n := by rw [IntKind.wrap_u32]; omega
theorem bv32 (a : Nat) (ha : a < 4294967296) : (BitVec.ofInt 32 (a : Int)).toNat = a := by
  rw [BitVec.ofInt_natCast, BitVec.toNat_ofNat]; exact Nat.mod_eq_of_lt (by omega)
theorem and_u32 (a b : Nat) (ha : a < 4294967296) (hb : b < 4294967296) : andI .u32 a b = ((a &&& b : Nat) : Int) := by
  have hx : a &&& b < 2 ^ 32 := Nat.and_lt_two_pow _ (by omega)
  show IntKind.u32.wrap ((BitVec.ofInt 32 (a : Int) &&& BitVec.ofInt 32 (b : Int)).toNat : Int) = _
  rw [BitVec.toNat_and, bv32 a ha, bv32 b hb, IntKind.wrap_u32]
  omega
theorem or_u32 (a b : Nat) (ha : a < 4294967296) (hb : b < 4294967296) : orI .u32 a b = ((a ||| b : Nat) : Int) := by
  have hx : a ||| b < 2 ^ 32 := Nat.or_lt_two_pow (by omega) (by omega)
  show IntKind.u32.wrap ((BitVec.ofInt 32 (a : Int) ||| BitVec.ofInt 32 (b : Int)).toNat : Int) = _
  rw [BitVec.toNat_or, bv32 a ha, bv32 b hb, IntKind.wrap_u32]
  omega
theorem andNot_u32 (a b : Nat) (ha : a < 4294967296) (hb : b < 4294967296) : andNotI .u32 a b = ((a &&& (4294967295 - b) : Nat) : Int) := by
  have hx : a &&& (4294967295 - b) < 2 ^ 32 := Nat.and_lt_two_pow _ (by omega)
  show IntKind.u32.wrap ((BitVec.ofInt 32 (a : Int) &&& ~~~(BitVec.ofInt 32 (b : Int))).toNat : Int) = _
  rw [BitVec.toNat_and, BitVec.toNat_not, bv32 a ha, bv32 b hb, IntKind.wrap_u32]
  have e : 2 ^ 32 - 1 - b = 4294967295 - b := by omega
  rw [e]
  omega
theorem not_bit (b : Nat) (hb : b < 4294967296) (i : Nat) : (4294967295 - b).testBit i = (decide (i < 32) && !b.testBit i) := by
  have := Nat.testBit_two_pow_sub_succ (n := 32) (x := b) (by omega) i
  rw [← this]
  congr 1
  omega

/-- Which numbers are in a mask. -/
def allL (m : Nat) : List Nat := (List.range 32).filter fun j => m.testBit j
def allI (m : Nat) : List Int := (allL m).map fun j : Nat => (j : Int)
/-- How many of the first n numbers are there. -/
def cnt (n m : Nat) : Nat := ((List.range n).filter fun j => m.testBit j).length
theorem cnt_succ (n m : Nat) : cnt (n + 1) m = cnt n m + if m.testBit n = true then 1 else 0 := by
  unfold cnt
  rw [List.range_succ, List.filter_append, List.length_append]
  congr 1
  by_cases h : m.testBit n = true <;> simp [h]
theorem cnt_le (n m : Nat) : cnt n m ≤ n := by
  unfold cnt
  have := List.length_filter_le (fun j => m.testBit j) (List.range n)
  simpa using this
theorem cnt_all (m : Nat) : cnt 32 m = (allL m).length := rfl
theorem cnt_add (a : Nat) (m : Nat) : ∀ b, cnt (a + b) m = cnt a m + cnt b (m / 2 ^ a)
  | 0 => by simp [cnt]
  | b + 1 => by
    rw [show a + (b + 1) = (a + b) + 1 by omega, cnt_succ, cnt_succ, cnt_add a m b, Nat.testBit_div_two_pow, Nat.add_comm b a]
    omega
theorem cnt_mod (m : Nat) : ∀ b, ∀ c, b ≤ c → cnt b (m % 2 ^ c) = cnt b m
  | 0, _, _ => rfl
  | b + 1, c, h => by
    rw [cnt_succ, cnt_succ, cnt_mod m b c (by omega), Nat.testBit_mod_two_pow]
    have : decide (b < c) = true := decide_eq_true (by omega)
    rw [this, Bool.true_and]
theorem cnt_four (m : Nat) : cnt 32 m = cnt 8 (m / 16777216) + cnt 8 (m / 65536 % 256) + cnt 8 (m / 256 % 256) + cnt 8 (m % 256) := by
  have h1 := cnt_add 8 m 24
  have h2 := cnt_add 8 (m / 2 ^ 8) 16
  have h3 := cnt_add 8 (m / 2 ^ 8 / 2 ^ 8) 8
  have e1 := cnt_mod m 8 8 (by omega)
  have e2 := cnt_mod (m / 2 ^ 8) 8 8 (by omega)
  have e3 := cnt_mod (m / 2 ^ 8 / 2 ^ 8) 8 8 (by omega)
  rw [Nat.div_div_eq_div_mul] at h2 h3 e3
  rw [Nat.div_div_eq_div_mul] at h3
  simp only [Nat.reducePow, Nat.reduceMul, Nat.reduceAdd] at h1 h2 h3 e1 e2 e3
  omega
/-- The library's table: how many bits a byte has. -/
def ones : ByteArray := ByteArray.mk #[0, 1, 1, 2, 1, 2, 2, 3, 1, 2, 2, 3, 2, 3, 3, 4, 1, 2, 2, 3, 2, 3, 3, 4, 2, 3, 3, 4, 3, 4, 4, 5, 1, 2, 2, 3, 2, 3, 3, 4, 2, 3, 3, 4, 3, 4, 4, 5, 2, 3, 3, 4, 3, 4, 4, 5, 3, 4, 4, 5, 4, 5, 5, 6, 1, 2, 2, 3, 2, 3, 3, 4, 2, 3, 3, 4, 3, 4, 4, 5, 2, 3, 3, 4, 3, 4, 4, 5, 3, 4, 4, 5, 4, 5, 5, 6, 2, 3, 3, 4, 3, 4, 4, 5, 3, 4, 4, 5, 4, 5, 5, 6, 3, 4, 4, 5, 4, 5, 5, 6, 4, 5, 5, 6, 5, 6, 6, 7, 1, 2, 2, 3, 2, 3, 3, 4, 2, 3, 3, 4, 3, 4, 4, 5, 2, 3, 3, 4, 3, 4, 4, 5, 3, 4, 4, 5, 4, 5, 5, 6, 2, 3, 3, 4, 3, 4, 4, 5, 3, 4, 4, 5, 4, 5, 5, 6, 3, 4, 4, 5, 4, 5, 5, 6, 4, 5, 5, 6, 5, 6, 6, 7, 2, 3, 3, 4, 3, 4, 4, 5, 3, 4, 4, 5, 4, 5, 5, 6, 3, 4, 4, 5, 4, 5, 5, 6, 4, 5, 5, 6, 5, 6, 6, 7, 3, 4, 4, 5, 4, 5, 5, 6, 4, 5, 5, 6, 5, 6, 6, 7, 4, 5, 5, 6, 5, 6, 6, 7, 5, 6, 6, 7, 6, 7, 7, 8]
theorem ones_len : lenS ones = 256 := by decide +kernel
theorem cnt_table : ∀ i : Fin 256, bt ones ((i.val : Nat) : Int) = ((cnt 8 i.val : Nat) : Int) := by
  decide +kernel
theorem cnt_tab (i : Nat) (h : i < 256) : bt ones (i : Int) = ((cnt 8 i : Nat) : Int) := cnt_table ⟨i, h⟩

/-- How many numbers of a mask are below one. -/
def cl (i : Int) : Nat := (min (max i 0) 32).toNat
theorem cl_le (i : Int) : cl i ≤ 32 := by unfold cl; omega
def low (i : Int) : Nat := 2 ^ cl i - 1
theorem low_lt (i : Int) : low i < 4294967296 := by
  have := Nat.pow_le_pow_right (n := 2) (by omega) (cl_le i)
  unfold low
  omega
theorem low_bit (i : Int) (j : Nat) : (low i).testBit j = decide (j < cl i) := by
  unfold low
  exact Nat.testBit_two_pow_sub_one _ _
theorem cnt_low (m : Nat) (i : Int) : ∀ n, n ≤ 32 → cnt n (m &&& low i) = cnt (min n (cl i)) m
  | 0, _ => by simp [cnt]
  | n + 1, h => by
    have ih := cnt_low m i n (by omega)
    rw [cnt_succ, ih, Nat.testBit_and, low_bit]
    by_cases q : n < cl i
    · rw [Nat.min_eq_left (by omega), Nat.min_eq_left (by omega), cnt_succ]
      simp [q]
    · rw [Nat.min_eq_right (by omega), Nat.min_eq_right (by omega)]
      simp [q]
theorem filter_lt (p : Nat → Bool) (c : Nat) : ∀ n, (((List.range n).filter p).filter fun j => decide (j < c)).length = ((List.range (min n c)).filter p).length
  | 0 => by simp
  | n + 1 => by
    rw [List.range_succ, List.filter_append, List.filter_append, List.length_append, filter_lt p c n]
    by_cases q : n < c
    · rw [Nat.min_eq_left (by omega), Nat.min_eq_left (by omega), List.range_succ, List.filter_append, List.length_append]
      congr 1
      by_cases h : p n = true <;> simp [h, q]
    · rw [Nat.min_eq_right (by omega), Nat.min_eq_right (by omega)]
      by_cases h : p n = true <;> simp [h, q]
/-- How many numbers of a mask are below one, counted in the list. -/
theorem place_list (m : Nat) (i : Int) : cnt (cl i) m = ((allI m).filter fun j => decide (j < i)).length := by
  have h1 := filter_lt (fun j => m.testBit j) (cl i) 32
  have h2 : min 32 (cl i) = cl i := Nat.min_eq_right (cl_le i)
  rw [h2] at h1
  unfold cnt
  rw [← h1]
  unfold allI allL
  rw [List.filter_map, List.length_map]
  congr 1
  apply List.filter_congr
  intro j hj
  have hj' : j < 32 := by
    have := (List.mem_filter.1 hj).1
    simpa using this
  simp only [Function.comp]
  exact decide_eq_decide.2 (by unfold cl; omega)

theorem allI_mem {m : Nat} {x : Int} : x ∈ allI m ↔ ∃ j : Nat, j < 32 ∧ m.testBit j = true ∧ x = j := by
  unfold allI allL
  simp only [List.mem_map, List.mem_filter, List.mem_range]
  constructor
  · rintro ⟨j, ⟨h1, h2⟩, rfl⟩; exact ⟨j, h1, h2, rfl⟩
  · rintro ⟨j, h1, h2, rfl⟩; exact ⟨j, ⟨h1, h2⟩, rfl⟩
theorem allI_len (m : Nat) : (allI m).length = cnt 32 m := by unfold allI; rw [List.length_map]; rfl
theorem allI_sorted (m : Nat) : (allI m).Pairwise (· < ·) := by
  unfold allI allL
  rw [List.pairwise_map]
  exact (List.pairwise_lt_range.imp (fun h => by omega)).filter _
theorem sorted_tail {l : List Int} (hs : l.Pairwise (· < ·)) {i j : Int} {rest : List Int} (h : l.filter (fun x => decide (i < x)) = j :: rest) : l.filter (fun x => decide (j < x)) = rest := by
  induction l with
  | nil => simp at h
  | cons a l ih =>
    obtain ⟨h1, h2⟩ := List.pairwise_cons.1 hs
    by_cases q : i < a
    · have hall : l.filter (fun x => decide (i < x)) = l := List.filter_eq_self.2 (fun x hx => decide_eq_true (by have := h1 x hx; omega))
      rw [List.filter_cons_of_pos (by simpa using q), hall] at h
      injection h with e1 e2
      subst e1; subst e2
      rw [List.filter_cons_of_neg (by simp)]
      exact List.filter_eq_self.2 (fun x hx => decide_eq_true (h1 x hx))
    · rw [List.filter_cons_of_neg (by simpa using q)] at h
      have hj : i < j := by
        have := List.mem_filter.1 (show j ∈ l.filter (fun x => decide (i < x)) by rw [h]; simp)
        simpa using this.2
      rw [List.filter_cons_of_neg (by simp; omega)]
      exact ih h2 h
/-- The next number above one. -/
def next (m : Nat) (i : Int) : Int × Bool := match (allI m).filter (fun x => decide (i < x)) with
  | [] => (0, false)
  | j :: _ => (j, true)
theorem ctz_bit {x : Nat} (h0 : x ≠ 0) (h : x < 4294967296) : x.testBit (Lib.ctz 32 x) = true ∧ Lib.ctz 32 x < 32 ∧ ∀ j, j < Lib.ctz 32 x → x.testBit j = false := by
  obtain ⟨m, hm, hk⟩ := Lib.ctzFrom_spec 32 x (by omega) (by omega)
  have e : Lib.ctz 32 x = Lib.ctzFrom 32 x := by simp [Lib.ctz, h0]
  rw [e]
  generalize Lib.ctzFrom 32 x = c at *
  subst hm
  refine ⟨?_, hk, fun j hj => ?_⟩
  · rw [Nat.testBit_two_pow_mul]
    simp [Nat.testBit_zero]
  · rw [Nat.testBit_two_pow_mul]
    have : ¬ c ≤ j := by omega
    simp [this]
theorem filter_first {l : List Int} (hs : l.Pairwise (· < ·)) {p : Int → Bool} {c : Int} (hc : c ∈ l) (hp : p c = true) (hn : ∀ x ∈ l, x < c → p x = false) : ∃ rest, l.filter p = c :: rest := by
  induction l with
  | nil => simp at hc
  | cons a l ih =>
    obtain ⟨h1, h2⟩ := List.pairwise_cons.1 hs
    rcases List.mem_cons.1 hc with e | e
    · subst e
      exact ⟨l.filter p, List.filter_cons_of_pos hp⟩
    · rw [List.filter_cons_of_neg (by rw [hn a (by simp) (h1 c e)]; simp)]
      exact ih h2 e (fun x hx => hn x (List.mem_cons_of_mem _ hx))
/-- With and without a number. -/
def withM (m : Nat) (i : Int) : Nat := if 0 ≤ i ∧ i < 32 then m ||| 2 ^ i.toNat else m
def withoutM (m : Nat) (i : Int) : Nat := if 0 ≤ i ∧ i < 32 then m &&& (4294967295 - 2 ^ i.toNat) else m
def hasM (m : Nat) (i : Int) : Bool := decide (0 ≤ i ∧ i < 32) && m.testBit i.toNat
theorem pow_lt32 {i : Nat} (h : i < 32) : 2 ^ i < 4294967296 := by
  have := Nat.pow_le_pow_right (n := 2) (by omega) (show i ≤ 31 by omega)
  omega
theorem withM_lt {m : Nat} (hm : m < 4294967296) (i : Int) : withM m i < 4294967296 := by
  unfold withM
  split
  · exact Nat.or_lt_two_pow (n := 32) hm (pow_lt32 (by omega))
  · exact hm
theorem withoutM_lt {m : Nat} (hm : m < 4294967296) (i : Int) : withoutM m i < 4294967296 := by
  unfold withoutM
  split
  · exact Nat.lt_of_le_of_lt Nat.and_le_left hm
  · exact hm
theorem withM_bit (m : Nat) (i : Int) (j : Nat) : (withM m i).testBit j = (m.testBit j || decide (0 ≤ i ∧ i < 32 ∧ i = j)) := by
  unfold withM
  by_cases h : 0 ≤ i ∧ i < 32
  · rw [if_pos h, Nat.testBit_or, Nat.testBit_two_pow]
    congr 1
    exact decide_eq_decide.2 (by omega)
  · rw [if_neg h]
    have : ¬ (0 ≤ i ∧ i < 32 ∧ i = j) := by omega
    simp [this]
theorem withoutM_bit {m : Nat} (hm : m < 4294967296) (i : Int) (j : Nat) : (withoutM m i).testBit j = (m.testBit j && !decide (0 ≤ i ∧ i < 32 ∧ i = j)) := by
  unfold withoutM
  by_cases h : 0 ≤ i ∧ i < 32
  · rw [if_pos h, Nat.testBit_and, not_bit _ (pow_lt32 (by omega)), Nat.testBit_two_pow]
    by_cases q : j < 32
    · rw [decide_eq_true q, Bool.true_and]
      congr 2
      exact decide_eq_decide.2 (by omega)
    · have : m.testBit j = false := Nat.testBit_lt_two_pow (Nat.lt_of_lt_of_le hm (Nat.pow_le_pow_right (n := 2) (i := 32) (by omega) (by omega)))
      simp [this]
  · rw [if_neg h]
    have : ¬ (0 ≤ i ∧ i < 32 ∧ i = j) := by omega
    simp [this]
/-- The mask of some numbers. -/
def makeL (l : List Int) : Nat → Nat
  | 0 => 0
  | n + 1 => makeL l n + if (n : Int) ∈ l then 2 ^ n else 0
theorem makeL_lt (l : List Int) : ∀ n, makeL l n < 2 ^ n
  | 0 => by simp [makeL]
  | n + 1 => by
    have := makeL_lt l n
    unfold makeL
    rw [Nat.pow_succ]
    split <;> omega
theorem makeL_bit (l : List Int) (j : Nat) : ∀ n, (makeL l n).testBit j = (decide (j < n) && decide ((j : Int) ∈ l))
  | 0 => by simp [makeL]
  | n + 1 => by
    have hlt := makeL_lt l n
    have ih := makeL_bit l j n
    unfold makeL
    by_cases h : (n : Int) ∈ l
    · rw [if_pos h, Nat.add_comm]
      by_cases e : j = n
      · subst e
        rw [Nat.testBit_two_pow_add_eq, Nat.testBit_lt_two_pow hlt]
        simp [h]
      · rcases Nat.lt_or_ge j n with q | q
        · rw [Nat.testBit_two_pow_add_gt q, ih]
          have : decide (j < n + 1) = decide (j < n) := decide_eq_decide.2 (by omega)
          rw [this]
        · have hb : 2 ^ n + makeL l n < 2 ^ j := by
            have h2 := Nat.pow_le_pow_right (n := 2) (by omega) (show n + 1 ≤ j by omega)
            rw [Nat.pow_succ] at h2
            omega
          rw [Nat.testBit_lt_two_pow hb]
          have : ¬ j < n + 1 := by omega
          simp [this]
    · rw [if_neg h, Nat.add_zero, ih]
      by_cases e : j = n
      · subst e; simp [h]
      · have : decide (j < n + 1) = decide (j < n) := decide_eq_decide.2 (by omega)
        rw [this]
theorem high_bit {m : Nat} (hm : m < 4294967296) {j : Nat} (h : ¬ j < 32) : m.testBit j = false :=
  Nat.testBit_lt_two_pow (Nat.lt_of_lt_of_le hm (Nat.pow_le_pow_right (n := 2) (i := 32) (by omega) (by omega)))
theorem make_with {m : Nat} (hm : m < 4294967296) (i : Int) : makeL (allI m ++ [i]) 32 = withM m i := by
  apply Nat.eq_of_testBit_eq
  intro j
  rw [makeL_bit, withM_bit]
  by_cases q : j < 32
  · rw [decide_eq_true q, Bool.true_and]
    have : ((j : Int) ∈ allI m ++ [i]) ↔ (m.testBit j = true ∨ (0 ≤ i ∧ i < 32 ∧ i = j)) := by
      rw [List.mem_append, allI_mem, List.mem_singleton]
      constructor
      · rintro (⟨k, h1, h2, h3⟩ | h)
        · left; rw [show j = k by omega]; exact h2
        · right; omega
      · rintro (h | h)
        · left; exact ⟨j, q, h, rfl⟩
        · right; omega
    by_cases g : m.testBit j = true
    · rw [g, Bool.true_or]; exact decide_eq_true (this.2 (.inl g))
    · rw [Bool.eq_false_iff.2 g, Bool.false_or]
      exact decide_eq_decide.2 ⟨fun z => (this.1 z).resolve_left g, fun z => this.2 (.inr z)⟩
  · have : ¬ (0 ≤ i ∧ i < 32 ∧ i = j) := by omega
    rw [high_bit hm q]
    simp [q, this]
theorem make_without {m : Nat} (hm : m < 4294967296) (i : Int) : makeL ((allI m).filter fun x => !decide (x = i)) 32 = withoutM m i := by
  apply Nat.eq_of_testBit_eq
  intro j
  rw [makeL_bit, withoutM_bit hm]
  by_cases q : j < 32
  · rw [decide_eq_true q, Bool.true_and]
    have : ((j : Int) ∈ (allI m).filter fun x => !decide (x = i)) ↔ (m.testBit j = true ∧ ¬ (0 ≤ i ∧ i < 32 ∧ i = j)) := by
      rw [List.mem_filter, allI_mem]
      simp only [Bool.not_eq_true', decide_eq_false_iff_not]
      constructor
      · rintro ⟨⟨k, h1, h2, h3⟩, h4⟩
        have e : j = k := by omega
        subst e
        exact ⟨h2, by omega⟩
      · rintro ⟨h1, h2⟩
        exact ⟨⟨j, q, h1, rfl⟩, by omega⟩
    by_cases g : m.testBit j = true
    · rw [g, Bool.true_and]
      by_cases z : 0 ≤ i ∧ i < 32 ∧ i = j
      · rw [decide_eq_true z]; exact decide_eq_false (fun y => (this.1 y).2 z)
      · rw [decide_eq_false z]; exact decide_eq_true (this.2 ⟨g, z⟩)
    · rw [Bool.eq_false_iff.2 g, Bool.false_and]
      exact decide_eq_false (fun y => g (this.1 y).1)
  · rw [high_bit hm q]
    simp [q]
def rd (l : List Int) (i : Int) : Int := l.getD i.toNat 0
theorem rd_nat (l : List Int) (i : Nat) : rd l (i : Int) = l.getD i 0 := by unfold rd; rw [Int.toNat_natCast]
theorem drop_rd (l : List Int) (i : Nat) (h : i < l.length) : l.drop i = rd l (i : Int) :: l.drop (i + 1) := by
  rw [List.drop_eq_getElem_cons h, rd_nat, List.getD_eq_getElem?_getD, List.getElem?_eq_getElem h]
  rfl
theorem rd_mem (l : List Int) (i : Nat) (h : i < l.length) : rd l (i : Int) ∈ l := by
  rw [rd_nat, List.getD_eq_getElem?_getD, List.getElem?_eq_getElem h]
  simp
theorem hasM_mem {m : Nat} {x : Int} (h : x ∈ allI m) : hasM m x = true := by
  obtain ⟨j, h1, h2, rfl⟩ := allI_mem.1 h
  unfold hasM
  rw [Int.toNat_natCast, h2, decide_eq_true (by omega)]
  rfl
/-- Each number has its place in the list. -/
theorem place_at {l : List Int} (hs : l.Pairwise (· < ·)) : ∀ (i : Nat), i < l.length → (l.filter fun j => decide (j < rd l (i : Int))).length = i := by
  induction l with
  | nil => intro i h; simp at h
  | cons a l ih =>
    intro i h
    obtain ⟨h1, h2⟩ := List.pairwise_cons.1 hs
    cases i with
    | zero =>
      have e : rd (a :: l) ((0 : Nat) : Int) = a := rfl
      rw [e, List.filter_cons_of_neg (by simp)]
      rw [List.filter_eq_nil_iff.2 (fun x hx => by have := h1 x hx; simp; omega)]
      rfl
    | succ i =>
      have hi : i < l.length := by simpa using h
      have e : rd (a :: l) ((i + 1 : Nat) : Int) = rd l (i : Int) := by rw [rd_nat, rd_nat]; rfl
      rw [e, List.filter_cons_of_pos (by simpa using h1 _ (rd_mem l i hi)), List.length_cons, ih h2 i hi]
end Go.Abs
set_option linter.unusedVariables false
set_option linter.unusedSimpArgs false
namespace Go.Proofs.YtimgaglpempfeaaGreat.AB
open Go.Abs
theorem shr_div (a n : Nat) (k : IntKind) (hn : n ≤ k.bits) : shrI k (a : Int) (n : Int) = ((a / 2 ^ n : Nat) : Int) := by
  unfold shrI
  rw [Int.toNat_natCast, Nat.min_eq_left hn]
  rw [Int.fdiv_eq_ediv_of_nonneg _ (by exact Int.pow_nonneg (by omega))]
  have : ((2 : Int) ^ n) = ((2 ^ n : Nat) : Int) := by simp
  rw [this]
  rfl
theorem ones_any (m : Nat) (hm : m < 4294967296) : math_bits_OnesCount32 m = some (cnt 32 m : Int) := by
  have key : math_bits_OnesCount32 (m : Int) = br (leI 0 (24 : Int)) (br (andB (leI 0 (shrI .u32 (m : Int) (24 : Int))) (ltI (shrI .u32 (m : Int) (24 : Int)) (ofN (lenS ones)))) (br (leI 0 (16 : Int)) (br (andB (leI 0 (andI .u32 (shrI .u32 (m : Int) (16 : Int)) (255 : Int))) (ltI (andI .u32 (shrI .u32 (m : Int) (16 : Int)) (255 : Int)) (ofN (lenS ones)))) (br (leI 0 (8 : Int)) (br (andB (leI 0 (andI .u32 (shrI .u32 (m : Int) (8 : Int)) (255 : Int))) (ltI (andI .u32 (shrI .u32 (m : Int) (8 : Int)) (255 : Int)) (ofN (lenS ones)))) (br (andB (leI 0 (andI .u32 (m : Int) (255 : Int))) (ltI (andI .u32 (m : Int) (255 : Int)) (ofN (lenS ones)))) (some (wrapI .i64 (addI .u8 (addI .u8 (addI .u8 (getS ones (toN (shrI .u32 (m : Int) (24 : Int)))) (getS ones (toN (andI .u32 (shrI .u32 (m : Int) (16 : Int)) (255 : Int))))) (getS ones (toN (andI .u32 (shrI .u32 (m : Int) (8 : Int)) (255 : Int))))) (getS ones (toN (andI .u32 (m : Int) (255 : Int))))))) none) none) none) none) none) none) none := math_bits_OnesCount32.eq (m : Int)
  rw [key]
  clear key
  have s24 : shrI .u32 (m : Int) (24 : Int) = ((m / 16777216 : Nat) : Int) := shr_div m 24 .u32 (by decide)
  have s16 : shrI .u32 (m : Int) (16 : Int) = ((m / 65536 : Nat) : Int) := shr_div m 16 .u32 (by decide)
  have s8 : shrI .u32 (m : Int) (8 : Int) = ((m / 256 : Nat) : Int) := shr_div m 8 .u32 (by decide)
  have e255 : (255 : Int) = ((255 : Nat) : Int) := rfl
  rw [s24, s16, s8]
  have a1 : andI .u32 ((m / 65536 : Nat) : Int) (255 : Int) = ((m / 65536 % 256 : Nat) : Int) := by
    rw [e255, and_u32 _ _ (by omega) (by omega), show (255 : Nat) = 2 ^ 8 - 1 by rfl, Nat.and_two_pow_sub_one_eq_mod]
  have a2 : andI .u32 ((m / 256 : Nat) : Int) (255 : Int) = ((m / 256 % 256 : Nat) : Int) := by
    rw [e255, and_u32 _ _ (by omega) (by omega), show (255 : Nat) = 2 ^ 8 - 1 by rfl, Nat.and_two_pow_sub_one_eq_mod]
  have a3 : andI .u32 (m : Int) (255 : Int) = ((m % 256 : Nat) : Int) := by
    rw [e255, and_u32 _ _ (by omega) (by omega), show (255 : Nat) = 2 ^ 8 - 1 by rfl, Nat.and_two_pow_sub_one_eq_mod]
  rw [a1, a2, a3]
  simp only [getS_bt]
  rw [cnt_tab _ (show m / 16777216 < 256 by omega), cnt_tab _ (show m / 65536 % 256 < 256 by omega), cnt_tab _ (show m / 256 % 256 < 256 by omega), cnt_tab _ (show m % 256 < 256 by omega)]
  simp only [ones_len, ofN_d, ltI_d, leI_d, andB_d, br_if]
  have l0 := cnt_le 8 (m / 16777216)
  have l1 := cnt_le 8 (m / 65536 % 256)
  have l2 := cnt_le 8 (m / 256 % 256)
  have l3 := cnt_le 8 (m % 256)
  have w : ∀ n : Nat, n < 256 → IntKind.u8.wrap (n : Int) = n := fun n hn => by simp [IntKind.wrap, IntKind.bits, IntKind.signed]; omega
  rw [if_pos (by omega), if_pos (by omega), if_pos (by omega), if_pos (by omega), if_pos (by omega), if_pos (by omega), if_pos (by omega)]
  refine some_int ?_
  rw [cnt_four m]
  have d1 : addI .u8 (cnt 8 (m / 16777216) : Int) (cnt 8 (m / 65536 % 256) : Int) = ((cnt 8 (m / 16777216) + cnt 8 (m / 65536 % 256) : Nat) : Int) := by
    unfold addI; rw [← Int.natCast_add, w _ (by omega)]
  rw [d1]
  have d2 : addI .u8 ((cnt 8 (m / 16777216) + cnt 8 (m / 65536 % 256) : Nat) : Int) (cnt 8 (m / 256 % 256) : Int) = ((cnt 8 (m / 16777216) + cnt 8 (m / 65536 % 256) + cnt 8 (m / 256 % 256) : Nat) : Int) := by
    unfold addI; rw [← Int.natCast_add, w _ (by omega)]
  rw [d2]
  have d3 : addI .u8 ((cnt 8 (m / 16777216) + cnt 8 (m / 65536 % 256) + cnt 8 (m / 256 % 256) : Nat) : Int) (cnt 8 (m % 256) : Int) = ((cnt 8 (m / 16777216) + cnt 8 (m / 65536 % 256) + cnt 8 (m / 256 % 256) + cnt 8 (m % 256) : Nat) : Int) := by
    unfold addI; rw [← Int.natCast_add, w _ (by omega)]
  rw [d3]
  exact wrap_i64_id (by omega) (by omega)
theorem count_any (m : Nat) (hm : m < 4294967296) : mask_Count m = some ((allI m).length : Int) := by
  rw [mask_Count.eq, ones_any m hm, bnd_some, allI_len]
theorem refhas_loop (m : Nat) (hm : m < 4294967296) (i : Int) (d : Nat) : ∀ (j : Nat), j ≤ 32 → 32 - j = d → ref06_Has.l0 ((m / 2 ^ j : Nat) : Int) i j = some (decide ((j : Int) ≤ i ∧ i < 32) && m.testBit i.toNat) := by
  induction d with
  | zero =>
    intro j hj hd
    rw [ref06_Has.l0.eq]
    simp only [ltI_d, br_if]
    rw [if_neg (by omega)]
    have : ¬ ((j : Int) ≤ i ∧ i < 32) := by omega
    simp [this]
  | succ d ih =>
    intro j hj hd
    rw [ref06_Has.l0.eq]
    simp only [ltI_d, eqI_d, notB_d, br_if]
    have hdiv : m / 2 ^ j ≤ m := Nat.div_le_self _ _
    have e1 : remI ((m / 2 ^ j : Nat) : Int) 2 = ((m / 2 ^ j % 2 : Nat) : Int) := by unfold remI; rw [Int.tmod_eq_emod_of_nonneg (Int.natCast_nonneg _)]; rfl
    have e2 : quoI .u32 ((m / 2 ^ j : Nat) : Int) 2 = ((m / 2 ^ (j + 1) : Nat) : Int) := by
      unfold quoI
      rw [Int.tdiv_eq_ediv_of_nonneg (Int.natCast_nonneg _), Nat.pow_succ, ← Nat.div_div_eq_div_mul, IntKind.wrap_u32]
      generalize m / 2 ^ j = q at hdiv ⊢
      omega
    have hb : m.testBit j = decide (m / 2 ^ j % 2 = 1) := Nat.testBit_eq_decide_div_mod_eq
    rw [if_pos (by omega), if_pos (by omega), e1, e2, add1 j (by omega), ih (j + 1) (by omega) (by omega)]
    simp only [if_pos (show ¬ (2 : Int) = 0 by omega)]
    by_cases g : m / 2 ^ j % 2 = 1
    · rw [if_pos (by omega)]
      by_cases q : (j : Int) = i
      · rw [if_pos q, ← q, Int.toNat_natCast, hb, decide_eq_true g, decide_eq_true (by omega)]
        rfl
      · rw [if_neg q]
        refine some_bool ?_
        congr 1
        exact decide_eq_decide.2 (by omega)
    · rw [if_neg (by omega)]
      by_cases q : (j : Int) = i
      · rw [← q, Int.toNat_natCast, hb, decide_eq_false g]
        simp
      · refine some_bool ?_
        congr 1
        exact decide_eq_decide.2 (by omega)
theorem refhas_any (m : Nat) (hm : m < 4294967296) (i : Int) : ref06_Has m i = some (hasM m i) := by
  rw [ref06_Has.eq]
  unfold hasM
  have := refhas_loop m hm i 32 0 (by omega) (by omega)
  simp only [Nat.pow_zero, Nat.div_one, Int.cast_ofNat_Int] at this
  exact this
theorem refall_loop (m : Nat) (hm : m < 4294967296) (d : Nat) : ∀ (j : Nat), j ≤ 32 → 32 - j = d →
    ref06_All.l0 m j (((List.range j).filter fun x => m.testBit x).map fun x : Nat => (x : Int)) = some (allI m) := by
  induction d with
  | zero =>
    intro j hj hd
    rw [ref06_All.l0.eq]
    simp only [ltI_d, br_if]
    rw [if_neg (by omega), show j = 32 by omega]
    rfl
  | succ d ih =>
    intro j hj hd
    rw [ref06_All.l0.eq]
    simp only [ltI_d, br_if]
    rw [if_pos (by omega), refhas_any m hm j, bnd_some, br_b, add1 j (by omega)]
    have := ih (j + 1) (by omega) (by omega)
    rw [List.range_succ, List.filter_append, List.map_append] at this
    have hl : (((List.range j).filter fun x => m.testBit x).map fun x : Nat => (x : Int)).length ≤ 32 := by
      rw [List.length_map]
      have := List.length_filter_le (fun x => m.testBit x) (List.range j)
      simp at this
      omega
    have hh : hasM m (j : Int) = m.testBit j := by
      unfold hasM
      rw [Int.toNat_natCast, decide_eq_true (by omega)]
      rfl
    rw [hh]
    by_cases g : m.testBit j = true
    · rw [if_pos g]
      simp only [fitL_d, appL_d, br_if]
      rw [if_pos (by rw [List.length_append]; show _ + 1 ≤ _; omega)]
      have e : [j].filter (fun x => m.testBit x) = [j] := by simp [g]
      rw [e] at this
      exact this
    · rw [if_neg g]
      have e : [j].filter (fun x => m.testBit x) = [] := by simp [g]
      rw [e] at this
      simpa using this
theorem refall_any (m : Nat) (hm : m < 4294967296) : ref06_All m = some (allI m) := by
  rw [ref06_All.eq]
  have := refall_loop m hm 32 0 (by omega) (by omega)
  simpa using this
end Go.Proofs.YtimgaglpempfeaaGreat.AB
set_option linter.unusedVariables false
set_option linter.unusedSimpArgs false
namespace Go.Proofs.YtimgaglpempfeaaGreat.AB
open Go.Abs
/-- A binding, and one's texts cut short. -/
abbrev PairV : Type := ByteArray × ByteArray × Unit
theorem ixP (l : List PairV) (i : Nat) (h : i < l.length) : ixL tapiPair l (i : Int) = l[i] := ixL_d tapiPair l i h
theorem ixR (l : List Int) (i : Nat) (h : i < l.length) : ixL (.int .i64) l (i : Int) = l[i] := ixL_d (.int .i64) l i h
def cutP (p : PairV) : PairV := (cut 40 p.1, (cut 40 p.2.1, ()))
def fewL (l : List PairV) : List PairV := (l.take 40).map cutP
theorem few_loop (l : List PairV) (hl : l.length ≤ 9223372036854775807) (d : Nat) : ∀ (i : Nat), i ≤ l.length → i ≤ 40 → min l.length 40 - i = d → law07_Few.l0 l i ((l.take i).map cutP) = some (fewL l) := by
  have stop : ∀ i : Nat, i ≤ l.length → i ≤ 40 → min l.length 40 = i → some ((l.take i).map cutP) = some (fewL l) := by
    intro i h1 h2 h3
    unfold fewL
    by_cases h : l.length ≤ 40
    · rw [List.take_of_length_le (show l.length ≤ i by omega), List.take_of_length_le h]
    · rw [show i = 40 by omega]
  induction d with
  | zero =>
    intro i h1 h2 h3
    rw [law07_Few.l0.eq]
    simp only [ltI_d, ofN_d, lenL_d, br_if]
    have hs := stop i h1 h2 (by omega)
    by_cases hi : i < l.length
    · rw [if_pos (by omega), show decide ((i : Int) < 40) = false from decide_eq_false (by omega), law07_Few.j1.eq, br_f]
      exact hs
    · rw [if_neg (by omega), law07_Few.j1.eq, br_f]
      exact hs
  | succ d ih =>
    intro i h1 h2 h3
    have hi : i < l.length := by omega
    rw [law07_Few.l0.eq]
    simp only [ltI_d, ofN_d, lenL_d, br_if]
    rw [if_pos (by omega), show decide ((i : Int) < 40) = true from decide_eq_true (by omega), law07_Few.j1.eq, br_t]
    simp only [ltI_d, leI_d, ofN_d, lenL_d, andB_d, br_if, fitL_d, appL_d]
    rw [if_pos (by omega), if_pos (by omega), ixP l i hi, base_Cut_40, bnd_some, base_Cut_40, bnd_some]
    have hlen : ((l.take i).map cutP).length = i := by simp; omega
    rw [if_pos (by rw [List.length_append, hlen]; show i + 1 ≤ _; omega), add1 i (by omega)]
    have := ih (i + 1) (by omega) (by omega) (by omega)
    rw [List.take_succ_eq_append_getElem hi, List.map_append] at this
    exact this
theorem few_any (l : List PairV) (hl : l.length ≤ 9223372036854775807) : law07_Few l = some (fewL l) := by
  rw [law07_Few.eq]
  have := few_loop l hl (min l.length 40) 0 (by omega) (by omega) (by omega)
  rw [List.take_zero, List.map_nil, show ((0 : Nat) : Int) = 0 from rfl] at this
  exact this
theorem fewL_len (l : List PairV) : (fewL l).length ≤ 40 := by unfold fewL; simp; omega
theorem fewL_fewL (l : List PairV) : fewL (fewL l) = fewL l := by
  unfold fewL
  rw [List.take_of_length_le (by simp; omega), List.map_map]
  refine List.map_congr_left fun p _ => ?_
  show (cut 40 (cut 40 p.1), (cut 40 (cut 40 p.2.1), ())) = (cut 40 p.1, (cut 40 p.2.1, ()))
  rw [cut_cut, cut_cut]
/-- Texts that are short enough for all that is reckoned with them. -/
def okP (p : PairV) : Prop := p.1.size ≤ 40 ∧ p.2.1.size ≤ 40
theorem fewL_ok (l : List PairV) : ∀ p ∈ fewL l, okP p := by
  intro p hp
  unfold fewL at hp
  obtain ⟨q, _, rfl⟩ := List.mem_map.1 hp
  constructor <;> (show (cut 40 _).size ≤ 40; rw [cut_size]; omega)
/-! ### In order -/
def isS : List PairV → Bool
  | a :: b :: r => lt a.1 b.1 && isS (b :: r)
  | _ => true
theorem isS_drop (l : List PairV) (i : Nat) (h0 : 0 < i) (hi : i < l.length) : isS (l.drop (i - 1)) = (lt l[i-1].1 l[i].1 && isS (l.drop i)) := by
  rw [List.drop_eq_getElem_cons (show i - 1 < l.length by omega), show i - 1 + 1 = i by omega, List.drop_eq_getElem_cons hi]
  rfl
theorem isS_end (l : List PairV) (i : Nat) (hi : l.length ≤ i + 1) : isS (l.drop i) = true := by
  have : (l.drop i).length ≤ 1 := by rw [List.length_drop]; omega
  generalize l.drop i = r at this
  match r, this with
  | [], _ => rfl
  | [a], _ => rfl
  | _ :: _ :: _, h => exact absurd h (by simp)
theorem is_loop (l : List PairV) (hl : l.length ≤ 50000000) (hs : ∀ p ∈ l, okP p) (d : Nat) : ∀ (i : Nat), 0 < i → i ≤ l.length → l.length - i = d → pair_Is.l0 l l.length i = some (isS (l.drop (i - 1))) := by
  induction d with
  | zero =>
    intro i h0 h1 h2
    rw [pair_Is.l0.eq]
    simp only [ltI_d, br_if]
    rw [if_neg (by omega), isS_end l (i - 1) (by omega)]
  | succ d ih =>
    intro i h0 h1 h2
    have hi : i < l.length := by omega
    rw [pair_Is.l0.eq]
    simp only [ltI_d, leI_d, ofN_d, lenL_d, andB_d, br_if]
    have ha := (hs _ (List.getElem_mem (show i - 1 < l.length by omega))).1
    rw [if_pos (by omega), if_pos (by omega), sub1 i h0 (by omega), if_pos (by omega), if_pos (by omega), ixP l i hi, ixP l (i - 1) (by omega), compare_any _ _ (by omega), bnd_some, add1 i (by omega), isS_drop l i h0 hi]
    by_cases hc : lt l[i-1].1 l[i].1 = true
    · rw [if_neg (by have := cmp_neg.2 hc; omega), hc, Bool.true_and]
      have := ih (i + 1) (by omega) (by omega) (by omega)
      rw [show i + 1 - 1 = i by omega] at this
      exact this
    · have hc' : lt l[i-1].1 l[i].1 = false := by simpa using hc
      rw [if_pos (by have : ¬ cmp l[i-1].1 l[i].1 < 0 := fun h => hc (cmp_neg.1 h); omega), hc', Bool.false_and]
theorem is_any (l : List PairV) (hl : l.length ≤ 50000000) (hs : ∀ p ∈ l, okP p) : pair_Is l = some (isS l) := by
  rw [pair_Is.eq]
  simp only [ofN_d, lenL_d]
  by_cases h : l.length = 0
  · rw [pair_Is.l0.eq]
    simp only [ltI_d, br_if]
    rw [if_neg (by omega), List.eq_nil_of_length_eq_zero h]
    rfl
  · rw [pair_Is.l0.eq]
    simp only [ltI_d, br_if]
    rw [if_pos (by omega), if_neg (by omega)]
    have := is_loop l hl hs (l.length - 1) 1 (by omega) (by omega) rfl
    rw [show (1 : Nat) - 1 = 0 by omega, List.drop_zero] at this
    have e : addI .i64 0 1 = ((1 : Nat) : Int) := add1 0 (by omega)
    rw [e]
    exact this
theorem refis_loop (l : List PairV) (hl : l.length ≤ 50000000) (hs : ∀ p ∈ l, okP p) (d : Nat) : ∀ (i : Nat), 0 < i → l.length - i = d → ref07_Is.l0 l i = some (isS (l.drop (i - 1))) := by
  induction d with
  | zero =>
    intro i h0 h2
    rw [ref07_Is.l0.eq]
    simp only [ltI_d, ofN_d, lenL_d, br_if]
    rw [if_neg (by omega), isS_end l (i - 1) (by omega)]
  | succ d ih =>
    intro i h0 h2
    have hi : i < l.length := by omega
    rw [ref07_Is.l0.eq]
    simp only [ltI_d, leI_d, ofN_d, lenL_d, andB_d, br_if]
    have ha := (hs _ (List.getElem_mem (show i - 1 < l.length by omega))).1
    rw [if_pos (by omega), sub1 i h0 (by omega), if_pos (by omega), if_pos (by omega), ixP l i hi, ixP l (i - 1) (by omega), less_any _ _ (by omega), bnd_some, add1 i (by omega), isS_drop l i h0 hi]
    by_cases hc : lt l[i-1].1 l[i].1 = true
    · rw [hc, Bool.true_and]
      have := ih (i + 1) (by omega) (by omega)
      rw [show i + 1 - 1 = i by omega] at this
      rw [show notB true = false from rfl, br_f]
      exact this
    · have hc' : lt l[i-1].1 l[i].1 = false := by simpa using hc
      rw [hc', Bool.false_and, show notB false = true from rfl, br_t]
theorem refis_any (l : List PairV) (hl : l.length ≤ 50000000) (hs : ∀ p ∈ l, okP p) : ref07_Is l = some (isS l) := by
  rw [ref07_Is.eq]
  have := refis_loop l hl hs (l.length - 1) 1 (by omega) rfl
  rw [show (1 : Nat) - 1 = 0 by omega, List.drop_zero] at this
  exact this
/-! ### Alike -/
theorem eq_pair (p q : PairV) : andB (eqS p.1 q.1) (andB (eqS p.2.1 q.2.1) true) = decide (p = q) := by
  obtain ⟨a, b, _⟩ := p
  obtain ⟨c, d, _⟩ := q
  rw [eqS_d, eqS_d, show (true : Bool) = decide True from rfl, andB_d, andB_d]
  refine decide_eq_decide.2 ⟨fun ⟨h1, h2, _⟩ => ?_, fun h => ?_⟩
  · have h1 : a = c := h1
    have h2 : b = d := h2
    show (a, b, ()) = (c, d, ())
    rw [h1, h2]
  · injection h with h1 h2
    injection h2 with h2 h3
    exact ⟨h1, h2, trivial⟩
theorem drop_eq_iff {A : Type} {l m : List A} {i : Nat} (hl : i < l.length) (hm : i < m.length) : l.drop i = m.drop i ↔ l[i] = m[i] ∧ l.drop (i + 1) = m.drop (i + 1) := by
  rw [List.drop_eq_getElem_cons hl, List.drop_eq_getElem_cons hm, List.cons.injEq]
theorem equalP_loop (l m : List PairV) (hl : l.length ≤ 50000000) (hm : l.length = m.length) (d : Nat) : ∀ (i : Nat), i ≤ l.length → l.length - i = d → slices_Equalapi_Pair_api_Pair.l0 l m l.length i = some (decide (l.drop i = m.drop i)) := by
  induction d with
  | zero =>
    intro i h1 h2
    rw [slices_Equalapi_Pair_api_Pair.l0.eq]
    simp only [ltI_d, br_if]
    rw [if_neg (by omega), List.drop_eq_nil_of_le (by omega), List.drop_eq_nil_of_le (by omega), decide_eq_true rfl]
  | succ d ih =>
    intro i h1 h2
    rw [slices_Equalapi_Pair_api_Pair.l0.eq]
    simp only [ltI_d, leI_d, ofN_d, lenL_d, andB_d, eq_pair, notB_d, br_if]
    rw [if_pos (by omega), if_pos (by omega), if_pos (by omega), ixP l i (by omega), ixP m i (by omega), add1 i (by omega), ih (i + 1) (by omega) (by omega)]
    by_cases e : l[i] = m[i]
    · rw [if_neg (by intro h; exact h e)]
      exact some_bool (decide_eq_decide.2 (by rw [drop_eq_iff (show i < l.length by omega) (show i < m.length by omega)]; simp [e]))
    · rw [if_pos e]
      exact some_bool (decide_eq_false (by rw [drop_eq_iff (show i < l.length by omega) (show i < m.length by omega)]; exact fun h => e h.1)).symm
theorem equalP_any (l m : List PairV) (hl : l.length ≤ 50000000) : slices_Equalapi_Pair_api_Pair l m = some (decide (l = m)) := by
  rw [slices_Equalapi_Pair_api_Pair.eq]
  simp only [ofN_d, lenL_d, eqI_d, notB_d, br_if]
  by_cases h : l.length = m.length
  · rw [if_neg (by omega)]
    exact equalP_loop l m hl h l.length 0 (by omega) (by omega)
  · rw [if_pos (by omega)]
    exact some_bool (decide_eq_false (fun e => h (by rw [e]))).symm
theorem equalR_loop (l m : List Int) (hl : l.length ≤ 50000000) (hm : l.length = m.length) (d : Nat) : ∀ (i : Nat), i ≤ l.length → l.length - i = d → slices_Equalapi_Ref_api_Ref.l0 l m l.length i = some (decide (l.drop i = m.drop i)) := by
  induction d with
  | zero =>
    intro i h1 h2
    rw [slices_Equalapi_Ref_api_Ref.l0.eq]
    simp only [ltI_d, br_if]
    rw [if_neg (by omega), List.drop_eq_nil_of_le (by omega), List.drop_eq_nil_of_le (by omega), decide_eq_true rfl]
  | succ d ih =>
    intro i h1 h2
    rw [slices_Equalapi_Ref_api_Ref.l0.eq]
    simp only [ltI_d, leI_d, ofN_d, lenL_d, andB_d, eqI_d, notB_d, br_if]
    rw [if_pos (by omega), if_pos (by omega), if_pos (by omega), ixR l i (by omega), ixR m i (by omega), add1 i (by omega), ih (i + 1) (by omega) (by omega)]
    by_cases e : l[i] = m[i]
    · rw [if_neg (by intro h; exact h e)]
      exact some_bool (decide_eq_decide.2 (by rw [drop_eq_iff (show i < l.length by omega) (show i < m.length by omega)]; simp [e]))
    · rw [if_pos e]
      exact some_bool (decide_eq_false (by rw [drop_eq_iff (show i < l.length by omega) (show i < m.length by omega)]; exact fun h => e h.1)).symm
theorem equalR_any (l m : List Int) (hl : l.length ≤ 50000000) : slices_Equalapi_Ref_api_Ref l m = some (decide (l = m)) := by
  rw [slices_Equalapi_Ref_api_Ref.eq]
  simp only [ofN_d, lenL_d, eqI_d, notB_d, br_if]
  by_cases h : l.length = m.length
  · rw [if_neg (by omega)]
    exact equalR_loop l m hl h l.length 0 (by omega) (by omega)
  · rw [if_pos (by omega)]
    exact some_bool (decide_eq_false (fun e => h (by rw [e]))).symm
/-! ### Copies -/
theorem cloneP_any (l : List PairV) (hl : l.length ≤ 50000000) : slices_Cloneapi_Pair_api_Pair l = some ((), (l, ())) := by
  rw [slices_Cloneapi_Pair_api_Pair.eq]
  simp only [ofN_d, lenL_d, eqI_d, br_if, fitL_d, appL_d, List.nil_append]
  by_cases h : l.length = 0
  · rw [if_pos (by omega), if_pos (by omega), List.eq_nil_of_length_eq_zero h, both_self]
  · rw [if_neg (by omega), if_pos (by omega)]
theorem cloneR_any (l : List Int) (hl : l.length ≤ 50000000) : slices_Cloneapi_Ref_api_Ref l = some ((), (l, ())) := by
  rw [slices_Cloneapi_Ref_api_Ref.eq]
  simp only [ofN_d, lenL_d, eqI_d, br_if, fitL_d, appL_d, List.nil_append]
  by_cases h : l.length = 0
  · rw [if_pos (by omega), if_pos (by omega), List.eq_nil_of_length_eq_zero h, both_self]
  · rw [if_neg (by omega), if_pos (by omega)]
/-! ### Is one there? -/
theorem indexR_loop (l : List Int) (x : Int) (hl : l.length ≤ 50000000) (d : Nat) : ∀ (i : Nat), i ≤ l.length → l.length - i = d → ∃ r : Int, slices_Indexapi_Ref_api_Ref.l0 l x l.length i = some r ∧ (0 ≤ r ↔ x ∈ l.drop i) := by
  induction d with
  | zero =>
    intro i h1 h2
    rw [slices_Indexapi_Ref_api_Ref.l0.eq]
    simp only [ltI_d, br_if]
    rw [if_neg (by omega), List.drop_eq_nil_of_le (by omega)]
    exact ⟨_, rfl, by simp⟩
  | succ d ih =>
    intro i h1 h2
    rw [slices_Indexapi_Ref_api_Ref.l0.eq]
    simp only [ltI_d, leI_d, ofN_d, lenL_d, andB_d, eqI_d, br_if]
    rw [if_pos (by omega), if_pos (by omega), ixR l i (by omega), add1 i (by omega), List.drop_eq_getElem_cons (show i < l.length by omega)]
    by_cases e : x = l[i]
    · rw [if_pos e]
      exact ⟨_, rfl, fun _ => by rw [e]; exact List.mem_cons_self, fun _ => Int.natCast_nonneg i⟩
    · rw [if_neg e]
      obtain ⟨r, h3, h4⟩ := ih (i + 1) (by omega) (by omega)
      exact ⟨r, h3, by rw [h4, List.mem_cons]; exact ⟨Or.inr, fun h => h.resolve_left e⟩⟩
theorem containsR_any (l : List Int) (x : Int) (hl : l.length ≤ 50000000) : slices_Containsapi_Ref_api_Ref l x = some (decide (x ∈ l)) := by
  rw [slices_Containsapi_Ref_api_Ref.eq, slices_Indexapi_Ref_api_Ref.eq]
  simp only [ofN_d, lenL_d]
  obtain ⟨r, h1, h2⟩ := indexR_loop l x hl l.length 0 (by omega) (by omega)
  rw [show ((0 : Nat) : Int) = 0 from rfl] at h1
  rw [h1, bnd_some, leI_d]
  exact some_bool (decide_eq_decide.2 (by rw [h2, List.drop_zero]))
/-- Is a text of a binding too long? -/
def longP (p : PairV) : Bool := decide (16 < p.1.size) || decide (16 < p.2.1.size)
theorem long1_any (p : PairV) : node_long_1 p = some (longP p) := by
  rw [node_long_1.eq]
  simp only [ltI_d, ofN_d, lenS_d, br_if]
  unfold longP
  by_cases h : 16 < p.1.size
  · rw [if_pos (by omega), decide_eq_true h]; rfl
  · rw [if_neg (by omega), decide_eq_false h, Bool.false_or]
    exact some_bool (decide_eq_decide.2 (by omega))
theorem indexP_loop (l : List PairV) (hl : l.length ≤ 50000000) (d : Nat) : ∀ (i : Nat), i ≤ l.length → l.length - i = d → ∃ r : Int, slices_IndexFuncapi_Pair_api_Pair.l0 l l.length i = some r ∧ (0 ≤ r ↔ (l.drop i).any longP = true) := by
  induction d with
  | zero =>
    intro i h1 h2
    rw [slices_IndexFuncapi_Pair_api_Pair.l0.eq]
    simp only [ltI_d, br_if]
    rw [if_neg (by omega), List.drop_eq_nil_of_le (by omega)]
    exact ⟨_, rfl, by simp⟩
  | succ d ih =>
    intro i h1 h2
    rw [slices_IndexFuncapi_Pair_api_Pair.l0.eq]
    simp only [ltI_d, leI_d, ofN_d, lenL_d, andB_d, eqI_d, br_if]
    rw [if_pos (by omega), if_pos (by omega), ixP l i (by omega), add1 i (by omega), List.drop_eq_getElem_cons (show i < l.length by omega), long1_any, bnd_some, br_b]
    by_cases e : longP l[i] = true
    · rw [if_pos e]
      exact ⟨_, rfl, by rw [List.any_cons, e]; simp⟩
    · rw [if_neg e]
      obtain ⟨r, h3, h4⟩ := ih (i + 1) (by omega) (by omega)
      have e' : longP l[i] = false := by simpa using e
      exact ⟨r, h3, by rw [h4, List.any_cons, e', Bool.false_or]⟩
theorem longL_any (l : List PairV) (hl : l.length ≤ 50000000) : slices_ContainsFuncapi_Pair_api_Pair l = some (l.any longP) := by
  rw [slices_ContainsFuncapi_Pair_api_Pair.eq, slices_IndexFuncapi_Pair_api_Pair.eq]
  simp only [ofN_d, lenL_d]
  obtain ⟨r, h1, h2⟩ := indexP_loop l hl l.length 0 (by omega) (by omega)
  rw [show ((0 : Nat) : Int) = 0 from rfl] at h1
  rw [h1, bnd_some, leI_d]
  refine some_bool ?_
  rw [List.drop_zero] at h2
  cases h : l.any longP with
  | true => exact decide_eq_true (h2.2 h)
  | false => exact decide_eq_false (fun h3 => by rw [h2.1 h3] at h; cases h)
end Go.Proofs.YtimgaglpempfeaaGreat.AB
set_option linter.unusedVariables false
set_option linter.unusedSimpArgs false
namespace Go.Proofs.YtimgaglpempfeaaGreat.AB
open Go.Abs
/-- A binding put among others in order. -/
def putS : List PairV → PairV → List PairV
  | [], p => [p]
  | q :: qs, p => if lt q.1 p.1 = true then q :: putS qs p else if q.1 = p.1 then p :: qs else p :: q :: qs
/-- Bindings put in order; the last one with a key stays. -/
def makeS (l : List PairV) : List PairV := l.foldl putS []
def Srt (l : List PairV) : Prop := l.Pairwise fun a b => lt a.1 b.1 = true
theorem putS_len (p : PairV) : ∀ l, (putS l p).length ≤ l.length + 1
  | [] => by simp [putS]
  | q :: qs => by
    have := putS_len p qs
    unfold putS
    split
    · simp; omega
    · split <;> simp
theorem putS_mem {p x : PairV} : ∀ {l : List PairV}, x ∈ putS l p → x = p ∨ x ∈ l
  | [], h => by simp [putS] at h; exact .inl h
  | q :: qs, h => by
    unfold putS at h
    split at h
    · rcases List.mem_cons.1 h with h | h
      · exact .inr (h ▸ List.mem_cons_self)
      · exact (putS_mem h).imp id (List.mem_cons_of_mem _)
    · split at h
      · rcases List.mem_cons.1 h with h | h
        · exact .inl h
        · exact .inr (List.mem_cons_of_mem _ h)
      · rcases List.mem_cons.1 h with h | h
        · exact .inl h
        · exact .inr h
theorem putS_srt (p : PairV) : ∀ {l : List PairV}, Srt l → Srt (putS l p)
  | [], _ => List.pairwise_singleton _ _
  | q :: qs, h => by
    obtain ⟨h1, h2⟩ := List.pairwise_cons.1 h
    unfold putS
    split
    · rename_i hl
      refine List.pairwise_cons.2 ⟨fun x hx => ?_, putS_srt p h2⟩
      rcases putS_mem hx with rfl | hx
      · exact hl
      · exact h1 x hx
    · rename_i hl
      split
      · rename_i he
        exact List.pairwise_cons.2 ⟨fun x hx => he ▸ h1 x hx, h2⟩
      · rename_i he
        have hlt : lt p.1 q.1 = true := (lt_total (fun e => he e.symm)).resolve_right hl
        refine List.pairwise_cons.2 ⟨fun x hx => ?_, h⟩
        rcases List.mem_cons.1 hx with rfl | hx
        · exact hlt
        · exact lt_trans hlt (h1 x hx)
/-- Where it is put. -/
theorem putS_at (p : PairV) : ∀ (l : List PairV) (i : Nat), i ≤ l.length → (∀ (a : Nat) (h : a < l.length), a < i → lt l[a].1 p.1 = true) → (∀ (h : i < l.length), lt l[i].1 p.1 = false) →
    putS l p = if ∃ h : i < l.length, l[i].1 = p.1 then l.set i p else l.take i ++ p :: l.drop i
  | [], i, h0, _, _ => by
    have : i = 0 := by simpa using h0
    subst this
    rw [if_neg (by rintro ⟨h, _⟩; simp at h)]
    rfl
  | q :: qs, 0, _, _, h2 => by
    have hq : lt q.1 p.1 = false := h2 (by simp)
    unfold putS
    rw [if_neg (by rw [hq]; simp)]
    by_cases he : q.1 = p.1
    · rw [if_pos he, if_pos ⟨by simp, he⟩]; rfl
    · rw [if_neg he, if_neg (by rintro ⟨_, h⟩; exact he h)]; rfl
  | q :: qs, i + 1, h0, h1, h2 => by
    have hq : lt q.1 p.1 = true := h1 0 (by simp) (by omega)
    unfold putS
    rw [if_pos hq, putS_at p qs i (by simpa using h0) (fun a h ha => h1 (a + 1) (by simpa using h) (by omega)) (fun h => h2 (by simpa using h))]
    by_cases he : ∃ h : i < qs.length, qs[i].1 = p.1
    · rw [if_pos he, if_pos (by obtain ⟨h, e⟩ := he; exact ⟨by simpa using h, e⟩)]; rfl
    · rw [if_neg he, if_neg (by rintro ⟨h, e⟩; exact he ⟨by simpa using h, e⟩)]; rfl
theorem srt_get {l : List PairV} (h : Srt l) {a b : Nat} (hb : b < l.length) (hab : a < b) : lt l[a].1 l[b].1 = true := List.pairwise_iff_getElem.1 h a b (by omega) hb hab
theorem wrap_u64_id {x : Int} (h0 : 0 ≤ x) (h1 : x < 18446744073709551616) : IntKind.u64.wrap x = x := by
  have : IntKind.u64.wrap x = x % 18446744073709551616 := by simp [IntKind.wrap, IntKind.bits, IntKind.signed]
  rw [this]; omega
theorem mid (i j : Nat) (h : i + j ≤ 100000000) : wrapI .i64 (shrI .u64 (wrapI .u64 (addI .i64 (i : Int) (j : Int))) 1) = (((i + j) / 2 : Nat) : Int) := by
  rw [addI_d (by omega) (by omega)]
  unfold wrapI
  rw [wrap_u64_id (by omega) (by omega), show ((i : Int) + (j : Int)) = ((i + j : Nat) : Int) by omega]
  have := shr_div (i + j) 1 .u64 (by decide)
  rw [show ((1 : Nat) : Int) = 1 from rfl, Nat.pow_one] at this
  rw [this]
  exact wrap_i64_id (by omega) (by omega)
theorem place1_any (p : PairV) (k : ByteArray) (hp : okP p) : pair_place_1 p k = some (cmp p.1 k) := by
  rw [pair_place_1.eq, compare_any _ _ (by have := hp.1; omega), bnd_some]
theorem search_loop (l : List PairV) (k : ByteArray) (hl : l.length ≤ 50000000) (hs : ∀ p ∈ l, okP p) (hS : Srt l) : ∀ (d i j : Nat), j - i ≤ d → i ≤ j → j ≤ l.length → (∀ (a : Nat) (h : a < l.length), a < i → lt l[a].1 k = true) → (∀ (a : Nat) (h : a < l.length), j ≤ a → lt l[a].1 k = false) →
    ∃ pos : Nat, slices_BinarySearchFuncapi_Pair_api_Pair_string.l0 l k l.length i j = some ((pos : Int), (decide (∃ h : pos < l.length, l[pos].1 = k), ())) ∧ pos ≤ l.length ∧ (∀ (a : Nat) (h : a < l.length), a < pos → lt l[a].1 k = true) ∧ (∀ (a : Nat) (h : a < l.length), pos ≤ a → lt l[a].1 k = false) := by
  intro d
  induction d with
  | zero =>
    intro i j h0 h1 h2 h3 h4
    have hij : j = i := by omega
    subst hij
    rw [slices_BinarySearchFuncapi_Pair_api_Pair_string.l0.eq]
    simp only [ltI_d, leI_d, ofN_d, lenL_d, andB_d, eqI_d, br_if]
    rw [if_neg (by omega)]
    by_cases hn : j < l.length
    · rw [if_pos (by omega), if_pos (by omega), ixP l j hn, place1_any _ _ (hs _ (List.getElem_mem hn)), bnd_some]
      refine ⟨j, ?_, h2, h3, h4⟩
      have : decide (cmp l[j].1 k = 0) = decide (∃ h : j < l.length, l[j].1 = k) := decide_eq_decide.2 ⟨fun h => ⟨hn, cmp_eq.1 h⟩, fun ⟨_, h⟩ => cmp_eq.2 h⟩
      rw [this]
    · rw [if_neg (by omega)]
      refine ⟨j, ?_, h2, h3, h4⟩
      have : (false : Bool) = decide (∃ h : j < l.length, l[j].1 = k) := (decide_eq_false (fun ⟨h, _⟩ => hn h)).symm
      rw [← this]
  | succ d ih =>
    intro i j h0 h1 h2 h3 h4
    by_cases hij : i = j
    · exact ih i j (by omega) h1 h2 h3 h4
    have hm := mid i j (by omega)
    have hlt : (i + j) / 2 < l.length := by omega
    rw [slices_BinarySearchFuncapi_Pair_api_Pair_string.l0.eq, hm]
    simp only [ltI_d, leI_d, ofN_d, lenL_d, andB_d, eqI_d, br_if]
    rw [if_pos (by omega), if_pos (by omega), if_pos (by omega), ixP l _ hlt, place1_any _ _ (hs _ (List.getElem_mem hlt)), bnd_some, add1 _ (by omega)]
    by_cases hc : lt l[(i + j) / 2].1 k = true
    · rw [if_pos (cmp_neg.2 hc)]
      refine ih _ j (by omega) (by omega) h2 (fun a h ha => ?_) h4
      by_cases he : a = (i + j) / 2
      · subst he; exact hc
      · exact lt_trans (srt_get hS hlt (show a < (i + j) / 2 by omega)) hc
    · rw [if_neg (fun h => hc (cmp_neg.1 h))]
      refine ih i _ (by omega) (by omega) (by omega) h3 (fun a h ha => ?_)
      cases hk : lt l[a].1 k with
      | false => rfl
      | true =>
        exfalso
        by_cases he : (i + j) / 2 = a
        · subst he; exact hc hk
        · exact hc (lt_trans (srt_get hS h (show (i + j) / 2 < a by omega)) hk)
theorem place_any (l : List PairV) (k : ByteArray) (hl : l.length ≤ 50000000) (hs : ∀ p ∈ l, okP p) (hS : Srt l) :
    ∃ pos : Nat, pair_place l k = some ((pos : Int), (decide (∃ h : pos < l.length, l[pos].1 = k), ())) ∧ pos ≤ l.length ∧ (∀ (a : Nat) (h : a < l.length), a < pos → lt l[a].1 k = true) ∧ (∀ (a : Nat) (h : a < l.length), pos ≤ a → lt l[a].1 k = false) := by
  obtain ⟨pos, h1, h2⟩ := search_loop l k hl hs hS l.length 0 l.length (by omega) (by omega) (by omega) (fun a h h' => by omega) (fun a h h' => by omega)
  refine ⟨pos, ?_, h2⟩
  rw [pair_place.eq, slices_BinarySearchFuncapi_Pair_api_Pair_string.eq]
  simp only [ofN_d, lenL_d]
  rw [show ((0 : Nat) : Int) = 0 from rfl] at h1
  rw [h1, bnd_some]
theorem put_any (l : List PairV) (p : PairV) (hl : l.length ≤ 45000000) (hs : ∀ q ∈ l, okP q) (hS : Srt l) : pair_put l p = some ((), (putS l p, ())) := by
  obtain ⟨pos, h1, h2, h3, h4⟩ := place_any l p.1 (by omega) hs hS
  have hput := putS_at p l pos h2 h3 (fun h => h4 pos h (Nat.le_refl _))
  rw [pair_put.eq, h1, bnd_some]
  simp only [br_if]
  by_cases he : ∃ h : pos < l.length, l[pos].1 = p.1
  · rw [if_pos he, cloneP_any l (by omega), bnd_some]
    simp only [ltI_d, leI_d, ofN_d, lenL_d, andB_d, br_if]
    rw [if_pos (by obtain ⟨h, _⟩ := he; omega), hput, if_pos he]
    unfold setL
    rw [Int.toNat_natCast]
  · rw [if_neg he, cloneP_any l (by omega), bnd_some, slices_Insertapi_Pair_api_Pair.eq]
    have hg : insG tapiPair l (pos : Int) [p] = true := by
      unfold insG
      refine decide_eq_true ⟨by omega, ?_, ?_, ?_⟩
      · show pos ≤ l.length; exact h2
      · show 0 < 1; omega
      · show l.length + 1 ≤ _; omega
    rw [hg, br_t, bnd_some, both_self, hput, if_neg he]
    unfold insL
    rw [Int.toNat_natCast, List.append_assoc]
    rfl
theorem putS_ok {l : List PairV} {p : PairV} (hl : ∀ q ∈ l, okP q) (hp : okP p) : ∀ q ∈ putS l p, okP q := fun q hq => by
  rcases putS_mem hq with rfl | h
  · exact hp
  · exact hl q h
theorem make_loop (l : List PairV) (hl : l.length ≤ 40000000) (hs : ∀ p ∈ l, okP p) (d : Nat) : ∀ (i : Nat) (acc : List PairV), i ≤ l.length → l.length - i = d → acc.length ≤ i → (∀ q ∈ acc, okP q) → Srt acc → pair_Make.l0 l l.length i acc = some ((l.drop i).foldl putS acc) := by
  induction d with
  | zero =>
    intro i acc h1 h2 h3 h4 h5
    rw [pair_Make.l0.eq]
    simp only [ltI_d, br_if]
    rw [if_neg (by omega), List.drop_eq_nil_of_le (by omega)]
    rfl
  | succ d ih =>
    intro i acc h1 h2 h3 h4 h5
    have hi : i < l.length := by omega
    rw [pair_Make.l0.eq]
    simp only [ltI_d, leI_d, ofN_d, lenL_d, andB_d, br_if]
    rw [if_pos (by omega), if_pos (by omega), ixP l i hi, put_any acc _ (by omega) h4 h5, bnd_some, add1 i (by omega), List.drop_eq_getElem_cons hi]
    have := putS_len l[i] acc
    exact ih (i + 1) (putS acc l[i]) (by omega) (by omega) (by omega) (putS_ok h4 (hs _ (List.getElem_mem hi))) (putS_srt _ h5)
theorem make_any (l : List PairV) (hl : l.length ≤ 40000000) (hs : ∀ p ∈ l, okP p) : pair_Make l = some (makeS l) := by
  rw [pair_Make.eq]
  simp only [ofN_d, lenL_d]
  have := make_loop l hl hs l.length 0 [] (by omega) (by omega) (by simp) (by simp) List.Pairwise.nil
  rw [List.drop_zero, show ((0 : Nat) : Int) = 0 from rfl] at this
  exact this
theorem foldl_len : ∀ (l acc : List PairV), (l.foldl putS acc).length ≤ acc.length + l.length
  | [], acc => by simp
  | p :: l, acc => by
    have h1 := foldl_len l (putS acc p)
    have h2 := putS_len p acc
    simp only [List.foldl_cons, List.length_cons]
    omega
theorem makeS_len (l : List PairV) : (makeS l).length ≤ l.length := by have := foldl_len l []; unfold makeS; simpa using this
/-- What is in order stays so. -/
theorem putS_end (p : PairV) : ∀ (l : List PairV), (∀ q ∈ l, lt q.1 p.1 = true) → putS l p = l ++ [p]
  | [], _ => rfl
  | q :: qs, h => by
    unfold putS
    rw [if_pos (h q List.mem_cons_self), putS_end p qs fun x hx => h x (List.mem_cons_of_mem _ hx)]
    rfl
theorem foldl_srt : ∀ (l acc : List PairV), Srt (acc ++ l) → l.foldl putS acc = acc ++ l
  | [], acc, _ => by simp
  | p :: l, acc, h => by
    rw [List.foldl_cons, putS_end p acc (fun q hq => (List.pairwise_append.1 h).2.2 q hq p List.mem_cons_self), foldl_srt l (acc ++ [p]) (by simpa using h)]
    simp
theorem makeS_srt {l : List PairV} (h : Srt l) : makeS l = l := by
  have := foldl_srt l [] (by simpa using h)
  simpa [makeS] using this
theorem isS_srt : ∀ {l : List PairV}, isS l = true → Srt l
  | [], _ => List.Pairwise.nil
  | [a], _ => List.pairwise_singleton _ _
  | a :: b :: r, h => by
    have h' : (lt a.1 b.1 && isS (b :: r)) = true := h
    rw [Bool.and_eq_true] at h'
    have hr := isS_srt h'.2
    refine List.pairwise_cons.2 ⟨fun x hx => ?_, hr⟩
    rcases List.mem_cons.1 hx with rfl | hx
    · exact h'.1
    · exact lt_trans h'.1 ((List.pairwise_cons.1 hr).1 x hx)
end Go.Proofs.YtimgaglpempfeaaGreat.AB
set_option linter.unusedVariables false
set_option linter.unusedSimpArgs false
namespace Go.Proofs.YtimgaglpempfeaaGreat.AB
open Go.Abs
abbrev NodeV : Type := Int × ByteArray × ByteArray × Int × List Int × Int × List PairV × Int × Int × Unit
def few (n : NodeV) : NodeV := (n.1, (cut 40 n.2.1, (cut 40 n.2.2.1, (n.2.2.2.1, (n.2.2.2.2.1.take 40, (n.2.2.2.2.2.1, (fewL n.2.2.2.2.2.2.1, n.2.2.2.2.2.2.2)))))))
/-- A node of not too many parts. -/
structure okN (n : NodeV) : Prop where
  key : n.2.1.size ≤ 40
  val : n.2.2.1.size ≤ 40
  map0 : 0 ≤ n.2.2.2.1
  map1 : n.2.2.2.1 < 4294967296
  kids : n.2.2.2.2.1.length ≤ 1000000
  list : n.2.2.2.2.2.2.1.length ≤ 1000000
  binds : ∀ p ∈ n.2.2.2.2.2.2.1, okP p
theorem wf_u32 {a : Int} (h : (Lit.int .u32 a).wf = true) : 0 ≤ a ∧ a < 4294967296 := by
  simp [Lit.wf, IntKind.min, IntKind.max, IntKind.bits, IntKind.signed] at h
  omega
theorem few_okN {n : NodeV} (h : wfD tapiNode n) : okN (few n) := by
  obtain ⟨_, _, _, hm, _⟩ := h
  obtain ⟨h0, h1⟩ := wf_u32 hm
  refine ⟨?_, ?_, h0, h1, ?_, Nat.le_trans (fewL_len _) (by omega), fewL_ok _⟩
  · show (cut 40 _).size ≤ 40; rw [cut_size]; omega
  · show (cut 40 _).size ≤ 40; rw [cut_size]; omega
  · show (List.take 40 _).length ≤ 1000000; rw [List.length_take]; omega
theorem few_few (n : NodeV) : few (few n) = few n := by
  unfold few
  dsimp only
  rw [cut_cut, cut_cut, fewL_fewL, List.take_take, Nat.min_self]
/-! ### Alike -/
theorem node_ext {a b : NodeV} : a = b ↔ a.1 = b.1 ∧ a.2.1 = b.2.1 ∧ a.2.2.1 = b.2.2.1 ∧ a.2.2.2.1 = b.2.2.2.1 ∧ a.2.2.2.2.1 = b.2.2.2.2.1 ∧ a.2.2.2.2.2.1 = b.2.2.2.2.2.1 ∧ a.2.2.2.2.2.2.1 = b.2.2.2.2.2.2.1 ∧ a.2.2.2.2.2.2.2.1 = b.2.2.2.2.2.2.2.1 ∧ a.2.2.2.2.2.2.2.2.1 = b.2.2.2.2.2.2.2.2.1 := by
  refine ⟨fun h => by subst h; exact ⟨rfl, rfl, rfl, rfl, rfl, rfl, rfl, rfl, rfl⟩, fun ⟨h1, h2, h3, h4, h5, h6, h7, h8, h9⟩ => ?_⟩
  obtain ⟨a1, a2, a3, a4, a5, a6, a7, a8, a9, _⟩ := a
  obtain ⟨b1, b2, b3, b4, b5, b6, b7, b8, b9, _⟩ := b
  dsimp only at h1 h2 h3 h4 h5 h6 h7 h8 h9
  subst h1; subst h2; subst h3; subst h4; subst h5; subst h6; subst h7; subst h8; subst h9
  rfl
instance nodeDec : DecidableEq NodeV := fun a b => decidable_of_iff _ node_ext.symm
theorem same_j0 (c : Bool) (a b : NodeV) (h : okN a) : node_Same.j0 c a b = some (c && decide (a.2.2.2.2.2.1 = b.2.2.2.2.2.1 ∧ a.2.2.2.2.2.2.2.1 = b.2.2.2.2.2.2.2.1 ∧ a.2.2.2.2.2.2.2.2.1 = b.2.2.2.2.2.2.2.2.1 ∧ a.2.2.2.2.1 = b.2.2.2.2.1 ∧ a.2.2.2.2.2.2.1 = b.2.2.2.2.2.2.1)) := by
  have hk := h.kids
  have hl := h.list
  rw [node_Same.j0.eq]
  cases c with
  | false => rw [br_f, Bool.false_and]
  | true =>
    rw [br_t, Bool.true_and]
    simp only [eqI_d, br_if]
    by_cases h1 : a.2.2.2.2.2.1 = b.2.2.2.2.2.1
    · rw [if_pos h1]
      by_cases h2 : a.2.2.2.2.2.2.2.1 = b.2.2.2.2.2.2.2.1
      · rw [if_pos h2]
        by_cases h3 : a.2.2.2.2.2.2.2.2.1 = b.2.2.2.2.2.2.2.2.1
        · rw [if_pos h3, equalR_any _ _ (by omega), bnd_some, br_if]
          by_cases h4 : a.2.2.2.2.1 = b.2.2.2.2.1
          · rw [if_pos h4, equalP_any _ _ (by omega), bnd_some]
            exact some_bool (decide_eq_decide.2 ⟨fun h5 => ⟨h1, h2, h3, h4, h5⟩, fun h => h.2.2.2.2⟩)
          · rw [if_neg h4]; exact some_bool (decide_eq_false (fun h => h4 h.2.2.2.1)).symm
        · rw [if_neg h3]; exact some_bool (decide_eq_false (fun h => h3 h.2.2.1)).symm
      · rw [if_neg h2]; exact some_bool (decide_eq_false (fun h => h2 h.2.1)).symm
    · rw [if_neg h1]; exact some_bool (decide_eq_false (fun h => h1 h.1)).symm
theorem same_any (a b : NodeV) (h : okN a) : node_Same a b = some (decide (a = b)) := by
  rw [node_Same.eq]
  simp only [same_j0 _ a b h, eqI_d, eqS_d, br_if, Bool.false_and]
  by_cases h1 : a.1 = b.1
  · rw [if_pos h1]
    by_cases h2 : a.2.1 = b.2.1
    · rw [if_pos h2]
      by_cases h3 : a.2.2.1 = b.2.2.1
      · rw [if_pos h3]
        by_cases h4 : a.2.2.2.1 = b.2.2.2.1
        · rw [decide_eq_true h4, Bool.true_and]
          exact some_bool (decide_eq_decide.2 ⟨fun ⟨g1, g2, g3, g4, g5⟩ => node_ext.2 ⟨h1, h2, h3, h4, g4, g1, g5, g2, g3⟩, fun e => by subst e; exact ⟨rfl, rfl, rfl, rfl, rfl⟩⟩)
        · rw [decide_eq_false h4, Bool.false_and]; exact some_bool (decide_eq_false (fun e => h4 (by rw [e]))).symm
      · rw [if_neg h3]; exact some_bool (decide_eq_false (fun e => h3 (by rw [e]))).symm
    · rw [if_neg h2]; exact some_bool (decide_eq_false (fun e => h2 (by rw [e]))).symm
  · rw [if_neg h1]; exact some_bool (decide_eq_false (fun e => h1 (by rw [e]))).symm
/-! ### Too long -/
def longN (n : NodeV) : Bool := longP (n.2.1, (n.2.2.1, ())) || n.2.2.2.2.2.2.1.any longP
theorem long_any (n : NodeV) (h : okN n) : node_long n = some (longN n) := by
  rw [node_long.eq, long1_any, bnd_some, br_b]
  unfold longN
  by_cases e : longP (n.2.1, (n.2.2.1, ())) = true
  · rw [if_pos e, e]; rfl
  · have e' : longP (n.2.1, (n.2.2.1, ())) = false := by simpa using e
    rw [if_neg e, longL_any _ (by have := h.list; omega), bnd_some, e', Bool.false_or]
theorem reflong_loop (n : NodeV) (h : okN n) (d : Nat) : ∀ (i : Nat) (c : Bool), i ≤ n.2.2.2.2.2.2.1.length → n.2.2.2.2.2.2.1.length - i = d → ref13_long.l0 c i n = some (c || (n.2.2.2.2.2.2.1.drop i).any longP) := by
  have hl := h.list
  induction d with
  | zero =>
    intro i c h1 h2
    rw [ref13_long.l0.eq]
    simp only [ltI_d, ofN_d, lenL_d, br_if]
    rw [if_neg (by omega), List.drop_eq_nil_of_le (by omega)]
    simp
  | succ d ih =>
    intro i c h1 h2
    have hi : i < n.2.2.2.2.2.2.1.length := by omega
    rw [ref13_long.l0.eq]
    simp only [ltI_d, leI_d, ofN_d, lenL_d, lenS_d, andB_d, br_if]
    rw [if_pos (by omega), add1 i (by omega)]
    cases c with
    | true => rw [br_t, ih (i + 1) true (by omega) (by omega)]; simp
    | false =>
      rw [br_f, if_pos (by omega), ixP _ i hi, List.drop_eq_getElem_cons hi, List.any_cons, Bool.false_or]
      rw [show longP n.2.2.2.2.2.2.1[i] = (decide (16 < n.2.2.2.2.2.2.1[i].1.size) || decide (16 < n.2.2.2.2.2.2.1[i].2.1.size)) from rfl]
      by_cases e : 16 < n.2.2.2.2.2.2.1[i].1.size
      · rw [if_pos (by omega), ih (i + 1) true (by omega) (by omega), decide_eq_true e]
        simp
      · rw [if_neg (by omega), if_pos (by omega), ih (i + 1) _ (by omega) (by omega), decide_eq_false e, Bool.false_or]
        refine some_bool ?_
        congr 1
        exact decide_eq_decide.2 (by omega)
theorem reflong_any (n : NodeV) (h : okN n) : ref13_long n = some (longN n) := by
  rw [ref13_long.eq]
  simp only [ltI_d, ofN_d, lenS_d, br_if]
  have key : ∀ c : Bool, ref13_long.l0 c 0 n = some (c || n.2.2.2.2.2.2.1.any longP) := fun c => by
    have := reflong_loop n h n.2.2.2.2.2.2.1.length 0 c (by omega) (by omega)
    rw [List.drop_zero, show ((0 : Nat) : Int) = 0 from rfl] at this
    exact this
  unfold longN
  rw [key, key, show longP (n.2.1, (n.2.2.1, ())) = (decide (16 < n.2.1.size) || decide (16 < n.2.2.1.size)) from rfl]
  by_cases e : 16 < n.2.1.size
  · rw [if_pos (by omega), decide_eq_true e]; simp
  · rw [if_neg (by omega), decide_eq_false e, Bool.false_or]
    refine some_bool ?_
    congr 1
    exact decide_eq_decide.2 (by omega)
/-! ### Of its kind's form -/
def bareP (n : NodeV) (binding branch main list : Bool) : Prop :=
  (binding = true → n.2.1 = ByteArray.empty ∧ n.2.2.1 = ByteArray.empty) ∧ (branch = true → n.2.2.2.1 = 0 ∧ n.2.2.2.2.1 = []) ∧ (main = true → n.2.2.2.2.2.1 = 0) ∧ (list = true → n.2.2.2.2.2.2.1 = [])
instance (n : NodeV) (a b c d : Bool) : Decidable (bareP n a b c d) := by unfold bareP; infer_instance
theorem len0 {A : Type} {l : List A} : (l.length : Int) = 0 ↔ l = [] := by
  constructor
  · intro h; exact List.eq_nil_of_length_eq_zero (by omega)
  · intro h; rw [h]; rfl
theorem bare_any (n : NodeV) (a b c d : Bool) : ref13_bare n a b c d = some (decide (bareP n a b c d)) := by
  rw [ref13_bare.eq]
  unfold bareP
  simp only [eqI_d, eqS_d, ltI_d, leI_d, ofN_d, lenL_d, notB_d, br_if, br_b]
  have hk : (0 : Int) < (n.2.2.2.2.1.length : Int) ↔ ¬ n.2.2.2.2.1 = [] := by
    rw [← len0]; omega
  simp only [hk, len0]
  by_cases e1 : n.2.1 = ByteArray.empty <;> by_cases e2 : n.2.2.1 = ByteArray.empty <;> by_cases e3 : n.2.2.2.1 = 0 <;> by_cases e4 : n.2.2.2.2.1 = [] <;> by_cases e5 : n.2.2.2.2.2.1 = 0 <;> cases a <;> cases b <;> cases c <;> cases d <;> simp [e1, e2, e3, e4, e5, notB]
/-- Is a node of its kind's form? -/
def formP (n : NodeV) : Prop := 0 ≤ n.2.2.2.2.2.2.2.2.1 ∧
  if n.1 = 1 ∨ n.1 = 6 then n.2.2.2.2.2.2.2.1 = 1 ∧ bareP n false true true true
  else if n.1 = 2 then (0 : Int) ∉ n.2.2.2.2.1 ∧ n.2.2.2.2.1.length = (allI n.2.2.2.1.toNat).length ∧ 0 ≤ n.2.2.2.2.2.2.2.1 ∧ bareP n true false true true
  else if n.1 = 3 then 2 ≤ n.2.2.2.2.2.2.1.length ∧ isS n.2.2.2.2.2.2.1 = true ∧ n.2.2.2.2.2.2.2.1 = (n.2.2.2.2.2.2.1.length : Int) ∧ bareP n true true true false
  else if n.1 = 4 then n.2.2.2.1 = 0 ∧ n.2.2.2.2.1.length = 2 ∧ 1 ≤ n.2.2.2.2.2.2.2.1 ∧ bareP n false false true true
  else n.2.2.2.2.2.1 ≠ 0 ∧ n.2.2.2.2.2.2.2.1 = 0 ∧ bareP n true true false true
instance (n : NodeV) : Decidable (formP n) := by unfold formP; infer_instance
theorem kid_loop (n : NodeV) (h : okN n) (d : Nat) : ∀ (i : Nat), i ≤ n.2.2.2.2.1.length → n.2.2.2.2.1.length - i = d →
    ref13_form.l1 i n = some (decide ((0 : Int) ∉ n.2.2.2.2.1.drop i ∧ n.2.2.2.2.1.length = (allI n.2.2.2.1.toNat).length ∧ 0 ≤ n.2.2.2.2.2.2.2.1 ∧ bareP n true false true true)) := by
  have hk := h.kids
  have hm0 := h.map0
  have hm1 := h.map1
  induction d with
  | zero =>
    intro i h1 h2
    rw [ref13_form.l1.eq]
    simp only [ltI_d, leI_d, eqI_d, ofN_d, lenL_d, br_if]
    have hm : n.2.2.2.1 = ((n.2.2.2.1.toNat : Nat) : Int) := (Int.toNat_of_nonneg hm0).symm
    rw [if_neg (by omega), hm, refall_any _ (by omega), bnd_some, Int.toNat_natCast, List.drop_eq_nil_of_le (by omega), bare_any]
    by_cases e1 : n.2.2.2.2.1.length = (allI n.2.2.2.1.toNat).length
    · rw [if_pos (by omega)]
      by_cases e2 : 0 ≤ n.2.2.2.2.2.2.2.1
      · rw [if_pos e2, bnd_some]
        exact some_bool (decide_eq_decide.2 ⟨fun e3 => ⟨by simp, e1, e2, e3⟩, fun e => e.2.2.2⟩)
      · rw [if_neg e2]; exact some_bool (decide_eq_false (fun e => e2 e.2.2.1)).symm
    · rw [if_neg (by omega)]; exact some_bool (decide_eq_false (fun e => e1 e.2.1)).symm
  | succ d ih =>
    intro i h1 h2
    have hi : i < n.2.2.2.2.1.length := by omega
    rw [ref13_form.l1.eq]
    simp only [ltI_d, leI_d, eqI_d, ofN_d, lenL_d, andB_d, br_if]
    rw [if_pos (by omega), if_pos (by omega), ixR _ i hi, add1 i (by omega), ih (i + 1) (by omega) (by omega), List.drop_eq_getElem_cons hi]
    by_cases e : n.2.2.2.2.1[i] = 0
    · rw [if_pos e]
      exact some_bool (decide_eq_false (fun q => q.1 (by rw [e]; exact List.mem_cons_self))).symm
    · rw [if_neg e]
      exact some_bool (decide_eq_decide.2 ⟨fun q => ⟨fun q' => (List.mem_cons.1 q').elim (fun q2 => e q2.symm) q.1, q.2⟩, fun q => ⟨fun q' => q.1 (List.mem_cons_of_mem _ q'), q.2⟩⟩)
theorem form_any (n : NodeV) (h : okN n) (h1 : 1 ≤ n.1) (h2 : n.1 ≤ 6) : ref13_form n = some (decide (formP n)) := by
  have hl := h.list
  have hk := h.kids
  rw [ref13_form.eq]
  unfold formP
  simp only [ltI_d, eqI_d, br_if]
  by_cases hb : n.2.2.2.2.2.2.2.2.1 < 0
  · rw [if_pos hb]
    exact some_bool (decide_eq_false (fun q => absurd q.1 (by omega))).symm
  rw [if_neg hb]
  have hj : ref13_form.j0 n.1 (decide (n.1 = 1 ∨ n.1 = 6)) n = some (decide (0 ≤ n.2.2.2.2.2.2.2.2.1 ∧
      if n.1 = 1 ∨ n.1 = 6 then n.2.2.2.2.2.2.2.1 = 1 ∧ bareP n false true true true
      else if n.1 = 2 then (0 : Int) ∉ n.2.2.2.2.1 ∧ n.2.2.2.2.1.length = (allI n.2.2.2.1.toNat).length ∧ 0 ≤ n.2.2.2.2.2.2.2.1 ∧ bareP n true false true true
      else if n.1 = 3 then 2 ≤ n.2.2.2.2.2.2.1.length ∧ isS n.2.2.2.2.2.2.1 = true ∧ n.2.2.2.2.2.2.2.1 = (n.2.2.2.2.2.2.1.length : Int) ∧ bareP n true true true false
      else if n.1 = 4 then n.2.2.2.1 = 0 ∧ n.2.2.2.2.1.length = 2 ∧ 1 ≤ n.2.2.2.2.2.2.2.1 ∧ bareP n false false true true
      else n.2.2.2.2.2.1 ≠ 0 ∧ n.2.2.2.2.2.2.2.1 = 0 ∧ bareP n true true false true)) := by
    rw [ref13_form.j0.eq]
    simp only [ltI_d, leI_d, eqI_d, ofN_d, lenL_d, notB_d, br_if, bare_any, bnd_some]
    have hbb : 0 ≤ n.2.2.2.2.2.2.2.2.1 := by omega
    by_cases k1 : n.1 = 1 ∨ n.1 = 6
    · simp only [if_pos k1]
      by_cases e : n.2.2.2.2.2.2.2.1 = 1
      · rw [if_pos e]; exact some_bool (decide_eq_decide.2 ⟨fun q => ⟨hbb, e, q⟩, fun q => q.2.2⟩)
      · rw [if_neg e]; exact some_bool (decide_eq_false (fun q => e q.2.1)).symm
    simp only [if_neg k1]
    by_cases k2 : n.1 = 2
    · simp only [if_pos k2]
      have := kid_loop n h n.2.2.2.2.1.length 0 (by omega) (by omega)
      rw [List.drop_zero, show ((0 : Nat) : Int) = 0 from rfl] at this
      rw [this]
      exact some_bool (decide_eq_decide.2 ⟨fun q => ⟨hbb, q⟩, fun q => q.2⟩)
    simp only [if_neg k2]
    by_cases k3 : n.1 = 3
    · simp only [if_pos k3]
      by_cases e1 : (2 : Int) ≤ (n.2.2.2.2.2.2.1.length : Int)
      · rw [if_pos e1, refis_any _ (by omega) h.binds, bnd_some, br_b]
        by_cases e2 : isS n.2.2.2.2.2.2.1 = true
        · rw [if_pos e2]
          by_cases e3 : n.2.2.2.2.2.2.2.1 = (n.2.2.2.2.2.2.1.length : Int)
          · rw [if_pos e3]; exact some_bool (decide_eq_decide.2 ⟨fun q => ⟨hbb, by omega, e2, e3, q⟩, fun q => q.2.2.2.2⟩)
          · rw [if_neg e3]; exact some_bool (decide_eq_false (fun q => e3 q.2.2.2.1)).symm
        · rw [if_neg e2]; exact some_bool (decide_eq_false (fun q => e2 q.2.2.1)).symm
      · rw [if_neg e1]; exact some_bool (decide_eq_false (fun q => e1 (by have := q.2.1; omega))).symm
    simp only [if_neg k3]
    by_cases k4 : n.1 = 4
    · simp only [if_pos k4]
      by_cases e1 : n.2.2.2.1 = 0
      · rw [if_pos e1]
        by_cases e2 : (n.2.2.2.2.1.length : Int) = 2
        · rw [if_pos e2]
          by_cases e3 : 1 ≤ n.2.2.2.2.2.2.2.1
          · rw [if_pos e3]; exact some_bool (decide_eq_decide.2 ⟨fun q => ⟨hbb, e1, by omega, e3, q⟩, fun q => q.2.2.2.2⟩)
          · rw [if_neg e3]; exact some_bool (decide_eq_false (fun q => e3 q.2.2.2.1)).symm
        · rw [if_neg e2]; exact some_bool (decide_eq_false (fun q => e2 (by have := q.2.2.1; omega))).symm
      · rw [if_neg e1]; exact some_bool (decide_eq_false (fun q => e1 q.2.1)).symm
    simp only [if_neg k4]
    by_cases e1 : n.2.2.2.2.2.1 = 0
    · rw [if_neg (by intro q; exact q e1)]; exact some_bool (decide_eq_false (fun q => q.2.1 e1)).symm
    · rw [if_pos e1]
      by_cases e2 : n.2.2.2.2.2.2.2.1 = 0
      · rw [if_pos e2]; exact some_bool (decide_eq_decide.2 ⟨fun q => ⟨hbb, e1, e2, q⟩, fun q => q.2.2.2⟩)
      · rw [if_neg e2]; exact some_bool (decide_eq_false (fun q => e2 q.2.2.1)).symm
  by_cases k1 : n.1 = 1
  · rw [if_pos k1]
    have e : decide (n.1 = 1 ∨ n.1 = 6) = true := decide_eq_true (.inl k1)
    rw [e] at hj
    exact hj
  · rw [if_neg k1]
    have e : decide (n.1 = 1 ∨ n.1 = 6) = decide (n.1 = 6) := decide_eq_decide.2 ⟨fun q => q.resolve_left k1, .inr⟩
    rw [e] at hj
    exact hj
/-- What is wrong with a node. -/
def mayS (n : NodeV) : Int := if n.1 < 1 then 11 else if 6 < n.1 then 11 else if longN n = true then 6 else if formP n then 0 else 4
theorem refmay_any (n : NodeV) (h : okN n) : ref13_May n = some (mayS n) := by
  rw [ref13_May.eq]
  unfold mayS
  simp only [ltI_d, eqI_d, br_if]
  by_cases h1 : n.1 < 1
  · rw [if_pos h1, if_pos h1]
  · rw [if_neg h1, if_neg h1]
    by_cases h2 : 6 < n.1
    · rw [if_pos h2, if_pos h2]
    · rw [if_neg h2, if_neg h2, reflong_any n h, bnd_some, br_b]
      by_cases h3 : longN n = true
      · rw [if_pos h3, if_pos h3]
      · rw [if_neg h3, if_neg h3, form_any n h (by omega) (by omega), bnd_some, notB_d, br_if]
        by_cases h4 : formP n
        · rw [if_neg (by intro q; exact q h4), if_pos h4]
        · rw [if_pos h4, if_neg h4]
end Go.Proofs.YtimgaglpempfeaaGreat.AB
set_option linter.unusedVariables false
set_option linter.unusedSimpArgs false
namespace Go.Proofs.YtimgaglpempfeaaGreat.AB
open Go.Abs
def zeroN : NodeV := (0, (ByteArray.empty, (ByteArray.empty, (0, ([], (0, ([], (0, (0, ())))))))))
/-- What a node of its kind has at most. -/
def formedV (n : NodeV) : NodeV :=
  if n.1 = 1 then (1, (n.2.1, (n.2.2.1, (0, ([], (0, ([], (1, (0, ()))))))))) else
  if n.1 = 6 then (6, (n.2.1, (n.2.2.1, (0, ([], (0, ([], (1, (0, ()))))))))) else
  if n.1 = 2 then (2, (ByteArray.empty, (ByteArray.empty, (n.2.2.2.1, (n.2.2.2.2.1, (0, ([], (max n.2.2.2.2.2.2.2.1 0, (0, ()))))))))) else
  if n.1 = 3 then (3, (ByteArray.empty, (ByteArray.empty, (0, ([], (0, (makeS n.2.2.2.2.2.2.1, (((makeS n.2.2.2.2.2.2.1).length : Int), (0, ()))))))))) else
  if n.1 = 4 then (if n.2.2.2.2.1.length = 2 then (4, (n.2.1, (n.2.2.1, (0, (n.2.2.2.2.1, (0, ([], (max n.2.2.2.2.2.2.2.1 1, (0, ()))))))))) else zeroN) else
  if n.1 = 5 then (5, (ByteArray.empty, (ByteArray.empty, (0, ([], (n.2.2.2.2.2.1, ([], (0, (0, ()))))))))) else zeroN
theorem two {l : List Int} (h : l.length = 2) : [l[0], l[1]] = l := by
  match l, h with
  | [a, b], _ => rfl
theorem formed_any (n : NodeV) (h : okN n) : node_formed n = some (formedV n) := by
  have hl := h.list
  have hk := h.kids
  rw [node_formed.eq]
  unfold formedV
  simp only [ltI_d, leI_d, eqI_d, ofN_d, lenL_d, andB_d, maxI_d, br_if]
  by_cases k1 : n.1 = 1
  · rw [if_pos k1, if_pos k1, node_Leaf.eq, bnd_some]
  rw [if_neg k1, if_neg k1]
  by_cases k6 : n.1 = 6
  · rw [if_pos k6, if_pos k6, node_Tomb.eq, bnd_some]
  rw [if_neg k6, if_neg k6]
  by_cases k2 : n.1 = 2
  · rw [if_pos k2, if_pos k2, node_Branch.eq, cloneR_any _ (by omega), bnd_some, bnd_some]
  rw [if_neg k2, if_neg k2]
  by_cases k3 : n.1 = 3
  · rw [if_pos k3, if_pos k3, node_Bucket.eq, make_any _ (by omega) h.binds, bnd_some, bnd_some]
    rfl
  rw [if_neg k3, if_neg k3]
  by_cases k4 : n.1 = 4
  · rw [if_pos k4, if_pos k4]
    by_cases e : n.2.2.2.2.1.length = 2
    · rw [if_pos e, if_pos (by omega), if_pos (by omega), if_pos (by omega)]
      have i0 := ixR n.2.2.2.2.1 0 (by omega)
      have i1 := ixR n.2.2.2.2.1 1 (by omega)
      rw [show ((0 : Nat) : Int) = 0 from rfl] at i0
      rw [show ((1 : Nat) : Int) = 1 from rfl] at i1
      rw [i0, i1, node_Tree.eq, bnd_some, two e]
    · rw [if_neg e, if_neg (by omega)]
      rfl
  rw [if_neg k4, if_neg k4]
  by_cases k5 : n.1 = 5
  · rw [if_pos k5, if_pos k5, node_Inner.eq, bnd_some]
  rw [if_neg k5, if_neg k5]
  rfl
/-- Is what a node must have there? -/
def wholeP (n : NodeV) : Prop :=
  if n.1 = 2 then n.2.2.2.2.1.length = (allI n.2.2.2.1.toNat).length ∧ (0 : Int) ∉ n.2.2.2.2.1
  else if n.1 = 3 then 2 ≤ n.2.2.2.2.2.2.1.length ∧ isS n.2.2.2.2.2.2.1 = true
  else if n.1 = 5 then n.2.2.2.2.2.1 ≠ 0 else True
instance (n : NodeV) : Decidable (wholeP n) := by unfold wholeP; infer_instance
theorem whole_any (n : NodeV) (h : okN n) : node_whole n = some (decide (wholeP n)) := by
  have hl := h.list
  have hk := h.kids
  have hm0 := h.map0
  have hm1 := h.map1
  rw [node_whole.eq]
  unfold wholeP
  simp only [ltI_d, leI_d, eqI_d, ofN_d, lenL_d, andB_d, notB_d, br_if]
  by_cases k2 : n.1 = 2
  · simp only [if_pos k2]
    have hm : n.2.2.2.1 = ((n.2.2.2.1.toNat : Nat) : Int) := (Int.toNat_of_nonneg hm0).symm
    rw [hm, count_any _ (by omega), bnd_some, Int.toNat_natCast]
    by_cases e : n.2.2.2.2.1.length = (allI n.2.2.2.1.toNat).length
    · rw [if_pos (by omega), containsR_any _ _ (by omega), bnd_some, notB_d]
      exact some_bool (decide_eq_decide.2 ⟨fun q => ⟨e, q⟩, fun q => q.2⟩)
    · rw [if_neg (by omega)]; exact some_bool (decide_eq_false (fun q => e q.1)).symm
  simp only [if_neg k2]
  by_cases k3 : n.1 = 3
  · simp only [if_pos k3]
    by_cases e : 2 ≤ n.2.2.2.2.2.2.1.length
    · rw [if_pos (by omega), is_any _ (by omega) h.binds, bnd_some]
      refine some_bool ?_
      cases hs : isS n.2.2.2.2.2.2.1 with
      | true => exact (decide_eq_true ⟨e, rfl⟩).symm
      | false => exact (decide_eq_false (fun q => by cases q.2)).symm
    · rw [if_neg (by omega)]; exact some_bool (decide_eq_false (fun q => e q.1)).symm
  simp only [if_neg k3]
  by_cases k5 : n.1 = 5
  · simp only [if_pos k5]
  simp only [if_neg k5]
  exact some_bool (decide_eq_true trivial).symm
/-- With its birth, no less than nought. -/
def bornV (n : NodeV) : NodeV :=
  let f := formedV n
  (f.1, (f.2.1, (f.2.2.1, (f.2.2.2.1, (f.2.2.2.2.1, (f.2.2.2.2.2.1, (f.2.2.2.2.2.2.1, (f.2.2.2.2.2.2.2.1, (max n.2.2.2.2.2.2.2.2.1 0, ())))))))))
theorem max0 {a b : Int} : a = max a b ↔ b ≤ a := by omega
theorem form_iff (n : NodeV) (h1 : 1 ≤ n.1) (h2 : n.1 ≤ 6) : (n = bornV n ∧ wholeP n) ↔ formP n := by
  obtain ⟨k, key, val, m, ks, mn, L, sz, bi, u⟩ := n
  rw [node_ext]
  unfold bornV formedV wholeP formP bareP
  dsimp only at h1 h2 ⊢
  by_cases k1 : k = 1
  · subst k1
    simp [max0]
    constructor
    · rintro ⟨rfl, rfl, rfl, rfl, rfl, h⟩; simp [h]
    · rintro ⟨h, rfl, ⟨rfl, rfl⟩, rfl, rfl⟩; simp [h]
  by_cases k6 : k = 6
  · subst k6
    simp [max0]
    constructor
    · rintro ⟨rfl, rfl, rfl, rfl, rfl, h⟩; simp [h]
    · rintro ⟨h, rfl, ⟨rfl, rfl⟩, rfl, rfl⟩; simp [h]
  by_cases k2 : k = 2
  · subst k2
    simp [max0]
    constructor
    · rintro ⟨⟨h1, h2, h3, h4, h5, h6⟩, h7, h8⟩; exact ⟨h6, h8, h7, h5, ⟨h1, h2⟩, h3, h4⟩
    · rintro ⟨h6, h8, h7, h5, ⟨h1, h2⟩, h3, h4⟩; exact ⟨⟨h1, h2, h3, h4, h5, h6⟩, h7, h8⟩
  by_cases k3 : k = 3
  · subst k3
    simp [max0]
    constructor
    · rintro ⟨⟨h1, h2, h3, h4, h5, h6, h7, h8⟩, h9, h10⟩
      refine ⟨h8, h9, h10, ?_, ⟨h1, h2⟩, ⟨h3, h4⟩, h5⟩
      rw [h7, ← h6]
    · rintro ⟨h8, h9, h10, h7, ⟨h1, h2⟩, ⟨h3, h4⟩, h5⟩
      have := makeS_srt (isS_srt h10)
      refine ⟨⟨h1, h2, h3, h4, h5, this.symm, ?_, h8⟩, h9, h10⟩
      rw [this]; exact h7
  by_cases k4 : k = 4
  · subst k4
    by_cases e : ks.length = 2
    · simp [max0, e]
      constructor
      · rintro ⟨rfl, rfl, rfl, h, h'⟩; simp [h, h']
      · rintro ⟨h', rfl, h, rfl, rfl⟩; simp [h, h']
    · simp [max0, e, zeroN]
  have k5 : k = 5 := by omega
  subst k5
  simp [max0]
  constructor
  · rintro ⟨⟨h1, h2, h3, h4, h5, h6, h7⟩, h8⟩; exact ⟨h7, h8, h6, ⟨h1, h2⟩, ⟨h3, h4⟩, h5⟩
  · rintro ⟨h7, h8, h6, ⟨h1, h2⟩, ⟨h3, h4⟩, h5⟩; exact ⟨⟨h1, h2, h3, h4, h5, h6, h7⟩, h8⟩
theorem may_any (n : NodeV) (h : okN n) : node_May n = some (mayS n) := by
  rw [node_May.eq, formed_any n h, bnd_some]
  unfold mayS
  simp only [ltI_d, eqI_d, maxI_d, br_if]
  by_cases h1 : n.1 < 1
  · rw [if_pos h1, if_pos h1]
  rw [if_neg h1, if_neg h1]
  by_cases h2 : 6 < n.1
  · rw [if_pos h2, if_pos h2]
  rw [if_neg h2, if_neg h2, long_any n h, bnd_some, br_b]
  by_cases h3 : longN n = true
  · rw [if_pos h3, if_pos h3]
  rw [if_neg h3, if_neg h3, same_any n _ h, bnd_some, notB_d, br_if, whole_any n h, bnd_some, notB_d, br_if]
  have := form_iff n (by omega) (by omega)
  show (if ¬ n = bornV n then some (4 : Int) else if ¬ wholeP n then some 4 else some 0) = _
  by_cases h4 : n = bornV n
  · rw [if_neg (by intro q; exact q h4)]
    by_cases h5 : wholeP n
    · rw [if_neg (by intro q; exact q h5), if_pos (this.1 ⟨h4, h5⟩)]
    · rw [if_pos h5, if_neg (fun q => h5 (this.2 q).2)]
  · rw [if_pos h4, if_neg (fun q => h4 (this.2 q).1)]
def textOf (l : Array UInt8) : ByteArray := ByteArray.mk l
end Go.Proofs.YtimgaglpempfeaaGreat.AB
set_option linter.unusedVariables false
set_option linter.unusedSimpArgs false
namespace Go.Proofs.YtimgaglpempfeaaGreat.AB
open Go.Abs
theorem refsameP_loop (l m : List PairV) (hl : l.length ≤ 50000000) (hm : l.length = m.length) (d : Nat) : ∀ (i : Nat), i ≤ l.length → l.length - i = d → ref07_Same.l0 l m i = some (decide (l.drop i = m.drop i)) := by
  induction d with
  | zero =>
    intro i h1 h2
    rw [ref07_Same.l0.eq]
    simp only [ltI_d, ofN_d, lenL_d, br_if]
    rw [if_neg (by omega), List.drop_eq_nil_of_le (by omega), List.drop_eq_nil_of_le (by omega), decide_eq_true rfl]
  | succ d ih =>
    intro i h1 h2
    rw [ref07_Same.l0.eq]
    simp only [ltI_d, leI_d, ofN_d, lenL_d, andB_d, eq_pair, notB_d, br_if]
    rw [if_pos (by omega), if_pos (by omega), if_pos (by omega), ixP l i (by omega), ixP m i (by omega), add1 i (by omega), ih (i + 1) (by omega) (by omega)]
    by_cases e : l[i] = m[i]
    · rw [if_neg (by intro h; exact h e)]
      exact some_bool (decide_eq_decide.2 (by rw [drop_eq_iff (show i < l.length by omega) (show i < m.length by omega)]; simp [e]))
    · rw [if_pos e]
      exact some_bool (decide_eq_false (by rw [drop_eq_iff (show i < l.length by omega) (show i < m.length by omega)]; exact fun h => e h.1)).symm
theorem refsameP_any (l m : List PairV) (hl : l.length ≤ 50000000) : ref07_Same l m = some (decide (l = m)) := by
  rw [ref07_Same.eq]
  simp only [ofN_d, lenL_d, eqI_d, notB_d, br_if]
  by_cases h : l.length = m.length
  · rw [if_neg (by omega)]
    exact refsameP_loop l m hl h l.length 0 (by omega) (by omega)
  · rw [if_pos (by omega)]
    exact some_bool (decide_eq_false (fun e => h (by rw [e]))).symm
/-! ### Putting, twice -/
end Go.Proofs.YtimgaglpempfeaaGreat.AB
set_option linter.unusedVariables false
set_option linter.unusedSimpArgs false
namespace Go.Proofs.YtimgaglpempfeaaGreat.AB
open Go.Abs
theorem sameR_loop (l m : List Int) (hl : l.length ≤ 50000000) (hm : l.length = m.length) (d : Nat) : ∀ (i : Nat), i ≤ l.length → l.length - i = d → ref13_SameRefs.l0 l m i = some (decide (l.drop i = m.drop i)) := by
  induction d with
  | zero =>
    intro i h1 h2
    rw [ref13_SameRefs.l0.eq]
    simp only [ltI_d, ofN_d, lenL_d, br_if]
    rw [if_neg (by omega), List.drop_eq_nil_of_le (by omega), List.drop_eq_nil_of_le (by omega), decide_eq_true rfl]
  | succ d ih =>
    intro i h1 h2
    rw [ref13_SameRefs.l0.eq]
    simp only [ltI_d, leI_d, ofN_d, lenL_d, andB_d, eqI_d, notB_d, br_if]
    rw [if_pos (by omega), if_pos (by omega), if_pos (by omega), ixR l i (by omega), ixR m i (by omega), add1 i (by omega), ih (i + 1) (by omega) (by omega)]
    by_cases e : l[i] = m[i]
    · rw [if_neg (by intro h; exact h e)]
      exact some_bool (decide_eq_decide.2 (by rw [drop_eq_iff (show i < l.length by omega) (show i < m.length by omega)]; simp [e]))
    · rw [if_pos e]
      exact some_bool (decide_eq_false (by rw [drop_eq_iff (show i < l.length by omega) (show i < m.length by omega)]; exact fun h => e h.1)).symm
theorem sameR_any (l m : List Int) (hl : l.length ≤ 50000000) : ref13_SameRefs l m = some (decide (l = m)) := by
  rw [ref13_SameRefs.eq]
  simp only [ofN_d, lenL_d, eqI_d, notB_d, br_if]
  by_cases h : l.length = m.length
  · rw [if_neg (by omega)]
    exact sameR_loop l m hl h l.length 0 (by omega) (by omega)
  · rw [if_pos (by omega)]
    exact some_bool (decide_eq_false (fun e => h (by rw [e]))).symm
theorem refsame_any (a b : NodeV) (hk : a.2.2.2.2.1.length ≤ 50000000) (hl : a.2.2.2.2.2.2.1.length ≤ 50000000) : ref13_Same a b = some (decide (a = b)) := by
  rw [ref13_Same.eq]
  simp only [eqI_d, eqS_d, notB_d, br_if]
  have no : ∀ {p : Prop}, (a = b → p) → ¬ p → (some false : Option Bool) = some (decide (a = b)) := fun h n => (some_bool (decide_eq_false (fun e => n (h e)))).symm
  by_cases h1 : a.1 = b.1
  · rw [if_neg (by intro q; exact q h1)]
    by_cases h2 : a.2.1 = b.2.1
    · rw [if_neg (by intro q; exact q h2)]
      by_cases h3 : a.2.2.1 = b.2.2.1
      · rw [if_neg (by intro q; exact q h3)]
        by_cases h4 : a.2.2.2.1 = b.2.2.2.1
        · rw [if_neg (by intro q; exact q h4)]
          by_cases h5 : a.2.2.2.2.2.1 = b.2.2.2.2.2.1
          · rw [if_neg (by intro q; exact q h5)]
            by_cases h6 : a.2.2.2.2.2.2.2.1 = b.2.2.2.2.2.2.2.1
            · rw [if_neg (by intro q; exact q h6)]
              by_cases h7 : a.2.2.2.2.2.2.2.2.1 = b.2.2.2.2.2.2.2.2.1
              · rw [if_neg (by intro q; exact q h7), sameR_any _ _ hk, bnd_some, br_if]
                by_cases h8 : a.2.2.2.2.1 = b.2.2.2.2.1
                · rw [if_pos h8, refsameP_any _ _ hl, bnd_some]
                  exact some_bool (decide_eq_decide.2 ⟨fun h9 => node_ext.2 ⟨h1, h2, h3, h4, h8, h5, h9, h6, h7⟩, fun e => by rw [e]⟩)
                · rw [if_neg h8]; exact no (fun e => by rw [e]) h8
              · rw [if_pos h7]; exact no (fun e => by rw [e]) h7
            · rw [if_pos h6]; exact no (fun e => by rw [e]) h6
          · rw [if_pos h5]; exact no (fun e => by rw [e]) h5
        · rw [if_pos h4]; exact no (fun e => by rw [e]) h4
      · rw [if_pos h3]; exact no (fun e => by rw [e]) h3
    · rw [if_pos h2]; exact no (fun e => by rw [e]) h2
  · rw [if_pos h1]; exact no (fun e => by rw [e]) h1
theorem copy_any (n : NodeV) (h : okN n) : node_Copy n = some ((n.1, (n.2.1, (n.2.2.1, (n.2.2.2.1, ((), (n.2.2.2.2.2.1, ((), n.2.2.2.2.2.2.2))))))), (n.2.2.2.2.1, (n.2.2.2.2.2.2.1, ()))) := by
  have hl := h.list
  have hk := h.kids
  rw [node_Copy.eq, cloneR_any _ (by omega), bnd_some, cloneP_any _ (by omega), bnd_some]
/-! ### References, bindings -/
end Go.Proofs.YtimgaglpempfeaaGreat.AB
set_option linter.unusedVariables false
set_option linter.unusedSimpArgs false
namespace Go.Proofs.YtimgaglpempfeaaGreat.AB
open Go.Abs
theorem cloneN_any (l : List NodeV) (hl : l.length ≤ 50000000) : slices_Cloneapi_Node_api_Node l = some ((), (l, ())) := by
  rw [slices_Cloneapi_Node_api_Node.eq]
  simp only [ofN_d, lenL_d, eqI_d, br_if, fitL_d, appL_d, List.nil_append]
  by_cases h : l.length = 0
  · rw [if_pos (by omega), if_pos (by omega), List.eq_nil_of_length_eq_zero h, both_self]
  · rw [if_neg (by omega), if_pos (by omega)]
theorem refnew_any (k : Nat) (h : k ≤ 100000000) : ref_New (k : Int) = some (-(k : Int) - 1) := by
  rw [ref_New.eq, ltI_d, br_if, if_neg (by omega), subI_d (by omega) (by omega)]
  exact some_int (by omega)
theorem plAdd (x : Int) {n : NodeV} (o : okN n) (news : List NodeV) (hl : news.length ≤ 1000000) (old : List Int) : plan_Add_v1 ((), (x, ((), ()))) n news old = some ((((), (x, ((), ()))), (-(news.length : Int) - 1, ())), ((), (old, (news ++ [n], ())))) := by
  rw [plan_Add_v1.eq, cloneN_any news (by omega), bnd_some, copy_any n o, bnd_some]
  show br (fitL tapiNode (news ++ [n])) (bnd (ref_New (subI .i64 (((news ++ [n]).length : Nat) : Int) 1)) fun r2 => some ((((), (x, ((), ()))), (r2, ())), ((), (old, (news ++ [n], ()))))) none = _
  have e : (news ++ [n]).length = news.length + 1 := by rw [List.length_append]; rfl
  rw [fitL_d, decide_eq_true (by omega), br_t, e, show subI .i64 ((news.length + 1 : Nat) : Int) 1 = (news.length : Int) by rw [subI_d (by omega) (by omega)]; omega, refnew_any _ (by omega), bnd_some]
end Go.Proofs.YtimgaglpempfeaaGreat.AB
set_option autoImplicit false
set_option linter.unusedVariables false
namespace Go.Abs
theorem wf_i64 {a : Int} (h : (Lit.int .i64 a).wf = true) : -9223372036854775808 ≤ a ∧ a ≤ 9223372036854775807 := by
  simp [Lit.wf, IntKind.min, IntKind.max, IntKind.bits, IntKind.signed] at h
  omega
theorem wf_u64 {a : Int} (h : (Lit.int .u64 a).wf = true) : 0 ≤ a ∧ a < 18446744073709551616 := by
  simp [Lit.wf, IntKind.min, IntKind.max, IntKind.bits, IntKind.signed] at h
  omega
theorem wrap_u64 (n : Int) : IntKind.u64.wrap n = n % 18446744073709551616 := by simp [IntKind.wrap, IntKind.bits, IntKind.signed]
theorem wrap_u64_id {n : Int} (h0 : 0 ≤ n) (h1 : n < 18446744073709551616) : IntKind.u64.wrap n = n := by rw [wrap_u64]; omega
theorem wrap_u64_range (n : Int) : 0 ≤ IntKind.u64.wrap n ∧ IntKind.u64.wrap n < 18446744073709551616 := by rw [wrap_u64]; omega
theorem wraps_u64 (n : Int) (h0 : 0 ≤ n) (h1 : n < 2 ^ 64) : IntKind.u64.wrap n = n := by rw [wrap_u64]; omega
theorem and_u64 (a w : Nat) (ha : a < 18446744073709551616) (hw : w ≤ 64) : andI .u64 (a : Int) ((2 ^ w - 1 : Nat) : Int) = ((a % 2 ^ w : Nat) : Int) := by
  have hp : 2 ^ w ≤ 18446744073709551616 := by
    have := Nat.pow_le_pow_right (n := 2) (by omega) hw
    omega
  have hq : 0 < 2 ^ w := Nat.two_pow_pos w
  have e : ∀ x : Nat, x < 18446744073709551616 → (BitVec.ofInt 64 (x : Int)).toNat = x := by
    intro x hx
    simp only [BitVec.toNat_ofInt]
    omega
  unfold andI
  rw [show IntKind.u64.bits = 64 from rfl, BitVec.toNat_and, e a ha, e _ (by omega), Nat.and_two_pow_sub_one_eq_mod]
  have := Nat.mod_le a (2 ^ w)
  exact wrap_u64_id (by omega) (by omega)
/-- How many bits may be. -/
def wid (bits : Int) : Nat := (min (max bits 0) 64).toNat
theorem wid_le (bits : Int) : wid bits ≤ 64 := by unfold wid; omega
def lev (bits : Int) : Nat := (wid bits + 4) / 5
theorem lev_le (bits : Int) : lev bits ≤ 13 := by have := wid_le bits; unfold lev; omega
/-- A hash's chunkS at a level. -/
def chunkS (h : Nat) (level : Nat) (bits : Int) : Nat := if level < lev bits then (h % 2 ^ wid bits) / 2 ^ (5 * level) % 32 else 0
/-- One step of a hash. -/
def hstep (h b : Int) : Int := IntKind.u64.wrap ((xorI .u64 h (IntKind.u64.wrap b)) * 1099511628211)
def fnv : List UInt8 → Int → Int
  | [], h => h
  | x :: xs, h => fnv xs (hstep h (x.toNat : Int))
theorem hstep_range (h b : Int) : 0 ≤ hstep h b ∧ hstep h b < 18446744073709551616 := wrap_u64_range _
theorem fnv_cons (x : UInt8) (xs : List UInt8) (h : Int) : fnv (x :: xs) h = fnv xs (hstep h (x.toNat : Int)) := rfl
theorem fnv_range : ∀ (l : List UInt8) (h : Int), 0 ≤ h → h < 18446744073709551616 → 0 ≤ fnv l h ∧ fnv l h < 18446744073709551616
  | [], _, h0, h1 => ⟨h0, h1⟩
  | _ :: xs, h, _, _ => fnv_range xs _ (hstep_range h _).1 (hstep_range h _).2
/-- A text's hash. -/
theorem hashN_ex : ∃ f : ByteArray → Nat, ∀ s, f s = (fnv (bl s) 14695981039346656037).toNat := ⟨_, fun _ => rfl⟩
noncomputable def hashN : ByteArray → Nat := Classical.choose hashN_ex
theorem hashN_eq (s : ByteArray) : hashN s = (fnv (bl s) 14695981039346656037).toNat := Classical.choose_spec hashN_ex s
theorem hashN_int (s : ByteArray) : (hashN s : Int) = fnv (bl s) 14695981039346656037 := by
  have := fnv_range (bl s) 14695981039346656037 (by omega) (by omega)
  rw [hashN_eq]; omega
theorem hashN_lt (s : ByteArray) : hashN s < 18446744073709551616 := by
  have := fnv_range (bl s) 14695981039346656037 (by omega) (by omega)
  rw [hashN_eq]; omega
noncomputable def hashS (s : ByteArray) (bits : Int) : Nat := hashN s % 2 ^ wid bits
theorem hash_lt (s : ByteArray) (bits : Int) : hashS s bits < 2 ^ wid bits := Nat.mod_lt _ (Nat.two_pow_pos _)
theorem pow_le64 {w : Nat} (h : w ≤ 64) : 2 ^ w ≤ 18446744073709551616 := by
  have := Nat.pow_le_pow_right (n := 2) (by omega) h
  omega
theorem hash_lt64 (s : ByteArray) (bits : Int) : hashS s bits < 18446744073709551616 := by
  have := hash_lt s bits
  have := pow_le64 (wid_le bits)
  omega

/-- Which of two lists of chunks is ahead, from a level on. -/
def befC (x y : Nat → Nat) : Nat → Nat → Bool
  | 0, _ => false
  | n + 1, l => if x l = y l then befC x y n (l + 1) else decide (x l < y l)
def befS (a b : Nat) (bits : Int) : Bool := befC (fun l => chunkS a l bits) (fun l => chunkS b l bits) (lev bits) 0

theorem befC_same (x y : Nat → Nat) : ∀ n l, (∀ i, l ≤ i → i < l + n → x i = y i) → befC x y n l = false
  | 0, _, _ => rfl
  | n + 1, l, h => by
    unfold befC
    rw [if_pos (h l (by omega) (by omega))]
    exact befC_same x y n (l + 1) (fun i h1 h2 => h i (by omega) (by omega))
theorem befC_total (x y : Nat → Nat) : ∀ n l, (¬ ∀ i, l ≤ i → i < l + n → x i = y i) → (befC x y n l = !befC y x n l)
  | 0, l, h => absurd (fun i h1 h2 => by omega) h
  | n + 1, l, h => by
    unfold befC
    by_cases e : x l = y l
    · rw [if_pos e, if_pos e.symm]
      refine befC_total x y n (l + 1) (fun k => h (fun i h1 h2 => ?_))
      by_cases q : i = l
      · rw [q]; exact e
      · exact k i (by omega) (by omega)
    · rw [if_neg e, if_neg (fun q => e q.symm)]
      by_cases q : x l < y l
      · have : ¬ y l < x l := by omega
        simp [q, this]
      · have : y l < x l := by omega
        simp [q, this]

theorem digits_eq : ∀ (n a b : Nat), a < 32 ^ n → b < 32 ^ n → (∀ i, i < n → a / 32 ^ i % 32 = b / 32 ^ i % 32) → a = b
  | 0, a, b, ha, hb, _ => by simp at ha hb; omega
  | n + 1, a, b, ha, hb, h => by
    have h0 := h 0 (by omega)
    simp at h0
    have := digits_eq n (a / 32) (b / 32) (by rw [Nat.pow_succ] at ha; omega) (by rw [Nat.pow_succ] at hb; omega) (fun i hi => by
      have := h (i + 1) (by omega)
      rw [Nat.pow_succ, Nat.mul_comm, ← Nat.div_div_eq_div_mul, ← Nat.div_div_eq_div_mul] at this
      exact this)
    omega
theorem chunk_small (a level : Nat) (bits : Int) (ha : a < 2 ^ wid bits) (hl : level < lev bits) : chunkS a level bits = a / 32 ^ level % 32 := by
  unfold chunkS
  rw [if_pos hl, Nat.mod_eq_of_lt ha, Nat.pow_mul]
theorem chunks_same {a b : Nat} {bits : Int} (ha : a < 2 ^ wid bits) (hb : b < 2 ^ wid bits) (h : ∀ l, l < lev bits → chunkS a l bits = chunkS b l bits) : a = b := by
  have hp : 2 ^ wid bits ≤ 32 ^ lev bits := by
    rw [show (32 : Nat) = 2 ^ 5 by rfl, ← Nat.pow_mul]
    exact Nat.pow_le_pow_right (by omega) (by unfold lev; omega)
  refine digits_eq (lev bits) a b (by omega) (by omega) (fun i hi => ?_)
  have := h i hi
  rw [chunk_small a i bits ha hi, chunk_small b i bits hb hi] at this
  exact this
theorem before_self (a : Nat) (bits : Int) : befS a a bits = false := befC_same _ _ _ _ (fun _ _ _ => rfl)
theorem before_self' {a b : Nat} {bits : Int} (h : a = b) : befS a b bits = false := by rw [h]; exact before_self b bits
theorem before_total {a b : Nat} {bits : Int} (ha : a < 2 ^ wid bits) (hb : b < 2 ^ wid bits) (h : a ≠ b) : befS a b bits = !befS b a bits :=
  befC_total _ _ _ _ (fun k => h (chunks_same ha hb (fun l hl => k l (by omega) (by omega))))
theorem befC_trans (x y z : Nat → Nat) : ∀ n l, befC x y n l = true → befC y z n l = true → befC x z n l = true
  | 0, _, h, _ => by cases h
  | n + 1, l, h1, h2 => by
    unfold befC at h1 h2 ⊢
    by_cases e1 : x l = y l
    · by_cases e2 : y l = z l
      · rw [if_pos e1] at h1
        rw [if_pos e2] at h2
        rw [if_pos (e1.trans e2)]
        exact befC_trans x y z n (l + 1) h1 h2
      · rw [if_neg e2] at h2
        rw [if_neg (by omega)]
        simp only [decide_eq_true_eq] at h2 ⊢
        omega
    · rw [if_neg e1] at h1
      simp only [decide_eq_true_eq] at h1
      by_cases e2 : y l = z l
      · rw [if_neg (by omega)]
        simp only [decide_eq_true_eq]
        omega
      · rw [if_neg e2] at h2
        simp only [decide_eq_true_eq] at h2
        rw [if_neg (by omega)]
        simp only [decide_eq_true_eq]
        omega
theorem before_trans {a b c : Nat} {bits : Int} (h1 : befS a b bits = true) (h2 : befS b c bits = true) : befS a c bits = true := befC_trans _ _ _ _ _ h1 h2

/-- What lies between two bits. -/
theorem mod_div_pow (h w a : Nat) (ha : a ≤ w) : h % 2 ^ w / 2 ^ a = h / 2 ^ a % 2 ^ (w - a) := by
  have : 2 ^ w = 2 ^ a * 2 ^ (w - a) := by rw [← Nat.pow_add]; congr 1; omega
  rw [this, Nat.mod_mul_right_div_self]
theorem mod_mod_pow (x p q : Nat) : x % 2 ^ p % 2 ^ q = x % 2 ^ min p q := by
  by_cases h : q ≤ p
  · rw [Nat.min_eq_right h, Nat.mod_mod_of_dvd _ (Nat.pow_dvd_pow 2 h)]
  · rw [Nat.min_eq_left (by omega), Nat.mod_eq_of_lt]
    have h1 := Nat.mod_lt x (Nat.two_pow_pos p)
    have h2 := Nat.pow_le_pow_right (n := 2) (by omega) (show p ≤ q by omega)
    omega
theorem mod_pow_succ (x p : Nat) : x % 2 ^ (p + 1) = x % 2 ^ p + 2 ^ p * (x / 2 ^ p % 2) := by
  rw [Nat.pow_succ, Nat.mod_mul]
theorem lowstep (A A' B B' P : Nat) (q2 : A / 2 = A') (m1 : B' = B + P * (A % 2)) (hB : B' < 18446744073709551616) (hA : A < 18446744073709551616) (hP : P ≤ 9223372036854775808) :
    IntKind.u64.wrap ((A : Int) / 2) = (A' : Int) ∧ IntKind.u64.wrap ((B : Int) + IntKind.u64.wrap ((P : Int) * ((A : Int) % 2))) = (B' : Int) := by
  have e : ((A : Int) % 2) = ((A % 2 : Nat) : Int) := by omega
  have hb : A % 2 = 0 ∨ A % 2 = 1 := by omega
  constructor
  · rw [wrap_u64_id (by omega) (by omega)]; omega
  · rw [e]
    rcases hb with hb | hb
    · rw [hb] at m1 ⊢
      rw [wrap_u64_id (n := (P : Int) * ((0 : Nat) : Int)) (by omega) (by omega), wrap_u64_id (by omega) (by omega)]
      omega
    · rw [hb] at m1 ⊢
      rw [wrap_u64_id (n := (P : Int) * ((1 : Nat) : Int)) (by omega) (by omega), wrap_u64_id (by omega) (by omega)]
      omega
theorem chunkstep (b B B' P : Nat) (m1 : B' = B + P * b) (hb : b < 2) (hB : B < 64) (hP : P ≤ 64) : IntKind.i64.wrap ((B : Int) + IntKind.i64.wrap ((P : Int) * (b : Int))) = (B' : Int) := by
  have hb : b = 0 ∨ b = 1 := by omega
  rcases hb with hb | hb
  · rw [hb] at m1 ⊢
    rw [wrap_i64_id (x := (P : Int) * ((0 : Nat) : Int)) (by omega) (by omega), wrap_i64_id (by omega) (by omega)]
    omega
  · rw [hb] at m1 ⊢
    rw [wrap_i64_id (x := (P : Int) * ((1 : Nat) : Int)) (by omega) (by omega), wrap_i64_id (by omega) (by omega)]
    omega
/-- How a hash is mixed to a priority. -/
def m1 (h : Int) : Int := IntKind.u64.wrap ((xorI .u64 h (h / 1073741824)) * 13787848793156543929)
def m2 (h : Int) : Int := IntKind.u64.wrap ((xorI .u64 h (h / 134217728)) * 10723151780598845931)
def m3 (h : Int) : Int := xorI .u64 h (h / 2147483648)
/-- A text's priority. -/
theorem pri_ex : ∃ f : ByteArray → Int, ∀ s, f s = m3 (m2 (m1 ((hashS s 64 : Nat) : Int))) := ⟨_, fun _ => rfl⟩
noncomputable def pri : ByteArray → Int := Classical.choose pri_ex
theorem pri_eq (s : ByteArray) : pri s = m3 (m2 (m1 ((hashS s 64 : Nat) : Int))) := Classical.choose_spec pri_ex s
/-- Which of two texts is above. -/
noncomputable def above (a b : ByteArray) : Bool := if pri a = pri b then lt a b else decide (pri a > pri b)
theorem above_irrefl (a : ByteArray) : above a a = false := by
  unfold above
  rw [if_pos rfl, lt_irrefl]
theorem above_total {a b : ByteArray} (h : a ≠ b) : above a b = true ∨ above b a = true := by
  unfold above
  by_cases e : pri a = pri b
  · rw [if_pos e, if_pos e.symm]; exact lt_total h
  · rw [if_neg e, if_neg (fun q => e q.symm)]
    simp only [decide_eq_true_eq]
    omega
theorem above_trans {a b c : ByteArray} (h1 : above a b = true) (h2 : above b c = true) : above a c = true := by
  unfold above at *
  by_cases e1 : pri a = pri b
  · by_cases e2 : pri b = pri c
    · rw [if_pos e1] at h1
      rw [if_pos e2] at h2
      rw [if_pos (by omega)]
      exact lt_trans h1 h2
    · rw [if_neg e2] at h2
      simp only [decide_eq_true_eq] at h2
      rw [if_neg (by omega)]
      simp only [decide_eq_true_eq]
      omega
  · rw [if_neg e1] at h1
    simp only [decide_eq_true_eq] at h1
    by_cases e2 : pri b = pri c
    · rw [if_neg (by omega)]
      simp only [decide_eq_true_eq]
      omega
    · rw [if_neg e2] at h2
      simp only [decide_eq_true_eq] at h2
      rw [if_neg (by omega)]
      simp only [decide_eq_true_eq]
      omega
theorem above_asymm {a b : ByteArray} (h : above a b = true) : above b a = false := by
  cases k : above b a with
  | false => rfl
  | true => have := above_trans h k; rw [above_irrefl] at this; cases this
/-- The one that none of some texts is above. -/
noncomputable def best : List ByteArray → ByteArray → ByteArray
  | [], o => o
  | x :: xs, o => best xs (if above x o = true then x else o)
noncomputable def topT : List ByteArray → ByteArray × Bool
  | [] => (⟨#[]⟩, false)
  | x :: xs => (best xs x, true)
theorem best_mem : ∀ xs o, best xs o = o ∨ best xs o ∈ xs
  | [], _ => .inl rfl
  | x :: xs, o => by
    unfold best
    by_cases h : above x o = true
    · rw [if_pos h]
      rcases best_mem xs x with e | e
      · rw [e]; exact .inr (by simp)
      · exact .inr (List.mem_cons_of_mem _ e)
    · rw [if_neg h]
      rcases best_mem xs o with e | e
      · exact .inl e
      · exact .inr (List.mem_cons_of_mem _ e)
theorem above_not_trans {a b c : ByteArray} (h1 : above a b = false) (h2 : above b c = false) : above a c = false := by
  cases h : above a c with
  | false => rfl
  | true =>
    by_cases e : a = b
    · subst e; rw [h2] at h; cases h
    · rcases above_total e with q | q
      · rw [h1] at q; cases q
      · have := above_trans q h; rw [h2] at this; cases this
theorem best_top : ∀ xs o, above o (best xs o) = false ∧ ∀ y ∈ xs, above y (best xs o) = false
  | [], o => ⟨above_irrefl o, by simp⟩
  | x :: xs, o => by
    unfold best
    by_cases h : above x o = true
    · rw [if_pos h]
      obtain ⟨h1, h2⟩ := best_top xs x
      refine ⟨above_not_trans (above_asymm h) h1, fun y hy => ?_⟩
      rcases List.mem_cons.1 hy with e | e
      · rw [e]; exact h1
      · exact h2 y e
    · rw [if_neg h]
      obtain ⟨h1, h2⟩ := best_top xs o
      refine ⟨h1, fun y hy => ?_⟩
      rcases List.mem_cons.1 hy with e | e
      · rw [e]; exact above_not_trans (Bool.eq_false_iff.2 h) h1
      · exact h2 y e
theorem top_mem {l : List ByteArray} (h : 0 < l.length) : (topT l).1 ∈ l := by
  cases l with
  | nil => simp at h
  | cons x xs =>
    show best xs x ∈ _
    rcases best_mem xs x with e | e
    · rw [e]; simp
    · exact List.mem_cons_of_mem _ e
theorem top_top {l : List ByteArray} {y : ByteArray} (h : y ∈ l) : above y (topT l).1 = false := by
  cases l with
  | nil => simp at h
  | cons x xs =>
    show above y (best xs x) = false
    obtain ⟨h1, h2⟩ := best_top xs x
    rcases List.mem_cons.1 h with e | e
    · rw [e]; exact h1
    · exact h2 y e
theorem top_only {l : List ByteArray} {y : ByteArray} (h : y ∈ l) (hy : ∀ z ∈ l, above z y = false) : y = (topT l).1 := by
  by_cases e : y = (topT l).1
  · exact e
  · have hp : 0 < l.length := List.length_pos_of_mem h
    rcases above_total e with q | q
    · rw [top_top h] at q; cases q
    · rw [hy _ (top_mem hp)] at q; cases q
end Go.Abs
set_option linter.unusedVariables false
set_option linter.unusedSimpArgs false
namespace Go.Proofs.YtimgaglpempfeaaGreat.AB
open Go.Abs
theorem clamp_any (bits : Int) : ref04_clamp bits = some (wid bits : Int) := by
  rw [ref04_clamp.eq]
  simp only [ltI_d, br_if]
  unfold wid
  by_cases h : bits < 0
  · rw [if_pos h]; exact some_int (by omega)
  · rw [if_neg h]
    by_cases h' : 64 < bits
    · rw [if_pos h']; exact some_int (by omega)
    · rw [if_neg h']; exact some_int (by omega)
theorem reflow_loop (bits : Int) (n : Nat) (hn : n < 18446744073709551616) (d : Nat) : ∀ (i : Nat) (one : Int), i ≤ wid bits → (i < 64 → one = 2 ^ i) → wid bits - i = d →
    ref04_Of.l1 bits ((n / 2 ^ i : Nat) : Int) ((n % 2 ^ i : Nat) : Int) one i = some ((n % 2 ^ wid bits : Nat) : Int) := by
  have hw := wid_le bits
  induction d with
  | zero =>
    intro i one hi h1 hd
    rw [ref04_Of.l1.eq, clamp_any, bnd_some]
    simp only [ltI_d, br_if]
    rw [if_neg (by omega), show i = wid bits by omega]
  | succ d ih =>
    intro i one hi h1 hd
    rw [ref04_Of.l1.eq, clamp_any, bnd_some]
    simp only [ltI_d, br_if, eqI_d, notB_d]
    have hone := h1 (by omega)
    subst hone
    have c : ((2 : Int) ^ i) = ((2 ^ i : Nat) : Int) := by simp
    have p : 2 ^ i ≤ 2 ^ 63 := Nat.pow_le_pow_right (by omega) (by omega)
    have q : n / 2 ^ i ≤ n := Nat.div_le_self _ _
    have q2 : n / 2 ^ i / 2 = n / 2 ^ (i + 1) := by rw [Nat.div_div_eq_div_mul, Nat.pow_succ]
    have m1 := mod_pow_succ n i
    have m2 : n % 2 ^ (i + 1) < 18446744073709551616 := by have := Nat.mod_le n (2 ^ (i + 1)); omega
    rw [if_pos (by omega), if_pos (by omega), if_pos (by omega), add1 i (by omega)]
    unfold quoI remI addI mulI
    rw [Int.tdiv_eq_ediv_of_nonneg (Int.natCast_nonneg _), Int.tmod_eq_emod_of_nonneg (Int.natCast_nonneg _)]
    have e := lowstep (n / 2 ^ i) _ (n % 2 ^ i) _ (2 ^ i) q2 m1 m2 (by omega) p
    rw [← c] at e
    rw [e.1, e.2]
    refine ih (i + 1) _ (by omega) (fun h => ?_) (by omega)
    have p2 : 2 ^ (i + 1) ≤ 2 ^ 63 := Nat.pow_le_pow_right (by omega) (by omega)
    have c2 : ((2 : Int) ^ (i + 1)) = ((2 ^ (i + 1) : Nat) : Int) := by simp
    rw [c, c2, wrap_u64, Nat.pow_succ]
    rw [Nat.pow_succ] at p2
    omega
theorem byte_u64 (s : ByteArray) (i : Nat) (hi : i < s.size) : ∃ x : UInt8, (bl s).drop i = x :: (bl s).drop (i + 1) ∧ wrapI .u64 (getS s (toN (i : Int))) = IntKind.u64.wrap (x.toNat : Int) := by
  obtain ⟨x, e, hx⟩ := drop_cons s i hi
  refine ⟨x, e, ?_⟩
  rw [getS_bt, hx]; rfl
theorem refof_loop (s : ByteArray) (bits : Int) (hs : s.size ≤ 140737488351232) (d : Nat) : ∀ (i : Nat) (h : Int), 0 ≤ h → h < 18446744073709551616 → i ≤ s.size → s.size - i = d →
    ref04_Of.l0 s bits h i = some ((((fnv ((bl s).drop i) h).toNat % 2 ^ wid bits : Nat)) : Int) := by
  have hw := wid_le bits
  induction d with
  | zero =>
    intro i h h0 h1 hi hd
    rw [ref04_Of.l0.eq]
    simp only [ltI_d, leI_d, ofN_d, lenS_d, andB_d, br_if]
    obtain ⟨n, rfl⟩ : ∃ n : Nat, h = n := ⟨h.toNat, by omega⟩
    rw [if_neg (by omega), List.drop_eq_nil_of_le (by rw [bl_len]; omega)]
    have := reflow_loop bits n (by omega) (wid bits) 0 1 (by omega) (fun _ => by simp) (by omega)
    simp only [Nat.pow_zero, Nat.div_one, Nat.mod_one, Int.cast_ofNat_Int] at this
    rw [this]
    rfl
  | succ d ih =>
    intro i h h0 h1 hi hd
    rw [ref04_Of.l0.eq]
    simp only [ltI_d, leI_d, ofN_d, lenS_d, andB_d, br_if]
    obtain ⟨x, e, hx⟩ := byte_u64 s i (by omega)
    rw [if_pos (by omega), if_pos (by omega), e, add1 i (by omega), hx]
    have hr := hstep_range h (x.toNat : Int)
    have := ih (i + 1) (hstep h (x.toNat : Int)) hr.1 hr.2 (by omega) (by omega)
    unfold hstep at this
    unfold mulI
    rw [this, fnv_cons]
    rfl
theorem refof_any (s : ByteArray) (bits : Int) (hs : s.size ≤ 140737488351232) : ref04_Of s bits = some ((hashS s bits : Nat) : Int) := by
  rw [ref04_Of.eq]
  have := refof_loop s bits hs s.size 0 14695981039346656037 (by omega) (by omega) (by omega) (by omega)
  simp only [List.drop_zero, Int.cast_ofNat_Int] at this
  unfold hashS
  rw [hashN_eq]
  exact this
theorem within_any (bits : Int) : hash_within bits = some (wid bits : Int) := by
  rw [hash_within.eq]
  simp only [minI_d, maxI_d]
  unfold wid
  exact some_int (by omega)
theorem cutb_any (h : Nat) (hh : h < 18446744073709551616) (bits : Int) : hash_cut h bits = some ((h % 2 ^ wid bits : Nat) : Int) := by
  have hw := wid_le bits
  rw [hash_cut.eq, within_any, bnd_some]
  simp only [eqI_d, leI_d, br_if]
  by_cases e : wid bits = 64
  · rw [if_pos (by omega), e, Nat.mod_eq_of_lt (by omega)]
  · rw [if_neg (by omega), bnd_some, if_pos (by omega)]
    have hpos : 0 < 2 ^ wid bits := Nat.two_pow_pos _
    have hle : 2 ^ wid bits ≤ 2 ^ 63 := Nat.pow_le_pow_right (by omega) (by omega)
    have e1 : shlI .u64 1 ((wid bits : Nat) : Int) = ((2 ^ wid bits : Nat) : Int) := by
      unfold shlI
      rw [Int.toNat_natCast, show IntKind.u64.bits = 64 from rfl, Nat.min_eq_left hw, Int.one_mul, wrap_u64]
      have c : ((2 : Int) ^ wid bits) = ((2 ^ wid bits : Nat) : Int) := by simp
      rw [c]
      generalize 2 ^ wid bits = P at hle ⊢
      omega
    have e2 : subI .u64 ((2 ^ wid bits : Nat) : Int) 1 = ((2 ^ wid bits - 1 : Nat) : Int) := by
      unfold subI
      rw [wrap_u64]
      generalize 2 ^ wid bits = P at hle hpos ⊢
      omega
    rw [e1, e2, and_u64 _ _ hh hw]
theorem hashof_loop (s : ByteArray) (bits : Int) (hs : s.size ≤ 140737488351232) (d : Nat) : ∀ (i : Nat) (h : Int), 0 ≤ h → h < 18446744073709551616 → i ≤ s.size → s.size - i = d →
    hash_Of.l0 s bits h s.size i = some ((((fnv ((bl s).drop i) h).toNat % 2 ^ wid bits : Nat)) : Int) := by
  induction d with
  | zero =>
    intro i h h0 h1 hi hd
    rw [hash_Of.l0.eq]
    simp only [ltI_d, leI_d, ofN_d, lenS_d, andB_d, br_if]
    obtain ⟨n, rfl⟩ : ∃ n : Nat, h = n := ⟨h.toNat, by omega⟩
    rw [if_neg (by omega), List.drop_eq_nil_of_le (by rw [bl_len]; omega), cutb_any n (by omega), bnd_some]
    rfl
  | succ d ih =>
    intro i h h0 h1 hi hd
    rw [hash_Of.l0.eq]
    simp only [ltI_d, leI_d, ofN_d, lenS_d, andB_d, br_if]
    obtain ⟨x, e, hx⟩ := byte_u64 s i (by omega)
    rw [if_pos (by omega), if_pos (by omega), e, add1 i (by omega), hx]
    have hr := hstep_range h (x.toNat : Int)
    have := ih (i + 1) (hstep h (x.toNat : Int)) hr.1 hr.2 (by omega) (by omega)
    unfold hstep at this
    unfold mulI
    rw [this, fnv_cons]
    rfl
theorem hashof_any (s : ByteArray) (bits : Int) (hs : s.size ≤ 140737488351232) : hash_Of s bits = some ((hashS s bits : Nat) : Int) := by
  rw [hash_Of.eq]
  have := hashof_loop s bits hs s.size 0 14695981039346656037 (by omega) (by omega) (by omega) (by omega)
  simp only [List.drop_zero, Int.cast_ofNat_Int] at this
  unfold hashS
  rw [hashN_eq]
  exact this
end Go.Proofs.YtimgaglpempfeaaGreat.AB
set_option linter.unusedVariables false
set_option linter.unusedSimpArgs false
namespace Go.Proofs.YtimgaglpempfeaaGreat.AB
open Go.Abs
theorem levels_any (bits : Int) : hash_Levels bits = some ((lev bits : Nat) : Int) := by
  have hw := wid_le bits
  rw [hash_Levels.eq, within_any, bnd_some, show notB (eqI 5 0) = true from rfl, br_t, addI_d (by omega) (by omega), subI_d (by omega) (by omega)]
  unfold quoI lev
  rw [Int.tdiv_eq_ediv_of_nonneg (by omega), wrap_i64_id (by omega) (by omega)]
  exact some_int (by omega)
theorem reflevels_loop (bits : Int) (d : Nat) : ∀ (l : Nat), l ≤ lev bits → lev bits - l = d → ref04_Levels.l0 bits l = some ((lev bits : Nat) : Int) := by
  have hw := wid_le bits
  have em : ∀ l : Nat, l ≤ 13 → mulI .i64 5 (l : Int) = 5 * (l : Int) := fun l hl => by unfold mulI; exact wrap_i64_id (by omega) (by omega)
  have hv := lev_le bits
  induction d with
  | zero =>
    intro l hl hd
    rw [ref04_Levels.l0.eq, clamp_any, bnd_some, em l (by omega)]
    simp only [ltI_d, br_if]
    unfold lev at hl hd
    rw [if_neg (by omega)]
    unfold lev
    exact some_int (by omega)
  | succ d ih =>
    intro l hl hd
    rw [ref04_Levels.l0.eq, clamp_any, bnd_some, em l (by omega)]
    simp only [ltI_d, br_if]
    have hl2 := hl
    have hd2 := hd
    unfold lev at hl hd
    rw [if_pos (by omega), add1 l (by omega)]
    exact ih (l + 1) (by omega) (by omega)
theorem reflevels_any (bits : Int) : ref04_Levels bits = some ((lev bits : Nat) : Int) := by
  rw [ref04_Levels.eq]
  exact reflevels_loop bits (lev bits) 0 (by omega) (by omega)
theorem chunk_any (h : Nat) (hh : h < 18446744073709551616) (level bits : Int) (hl : level ≤ 9223372036854775807) :
    hash_Chunk h level bits = some (((if level < 0 then 0 else chunkS h level.toNat bits) : Nat) : Int) := by
  have hv := lev_le bits
  have hw := wid_le bits
  rw [hash_Chunk.eq, levels_any, bnd_some]
  simp only [ltI_d, leI_d, br_if]
  by_cases h0 : level < 0
  · rw [if_pos h0, if_pos h0]; rfl
  · rw [if_neg h0, if_neg h0]
    unfold chunkS
    by_cases h1 : ((lev bits : Nat) : Int) ≤ level
    · rw [if_pos h1, if_neg (by omega)]; rfl
    · rw [if_neg h1, if_pos (by omega), cutb_any h hh, bnd_some]
      obtain ⟨l, rfl⟩ : ∃ l : Nat, level = l := ⟨level.toNat, by omega⟩
      rw [Int.toNat_natCast]
      have hlt : h % 2 ^ wid bits < 18446744073709551616 := by have := Nat.mod_le h (2 ^ wid bits); omega
      generalize h % 2 ^ wid bits = c at hlt ⊢
      have em : mulI .i64 5 (l : Int) = ((5 * l : Nat) : Int) := by unfold mulI; rw [wrap_i64_id (by omega) (by omega)]; omega
      rw [em, if_pos (by omega)]
      have e1 : shrI .u64 (c : Int) ((5 * l : Nat) : Int) = ((c / 2 ^ (5 * l) : Nat) : Int) := by
        unfold shrI
        have hl' : l < lev bits := by omega
        have : 5 * l ≤ 64 := by unfold lev at hl'; omega
        rw [Int.toNat_natCast, show IntKind.u64.bits = 64 from rfl, Nat.min_eq_left this, Int.fdiv_eq_ediv_of_nonneg _ (Int.pow_nonneg (by omega))]
        simp
      have hle : c / 2 ^ (5 * l) ≤ c := Nat.div_le_self _ _
      rw [e1]
      generalize c / 2 ^ (5 * l) = q at hle ⊢
      have e2 := and_u64 q 5 (by omega) (by omega)
      rw [show ((2 ^ 5 - 1 : Nat) : Int) = 31 from rfl] at e2
      rw [e2]
      have : q % 2 ^ 5 < 32 := Nat.mod_lt _ (by decide)
      unfold wrapI
      rw [wrap_i64_id (by omega) (by omega)]
theorem bit_loop (a : Nat) (d : Nat) : ∀ (h i : Nat), h < 18446744073709551616 → i ≤ a → a ≤ 64 → a - i = d → ref04_bit.l0 h a i = some ((h / 2 ^ d % 2 : Nat) : Int) := by
  induction d with
  | zero =>
    intro h i hh hi ha hd
    rw [ref04_bit.l0.eq]
    simp only [ltI_d, eqI_d, notB_d, br_if]
    unfold remI wrapI
    rw [if_neg (by omega), if_pos (by omega), Int.tmod_eq_emod_of_nonneg (by omega), wrap_i64_id (by omega) (by omega)]
    refine some_int ?_
    simp
  | succ d ih =>
    intro h i hh hi ha hd
    rw [ref04_bit.l0.eq]
    simp only [ltI_d, eqI_d, notB_d, br_if]
    unfold quoI
    rw [if_pos (by omega), if_pos (by omega), Int.tdiv_eq_ediv_of_nonneg (by omega), Go.Abs.wrap_u64_id (by omega) (by omega), add1 i (by omega), show ((h : Int) / 2) = ((h / 2 : Nat) : Int) by omega]
    rw [ih (h / 2) (i + 1) (by omega) (by omega) (by omega) (by omega), Nat.div_div_eq_div_mul, Nat.pow_succ, Nat.mul_comm 2]
theorem bit_any (h a : Nat) (hh : h < 18446744073709551616) (ha : a ≤ 64) : ref04_bit h a = some ((h / 2 ^ a % 2 : Nat) : Int) := by
  rw [ref04_bit.eq]
  exact bit_loop a a h 0 hh (by omega) ha (by omega)
theorem refchunk_loop (h : Nat) (hh : h < 18446744073709551616) (l : Nat) (bits : Int) (hl : l < lev bits) (d : Nat) : ∀ (j : Nat), j ≤ min 5 (wid bits - 5 * l) → min 5 (wid bits - 5 * l) - j = d →
    ref04_Chunk.l0 h l bits ((h / 2 ^ (5 * l) % 2 ^ j : Nat) : Int) (2 ^ j) ((5 * l + j : Nat) : Int) = some ((h / 2 ^ (5 * l) % 2 ^ min 5 (wid bits - 5 * l) : Nat) : Int) := by
  have hw := wid_le bits
  have hv := lev_le bits
  have hlw : 5 * l < wid bits := by unfold lev at hl; omega
  have em : addI .i64 (mulI .i64 5 (l : Int)) 5 = ((5 * l + 5 : Nat) : Int) := by
    have : mulI .i64 5 (l : Int) = ((5 * l : Nat) : Int) := by unfold mulI; rw [wrap_i64_id (by omega) (by omega)]; omega
    rw [this, addI_d (by omega) (by omega)]; omega
  induction d with
  | zero =>
    intro j hj hd
    have hj' : j = min 5 (wid bits - 5 * l) := by omega
    rw [ref04_Chunk.l0.eq, em, clamp_any, bnd_some]
    simp only [ltI_d, br_if]
    by_cases e : ((5 * l + j : Nat) : Int) < ((5 * l + 5 : Nat) : Int)
    · rw [if_pos e, if_neg (by omega), hj']
    · rw [if_neg e, hj']
  | succ d ih =>
    intro j hj hd
    rw [ref04_Chunk.l0.eq, em, clamp_any, bnd_some]
    simp only [ltI_d, br_if]
    rw [if_pos (by omega), if_pos (by omega), bit_any h (5 * l + j) hh (by omega), bnd_some, add1 _ (by omega)]
    have c : ((2 : Int) ^ j) = ((2 ^ j : Nat) : Int) := by simp
    have c2 : ((2 : Int) ^ (j + 1)) = ((2 ^ (j + 1) : Nat) : Int) := by simp
    have p : 2 ^ j ≤ 2 ^ 5 := Nat.pow_le_pow_right (by omega) (by omega)
    have m1 := mod_pow_succ (h / 2 ^ (5 * l)) j
    have q : h / 2 ^ (5 * l) / 2 ^ j = h / 2 ^ (5 * l + j) := by rw [Nat.div_div_eq_div_mul, Nat.pow_add]
    rw [q] at m1
    have m3 : h / 2 ^ (5 * l) % 2 ^ j < 2 ^ j := Nat.mod_lt _ (Nat.two_pow_pos _)
    have := ih (j + 1) (by omega) (by omega)
    rw [c2, Nat.pow_succ] at this
    have e1 := chunkstep (h / 2 ^ (5 * l + j) % 2) (h / 2 ^ (5 * l) % 2 ^ j) _ (2 ^ j) m1 (Nat.mod_lt _ (by omega)) (by omega) (by omega)
    rw [← c] at e1
    have w2 : mulI .i64 2 ((2 ^ j : Nat) : Int) = ((2 ^ j * 2 : Nat) : Int) := by
      unfold mulI
      generalize 2 ^ j = P at p ⊢
      rw [wrap_i64_id (by omega) (by omega)]
      omega
    have w1 : addI .i64 ((h / 2 ^ (5 * l) % 2 ^ j : Nat) : Int) (mulI .i64 (2 ^ j) ((h / 2 ^ (5 * l + j) % 2 : Nat) : Int)) = ((h / 2 ^ (5 * l) % 2 ^ (j + 1) : Nat) : Int) := e1
    rw [w1, c, w2]
    exact this
theorem refchunk_any (h : Nat) (hh : h < 18446744073709551616) (level bits : Int) (hl : level ≤ 9223372036854775807) :
    ref04_Chunk h level bits = some (((if level < 0 then 0 else chunkS h level.toNat bits) : Nat) : Int) := by
  have hv := lev_le bits
  have hw := wid_le bits
  rw [ref04_Chunk.eq, reflevels_any, bnd_some]
  simp only [ltI_d, leI_d, br_if]
  by_cases h0 : level < 0
  · rw [if_pos h0, if_pos h0]; rfl
  · rw [if_neg h0, if_neg h0]
    unfold chunkS
    by_cases h1 : ((lev bits : Nat) : Int) ≤ level
    · rw [if_pos h1, if_neg (by omega)]; rfl
    · rw [if_neg h1, if_pos (by omega)]
      obtain ⟨l, rfl⟩ : ∃ l : Nat, level = l := ⟨level.toNat, by omega⟩
      rw [Int.toNat_natCast]
      have hlw : 5 * l < wid bits := by
        have : l < lev bits := by omega
        unfold lev at this; omega
      have em : mulI .i64 5 (l : Int) = ((5 * l : Nat) : Int) := by unfold mulI; rw [wrap_i64_id (by omega) (by omega)]; omega
      have := refchunk_loop h hh l bits (by omega) (min 5 (wid bits - 5 * l)) 0 (by omega) (by omega)
      simp only [Nat.pow_zero, Nat.mod_one, Nat.add_zero, Int.pow_zero] at this
      rw [em, show (0 : Int) = ((0 : Nat) : Int) from rfl, this]
      refine some_int ?_
      rw [mod_div_pow h _ _ (by omega), show (32 : Nat) = 2 ^ 5 from rfl, mod_mod_pow, Nat.min_comm]
end Go.Proofs.YtimgaglpempfeaaGreat.AB
set_option linter.unusedVariables false
set_option linter.unusedSimpArgs false
namespace Go.Proofs.YtimgaglpempfeaaGreat.AB
open Go.Abs
theorem tri (a b : ByteArray) : (lt a b = true ∧ lt b a = false ∧ a ≠ b) ∨ (a = b ∧ lt a b = false ∧ lt b a = false) ∨ (lt b a = true ∧ lt a b = false ∧ a ≠ b) := by
  by_cases h : a = b
  · subst h; exact .inr (.inl ⟨rfl, lt_irrefl _, lt_irrefl _⟩)
  · rcases lt_total h with k | k
    · exact .inl ⟨k, lt_asymm k, h⟩
    · exact .inr (.inr ⟨k, lt_asymm k, h⟩)
theorem putS_lt {q p : PairV} {qs : List PairV} (h : lt q.1 p.1 = true) : putS (q :: qs) p = q :: putS qs p := by
  rw [putS, if_pos h]
theorem putS_eq {q p : PairV} {qs : List PairV} (h : q.1 = p.1) : putS (q :: qs) p = p :: qs := by
  rw [putS, if_neg (by rw [h, lt_irrefl]; simp), if_pos h]
theorem putS_gt {q p : PairV} {qs : List PairV} (h : lt p.1 q.1 = true) : putS (q :: qs) p = p :: q :: qs := by
  rw [putS, if_neg (by rw [lt_asymm h]; simp), if_neg (fun e => by rw [e, lt_irrefl] at h; cases h)]
theorem putS_nil (p : PairV) : putS [] p = [p] := rfl
theorem putS_same {p x : PairV} (h : p.1 = x.1) : ∀ l, putS (putS l p) x = putS l x
  | [] => by rw [putS_nil, putS_eq h, putS_nil]
  | q :: qs => by
    rcases tri q.1 p.1 with ⟨a, _⟩ | ⟨a, _⟩ | ⟨a, _⟩
    · have a' : lt q.1 x.1 = true := by rw [← h]; exact a
      rw [putS_lt a, putS_lt a', putS_lt a', putS_same h qs]
    · rw [putS_eq a, putS_eq h, putS_eq (a.trans h)]
    · have a' : lt x.1 q.1 = true := by rw [← h]; exact a
      rw [putS_gt a, putS_eq h, putS_gt a']
theorem putS_comm {p x : PairV} (h : p.1 ≠ x.1) : ∀ l, putS (putS l p) x = putS (putS l x) p
  | [] => by
    rw [putS_nil, putS_nil]
    rcases tri p.1 x.1 with ⟨c, _⟩ | ⟨c, _⟩ | ⟨c, _⟩
    · rw [putS_lt c, putS_gt c, putS_nil]
    · exact absurd c h
    · rw [putS_gt c, putS_lt c, putS_nil]
  | q :: qs => by
    rcases tri q.1 p.1 with ⟨a, _⟩ | ⟨a, _⟩ | ⟨a, _⟩
    · rcases tri q.1 x.1 with ⟨b, _⟩ | ⟨b, _⟩ | ⟨b, _⟩
      · rw [putS_lt a, putS_lt b, putS_lt b, putS_lt a, putS_comm h qs]
      · have c : lt x.1 p.1 = true := by rw [← b]; exact a
        rw [putS_lt a, putS_eq b, putS_eq b, putS_lt c]
      · rw [putS_lt a, putS_gt b, putS_gt b, putS_lt (lt_trans b a), putS_lt a]
    · rcases tri q.1 x.1 with ⟨b, _⟩ | ⟨b, _⟩ | ⟨b, _⟩
      · have c : lt p.1 x.1 = true := by rw [← a]; exact b
        rw [putS_eq a, putS_lt c, putS_lt b, putS_eq a]
      · exact absurd (a.symm.trans b) h
      · have c : lt x.1 p.1 = true := by rw [← a]; exact b
        rw [putS_eq a, putS_gt c, putS_gt b, putS_lt c, putS_eq a]
    · rcases tri q.1 x.1 with ⟨b, _⟩ | ⟨b, _⟩ | ⟨b, _⟩
      · rw [putS_gt a, putS_lt (lt_trans a b), putS_lt b, putS_gt a]
      · have c : lt p.1 x.1 = true := by rw [← b]; exact a
        rw [putS_gt a, putS_lt c, putS_eq b, putS_gt c]
      · rcases tri p.1 x.1 with ⟨c, _⟩ | ⟨c, _⟩ | ⟨c, _⟩
        · rw [putS_gt a, putS_lt c, putS_gt b, putS_gt c]
        · exact absurd c h
        · rw [putS_gt a, putS_gt c, putS_gt b, putS_lt c, putS_gt a]
theorem fold_skip {p : PairV} : ∀ (r acc : List PairV), (∃ q ∈ r, q.1 = p.1) → r.foldl putS (putS acc p) = r.foldl putS acc
  | [], _, ⟨_, h, _⟩ => by cases h
  | x :: r, acc, ⟨q, hq, e⟩ => by
    rw [List.foldl_cons, List.foldl_cons]
    by_cases hx : p.1 = x.1
    · rw [putS_same hx]
    · rw [putS_comm hx]
      refine fold_skip r _ ⟨q, ?_, e⟩
      rcases List.mem_cons.1 hq with rfl | hq
      · exact absurd e.symm hx
      · exact hq
/-! ### The document's way -/
theorem last_loop (l : List PairV) (hl : l.length ≤ 50000000) (i : Nat) (hi : i < l.length) (d : Nat) : ∀ (k : Nat), k ≤ l.length → l.length - k = d → ref07_last.l0 l i k = some ((l.drop k).all fun q => !decide (q.1 = l[i].1)) := by
  induction d with
  | zero =>
    intro k h1 h2
    rw [ref07_last.l0.eq]
    simp only [ltI_d, ofN_d, lenL_d, br_if]
    rw [if_neg (by omega), List.drop_eq_nil_of_le (by omega)]
    rfl
  | succ d ih =>
    intro k h1 h2
    have hk : k < l.length := by omega
    rw [ref07_last.l0.eq]
    simp only [ltI_d, leI_d, eqS_d, ofN_d, lenL_d, andB_d, br_if]
    rw [if_pos (by omega), if_pos (by omega), if_pos (by omega), ixP l k hk, ixP l i hi, add1 k (by omega), ih (k + 1) (by omega) (by omega), List.drop_eq_getElem_cons hk]
    rw [List.all_cons]
    by_cases e : l[k].1 = l[i].1
    · rw [if_pos e, decide_eq_true e]; rfl
    · rw [if_neg e, decide_eq_false e]; rfl
theorem last_any (l : List PairV) (hl : l.length ≤ 50000000) (i : Nat) (hi : i < l.length) : ref07_last l i = some ((l.drop (i + 1)).all fun q => !decide (q.1 = l[i].1)) := by
  rw [ref07_last.eq, add1 i (by omega)]
  exact last_loop l hl i hi _ (i + 1) (by omega) rfl
theorem insert_any (l out : List PairV) (i at_ : Nat) (hi : i < l.length) (hl : l.length ≤ 50000000) (ha : at_ ≤ out.length) (ho : out.length ≤ 50000000) :
    ref07_Make.j2 l i at_ false out = ref07_Make.l0 l ((i + 1 : Nat) : Int) (out.take at_ ++ l[i] :: out.drop at_) := by
  rw [ref07_Make.j2.eq, br_f]
  have e0 : toN 0 = 0 := rfl
  have s1 : subL tapiPair out 0 at_ = out.take at_ := subL0 _ _ _
  have s2 : subL tapiPair out at_ out.length = out.drop at_ := by
    unfold subL
    exact List.take_of_length_le (by rw [List.length_drop]; omega)
  have hx := ixP l i hi
  simp only [e0, toN_d, ofN_d, lenL_d, s1, s2, hx, appL_d, List.nil_append, add1 i (by omega)]
  have c1 : andB (leI 0 (i : Int)) (ltI (i : Int) (l.length : Int)) = true := by
    rw [leI_d, ltI_d, andB_d]; exact decide_eq_true ⟨by omega, by omega⟩
  have c2 : andB (leI 0 0) (andB (leI 0 (at_ : Int)) (leI (at_ : Int) (out.length : Int))) = true := by
    rw [leI_d, leI_d, leI_d, andB_d, andB_d]; exact decide_eq_true ⟨by omega, by omega, by omega⟩
  have c3 : fitL tapiPair (out.take at_) = true := by rw [fitL_d]; exact decide_eq_true (by rw [List.length_take]; omega)
  have c4 : fitL tapiPair (out.take at_ ++ [l[i]]) = true := by rw [fitL_d]; exact decide_eq_true (by rw [List.length_append, List.length_take]; show _ + 1 ≤ _; omega)
  have c5 : andB (leI 0 (at_ : Int)) (andB (leI (at_ : Int) (out.length : Int)) (leI (out.length : Int) (out.length : Int))) = true := by
    rw [leI_d, leI_d, leI_d, andB_d, andB_d]; exact decide_eq_true ⟨by omega, by omega, by omega⟩
  have c6 : fitL tapiPair (out.take at_ ++ [l[i]] ++ out.drop at_) = true := by rw [fitL_d]; exact decide_eq_true (by rw [List.length_append, List.length_append, List.length_take, List.length_drop]; show _ + 1 + _ ≤ _; omega)
  simp only [c1, c2, c3, c4, c5, c6, br_t, both_self]
  rw [List.append_assoc]
  rfl
theorem find_loop (l out : List PairV) (i : Nat) (hi : i < l.length) (hl : l.length ≤ 50000000) (ho : out.length ≤ 50000000) (hs : ∀ p ∈ out, okP p) (hS : Srt out) (hne : ∀ q ∈ out, q.1 ≠ l[i].1) (d : Nat) : ∀ (a : Nat), a ≤ out.length → out.length - a = d → (∀ (b : Nat) (h : b < out.length), b < a → lt out[b].1 l[i].1 = true) →
    ref07_Make.l1 l i a out = ref07_Make.l0 l ((i + 1 : Nat) : Int) (putS out l[i]) := by
  have fin : ∀ (a : Nat), a ≤ out.length → (∀ (b : Nat) (h : b < out.length), b < a → lt out[b].1 l[i].1 = true) → (∀ (h : a < out.length), lt out[a].1 l[i].1 = false) → ref07_Make.j2 l i a false out = ref07_Make.l0 l ((i + 1 : Nat) : Int) (putS out l[i]) := by
    intro a h1 h2 h3
    rw [insert_any l out i a hi hl h1 ho, putS_at l[i] out a h1 h2 h3, if_neg (by rintro ⟨h, e⟩; exact hne _ (List.getElem_mem h) e)]
  induction d with
  | zero =>
    intro a h1 h2 h3
    rw [ref07_Make.l1.eq]
    simp only [ltI_d, ofN_d, lenL_d, br_if]
    rw [if_neg (by omega)]
    exact fin a h1 h3 (fun h => by omega)
  | succ d ih =>
    intro a h1 h2 h3
    have ha : a < out.length := by omega
    rw [ref07_Make.l1.eq]
    simp only [ltI_d, leI_d, ofN_d, lenL_d, andB_d, br_if]
    rw [if_pos (by omega), if_pos (by omega), if_pos (by omega), ixP out a ha, ixP l i hi, less_any _ _ (by have := (hs _ (List.getElem_mem ha)).1; omega), bnd_some]
    cases hc : lt out[a].1 l[i].1 with
    | true =>
      rw [ref07_Make.j2.eq, br_t, add1 a (by omega)]
      refine ih (a + 1) (by omega) (by omega) (fun b h hb => ?_)
      by_cases e : b = a
      · subst e; exact hc
      · exact h3 b h (by omega)
    | false => exact fin a h1 h3 (fun _ => hc)
theorem refmake_loop (l : List PairV) (hl : l.length ≤ 40000000) (hs : ∀ p ∈ l, okP p) (d : Nat) : ∀ (i : Nat) (acc : List PairV), i ≤ l.length → l.length - i = d → acc.length ≤ i → (∀ q ∈ acc, okP q) → Srt acc → (∀ q ∈ acc, ∀ x ∈ l.drop i, q.1 ≠ x.1) →
    ref07_Make.l0 l i acc = some ((l.drop i).foldl putS acc) := by
  induction d with
  | zero =>
    intro i acc h1 h2 h3 h4 h5 h6
    rw [ref07_Make.l0.eq]
    simp only [ltI_d, ofN_d, lenL_d, br_if]
    rw [if_neg (by omega), List.drop_eq_nil_of_le (by omega)]
    rfl
  | succ d ih =>
    intro i acc h1 h2 h3 h4 h5 h6
    have hi : i < l.length := by omega
    have hd := List.drop_eq_getElem_cons hi
    rw [hd] at h6
    rw [ref07_Make.l0.eq]
    simp only [ltI_d, ofN_d, lenL_d, br_if]
    rw [if_pos (by omega), last_any l (by omega) i hi, bnd_some, hd, List.foldl_cons]
    by_cases e' : ((l.drop (i + 1)).all fun q => !decide (q.1 = l[i].1)) = true
    · have e : ∀ q ∈ l.drop (i + 1), q.1 ≠ l[i].1 := fun q hq => by simpa using List.all_eq_true.1 e' q hq
      rw [e', show notB true = false from rfl, br_f]
      have := find_loop l acc i hi (by omega) (by omega) h4 h5 (fun q hq => h6 q hq _ List.mem_cons_self) acc.length 0 (by omega) (by omega) (fun b h hb => by omega)
      rw [show ((0 : Nat) : Int) = 0 from rfl] at this
      rw [this]
      have hlen := putS_len l[i] acc
      refine ih (i + 1) _ (by omega) (by omega) (by omega) (putS_ok h4 (hs _ (List.getElem_mem hi))) (putS_srt _ h5) (fun q hq x hx => ?_)
      rcases putS_mem hq with rfl | hq
      · exact fun h => e x hx h.symm
      · exact h6 q hq x (List.mem_cons_of_mem _ hx)
    · have e : ¬ ∀ q ∈ l.drop (i + 1), q.1 ≠ l[i].1 := fun h => e' (List.all_eq_true.2 fun q hq => by simpa using h q hq)
      have e2 : ((l.drop (i + 1)).all fun q => !decide (q.1 = l[i].1)) = false := by simpa using e'
      rw [e2, show notB false = true from rfl, br_t, add1 i (by omega), ih (i + 1) acc (by omega) (by omega) (by omega) h4 h5 (fun q hq x hx => h6 q hq x (List.mem_cons_of_mem _ hx))]
      have hex : ∃ q ∈ l.drop (i + 1), q.1 = l[i].1 := by
        refine Classical.byContradiction fun h => e fun q hq he => h ⟨q, hq, he⟩
      rw [fold_skip _ _ hex]
theorem refmake_any (l : List PairV) (hl : l.length ≤ 40000000) (hs : ∀ p ∈ l, okP p) : ref07_Make l = some (makeS l) := by
  rw [ref07_Make.eq]
  have := refmake_loop l hl hs l.length 0 [] (by omega) (by omega) (by simp) (by simp) List.Pairwise.nil (by simp)
  rw [List.drop_zero, show ((0 : Nat) : Int) = 0 from rfl] at this
  exact this
end Go.Proofs.YtimgaglpempfeaaGreat.AB
set_option linter.unusedVariables false
set_option linter.unusedSimpArgs false
namespace Go.Proofs.YtimgaglpempfeaaGreat.AB
open Go.Abs
def refsS (n : NodeV) : List Int := n.2.2.2.2.1.filter (fun r => decide (r ≠ 0)) ++ (if n.2.2.2.2.2.1 ≠ 0 then [n.2.2.2.2.2.1] else [])
theorem refsS_len (n : NodeV) : (refsS n).length ≤ n.2.2.2.2.1.length + 1 := by
  unfold refsS
  have := List.length_filter_le (fun r : Int => decide (r ≠ 0)) n.2.2.2.2.1
  rw [List.length_append]
  split <;> simp only [List.length_cons, List.length_nil] <;> omega
theorem refs_loop (l : List Int) (hl : l.length ≤ 50000000) (d : Nat) : ∀ (i : Nat) (acc : List Int), i ≤ l.length → l.length - i = d → acc.length ≤ i → node_Refs.l0 l.length i acc l = some (acc ++ (l.drop i).filter (fun r => decide (r ≠ 0))) := by
  induction d with
  | zero =>
    intro i acc h1 h2 h3
    rw [node_Refs.l0.eq]
    simp only [ltI_d, br_if]
    rw [if_neg (by omega), List.drop_eq_nil_of_le (by omega)]
    simp
  | succ d ih =>
    intro i acc h1 h2 h3
    have hi : i < l.length := by omega
    rw [node_Refs.l0.eq]
    simp only [ltI_d, leI_d, ofN_d, lenL_d, andB_d, eqI_d, notB_d, br_if, fitL_d, appL_d]
    rw [if_pos (by omega), if_pos (by omega), ixR l i hi, add1 i (by omega), List.drop_eq_getElem_cons hi]
    by_cases e : l[i] = 0
    · rw [if_neg (by intro q; exact q e), ih (i + 1) acc (by omega) (by omega) (by omega), List.filter_cons_of_neg (by simp [e])]
    · rw [if_pos e, if_pos (by rw [List.length_append]; show _ + 1 ≤ _; omega), ih (i + 1) _ (by omega) (by omega) (by rw [List.length_append]; show _ + 1 ≤ _; omega), List.filter_cons_of_pos (by simp [e]), List.append_assoc]
      rfl
theorem refs_any (n : NodeV) (h : okN n) : node_Refs n = some (refsS n) := by
  have hk := h.kids
  rw [node_Refs.eq, cloneR_any _ (by omega), bnd_some]
  simp only [ofN_d, lenL_d, fitL_d, appL_d, br_if]
  have hlen : (n.2.2.2.2.1 ++ [n.2.2.2.2.2.1]).length = n.2.2.2.2.1.length + 1 := by simp
  rw [if_pos (by rw [hlen]; omega), both_self]
  have := refs_loop (n.2.2.2.2.1 ++ [n.2.2.2.2.2.1]) (by omega) _ 0 [] (by omega) rfl (by simp)
  rw [List.drop_zero, show ((0 : Nat) : Int) = 0 from rfl, List.nil_append, List.filter_append] at this
  rw [this]
  unfold refsS
  by_cases e : n.2.2.2.2.2.1 = 0
  · rw [List.filter_cons_of_neg (by simp [e]), if_neg (by intro q; exact q e)]; rfl
  · rw [List.filter_cons_of_pos (by simp [e]), if_pos e]; rfl
theorem refrefs_loop (n : NodeV) (h : okN n) (d : Nat) : ∀ (i : Nat) (acc : List Int), i ≤ n.2.2.2.2.1.length → n.2.2.2.2.1.length - i = d → acc.length ≤ i → ref13_Refs.l0 i n acc = some (acc ++ (n.2.2.2.2.1.drop i).filter (fun r => decide (r ≠ 0)) ++ (if n.2.2.2.2.2.1 ≠ 0 then [n.2.2.2.2.2.1] else [])) := by
  have hk := h.kids
  induction d with
  | zero =>
    intro i acc h1 h2 h3
    rw [ref13_Refs.l0.eq]
    simp only [ltI_d, leI_d, ofN_d, lenL_d, andB_d, eqI_d, notB_d, br_if, fitL_d, appL_d]
    rw [if_neg (by omega), List.drop_eq_nil_of_le (by omega), List.filter_nil, List.append_nil]
    by_cases e : n.2.2.2.2.2.1 = 0
    · rw [if_neg (by intro q; exact q e), if_neg (by intro q; exact q e), List.append_nil]
    · rw [if_pos e, if_pos e, if_pos (by rw [List.length_append]; show _ + 1 ≤ _; omega)]
  | succ d ih =>
    intro i acc h1 h2 h3
    have hi : i < n.2.2.2.2.1.length := by omega
    rw [ref13_Refs.l0.eq]
    simp only [ltI_d, leI_d, ofN_d, lenL_d, andB_d, eqI_d, notB_d, br_if, fitL_d, appL_d]
    rw [if_pos (by omega), if_pos (by omega), ixR _ i hi, add1 i (by omega), List.drop_eq_getElem_cons hi]
    by_cases e : n.2.2.2.2.1[i] = 0
    · rw [if_neg (by intro q; exact q e), ih (i + 1) acc (by omega) (by omega) (by omega), List.filter_cons_of_neg (by simp [e])]
    · rw [if_pos e, if_pos (by omega), if_pos (by rw [List.length_append]; show _ + 1 ≤ _; omega), ih (i + 1) _ (by omega) (by omega) (by rw [List.length_append]; show _ + 1 ≤ _; omega), List.filter_cons_of_pos (by simp [e])]
      simp
theorem refrefs_any (n : NodeV) (h : okN n) : ref13_Refs n = some (refsS n) := by
  rw [ref13_Refs.eq]
  have := refrefs_loop n h _ 0 [] (by omega) rfl (by simp)
  rw [List.drop_zero, show ((0 : Nat) : Int) = 0 from rfl, List.nil_append] at this
  exact this
end Go.Proofs.YtimgaglpempfeaaGreat.AB
set_option linter.unusedVariables false
set_option linter.unusedSimpArgs false
namespace Go.Proofs.YtimgaglpempfeaaGreat.AB
open Go.Abs
def bindsS (n : NodeV) : List PairV := if n.1 = 1 ∨ n.1 = 4 ∨ n.1 = 6 then [(n.2.1, (n.2.2.1, ()))] else if n.1 = 3 then n.2.2.2.2.2.2.1 else []
theorem binds_any (n : NodeV) (h : okN n) : node_Binds n = some ((), (bindsS n, ())) := by
  have hl := h.list
  rw [node_Binds.eq]
  unfold bindsS
  simp only [eqI_d, br_if]
  by_cases h1 : n.1 = 1
  · rw [if_pos h1, if_pos (.inl h1)]
  rw [if_neg h1]
  by_cases h6 : n.1 = 6
  · rw [if_pos h6, if_pos (.inr (.inr h6))]
  rw [if_neg h6]
  by_cases h4 : n.1 = 4
  · rw [if_pos h4, if_pos (.inr (.inl h4))]
  rw [if_neg h4, if_neg (show ¬ (n.1 = 1 ∨ n.1 = 4 ∨ n.1 = 6) by omega)]
  by_cases h3 : n.1 = 3
  · rw [if_pos h3, if_pos h3, cloneP_any _ (by omega), bnd_some]
  · rw [if_neg h3, if_neg h3]
end Go.Proofs.YtimgaglpempfeaaGreat.AB
set_option linter.unusedVariables false
set_option linter.unusedSimpArgs false
namespace Go.Proofs.YtimgaglpempfeaaGreat.AB
open Go.Abs
theorem shl_one (i : Nat) (h : i < 32) : shlI .u32 1 (i : Int) = ((2 ^ i : Nat) : Int) := by
  unfold shlI
  have h1 := pow_lt32 h
  rw [Int.toNat_natCast, show IntKind.u32.bits = 32 from rfl, Nat.min_eq_left (by omega), Int.one_mul]
  have : ((2 : Int) ^ i) = ((2 ^ i : Nat) : Int) := by simp
  rw [this]
  generalize 2 ^ i = q at h1 ⊢
  exact wraps_u32 _ (by omega) (by omega)
theorem below_any (i : Int) : mask_below i = some (low i : Int) := by
  rw [mask_below.eq]
  simp only [leI_d, br_if]
  unfold low cl
  by_cases h1 : i ≤ 0
  · rw [if_pos h1, show (min (max i 0) 32).toNat = 0 by omega]
    rfl
  rw [if_neg h1]
  by_cases h2 : 32 ≤ i
  · rw [if_pos h2, show (min (max i 0) 32).toNat = 32 by omega]
    rfl
  rw [if_neg h2, if_pos (by omega), show (min (max i 0) 32).toNat = i.toNat by omega]
  have hi : i = ((i.toNat : Nat) : Int) := by omega
  have hlt : i.toNat < 32 := by omega
  generalize i.toNat = k at hi hlt
  subst hi
  rw [shl_one k hlt]
  have h3 := pow_lt32 hlt
  have h4 : 0 < 2 ^ k := Nat.two_pow_pos _
  refine some_int ?_
  generalize 2 ^ k = q at h3 h4 ⊢
  unfold subI
  rw [wraps_u32 _ (by omega) (by omega)]
  omega
theorem place_m (m : Nat) (hm : m < 4294967296) (i : Int) : mask_Place m i = some (cnt (cl i) m : Int) := by
  rw [mask_Place.eq, below_any, bnd_some, and_u32 _ _ hm (low_lt i), ones_any _ (Nat.lt_of_le_of_lt Nat.and_le_left hm), bnd_some, cnt_low m i 32 (by omega), Nat.min_eq_right (cl_le i)]
theorem in_any (i : Int) : mask_in i = some (decide (0 ≤ i ∧ i < 32)) := by
  rw [mask_in.eq]
  simp only [leI_d, ltI_d, br_if]
  by_cases h : 0 ≤ i
  · rw [if_pos h]; exact some_bool (decide_eq_decide.2 (by omega))
  · rw [if_neg h]; exact some_bool (decide_eq_false (by omega)).symm
theorem has_m (m : Nat) (hm : m < 4294967296) (i : Int) : mask_Has m i = some (hasM m i) := by
  rw [mask_Has.eq, in_any, bnd_some]
  simp only [leI_d, eqI_d, br_if]
  unfold hasM
  by_cases h : 0 ≤ i ∧ i < 32
  · rw [if_pos h, if_pos h.1, decide_eq_true h, Bool.true_and]
    have hi : i = ((i.toNat : Nat) : Int) := by omega
    have hlt : i.toNat < 32 := by omega
    generalize i.toNat = k at hi hlt
    subst hi
    rw [shr_div m k .u32 (show k ≤ 32 by omega)]
    have hd : m / 2 ^ k ≤ m := Nat.div_le_self _ _
    rw [show (1 : Int) = ((1 : Nat) : Int) from rfl, and_u32 _ _ (by omega) (by omega), Nat.and_one_is_mod]
    rw [show m.testBit k = decide (m / 2 ^ k % 2 = 1) from Nat.testBit_eq_decide_div_mod_eq]
    exact some_bool (decide_eq_decide.2 (by omega))
  · rw [if_neg h, decide_eq_false h]; rfl
theorem with_m (m : Nat) (hm : m < 4294967296) (i : Int) : mask_With m i = some (withM m i : Int) := by
  rw [mask_With.eq, in_any, bnd_some]
  simp only [leI_d, notB_d, br_if]
  unfold withM
  by_cases h : 0 ≤ i ∧ i < 32
  · rw [if_neg (by omega), if_pos h.1, if_pos h]
    have hi : i = ((i.toNat : Nat) : Int) := by omega
    have hlt : i.toNat < 32 := by omega
    generalize i.toNat = k at hi hlt
    subst hi
    rw [shl_one k hlt, or_u32 _ _ hm (pow_lt32 hlt)]
  · rw [if_pos h, if_neg h]
theorem without_m (m : Nat) (hm : m < 4294967296) (i : Int) : mask_Without m i = some (withoutM m i : Int) := by
  rw [mask_Without.eq, in_any, bnd_some]
  simp only [leI_d, notB_d, br_if]
  unfold withoutM
  by_cases h : 0 ≤ i ∧ i < 32
  · rw [if_neg (by omega), if_pos h.1, if_pos h]
    have hi : i = ((i.toNat : Nat) : Int) := by omega
    have hlt : i.toNat < 32 := by omega
    generalize i.toNat = k at hi hlt
    subst hi
    rw [shl_one k hlt, andNot_u32 _ _ hm (pow_lt32 hlt)]
  · rw [if_pos h, if_neg h]
/-! ### A mask made of numbers -/
theorem make_l1 (l : List Int) (hl : l.length ≤ 50000000) (x1 x2 x3 : Int) (d : Nat) : ∀ (k : Nat) (c : Bool), k ≤ l.length → l.length - k = d →
    ref06_Make.l1 l x1 x2 x3 c k = if (c || decide (x3 ∈ l.drop k)) = true then ref06_Make.l0 l (addI .u32 x1 x2) (mulI .u32 2 x2) (addI .i64 x3 1) else ref06_Make.l0 l x1 (mulI .u32 2 x2) (addI .i64 x3 1) := by
  induction d with
  | zero =>
    intro k c hk hd
    rw [ref06_Make.l1.eq]
    simp only [ltI_d, leI_d, ofN_d, lenL_d, br_if]
    simp only [br_b]
    rw [if_neg (by omega), show k = l.length by omega, List.drop_length]
    simp
  | succ d ih =>
    intro k c hk hd
    have hi : k < l.length := by omega
    rw [ref06_Make.l1.eq]
    simp only [ltI_d, leI_d, ofN_d, lenL_d, andB_d, eqI_d, br_if]
    simp only [br_b]
    rw [if_pos (by omega), add1 k (by omega), ih (k + 1) _ (by omega) (by omega)]
    cases c with
    | true => rw [if_pos rfl, Bool.true_or, Bool.true_or]
    | false =>
      rw [if_neg (by simp), if_pos (by omega), ih (k + 1) _ (by omega) (by omega)]
      have e : ixL (.int .i64) l (k : Int) = l[k] := ixL_d (.int .i64) l k hi
      rw [e, List.drop_eq_getElem_cons hi]
      have : (decide (l[k] = x3) || decide (x3 ∈ l.drop (k + 1))) = (false || decide (x3 ∈ l[k] :: l.drop (k + 1))) := by
        rw [Bool.false_or, Bool.eq_iff_iff, Bool.or_eq_true, decide_eq_true_iff, decide_eq_true_iff, decide_eq_true_iff, List.mem_cons]
        exact ⟨fun h => h.elim (fun h => .inl h.symm) .inr, fun h => h.elim (fun h => .inl h.symm) .inr⟩
      rw [this]
theorem make_l0 (l : List Int) (hl : l.length ≤ 50000000) (d : Nat) : ∀ (j : Nat), j ≤ 32 → 32 - j = d → ref06_Make.l0 l (makeL l j : Int) ((2 ^ j % 4294967296 : Nat) : Int) j = some (makeL l 32 : Int) := by
  induction d with
  | zero =>
    intro j hj hd
    rw [ref06_Make.l0.eq]
    simp only [ltI_d, br_if]
    rw [if_neg (by omega), show j = 32 by omega]
  | succ d ih =>
    intro j hj hd
    rw [ref06_Make.l0.eq]
    simp only [ltI_d, br_if]
    have hp := pow_lt32 (show j < 32 by omega)
    have e1 : mulI .u32 2 ((2 ^ j % 4294967296 : Nat) : Int) = ((2 ^ (j + 1) % 4294967296 : Nat) : Int) := by
      unfold mulI
      rw [Nat.pow_succ, IntKind.wrap_u32]
      generalize 2 ^ j = q at hp ⊢
      omega
    have e2 : addI .u32 (makeL l j : Int) ((2 ^ j % 4294967296 : Nat) : Int) = ((makeL l j + 2 ^ j : Nat) : Int) := by
      have h1 := makeL_lt l j
      have h2 : 2 ^ j * 2 ≤ 4294967296 := by
        have := Nat.pow_le_pow_right (n := 2) (by omega) (show j + 1 ≤ 32 by omega)
        rw [Nat.pow_succ] at this
        exact this
      unfold addI
      rw [IntKind.wrap_u32]
      generalize 2 ^ j = q at hp h1 h2 ⊢
      omega
    have := make_l1 l hl (makeL l j) ((2 ^ j % 4294967296 : Nat) : Int) j l.length 0 false (by omega) (by omega)
    rw [show ((0 : Nat) : Int) = 0 from rfl] at this
    rw [if_pos (by omega), this, e1, e2, add1 j (by omega), List.drop_zero, Bool.false_or]
    have ih := ih (j + 1) (by omega) (by omega)
    unfold makeL at ih
    by_cases h : (j : Int) ∈ l
    · rw [if_pos h] at ih
      rw [decide_eq_true h, if_pos rfl]
      exact ih
    · rw [if_neg h, Nat.add_zero] at ih
      rw [decide_eq_false h, if_neg (by simp)]
      exact ih
theorem make_m (l : List Int) (hl : l.length ≤ 50000000) : ref06_Make l = some (makeL l 32 : Int) := by
  rw [ref06_Make.eq]
  have := make_l0 l hl 32 0 (by omega) (by omega)
  exact this
end Go.Proofs.YtimgaglpempfeaaGreat.AB
