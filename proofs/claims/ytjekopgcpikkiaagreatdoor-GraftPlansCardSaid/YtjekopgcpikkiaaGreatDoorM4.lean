/- Texts of one proof, laid together: how the interpreter's words stand for the program's code and what the functions do. No conditions but those that each lemma names. -/
import Derived.Test.YtjekopgcpikkiaaGreatDoorM3
import Derived.Test.YtjekopgcpikkiaaGreatDoorM2
import Derived.WideShapes
import Derived.Laws.BitsLemmas
import Derived.Lib.TrailingZeros
set_option linter.unusedSimpArgs false
set_option maxRecDepth 100000
set_option linter.unusedVariables false
namespace Go.Proofs.YtjekopgcpikkiaaGreatDoor.AK
open Go.Abs
theorem law23_GraftPlans.eq (a0 : den (.int .i64)) (a1 : den (.list tapiPair)) (a2 : den (.int .u8)) (a3 : den .str) (a4 : den .str) (a5 : den .str) : law23_GraftPlans a0 a1 a2 a3 a4 a5 =
  bnd (law23_works) fun r0 =>
  br (notB r0)
   (some false)
   (bnd (law23_made a0 a1) fun r1 =>
   bnd (base_Cut a3 (16 : Int)) fun r2 =>
   bnd (base_Cut a4 (16 : Int)) fun r3 =>
   br (notB r1.2.2.2.1)
    (some true)
    (br (notB (eqI (3 : Int) (0 : Int))) (bnd (graft_New r1.2.2.1 (addI .i64 (1 : Int) (wrapI .i64 (remI a2 (3 : Int)))) r2 r3 a5 a0) fun r4 =>
    bnd (ref04_Levels a0) fun r5 =>
    bnd (law23_fed r1.2.1 r5 r4.2.1 r4.2.2.1) fun r6 =>
    br (notB r6.1.2.1)
     (some false)
     (bnd (graft_Graft_Answer r6.2.1 r6.2.2.1) fun r7 =>
     bnd (ref07_Get r1.1 r2) fun r8 =>
     bnd (graft_Graft_Plan r7.2.1 r7.2.2.1) fun r9 =>
     bnd (node_Leaf (ByteArray.mk #[97]) ByteArray.empty) fun r10 =>
     bnd (graft_Graft_Feed_o r10) fun r11 =>
     bnd (graft_Graft_Plan_o) fun r12 =>
     bnd (graft_Graft_Answer_o) fun r13 =>
     br (eqS r7.1.1 r8.1)
      (br (eqB r7.1.2.1 r8.2.1)
       (bnd (ref23_Changes (addI .i64 (1 : Int) (wrapI .i64 (remI a2 (3 : Int)))) a5 r8.1 r8.2.1) fun r14 =>
       br (eqB r9.1.2.1 r14)
        (bnd (graft_Graft_Want_o) fun r15 =>
        br (eqI r15 (0 : Int))
         (br (notB r12.2.1)
          (some (notB r13.2.1))
          (some false))
         (some false))
        (some false))
       (some false))
      (some false))) none)) :=
  (callW_eq (P := PP) (T := TT) (pr := RR) 5 [⟨(.int .i64), a0⟩, ⟨(.list tapiPair), a1⟩, ⟨(.int .u8), a2⟩, ⟨.str, a3⟩, ⟨.str, a4⟩, ⟨.str, a5⟩] [] .bool []).trans (by kernel_rfl)
theorem law23_works.eq  : law23_works  =
  bnd (graft_Run [] (0 : Int) (1 : Int) (ByteArray.mk #[97]) (ByteArray.mk #[49]) ByteArray.empty (64 : Int)) fun r0 =>
  br (notB (eqI r0.2.2.1 (0 : Int)))
   (law23_works.j0 r0.1 r0.2.1 true)
   (br (notB (eqI (ofN (lenL tapiNode r0.1)) (1 : Int)))
    (law23_works.j0 r0.1 r0.2.1 true)
    (law23_works.j0 r0.1 r0.2.1 (notB (eqI r0.2.1 (1 : Int))))) :=
  (callW_eq (P := PP) (T := TT) (pr := RR) 13 [] [] .bool []).trans (by kernel_rfl)
theorem law23_works.j0.eq (x0 : den (.list tapiNode)) (x1 : den (.int .i64)) (x2 : den .bool) : law23_works.j0 x0 x1 x2 =
  br x2
   (some false)
   (bnd (graft_New x1 (2 : Int) (ByteArray.mk #[97]) (ByteArray.mk #[50]) ByteArray.empty (64 : Int)) fun r0 =>
   br (andB (leI (0 : Int) (0 : Int)) (ltI (0 : Int) (ofN (lenL tapiNode x0)))) (bnd (graft_Graft_Feed (ixL tapiNode x0 (0 : Int)) r0.2.1 r0.2.2.1) fun r1 =>
   bnd (graft_Graft_Answer r1.2.1 r1.2.2.1) fun r2 =>
   bnd (graft_Graft_Plan r2.2.1 r2.2.2.1) fun r3 =>
   br (eqS r2.1.1 (ByteArray.mk #[49]))
    (br r2.1.2.1
     (br (notB r3.1.2.1)
      (br (andB (leI (0 : Int) (0 : Int)) (ltI (0 : Int) (ofN (lenL tapiNode x0)))) (br (eqS (ixL tapiNode x0 (0 : Int)).2.1 (ByteArray.mk #[97]))
       (some true)
       (some false)) none)
      (some false))
     (some false))
    (some false)) none) :=
  (congrFun (congrFun (jnO_eq [1, 1, 0, 1] (BF (R := den .bool) 13 0 [1, 1, 0, 1])) ⟨[(1, ⟨(.list tapiNode), x0⟩), (2, ⟨(.int .i64), x1⟩), (24, ⟨.bool, x2⟩)], []⟩) (seqK false [1, 1, 1] (BF 13 0 [1, 1, 1]) (finF 13 .bool [] 0))).trans (by kernel_rfl)
theorem law23_made.eq (a0 : den (.int .i64)) (a1 : den (.list tapiPair)) : law23_made a0 a1 =
  br (andB (leI (0 : Int) (0 : Int)) (andB (leI (0 : Int) (minI (ofN (lenL tapiPair a1)) (12 : Int))) (leI (minI (ofN (lenL tapiPair a1)) (12 : Int)) (ofN (lenL tapiPair a1))))) (bnd (law07_Few (subL tapiPair a1 (toN (0 : Int)) (toN (minI (ofN (lenL tapiPair a1)) (12 : Int))))) fun r0 =>
  bnd (ref20_Long r0) fun r1 =>
  br r1
   (some ([], ([], ((0 : Int), (false, ())))))
   (bnd (ref20_Make a0 r0) fun r2 =>
   bnd (ref07_Make r0) fun r3 =>
   some (r3, (r2.1, (r2.2.1, (true, ())))))) none :=
  (callW_eq (P := PP) (T := TT) (pr := RR) 11 [⟨(.int .i64), a0⟩, ⟨(.list tapiPair), a1⟩] [] (.tcons (.list tapiPair) (.tcons (.list tapiNode) (.tcons (.int .i64) (.tcons .bool .tnil)))) []).trans (by kernel_rfl)
theorem base_Cut.eq (a0 : den .str) (a1 : den (.int .i64)) : base_Cut a0 a1 =
  br (andB (leI (0 : Int) (0 : Int)) (andB (leI (0 : Int) (minI (ofN (lenS a0)) a1)) (leI (minI (ofN (lenS a0)) a1) (ofN (lenS a0))))) (some (subS a0 (toN (0 : Int)) (toN (minI (ofN (lenS a0)) a1)))) none :=
  (callW_eq (P := PP) (T := TT) (pr := RR) 12 [⟨.str, a0⟩, ⟨(.int .i64), a1⟩] [] .str []).trans (by kernel_rfl)
theorem graft_New.eq (a0 : den (.int .i64)) (a1 : den (.int .i64)) (a2 : den .str) (a3 : den .str) (a4 : den .str) (a5 : den (.int .i64)) : graft_New a0 a1 a2 a3 a4 a5 =
  bnd (hash_Of a2 a5) fun r0 =>
  some ((), ((a1, (a2, (a3, (a4, (a5, (r0, (a0, ((), ((0 : Int), ((0 : Int), (ByteArray.empty, (ByteArray.empty, ((0 : Int), ([], ((0 : Int), ([], ((0 : Int), ((0 : Int), ())))))))))))))))))), ([], ()))) :=
  (callW_eq (P := PP) (T := TT) (pr := RR) 23 [⟨(.int .i64), a0⟩, ⟨(.int .i64), a1⟩, ⟨.str, a2⟩, ⟨.str, a3⟩, ⟨.str, a4⟩, ⟨(.int .i64), a5⟩] [] (.ptr 0 0) [(.box tgraftGraftO), (.row 104 tgraftstep false)]).trans (by kernel_rfl)
theorem ref04_Levels.eq (a0 : den (.int .i64)) : ref04_Levels a0 =
  ref04_Levels.l0 a0 (0 : Int) :=
  (callW_eq (P := PP) (T := TT) (pr := RR) 25 [⟨(.int .i64), a0⟩] [] (.int .i64) []).trans (by kernel_rfl)
theorem ref04_Levels.l0.eq (x0 : den (.int .i64)) (x1 : den (.int .i64)) : ref04_Levels.l0 x0 x1 =
  bnd (ref04_clamp x0) fun r0 =>
  br (ltI (mulI .i64 (5 : Int) x1) r0)
   (ref04_Levels.l0 x0 (addI .i64 x1 (1 : Int)))
   (some x1) :=
  (loopB_eq (P := PP) (T := TT) (C := CF) [1, 1, 0, 0, 0] [1, 1, 0, 0, 0] 25 0 ⟨[(0, ⟨(.int .i64), x0⟩), (3, ⟨(.int .i64), x1⟩)], []⟩ (blockK 0 (seqK false [1, 1, 1] (BF 25 0 [1, 1, 1]) (finF 25 (.int .i64) [] 0)))).trans (by kernel_rfl)
theorem law23_fed.eq (a0 : den (.list tapiNode)) (a1 : den (.int .i64)) (a2 : denO (.box tgraftGraftO)) (a3 : denO (.row 104 tgraftstep true)) : law23_fed a0 a1 a2 a3 =
  law23_fed.l0 a0 a1 (0 : Int) a2 a3 :=
  (callW_eq (P := PP) (T := TT) (pr := RR) 24 [⟨(.ptr 0 0), ()⟩, ⟨(.list tapiNode), a0⟩, ⟨(.int .i64), a1⟩] [⟨(.box tgraftGraftO), a2⟩, ⟨(.row 104 tgraftstep true), a3⟩] (.tcons (.int .i64) (.tcons .bool .tnil)) [(.box tgraftGraftO), (.row 104 tgraftstep false)]).trans (by kernel_rfl)
theorem law23_fed.l0.eq (x0 : den (.list tapiNode)) (x1 : den (.int .i64)) (x2 : den (.int .i64)) (x3 : denO (.box tgraftGraftO)) (x4 : denO (.row 104 tgraftstep true)) : law23_fed.l0 x0 x1 x2 x3 x4 =
  bnd (graft_Graft_Want x3 x4) fun r0 =>
  br (notB (eqI r0.1 (0 : Int)))
   (bnd (graft_Graft_Want r0.2.1 r0.2.2.1) fun r1 =>
   br (ltI r1.1 (1 : Int))
    (law23_fed.j1 x0 x1 x2 r1.1 true r1.2.1 r1.2.2.1)
    (br (ltI (ofN (lenL tapiNode x0)) r1.1)
     (law23_fed.j1 x0 x1 x2 r1.1 true r1.2.1 r1.2.2.1)
     (law23_fed.j1 x0 x1 x2 r1.1 (ltI x1 x2) r1.2.1 r1.2.2.1)))
   (some ((x2, (true, ())), (r0.2.1, (r0.2.2.1, ())))) :=
  (loopB_eq (P := PP) (T := TT) (C := CF) [1, 1, 0, 0, 0] [1, 1, 0, 0, 0] 24 2 ⟨[(0, ⟨(.ptr 0 0), ()⟩), (1, ⟨(.list tapiNode), x0⟩), (2, ⟨(.int .i64), x1⟩), (8, ⟨(.int .i64), x2⟩)], [⟨(.box tgraftGraftO), x3⟩, ⟨(.row 104 tgraftstep true), x4⟩]⟩ (blockK 0 (seqK false [1, 1, 1] (BF 24 2 [1, 1, 1]) (finF 24 (.tcons (.int .i64) (.tcons .bool .tnil)) [(.box tgraftGraftO), (.row 104 tgraftstep false)] 2)))).trans (by kernel_rfl)
theorem law23_fed.j1.eq (x0 : den (.list tapiNode)) (x1 : den (.int .i64)) (x2 : den (.int .i64)) (x3 : den (.int .i64)) (x4 : den .bool) (x5 : denO (.box tgraftGraftO)) (x6 : denO (.row 104 tgraftstep true)) : law23_fed.j1 x0 x1 x2 x3 x4 x5 x6 =
  br x4
   (some ((x2, (false, ())), (x5, (x6, ()))))
   (bnd (graft_Graft_Plan_v1 x5 x6) fun r0 =>
   br r0.1.2.1
    (some ((x2, (false, ())), (r0.2.1, (r0.2.2.1, ()))))
    (br (andB (leI (0 : Int) (subI .i64 x3 (1 : Int))) (ltI (subI .i64 x3 (1 : Int)) (ofN (lenL tapiNode x0)))) (bnd (graft_Graft_Feed (ixL tapiNode x0 (subI .i64 x3 (1 : Int))) r0.2.1 r0.2.2.1) fun r1 =>
    law23_fed.l2 x0 x1 (addI .i64 x2 (1 : Int)) r1.2.1 r1.2.2.1) none)) :=
  (congrFun (congrFun (jnO_eq [1, 1, 0, 0, 0, 1, 0, 1, 0, 1] (BF (R := denR (.tcons (.int .i64) (.tcons .bool .tnil)) [(.box tgraftGraftO), (.row 104 tgraftstep false)]) 24 2 [1, 1, 0, 0, 0, 1, 0, 1, 0, 1])) ⟨[(0, ⟨(.ptr 0 0), ()⟩), (1, ⟨(.list tapiNode), x0⟩), (2, ⟨(.int .i64), x1⟩), (8, ⟨(.int .i64), x2⟩), (9, ⟨(.int .i64), x3⟩), (29, ⟨.bool, x4⟩)], [⟨(.box tgraftGraftO), x5⟩, ⟨(.row 104 tgraftstep true), x6⟩]⟩) (seqK false [1, 1, 0, 0, 0, 1, 0, 1, 1] (BF 24 2 [1, 1, 0, 0, 0, 1, 0, 1, 1]) (blockK 1 (againK [1, 1, 0, 0, 0] (loopW [1, 1, 0, 0, 0] (BF 24 2 [1, 1, 0, 0, 0])) (blockK 0 (seqK false [1, 1, 1] (BF 24 2 [1, 1, 1]) (finF 24 (.tcons (.int .i64) (.tcons .bool .tnil)) [(.box tgraftGraftO), (.row 104 tgraftstep false)] 2))))))).trans (by kernel_rfl)
theorem law23_fed.l2.eq (x0 : den (.list tapiNode)) (x1 : den (.int .i64)) (x2 : den (.int .i64)) (x3 : denO (.box tgraftGraftO)) (x4 : denO (.row 104 tgraftstep false)) : law23_fed.l2 x0 x1 x2 x3 x4 =
  bnd (graft_Graft_Want x3 x4) fun r0 =>
  br (notB (eqI r0.1 (0 : Int)))
   (bnd (graft_Graft_Want r0.2.1 r0.2.2.1) fun r1 =>
   br (ltI r1.1 (1 : Int))
    (law23_fed.j3 x0 x1 x2 r1.1 true r1.2.1 r1.2.2.1)
    (br (ltI (ofN (lenL tapiNode x0)) r1.1)
     (law23_fed.j3 x0 x1 x2 r1.1 true r1.2.1 r1.2.2.1)
     (law23_fed.j3 x0 x1 x2 r1.1 (ltI x1 x2) r1.2.1 r1.2.2.1)))
   (some ((x2, (true, ())), (r0.2.1, (r0.2.2.1, ())))) :=
  (loopB_eq (P := PP) (T := TT) (C := CF) [1, 1, 0, 0, 0] [1, 1, 0, 0, 0] 24 2 ⟨[(0, ⟨(.ptr 0 0), ()⟩), (1, ⟨(.list tapiNode), x0⟩), (2, ⟨(.int .i64), x1⟩), (8, ⟨(.int .i64), x2⟩)], [⟨(.box tgraftGraftO), x3⟩, ⟨(.row 104 tgraftstep false), x4⟩]⟩ (blockK 0 (seqK false [1, 1, 1] (BF 24 2 [1, 1, 1]) (finF 24 (.tcons (.int .i64) (.tcons .bool .tnil)) [(.box tgraftGraftO), (.row 104 tgraftstep false)] 2)))).trans (by kernel_rfl)
theorem law23_fed.j3.eq (x0 : den (.list tapiNode)) (x1 : den (.int .i64)) (x2 : den (.int .i64)) (x3 : den (.int .i64)) (x4 : den .bool) (x5 : denO (.box tgraftGraftO)) (x6 : denO (.row 104 tgraftstep false)) : law23_fed.j3 x0 x1 x2 x3 x4 x5 x6 =
  br x4
   (some ((x2, (false, ())), (x5, (x6, ()))))
   (bnd (graft_Graft_Plan_v1 x5 x6) fun r0 =>
   br r0.1.2.1
    (some ((x2, (false, ())), (r0.2.1, (r0.2.2.1, ()))))
    (br (andB (leI (0 : Int) (subI .i64 x3 (1 : Int))) (ltI (subI .i64 x3 (1 : Int)) (ofN (lenL tapiNode x0)))) (bnd (graft_Graft_Feed (ixL tapiNode x0 (subI .i64 x3 (1 : Int))) r0.2.1 r0.2.2.1) fun r1 =>
    law23_fed.l2 x0 x1 (addI .i64 x2 (1 : Int)) r1.2.1 r1.2.2.1) none)) :=
  (congrFun (congrFun (jnO_eq [1, 1, 0, 0, 0, 1, 0, 1, 0, 1] (BF (R := denR (.tcons (.int .i64) (.tcons .bool .tnil)) [(.box tgraftGraftO), (.row 104 tgraftstep false)]) 24 2 [1, 1, 0, 0, 0, 1, 0, 1, 0, 1])) ⟨[(0, ⟨(.ptr 0 0), ()⟩), (1, ⟨(.list tapiNode), x0⟩), (2, ⟨(.int .i64), x1⟩), (8, ⟨(.int .i64), x2⟩), (9, ⟨(.int .i64), x3⟩), (29, ⟨.bool, x4⟩)], [⟨(.box tgraftGraftO), x5⟩, ⟨(.row 104 tgraftstep false), x6⟩]⟩) (seqK false [1, 1, 0, 0, 0, 1, 0, 1, 1] (BF 24 2 [1, 1, 0, 0, 0, 1, 0, 1, 1]) (blockK 1 (againK [1, 1, 0, 0, 0] (loopW [1, 1, 0, 0, 0] (BF 24 2 [1, 1, 0, 0, 0])) (blockK 0 (seqK false [1, 1, 1] (BF 24 2 [1, 1, 1]) (finF 24 (.tcons (.int .i64) (.tcons .bool .tnil)) [(.box tgraftGraftO), (.row 104 tgraftstep false)] 2))))))).trans (by kernel_rfl)
theorem graft_Graft_Answer.eq (a0 : denO (.box tgraftGraftO)) (a1 : denO (.row 104 tgraftstep true)) : graft_Graft_Answer a0 a1 =
  bnd (graft_Graft_bound a0 a1) fun r0 =>
  some (r0.1, (r0.2.1, (r0.2.2.1, ()))) :=
  (callW_eq (P := PP) (T := TT) (pr := RR) 26 [⟨(.ptr 0 0), ()⟩] [⟨(.box tgraftGraftO), a0⟩, ⟨(.row 104 tgraftstep true), a1⟩] (.tcons .str (.tcons .bool .tnil)) [(.box tgraftGraftO), (.row 104 tgraftstep true)]).trans (by kernel_rfl)
theorem ref07_Get.eq (a0 : den (.list tapiPair)) (a1 : den .str) : ref07_Get a0 a1 =
  ref07_Get.l0 a0 a1 (subI .i64 (ofN (lenL tapiPair a0)) (1 : Int)) :=
  (callW_eq (P := PP) (T := TT) (pr := RR) 27 [⟨(.list tapiPair), a0⟩, ⟨.str, a1⟩] [] (.tcons .str (.tcons .bool .tnil)) []).trans (by kernel_rfl)
theorem ref07_Get.l0.eq (x0 : den (.list tapiPair)) (x1 : den .str) (x2 : den (.int .i64)) : ref07_Get.l0 x0 x1 x2 =
  br (leI (0 : Int) x2)
   (br (andB (leI (0 : Int) x2) (ltI x2 (ofN (lenL tapiPair x0)))) (br (eqS (ixL tapiPair x0 x2).1 x1)
    (br (andB (leI (0 : Int) x2) (ltI x2 (ofN (lenL tapiPair x0)))) (some ((ixL tapiPair x0 x2).2.1, (true, ()))) none)
    (ref07_Get.l0 x0 x1 (subI .i64 x2 (1 : Int)))) none)
   (some (ByteArray.empty, (false, ()))) :=
  (loopB_eq (P := PP) (T := TT) (C := CF) [1, 0, 1, 0, 0] [1, 0, 1, 0, 0] 27 0 ⟨[(0, ⟨(.list tapiPair), x0⟩), (1, ⟨.str, x1⟩), (6, ⟨(.int .i64), x2⟩)], []⟩ (blockK 0 (seqK false [1, 1] (BF 27 0 [1, 1]) (finF 27 (.tcons .str (.tcons .bool .tnil)) [] 0)))).trans (by kernel_rfl)
theorem graft_Graft_Plan.eq (a0 : denO (.box tgraftGraftO)) (a1 : denO (.row 104 tgraftstep true)) : graft_Graft_Plan a0 a1 =
  bnd (graft_Graft_changes_o (a0.1, (a0.2.1, (a0.2.2.1, (a0.2.2.2.1, (a0.2.2.2.2.1, (a0.2.2.2.2.2.1, (a0.2.2.2.2.2.2.1, (a1, a0.2.2.2.2.2.2.2.2))))))))) fun r0 =>
  br (notB r0.1)
   (some ((((), ((0 : Int), ((), ()))), (false, ())), (r0.2.1, ((), ([], ([], ()))))))
   (bnd (graft_Graft_bound_o r0.2.1) fun r1 =>
   br r1.1.2.1
    (graft_Graft_Plan.j0 r1.2.1 ((), ((0 : Int), ((), ()))) (0 : Int) [] [])
    (graft_Graft_Plan.j0 r1.2.1 ((), ((0 : Int), ((), ()))) (1 : Int) [] [])) :=
  (callW_eq (P := PP) (T := TT) (pr := RR) 28 [⟨(.ptr 0 0), ()⟩] [⟨(.box tgraftGraftO), a0⟩, ⟨(.row 104 tgraftstep true), a1⟩] (.tcons (.pair (.own tapiNode 2) (.pair (.int .i64) (.pair (.own (.int .i64) 3) .unit))) (.tcons .bool .tnil)) [(.box tgraftGraft), .gone, (.row 58 tapiNode false), (.row 24 (.int .i64) false)]).trans (by kernel_rfl)
theorem graft_Graft_Plan.j0.eq (x0 : denO (.box tgraftGraft)) (x1 : denO (.box (.pair (.own tapiNode 4) (.pair (.int .i64) (.pair (.own (.int .i64) 5) .unit))))) (x2 : denO (.box (.int .i64))) (x3 : denO (.row 58 tapiNode false)) (x4 : denO (.row 24 (.int .i64) false)) : graft_Graft_Plan.j0 x0 x1 x2 x3 x4 =
  bnd (graft_Graft_bottom ((), ((0 : Int), ((), ()))) x0) fun r0 =>
  bnd (slices_Backwardgraft_step_graft_step r0.2.1.2.2.2.2.2.2.2.1) fun r1 =>
  bnd (slices_Backwardgraft_step_graft_step_1 r1.2.1) fun r2 =>
  graft_Graft_Plan.e1 r2 r0.2.1 ((), (x1.2.1, ((), ()))) x2 ((), (r0.1.1.2.1, ((), ()))) r0.1.2.1 x3 x4 r0.2.2.1 r0.2.2.2.1 :=
  (congrFun (congrFun (jnO_eq [1, 1, 1, 1, 1] (BF (R := denR (.tcons (.pair (.own tapiNode 2) (.pair (.int .i64) (.pair (.own (.int .i64) 3) .unit))) (.tcons .bool .tnil)) [(.box tgraftGraft), .gone, (.row 58 tapiNode false), (.row 24 (.int .i64) false)]) 28 2 [1, 1, 1, 1, 1])) ⟨[(0, ⟨(.ptr 0 0), ()⟩), (2, ⟨(.ptr 2 0), ()⟩), (6, ⟨(.ptr 3 0), ()⟩)], [⟨(.box tgraftGraft), x0⟩, ⟨.gone, ()⟩, ⟨(.box (.pair (.own tapiNode 4) (.pair (.int .i64) (.pair (.own (.int .i64) 5) .unit)))), x1⟩, ⟨(.box (.int .i64)), x2⟩, ⟨(.row 58 tapiNode false), x3⟩, ⟨(.row 24 (.int .i64) false), x4⟩]⟩) (finF 28 (.tcons (.pair (.own tapiNode 2) (.pair (.int .i64) (.pair (.own (.int .i64) 3) .unit))) (.tcons .bool .tnil)) [(.box tgraftGraft), .gone, (.row 58 tapiNode false), (.row 24 (.int .i64) false)] 2)).trans (by kernel_rfl)
theorem graft_Graft_Plan.e1.nil (x0 : denO (.box tgraftGraft)) (x1 : denO (.box (.pair (.own tapiNode 6) (.pair (.int .i64) (.pair (.own (.int .i64) 7) .unit))))) (x2 : denO (.box (.int .i64))) (x3 : denO (.box (.pair (.own tapiNode 8) (.pair (.int .i64) (.pair (.own (.int .i64) 9) .unit))))) (x4 : denO (.box (.int .i64))) (x5 : denO (.row 58 tapiNode false)) (x6 : denO (.row 24 (.int .i64) false)) (x7 : denO (.row 58 tapiNode false)) (x8 : denO (.row 24 (.int .i64) false)) : graft_Graft_Plan.e1 [] x0 x1 x2 x3 x4 x5 x6 x7 x8 =
  some ((((), (x4, ((), ()))), (true, ())), (x0, ((), (x7, (x8, ()))))) := by kernel_rfl
theorem graft_Graft_Plan.e1.cons (y : den (.tcons (.int .i64) (.tcons tgraftstep .tnil))) (ys : List (den (.tcons (.int .i64) (.tcons tgraftstep .tnil)))) (x0 : denO (.box tgraftGraft)) (x1 : denO (.box (.pair (.own tapiNode 6) (.pair (.int .i64) (.pair (.own (.int .i64) 7) .unit))))) (x2 : denO (.box (.int .i64))) (x3 : denO (.box (.pair (.own tapiNode 8) (.pair (.int .i64) (.pair (.own (.int .i64) 9) .unit))))) (x4 : denO (.box (.int .i64))) (x5 : denO (.row 58 tapiNode false)) (x6 : denO (.row 24 (.int .i64) false)) (x7 : denO (.row 58 tapiNode false)) (x8 : denO (.row 24 (.int .i64) false)) : graft_Graft_Plan.e1 (y :: ys) x0 x1 x2 x3 x4 x5 x6 x7 x8 =
  br (fitL (.int .i64) (appL (.int .i64) x8 (y.2.1.1 :: []))) (bnd (branch_With (y.2.1.2.1, (y.2.1.2.2.1, (y.2.1.2.2.2.1, (y.2.1.2.2.2.2.1, (y.2.1.2.2.2.2.2.1, (y.2.1.2.2.2.2.2.2.1, (y.2.1.2.2.2.2.2.2.2.1, (y.2.1.2.2.2.2.2.2.2.2.1, (y.2.1.2.2.2.2.2.2.2.2.2.1, ()))))))))) y.2.1.2.2.2.2.2.2.2.2.2.2.1 x4) fun r0 =>
  bnd (branch_Sized r0 (addI .i64 y.2.1.2.2.2.2.2.2.2.2.1 x2)) fun r1 =>
  bnd (plan_Add ((), (x3.2.1, ((), ()))) r1 x7 (appL (.int .i64) x8 (y.2.1.1 :: []))) fun r2 =>
  graft_Graft_Plan.e1 ys x0 ((), (x1.2.1, ((), ()))) x2 ((), (r2.1.1.2.1, ((), ()))) r2.1.2.1 x5 x6 r2.2.2.2.1 r2.2.2.1) none := by kernel_rfl
theorem node_Leaf.eq (a0 : den .str) (a1 : den .str) : node_Leaf a0 a1 =
  some ((1 : Int), (a0, (a1, ((0 : Int), ([], ((0 : Int), ([], ((1 : Int), ((0 : Int), ()))))))))) :=
  (callW_eq (P := PP) (T := TT) (pr := RR) 30 [⟨.str, a0⟩, ⟨.str, a1⟩] [] tapiNode []).trans (by kernel_rfl)
theorem graft_Graft_Feed_o.eq (a0 : den tapiNode) : graft_Graft_Feed_o a0 =
  bnd (graft_Graft_Want_o) fun r0 =>
  br (eqI r0 (0 : Int))
   (some ())
   (none) :=
  (callW_eq (P := PP) (T := TT) (pr := RR) 29 [⟨.nilptr, ()⟩, ⟨tapiNode, a0⟩] [] .tnil []).trans (by kernel_rfl)
theorem graft_Graft_Plan_o.eq  : graft_Graft_Plan_o  =
  bnd (graft_Graft_changes_o_v1) fun r0 =>
  br (notB r0)
   (some (([], ((0 : Int), ([], ()))), (false, ())))
   (bnd (graft_Graft_bound_o_v1) fun r1 =>
   br r1.2.1
    (graft_Graft_Plan_o.j0 ((), ((0 : Int), ((), ()))) (0 : Int) [] [])
    (graft_Graft_Plan_o.j0 ((), ((0 : Int), ((), ()))) (1 : Int) [] [])) :=
  (callW_eq (P := PP) (T := TT) (pr := RR) 28 [⟨.nilptr, ()⟩] [] (.tcons tplanPlan (.tcons .bool .tnil)) []).trans (by kernel_rfl)
theorem graft_Graft_Answer_o.eq  : graft_Graft_Answer_o  =
  bnd (graft_Graft_bound_o_v1) fun r0 =>
  some r0 :=
  (callW_eq (P := PP) (T := TT) (pr := RR) 26 [⟨.nilptr, ()⟩] [] (.tcons .str (.tcons .bool .tnil)) []).trans (by kernel_rfl)
theorem ref23_Changes.eq (a0 : den (.int .i64)) (a1 : den .str) (a2 : den .str) (a3 : den .bool) : ref23_Changes a0 a1 a2 a3 =
  br (eqI a0 (1 : Int))
   (some true)
   (br (eqI a0 (2 : Int))
    (some (notB a3))
    (br (eqI a0 (3 : Int))
     (br a3
      (some (eqS a2 a1))
      (some false))
     (some false))) :=
  (callW_eq (P := PP) (T := TT) (pr := RR) 31 [⟨(.int .i64), a0⟩, ⟨.str, a1⟩, ⟨.str, a2⟩, ⟨.bool, a3⟩] [] .bool []).trans (by kernel_rfl)
theorem graft_Graft_Want_o.eq  : graft_Graft_Want_o  =
  some (0 : Int) :=
  (callW_eq (P := PP) (T := TT) (pr := RR) 32 [⟨.nilptr, ()⟩] [] (.int .i64) []).trans (by kernel_rfl)
theorem ref20_Is.eq (a0 : den (.list tapiNode)) (a1 : den (.int .i64)) (a2 : den (.int .i64)) : ref20_Is a0 a1 a2 =
  bnd (ref17_Fits a0 a1) fun r0 =>
  br (notB r0)
   (some false)
   (bnd (ref17_Binds a0 a1) fun r1 =>
   bnd (ref20_Make a2 r1) fun r2 =>
   bnd (ref17_Same a0 a1 r2.1 r2.2.1) fun r3 =>
   some r3) :=
  (callW_eq (P := PP) (T := TT) (pr := RR) 16 [⟨(.list tapiNode), a0⟩, ⟨(.int .i64), a1⟩, ⟨(.int .i64), a2⟩] [] .bool []).trans (by kernel_rfl)
theorem graft_Run.eq (a0 : den (.list tapiNode)) (a1 : den (.int .i64)) (a2 : den (.int .i64)) (a3 : den .str) (a4 : den .str) (a5 : den .str) (a6 : den (.int .i64)) : graft_Run a0 a1 a2 a3 a4 a5 a6 =
  bnd (node_Leaf a3 a4) fun r0 =>
  bnd (node_May r0) fun r1 =>
  br (ltI a2 (1 : Int))
   (some ([], ((0 : Int), ((2 : Int), ()))))
   (br (ltI (3 : Int) a2)
    (some ([], ((0 : Int), ((2 : Int), ()))))
    (br (notB (eqI r1 (0 : Int)))
     (some ([], ((0 : Int), (r1, ()))))
     (bnd (trie_Is a0 a1 a6) fun r2 =>
     br (notB r2)
      (some ([], ((0 : Int), ((4 : Int), ()))))
      (bnd (graft_New a1 a2 a3 a4 a5 a6) fun r3 =>
      graft_Run.l0 a0 a1 r3.2.1 r3.2.2.1)))) :=
  (callW_eq (P := PP) (T := TT) (pr := RR) 14 [⟨(.list tapiNode), a0⟩, ⟨(.int .i64), a1⟩, ⟨(.int .i64), a2⟩, ⟨.str, a3⟩, ⟨.str, a4⟩, ⟨.str, a5⟩, ⟨(.int .i64), a6⟩] [] (.tcons (.list tapiNode) (.tcons (.int .i64) (.tcons (.int .i64) .tnil))) []).trans (by kernel_rfl)
theorem graft_Run.l0.eq (x0 : den (.list tapiNode)) (x1 : den (.int .i64)) (x2 : denO (.box tgraftGraftO)) (x3 : denO (.row 104 tgraftstep false)) : graft_Run.l0 x0 x1 x2 x3 =
  bnd (graft_Graft_Want x2 x3) fun r0 =>
  br (notB (eqI r0.1 (0 : Int)))
   (bnd (graft_Graft_Want r0.2.1 r0.2.2.1) fun r1 =>
   br (andB (leI (0 : Int) (subI .i64 r1.1 (1 : Int))) (ltI (subI .i64 r1.1 (1 : Int)) (ofN (lenL tapiNode x0)))) (bnd (graft_Graft_Feed (ixL tapiNode x0 (subI .i64 r1.1 (1 : Int))) r1.2.1 r1.2.2.1) fun r2 =>
   graft_Run.l0 x0 x1 r2.2.1 r2.2.2.1) none)
   (bnd (graft_Graft_Plan r0.2.1 r0.2.2.1) fun r3 =>
   br (notB r3.1.2.1)
    (bnd (plan_Do x0 ([], (x1, ([], ())))) fun r4 =>
    some r4)
    (bnd (plan_Do x0 (r3.2.2.2.1, (r3.1.1.2.1, (r3.2.2.2.2.1, ())))) fun r5 =>
    some r5)) :=
  (loopB_eq (P := PP) (T := TT) (C := CF) [1, 1, 1, 1, 0, 0, 0] [1, 1, 1, 1, 0, 0, 0] 14 0 ⟨[(0, ⟨(.list tapiNode), x0⟩), (1, ⟨(.int .i64), x1⟩), (18, ⟨(.ptr 0 0), ()⟩)], [⟨(.box tgraftGraftO), x2⟩, ⟨(.row 104 tgraftstep false), x3⟩]⟩ (blockK 1 (seqK false [1, 1, 1, 1, 1] (BF 14 0 [1, 1, 1, 1, 1]) (finF 14 (.tcons (.list tapiNode) (.tcons (.int .i64) (.tcons (.int .i64) .tnil))) [] 0)))).trans (by kernel_rfl)
theorem graft_Graft_Feed.eq (a0 : den tapiNode) (a1 : denO (.box tgraftGraftO)) (a2 : denO (.row 104 tgraftstep true)) : graft_Graft_Feed a0 a1 a2 =
  bnd (graft_Graft_Want a1 a2) fun r0 =>
  br (eqI r0.1 (0 : Int))
   (some ((), (r0.2.1, (r0.2.2.1, ()))))
   (br (notB (eqI a0.1 (2 : Int)))
    (graft_Graft_Feed.j0 r0.1 true (r0.2.1.1, (r0.2.1.2.1, (r0.2.1.2.2.1, (r0.2.1.2.2.2.1, (r0.2.1.2.2.2.2.1, (r0.2.1.2.2.2.2.2.1, ((0 : Int), r0.2.1.2.2.2.2.2.2.2))))))) r0.2.2.1 a0)
    (bnd (hash_Levels r0.2.1.2.2.2.2.1) fun r1 =>
    graft_Graft_Feed.j0 r0.1 (leI r1 (ofN (lenL tgraftstep r0.2.2.1))) (r0.2.1.1, (r0.2.1.2.1, (r0.2.1.2.2.1, (r0.2.1.2.2.2.1, (r0.2.1.2.2.2.2.1, (r0.2.1.2.2.2.2.2.1, ((0 : Int), r0.2.1.2.2.2.2.2.2.2))))))) r0.2.2.1 a0)) :=
  (callW_eq (P := PP) (T := TT) (pr := RR) 29 [⟨(.ptr 0 0), ()⟩, ⟨tapiNode, a0⟩] [⟨(.box tgraftGraftO), a1⟩, ⟨(.row 104 tgraftstep true), a2⟩] .tnil [(.box tgraftGraftO), (.row 104 tgraftstep false)]).trans (by kernel_rfl)
theorem graft_Graft_Feed.j0.eq (x0 : den (.int .i64)) (x1 : den .bool) (x2 : denO (.box tgraftGraftO)) (x3 : denO (.row 104 tgraftstep true)) (x4 : denO (.box tapiNode)) : graft_Graft_Feed.j0 x0 x1 x2 x3 x4 =
  br x1
   (both
    (some ((), ((x2.1, (x2.2.1, (x2.2.2.1, (x2.2.2.2.1, (x2.2.2.2.2.1, (x2.2.2.2.2.2.1, (x2.2.2.2.2.2.2.1, ((), (x0, x4))))))))), (x3, ()))))
    (some ((), ((x2.1, (x2.2.1, (x2.2.2.1, (x2.2.2.2.1, (x2.2.2.2.2.1, (x2.2.2.2.2.2.1, (x2.2.2.2.2.2.2.1, ((), (x0, x4))))))))), (x3, ())))))
   (bnd (hash_Chunk x2.2.2.2.2.2.1 (ofN (lenL tgraftstep x3)) x2.2.2.2.2.1) fun r0 =>
   br (fitL tgraftstep (appL tgraftstep x3 ((x0, (x4.1, (x4.2.1, (x4.2.2.1, (x4.2.2.2.1, (x4.2.2.2.2.1, (x4.2.2.2.2.2.1, (x4.2.2.2.2.2.2.1, (x4.2.2.2.2.2.2.2.1, (x4.2.2.2.2.2.2.2.2.1, (r0, ()))))))))))) :: []))) (bnd (branch_Child x4 r0) fun r1 =>
   some ((), ((x2.1, (x2.2.1, (x2.2.2.1, (x2.2.2.2.1, (x2.2.2.2.2.1, (x2.2.2.2.2.2.1, (r1, x2.2.2.2.2.2.2.2))))))), ((appL tgraftstep x3 ((x0, (x4.1, (x4.2.1, (x4.2.2.1, (x4.2.2.2.1, (x4.2.2.2.2.1, (x4.2.2.2.2.2.1, (x4.2.2.2.2.2.2.1, (x4.2.2.2.2.2.2.2.1, (x4.2.2.2.2.2.2.2.2.1, (r0, ()))))))))))) :: [])), ())))) none) :=
  (congrFun (congrFun (jnO_eq [1, 1, 1, 1, 0, 1] (BF (R := denR .tnil [(.box tgraftGraftO), (.row 104 tgraftstep false)]) 29 2 [1, 1, 1, 1, 0, 1])) ⟨[(0, ⟨(.ptr 0 0), ()⟩), (3, ⟨(.ptr 2 0), ()⟩), (4, ⟨(.int .i64), x0⟩), (28, ⟨.bool, x1⟩)], [⟨(.box tgraftGraftO), x2⟩, ⟨(.row 104 tgraftstep true), x3⟩, ⟨(.box tapiNode), x4⟩]⟩) (seqK false [1, 1, 1, 1, 1] (BF 29 2 [1, 1, 1, 1, 1]) (finF 29 .tnil [(.box tgraftGraftO), (.row 104 tgraftstep false)] 2))).trans (by kernel_rfl)
theorem law07_Few.eq (a0 : den (.list tapiPair)) : law07_Few a0 =
  law07_Few.l0 a0 (0 : Int) [] :=
  (callW_eq (P := PP) (T := TT) (pr := RR) 49 [⟨(.list tapiPair), a0⟩] [] (.list tapiPair) []).trans (by kernel_rfl)
theorem law07_Few.l0.eq (x0 : den (.list tapiPair)) (x1 : den (.int .i64)) (x2 : denO (.row 84 tapiPair false)) : law07_Few.l0 x0 x1 x2 =
  br (ltI x1 (ofN (lenL tapiPair x0)))
   (law07_Few.j1 x0 x1 (ltI x1 (40 : Int)) x2)
   (law07_Few.j1 x0 x1 false x2) :=
  (loopB_eq (P := PP) (T := TT) (C := CF) [1, 1, 0, 1, 0, 0] [1, 1, 0, 1, 0, 0] 49 0 ⟨[(0, ⟨(.list tapiPair), x0⟩), (3, ⟨(.own tapiPair 0), ()⟩), (4, ⟨(.int .i64), x1⟩)], [⟨(.row 84 tapiPair false), x2⟩]⟩ (blockK 0 (seqK false [1, 1, 1] (BF 49 0 [1, 1, 1]) (finF 49 (.list tapiPair) [] 0)))).trans (by kernel_rfl)
theorem law07_Few.j1.eq (x0 : den (.list tapiPair)) (x1 : den (.int .i64)) (x2 : den .bool) (x3 : denO (.row 84 tapiPair false)) : law07_Few.j1 x0 x1 x2 x3 =
  br x2
   (br (andB (leI (0 : Int) x1) (ltI x1 (ofN (lenL tapiPair x0)))) (br (andB (leI (0 : Int) x1) (ltI x1 (ofN (lenL tapiPair x0)))) (bnd (base_Cut (ixL tapiPair x0 x1).1 (40 : Int)) fun r0 =>
   bnd (base_Cut (ixL tapiPair x0 x1).2.1 (40 : Int)) fun r1 =>
   br (fitL tapiPair (appL tapiPair x3 ((r0, (r1, ())) :: []))) (law07_Few.l0 x0 (addI .i64 x1 (1 : Int)) (appL tapiPair x3 ((r0, (r1, ())) :: []))) none) none) none)
   (some x3) :=
  (congrFun (congrFun (jnO_eq [1, 1, 0, 1, 0, 0, 0, 1] (BF (R := den (.list tapiPair)) 49 0 [1, 1, 0, 1, 0, 0, 0, 1])) ⟨[(0, ⟨(.list tapiPair), x0⟩), (3, ⟨(.own tapiPair 0), ()⟩), (4, ⟨(.int .i64), x1⟩), (13, ⟨.bool, x2⟩)], [⟨(.row 84 tapiPair false), x3⟩]⟩) (seqK false [1, 1, 0, 1, 0, 0, 1] (BF 49 0 [1, 1, 0, 1, 0, 0, 1]) (againK [1, 1, 0, 1, 0, 0] (loopW [1, 1, 0, 1, 0, 0] (BF 49 0 [1, 1, 0, 1, 0, 0])) (blockK 0 (seqK false [1, 1, 1] (BF 49 0 [1, 1, 1]) (finF 49 (.list tapiPair) [] 0)))))).trans (by kernel_rfl)
theorem ref20_Long.eq (a0 : den (.list tapiPair)) : ref20_Long a0 =
  bnd (ref07_Make a0) fun r0 =>
  ref20_Long.l0 r0 (0 : Int) :=
  (callW_eq (P := PP) (T := TT) (pr := RR) 50 [⟨(.list tapiPair), a0⟩] [] .bool []).trans (by kernel_rfl)
theorem ref20_Long.l0.eq (x0 : den (.list tapiPair)) (x1 : den (.int .i64)) : ref20_Long.l0 x0 x1 =
  br (ltI x1 (ofN (lenL tapiPair x0)))
   (br (andB (leI (0 : Int) x1) (ltI x1 (ofN (lenL tapiPair x0)))) (br (ltI (16 : Int) (ofN (lenS (ixL tapiPair x0 x1).1)))
    (some true)
    (br (andB (leI (0 : Int) x1) (ltI x1 (ofN (lenL tapiPair x0)))) (br (ltI (16 : Int) (ofN (lenS (ixL tapiPair x0 x1).2.1)))
     (some true)
     (ref20_Long.l0 x0 (addI .i64 x1 (1 : Int)))) none)) none)
   (some false) :=
  (loopB_eq (P := PP) (T := TT) (C := CF) [1, 1, 0, 1, 0, 0] [1, 1, 0, 1, 0, 0] 50 0 ⟨[(3, ⟨(.list tapiPair), x0⟩), (4, ⟨(.int .i64), x1⟩)], []⟩ (blockK 0 (seqK false [1, 1, 1] (BF 50 0 [1, 1, 1]) (finF 50 .bool [] 0)))).trans (by kernel_rfl)
theorem ref20_Make.eq (a0 : den (.int .i64)) (a1 : den (.list tapiPair)) : ref20_Make a0 a1 =
  bnd (ref07_Make a1) fun r0 =>
  bnd (ref20_make1 a0 r0 (0 : Int) []) fun r1 =>
  some (r1.2.1, r1.1.2) :=
  (callW_eq (P := PP) (T := TT) (pr := RR) 51 [⟨(.int .i64), a0⟩, ⟨(.list tapiPair), a1⟩] [] (.tcons (.list tapiNode) (.tcons (.int .i64) .tnil)) []).trans (by kernel_rfl)
theorem ref07_Make.eq (a0 : den (.list tapiPair)) : ref07_Make a0 =
  ref07_Make.l0 a0 (0 : Int) [] :=
  (callW_eq (P := PP) (T := TT) (pr := RR) 19 [⟨(.list tapiPair), a0⟩] [] (.list tapiPair) []).trans (by kernel_rfl)
theorem ref07_Make.l0.eq (x0 : den (.list tapiPair)) (x1 : den (.int .i64)) (x2 : denO (.row 84 tapiPair false)) : ref07_Make.l0 x0 x1 x2 =
  br (ltI x1 (ofN (lenL tapiPair x0)))
   (bnd (ref07_last x0 x1) fun r0 =>
   br (notB r0)
    (ref07_Make.l0 x0 (addI .i64 x1 (1 : Int)) x2)
    (ref07_Make.l1 x0 x1 (0 : Int) x2))
   (some x2) :=
  (loopB_eq (P := PP) (T := TT) (C := CF) [1, 1, 0, 1, 0, 0] [1, 1, 0, 1, 0, 0] 19 0 ⟨[(0, ⟨(.list tapiPair), x0⟩), (3, ⟨(.own tapiPair 0), ()⟩), (4, ⟨(.int .i64), x1⟩)], [⟨(.row 84 tapiPair false), x2⟩]⟩ (blockK 0 (seqK false [1, 1, 1] (BF 19 0 [1, 1, 1]) (finF 19 (.list tapiPair) [] 0)))).trans (by kernel_rfl)
theorem ref07_Make.l1.eq (x0 : den (.list tapiPair)) (x1 : den (.int .i64)) (x2 : den (.int .i64)) (x3 : denO (.row 84 tapiPair false)) : ref07_Make.l1 x0 x1 x2 x3 =
  br (ltI x2 (ofN (lenL tapiPair x3)))
   (br (andB (leI (0 : Int) x2) (ltI x2 (ofN (lenL tapiPair x3)))) (br (andB (leI (0 : Int) x1) (ltI x1 (ofN (lenL tapiPair x0)))) (bnd (ref01_Less (ixL tapiPair x3 x2).1 (ixL tapiPair x0 x1).1) fun r0 =>
   ref07_Make.j2 x0 x1 x2 r0 x3) none) none)
   (ref07_Make.j2 x0 x1 x2 false x3) :=
  (loopB_eq (P := PP) (T := TT) (C := CF) [1, 1, 0, 1, 0, 0, 1, 0, 0, 1, 1, 0, 0, 0] [1, 1, 0, 1, 0, 0, 1, 0, 0, 1, 1, 0, 0, 0] 19 0 ⟨[(0, ⟨(.list tapiPair), x0⟩), (3, ⟨(.own tapiPair 0), ()⟩), (4, ⟨(.int .i64), x1⟩), (5, ⟨(.int .i64), x2⟩)], [⟨(.row 84 tapiPair false), x3⟩]⟩ (blockK 2 (seqK false [1, 1, 0, 1, 0, 0, 1, 0, 0, 1, 1, 1] (BF 19 0 [1, 1, 0, 1, 0, 0, 1, 0, 0, 1, 1, 1]) (blockK 1 (seqK false [1, 1, 0, 1, 0, 0, 1, 1] (BF 19 0 [1, 1, 0, 1, 0, 0, 1, 1]) (againK [1, 1, 0, 1, 0, 0] (loopW [1, 1, 0, 1, 0, 0] (BF 19 0 [1, 1, 0, 1, 0, 0])) (blockK 0 (seqK false [1, 1, 1] (BF 19 0 [1, 1, 1]) (finF 19 (.list tapiPair) [] 0))))))))).trans (by kernel_rfl)
theorem ref07_Make.j2.eq (x0 : den (.list tapiPair)) (x1 : den (.int .i64)) (x2 : den (.int .i64)) (x3 : den .bool) (x4 : denO (.row 84 tapiPair false)) : ref07_Make.j2 x0 x1 x2 x3 x4 =
  br x3
   (ref07_Make.l1 x0 x1 (addI .i64 x2 (1 : Int)) x4)
   (br (andB (leI (0 : Int) x1) (ltI x1 (ofN (lenL tapiPair x0)))) (both
    (both
     (br (andB (leI (0 : Int) (0 : Int)) (andB (leI (0 : Int) x2) (leI x2 (ofN (lenL tapiPair x4))))) (br (andB (leI (0 : Int) x2) (andB (leI x2 (ofN (lenL tapiPair x4))) (leI (ofN (lenL tapiPair x4)) (ofN (lenL tapiPair x4))))) (both
      (br (fitL tapiPair (appL tapiPair [] (subL tapiPair x4 (toN (0 : Int)) (toN x2)))) (br (fitL tapiPair (appL tapiPair (appL tapiPair [] (subL tapiPair x4 (toN (0 : Int)) (toN x2))) ((ixL tapiPair x0 x1) :: []))) (br (fitL tapiPair (appL tapiPair (appL tapiPair (appL tapiPair [] (subL tapiPair x4 (toN (0 : Int)) (toN x2))) ((ixL tapiPair x0 x1) :: [])) (subL tapiPair x4 (toN x2) (toN (ofN (lenL tapiPair x4)))))) (ref07_Make.l0 x0 (addI .i64 x1 (1 : Int)) (appL tapiPair (appL tapiPair (appL tapiPair [] (subL tapiPair x4 (toN (0 : Int)) (toN x2))) ((ixL tapiPair x0 x1) :: [])) (subL tapiPair x4 (toN x2) (toN (ofN (lenL tapiPair x4)))))) none) none) none)
      (br (fitL tapiPair (appL tapiPair [] (subL tapiPair x4 (toN (0 : Int)) (toN x2)))) (br (fitL tapiPair (appL tapiPair (appL tapiPair [] (subL tapiPair x4 (toN (0 : Int)) (toN x2))) ((ixL tapiPair x0 x1) :: []))) (br (fitL tapiPair (appL tapiPair (appL tapiPair (appL tapiPair [] (subL tapiPair x4 (toN (0 : Int)) (toN x2))) ((ixL tapiPair x0 x1) :: [])) (subL tapiPair x4 (toN x2) (toN (ofN (lenL tapiPair x4)))))) (ref07_Make.l0 x0 (addI .i64 x1 (1 : Int)) (appL tapiPair (appL tapiPair (appL tapiPair [] (subL tapiPair x4 (toN (0 : Int)) (toN x2))) ((ixL tapiPair x0 x1) :: [])) (subL tapiPair x4 (toN x2) (toN (ofN (lenL tapiPair x4)))))) none) none) none)) none) none)
     (both
      (both
       (br (andB (leI (0 : Int) (0 : Int)) (andB (leI (0 : Int) x2) (leI x2 (ofN (lenL tapiPair x4))))) (br (andB (leI (0 : Int) x2) (andB (leI x2 (ofN (lenL tapiPair x4))) (leI (ofN (lenL tapiPair x4)) (ofN (lenL tapiPair x4))))) (br (fitL tapiPair (appL tapiPair [] (subL tapiPair x4 (toN (0 : Int)) (toN x2)))) (br (fitL tapiPair (appL tapiPair (appL tapiPair [] (subL tapiPair x4 (toN (0 : Int)) (toN x2))) ((ixL tapiPair x0 x1) :: []))) (br (fitL tapiPair (appL tapiPair (appL tapiPair (appL tapiPair [] (subL tapiPair x4 (toN (0 : Int)) (toN x2))) ((ixL tapiPair x0 x1) :: [])) (subL tapiPair x4 (toN x2) (toN (ofN (lenL tapiPair x4)))))) (ref07_Make.l0 x0 (addI .i64 x1 (1 : Int)) (appL tapiPair (appL tapiPair (appL tapiPair [] (subL tapiPair x4 (toN (0 : Int)) (toN x2))) ((ixL tapiPair x0 x1) :: [])) (subL tapiPair x4 (toN x2) (toN (ofN (lenL tapiPair x4)))))) none) none) none) none) none)
       (br (andB (leI (0 : Int) x2) (andB (leI x2 (ofN (lenL tapiPair x4))) (leI (ofN (lenL tapiPair x4)) (ofN (lenL tapiPair x4))))) (br (andB (leI (0 : Int) (0 : Int)) (andB (leI (0 : Int) x2) (leI x2 (ofN (lenL tapiPair x4))))) (br (fitL tapiPair (appL tapiPair [] (subL tapiPair x4 (toN (0 : Int)) (toN x2)))) (br (fitL tapiPair (appL tapiPair (appL tapiPair [] (subL tapiPair x4 (toN (0 : Int)) (toN x2))) ((ixL tapiPair x0 x1) :: []))) (br (fitL tapiPair (appL tapiPair (appL tapiPair (appL tapiPair [] (subL tapiPair x4 (toN (0 : Int)) (toN x2))) ((ixL tapiPair x0 x1) :: [])) (subL tapiPair x4 (toN x2) (toN (ofN (lenL tapiPair x4)))))) (ref07_Make.l0 x0 (addI .i64 x1 (1 : Int)) (appL tapiPair (appL tapiPair (appL tapiPair [] (subL tapiPair x4 (toN (0 : Int)) (toN x2))) ((ixL tapiPair x0 x1) :: [])) (subL tapiPair x4 (toN x2) (toN (ofN (lenL tapiPair x4)))))) none) none) none) none) none))
      (br (andB (leI (0 : Int) x2) (andB (leI x2 (ofN (lenL tapiPair x4))) (leI (ofN (lenL tapiPair x4)) (ofN (lenL tapiPair x4))))) (br (andB (leI (0 : Int) (0 : Int)) (andB (leI (0 : Int) x2) (leI x2 (ofN (lenL tapiPair x4))))) (both
       (br (fitL tapiPair (appL tapiPair [] (subL tapiPair x4 (toN (0 : Int)) (toN x2)))) (br (fitL tapiPair (appL tapiPair (appL tapiPair [] (subL tapiPair x4 (toN (0 : Int)) (toN x2))) ((ixL tapiPair x0 x1) :: []))) (br (fitL tapiPair (appL tapiPair (appL tapiPair (appL tapiPair [] (subL tapiPair x4 (toN (0 : Int)) (toN x2))) ((ixL tapiPair x0 x1) :: [])) (subL tapiPair x4 (toN x2) (toN (ofN (lenL tapiPair x4)))))) (ref07_Make.l0 x0 (addI .i64 x1 (1 : Int)) (appL tapiPair (appL tapiPair (appL tapiPair [] (subL tapiPair x4 (toN (0 : Int)) (toN x2))) ((ixL tapiPair x0 x1) :: [])) (subL tapiPair x4 (toN x2) (toN (ofN (lenL tapiPair x4)))))) none) none) none)
       (br (fitL tapiPair (appL tapiPair [] (subL tapiPair x4 (toN (0 : Int)) (toN x2)))) (br (fitL tapiPair (appL tapiPair (appL tapiPair [] (subL tapiPair x4 (toN (0 : Int)) (toN x2))) ((ixL tapiPair x0 x1) :: []))) (br (fitL tapiPair (appL tapiPair (appL tapiPair (appL tapiPair [] (subL tapiPair x4 (toN (0 : Int)) (toN x2))) ((ixL tapiPair x0 x1) :: [])) (subL tapiPair x4 (toN x2) (toN (ofN (lenL tapiPair x4)))))) (ref07_Make.l0 x0 (addI .i64 x1 (1 : Int)) (appL tapiPair (appL tapiPair (appL tapiPair [] (subL tapiPair x4 (toN (0 : Int)) (toN x2))) ((ixL tapiPair x0 x1) :: [])) (subL tapiPair x4 (toN x2) (toN (ofN (lenL tapiPair x4)))))) none) none) none)) none) none)))
    (both
     (br (andB (leI (0 : Int) (0 : Int)) (andB (leI (0 : Int) x2) (leI x2 (ofN (lenL tapiPair x4))))) (br (andB (leI (0 : Int) x2) (andB (leI x2 (ofN (lenL tapiPair x4))) (leI (ofN (lenL tapiPair x4)) (ofN (lenL tapiPair x4))))) (both
      (both
       (br (fitL tapiPair (appL tapiPair [] (subL tapiPair x4 (toN (0 : Int)) (toN x2)))) (br (fitL tapiPair (appL tapiPair (appL tapiPair [] (subL tapiPair x4 (toN (0 : Int)) (toN x2))) ((ixL tapiPair x0 x1) :: []))) (br (fitL tapiPair (appL tapiPair (appL tapiPair (appL tapiPair [] (subL tapiPair x4 (toN (0 : Int)) (toN x2))) ((ixL tapiPair x0 x1) :: [])) (subL tapiPair x4 (toN x2) (toN (ofN (lenL tapiPair x4)))))) (ref07_Make.l0 x0 (addI .i64 x1 (1 : Int)) (appL tapiPair (appL tapiPair (appL tapiPair [] (subL tapiPair x4 (toN (0 : Int)) (toN x2))) ((ixL tapiPair x0 x1) :: [])) (subL tapiPair x4 (toN x2) (toN (ofN (lenL tapiPair x4)))))) none) none) none)
       (br (fitL tapiPair (appL tapiPair [] (subL tapiPair x4 (toN (0 : Int)) (toN x2)))) (br (fitL tapiPair (appL tapiPair (appL tapiPair [] (subL tapiPair x4 (toN (0 : Int)) (toN x2))) ((ixL tapiPair x0 x1) :: []))) (br (fitL tapiPair (appL tapiPair (appL tapiPair (appL tapiPair [] (subL tapiPair x4 (toN (0 : Int)) (toN x2))) ((ixL tapiPair x0 x1) :: [])) (subL tapiPair x4 (toN x2) (toN (ofN (lenL tapiPair x4)))))) (ref07_Make.l0 x0 (addI .i64 x1 (1 : Int)) (appL tapiPair (appL tapiPair (appL tapiPair [] (subL tapiPair x4 (toN (0 : Int)) (toN x2))) ((ixL tapiPair x0 x1) :: [])) (subL tapiPair x4 (toN x2) (toN (ofN (lenL tapiPair x4)))))) none) none) none))
      (br (fitL tapiPair (appL tapiPair [] (subL tapiPair x4 (toN (0 : Int)) (toN x2)))) (br (fitL tapiPair (appL tapiPair (appL tapiPair [] (subL tapiPair x4 (toN (0 : Int)) (toN x2))) ((ixL tapiPair x0 x1) :: []))) (br (fitL tapiPair (appL tapiPair (appL tapiPair (appL tapiPair [] (subL tapiPair x4 (toN (0 : Int)) (toN x2))) ((ixL tapiPair x0 x1) :: [])) (subL tapiPair x4 (toN x2) (toN (ofN (lenL tapiPair x4)))))) (ref07_Make.l0 x0 (addI .i64 x1 (1 : Int)) (appL tapiPair (appL tapiPair (appL tapiPair [] (subL tapiPair x4 (toN (0 : Int)) (toN x2))) ((ixL tapiPair x0 x1) :: [])) (subL tapiPair x4 (toN x2) (toN (ofN (lenL tapiPair x4)))))) none) none) none)) none) none)
     (both
      (both
       (both
        (br (andB (leI (0 : Int) (0 : Int)) (andB (leI (0 : Int) x2) (leI x2 (ofN (lenL tapiPair x4))))) (br (andB (leI (0 : Int) x2) (andB (leI x2 (ofN (lenL tapiPair x4))) (leI (ofN (lenL tapiPair x4)) (ofN (lenL tapiPair x4))))) (br (fitL tapiPair (appL tapiPair [] (subL tapiPair x4 (toN (0 : Int)) (toN x2)))) (br (fitL tapiPair (appL tapiPair (appL tapiPair [] (subL tapiPair x4 (toN (0 : Int)) (toN x2))) ((ixL tapiPair x0 x1) :: []))) (br (fitL tapiPair (appL tapiPair (appL tapiPair (appL tapiPair [] (subL tapiPair x4 (toN (0 : Int)) (toN x2))) ((ixL tapiPair x0 x1) :: [])) (subL tapiPair x4 (toN x2) (toN (ofN (lenL tapiPair x4)))))) (ref07_Make.l0 x0 (addI .i64 x1 (1 : Int)) (appL tapiPair (appL tapiPair (appL tapiPair [] (subL tapiPair x4 (toN (0 : Int)) (toN x2))) ((ixL tapiPair x0 x1) :: [])) (subL tapiPair x4 (toN x2) (toN (ofN (lenL tapiPair x4)))))) none) none) none) none) none)
        (br (andB (leI (0 : Int) x2) (andB (leI x2 (ofN (lenL tapiPair x4))) (leI (ofN (lenL tapiPair x4)) (ofN (lenL tapiPair x4))))) (br (andB (leI (0 : Int) (0 : Int)) (andB (leI (0 : Int) x2) (leI x2 (ofN (lenL tapiPair x4))))) (br (fitL tapiPair (appL tapiPair [] (subL tapiPair x4 (toN (0 : Int)) (toN x2)))) (br (fitL tapiPair (appL tapiPair (appL tapiPair [] (subL tapiPair x4 (toN (0 : Int)) (toN x2))) ((ixL tapiPair x0 x1) :: []))) (br (fitL tapiPair (appL tapiPair (appL tapiPair (appL tapiPair [] (subL tapiPair x4 (toN (0 : Int)) (toN x2))) ((ixL tapiPair x0 x1) :: [])) (subL tapiPair x4 (toN x2) (toN (ofN (lenL tapiPair x4)))))) (ref07_Make.l0 x0 (addI .i64 x1 (1 : Int)) (appL tapiPair (appL tapiPair (appL tapiPair [] (subL tapiPair x4 (toN (0 : Int)) (toN x2))) ((ixL tapiPair x0 x1) :: [])) (subL tapiPair x4 (toN x2) (toN (ofN (lenL tapiPair x4)))))) none) none) none) none) none))
       (both
        (br (andB (leI (0 : Int) (0 : Int)) (andB (leI (0 : Int) x2) (leI x2 (ofN (lenL tapiPair x4))))) (br (andB (leI (0 : Int) x2) (andB (leI x2 (ofN (lenL tapiPair x4))) (leI (ofN (lenL tapiPair x4)) (ofN (lenL tapiPair x4))))) (br (fitL tapiPair (appL tapiPair [] (subL tapiPair x4 (toN (0 : Int)) (toN x2)))) (br (fitL tapiPair (appL tapiPair (appL tapiPair [] (subL tapiPair x4 (toN (0 : Int)) (toN x2))) ((ixL tapiPair x0 x1) :: []))) (br (fitL tapiPair (appL tapiPair (appL tapiPair (appL tapiPair [] (subL tapiPair x4 (toN (0 : Int)) (toN x2))) ((ixL tapiPair x0 x1) :: [])) (subL tapiPair x4 (toN x2) (toN (ofN (lenL tapiPair x4)))))) (ref07_Make.l0 x0 (addI .i64 x1 (1 : Int)) (appL tapiPair (appL tapiPair (appL tapiPair [] (subL tapiPair x4 (toN (0 : Int)) (toN x2))) ((ixL tapiPair x0 x1) :: [])) (subL tapiPair x4 (toN x2) (toN (ofN (lenL tapiPair x4)))))) none) none) none) none) none)
        (br (andB (leI (0 : Int) x2) (andB (leI x2 (ofN (lenL tapiPair x4))) (leI (ofN (lenL tapiPair x4)) (ofN (lenL tapiPair x4))))) (br (andB (leI (0 : Int) (0 : Int)) (andB (leI (0 : Int) x2) (leI x2 (ofN (lenL tapiPair x4))))) (br (fitL tapiPair (appL tapiPair [] (subL tapiPair x4 (toN (0 : Int)) (toN x2)))) (br (fitL tapiPair (appL tapiPair (appL tapiPair [] (subL tapiPair x4 (toN (0 : Int)) (toN x2))) ((ixL tapiPair x0 x1) :: []))) (br (fitL tapiPair (appL tapiPair (appL tapiPair (appL tapiPair [] (subL tapiPair x4 (toN (0 : Int)) (toN x2))) ((ixL tapiPair x0 x1) :: [])) (subL tapiPair x4 (toN x2) (toN (ofN (lenL tapiPair x4)))))) (ref07_Make.l0 x0 (addI .i64 x1 (1 : Int)) (appL tapiPair (appL tapiPair (appL tapiPair [] (subL tapiPair x4 (toN (0 : Int)) (toN x2))) ((ixL tapiPair x0 x1) :: [])) (subL tapiPair x4 (toN x2) (toN (ofN (lenL tapiPair x4)))))) none) none) none) none) none)))
      (br (andB (leI (0 : Int) x2) (andB (leI x2 (ofN (lenL tapiPair x4))) (leI (ofN (lenL tapiPair x4)) (ofN (lenL tapiPair x4))))) (br (andB (leI (0 : Int) (0 : Int)) (andB (leI (0 : Int) x2) (leI x2 (ofN (lenL tapiPair x4))))) (both
       (both
        (br (fitL tapiPair (appL tapiPair [] (subL tapiPair x4 (toN (0 : Int)) (toN x2)))) (br (fitL tapiPair (appL tapiPair (appL tapiPair [] (subL tapiPair x4 (toN (0 : Int)) (toN x2))) ((ixL tapiPair x0 x1) :: []))) (br (fitL tapiPair (appL tapiPair (appL tapiPair (appL tapiPair [] (subL tapiPair x4 (toN (0 : Int)) (toN x2))) ((ixL tapiPair x0 x1) :: [])) (subL tapiPair x4 (toN x2) (toN (ofN (lenL tapiPair x4)))))) (ref07_Make.l0 x0 (addI .i64 x1 (1 : Int)) (appL tapiPair (appL tapiPair (appL tapiPair [] (subL tapiPair x4 (toN (0 : Int)) (toN x2))) ((ixL tapiPair x0 x1) :: [])) (subL tapiPair x4 (toN x2) (toN (ofN (lenL tapiPair x4)))))) none) none) none)
        (br (fitL tapiPair (appL tapiPair [] (subL tapiPair x4 (toN (0 : Int)) (toN x2)))) (br (fitL tapiPair (appL tapiPair (appL tapiPair [] (subL tapiPair x4 (toN (0 : Int)) (toN x2))) ((ixL tapiPair x0 x1) :: []))) (br (fitL tapiPair (appL tapiPair (appL tapiPair (appL tapiPair [] (subL tapiPair x4 (toN (0 : Int)) (toN x2))) ((ixL tapiPair x0 x1) :: [])) (subL tapiPair x4 (toN x2) (toN (ofN (lenL tapiPair x4)))))) (ref07_Make.l0 x0 (addI .i64 x1 (1 : Int)) (appL tapiPair (appL tapiPair (appL tapiPair [] (subL tapiPair x4 (toN (0 : Int)) (toN x2))) ((ixL tapiPair x0 x1) :: [])) (subL tapiPair x4 (toN x2) (toN (ofN (lenL tapiPair x4)))))) none) none) none))
       (br (fitL tapiPair (appL tapiPair [] (subL tapiPair x4 (toN (0 : Int)) (toN x2)))) (br (fitL tapiPair (appL tapiPair (appL tapiPair [] (subL tapiPair x4 (toN (0 : Int)) (toN x2))) ((ixL tapiPair x0 x1) :: []))) (br (fitL tapiPair (appL tapiPair (appL tapiPair (appL tapiPair [] (subL tapiPair x4 (toN (0 : Int)) (toN x2))) ((ixL tapiPair x0 x1) :: [])) (subL tapiPair x4 (toN x2) (toN (ofN (lenL tapiPair x4)))))) (ref07_Make.l0 x0 (addI .i64 x1 (1 : Int)) (appL tapiPair (appL tapiPair (appL tapiPair [] (subL tapiPair x4 (toN (0 : Int)) (toN x2))) ((ixL tapiPair x0 x1) :: [])) (subL tapiPair x4 (toN x2) (toN (ofN (lenL tapiPair x4)))))) none) none) none)) none) none)))) none) :=
  (congrFun (congrFun (jnO_eq [1, 1, 0, 1, 0, 0, 1, 0, 0, 1, 1, 0, 0, 0, 0, 1] (BF (R := den (.list tapiPair)) 19 0 [1, 1, 0, 1, 0, 0, 1, 0, 0, 1, 1, 0, 0, 0, 0, 1])) ⟨[(0, ⟨(.list tapiPair), x0⟩), (3, ⟨(.own tapiPair 0), ()⟩), (4, ⟨(.int .i64), x1⟩), (5, ⟨(.int .i64), x2⟩), (33, ⟨.bool, x3⟩)], [⟨(.row 84 tapiPair false), x4⟩]⟩) (seqK false [1, 1, 0, 1, 0, 0, 1, 0, 0, 1, 1, 0, 0, 0, 1] (BF 19 0 [1, 1, 0, 1, 0, 0, 1, 0, 0, 1, 1, 0, 0, 0, 1]) (againK [1, 1, 0, 1, 0, 0, 1, 0, 0, 1, 1, 0, 0, 0] (loopW [1, 1, 0, 1, 0, 0, 1, 0, 0, 1, 1, 0, 0, 0] (BF 19 0 [1, 1, 0, 1, 0, 0, 1, 0, 0, 1, 1, 0, 0, 0])) (blockK 2 (seqK false [1, 1, 0, 1, 0, 0, 1, 0, 0, 1, 1, 1] (BF 19 0 [1, 1, 0, 1, 0, 0, 1, 0, 0, 1, 1, 1]) (blockK 1 (seqK false [1, 1, 0, 1, 0, 0, 1, 1] (BF 19 0 [1, 1, 0, 1, 0, 0, 1, 1]) (againK [1, 1, 0, 1, 0, 0] (loopW [1, 1, 0, 1, 0, 0] (BF 19 0 [1, 1, 0, 1, 0, 0])) (blockK 0 (seqK false [1, 1, 1] (BF 19 0 [1, 1, 1]) (finF 19 (.list tapiPair) [] 0))))))))))).trans (by kernel_rfl)
theorem hash_Of.eq (a0 : den .str) (a1 : den (.int .i64)) : hash_Of a0 a1 =
  hash_Of.l0 a0 a1 (14695981039346656037 : Int) (ofN (lenS a0)) (0 : Int) :=
  (callW_eq (P := PP) (T := TT) (pr := RR) 63 [⟨.str, a0⟩, ⟨(.int .i64), a1⟩] [] (.int .u64) []).trans (by kernel_rfl)
theorem hash_Of.l0.eq (x0 : den .str) (x1 : den (.int .i64)) (x2 : den (.int .u64)) (x3 : den (.int .i64)) (x4 : den (.int .i64)) : hash_Of.l0 x0 x1 x2 x3 x4 =
  br (ltI x4 x3)
   (br (andB (leI (0 : Int) x4) (ltI x4 (ofN (lenS x0)))) (hash_Of.l0 x0 x1 (mulI .u64 (xorI .u64 x2 (wrapI .u64 (getS x0 (toN x4)))) (1099511628211 : Int)) x3 (addI .i64 x4 (1 : Int))) none)
   (bnd (hash_cut x2 x1) fun r0 =>
   some r0) :=
  (loopB_eq (P := PP) (T := TT) (C := CF) [1, 1, 0, 1, 0, 0] [1, 1, 0, 1, 0, 0] 63 0 ⟨[(0, ⟨.str, x0⟩), (1, ⟨(.int .i64), x1⟩), (5, ⟨(.int .u64), x2⟩), (8, ⟨(.int .i64), x3⟩), (9, ⟨(.int .i64), x4⟩)], []⟩ (blockK 0 (seqK false [1, 1, 1] (BF 63 0 [1, 1, 1]) (finF 63 (.int .u64) [] 0)))).trans (by kernel_rfl)
theorem ref04_clamp.eq (a0 : den (.int .i64)) : ref04_clamp a0 =
  br (ltI a0 (0 : Int))
   (some (0 : Int))
   (br (ltI (64 : Int) a0)
    (some (64 : Int))
    (some a0)) :=
  (callW_eq (P := PP) (T := TT) (pr := RR) 64 [⟨(.int .i64), a0⟩] [] (.int .i64) []).trans (by kernel_rfl)
theorem graft_Graft_Want.eq (a0 : denO (.box tgraftGraftO)) (a1 : denO (.row 104 tgraftstep true)) : graft_Graft_Want a0 a1 =
  some (a0.2.2.2.2.2.2.1, (a0, (a1, ()))) :=
  (callW_eq (P := PP) (T := TT) (pr := RR) 32 [⟨(.ptr 0 0), ()⟩] [⟨(.box tgraftGraftO), a0⟩, ⟨(.row 104 tgraftstep true), a1⟩] (.int .i64) [(.box tgraftGraftO), (.row 104 tgraftstep true)]).trans (by kernel_rfl)
theorem graft_Graft_Plan_v1.eq (a0 : denO (.box tgraftGraftO)) (a1 : denO (.row 104 tgraftstep true)) : graft_Graft_Plan_v1 a0 a1 =
  bnd (graft_Graft_changes a0 a1) fun r0 =>
  br (notB r0.1)
   (some ((((), ((0 : Int), ((), ()))), (false, ())), (r0.2.1, (r0.2.2.1, ([], ([], ()))))))
   (bnd (graft_Graft_bound r0.2.1 r0.2.2.1) fun r1 =>
   br r1.1.2.1
    (graft_Graft_Plan_v1.j0 r1.2.1 r1.2.2.1 ((), ((0 : Int), ((), ()))) (0 : Int) [] [])
    (graft_Graft_Plan_v1.j0 r1.2.1 r1.2.2.1 ((), ((0 : Int), ((), ()))) (1 : Int) [] [])) :=
  (callW_eq (P := PP) (T := TT) (pr := RR) 28 [⟨(.ptr 0 0), ()⟩] [⟨(.box tgraftGraftO), a0⟩, ⟨(.row 104 tgraftstep true), a1⟩] (.tcons (.pair (.own tapiNode 2) (.pair (.int .i64) (.pair (.own (.int .i64) 3) .unit))) (.tcons .bool .tnil)) [(.box tgraftGraftO), (.row 104 tgraftstep true), (.row 58 tapiNode false), (.row 24 (.int .i64) false)]).trans (by kernel_rfl)
theorem graft_Graft_bound.eq (a0 : denO (.box tgraftGraftO)) (a1 : denO (.row 104 tgraftstep true)) : graft_Graft_bound a0 a1 =
  br (notB (eqI a0.2.2.2.2.2.2.1 (0 : Int)))
   (some ((ByteArray.empty, (false, ())), (a0, (a1, ()))))
   (br (notB (eqI a0.2.2.2.2.2.2.2.2.2.1 (1 : Int)))
    (br (notB (eqI a0.2.2.2.2.2.2.2.2.2.1 (3 : Int)))
     (some ((ByteArray.empty, (false, ())), (a0, (a1, ()))))
     (bnd (node_Binds a0.2.2.2.2.2.2.2.2.2) fun r0 =>
     bnd (pair_Get r0.2.1 a0.2.1) fun r1 =>
     some (r1, (a0, (a1, ())))))
    (bnd (node_Binds a0.2.2.2.2.2.2.2.2.2) fun r2 =>
    bnd (pair_Get r2.2.1 a0.2.1) fun r3 =>
    some (r3, (a0, (a1, ()))))) :=
  (callW_eq (P := PP) (T := TT) (pr := RR) 65 [⟨(.ptr 0 0), ()⟩] [⟨(.box tgraftGraftO), a0⟩, ⟨(.row 104 tgraftstep true), a1⟩] (.tcons .str (.tcons .bool .tnil)) [(.box tgraftGraftO), (.row 104 tgraftstep true)]).trans (by kernel_rfl)
theorem graft_Graft_changes_o.eq (a0 : denO (.box tgraftGraft)) : graft_Graft_changes_o a0 =
  br (notB (eqI a0.2.2.2.2.2.2.1 (0 : Int)))
   (some (false, (a0, ())))
   (bnd (graft_Graft_bound_o a0) fun r0 =>
   br (eqI r0.2.1.1 (1 : Int))
    (some (true, (r0.2.1, ())))
    (br (eqI r0.2.1.1 (2 : Int))
     (some ((notB r0.1.2.1), (r0.2.1, ())))
     (br (eqI r0.2.1.1 (3 : Int))
      (br r0.1.2.1
       (some ((eqS r0.1.1 r0.2.1.2.2.2.1), (r0.2.1, ())))
       (some (false, (r0.2.1, ()))))
      (some (false, (r0.2.1, ())))))) :=
  (callW_eq (P := PP) (T := TT) (pr := RR) 66 [⟨(.ptr 0 0), ()⟩] [⟨(.box tgraftGraft), a0⟩] .bool [(.box tgraftGraft)]).trans (by kernel_rfl)
theorem graft_Graft_bound_o.eq (a0 : denO (.box tgraftGraft)) : graft_Graft_bound_o a0 =
  br (notB (eqI a0.2.2.2.2.2.2.1 (0 : Int)))
   (some ((ByteArray.empty, (false, ())), (a0, ())))
   (br (notB (eqI a0.2.2.2.2.2.2.2.2.2.1 (1 : Int)))
    (br (notB (eqI a0.2.2.2.2.2.2.2.2.2.1 (3 : Int)))
     (some ((ByteArray.empty, (false, ())), (a0, ())))
     (bnd (node_Binds a0.2.2.2.2.2.2.2.2.2) fun r0 =>
     bnd (pair_Get r0.2.1 a0.2.1) fun r1 =>
     some (r1, (a0, ()))))
    (bnd (node_Binds a0.2.2.2.2.2.2.2.2.2) fun r2 =>
    bnd (pair_Get r2.2.1 a0.2.1) fun r3 =>
    some (r3, (a0, ())))) :=
  (callW_eq (P := PP) (T := TT) (pr := RR) 65 [⟨(.ptr 0 0), ()⟩] [⟨(.box tgraftGraft), a0⟩] (.tcons .str (.tcons .bool .tnil)) [(.box tgraftGraft)]).trans (by kernel_rfl)
theorem graft_Graft_bottom.eq (a0 : den (.pair (.nil 58) (.pair (.int .i64) (.pair (.nil 24) .unit)))) (a1 : denO (.box tgraftGraft)) : graft_Graft_bottom a0 a1 =
  bnd (graft_Graft_bound_o a1) fun r0 =>
  br (eqI r0.2.1.2.2.2.2.2.2.2.2.1 (0 : Int))
   (graft_Graft_bottom.j0 false true r0.2.1 ((), (a0.2.1, ((), ()))) ((), ((0 : Int), ((), ()))) [] [] [] [])
   (br (eqI r0.2.1.2.2.2.2.2.2.2.2.2.1 (1 : Int))
    (graft_Graft_bottom.j0 false r0.1.2.1 r0.2.1 ((), (a0.2.1, ((), ()))) ((), ((0 : Int), ((), ()))) [] [] [] [])
    (graft_Graft_bottom.j0 false false r0.2.1 ((), (a0.2.1, ((), ()))) ((), ((0 : Int), ((), ()))) [] [] [] [])) :=
  (callW_eq (P := PP) (T := TT) (pr := RR) 67 [⟨(.ptr 0 0), ()⟩, ⟨(.pair (.nil 58) (.pair (.int .i64) (.pair (.nil 24) .unit))), a0⟩] [⟨(.box tgraftGraft), a1⟩] (.tcons (.pair (.own tapiNode 1) (.pair (.int .i64) (.pair (.own (.int .i64) 2) .unit))) (.tcons (.int .i64) .tnil)) [(.box tgraftGraft), (.row 58 tapiNode false), (.row 24 (.int .i64) false)]).trans (by kernel_rfl)
theorem graft_Graft_bottom.j0.eq (x0 : den .bool) (x1 : den .bool) (x2 : denO (.box tgraftGraft)) (x3 : denO (.box (.pair (.own tapiNode 3) (.pair (.int .i64) (.pair (.own (.int .i64) 4) .unit))))) (x4 : denO (.box (.pair (.own tapiNode 5) (.pair (.int .i64) (.pair (.own (.int .i64) 6) .unit))))) (x5 : denO (.row 58 tapiNode false)) (x6 : denO (.row 24 (.int .i64) false)) (x7 : denO (.row 58 tapiNode false)) (x8 : denO (.row 24 (.int .i64) false)) : graft_Graft_bottom.j0 x0 x1 x2 x3 x4 x5 x6 x7 x8 =
  br x1
   (bnd (node_Leaf x2.2.1 x2.2.2.1) fun r0 =>
   bnd (plan_Add ((), (x3.2.1, ((), ()))) r0 x5 x6) fun r1 =>
   br (notB (eqI x2.2.2.2.2.2.2.2.2.1 (0 : Int)))
    (br (notB x0)
     (br (fitL (.int .i64) (appL (.int .i64) r1.2.2.1 (x2.2.2.2.2.2.2.2.2.1 :: []))) (some ((((), (r1.1.1.2.1, ((), ()))), r1.1.2), (x2, (r1.2.2.2.1, ((appL (.int .i64) r1.2.2.1 (x2.2.2.2.2.2.2.2.2.1 :: [])), ()))))) none)
     (some ((((), (r1.1.1.2.1, ((), ()))), r1.1.2), (x2, (r1.2.2.2.1, (r1.2.2.1, ()))))))
    (some ((((), (r1.1.1.2.1, ((), ()))), r1.1.2), (x2, (r1.2.2.2.1, (r1.2.2.1, ()))))))
   (br (eqI x2.2.2.2.2.2.2.2.2.2.1 (1 : Int))
    (bnd (graft_Graft_two ((), (x3.2.1, ((), ()))) (ofN (lenL tgraftstep x2.2.2.2.2.2.2.2.1)) x2 x5 x6) fun r2 =>
    br (notB (eqI r2.2.1.2.2.2.2.2.2.2.2.1 (0 : Int)))
     (br (notB r2.1.2.2.1)
      (br (fitL (.int .i64) (appL (.int .i64) r2.2.2.2.1 (r2.2.1.2.2.2.2.2.2.2.2.1 :: []))) (some ((((), (r2.1.1.2.1, ((), ()))), (r2.1.2.1, ())), (r2.2.1, (r2.2.2.1, ((appL (.int .i64) r2.2.2.2.1 (r2.2.1.2.2.2.2.2.2.2.2.1 :: [])), ()))))) none)
      (some ((((), (r2.1.1.2.1, ((), ()))), (r2.1.2.1, ())), (r2.2.1, (r2.2.2.1, (r2.2.2.2.1, ()))))))
     (some ((((), (r2.1.1.2.1, ((), ()))), (r2.1.2.1, ())), (r2.2.1, (r2.2.2.1, (r2.2.2.2.1, ()))))))
    (bnd (node_Binds x2.2.2.2.2.2.2.2.2.2) fun r3 =>
    bnd (pair_Put r3.2.1 x2.2.1 x2.2.2.1) fun r4 =>
    bnd (node_Bucket r4) fun r5 =>
    bnd (plan_Add ((), (x3.2.1, ((), ()))) r5 x5 x6) fun r6 =>
    br (notB (eqI x2.2.2.2.2.2.2.2.2.1 (0 : Int)))
     (br (notB x0)
      (br (fitL (.int .i64) (appL (.int .i64) r6.2.2.1 (x2.2.2.2.2.2.2.2.2.1 :: []))) (some ((((), (r6.1.1.2.1, ((), ()))), r6.1.2), (x2, (r6.2.2.2.1, ((appL (.int .i64) r6.2.2.1 (x2.2.2.2.2.2.2.2.2.1 :: [])), ()))))) none)
      (some ((((), (r6.1.1.2.1, ((), ()))), r6.1.2), (x2, (r6.2.2.2.1, (r6.2.2.1, ()))))))
     (some ((((), (r6.1.1.2.1, ((), ()))), r6.1.2), (x2, (r6.2.2.2.1, (r6.2.2.1, ()))))))) :=
  (congrFun (congrFun (jnO_eq [1, 1, 1, 1, 0, 0, 1] (BF (R := denR (.tcons (.pair (.own tapiNode 1) (.pair (.int .i64) (.pair (.own (.int .i64) 2) .unit))) (.tcons (.int .i64) .tnil)) [(.box tgraftGraft), (.row 58 tapiNode false), (.row 24 (.int .i64) false)]) 67 1 [1, 1, 1, 1, 0, 0, 1])) ⟨[(0, ⟨(.ptr 0 0), ()⟩), (3, ⟨(.ptr 1 0), ()⟩), (4, ⟨(.ptr 2 0), ()⟩), (8, ⟨.bool, x0⟩), (35, ⟨.bool, x1⟩)], [⟨(.box tgraftGraft), x2⟩, ⟨(.box (.pair (.own tapiNode 3) (.pair (.int .i64) (.pair (.own (.int .i64) 4) .unit)))), x3⟩, ⟨(.box (.pair (.own tapiNode 5) (.pair (.int .i64) (.pair (.own (.int .i64) 6) .unit)))), x4⟩, ⟨(.row 58 tapiNode false), x5⟩, ⟨(.row 24 (.int .i64) false), x6⟩, ⟨(.row 58 tapiNode false), x7⟩, ⟨(.row 24 (.int .i64) false), x8⟩]⟩) (blockK 0 (seqK false [1, 1, 1, 1, 1] (BF 67 1 [1, 1, 1, 1, 1]) (finF 67 (.tcons (.pair (.own tapiNode 1) (.pair (.int .i64) (.pair (.own (.int .i64) 2) .unit))) (.tcons (.int .i64) .tnil)) [(.box tgraftGraft), (.row 58 tapiNode false), (.row 24 (.int .i64) false)] 1)))).trans (by kernel_rfl)
theorem slices_Backwardgraft_step_graft_step.eq (a0 : den (.list tgraftstep)) : slices_Backwardgraft_step_graft_step a0 =
  some (((), ()), (a0, ())) :=
  (callW_eq (P := PP) (T := TT) (pr := RR) 68 [⟨(.list tgraftstep), a0⟩] [] (.fn 107 (.tcons (.ptr 0 0) .tnil)) [(.box (.list tgraftstep))]).trans (by kernel_rfl)
theorem slices_Backwardgraft_step_graft_step_1.eq (a0 : den (.eptr (.list tgraftstep) 0)) : slices_Backwardgraft_step_graft_step_1 a0 =
  slices_Backwardgraft_step_graft_step_1.l0 a0 (subI .i64 (ofN (lenL tgraftstep a0)) (1 : Int)) :=
  (callW_eq (P := PP) (T := TT) (pr := RR) 107 [⟨(.own .dead 0), ()⟩, ⟨(.eptr (.list tgraftstep) 0), a0⟩] [⟨.held, ()⟩] (.list (.tcons (.int .i64) (.tcons tgraftstep .tnil))) []).trans (by kernel_rfl)
theorem slices_Backwardgraft_step_graft_step_1.l0.eq (x0 : den (.eptr (.list tgraftstep) 0)) (x1 : den (.int .i64)) : slices_Backwardgraft_step_graft_step_1.l0 x0 x1 =
  br (leI (0 : Int) x1)
   (br (andB (leI (0 : Int) x1) (ltI x1 (ofN (lenL tgraftstep x0)))) (yieldW (R := List (den (.tcons (.int .i64) (.tcons tgraftstep .tnil)))) ⟨(.tcons (.int .i64) (.tcons tgraftstep .tnil)), (x1, ((ixL tgraftstep x0 x1), ()))⟩
    (br (notB true)
     (some [])
     (slices_Backwardgraft_step_graft_step_1.l0 x0 (subI .i64 x1 (1 : Int))))
    (br (notB false)
     (some [])
     (slices_Backwardgraft_step_graft_step_1.l0 x0 (subI .i64 x1 (1 : Int))))) none)
   (some []) :=
  (loopB_eq (P := PP) (T := TT) (C := CF) [1, 0, 0] [1, 0, 0] 107 1 ⟨[(0, ⟨(.own .dead 0), ()⟩), (1, ⟨(.eptr (.list tgraftstep) 0), x0⟩), (3, ⟨(.int .i64), x1⟩)], [⟨.held, ()⟩]⟩ (blockK 0 (iterK (List (den (.tcons (.int .i64) (.tcons tgraftstep .tnil)))) []))).trans (by kernel_rfl)
theorem branch_With.eq (a0 : den tapiNode) (a1 : den (.int .i64)) (a2 : den (.int .i64)) : branch_With a0 a1 a2 =
  bnd (branch_branch a0) fun r0 =>
  bnd (mask_With r0.1.2.2.2.1 a1) fun r1 =>
  bnd (mask_Place r1 a1) fun r2 =>
  br (eqI a2 (0 : Int))
   (branch_With.j0 a2 r1 r2 true ((0 : Int), (ByteArray.empty, (ByteArray.empty, ((0 : Int), ((), ((0 : Int), ((), ((0 : Int), ((0 : Int), ()))))))))) r0.1 [] [] r0.2.1 r0.2.2.1)
   (bnd (mask_Has r1 a1) fun r3 =>
   branch_With.j0 a2 r1 r2 (notB r3) ((0 : Int), (ByteArray.empty, (ByteArray.empty, ((0 : Int), ((), ((0 : Int), ((), ((0 : Int), ((0 : Int), ()))))))))) r0.1 [] [] r0.2.1 r0.2.2.1) :=
  (callW_eq (P := PP) (T := TT) (pr := RR) 71 [⟨tapiNode, a0⟩, ⟨(.int .i64), a1⟩, ⟨(.int .i64), a2⟩] [] tapiNode []).trans (by kernel_rfl)
theorem branch_With.j0.eq (x0 : den (.int .i64)) (x1 : den (.int .u32)) (x2 : den (.int .i64)) (x3 : den .bool) (x4 : denO (.box (.pair (.int .i64) (.pair .str (.pair .str (.pair (.int .u32) (.pair (.own (.int .i64) 2) (.pair (.int .i64) (.pair (.own tapiPair 3) (.pair (.int .i64) (.pair (.int .i64) .unit))))))))))) (x5 : denO (.box (.pair (.int .i64) (.pair .str (.pair .str (.pair (.int .u32) (.pair (.own (.int .i64) 4) (.pair (.int .i64) (.pair (.own tapiPair 5) (.pair (.int .i64) (.pair (.int .i64) .unit))))))))))) (x6 : denO (.row 24 (.int .i64) false)) (x7 : denO (.row 84 tapiPair false)) (x8 : denO (.row 24 (.int .i64) false)) (x9 : denO (.row 84 tapiPair false)) : branch_With.j0 x0 x1 x2 x3 x4 x5 x6 x7 x8 x9 =
  br x3
   (some (x5.1, (x5.2.1, (x5.2.2.1, (x5.2.2.2.1, (x8, (x5.2.2.2.2.2.1, (x9, x5.2.2.2.2.2.2.2))))))))
   (br (eqI x1 x5.2.2.2.1)
    (br (andB (leI (0 : Int) x2) (ltI x2 (ofN (lenL (.int .i64) x8)))) (some (x5.1, (x5.2.1, (x5.2.2.1, (x1, ((setL (.int .i64) x8 x2 x0), (x5.2.2.2.2.2.1, (x9, x5.2.2.2.2.2.2.2)))))))) none)
    (bnd (slices_Insertapi_Ref_api_Ref x2 x8 (x0 :: [])) fun r0 =>
    some (x5.1, (x5.2.1, (x5.2.2.1, (x1, (r0.2.1, (x5.2.2.2.2.2.1, (x9, x5.2.2.2.2.2.2.2))))))))) :=
  (congrFun (congrFun (jnO_eq [1, 1, 1, 1, 0, 0, 1] (BF (R := den tapiNode) 71 0 [1, 1, 1, 1, 0, 0, 1])) ⟨[(2, ⟨(.int .i64), x0⟩), (6, ⟨(.ptr 0 0), ()⟩), (7, ⟨(.ptr 1 0), ()⟩), (8, ⟨(.int .u32), x1⟩), (9, ⟨(.int .i64), x2⟩), (26, ⟨.bool, x3⟩)], [⟨(.box (.pair (.int .i64) (.pair .str (.pair .str (.pair (.int .u32) (.pair (.own (.int .i64) 2) (.pair (.int .i64) (.pair (.own tapiPair 3) (.pair (.int .i64) (.pair (.int .i64) .unit)))))))))), x4⟩, ⟨(.box (.pair (.int .i64) (.pair .str (.pair .str (.pair (.int .u32) (.pair (.own (.int .i64) 4) (.pair (.int .i64) (.pair (.own tapiPair 5) (.pair (.int .i64) (.pair (.int .i64) .unit)))))))))), x5⟩, ⟨(.row 24 (.int .i64) false), x6⟩, ⟨(.row 84 tapiPair false), x7⟩, ⟨(.row 24 (.int .i64) false), x8⟩, ⟨(.row 84 tapiPair false), x9⟩]⟩) (blockK 0 (seqK false [1, 1, 1, 1, 1] (BF 71 0 [1, 1, 1, 1, 1]) (finF 71 tapiNode [] 0)))).trans (by kernel_rfl)
theorem branch_Sized.eq (a0 : den tapiNode) (a1 : den (.int .i64)) : branch_Sized a0 a1 =
  bnd (branch_branch a0) fun r0 =>
  br (leI (0 : Int) a1)
   (some (r0.1.1, (r0.1.2.1, (r0.1.2.2.1, (r0.1.2.2.2.1, (r0.2.1, (r0.1.2.2.2.2.2.1, (r0.2.2.1, (a1, r0.1.2.2.2.2.2.2.2.2)))))))))
   (some (r0.1.1, (r0.1.2.1, (r0.1.2.2.1, (r0.1.2.2.2.1, (r0.2.1, (r0.1.2.2.2.2.2.1, (r0.2.2.1, r0.1.2.2.2.2.2.2.2)))))))) :=
  (callW_eq (P := PP) (T := TT) (pr := RR) 70 [⟨tapiNode, a0⟩, ⟨(.int .i64), a1⟩] [] tapiNode []).trans (by kernel_rfl)
theorem plan_Add.eq (a0 : den (.pair (.own tapiNode 0) (.pair (.int .i64) (.pair (.own (.int .i64) 1) .unit)))) (a1 : den tapiNode) (a2 : denO (.row 58 tapiNode true)) (a3 : denO (.row 24 (.int .i64) true)) : plan_Add a0 a1 a2 a3 =
  bnd (slices_Cloneapi_Node_api_Node a2) fun r0 =>
  bnd (node_Copy a1) fun r1 =>
  br (fitL tapiNode (appL tapiNode r0.2.1 ((r1.1.1, (r1.1.2.1, (r1.1.2.2.1, (r1.1.2.2.2.1, (r1.2.1, (r1.1.2.2.2.2.2.1, (r1.2.2.1, r1.1.2.2.2.2.2.2.2))))))) :: []))) (bnd (ref_New (subI .i64 (ofN (lenL tapiNode (appL tapiNode r0.2.1 ((r1.1.1, (r1.1.2.1, (r1.1.2.2.1, (r1.1.2.2.2.1, (r1.2.1, (r1.1.2.2.2.2.2.1, (r1.2.2.1, r1.1.2.2.2.2.2.2.2))))))) :: [])))) (1 : Int))) fun r2 =>
  some ((((), (a0.2.1, ((), ()))), (r2, ())), ((), (a3, ((appL tapiNode r0.2.1 ((r1.1.1, (r1.1.2.1, (r1.1.2.2.1, (r1.1.2.2.2.1, (r1.2.1, (r1.1.2.2.2.2.2.1, (r1.2.2.1, r1.1.2.2.2.2.2.2.2))))))) :: [])), ()))))) none :=
  (callW_eq (P := PP) (T := TT) (pr := RR) 69 [⟨(.pair (.own tapiNode 0) (.pair (.int .i64) (.pair (.own (.int .i64) 1) .unit))), a0⟩, ⟨tapiNode, a1⟩] [⟨(.row 58 tapiNode true), a2⟩, ⟨(.row 24 (.int .i64) true), a3⟩] (.tcons (.pair (.own tapiNode 2) (.pair (.int .i64) (.pair (.own (.int .i64) 1) .unit))) (.tcons (.int .i64) .tnil)) [.gone, (.row 24 (.int .i64) false), (.row 58 tapiNode false)]).trans (by kernel_rfl)
theorem graft_Graft_changes_o_v1.eq  : graft_Graft_changes_o_v1  =
  some false :=
  (callW_eq (P := PP) (T := TT) (pr := RR) 66 [⟨.nilptr, ()⟩] [] .bool []).trans (by kernel_rfl)
theorem graft_Graft_bound_o_v1.eq  : graft_Graft_bound_o_v1  =
  some (ByteArray.empty, (false, ())) :=
  (callW_eq (P := PP) (T := TT) (pr := RR) 65 [⟨.nilptr, ()⟩] [] (.tcons .str (.tcons .bool .tnil)) []).trans (by kernel_rfl)
theorem ref17_May.eq (a0 : den (.list tapiNode)) : ref17_May a0 =
  ref17_May.l0 a0 (0 : Int) :=
  (callW_eq (P := PP) (T := TT) (pr := RR) 76 [⟨(.list tapiNode), a0⟩] [] .bool []).trans (by kernel_rfl)
theorem ref17_May.l0.eq (x0 : den (.list tapiNode)) (x1 : den (.int .i64)) : ref17_May.l0 x0 x1 =
  br (ltI x1 (ofN (lenL tapiNode x0)))
   (br (andB (leI (0 : Int) x1) (ltI x1 (ofN (lenL tapiNode x0)))) (bnd (ref13_Refs (ixL tapiNode x0 x1)) fun r0 =>
   ref17_May.l1 x0 x1 r0 (0 : Int)) none)
   (some true) :=
  (loopB_eq (P := PP) (T := TT) (C := CF) [1, 0, 1, 0, 0] [1, 0, 1, 0, 0] 76 0 ⟨[(0, ⟨(.list tapiNode), x0⟩), (3, ⟨(.int .i64), x1⟩)], []⟩ (blockK 0 (seqK false [1, 1] (BF 76 0 [1, 1]) (finF 76 .bool [] 0)))).trans (by kernel_rfl)
theorem ref17_May.l1.eq (x0 : den (.list tapiNode)) (x1 : den (.int .i64)) (x2 : den (.list (.int .i64))) (x3 : den (.int .i64)) : ref17_May.l1 x0 x1 x2 x3 =
  br (ltI x3 (ofN (lenL (.int .i64) x2)))
   (br (andB (leI (0 : Int) x3) (ltI x3 (ofN (lenL (.int .i64) x2)))) (br (ltI (ixL (.int .i64) x2 x3) (1 : Int))
    (some false)
    (br (andB (leI (0 : Int) x3) (ltI x3 (ofN (lenL (.int .i64) x2)))) (br (ltI x1 (ixL (.int .i64) x2 x3))
     (some false)
     (ref17_May.l1 x0 x1 x2 (addI .i64 x3 (1 : Int)))) none)) none)
   (br (andB (leI (0 : Int) x1) (ltI x1 (ofN (lenL tapiNode x0)))) (bnd (ref13_May (ixL tapiNode x0 x1)) fun r0 =>
   br (notB (eqI r0 (0 : Int)))
    (some false)
    (ref17_May.l0 x0 (addI .i64 x1 (1 : Int)))) none) :=
  (loopB_eq (P := PP) (T := TT) (C := CF) [1, 0, 1, 0, 0, 1, 0, 0, 1, 0, 1, 0, 0] [1, 0, 1, 0, 0, 1, 0, 0, 1, 0, 1, 0, 0] 76 0 ⟨[(0, ⟨(.list tapiNode), x0⟩), (3, ⟨(.int .i64), x1⟩), (4, ⟨(.list (.int .i64)), x2⟩), (5, ⟨(.int .i64), x3⟩)], []⟩ (blockK 2 (seqK false [1, 0, 1, 0, 0, 1, 0, 0, 1, 1] (BF 76 0 [1, 0, 1, 0, 0, 1, 0, 0, 1, 1]) (blockK 1 (seqK false [1, 0, 1, 0, 0, 1, 1] (BF 76 0 [1, 0, 1, 0, 0, 1, 1]) (againK [1, 0, 1, 0, 0] (loopW [1, 0, 1, 0, 0] (BF 76 0 [1, 0, 1, 0, 0])) (blockK 0 (seqK false [1, 1] (BF 76 0 [1, 1]) (finF 76 .bool [] 0))))))))).trans (by kernel_rfl)
theorem ref13_Refs.eq (a0 : den tapiNode) : ref13_Refs a0 =
  ref13_Refs.l0 (0 : Int) a0 [] :=
  (callW_eq (P := PP) (T := TT) (pr := RR) 60 [⟨tapiNode, a0⟩] [] (.list (.int .i64)) []).trans (by kernel_rfl)
theorem ref13_Refs.l0.eq (x0 : den (.int .i64)) (x1 : denO (.box tapiNode)) (x2 : denO (.row 24 (.int .i64) false)) : ref13_Refs.l0 x0 x1 x2 =
  br (ltI x0 (ofN (lenL (.int .i64) x1.2.2.2.2.1)))
   (br (andB (leI (0 : Int) x0) (ltI x0 (ofN (lenL (.int .i64) x1.2.2.2.2.1)))) (br (notB (eqI (ixL (.int .i64) x1.2.2.2.2.1 x0) (0 : Int)))
    (br (andB (leI (0 : Int) x0) (ltI x0 (ofN (lenL (.int .i64) x1.2.2.2.2.1)))) (br (fitL (.int .i64) (appL (.int .i64) x2 ((ixL (.int .i64) x1.2.2.2.2.1 x0) :: []))) (ref13_Refs.l0 (addI .i64 x0 (1 : Int)) x1 (appL (.int .i64) x2 ((ixL (.int .i64) x1.2.2.2.2.1 x0) :: []))) none) none)
    (ref13_Refs.l0 (addI .i64 x0 (1 : Int)) x1 x2)) none)
   (br (notB (eqI x1.2.2.2.2.2.1 (0 : Int)))
    (br (fitL (.int .i64) (appL (.int .i64) x2 (x1.2.2.2.2.2.1 :: []))) (some (appL (.int .i64) x2 (x1.2.2.2.2.2.1 :: []))) none)
    (some x2)) :=
  (loopB_eq (P := PP) (T := TT) (C := CF) [1, 1, 0, 1, 0, 0] [1, 1, 0, 1, 0, 0] 60 0 ⟨[(1, ⟨(.ptr 0 0), ()⟩), (3, ⟨(.own (.int .i64) 1), ()⟩), (4, ⟨(.int .i64), x0⟩)], [⟨(.box tapiNode), x1⟩, ⟨(.row 24 (.int .i64) false), x2⟩]⟩ (blockK 0 (seqK false [1, 1, 1] (BF 60 0 [1, 1, 1]) (finF 60 (.list (.int .i64)) [] 0)))).trans (by kernel_rfl)
theorem ref17_Fits.eq (a0 : den (.list tapiNode)) (a1 : den (.int .i64)) : ref17_Fits a0 a1 =
  br (leI (0 : Int) a1)
   (br (leI a1 (ofN (lenL tapiNode a0)))
    (bnd (ref17_May a0) fun r0 =>
    some r0)
    (some false))
   (some false) :=
  (callW_eq (P := PP) (T := TT) (pr := RR) 55 [⟨(.list tapiNode), a0⟩, ⟨(.int .i64), a1⟩] [] .bool []).trans (by kernel_rfl)
theorem ref17_Binds.eq (a0 : den (.list tapiNode)) (a1 : den (.int .i64)) : ref17_Binds a0 a1 =
  br (eqI a1 (0 : Int))
   (some [])
   (br (andB (leI (0 : Int) (subI .i64 a1 (1 : Int))) (ltI (subI .i64 a1 (1 : Int)) (ofN (lenL tapiNode a0)))) (br (eqI (ixL tapiNode a0 (subI .i64 a1 (1 : Int))).1 (4 : Int))
    (br (andB (leI (0 : Int) (0 : Int)) (ltI (0 : Int) (ofN (lenL (.int .i64) (ixL tapiNode a0 (subI .i64 a1 (1 : Int))).2.2.2.2.1)))) (bnd (ref17_Binds a0 (ixL (.int .i64) (ixL tapiNode a0 (subI .i64 a1 (1 : Int))).2.2.2.2.1 (0 : Int))) fun r0 =>
    br (fitL tapiPair (appL tapiPair [] r0)) (bnd (ref13_Binds (ixL tapiNode a0 (subI .i64 a1 (1 : Int)))) fun r1 =>
    br (fitL tapiPair (appL tapiPair (appL tapiPair [] r0) r1)) (br (andB (leI (0 : Int) (1 : Int)) (ltI (1 : Int) (ofN (lenL (.int .i64) (ixL tapiNode a0 (subI .i64 a1 (1 : Int))).2.2.2.2.1)))) (bnd (ref17_Binds a0 (ixL (.int .i64) (ixL tapiNode a0 (subI .i64 a1 (1 : Int))).2.2.2.2.1 (1 : Int))) fun r2 =>
    br (fitL tapiPair (appL tapiPair (appL tapiPair (appL tapiPair [] r0) r1) r2)) (some (appL tapiPair (appL tapiPair (appL tapiPair [] r0) r1) r2)) none) none) none) none) none)
    (bnd (ref13_Binds (ixL tapiNode a0 (subI .i64 a1 (1 : Int)))) fun r3 =>
    br (fitL tapiPair (appL tapiPair [] r3)) (bnd (ref13_Refs (ixL tapiNode a0 (subI .i64 a1 (1 : Int)))) fun r4 =>
    ref17_Binds.l0 a0 r4 (0 : Int) (appL tapiPair [] r3)) none)) none) :=
  (callW_eq (P := PP) (T := TT) (pr := RR) 20 [⟨(.list tapiNode), a0⟩, ⟨(.int .i64), a1⟩] [] (.list tapiPair) []).trans (by kernel_rfl)
theorem ref17_Binds.l0.eq (x0 : den (.list tapiNode)) (x1 : den (.list (.int .i64))) (x2 : den (.int .i64)) (x3 : denO (.row 84 tapiPair false)) : ref17_Binds.l0 x0 x1 x2 x3 =
  br (ltI x2 (ofN (lenL (.int .i64) x1)))
   (br (andB (leI (0 : Int) x2) (ltI x2 (ofN (lenL (.int .i64) x1)))) (bnd (ref17_Binds x0 (ixL (.int .i64) x1 x2)) fun r0 =>
   br (fitL tapiPair (appL tapiPair x3 r0)) (ref17_Binds.l0 x0 x1 (addI .i64 x2 (1 : Int)) (appL tapiPair x3 r0)) none) none)
   (some x3) :=
  (loopB_eq (P := PP) (T := TT) (C := CF) [1, 1, 1, 1, 1, 1, 1, 0, 1, 0, 0] [1, 1, 1, 1, 1, 1, 1, 0, 1, 0, 0] 20 0 ⟨[(0, ⟨(.list tapiNode), x0⟩), (5, ⟨(.own tapiPair 0), ()⟩), (7, ⟨(.list (.int .i64)), x1⟩), (8, ⟨(.int .i64), x2⟩)], [⟨(.row 84 tapiPair false), x3⟩]⟩ (blockK 0 (seqK false [1, 1, 1, 1, 1, 1, 1, 1] (BF 20 0 [1, 1, 1, 1, 1, 1, 1, 1]) (finF 20 (.list tapiPair) [] 0)))).trans (by kernel_rfl)
theorem ref17_Same.eq (a0 : den (.list tapiNode)) (a1 : den (.int .i64)) (a2 : den (.list tapiNode)) (a3 : den (.int .i64)) : ref17_Same a0 a1 a2 a3 =
  bnd (ref17_Fits a0 a1) fun r0 =>
  br r0
   (bnd (ref17_Fits a2 a3) fun r1 =>
   br r1
    (bnd (ref17_shape a0 a1 a2 a3) fun r2 =>
    some r2)
    (some false))
   (some false) :=
  (callW_eq (P := PP) (T := TT) (pr := RR) 48 [⟨(.list tapiNode), a0⟩, ⟨(.int .i64), a1⟩, ⟨(.list tapiNode), a2⟩, ⟨(.int .i64), a3⟩] [] .bool []).trans (by kernel_rfl)
theorem node_May.eq (a0 : den tapiNode) : node_May a0 =
  bnd (node_formed a0) fun r0 =>
  br (ltI a0.1 (1 : Int))
   (some (11 : Int))
   (br (ltI (6 : Int) a0.1)
    (some (11 : Int))
    (bnd (node_long a0) fun r1 =>
    br r1
     (some (6 : Int))
     (bnd (node_Same a0 (r0.1, (r0.2.1, (r0.2.2.1, (r0.2.2.2.1, (r0.2.2.2.2.1, (r0.2.2.2.2.2.1, (r0.2.2.2.2.2.2.1, (r0.2.2.2.2.2.2.2.1, ((maxI a0.2.2.2.2.2.2.2.2.1 (0 : Int)), ())))))))))) fun r2 =>
     br (notB r2)
      (some (4 : Int))
      (bnd (node_whole a0) fun r3 =>
      br (notB r3)
       (some (4 : Int))
       (some (0 : Int)))))) :=
  (callW_eq (P := PP) (T := TT) (pr := RR) 52 [⟨tapiNode, a0⟩] [] (.int .i64) []).trans (by kernel_rfl)
theorem trie_Is.eq (a0 : den (.list tapiNode)) (a1 : den (.int .i64)) (a2 : den (.int .i64)) : trie_Is a0 a1 a2 =
  bnd (heap_Binds a0 a1) fun r0 =>
  br (notB (eqI r0.2.1 (0 : Int)))
   (some false)
   (bnd (trie_Make a2 r0.1) fun r1 =>
   br (eqI r1.2.2.1 (0 : Int))
    (bnd (heap_Same a0 a1 r1.1 r1.2.1) fun r2 =>
    some r2)
    (some false)) :=
  (callW_eq (P := PP) (T := TT) (pr := RR) 53 [⟨(.list tapiNode), a0⟩, ⟨(.int .i64), a1⟩, ⟨(.int .i64), a2⟩] [] .bool []).trans (by kernel_rfl)
theorem plan_Do.eq (a0 : den (.list tapiNode)) (a1 : den tplanPlan) : plan_Do a0 a1 =
  bnd (plan_May a1) fun r0 =>
  br (notB (eqI r0 (0 : Int)))
   (some ([], ((0 : Int), ((4 : Int), ()))))
   (bnd (heap_May a0) fun r1 =>
   br (notB (eqI r1 (0 : Int)))
    (some ([], ((0 : Int), ((4 : Int), ()))))
    (bnd (plan_fits a0 a1) fun r2 =>
    br (notB r2)
     (some ([], ((0 : Int), ((4 : Int), ()))))
     (plan_Do.l0 a0 (ofN (lenL tapiNode a0)) (0 : Int) a1 []))) :=
  (callW_eq (P := PP) (T := TT) (pr := RR) 54 [⟨(.list tapiNode), a0⟩, ⟨tplanPlan, a1⟩] [] (.tcons (.list tapiNode) (.tcons (.int .i64) (.tcons (.int .i64) .tnil))) []).trans (by kernel_rfl)
theorem plan_Do.l0.eq (x0 : den (.list tapiNode)) (x1 : den (.int .i64)) (x2 : den (.int .i64)) (x3 : denO (.box tplanPlan)) (x4 : denO (.row 58 tapiNode false)) : plan_Do.l0 x0 x1 x2 x3 x4 =
  br (ltI x2 x1)
   (br (andB (leI (0 : Int) x2) (ltI x2 (ofN (lenL tapiNode x0)))) (bnd (node_Copy (ixL tapiNode x0 x2)) fun r0 =>
   br (fitL tapiNode (appL tapiNode x4 ((r0.1.1, (r0.1.2.1, (r0.1.2.2.1, (r0.1.2.2.2.1, (r0.2.1, (r0.1.2.2.2.2.2.1, (r0.2.2.1, r0.1.2.2.2.2.2.2.2))))))) :: []))) (plan_Do.l0 x0 x1 (addI .i64 x2 (1 : Int)) x3 (appL tapiNode x4 ((r0.1.1, (r0.1.2.1, (r0.1.2.2.1, (r0.1.2.2.2.1, (r0.2.1, (r0.1.2.2.2.2.2.1, (r0.2.2.1, r0.1.2.2.2.2.2.2.2))))))) :: []))) none) none)
   (plan_Do.l1 x3.1 (ofN (lenL tapiNode x3.1)) (0 : Int) x3 x4 []) :=
  (loopB_eq (P := PP) (T := TT) (C := CF) [1, 1, 1, 0, 1, 0, 0] [1, 1, 1, 0, 1, 0, 0] 54 0 ⟨[(3, ⟨(.ptr 0 0), ()⟩), (7, ⟨(.own tapiNode 1), ()⟩), (31, ⟨(.list tapiNode), x0⟩), (32, ⟨(.int .i64), x1⟩), (33, ⟨(.int .i64), x2⟩)], [⟨(.box tplanPlan), x3⟩, ⟨(.row 58 tapiNode false), x4⟩]⟩ (blockK 0 (seqK false [1, 1, 1, 1] (BF 54 0 [1, 1, 1, 1]) (finF 54 (.tcons (.list tapiNode) (.tcons (.int .i64) (.tcons (.int .i64) .tnil))) [] 0)))).trans (by kernel_rfl)
theorem plan_Do.l1.eq (x0 : den (.list tapiNode)) (x1 : den (.int .i64)) (x2 : den (.int .i64)) (x3 : denO (.box tplanPlan)) (x4 : denO (.row 58 tapiNode false)) (x5 : denO (.row 24 (.int .i64) false)) : plan_Do.l1 x0 x1 x2 x3 x4 x5 =
  br (ltI x2 x1)
   (br (andB (leI (0 : Int) x2) (ltI x2 (ofN (lenL tapiNode x0)))) (bnd (plan_Fill_o (ixL tapiNode x0 x2) x5) fun r0 =>
   br (fitL tapiNode (appL tapiNode x4 (r0.1.1 :: []))) (br (fitL (.int .i64) (appL (.int .i64) r0.2.1 ((ofN (lenL tapiNode (appL tapiNode x4 (r0.1.1 :: [])))) :: []))) (plan_Do.l1 x0 x1 (addI .i64 x2 (1 : Int)) x3 (appL tapiNode x4 (r0.1.1 :: [])) (appL (.int .i64) r0.2.1 ((ofN (lenL tapiNode (appL tapiNode x4 (r0.1.1 :: [])))) :: []))) none) none) none)
   (bnd (plan_Ref x3.2.1 x5) fun r1 =>
   some (x4, r1)) :=
  (loopB_eq (P := PP) (T := TT) (C := CF) [1, 1, 1, 1, 1, 0, 1, 0, 0] [1, 1, 1, 1, 1, 0, 1, 0, 0] 54 0 ⟨[(3, ⟨(.ptr 0 0), ()⟩), (7, ⟨(.own tapiNode 1), ()⟩), (10, ⟨(.own (.int .i64) 2), ()⟩), (44, ⟨(.list tapiNode), x0⟩), (45, ⟨(.int .i64), x1⟩), (46, ⟨(.int .i64), x2⟩)], [⟨(.box tplanPlan), x3⟩, ⟨(.row 58 tapiNode false), x4⟩, ⟨(.row 24 (.int .i64) false), x5⟩]⟩ (blockK 2 (seqK false [1, 1, 1, 1, 1, 1] (BF 54 0 [1, 1, 1, 1, 1, 1]) (finF 54 (.tcons (.list tapiNode) (.tcons (.int .i64) (.tcons (.int .i64) .tnil))) [] 0)))).trans (by kernel_rfl)
theorem hash_Levels.eq (a0 : den (.int .i64)) : hash_Levels a0 =
  bnd (hash_within a0) fun r0 =>
  br (notB (eqI (5 : Int) (0 : Int))) (some (quoI .i64 (subI .i64 (addI .i64 r0 (5 : Int)) (1 : Int)) (5 : Int))) none :=
  (callW_eq (P := PP) (T := TT) (pr := RR) 72 [⟨(.int .i64), a0⟩] [] (.int .i64) []).trans (by kernel_rfl)
theorem hash_Chunk.eq (a0 : den (.int .u64)) (a1 : den (.int .i64)) (a2 : den (.int .i64)) : hash_Chunk a0 a1 a2 =
  br (ltI a1 (0 : Int))
   (some (0 : Int))
   (bnd (hash_Levels a2) fun r0 =>
   br (leI r0 a1)
    (some (0 : Int))
    (bnd (hash_cut a0 a2) fun r1 =>
    br (leI (0 : Int) (mulI .i64 (5 : Int) a1)) (some (wrapI .i64 (andI .u64 (shrI .u64 r1 (mulI .i64 (5 : Int) a1)) (31 : Int)))) none)) :=
  (callW_eq (P := PP) (T := TT) (pr := RR) 73 [⟨(.int .u64), a0⟩, ⟨(.int .i64), a1⟩, ⟨(.int .i64), a2⟩] [] (.int .i64) []).trans (by kernel_rfl)
theorem branch_Child.eq (a0 : den tapiNode) (a1 : den (.int .i64)) : branch_Child a0 a1 =
  bnd (branch_branch a0) fun r0 =>
  bnd (mask_Has r0.1.2.2.2.1 a1) fun r1 =>
  br (notB r1)
   (some (0 : Int))
   (bnd (mask_Place r0.1.2.2.2.1 a1) fun r2 =>
   br (andB (leI (0 : Int) r2) (ltI r2 (ofN (lenL (.int .i64) r0.2.1)))) (some (ixL (.int .i64) r0.2.1 r2)) none) :=
  (callW_eq (P := PP) (T := TT) (pr := RR) 74 [⟨tapiNode, a0⟩, ⟨(.int .i64), a1⟩] [] (.int .i64) []).trans (by kernel_rfl)
theorem ref20_make1.eq (a0 : den (.int .i64)) (a1 : den (.list tapiPair)) (a2 : den (.int .i64)) (a3 : denO (.row 58 tapiNode true)) : ref20_make1 a0 a1 a2 a3 =
  br (eqI (ofN (lenL tapiPair a1)) (0 : Int))
   (some (((), ((0 : Int), ())), (a3, ())))
   (br (eqI (ofN (lenL tapiPair a1)) (1 : Int))
    (br (andB (leI (0 : Int) (0 : Int)) (ltI (0 : Int) (ofN (lenL tapiPair a1)))) (br (andB (leI (0 : Int) (0 : Int)) (ltI (0 : Int) (ofN (lenL tapiPair a1)))) (both
     (br (fitL tapiNode (appL tapiNode a3 (((1 : Int), ((ixL tapiPair a1 (0 : Int)).1, ((ixL tapiPair a1 (0 : Int)).2.1, ((0 : Int), ([], ((0 : Int), ([], ((1 : Int), ((0 : Int), ()))))))))) :: []))) (some (((), ((ofN (lenL tapiNode (appL tapiNode a3 (((1 : Int), ((ixL tapiPair a1 (0 : Int)).1, ((ixL tapiPair a1 (0 : Int)).2.1, ((0 : Int), ([], ((0 : Int), ([], ((1 : Int), ((0 : Int), ()))))))))) :: [])))), ())), ((appL tapiNode a3 (((1 : Int), ((ixL tapiPair a1 (0 : Int)).1, ((ixL tapiPair a1 (0 : Int)).2.1, ((0 : Int), ([], ((0 : Int), ([], ((1 : Int), ((0 : Int), ()))))))))) :: [])), ()))) none)
     (br (fitL tapiNode (appL tapiNode a3 (((1 : Int), ((ixL tapiPair a1 (0 : Int)).1, ((ixL tapiPair a1 (0 : Int)).2.1, ((0 : Int), ([], ((0 : Int), ([], ((1 : Int), ((0 : Int), ()))))))))) :: []))) (some (((), ((ofN (lenL tapiNode (appL tapiNode a3 (((1 : Int), ((ixL tapiPair a1 (0 : Int)).1, ((ixL tapiPair a1 (0 : Int)).2.1, ((0 : Int), ([], ((0 : Int), ([], ((1 : Int), ((0 : Int), ()))))))))) :: [])))), ())), ((appL tapiNode a3 (((1 : Int), ((ixL tapiPair a1 (0 : Int)).1, ((ixL tapiPair a1 (0 : Int)).2.1, ((0 : Int), ([], ((0 : Int), ([], ((1 : Int), ((0 : Int), ()))))))))) :: [])), ()))) none)) none) none)
    (bnd (ref04_Levels a0) fun r0 =>
    br (leI r0 a2)
     (br (fitL tapiNode (appL tapiNode a3 (((3 : Int), (ByteArray.empty, (ByteArray.empty, ((0 : Int), ([], ((0 : Int), (a1, ((ofN (lenL tapiPair a1)), ((0 : Int), ()))))))))) :: []))) (some (((), ((ofN (lenL tapiNode (appL tapiNode a3 (((3 : Int), (ByteArray.empty, (ByteArray.empty, ((0 : Int), ([], ((0 : Int), (a1, ((ofN (lenL tapiPair a1)), ((0 : Int), ()))))))))) :: [])))), ())), ((appL tapiNode a3 (((3 : Int), (ByteArray.empty, (ByteArray.empty, ((0 : Int), ([], ((0 : Int), (a1, ((ofN (lenL tapiPair a1)), ((0 : Int), ()))))))))) :: [])), ()))) none)
     (ref20_make1.l0 a0 a1 a2 (1 : Int) (0 : Int) a3 ((2 : Int), (ByteArray.empty, (ByteArray.empty, ((0 : Int), ((), ((0 : Int), ((), ((ofN (lenL tapiPair a1)), ((0 : Int), ())))))))))))) :=
  (callW_eq (P := PP) (T := TT) (pr := RR) 88 [⟨(.own tapiNode 0), ()⟩, ⟨(.int .i64), a0⟩, ⟨(.list tapiPair), a1⟩, ⟨(.int .i64), a2⟩] [⟨(.row 58 tapiNode true), a3⟩] (.tcons (.own tapiNode 0) (.tcons (.int .i64) .tnil)) [(.row 58 tapiNode false)]).trans (by kernel_rfl)
theorem ref20_make1.l0.eq (x0 : den (.int .i64)) (x1 : den (.list tapiPair)) (x2 : den (.int .i64)) (x3 : den (.int .u32)) (x4 : den (.int .i64)) (x5 : denO (.row 58 tapiNode true)) (x6 : denO (.box (.pair (.int .i64) (.pair .str (.pair .str (.pair (.int .u32) (.pair (.nil 24) (.pair (.int .i64) (.pair (.nil 84) (.pair (.int .i64) (.pair (.int .i64) .unit))))))))))) : ref20_make1.l0 x0 x1 x2 x3 x4 x5 x6 =
  br (ltI x4 (32 : Int))
   (ref20_make1.l1 x0 x1 x2 x3 x4 (0 : Int) x5 x6 [])
   (br (fitL tapiNode (appL tapiNode x5 ((x6.1, (x6.2.1, (x6.2.2.1, (x6.2.2.2.1, ([], (x6.2.2.2.2.2.1, ([], x6.2.2.2.2.2.2.2))))))) :: []))) (some (((), ((ofN (lenL tapiNode (appL tapiNode x5 ((x6.1, (x6.2.1, (x6.2.2.1, (x6.2.2.2.1, ([], (x6.2.2.2.2.2.1, ([], x6.2.2.2.2.2.2.2))))))) :: [])))), ())), ((appL tapiNode x5 ((x6.1, (x6.2.1, (x6.2.2.1, (x6.2.2.2.1, ([], (x6.2.2.2.2.2.1, ([], x6.2.2.2.2.2.2.2))))))) :: [])), ()))) none) :=
  (loopB_eq (P := PP) (T := TT) (C := CF) [1, 1, 1, 0, 1, 1, 1, 1, 1, 1, 1, 0, 0] [1, 1, 1, 0, 1, 1, 1, 1, 1, 1, 1, 0, 0] 88 1 ⟨[(0, ⟨(.own tapiNode 0), ()⟩), (1, ⟨(.int .i64), x0⟩), (2, ⟨(.list tapiPair), x1⟩), (3, ⟨(.int .i64), x2⟩), (10, ⟨(.ptr 1 0), ()⟩), (11, ⟨(.int .u32), x3⟩), (12, ⟨(.int .i64), x4⟩)], [⟨(.row 58 tapiNode true), x5⟩, ⟨(.box (.pair (.int .i64) (.pair .str (.pair .str (.pair (.int .u32) (.pair (.nil 24) (.pair (.int .i64) (.pair (.nil 84) (.pair (.int .i64) (.pair (.int .i64) .unit)))))))))), x6⟩]⟩ (blockK 0 (seqK false [1, 1, 1, 1] (BF 88 1 [1, 1, 1, 1]) (finF 88 (.tcons (.own tapiNode 0) (.tcons (.int .i64) .tnil)) [(.row 58 tapiNode false)] 1)))).trans (by kernel_rfl)
theorem ref20_make1.l1.eq (x0 : den (.int .i64)) (x1 : den (.list tapiPair)) (x2 : den (.int .i64)) (x3 : den (.int .u32)) (x4 : den (.int .i64)) (x5 : den (.int .i64)) (x6 : denO (.row 58 tapiNode true)) (x7 : denO (.box (.pair (.int .i64) (.pair .str (.pair .str (.pair (.int .u32) (.pair (.nil 24) (.pair (.int .i64) (.pair (.nil 84) (.pair (.int .i64) (.pair (.int .i64) .unit))))))))))) (x8 : denO (.row 84 tapiPair false)) : ref20_make1.l1 x0 x1 x2 x3 x4 x5 x6 x7 x8 =
  br (ltI x5 (ofN (lenL tapiPair x1)))
   (br (andB (leI (0 : Int) x5) (ltI x5 (ofN (lenL tapiPair x1)))) (bnd (ref20_chunk (ixL tapiPair x1 x5).1 x2 x0) fun r0 =>
   br (eqI r0 x4)
    (br (andB (leI (0 : Int) x5) (ltI x5 (ofN (lenL tapiPair x1)))) (br (fitL tapiPair (appL tapiPair x8 ((ixL tapiPair x1 x5) :: []))) (ref20_make1.l1 x0 x1 x2 x3 x4 (addI .i64 x5 (1 : Int)) x6 x7 (appL tapiPair x8 ((ixL tapiPair x1 x5) :: []))) none) none)
    (ref20_make1.l1 x0 x1 x2 x3 x4 (addI .i64 x5 (1 : Int)) x6 x7 x8)) none)
   (br (ltI (0 : Int) (ofN (lenL tapiPair x8)))
    (bnd (ref20_make1 x0 x8 (addI .i64 x2 (1 : Int)) x6) fun r1 =>
    br (fitL (.int .i64) (r1.1.2.1 :: [])) (ref20_make1.l2 x0 x1 x2 (mulI .u32 (2 : Int) x3) (addI .i64 x4 (1 : Int)) r1.2.1 (x7.1, (x7.2.1, (x7.2.2.1, ((addI .u32 x7.2.2.2.1 x3), x7.2.2.2.2)))) (r1.1.2.1 :: [])) none)
    (ref20_make1.l0 x0 x1 x2 (mulI .u32 (2 : Int) x3) (addI .i64 x4 (1 : Int)) x6 x7)) :=
  (loopB_eq (P := PP) (T := TT) (C := CF) [1, 1, 1, 0, 1, 1, 1, 1, 1, 1, 1, 0, 0, 1, 0, 0, 1, 0, 1, 0, 0] [1, 1, 1, 0, 1, 1, 1, 1, 1, 1, 1, 0, 0, 1, 0, 0, 1, 0, 1, 0, 0] 88 1 ⟨[(0, ⟨(.own tapiNode 0), ()⟩), (1, ⟨(.int .i64), x0⟩), (2, ⟨(.list tapiPair), x1⟩), (3, ⟨(.int .i64), x2⟩), (10, ⟨(.ptr 1 0), ()⟩), (11, ⟨(.int .u32), x3⟩), (12, ⟨(.int .i64), x4⟩), (13, ⟨(.own tapiPair 2), ()⟩), (14, ⟨(.int .i64), x5⟩)], [⟨(.row 58 tapiNode true), x6⟩, ⟨(.box (.pair (.int .i64) (.pair .str (.pair .str (.pair (.int .u32) (.pair (.nil 24) (.pair (.int .i64) (.pair (.nil 84) (.pair (.int .i64) (.pair (.int .i64) .unit)))))))))), x7⟩, ⟨(.row 84 tapiPair false), x8⟩]⟩ (blockK 2 (seqK false [1, 1, 1, 0, 1, 1, 1, 1, 1, 1, 1, 0, 0, 1, 0, 0, 1, 1] (BF 88 1 [1, 1, 1, 0, 1, 1, 1, 1, 1, 1, 1, 0, 0, 1, 0, 0, 1, 1]) (blockK 1 (seqK false [1, 1, 1, 0, 1, 1, 1, 1, 1, 1, 1, 0, 0, 1, 1] (BF 88 1 [1, 1, 1, 0, 1, 1, 1, 1, 1, 1, 1, 0, 0, 1, 1]) (againK [1, 1, 1, 0, 1, 1, 1, 1, 1, 1, 1, 0, 0] (loopW [1, 1, 1, 0, 1, 1, 1, 1, 1, 1, 1, 0, 0] (BF 88 1 [1, 1, 1, 0, 1, 1, 1, 1, 1, 1, 1, 0, 0])) (blockK 0 (seqK false [1, 1, 1, 1] (BF 88 1 [1, 1, 1, 1]) (finF 88 (.tcons (.own tapiNode 0) (.tcons (.int .i64) .tnil)) [(.row 58 tapiNode false)] 1))))))))).trans (by kernel_rfl)
theorem ref20_make1.l2.eq (x0 : den (.int .i64)) (x1 : den (.list tapiPair)) (x2 : den (.int .i64)) (x3 : den (.int .u32)) (x4 : den (.int .i64)) (x5 : denO (.row 58 tapiNode false)) (x6 : denO (.box (.pair (.int .i64) (.pair .str (.pair .str (.pair (.int .u32) (.pair (.own (.int .i64) 2) (.pair (.int .i64) (.pair (.nil 84) (.pair (.int .i64) (.pair (.int .i64) .unit))))))))))) (x7 : denO (.row 24 (.int .i64) false)) : ref20_make1.l2 x0 x1 x2 x3 x4 x5 x6 x7 =
  br (ltI x4 (32 : Int))
   (ref20_make1.l3 x0 x1 x2 x3 x4 (0 : Int) x5 x6 [] x7)
   (br (fitL tapiNode (appL tapiNode x5 ((x6.1, (x6.2.1, (x6.2.2.1, (x6.2.2.2.1, (x7, (x6.2.2.2.2.2.1, ([], x6.2.2.2.2.2.2.2))))))) :: []))) (some (((), ((ofN (lenL tapiNode (appL tapiNode x5 ((x6.1, (x6.2.1, (x6.2.2.1, (x6.2.2.2.1, (x7, (x6.2.2.2.2.2.1, ([], x6.2.2.2.2.2.2.2))))))) :: [])))), ())), ((appL tapiNode x5 ((x6.1, (x6.2.1, (x6.2.2.1, (x6.2.2.2.1, (x7, (x6.2.2.2.2.2.1, ([], x6.2.2.2.2.2.2.2))))))) :: [])), ()))) none) :=
  (loopB_eq (P := PP) (T := TT) (C := CF) [1, 1, 1, 0, 1, 1, 1, 1, 1, 1, 1, 0, 0] [1, 1, 1, 0, 1, 1, 1, 1, 1, 1, 1, 0, 0] 88 1 ⟨[(0, ⟨(.own tapiNode 0), ()⟩), (1, ⟨(.int .i64), x0⟩), (2, ⟨(.list tapiPair), x1⟩), (3, ⟨(.int .i64), x2⟩), (10, ⟨(.ptr 1 0), ()⟩), (11, ⟨(.int .u32), x3⟩), (12, ⟨(.int .i64), x4⟩)], [⟨(.row 58 tapiNode false), x5⟩, ⟨(.box (.pair (.int .i64) (.pair .str (.pair .str (.pair (.int .u32) (.pair (.own (.int .i64) 2) (.pair (.int .i64) (.pair (.nil 84) (.pair (.int .i64) (.pair (.int .i64) .unit)))))))))), x6⟩, ⟨(.row 24 (.int .i64) false), x7⟩]⟩ (blockK 0 (seqK false [1, 1, 1, 1] (BF 88 1 [1, 1, 1, 1]) (finF 88 (.tcons (.own tapiNode 0) (.tcons (.int .i64) .tnil)) [(.row 58 tapiNode false)] 1)))).trans (by kernel_rfl)
theorem ref20_make1.l3.eq (x0 : den (.int .i64)) (x1 : den (.list tapiPair)) (x2 : den (.int .i64)) (x3 : den (.int .u32)) (x4 : den (.int .i64)) (x5 : den (.int .i64)) (x6 : denO (.row 58 tapiNode false)) (x7 : denO (.box (.pair (.int .i64) (.pair .str (.pair .str (.pair (.int .u32) (.pair (.own (.int .i64) 3) (.pair (.int .i64) (.pair (.nil 84) (.pair (.int .i64) (.pair (.int .i64) .unit))))))))))) (x8 : denO (.row 84 tapiPair false)) (x9 : denO (.row 24 (.int .i64) false)) : ref20_make1.l3 x0 x1 x2 x3 x4 x5 x6 x7 x8 x9 =
  br (ltI x5 (ofN (lenL tapiPair x1)))
   (br (andB (leI (0 : Int) x5) (ltI x5 (ofN (lenL tapiPair x1)))) (bnd (ref20_chunk (ixL tapiPair x1 x5).1 x2 x0) fun r0 =>
   br (eqI r0 x4)
    (br (andB (leI (0 : Int) x5) (ltI x5 (ofN (lenL tapiPair x1)))) (br (fitL tapiPair (appL tapiPair x8 ((ixL tapiPair x1 x5) :: []))) (ref20_make1.l3 x0 x1 x2 x3 x4 (addI .i64 x5 (1 : Int)) x6 x7 (appL tapiPair x8 ((ixL tapiPair x1 x5) :: [])) x9) none) none)
    (ref20_make1.l3 x0 x1 x2 x3 x4 (addI .i64 x5 (1 : Int)) x6 x7 x8 x9)) none)
   (br (ltI (0 : Int) (ofN (lenL tapiPair x8)))
    (bnd (ref20_make1 x0 x8 (addI .i64 x2 (1 : Int)) x6) fun r1 =>
    br (fitL (.int .i64) (appL (.int .i64) x9 (r1.1.2.1 :: []))) (ref20_make1.l2 x0 x1 x2 (mulI .u32 (2 : Int) x3) (addI .i64 x4 (1 : Int)) r1.2.1 (x7.1, (x7.2.1, (x7.2.2.1, ((addI .u32 x7.2.2.2.1 x3), x7.2.2.2.2)))) (appL (.int .i64) x9 (r1.1.2.1 :: []))) none)
    (ref20_make1.l2 x0 x1 x2 (mulI .u32 (2 : Int) x3) (addI .i64 x4 (1 : Int)) x6 x7 x9)) :=
  (loopB_eq (P := PP) (T := TT) (C := CF) [1, 1, 1, 0, 1, 1, 1, 1, 1, 1, 1, 0, 0, 1, 0, 0, 1, 0, 1, 0, 0] [1, 1, 1, 0, 1, 1, 1, 1, 1, 1, 1, 0, 0, 1, 0, 0, 1, 0, 1, 0, 0] 88 1 ⟨[(0, ⟨(.own tapiNode 0), ()⟩), (1, ⟨(.int .i64), x0⟩), (2, ⟨(.list tapiPair), x1⟩), (3, ⟨(.int .i64), x2⟩), (10, ⟨(.ptr 1 0), ()⟩), (11, ⟨(.int .u32), x3⟩), (12, ⟨(.int .i64), x4⟩), (13, ⟨(.own tapiPair 2), ()⟩), (14, ⟨(.int .i64), x5⟩)], [⟨(.row 58 tapiNode false), x6⟩, ⟨(.box (.pair (.int .i64) (.pair .str (.pair .str (.pair (.int .u32) (.pair (.own (.int .i64) 3) (.pair (.int .i64) (.pair (.nil 84) (.pair (.int .i64) (.pair (.int .i64) .unit)))))))))), x7⟩, ⟨(.row 84 tapiPair false), x8⟩, ⟨(.row 24 (.int .i64) false), x9⟩]⟩ (blockK 2 (seqK false [1, 1, 1, 0, 1, 1, 1, 1, 1, 1, 1, 0, 0, 1, 0, 0, 1, 1] (BF 88 1 [1, 1, 1, 0, 1, 1, 1, 1, 1, 1, 1, 0, 0, 1, 0, 0, 1, 1]) (blockK 1 (seqK false [1, 1, 1, 0, 1, 1, 1, 1, 1, 1, 1, 0, 0, 1, 1] (BF 88 1 [1, 1, 1, 0, 1, 1, 1, 1, 1, 1, 1, 0, 0, 1, 1]) (againK [1, 1, 1, 0, 1, 1, 1, 1, 1, 1, 1, 0, 0] (loopW [1, 1, 1, 0, 1, 1, 1, 1, 1, 1, 1, 0, 0] (BF 88 1 [1, 1, 1, 0, 1, 1, 1, 1, 1, 1, 1, 0, 0])) (blockK 0 (seqK false [1, 1, 1, 1] (BF 88 1 [1, 1, 1, 1]) (finF 88 (.tcons (.own tapiNode 0) (.tcons (.int .i64) .tnil)) [(.row 58 tapiNode false)] 1))))))))).trans (by kernel_rfl)
theorem ref07_last.eq (a0 : den (.list tapiPair)) (a1 : den (.int .i64)) : ref07_last a0 a1 =
  ref07_last.l0 a0 a1 (addI .i64 a1 (1 : Int)) :=
  (callW_eq (P := PP) (T := TT) (pr := RR) 57 [⟨(.list tapiPair), a0⟩, ⟨(.int .i64), a1⟩] [] .bool []).trans (by kernel_rfl)
theorem ref07_last.l0.eq (x0 : den (.list tapiPair)) (x1 : den (.int .i64)) (x2 : den (.int .i64)) : ref07_last.l0 x0 x1 x2 =
  br (ltI x2 (ofN (lenL tapiPair x0)))
   (br (andB (leI (0 : Int) x2) (ltI x2 (ofN (lenL tapiPair x0)))) (br (andB (leI (0 : Int) x1) (ltI x1 (ofN (lenL tapiPair x0)))) (br (eqS (ixL tapiPair x0 x2).1 (ixL tapiPair x0 x1).1)
    (some false)
    (ref07_last.l0 x0 x1 (addI .i64 x2 (1 : Int)))) none) none)
   (some true) :=
  (loopB_eq (P := PP) (T := TT) (C := CF) [1, 0, 1, 0, 0] [1, 0, 1, 0, 0] 57 0 ⟨[(0, ⟨(.list tapiPair), x0⟩), (1, ⟨(.int .i64), x1⟩), (5, ⟨(.int .i64), x2⟩)], []⟩ (blockK 0 (seqK false [1, 1] (BF 57 0 [1, 1]) (finF 57 .bool [] 0)))).trans (by kernel_rfl)
theorem ref01_Less.eq (a0 : den .str) (a1 : den .str) : ref01_Less a0 a1 =
  ref01_Less.l0 a0 a1 (0 : Int) :=
  (callW_eq (P := PP) (T := TT) (pr := RR) 58 [⟨.str, a0⟩, ⟨.str, a1⟩] [] .bool []).trans (by kernel_rfl)
theorem ref01_Less.l0.eq (x0 : den .str) (x1 : den .str) (x2 : den (.int .i64)) : ref01_Less.l0 x0 x1 x2 =
  br (ltI x2 (ofN (lenS x0)))
   (ref01_Less.j1 x0 x1 x2 (ltI x2 (ofN (lenS x1))))
   (ref01_Less.j1 x0 x1 x2 false) :=
  (loopB_eq (P := PP) (T := TT) (C := CF) [1, 0, 1, 0, 0] [1, 0, 1, 0, 0] 58 0 ⟨[(0, ⟨.str, x0⟩), (1, ⟨.str, x1⟩), (5, ⟨(.int .i64), x2⟩)], []⟩ (blockK 0 (seqK false [1, 1] (BF 58 0 [1, 1]) (finF 58 .bool [] 0)))).trans (by kernel_rfl)
theorem ref01_Less.j1.eq (x0 : den .str) (x1 : den .str) (x2 : den (.int .i64)) (x3 : den .bool) : ref01_Less.j1 x0 x1 x2 x3 =
  br x3
   (br (andB (leI (0 : Int) x2) (ltI x2 (ofN (lenS x0)))) (br (andB (leI (0 : Int) x2) (ltI x2 (ofN (lenS x1)))) (br (notB (eqI (getS x0 (toN x2)) (getS x1 (toN x2))))
    (br (andB (leI (0 : Int) x2) (ltI x2 (ofN (lenS x0)))) (br (andB (leI (0 : Int) x2) (ltI x2 (ofN (lenS x1)))) (some (ltI (getS x0 (toN x2)) (getS x1 (toN x2)))) none) none)
    (ref01_Less.l0 x0 x1 (addI .i64 x2 (1 : Int)))) none) none)
   (some (ltI (ofN (lenS x0)) (ofN (lenS x1)))) :=
  (congrFun (congrFun (jnO_eq [1, 0, 1, 0, 0, 0, 1] (BF (R := den .bool) 58 0 [1, 0, 1, 0, 0, 0, 1])) ⟨[(0, ⟨.str, x0⟩), (1, ⟨.str, x1⟩), (5, ⟨(.int .i64), x2⟩), (15, ⟨.bool, x3⟩)], []⟩) (seqK false [1, 0, 1, 0, 0, 1] (BF 58 0 [1, 0, 1, 0, 0, 1]) (againK [1, 0, 1, 0, 0] (loopW [1, 0, 1, 0, 0] (BF 58 0 [1, 0, 1, 0, 0])) (blockK 0 (seqK false [1, 1] (BF 58 0 [1, 1]) (finF 58 .bool [] 0)))))).trans (by kernel_rfl)
theorem hash_cut.eq (a0 : den (.int .u64)) (a1 : den (.int .i64)) : hash_cut a0 a1 =
  bnd (hash_within a1) fun r0 =>
  br (eqI r0 (64 : Int))
   (some a0)
   (bnd (hash_within a1) fun r1 =>
   br (leI (0 : Int) r1) (some (andI .u64 a0 (subI .u64 (shlI .u64 (1 : Int) r1) (1 : Int)))) none) :=
  (callW_eq (P := PP) (T := TT) (pr := RR) 103 [⟨(.int .u64), a0⟩, ⟨(.int .i64), a1⟩] [] (.int .u64) []).trans (by kernel_rfl)
theorem graft_Graft_changes.eq (a0 : denO (.box tgraftGraftO)) (a1 : denO (.row 104 tgraftstep true)) : graft_Graft_changes a0 a1 =
  br (notB (eqI a0.2.2.2.2.2.2.1 (0 : Int)))
   (some (false, (a0, (a1, ()))))
   (bnd (graft_Graft_bound a0 a1) fun r0 =>
   br (eqI r0.2.1.1 (1 : Int))
    (some (true, (r0.2.1, (r0.2.2.1, ()))))
    (br (eqI r0.2.1.1 (2 : Int))
     (some ((notB r0.1.2.1), (r0.2.1, (r0.2.2.1, ()))))
     (br (eqI r0.2.1.1 (3 : Int))
      (br r0.1.2.1
       (some ((eqS r0.1.1 r0.2.1.2.2.2.1), (r0.2.1, (r0.2.2.1, ()))))
       (some (false, (r0.2.1, (r0.2.2.1, ())))))
      (some (false, (r0.2.1, (r0.2.2.1, ()))))))) :=
  (callW_eq (P := PP) (T := TT) (pr := RR) 66 [⟨(.ptr 0 0), ()⟩] [⟨(.box tgraftGraftO), a0⟩, ⟨(.row 104 tgraftstep true), a1⟩] .bool [(.box tgraftGraftO), (.row 104 tgraftstep true)]).trans (by kernel_rfl)
theorem node_Binds.eq (a0 : den tapiNode) : node_Binds a0 =
  br (eqI a0.1 (1 : Int))
   (some ((), (((a0.2.1, (a0.2.2.1, ())) :: []), ())))
   (br (eqI a0.1 (6 : Int))
    (some ((), (((a0.2.1, (a0.2.2.1, ())) :: []), ())))
    (br (eqI a0.1 (4 : Int))
     (some ((), (((a0.2.1, (a0.2.2.1, ())) :: []), ())))
     (br (eqI a0.1 (3 : Int))
      (bnd (slices_Cloneapi_Pair_api_Pair a0.2.2.2.2.2.2.1) fun r0 =>
      some ((), (r0.2.1, ())))
      (some ((), ([], ())))))) :=
  (callW_eq (P := PP) (T := TT) (pr := RR) 82 [⟨tapiNode, a0⟩] [] (.own tapiPair 0) [(.row 84 tapiPair false)]).trans (by kernel_rfl)
theorem pair_Get.eq (a0 : den (.list tapiPair)) (a1 : den .str) : pair_Get a0 a1 =
  bnd (pair_ordered a0) fun r0 =>
  bnd (pair_place r0 a1) fun r1 =>
  br (notB r1.2.1)
   (some (ByteArray.empty, (false, ())))
   (br (andB (leI (0 : Int) r1.1) (ltI r1.1 (ofN (lenL tapiPair r0)))) (some ((ixL tapiPair r0 r1.1).2.1, (true, ()))) none) :=
  (callW_eq (P := PP) (T := TT) (pr := RR) 81 [⟨(.list tapiPair), a0⟩, ⟨.str, a1⟩] [] (.tcons .str (.tcons .bool .tnil)) []).trans (by kernel_rfl)
end Go.Proofs.YtjekopgcpikkiaaGreatDoor.AK
set_option maxRecDepth 100000
set_option linter.unusedVariables false
namespace Go.Proofs.YtjekopgcpikkiaaGreatDoor.AK
open Go.Abs
theorem graft_Graft_two.eq (a0 : den (.pair (.own tapiNode 1) (.pair (.int .i64) (.pair (.own (.int .i64) 2) .unit)))) (a1 : den (.int .i64)) (a2 : denO (.box tgraftGraft)) (a3 : denO (.row 58 tapiNode true)) (a4 : denO (.row 24 (.int .i64) true)) : graft_Graft_two a0 a1 a2 a3 a4 =
  bnd (hash_Levels a2.2.2.2.2.1) fun r0 =>
  br (leI r0 a1)
   (both
    (bnd (node_Binds a2.2.2.2.2.2.2.2.2.2) fun r1 =>
    both
     (both
      (br (fitL tapiPair (appL tapiPair r1.2.1 ((a2.2.1, (a2.2.2.1, ())) :: []))) (both
       (bnd (node_Bucket (appL tapiPair r1.2.1 ((a2.2.1, (a2.2.2.1, ())) :: []))) fun r2 =>
       both
        (bnd (plan_Add ((), (a0.2.1, ((), ()))) r2 a3 a4) fun r3 =>
        some ((((), (r3.1.1.2.1, ((), ()))), (r3.1.2.1, (false, ()))), (a2, (r3.2.2.2.1, (r3.2.2.1, ())))))
        (bnd (plan_Add ((), (a0.2.1, ((), ()))) r2 a3 a4) fun r4 =>
        some ((((), (r4.1.1.2.1, ((), ()))), (r4.1.2.1, (false, ()))), (a2, (r4.2.2.2.1, (r4.2.2.1, ()))))))
       (bnd (node_Bucket (appL tapiPair r1.2.1 ((a2.2.1, (a2.2.2.1, ())) :: []))) fun r5 =>
       bnd (plan_Add ((), (a0.2.1, ((), ()))) r5 a3 a4) fun r6 =>
       some ((((), (r6.1.1.2.1, ((), ()))), (r6.1.2.1, (false, ()))), (a2, (r6.2.2.2.1, (r6.2.2.1, ())))))) none)
      (br (fitL tapiPair (appL tapiPair r1.2.1 ((a2.2.1, (a2.2.2.1, ())) :: []))) (bnd (node_Bucket (appL tapiPair r1.2.1 ((a2.2.1, (a2.2.2.1, ())) :: []))) fun r7 =>
      bnd (plan_Add ((), (a0.2.1, ((), ()))) r7 a3 a4) fun r8 =>
      some ((((), (r8.1.1.2.1, ((), ()))), (r8.1.2.1, (false, ()))), (a2, (r8.2.2.2.1, (r8.2.2.1, ()))))) none))
     (br (fitL tapiPair (appL tapiPair r1.2.1 ((a2.2.1, (a2.2.2.1, ())) :: []))) (bnd (node_Bucket (appL tapiPair r1.2.1 ((a2.2.1, (a2.2.2.1, ())) :: []))) fun r9 =>
     bnd (plan_Add ((), (a0.2.1, ((), ()))) r9 a3 a4) fun r10 =>
     some ((((), (r10.1.1.2.1, ((), ()))), (r10.1.2.1, (false, ()))), (a2, (r10.2.2.2.1, (r10.2.2.1, ()))))) none))
    (both
     (both
      (bnd (node_Binds a2.2.2.2.2.2.2.2.2.2) fun r11 =>
      both
       (br (fitL tapiPair (appL tapiPair r11.2.1 ((a2.2.1, (a2.2.2.1, ())) :: []))) (both
        (bnd (node_Bucket (appL tapiPair r11.2.1 ((a2.2.1, (a2.2.2.1, ())) :: []))) fun r12 =>
        both
         (bnd (plan_Add ((), (a0.2.1, ((), ()))) r12 a3 a4) fun r13 =>
         some ((((), (r13.1.1.2.1, ((), ()))), (r13.1.2.1, (false, ()))), (a2, (r13.2.2.2.1, (r13.2.2.1, ())))))
         (bnd (plan_Add ((), (a0.2.1, ((), ()))) r12 a3 a4) fun r14 =>
         some ((((), (r14.1.1.2.1, ((), ()))), (r14.1.2.1, (false, ()))), (a2, (r14.2.2.2.1, (r14.2.2.1, ()))))))
        (bnd (node_Bucket (appL tapiPair r11.2.1 ((a2.2.1, (a2.2.2.1, ())) :: []))) fun r15 =>
        bnd (plan_Add ((), (a0.2.1, ((), ()))) r15 a3 a4) fun r16 =>
        some ((((), (r16.1.1.2.1, ((), ()))), (r16.1.2.1, (false, ()))), (a2, (r16.2.2.2.1, (r16.2.2.1, ())))))) none)
       (br (fitL tapiPair (appL tapiPair r11.2.1 ((a2.2.1, (a2.2.2.1, ())) :: []))) (bnd (node_Bucket (appL tapiPair r11.2.1 ((a2.2.1, (a2.2.2.1, ())) :: []))) fun r17 =>
       bnd (plan_Add ((), (a0.2.1, ((), ()))) r17 a3 a4) fun r18 =>
       some ((((), (r18.1.1.2.1, ((), ()))), (r18.1.2.1, (false, ()))), (a2, (r18.2.2.2.1, (r18.2.2.1, ()))))) none))
      (bnd (node_Binds a2.2.2.2.2.2.2.2.2.2) fun r19 =>
      br (fitL tapiPair (appL tapiPair r19.2.1 ((a2.2.1, (a2.2.2.1, ())) :: []))) (bnd (node_Bucket (appL tapiPair r19.2.1 ((a2.2.1, (a2.2.2.1, ())) :: []))) fun r20 =>
      bnd (plan_Add ((), (a0.2.1, ((), ()))) r20 a3 a4) fun r21 =>
      some ((((), (r21.1.1.2.1, ((), ()))), (r21.1.2.1, (false, ()))), (a2, (r21.2.2.2.1, (r21.2.2.1, ()))))) none))
     (both
      (bnd (node_Binds a2.2.2.2.2.2.2.2.2.2) fun r22 =>
      br (fitL tapiPair (appL tapiPair r22.2.1 ((a2.2.1, (a2.2.2.1, ())) :: []))) (bnd (node_Bucket (appL tapiPair r22.2.1 ((a2.2.1, (a2.2.2.1, ())) :: []))) fun r23 =>
      bnd (plan_Add ((), (a0.2.1, ((), ()))) r23 a3 a4) fun r24 =>
      some ((((), (r24.1.1.2.1, ((), ()))), (r24.1.2.1, (false, ()))), (a2, (r24.2.2.2.1, (r24.2.2.1, ()))))) none)
      (bnd (node_Binds a2.2.2.2.2.2.2.2.2.2) fun r25 =>
      br (fitL tapiPair (appL tapiPair r25.2.1 ((a2.2.1, (a2.2.2.1, ())) :: []))) (bnd (node_Bucket (appL tapiPair r25.2.1 ((a2.2.1, (a2.2.2.1, ())) :: []))) fun r26 =>
      bnd (plan_Add ((), (a0.2.1, ((), ()))) r26 a3 a4) fun r27 =>
      some ((((), (r27.1.1.2.1, ((), ()))), (r27.1.2.1, (false, ()))), (a2, (r27.2.2.2.1, (r27.2.2.1, ()))))) none))))
   (bnd (hash_Chunk a2.2.2.2.2.2.1 a1 a2.2.2.2.2.1) fun r28 =>
   bnd (hash_Of a2.2.2.2.2.2.2.2.2.2.2.1 a2.2.2.2.2.1) fun r29 =>
   bnd (hash_Chunk r29 a1 a2.2.2.2.2.1) fun r30 =>
   bnd (branch_Sized ((0 : Int), (ByteArray.empty, (ByteArray.empty, ((0 : Int), ([], ((0 : Int), ([], ((0 : Int), ((0 : Int), ()))))))))) (2 : Int)) fun r31 =>
   br (eqI r28 r30)
    (bnd (graft_Graft_two ((), (a0.2.1, ((), ()))) (addI .i64 a1 (1 : Int)) a2 a3 a4) fun r32 =>
    bnd (branch_With r31 r28 r32.1.2.1) fun r33 =>
    bnd (plan_Add ((), (r32.1.1.2.1, ((), ()))) r33 r32.2.2.1 r32.2.2.2.1) fun r34 =>
    some ((((), (r34.1.1.2.1, ((), ()))), (r34.1.2.1, r32.1.2.2)), (r32.2.1, (r34.2.2.2.1, (r34.2.2.1, ())))))
    (bnd (node_Leaf a2.2.1 a2.2.2.1) fun r35 =>
    bnd (plan_Add ((), (a0.2.1, ((), ()))) r35 a3 a4) fun r36 =>
    bnd (branch_With r31 r28 r36.1.2.1) fun r37 =>
    bnd (branch_With r37 r30 a2.2.2.2.2.2.2.2.2.1) fun r38 =>
    bnd (plan_Add ((), (r36.1.1.2.1, ((), ()))) r38 r36.2.2.2.1 r36.2.2.1) fun r39 =>
    some ((((), (r39.1.1.2.1, ((), ()))), (r39.1.2.1, (true, ()))), (a2, (r39.2.2.2.1, (r39.2.2.1, ())))))) :=
  (callW_eq (P := PP) (T := TT) (pr := RR) 104 [⟨(.ptr 0 0), ()⟩, ⟨(.pair (.own tapiNode 1) (.pair (.int .i64) (.pair (.own (.int .i64) 2) .unit))), a0⟩, ⟨(.int .i64), a1⟩] [⟨(.box tgraftGraft), a2⟩, ⟨(.row 58 tapiNode true), a3⟩, ⟨(.row 24 (.int .i64) true), a4⟩] (.tcons (.pair (.own tapiNode 1) (.pair (.int .i64) (.pair (.own (.int .i64) 2) .unit))) (.tcons (.int .i64) (.tcons .bool .tnil))) [(.box tgraftGraft), (.row 58 tapiNode false), (.row 24 (.int .i64) false)]).trans (by kernel_rfl)
theorem pair_Put.eq (a0 : den (.list tapiPair)) (a1 : den .str) (a2 : den .str) : pair_Put a0 a1 a2 =
  bnd (pair_ordered a0) fun r0 =>
  bnd (pair_put r0 (a1, (a2, ()))) fun r1 =>
  some r1.2.1 :=
  (callW_eq (P := PP) (T := TT) (pr := RR) 106 [⟨(.list tapiPair), a0⟩, ⟨.str, a1⟩, ⟨.str, a2⟩] [] (.list tapiPair) []).trans (by kernel_rfl)
theorem node_Bucket.eq (a0 : den (.list tapiPair)) : node_Bucket a0 =
  bnd (pair_Make a0) fun r0 =>
  some ((3 : Int), (ByteArray.empty, (ByteArray.empty, ((0 : Int), ([], ((0 : Int), (r0, ((ofN (lenL tapiPair r0)), ((0 : Int), ()))))))))) :=
  (callW_eq (P := PP) (T := TT) (pr := RR) 105 [⟨(.list tapiPair), a0⟩] [] tapiNode []).trans (by kernel_rfl)
theorem branch_branch.eq (a0 : den tapiNode) : branch_branch a0 =
  br (notB (eqI a0.1 (2 : Int)))
   (bnd (node_Branch_o (0 : Int) [] (0 : Int)) fun r0 =>
   some (r0.1, (r0.2.1, (r0.2.2.1, ()))))
   (bnd (node_May a0) fun r1 =>
   br (notB (eqI r1 (0 : Int)))
    (bnd (node_Branch_o (0 : Int) [] (0 : Int)) fun r2 =>
    some (r2.1, (r2.2.1, (r2.2.2.1, ()))))
    (bnd (node_Copy a0) fun r3 =>
    some (r3.1, (r3.2.1, (r3.2.2.1, ()))))) :=
  (callW_eq (P := PP) (T := TT) (pr := RR) 110 [⟨tapiNode, a0⟩] [] (.pair (.int .i64) (.pair .str (.pair .str (.pair (.int .u32) (.pair (.own (.int .i64) 0) (.pair (.int .i64) (.pair (.own tapiPair 1) (.pair (.int .i64) (.pair (.int .i64) .unit))))))))) [(.row 24 (.int .i64) false), (.row 84 tapiPair false)]).trans (by kernel_rfl)
theorem mask_With.eq (a0 : den (.int .u32)) (a1 : den (.int .i64)) : mask_With a0 a1 =
  bnd (mask_in a1) fun r0 =>
  br (notB r0)
   (some a0)
   (br (leI (0 : Int) a1) (some (orI .u32 a0 (shlI .u32 (1 : Int) a1))) none) :=
  (callW_eq (P := PP) (T := TT) (pr := RR) 111 [⟨(.int .u32), a0⟩, ⟨(.int .i64), a1⟩] [] (.int .u32) []).trans (by kernel_rfl)
theorem mask_Place.eq (a0 : den (.int .u32)) (a1 : den (.int .i64)) : mask_Place a0 a1 =
  bnd (mask_below a1) fun r0 =>
  bnd (math_bits_OnesCount32 (andI .u32 a0 r0)) fun r1 =>
  some r1 :=
  (callW_eq (P := PP) (T := TT) (pr := RR) 112 [⟨(.int .u32), a0⟩, ⟨(.int .i64), a1⟩] [] (.int .i64) []).trans (by kernel_rfl)
theorem mask_Has.eq (a0 : den (.int .u32)) (a1 : den (.int .i64)) : mask_Has a0 a1 =
  bnd (mask_in a1) fun r0 =>
  br r0
   (br (leI (0 : Int) a1) (some (eqI (andI .u32 (shrI .u32 a0 a1) (1 : Int)) (1 : Int))) none)
   (some false) :=
  (callW_eq (P := PP) (T := TT) (pr := RR) 113 [⟨(.int .u32), a0⟩, ⟨(.int .i64), a1⟩] [] .bool []).trans (by kernel_rfl)
theorem slices_Insertapi_Ref_api_Ref.eq (a0 : den (.int .i64)) (a1 : denO (.row 24 (.int .i64) true)) (a2 : denO (.row 24 (.int .i64) true)) : slices_Insertapi_Ref_api_Ref a0 a1 a2 =
  br (insG (.int .i64) a1 a0 a2) (some ((), ((insL (.int .i64) a1 a0 a2), (a2, ())))) none :=
  (callW_eq (P := PP) (T := TT) (pr := RR) 114 [⟨(.own (.int .i64) 0), ()⟩, ⟨(.int .i64), a0⟩, ⟨(.own (.int .i64) 1), ()⟩] [⟨(.row 24 (.int .i64) true), a1⟩, ⟨(.row 24 (.int .i64) true), a2⟩] (.own (.int .i64) 0) [(.row 24 (.int .i64) false), (.row 24 (.int .i64) true)]).trans (by kernel_rfl)
theorem slices_Cloneapi_Node_api_Node.eq (a0 : den (.list tapiNode)) : slices_Cloneapi_Node_api_Node a0 =
  br (eqI (ofN (lenL tapiNode a0)) (0 : Int))
   (both
    (some ((), ([], ())))
    (br (fitL tapiNode (appL tapiNode [] a0)) (some ((), ((appL tapiNode [] a0), ()))) none))
   (br (fitL tapiNode (appL tapiNode [] a0)) (some ((), ((appL tapiNode [] a0), ()))) none) :=
  (callW_eq (P := PP) (T := TT) (pr := RR) 108 [⟨(.list tapiNode), a0⟩] [] (.own tapiNode 0) [(.row 58 tapiNode false)]).trans (by kernel_rfl)
theorem node_Copy.eq (a0 : den tapiNode) : node_Copy a0 =
  bnd (slices_Cloneapi_Ref_api_Ref a0.2.2.2.2.1) fun r0 =>
  bnd (slices_Cloneapi_Pair_api_Pair a0.2.2.2.2.2.2.1) fun r1 =>
  some ((a0.1, (a0.2.1, (a0.2.2.1, (a0.2.2.2.1, ((), (a0.2.2.2.2.2.1, ((), a0.2.2.2.2.2.2.2))))))), (r0.2.1, (r1.2.1, ()))) :=
  (callW_eq (P := PP) (T := TT) (pr := RR) 99 [⟨tapiNode, a0⟩] [] (.pair (.int .i64) (.pair .str (.pair .str (.pair (.int .u32) (.pair (.own (.int .i64) 0) (.pair (.int .i64) (.pair (.own tapiPair 1) (.pair (.int .i64) (.pair (.int .i64) .unit))))))))) [(.row 24 (.int .i64) false), (.row 84 tapiPair false)]).trans (by kernel_rfl)
theorem ref_New.eq (a0 : den (.int .i64)) : ref_New a0 =
  br (ltI a0 (0 : Int))
   (some (0 : Int))
   (some (subI .i64 (-1 : Int) a0)) :=
  (callW_eq (P := PP) (T := TT) (pr := RR) 109 [⟨(.int .i64), a0⟩] [] (.int .i64) []).trans (by kernel_rfl)
theorem ref13_May.eq (a0 : den tapiNode) : ref13_May a0 =
  br (ltI a0.1 (1 : Int))
   (some (11 : Int))
   (br (ltI (6 : Int) a0.1)
    (some (11 : Int))
    (bnd (ref13_long a0) fun r0 =>
    br r0
     (some (6 : Int))
     (bnd (ref13_form a0) fun r1 =>
     br (notB r1)
      (some (4 : Int))
      (some (0 : Int))))) :=
  (callW_eq (P := PP) (T := TT) (pr := RR) 116 [⟨tapiNode, a0⟩] [] (.int .i64) []).trans (by kernel_rfl)
theorem ref13_Binds.eq (a0 : den tapiNode) : ref13_Binds a0 =
  br (eqI a0.1 (1 : Int))
   (some ((a0.2.1, (a0.2.2.1, ())) :: []))
   (br (eqI a0.1 (4 : Int))
    (some ((a0.2.1, (a0.2.2.1, ())) :: []))
    (br (eqI a0.1 (6 : Int))
     (some ((a0.2.1, (a0.2.2.1, ())) :: []))
     (br (eqI a0.1 (3 : Int))
      (some a0.2.2.2.2.2.2.1)
      (some [])))) :=
  (callW_eq (P := PP) (T := TT) (pr := RR) 59 [⟨tapiNode, a0⟩] [] (.list tapiPair) []).trans (by kernel_rfl)
theorem ref17_shape.eq (a0 : den (.list tapiNode)) (a1 : den (.int .i64)) (a2 : den (.list tapiNode)) (a3 : den (.int .i64)) : ref17_shape a0 a1 a2 a3 =
  br (eqI a1 (0 : Int))
   (ref17_shape.j0 a0 a1 a2 a3 true)
   (ref17_shape.j0 a0 a1 a2 a3 (eqI a3 (0 : Int))) :=
  (callW_eq (P := PP) (T := TT) (pr := RR) 87 [⟨(.list tapiNode), a0⟩, ⟨(.int .i64), a1⟩, ⟨(.list tapiNode), a2⟩, ⟨(.int .i64), a3⟩] [] .bool []).trans (by kernel_rfl)
theorem ref17_shape.j0.eq (x0 : den (.list tapiNode)) (x1 : den (.int .i64)) (x2 : den (.list tapiNode)) (x3 : den (.int .i64)) (x4 : den .bool) : ref17_shape.j0 x0 x1 x2 x3 x4 =
  br x4
   (br (eqI x1 (0 : Int))
    (some (eqI x3 (0 : Int)))
    (some false))
   (br (andB (leI (0 : Int) (subI .i64 x1 (1 : Int))) (ltI (subI .i64 x1 (1 : Int)) (ofN (lenL tapiNode x0)))) (br (andB (leI (0 : Int) (subI .i64 x3 (1 : Int))) (ltI (subI .i64 x3 (1 : Int)) (ofN (lenL tapiNode x2)))) (both
    (both
     (br (notB (eqI (ofN (lenL (.int .i64) (ixL tapiNode x0 (subI .i64 x1 (1 : Int))).2.2.2.2.1)) (ofN (lenL (.int .i64) (ixL tapiNode x2 (subI .i64 x3 (1 : Int))).2.2.2.2.1))))
      (some false)
      (ref17_shape.l1 x0 x2 (0 : Int) (ixL tapiNode x0 (subI .i64 x1 (1 : Int))) (ixL tapiNode x2 (subI .i64 x3 (1 : Int)))))
     (br (notB (eqI (ofN (lenL (.int .i64) (ixL tapiNode x0 (subI .i64 x1 (1 : Int))).2.2.2.2.1)) (ofN (lenL (.int .i64) (ixL tapiNode x2 (subI .i64 x3 (1 : Int))).2.2.2.2.1))))
      (some false)
      (ref17_shape.l1 x0 x2 (0 : Int) (ixL tapiNode x0 (subI .i64 x1 (1 : Int))) (ixL tapiNode x2 (subI .i64 x3 (1 : Int))))))
    (both
     (both
      (br (notB (eqI (ofN (lenL (.int .i64) (ixL tapiNode x0 (subI .i64 x1 (1 : Int))).2.2.2.2.1)) (ofN (lenL (.int .i64) (ixL tapiNode x2 (subI .i64 x3 (1 : Int))).2.2.2.2.1))))
       (some false)
       (ref17_shape.l1 x0 x2 (0 : Int) (ixL tapiNode x0 (subI .i64 x1 (1 : Int))) (ixL tapiNode x2 (subI .i64 x3 (1 : Int)))))
      (both
       (br (notB (eqI (ofN (lenL (.int .i64) (ixL tapiNode x0 (subI .i64 x1 (1 : Int))).2.2.2.2.1)) (ofN (lenL (.int .i64) (ixL tapiNode x2 (subI .i64 x3 (1 : Int))).2.2.2.2.1))))
        (some false)
        (ref17_shape.l1 x0 x2 (0 : Int) (ixL tapiNode x0 (subI .i64 x1 (1 : Int))) (ixL tapiNode x2 (subI .i64 x3 (1 : Int)))))
       (br (notB (eqI (ofN (lenL (.int .i64) (ixL tapiNode x0 (subI .i64 x1 (1 : Int))).2.2.2.2.1)) (ofN (lenL (.int .i64) (ixL tapiNode x2 (subI .i64 x3 (1 : Int))).2.2.2.2.1))))
        (some false)
        (ref17_shape.l1 x0 x2 (0 : Int) (ixL tapiNode x0 (subI .i64 x1 (1 : Int))) (ixL tapiNode x2 (subI .i64 x3 (1 : Int)))))))
     (both
      (br (notB (eqI (ofN (lenL (.int .i64) (ixL tapiNode x0 (subI .i64 x1 (1 : Int))).2.2.2.2.1)) (ofN (lenL (.int .i64) (ixL tapiNode x2 (subI .i64 x3 (1 : Int))).2.2.2.2.1))))
       (some false)
       (ref17_shape.l1 x0 x2 (0 : Int) (ixL tapiNode x0 (subI .i64 x1 (1 : Int))) (ixL tapiNode x2 (subI .i64 x3 (1 : Int)))))
      (both
       (br (notB (eqI (ofN (lenL (.int .i64) (ixL tapiNode x0 (subI .i64 x1 (1 : Int))).2.2.2.2.1)) (ofN (lenL (.int .i64) (ixL tapiNode x2 (subI .i64 x3 (1 : Int))).2.2.2.2.1))))
        (some false)
        (ref17_shape.l1 x0 x2 (0 : Int) (ixL tapiNode x0 (subI .i64 x1 (1 : Int))) (ixL tapiNode x2 (subI .i64 x3 (1 : Int)))))
       (br (notB (eqI (ofN (lenL (.int .i64) (ixL tapiNode x0 (subI .i64 x1 (1 : Int))).2.2.2.2.1)) (ofN (lenL (.int .i64) (ixL tapiNode x2 (subI .i64 x3 (1 : Int))).2.2.2.2.1))))
        (some false)
        (ref17_shape.l1 x0 x2 (0 : Int) (ixL tapiNode x0 (subI .i64 x1 (1 : Int))) (ixL tapiNode x2 (subI .i64 x3 (1 : Int))))))))) none) none) :=
  (congrFun (congrFun (jnO_eq [1, 0, 1] (BF (R := den .bool) 87 0 [1, 0, 1])) ⟨[(0, ⟨(.list tapiNode), x0⟩), (1, ⟨(.int .i64), x1⟩), (2, ⟨(.list tapiNode), x2⟩), (3, ⟨(.int .i64), x3⟩), (17, ⟨.bool, x4⟩)], []⟩) (seqK false [1, 1] (BF 87 0 [1, 1]) (finF 87 .bool [] 0))).trans (by kernel_rfl)
theorem ref17_shape.l1.eq (x0 : den (.list tapiNode)) (x1 : den (.list tapiNode)) (x2 : den (.int .i64)) (x3 : denO (.box tapiNode)) (x4 : denO (.box tapiNode)) : ref17_shape.l1 x0 x1 x2 x3 x4 =
  br (ltI x2 (ofN (lenL (.int .i64) x3.2.2.2.2.1)))
   (br (andB (leI (0 : Int) x2) (ltI x2 (ofN (lenL (.int .i64) x3.2.2.2.2.1)))) (br (andB (leI (0 : Int) x2) (ltI x2 (ofN (lenL (.int .i64) x4.2.2.2.2.1)))) (bnd (ref17_shape x0 (ixL (.int .i64) x3.2.2.2.2.1 x2) x1 (ixL (.int .i64) x4.2.2.2.2.1 x2)) fun r0 =>
   br (notB r0)
    (some false)
    (ref17_shape.l1 x0 x1 (addI .i64 x2 (1 : Int)) x3 x4)) none) none)
   (bnd (ref17_shape x0 x3.2.2.2.2.2.1 x1 x4.2.2.2.2.2.1) fun r1 =>
   br (notB r1)
    (some false)
    (bnd (ref13_Same (x3.1, (x3.2.1, (x3.2.2.1, (x3.2.2.2.1, ([], ((0 : Int), (x3.2.2.2.2.2.2.1, (x3.2.2.2.2.2.2.2.1, ((0 : Int), ()))))))))) (x4.1, (x4.2.1, (x4.2.2.1, (x4.2.2.2.1, ([], ((0 : Int), (x4.2.2.2.2.2.2.1, (x4.2.2.2.2.2.2.2.1, ((0 : Int), ())))))))))) fun r2 =>
    some r2)) :=
  (loopB_eq (P := PP) (T := TT) (C := CF) [1, 1, 1, 1, 0, 1, 0, 0] [1, 1, 1, 1, 0, 1, 0, 0] 87 0 ⟨[(0, ⟨(.list tapiNode), x0⟩), (2, ⟨(.list tapiNode), x1⟩), (9, ⟨(.ptr 0 0), ()⟩), (10, ⟨(.ptr 1 0), ()⟩), (11, ⟨(.int .i64), x2⟩)], [⟨(.box tapiNode), x3⟩, ⟨(.box tapiNode), x4⟩]⟩ (blockK 0 (seqK false [1, 1, 1, 1, 1] (BF 87 0 [1, 1, 1, 1, 1]) (finF 87 .bool [] 0)))).trans (by kernel_rfl)
theorem node_formed.eq (a0 : den tapiNode) : node_formed a0 =
  br (eqI a0.1 (1 : Int))
   (bnd (node_Leaf a0.2.1 a0.2.2.1) fun r0 =>
   some r0)
   (br (eqI a0.1 (6 : Int))
    (bnd (node_Tomb a0.2.1 a0.2.2.1) fun r1 =>
    some r1)
    (br (eqI a0.1 (2 : Int))
     (bnd (node_Branch a0.2.2.2.1 a0.2.2.2.2.1 (maxI a0.2.2.2.2.2.2.2.1 (0 : Int))) fun r2 =>
     some r2)
     (br (eqI a0.1 (3 : Int))
      (bnd (node_Bucket a0.2.2.2.2.2.2.1) fun r3 =>
      some r3)
      (br (eqI a0.1 (4 : Int))
       (br (eqI (ofN (lenL (.int .i64) a0.2.2.2.2.1)) (2 : Int))
        (br (andB (leI (0 : Int) (0 : Int)) (ltI (0 : Int) (ofN (lenL (.int .i64) a0.2.2.2.2.1)))) (br (andB (leI (0 : Int) (1 : Int)) (ltI (1 : Int) (ofN (lenL (.int .i64) a0.2.2.2.2.1)))) (bnd (node_Tree a0.2.1 a0.2.2.1 (ixL (.int .i64) a0.2.2.2.2.1 (0 : Int)) (ixL (.int .i64) a0.2.2.2.2.1 (1 : Int)) (maxI a0.2.2.2.2.2.2.2.1 (1 : Int))) fun r4 =>
        some r4) none) none)
        (some ((0 : Int), (ByteArray.empty, (ByteArray.empty, ((0 : Int), ([], ((0 : Int), ([], ((0 : Int), ((0 : Int), ())))))))))))
       (br (eqI a0.1 (5 : Int))
        (bnd (node_Inner a0.2.2.2.2.2.1) fun r5 =>
        some r5)
        (some ((0 : Int), (ByteArray.empty, (ByteArray.empty, ((0 : Int), ([], ((0 : Int), ([], ((0 : Int), ((0 : Int), ()))))))))))))))) :=
  (callW_eq (P := PP) (T := TT) (pr := RR) 89 [⟨tapiNode, a0⟩] [] tapiNode []).trans (by kernel_rfl)
theorem node_long.eq (a0 : den tapiNode) : node_long a0 =
  bnd (node_long_1 (a0.2.1, (a0.2.2.1, ()))) fun r0 =>
  br r0
   (some true)
   (bnd (slices_ContainsFuncapi_Pair_api_Pair a0.2.2.2.2.2.2.1) fun r1 =>
   some r1) :=
  (callW_eq (P := PP) (T := TT) (pr := RR) 90 [⟨tapiNode, a0⟩] [] .bool []).trans (by kernel_rfl)
theorem node_Same.eq (a0 : den tapiNode) (a1 : den tapiNode) : node_Same a0 a1 =
  br (eqI a0.1 a1.1)
   (br (eqS a0.2.1 a1.2.1)
    (br (eqS a0.2.2.1 a1.2.2.1)
     (node_Same.j0 (eqI a0.2.2.2.1 a1.2.2.2.1) a0 a1)
     (node_Same.j0 false a0 a1))
    (node_Same.j0 false a0 a1))
   (node_Same.j0 false a0 a1) :=
  (callW_eq (P := PP) (T := TT) (pr := RR) 91 [⟨tapiNode, a0⟩, ⟨tapiNode, a1⟩] [] .bool []).trans (by kernel_rfl)
theorem node_Same.j0.eq (x0 : den .bool) (x1 : denO (.box tapiNode)) (x2 : denO (.box tapiNode)) : node_Same.j0 x0 x1 x2 =
  br x0
   (br (eqI x1.2.2.2.2.2.1 x2.2.2.2.2.2.1)
    (br (eqI x1.2.2.2.2.2.2.2.1 x2.2.2.2.2.2.2.2.1)
     (br (eqI x1.2.2.2.2.2.2.2.2.1 x2.2.2.2.2.2.2.2.2.1)
      (bnd (slices_Equalapi_Ref_api_Ref x1.2.2.2.2.1 x2.2.2.2.2.1) fun r0 =>
      br r0
       (bnd (slices_Equalapi_Pair_api_Pair x1.2.2.2.2.2.2.1 x2.2.2.2.2.2.2.1) fun r1 =>
       some r1)
       (some false))
      (some false))
     (some false))
    (some false))
   (some false) :=
  (congrFun (congrFun (jnO_eq [1, 1] (BF (R := den .bool) 91 0 [1, 1])) ⟨[(2, ⟨(.ptr 0 0), ()⟩), (3, ⟨(.ptr 1 0), ()⟩), (5, ⟨.bool, x0⟩)], [⟨(.box tapiNode), x1⟩, ⟨(.box tapiNode), x2⟩]⟩) (finF 91 .bool [] 0)).trans (by kernel_rfl)
theorem node_whole.eq (a0 : den tapiNode) : node_whole a0 =
  br (eqI a0.1 (2 : Int))
   (bnd (mask_Count a0.2.2.2.1) fun r0 =>
   br (eqI (ofN (lenL (.int .i64) a0.2.2.2.2.1)) r0)
    (bnd (slices_Containsapi_Ref_api_Ref a0.2.2.2.2.1 (0 : Int)) fun r1 =>
    some (notB r1))
    (some false))
   (br (eqI a0.1 (3 : Int))
    (br (leI (2 : Int) (ofN (lenL tapiPair a0.2.2.2.2.2.2.1)))
     (bnd (pair_Is a0.2.2.2.2.2.2.1) fun r2 =>
     some r2)
     (some false))
    (br (eqI a0.1 (5 : Int))
     (some (notB (eqI a0.2.2.2.2.2.1 (0 : Int))))
     (some true))) :=
  (callW_eq (P := PP) (T := TT) (pr := RR) 92 [⟨tapiNode, a0⟩] [] .bool []).trans (by kernel_rfl)
theorem heap_Binds.eq (a0 : den (.list tapiNode)) (a1 : den (.int .i64)) : heap_Binds a0 a1 =
  bnd (heap_may a0 a1) fun r0 =>
  br (notB (eqI r0 (0 : Int)))
   (some ([], (r0, ())))
   (bnd (heap_binds a0 a1) fun r1 =>
   some (r1.2.1, ((0 : Int), ()))) :=
  (callW_eq (P := PP) (T := TT) (pr := RR) 93 [⟨(.list tapiNode), a0⟩, ⟨(.int .i64), a1⟩] [] (.tcons (.list tapiPair) (.tcons (.int .i64) .tnil)) []).trans (by kernel_rfl)
theorem trie_Make.eq (a0 : den (.int .i64)) (a1 : den (.list tapiPair)) : trie_Make a0 a1 =
  bnd (pair_Make a1) fun r0 =>
  trie_Make.l0 a0 r0 r0 (ofN (lenL tapiPair r0)) (0 : Int) :=
  (callW_eq (P := PP) (T := TT) (pr := RR) 94 [⟨(.int .i64), a0⟩, ⟨(.list tapiPair), a1⟩] [] (.tcons (.list tapiNode) (.tcons (.int .i64) (.tcons (.int .i64) .tnil))) []).trans (by kernel_rfl)
theorem trie_Make.l0.eq (x0 : den (.int .i64)) (x1 : den (.list tapiPair)) (x2 : den (.list tapiPair)) (x3 : den (.int .i64)) (x4 : den (.int .i64)) : trie_Make.l0 x0 x1 x2 x3 x4 =
  br (ltI x4 x3)
   (br (andB (leI (0 : Int) x4) (ltI x4 (ofN (lenL tapiPair x2)))) (bnd (node_Leaf (ixL tapiPair x2 x4).1 (ixL tapiPair x2 x4).2.1) fun r0 =>
   bnd (node_May r0) fun r1 =>
   br (notB (eqI r1 (0 : Int)))
    (some ([], ((0 : Int), (r1, ()))))
    (trie_Make.l0 x0 x1 x2 x3 (addI .i64 x4 (1 : Int)))) none)
   (bnd (trie_maker_trie x1 (0 : Int) (x0, ((), ())) []) fun r2 =>
   some (r2.2.2.1, (r2.1, ((0 : Int), ())))) :=
  (loopB_eq (P := PP) (T := TT) (C := CF) [1, 1, 0, 1, 0, 0] [1, 1, 0, 1, 0, 0] 94 0 ⟨[(0, ⟨(.int .i64), x0⟩), (1, ⟨(.list tapiPair), x1⟩), (14, ⟨(.list tapiPair), x2⟩), (15, ⟨(.int .i64), x3⟩), (16, ⟨(.int .i64), x4⟩)], []⟩ (blockK 0 (seqK false [1, 1, 1] (BF 94 0 [1, 1, 1]) (finF 94 (.tcons (.list tapiNode) (.tcons (.int .i64) (.tcons (.int .i64) .tnil))) [] 0)))).trans (by kernel_rfl)
theorem heap_Same.eq (a0 : den (.list tapiNode)) (a1 : den (.int .i64)) (a2 : den (.list tapiNode)) (a3 : den (.int .i64)) : heap_Same a0 a1 a2 a3 =
  bnd (heap_may a0 a1) fun r0 =>
  br (eqI r0 (0 : Int))
   (bnd (heap_may a2 a3) fun r1 =>
   br (eqI r1 (0 : Int))
    (bnd (heap_same a0 a1 a2 a3) fun r2 =>
    some r2)
    (some false))
   (some false) :=
  (callW_eq (P := PP) (T := TT) (pr := RR) 95 [⟨(.list tapiNode), a0⟩, ⟨(.int .i64), a1⟩, ⟨(.list tapiNode), a2⟩, ⟨(.int .i64), a3⟩] [] .bool []).trans (by kernel_rfl)
theorem plan_May.eq (a0 : den tplanPlan) : plan_May a0 =
  plan_May.l0 a0.1 (ofN (lenL tapiNode a0.1)) (0 : Int) a0 :=
  (callW_eq (P := PP) (T := TT) (pr := RR) 96 [⟨tplanPlan, a0⟩] [] (.int .i64) []).trans (by kernel_rfl)
theorem plan_May.l0.eq (x0 : den (.list tapiNode)) (x1 : den (.int .i64)) (x2 : den (.int .i64)) (x3 : denO (.box tplanPlan)) : plan_May.l0 x0 x1 x2 x3 =
  br (ltI x2 x1)
   (br (andB (leI (0 : Int) x2) (ltI x2 (ofN (lenL tapiNode x0)))) (bnd (node_May (ixL tapiNode x0 x2)) fun r0 =>
   br (notB (eqI r0 (0 : Int)))
    (some (4 : Int))
    (bnd (node_Refs (ixL tapiNode x0 x2)) fun r1 =>
    bnd (slices_ContainsFuncapi_Ref_api_Ref r1 ((), ()) x2) fun r2 =>
    br r2.1
     (some (4 : Int))
     (plan_May.l0 x0 x1 (addI .i64 x2 (1 : Int)) x3))) none)
   (bnd (plan_ahead x3.2.1 (ofN (lenL tapiNode x3.1))) fun r3 =>
   br (notB r3)
    (some (4 : Int))
    (bnd (slices_ContainsFuncapi_Ref_api_Ref_v1 x3.2.2.1) fun r4 =>
    br r4
     (some (4 : Int))
     (some (0 : Int)))) :=
  (loopB_eq (P := PP) (T := TT) (C := CF) [1, 0, 1, 0, 0] [1, 0, 1, 0, 0] 96 0 ⟨[(1, ⟨(.ptr 0 0), ()⟩), (6, ⟨(.list tapiNode), x0⟩), (7, ⟨(.int .i64), x1⟩), (8, ⟨(.int .i64), x2⟩)], [⟨(.box tplanPlan), x3⟩]⟩ (blockK 0 (seqK false [1, 1] (BF 96 0 [1, 1]) (finF 96 (.int .i64) [] 0)))).trans (by kernel_rfl)
theorem heap_May.eq (a0 : den (.list tapiNode)) : heap_May a0 =
  heap_May.l0 a0 (ofN (lenL tapiNode a0)) (0 : Int) :=
  (callW_eq (P := PP) (T := TT) (pr := RR) 97 [⟨(.list tapiNode), a0⟩] [] (.int .i64) []).trans (by kernel_rfl)
theorem heap_May.l0.eq (x0 : den (.list tapiNode)) (x1 : den (.int .i64)) (x2 : den (.int .i64)) : heap_May.l0 x0 x1 x2 =
  br (ltI x2 x1)
   (br (andB (leI (0 : Int) x2) (ltI x2 (ofN (lenL tapiNode x0)))) (bnd (node_May (ixL tapiNode x0 x2)) fun r0 =>
   br (notB (eqI r0 (0 : Int)))
    (some (4 : Int))
    (bnd (node_Refs (ixL tapiNode x0 x2)) fun r1 =>
    heap_May.l1 x2 x0 x1 x2 r1 (ofN (lenL (.int .i64) r1)) (0 : Int))) none)
   (some (0 : Int)) :=
  (loopB_eq (P := PP) (T := TT) (C := CF) [1, 0, 1, 0, 0] [1, 0, 1, 0, 0] 97 0 ⟨[(7, ⟨(.list tapiNode), x0⟩), (8, ⟨(.int .i64), x1⟩), (9, ⟨(.int .i64), x2⟩)], []⟩ (blockK 0 (seqK false [1, 1] (BF 97 0 [1, 1]) (finF 97 (.int .i64) [] 0)))).trans (by kernel_rfl)
theorem heap_May.l1.eq (x0 : den (.int .i64)) (x1 : den (.list tapiNode)) (x2 : den (.int .i64)) (x3 : den (.int .i64)) (x4 : den (.list (.int .i64))) (x5 : den (.int .i64)) (x6 : den (.int .i64)) : heap_May.l1 x0 x1 x2 x3 x4 x5 x6 =
  br (ltI x6 x5)
   (br (andB (leI (0 : Int) x6) (ltI x6 (ofN (lenL (.int .i64) x4)))) (br (ltI (ixL (.int .i64) x4 x6) (1 : Int))
    (some (4 : Int))
    (br (ltI x0 (ixL (.int .i64) x4 x6))
     (some (4 : Int))
     (heap_May.l1 x0 x1 x2 x3 x4 x5 (addI .i64 x6 (1 : Int))))) none)
   (heap_May.l0 x1 x2 (addI .i64 x3 (1 : Int))) :=
  (loopB_eq (P := PP) (T := TT) (C := CF) [1, 0, 1, 0, 0, 1, 1, 0, 0, 1, 1, 1, 0, 0] [1, 0, 1, 0, 0, 1, 1, 0, 0, 1, 1, 1, 0, 0] 97 0 ⟨[(3, ⟨(.int .i64), x0⟩), (7, ⟨(.list tapiNode), x1⟩), (8, ⟨(.int .i64), x2⟩), (9, ⟨(.int .i64), x3⟩), (18, ⟨(.list (.int .i64)), x4⟩), (19, ⟨(.int .i64), x5⟩), (20, ⟨(.int .i64), x6⟩)], []⟩ (blockK 2 (blockK 1 (seqK false [1, 0, 1, 0, 0, 1, 1, 1] (BF 97 0 [1, 0, 1, 0, 0, 1, 1, 1]) (againK [1, 0, 1, 0, 0] (loopW [1, 0, 1, 0, 0] (BF 97 0 [1, 0, 1, 0, 0])) (blockK 0 (seqK false [1, 1] (BF 97 0 [1, 1]) (finF 97 (.int .i64) [] 0)))))))).trans (by kernel_rfl)
theorem plan_fits.eq (a0 : den (.list tapiNode)) (a1 : den tplanPlan) : plan_fits a0 a1 =
  both
   (bnd (slices_Cloneapi_Ref_api_Ref a1.2.2.1) fun r0 =>
   br (fitL (.int .i64) (appL (.int .i64) r0.2.1 (a1.2.1 :: []))) (plan_fits.l0 a1.1 (ofN (lenL tapiNode a1.1)) (0 : Int) a0 (appL (.int .i64) r0.2.1 (a1.2.1 :: []))) none)
   (bnd (slices_Cloneapi_Ref_api_Ref a1.2.2.1) fun r1 =>
   br (fitL (.int .i64) (appL (.int .i64) r1.2.1 (a1.2.1 :: []))) (plan_fits.l0 a1.1 (ofN (lenL tapiNode a1.1)) (0 : Int) a0 (appL (.int .i64) r1.2.1 (a1.2.1 :: []))) none) :=
  (callW_eq (P := PP) (T := TT) (pr := RR) 98 [⟨(.list tapiNode), a0⟩, ⟨tplanPlan, a1⟩] [] .bool []).trans (by kernel_rfl)
theorem plan_fits.l0.eq (x0 : den (.list tapiNode)) (x1 : den (.int .i64)) (x2 : den (.int .i64)) (x3 : denO (.box (.list tapiNode))) (x4 : denO (.row 24 (.int .i64) false)) : plan_fits.l0 x0 x1 x2 x3 x4 =
  br (ltI x2 x1)
   (br (andB (leI (0 : Int) x2) (ltI x2 (ofN (lenL tapiNode x0)))) (bnd (node_Refs (ixL tapiNode x0 x2)) fun r0 =>
   br (fitL (.int .i64) (appL (.int .i64) x4 r0)) (plan_fits.l0 x0 x1 (addI .i64 x2 (1 : Int)) x3 (appL (.int .i64) x4 r0)) none) none)
   (bnd (slices_ContainsFuncapi_Ref_api_Ref_v2 x4 ((), ()) x3) fun r1 =>
   some (notB r1.1)) :=
  (loopB_eq (P := PP) (T := TT) (C := CF) [1, 1, 0, 1, 0, 0] [1, 1, 0, 1, 0, 0] 98 0 ⟨[(2, ⟨(.ptr 0 0), ()⟩), (5, ⟨(.own (.int .i64) 1), ()⟩), (16, ⟨(.list tapiNode), x0⟩), (17, ⟨(.int .i64), x1⟩), (18, ⟨(.int .i64), x2⟩)], [⟨(.box (.list tapiNode)), x3⟩, ⟨(.row 24 (.int .i64) false), x4⟩]⟩ (blockK 0 (seqK false [1, 1, 1] (BF 98 0 [1, 1, 1]) (finF 98 .bool [] 0)))).trans (by kernel_rfl)
theorem plan_Fill_o.eq (a0 : den tapiNode) (a1 : denO (.row 24 (.int .i64) true)) : plan_Fill_o a0 a1 =
  bnd (node_Copy a0) fun r0 =>
  bnd (plan_Ref r0.1.2.2.2.2.2.1 a1) fun r1 =>
  plan_Fill_o.l0 r1.2.1 (ofN (lenL (.int .i64) r0.2.1)) (0 : Int) a1 (r0.1.1, (r0.1.2.1, (r0.1.2.2.1, (r0.1.2.2.2.1, ((), (r1.1, r0.1.2.2.2.2.2.2)))))) ((0 : Int), (ByteArray.empty, (ByteArray.empty, ((0 : Int), ((), ((0 : Int), ((), ((0 : Int), ((0 : Int), ()))))))))) r0.2.1 r0.2.2.1 [] [] :=
  (callW_eq (P := PP) (T := TT) (pr := RR) 100 [⟨tapiNode, a0⟩, ⟨(.own (.int .i64) 0), ()⟩] [⟨(.row 24 (.int .i64) true), a1⟩] (.tcons tapiNode (.tcons (.int .i64) .tnil)) [(.row 24 (.int .i64) true)]).trans (by kernel_rfl)
theorem plan_Fill_o.l0.eq (x0 : den (.int .i64)) (x1 : den (.int .i64)) (x2 : den (.int .i64)) (x3 : denO (.row 24 (.int .i64) true)) (x4 : denO (.box (.pair (.int .i64) (.pair .str (.pair .str (.pair (.int .u32) (.pair (.own (.int .i64) 3) (.pair (.int .i64) (.pair (.own tapiPair 4) (.pair (.int .i64) (.pair (.int .i64) .unit))))))))))) (x5 : denO (.box (.pair (.int .i64) (.pair .str (.pair .str (.pair (.int .u32) (.pair (.own (.int .i64) 5) (.pair (.int .i64) (.pair (.own tapiPair 6) (.pair (.int .i64) (.pair (.int .i64) .unit))))))))))) (x6 : denO (.row 24 (.int .i64) false)) (x7 : denO (.row 84 tapiPair false)) (x8 : denO (.row 24 (.int .i64) false)) (x9 : denO (.row 84 tapiPair false)) : plan_Fill_o.l0 x0 x1 x2 x3 x4 x5 x6 x7 x8 x9 =
  br (ltI x2 x1)
   (br (andB (leI (0 : Int) x2) (ltI x2 (ofN (lenL (.int .i64) x6)))) (bnd (plan_Ref (ixL (.int .i64) x6 x2) x3) fun r0 =>
   br (notB (eqI r0.2.1 (0 : Int)))
    (br (andB (leI (0 : Int) x2) (ltI x2 (ofN (lenL (.int .i64) x6)))) (plan_Fill_o.l0 r0.2.1 x1 (addI .i64 x2 (1 : Int)) x3 x4 x5 (setL (.int .i64) x6 x2 r0.1) x7 x8 x9) none)
    (br (andB (leI (0 : Int) x2) (ltI x2 (ofN (lenL (.int .i64) x6)))) (plan_Fill_o.l0 x0 x1 (addI .i64 x2 (1 : Int)) x3 x4 x5 (setL (.int .i64) x6 x2 r0.1) x7 x8 x9) none)) none)
   (br (notB (eqI x0 (0 : Int)))
    (some ((((0 : Int), (ByteArray.empty, (ByteArray.empty, ((0 : Int), ([], ((0 : Int), ([], ((0 : Int), ((0 : Int), ()))))))))), (x0, ())), (x3, ())))
    (some (((x4.1, (x4.2.1, (x4.2.2.1, (x4.2.2.2.1, (x6, (x4.2.2.2.2.2.1, (x7, x4.2.2.2.2.2.2.2))))))), (x0, ())), (x3, ())))) :=
  (loopB_eq (P := PP) (T := TT) (C := CF) [1, 1, 1, 1, 0, 1, 0, 0] [1, 1, 1, 1, 0, 1, 0, 0] 100 1 ⟨[(1, ⟨(.own (.int .i64) 0), ()⟩), (2, ⟨(.ptr 1 0), ()⟩), (4, ⟨(.ptr 2 0), ()⟩), (7, ⟨(.int .i64), x0⟩), (24, ⟨(.own (.int .i64) 3), ()⟩), (25, ⟨(.int .i64), x1⟩), (26, ⟨(.int .i64), x2⟩)], [⟨(.row 24 (.int .i64) true), x3⟩, ⟨(.box (.pair (.int .i64) (.pair .str (.pair .str (.pair (.int .u32) (.pair (.own (.int .i64) 3) (.pair (.int .i64) (.pair (.own tapiPair 4) (.pair (.int .i64) (.pair (.int .i64) .unit)))))))))), x4⟩, ⟨(.box (.pair (.int .i64) (.pair .str (.pair .str (.pair (.int .u32) (.pair (.own (.int .i64) 5) (.pair (.int .i64) (.pair (.own tapiPair 6) (.pair (.int .i64) (.pair (.int .i64) .unit)))))))))), x5⟩, ⟨(.row 24 (.int .i64) false), x6⟩, ⟨(.row 84 tapiPair false), x7⟩, ⟨(.row 24 (.int .i64) false), x8⟩, ⟨(.row 84 tapiPair false), x9⟩]⟩ (blockK 0 (seqK false [1, 1, 1, 1, 1] (BF 100 1 [1, 1, 1, 1, 1]) (finF 100 (.tcons tapiNode (.tcons (.int .i64) .tnil)) [(.row 24 (.int .i64) true)] 1)))).trans (by kernel_rfl)
theorem plan_Ref.eq (a0 : den (.int .i64)) (a1 : den (.list (.int .i64))) : plan_Ref a0 a1 =
  bnd (ref_Which a0) fun r0 =>
  br (notB r0.2.1)
   (some (a0, ((0 : Int), ())))
   (br (leI (ofN (lenL (.int .i64) a1)) r0.1)
    (some ((0 : Int), ((4 : Int), ())))
    (br (andB (leI (0 : Int) r0.1) (ltI r0.1 (ofN (lenL (.int .i64) a1)))) (some ((ixL (.int .i64) a1 r0.1), ((0 : Int), ()))) none)) :=
  (callW_eq (P := PP) (T := TT) (pr := RR) 101 [⟨(.int .i64), a0⟩, ⟨(.list (.int .i64)), a1⟩] [] (.tcons (.int .i64) (.tcons (.int .i64) .tnil)) []).trans (by kernel_rfl)
theorem hash_within.eq (a0 : den (.int .i64)) : hash_within a0 =
  some (minI (maxI a0 (0 : Int)) (64 : Int)) :=
  (callW_eq (P := PP) (T := TT) (pr := RR) 115 [⟨(.int .i64), a0⟩] [] (.int .i64) []).trans (by kernel_rfl)
theorem ref20_chunk.eq (a0 : den .str) (a1 : den (.int .i64)) (a2 : den (.int .i64)) : ref20_chunk a0 a1 a2 =
  bnd (ref04_Of a0 a2) fun r0 =>
  bnd (ref04_Chunk r0 a1 a2) fun r1 =>
  some r1 :=
  (callW_eq (P := PP) (T := TT) (pr := RR) 124 [⟨.str, a0⟩, ⟨(.int .i64), a1⟩, ⟨(.int .i64), a2⟩] [] (.int .i64) []).trans (by kernel_rfl)
theorem slices_Cloneapi_Pair_api_Pair.eq (a0 : den (.list tapiPair)) : slices_Cloneapi_Pair_api_Pair a0 =
  br (eqI (ofN (lenL tapiPair a0)) (0 : Int))
   (both
    (some ((), ([], ())))
    (br (fitL tapiPair (appL tapiPair [] a0)) (some ((), ((appL tapiPair [] a0), ()))) none))
   (br (fitL tapiPair (appL tapiPair [] a0)) (some ((), ((appL tapiPair [] a0), ()))) none) :=
  (callW_eq (P := PP) (T := TT) (pr := RR) 119 [⟨(.list tapiPair), a0⟩] [] (.own tapiPair 0) [(.row 84 tapiPair false)]).trans (by kernel_rfl)
theorem pair_ordered.eq (a0 : den (.list tapiPair)) : pair_ordered a0 =
  bnd (pair_Is a0) fun r0 =>
  br r0
   (some a0)
   (bnd (pair_Make a0) fun r1 =>
   some r1) :=
  (callW_eq (P := PP) (T := TT) (pr := RR) 117 [⟨(.list tapiPair), a0⟩] [] (.list tapiPair) []).trans (by kernel_rfl)
theorem pair_place.eq (a0 : den (.list tapiPair)) (a1 : den .str) : pair_place a0 a1 =
  bnd (slices_BinarySearchFuncapi_Pair_api_Pair_string a0 a1) fun r0 =>
  some r0 :=
  (callW_eq (P := PP) (T := TT) (pr := RR) 118 [⟨(.list tapiPair), a0⟩, ⟨.str, a1⟩] [] (.tcons (.int .i64) (.tcons .bool .tnil)) []).trans (by kernel_rfl)
theorem pair_put.eq (a0 : den (.list tapiPair)) (a1 : den tapiPair) : pair_put a0 a1 =
  bnd (pair_place a0 a1.1) fun r0 =>
  br r0.2.1
   (bnd (slices_Cloneapi_Pair_api_Pair a0) fun r1 =>
   br (andB (leI (0 : Int) r0.1) (ltI r0.1 (ofN (lenL tapiPair r1.2.1)))) (some ((), ((setL tapiPair r1.2.1 r0.1 a1), ()))) none)
   (both
    (bnd (slices_Cloneapi_Pair_api_Pair a0) fun r2 =>
    bnd (slices_Insertapi_Pair_api_Pair r0.1 r2.2.1 (a1 :: [])) fun r3 =>
    some ((), (r3.2.1, ())))
    (bnd (slices_Cloneapi_Pair_api_Pair a0) fun r4 =>
    bnd (slices_Insertapi_Pair_api_Pair r0.1 r4.2.1 (a1 :: [])) fun r5 =>
    some ((), (r5.2.1, ())))) :=
  (callW_eq (P := PP) (T := TT) (pr := RR) 150 [⟨(.list tapiPair), a0⟩, ⟨tapiPair, a1⟩] [] (.own tapiPair 0) [(.row 84 tapiPair false)]).trans (by kernel_rfl)
theorem pair_Make.eq (a0 : den (.list tapiPair)) : pair_Make a0 =
  pair_Make.l0 a0 (ofN (lenL tapiPair a0)) (0 : Int) [] :=
  (callW_eq (P := PP) (T := TT) (pr := RR) 138 [⟨(.list tapiPair), a0⟩] [] (.list tapiPair) []).trans (by kernel_rfl)
theorem pair_Make.l0.eq (x0 : den (.list tapiPair)) (x1 : den (.int .i64)) (x2 : den (.int .i64)) (x3 : denO (.row 84 tapiPair false)) : pair_Make.l0 x0 x1 x2 x3 =
  br (ltI x2 x1)
   (br (andB (leI (0 : Int) x2) (ltI x2 (ofN (lenL tapiPair x0)))) (bnd (pair_put x3 (ixL tapiPair x0 x2)) fun r0 =>
   pair_Make.l0 x0 x1 (addI .i64 x2 (1 : Int)) r0.2.1) none)
   (some x3) :=
  (loopB_eq (P := PP) (T := TT) (C := CF) [1, 1, 0, 1, 0, 0] [1, 1, 0, 1, 0, 0] 138 0 ⟨[(3, ⟨(.own tapiPair 0), ()⟩), (6, ⟨(.list tapiPair), x0⟩), (7, ⟨(.int .i64), x1⟩), (8, ⟨(.int .i64), x2⟩)], [⟨(.row 84 tapiPair false), x3⟩]⟩ (blockK 0 (seqK false [1, 1, 1] (BF 138 0 [1, 1, 1]) (finF 138 (.list tapiPair) [] 0)))).trans (by kernel_rfl)
theorem node_Branch_o.eq (a0 : den (.int .u32)) (a1 : den (.list (.int .i64))) (a2 : den (.int .i64)) : node_Branch_o a0 a1 a2 =
  bnd (slices_Cloneapi_Ref_api_Ref a1) fun r0 =>
  some (((2 : Int), (ByteArray.empty, (ByteArray.empty, (a0, ((), ((0 : Int), ((), (a2, ((0 : Int), ()))))))))), (r0.2.1, ([], ()))) :=
  (callW_eq (P := PP) (T := TT) (pr := RR) 126 [⟨(.int .u32), a0⟩, ⟨(.list (.int .i64)), a1⟩, ⟨(.int .i64), a2⟩] [] (.pair (.int .i64) (.pair .str (.pair .str (.pair (.int .u32) (.pair (.own (.int .i64) 0) (.pair (.int .i64) (.pair (.own tapiPair 1) (.pair (.int .i64) (.pair (.int .i64) .unit))))))))) [(.row 24 (.int .i64) false), (.row 84 tapiPair false)]).trans (by kernel_rfl)
theorem mask_in.eq (a0 : den (.int .i64)) : mask_in a0 =
  br (leI (0 : Int) a0)
   (some (ltI a0 (32 : Int)))
   (some false) :=
  (callW_eq (P := PP) (T := TT) (pr := RR) 151 [⟨(.int .i64), a0⟩] [] .bool []).trans (by kernel_rfl)
theorem mask_below.eq (a0 : den (.int .i64)) : mask_below a0 =
  br (leI a0 (0 : Int))
   (some (0 : Int))
   (br (leI (32 : Int) a0)
    (some (4294967295 : Int))
    (br (leI (0 : Int) a0) (some (subI .u32 (shlI .u32 (1 : Int) a0) (1 : Int))) none)) :=
  (callW_eq (P := PP) (T := TT) (pr := RR) 153 [⟨(.int .i64), a0⟩] [] (.int .u32) []).trans (by kernel_rfl)
theorem math_bits_OnesCount32.eq (a0 : den (.int .u32)) : math_bits_OnesCount32 a0 =
  br (leI (0 : Int) (24 : Int)) (br (andB (leI (0 : Int) (shrI .u32 a0 (24 : Int))) (ltI (shrI .u32 a0 (24 : Int)) (ofN (lenS (ByteArray.mk #[0, 1, 1, 2, 1, 2, 2, 3, 1, 2, 2, 3, 2, 3, 3, 4, 1, 2, 2, 3, 2, 3, 3, 4, 2, 3, 3, 4, 3, 4, 4, 5, 1, 2, 2, 3, 2, 3, 3, 4, 2, 3, 3, 4, 3, 4, 4, 5, 2, 3, 3, 4, 3, 4, 4, 5, 3, 4, 4, 5, 4, 5, 5, 6, 1, 2, 2, 3, 2, 3, 3, 4, 2, 3, 3, 4, 3, 4, 4, 5, 2, 3, 3, 4, 3, 4, 4, 5, 3, 4, 4, 5, 4, 5, 5, 6, 2, 3, 3, 4, 3, 4, 4, 5, 3, 4, 4, 5, 4, 5, 5, 6, 3, 4, 4, 5, 4, 5, 5, 6, 4, 5, 5, 6, 5, 6, 6, 7, 1, 2, 2, 3, 2, 3, 3, 4, 2, 3, 3, 4, 3, 4, 4, 5, 2, 3, 3, 4, 3, 4, 4, 5, 3, 4, 4, 5, 4, 5, 5, 6, 2, 3, 3, 4, 3, 4, 4, 5, 3, 4, 4, 5, 4, 5, 5, 6, 3, 4, 4, 5, 4, 5, 5, 6, 4, 5, 5, 6, 5, 6, 6, 7, 2, 3, 3, 4, 3, 4, 4, 5, 3, 4, 4, 5, 4, 5, 5, 6, 3, 4, 4, 5, 4, 5, 5, 6, 4, 5, 5, 6, 5, 6, 6, 7, 3, 4, 4, 5, 4, 5, 5, 6, 4, 5, 5, 6, 5, 6, 6, 7, 4, 5, 5, 6, 5, 6, 6, 7, 5, 6, 6, 7, 6, 7, 7, 8]))))) (br (leI (0 : Int) (16 : Int)) (br (andB (leI (0 : Int) (andI .u32 (shrI .u32 a0 (16 : Int)) (255 : Int))) (ltI (andI .u32 (shrI .u32 a0 (16 : Int)) (255 : Int)) (ofN (lenS (ByteArray.mk #[0, 1, 1, 2, 1, 2, 2, 3, 1, 2, 2, 3, 2, 3, 3, 4, 1, 2, 2, 3, 2, 3, 3, 4, 2, 3, 3, 4, 3, 4, 4, 5, 1, 2, 2, 3, 2, 3, 3, 4, 2, 3, 3, 4, 3, 4, 4, 5, 2, 3, 3, 4, 3, 4, 4, 5, 3, 4, 4, 5, 4, 5, 5, 6, 1, 2, 2, 3, 2, 3, 3, 4, 2, 3, 3, 4, 3, 4, 4, 5, 2, 3, 3, 4, 3, 4, 4, 5, 3, 4, 4, 5, 4, 5, 5, 6, 2, 3, 3, 4, 3, 4, 4, 5, 3, 4, 4, 5, 4, 5, 5, 6, 3, 4, 4, 5, 4, 5, 5, 6, 4, 5, 5, 6, 5, 6, 6, 7, 1, 2, 2, 3, 2, 3, 3, 4, 2, 3, 3, 4, 3, 4, 4, 5, 2, 3, 3, 4, 3, 4, 4, 5, 3, 4, 4, 5, 4, 5, 5, 6, 2, 3, 3, 4, 3, 4, 4, 5, 3, 4, 4, 5, 4, 5, 5, 6, 3, 4, 4, 5, 4, 5, 5, 6, 4, 5, 5, 6, 5, 6, 6, 7, 2, 3, 3, 4, 3, 4, 4, 5, 3, 4, 4, 5, 4, 5, 5, 6, 3, 4, 4, 5, 4, 5, 5, 6, 4, 5, 5, 6, 5, 6, 6, 7, 3, 4, 4, 5, 4, 5, 5, 6, 4, 5, 5, 6, 5, 6, 6, 7, 4, 5, 5, 6, 5, 6, 6, 7, 5, 6, 6, 7, 6, 7, 7, 8]))))) (br (leI (0 : Int) (8 : Int)) (br (andB (leI (0 : Int) (andI .u32 (shrI .u32 a0 (8 : Int)) (255 : Int))) (ltI (andI .u32 (shrI .u32 a0 (8 : Int)) (255 : Int)) (ofN (lenS (ByteArray.mk #[0, 1, 1, 2, 1, 2, 2, 3, 1, 2, 2, 3, 2, 3, 3, 4, 1, 2, 2, 3, 2, 3, 3, 4, 2, 3, 3, 4, 3, 4, 4, 5, 1, 2, 2, 3, 2, 3, 3, 4, 2, 3, 3, 4, 3, 4, 4, 5, 2, 3, 3, 4, 3, 4, 4, 5, 3, 4, 4, 5, 4, 5, 5, 6, 1, 2, 2, 3, 2, 3, 3, 4, 2, 3, 3, 4, 3, 4, 4, 5, 2, 3, 3, 4, 3, 4, 4, 5, 3, 4, 4, 5, 4, 5, 5, 6, 2, 3, 3, 4, 3, 4, 4, 5, 3, 4, 4, 5, 4, 5, 5, 6, 3, 4, 4, 5, 4, 5, 5, 6, 4, 5, 5, 6, 5, 6, 6, 7, 1, 2, 2, 3, 2, 3, 3, 4, 2, 3, 3, 4, 3, 4, 4, 5, 2, 3, 3, 4, 3, 4, 4, 5, 3, 4, 4, 5, 4, 5, 5, 6, 2, 3, 3, 4, 3, 4, 4, 5, 3, 4, 4, 5, 4, 5, 5, 6, 3, 4, 4, 5, 4, 5, 5, 6, 4, 5, 5, 6, 5, 6, 6, 7, 2, 3, 3, 4, 3, 4, 4, 5, 3, 4, 4, 5, 4, 5, 5, 6, 3, 4, 4, 5, 4, 5, 5, 6, 4, 5, 5, 6, 5, 6, 6, 7, 3, 4, 4, 5, 4, 5, 5, 6, 4, 5, 5, 6, 5, 6, 6, 7, 4, 5, 5, 6, 5, 6, 6, 7, 5, 6, 6, 7, 6, 7, 7, 8]))))) (br (andB (leI (0 : Int) (andI .u32 a0 (255 : Int))) (ltI (andI .u32 a0 (255 : Int)) (ofN (lenS (ByteArray.mk #[0, 1, 1, 2, 1, 2, 2, 3, 1, 2, 2, 3, 2, 3, 3, 4, 1, 2, 2, 3, 2, 3, 3, 4, 2, 3, 3, 4, 3, 4, 4, 5, 1, 2, 2, 3, 2, 3, 3, 4, 2, 3, 3, 4, 3, 4, 4, 5, 2, 3, 3, 4, 3, 4, 4, 5, 3, 4, 4, 5, 4, 5, 5, 6, 1, 2, 2, 3, 2, 3, 3, 4, 2, 3, 3, 4, 3, 4, 4, 5, 2, 3, 3, 4, 3, 4, 4, 5, 3, 4, 4, 5, 4, 5, 5, 6, 2, 3, 3, 4, 3, 4, 4, 5, 3, 4, 4, 5, 4, 5, 5, 6, 3, 4, 4, 5, 4, 5, 5, 6, 4, 5, 5, 6, 5, 6, 6, 7, 1, 2, 2, 3, 2, 3, 3, 4, 2, 3, 3, 4, 3, 4, 4, 5, 2, 3, 3, 4, 3, 4, 4, 5, 3, 4, 4, 5, 4, 5, 5, 6, 2, 3, 3, 4, 3, 4, 4, 5, 3, 4, 4, 5, 4, 5, 5, 6, 3, 4, 4, 5, 4, 5, 5, 6, 4, 5, 5, 6, 5, 6, 6, 7, 2, 3, 3, 4, 3, 4, 4, 5, 3, 4, 4, 5, 4, 5, 5, 6, 3, 4, 4, 5, 4, 5, 5, 6, 4, 5, 5, 6, 5, 6, 6, 7, 3, 4, 4, 5, 4, 5, 5, 6, 4, 5, 5, 6, 5, 6, 6, 7, 4, 5, 5, 6, 5, 6, 6, 7, 5, 6, 6, 7, 6, 7, 7, 8]))))) (some (wrapI .i64 (addI .u8 (addI .u8 (addI .u8 (getS (ByteArray.mk #[0, 1, 1, 2, 1, 2, 2, 3, 1, 2, 2, 3, 2, 3, 3, 4, 1, 2, 2, 3, 2, 3, 3, 4, 2, 3, 3, 4, 3, 4, 4, 5, 1, 2, 2, 3, 2, 3, 3, 4, 2, 3, 3, 4, 3, 4, 4, 5, 2, 3, 3, 4, 3, 4, 4, 5, 3, 4, 4, 5, 4, 5, 5, 6, 1, 2, 2, 3, 2, 3, 3, 4, 2, 3, 3, 4, 3, 4, 4, 5, 2, 3, 3, 4, 3, 4, 4, 5, 3, 4, 4, 5, 4, 5, 5, 6, 2, 3, 3, 4, 3, 4, 4, 5, 3, 4, 4, 5, 4, 5, 5, 6, 3, 4, 4, 5, 4, 5, 5, 6, 4, 5, 5, 6, 5, 6, 6, 7, 1, 2, 2, 3, 2, 3, 3, 4, 2, 3, 3, 4, 3, 4, 4, 5, 2, 3, 3, 4, 3, 4, 4, 5, 3, 4, 4, 5, 4, 5, 5, 6, 2, 3, 3, 4, 3, 4, 4, 5, 3, 4, 4, 5, 4, 5, 5, 6, 3, 4, 4, 5, 4, 5, 5, 6, 4, 5, 5, 6, 5, 6, 6, 7, 2, 3, 3, 4, 3, 4, 4, 5, 3, 4, 4, 5, 4, 5, 5, 6, 3, 4, 4, 5, 4, 5, 5, 6, 4, 5, 5, 6, 5, 6, 6, 7, 3, 4, 4, 5, 4, 5, 5, 6, 4, 5, 5, 6, 5, 6, 6, 7, 4, 5, 5, 6, 5, 6, 6, 7, 5, 6, 6, 7, 6, 7, 7, 8]) (toN (shrI .u32 a0 (24 : Int)))) (getS (ByteArray.mk #[0, 1, 1, 2, 1, 2, 2, 3, 1, 2, 2, 3, 2, 3, 3, 4, 1, 2, 2, 3, 2, 3, 3, 4, 2, 3, 3, 4, 3, 4, 4, 5, 1, 2, 2, 3, 2, 3, 3, 4, 2, 3, 3, 4, 3, 4, 4, 5, 2, 3, 3, 4, 3, 4, 4, 5, 3, 4, 4, 5, 4, 5, 5, 6, 1, 2, 2, 3, 2, 3, 3, 4, 2, 3, 3, 4, 3, 4, 4, 5, 2, 3, 3, 4, 3, 4, 4, 5, 3, 4, 4, 5, 4, 5, 5, 6, 2, 3, 3, 4, 3, 4, 4, 5, 3, 4, 4, 5, 4, 5, 5, 6, 3, 4, 4, 5, 4, 5, 5, 6, 4, 5, 5, 6, 5, 6, 6, 7, 1, 2, 2, 3, 2, 3, 3, 4, 2, 3, 3, 4, 3, 4, 4, 5, 2, 3, 3, 4, 3, 4, 4, 5, 3, 4, 4, 5, 4, 5, 5, 6, 2, 3, 3, 4, 3, 4, 4, 5, 3, 4, 4, 5, 4, 5, 5, 6, 3, 4, 4, 5, 4, 5, 5, 6, 4, 5, 5, 6, 5, 6, 6, 7, 2, 3, 3, 4, 3, 4, 4, 5, 3, 4, 4, 5, 4, 5, 5, 6, 3, 4, 4, 5, 4, 5, 5, 6, 4, 5, 5, 6, 5, 6, 6, 7, 3, 4, 4, 5, 4, 5, 5, 6, 4, 5, 5, 6, 5, 6, 6, 7, 4, 5, 5, 6, 5, 6, 6, 7, 5, 6, 6, 7, 6, 7, 7, 8]) (toN (andI .u32 (shrI .u32 a0 (16 : Int)) (255 : Int))))) (getS (ByteArray.mk #[0, 1, 1, 2, 1, 2, 2, 3, 1, 2, 2, 3, 2, 3, 3, 4, 1, 2, 2, 3, 2, 3, 3, 4, 2, 3, 3, 4, 3, 4, 4, 5, 1, 2, 2, 3, 2, 3, 3, 4, 2, 3, 3, 4, 3, 4, 4, 5, 2, 3, 3, 4, 3, 4, 4, 5, 3, 4, 4, 5, 4, 5, 5, 6, 1, 2, 2, 3, 2, 3, 3, 4, 2, 3, 3, 4, 3, 4, 4, 5, 2, 3, 3, 4, 3, 4, 4, 5, 3, 4, 4, 5, 4, 5, 5, 6, 2, 3, 3, 4, 3, 4, 4, 5, 3, 4, 4, 5, 4, 5, 5, 6, 3, 4, 4, 5, 4, 5, 5, 6, 4, 5, 5, 6, 5, 6, 6, 7, 1, 2, 2, 3, 2, 3, 3, 4, 2, 3, 3, 4, 3, 4, 4, 5, 2, 3, 3, 4, 3, 4, 4, 5, 3, 4, 4, 5, 4, 5, 5, 6, 2, 3, 3, 4, 3, 4, 4, 5, 3, 4, 4, 5, 4, 5, 5, 6, 3, 4, 4, 5, 4, 5, 5, 6, 4, 5, 5, 6, 5, 6, 6, 7, 2, 3, 3, 4, 3, 4, 4, 5, 3, 4, 4, 5, 4, 5, 5, 6, 3, 4, 4, 5, 4, 5, 5, 6, 4, 5, 5, 6, 5, 6, 6, 7, 3, 4, 4, 5, 4, 5, 5, 6, 4, 5, 5, 6, 5, 6, 6, 7, 4, 5, 5, 6, 5, 6, 6, 7, 5, 6, 6, 7, 6, 7, 7, 8]) (toN (andI .u32 (shrI .u32 a0 (8 : Int)) (255 : Int))))) (getS (ByteArray.mk #[0, 1, 1, 2, 1, 2, 2, 3, 1, 2, 2, 3, 2, 3, 3, 4, 1, 2, 2, 3, 2, 3, 3, 4, 2, 3, 3, 4, 3, 4, 4, 5, 1, 2, 2, 3, 2, 3, 3, 4, 2, 3, 3, 4, 3, 4, 4, 5, 2, 3, 3, 4, 3, 4, 4, 5, 3, 4, 4, 5, 4, 5, 5, 6, 1, 2, 2, 3, 2, 3, 3, 4, 2, 3, 3, 4, 3, 4, 4, 5, 2, 3, 3, 4, 3, 4, 4, 5, 3, 4, 4, 5, 4, 5, 5, 6, 2, 3, 3, 4, 3, 4, 4, 5, 3, 4, 4, 5, 4, 5, 5, 6, 3, 4, 4, 5, 4, 5, 5, 6, 4, 5, 5, 6, 5, 6, 6, 7, 1, 2, 2, 3, 2, 3, 3, 4, 2, 3, 3, 4, 3, 4, 4, 5, 2, 3, 3, 4, 3, 4, 4, 5, 3, 4, 4, 5, 4, 5, 5, 6, 2, 3, 3, 4, 3, 4, 4, 5, 3, 4, 4, 5, 4, 5, 5, 6, 3, 4, 4, 5, 4, 5, 5, 6, 4, 5, 5, 6, 5, 6, 6, 7, 2, 3, 3, 4, 3, 4, 4, 5, 3, 4, 4, 5, 4, 5, 5, 6, 3, 4, 4, 5, 4, 5, 5, 6, 4, 5, 5, 6, 5, 6, 6, 7, 3, 4, 4, 5, 4, 5, 5, 6, 4, 5, 5, 6, 5, 6, 6, 7, 4, 5, 5, 6, 5, 6, 6, 7, 5, 6, 6, 7, 6, 7, 7, 8]) (toN (andI .u32 a0 (255 : Int))))))) none) none) none) none) none) none) none :=
  (callW_eq (P := PP) (T := TT) (pr := RR) 152 [⟨(.int .u32), a0⟩] [] (.int .i64) []).trans (by kernel_rfl)
theorem slices_Cloneapi_Ref_api_Ref.eq (a0 : den (.list (.int .i64))) : slices_Cloneapi_Ref_api_Ref a0 =
  br (eqI (ofN (lenL (.int .i64) a0)) (0 : Int))
   (both
    (some ((), ([], ())))
    (br (fitL (.int .i64) (appL (.int .i64) [] a0)) (some ((), ((appL (.int .i64) [] a0), ()))) none))
   (br (fitL (.int .i64) (appL (.int .i64) [] a0)) (some ((), ((appL (.int .i64) [] a0), ()))) none) :=
  (callW_eq (P := PP) (T := TT) (pr := RR) 146 [⟨(.list (.int .i64)), a0⟩] [] (.own (.int .i64) 0) [(.row 24 (.int .i64) false)]).trans (by kernel_rfl)
theorem ref13_long.eq (a0 : den tapiNode) : ref13_long a0 =
  br (ltI (16 : Int) (ofN (lenS a0.2.1)))
   (ref13_long.l0 true (0 : Int) a0)
   (ref13_long.l0 (ltI (16 : Int) (ofN (lenS a0.2.2.1))) (0 : Int) a0) :=
  (callW_eq (P := PP) (T := TT) (pr := RR) 156 [⟨tapiNode, a0⟩] [] .bool []).trans (by kernel_rfl)
theorem ref13_long.l0.eq (x0 : den .bool) (x1 : den (.int .i64)) (x2 : denO (.box tapiNode)) : ref13_long.l0 x0 x1 x2 =
  br (ltI x1 (ofN (lenL tapiPair x2.2.2.2.2.2.2.1)))
   (br x0
    (ref13_long.l0 true (addI .i64 x1 (1 : Int)) x2)
    (br (andB (leI (0 : Int) x1) (ltI x1 (ofN (lenL tapiPair x2.2.2.2.2.2.2.1)))) (br (ltI (16 : Int) (ofN (lenS (ixL tapiPair x2.2.2.2.2.2.2.1 x1).1)))
     (ref13_long.l0 true (addI .i64 x1 (1 : Int)) x2)
     (br (andB (leI (0 : Int) x1) (ltI x1 (ofN (lenL tapiPair x2.2.2.2.2.2.2.1)))) (ref13_long.l0 (ltI (16 : Int) (ofN (lenS (ixL tapiPair x2.2.2.2.2.2.2.1 x1).2.1))) (addI .i64 x1 (1 : Int)) x2) none)) none))
   (some x0) :=
  (loopB_eq (P := PP) (T := TT) (C := CF) [1, 1, 0, 1, 0, 0] [1, 1, 0, 1, 0, 0] 156 0 ⟨[(1, ⟨(.ptr 0 0), ()⟩), (3, ⟨.bool, x0⟩), (4, ⟨(.int .i64), x1⟩)], [⟨(.box tapiNode), x2⟩]⟩ (blockK 0 (seqK false [1, 1, 1] (BF 156 0 [1, 1, 1]) (finF 156 .bool [] 0)))).trans (by kernel_rfl)
theorem ref13_form.eq (a0 : den tapiNode) : ref13_form a0 =
  br (ltI a0.2.2.2.2.2.2.2.2.1 (0 : Int))
   (some false)
   (br (eqI a0.1 (1 : Int))
    (ref13_form.j0 a0.1 true a0)
    (ref13_form.j0 a0.1 (eqI a0.1 (6 : Int)) a0)) :=
  (callW_eq (P := PP) (T := TT) (pr := RR) 157 [⟨tapiNode, a0⟩] [] .bool []).trans (by kernel_rfl)
theorem ref13_form.j0.eq (x0 : den (.int .i64)) (x1 : den .bool) (x2 : denO (.box tapiNode)) : ref13_form.j0 x0 x1 x2 =
  br x1
   (br (eqI x2.2.2.2.2.2.2.2.1 (1 : Int))
    (bnd (ref13_bare x2 false true true true) fun r0 =>
    some r0)
    (some false))
   (br (eqI x0 (2 : Int))
    (ref13_form.l1 (0 : Int) x2)
    (br (eqI x0 (3 : Int))
     (br (leI (2 : Int) (ofN (lenL tapiPair x2.2.2.2.2.2.2.1)))
      (bnd (ref07_Is x2.2.2.2.2.2.2.1) fun r1 =>
      br r1
       (br (eqI x2.2.2.2.2.2.2.2.1 (ofN (lenL tapiPair x2.2.2.2.2.2.2.1)))
        (bnd (ref13_bare x2 true true true false) fun r2 =>
        some r2)
        (some false))
       (some false))
      (some false))
     (br (eqI x0 (4 : Int))
      (br (eqI x2.2.2.2.1 (0 : Int))
       (br (eqI (ofN (lenL (.int .i64) x2.2.2.2.2.1)) (2 : Int))
        (br (leI (1 : Int) x2.2.2.2.2.2.2.2.1)
         (bnd (ref13_bare x2 false false true true) fun r3 =>
         some r3)
         (some false))
        (some false))
       (some false))
      (br (notB (eqI x2.2.2.2.2.2.1 (0 : Int)))
       (br (eqI x2.2.2.2.2.2.2.2.1 (0 : Int))
        (bnd (ref13_bare x2 true true false true) fun r4 =>
        some r4)
        (some false))
       (some false))))) :=
  (congrFun (congrFun (jnO_eq [1, 1, 0, 1, 0, 1] (BF (R := den .bool) 157 0 [1, 1, 0, 1, 0, 1])) ⟨[(1, ⟨(.ptr 0 0), ()⟩), (8, ⟨(.int .i64), x0⟩), (9, ⟨.bool, x1⟩)], [⟨(.box tapiNode), x2⟩]⟩) (blockK 0 (seqK false [1, 1, 1] (BF 157 0 [1, 1, 1]) (finF 157 .bool [] 0)))).trans (by kernel_rfl)
theorem ref13_form.l1.eq (x0 : den (.int .i64)) (x1 : denO (.box tapiNode)) : ref13_form.l1 x0 x1 =
  br (ltI x0 (ofN (lenL (.int .i64) x1.2.2.2.2.1)))
   (br (andB (leI (0 : Int) x0) (ltI x0 (ofN (lenL (.int .i64) x1.2.2.2.2.1)))) (br (eqI (ixL (.int .i64) x1.2.2.2.2.1 x0) (0 : Int))
    (some false)
    (ref13_form.l1 (addI .i64 x0 (1 : Int)) x1)) none)
   (bnd (ref06_All x1.2.2.2.1) fun r0 =>
   br (eqI (ofN (lenL (.int .i64) x1.2.2.2.2.1)) (ofN (lenL (.int .i64) r0)))
    (br (leI (0 : Int) x1.2.2.2.2.2.2.2.1)
     (bnd (ref13_bare x1 true false true true) fun r1 =>
     some r1)
     (some false))
    (some false)) :=
  (loopB_eq (P := PP) (T := TT) (C := CF) [1, 1, 0, 1, 0, 1, 1, 1, 0, 0, 1, 0, 0] [1, 1, 0, 1, 0, 1, 1, 1, 0, 0, 1, 0, 0] 157 0 ⟨[(1, ⟨(.ptr 0 0), ()⟩), (3, ⟨(.int .i64), x0⟩)], [⟨(.box tapiNode), x1⟩]⟩ (blockK 1 (seqK false [1, 1, 0, 1, 0, 1, 1, 1, 0, 1] (BF 157 0 [1, 1, 0, 1, 0, 1, 1, 1, 0, 1]) (blockK 0 (seqK false [1, 1, 1] (BF 157 0 [1, 1, 1]) (finF 157 .bool [] 0)))))).trans (by kernel_rfl)
theorem ref13_Same.eq (a0 : den tapiNode) (a1 : den tapiNode) : ref13_Same a0 a1 =
  br (notB (eqI a0.1 a1.1))
   (some false)
   (br (notB (eqS a0.2.1 a1.2.1))
    (some false)
    (br (notB (eqS a0.2.2.1 a1.2.2.1))
     (some false)
     (br (notB (eqI a0.2.2.2.1 a1.2.2.2.1))
      (some false)
      (br (notB (eqI a0.2.2.2.2.2.1 a1.2.2.2.2.2.1))
       (some false)
       (br (notB (eqI a0.2.2.2.2.2.2.2.1 a1.2.2.2.2.2.2.2.1))
        (some false)
        (br (notB (eqI a0.2.2.2.2.2.2.2.2.1 a1.2.2.2.2.2.2.2.2.1))
         (some false)
         (bnd (ref13_SameRefs a0.2.2.2.2.1 a1.2.2.2.2.1) fun r0 =>
         br r0
          (bnd (ref07_Same a0.2.2.2.2.2.2.1 a1.2.2.2.2.2.2.1) fun r1 =>
          some r1)
          (some false)))))))) :=
  (callW_eq (P := PP) (T := TT) (pr := RR) 56 [⟨tapiNode, a0⟩, ⟨tapiNode, a1⟩] [] .bool []).trans (by kernel_rfl)
theorem node_Tomb.eq (a0 : den .str) (a1 : den .str) : node_Tomb a0 a1 =
  some ((6 : Int), (a0, (a1, ((0 : Int), ([], ((0 : Int), ([], ((1 : Int), ((0 : Int), ()))))))))) :=
  (callW_eq (P := PP) (T := TT) (pr := RR) 125 [⟨.str, a0⟩, ⟨.str, a1⟩] [] tapiNode []).trans (by kernel_rfl)
theorem node_Branch.eq (a0 : den (.int .u32)) (a1 : den (.list (.int .i64))) (a2 : den (.int .i64)) : node_Branch a0 a1 a2 =
  bnd (slices_Cloneapi_Ref_api_Ref a1) fun r0 =>
  some ((2 : Int), (ByteArray.empty, (ByteArray.empty, (a0, (r0.2.1, ((0 : Int), ([], (a2, ((0 : Int), ()))))))))) :=
  (callW_eq (P := PP) (T := TT) (pr := RR) 126 [⟨(.int .u32), a0⟩, ⟨(.list (.int .i64)), a1⟩, ⟨(.int .i64), a2⟩] [] tapiNode []).trans (by kernel_rfl)
theorem node_Tree.eq (a0 : den .str) (a1 : den .str) (a2 : den (.int .i64)) (a3 : den (.int .i64)) (a4 : den (.int .i64)) : node_Tree a0 a1 a2 a3 a4 =
  some ((4 : Int), (a0, (a1, ((0 : Int), ((a2 :: (a3 :: [])), ((0 : Int), ([], (a4, ((0 : Int), ()))))))))) :=
  (callW_eq (P := PP) (T := TT) (pr := RR) 127 [⟨.str, a0⟩, ⟨.str, a1⟩, ⟨(.int .i64), a2⟩, ⟨(.int .i64), a3⟩, ⟨(.int .i64), a4⟩] [] tapiNode []).trans (by kernel_rfl)
theorem node_Inner.eq (a0 : den (.int .i64)) : node_Inner a0 =
  some ((5 : Int), (ByteArray.empty, (ByteArray.empty, ((0 : Int), ([], (a0, ([], ((0 : Int), ((0 : Int), ()))))))))) :=
  (callW_eq (P := PP) (T := TT) (pr := RR) 128 [⟨(.int .i64), a0⟩] [] tapiNode []).trans (by kernel_rfl)
theorem node_long_1.eq (a0 : den tapiPair) : node_long_1 a0 =
  br (ltI (16 : Int) (ofN (lenS a0.1)))
   (some true)
   (some (ltI (16 : Int) (ofN (lenS a0.2.1)))) :=
  (callW_eq (P := PP) (T := TT) (pr := RR) 129 [⟨tapiPair, a0⟩] [] .bool []).trans (by kernel_rfl)
theorem slices_ContainsFuncapi_Pair_api_Pair.eq (a0 : den (.list tapiPair)) : slices_ContainsFuncapi_Pair_api_Pair a0 =
  bnd (slices_IndexFuncapi_Pair_api_Pair a0) fun r0 =>
  some (leI (0 : Int) r0) :=
  (callW_eq (P := PP) (T := TT) (pr := RR) 130 [⟨(.list tapiPair), a0⟩, ⟨(.fn 129 .tnil), ()⟩] [] .bool []).trans (by kernel_rfl)
theorem slices_Equalapi_Ref_api_Ref.eq (a0 : den (.list (.int .i64))) (a1 : den (.list (.int .i64))) : slices_Equalapi_Ref_api_Ref a0 a1 =
  br (notB (eqI (ofN (lenL (.int .i64) a0)) (ofN (lenL (.int .i64) a1))))
   (some false)
   (slices_Equalapi_Ref_api_Ref.l0 a0 a1 (ofN (lenL (.int .i64) a0)) (0 : Int)) :=
  (callW_eq (P := PP) (T := TT) (pr := RR) 131 [⟨(.list (.int .i64)), a0⟩, ⟨(.list (.int .i64)), a1⟩] [] .bool []).trans (by kernel_rfl)
theorem slices_Equalapi_Ref_api_Ref.l0.eq (x0 : den (.list (.int .i64))) (x1 : den (.list (.int .i64))) (x2 : den (.int .i64)) (x3 : den (.int .i64)) : slices_Equalapi_Ref_api_Ref.l0 x0 x1 x2 x3 =
  br (ltI x3 x2)
   (br (andB (leI (0 : Int) x3) (ltI x3 (ofN (lenL (.int .i64) x0)))) (br (andB (leI (0 : Int) x3) (ltI x3 (ofN (lenL (.int .i64) x1)))) (br (notB (eqI (ixL (.int .i64) x0 x3) (ixL (.int .i64) x1 x3)))
    (some false)
    (slices_Equalapi_Ref_api_Ref.l0 x0 x1 x2 (addI .i64 x3 (1 : Int)))) none) none)
   (some true) :=
  (loopB_eq (P := PP) (T := TT) (C := CF) [1, 1, 0, 1, 0, 0] [1, 1, 0, 1, 0, 0] 131 0 ⟨[(0, ⟨(.list (.int .i64)), x0⟩), (1, ⟨(.list (.int .i64)), x1⟩), (12, ⟨(.int .i64), x2⟩), (13, ⟨(.int .i64), x3⟩)], []⟩ (blockK 0 (seqK false [1, 1, 1] (BF 131 0 [1, 1, 1]) (finF 131 .bool [] 0)))).trans (by kernel_rfl)
theorem slices_Equalapi_Pair_api_Pair.eq (a0 : den (.list tapiPair)) (a1 : den (.list tapiPair)) : slices_Equalapi_Pair_api_Pair a0 a1 =
  br (notB (eqI (ofN (lenL tapiPair a0)) (ofN (lenL tapiPair a1))))
   (some false)
   (slices_Equalapi_Pair_api_Pair.l0 a0 a1 (ofN (lenL tapiPair a0)) (0 : Int)) :=
  (callW_eq (P := PP) (T := TT) (pr := RR) 132 [⟨(.list tapiPair), a0⟩, ⟨(.list tapiPair), a1⟩] [] .bool []).trans (by kernel_rfl)
theorem slices_Equalapi_Pair_api_Pair.l0.eq (x0 : den (.list tapiPair)) (x1 : den (.list tapiPair)) (x2 : den (.int .i64)) (x3 : den (.int .i64)) : slices_Equalapi_Pair_api_Pair.l0 x0 x1 x2 x3 =
  br (ltI x3 x2)
   (br (andB (leI (0 : Int) x3) (ltI x3 (ofN (lenL tapiPair x0)))) (br (andB (leI (0 : Int) x3) (ltI x3 (ofN (lenL tapiPair x1)))) (br (notB (andB (eqS (ixL tapiPair x0 x3).1 (ixL tapiPair x1 x3).1) (andB (eqS (ixL tapiPair x0 x3).2.1 (ixL tapiPair x1 x3).2.1) true)))
    (some false)
    (slices_Equalapi_Pair_api_Pair.l0 x0 x1 x2 (addI .i64 x3 (1 : Int)))) none) none)
   (some true) :=
  (loopB_eq (P := PP) (T := TT) (C := CF) [1, 1, 0, 1, 0, 0] [1, 1, 0, 1, 0, 0] 132 0 ⟨[(0, ⟨(.list tapiPair), x0⟩), (1, ⟨(.list tapiPair), x1⟩), (12, ⟨(.int .i64), x2⟩), (13, ⟨(.int .i64), x3⟩)], []⟩ (blockK 0 (seqK false [1, 1, 1] (BF 132 0 [1, 1, 1]) (finF 132 .bool [] 0)))).trans (by kernel_rfl)
theorem mask_Count.eq (a0 : den (.int .u32)) : mask_Count a0 =
  bnd (math_bits_OnesCount32 a0) fun r0 =>
  some r0 :=
  (callW_eq (P := PP) (T := TT) (pr := RR) 133 [⟨(.int .u32), a0⟩] [] (.int .i64) []).trans (by kernel_rfl)
theorem slices_Containsapi_Ref_api_Ref.eq (a0 : den (.list (.int .i64))) (a1 : den (.int .i64)) : slices_Containsapi_Ref_api_Ref a0 a1 =
  bnd (slices_Indexapi_Ref_api_Ref a0 a1) fun r0 =>
  some (leI (0 : Int) r0) :=
  (callW_eq (P := PP) (T := TT) (pr := RR) 134 [⟨(.list (.int .i64)), a0⟩, ⟨(.int .i64), a1⟩] [] .bool []).trans (by kernel_rfl)
theorem pair_Is.eq (a0 : den (.list tapiPair)) : pair_Is a0 =
  pair_Is.l0 a0 (ofN (lenL tapiPair a0)) (0 : Int) :=
  (callW_eq (P := PP) (T := TT) (pr := RR) 135 [⟨(.list tapiPair), a0⟩] [] .bool []).trans (by kernel_rfl)
theorem pair_Is.l0.eq (x0 : den (.list tapiPair)) (x1 : den (.int .i64)) (x2 : den (.int .i64)) : pair_Is.l0 x0 x1 x2 =
  br (ltI x2 x1)
   (br (ltI (0 : Int) x2)
    (br (andB (leI (0 : Int) (subI .i64 x2 (1 : Int))) (ltI (subI .i64 x2 (1 : Int)) (ofN (lenL tapiPair x0)))) (br (andB (leI (0 : Int) x2) (ltI x2 (ofN (lenL tapiPair x0)))) (bnd (order_Compare (ixL tapiPair x0 (subI .i64 x2 (1 : Int))).1 (ixL tapiPair x0 x2).1) fun r0 =>
    br (leI (0 : Int) r0)
     (some false)
     (pair_Is.l0 x0 x1 (addI .i64 x2 (1 : Int)))) none) none)
    (pair_Is.l0 x0 x1 (addI .i64 x2 (1 : Int))))
   (some true) :=
  (loopB_eq (P := PP) (T := TT) (C := CF) [1, 0, 1, 0, 0] [1, 0, 1, 0, 0] 135 0 ⟨[(0, ⟨(.list tapiPair), x0⟩), (5, ⟨(.int .i64), x1⟩), (6, ⟨(.int .i64), x2⟩)], []⟩ (blockK 0 (seqK false [1, 1] (BF 135 0 [1, 1]) (finF 135 .bool [] 0)))).trans (by kernel_rfl)
theorem heap_may.eq (a0 : den (.list tapiNode)) (a1 : den (.int .i64)) : heap_may a0 a1 =
  br (ltI a1 (0 : Int))
   (some (4 : Int))
   (br (ltI (ofN (lenL tapiNode a0)) a1)
    (some (4 : Int))
    (bnd (heap_May a0) fun r0 =>
    some r0)) :=
  (callW_eq (P := PP) (T := TT) (pr := RR) 136 [⟨(.list tapiNode), a0⟩, ⟨(.int .i64), a1⟩] [] (.int .i64) []).trans (by kernel_rfl)
theorem heap_binds.eq (a0 : den (.list tapiNode)) (a1 : den (.int .i64)) : heap_binds a0 a1 =
  br (eqI a1 (0 : Int))
   (some ((), ([], ())))
   (br (andB (leI (0 : Int) (subI .i64 a1 (1 : Int))) (ltI (subI .i64 a1 (1 : Int)) (ofN (lenL tapiNode a0)))) (br (eqI (ixL tapiNode a0 (subI .i64 a1 (1 : Int))).1 (4 : Int))
    (br (andB (leI (0 : Int) (0 : Int)) (ltI (0 : Int) (ofN (lenL (.int .i64) (ixL tapiNode a0 (subI .i64 a1 (1 : Int))).2.2.2.2.1)))) (br (andB (leI (0 : Int) (1 : Int)) (ltI (1 : Int) (ofN (lenL (.int .i64) (ixL tapiNode a0 (subI .i64 a1 (1 : Int))).2.2.2.2.1)))) (bnd (heap_binds a0 (ixL (.int .i64) (ixL tapiNode a0 (subI .i64 a1 (1 : Int))).2.2.2.2.1 (0 : Int))) fun r0 =>
    bnd (node_Binds (ixL tapiNode a0 (subI .i64 a1 (1 : Int)))) fun r1 =>
    br (fitL tapiPair (appL tapiPair r0.2.1 r1.2.1)) (bnd (heap_binds a0 (ixL (.int .i64) (ixL tapiNode a0 (subI .i64 a1 (1 : Int))).2.2.2.2.1 (1 : Int))) fun r2 =>
    br (fitL tapiPair (appL tapiPair (appL tapiPair r0.2.1 r1.2.1) r2.2.1)) (some ((), ((appL tapiPair (appL tapiPair r0.2.1 r1.2.1) r2.2.1), ()))) none) none) none) none)
    (bnd (node_Binds (ixL tapiNode a0 (subI .i64 a1 (1 : Int)))) fun r3 =>
    bnd (node_Refs (ixL tapiNode a0 (subI .i64 a1 (1 : Int)))) fun r4 =>
    heap_binds.l0 a0 r4 (ofN (lenL (.int .i64) r4)) (0 : Int) r3.2.1)) none) :=
  (callW_eq (P := PP) (T := TT) (pr := RR) 137 [⟨(.list tapiNode), a0⟩, ⟨(.int .i64), a1⟩] [] (.own tapiPair 0) [(.row 84 tapiPair false)]).trans (by kernel_rfl)
theorem heap_binds.l0.eq (x0 : den (.list tapiNode)) (x1 : den (.list (.int .i64))) (x2 : den (.int .i64)) (x3 : den (.int .i64)) (x4 : denO (.row 84 tapiPair false)) : heap_binds.l0 x0 x1 x2 x3 x4 =
  br (ltI x3 x2)
   (br (andB (leI (0 : Int) x3) (ltI x3 (ofN (lenL (.int .i64) x1)))) (bnd (heap_binds x0 (ixL (.int .i64) x1 x3)) fun r0 =>
   br (fitL tapiPair (appL tapiPair x4 r0.2.1)) (heap_binds.l0 x0 x1 x2 (addI .i64 x3 (1 : Int)) (appL tapiPair x4 r0.2.1)) none) none)
   (some ((), (x4, ()))) :=
  (loopB_eq (P := PP) (T := TT) (C := CF) [1, 1, 1, 1, 1, 0, 1, 0, 0] [1, 1, 1, 1, 1, 0, 1, 0, 0] 137 0 ⟨[(0, ⟨(.list tapiNode), x0⟩), (6, ⟨(.own tapiPair 0), ()⟩), (38, ⟨(.list (.int .i64)), x1⟩), (39, ⟨(.int .i64), x2⟩), (40, ⟨(.int .i64), x3⟩)], [⟨(.row 84 tapiPair false), x4⟩]⟩ (blockK 0 (seqK false [1, 1, 1, 1, 1, 1] (BF 137 0 [1, 1, 1, 1, 1, 1]) (finF 137 (.own tapiPair 0) [(.row 84 tapiPair false)] 0)))).trans (by kernel_rfl)
theorem trie_maker_trie.eq (a0 : den (.list tapiPair)) (a1 : den (.int .i64)) (a2 : denO (.box (.pair (.int .i64) (.pair (.own tapiNode 1) .unit)))) (a3 : denO (.row 58 tapiNode true)) : trie_maker_trie a0 a1 a2 a3 =
  br (eqI (ofN (lenL tapiPair a0)) (0 : Int))
   (some ((0 : Int), ((a2.1, ((), ())), (a3, ()))))
   (br (eqI (ofN (lenL tapiPair a0)) (1 : Int))
    (br (andB (leI (0 : Int) (0 : Int)) (ltI (0 : Int) (ofN (lenL tapiPair a0)))) (br (andB (leI (0 : Int) (0 : Int)) (ltI (0 : Int) (ofN (lenL tapiPair a0)))) (bnd (node_Leaf (ixL tapiPair a0 (0 : Int)).1 (ixL tapiPair a0 (0 : Int)).2.1) fun r0 =>
    bnd (trie_maker_add r0 (a2.1, ((), ())) a3) fun r1 =>
    some (r1.1, ((r1.2.1.1, ((), ())), (r1.2.2.1, ())))) none) none)
    (bnd (hash_Levels a2.1) fun r2 =>
    br (leI r2 a1)
     (bnd (node_Bucket a0) fun r3 =>
     bnd (trie_maker_add r3 (a2.1, ((), ())) a3) fun r4 =>
     some (r4.1, ((r4.2.1.1, ((), ())), (r4.2.2.1, ()))))
     (bnd (trie_maker_parted a0 a1 (a2.1, ((), ())) a3) fun r5 =>
     bnd (mask_All r5.1.2.1) fun r6 =>
     trie_maker_trie.l0 a0 a1 r5.1.1 r5.1.2.1 r6 (ofN (lenL (.int .i64) r6)) (0 : Int) (r5.2.1.1, ((), ())) r5.2.2.1 []))) :=
  (callW_eq (P := PP) (T := TT) (pr := RR) 139 [⟨(.ptr 0 0), ()⟩, ⟨(.list tapiPair), a0⟩, ⟨(.int .i64), a1⟩] [⟨(.box (.pair (.int .i64) (.pair (.own tapiNode 1) .unit))), a2⟩, ⟨(.row 58 tapiNode true), a3⟩] (.int .i64) [(.box (.pair (.int .i64) (.pair (.own tapiNode 1) .unit))), (.row 58 tapiNode false)]).trans (by kernel_rfl)
theorem trie_maker_trie.l0.eq (x0 : den (.list tapiPair)) (x1 : den (.int .i64)) (x2 : den (.mp tapiPair)) (x3 : den (.int .u32)) (x4 : den (.list (.int .i64))) (x5 : den (.int .i64)) (x6 : den (.int .i64)) (x7 : denO (.box (.pair (.int .i64) (.pair (.own tapiNode 1) .unit)))) (x8 : denO (.row 58 tapiNode true)) (x9 : denO (.row 24 (.int .i64) false)) : trie_maker_trie.l0 x0 x1 x2 x3 x4 x5 x6 x7 x8 x9 =
  br (ltI x6 x5)
   (br (andB (leI (0 : Int) x6) (ltI x6 (ofN (lenL (.int .i64) x4)))) (bnd (trie_maker_trie (getM tapiPair x2 (ixL (.int .i64) x4 x6)) (addI .i64 x1 (1 : Int)) (x7.1, ((), ())) x8) fun r0 =>
   br (fitL (.int .i64) (appL (.int .i64) x9 (r0.1 :: []))) (trie_maker_trie.l1 x0 x1 x2 x3 x4 x5 (addI .i64 x6 (1 : Int)) (r0.2.1.1, ((), ())) r0.2.2.1 (appL (.int .i64) x9 (r0.1 :: []))) none) none)
   (bnd (node_Branch x3 x9 (ofN (lenL tapiPair x0))) fun r1 =>
   bnd (trie_maker_add r1 (x7.1, ((), ())) x8) fun r2 =>
   some (r2.1, ((r2.2.1.1, ((), ())), (r2.2.2.1, ())))) :=
  (loopB_eq (P := PP) (T := TT) (C := CF) [1, 1, 1, 1, 0, 1, 0, 0] [1, 1, 1, 1, 0, 1, 0, 0] 139 2 ⟨[(0, ⟨(.ptr 0 0), ()⟩), (1, ⟨(.list tapiPair), x0⟩), (2, ⟨(.int .i64), x1⟩), (7, ⟨(.mp tapiPair), x2⟩), (8, ⟨(.int .u32), x3⟩), (9, ⟨(.own (.int .i64) 2), ()⟩), (51, ⟨(.list (.int .i64)), x4⟩), (52, ⟨(.int .i64), x5⟩), (53, ⟨(.int .i64), x6⟩)], [⟨(.box (.pair (.int .i64) (.pair (.own tapiNode 1) .unit))), x7⟩, ⟨(.row 58 tapiNode true), x8⟩, ⟨(.row 24 (.int .i64) false), x9⟩]⟩ (blockK 1 (seqK false [1, 1, 1, 1, 1] (BF 139 2 [1, 1, 1, 1, 1]) (finF 139 (.int .i64) [(.box (.pair (.int .i64) (.pair (.own tapiNode 1) .unit))), (.row 58 tapiNode false)] 2)))).trans (by kernel_rfl)
theorem trie_maker_trie.l1.eq (x0 : den (.list tapiPair)) (x1 : den (.int .i64)) (x2 : den (.mp tapiPair)) (x3 : den (.int .u32)) (x4 : den (.list (.int .i64))) (x5 : den (.int .i64)) (x6 : den (.int .i64)) (x7 : denO (.box (.pair (.int .i64) (.pair (.own tapiNode 1) .unit)))) (x8 : denO (.row 58 tapiNode false)) (x9 : denO (.row 24 (.int .i64) false)) : trie_maker_trie.l1 x0 x1 x2 x3 x4 x5 x6 x7 x8 x9 =
  br (ltI x6 x5)
   (br (andB (leI (0 : Int) x6) (ltI x6 (ofN (lenL (.int .i64) x4)))) (bnd (trie_maker_trie (getM tapiPair x2 (ixL (.int .i64) x4 x6)) (addI .i64 x1 (1 : Int)) (x7.1, ((), ())) x8) fun r0 =>
   br (fitL (.int .i64) (appL (.int .i64) x9 (r0.1 :: []))) (trie_maker_trie.l1 x0 x1 x2 x3 x4 x5 (addI .i64 x6 (1 : Int)) (r0.2.1.1, ((), ())) r0.2.2.1 (appL (.int .i64) x9 (r0.1 :: []))) none) none)
   (bnd (node_Branch x3 x9 (ofN (lenL tapiPair x0))) fun r1 =>
   bnd (trie_maker_add r1 (x7.1, ((), ())) x8) fun r2 =>
   some (r2.1, ((r2.2.1.1, ((), ())), (r2.2.2.1, ())))) :=
  (loopB_eq (P := PP) (T := TT) (C := CF) [1, 1, 1, 1, 0, 1, 0, 0] [1, 1, 1, 1, 0, 1, 0, 0] 139 2 ⟨[(0, ⟨(.ptr 0 0), ()⟩), (1, ⟨(.list tapiPair), x0⟩), (2, ⟨(.int .i64), x1⟩), (7, ⟨(.mp tapiPair), x2⟩), (8, ⟨(.int .u32), x3⟩), (9, ⟨(.own (.int .i64) 2), ()⟩), (51, ⟨(.list (.int .i64)), x4⟩), (52, ⟨(.int .i64), x5⟩), (53, ⟨(.int .i64), x6⟩)], [⟨(.box (.pair (.int .i64) (.pair (.own tapiNode 1) .unit))), x7⟩, ⟨(.row 58 tapiNode false), x8⟩, ⟨(.row 24 (.int .i64) false), x9⟩]⟩ (blockK 1 (seqK false [1, 1, 1, 1, 1] (BF 139 2 [1, 1, 1, 1, 1]) (finF 139 (.int .i64) [(.box (.pair (.int .i64) (.pair (.own tapiNode 1) .unit))), (.row 58 tapiNode false)] 2)))).trans (by kernel_rfl)
theorem heap_same.eq (a0 : den (.list tapiNode)) (a1 : den (.int .i64)) (a2 : den (.list tapiNode)) (a3 : den (.int .i64)) : heap_same a0 a1 a2 a3 =
  br (eqI a1 (0 : Int))
   (heap_same.j0 a0 a1 a2 a3 true)
   (heap_same.j0 a0 a1 a2 a3 (eqI a3 (0 : Int))) :=
  (callW_eq (P := PP) (T := TT) (pr := RR) 140 [⟨(.list tapiNode), a0⟩, ⟨(.int .i64), a1⟩, ⟨(.list tapiNode), a2⟩, ⟨(.int .i64), a3⟩] [] .bool []).trans (by kernel_rfl)
theorem heap_same.j0.eq (x0 : den (.list tapiNode)) (x1 : den (.int .i64)) (x2 : den (.list tapiNode)) (x3 : den (.int .i64)) (x4 : den .bool) : heap_same.j0 x0 x1 x2 x3 x4 =
  br x4
   (some (eqI x1 x3))
   (br (andB (leI (0 : Int) (subI .i64 x1 (1 : Int))) (ltI (subI .i64 x1 (1 : Int)) (ofN (lenL tapiNode x0)))) (br (andB (leI (0 : Int) (subI .i64 x3 (1 : Int))) (ltI (subI .i64 x3 (1 : Int)) (ofN (lenL tapiNode x2)))) (both
    (both
     (bnd (heap_bare (ixL tapiNode x0 (subI .i64 x1 (1 : Int)))) fun r0 =>
     bnd (heap_bare (ixL tapiNode x2 (subI .i64 x3 (1 : Int)))) fun r1 =>
     bnd (node_Same r0 r1) fun r2 =>
     br (notB r2)
      (some false)
      (bnd (node_Refs (ixL tapiNode x0 (subI .i64 x1 (1 : Int)))) fun r3 =>
      bnd (node_Refs (ixL tapiNode x2 (subI .i64 x3 (1 : Int)))) fun r4 =>
      heap_same.l1 x0 x2 r3 r4 (ofN (lenL (.int .i64) r3)) (0 : Int)))
     (bnd (heap_bare (ixL tapiNode x0 (subI .i64 x1 (1 : Int)))) fun r5 =>
     bnd (heap_bare (ixL tapiNode x2 (subI .i64 x3 (1 : Int)))) fun r6 =>
     bnd (node_Same r5 r6) fun r7 =>
     br (notB r7)
      (some false)
      (bnd (node_Refs (ixL tapiNode x0 (subI .i64 x1 (1 : Int)))) fun r8 =>
      bnd (node_Refs (ixL tapiNode x2 (subI .i64 x3 (1 : Int)))) fun r9 =>
      heap_same.l1 x0 x2 r8 r9 (ofN (lenL (.int .i64) r8)) (0 : Int))))
    (both
     (both
      (bnd (heap_bare (ixL tapiNode x0 (subI .i64 x1 (1 : Int)))) fun r10 =>
      bnd (heap_bare (ixL tapiNode x2 (subI .i64 x3 (1 : Int)))) fun r11 =>
      bnd (node_Same r10 r11) fun r12 =>
      br (notB r12)
       (some false)
       (bnd (node_Refs (ixL tapiNode x0 (subI .i64 x1 (1 : Int)))) fun r13 =>
       bnd (node_Refs (ixL tapiNode x2 (subI .i64 x3 (1 : Int)))) fun r14 =>
       heap_same.l1 x0 x2 r13 r14 (ofN (lenL (.int .i64) r13)) (0 : Int)))
      (both
       (bnd (heap_bare (ixL tapiNode x0 (subI .i64 x1 (1 : Int)))) fun r15 =>
       bnd (heap_bare (ixL tapiNode x2 (subI .i64 x3 (1 : Int)))) fun r16 =>
       bnd (node_Same r15 r16) fun r17 =>
       br (notB r17)
        (some false)
        (bnd (node_Refs (ixL tapiNode x0 (subI .i64 x1 (1 : Int)))) fun r18 =>
        bnd (node_Refs (ixL tapiNode x2 (subI .i64 x3 (1 : Int)))) fun r19 =>
        heap_same.l1 x0 x2 r18 r19 (ofN (lenL (.int .i64) r18)) (0 : Int)))
       (bnd (heap_bare (ixL tapiNode x0 (subI .i64 x1 (1 : Int)))) fun r20 =>
       bnd (heap_bare (ixL tapiNode x2 (subI .i64 x3 (1 : Int)))) fun r21 =>
       bnd (node_Same r20 r21) fun r22 =>
       br (notB r22)
        (some false)
        (bnd (node_Refs (ixL tapiNode x0 (subI .i64 x1 (1 : Int)))) fun r23 =>
        bnd (node_Refs (ixL tapiNode x2 (subI .i64 x3 (1 : Int)))) fun r24 =>
        heap_same.l1 x0 x2 r23 r24 (ofN (lenL (.int .i64) r23)) (0 : Int)))))
     (both
      (bnd (heap_bare (ixL tapiNode x0 (subI .i64 x1 (1 : Int)))) fun r25 =>
      bnd (heap_bare (ixL tapiNode x2 (subI .i64 x3 (1 : Int)))) fun r26 =>
      bnd (node_Same r25 r26) fun r27 =>
      br (notB r27)
       (some false)
       (bnd (node_Refs (ixL tapiNode x0 (subI .i64 x1 (1 : Int)))) fun r28 =>
       bnd (node_Refs (ixL tapiNode x2 (subI .i64 x3 (1 : Int)))) fun r29 =>
       heap_same.l1 x0 x2 r28 r29 (ofN (lenL (.int .i64) r28)) (0 : Int)))
      (both
       (bnd (heap_bare (ixL tapiNode x0 (subI .i64 x1 (1 : Int)))) fun r30 =>
       bnd (heap_bare (ixL tapiNode x2 (subI .i64 x3 (1 : Int)))) fun r31 =>
       bnd (node_Same r30 r31) fun r32 =>
       br (notB r32)
        (some false)
        (bnd (node_Refs (ixL tapiNode x0 (subI .i64 x1 (1 : Int)))) fun r33 =>
        bnd (node_Refs (ixL tapiNode x2 (subI .i64 x3 (1 : Int)))) fun r34 =>
        heap_same.l1 x0 x2 r33 r34 (ofN (lenL (.int .i64) r33)) (0 : Int)))
       (bnd (heap_bare (ixL tapiNode x0 (subI .i64 x1 (1 : Int)))) fun r35 =>
       bnd (heap_bare (ixL tapiNode x2 (subI .i64 x3 (1 : Int)))) fun r36 =>
       bnd (node_Same r35 r36) fun r37 =>
       br (notB r37)
        (some false)
        (bnd (node_Refs (ixL tapiNode x0 (subI .i64 x1 (1 : Int)))) fun r38 =>
        bnd (node_Refs (ixL tapiNode x2 (subI .i64 x3 (1 : Int)))) fun r39 =>
        heap_same.l1 x0 x2 r38 r39 (ofN (lenL (.int .i64) r38)) (0 : Int))))))) none) none) :=
  (congrFun (congrFun (jnO_eq [1, 0, 1] (BF (R := den .bool) 140 0 [1, 0, 1])) ⟨[(0, ⟨(.list tapiNode), x0⟩), (1, ⟨(.int .i64), x1⟩), (2, ⟨(.list tapiNode), x2⟩), (3, ⟨(.int .i64), x3⟩), (19, ⟨.bool, x4⟩)], []⟩) (seqK false [1, 1] (BF 140 0 [1, 1]) (finF 140 .bool [] 0))).trans (by kernel_rfl)
theorem heap_same.l1.eq (x0 : den (.list tapiNode)) (x1 : den (.list tapiNode)) (x2 : den (.list (.int .i64))) (x3 : den (.list (.int .i64))) (x4 : den (.int .i64)) (x5 : den (.int .i64)) : heap_same.l1 x0 x1 x2 x3 x4 x5 =
  br (ltI x5 x4)
   (br (andB (leI (0 : Int) x5) (ltI x5 (ofN (lenL (.int .i64) x2)))) (br (andB (leI (0 : Int) x5) (ltI x5 (ofN (lenL (.int .i64) x3)))) (bnd (heap_same x0 (ixL (.int .i64) x2 x5) x1 (ixL (.int .i64) x3 x5)) fun r0 =>
   br (notB r0)
    (some false)
    (heap_same.l1 x0 x1 x2 x3 x4 (addI .i64 x5 (1 : Int)))) none) none)
   (some true) :=
  (loopB_eq (P := PP) (T := TT) (C := CF) [1, 1, 1, 1, 1, 0, 1, 0, 0] [1, 1, 1, 1, 1, 0, 1, 0, 0] 140 0 ⟨[(0, ⟨(.list tapiNode), x0⟩), (2, ⟨(.list tapiNode), x1⟩), (11, ⟨(.list (.int .i64)), x2⟩), (12, ⟨(.list (.int .i64)), x3⟩), (44, ⟨(.int .i64), x4⟩), (45, ⟨(.int .i64), x5⟩)], []⟩ (blockK 0 (seqK false [1, 1, 1, 1, 1, 1] (BF 140 0 [1, 1, 1, 1, 1, 1]) (finF 140 .bool [] 0)))).trans (by kernel_rfl)
theorem node_Refs.eq (a0 : den tapiNode) : node_Refs a0 =
  both
   (bnd (slices_Cloneapi_Ref_api_Ref a0.2.2.2.2.1) fun r0 =>
   br (fitL (.int .i64) (appL (.int .i64) r0.2.1 (a0.2.2.2.2.2.1 :: []))) (node_Refs.l0 (ofN (lenL (.int .i64) (appL (.int .i64) r0.2.1 (a0.2.2.2.2.2.1 :: [])))) (0 : Int) [] (appL (.int .i64) r0.2.1 (a0.2.2.2.2.2.1 :: []))) none)
   (bnd (slices_Cloneapi_Ref_api_Ref a0.2.2.2.2.1) fun r1 =>
   br (fitL (.int .i64) (appL (.int .i64) r1.2.1 (a0.2.2.2.2.2.1 :: []))) (node_Refs.l0 (ofN (lenL (.int .i64) (appL (.int .i64) r1.2.1 (a0.2.2.2.2.2.1 :: [])))) (0 : Int) [] (appL (.int .i64) r1.2.1 (a0.2.2.2.2.2.1 :: []))) none) :=
  (callW_eq (P := PP) (T := TT) (pr := RR) 142 [⟨tapiNode, a0⟩] [] (.list (.int .i64)) []).trans (by kernel_rfl)
theorem node_Refs.l0.eq (x0 : den (.int .i64)) (x1 : den (.int .i64)) (x2 : denO (.row 24 (.int .i64) false)) (x3 : denO (.row 24 (.int .i64) false)) : node_Refs.l0 x0 x1 x2 x3 =
  br (ltI x1 x0)
   (br (andB (leI (0 : Int) x1) (ltI x1 (ofN (lenL (.int .i64) x3)))) (br (notB (eqI (ixL (.int .i64) x3 x1) (0 : Int)))
    (br (fitL (.int .i64) (appL (.int .i64) x2 ((ixL (.int .i64) x3 x1) :: []))) (node_Refs.l0 x0 (addI .i64 x1 (1 : Int)) (appL (.int .i64) x2 ((ixL (.int .i64) x3 x1) :: [])) x3) none)
    (node_Refs.l0 x0 (addI .i64 x1 (1 : Int)) x2 x3)) none)
   (some x2) :=
  (loopB_eq (P := PP) (T := TT) (C := CF) [1, 1, 0, 1, 0, 0] [1, 1, 0, 1, 0, 0] 142 0 ⟨[(3, ⟨(.own (.int .i64) 0), ()⟩), (12, ⟨(.own (.int .i64) 1), ()⟩), (13, ⟨(.int .i64), x0⟩), (14, ⟨(.int .i64), x1⟩)], [⟨(.row 24 (.int .i64) false), x2⟩, ⟨(.row 24 (.int .i64) false), x3⟩]⟩ (blockK 0 (seqK false [1, 1, 1] (BF 142 0 [1, 1, 1]) (finF 142 (.list (.int .i64)) [] 0)))).trans (by kernel_rfl)
theorem slices_ContainsFuncapi_Ref_api_Ref.eq (a0 : den (.list (.int .i64))) (a1 : den (.fn 143 (.tcons (.ptr 0 0) .tnil))) (a2 : denO (.box (.int .i64))) : slices_ContainsFuncapi_Ref_api_Ref a0 a1 a2 =
  bnd (slices_IndexFuncapi_Ref_api_Ref a0 ((), ()) a2) fun r0 =>
  some ((leI (0 : Int) r0.1), (r0.2.1, ())) :=
  (callW_eq (P := PP) (T := TT) (pr := RR) 141 [⟨(.list (.int .i64)), a0⟩, ⟨(.fn 143 (.tcons (.ptr 0 0) .tnil)), a1⟩] [⟨(.box (.int .i64)), a2⟩] .bool [(.box (.int .i64))]).trans (by kernel_rfl)
theorem plan_ahead.eq (a0 : den (.int .i64)) (a1 : den (.int .i64)) : plan_ahead a0 a1 =
  bnd (ref_Which a0) fun r0 =>
  br (notB r0.2.1)
   (some true)
   (some (ltI r0.1 a1)) :=
  (callW_eq (P := PP) (T := TT) (pr := RR) 144 [⟨(.int .i64), a0⟩, ⟨(.int .i64), a1⟩] [] .bool []).trans (by kernel_rfl)
theorem slices_ContainsFuncapi_Ref_api_Ref_v1.eq (a0 : den (.list (.int .i64))) : slices_ContainsFuncapi_Ref_api_Ref_v1 a0 =
  bnd (slices_IndexFuncapi_Ref_api_Ref_v1 a0) fun r0 =>
  some (leI (0 : Int) r0) :=
  (callW_eq (P := PP) (T := TT) (pr := RR) 141 [⟨(.list (.int .i64)), a0⟩, ⟨(.fn 145 .tnil), ()⟩] [] .bool []).trans (by kernel_rfl)
theorem slices_ContainsFuncapi_Ref_api_Ref_v2.eq (a0 : den (.list (.int .i64))) (a1 : den (.fn 147 (.tcons (.ptr 0 0) .tnil))) (a2 : denO (.box (.list tapiNode))) : slices_ContainsFuncapi_Ref_api_Ref_v2 a0 a1 a2 =
  bnd (slices_IndexFuncapi_Ref_api_Ref_v2 a0 ((), ()) a2) fun r0 =>
  some ((leI (0 : Int) r0.1), (r0.2.1, ())) :=
  (callW_eq (P := PP) (T := TT) (pr := RR) 141 [⟨(.list (.int .i64)), a0⟩, ⟨(.fn 147 (.tcons (.ptr 0 0) .tnil)), a1⟩] [⟨(.box (.list tapiNode)), a2⟩] .bool [(.box (.list tapiNode))]).trans (by kernel_rfl)
theorem ref_Which.eq (a0 : den (.int .i64)) : ref_Which a0 =
  bnd (ref_Kind a0) fun r0 =>
  br (notB (eqI r0 (2 : Int)))
   (some ((0 : Int), (false, ())))
   (some ((subI .i64 (-1 : Int) a0), (true, ()))) :=
  (callW_eq (P := PP) (T := TT) (pr := RR) 149 [⟨(.int .i64), a0⟩] [] (.tcons (.int .i64) (.tcons .bool .tnil)) []).trans (by kernel_rfl)
theorem ref04_Of.eq (a0 : den .str) (a1 : den (.int .i64)) : ref04_Of a0 a1 =
  ref04_Of.l0 a0 a1 (14695981039346656037 : Int) (0 : Int) :=
  (callW_eq (P := PP) (T := TT) (pr := RR) 165 [⟨.str, a0⟩, ⟨(.int .i64), a1⟩] [] (.int .u64) []).trans (by kernel_rfl)
theorem ref04_Of.l0.eq (x0 : den .str) (x1 : den (.int .i64)) (x2 : den (.int .u64)) (x3 : den (.int .i64)) : ref04_Of.l0 x0 x1 x2 x3 =
  br (ltI x3 (ofN (lenS x0)))
   (br (andB (leI (0 : Int) x3) (ltI x3 (ofN (lenS x0)))) (ref04_Of.l0 x0 x1 (mulI .u64 (xorI .u64 x2 (wrapI .u64 (getS x0 (toN x3)))) (1099511628211 : Int)) (addI .i64 x3 (1 : Int))) none)
   (ref04_Of.l1 x1 x2 (0 : Int) (1 : Int) (0 : Int)) :=
  (loopB_eq (P := PP) (T := TT) (C := CF) [1, 1, 0, 1, 0, 0] [1, 1, 0, 1, 0, 0] 165 0 ⟨[(0, ⟨.str, x0⟩), (1, ⟨(.int .i64), x1⟩), (5, ⟨(.int .u64), x2⟩), (6, ⟨(.int .i64), x3⟩)], []⟩ (blockK 0 (seqK false [1, 1, 1] (BF 165 0 [1, 1, 1]) (finF 165 (.int .u64) [] 0)))).trans (by kernel_rfl)
theorem ref04_Of.l1.eq (x0 : den (.int .i64)) (x1 : den (.int .u64)) (x2 : den (.int .u64)) (x3 : den (.int .u64)) (x4 : den (.int .i64)) : ref04_Of.l1 x0 x1 x2 x3 x4 =
  bnd (ref04_clamp x0) fun r0 =>
  br (ltI x4 r0)
   (br (notB (eqI (2 : Int) (0 : Int))) (br (notB (eqI (2 : Int) (0 : Int))) (ref04_Of.l1 x0 (quoI .u64 x1 (2 : Int)) (addI .u64 x2 (mulI .u64 x3 (remI x1 (2 : Int)))) (mulI .u64 (2 : Int) x3) (addI .i64 x4 (1 : Int))) none) none)
   (some x2) :=
  (loopB_eq (P := PP) (T := TT) (C := CF) [1, 1, 1, 1, 0, 1, 0, 0] [1, 1, 1, 1, 0, 1, 0, 0] 165 0 ⟨[(1, ⟨(.int .i64), x0⟩), (5, ⟨(.int .u64), x1⟩), (7, ⟨(.int .u64), x2⟩), (8, ⟨(.int .u64), x3⟩), (9, ⟨(.int .i64), x4⟩)], []⟩ (blockK 2 (seqK false [1, 1, 1, 1, 1] (BF 165 0 [1, 1, 1, 1, 1]) (finF 165 (.int .u64) [] 0)))).trans (by kernel_rfl)
theorem ref04_Chunk.eq (a0 : den (.int .u64)) (a1 : den (.int .i64)) (a2 : den (.int .i64)) : ref04_Chunk a0 a1 a2 =
  br (ltI a1 (0 : Int))
   (some (0 : Int))
   (bnd (ref04_Levels a2) fun r0 =>
   br (leI r0 a1)
    (some (0 : Int))
    (ref04_Chunk.l0 a0 a1 a2 (0 : Int) (1 : Int) (mulI .i64 (5 : Int) a1))) :=
  (callW_eq (P := PP) (T := TT) (pr := RR) 164 [⟨(.int .u64), a0⟩, ⟨(.int .i64), a1⟩, ⟨(.int .i64), a2⟩] [] (.int .i64) []).trans (by kernel_rfl)
theorem ref04_Chunk.l0.eq (x0 : den (.int .u64)) (x1 : den (.int .i64)) (x2 : den (.int .i64)) (x3 : den (.int .i64)) (x4 : den (.int .i64)) (x5 : den (.int .i64)) : ref04_Chunk.l0 x0 x1 x2 x3 x4 x5 =
  br (ltI x5 (addI .i64 (mulI .i64 (5 : Int) x1) (5 : Int)))
   (bnd (ref04_clamp x2) fun r0 =>
   br (ltI x5 r0)
    (bnd (ref04_bit x0 x5) fun r1 =>
    ref04_Chunk.l0 x0 x1 x2 (addI .i64 x3 (mulI .i64 x4 r1)) (mulI .i64 (2 : Int) x4) (addI .i64 x5 (1 : Int)))
    (some x3))
   (some x3) :=
  (loopB_eq (P := PP) (T := TT) (C := CF) [1, 1, 1, 0, 1, 0, 0] [1, 1, 1, 0, 1, 0, 0] 164 0 ⟨[(0, ⟨(.int .u64), x0⟩), (1, ⟨(.int .i64), x1⟩), (2, ⟨(.int .i64), x2⟩), (7, ⟨(.int .i64), x3⟩), (8, ⟨(.int .i64), x4⟩), (9, ⟨(.int .i64), x5⟩)], []⟩ (blockK 0 (seqK false [1, 1, 1, 1] (BF 164 0 [1, 1, 1, 1]) (finF 164 (.int .i64) [] 0)))).trans (by kernel_rfl)
theorem slices_BinarySearchFuncapi_Pair_api_Pair_string.eq (a0 : den (.list tapiPair)) (a1 : den .str) : slices_BinarySearchFuncapi_Pair_api_Pair_string a0 a1 =
  slices_BinarySearchFuncapi_Pair_api_Pair_string.l0 a0 a1 (ofN (lenL tapiPair a0)) (0 : Int) (ofN (lenL tapiPair a0)) :=
  (callW_eq (P := PP) (T := TT) (pr := RR) 158 [⟨(.list tapiPair), a0⟩, ⟨.str, a1⟩, ⟨(.fn 159 .tnil), ()⟩] [] (.tcons (.int .i64) (.tcons .bool .tnil)) []).trans (by kernel_rfl)
theorem slices_BinarySearchFuncapi_Pair_api_Pair_string.l0.eq (x0 : den (.list tapiPair)) (x1 : den .str) (x2 : den (.int .i64)) (x3 : den (.int .i64)) (x4 : den (.int .i64)) : slices_BinarySearchFuncapi_Pair_api_Pair_string.l0 x0 x1 x2 x3 x4 =
  br (ltI x3 x4)
   (br (leI (0 : Int) (1 : Int)) (br (andB (leI (0 : Int) (wrapI .i64 (shrI .u64 (wrapI .u64 (addI .i64 x3 x4)) (1 : Int)))) (ltI (wrapI .i64 (shrI .u64 (wrapI .u64 (addI .i64 x3 x4)) (1 : Int))) (ofN (lenL tapiPair x0)))) (bnd (pair_place_1 (ixL tapiPair x0 (wrapI .i64 (shrI .u64 (wrapI .u64 (addI .i64 x3 x4)) (1 : Int)))) x1) fun r0 =>
   br (ltI r0 (0 : Int))
    (slices_BinarySearchFuncapi_Pair_api_Pair_string.l0 x0 x1 x2 (addI .i64 (wrapI .i64 (shrI .u64 (wrapI .u64 (addI .i64 x3 x4)) (1 : Int))) (1 : Int)) x4)
    (slices_BinarySearchFuncapi_Pair_api_Pair_string.l0 x0 x1 x2 x3 (wrapI .i64 (shrI .u64 (wrapI .u64 (addI .i64 x3 x4)) (1 : Int))))) none) none)
   (br (ltI x3 x2)
    (br (andB (leI (0 : Int) x3) (ltI x3 (ofN (lenL tapiPair x0)))) (bnd (pair_place_1 (ixL tapiPair x0 x3) x1) fun r1 =>
    some (x3, ((eqI r1 (0 : Int)), ()))) none)
    (some (x3, (false, ())))) :=
  (loopB_eq (P := PP) (T := TT) (C := CF) [1, 1, 1, 0, 0, 0] [1, 1, 1, 0, 0, 0] 158 0 ⟨[(0, ⟨(.list tapiPair), x0⟩), (1, ⟨.str, x1⟩), (2, ⟨(.fn 159 .tnil), ()⟩), (8, ⟨(.int .i64), x2⟩), (9, ⟨(.int .i64), x3⟩), (10, ⟨(.int .i64), x4⟩)], []⟩ (blockK 0 (seqK false [1, 1, 1, 1] (BF 158 0 [1, 1, 1, 1]) (finF 158 (.tcons (.int .i64) (.tcons .bool .tnil)) [] 0)))).trans (by kernel_rfl)
theorem slices_Insertapi_Pair_api_Pair.eq (a0 : den (.int .i64)) (a1 : denO (.row 84 tapiPair true)) (a2 : denO (.row 84 tapiPair true)) : slices_Insertapi_Pair_api_Pair a0 a1 a2 =
  br (insG tapiPair a1 a0 a2) (some ((), ((insL tapiPair a1 a0 a2), (a2, ())))) none :=
  (callW_eq (P := PP) (T := TT) (pr := RR) 174 [⟨(.own tapiPair 0), ()⟩, ⟨(.int .i64), a0⟩, ⟨(.own tapiPair 1), ()⟩] [⟨(.row 84 tapiPair true), a1⟩, ⟨(.row 84 tapiPair true), a2⟩] (.own tapiPair 0) [(.row 84 tapiPair false), (.row 84 tapiPair true)]).trans (by kernel_rfl)
theorem ref13_bare.eq (a0 : den tapiNode) (a1 : den .bool) (a2 : den .bool) (a3 : den .bool) (a4 : den .bool) : ref13_bare a0 a1 a2 a3 a4 =
  br a1
   (br (notB (eqS a0.2.1 ByteArray.empty))
    (some false)
    (br (notB (eqS a0.2.2.1 ByteArray.empty))
     (some false)
     (br a2
      (br (notB (eqI a0.2.2.2.1 (0 : Int)))
       (some false)
       (br (ltI (0 : Int) (ofN (lenL (.int .i64) a0.2.2.2.2.1)))
        (some false)
        (br (notB a3)
         (br (notB a4)
          (some true)
          (some (eqI (ofN (lenL tapiPair a0.2.2.2.2.2.2.1)) (0 : Int))))
         (br (eqI a0.2.2.2.2.2.1 (0 : Int))
          (br (notB a4)
           (some true)
           (some (eqI (ofN (lenL tapiPair a0.2.2.2.2.2.2.1)) (0 : Int))))
          (some false)))))
      (br (notB a3)
       (br (notB a4)
        (some true)
        (some (eqI (ofN (lenL tapiPair a0.2.2.2.2.2.2.1)) (0 : Int))))
       (br (eqI a0.2.2.2.2.2.1 (0 : Int))
        (br (notB a4)
         (some true)
         (some (eqI (ofN (lenL tapiPair a0.2.2.2.2.2.2.1)) (0 : Int))))
        (some false))))))
   (br a2
    (br (notB (eqI a0.2.2.2.1 (0 : Int)))
     (some false)
     (br (ltI (0 : Int) (ofN (lenL (.int .i64) a0.2.2.2.2.1)))
      (some false)
      (br (notB a3)
       (br (notB a4)
        (some true)
        (some (eqI (ofN (lenL tapiPair a0.2.2.2.2.2.2.1)) (0 : Int))))
       (br (eqI a0.2.2.2.2.2.1 (0 : Int))
        (br (notB a4)
         (some true)
         (some (eqI (ofN (lenL tapiPair a0.2.2.2.2.2.2.1)) (0 : Int))))
        (some false)))))
    (br (notB a3)
     (br (notB a4)
      (some true)
      (some (eqI (ofN (lenL tapiPair a0.2.2.2.2.2.2.1)) (0 : Int))))
     (br (eqI a0.2.2.2.2.2.1 (0 : Int))
      (br (notB a4)
       (some true)
       (some (eqI (ofN (lenL tapiPair a0.2.2.2.2.2.2.1)) (0 : Int))))
      (some false)))) :=
  (callW_eq (P := PP) (T := TT) (pr := RR) 176 [⟨tapiNode, a0⟩, ⟨.bool, a1⟩, ⟨.bool, a2⟩, ⟨.bool, a3⟩, ⟨.bool, a4⟩] [] .bool []).trans (by kernel_rfl)
theorem ref07_Is.eq (a0 : den (.list tapiPair)) : ref07_Is a0 =
  ref07_Is.l0 a0 (1 : Int) :=
  (callW_eq (P := PP) (T := TT) (pr := RR) 178 [⟨(.list tapiPair), a0⟩] [] .bool []).trans (by kernel_rfl)
theorem ref07_Is.l0.eq (x0 : den (.list tapiPair)) (x1 : den (.int .i64)) : ref07_Is.l0 x0 x1 =
  br (ltI x1 (ofN (lenL tapiPair x0)))
   (br (andB (leI (0 : Int) (subI .i64 x1 (1 : Int))) (ltI (subI .i64 x1 (1 : Int)) (ofN (lenL tapiPair x0)))) (br (andB (leI (0 : Int) x1) (ltI x1 (ofN (lenL tapiPair x0)))) (bnd (ref01_Less (ixL tapiPair x0 (subI .i64 x1 (1 : Int))).1 (ixL tapiPair x0 x1).1) fun r0 =>
   br (notB r0)
    (some false)
    (ref07_Is.l0 x0 (addI .i64 x1 (1 : Int)))) none) none)
   (some true) :=
  (loopB_eq (P := PP) (T := TT) (C := CF) [1, 0, 1, 0, 0] [1, 0, 1, 0, 0] 178 0 ⟨[(0, ⟨(.list tapiPair), x0⟩), (3, ⟨(.int .i64), x1⟩)], []⟩ (blockK 0 (seqK false [1, 1] (BF 178 0 [1, 1]) (finF 178 .bool [] 0)))).trans (by kernel_rfl)
theorem ref06_All.eq (a0 : den (.int .u32)) : ref06_All a0 =
  ref06_All.l0 a0 (0 : Int) [] :=
  (callW_eq (P := PP) (T := TT) (pr := RR) 177 [⟨(.int .u32), a0⟩] [] (.list (.int .i64)) []).trans (by kernel_rfl)
theorem ref06_All.l0.eq (x0 : den (.int .u32)) (x1 : den (.int .i64)) (x2 : denO (.row 3 (.int .i64) false)) : ref06_All.l0 x0 x1 x2 =
  br (ltI x1 (32 : Int))
   (bnd (ref06_Has x0 x1) fun r0 =>
   br r0
    (br (fitL (.int .i64) (appL (.int .i64) x2 (x1 :: []))) (ref06_All.l0 x0 (addI .i64 x1 (1 : Int)) (appL (.int .i64) x2 (x1 :: []))) none)
    (ref06_All.l0 x0 (addI .i64 x1 (1 : Int)) x2))
   (some x2) :=
  (loopB_eq (P := PP) (T := TT) (C := CF) [1, 1, 0, 1, 0, 0] [1, 1, 0, 1, 0, 0] 177 0 ⟨[(0, ⟨(.int .u32), x0⟩), (3, ⟨(.own (.int .i64) 0), ()⟩), (4, ⟨(.int .i64), x1⟩)], [⟨(.row 3 (.int .i64) false), x2⟩]⟩ (blockK 0 (seqK false [1, 1, 1] (BF 177 0 [1, 1, 1]) (finF 177 (.list (.int .i64)) [] 0)))).trans (by kernel_rfl)
theorem ref13_SameRefs.eq (a0 : den (.list (.int .i64))) (a1 : den (.list (.int .i64))) : ref13_SameRefs a0 a1 =
  br (notB (eqI (ofN (lenL (.int .i64) a0)) (ofN (lenL (.int .i64) a1))))
   (some false)
   (ref13_SameRefs.l0 a0 a1 (0 : Int)) :=
  (callW_eq (P := PP) (T := TT) (pr := RR) 102 [⟨(.list (.int .i64)), a0⟩, ⟨(.list (.int .i64)), a1⟩] [] .bool []).trans (by kernel_rfl)
theorem ref13_SameRefs.l0.eq (x0 : den (.list (.int .i64))) (x1 : den (.list (.int .i64))) (x2 : den (.int .i64)) : ref13_SameRefs.l0 x0 x1 x2 =
  br (ltI x2 (ofN (lenL (.int .i64) x0)))
   (br (andB (leI (0 : Int) x2) (ltI x2 (ofN (lenL (.int .i64) x0)))) (br (andB (leI (0 : Int) x2) (ltI x2 (ofN (lenL (.int .i64) x1)))) (br (notB (eqI (ixL (.int .i64) x0 x2) (ixL (.int .i64) x1 x2)))
    (some false)
    (ref13_SameRefs.l0 x0 x1 (addI .i64 x2 (1 : Int)))) none) none)
   (some true) :=
  (loopB_eq (P := PP) (T := TT) (C := CF) [1, 1, 0, 1, 0, 0] [1, 1, 0, 1, 0, 0] 102 0 ⟨[(0, ⟨(.list (.int .i64)), x0⟩), (1, ⟨(.list (.int .i64)), x1⟩), (5, ⟨(.int .i64), x2⟩)], []⟩ (blockK 0 (seqK false [1, 1, 1] (BF 102 0 [1, 1, 1]) (finF 102 .bool [] 0)))).trans (by kernel_rfl)
theorem ref07_Same.eq (a0 : den (.list tapiPair)) (a1 : den (.list tapiPair)) : ref07_Same a0 a1 =
  br (notB (eqI (ofN (lenL tapiPair a0)) (ofN (lenL tapiPair a1))))
   (some false)
   (ref07_Same.l0 a0 a1 (0 : Int)) :=
  (callW_eq (P := PP) (T := TT) (pr := RR) 18 [⟨(.list tapiPair), a0⟩, ⟨(.list tapiPair), a1⟩] [] .bool []).trans (by kernel_rfl)
theorem ref07_Same.l0.eq (x0 : den (.list tapiPair)) (x1 : den (.list tapiPair)) (x2 : den (.int .i64)) : ref07_Same.l0 x0 x1 x2 =
  br (ltI x2 (ofN (lenL tapiPair x0)))
   (br (andB (leI (0 : Int) x2) (ltI x2 (ofN (lenL tapiPair x0)))) (br (andB (leI (0 : Int) x2) (ltI x2 (ofN (lenL tapiPair x1)))) (br (notB (andB (eqS (ixL tapiPair x0 x2).1 (ixL tapiPair x1 x2).1) (andB (eqS (ixL tapiPair x0 x2).2.1 (ixL tapiPair x1 x2).2.1) true)))
    (some false)
    (ref07_Same.l0 x0 x1 (addI .i64 x2 (1 : Int)))) none) none)
   (some true) :=
  (loopB_eq (P := PP) (T := TT) (C := CF) [1, 1, 0, 1, 0, 0] [1, 1, 0, 1, 0, 0] 18 0 ⟨[(0, ⟨(.list tapiPair), x0⟩), (1, ⟨(.list tapiPair), x1⟩), (5, ⟨(.int .i64), x2⟩)], []⟩ (blockK 0 (seqK false [1, 1, 1] (BF 18 0 [1, 1, 1]) (finF 18 .bool [] 0)))).trans (by kernel_rfl)
theorem slices_IndexFuncapi_Pair_api_Pair.eq (a0 : den (.list tapiPair)) : slices_IndexFuncapi_Pair_api_Pair a0 =
  slices_IndexFuncapi_Pair_api_Pair.l0 a0 (ofN (lenL tapiPair a0)) (0 : Int) :=
  (callW_eq (P := PP) (T := TT) (pr := RR) 166 [⟨(.list tapiPair), a0⟩, ⟨(.fn 129 .tnil), ()⟩] [] (.int .i64) []).trans (by kernel_rfl)
theorem slices_IndexFuncapi_Pair_api_Pair.l0.eq (x0 : den (.list tapiPair)) (x1 : den (.int .i64)) (x2 : den (.int .i64)) : slices_IndexFuncapi_Pair_api_Pair.l0 x0 x1 x2 =
  br (ltI x2 x1)
   (br (andB (leI (0 : Int) x2) (ltI x2 (ofN (lenL tapiPair x0)))) (bnd (node_long_1 (ixL tapiPair x0 x2)) fun r0 =>
   br r0
    (some x2)
    (slices_IndexFuncapi_Pair_api_Pair.l0 x0 x1 (addI .i64 x2 (1 : Int)))) none)
   (some (-1 : Int)) :=
  (loopB_eq (P := PP) (T := TT) (C := CF) [1, 0, 1, 0, 0] [1, 0, 1, 0, 0] 166 0 ⟨[(0, ⟨(.list tapiPair), x0⟩), (1, ⟨(.fn 129 .tnil), ()⟩), (7, ⟨(.int .i64), x1⟩), (8, ⟨(.int .i64), x2⟩)], []⟩ (blockK 0 (seqK false [1, 1] (BF 166 0 [1, 1]) (finF 166 (.int .i64) [] 0)))).trans (by kernel_rfl)
theorem slices_Indexapi_Ref_api_Ref.eq (a0 : den (.list (.int .i64))) (a1 : den (.int .i64)) : slices_Indexapi_Ref_api_Ref a0 a1 =
  slices_Indexapi_Ref_api_Ref.l0 a0 a1 (ofN (lenL (.int .i64) a0)) (0 : Int) :=
  (callW_eq (P := PP) (T := TT) (pr := RR) 167 [⟨(.list (.int .i64)), a0⟩, ⟨(.int .i64), a1⟩] [] (.int .i64) []).trans (by kernel_rfl)
theorem slices_Indexapi_Ref_api_Ref.l0.eq (x0 : den (.list (.int .i64))) (x1 : den (.int .i64)) (x2 : den (.int .i64)) (x3 : den (.int .i64)) : slices_Indexapi_Ref_api_Ref.l0 x0 x1 x2 x3 =
  br (ltI x3 x2)
   (br (andB (leI (0 : Int) x3) (ltI x3 (ofN (lenL (.int .i64) x0)))) (br (eqI x1 (ixL (.int .i64) x0 x3))
    (some x3)
    (slices_Indexapi_Ref_api_Ref.l0 x0 x1 x2 (addI .i64 x3 (1 : Int)))) none)
   (some (-1 : Int)) :=
  (loopB_eq (P := PP) (T := TT) (C := CF) [1, 0, 1, 0, 0] [1, 0, 1, 0, 0] 167 0 ⟨[(0, ⟨(.list (.int .i64)), x0⟩), (1, ⟨(.int .i64), x1⟩), (7, ⟨(.int .i64), x2⟩), (8, ⟨(.int .i64), x3⟩)], []⟩ (blockK 0 (seqK false [1, 1] (BF 167 0 [1, 1]) (finF 167 (.int .i64) [] 0)))).trans (by kernel_rfl)
theorem order_Compare.eq (a0 : den .str) (a1 : den .str) : order_Compare a0 a1 =
  bnd (order_Common a0 a1) fun r0 =>
  br (eqI r0 (ofN (lenS a0)))
   (order_Compare.j0 a0 a1 r0 (eqI r0 (ofN (lenS a1))))
   (order_Compare.j0 a0 a1 r0 false) :=
  (callW_eq (P := PP) (T := TT) (pr := RR) 160 [⟨.str, a0⟩, ⟨.str, a1⟩] [] (.int .i64) []).trans (by kernel_rfl)
theorem order_Compare.j0.eq (x0 : den .str) (x1 : den .str) (x2 : den (.int .i64)) (x3 : den .bool) : order_Compare.j0 x0 x1 x2 x3 =
  br x3
   (some (0 : Int))
   (br (eqI x2 (ofN (lenS x0)))
    (some (-1 : Int))
    (br (eqI x2 (ofN (lenS x1)))
     (some (1 : Int))
     (br (andB (leI (0 : Int) x2) (ltI x2 (ofN (lenS x0)))) (br (andB (leI (0 : Int) x2) (ltI x2 (ofN (lenS x1)))) (br (ltI (getS x1 (toN x2)) (getS x0 (toN x2)))
      (some (1 : Int))
      (some (-1 : Int))) none) none))) :=
  (congrFun (congrFun (jnO_eq [1, 1, 0, 0, 1] (BF (R := den (.int .i64)) 160 0 [1, 1, 0, 0, 1])) ⟨[(0, ⟨.str, x0⟩), (1, ⟨.str, x1⟩), (5, ⟨(.int .i64), x2⟩), (9, ⟨.bool, x3⟩)], []⟩) (blockK 0 (seqK false [1, 1, 1] (BF 160 0 [1, 1, 1]) (finF 160 (.int .i64) [] 0)))).trans (by kernel_rfl)
theorem trie_maker_add.eq (a0 : den tapiNode) (a1 : denO (.box (.pair (.int .i64) (.pair (.own tapiNode 1) .unit)))) (a2 : denO (.row 58 tapiNode true)) : trie_maker_add a0 a1 a2 =
  br (fitL tapiNode (appL tapiNode a2 (a0 :: []))) (some ((ofN (lenL tapiNode (appL tapiNode a2 (a0 :: [])))), ((a1.1, ((), ())), ((appL tapiNode a2 (a0 :: [])), ())))) none :=
  (callW_eq (P := PP) (T := TT) (pr := RR) 168 [⟨(.ptr 0 0), ()⟩, ⟨tapiNode, a0⟩] [⟨(.box (.pair (.int .i64) (.pair (.own tapiNode 1) .unit))), a1⟩, ⟨(.row 58 tapiNode true), a2⟩] (.int .i64) [(.box (.pair (.int .i64) (.pair (.own tapiNode 1) .unit))), (.row 58 tapiNode false)]).trans (by kernel_rfl)
theorem trie_maker_parted.eq (a0 : den (.list tapiPair)) (a1 : den (.int .i64)) (a2 : denO (.box (.pair (.int .i64) (.pair (.own tapiNode 1) .unit)))) (a3 : denO (.row 58 tapiNode true)) : trie_maker_parted a0 a1 a2 a3 =
  br (fitL tapiPair a0) (bnd (trie_maker_parted.go a1 a2.1 a0 (fun _ => []) 0) fun q => some ((q.1, (q.2, ())), (a2, (a3, ())))) none :=
  (callW_eq (P := PP) (T := TT) (pr := RR) 169 [⟨(.ptr 0 0), ()⟩, ⟨(.list tapiPair), a0⟩, ⟨(.int .i64), a1⟩] [⟨(.box (.pair (.int .i64) (.pair (.own tapiNode 1) .unit))), a2⟩, ⟨(.row 58 tapiNode true), a3⟩] (.tcons (.mp tapiPair) (.tcons (.int .u32) .tnil)) [(.box (.pair (.int .i64) (.pair (.own tapiNode 1) .unit))), (.row 58 tapiNode true)]).trans (by kernel_rfl)
theorem trie_maker_parted.fin (level bits : Int) (m : den (.mp tapiPair)) (s : Int) : trie_maker_parted.go level bits [] m s = some (m, s) := rfl
theorem trie_maker_parted.step (level bits : Int) (p : den tapiPair) (l : List (den tapiPair)) (m : den (.mp tapiPair)) (s : Int) : trie_maker_parted.go level bits (p :: l) m s = bnd (hash_Of p.1 bits) fun h => bnd (hash_Chunk h level bits) fun i => bnd (mask_With s i) fun s' => trie_maker_parted.go level bits l (putM tapiPair m i p) s' := rfl
theorem mask_All.eq (a0 : den (.int .u32)) : mask_All a0 =
  mask_All.l0 a0 (-1 : Int) [] :=
  (callW_eq (P := PP) (T := TT) (pr := RR) 170 [⟨(.int .u32), a0⟩] [] (.list (.int .i64)) []).trans (by kernel_rfl)
theorem mask_All.l0.eq (x0 : den (.int .u32)) (x1 : den (.int .i64)) (x2 : denO (.row 3 (.int .i64) false)) : mask_All.l0 x0 x1 x2 =
  bnd (mask_Next x0 x1) fun r0 =>
  br (notB r0.2.1)
   (some x2)
   (br (fitL (.int .i64) (appL (.int .i64) x2 (r0.1 :: []))) (mask_All.l0 x0 r0.1 (appL (.int .i64) x2 (r0.1 :: []))) none) :=
  (loopB_eq (P := PP) (T := TT) (C := CF) [1, 0, 1, 1, 1, 0, 0, 0] [1, 0, 1, 1, 1, 0, 0, 0] 170 0 ⟨[(0, ⟨(.int .u32), x0⟩), (3, ⟨(.own (.int .i64) 0), ()⟩), (4, ⟨(.int .i64), x1⟩)], [⟨(.row 3 (.int .i64) false), x2⟩]⟩ (blockK 0 (seqK false [1, 0, 1, 1, 1, 1] (BF 170 0 [1, 0, 1, 1, 1, 1]) (finF 170 (.list (.int .i64)) [] 0)))).trans (by kernel_rfl)
theorem heap_bare.eq (a0 : den tapiNode) : heap_bare a0 =
  bnd (node_Copy a0) fun r0 =>
  heap_bare.l0 (ofN (lenL (.int .i64) r0.2.1)) (0 : Int) r0.1 ((0 : Int), (ByteArray.empty, (ByteArray.empty, ((0 : Int), ((), ((0 : Int), ((), ((0 : Int), ((0 : Int), ()))))))))) r0.2.1 r0.2.2.1 [] [] :=
  (callW_eq (P := PP) (T := TT) (pr := RR) 171 [⟨tapiNode, a0⟩] [] tapiNode []).trans (by kernel_rfl)
theorem heap_bare.l0.eq (x0 : den (.int .i64)) (x1 : den (.int .i64)) (x2 : denO (.box (.pair (.int .i64) (.pair .str (.pair .str (.pair (.int .u32) (.pair (.own (.int .i64) 2) (.pair (.int .i64) (.pair (.own tapiPair 3) (.pair (.int .i64) (.pair (.int .i64) .unit))))))))))) (x3 : denO (.box (.pair (.int .i64) (.pair .str (.pair .str (.pair (.int .u32) (.pair (.own (.int .i64) 4) (.pair (.int .i64) (.pair (.own tapiPair 5) (.pair (.int .i64) (.pair (.int .i64) .unit))))))))))) (x4 : denO (.row 24 (.int .i64) false)) (x5 : denO (.row 84 tapiPair false)) (x6 : denO (.row 24 (.int .i64) false)) (x7 : denO (.row 84 tapiPair false)) : heap_bare.l0 x0 x1 x2 x3 x4 x5 x6 x7 =
  br (ltI x1 x0)
   (br (andB (leI (0 : Int) x1) (ltI x1 (ofN (lenL (.int .i64) x4)))) (br (andB (leI (0 : Int) x1) (ltI x1 (ofN (lenL (.int .i64) x4)))) (heap_bare.l0 x0 (addI .i64 x1 (1 : Int)) x2 x3 (setL (.int .i64) x4 x1 (minI (ixL (.int .i64) x4 x1) (1 : Int))) x5 x6 x7) none) none)
   (some (x2.1, (x2.2.1, (x2.2.2.1, (x2.2.2.2.1, (x4, ((minI x2.2.2.2.2.2.1 (1 : Int)), (x5, (x2.2.2.2.2.2.2.2.1, ((0 : Int), ())))))))))) :=
  (loopB_eq (P := PP) (T := TT) (C := CF) [1, 1, 0, 1, 0, 0] [1, 1, 0, 1, 0, 0] 171 0 ⟨[(1, ⟨(.ptr 0 0), ()⟩), (2, ⟨(.ptr 1 0), ()⟩), (8, ⟨(.int .i64), x0⟩), (9, ⟨(.int .i64), x1⟩)], [⟨(.box (.pair (.int .i64) (.pair .str (.pair .str (.pair (.int .u32) (.pair (.own (.int .i64) 2) (.pair (.int .i64) (.pair (.own tapiPair 3) (.pair (.int .i64) (.pair (.int .i64) .unit)))))))))), x2⟩, ⟨(.box (.pair (.int .i64) (.pair .str (.pair .str (.pair (.int .u32) (.pair (.own (.int .i64) 4) (.pair (.int .i64) (.pair (.own tapiPair 5) (.pair (.int .i64) (.pair (.int .i64) .unit)))))))))), x3⟩, ⟨(.row 24 (.int .i64) false), x4⟩, ⟨(.row 84 tapiPair false), x5⟩, ⟨(.row 24 (.int .i64) false), x6⟩, ⟨(.row 84 tapiPair false), x7⟩]⟩ (blockK 0 (seqK false [1, 1, 1] (BF 171 0 [1, 1, 1]) (finF 171 tapiNode [] 0)))).trans (by kernel_rfl)
theorem slices_IndexFuncapi_Ref_api_Ref.eq (a0 : den (.list (.int .i64))) (a1 : den (.fn 143 (.tcons (.ptr 0 0) .tnil))) (a2 : denO (.box (.int .i64))) : slices_IndexFuncapi_Ref_api_Ref a0 a1 a2 =
  slices_IndexFuncapi_Ref_api_Ref.l0 a0 ((), ()) (ofN (lenL (.int .i64) a0)) (0 : Int) a2 :=
  (callW_eq (P := PP) (T := TT) (pr := RR) 172 [⟨(.list (.int .i64)), a0⟩, ⟨(.fn 143 (.tcons (.ptr 0 0) .tnil)), a1⟩] [⟨(.box (.int .i64)), a2⟩] (.int .i64) [(.box (.int .i64))]).trans (by kernel_rfl)
theorem slices_IndexFuncapi_Ref_api_Ref.l0.eq (x0 : den (.list (.int .i64))) (x1 : den (.fn 143 (.tcons (.ptr 0 0) .tnil))) (x2 : den (.int .i64)) (x3 : den (.int .i64)) (x4 : denO (.box (.int .i64))) : slices_IndexFuncapi_Ref_api_Ref.l0 x0 x1 x2 x3 x4 =
  br (ltI x3 x2)
   (br (andB (leI (0 : Int) x3) (ltI x3 (ofN (lenL (.int .i64) x0)))) (bnd (plan_May_1 (ixL (.int .i64) x0 x3) x4) fun r0 =>
   br r0.1
    (some (x3, (r0.2.1, ())))
    (slices_IndexFuncapi_Ref_api_Ref.l0 x0 ((), ()) x2 (addI .i64 x3 (1 : Int)) r0.2.1)) none)
   (some ((-1 : Int), (x4, ()))) :=
  (loopB_eq (P := PP) (T := TT) (C := CF) [1, 0, 1, 0, 0] [1, 0, 1, 0, 0] 172 1 ⟨[(0, ⟨(.list (.int .i64)), x0⟩), (1, ⟨(.fn 143 (.tcons (.ptr 0 0) .tnil)), x1⟩), (7, ⟨(.int .i64), x2⟩), (8, ⟨(.int .i64), x3⟩)], [⟨(.box (.int .i64)), x4⟩]⟩ (blockK 0 (seqK false [1, 1] (BF 172 1 [1, 1]) (finF 172 (.int .i64) [(.box (.int .i64))] 1)))).trans (by kernel_rfl)
theorem slices_IndexFuncapi_Ref_api_Ref_v1.eq (a0 : den (.list (.int .i64))) : slices_IndexFuncapi_Ref_api_Ref_v1 a0 =
  slices_IndexFuncapi_Ref_api_Ref_v1.l0 a0 (ofN (lenL (.int .i64) a0)) (0 : Int) :=
  (callW_eq (P := PP) (T := TT) (pr := RR) 172 [⟨(.list (.int .i64)), a0⟩, ⟨(.fn 145 .tnil), ()⟩] [] (.int .i64) []).trans (by kernel_rfl)
theorem slices_IndexFuncapi_Ref_api_Ref_v1.l0.eq (x0 : den (.list (.int .i64))) (x1 : den (.int .i64)) (x2 : den (.int .i64)) : slices_IndexFuncapi_Ref_api_Ref_v1.l0 x0 x1 x2 =
  br (ltI x2 x1)
   (br (andB (leI (0 : Int) x2) (ltI x2 (ofN (lenL (.int .i64) x0)))) (bnd (plan_May_2 (ixL (.int .i64) x0 x2)) fun r0 =>
   br r0
    (some x2)
    (slices_IndexFuncapi_Ref_api_Ref_v1.l0 x0 x1 (addI .i64 x2 (1 : Int)))) none)
   (some (-1 : Int)) :=
  (loopB_eq (P := PP) (T := TT) (C := CF) [1, 0, 1, 0, 0] [1, 0, 1, 0, 0] 172 0 ⟨[(0, ⟨(.list (.int .i64)), x0⟩), (1, ⟨(.fn 145 .tnil), ()⟩), (7, ⟨(.int .i64), x1⟩), (8, ⟨(.int .i64), x2⟩)], []⟩ (blockK 0 (seqK false [1, 1] (BF 172 0 [1, 1]) (finF 172 (.int .i64) [] 0)))).trans (by kernel_rfl)
theorem slices_IndexFuncapi_Ref_api_Ref_v2.eq (a0 : den (.list (.int .i64))) (a1 : den (.fn 147 (.tcons (.ptr 0 0) .tnil))) (a2 : denO (.box (.list tapiNode))) : slices_IndexFuncapi_Ref_api_Ref_v2 a0 a1 a2 =
  slices_IndexFuncapi_Ref_api_Ref_v2.l0 a0 ((), ()) (ofN (lenL (.int .i64) a0)) (0 : Int) a2 :=
  (callW_eq (P := PP) (T := TT) (pr := RR) 172 [⟨(.list (.int .i64)), a0⟩, ⟨(.fn 147 (.tcons (.ptr 0 0) .tnil)), a1⟩] [⟨(.box (.list tapiNode)), a2⟩] (.int .i64) [(.box (.list tapiNode))]).trans (by kernel_rfl)
theorem slices_IndexFuncapi_Ref_api_Ref_v2.l0.eq (x0 : den (.list (.int .i64))) (x1 : den (.fn 147 (.tcons (.ptr 0 0) .tnil))) (x2 : den (.int .i64)) (x3 : den (.int .i64)) (x4 : denO (.box (.list tapiNode))) : slices_IndexFuncapi_Ref_api_Ref_v2.l0 x0 x1 x2 x3 x4 =
  br (ltI x3 x2)
   (br (andB (leI (0 : Int) x3) (ltI x3 (ofN (lenL (.int .i64) x0)))) (bnd (plan_fits_1 (ixL (.int .i64) x0 x3) x4) fun r0 =>
   br r0.1
    (some (x3, (r0.2.1, ())))
    (slices_IndexFuncapi_Ref_api_Ref_v2.l0 x0 ((), ()) x2 (addI .i64 x3 (1 : Int)) r0.2.1)) none)
   (some ((-1 : Int), (x4, ()))) :=
  (loopB_eq (P := PP) (T := TT) (C := CF) [1, 0, 1, 0, 0] [1, 0, 1, 0, 0] 172 1 ⟨[(0, ⟨(.list (.int .i64)), x0⟩), (1, ⟨(.fn 147 (.tcons (.ptr 0 0) .tnil)), x1⟩), (7, ⟨(.int .i64), x2⟩), (8, ⟨(.int .i64), x3⟩)], [⟨(.box (.list tapiNode)), x4⟩]⟩ (blockK 0 (seqK false [1, 1] (BF 172 1 [1, 1]) (finF 172 (.int .i64) [(.box (.list tapiNode))] 1)))).trans (by kernel_rfl)
theorem ref_Kind.eq (a0 : den (.int .i64)) : ref_Kind a0 =
  br (eqI a0 (0 : Int))
   (some (0 : Int))
   (br (ltI a0 (0 : Int))
    (some (2 : Int))
    (br (notB (eqI (1024 : Int) (0 : Int))) (br (notB (eqI (1024 : Int) (0 : Int))) (bnd (ref_Make (remI a0 (1024 : Int)) (quoI .i64 a0 (1024 : Int))) fun r0 =>
    br (notB (eqI r0.2.1 (0 : Int)))
     (some (3 : Int))
     (some (1 : Int))) none) none)) :=
  (callW_eq (P := PP) (T := TT) (pr := RR) 173 [⟨(.int .i64), a0⟩] [] (.int .i64) []).trans (by kernel_rfl)
theorem ref04_bit.eq (a0 : den (.int .u64)) (a1 : den (.int .i64)) : ref04_bit a0 a1 =
  ref04_bit.l0 a0 a1 (0 : Int) :=
  (callW_eq (P := PP) (T := TT) (pr := RR) 180 [⟨(.int .u64), a0⟩, ⟨(.int .i64), a1⟩] [] (.int .i64) []).trans (by kernel_rfl)
theorem ref04_bit.l0.eq (x0 : den (.int .u64)) (x1 : den (.int .i64)) (x2 : den (.int .i64)) : ref04_bit.l0 x0 x1 x2 =
  br (ltI x2 x1)
   (br (notB (eqI (2 : Int) (0 : Int))) (ref04_bit.l0 (quoI .u64 x0 (2 : Int)) x1 (addI .i64 x2 (1 : Int))) none)
   (br (notB (eqI (2 : Int) (0 : Int))) (some (wrapI .i64 (remI x0 (2 : Int)))) none) :=
  (loopB_eq (P := PP) (T := TT) (C := CF) [1, 0, 1, 0, 0] [1, 0, 1, 0, 0] 180 0 ⟨[(0, ⟨(.int .u64), x0⟩), (1, ⟨(.int .i64), x1⟩), (5, ⟨(.int .i64), x2⟩)], []⟩ (blockK 0 (seqK false [1, 1] (BF 180 0 [1, 1]) (finF 180 (.int .i64) [] 0)))).trans (by kernel_rfl)
theorem pair_place_1.eq (a0 : den tapiPair) (a1 : den .str) : pair_place_1 a0 a1 =
  bnd (order_Compare a0.1 a1) fun r0 =>
  some r0 :=
  (callW_eq (P := PP) (T := TT) (pr := RR) 159 [⟨tapiPair, a0⟩, ⟨.str, a1⟩] [] (.int .i64) []).trans (by kernel_rfl)
theorem ref06_Has.eq (a0 : den (.int .u32)) (a1 : den (.int .i64)) : ref06_Has a0 a1 =
  ref06_Has.l0 a0 a1 (0 : Int) :=
  (callW_eq (P := PP) (T := TT) (pr := RR) 186 [⟨(.int .u32), a0⟩, ⟨(.int .i64), a1⟩] [] .bool []).trans (by kernel_rfl)
theorem ref06_Has.l0.eq (x0 : den (.int .u32)) (x1 : den (.int .i64)) (x2 : den (.int .i64)) : ref06_Has.l0 x0 x1 x2 =
  br (ltI x2 (32 : Int))
   (br (notB (eqI (2 : Int) (0 : Int))) (br (eqI (remI x0 (2 : Int)) (1 : Int))
    (br (eqI x2 x1)
     (some true)
     (br (notB (eqI (2 : Int) (0 : Int))) (ref06_Has.l0 (quoI .u32 x0 (2 : Int)) x1 (addI .i64 x2 (1 : Int))) none))
    (br (notB (eqI (2 : Int) (0 : Int))) (ref06_Has.l0 (quoI .u32 x0 (2 : Int)) x1 (addI .i64 x2 (1 : Int))) none)) none)
   (some false) :=
  (loopB_eq (P := PP) (T := TT) (C := CF) [1, 0, 1, 0, 0] [1, 0, 1, 0, 0] 186 0 ⟨[(0, ⟨(.int .u32), x0⟩), (1, ⟨(.int .i64), x1⟩), (5, ⟨(.int .i64), x2⟩)], []⟩ (blockK 0 (seqK false [1, 1] (BF 186 0 [1, 1]) (finF 186 .bool [] 0)))).trans (by kernel_rfl)
theorem order_Common.eq (a0 : den .str) (a1 : den .str) : order_Common a0 a1 =
  order_Common.l0 a0 a1 (minI (ofN (lenS a0)) (ofN (lenS a1))) (minI (ofN (lenS a0)) (ofN (lenS a1))) (0 : Int) :=
  (callW_eq (P := PP) (T := TT) (pr := RR) 179 [⟨.str, a0⟩, ⟨.str, a1⟩] [] (.int .i64) []).trans (by kernel_rfl)
theorem order_Common.l0.eq (x0 : den .str) (x1 : den .str) (x2 : den (.int .i64)) (x3 : den (.int .i64)) (x4 : den (.int .i64)) : order_Common.l0 x0 x1 x2 x3 x4 =
  br (ltI x4 x3)
   (br (andB (leI (0 : Int) x4) (ltI x4 (ofN (lenS x0)))) (br (andB (leI (0 : Int) x4) (ltI x4 (ofN (lenS x1)))) (br (notB (eqI (getS x0 (toN x4)) (getS x1 (toN x4))))
    (some x4)
    (order_Common.l0 x0 x1 x2 x3 (addI .i64 x4 (1 : Int)))) none) none)
   (some x2) :=
  (loopB_eq (P := PP) (T := TT) (C := CF) [1, 1, 0, 1, 0, 0] [1, 1, 0, 1, 0, 0] 179 0 ⟨[(0, ⟨.str, x0⟩), (1, ⟨.str, x1⟩), (5, ⟨(.int .i64), x2⟩), (12, ⟨(.int .i64), x3⟩), (13, ⟨(.int .i64), x4⟩)], []⟩ (blockK 0 (seqK false [1, 1, 1] (BF 179 0 [1, 1, 1]) (finF 179 (.int .i64) [] 0)))).trans (by kernel_rfl)
theorem mask_Next.eq (a0 : den (.int .u32)) (a1 : den (.int .i64)) : mask_Next a0 a1 =
  br (leI (31 : Int) a1)
   (some ((0 : Int), (false, ())))
   (bnd (mask_below (addI .i64 a1 (1 : Int))) fun r0 =>
   br (eqI (andNotI .u32 a0 r0) (0 : Int))
    (some ((0 : Int), (false, ())))
    (bnd (math_bits_TrailingZeros32 (andNotI .u32 a0 r0)) fun r1 =>
    some (r1, (true, ())))) :=
  (callW_eq (P := PP) (T := TT) (pr := RR) 181 [⟨(.int .u32), a0⟩, ⟨(.int .i64), a1⟩] [] (.tcons (.int .i64) (.tcons .bool .tnil)) []).trans (by kernel_rfl)
theorem plan_May_1.eq (a0 : den (.int .i64)) (a1 : denO (.box (.int .i64))) : plan_May_1 a0 a1 =
  bnd (plan_ahead a0 a1) fun r0 =>
  some ((notB r0), (a1, ())) :=
  (callW_eq (P := PP) (T := TT) (pr := RR) 143 [⟨(.int .i64), a0⟩, ⟨(.ptr 0 0), ()⟩] [⟨(.box (.int .i64)), a1⟩] .bool [(.box (.int .i64))]).trans (by kernel_rfl)
theorem plan_May_2.eq (a0 : den (.int .i64)) : plan_May_2 a0 =
  some (leI a0 (0 : Int)) :=
  (callW_eq (P := PP) (T := TT) (pr := RR) 145 [⟨(.int .i64), a0⟩] [] .bool []).trans (by kernel_rfl)
theorem plan_fits_1.eq (a0 : den (.int .i64)) (a1 : denO (.box (.list tapiNode))) : plan_fits_1 a0 a1 =
  bnd (plan_has a1 a0) fun r0 =>
  some ((notB r0), (a1, ())) :=
  (callW_eq (P := PP) (T := TT) (pr := RR) 147 [⟨(.int .i64), a0⟩, ⟨(.ptr 0 0), ()⟩] [⟨(.box (.list tapiNode)), a1⟩] .bool [(.box (.list tapiNode))]).trans (by kernel_rfl)
theorem ref_Make.eq (a0 : den (.int .i64)) (a1 : den (.int .i64)) : ref_Make a0 a1 =
  br (ltI a0 (1 : Int))
   (some ((0 : Int), ((2 : Int), ())))
   (br (ltI (1000 : Int) a0)
    (some ((0 : Int), ((2 : Int), ())))
    (br (ltI a1 (1 : Int))
     (some ((0 : Int), ((8 : Int), ())))
     (br (ltI (4503599627370496 : Int) a1)
      (some ((0 : Int), ((8 : Int), ())))
      (some ((addI .i64 (mulI .i64 a1 (1024 : Int)) a0), ((0 : Int), ())))))) :=
  (callW_eq (P := PP) (T := TT) (pr := RR) 182 [⟨(.int .i64), a0⟩, ⟨(.int .i64), a1⟩] [] (.tcons (.int .i64) (.tcons (.int .i64) .tnil)) []).trans (by kernel_rfl)
theorem math_bits_TrailingZeros32.eq (a0 : den (.int .u32)) : math_bits_TrailingZeros32 a0 =
  br (andB (leI 0 a0) (ltI a0 4294967296)) (some (ctzI a0)) none :=
  (callW_eq (P := PP) (T := TT) (pr := RR) 187 [⟨(.int .u32), a0⟩] [] (.int .i64) []).trans (by kernel_rfl)
theorem plan_has.eq (a0 : den (.list tapiNode)) (a1 : den (.int .i64)) : plan_has a0 a1 =
  some (leI a1 (ofN (lenL tapiNode a0))) :=
  (callW_eq (P := PP) (T := TT) (pr := RR) 148 [⟨(.list tapiNode), a0⟩, ⟨(.int .i64), a1⟩] [] .bool []).trans (by kernel_rfl)
end Go.Proofs.YtjekopgcpikkiaaGreatDoor.AK

set_option linter.unusedVariables false
namespace Go.Abs
def bt (a : ByteArray) (i : Int) : Int := getS a (toN i)
abbrev bl (s : ByteArray) : List UInt8 := s.data.toList
theorem loop_eq (bs : ByteArray) : ∀ (d i : Nat) (r : List UInt8), bs.size - i = d → ByteArray.toList.loop bs i r = r.reverse ++ (bl bs).drop i := by
  intro d
  induction d with
  | zero =>
    intro i r h
    unfold ByteArray.toList.loop
    rw [if_neg (by omega), List.drop_eq_nil_of_le (by simp [bl]; show bs.size ≤ i; omega)]
    simp
  | succ d ih =>
    intro i r h
    unfold ByteArray.toList.loop
    rw [if_pos (by omega), ih (i + 1) _ (by omega)]
    have hi : i < (bl bs).length := by simp [bl]; show i < bs.size; omega
    rw [List.drop_eq_getElem_cons hi]
    have : bs.get! i = (bl bs)[i] := by
      have hi' : i < bs.data.size := by show i < bs.size; omega
      simp only [bl, ByteArray.get!]
      rw [getElem!_pos bs.data i hi']
      rfl
    rw [this]
    simp
theorem toList_eq (bs : ByteArray) : bs.toList = bl bs := by
  unfold ByteArray.toList
  rw [loop_eq bs bs.size 0 [] rfl]
  simp
theorem bl_inj {a b : ByteArray} (h : bl a = bl b) : a = b := Go.WideShapes.bytes_inj h
theorem bl_len (a : ByteArray) : (bl a).length = a.size := by
  show a.data.toList.length = a.data.size
  simp
theorem toList_iff {a b : ByteArray} : a.toList = b.toList ↔ a = b := by
  constructor
  · intro h
    rw [toList_eq, toList_eq] at h
    exact bl_inj h
  · intro h
    rw [h]
theorem toList_beq (a b : ByteArray) : (a.toList == b.toList) = decide (a = b) := by
  by_cases h : a = b
  · subst h; simp
  · have : ¬ a.toList = b.toList := fun e => h (toList_iff.1 e)
    simp [h, this]
theorem bt_get (a : ByteArray) (i : Nat) (h : i < (bl a).length) : bt a (i : Int) = ((bl a)[i].toNat : Int) := by
  have h' : i < a.data.size := h
  unfold bt getS toN
  simp only [Int.toNat_natCast, bl, ByteArray.get!]
  rw [getElem!_pos a.data i h']
  rfl
def ltL : List UInt8 → List UInt8 → Bool
  | _, [] => false
  | [], _ :: _ => true
  | x :: xs, y :: ys => if x = y then ltL xs ys else decide (x.toNat < y.toNat)
def comL : List UInt8 → List UInt8 → Nat
  | x :: xs, y :: ys => if x = y then comL xs ys + 1 else 0
  | _, _ => 0
def lt (a b : ByteArray) : Bool := ltL (bl a) (bl b)
def com (a b : ByteArray) : Nat := comL (bl a) (bl b)
def cmp (a b : ByteArray) : Int := if a = b then 0 else if lt a b then -1 else 1
theorem byte_eq {x y : UInt8} : x = y ↔ (x.toNat : Int) = (y.toNat : Int) := by
  constructor
  · intro h; rw [h]
  · intro h; exact UInt8.toNat_inj.1 (by omega)
theorem ltL_irrefl : ∀ a, ltL a a = false
  | [] => rfl
  | x :: xs => by simp [ltL, ltL_irrefl xs]
theorem ltL_trans : ∀ a b c, ltL a b = true → ltL b c = true → ltL a c = true
  | _, _, [], _, h => by cases ‹List UInt8› <;> simp [ltL] at h
  | _, [], _ :: _, h, _ => by cases ‹List UInt8› <;> simp [ltL] at h
  | [], _ :: _, _ :: _, _, _ => rfl
  | x :: xs, y :: ys, z :: zs, h1, h2 => by
    unfold ltL at h1 h2 ⊢
    by_cases e1 : x = y <;> by_cases e2 : y = z
    · subst e1; subst e2; simp at h1 h2 ⊢; exact ltL_trans _ _ _ h1 h2
    · subst e1; simp [e2] at h2 ⊢; exact h2
    · subst e2; simp [e1] at h1 ⊢; exact h1
    · simp [e1] at h1; simp [e2] at h2
      have : x ≠ z := by intro e; subst e; omega
      simp [this]; omega
theorem ltL_total : ∀ a b, a ≠ b → ltL a b = true ∨ ltL b a = true
  | [], [], h => absurd rfl h
  | [], _ :: _, _ => .inl rfl
  | _ :: _, [], _ => .inr rfl
  | x :: xs, y :: ys, h => by
    unfold ltL
    by_cases e : x = y
    · subst e
      simp
      exact ltL_total xs ys (fun e => h (by rw [e]))
    · have e' : ¬ y = x := fun k => e k.symm
      have hn : x.toNat ≠ y.toNat := fun k => e (UInt8.toNat_inj.1 k)
      simp [e, e']
      omega
theorem lt_irrefl (a : ByteArray) : lt a a = false := ltL_irrefl _
theorem lt_trans {a b c : ByteArray} (h : lt a b = true) (k : lt b c = true) : lt a c = true := ltL_trans _ _ _ h k
theorem lt_total {a b : ByteArray} (h : a ≠ b) : lt a b = true ∨ lt b a = true := ltL_total _ _ (fun e => h (bl_inj e))
theorem lt_asymm {a b : ByteArray} (h : lt a b = true) : lt b a = false := by
  cases k : lt b a with
  | false => rfl
  | true => have := lt_trans h k; rw [lt_irrefl] at this; cases this
theorem comL_le : ∀ a b, comL a b ≤ a.length ∧ comL a b ≤ b.length
  | [], _ => by simp [comL]
  | _ :: _, [] => by simp [comL]
  | x :: xs, y :: ys => by
    have := comL_le xs ys
    unfold comL
    split <;> simp <;> omega
theorem com_le (a b : ByteArray) : com a b ≤ a.size ∧ com a b ≤ b.size := by
  have := comL_le (bl a) (bl b)
  rw [bl_len, bl_len] at this
  exact this
theorem cmp_eq {a b : ByteArray} : cmp a b = 0 ↔ a = b := by
  unfold cmp
  by_cases h : a = b
  · simp [h]
  · simp only [h, if_false, iff_false]; split <;> omega
theorem cmp_neg {a b : ByteArray} : cmp a b < 0 ↔ lt a b = true := by
  unfold cmp
  by_cases h : a = b
  · subst h; simp [lt_irrefl]
  · simp only [h, if_false]; split <;> simp_all
theorem ltL_com : ∀ a b, ltL a b = (if comL a b = b.length then false else if comL a b = a.length then true else decide ((a.getD (comL a b) 0).toNat < (b.getD (comL a b) 0).toNat))
  | _, [] => by simp [ltL, comL]
  | [], _ :: _ => by simp [ltL, comL]
  | x :: xs, y :: ys => by
    unfold ltL comL
    by_cases e : x = y
    · subst e
      simp only [if_true, List.length_cons, Nat.add_right_cancel_iff, List.getD_cons_succ]
      exact ltL_com xs ys
    · simp [e]
theorem bl_take (b : ByteArray) (i : Nat) : bl (b.extract 0 i) = (bl b).take i := by
  simp [bl]
theorem take_all (b : ByteArray) (i : Nat) (h : b.size ≤ i) : b.extract 0 i = b := by
  apply bl_inj
  rw [bl_take, List.take_of_length_le (by rw [bl_len]; exact h)]
theorem drop_cons (a : ByteArray) (i : Nat) (h : i < a.size) : ∃ x : UInt8, (bl a).drop i = x :: (bl a).drop (i + 1) ∧ bt a i = (x.toNat : Int) := by
  have h' : i < (bl a).length := by rw [bl_len]; exact h
  exact ⟨(bl a)[i], List.drop_eq_getElem_cons h', bt_get a i h'⟩
theorem comL_nil (l : List UInt8) : comL l [] = 0 := by cases l <;> rfl
theorem comL_end (a b : ByteArray) (i : Nat) (h : a.size ≤ i ∨ b.size ≤ i) : comL ((bl a).drop i) ((bl b).drop i) = 0 := by
  rcases h with h | h
  · rw [List.drop_eq_nil_of_le (by rw [bl_len]; exact h)]; rfl
  · rw [List.drop_eq_nil_of_le (show (bl b).length ≤ i by rw [bl_len]; exact h)]; exact comL_nil _
theorem comL_step (a b : ByteArray) (i : Nat) (h : i < a.size) (h' : i < b.size) :
    comL ((bl a).drop i) ((bl b).drop i) = if bt a i = bt b i then comL ((bl a).drop (i + 1)) ((bl b).drop (i + 1)) + 1 else 0 := by
  obtain ⟨x, e, hx⟩ := drop_cons a i h
  obtain ⟨y, e', hy⟩ := drop_cons b i h'
  rw [e, e', hx, hy]
  show (if x = y then _ else _) = _
  by_cases q : x = y
  · rw [if_pos q, if_pos (byte_eq.1 q)]
  · rw [if_neg q, if_neg (fun k => q (byte_eq.2 k))]
theorem ltL_step (a b : ByteArray) (i : Nat) (h : i < a.size) (h' : i < b.size) :
    ltL ((bl a).drop i) ((bl b).drop i) = if bt a i = bt b i then ltL ((bl a).drop (i + 1)) ((bl b).drop (i + 1)) else decide (bt a i < bt b i) := by
  obtain ⟨x, e, hx⟩ := drop_cons a i h
  obtain ⟨y, e', hy⟩ := drop_cons b i h'
  rw [e, e', hx, hy]
  conv => lhs; unfold ltL
  by_cases q : x = y
  · rw [if_pos q, if_pos (byte_eq.1 q)]
  · rw [if_neg q, if_neg (fun k => q (byte_eq.2 k))]
    exact decide_eq_decide.2 (by omega)
theorem ltL_nil (l : List UInt8) : ltL l [] = false := by cases l <;> rfl
theorem ltL_end (a b : ByteArray) (i : Nat) (h1 : i ≤ a.size) (h2 : i ≤ b.size) (h : a.size ≤ i ∨ b.size ≤ i) : ltL ((bl a).drop i) ((bl b).drop i) = decide (a.size < b.size) := by
  by_cases e : b.size ≤ i
  · rw [List.drop_eq_nil_of_le (show (bl b).length ≤ i by rw [bl_len]; exact e), ltL_nil]
    exact (decide_eq_false (by omega)).symm
  · have h3 : a.size ≤ i := by omega
    obtain ⟨y, e', _⟩ := drop_cons b i (by omega)
    rw [List.drop_eq_nil_of_le (by rw [bl_len]; exact h3), e']
    exact (decide_eq_true (by omega)).symm
theorem comL_self : ∀ l, comL l l = l.length
  | [] => rfl
  | x :: xs => by simp [comL, comL_self xs]
theorem com_self (a : ByteArray) : com a a = a.size := by rw [com, comL_self, bl_len]
theorem comL_full : ∀ a b, comL a b = a.length → comL a b = b.length → a = b
  | [], [], _, _ => rfl
  | [], _ :: _, _, h => by simp [comL] at h
  | _ :: _, [], h, _ => by simp [comL] at h
  | x :: xs, y :: ys, h, h' => by
    unfold comL at h h'
    by_cases e : x = y
    · simp only [e, if_true, List.length_cons, Nat.add_right_cancel_iff] at h h'
      rw [e, comL_full xs ys h h']
    · simp [e] at h
theorem com_full {a b : ByteArray} (h : com a b = a.size) (h' : com a b = b.size) : a = b :=
  bl_inj (comL_full _ _ (by rw [bl_len]; exact h) (by rw [bl_len]; exact h'))
theorem comL_ne : ∀ a b, comL a b < a.length → comL a b < b.length → a.getD (comL a b) 0 ≠ b.getD (comL a b) 0
  | [], _, h, _ => by simp at h
  | _ :: _, [], _, h => by simp at h
  | x :: xs, y :: ys, h, h' => by
    unfold comL at h h' ⊢
    by_cases e : x = y
    · simp only [e, if_true, List.length_cons] at h h' ⊢
      rw [List.getD_cons_succ, List.getD_cons_succ]
      exact comL_ne xs ys (by omega) (by omega)
    · simp only [e, if_false]
      simpa using e
theorem bt_getD (a : ByteArray) (i : Nat) (h : i < a.size) : bt a i = (((bl a).getD i 0).toNat : Int) := by
  have h' : i < (bl a).length := by rw [bl_len]; exact h
  rw [bt_get a i h', List.getD_eq_getElem?_getD, List.getElem?_eq_getElem h']
  rfl
theorem lt_com (a b : ByteArray) : lt a b = if com a b = b.size then false else if com a b = a.size then true else decide (bt a (com a b) < bt b (com a b)) := by
  have hle := com_le a b
  have h := ltL_com (bl a) (bl b)
  rw [bl_len, bl_len] at h
  show ltL (bl a) (bl b) = _
  rw [h]
  show (if com a b = b.size then _ else if com a b = a.size then _ else _) = _
  by_cases h1 : com a b = b.size
  · rw [if_pos h1, if_pos h1]
  · rw [if_neg h1, if_neg h1]
    by_cases h2 : com a b = a.size
    · rw [if_pos h2, if_pos h2]
    · rw [if_neg h2, if_neg h2, bt_getD a _ (by omega), bt_getD b _ (by omega)]
      exact decide_eq_decide.2 (by unfold com; omega)
theorem com_ne {a b : ByteArray} (h1 : com a b ≠ a.size) (h2 : com a b ≠ b.size) : bt a (com a b) ≠ bt b (com a b) := by
  have hle := com_le a b
  rw [bt_getD a _ (by omega), bt_getD b _ (by omega)]
  have h := comL_ne (bl a) (bl b) (by rw [bl_len]; show com a b < _; omega) (by rw [bl_len]; show com a b < _; omega)
  intro e
  exact h (byte_eq.2 e)
theorem cmp_com (a b : ByteArray) : cmp a b = if com a b = a.size then (if com a b = b.size then 0 else -1) else if com a b = b.size then 1 else if bt a (com a b) > bt b (com a b) then 1 else -1 := by
  by_cases e : a = b
  · subst e
    unfold cmp
    rw [if_pos rfl, if_pos (com_self a), if_pos (com_self a)]
  · unfold cmp
    rw [if_neg e, lt_com]
    by_cases h1 : com a b = a.size
    · have h2 : com a b ≠ b.size := fun k => e (com_full h1 k)
      rw [if_pos h1, if_neg h2, if_neg h2, if_pos h1, if_pos rfl]
    · rw [if_neg h1, if_neg h1]
      by_cases h2 : com a b = b.size
      · rw [if_pos h2, if_pos h2]; rfl
      · have := com_ne h1 h2
        rw [if_neg h2, if_neg h2]
        by_cases h3 : bt a (com a b) > bt b (com a b)
        · rw [if_pos h3, if_neg (by simp; omega)]
        · rw [if_neg h3, if_pos (by simp; omega)]
end Go.Abs
set_option autoImplicit false
set_option linter.unusedVariables false
namespace Go.Abs
section
variable {A R : Type}
theorem bnd_some (a : A) (K : A → Option R) : bnd (some a) K = K a := by
  have h : ∀ o, o = K a → bnd (some a) K = o := fun o h => h ▸ rfl
  exact h _ rfl
theorem br_t (x y : Option R) : br true x y = x := by
  have h : ∀ o, o = x → br true x y = o := fun o h => h ▸ rfl
  exact h _ rfl
theorem br_f (x y : Option R) : br false x y = y := by
  have h : ∀ o, o = y → br false x y = o := fun o h => h ▸ rfl
  exact h _ rfl
theorem br_if (p : Prop) [Decidable p] (x y : Option R) : br (decide p) x y = if p then x else y := by
  by_cases h : p
  · rw [if_pos h, decide_eq_true h, br_t]
  · rw [if_neg h, decide_eq_false h, br_f]
theorem br_b (b : Bool) (x y : Option R) : br b x y = if b = true then x else y := by
  cases b
  · rw [br_f, if_neg (by simp)]
  · rw [br_t, if_pos rfl]
theorem both_self (x : Option R) : both x x = x := by
  unfold both
  rw [if_pos rfl]
theorem eqI_d (a b : Int) : eqI a b = decide (a = b) := rfl
theorem ltI_d (a b : Int) : ltI a b = decide (a < b) := rfl
theorem leI_d (a b : Int) : leI a b = decide (a ≤ b) := rfl
theorem notB_d (p : Prop) [Decidable p] : notB (decide p) = decide (¬ p) := by by_cases h : p <;> simp [notB, h]
theorem andB_d (p q : Prop) [Decidable p] [Decidable q] : andB (decide p) (decide q) = decide (p ∧ q) := by by_cases h : p <;> by_cases k : q <;> simp [andB, h, k]
theorem eqS_d (a b : ByteArray) : eqS a b = decide (a = b) := toList_beq a b
theorem ofN_d (n : Nat) : ofN n = (n : Int) := rfl
theorem toN_d (n : Nat) : toN (n : Int) = n := Int.toNat_natCast n
theorem lenL_d (t : Ty) (l : List (den t)) : lenL t l = l.length := rfl
theorem lenS_d (s : ByteArray) : lenS s = s.size := rfl
theorem appL_d (t : Ty) (a b : List (den t)) : appL t a b = a ++ b := rfl
theorem fitL_d (t : Ty) (l : List (den t)) : fitL t l = decide (l.length ≤ 1073741824) := rfl
theorem ixL_d (t : Ty) (l : List (den t)) (i : Nat) (h : i < l.length) : ixL t l (i : Int) = l[i] := by
  unfold ixL
  rw [Int.toNat_natCast, List.getD_eq_getElem?_getD, List.getElem?_eq_getElem h]
  rfl
theorem wrap_i64_id {x : Int} (h0 : -9223372036854775808 ≤ x) (h1 : x ≤ 9223372036854775807) : IntKind.i64.wrap x = x := by
  rw [IntKind.wrap_i64]; omega
theorem addI_d {a b : Int} (h0 : -9223372036854775808 ≤ a + b) (h1 : a + b ≤ 9223372036854775807) : addI .i64 a b = a + b := wrap_i64_id h0 h1
theorem subI_d {a b : Int} (h0 : -9223372036854775808 ≤ a - b) (h1 : a - b ≤ 9223372036854775807) : subI .i64 a b = a - b := wrap_i64_id h0 h1
theorem add1 (n : Nat) (h : n < 9223372036854775807) : addI .i64 (n : Int) 1 = ((n + 1 : Nat) : Int) := by
  rw [addI_d (by omega) (by omega)]; omega
theorem sub1 (n : Nat) (h : 0 < n) (h' : n < 9223372036854775807) : subI .i64 (n : Int) 1 = ((n - 1 : Nat) : Int) := by
  rw [subI_d (by omega) (by omega)]; omega
theorem maxI_d (a b : Int) : maxI a b = max a b := by unfold maxI; rw [Int.max_def]; split <;> split <;> omega
theorem minI_d (a b : Int) : minI a b = min a b := by unfold minI; rw [Int.min_def]; split <;> split <;> omega
theorem subL0 (t : Ty) (l : List (den t)) (j : Nat) : subL t l 0 j = l.take j := by
  unfold subL
  rw [List.drop_zero, Nat.sub_zero]
theorem getS_bt (a : ByteArray) (i : Int) : getS a (toN i) = bt a i := rfl
theorem some_int {a b : Int} (h : a = b) : (some a : Option Int) = some b := by rw [h]
theorem some_bool {a b : Bool} (h : a = b) : (some a : Option Bool) = some b := by rw [h]
theorem subS_d (a : ByteArray) (i j : Nat) : subS a i j = a.extract i j := rfl
end
end Go.Abs
set_option linter.unusedVariables false
set_option linter.unusedSimpArgs false
namespace Go.Proofs.YtjekopgcpikkiaaGreatDoor.AK
open Go.Abs
theorem common_loop (a b : ByteArray) (m : Nat) (hm : m = min a.size b.size) (hs : a.size ≤ 9223372036854775806) (d : Nat) : ∀ (i : Nat), i ≤ m → m - i = d →
    order_Common.l0 a b m m i = some ((i + comL ((bl a).drop i) ((bl b).drop i) : Nat) : Int) := by
  induction d with
  | zero =>
    intro i h1 h2
    rw [order_Common.l0.eq]
    simp only [ltI_d, leI_d, ofN_d, lenS_d, andB_d, eqI_d, notB_d, br_if, getS_bt]
    rw [if_neg (by omega), comL_end a b i (by omega)]
    exact some_int (by omega)
  | succ d ih =>
    intro i h1 h2
    rw [order_Common.l0.eq]
    simp only [ltI_d, leI_d, ofN_d, lenS_d, andB_d, eqI_d, notB_d, br_if, getS_bt]
    rw [if_pos (by omega), if_pos (by omega), if_pos (by omega), comL_step a b i (by omega) (by omega)]
    by_cases e : bt a i = bt b i
    · rw [if_neg (by intro h; exact h e), if_pos e, add1 i (by omega), ih (i + 1) (by omega) (by omega)]
      exact some_int (by omega)
    · rw [if_pos e, if_neg e]
      exact some_int (by omega)
theorem common_any (a b : ByteArray) (hs : a.size ≤ 9223372036854775806) : order_Common a b = some (com a b : Int) := by
  rw [order_Common.eq]
  simp only [ofN_d, lenS_d, minI_d]
  have e : min (a.size : Int) (b.size : Int) = ((min a.size b.size : Nat) : Int) := by omega
  rw [e]
  have := common_loop a b (min a.size b.size) rfl hs (min a.size b.size) 0 (by omega) (by omega)
  simp only [List.drop_zero, Nat.zero_add, Int.ofNat_zero, Int.cast_ofNat_Int] at this
  exact this
theorem compare_any (a b : ByteArray) (hs : a.size ≤ 9223372036854775806) : order_Compare a b = some (cmp a b) := by
  have hle := com_le a b
  rw [order_Compare.eq, common_any a b hs, bnd_some]
  simp only [ofN_d, lenS_d, eqI_d, br_if]
  rw [cmp_com]
  by_cases h1 : com a b = a.size
  · rw [if_pos h1, if_pos (by omega), order_Compare.j0.eq]
    simp only [ltI_d, leI_d, ofN_d, lenS_d, andB_d, eqI_d, notB_d, br_if, getS_bt]
    by_cases h2 : com a b = b.size
    · rw [if_pos (by omega), if_pos h2]
    · rw [if_neg (by omega), if_neg h2, if_pos (by omega)]
  · rw [if_neg h1, if_neg (by omega), order_Compare.j0.eq, br_f]
    simp only [ltI_d, leI_d, ofN_d, lenS_d, andB_d, eqI_d, notB_d, br_if, getS_bt]
    rw [if_neg (by omega)]
    by_cases h2 : com a b = b.size
    · rw [if_pos (by omega), if_pos h2]
    · rw [if_neg (by omega), if_neg h2, if_pos (by omega), if_pos (by omega)]
      show (if bt b (com a b) < bt a (com a b) then _ else _) = _
      by_cases h3 : bt b (com a b) < bt a (com a b)
      · rw [if_pos h3, if_pos h3]
      · rw [if_neg h3, if_neg h3]
theorem less_loop (a b : ByteArray) (hs : a.size ≤ 9223372036854775806) (d : Nat) : ∀ (i : Nat), i ≤ a.size → i ≤ b.size → a.size - i = d →
    ref01_Less.l0 a b i = some (ltL ((bl a).drop i) ((bl b).drop i)) := by
  have stop : ∀ (i : Nat), i ≤ a.size → i ≤ b.size → (a.size ≤ i ∨ b.size ≤ i) → ref01_Less.j1 a b i false = some (ltL ((bl a).drop i) ((bl b).drop i)) := by
    intro i h1 h2 h3
    rw [ref01_Less.j1.eq, br_f, ltL_end a b i h1 h2 h3]
    simp only [ltI_d, ofN_d, lenS_d]
    exact some_bool (decide_eq_decide.2 (by omega))
  induction d with
  | zero =>
    intro i h1 h1' h2
    rw [ref01_Less.l0.eq]
    simp only [ltI_d, ofN_d, lenS_d, br_if]
    rw [if_neg (by omega)]
    exact stop i h1 h1' (.inl (by omega))
  | succ d ih =>
    intro i h1 h1' h2
    rw [ref01_Less.l0.eq]
    simp only [ltI_d, ofN_d, lenS_d, br_if]
    rw [if_pos (by omega)]
    by_cases hb : i < b.size
    · rw [show decide ((i : Int) < (b.size : Int)) = true from decide_eq_true (by omega), ref01_Less.j1.eq, br_t]
      simp only [ltI_d, leI_d, ofN_d, lenS_d, andB_d, eqI_d, notB_d, br_if, getS_bt]
      rw [if_pos (by omega), if_pos (by omega), ltL_step a b i (by omega) hb]
      by_cases e : bt a i = bt b i
      · rw [if_neg (by intro h; exact h e), if_pos e, add1 i (by omega)]
        exact ih (i + 1) (by omega) (by omega) (by omega)
      · rw [if_pos e, if_neg e, if_pos (by omega), if_pos (by omega)]
    · rw [show decide ((i : Int) < (b.size : Int)) = false from decide_eq_false (by omega)]
      exact stop i h1 h1' (.inr (by omega))
theorem less_any (a b : ByteArray) (hs : a.size ≤ 9223372036854775806) : ref01_Less a b = some (lt a b) := by
  rw [ref01_Less.eq]
  have := less_loop a b hs a.size 0 (by omega) (by omega) (by omega)
  simp only [List.drop_zero, Int.ofNat_zero, Int.cast_ofNat_Int] at this
  exact this
def cut (k : Nat) (s : ByteArray) : ByteArray := s.extract 0 k
theorem cut_size (k : Nat) (s : ByteArray) : (cut k s).size = min k s.size := by
  unfold cut
  rw [ByteArray.size_extract]
  omega
theorem base_Cut_any (s : ByteArray) (k : Nat) : base_Cut s (k : Int) = some (cut k s) := by
  rw [base_Cut.eq]
  simp only [ltI_d, leI_d, ofN_d, lenS_d, andB_d, minI_d, br_if, subS_d]
  have hk : (0 : Int) ≤ (k : Int) := by omega
  rw [if_pos (by omega)]
  have e : toN (min (s.size : Int) (k : Int)) = min s.size k := by unfold toN; omega
  rw [e]
  show some (s.extract 0 (min s.size k)) = some (cut k s)
  congr 1
  by_cases h : s.size ≤ k
  · rw [show min s.size k = s.size by omega]
    unfold cut
    rw [take_all s s.size (Nat.le_refl _), take_all s k h]
  · rw [show min s.size k = k by omega]; rfl
theorem base_Cut_40 (s : ByteArray) : base_Cut s (40 : Int) = some (cut 40 s) := base_Cut_any s 40
end Go.Proofs.YtjekopgcpikkiaaGreatDoor.AK
set_option linter.unusedVariables false
set_option linter.unusedSimpArgs false
namespace Go.Abs
theorem wf_u32 {a : Int} (h : (Lit.int .u32 a).wf = true) : 0 ≤ a ∧ a < 4294967296 := by
  simp [Lit.wf, IntKind.min, IntKind.max, IntKind.bits, IntKind.signed] at h
  omega
theorem wraps_u32 (n : Int) (h0 : 0 ≤ n) (h1 : n < 2 ^ 32) : IntKind.u32.wrap n = n := by rw [IntKind.wrap_u32]; omega
theorem bv32 (a : Nat) (ha : a < 4294967296) : (BitVec.ofInt 32 (a : Int)).toNat = a := by
  rw [BitVec.ofInt_natCast, BitVec.toNat_ofNat]; exact Nat.mod_eq_of_lt (by omega)
theorem and_u32 (a b : Nat) (ha : a < 4294967296) (hb : b < 4294967296) : andI .u32 a b = ((a &&& b : Nat) : Int) := by
  have hx : a &&& b < 2 ^ 32 := Nat.and_lt_two_pow _ (by omega)
  show IntKind.u32.wrap ((BitVec.ofInt 32 (a : Int) &&& BitVec.ofInt 32 (b : Int)).toNat : Int) = _
  rw [BitVec.toNat_and, bv32 a ha, bv32 b hb, IntKind.wrap_u32]
  omega
theorem or_u32 (a b : Nat) (ha : a < 4294967296) (hb : b < 4294967296) : orI .u32 a b = ((a ||| b : Nat) : Int) := by
  have hx : a ||| b < 2 ^ 32 := Nat.or_lt_two_pow (by omega) (by omega)
  show IntKind.u32.wrap ((BitVec.ofInt 32 (a : Int) ||| BitVec.ofInt 32 (b : Int)).toNat : Int) = _
  rw [BitVec.toNat_or, bv32 a ha, bv32 b hb, IntKind.wrap_u32]
  omega
theorem andNot_u32 (a b : Nat) (ha : a < 4294967296) (hb : b < 4294967296) : andNotI .u32 a b = ((a &&& (4294967295 - b) : Nat) : Int) := by
  have hx : a &&& (4294967295 - b) < 2 ^ 32 := Nat.and_lt_two_pow _ (by omega)
  show IntKind.u32.wrap ((BitVec.ofInt 32 (a : Int) &&& ~~~(BitVec.ofInt 32 (b : Int))).toNat : Int) = _
  rw [BitVec.toNat_and, BitVec.toNat_not, bv32 a ha, bv32 b hb, IntKind.wrap_u32]
  have e : 2 ^ 32 - 1 - b = 4294967295 - b := by omega
  rw [e]
  omega
theorem not_bit (b : Nat) (hb : b < 4294967296) (i : Nat) : (4294967295 - b).testBit i = (decide (i < 32) && !b.testBit i) := by
  have := Nat.testBit_two_pow_sub_succ (n := 32) (x := b) (by omega) i
  rw [← this]
  congr 1
  omega
def allL (m : Nat) : List Nat := (List.range 32).filter fun j => m.testBit j
def allI (m : Nat) : List Int := (allL m).map fun j : Nat => (j : Int)
def cnt (n m : Nat) : Nat := ((List.range n).filter fun j => m.testBit j).length
theorem cnt_succ (n m : Nat) : cnt (n + 1) m = cnt n m + if m.testBit n = true then 1 else 0 := by
  unfold cnt
  rw [List.range_succ, List.filter_append, List.length_append]
  congr 1
  by_cases h : m.testBit n = true <;> simp [h]
theorem cnt_le (n m : Nat) : cnt n m ≤ n := by
  unfold cnt
  have := List.length_filter_le (fun j => m.testBit j) (List.range n)
  simpa using this
theorem cnt_all (m : Nat) : cnt 32 m = (allL m).length := rfl
theorem cnt_add (a : Nat) (m : Nat) : ∀ b, cnt (a + b) m = cnt a m + cnt b (m / 2 ^ a)
  | 0 => by simp [cnt]
  | b + 1 => by
    rw [show a + (b + 1) = (a + b) + 1 by omega, cnt_succ, cnt_succ, cnt_add a m b, Nat.testBit_div_two_pow, Nat.add_comm b a]
    omega
theorem cnt_mod (m : Nat) : ∀ b, ∀ c, b ≤ c → cnt b (m % 2 ^ c) = cnt b m
  | 0, _, _ => rfl
  | b + 1, c, h => by
    rw [cnt_succ, cnt_succ, cnt_mod m b c (by omega), Nat.testBit_mod_two_pow]
    have : decide (b < c) = true := decide_eq_true (by omega)
    rw [this, Bool.true_and]
theorem cnt_four (m : Nat) : cnt 32 m = cnt 8 (m / 16777216) + cnt 8 (m / 65536 % 256) + cnt 8 (m / 256 % 256) + cnt 8 (m % 256) := by
  have h1 := cnt_add 8 m 24
  have h2 := cnt_add 8 (m / 2 ^ 8) 16
  have h3 := cnt_add 8 (m / 2 ^ 8 / 2 ^ 8) 8
  have e1 := cnt_mod m 8 8 (by omega)
  have e2 := cnt_mod (m / 2 ^ 8) 8 8 (by omega)
  have e3 := cnt_mod (m / 2 ^ 8 / 2 ^ 8) 8 8 (by omega)
  rw [Nat.div_div_eq_div_mul] at h2 h3 e3
  rw [Nat.div_div_eq_div_mul] at h3
  simp only [Nat.reducePow, Nat.reduceMul, Nat.reduceAdd] at h1 h2 h3 e1 e2 e3
  omega
def ones : ByteArray := ByteArray.mk #[0, 1, 1, 2, 1, 2, 2, 3, 1, 2, 2, 3, 2, 3, 3, 4, 1, 2, 2, 3, 2, 3, 3, 4, 2, 3, 3, 4, 3, 4, 4, 5, 1, 2, 2, 3, 2, 3, 3, 4, 2, 3, 3, 4, 3, 4, 4, 5, 2, 3, 3, 4, 3, 4, 4, 5, 3, 4, 4, 5, 4, 5, 5, 6, 1, 2, 2, 3, 2, 3, 3, 4, 2, 3, 3, 4, 3, 4, 4, 5, 2, 3, 3, 4, 3, 4, 4, 5, 3, 4, 4, 5, 4, 5, 5, 6, 2, 3, 3, 4, 3, 4, 4, 5, 3, 4, 4, 5, 4, 5, 5, 6, 3, 4, 4, 5, 4, 5, 5, 6, 4, 5, 5, 6, 5, 6, 6, 7, 1, 2, 2, 3, 2, 3, 3, 4, 2, 3, 3, 4, 3, 4, 4, 5, 2, 3, 3, 4, 3, 4, 4, 5, 3, 4, 4, 5, 4, 5, 5, 6, 2, 3, 3, 4, 3, 4, 4, 5, 3, 4, 4, 5, 4, 5, 5, 6, 3, 4, 4, 5, 4, 5, 5, 6, 4, 5, 5, 6, 5, 6, 6, 7, 2, 3, 3, 4, 3, 4, 4, 5, 3, 4, 4, 5, 4, 5, 5, 6, 3, 4, 4, 5, 4, 5, 5, 6, 4, 5, 5, 6, 5, 6, 6, 7, 3, 4, 4, 5, 4, 5, 5, 6, 4, 5, 5, 6, 5, 6, 6, 7, 4, 5, 5, 6, 5, 6, 6, 7, 5, 6, 6, 7, 6, 7, 7, 8]
theorem ones_len : lenS ones = 256 := by decide +kernel
theorem cnt_table : ∀ i : Fin 256, bt ones ((i.val : Nat) : Int) = ((cnt 8 i.val : Nat) : Int) := by
  decide +kernel
theorem cnt_tab (i : Nat) (h : i < 256) : bt ones (i : Int) = ((cnt 8 i : Nat) : Int) := cnt_table ⟨i, h⟩
def cl (i : Int) : Nat := (min (max i 0) 32).toNat
theorem cl_le (i : Int) : cl i ≤ 32 := by unfold cl; omega
def low (i : Int) : Nat := 2 ^ cl i - 1
theorem low_lt (i : Int) : low i < 4294967296 := by
  have := Nat.pow_le_pow_right (n := 2) (by omega) (cl_le i)
  unfold low
  omega
theorem low_bit (i : Int) (j : Nat) : (low i).testBit j = decide (j < cl i) := by
  unfold low
  exact Nat.testBit_two_pow_sub_one _ _
theorem cnt_low (m : Nat) (i : Int) : ∀ n, n ≤ 32 → cnt n (m &&& low i) = cnt (min n (cl i)) m
  | 0, _ => by simp [cnt]
  | n + 1, h => by
    have ih := cnt_low m i n (by omega)
    rw [cnt_succ, ih, Nat.testBit_and, low_bit]
    by_cases q : n < cl i
    · rw [Nat.min_eq_left (by omega), Nat.min_eq_left (by omega), cnt_succ]
      simp [q]
    · rw [Nat.min_eq_right (by omega), Nat.min_eq_right (by omega)]
      simp [q]
theorem allI_mem {m : Nat} {x : Int} : x ∈ allI m ↔ ∃ j : Nat, j < 32 ∧ m.testBit j = true ∧ x = j := by
  unfold allI allL
  simp only [List.mem_map, List.mem_filter, List.mem_range]
  constructor
  · rintro ⟨j, ⟨h1, h2⟩, rfl⟩; exact ⟨j, h1, h2, rfl⟩
  · rintro ⟨j, h1, h2, rfl⟩; exact ⟨j, ⟨h1, h2⟩, rfl⟩
theorem allI_len (m : Nat) : (allI m).length = cnt 32 m := by unfold allI; rw [List.length_map]; rfl
theorem allI_sorted (m : Nat) : (allI m).Pairwise (· < ·) := by
  unfold allI allL
  rw [List.pairwise_map]
  exact (List.pairwise_lt_range.imp (fun h => by omega)).filter _
theorem sorted_tail {l : List Int} (hs : l.Pairwise (· < ·)) {i j : Int} {rest : List Int} (h : l.filter (fun x => decide (i < x)) = j :: rest) : l.filter (fun x => decide (j < x)) = rest := by
  induction l with
  | nil => simp at h
  | cons a l ih =>
    obtain ⟨h1, h2⟩ := List.pairwise_cons.1 hs
    by_cases q : i < a
    · have hall : l.filter (fun x => decide (i < x)) = l := List.filter_eq_self.2 (fun x hx => decide_eq_true (by have := h1 x hx; omega))
      rw [List.filter_cons_of_pos (by simpa using q), hall] at h
      injection h with e1 e2
      subst e1; subst e2
      rw [List.filter_cons_of_neg (by simp)]
      exact List.filter_eq_self.2 (fun x hx => decide_eq_true (h1 x hx))
    · rw [List.filter_cons_of_neg (by simpa using q)] at h
      have hj : i < j := by
        have := List.mem_filter.1 (show j ∈ l.filter (fun x => decide (i < x)) by rw [h]; simp)
        simpa using this.2
      rw [List.filter_cons_of_neg (by simp; omega)]
      exact ih h2 h
def next (m : Nat) (i : Int) : Int × Bool := match (allI m).filter (fun x => decide (i < x)) with
  | [] => (0, false)
  | j :: _ => (j, true)
theorem ctz_bit {x : Nat} (h0 : x ≠ 0) (h : x < 4294967296) : x.testBit (Lib.ctz 32 x) = true ∧ Lib.ctz 32 x < 32 ∧ ∀ j, j < Lib.ctz 32 x → x.testBit j = false := by
  obtain ⟨m, hm, hk⟩ := Lib.ctzFrom_spec 32 x (by omega) (by omega)
  have e : Lib.ctz 32 x = Lib.ctzFrom 32 x := by simp [Lib.ctz, h0]
  rw [e]
  generalize Lib.ctzFrom 32 x = c at *
  subst hm
  refine ⟨?_, hk, fun j hj => ?_⟩
  · rw [Nat.testBit_two_pow_mul]
    simp [Nat.testBit_zero]
  · rw [Nat.testBit_two_pow_mul]
    have : ¬ c ≤ j := by omega
    simp [this]
theorem filter_first {l : List Int} (hs : l.Pairwise (· < ·)) {p : Int → Bool} {c : Int} (hc : c ∈ l) (hp : p c = true) (hn : ∀ x ∈ l, x < c → p x = false) : ∃ rest, l.filter p = c :: rest := by
  induction l with
  | nil => simp at hc
  | cons a l ih =>
    obtain ⟨h1, h2⟩ := List.pairwise_cons.1 hs
    rcases List.mem_cons.1 hc with e | e
    · subst e
      exact ⟨l.filter p, List.filter_cons_of_pos hp⟩
    · rw [List.filter_cons_of_neg (by rw [hn a (by simp) (h1 c e)]; simp)]
      exact ih h2 e (fun x hx => hn x (List.mem_cons_of_mem _ hx))
def withM (m : Nat) (i : Int) : Nat := if 0 ≤ i ∧ i < 32 then m ||| 2 ^ i.toNat else m
def hasM (m : Nat) (i : Int) : Bool := decide (0 ≤ i ∧ i < 32) && m.testBit i.toNat
theorem pow_lt32 {i : Nat} (h : i < 32) : 2 ^ i < 4294967296 := by
  have := Nat.pow_le_pow_right (n := 2) (by omega) (show i ≤ 31 by omega)
  omega
theorem withM_lt {m : Nat} (hm : m < 4294967296) (i : Int) : withM m i < 4294967296 := by
  unfold withM
  split
  · exact Nat.or_lt_two_pow (n := 32) hm (pow_lt32 (by omega))
  · exact hm
theorem withM_bit (m : Nat) (i : Int) (j : Nat) : (withM m i).testBit j = (m.testBit j || decide (0 ≤ i ∧ i < 32 ∧ i = j)) := by
  unfold withM
  by_cases h : 0 ≤ i ∧ i < 32
  · rw [if_pos h, Nat.testBit_or, Nat.testBit_two_pow]
    congr 1
    exact decide_eq_decide.2 (by omega)
  · rw [if_neg h]
    have : ¬ (0 ≤ i ∧ i < 32 ∧ i = j) := by omega
    simp [this]
def makeL (l : List Int) : Nat → Nat
  | 0 => 0
  | n + 1 => makeL l n + if (n : Int) ∈ l then 2 ^ n else 0
theorem makeL_lt (l : List Int) : ∀ n, makeL l n < 2 ^ n
  | 0 => by simp [makeL]
  | n + 1 => by
    have := makeL_lt l n
    unfold makeL
    rw [Nat.pow_succ]
    split <;> omega
theorem makeL_bit (l : List Int) (j : Nat) : ∀ n, (makeL l n).testBit j = (decide (j < n) && decide ((j : Int) ∈ l))
  | 0 => by simp [makeL]
  | n + 1 => by
    have hlt := makeL_lt l n
    have ih := makeL_bit l j n
    unfold makeL
    by_cases h : (n : Int) ∈ l
    · rw [if_pos h, Nat.add_comm]
      by_cases e : j = n
      · subst e
        rw [Nat.testBit_two_pow_add_eq, Nat.testBit_lt_two_pow hlt]
        simp [h]
      · rcases Nat.lt_or_ge j n with q | q
        · rw [Nat.testBit_two_pow_add_gt q, ih]
          have : decide (j < n + 1) = decide (j < n) := decide_eq_decide.2 (by omega)
          rw [this]
        · have hb : 2 ^ n + makeL l n < 2 ^ j := by
            have h2 := Nat.pow_le_pow_right (n := 2) (by omega) (show n + 1 ≤ j by omega)
            rw [Nat.pow_succ] at h2
            omega
          rw [Nat.testBit_lt_two_pow hb]
          have : ¬ j < n + 1 := by omega
          simp [this]
    · rw [if_neg h, Nat.add_zero, ih]
      by_cases e : j = n
      · subst e; simp [h]
      · have : decide (j < n + 1) = decide (j < n) := decide_eq_decide.2 (by omega)
        rw [this]
def rd (l : List Int) (i : Int) : Int := l.getD i.toNat 0
end Go.Abs
set_option linter.unusedVariables false
set_option linter.unusedSimpArgs false
namespace Go.Proofs.YtjekopgcpikkiaaGreatDoor.AK
open Go.Abs
theorem shr_div (a n : Nat) (k : IntKind) (hn : n ≤ k.bits) : shrI k (a : Int) (n : Int) = ((a / 2 ^ n : Nat) : Int) := by
  unfold shrI
  rw [Int.toNat_natCast, Nat.min_eq_left hn]
  rw [Int.fdiv_eq_ediv_of_nonneg _ (by exact Int.pow_nonneg (by omega))]
  have : ((2 : Int) ^ n) = ((2 ^ n : Nat) : Int) := by simp
  rw [this]
  rfl
theorem ones_any (m : Nat) (hm : m < 4294967296) : math_bits_OnesCount32 m = some (cnt 32 m : Int) := by
  have key : math_bits_OnesCount32 (m : Int) = br (leI 0 (24 : Int)) (br (andB (leI 0 (shrI .u32 (m : Int) (24 : Int))) (ltI (shrI .u32 (m : Int) (24 : Int)) (ofN (lenS ones)))) (br (leI 0 (16 : Int)) (br (andB (leI 0 (andI .u32 (shrI .u32 (m : Int) (16 : Int)) (255 : Int))) (ltI (andI .u32 (shrI .u32 (m : Int) (16 : Int)) (255 : Int)) (ofN (lenS ones)))) (br (leI 0 (8 : Int)) (br (andB (leI 0 (andI .u32 (shrI .u32 (m : Int) (8 : Int)) (255 : Int))) (ltI (andI .u32 (shrI .u32 (m : Int) (8 : Int)) (255 : Int)) (ofN (lenS ones)))) (br (andB (leI 0 (andI .u32 (m : Int) (255 : Int))) (ltI (andI .u32 (m : Int) (255 : Int)) (ofN (lenS ones)))) (some (wrapI .i64 (addI .u8 (addI .u8 (addI .u8 (getS ones (toN (shrI .u32 (m : Int) (24 : Int)))) (getS ones (toN (andI .u32 (shrI .u32 (m : Int) (16 : Int)) (255 : Int))))) (getS ones (toN (andI .u32 (shrI .u32 (m : Int) (8 : Int)) (255 : Int))))) (getS ones (toN (andI .u32 (m : Int) (255 : Int))))))) none) none) none) none) none) none) none := math_bits_OnesCount32.eq (m : Int)
  rw [key]
  clear key
  have s24 : shrI .u32 (m : Int) (24 : Int) = ((m / 16777216 : Nat) : Int) := shr_div m 24 .u32 (by decide)
  have s16 : shrI .u32 (m : Int) (16 : Int) = ((m / 65536 : Nat) : Int) := shr_div m 16 .u32 (by decide)
  have s8 : shrI .u32 (m : Int) (8 : Int) = ((m / 256 : Nat) : Int) := shr_div m 8 .u32 (by decide)
  have e255 : (255 : Int) = ((255 : Nat) : Int) := rfl
  rw [s24, s16, s8]
  have a1 : andI .u32 ((m / 65536 : Nat) : Int) (255 : Int) = ((m / 65536 % 256 : Nat) : Int) := by
    rw [e255, and_u32 _ _ (by omega) (by omega), show (255 : Nat) = 2 ^ 8 - 1 by rfl, Nat.and_two_pow_sub_one_eq_mod]
  have a2 : andI .u32 ((m / 256 : Nat) : Int) (255 : Int) = ((m / 256 % 256 : Nat) : Int) := by
    rw [e255, and_u32 _ _ (by omega) (by omega), show (255 : Nat) = 2 ^ 8 - 1 by rfl, Nat.and_two_pow_sub_one_eq_mod]
  have a3 : andI .u32 (m : Int) (255 : Int) = ((m % 256 : Nat) : Int) := by
    rw [e255, and_u32 _ _ (by omega) (by omega), show (255 : Nat) = 2 ^ 8 - 1 by rfl, Nat.and_two_pow_sub_one_eq_mod]
  rw [a1, a2, a3]
  simp only [getS_bt]
  rw [cnt_tab _ (show m / 16777216 < 256 by omega), cnt_tab _ (show m / 65536 % 256 < 256 by omega), cnt_tab _ (show m / 256 % 256 < 256 by omega), cnt_tab _ (show m % 256 < 256 by omega)]
  simp only [ones_len, ofN_d, ltI_d, leI_d, andB_d, br_if]
  have l0 := cnt_le 8 (m / 16777216)
  have l1 := cnt_le 8 (m / 65536 % 256)
  have l2 := cnt_le 8 (m / 256 % 256)
  have l3 := cnt_le 8 (m % 256)
  have w : ∀ n : Nat, n < 256 → IntKind.u8.wrap (n : Int) = n := fun n hn => by simp [IntKind.wrap, IntKind.bits, IntKind.signed]; omega
  rw [if_pos (by omega), if_pos (by omega), if_pos (by omega), if_pos (by omega), if_pos (by omega), if_pos (by omega), if_pos (by omega)]
  refine some_int ?_
  rw [cnt_four m]
  have d1 : addI .u8 (cnt 8 (m / 16777216) : Int) (cnt 8 (m / 65536 % 256) : Int) = ((cnt 8 (m / 16777216) + cnt 8 (m / 65536 % 256) : Nat) : Int) := by
    unfold addI; rw [← Int.natCast_add, w _ (by omega)]
  rw [d1]
  have d2 : addI .u8 ((cnt 8 (m / 16777216) + cnt 8 (m / 65536 % 256) : Nat) : Int) (cnt 8 (m / 256 % 256) : Int) = ((cnt 8 (m / 16777216) + cnt 8 (m / 65536 % 256) + cnt 8 (m / 256 % 256) : Nat) : Int) := by
    unfold addI; rw [← Int.natCast_add, w _ (by omega)]
  rw [d2]
  have d3 : addI .u8 ((cnt 8 (m / 16777216) + cnt 8 (m / 65536 % 256) + cnt 8 (m / 256 % 256) : Nat) : Int) (cnt 8 (m % 256) : Int) = ((cnt 8 (m / 16777216) + cnt 8 (m / 65536 % 256) + cnt 8 (m / 256 % 256) + cnt 8 (m % 256) : Nat) : Int) := by
    unfold addI; rw [← Int.natCast_add, w _ (by omega)]
  rw [d3]
  exact wrap_i64_id (by omega) (by omega)
theorem count_any (m : Nat) (hm : m < 4294967296) : mask_Count m = some ((allI m).length : Int) := by
  rw [mask_Count.eq, ones_any m hm, bnd_some, allI_len]
theorem refhas_loop (m : Nat) (hm : m < 4294967296) (i : Int) (d : Nat) : ∀ (j : Nat), j ≤ 32 → 32 - j = d → ref06_Has.l0 ((m / 2 ^ j : Nat) : Int) i j = some (decide ((j : Int) ≤ i ∧ i < 32) && m.testBit i.toNat) := by
  induction d with
  | zero =>
    intro j hj hd
    rw [ref06_Has.l0.eq]
    simp only [ltI_d, br_if]
    rw [if_neg (by omega)]
    have : ¬ ((j : Int) ≤ i ∧ i < 32) := by omega
    simp [this]
  | succ d ih =>
    intro j hj hd
    rw [ref06_Has.l0.eq]
    simp only [ltI_d, eqI_d, notB_d, br_if]
    have hdiv : m / 2 ^ j ≤ m := Nat.div_le_self _ _
    have e1 : remI ((m / 2 ^ j : Nat) : Int) 2 = ((m / 2 ^ j % 2 : Nat) : Int) := by unfold remI; rw [Int.tmod_eq_emod_of_nonneg (Int.natCast_nonneg _)]; rfl
    have e2 : quoI .u32 ((m / 2 ^ j : Nat) : Int) 2 = ((m / 2 ^ (j + 1) : Nat) : Int) := by
      unfold quoI
      rw [Int.tdiv_eq_ediv_of_nonneg (Int.natCast_nonneg _), Nat.pow_succ, ← Nat.div_div_eq_div_mul, IntKind.wrap_u32]
      generalize m / 2 ^ j = q at hdiv ⊢
      omega
    have hb : m.testBit j = decide (m / 2 ^ j % 2 = 1) := Nat.testBit_eq_decide_div_mod_eq
    rw [if_pos (by omega), if_pos (by omega), e1, e2, add1 j (by omega), ih (j + 1) (by omega) (by omega)]
    simp only [if_pos (show ¬ (2 : Int) = 0 by omega)]
    by_cases g : m / 2 ^ j % 2 = 1
    · rw [if_pos (by omega)]
      by_cases q : (j : Int) = i
      · rw [if_pos q, ← q, Int.toNat_natCast, hb, decide_eq_true g, decide_eq_true (by omega)]
        rfl
      · rw [if_neg q]
        refine some_bool ?_
        congr 1
        exact decide_eq_decide.2 (by omega)
    · rw [if_neg (by omega)]
      by_cases q : (j : Int) = i
      · rw [← q, Int.toNat_natCast, hb, decide_eq_false g]
        simp
      · refine some_bool ?_
        congr 1
        exact decide_eq_decide.2 (by omega)
theorem refhas_any (m : Nat) (hm : m < 4294967296) (i : Int) : ref06_Has m i = some (hasM m i) := by
  rw [ref06_Has.eq]
  unfold hasM
  have := refhas_loop m hm i 32 0 (by omega) (by omega)
  simp only [Nat.pow_zero, Nat.div_one, Int.cast_ofNat_Int] at this
  exact this
theorem refall_loop (m : Nat) (hm : m < 4294967296) (d : Nat) : ∀ (j : Nat), j ≤ 32 → 32 - j = d →
    ref06_All.l0 m j (((List.range j).filter fun x => m.testBit x).map fun x : Nat => (x : Int)) = some (allI m) := by
  induction d with
  | zero =>
    intro j hj hd
    rw [ref06_All.l0.eq]
    simp only [ltI_d, br_if]
    rw [if_neg (by omega), show j = 32 by omega]
    rfl
  | succ d ih =>
    intro j hj hd
    rw [ref06_All.l0.eq]
    simp only [ltI_d, br_if]
    rw [if_pos (by omega), refhas_any m hm j, bnd_some, br_b, add1 j (by omega)]
    have := ih (j + 1) (by omega) (by omega)
    rw [List.range_succ, List.filter_append, List.map_append] at this
    have hl : (((List.range j).filter fun x => m.testBit x).map fun x : Nat => (x : Int)).length ≤ 32 := by
      rw [List.length_map]
      have := List.length_filter_le (fun x => m.testBit x) (List.range j)
      simp at this
      omega
    have hh : hasM m (j : Int) = m.testBit j := by
      unfold hasM
      rw [Int.toNat_natCast, decide_eq_true (by omega)]
      rfl
    rw [hh]
    by_cases g : m.testBit j = true
    · rw [if_pos g]
      simp only [fitL_d, appL_d, br_if]
      rw [if_pos (by rw [List.length_append]; show _ + 1 ≤ _; omega)]
      have e : [j].filter (fun x => m.testBit x) = [j] := by simp [g]
      rw [e] at this
      exact this
    · rw [if_neg g]
      have e : [j].filter (fun x => m.testBit x) = [] := by simp [g]
      rw [e] at this
      simpa using this
theorem refall_any (m : Nat) (hm : m < 4294967296) : ref06_All m = some (allI m) := by
  rw [ref06_All.eq]
  have := refall_loop m hm 32 0 (by omega) (by omega)
  simpa using this
end Go.Proofs.YtjekopgcpikkiaaGreatDoor.AK
