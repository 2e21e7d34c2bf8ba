/- What the functions do, as the interpreter tells it: printed by a program of this session. No conditions. -/
import Derived.Test.YtobfcaejpcpboaaDefU
set_option maxRecDepth 100000
set_option linter.unusedVariables false
namespace Go.Proofs.Ytobfcaejpcpboaa.AU
open Go.Abs
theorem law19_BranchTells.eq (a0 : den tapiNode) (a1 : den (.int .i64)) (a2 : den (.int .i64)) : law19_BranchTells a0 a1 a2 =
  bnd (law13_Few a0) fun r0 =>
  bnd (ref19_Of r0) fun r1 =>
  bnd (law13_Few r0) fun r2 =>
  bnd (branch_Only r2) fun r3 =>
  bnd (ref19_Branch_Node r1) fun r4 =>
  br (eqI (ofN (lenL (.int .i64) r4.2.2.2.2.1)) (1 : Int))
   (bnd (ref19_Branch_Node r1) fun r5 =>
   br (andB (leI (0 : Int) (0 : Int)) (ltI (0 : Int) (ofN (lenL (.int .i64) r5.2.2.2.2.1)))) (law19_BranchTells.j0 a1 a2 r3.1 r3.2.1 (ixL (.int .i64) r5.2.2.2.2.1 (0 : Int)) (eqI (ofN (lenL (.int .i64) r4.2.2.2.2.1)) (1 : Int)) r0 r1) none)
   (law19_BranchTells.j0 a1 a2 r3.1 r3.2.1 (0 : Int) (eqI (ofN (lenL (.int .i64) r4.2.2.2.2.1)) (1 : Int)) r0 r1) :=
  (callW_eq (P := PP) (T := TT) (pr := RR) 7 [⟨tapiNode, a0⟩, ⟨(.int .i64), a1⟩, ⟨(.int .i64), a2⟩] [] .bool []).trans (by kernel_rfl)
theorem law19_BranchTells.j0.eq (x0 : den (.int .i64)) (x1 : den (.int .i64)) (x2 : den (.int .i64)) (x3 : den .bool) (x4 : den (.int .i64)) (x5 : den .bool) (x6 : denO (.box tapiNode)) (x7 : denO (.box tboscageref19Branch)) : law19_BranchTells.j0 x0 x1 x2 x3 x4 x5 x6 x7 =
  br (leI (0 : Int) x1)
   (law19_BranchTells.j1 x0 x1 x2 x3 x4 x5 x6 x7 (x7.1, (x1, x7.2.2)))
   (law19_BranchTells.j1 x0 x1 x2 x3 x4 x5 x6 x7 x7) :=
  (congrFun (congrFun (jnO_eq [1, 1, 1, 1, 1, 1] (BF (R := den .bool) 7 0 [1, 1, 1, 1, 1, 1])) ⟨[(1, ⟨(.int .i64), x0⟩), (2, ⟨(.int .i64), x1⟩), (3, ⟨(.ptr 0 0), ()⟩), (7, ⟨(.ptr 1 0), ()⟩), (8, ⟨(.int .i64), x2⟩), (9, ⟨.bool, x3⟩), (10, ⟨(.int .i64), x4⟩), (11, ⟨.bool, x5⟩)], [⟨(.box tapiNode), x6⟩, ⟨(.box tboscageref19Branch), x7⟩]⟩) (finF 7 .bool [] 0)).trans (by kernel_rfl)
theorem law19_BranchTells.j1.eq (x0 : den (.int .i64)) (x1 : den (.int .i64)) (x2 : den (.int .i64)) (x3 : den .bool) (x4 : den (.int .i64)) (x5 : den .bool) (x6 : denO (.box tapiNode)) (x7 : denO (.box tboscageref19Branch)) (x8 : denO (.box tboscageref19Branch)) : law19_BranchTells.j1 x0 x1 x2 x3 x4 x5 x6 x7 x8 =
  bnd (law13_Few x6) fun r0 =>
  bnd (branch_Child r0 x0) fun r1 =>
  bnd (ref19_Branch_Child x7 x0) fun r2 =>
  br (eqI r1 r2)
   (br (eqI x2 x4)
    (br (eqB x3 x5)
     (bnd (law13_Few x6) fun r3 =>
     bnd (branch_Sized r3 x1) fun r4 =>
     bnd (ref19_Branch_Node x8) fun r5 =>
     bnd (ref13_Same r4 r5) fun r6 =>
     br r6
      (bnd (law19_works) fun r7 =>
      some r7)
      (some false))
     (some false))
    (some false))
   (some false) :=
  (congrFun (congrFun (jnO_eq [1, 1, 1, 1, 1, 1, 1, 1] (BF (R := den .bool) 7 0 [1, 1, 1, 1, 1, 1, 1, 1])) ⟨[(1, ⟨(.int .i64), x0⟩), (2, ⟨(.int .i64), x1⟩), (3, ⟨(.ptr 0 0), ()⟩), (7, ⟨(.ptr 1 0), ()⟩), (8, ⟨(.int .i64), x2⟩), (9, ⟨.bool, x3⟩), (10, ⟨(.int .i64), x4⟩), (11, ⟨.bool, x5⟩), (12, ⟨(.ptr 2 0), ()⟩)], [⟨(.box tapiNode), x6⟩, ⟨(.box tboscageref19Branch), x7⟩, ⟨(.box tboscageref19Branch), x8⟩]⟩) (finF 7 .bool [] 0)).trans (by kernel_rfl)
theorem law19_BranchChanges.eq (a0 : den tapiNode) (a1 : den (.int .i64)) (a2 : den (.int .i64)) : law19_BranchChanges a0 a1 a2 =
  bnd (law13_Few a0) fun r0 =>
  bnd (ref19_Of r0) fun r1 =>
  br (notB (eqI a2 (0 : Int)))
   (bnd (ref19_Branch_Put r1 a1 a2) fun r2 =>
   law19_BranchChanges.j0 a1 a2 r0 r1 r2)
   (law19_BranchChanges.j0 a1 a2 r0 r1 r1) :=
  (callW_eq (P := PP) (T := TT) (pr := RR) 8 [⟨tapiNode, a0⟩, ⟨(.int .i64), a1⟩, ⟨(.int .i64), a2⟩] [] .bool []).trans (by kernel_rfl)
theorem law19_BranchChanges.j0.eq (x0 : den (.int .i64)) (x1 : den (.int .i64)) (x2 : denO (.box tapiNode)) (x3 : denO (.box tboscageref19Branch)) (x4 : denO (.box tboscageref19Branch)) : law19_BranchChanges.j0 x0 x1 x2 x3 x4 =
  bnd (law13_Few x2) fun r0 =>
  bnd (branch_With r0 x0 x1) fun r1 =>
  bnd (ref19_Branch_Node x4) fun r2 =>
  bnd (ref13_Same r1 r2) fun r3 =>
  br r3
   (bnd (law13_Few x2) fun r4 =>
   bnd (branch_Without r4 x0) fun r5 =>
   bnd (ref19_Branch_Put x3 x0 (0 : Int)) fun r6 =>
   bnd (ref19_Branch_Node r6) fun r7 =>
   bnd (ref13_Same r5 r7) fun r8 =>
   br r8
    (bnd (law19_works) fun r9 =>
    some r9)
    (some false))
   (some false) :=
  (congrFun (congrFun (jnO_eq [1, 1, 1, 1, 1] (BF (R := den .bool) 8 0 [1, 1, 1, 1, 1])) ⟨[(1, ⟨(.int .i64), x0⟩), (2, ⟨(.int .i64), x1⟩), (3, ⟨(.ptr 0 0), ()⟩), (7, ⟨(.ptr 1 0), ()⟩), (8, ⟨(.ptr 2 0), ()⟩)], [⟨(.box tapiNode), x2⟩, ⟨(.box tboscageref19Branch), x3⟩, ⟨(.box tboscageref19Branch), x4⟩]⟩) (finF 8 .bool [] 0)).trans (by kernel_rfl)
theorem law19_BranchKeeps.eq (a0 : den tapiNode) (a1 : den (.int .u8)) (a2 : den (.int .u8)) (a3 : den (.int .u16)) : law19_BranchKeeps a0 a1 a2 a3 =
  bnd (law19_works) fun r0 =>
  br (notB r0)
   (some false)
   (bnd (law13_Few a0) fun r1 =>
   br (notB (eqI (32 : Int) (0 : Int))) (br (notB (eqI (32 : Int) (0 : Int))) (both
    (bnd (branch_With r1 (wrapI .i64 (remI a1 (32 : Int))) (addI .i64 (1 : Int) (wrapI .i64 a3))) fun r2 =>
    both
     (bnd (branch_Without r1 (wrapI .i64 (remI a1 (32 : Int)))) fun r3 =>
     both
      (law19_BranchKeeps.j0 a3 (wrapI .i64 (remI a1 (32 : Int))) (wrapI .i64 (remI a2 (32 : Int))) r1 r2 r3)
      (law19_BranchKeeps.j0 a3 (wrapI .i64 (remI a1 (32 : Int))) (wrapI .i64 (remI a2 (32 : Int))) r1 r2 r3))
     (both
      (both
       (bnd (branch_Without r1 (wrapI .i64 (remI a1 (32 : Int)))) fun r4 =>
       law19_BranchKeeps.j0 a3 (wrapI .i64 (remI a1 (32 : Int))) (wrapI .i64 (remI a2 (32 : Int))) r1 r2 r4)
       (bnd (branch_Without r1 (wrapI .i64 (remI a1 (32 : Int)))) fun r5 =>
       law19_BranchKeeps.j0 a3 (wrapI .i64 (remI a1 (32 : Int))) (wrapI .i64 (remI a2 (32 : Int))) r1 r2 r5))
      (both
       (bnd (branch_Without r1 (wrapI .i64 (remI a1 (32 : Int)))) fun r6 =>
       law19_BranchKeeps.j0 a3 (wrapI .i64 (remI a1 (32 : Int))) (wrapI .i64 (remI a2 (32 : Int))) r1 r2 r6)
       (bnd (branch_Without r1 (wrapI .i64 (remI a1 (32 : Int)))) fun r7 =>
       law19_BranchKeeps.j0 a3 (wrapI .i64 (remI a1 (32 : Int))) (wrapI .i64 (remI a2 (32 : Int))) r1 r2 r7))))
    (both
     (both
      (bnd (branch_With r1 (wrapI .i64 (remI a1 (32 : Int))) (addI .i64 (1 : Int) (wrapI .i64 a3))) fun r8 =>
      both
       (bnd (branch_Without r1 (wrapI .i64 (remI a1 (32 : Int)))) fun r9 =>
       law19_BranchKeeps.j0 a3 (wrapI .i64 (remI a1 (32 : Int))) (wrapI .i64 (remI a2 (32 : Int))) r1 r8 r9)
       (bnd (branch_Without r1 (wrapI .i64 (remI a1 (32 : Int)))) fun r10 =>
       law19_BranchKeeps.j0 a3 (wrapI .i64 (remI a1 (32 : Int))) (wrapI .i64 (remI a2 (32 : Int))) r1 r8 r10))
      (bnd (branch_With r1 (wrapI .i64 (remI a1 (32 : Int))) (addI .i64 (1 : Int) (wrapI .i64 a3))) fun r11 =>
      bnd (branch_Without r1 (wrapI .i64 (remI a1 (32 : Int)))) fun r12 =>
      law19_BranchKeeps.j0 a3 (wrapI .i64 (remI a1 (32 : Int))) (wrapI .i64 (remI a2 (32 : Int))) r1 r11 r12))
     (both
      (bnd (branch_With r1 (wrapI .i64 (remI a1 (32 : Int))) (addI .i64 (1 : Int) (wrapI .i64 a3))) fun r13 =>
      both
       (bnd (branch_Without r1 (wrapI .i64 (remI a1 (32 : Int)))) fun r14 =>
       law19_BranchKeeps.j0 a3 (wrapI .i64 (remI a1 (32 : Int))) (wrapI .i64 (remI a2 (32 : Int))) r1 r13 r14)
       (bnd (branch_Without r1 (wrapI .i64 (remI a1 (32 : Int)))) fun r15 =>
       law19_BranchKeeps.j0 a3 (wrapI .i64 (remI a1 (32 : Int))) (wrapI .i64 (remI a2 (32 : Int))) r1 r13 r15))
      (bnd (branch_With r1 (wrapI .i64 (remI a1 (32 : Int))) (addI .i64 (1 : Int) (wrapI .i64 a3))) fun r16 =>
      bnd (branch_Without r1 (wrapI .i64 (remI a1 (32 : Int)))) fun r17 =>
      law19_BranchKeeps.j0 a3 (wrapI .i64 (remI a1 (32 : Int))) (wrapI .i64 (remI a2 (32 : Int))) r1 r16 r17)))) none) none) :=
  (callW_eq (P := PP) (T := TT) (pr := RR) 9 [⟨tapiNode, a0⟩, ⟨(.int .u8), a1⟩, ⟨(.int .u8), a2⟩, ⟨(.int .u16), a3⟩] [] .bool []).trans (by kernel_rfl)
theorem law19_BranchKeeps.j0.eq (x0 : den (.int .u16)) (x1 : den (.int .i64)) (x2 : den (.int .i64)) (x3 : denO (.box tapiNode)) (x4 : denO (.box tapiNode)) (x5 : denO (.box tapiNode)) : law19_BranchKeeps.j0 x0 x1 x2 x3 x4 x5 =
  bnd (branch_Child x4 x1) fun r0 =>
  br (notB (eqI r0 (addI .i64 (1 : Int) (wrapI .i64 x0))))
   (law19_BranchKeeps.j1 x1 x2 true x3 x4 x5)
   (bnd (branch_Child x5 x1) fun r1 =>
   br (notB (eqI r1 (0 : Int)))
    (law19_BranchKeeps.j1 x1 x2 true x3 x4 x5)
    (bnd (node_May x4) fun r2 =>
    br (notB (eqI r2 (0 : Int)))
     (law19_BranchKeeps.j1 x1 x2 true x3 x4 x5)
     (bnd (node_May x5) fun r3 =>
     law19_BranchKeeps.j1 x1 x2 (notB (eqI r3 (0 : Int))) x3 x4 x5))) :=
  (congrFun (congrFun (jnO_eq [1, 1, 1, 1, 1] (BF (R := den .bool) 9 0 [1, 1, 1, 1, 1])) ⟨[(3, ⟨(.int .u16), x0⟩), (4, ⟨(.ptr 0 0), ()⟩), (9, ⟨(.int .i64), x1⟩), (10, ⟨(.int .i64), x2⟩), (11, ⟨(.ptr 1 0), ()⟩), (12, ⟨(.ptr 2 0), ()⟩)], [⟨(.box tapiNode), x3⟩, ⟨(.box tapiNode), x4⟩, ⟨(.box tapiNode), x5⟩]⟩) (finF 9 .bool [] 0)).trans (by kernel_rfl)
theorem law19_BranchKeeps.j1.eq (x0 : den (.int .i64)) (x1 : den (.int .i64)) (x2 : den .bool) (x3 : denO (.box tapiNode)) (x4 : denO (.box tapiNode)) (x5 : denO (.box tapiNode)) : law19_BranchKeeps.j1 x0 x1 x2 x3 x4 x5 =
  br x2
   (some false)
   (br (eqI x0 x1)
    (some true)
    (bnd (branch_Child x4 x1) fun r0 =>
    bnd (branch_Child x3 x1) fun r1 =>
    br (eqI r0 r1)
     (bnd (branch_Child x5 x1) fun r2 =>
     bnd (branch_Child x3 x1) fun r3 =>
     some (eqI r2 r3))
     (some false))) :=
  (congrFun (congrFun (jnO_eq [1, 1, 1, 1, 1, 0, 1] (BF (R := den .bool) 9 0 [1, 1, 1, 1, 1, 0, 1])) ⟨[(4, ⟨(.ptr 0 0), ()⟩), (9, ⟨(.int .i64), x0⟩), (10, ⟨(.int .i64), x1⟩), (11, ⟨(.ptr 1 0), ()⟩), (12, ⟨(.ptr 2 0), ()⟩), (54, ⟨.bool, x2⟩)], [⟨(.box tapiNode), x3⟩, ⟨(.box tapiNode), x4⟩, ⟨(.box tapiNode), x5⟩]⟩) (seqK false [1, 1, 1, 1, 1, 1] (BF 9 0 [1, 1, 1, 1, 1, 1]) (finF 9 .bool [] 0))).trans (by kernel_rfl)
theorem law13_Few.eq (a0 : den tapiNode) : law13_Few a0 =
  bnd (base_Cut a0.2.1 (40 : Int)) fun r0 =>
  bnd (base_Cut a0.2.2.1 (40 : Int)) fun r1 =>
  br (andB (leI (0 : Int) (0 : Int)) (andB (leI (0 : Int) (minI (ofN (lenL (.int .i64) a0.2.2.2.2.1)) (40 : Int))) (leI (minI (ofN (lenL (.int .i64) a0.2.2.2.2.1)) (40 : Int)) (ofN (lenL (.int .i64) a0.2.2.2.2.1))))) (br (fitL (.int .i64) (appL (.int .i64) [] (subL (.int .i64) a0.2.2.2.2.1 (toN (0 : Int)) (toN (minI (ofN (lenL (.int .i64) a0.2.2.2.2.1)) (40 : Int)))))) (bnd (law07_Few a0.2.2.2.2.2.2.1) fun r2 =>
  some (a0.1, (r0, (r1, (a0.2.2.2.1, ((appL (.int .i64) [] (subL (.int .i64) a0.2.2.2.2.1 (toN (0 : Int)) (toN (minI (ofN (lenL (.int .i64) a0.2.2.2.2.1)) (40 : Int))))), (a0.2.2.2.2.2.1, (r2, a0.2.2.2.2.2.2.2)))))))) none) none :=
  (callW_eq (P := PP) (T := TT) (pr := RR) 17 [⟨tapiNode, a0⟩] [] tapiNode []).trans (by kernel_rfl)
theorem ref19_Of.eq (a0 : den tapiNode) : ref19_Of a0 =
  br (notB (eqI a0.1 (2 : Int)))
   (some ((List.replicate 32 (0 : Int)), ((0 : Int), ((0 : Int), ()))))
   (bnd (ref13_May a0) fun r0 =>
   br (notB (eqI r0 (0 : Int)))
    (some ((List.replicate 32 (0 : Int)), ((0 : Int), ((0 : Int), ()))))
    (bnd (ref06_All a0.2.2.2.1) fun r1 =>
    ref19_Of.l0 r1 (0 : Int) a0 ((List.replicate 32 (0 : Int)), ((0 : Int), ((0 : Int), ()))) ((List.replicate 32 (0 : Int)), ((0 : Int), ((0 : Int), ()))))) :=
  (callW_eq (P := PP) (T := TT) (pr := RR) 39 [⟨tapiNode, a0⟩] [] tboscageref19Branch []).trans (by kernel_rfl)
theorem ref19_Of.l0.eq (x0 : den (.list (.int .i64))) (x1 : den (.int .i64)) (x2 : denO (.box tapiNode)) (x3 : denO (.box tboscageref19Branch)) (x4 : denO (.box tboscageref19Branch)) : ref19_Of.l0 x0 x1 x2 x3 x4 =
  br (ltI x1 (ofN (lenL (.int .i64) x0)))
   (br (andB (leI (0 : Int) x1) (ltI x1 (ofN (lenL (.int .i64) x0)))) (br (andB (leI (0 : Int) x1) (ltI x1 (ofN (lenL (.int .i64) x2.2.2.2.2.1)))) (br (andB (leI (0 : Int) (ixL (.int .i64) x0 x1)) (ltI (ixL (.int .i64) x0 x1) (ofN 32))) (ref19_Of.l0 x0 (addI .i64 x1 (1 : Int)) x2 x3 ((setL (.int .i64) x4.1 (ixL (.int .i64) x0 x1) (ixL (.int .i64) x2.2.2.2.2.1 x1)), x4.2)) none) none) none)
   (both
    (some (x4.1, x2.2.2.2.2.2.2.2))
    (some (x4.1, x2.2.2.2.2.2.2.2))) :=
  (loopB_eq (P := PP) (T := TT) (C := CF) [1, 1, 1, 1, 0, 1, 0, 0] [1, 1, 1, 1, 0, 1, 0, 0] 39 0 ⟨[(1, ⟨(.ptr 0 0), ()⟩), (2, ⟨(.ptr 1 0), ()⟩), (3, ⟨(.ptr 2 0), ()⟩), (4, ⟨(.list (.int .i64)), x0⟩), (5, ⟨(.int .i64), x1⟩)], [⟨(.box tapiNode), x2⟩, ⟨(.box tboscageref19Branch), x3⟩, ⟨(.box tboscageref19Branch), x4⟩]⟩ (blockK 0 (seqK false [1, 1, 1, 1, 1] (BF 39 0 [1, 1, 1, 1, 1]) (finF 39 tboscageref19Branch [] 0)))).trans (by kernel_rfl)
theorem branch_Only.eq (a0 : den tapiNode) : branch_Only a0 =
  bnd (branch_branch a0) fun r0 =>
  br (notB (eqI (ofN (lenL (.int .i64) r0.2.1)) (1 : Int)))
   (some ((0 : Int), (false, ())))
   (br (andB (leI (0 : Int) (0 : Int)) (ltI (0 : Int) (ofN (lenL (.int .i64) r0.2.1)))) (some ((ixL (.int .i64) r0.2.1 (0 : Int)), (true, ()))) none) :=
  (callW_eq (P := PP) (T := TT) (pr := RR) 40 [⟨tapiNode, a0⟩] [] (.tcons (.int .i64) (.tcons .bool .tnil)) []).trans (by kernel_rfl)
theorem ref19_Branch_Node.eq (a0 : den tboscageref19Branch) : ref19_Branch_Node a0 =
  ref19_Branch_Node.l0 (0 : Int) a0 ((0 : Int), (ByteArray.empty, (ByteArray.empty, ((0 : Int), ((), ((0 : Int), ((), ((0 : Int), ((0 : Int), ()))))))))) [] [] [] [] :=
  (callW_eq (P := PP) (T := TT) (pr := RR) 41 [⟨tboscageref19Branch, a0⟩] [] tapiNode []).trans (by kernel_rfl)
theorem ref19_Branch_Node.l0.eq (x0 : den (.int .i64)) (x1 : denO (.box tboscageref19Branch)) (x2 : denO (.box (.pair (.int .i64) (.pair .str (.pair .str (.pair (.int .u32) (.pair (.own (.int .i64) 4) (.pair (.int .i64) (.pair (.own tapiPair 5) (.pair (.int .i64) (.pair (.int .i64) .unit))))))))))) (x3 : denO (.row 3 (.int .i64) false)) (x4 : denO (.row 24 (.int .i64) false)) (x5 : denO (.row 24 (.int .i64) false)) (x6 : denO (.row 43 tapiPair false)) : ref19_Branch_Node.l0 x0 x1 x2 x3 x4 x5 x6 =
  br (ltI x0 (32 : Int))
   (br (andB (leI (0 : Int) x0) (ltI x0 (ofN 32))) (br (notB (eqI (ixL (.int .i64) x1.1 x0) (0 : Int)))
    (br (fitL (.int .i64) (appL (.int .i64) x3 (x0 :: []))) (br (andB (leI (0 : Int) x0) (ltI x0 (ofN 32))) (br (fitL (.int .i64) (appL (.int .i64) x4 ((ixL (.int .i64) x1.1 x0) :: []))) (ref19_Branch_Node.l0 (addI .i64 x0 (1 : Int)) x1 x2 (appL (.int .i64) x3 (x0 :: [])) (appL (.int .i64) x4 ((ixL (.int .i64) x1.1 x0) :: [])) x5 x6) none) none) none)
    (ref19_Branch_Node.l0 (addI .i64 x0 (1 : Int)) x1 x2 x3 x4 x5 x6)) none)
   (bnd (ref06_Make x3) fun r0 =>
   some ((2 : Int), (ByteArray.empty, (ByteArray.empty, (r0, (x4, ((0 : Int), ([], x1.2)))))))) :=
  (loopB_eq (P := PP) (T := TT) (C := CF) [1, 1, 0, 1, 0, 0] [1, 1, 0, 1, 0, 0] 41 0 ⟨[(1, ⟨(.ptr 0 0), ()⟩), (2, ⟨(.ptr 1 0), ()⟩), (3, ⟨(.own (.int .i64) 2), ()⟩), (4, ⟨(.own (.int .i64) 3), ()⟩), (5, ⟨(.int .i64), x0⟩)], [⟨(.box tboscageref19Branch), x1⟩, ⟨(.box (.pair (.int .i64) (.pair .str (.pair .str (.pair (.int .u32) (.pair (.own (.int .i64) 4) (.pair (.int .i64) (.pair (.own tapiPair 5) (.pair (.int .i64) (.pair (.int .i64) .unit)))))))))), x2⟩, ⟨(.row 3 (.int .i64) false), x3⟩, ⟨(.row 24 (.int .i64) false), x4⟩, ⟨(.row 24 (.int .i64) false), x5⟩, ⟨(.row 43 tapiPair false), x6⟩]⟩ (blockK 0 (seqK false [1, 1, 1] (BF 41 0 [1, 1, 1]) (finF 41 tapiNode [] 0)))).trans (by kernel_rfl)
theorem branch_Child.eq (a0 : den tapiNode) (a1 : den (.int .i64)) : branch_Child a0 a1 =
  bnd (branch_branch a0) fun r0 =>
  bnd (mask_Has r0.1.2.2.2.1 a1) fun r1 =>
  br (notB r1)
   (some (0 : Int))
   (bnd (mask_Place r0.1.2.2.2.1 a1) fun r2 =>
   br (andB (leI (0 : Int) r2) (ltI r2 (ofN (lenL (.int .i64) r0.2.1)))) (some (ixL (.int .i64) r0.2.1 r2)) none) :=
  (callW_eq (P := PP) (T := TT) (pr := RR) 42 [⟨tapiNode, a0⟩, ⟨(.int .i64), a1⟩] [] (.int .i64) []).trans (by kernel_rfl)
theorem ref19_Branch_Child.eq (a0 : den tboscageref19Branch) (a1 : den (.int .i64)) : ref19_Branch_Child a0 a1 =
  br (ltI a1 (0 : Int))
   (some (0 : Int))
   (br (ltI (31 : Int) a1)
    (some (0 : Int))
    (br (andB (leI (0 : Int) a1) (ltI a1 (ofN 32))) (some (ixL (.int .i64) a0.1 a1)) none)) :=
  (callW_eq (P := PP) (T := TT) (pr := RR) 43 [⟨tboscageref19Branch, a0⟩, ⟨(.int .i64), a1⟩] [] (.int .i64) []).trans (by kernel_rfl)
theorem branch_Sized.eq (a0 : den tapiNode) (a1 : den (.int .i64)) : branch_Sized a0 a1 =
  bnd (branch_branch a0) fun r0 =>
  br (leI (0 : Int) a1)
   (some (r0.1.1, (r0.1.2.1, (r0.1.2.2.1, (r0.1.2.2.2.1, (r0.2.1, (r0.1.2.2.2.2.2.1, (r0.2.2.1, (a1, r0.1.2.2.2.2.2.2.2.2)))))))))
   (some (r0.1.1, (r0.1.2.1, (r0.1.2.2.1, (r0.1.2.2.2.1, (r0.2.1, (r0.1.2.2.2.2.2.1, (r0.2.2.1, r0.1.2.2.2.2.2.2.2)))))))) :=
  (callW_eq (P := PP) (T := TT) (pr := RR) 44 [⟨tapiNode, a0⟩, ⟨(.int .i64), a1⟩] [] tapiNode []).trans (by kernel_rfl)
theorem ref13_Same.eq (a0 : den tapiNode) (a1 : den tapiNode) : ref13_Same a0 a1 =
  br (notB (eqI a0.1 a1.1))
   (some false)
   (br (notB (eqS a0.2.1 a1.2.1))
    (some false)
    (br (notB (eqS a0.2.2.1 a1.2.2.1))
     (some false)
     (br (notB (eqI a0.2.2.2.1 a1.2.2.2.1))
      (some false)
      (br (notB (eqI a0.2.2.2.2.2.1 a1.2.2.2.2.2.1))
       (some false)
       (br (notB (eqI a0.2.2.2.2.2.2.2.1 a1.2.2.2.2.2.2.2.1))
        (some false)
        (br (notB (eqI a0.2.2.2.2.2.2.2.2.1 a1.2.2.2.2.2.2.2.2.1))
         (some false)
         (bnd (ref13_SameRefs a0.2.2.2.2.1 a1.2.2.2.2.1) fun r0 =>
         br r0
          (bnd (ref07_Same a0.2.2.2.2.2.2.1 a1.2.2.2.2.2.2.1) fun r1 =>
          some r1)
          (some false)))))))) :=
  (callW_eq (P := PP) (T := TT) (pr := RR) 23 [⟨tapiNode, a0⟩, ⟨tapiNode, a1⟩] [] .bool []).trans (by kernel_rfl)
theorem law19_works.eq  : law19_works  =
  bnd (branch_With ((0 : Int), (ByteArray.empty, (ByteArray.empty, ((0 : Int), ([], ((0 : Int), ([], ((0 : Int), ((0 : Int), ()))))))))) (5 : Int) (1025 : Int)) fun r0 =>
  bnd (branch_Only r0) fun r1 =>
  br (eqI r1.1 (1025 : Int))
   (br r1.2.1
    (bnd (branch_Child r0 (5 : Int)) fun r2 =>
    br (eqI r2 (1025 : Int))
     (br (eqI r0.2.2.2.1 (32 : Int))
      (some (eqI r0.1 (2 : Int)))
      (some false))
     (some false))
    (some false))
   (some false) :=
  (callW_eq (P := PP) (T := TT) (pr := RR) 45 [] [] .bool []).trans (by kernel_rfl)
theorem ref19_Branch_Put.eq (a0 : den tboscageref19Branch) (a1 : den (.int .i64)) (a2 : den (.int .i64)) : ref19_Branch_Put a0 a1 a2 =
  br (leI (0 : Int) a1)
   (br (ltI a1 (32 : Int))
    (br (andB (leI (0 : Int) a1) (ltI a1 (ofN 32))) (some ((setL (.int .i64) a0.1 a1 a2), a0.2)) none)
    (some a0))
   (some a0) :=
  (callW_eq (P := PP) (T := TT) (pr := RR) 46 [⟨tboscageref19Branch, a0⟩, ⟨(.int .i64), a1⟩, ⟨(.int .i64), a2⟩] [] tboscageref19Branch []).trans (by kernel_rfl)
theorem branch_With.eq (a0 : den tapiNode) (a1 : den (.int .i64)) (a2 : den (.int .i64)) : branch_With a0 a1 a2 =
  bnd (branch_branch a0) fun r0 =>
  bnd (mask_With r0.1.2.2.2.1 a1) fun r1 =>
  bnd (mask_Place r1 a1) fun r2 =>
  br (eqI a2 (0 : Int))
   (branch_With.j0 a2 r1 r2 true ((0 : Int), (ByteArray.empty, (ByteArray.empty, ((0 : Int), ((), ((0 : Int), ((), ((0 : Int), ((0 : Int), ()))))))))) r0.1 [] [] r0.2.1 r0.2.2.1)
   (bnd (mask_Has r1 a1) fun r3 =>
   branch_With.j0 a2 r1 r2 (notB r3) ((0 : Int), (ByteArray.empty, (ByteArray.empty, ((0 : Int), ((), ((0 : Int), ((), ((0 : Int), ((0 : Int), ()))))))))) r0.1 [] [] r0.2.1 r0.2.2.1) :=
  (callW_eq (P := PP) (T := TT) (pr := RR) 47 [⟨tapiNode, a0⟩, ⟨(.int .i64), a1⟩, ⟨(.int .i64), a2⟩] [] tapiNode []).trans (by kernel_rfl)
theorem branch_With.j0.eq (x0 : den (.int .i64)) (x1 : den (.int .u32)) (x2 : den (.int .i64)) (x3 : den .bool) (x4 : denO (.box (.pair (.int .i64) (.pair .str (.pair .str (.pair (.int .u32) (.pair (.own (.int .i64) 2) (.pair (.int .i64) (.pair (.own tapiPair 3) (.pair (.int .i64) (.pair (.int .i64) .unit))))))))))) (x5 : denO (.box (.pair (.int .i64) (.pair .str (.pair .str (.pair (.int .u32) (.pair (.own (.int .i64) 4) (.pair (.int .i64) (.pair (.own tapiPair 5) (.pair (.int .i64) (.pair (.int .i64) .unit))))))))))) (x6 : denO (.row 24 (.int .i64) false)) (x7 : denO (.row 43 tapiPair false)) (x8 : denO (.row 24 (.int .i64) false)) (x9 : denO (.row 43 tapiPair false)) : branch_With.j0 x0 x1 x2 x3 x4 x5 x6 x7 x8 x9 =
  br x3
   (some (x5.1, (x5.2.1, (x5.2.2.1, (x5.2.2.2.1, (x8, (x5.2.2.2.2.2.1, (x9, x5.2.2.2.2.2.2.2))))))))
   (br (eqI x1 x5.2.2.2.1)
    (br (andB (leI (0 : Int) x2) (ltI x2 (ofN (lenL (.int .i64) x8)))) (some (x5.1, (x5.2.1, (x5.2.2.1, (x1, ((setL (.int .i64) x8 x2 x0), (x5.2.2.2.2.2.1, (x9, x5.2.2.2.2.2.2.2)))))))) none)
    (bnd (slices_Insertapi_Ref_api_Ref x2 x8 (x0 :: [])) fun r0 =>
    some (x5.1, (x5.2.1, (x5.2.2.1, (x1, (r0.2.1, (x5.2.2.2.2.2.1, (x9, x5.2.2.2.2.2.2.2))))))))) :=
  (congrFun (congrFun (jnO_eq [1, 1, 1, 1, 0, 0, 1] (BF (R := den tapiNode) 47 0 [1, 1, 1, 1, 0, 0, 1])) ⟨[(2, ⟨(.int .i64), x0⟩), (6, ⟨(.ptr 0 0), ()⟩), (7, ⟨(.ptr 1 0), ()⟩), (8, ⟨(.int .u32), x1⟩), (9, ⟨(.int .i64), x2⟩), (26, ⟨.bool, x3⟩)], [⟨(.box (.pair (.int .i64) (.pair .str (.pair .str (.pair (.int .u32) (.pair (.own (.int .i64) 2) (.pair (.int .i64) (.pair (.own tapiPair 3) (.pair (.int .i64) (.pair (.int .i64) .unit)))))))))), x4⟩, ⟨(.box (.pair (.int .i64) (.pair .str (.pair .str (.pair (.int .u32) (.pair (.own (.int .i64) 4) (.pair (.int .i64) (.pair (.own tapiPair 5) (.pair (.int .i64) (.pair (.int .i64) .unit)))))))))), x5⟩, ⟨(.row 24 (.int .i64) false), x6⟩, ⟨(.row 43 tapiPair false), x7⟩, ⟨(.row 24 (.int .i64) false), x8⟩, ⟨(.row 43 tapiPair false), x9⟩]⟩) (blockK 0 (seqK false [1, 1, 1, 1, 1] (BF 47 0 [1, 1, 1, 1, 1]) (finF 47 tapiNode [] 0)))).trans (by kernel_rfl)
theorem branch_Without.eq (a0 : den tapiNode) (a1 : den (.int .i64)) : branch_Without a0 a1 =
  bnd (branch_branch a0) fun r0 =>
  bnd (mask_Has r0.1.2.2.2.1 a1) fun r1 =>
  br (notB r1)
   (some (r0.1.1, (r0.1.2.1, (r0.1.2.2.1, (r0.1.2.2.2.1, (r0.2.1, (r0.1.2.2.2.2.2.1, (r0.2.2.1, r0.1.2.2.2.2.2.2.2))))))))
   (bnd (mask_Place r0.1.2.2.2.1 a1) fun r2 =>
   bnd (slices_Deleteapi_Ref_api_Ref r2 (addI .i64 r2 (1 : Int)) r0.2.1) fun r3 =>
   bnd (mask_Without r0.1.2.2.2.1 a1) fun r4 =>
   some (r0.1.1, (r0.1.2.1, (r0.1.2.2.1, (r4, (r3.2.1, (r0.1.2.2.2.2.2.1, (r0.2.2.1, r0.1.2.2.2.2.2.2.2)))))))) :=
  (callW_eq (P := PP) (T := TT) (pr := RR) 48 [⟨tapiNode, a0⟩, ⟨(.int .i64), a1⟩] [] tapiNode []).trans (by kernel_rfl)
theorem node_May.eq (a0 : den tapiNode) : node_May a0 =
  bnd (node_formed a0) fun r0 =>
  br (ltI a0.1 (1 : Int))
   (some (11 : Int))
   (br (ltI (6 : Int) a0.1)
    (some (11 : Int))
    (bnd (node_long a0) fun r1 =>
    br r1
     (some (6 : Int))
     (bnd (node_Same a0 (r0.1, (r0.2.1, (r0.2.2.1, (r0.2.2.2.1, (r0.2.2.2.2.1, (r0.2.2.2.2.2.1, (r0.2.2.2.2.2.2.1, (r0.2.2.2.2.2.2.2.1, ((maxI a0.2.2.2.2.2.2.2.2.1 (0 : Int)), ())))))))))) fun r2 =>
     br (notB r2)
      (some (4 : Int))
      (bnd (node_whole a0) fun r3 =>
      br (notB r3)
       (some (4 : Int))
       (some (0 : Int)))))) :=
  (callW_eq (P := PP) (T := TT) (pr := RR) 18 [⟨tapiNode, a0⟩] [] (.int .i64) []).trans (by kernel_rfl)
theorem base_Cut.eq (a0 : den .str) (a1 : den (.int .i64)) : base_Cut a0 a1 =
  br (andB (leI (0 : Int) (0 : Int)) (andB (leI (0 : Int) (minI (ofN (lenS a0)) a1)) (leI (minI (ofN (lenS a0)) a1) (ofN (lenS a0))))) (some (subS a0 (toN (0 : Int)) (toN (minI (ofN (lenS a0)) a1)))) none :=
  (callW_eq (P := PP) (T := TT) (pr := RR) 21 [⟨.str, a0⟩, ⟨(.int .i64), a1⟩] [] .str []).trans (by kernel_rfl)
theorem law07_Few.eq (a0 : den (.list tapiPair)) : law07_Few a0 =
  law07_Few.l0 a0 (0 : Int) [] :=
  (callW_eq (P := PP) (T := TT) (pr := RR) 22 [⟨(.list tapiPair), a0⟩] [] (.list tapiPair) []).trans (by kernel_rfl)
theorem law07_Few.l0.eq (x0 : den (.list tapiPair)) (x1 : den (.int .i64)) (x2 : denO (.row 43 tapiPair false)) : law07_Few.l0 x0 x1 x2 =
  br (ltI x1 (ofN (lenL tapiPair x0)))
   (law07_Few.j1 x0 x1 (ltI x1 (40 : Int)) x2)
   (law07_Few.j1 x0 x1 false x2) :=
  (loopB_eq (P := PP) (T := TT) (C := CF) [1, 1, 0, 1, 0, 0] [1, 1, 0, 1, 0, 0] 22 0 ⟨[(0, ⟨(.list tapiPair), x0⟩), (3, ⟨(.own tapiPair 0), ()⟩), (4, ⟨(.int .i64), x1⟩)], [⟨(.row 43 tapiPair false), x2⟩]⟩ (blockK 0 (seqK false [1, 1, 1] (BF 22 0 [1, 1, 1]) (finF 22 (.list tapiPair) [] 0)))).trans (by kernel_rfl)
theorem law07_Few.j1.eq (x0 : den (.list tapiPair)) (x1 : den (.int .i64)) (x2 : den .bool) (x3 : denO (.row 43 tapiPair false)) : law07_Few.j1 x0 x1 x2 x3 =
  br x2
   (br (andB (leI (0 : Int) x1) (ltI x1 (ofN (lenL tapiPair x0)))) (br (andB (leI (0 : Int) x1) (ltI x1 (ofN (lenL tapiPair x0)))) (bnd (base_Cut (ixL tapiPair x0 x1).1 (40 : Int)) fun r0 =>
   bnd (base_Cut (ixL tapiPair x0 x1).2.1 (40 : Int)) fun r1 =>
   br (fitL tapiPair (appL tapiPair x3 ((r0, (r1, ())) :: []))) (law07_Few.l0 x0 (addI .i64 x1 (1 : Int)) (appL tapiPair x3 ((r0, (r1, ())) :: []))) none) none) none)
   (some x3) :=
  (congrFun (congrFun (jnO_eq [1, 1, 0, 1, 0, 0, 0, 1] (BF (R := den (.list tapiPair)) 22 0 [1, 1, 0, 1, 0, 0, 0, 1])) ⟨[(0, ⟨(.list tapiPair), x0⟩), (3, ⟨(.own tapiPair 0), ()⟩), (4, ⟨(.int .i64), x1⟩), (13, ⟨.bool, x2⟩)], [⟨(.row 43 tapiPair false), x3⟩]⟩) (seqK false [1, 1, 0, 1, 0, 0, 1] (BF 22 0 [1, 1, 0, 1, 0, 0, 1]) (againK [1, 1, 0, 1, 0, 0] (loopW [1, 1, 0, 1, 0, 0] (BF 22 0 [1, 1, 0, 1, 0, 0])) (blockK 0 (seqK false [1, 1, 1] (BF 22 0 [1, 1, 1]) (finF 22 (.list tapiPair) [] 0)))))).trans (by kernel_rfl)
theorem ref13_May.eq (a0 : den tapiNode) : ref13_May a0 =
  br (ltI a0.1 (1 : Int))
   (some (11 : Int))
   (br (ltI (6 : Int) a0.1)
    (some (11 : Int))
    (bnd (ref13_long a0) fun r0 =>
    br r0
     (some (6 : Int))
     (bnd (ref13_form a0) fun r1 =>
     br (notB r1)
      (some (4 : Int))
      (some (0 : Int))))) :=
  (callW_eq (P := PP) (T := TT) (pr := RR) 19 [⟨tapiNode, a0⟩] [] (.int .i64) []).trans (by kernel_rfl)
theorem ref06_All.eq (a0 : den (.int .u32)) : ref06_All a0 =
  ref06_All.l0 a0 (0 : Int) [] :=
  (callW_eq (P := PP) (T := TT) (pr := RR) 88 [⟨(.int .u32), a0⟩] [] (.list (.int .i64)) []).trans (by kernel_rfl)
theorem ref06_All.l0.eq (x0 : den (.int .u32)) (x1 : den (.int .i64)) (x2 : denO (.row 3 (.int .i64) false)) : ref06_All.l0 x0 x1 x2 =
  br (ltI x1 (32 : Int))
   (bnd (ref06_Has x0 x1) fun r0 =>
   br r0
    (br (fitL (.int .i64) (appL (.int .i64) x2 (x1 :: []))) (ref06_All.l0 x0 (addI .i64 x1 (1 : Int)) (appL (.int .i64) x2 (x1 :: []))) none)
    (ref06_All.l0 x0 (addI .i64 x1 (1 : Int)) x2))
   (some x2) :=
  (loopB_eq (P := PP) (T := TT) (C := CF) [1, 1, 0, 1, 0, 0] [1, 1, 0, 1, 0, 0] 88 0 ⟨[(0, ⟨(.int .u32), x0⟩), (3, ⟨(.own (.int .i64) 0), ()⟩), (4, ⟨(.int .i64), x1⟩)], [⟨(.row 3 (.int .i64) false), x2⟩]⟩ (blockK 0 (seqK false [1, 1, 1] (BF 88 0 [1, 1, 1]) (finF 88 (.list (.int .i64)) [] 0)))).trans (by kernel_rfl)
theorem branch_branch.eq (a0 : den tapiNode) : branch_branch a0 =
  br (notB (eqI a0.1 (2 : Int)))
   (bnd (node_Branch_o (0 : Int) [] (0 : Int)) fun r0 =>
   some (r0.1, (r0.2.1, (r0.2.2.1, ()))))
   (bnd (node_May a0) fun r1 =>
   br (notB (eqI r1 (0 : Int)))
    (bnd (node_Branch_o (0 : Int) [] (0 : Int)) fun r2 =>
    some (r2.1, (r2.2.1, (r2.2.2.1, ()))))
    (bnd (node_Copy a0) fun r3 =>
    some (r3.1, (r3.2.1, (r3.2.2.1, ()))))) :=
  (callW_eq (P := PP) (T := TT) (pr := RR) 89 [⟨tapiNode, a0⟩] [] (.pair (.int .i64) (.pair .str (.pair .str (.pair (.int .u32) (.pair (.own (.int .i64) 0) (.pair (.int .i64) (.pair (.own tapiPair 1) (.pair (.int .i64) (.pair (.int .i64) .unit))))))))) [(.row 24 (.int .i64) false), (.row 43 tapiPair false)]).trans (by kernel_rfl)
theorem ref06_Make.eq (a0 : den (.list (.int .i64))) : ref06_Make a0 =
  ref06_Make.l0 a0 (0 : Int) (1 : Int) (0 : Int) :=
  (callW_eq (P := PP) (T := TT) (pr := RR) 90 [⟨(.list (.int .i64)), a0⟩] [] (.int .u32) []).trans (by kernel_rfl)
theorem ref06_Make.l0.eq (x0 : den (.list (.int .i64))) (x1 : den (.int .u32)) (x2 : den (.int .u32)) (x3 : den (.int .i64)) : ref06_Make.l0 x0 x1 x2 x3 =
  br (ltI x3 (32 : Int))
   (ref06_Make.l1 x0 x1 x2 x3 false (0 : Int))
   (some x1) :=
  (loopB_eq (P := PP) (T := TT) (C := CF) [1, 1, 0, 1, 0, 0] [1, 1, 0, 1, 0, 0] 90 0 ⟨[(0, ⟨(.list (.int .i64)), x0⟩), (3, ⟨(.int .u32), x1⟩), (4, ⟨(.int .u32), x2⟩), (5, ⟨(.int .i64), x3⟩)], []⟩ (blockK 0 (seqK false [1, 1, 1] (BF 90 0 [1, 1, 1]) (finF 90 (.int .u32) [] 0)))).trans (by kernel_rfl)
theorem ref06_Make.l1.eq (x0 : den (.list (.int .i64))) (x1 : den (.int .u32)) (x2 : den (.int .u32)) (x3 : den (.int .i64)) (x4 : den .bool) (x5 : den (.int .i64)) : ref06_Make.l1 x0 x1 x2 x3 x4 x5 =
  br (ltI x5 (ofN (lenL (.int .i64) x0)))
   (br x4
    (ref06_Make.l1 x0 x1 x2 x3 true (addI .i64 x5 (1 : Int)))
    (br (andB (leI (0 : Int) x5) (ltI x5 (ofN (lenL (.int .i64) x0)))) (ref06_Make.l1 x0 x1 x2 x3 (eqI (ixL (.int .i64) x0 x5) x3) (addI .i64 x5 (1 : Int))) none))
   (br x4
    (ref06_Make.l0 x0 (addI .u32 x1 x2) (mulI .u32 (2 : Int) x2) (addI .i64 x3 (1 : Int)))
    (ref06_Make.l0 x0 x1 (mulI .u32 (2 : Int) x2) (addI .i64 x3 (1 : Int)))) :=
  (loopB_eq (P := PP) (T := TT) (C := CF) [1, 1, 0, 1, 0, 0, 1, 0, 0, 1, 0, 1, 0, 0] [1, 1, 0, 1, 0, 0, 1, 0, 0, 1, 0, 1, 0, 0] 90 0 ⟨[(0, ⟨(.list (.int .i64)), x0⟩), (3, ⟨(.int .u32), x1⟩), (4, ⟨(.int .u32), x2⟩), (5, ⟨(.int .i64), x3⟩), (6, ⟨.bool, x4⟩), (7, ⟨(.int .i64), x5⟩)], []⟩ (blockK 2 (seqK false [1, 1, 0, 1, 0, 0, 1, 0, 0, 1, 1] (BF 90 0 [1, 1, 0, 1, 0, 0, 1, 0, 0, 1, 1]) (blockK 1 (seqK false [1, 1, 0, 1, 0, 0, 1, 1] (BF 90 0 [1, 1, 0, 1, 0, 0, 1, 1]) (againK [1, 1, 0, 1, 0, 0] (loopW [1, 1, 0, 1, 0, 0] (BF 90 0 [1, 1, 0, 1, 0, 0])) (blockK 0 (seqK false [1, 1, 1] (BF 90 0 [1, 1, 1]) (finF 90 (.int .u32) [] 0))))))))).trans (by kernel_rfl)
theorem mask_Has.eq (a0 : den (.int .u32)) (a1 : den (.int .i64)) : mask_Has a0 a1 =
  bnd (mask_in a1) fun r0 =>
  br r0
   (br (leI (0 : Int) a1) (some (eqI (andI .u32 (shrI .u32 a0 a1) (1 : Int)) (1 : Int))) none)
   (some false) :=
  (callW_eq (P := PP) (T := TT) (pr := RR) 91 [⟨(.int .u32), a0⟩, ⟨(.int .i64), a1⟩] [] .bool []).trans (by kernel_rfl)
theorem mask_Place.eq (a0 : den (.int .u32)) (a1 : den (.int .i64)) : mask_Place a0 a1 =
  bnd (mask_below a1) fun r0 =>
  bnd (math_bits_OnesCount32 (andI .u32 a0 r0)) fun r1 =>
  some r1 :=
  (callW_eq (P := PP) (T := TT) (pr := RR) 92 [⟨(.int .u32), a0⟩, ⟨(.int .i64), a1⟩] [] (.int .i64) []).trans (by kernel_rfl)
theorem ref13_SameRefs.eq (a0 : den (.list (.int .i64))) (a1 : den (.list (.int .i64))) : ref13_SameRefs a0 a1 =
  br (notB (eqI (ofN (lenL (.int .i64) a0)) (ofN (lenL (.int .i64) a1))))
   (some false)
   (ref13_SameRefs.l0 a0 a1 (0 : Int)) :=
  (callW_eq (P := PP) (T := TT) (pr := RR) 33 [⟨(.list (.int .i64)), a0⟩, ⟨(.list (.int .i64)), a1⟩] [] .bool []).trans (by kernel_rfl)
theorem ref13_SameRefs.l0.eq (x0 : den (.list (.int .i64))) (x1 : den (.list (.int .i64))) (x2 : den (.int .i64)) : ref13_SameRefs.l0 x0 x1 x2 =
  br (ltI x2 (ofN (lenL (.int .i64) x0)))
   (br (andB (leI (0 : Int) x2) (ltI x2 (ofN (lenL (.int .i64) x0)))) (br (andB (leI (0 : Int) x2) (ltI x2 (ofN (lenL (.int .i64) x1)))) (br (notB (eqI (ixL (.int .i64) x0 x2) (ixL (.int .i64) x1 x2)))
    (some false)
    (ref13_SameRefs.l0 x0 x1 (addI .i64 x2 (1 : Int)))) none) none)
   (some true) :=
  (loopB_eq (P := PP) (T := TT) (C := CF) [1, 1, 0, 1, 0, 0] [1, 1, 0, 1, 0, 0] 33 0 ⟨[(0, ⟨(.list (.int .i64)), x0⟩), (1, ⟨(.list (.int .i64)), x1⟩), (5, ⟨(.int .i64), x2⟩)], []⟩ (blockK 0 (seqK false [1, 1, 1] (BF 33 0 [1, 1, 1]) (finF 33 .bool [] 0)))).trans (by kernel_rfl)
theorem ref07_Same.eq (a0 : den (.list tapiPair)) (a1 : den (.list tapiPair)) : ref07_Same a0 a1 =
  br (notB (eqI (ofN (lenL tapiPair a0)) (ofN (lenL tapiPair a1))))
   (some false)
   (ref07_Same.l0 a0 a1 (0 : Int)) :=
  (callW_eq (P := PP) (T := TT) (pr := RR) 36 [⟨(.list tapiPair), a0⟩, ⟨(.list tapiPair), a1⟩] [] .bool []).trans (by kernel_rfl)
theorem ref07_Same.l0.eq (x0 : den (.list tapiPair)) (x1 : den (.list tapiPair)) (x2 : den (.int .i64)) : ref07_Same.l0 x0 x1 x2 =
  br (ltI x2 (ofN (lenL tapiPair x0)))
   (br (andB (leI (0 : Int) x2) (ltI x2 (ofN (lenL tapiPair x0)))) (br (andB (leI (0 : Int) x2) (ltI x2 (ofN (lenL tapiPair x1)))) (br (notB (andB (eqS (ixL tapiPair x0 x2).1 (ixL tapiPair x1 x2).1) (andB (eqS (ixL tapiPair x0 x2).2.1 (ixL tapiPair x1 x2).2.1) true)))
    (some false)
    (ref07_Same.l0 x0 x1 (addI .i64 x2 (1 : Int)))) none) none)
   (some true) :=
  (loopB_eq (P := PP) (T := TT) (C := CF) [1, 1, 0, 1, 0, 0] [1, 1, 0, 1, 0, 0] 36 0 ⟨[(0, ⟨(.list tapiPair), x0⟩), (1, ⟨(.list tapiPair), x1⟩), (5, ⟨(.int .i64), x2⟩)], []⟩ (blockK 0 (seqK false [1, 1, 1] (BF 36 0 [1, 1, 1]) (finF 36 .bool [] 0)))).trans (by kernel_rfl)
theorem mask_With.eq (a0 : den (.int .u32)) (a1 : den (.int .i64)) : mask_With a0 a1 =
  bnd (mask_in a1) fun r0 =>
  br (notB r0)
   (some a0)
   (br (leI (0 : Int) a1) (some (orI .u32 a0 (shlI .u32 (1 : Int) a1))) none) :=
  (callW_eq (P := PP) (T := TT) (pr := RR) 93 [⟨(.int .u32), a0⟩, ⟨(.int .i64), a1⟩] [] (.int .u32) []).trans (by kernel_rfl)
theorem slices_Insertapi_Ref_api_Ref.eq (a0 : den (.int .i64)) (a1 : denO (.row 24 (.int .i64) true)) (a2 : denO (.row 24 (.int .i64) true)) : slices_Insertapi_Ref_api_Ref a0 a1 a2 =
  br (insG (.int .i64) a1 a0 a2) (some ((), ((insL (.int .i64) a1 a0 a2), (a2, ())))) none :=
  (callW_eq (P := PP) (T := TT) (pr := RR) 94 [⟨(.own (.int .i64) 0), ()⟩, ⟨(.int .i64), a0⟩, ⟨(.own (.int .i64) 1), ()⟩] [⟨(.row 24 (.int .i64) true), a1⟩, ⟨(.row 24 (.int .i64) true), a2⟩] (.own (.int .i64) 0) [(.row 24 (.int .i64) false), (.row 24 (.int .i64) true)]).trans (by kernel_rfl)
theorem slices_Deleteapi_Ref_api_Ref.eq (a0 : den (.int .i64)) (a1 : den (.int .i64)) (a2 : denO (.row 24 (.int .i64) true)) : slices_Deleteapi_Ref_api_Ref a0 a1 a2 =
  br (delG (.int .i64) a2 a0 a1) (some ((), ((delL (.int .i64) a2 a0 a1), ()))) none :=
  (callW_eq (P := PP) (T := TT) (pr := RR) 95 [⟨(.own (.int .i64) 0), ()⟩, ⟨(.int .i64), a0⟩, ⟨(.int .i64), a1⟩] [⟨(.row 24 (.int .i64) true), a2⟩] (.own (.int .i64) 0) [(.row 24 (.int .i64) false)]).trans (by kernel_rfl)
theorem mask_Without.eq (a0 : den (.int .u32)) (a1 : den (.int .i64)) : mask_Without a0 a1 =
  bnd (mask_in a1) fun r0 =>
  br (notB r0)
   (some a0)
   (br (leI (0 : Int) a1) (some (andNotI .u32 a0 (shlI .u32 (1 : Int) a1))) none) :=
  (callW_eq (P := PP) (T := TT) (pr := RR) 96 [⟨(.int .u32), a0⟩, ⟨(.int .i64), a1⟩] [] (.int .u32) []).trans (by kernel_rfl)
theorem node_formed.eq (a0 : den tapiNode) : node_formed a0 =
  br (eqI a0.1 (1 : Int))
   (bnd (node_Leaf a0.2.1 a0.2.2.1) fun r0 =>
   some r0)
   (br (eqI a0.1 (6 : Int))
    (bnd (node_Tomb a0.2.1 a0.2.2.1) fun r1 =>
    some r1)
    (br (eqI a0.1 (2 : Int))
     (bnd (node_Branch a0.2.2.2.1 a0.2.2.2.2.1 (maxI a0.2.2.2.2.2.2.2.1 (0 : Int))) fun r2 =>
     some r2)
     (br (eqI a0.1 (3 : Int))
      (bnd (node_Bucket a0.2.2.2.2.2.2.1) fun r3 =>
      some r3)
      (br (eqI a0.1 (4 : Int))
       (br (eqI (ofN (lenL (.int .i64) a0.2.2.2.2.1)) (2 : Int))
        (br (andB (leI (0 : Int) (0 : Int)) (ltI (0 : Int) (ofN (lenL (.int .i64) a0.2.2.2.2.1)))) (br (andB (leI (0 : Int) (1 : Int)) (ltI (1 : Int) (ofN (lenL (.int .i64) a0.2.2.2.2.1)))) (bnd (node_Tree a0.2.1 a0.2.2.1 (ixL (.int .i64) a0.2.2.2.2.1 (0 : Int)) (ixL (.int .i64) a0.2.2.2.2.1 (1 : Int)) (maxI a0.2.2.2.2.2.2.2.1 (1 : Int))) fun r4 =>
        some r4) none) none)
        (some ((0 : Int), (ByteArray.empty, (ByteArray.empty, ((0 : Int), ([], ((0 : Int), ([], ((0 : Int), ((0 : Int), ())))))))))))
       (br (eqI a0.1 (5 : Int))
        (bnd (node_Inner a0.2.2.2.2.2.1) fun r5 =>
        some r5)
        (some ((0 : Int), (ByteArray.empty, (ByteArray.empty, ((0 : Int), ([], ((0 : Int), ([], ((0 : Int), ((0 : Int), ()))))))))))))))) :=
  (callW_eq (P := PP) (T := TT) (pr := RR) 76 [⟨tapiNode, a0⟩] [] tapiNode []).trans (by kernel_rfl)
theorem node_long.eq (a0 : den tapiNode) : node_long a0 =
  bnd (node_long_1 (a0.2.1, (a0.2.2.1, ()))) fun r0 =>
  br r0
   (some true)
   (bnd (slices_ContainsFuncapi_Pair_api_Pair a0.2.2.2.2.2.2.1) fun r1 =>
   some r1) :=
  (callW_eq (P := PP) (T := TT) (pr := RR) 77 [⟨tapiNode, a0⟩] [] .bool []).trans (by kernel_rfl)
theorem node_Same.eq (a0 : den tapiNode) (a1 : den tapiNode) : node_Same a0 a1 =
  br (eqI a0.1 a1.1)
   (br (eqS a0.2.1 a1.2.1)
    (br (eqS a0.2.2.1 a1.2.2.1)
     (node_Same.j0 (eqI a0.2.2.2.1 a1.2.2.2.1) a0 a1)
     (node_Same.j0 false a0 a1))
    (node_Same.j0 false a0 a1))
   (node_Same.j0 false a0 a1) :=
  (callW_eq (P := PP) (T := TT) (pr := RR) 32 [⟨tapiNode, a0⟩, ⟨tapiNode, a1⟩] [] .bool []).trans (by kernel_rfl)
theorem node_Same.j0.eq (x0 : den .bool) (x1 : denO (.box tapiNode)) (x2 : denO (.box tapiNode)) : node_Same.j0 x0 x1 x2 =
  br x0
   (br (eqI x1.2.2.2.2.2.1 x2.2.2.2.2.2.1)
    (br (eqI x1.2.2.2.2.2.2.2.1 x2.2.2.2.2.2.2.2.1)
     (br (eqI x1.2.2.2.2.2.2.2.2.1 x2.2.2.2.2.2.2.2.2.1)
      (bnd (slices_Equalapi_Ref_api_Ref x1.2.2.2.2.1 x2.2.2.2.2.1) fun r0 =>
      br r0
       (bnd (slices_Equalapi_Pair_api_Pair x1.2.2.2.2.2.2.1 x2.2.2.2.2.2.2.1) fun r1 =>
       some r1)
       (some false))
      (some false))
     (some false))
    (some false))
   (some false) :=
  (congrFun (congrFun (jnO_eq [1, 1] (BF (R := den .bool) 32 0 [1, 1])) ⟨[(2, ⟨(.ptr 0 0), ()⟩), (3, ⟨(.ptr 1 0), ()⟩), (5, ⟨.bool, x0⟩)], [⟨(.box tapiNode), x1⟩, ⟨(.box tapiNode), x2⟩]⟩) (finF 32 .bool [] 0)).trans (by kernel_rfl)
theorem node_whole.eq (a0 : den tapiNode) : node_whole a0 =
  br (eqI a0.1 (2 : Int))
   (bnd (mask_Count a0.2.2.2.1) fun r0 =>
   br (eqI (ofN (lenL (.int .i64) a0.2.2.2.2.1)) r0)
    (bnd (slices_Containsapi_Ref_api_Ref a0.2.2.2.2.1 (0 : Int)) fun r1 =>
    some (notB r1))
    (some false))
   (br (eqI a0.1 (3 : Int))
    (br (leI (2 : Int) (ofN (lenL tapiPair a0.2.2.2.2.2.2.1)))
     (bnd (pair_Is a0.2.2.2.2.2.2.1) fun r2 =>
     some r2)
     (some false))
    (br (eqI a0.1 (5 : Int))
     (some (notB (eqI a0.2.2.2.2.2.1 (0 : Int))))
     (some true))) :=
  (callW_eq (P := PP) (T := TT) (pr := RR) 78 [⟨tapiNode, a0⟩] [] .bool []).trans (by kernel_rfl)
theorem ref13_long.eq (a0 : den tapiNode) : ref13_long a0 =
  br (ltI (16 : Int) (ofN (lenS a0.2.1)))
   (ref13_long.l0 true (0 : Int) a0)
   (ref13_long.l0 (ltI (16 : Int) (ofN (lenS a0.2.2.1))) (0 : Int) a0) :=
  (callW_eq (P := PP) (T := TT) (pr := RR) 79 [⟨tapiNode, a0⟩] [] .bool []).trans (by kernel_rfl)
theorem ref13_long.l0.eq (x0 : den .bool) (x1 : den (.int .i64)) (x2 : denO (.box tapiNode)) : ref13_long.l0 x0 x1 x2 =
  br (ltI x1 (ofN (lenL tapiPair x2.2.2.2.2.2.2.1)))
   (br x0
    (ref13_long.l0 true (addI .i64 x1 (1 : Int)) x2)
    (br (andB (leI (0 : Int) x1) (ltI x1 (ofN (lenL tapiPair x2.2.2.2.2.2.2.1)))) (br (ltI (16 : Int) (ofN (lenS (ixL tapiPair x2.2.2.2.2.2.2.1 x1).1)))
     (ref13_long.l0 true (addI .i64 x1 (1 : Int)) x2)
     (br (andB (leI (0 : Int) x1) (ltI x1 (ofN (lenL tapiPair x2.2.2.2.2.2.2.1)))) (ref13_long.l0 (ltI (16 : Int) (ofN (lenS (ixL tapiPair x2.2.2.2.2.2.2.1 x1).2.1))) (addI .i64 x1 (1 : Int)) x2) none)) none))
   (some x0) :=
  (loopB_eq (P := PP) (T := TT) (C := CF) [1, 1, 0, 1, 0, 0] [1, 1, 0, 1, 0, 0] 79 0 ⟨[(1, ⟨(.ptr 0 0), ()⟩), (3, ⟨.bool, x0⟩), (4, ⟨(.int .i64), x1⟩)], [⟨(.box tapiNode), x2⟩]⟩ (blockK 0 (seqK false [1, 1, 1] (BF 79 0 [1, 1, 1]) (finF 79 .bool [] 0)))).trans (by kernel_rfl)
theorem ref13_form.eq (a0 : den tapiNode) : ref13_form a0 =
  br (ltI a0.2.2.2.2.2.2.2.2.1 (0 : Int))
   (some false)
   (br (eqI a0.1 (1 : Int))
    (ref13_form.j0 a0.1 true a0)
    (ref13_form.j0 a0.1 (eqI a0.1 (6 : Int)) a0)) :=
  (callW_eq (P := PP) (T := TT) (pr := RR) 80 [⟨tapiNode, a0⟩] [] .bool []).trans (by kernel_rfl)
theorem ref13_form.j0.eq (x0 : den (.int .i64)) (x1 : den .bool) (x2 : denO (.box tapiNode)) : ref13_form.j0 x0 x1 x2 =
  br x1
   (br (eqI x2.2.2.2.2.2.2.2.1 (1 : Int))
    (bnd (ref13_bare x2 false true true true) fun r0 =>
    some r0)
    (some false))
   (br (eqI x0 (2 : Int))
    (ref13_form.l1 (0 : Int) x2)
    (br (eqI x0 (3 : Int))
     (br (leI (2 : Int) (ofN (lenL tapiPair x2.2.2.2.2.2.2.1)))
      (bnd (ref07_Is x2.2.2.2.2.2.2.1) fun r1 =>
      br r1
       (br (eqI x2.2.2.2.2.2.2.2.1 (ofN (lenL tapiPair x2.2.2.2.2.2.2.1)))
        (bnd (ref13_bare x2 true true true false) fun r2 =>
        some r2)
        (some false))
       (some false))
      (some false))
     (br (eqI x0 (4 : Int))
      (br (eqI x2.2.2.2.1 (0 : Int))
       (br (eqI (ofN (lenL (.int .i64) x2.2.2.2.2.1)) (2 : Int))
        (br (leI (1 : Int) x2.2.2.2.2.2.2.2.1)
         (bnd (ref13_bare x2 false false true true) fun r3 =>
         some r3)
         (some false))
        (some false))
       (some false))
      (br (notB (eqI x2.2.2.2.2.2.1 (0 : Int)))
       (br (eqI x2.2.2.2.2.2.2.2.1 (0 : Int))
        (bnd (ref13_bare x2 true true false true) fun r4 =>
        some r4)
        (some false))
       (some false))))) :=
  (congrFun (congrFun (jnO_eq [1, 1, 0, 1, 0, 1] (BF (R := den .bool) 80 0 [1, 1, 0, 1, 0, 1])) ⟨[(1, ⟨(.ptr 0 0), ()⟩), (8, ⟨(.int .i64), x0⟩), (9, ⟨.bool, x1⟩)], [⟨(.box tapiNode), x2⟩]⟩) (blockK 0 (seqK false [1, 1, 1] (BF 80 0 [1, 1, 1]) (finF 80 .bool [] 0)))).trans (by kernel_rfl)
theorem ref13_form.l1.eq (x0 : den (.int .i64)) (x1 : denO (.box tapiNode)) : ref13_form.l1 x0 x1 =
  br (ltI x0 (ofN (lenL (.int .i64) x1.2.2.2.2.1)))
   (br (andB (leI (0 : Int) x0) (ltI x0 (ofN (lenL (.int .i64) x1.2.2.2.2.1)))) (br (eqI (ixL (.int .i64) x1.2.2.2.2.1 x0) (0 : Int))
    (some false)
    (ref13_form.l1 (addI .i64 x0 (1 : Int)) x1)) none)
   (bnd (ref06_All x1.2.2.2.1) fun r0 =>
   br (eqI (ofN (lenL (.int .i64) x1.2.2.2.2.1)) (ofN (lenL (.int .i64) r0)))
    (br (leI (0 : Int) x1.2.2.2.2.2.2.2.1)
     (bnd (ref13_bare x1 true false true true) fun r1 =>
     some r1)
     (some false))
    (some false)) :=
  (loopB_eq (P := PP) (T := TT) (C := CF) [1, 1, 0, 1, 0, 1, 1, 1, 0, 0, 1, 0, 0] [1, 1, 0, 1, 0, 1, 1, 1, 0, 0, 1, 0, 0] 80 0 ⟨[(1, ⟨(.ptr 0 0), ()⟩), (3, ⟨(.int .i64), x0⟩)], [⟨(.box tapiNode), x1⟩]⟩ (blockK 1 (seqK false [1, 1, 0, 1, 0, 1, 1, 1, 0, 1] (BF 80 0 [1, 1, 0, 1, 0, 1, 1, 1, 0, 1]) (blockK 0 (seqK false [1, 1, 1] (BF 80 0 [1, 1, 1]) (finF 80 .bool [] 0)))))).trans (by kernel_rfl)
theorem ref06_Has.eq (a0 : den (.int .u32)) (a1 : den (.int .i64)) : ref06_Has a0 a1 =
  ref06_Has.l0 a0 a1 (0 : Int) :=
  (callW_eq (P := PP) (T := TT) (pr := RR) 119 [⟨(.int .u32), a0⟩, ⟨(.int .i64), a1⟩] [] .bool []).trans (by kernel_rfl)
theorem ref06_Has.l0.eq (x0 : den (.int .u32)) (x1 : den (.int .i64)) (x2 : den (.int .i64)) : ref06_Has.l0 x0 x1 x2 =
  br (ltI x2 (32 : Int))
   (br (notB (eqI (2 : Int) (0 : Int))) (br (eqI (remI x0 (2 : Int)) (1 : Int))
    (br (eqI x2 x1)
     (some true)
     (br (notB (eqI (2 : Int) (0 : Int))) (ref06_Has.l0 (quoI .u32 x0 (2 : Int)) x1 (addI .i64 x2 (1 : Int))) none))
    (br (notB (eqI (2 : Int) (0 : Int))) (ref06_Has.l0 (quoI .u32 x0 (2 : Int)) x1 (addI .i64 x2 (1 : Int))) none)) none)
   (some false) :=
  (loopB_eq (P := PP) (T := TT) (C := CF) [1, 0, 1, 0, 0] [1, 0, 1, 0, 0] 119 0 ⟨[(0, ⟨(.int .u32), x0⟩), (1, ⟨(.int .i64), x1⟩), (5, ⟨(.int .i64), x2⟩)], []⟩ (blockK 0 (seqK false [1, 1] (BF 119 0 [1, 1]) (finF 119 .bool [] 0)))).trans (by kernel_rfl)
theorem node_Branch_o.eq (a0 : den (.int .u32)) (a1 : den (.list (.int .i64))) (a2 : den (.int .i64)) : node_Branch_o a0 a1 a2 =
  bnd (slices_Cloneapi_Ref_api_Ref a1) fun r0 =>
  some (((2 : Int), (ByteArray.empty, (ByteArray.empty, (a0, ((), ((0 : Int), ((), (a2, ((0 : Int), ()))))))))), (r0.2.1, ([], ()))) :=
  (callW_eq (P := PP) (T := TT) (pr := RR) 30 [⟨(.int .u32), a0⟩, ⟨(.list (.int .i64)), a1⟩, ⟨(.int .i64), a2⟩] [] (.pair (.int .i64) (.pair .str (.pair .str (.pair (.int .u32) (.pair (.own (.int .i64) 0) (.pair (.int .i64) (.pair (.own tapiPair 1) (.pair (.int .i64) (.pair (.int .i64) .unit))))))))) [(.row 24 (.int .i64) false), (.row 43 tapiPair false)]).trans (by kernel_rfl)
theorem node_Copy.eq (a0 : den tapiNode) : node_Copy a0 =
  bnd (slices_Cloneapi_Ref_api_Ref a0.2.2.2.2.1) fun r0 =>
  bnd (slices_Cloneapi_Pair_api_Pair a0.2.2.2.2.2.2.1) fun r1 =>
  some ((a0.1, (a0.2.1, (a0.2.2.1, (a0.2.2.2.1, ((), (a0.2.2.2.2.2.1, ((), a0.2.2.2.2.2.2.2))))))), (r0.2.1, (r1.2.1, ()))) :=
  (callW_eq (P := PP) (T := TT) (pr := RR) 31 [⟨tapiNode, a0⟩] [] (.pair (.int .i64) (.pair .str (.pair .str (.pair (.int .u32) (.pair (.own (.int .i64) 0) (.pair (.int .i64) (.pair (.own tapiPair 1) (.pair (.int .i64) (.pair (.int .i64) .unit))))))))) [(.row 24 (.int .i64) false), (.row 43 tapiPair false)]).trans (by kernel_rfl)
theorem mask_in.eq (a0 : den (.int .i64)) : mask_in a0 =
  br (leI (0 : Int) a0)
   (some (ltI a0 (32 : Int)))
   (some false) :=
  (callW_eq (P := PP) (T := TT) (pr := RR) 120 [⟨(.int .i64), a0⟩] [] .bool []).trans (by kernel_rfl)
theorem mask_below.eq (a0 : den (.int .i64)) : mask_below a0 =
  br (leI a0 (0 : Int))
   (some (0 : Int))
   (br (leI (32 : Int) a0)
    (some (4294967295 : Int))
    (br (leI (0 : Int) a0) (some (subI .u32 (shlI .u32 (1 : Int) a0) (1 : Int))) none)) :=
  (callW_eq (P := PP) (T := TT) (pr := RR) 122 [⟨(.int .i64), a0⟩] [] (.int .u32) []).trans (by kernel_rfl)
theorem math_bits_OnesCount32.eq (a0 : den (.int .u32)) : math_bits_OnesCount32 a0 =
  br (leI (0 : Int) (24 : Int)) (br (andB (leI (0 : Int) (shrI .u32 a0 (24 : Int))) (ltI (shrI .u32 a0 (24 : Int)) (ofN (lenS (ByteArray.mk #[0, 1, 1, 2, 1, 2, 2, 3, 1, 2, 2, 3, 2, 3, 3, 4, 1, 2, 2, 3, 2, 3, 3, 4, 2, 3, 3, 4, 3, 4, 4, 5, 1, 2, 2, 3, 2, 3, 3, 4, 2, 3, 3, 4, 3, 4, 4, 5, 2, 3, 3, 4, 3, 4, 4, 5, 3, 4, 4, 5, 4, 5, 5, 6, 1, 2, 2, 3, 2, 3, 3, 4, 2, 3, 3, 4, 3, 4, 4, 5, 2, 3, 3, 4, 3, 4, 4, 5, 3, 4, 4, 5, 4, 5, 5, 6, 2, 3, 3, 4, 3, 4, 4, 5, 3, 4, 4, 5, 4, 5, 5, 6, 3, 4, 4, 5, 4, 5, 5, 6, 4, 5, 5, 6, 5, 6, 6, 7, 1, 2, 2, 3, 2, 3, 3, 4, 2, 3, 3, 4, 3, 4, 4, 5, 2, 3, 3, 4, 3, 4, 4, 5, 3, 4, 4, 5, 4, 5, 5, 6, 2, 3, 3, 4, 3, 4, 4, 5, 3, 4, 4, 5, 4, 5, 5, 6, 3, 4, 4, 5, 4, 5, 5, 6, 4, 5, 5, 6, 5, 6, 6, 7, 2, 3, 3, 4, 3, 4, 4, 5, 3, 4, 4, 5, 4, 5, 5, 6, 3, 4, 4, 5, 4, 5, 5, 6, 4, 5, 5, 6, 5, 6, 6, 7, 3, 4, 4, 5, 4, 5, 5, 6, 4, 5, 5, 6, 5, 6, 6, 7, 4, 5, 5, 6, 5, 6, 6, 7, 5, 6, 6, 7, 6, 7, 7, 8]))))) (br (leI (0 : Int) (16 : Int)) (br (andB (leI (0 : Int) (andI .u32 (shrI .u32 a0 (16 : Int)) (255 : Int))) (ltI (andI .u32 (shrI .u32 a0 (16 : Int)) (255 : Int)) (ofN (lenS (ByteArray.mk #[0, 1, 1, 2, 1, 2, 2, 3, 1, 2, 2, 3, 2, 3, 3, 4, 1, 2, 2, 3, 2, 3, 3, 4, 2, 3, 3, 4, 3, 4, 4, 5, 1, 2, 2, 3, 2, 3, 3, 4, 2, 3, 3, 4, 3, 4, 4, 5, 2, 3, 3, 4, 3, 4, 4, 5, 3, 4, 4, 5, 4, 5, 5, 6, 1, 2, 2, 3, 2, 3, 3, 4, 2, 3, 3, 4, 3, 4, 4, 5, 2, 3, 3, 4, 3, 4, 4, 5, 3, 4, 4, 5, 4, 5, 5, 6, 2, 3, 3, 4, 3, 4, 4, 5, 3, 4, 4, 5, 4, 5, 5, 6, 3, 4, 4, 5, 4, 5, 5, 6, 4, 5, 5, 6, 5, 6, 6, 7, 1, 2, 2, 3, 2, 3, 3, 4, 2, 3, 3, 4, 3, 4, 4, 5, 2, 3, 3, 4, 3, 4, 4, 5, 3, 4, 4, 5, 4, 5, 5, 6, 2, 3, 3, 4, 3, 4, 4, 5, 3, 4, 4, 5, 4, 5, 5, 6, 3, 4, 4, 5, 4, 5, 5, 6, 4, 5, 5, 6, 5, 6, 6, 7, 2, 3, 3, 4, 3, 4, 4, 5, 3, 4, 4, 5, 4, 5, 5, 6, 3, 4, 4, 5, 4, 5, 5, 6, 4, 5, 5, 6, 5, 6, 6, 7, 3, 4, 4, 5, 4, 5, 5, 6, 4, 5, 5, 6, 5, 6, 6, 7, 4, 5, 5, 6, 5, 6, 6, 7, 5, 6, 6, 7, 6, 7, 7, 8]))))) (br (leI (0 : Int) (8 : Int)) (br (andB (leI (0 : Int) (andI .u32 (shrI .u32 a0 (8 : Int)) (255 : Int))) (ltI (andI .u32 (shrI .u32 a0 (8 : Int)) (255 : Int)) (ofN (lenS (ByteArray.mk #[0, 1, 1, 2, 1, 2, 2, 3, 1, 2, 2, 3, 2, 3, 3, 4, 1, 2, 2, 3, 2, 3, 3, 4, 2, 3, 3, 4, 3, 4, 4, 5, 1, 2, 2, 3, 2, 3, 3, 4, 2, 3, 3, 4, 3, 4, 4, 5, 2, 3, 3, 4, 3, 4, 4, 5, 3, 4, 4, 5, 4, 5, 5, 6, 1, 2, 2, 3, 2, 3, 3, 4, 2, 3, 3, 4, 3, 4, 4, 5, 2, 3, 3, 4, 3, 4, 4, 5, 3, 4, 4, 5, 4, 5, 5, 6, 2, 3, 3, 4, 3, 4, 4, 5, 3, 4, 4, 5, 4, 5, 5, 6, 3, 4, 4, 5, 4, 5, 5, 6, 4, 5, 5, 6, 5, 6, 6, 7, 1, 2, 2, 3, 2, 3, 3, 4, 2, 3, 3, 4, 3, 4, 4, 5, 2, 3, 3, 4, 3, 4, 4, 5, 3, 4, 4, 5, 4, 5, 5, 6, 2, 3, 3, 4, 3, 4, 4, 5, 3, 4, 4, 5, 4, 5, 5, 6, 3, 4, 4, 5, 4, 5, 5, 6, 4, 5, 5, 6, 5, 6, 6, 7, 2, 3, 3, 4, 3, 4, 4, 5, 3, 4, 4, 5, 4, 5, 5, 6, 3, 4, 4, 5, 4, 5, 5, 6, 4, 5, 5, 6, 5, 6, 6, 7, 3, 4, 4, 5, 4, 5, 5, 6, 4, 5, 5, 6, 5, 6, 6, 7, 4, 5, 5, 6, 5, 6, 6, 7, 5, 6, 6, 7, 6, 7, 7, 8]))))) (br (andB (leI (0 : Int) (andI .u32 a0 (255 : Int))) (ltI (andI .u32 a0 (255 : Int)) (ofN (lenS (ByteArray.mk #[0, 1, 1, 2, 1, 2, 2, 3, 1, 2, 2, 3, 2, 3, 3, 4, 1, 2, 2, 3, 2, 3, 3, 4, 2, 3, 3, 4, 3, 4, 4, 5, 1, 2, 2, 3, 2, 3, 3, 4, 2, 3, 3, 4, 3, 4, 4, 5, 2, 3, 3, 4, 3, 4, 4, 5, 3, 4, 4, 5, 4, 5, 5, 6, 1, 2, 2, 3, 2, 3, 3, 4, 2, 3, 3, 4, 3, 4, 4, 5, 2, 3, 3, 4, 3, 4, 4, 5, 3, 4, 4, 5, 4, 5, 5, 6, 2, 3, 3, 4, 3, 4, 4, 5, 3, 4, 4, 5, 4, 5, 5, 6, 3, 4, 4, 5, 4, 5, 5, 6, 4, 5, 5, 6, 5, 6, 6, 7, 1, 2, 2, 3, 2, 3, 3, 4, 2, 3, 3, 4, 3, 4, 4, 5, 2, 3, 3, 4, 3, 4, 4, 5, 3, 4, 4, 5, 4, 5, 5, 6, 2, 3, 3, 4, 3, 4, 4, 5, 3, 4, 4, 5, 4, 5, 5, 6, 3, 4, 4, 5, 4, 5, 5, 6, 4, 5, 5, 6, 5, 6, 6, 7, 2, 3, 3, 4, 3, 4, 4, 5, 3, 4, 4, 5, 4, 5, 5, 6, 3, 4, 4, 5, 4, 5, 5, 6, 4, 5, 5, 6, 5, 6, 6, 7, 3, 4, 4, 5, 4, 5, 5, 6, 4, 5, 5, 6, 5, 6, 6, 7, 4, 5, 5, 6, 5, 6, 6, 7, 5, 6, 6, 7, 6, 7, 7, 8]))))) (some (wrapI .i64 (addI .u8 (addI .u8 (addI .u8 (getS (ByteArray.mk #[0, 1, 1, 2, 1, 2, 2, 3, 1, 2, 2, 3, 2, 3, 3, 4, 1, 2, 2, 3, 2, 3, 3, 4, 2, 3, 3, 4, 3, 4, 4, 5, 1, 2, 2, 3, 2, 3, 3, 4, 2, 3, 3, 4, 3, 4, 4, 5, 2, 3, 3, 4, 3, 4, 4, 5, 3, 4, 4, 5, 4, 5, 5, 6, 1, 2, 2, 3, 2, 3, 3, 4, 2, 3, 3, 4, 3, 4, 4, 5, 2, 3, 3, 4, 3, 4, 4, 5, 3, 4, 4, 5, 4, 5, 5, 6, 2, 3, 3, 4, 3, 4, 4, 5, 3, 4, 4, 5, 4, 5, 5, 6, 3, 4, 4, 5, 4, 5, 5, 6, 4, 5, 5, 6, 5, 6, 6, 7, 1, 2, 2, 3, 2, 3, 3, 4, 2, 3, 3, 4, 3, 4, 4, 5, 2, 3, 3, 4, 3, 4, 4, 5, 3, 4, 4, 5, 4, 5, 5, 6, 2, 3, 3, 4, 3, 4, 4, 5, 3, 4, 4, 5, 4, 5, 5, 6, 3, 4, 4, 5, 4, 5, 5, 6, 4, 5, 5, 6, 5, 6, 6, 7, 2, 3, 3, 4, 3, 4, 4, 5, 3, 4, 4, 5, 4, 5, 5, 6, 3, 4, 4, 5, 4, 5, 5, 6, 4, 5, 5, 6, 5, 6, 6, 7, 3, 4, 4, 5, 4, 5, 5, 6, 4, 5, 5, 6, 5, 6, 6, 7, 4, 5, 5, 6, 5, 6, 6, 7, 5, 6, 6, 7, 6, 7, 7, 8]) (toN (shrI .u32 a0 (24 : Int)))) (getS (ByteArray.mk #[0, 1, 1, 2, 1, 2, 2, 3, 1, 2, 2, 3, 2, 3, 3, 4, 1, 2, 2, 3, 2, 3, 3, 4, 2, 3, 3, 4, 3, 4, 4, 5, 1, 2, 2, 3, 2, 3, 3, 4, 2, 3, 3, 4, 3, 4, 4, 5, 2, 3, 3, 4, 3, 4, 4, 5, 3, 4, 4, 5, 4, 5, 5, 6, 1, 2, 2, 3, 2, 3, 3, 4, 2, 3, 3, 4, 3, 4, 4, 5, 2, 3, 3, 4, 3, 4, 4, 5, 3, 4, 4, 5, 4, 5, 5, 6, 2, 3, 3, 4, 3, 4, 4, 5, 3, 4, 4, 5, 4, 5, 5, 6, 3, 4, 4, 5, 4, 5, 5, 6, 4, 5, 5, 6, 5, 6, 6, 7, 1, 2, 2, 3, 2, 3, 3, 4, 2, 3, 3, 4, 3, 4, 4, 5, 2, 3, 3, 4, 3, 4, 4, 5, 3, 4, 4, 5, 4, 5, 5, 6, 2, 3, 3, 4, 3, 4, 4, 5, 3, 4, 4, 5, 4, 5, 5, 6, 3, 4, 4, 5, 4, 5, 5, 6, 4, 5, 5, 6, 5, 6, 6, 7, 2, 3, 3, 4, 3, 4, 4, 5, 3, 4, 4, 5, 4, 5, 5, 6, 3, 4, 4, 5, 4, 5, 5, 6, 4, 5, 5, 6, 5, 6, 6, 7, 3, 4, 4, 5, 4, 5, 5, 6, 4, 5, 5, 6, 5, 6, 6, 7, 4, 5, 5, 6, 5, 6, 6, 7, 5, 6, 6, 7, 6, 7, 7, 8]) (toN (andI .u32 (shrI .u32 a0 (16 : Int)) (255 : Int))))) (getS (ByteArray.mk #[0, 1, 1, 2, 1, 2, 2, 3, 1, 2, 2, 3, 2, 3, 3, 4, 1, 2, 2, 3, 2, 3, 3, 4, 2, 3, 3, 4, 3, 4, 4, 5, 1, 2, 2, 3, 2, 3, 3, 4, 2, 3, 3, 4, 3, 4, 4, 5, 2, 3, 3, 4, 3, 4, 4, 5, 3, 4, 4, 5, 4, 5, 5, 6, 1, 2, 2, 3, 2, 3, 3, 4, 2, 3, 3, 4, 3, 4, 4, 5, 2, 3, 3, 4, 3, 4, 4, 5, 3, 4, 4, 5, 4, 5, 5, 6, 2, 3, 3, 4, 3, 4, 4, 5, 3, 4, 4, 5, 4, 5, 5, 6, 3, 4, 4, 5, 4, 5, 5, 6, 4, 5, 5, 6, 5, 6, 6, 7, 1, 2, 2, 3, 2, 3, 3, 4, 2, 3, 3, 4, 3, 4, 4, 5, 2, 3, 3, 4, 3, 4, 4, 5, 3, 4, 4, 5, 4, 5, 5, 6, 2, 3, 3, 4, 3, 4, 4, 5, 3, 4, 4, 5, 4, 5, 5, 6, 3, 4, 4, 5, 4, 5, 5, 6, 4, 5, 5, 6, 5, 6, 6, 7, 2, 3, 3, 4, 3, 4, 4, 5, 3, 4, 4, 5, 4, 5, 5, 6, 3, 4, 4, 5, 4, 5, 5, 6, 4, 5, 5, 6, 5, 6, 6, 7, 3, 4, 4, 5, 4, 5, 5, 6, 4, 5, 5, 6, 5, 6, 6, 7, 4, 5, 5, 6, 5, 6, 6, 7, 5, 6, 6, 7, 6, 7, 7, 8]) (toN (andI .u32 (shrI .u32 a0 (8 : Int)) (255 : Int))))) (getS (ByteArray.mk #[0, 1, 1, 2, 1, 2, 2, 3, 1, 2, 2, 3, 2, 3, 3, 4, 1, 2, 2, 3, 2, 3, 3, 4, 2, 3, 3, 4, 3, 4, 4, 5, 1, 2, 2, 3, 2, 3, 3, 4, 2, 3, 3, 4, 3, 4, 4, 5, 2, 3, 3, 4, 3, 4, 4, 5, 3, 4, 4, 5, 4, 5, 5, 6, 1, 2, 2, 3, 2, 3, 3, 4, 2, 3, 3, 4, 3, 4, 4, 5, 2, 3, 3, 4, 3, 4, 4, 5, 3, 4, 4, 5, 4, 5, 5, 6, 2, 3, 3, 4, 3, 4, 4, 5, 3, 4, 4, 5, 4, 5, 5, 6, 3, 4, 4, 5, 4, 5, 5, 6, 4, 5, 5, 6, 5, 6, 6, 7, 1, 2, 2, 3, 2, 3, 3, 4, 2, 3, 3, 4, 3, 4, 4, 5, 2, 3, 3, 4, 3, 4, 4, 5, 3, 4, 4, 5, 4, 5, 5, 6, 2, 3, 3, 4, 3, 4, 4, 5, 3, 4, 4, 5, 4, 5, 5, 6, 3, 4, 4, 5, 4, 5, 5, 6, 4, 5, 5, 6, 5, 6, 6, 7, 2, 3, 3, 4, 3, 4, 4, 5, 3, 4, 4, 5, 4, 5, 5, 6, 3, 4, 4, 5, 4, 5, 5, 6, 4, 5, 5, 6, 5, 6, 6, 7, 3, 4, 4, 5, 4, 5, 5, 6, 4, 5, 5, 6, 5, 6, 6, 7, 4, 5, 5, 6, 5, 6, 6, 7, 5, 6, 6, 7, 6, 7, 7, 8]) (toN (andI .u32 a0 (255 : Int))))))) none) none) none) none) none) none) none :=
  (callW_eq (P := PP) (T := TT) (pr := RR) 121 [⟨(.int .u32), a0⟩] [] (.int .i64) []).trans (by kernel_rfl)
theorem node_Leaf.eq (a0 : den .str) (a1 : den .str) : node_Leaf a0 a1 =
  some ((1 : Int), (a0, (a1, ((0 : Int), ([], ((0 : Int), ([], ((1 : Int), ((0 : Int), ()))))))))) :=
  (callW_eq (P := PP) (T := TT) (pr := RR) 24 [⟨.str, a0⟩, ⟨.str, a1⟩] [] tapiNode []).trans (by kernel_rfl)
theorem node_Tomb.eq (a0 : den .str) (a1 : den .str) : node_Tomb a0 a1 =
  some ((6 : Int), (a0, (a1, ((0 : Int), ([], ((0 : Int), ([], ((1 : Int), ((0 : Int), ()))))))))) :=
  (callW_eq (P := PP) (T := TT) (pr := RR) 25 [⟨.str, a0⟩, ⟨.str, a1⟩] [] tapiNode []).trans (by kernel_rfl)
theorem node_Branch.eq (a0 : den (.int .u32)) (a1 : den (.list (.int .i64))) (a2 : den (.int .i64)) : node_Branch a0 a1 a2 =
  bnd (slices_Cloneapi_Ref_api_Ref a1) fun r0 =>
  some ((2 : Int), (ByteArray.empty, (ByteArray.empty, (a0, (r0.2.1, ((0 : Int), ([], (a2, ((0 : Int), ()))))))))) :=
  (callW_eq (P := PP) (T := TT) (pr := RR) 30 [⟨(.int .u32), a0⟩, ⟨(.list (.int .i64)), a1⟩, ⟨(.int .i64), a2⟩] [] tapiNode []).trans (by kernel_rfl)
theorem node_Bucket.eq (a0 : den (.list tapiPair)) : node_Bucket a0 =
  bnd (pair_Make a0) fun r0 =>
  some ((3 : Int), (ByteArray.empty, (ByteArray.empty, ((0 : Int), ([], ((0 : Int), (r0, ((ofN (lenL tapiPair r0)), ((0 : Int), ()))))))))) :=
  (callW_eq (P := PP) (T := TT) (pr := RR) 28 [⟨(.list tapiPair), a0⟩] [] tapiNode []).trans (by kernel_rfl)
theorem node_Tree.eq (a0 : den .str) (a1 : den .str) (a2 : den (.int .i64)) (a3 : den (.int .i64)) (a4 : den (.int .i64)) : node_Tree a0 a1 a2 a3 a4 =
  some ((4 : Int), (a0, (a1, ((0 : Int), ((a2 :: (a3 :: [])), ((0 : Int), ([], (a4, ((0 : Int), ()))))))))) :=
  (callW_eq (P := PP) (T := TT) (pr := RR) 26 [⟨.str, a0⟩, ⟨.str, a1⟩, ⟨(.int .i64), a2⟩, ⟨(.int .i64), a3⟩, ⟨(.int .i64), a4⟩] [] tapiNode []).trans (by kernel_rfl)
theorem node_Inner.eq (a0 : den (.int .i64)) : node_Inner a0 =
  some ((5 : Int), (ByteArray.empty, (ByteArray.empty, ((0 : Int), ([], (a0, ([], ((0 : Int), ((0 : Int), ()))))))))) :=
  (callW_eq (P := PP) (T := TT) (pr := RR) 27 [⟨(.int .i64), a0⟩] [] tapiNode []).trans (by kernel_rfl)
theorem node_long_1.eq (a0 : den tapiPair) : node_long_1 a0 =
  br (ltI (16 : Int) (ofN (lenS a0.1)))
   (some true)
   (some (ltI (16 : Int) (ofN (lenS a0.2.1)))) :=
  (callW_eq (P := PP) (T := TT) (pr := RR) 111 [⟨tapiPair, a0⟩] [] .bool []).trans (by kernel_rfl)
theorem slices_ContainsFuncapi_Pair_api_Pair.eq (a0 : den (.list tapiPair)) : slices_ContainsFuncapi_Pair_api_Pair a0 =
  bnd (slices_IndexFuncapi_Pair_api_Pair a0) fun r0 =>
  some (leI (0 : Int) r0) :=
  (callW_eq (P := PP) (T := TT) (pr := RR) 112 [⟨(.list tapiPair), a0⟩, ⟨(.fn 111 .tnil), ()⟩] [] .bool []).trans (by kernel_rfl)
theorem slices_Equalapi_Ref_api_Ref.eq (a0 : den (.list (.int .i64))) (a1 : den (.list (.int .i64))) : slices_Equalapi_Ref_api_Ref a0 a1 =
  br (notB (eqI (ofN (lenL (.int .i64) a0)) (ofN (lenL (.int .i64) a1))))
   (some false)
   (slices_Equalapi_Ref_api_Ref.l0 a0 a1 (ofN (lenL (.int .i64) a0)) (0 : Int)) :=
  (callW_eq (P := PP) (T := TT) (pr := RR) 86 [⟨(.list (.int .i64)), a0⟩, ⟨(.list (.int .i64)), a1⟩] [] .bool []).trans (by kernel_rfl)
theorem slices_Equalapi_Ref_api_Ref.l0.eq (x0 : den (.list (.int .i64))) (x1 : den (.list (.int .i64))) (x2 : den (.int .i64)) (x3 : den (.int .i64)) : slices_Equalapi_Ref_api_Ref.l0 x0 x1 x2 x3 =
  br (ltI x3 x2)
   (br (andB (leI (0 : Int) x3) (ltI x3 (ofN (lenL (.int .i64) x0)))) (br (andB (leI (0 : Int) x3) (ltI x3 (ofN (lenL (.int .i64) x1)))) (br (notB (eqI (ixL (.int .i64) x0 x3) (ixL (.int .i64) x1 x3)))
    (some false)
    (slices_Equalapi_Ref_api_Ref.l0 x0 x1 x2 (addI .i64 x3 (1 : Int)))) none) none)
   (some true) :=
  (loopB_eq (P := PP) (T := TT) (C := CF) [1, 1, 0, 1, 0, 0] [1, 1, 0, 1, 0, 0] 86 0 ⟨[(0, ⟨(.list (.int .i64)), x0⟩), (1, ⟨(.list (.int .i64)), x1⟩), (12, ⟨(.int .i64), x2⟩), (13, ⟨(.int .i64), x3⟩)], []⟩ (blockK 0 (seqK false [1, 1, 1] (BF 86 0 [1, 1, 1]) (finF 86 .bool [] 0)))).trans (by kernel_rfl)
theorem slices_Equalapi_Pair_api_Pair.eq (a0 : den (.list tapiPair)) (a1 : den (.list tapiPair)) : slices_Equalapi_Pair_api_Pair a0 a1 =
  br (notB (eqI (ofN (lenL tapiPair a0)) (ofN (lenL tapiPair a1))))
   (some false)
   (slices_Equalapi_Pair_api_Pair.l0 a0 a1 (ofN (lenL tapiPair a0)) (0 : Int)) :=
  (callW_eq (P := PP) (T := TT) (pr := RR) 87 [⟨(.list tapiPair), a0⟩, ⟨(.list tapiPair), a1⟩] [] .bool []).trans (by kernel_rfl)
theorem slices_Equalapi_Pair_api_Pair.l0.eq (x0 : den (.list tapiPair)) (x1 : den (.list tapiPair)) (x2 : den (.int .i64)) (x3 : den (.int .i64)) : slices_Equalapi_Pair_api_Pair.l0 x0 x1 x2 x3 =
  br (ltI x3 x2)
   (br (andB (leI (0 : Int) x3) (ltI x3 (ofN (lenL tapiPair x0)))) (br (andB (leI (0 : Int) x3) (ltI x3 (ofN (lenL tapiPair x1)))) (br (notB (andB (eqS (ixL tapiPair x0 x3).1 (ixL tapiPair x1 x3).1) (andB (eqS (ixL tapiPair x0 x3).2.1 (ixL tapiPair x1 x3).2.1) true)))
    (some false)
    (slices_Equalapi_Pair_api_Pair.l0 x0 x1 x2 (addI .i64 x3 (1 : Int)))) none) none)
   (some true) :=
  (loopB_eq (P := PP) (T := TT) (C := CF) [1, 1, 0, 1, 0, 0] [1, 1, 0, 1, 0, 0] 87 0 ⟨[(0, ⟨(.list tapiPair), x0⟩), (1, ⟨(.list tapiPair), x1⟩), (12, ⟨(.int .i64), x2⟩), (13, ⟨(.int .i64), x3⟩)], []⟩ (blockK 0 (seqK false [1, 1, 1] (BF 87 0 [1, 1, 1]) (finF 87 .bool [] 0)))).trans (by kernel_rfl)
theorem mask_Count.eq (a0 : den (.int .u32)) : mask_Count a0 =
  bnd (math_bits_OnesCount32 a0) fun r0 =>
  some r0 :=
  (callW_eq (P := PP) (T := TT) (pr := RR) 113 [⟨(.int .u32), a0⟩] [] (.int .i64) []).trans (by kernel_rfl)
theorem slices_Containsapi_Ref_api_Ref.eq (a0 : den (.list (.int .i64))) (a1 : den (.int .i64)) : slices_Containsapi_Ref_api_Ref a0 a1 =
  bnd (slices_Indexapi_Ref_api_Ref a0 a1) fun r0 =>
  some (leI (0 : Int) r0) :=
  (callW_eq (P := PP) (T := TT) (pr := RR) 114 [⟨(.list (.int .i64)), a0⟩, ⟨(.int .i64), a1⟩] [] .bool []).trans (by kernel_rfl)
theorem pair_Is.eq (a0 : den (.list tapiPair)) : pair_Is a0 =
  pair_Is.l0 a0 (ofN (lenL tapiPair a0)) (0 : Int) :=
  (callW_eq (P := PP) (T := TT) (pr := RR) 115 [⟨(.list tapiPair), a0⟩] [] .bool []).trans (by kernel_rfl)
theorem pair_Is.l0.eq (x0 : den (.list tapiPair)) (x1 : den (.int .i64)) (x2 : den (.int .i64)) : pair_Is.l0 x0 x1 x2 =
  br (ltI x2 x1)
   (br (ltI (0 : Int) x2)
    (br (andB (leI (0 : Int) (subI .i64 x2 (1 : Int))) (ltI (subI .i64 x2 (1 : Int)) (ofN (lenL tapiPair x0)))) (br (andB (leI (0 : Int) x2) (ltI x2 (ofN (lenL tapiPair x0)))) (bnd (order_Compare (ixL tapiPair x0 (subI .i64 x2 (1 : Int))).1 (ixL tapiPair x0 x2).1) fun r0 =>
    br (leI (0 : Int) r0)
     (some false)
     (pair_Is.l0 x0 x1 (addI .i64 x2 (1 : Int)))) none) none)
    (pair_Is.l0 x0 x1 (addI .i64 x2 (1 : Int))))
   (some true) :=
  (loopB_eq (P := PP) (T := TT) (C := CF) [1, 0, 1, 0, 0] [1, 0, 1, 0, 0] 115 0 ⟨[(0, ⟨(.list tapiPair), x0⟩), (5, ⟨(.int .i64), x1⟩), (6, ⟨(.int .i64), x2⟩)], []⟩ (blockK 0 (seqK false [1, 1] (BF 115 0 [1, 1]) (finF 115 .bool [] 0)))).trans (by kernel_rfl)
theorem ref13_bare.eq (a0 : den tapiNode) (a1 : den .bool) (a2 : den .bool) (a3 : den .bool) (a4 : den .bool) : ref13_bare a0 a1 a2 a3 a4 =
  br a1
   (br (notB (eqS a0.2.1 ByteArray.empty))
    (some false)
    (br (notB (eqS a0.2.2.1 ByteArray.empty))
     (some false)
     (br a2
      (br (notB (eqI a0.2.2.2.1 (0 : Int)))
       (some false)
       (br (ltI (0 : Int) (ofN (lenL (.int .i64) a0.2.2.2.2.1)))
        (some false)
        (br (notB a3)
         (br (notB a4)
          (some true)
          (some (eqI (ofN (lenL tapiPair a0.2.2.2.2.2.2.1)) (0 : Int))))
         (br (eqI a0.2.2.2.2.2.1 (0 : Int))
          (br (notB a4)
           (some true)
           (some (eqI (ofN (lenL tapiPair a0.2.2.2.2.2.2.1)) (0 : Int))))
          (some false)))))
      (br (notB a3)
       (br (notB a4)
        (some true)
        (some (eqI (ofN (lenL tapiPair a0.2.2.2.2.2.2.1)) (0 : Int))))
       (br (eqI a0.2.2.2.2.2.1 (0 : Int))
        (br (notB a4)
         (some true)
         (some (eqI (ofN (lenL tapiPair a0.2.2.2.2.2.2.1)) (0 : Int))))
        (some false))))))
   (br a2
    (br (notB (eqI a0.2.2.2.1 (0 : Int)))
     (some false)
     (br (ltI (0 : Int) (ofN (lenL (.int .i64) a0.2.2.2.2.1)))
      (some false)
      (br (notB a3)
       (br (notB a4)
        (some true)
        (some (eqI (ofN (lenL tapiPair a0.2.2.2.2.2.2.1)) (0 : Int))))
       (br (eqI a0.2.2.2.2.2.1 (0 : Int))
        (br (notB a4)
         (some true)
         (some (eqI (ofN (lenL tapiPair a0.2.2.2.2.2.2.1)) (0 : Int))))
        (some false)))))
    (br (notB a3)
     (br (notB a4)
      (some true)
      (some (eqI (ofN (lenL tapiPair a0.2.2.2.2.2.2.1)) (0 : Int))))
     (br (eqI a0.2.2.2.2.2.1 (0 : Int))
      (br (notB a4)
       (some true)
       (some (eqI (ofN (lenL tapiPair a0.2.2.2.2.2.2.1)) (0 : Int))))
      (some false)))) :=
  (callW_eq (P := PP) (T := TT) (pr := RR) 116 [⟨tapiNode, a0⟩, ⟨.bool, a1⟩, ⟨.bool, a2⟩, ⟨.bool, a3⟩, ⟨.bool, a4⟩] [] .bool []).trans (by kernel_rfl)
theorem ref07_Is.eq (a0 : den (.list tapiPair)) : ref07_Is a0 =
  ref07_Is.l0 a0 (1 : Int) :=
  (callW_eq (P := PP) (T := TT) (pr := RR) 117 [⟨(.list tapiPair), a0⟩] [] .bool []).trans (by kernel_rfl)
theorem ref07_Is.l0.eq (x0 : den (.list tapiPair)) (x1 : den (.int .i64)) : ref07_Is.l0 x0 x1 =
  br (ltI x1 (ofN (lenL tapiPair x0)))
   (br (andB (leI (0 : Int) (subI .i64 x1 (1 : Int))) (ltI (subI .i64 x1 (1 : Int)) (ofN (lenL tapiPair x0)))) (br (andB (leI (0 : Int) x1) (ltI x1 (ofN (lenL tapiPair x0)))) (bnd (ref01_Less (ixL tapiPair x0 (subI .i64 x1 (1 : Int))).1 (ixL tapiPair x0 x1).1) fun r0 =>
   br (notB r0)
    (some false)
    (ref07_Is.l0 x0 (addI .i64 x1 (1 : Int)))) none) none)
   (some true) :=
  (loopB_eq (P := PP) (T := TT) (C := CF) [1, 0, 1, 0, 0] [1, 0, 1, 0, 0] 117 0 ⟨[(0, ⟨(.list tapiPair), x0⟩), (3, ⟨(.int .i64), x1⟩)], []⟩ (blockK 0 (seqK false [1, 1] (BF 117 0 [1, 1]) (finF 117 .bool [] 0)))).trans (by kernel_rfl)
theorem slices_Cloneapi_Ref_api_Ref.eq (a0 : den (.list (.int .i64))) : slices_Cloneapi_Ref_api_Ref a0 =
  br (eqI (ofN (lenL (.int .i64) a0)) (0 : Int))
   (both
    (some ((), ([], ())))
    (br (fitL (.int .i64) (appL (.int .i64) [] a0)) (some ((), ((appL (.int .i64) [] a0), ()))) none))
   (br (fitL (.int .i64) (appL (.int .i64) [] a0)) (some ((), ((appL (.int .i64) [] a0), ()))) none) :=
  (callW_eq (P := PP) (T := TT) (pr := RR) 84 [⟨(.list (.int .i64)), a0⟩] [] (.own (.int .i64) 0) [(.row 24 (.int .i64) false)]).trans (by kernel_rfl)
theorem slices_Cloneapi_Pair_api_Pair.eq (a0 : den (.list tapiPair)) : slices_Cloneapi_Pair_api_Pair a0 =
  br (eqI (ofN (lenL tapiPair a0)) (0 : Int))
   (both
    (some ((), ([], ())))
    (br (fitL tapiPair (appL tapiPair [] a0)) (some ((), ((appL tapiPair [] a0), ()))) none))
   (br (fitL tapiPair (appL tapiPair [] a0)) (some ((), ((appL tapiPair [] a0), ()))) none) :=
  (callW_eq (P := PP) (T := TT) (pr := RR) 85 [⟨(.list tapiPair), a0⟩] [] (.own tapiPair 0) [(.row 43 tapiPair false)]).trans (by kernel_rfl)
theorem pair_Make.eq (a0 : den (.list tapiPair)) : pair_Make a0 =
  pair_Make.l0 a0 (ofN (lenL tapiPair a0)) (0 : Int) [] :=
  (callW_eq (P := PP) (T := TT) (pr := RR) 81 [⟨(.list tapiPair), a0⟩] [] (.list tapiPair) []).trans (by kernel_rfl)
theorem pair_Make.l0.eq (x0 : den (.list tapiPair)) (x1 : den (.int .i64)) (x2 : den (.int .i64)) (x3 : denO (.row 43 tapiPair false)) : pair_Make.l0 x0 x1 x2 x3 =
  br (ltI x2 x1)
   (br (andB (leI (0 : Int) x2) (ltI x2 (ofN (lenL tapiPair x0)))) (bnd (pair_put x3 (ixL tapiPair x0 x2)) fun r0 =>
   pair_Make.l0 x0 x1 (addI .i64 x2 (1 : Int)) r0.2.1) none)
   (some x3) :=
  (loopB_eq (P := PP) (T := TT) (C := CF) [1, 1, 0, 1, 0, 0] [1, 1, 0, 1, 0, 0] 81 0 ⟨[(3, ⟨(.own tapiPair 0), ()⟩), (6, ⟨(.list tapiPair), x0⟩), (7, ⟨(.int .i64), x1⟩), (8, ⟨(.int .i64), x2⟩)], [⟨(.row 43 tapiPair false), x3⟩]⟩ (blockK 0 (seqK false [1, 1, 1] (BF 81 0 [1, 1, 1]) (finF 81 (.list tapiPair) [] 0)))).trans (by kernel_rfl)
theorem slices_IndexFuncapi_Pair_api_Pair.eq (a0 : den (.list tapiPair)) : slices_IndexFuncapi_Pair_api_Pair a0 =
  slices_IndexFuncapi_Pair_api_Pair.l0 a0 (ofN (lenL tapiPair a0)) (0 : Int) :=
  (callW_eq (P := PP) (T := TT) (pr := RR) 130 [⟨(.list tapiPair), a0⟩, ⟨(.fn 111 .tnil), ()⟩] [] (.int .i64) []).trans (by kernel_rfl)
theorem slices_IndexFuncapi_Pair_api_Pair.l0.eq (x0 : den (.list tapiPair)) (x1 : den (.int .i64)) (x2 : den (.int .i64)) : slices_IndexFuncapi_Pair_api_Pair.l0 x0 x1 x2 =
  br (ltI x2 x1)
   (br (andB (leI (0 : Int) x2) (ltI x2 (ofN (lenL tapiPair x0)))) (bnd (node_long_1 (ixL tapiPair x0 x2)) fun r0 =>
   br r0
    (some x2)
    (slices_IndexFuncapi_Pair_api_Pair.l0 x0 x1 (addI .i64 x2 (1 : Int)))) none)
   (some (-1 : Int)) :=
  (loopB_eq (P := PP) (T := TT) (C := CF) [1, 0, 1, 0, 0] [1, 0, 1, 0, 0] 130 0 ⟨[(0, ⟨(.list tapiPair), x0⟩), (1, ⟨(.fn 111 .tnil), ()⟩), (7, ⟨(.int .i64), x1⟩), (8, ⟨(.int .i64), x2⟩)], []⟩ (blockK 0 (seqK false [1, 1] (BF 130 0 [1, 1]) (finF 130 (.int .i64) [] 0)))).trans (by kernel_rfl)
theorem slices_Indexapi_Ref_api_Ref.eq (a0 : den (.list (.int .i64))) (a1 : den (.int .i64)) : slices_Indexapi_Ref_api_Ref a0 a1 =
  slices_Indexapi_Ref_api_Ref.l0 a0 a1 (ofN (lenL (.int .i64) a0)) (0 : Int) :=
  (callW_eq (P := PP) (T := TT) (pr := RR) 131 [⟨(.list (.int .i64)), a0⟩, ⟨(.int .i64), a1⟩] [] (.int .i64) []).trans (by kernel_rfl)
theorem slices_Indexapi_Ref_api_Ref.l0.eq (x0 : den (.list (.int .i64))) (x1 : den (.int .i64)) (x2 : den (.int .i64)) (x3 : den (.int .i64)) : slices_Indexapi_Ref_api_Ref.l0 x0 x1 x2 x3 =
  br (ltI x3 x2)
   (br (andB (leI (0 : Int) x3) (ltI x3 (ofN (lenL (.int .i64) x0)))) (br (eqI x1 (ixL (.int .i64) x0 x3))
    (some x3)
    (slices_Indexapi_Ref_api_Ref.l0 x0 x1 x2 (addI .i64 x3 (1 : Int)))) none)
   (some (-1 : Int)) :=
  (loopB_eq (P := PP) (T := TT) (C := CF) [1, 0, 1, 0, 0] [1, 0, 1, 0, 0] 131 0 ⟨[(0, ⟨(.list (.int .i64)), x0⟩), (1, ⟨(.int .i64), x1⟩), (7, ⟨(.int .i64), x2⟩), (8, ⟨(.int .i64), x3⟩)], []⟩ (blockK 0 (seqK false [1, 1] (BF 131 0 [1, 1]) (finF 131 (.int .i64) [] 0)))).trans (by kernel_rfl)
theorem order_Compare.eq (a0 : den .str) (a1 : den .str) : order_Compare a0 a1 =
  bnd (order_Common a0 a1) fun r0 =>
  br (eqI r0 (ofN (lenS a0)))
   (order_Compare.j0 a0 a1 r0 (eqI r0 (ofN (lenS a1))))
   (order_Compare.j0 a0 a1 r0 false) :=
  (callW_eq (P := PP) (T := TT) (pr := RR) 132 [⟨.str, a0⟩, ⟨.str, a1⟩] [] (.int .i64) []).trans (by kernel_rfl)
theorem order_Compare.j0.eq (x0 : den .str) (x1 : den .str) (x2 : den (.int .i64)) (x3 : den .bool) : order_Compare.j0 x0 x1 x2 x3 =
  br x3
   (some (0 : Int))
   (br (eqI x2 (ofN (lenS x0)))
    (some (-1 : Int))
    (br (eqI x2 (ofN (lenS x1)))
     (some (1 : Int))
     (br (andB (leI (0 : Int) x2) (ltI x2 (ofN (lenS x0)))) (br (andB (leI (0 : Int) x2) (ltI x2 (ofN (lenS x1)))) (br (ltI (getS x1 (toN x2)) (getS x0 (toN x2)))
      (some (1 : Int))
      (some (-1 : Int))) none) none))) :=
  (congrFun (congrFun (jnO_eq [1, 1, 0, 0, 1] (BF (R := den (.int .i64)) 132 0 [1, 1, 0, 0, 1])) ⟨[(0, ⟨.str, x0⟩), (1, ⟨.str, x1⟩), (5, ⟨(.int .i64), x2⟩), (9, ⟨.bool, x3⟩)], []⟩) (blockK 0 (seqK false [1, 1, 1] (BF 132 0 [1, 1, 1]) (finF 132 (.int .i64) [] 0)))).trans (by kernel_rfl)
theorem ref01_Less.eq (a0 : den .str) (a1 : den .str) : ref01_Less a0 a1 =
  ref01_Less.l0 a0 a1 (0 : Int) :=
  (callW_eq (P := PP) (T := TT) (pr := RR) 83 [⟨.str, a0⟩, ⟨.str, a1⟩] [] .bool []).trans (by kernel_rfl)
theorem ref01_Less.l0.eq (x0 : den .str) (x1 : den .str) (x2 : den (.int .i64)) : ref01_Less.l0 x0 x1 x2 =
  br (ltI x2 (ofN (lenS x0)))
   (ref01_Less.j1 x0 x1 x2 (ltI x2 (ofN (lenS x1))))
   (ref01_Less.j1 x0 x1 x2 false) :=
  (loopB_eq (P := PP) (T := TT) (C := CF) [1, 0, 1, 0, 0] [1, 0, 1, 0, 0] 83 0 ⟨[(0, ⟨.str, x0⟩), (1, ⟨.str, x1⟩), (5, ⟨(.int .i64), x2⟩)], []⟩ (blockK 0 (seqK false [1, 1] (BF 83 0 [1, 1]) (finF 83 .bool [] 0)))).trans (by kernel_rfl)
theorem ref01_Less.j1.eq (x0 : den .str) (x1 : den .str) (x2 : den (.int .i64)) (x3 : den .bool) : ref01_Less.j1 x0 x1 x2 x3 =
  br x3
   (br (andB (leI (0 : Int) x2) (ltI x2 (ofN (lenS x0)))) (br (andB (leI (0 : Int) x2) (ltI x2 (ofN (lenS x1)))) (br (notB (eqI (getS x0 (toN x2)) (getS x1 (toN x2))))
    (br (andB (leI (0 : Int) x2) (ltI x2 (ofN (lenS x0)))) (br (andB (leI (0 : Int) x2) (ltI x2 (ofN (lenS x1)))) (some (ltI (getS x0 (toN x2)) (getS x1 (toN x2)))) none) none)
    (ref01_Less.l0 x0 x1 (addI .i64 x2 (1 : Int)))) none) none)
   (some (ltI (ofN (lenS x0)) (ofN (lenS x1)))) :=
  (congrFun (congrFun (jnO_eq [1, 0, 1, 0, 0, 0, 1] (BF (R := den .bool) 83 0 [1, 0, 1, 0, 0, 0, 1])) ⟨[(0, ⟨.str, x0⟩), (1, ⟨.str, x1⟩), (5, ⟨(.int .i64), x2⟩), (15, ⟨.bool, x3⟩)], []⟩) (seqK false [1, 0, 1, 0, 0, 1] (BF 83 0 [1, 0, 1, 0, 0, 1]) (againK [1, 0, 1, 0, 0] (loopW [1, 0, 1, 0, 0] (BF 83 0 [1, 0, 1, 0, 0])) (blockK 0 (seqK false [1, 1] (BF 83 0 [1, 1]) (finF 83 .bool [] 0)))))).trans (by kernel_rfl)
theorem pair_put.eq (a0 : den (.list tapiPair)) (a1 : den tapiPair) : pair_put a0 a1 =
  bnd (pair_place a0 a1.1) fun r0 =>
  br r0.2.1
   (bnd (slices_Cloneapi_Pair_api_Pair a0) fun r1 =>
   br (andB (leI (0 : Int) r0.1) (ltI r0.1 (ofN (lenL tapiPair r1.2.1)))) (some ((), ((setL tapiPair r1.2.1 r0.1 a1), ()))) none)
   (both
    (bnd (slices_Cloneapi_Pair_api_Pair a0) fun r2 =>
    bnd (slices_Insertapi_Pair_api_Pair r0.1 r2.2.1 (a1 :: [])) fun r3 =>
    some ((), (r3.2.1, ())))
    (bnd (slices_Cloneapi_Pair_api_Pair a0) fun r4 =>
    bnd (slices_Insertapi_Pair_api_Pair r0.1 r4.2.1 (a1 :: [])) fun r5 =>
    some ((), (r5.2.1, ())))) :=
  (callW_eq (P := PP) (T := TT) (pr := RR) 118 [⟨(.list tapiPair), a0⟩, ⟨tapiPair, a1⟩] [] (.own tapiPair 0) [(.row 43 tapiPair false)]).trans (by kernel_rfl)
theorem order_Common.eq (a0 : den .str) (a1 : den .str) : order_Common a0 a1 =
  order_Common.l0 a0 a1 (minI (ofN (lenS a0)) (ofN (lenS a1))) (minI (ofN (lenS a0)) (ofN (lenS a1))) (0 : Int) :=
  (callW_eq (P := PP) (T := TT) (pr := RR) 137 [⟨.str, a0⟩, ⟨.str, a1⟩] [] (.int .i64) []).trans (by kernel_rfl)
theorem order_Common.l0.eq (x0 : den .str) (x1 : den .str) (x2 : den (.int .i64)) (x3 : den (.int .i64)) (x4 : den (.int .i64)) : order_Common.l0 x0 x1 x2 x3 x4 =
  br (ltI x4 x3)
   (br (andB (leI (0 : Int) x4) (ltI x4 (ofN (lenS x0)))) (br (andB (leI (0 : Int) x4) (ltI x4 (ofN (lenS x1)))) (br (notB (eqI (getS x0 (toN x4)) (getS x1 (toN x4))))
    (some x4)
    (order_Common.l0 x0 x1 x2 x3 (addI .i64 x4 (1 : Int)))) none) none)
   (some x2) :=
  (loopB_eq (P := PP) (T := TT) (C := CF) [1, 1, 0, 1, 0, 0] [1, 1, 0, 1, 0, 0] 137 0 ⟨[(0, ⟨.str, x0⟩), (1, ⟨.str, x1⟩), (5, ⟨(.int .i64), x2⟩), (12, ⟨(.int .i64), x3⟩), (13, ⟨(.int .i64), x4⟩)], []⟩ (blockK 0 (seqK false [1, 1, 1] (BF 137 0 [1, 1, 1]) (finF 137 (.int .i64) [] 0)))).trans (by kernel_rfl)
theorem pair_place.eq (a0 : den (.list tapiPair)) (a1 : den .str) : pair_place a0 a1 =
  bnd (slices_BinarySearchFuncapi_Pair_api_Pair_string a0 a1) fun r0 =>
  some r0 :=
  (callW_eq (P := PP) (T := TT) (pr := RR) 133 [⟨(.list tapiPair), a0⟩, ⟨.str, a1⟩] [] (.tcons (.int .i64) (.tcons .bool .tnil)) []).trans (by kernel_rfl)
theorem slices_Insertapi_Pair_api_Pair.eq (a0 : den (.int .i64)) (a1 : denO (.row 43 tapiPair true)) (a2 : denO (.row 43 tapiPair true)) : slices_Insertapi_Pair_api_Pair a0 a1 a2 =
  br (insG tapiPair a1 a0 a2) (some ((), ((insL tapiPair a1 a0 a2), (a2, ())))) none :=
  (callW_eq (P := PP) (T := TT) (pr := RR) 134 [⟨(.own tapiPair 0), ()⟩, ⟨(.int .i64), a0⟩, ⟨(.own tapiPair 1), ()⟩] [⟨(.row 43 tapiPair true), a1⟩, ⟨(.row 43 tapiPair true), a2⟩] (.own tapiPair 0) [(.row 43 tapiPair false), (.row 43 tapiPair true)]).trans (by kernel_rfl)
theorem slices_BinarySearchFuncapi_Pair_api_Pair_string.eq (a0 : den (.list tapiPair)) (a1 : den .str) : slices_BinarySearchFuncapi_Pair_api_Pair_string a0 a1 =
  slices_BinarySearchFuncapi_Pair_api_Pair_string.l0 a0 a1 (ofN (lenL tapiPair a0)) (0 : Int) (ofN (lenL tapiPair a0)) :=
  (callW_eq (P := PP) (T := TT) (pr := RR) 138 [⟨(.list tapiPair), a0⟩, ⟨.str, a1⟩, ⟨(.fn 139 .tnil), ()⟩] [] (.tcons (.int .i64) (.tcons .bool .tnil)) []).trans (by kernel_rfl)
theorem slices_BinarySearchFuncapi_Pair_api_Pair_string.l0.eq (x0 : den (.list tapiPair)) (x1 : den .str) (x2 : den (.int .i64)) (x3 : den (.int .i64)) (x4 : den (.int .i64)) : slices_BinarySearchFuncapi_Pair_api_Pair_string.l0 x0 x1 x2 x3 x4 =
  br (ltI x3 x4)
   (br (leI (0 : Int) (1 : Int)) (br (andB (leI (0 : Int) (wrapI .i64 (shrI .u64 (wrapI .u64 (addI .i64 x3 x4)) (1 : Int)))) (ltI (wrapI .i64 (shrI .u64 (wrapI .u64 (addI .i64 x3 x4)) (1 : Int))) (ofN (lenL tapiPair x0)))) (bnd (pair_place_1 (ixL tapiPair x0 (wrapI .i64 (shrI .u64 (wrapI .u64 (addI .i64 x3 x4)) (1 : Int)))) x1) fun r0 =>
   br (ltI r0 (0 : Int))
    (slices_BinarySearchFuncapi_Pair_api_Pair_string.l0 x0 x1 x2 (addI .i64 (wrapI .i64 (shrI .u64 (wrapI .u64 (addI .i64 x3 x4)) (1 : Int))) (1 : Int)) x4)
    (slices_BinarySearchFuncapi_Pair_api_Pair_string.l0 x0 x1 x2 x3 (wrapI .i64 (shrI .u64 (wrapI .u64 (addI .i64 x3 x4)) (1 : Int))))) none) none)
   (br (ltI x3 x2)
    (br (andB (leI (0 : Int) x3) (ltI x3 (ofN (lenL tapiPair x0)))) (bnd (pair_place_1 (ixL tapiPair x0 x3) x1) fun r1 =>
    some (x3, ((eqI r1 (0 : Int)), ()))) none)
    (some (x3, (false, ())))) :=
  (loopB_eq (P := PP) (T := TT) (C := CF) [1, 1, 1, 0, 0, 0] [1, 1, 1, 0, 0, 0] 138 0 ⟨[(0, ⟨(.list tapiPair), x0⟩), (1, ⟨.str, x1⟩), (2, ⟨(.fn 139 .tnil), ()⟩), (8, ⟨(.int .i64), x2⟩), (9, ⟨(.int .i64), x3⟩), (10, ⟨(.int .i64), x4⟩)], []⟩ (blockK 0 (seqK false [1, 1, 1, 1] (BF 138 0 [1, 1, 1, 1]) (finF 138 (.tcons (.int .i64) (.tcons .bool .tnil)) [] 0)))).trans (by kernel_rfl)
theorem pair_place_1.eq (a0 : den tapiPair) (a1 : den .str) : pair_place_1 a0 a1 =
  bnd (order_Compare a0.1 a1) fun r0 =>
  some r0 :=
  (callW_eq (P := PP) (T := TT) (pr := RR) 139 [⟨tapiPair, a0⟩, ⟨.str, a1⟩] [] (.int .i64) []).trans (by kernel_rfl)
end Go.Proofs.Ytobfcaejpcpboaa.AU
