/- What the functions do, as the interpreter tells it: printed by a program of this session. No conditions. -/
import Derived.Test.YtobfcaejpcpboaaDefV
set_option maxRecDepth 100000
set_option linter.unusedVariables false
namespace Go.Proofs.Ytobfcaejpcpboaa.AV
open Go.Abs
theorem law18_PlanFills.eq (a0 : den tapiNode) (a1 : den (.list (.int .i64))) (a2 : den (.int .i64)) : law18_PlanFills a0 a1 a2 =
  both
   (bnd (law13_Few a0) fun r0 =>
   both
    (br (andB (leI (0 : Int) (0 : Int)) (andB (leI (0 : Int) (minI (ofN (lenL (.int .i64) a1)) (20 : Int))) (leI (minI (ofN (lenL (.int .i64) a1)) (20 : Int)) (ofN (lenL (.int .i64) a1))))) (br (fitL (.int .i64) (appL (.int .i64) [] (subL (.int .i64) a1 (toN (0 : Int)) (toN (minI (ofN (lenL (.int .i64) a1)) (20 : Int)))))) (law18_PlanFills.j0 a2 (appL (.int .i64) [] (subL (.int .i64) a1 (toN (0 : Int)) (toN (minI (ofN (lenL (.int .i64) a1)) (20 : Int))))) r0) none) none)
    (both
     (br (andB (leI (0 : Int) (0 : Int)) (andB (leI (0 : Int) (minI (ofN (lenL (.int .i64) a1)) (20 : Int))) (leI (minI (ofN (lenL (.int .i64) a1)) (20 : Int)) (ofN (lenL (.int .i64) a1))))) (br (fitL (.int .i64) (appL (.int .i64) [] (subL (.int .i64) a1 (toN (0 : Int)) (toN (minI (ofN (lenL (.int .i64) a1)) (20 : Int)))))) (law18_PlanFills.j0 a2 (appL (.int .i64) [] (subL (.int .i64) a1 (toN (0 : Int)) (toN (minI (ofN (lenL (.int .i64) a1)) (20 : Int))))) r0) none) none)
     (br (andB (leI (0 : Int) (0 : Int)) (andB (leI (0 : Int) (minI (ofN (lenL (.int .i64) a1)) (20 : Int))) (leI (minI (ofN (lenL (.int .i64) a1)) (20 : Int)) (ofN (lenL (.int .i64) a1))))) (br (fitL (.int .i64) (appL (.int .i64) [] (subL (.int .i64) a1 (toN (0 : Int)) (toN (minI (ofN (lenL (.int .i64) a1)) (20 : Int)))))) (law18_PlanFills.j0 a2 (appL (.int .i64) [] (subL (.int .i64) a1 (toN (0 : Int)) (toN (minI (ofN (lenL (.int .i64) a1)) (20 : Int))))) r0) none) none)))
   (both
    (both
     (bnd (law13_Few a0) fun r1 =>
     br (andB (leI (0 : Int) (0 : Int)) (andB (leI (0 : Int) (minI (ofN (lenL (.int .i64) a1)) (20 : Int))) (leI (minI (ofN (lenL (.int .i64) a1)) (20 : Int)) (ofN (lenL (.int .i64) a1))))) (br (fitL (.int .i64) (appL (.int .i64) [] (subL (.int .i64) a1 (toN (0 : Int)) (toN (minI (ofN (lenL (.int .i64) a1)) (20 : Int)))))) (law18_PlanFills.j0 a2 (appL (.int .i64) [] (subL (.int .i64) a1 (toN (0 : Int)) (toN (minI (ofN (lenL (.int .i64) a1)) (20 : Int))))) r1) none) none)
     (both
      (bnd (law13_Few a0) fun r2 =>
      br (andB (leI (0 : Int) (0 : Int)) (andB (leI (0 : Int) (minI (ofN (lenL (.int .i64) a1)) (20 : Int))) (leI (minI (ofN (lenL (.int .i64) a1)) (20 : Int)) (ofN (lenL (.int .i64) a1))))) (br (fitL (.int .i64) (appL (.int .i64) [] (subL (.int .i64) a1 (toN (0 : Int)) (toN (minI (ofN (lenL (.int .i64) a1)) (20 : Int)))))) (law18_PlanFills.j0 a2 (appL (.int .i64) [] (subL (.int .i64) a1 (toN (0 : Int)) (toN (minI (ofN (lenL (.int .i64) a1)) (20 : Int))))) r2) none) none)
      (br (andB (leI (0 : Int) (0 : Int)) (andB (leI (0 : Int) (minI (ofN (lenL (.int .i64) a1)) (20 : Int))) (leI (minI (ofN (lenL (.int .i64) a1)) (20 : Int)) (ofN (lenL (.int .i64) a1))))) (bnd (law13_Few a0) fun r3 =>
      br (fitL (.int .i64) (appL (.int .i64) [] (subL (.int .i64) a1 (toN (0 : Int)) (toN (minI (ofN (lenL (.int .i64) a1)) (20 : Int)))))) (law18_PlanFills.j0 a2 (appL (.int .i64) [] (subL (.int .i64) a1 (toN (0 : Int)) (toN (minI (ofN (lenL (.int .i64) a1)) (20 : Int))))) r3) none) none)))
    (both
     (bnd (law13_Few a0) fun r4 =>
     both
      (br (andB (leI (0 : Int) (0 : Int)) (andB (leI (0 : Int) (minI (ofN (lenL (.int .i64) a1)) (20 : Int))) (leI (minI (ofN (lenL (.int .i64) a1)) (20 : Int)) (ofN (lenL (.int .i64) a1))))) (br (fitL (.int .i64) (appL (.int .i64) [] (subL (.int .i64) a1 (toN (0 : Int)) (toN (minI (ofN (lenL (.int .i64) a1)) (20 : Int)))))) (law18_PlanFills.j0 a2 (appL (.int .i64) [] (subL (.int .i64) a1 (toN (0 : Int)) (toN (minI (ofN (lenL (.int .i64) a1)) (20 : Int))))) r4) none) none)
      (br (andB (leI (0 : Int) (0 : Int)) (andB (leI (0 : Int) (minI (ofN (lenL (.int .i64) a1)) (20 : Int))) (leI (minI (ofN (lenL (.int .i64) a1)) (20 : Int)) (ofN (lenL (.int .i64) a1))))) (br (fitL (.int .i64) (appL (.int .i64) [] (subL (.int .i64) a1 (toN (0 : Int)) (toN (minI (ofN (lenL (.int .i64) a1)) (20 : Int)))))) (law18_PlanFills.j0 a2 (appL (.int .i64) [] (subL (.int .i64) a1 (toN (0 : Int)) (toN (minI (ofN (lenL (.int .i64) a1)) (20 : Int))))) r4) none) none))
     (both
      (both
       (bnd (law13_Few a0) fun r5 =>
       br (andB (leI (0 : Int) (0 : Int)) (andB (leI (0 : Int) (minI (ofN (lenL (.int .i64) a1)) (20 : Int))) (leI (minI (ofN (lenL (.int .i64) a1)) (20 : Int)) (ofN (lenL (.int .i64) a1))))) (br (fitL (.int .i64) (appL (.int .i64) [] (subL (.int .i64) a1 (toN (0 : Int)) (toN (minI (ofN (lenL (.int .i64) a1)) (20 : Int)))))) (law18_PlanFills.j0 a2 (appL (.int .i64) [] (subL (.int .i64) a1 (toN (0 : Int)) (toN (minI (ofN (lenL (.int .i64) a1)) (20 : Int))))) r5) none) none)
       (br (andB (leI (0 : Int) (0 : Int)) (andB (leI (0 : Int) (minI (ofN (lenL (.int .i64) a1)) (20 : Int))) (leI (minI (ofN (lenL (.int .i64) a1)) (20 : Int)) (ofN (lenL (.int .i64) a1))))) (bnd (law13_Few a0) fun r6 =>
       br (fitL (.int .i64) (appL (.int .i64) [] (subL (.int .i64) a1 (toN (0 : Int)) (toN (minI (ofN (lenL (.int .i64) a1)) (20 : Int)))))) (law18_PlanFills.j0 a2 (appL (.int .i64) [] (subL (.int .i64) a1 (toN (0 : Int)) (toN (minI (ofN (lenL (.int .i64) a1)) (20 : Int))))) r6) none) none))
      (br (andB (leI (0 : Int) (0 : Int)) (andB (leI (0 : Int) (minI (ofN (lenL (.int .i64) a1)) (20 : Int))) (leI (minI (ofN (lenL (.int .i64) a1)) (20 : Int)) (ofN (lenL (.int .i64) a1))))) (both
       (bnd (law13_Few a0) fun r7 =>
       br (fitL (.int .i64) (appL (.int .i64) [] (subL (.int .i64) a1 (toN (0 : Int)) (toN (minI (ofN (lenL (.int .i64) a1)) (20 : Int)))))) (law18_PlanFills.j0 a2 (appL (.int .i64) [] (subL (.int .i64) a1 (toN (0 : Int)) (toN (minI (ofN (lenL (.int .i64) a1)) (20 : Int))))) r7) none)
       (bnd (law13_Few a0) fun r8 =>
       br (fitL (.int .i64) (appL (.int .i64) [] (subL (.int .i64) a1 (toN (0 : Int)) (toN (minI (ofN (lenL (.int .i64) a1)) (20 : Int)))))) (law18_PlanFills.j0 a2 (appL (.int .i64) [] (subL (.int .i64) a1 (toN (0 : Int)) (toN (minI (ofN (lenL (.int .i64) a1)) (20 : Int))))) r8) none)) none)))) :=
  (callW_eq (P := PP) (T := TT) (pr := RR) 12 [⟨tapiNode, a0⟩, ⟨(.list (.int .i64)), a1⟩, ⟨(.int .i64), a2⟩] [] .bool []).trans (by kernel_rfl)
theorem law18_PlanFills.j0.eq (x0 : den (.int .i64)) (x1 : denO (.row 24 (.int .i64) false)) (x2 : denO (.box tapiNode)) : law18_PlanFills.j0 x0 x1 x2 =
  bnd (law13_Few x2) fun r0 =>
  br (fitL (.int .i64) (appL (.int .i64) [] x1)) (bnd (plan_Fill_o r0 (appL (.int .i64) [] x1)) fun r1 =>
  bnd (ref18_Fill_o x2 x1) fun r2 =>
  br (fitL (.int .i64) (appL (.int .i64) [] r2.2.1)) (bnd (plan_Ref x0 (appL (.int .i64) [] r2.2.1)) fun r3 =>
  bnd (ref18_Ref x0 r2.2.1) fun r4 =>
  br (notB (eqB (eqI r1.1.2.1 (0 : Int)) r2.1.2.1))
   (some false)
   (br (notB r2.1.2.1)
    (br (notB (eqI r1.1.2.1 (4 : Int)))
     (some false)
     (br (notB (eqB (eqI r3.2.1 (0 : Int)) r4.2.1))
      (some false)
      (br (notB r4.2.1)
       (br (notB (eqI r3.2.1 (4 : Int)))
        (some false)
        (bnd (ref13_Same r1.1.1 r2.1.1) fun r5 =>
        br r5
         (br (eqI r3.1 r4.1)
          (bnd (law18_works) fun r6 =>
          some r6)
          (some false))
         (some false)))
       (bnd (ref13_Same r1.1.1 r2.1.1) fun r7 =>
       br r7
        (br (eqI r3.1 r4.1)
         (bnd (law18_works) fun r8 =>
         some r8)
         (some false))
        (some false)))))
    (br (notB (eqB (eqI r3.2.1 (0 : Int)) r4.2.1))
     (some false)
     (br (notB r4.2.1)
      (br (notB (eqI r3.2.1 (4 : Int)))
       (some false)
       (bnd (ref13_Same r1.1.1 r2.1.1) fun r9 =>
       br r9
        (br (eqI r3.1 r4.1)
         (bnd (law18_works) fun r10 =>
         some r10)
         (some false))
        (some false)))
      (bnd (ref13_Same r1.1.1 r2.1.1) fun r11 =>
      br r11
       (br (eqI r3.1 r4.1)
        (bnd (law18_works) fun r12 =>
        some r12)
        (some false))
       (some false)))))) none) none :=
  (congrFun (congrFun (jnO_eq [1, 1] (BF (R := den .bool) 12 0 [1, 1])) ⟨[(1, ⟨(.own (.int .i64) 0), ()⟩), (2, ⟨(.int .i64), x0⟩), (3, ⟨(.ptr 1 0), ()⟩)], [⟨(.row 24 (.int .i64) false), x1⟩, ⟨(.box tapiNode), x2⟩]⟩) (finF 12 .bool [] 0)).trans (by kernel_rfl)
theorem law18_PlanDoes.eq (a0 : den (.list tapiNode)) (a1 : den tboscageref18Plan) : law18_PlanDoes a0 a1 =
  bnd (law17_Few a0) fun r0 =>
  bnd (law18_Give a1) fun r1 =>
  bnd (law18_Back r1) fun r2 =>
  bnd (law17_Few r0) fun r3 =>
  bnd (law18_Give r2) fun r4 =>
  bnd (plan_Do r3 r4) fun r5 =>
  bnd (ref18_Do r0 r2) fun r6 =>
  bnd (ref18_SameHeap r5.1 r6.1) fun r7 =>
  br r7
   (br (eqI r5.2.1 r6.2.1)
    (br (eqB (eqI r5.2.2.1 (0 : Int)) r6.2.2.1)
     (br r6.2.2.1
      (bnd (law18_works) fun r8 =>
      some r8)
      (br (eqI r5.2.2.1 (4 : Int))
       (bnd (law18_works) fun r9 =>
       some r9)
       (some false)))
     (some false))
    (some false))
   (some false) :=
  (callW_eq (P := PP) (T := TT) (pr := RR) 13 [⟨(.list tapiNode), a0⟩, ⟨tboscageref18Plan, a1⟩] [] .bool []).trans (by kernel_rfl)
theorem law18_PlanStays.eq (a0 : den (.list tapiNode)) (a1 : den tboscageref18Plan) : law18_PlanStays a0 a1 =
  bnd (law18_works) fun r0 =>
  br (notB r0)
   (some false)
   (bnd (law17_Few a0) fun r1 =>
   bnd (law17_Few r1) fun r2 =>
   bnd (law18_Give a1) fun r3 =>
   bnd (plan_Do r1 r3) fun r4 =>
   br (notB (eqI r4.2.2.1 (0 : Int)))
    (br (eqI (ofN (lenL tapiNode r4.1)) (0 : Int))
     (bnd (ref18_SameHeap r1 r2) fun r5 =>
     some r5)
     (some false))
    (bnd (ref18_SameHeap r1 r2) fun r6 =>
    br r6
     (br (eqI (ofN (lenL tapiNode r4.1)) (addI .i64 (ofN (lenL tapiNode r1)) (ofN (lenL tapiNode r3.1))))
      (br (andB (leI (0 : Int) (0 : Int)) (andB (leI (0 : Int) (ofN (lenL tapiNode r1))) (leI (ofN (lenL tapiNode r1)) (ofN (lenL tapiNode r4.1))))) (bnd (ref18_SameHeap (subL tapiNode r4.1 (toN (0 : Int)) (toN (ofN (lenL tapiNode r1)))) r2) fun r7 =>
      some r7) none)
      (some false))
     (some false))) :=
  (callW_eq (P := PP) (T := TT) (pr := RR) 14 [⟨(.list tapiNode), a0⟩, ⟨tboscageref18Plan, a1⟩] [] .bool []).trans (by kernel_rfl)
theorem law18_PlanMays.eq (a0 : den tboscageref18Plan) (a1 : den tapiNode) : law18_PlanMays a0 a1 =
  bnd (law18_Give a0) fun r0 =>
  bnd (law18_Back r0) fun r1 =>
  bnd (law13_Few a1) fun r2 =>
  both
   (bnd (law18_Give r1) fun r3 =>
   both
    (bnd (law13_Few r2) fun r4 =>
    both
     (bnd (plan_Add r3 r4) fun r5 =>
     law18_PlanMays.j0 r5.2.1 r1 r2 r5.1)
     (bnd (plan_Add r3 r4) fun r6 =>
     law18_PlanMays.j0 r6.2.1 r1 r2 r6.1))
    (bnd (law13_Few r2) fun r7 =>
    bnd (plan_Add r3 r7) fun r8 =>
    law18_PlanMays.j0 r8.2.1 r1 r2 r8.1))
   (bnd (law18_Give r1) fun r9 =>
   bnd (law13_Few r2) fun r10 =>
   bnd (plan_Add r9 r10) fun r11 =>
   law18_PlanMays.j0 r11.2.1 r1 r2 r11.1) :=
  (callW_eq (P := PP) (T := TT) (pr := RR) 15 [⟨tboscageref18Plan, a0⟩, ⟨tapiNode, a1⟩] [] .bool []).trans (by kernel_rfl)
theorem law18_PlanMays.j0.eq (x0 : den (.int .i64)) (x1 : denO (.box tboscageref18Plan)) (x2 : denO (.box tapiNode)) (x3 : denO (.box tboscageref18Plan)) : law18_PlanMays.j0 x0 x1 x2 x3 =
  both
   (both
    (br (fitL tapiNode (appL tapiNode [] x1.1)) (both
     (both
      (br (fitL tapiNode (appL tapiNode (appL tapiNode [] x1.1) (x2 :: []))) (law18_PlanMays.j1 x0 x1 x3 ((), x1.2) (appL tapiNode (appL tapiNode [] x1.1) (x2 :: []))) none)
      (br (fitL tapiNode (appL tapiNode (appL tapiNode [] x1.1) (x2 :: []))) (law18_PlanMays.j1 x0 x1 x3 ((), x1.2) (appL tapiNode (appL tapiNode [] x1.1) (x2 :: []))) none))
     (br (fitL tapiNode (appL tapiNode (appL tapiNode [] x1.1) (x2 :: []))) (law18_PlanMays.j1 x0 x1 x3 ((), x1.2) (appL tapiNode (appL tapiNode [] x1.1) (x2 :: []))) none)) none)
    (both
     (both
      (br (fitL tapiNode (appL tapiNode [] x1.1)) (both
       (br (fitL tapiNode (appL tapiNode (appL tapiNode [] x1.1) (x2 :: []))) (law18_PlanMays.j1 x0 x1 x3 ((), x1.2) (appL tapiNode (appL tapiNode [] x1.1) (x2 :: []))) none)
       (br (fitL tapiNode (appL tapiNode (appL tapiNode [] x1.1) (x2 :: []))) (law18_PlanMays.j1 x0 x1 x3 ((), x1.2) (appL tapiNode (appL tapiNode [] x1.1) (x2 :: []))) none)) none)
      (br (fitL tapiNode (appL tapiNode [] x1.1)) (br (fitL tapiNode (appL tapiNode (appL tapiNode [] x1.1) (x2 :: []))) (law18_PlanMays.j1 x0 x1 x3 ((), x1.2) (appL tapiNode (appL tapiNode [] x1.1) (x2 :: []))) none) none))
     (both
      (br (fitL tapiNode (appL tapiNode [] x1.1)) (br (fitL tapiNode (appL tapiNode (appL tapiNode [] x1.1) (x2 :: []))) (law18_PlanMays.j1 x0 x1 x3 ((), x1.2) (appL tapiNode (appL tapiNode [] x1.1) (x2 :: []))) none) none)
      (br (fitL tapiNode (appL tapiNode [] x1.1)) (br (fitL tapiNode (appL tapiNode (appL tapiNode [] x1.1) (x2 :: []))) (law18_PlanMays.j1 x0 x1 x3 ((), x1.2) (appL tapiNode (appL tapiNode [] x1.1) (x2 :: []))) none) none))))
   (both
    (both
     (both
      (br (fitL tapiNode (appL tapiNode [] x1.1)) (both
       (br (fitL tapiNode (appL tapiNode (appL tapiNode [] x1.1) (x2 :: []))) (law18_PlanMays.j1 x0 x1 x3 ((), x1.2) (appL tapiNode (appL tapiNode [] x1.1) (x2 :: []))) none)
       (br (fitL tapiNode (appL tapiNode (appL tapiNode [] x1.1) (x2 :: []))) (law18_PlanMays.j1 x0 x1 x3 ((), x1.2) (appL tapiNode (appL tapiNode [] x1.1) (x2 :: []))) none)) none)
      (br (fitL tapiNode (appL tapiNode [] x1.1)) (br (fitL tapiNode (appL tapiNode (appL tapiNode [] x1.1) (x2 :: []))) (law18_PlanMays.j1 x0 x1 x3 ((), x1.2) (appL tapiNode (appL tapiNode [] x1.1) (x2 :: []))) none) none))
     (br (fitL tapiNode (appL tapiNode [] x1.1)) (br (fitL tapiNode (appL tapiNode (appL tapiNode [] x1.1) (x2 :: []))) (law18_PlanMays.j1 x0 x1 x3 ((), x1.2) (appL tapiNode (appL tapiNode [] x1.1) (x2 :: []))) none) none))
    (both
     (both
      (br (fitL tapiNode (appL tapiNode [] x1.1)) (br (fitL tapiNode (appL tapiNode (appL tapiNode [] x1.1) (x2 :: []))) (law18_PlanMays.j1 x0 x1 x3 ((), x1.2) (appL tapiNode (appL tapiNode [] x1.1) (x2 :: []))) none) none)
      (br (fitL tapiNode (appL tapiNode [] x1.1)) (br (fitL tapiNode (appL tapiNode (appL tapiNode [] x1.1) (x2 :: []))) (law18_PlanMays.j1 x0 x1 x3 ((), x1.2) (appL tapiNode (appL tapiNode [] x1.1) (x2 :: []))) none) none))
     (br (fitL tapiNode (appL tapiNode [] x1.1)) (br (fitL tapiNode (appL tapiNode (appL tapiNode [] x1.1) (x2 :: []))) (law18_PlanMays.j1 x0 x1 x3 ((), x1.2) (appL tapiNode (appL tapiNode [] x1.1) (x2 :: []))) none) none))) :=
  (congrFun (congrFun (jnO_eq [1, 1, 1] (BF (R := den .bool) 15 0 [1, 1, 1])) ⟨[(2, ⟨(.ptr 0 0), ()⟩), (3, ⟨(.ptr 1 0), ()⟩), (5, ⟨(.ptr 2 0), ()⟩), (6, ⟨(.int .i64), x0⟩)], [⟨(.box tboscageref18Plan), x1⟩, ⟨(.box tapiNode), x2⟩, ⟨(.box tboscageref18Plan), x3⟩]⟩) (finF 15 .bool [] 0)).trans (by kernel_rfl)
theorem law18_PlanMays.j1.eq (x0 : den (.int .i64)) (x1 : denO (.box tboscageref18Plan)) (x2 : denO (.box tboscageref18Plan)) (x3 : denO (.box (.pair (.own tapiNode 3) (.pair (.int .i64) (.pair (.list (.int .i64)) .unit))))) (x4 : denO (.row 27 tapiNode false)) : law18_PlanMays.j1 x0 x1 x2 x3 x4 =
  bnd (law18_Give x1) fun r0 =>
  bnd (plan_May r0) fun r1 =>
  bnd (ref18_May x1) fun r2 =>
  br (eqB (eqI r1 (0 : Int)) r2)
   (br (eqI x0 (subI .i64 (0 : Int) (ofN (lenL tapiNode x4))))
    (bnd (ref18_SameHeap x2.1 x4) fun r3 =>
    br r3
     (br (eqI x2.2.1 x1.2.1)
      (bnd (ref13_SameRefs x2.2.2.1 x1.2.2.1) fun r4 =>
      br r4
       (bnd (law18_works) fun r5 =>
       some r5)
       (some false))
      (some false))
     (some false))
    (some false))
   (some false) :=
  (congrFun (congrFun (jnO_eq [1, 1, 1, 1] (BF (R := den .bool) 15 0 [1, 1, 1, 1])) ⟨[(2, ⟨(.ptr 0 0), ()⟩), (5, ⟨(.ptr 1 0), ()⟩), (6, ⟨(.int .i64), x0⟩), (7, ⟨(.ptr 2 0), ()⟩)], [⟨(.box tboscageref18Plan), x1⟩, ⟨(.box tboscageref18Plan), x2⟩, ⟨(.box (.pair (.own tapiNode 3) (.pair (.int .i64) (.pair (.list (.int .i64)) .unit)))), x3⟩, ⟨(.row 27 tapiNode false), x4⟩]⟩) (finF 15 .bool [] 0)).trans (by kernel_rfl)
theorem law13_Few.eq (a0 : den tapiNode) : law13_Few a0 =
  bnd (base_Cut a0.2.1 (40 : Int)) fun r0 =>
  bnd (base_Cut a0.2.2.1 (40 : Int)) fun r1 =>
  br (andB (leI (0 : Int) (0 : Int)) (andB (leI (0 : Int) (minI (ofN (lenL (.int .i64) a0.2.2.2.2.1)) (40 : Int))) (leI (minI (ofN (lenL (.int .i64) a0.2.2.2.2.1)) (40 : Int)) (ofN (lenL (.int .i64) a0.2.2.2.2.1))))) (br (fitL (.int .i64) (appL (.int .i64) [] (subL (.int .i64) a0.2.2.2.2.1 (toN (0 : Int)) (toN (minI (ofN (lenL (.int .i64) a0.2.2.2.2.1)) (40 : Int)))))) (bnd (law07_Few a0.2.2.2.2.2.2.1) fun r2 =>
  some (a0.1, (r0, (r1, (a0.2.2.2.1, ((appL (.int .i64) [] (subL (.int .i64) a0.2.2.2.2.1 (toN (0 : Int)) (toN (minI (ofN (lenL (.int .i64) a0.2.2.2.2.1)) (40 : Int))))), (a0.2.2.2.2.2.1, (r2, a0.2.2.2.2.2.2.2)))))))) none) none :=
  (callW_eq (P := PP) (T := TT) (pr := RR) 17 [⟨tapiNode, a0⟩] [] tapiNode []).trans (by kernel_rfl)
theorem plan_Fill_o.eq (a0 : den tapiNode) (a1 : denO (.row 24 (.int .i64) true)) : plan_Fill_o a0 a1 =
  bnd (node_Copy a0) fun r0 =>
  bnd (plan_Ref r0.1.2.2.2.2.2.1 a1) fun r1 =>
  plan_Fill_o.l0 r1.2.1 (ofN (lenL (.int .i64) r0.2.1)) (0 : Int) a1 (r0.1.1, (r0.1.2.1, (r0.1.2.2.1, (r0.1.2.2.2.1, ((), (r1.1, r0.1.2.2.2.2.2.2)))))) ((0 : Int), (ByteArray.empty, (ByteArray.empty, ((0 : Int), ((), ((0 : Int), ((), ((0 : Int), ((0 : Int), ()))))))))) r0.2.1 r0.2.2.1 [] [] :=
  (callW_eq (P := PP) (T := TT) (pr := RR) 61 [⟨tapiNode, a0⟩, ⟨(.own (.int .i64) 0), ()⟩] [⟨(.row 24 (.int .i64) true), a1⟩] (.tcons tapiNode (.tcons (.int .i64) .tnil)) [(.row 24 (.int .i64) true)]).trans (by kernel_rfl)
theorem plan_Fill_o.l0.eq (x0 : den (.int .i64)) (x1 : den (.int .i64)) (x2 : den (.int .i64)) (x3 : denO (.row 24 (.int .i64) true)) (x4 : denO (.box (.pair (.int .i64) (.pair .str (.pair .str (.pair (.int .u32) (.pair (.own (.int .i64) 3) (.pair (.int .i64) (.pair (.own tapiPair 4) (.pair (.int .i64) (.pair (.int .i64) .unit))))))))))) (x5 : denO (.box (.pair (.int .i64) (.pair .str (.pair .str (.pair (.int .u32) (.pair (.own (.int .i64) 5) (.pair (.int .i64) (.pair (.own tapiPair 6) (.pair (.int .i64) (.pair (.int .i64) .unit))))))))))) (x6 : denO (.row 24 (.int .i64) false)) (x7 : denO (.row 43 tapiPair false)) (x8 : denO (.row 24 (.int .i64) false)) (x9 : denO (.row 43 tapiPair false)) : plan_Fill_o.l0 x0 x1 x2 x3 x4 x5 x6 x7 x8 x9 =
  br (ltI x2 x1)
   (br (andB (leI (0 : Int) x2) (ltI x2 (ofN (lenL (.int .i64) x6)))) (bnd (plan_Ref (ixL (.int .i64) x6 x2) x3) fun r0 =>
   br (notB (eqI r0.2.1 (0 : Int)))
    (br (andB (leI (0 : Int) x2) (ltI x2 (ofN (lenL (.int .i64) x6)))) (plan_Fill_o.l0 r0.2.1 x1 (addI .i64 x2 (1 : Int)) x3 x4 x5 (setL (.int .i64) x6 x2 r0.1) x7 x8 x9) none)
    (br (andB (leI (0 : Int) x2) (ltI x2 (ofN (lenL (.int .i64) x6)))) (plan_Fill_o.l0 x0 x1 (addI .i64 x2 (1 : Int)) x3 x4 x5 (setL (.int .i64) x6 x2 r0.1) x7 x8 x9) none)) none)
   (br (notB (eqI x0 (0 : Int)))
    (some ((((0 : Int), (ByteArray.empty, (ByteArray.empty, ((0 : Int), ([], ((0 : Int), ([], ((0 : Int), ((0 : Int), ()))))))))), (x0, ())), (x3, ())))
    (some (((x4.1, (x4.2.1, (x4.2.2.1, (x4.2.2.2.1, (x6, (x4.2.2.2.2.2.1, (x7, x4.2.2.2.2.2.2.2))))))), (x0, ())), (x3, ())))) :=
  (loopB_eq (P := PP) (T := TT) (C := CF) [1, 1, 1, 1, 0, 1, 0, 0] [1, 1, 1, 1, 0, 1, 0, 0] 61 1 ⟨[(1, ⟨(.own (.int .i64) 0), ()⟩), (2, ⟨(.ptr 1 0), ()⟩), (4, ⟨(.ptr 2 0), ()⟩), (7, ⟨(.int .i64), x0⟩), (24, ⟨(.own (.int .i64) 3), ()⟩), (25, ⟨(.int .i64), x1⟩), (26, ⟨(.int .i64), x2⟩)], [⟨(.row 24 (.int .i64) true), x3⟩, ⟨(.box (.pair (.int .i64) (.pair .str (.pair .str (.pair (.int .u32) (.pair (.own (.int .i64) 3) (.pair (.int .i64) (.pair (.own tapiPair 4) (.pair (.int .i64) (.pair (.int .i64) .unit)))))))))), x4⟩, ⟨(.box (.pair (.int .i64) (.pair .str (.pair .str (.pair (.int .u32) (.pair (.own (.int .i64) 5) (.pair (.int .i64) (.pair (.own tapiPair 6) (.pair (.int .i64) (.pair (.int .i64) .unit)))))))))), x5⟩, ⟨(.row 24 (.int .i64) false), x6⟩, ⟨(.row 43 tapiPair false), x7⟩, ⟨(.row 24 (.int .i64) false), x8⟩, ⟨(.row 43 tapiPair false), x9⟩]⟩ (blockK 0 (seqK false [1, 1, 1, 1, 1] (BF 61 1 [1, 1, 1, 1, 1]) (finF 61 (.tcons tapiNode (.tcons (.int .i64) .tnil)) [(.row 24 (.int .i64) true)] 1)))).trans (by kernel_rfl)
theorem ref18_Fill_o.eq (a0 : den tapiNode) (a1 : denO (.row 24 (.int .i64) true)) : ref18_Fill_o a0 a1 =
  ref18_Fill_o.l0 true (0 : Int) a1 a0 ((0 : Int), (ByteArray.empty, (ByteArray.empty, ((0 : Int), ((), ((0 : Int), ((), ((0 : Int), ((0 : Int), ()))))))))) (a0.1, (a0.2.1, (a0.2.2.1, (a0.2.2.2.1, ((), a0.2.2.2.2.2))))) [] [] [] :=
  (callW_eq (P := PP) (T := TT) (pr := RR) 62 [⟨tapiNode, a0⟩, ⟨(.own (.int .i64) 0), ()⟩] [⟨(.row 24 (.int .i64) true), a1⟩] (.tcons tapiNode (.tcons .bool .tnil)) [(.row 24 (.int .i64) true)]).trans (by kernel_rfl)
theorem ref18_Fill_o.l0.eq (x0 : den .bool) (x1 : den (.int .i64)) (x2 : denO (.row 24 (.int .i64) true)) (x3 : denO (.box tapiNode)) (x4 : denO (.box (.pair (.int .i64) (.pair .str (.pair .str (.pair (.int .u32) (.pair (.own (.int .i64) 4) (.pair (.int .i64) (.pair (.own tapiPair 5) (.pair (.int .i64) (.pair (.int .i64) .unit))))))))))) (x5 : denO (.box (.pair (.int .i64) (.pair .str (.pair .str (.pair (.int .u32) (.pair (.own (.int .i64) 6) (.pair (.int .i64) (.pair (.list tapiPair) (.pair (.int .i64) (.pair (.int .i64) .unit))))))))))) (x6 : denO (.row 24 (.int .i64) false)) (x7 : denO (.row 43 tapiPair false)) (x8 : denO (.row 24 (.int .i64) false)) : ref18_Fill_o.l0 x0 x1 x2 x3 x4 x5 x6 x7 x8 =
  br (ltI x1 (ofN (lenL (.int .i64) x3.2.2.2.2.1)))
   (br (andB (leI (0 : Int) x1) (ltI x1 (ofN (lenL (.int .i64) x3.2.2.2.2.1)))) (bnd (ref18_Ref (ixL (.int .i64) x3.2.2.2.2.1 x1) x2) fun r0 =>
   br (fitL (.int .i64) (appL (.int .i64) x8 (r0.1 :: []))) (br x0
    (ref18_Fill_o.l0 r0.2.1 (addI .i64 x1 (1 : Int)) x2 x3 x4 x5 x6 x7 (appL (.int .i64) x8 (r0.1 :: [])))
    (ref18_Fill_o.l0 false (addI .i64 x1 (1 : Int)) x2 x3 x4 x5 x6 x7 (appL (.int .i64) x8 (r0.1 :: [])))) none) none)
   (bnd (ref18_Ref x3.2.2.2.2.2.1 x2) fun r1 =>
   br (notB x0)
    (some ((((0 : Int), (ByteArray.empty, (ByteArray.empty, ((0 : Int), ([], ((0 : Int), ([], ((0 : Int), ((0 : Int), ()))))))))), (false, ())), (x2, ())))
    (br (notB r1.2.1)
     (some ((((0 : Int), (ByteArray.empty, (ByteArray.empty, ((0 : Int), ([], ((0 : Int), ([], ((0 : Int), ((0 : Int), ()))))))))), (false, ())), (x2, ())))
     (some (((x5.1, (x5.2.1, (x5.2.2.1, (x5.2.2.2.1, (x8, (r1.1, x5.2.2.2.2.2.2)))))), (true, ())), (x2, ()))))) :=
  (loopB_eq (P := PP) (T := TT) (C := CF) [1, 1, 1, 0, 1, 0, 0] [1, 1, 1, 0, 1, 0, 0] 62 1 ⟨[(1, ⟨(.own (.int .i64) 0), ()⟩), (2, ⟨(.ptr 1 0), ()⟩), (4, ⟨(.ptr 2 0), ()⟩), (6, ⟨(.ptr 3 0), ()⟩), (7, ⟨.bool, x0⟩), (8, ⟨(.int .i64), x1⟩)], [⟨(.row 24 (.int .i64) true), x2⟩, ⟨(.box tapiNode), x3⟩, ⟨(.box (.pair (.int .i64) (.pair .str (.pair .str (.pair (.int .u32) (.pair (.own (.int .i64) 4) (.pair (.int .i64) (.pair (.own tapiPair 5) (.pair (.int .i64) (.pair (.int .i64) .unit)))))))))), x4⟩, ⟨(.box (.pair (.int .i64) (.pair .str (.pair .str (.pair (.int .u32) (.pair (.own (.int .i64) 6) (.pair (.int .i64) (.pair (.list tapiPair) (.pair (.int .i64) (.pair (.int .i64) .unit)))))))))), x5⟩, ⟨(.row 24 (.int .i64) false), x6⟩, ⟨(.row 43 tapiPair false), x7⟩, ⟨(.row 24 (.int .i64) false), x8⟩]⟩ (blockK 0 (seqK false [1, 1, 1, 1] (BF 62 1 [1, 1, 1, 1]) (finF 62 (.tcons tapiNode (.tcons .bool .tnil)) [(.row 24 (.int .i64) true)] 1)))).trans (by kernel_rfl)
theorem plan_Ref.eq (a0 : den (.int .i64)) (a1 : den (.list (.int .i64))) : plan_Ref a0 a1 =
  bnd (ref_Which a0) fun r0 =>
  br (notB r0.2.1)
   (some (a0, ((0 : Int), ())))
   (br (leI (ofN (lenL (.int .i64) a1)) r0.1)
    (some ((0 : Int), ((4 : Int), ())))
    (br (andB (leI (0 : Int) r0.1) (ltI r0.1 (ofN (lenL (.int .i64) a1)))) (some ((ixL (.int .i64) a1 r0.1), ((0 : Int), ()))) none)) :=
  (callW_eq (P := PP) (T := TT) (pr := RR) 63 [⟨(.int .i64), a0⟩, ⟨(.list (.int .i64)), a1⟩] [] (.tcons (.int .i64) (.tcons (.int .i64) .tnil)) []).trans (by kernel_rfl)
theorem ref18_Ref.eq (a0 : den (.int .i64)) (a1 : den (.list (.int .i64))) : ref18_Ref a0 a1 =
  br (leI (0 : Int) a0)
   (some (a0, (true, ())))
   (ref18_Ref.l0 a0 a1 (0 : Int)) :=
  (callW_eq (P := PP) (T := TT) (pr := RR) 64 [⟨(.int .i64), a0⟩, ⟨(.list (.int .i64)), a1⟩] [] (.tcons (.int .i64) (.tcons .bool .tnil)) []).trans (by kernel_rfl)
theorem ref18_Ref.l0.eq (x0 : den (.int .i64)) (x1 : den (.list (.int .i64))) (x2 : den (.int .i64)) : ref18_Ref.l0 x0 x1 x2 =
  br (ltI x2 (ofN (lenL (.int .i64) x1)))
   (br (eqI x0 (subI .i64 (-1 : Int) x2))
    (br (andB (leI (0 : Int) x2) (ltI x2 (ofN (lenL (.int .i64) x1)))) (some ((ixL (.int .i64) x1 x2), (true, ()))) none)
    (ref18_Ref.l0 x0 x1 (addI .i64 x2 (1 : Int))))
   (some ((0 : Int), (false, ()))) :=
  (loopB_eq (P := PP) (T := TT) (C := CF) [1, 1, 0, 1, 0, 0] [1, 1, 0, 1, 0, 0] 64 0 ⟨[(0, ⟨(.int .i64), x0⟩), (1, ⟨(.list (.int .i64)), x1⟩), (6, ⟨(.int .i64), x2⟩)], []⟩ (blockK 0 (seqK false [1, 1, 1] (BF 64 0 [1, 1, 1]) (finF 64 (.tcons (.int .i64) (.tcons .bool .tnil)) [] 0)))).trans (by kernel_rfl)
theorem ref13_Same.eq (a0 : den tapiNode) (a1 : den tapiNode) : ref13_Same a0 a1 =
  br (notB (eqI a0.1 a1.1))
   (some false)
   (br (notB (eqS a0.2.1 a1.2.1))
    (some false)
    (br (notB (eqS a0.2.2.1 a1.2.2.1))
     (some false)
     (br (notB (eqI a0.2.2.2.1 a1.2.2.2.1))
      (some false)
      (br (notB (eqI a0.2.2.2.2.2.1 a1.2.2.2.2.2.1))
       (some false)
       (br (notB (eqI a0.2.2.2.2.2.2.2.1 a1.2.2.2.2.2.2.2.1))
        (some false)
        (br (notB (eqI a0.2.2.2.2.2.2.2.2.1 a1.2.2.2.2.2.2.2.2.1))
         (some false)
         (bnd (ref13_SameRefs a0.2.2.2.2.1 a1.2.2.2.2.1) fun r0 =>
         br r0
          (bnd (ref07_Same a0.2.2.2.2.2.2.1 a1.2.2.2.2.2.2.1) fun r1 =>
          some r1)
          (some false)))))))) :=
  (callW_eq (P := PP) (T := TT) (pr := RR) 23 [⟨tapiNode, a0⟩, ⟨tapiNode, a1⟩] [] .bool []).trans (by kernel_rfl)
theorem law18_works.eq  : law18_works  =
  bnd (node_Leaf (ByteArray.mk #[97]) (ByteArray.mk #[49])) fun r0 =>
  bnd (node_Leaf (ByteArray.mk #[98]) (ByteArray.mk #[50])) fun r1 =>
  bnd (node_Leaf (ByteArray.mk #[99]) (ByteArray.mk #[51])) fun r2 =>
  bnd (plan_Do (r0 :: (r1 :: [])) ((r2 :: []), ((-1 : Int), ([], ())))) fun r3 =>
  br (eqI r3.2.2.1 (0 : Int))
   (br (eqI r3.2.1 (3 : Int))
    (br (eqI (ofN (lenL tapiNode r3.1)) (3 : Int))
     (br (andB (leI (0 : Int) (2 : Int)) (ltI (2 : Int) (ofN (lenL tapiNode r3.1)))) (some (eqS (ixL tapiNode r3.1 (2 : Int)).2.1 (ByteArray.mk #[99]))) none)
     (some false))
    (some false))
   (some false) :=
  (callW_eq (P := PP) (T := TT) (pr := RR) 65 [] [] .bool []).trans (by kernel_rfl)
theorem law17_Few.eq (a0 : den (.list tapiNode)) : law17_Few a0 =
  law17_Few.l0 a0 (1 : Int) (0 : Int) [] :=
  (callW_eq (P := PP) (T := TT) (pr := RR) 49 [⟨(.list tapiNode), a0⟩] [] (.list tapiNode) []).trans (by kernel_rfl)
theorem law17_Few.l0.eq (x0 : den (.list tapiNode)) (x1 : den (.int .i64)) (x2 : den (.int .i64)) (x3 : denO (.row 27 tapiNode false)) : law17_Few.l0 x0 x1 x2 x3 =
  br (ltI x2 (ofN (lenL tapiNode x0)))
   (law17_Few.j1 x0 x1 x2 (ltI x2 (12 : Int)) x3)
   (law17_Few.j1 x0 x1 x2 false x3) :=
  (loopB_eq (P := PP) (T := TT) (C := CF) [1, 1, 0, 1, 0, 0] [1, 1, 0, 1, 0, 0] 49 0 ⟨[(0, ⟨(.list tapiNode), x0⟩), (3, ⟨(.own tapiNode 0), ()⟩), (4, ⟨(.int .i64), x1⟩), (5, ⟨(.int .i64), x2⟩)], [⟨(.row 27 tapiNode false), x3⟩]⟩ (blockK 0 (seqK false [1, 1, 1] (BF 49 0 [1, 1, 1]) (finF 49 (.list tapiNode) [] 0)))).trans (by kernel_rfl)
theorem law17_Few.j1.eq (x0 : den (.list tapiNode)) (x1 : den (.int .i64)) (x2 : den (.int .i64)) (x3 : den .bool) (x4 : denO (.row 27 tapiNode false)) : law17_Few.j1 x0 x1 x2 x3 x4 =
  br x3
   (br (andB (leI (0 : Int) x2) (ltI x2 (ofN (lenL tapiNode x0)))) (bnd (law13_Few (ixL tapiNode x0 x2)) fun r0 =>
   bnd (ref13_Refs r0) fun r1 =>
   br (ltI (3000 : Int) (mulI .i64 x1 (maxI (ofN (lenL (.int .i64) r1)) (1 : Int))))
    (some x4)
    (br (fitL tapiNode (appL tapiNode x4 (r0 :: []))) (law17_Few.l0 x0 (mulI .i64 x1 (maxI (ofN (lenL (.int .i64) r1)) (1 : Int))) (addI .i64 x2 (1 : Int)) (appL tapiNode x4 (r0 :: []))) none)) none)
   (some x4) :=
  (congrFun (congrFun (jnO_eq [1, 1, 0, 1, 0, 0, 0, 1] (BF (R := den (.list tapiNode)) 49 0 [1, 1, 0, 1, 0, 0, 0, 1])) ⟨[(0, ⟨(.list tapiNode), x0⟩), (3, ⟨(.own tapiNode 0), ()⟩), (4, ⟨(.int .i64), x1⟩), (5, ⟨(.int .i64), x2⟩), (15, ⟨.bool, x3⟩)], [⟨(.row 27 tapiNode false), x4⟩]⟩) (seqK false [1, 1, 0, 1, 0, 0, 1] (BF 49 0 [1, 1, 0, 1, 0, 0, 1]) (againK [1, 1, 0, 1, 0, 0] (loopW [1, 1, 0, 1, 0, 0] (BF 49 0 [1, 1, 0, 1, 0, 0])) (blockK 0 (seqK false [1, 1, 1] (BF 49 0 [1, 1, 1]) (finF 49 (.list tapiNode) [] 0)))))).trans (by kernel_rfl)
theorem law18_Give.eq (a0 : den tboscageref18Plan) : law18_Give a0 =
  law18_Give.l0 (0 : Int) a0 ((), ((0 : Int), ((), ()))) ((), (a0.2.1, ((), ()))) [] [] :=
  (callW_eq (P := PP) (T := TT) (pr := RR) 67 [⟨tboscageref18Plan, a0⟩] [] tboscageref18Plan []).trans (by kernel_rfl)
theorem law18_Give.l0.eq (x0 : den (.int .i64)) (x1 : denO (.box tboscageref18Plan)) (x2 : denO (.box (.pair (.own tapiNode 3) (.pair (.int .i64) (.pair (.own (.int .i64) 4) .unit))))) (x3 : denO (.box (.pair (.nil 27) (.pair (.int .i64) (.pair (.nil 24) .unit))))) (x4 : denO (.row 27 tapiNode false)) (x5 : denO (.row 24 (.int .i64) false)) : law18_Give.l0 x0 x1 x2 x3 x4 x5 =
  br (ltI x0 (ofN (lenL tapiNode x1.1)))
   (law18_Give.j1 x0 (ltI x0 (12 : Int)) x1 ((), (x2.2.1, ((), ()))) ((), (x3.2.1, ((), ()))) x4 x5)
   (law18_Give.j1 x0 false x1 ((), (x2.2.1, ((), ()))) ((), (x3.2.1, ((), ()))) x4 x5) :=
  (loopB_eq (P := PP) (T := TT) (C := CF) [1, 1, 0, 1, 0, 0] [1, 1, 0, 1, 0, 0] 67 0 ⟨[(1, ⟨(.ptr 0 0), ()⟩), (2, ⟨(.ptr 1 0), ()⟩), (3, ⟨(.ptr 2 0), ()⟩), (4, ⟨(.int .i64), x0⟩)], [⟨(.box tboscageref18Plan), x1⟩, ⟨(.box (.pair (.own tapiNode 3) (.pair (.int .i64) (.pair (.own (.int .i64) 4) .unit)))), x2⟩, ⟨(.box (.pair (.nil 27) (.pair (.int .i64) (.pair (.nil 24) .unit)))), x3⟩, ⟨(.row 27 tapiNode false), x4⟩, ⟨(.row 24 (.int .i64) false), x5⟩]⟩ (blockK 0 (seqK false [1, 1, 1] (BF 67 0 [1, 1, 1]) (finF 67 tboscageref18Plan [] 0)))).trans (by kernel_rfl)
theorem law18_Give.j1.eq (x0 : den (.int .i64)) (x1 : den .bool) (x2 : denO (.box tboscageref18Plan)) (x3 : denO (.box (.pair (.own tapiNode 3) (.pair (.int .i64) (.pair (.own (.int .i64) 4) .unit))))) (x4 : denO (.box (.pair (.nil 27) (.pair (.int .i64) (.pair (.nil 24) .unit))))) (x5 : denO (.row 27 tapiNode false)) (x6 : denO (.row 24 (.int .i64) false)) : law18_Give.j1 x0 x1 x2 x3 x4 x5 x6 =
  br x1
   (br (andB (leI (0 : Int) x0) (ltI x0 (ofN (lenL tapiNode x2.1)))) (bnd (law13_Few (ixL tapiNode x2.1 x0)) fun r0 =>
   br (fitL tapiNode (r0 :: [])) (law18_Give.l2 (addI .i64 x0 (1 : Int)) x2 ((), (x3.2.1, ((), ()))) ((), (x4.2.1, ((), ()))) x5 x6 (r0 :: [])) none) none)
   (br (andB (leI (0 : Int) (0 : Int)) (andB (leI (0 : Int) (minI (ofN (lenL (.int .i64) x2.2.2.1)) (20 : Int))) (leI (minI (ofN (lenL (.int .i64) x2.2.2.1)) (20 : Int)) (ofN (lenL (.int .i64) x2.2.2.1))))) (br (fitL (.int .i64) (subL (.int .i64) x2.2.2.1 (toN (0 : Int)) (toN (minI (ofN (lenL (.int .i64) x2.2.2.1)) (20 : Int))))) (some ([], (x4.2.1, ((subL (.int .i64) x2.2.2.1 (toN (0 : Int)) (toN (minI (ofN (lenL (.int .i64) x2.2.2.1)) (20 : Int)))), ())))) none) none) :=
  (congrFun (congrFun (jnO_eq [1, 1, 0, 1, 0, 0, 0, 1] (BF (R := den tboscageref18Plan) 67 0 [1, 1, 0, 1, 0, 0, 0, 1])) ⟨[(1, ⟨(.ptr 0 0), ()⟩), (2, ⟨(.ptr 1 0), ()⟩), (3, ⟨(.ptr 2 0), ()⟩), (4, ⟨(.int .i64), x0⟩), (16, ⟨.bool, x1⟩)], [⟨(.box tboscageref18Plan), x2⟩, ⟨(.box (.pair (.own tapiNode 3) (.pair (.int .i64) (.pair (.own (.int .i64) 4) .unit)))), x3⟩, ⟨(.box (.pair (.nil 27) (.pair (.int .i64) (.pair (.nil 24) .unit)))), x4⟩, ⟨(.row 27 tapiNode false), x5⟩, ⟨(.row 24 (.int .i64) false), x6⟩]⟩) (seqK false [1, 1, 0, 1, 0, 0, 1] (BF 67 0 [1, 1, 0, 1, 0, 0, 1]) (againK [1, 1, 0, 1, 0, 0] (loopW [1, 1, 0, 1, 0, 0] (BF 67 0 [1, 1, 0, 1, 0, 0])) (blockK 0 (seqK false [1, 1, 1] (BF 67 0 [1, 1, 1]) (finF 67 tboscageref18Plan [] 0)))))).trans (by kernel_rfl)
theorem law18_Give.l2.eq (x0 : den (.int .i64)) (x1 : denO (.box tboscageref18Plan)) (x2 : denO (.box (.pair (.own tapiNode 3) (.pair (.int .i64) (.pair (.own (.int .i64) 4) .unit))))) (x3 : denO (.box (.pair (.own tapiNode 5) (.pair (.int .i64) (.pair (.nil 24) .unit))))) (x4 : denO (.row 27 tapiNode false)) (x5 : denO (.row 24 (.int .i64) false)) (x6 : denO (.row 27 tapiNode false)) : law18_Give.l2 x0 x1 x2 x3 x4 x5 x6 =
  br (ltI x0 (ofN (lenL tapiNode x1.1)))
   (law18_Give.j3 x0 (ltI x0 (12 : Int)) x1 ((), (x2.2.1, ((), ()))) ((), (x3.2.1, ((), ()))) x4 x5 x6)
   (law18_Give.j3 x0 false x1 ((), (x2.2.1, ((), ()))) ((), (x3.2.1, ((), ()))) x4 x5 x6) :=
  (loopB_eq (P := PP) (T := TT) (C := CF) [1, 1, 0, 1, 0, 0] [1, 1, 0, 1, 0, 0] 67 0 ⟨[(1, ⟨(.ptr 0 0), ()⟩), (2, ⟨(.ptr 1 0), ()⟩), (3, ⟨(.ptr 2 0), ()⟩), (4, ⟨(.int .i64), x0⟩)], [⟨(.box tboscageref18Plan), x1⟩, ⟨(.box (.pair (.own tapiNode 3) (.pair (.int .i64) (.pair (.own (.int .i64) 4) .unit)))), x2⟩, ⟨(.box (.pair (.own tapiNode 5) (.pair (.int .i64) (.pair (.nil 24) .unit)))), x3⟩, ⟨(.row 27 tapiNode false), x4⟩, ⟨(.row 24 (.int .i64) false), x5⟩, ⟨(.row 27 tapiNode false), x6⟩]⟩ (blockK 0 (seqK false [1, 1, 1] (BF 67 0 [1, 1, 1]) (finF 67 tboscageref18Plan [] 0)))).trans (by kernel_rfl)
theorem law18_Give.j3.eq (x0 : den (.int .i64)) (x1 : den .bool) (x2 : denO (.box tboscageref18Plan)) (x3 : denO (.box (.pair (.own tapiNode 3) (.pair (.int .i64) (.pair (.own (.int .i64) 4) .unit))))) (x4 : denO (.box (.pair (.own tapiNode 5) (.pair (.int .i64) (.pair (.nil 24) .unit))))) (x5 : denO (.row 27 tapiNode false)) (x6 : denO (.row 24 (.int .i64) false)) (x7 : denO (.row 27 tapiNode false)) : law18_Give.j3 x0 x1 x2 x3 x4 x5 x6 x7 =
  br x1
   (br (andB (leI (0 : Int) x0) (ltI x0 (ofN (lenL tapiNode x2.1)))) (bnd (law13_Few (ixL tapiNode x2.1 x0)) fun r0 =>
   br (fitL tapiNode (appL tapiNode x7 (r0 :: []))) (law18_Give.l2 (addI .i64 x0 (1 : Int)) x2 ((), (x3.2.1, ((), ()))) ((), (x4.2.1, ((), ()))) x5 x6 (appL tapiNode x7 (r0 :: []))) none) none)
   (br (andB (leI (0 : Int) (0 : Int)) (andB (leI (0 : Int) (minI (ofN (lenL (.int .i64) x2.2.2.1)) (20 : Int))) (leI (minI (ofN (lenL (.int .i64) x2.2.2.1)) (20 : Int)) (ofN (lenL (.int .i64) x2.2.2.1))))) (br (fitL (.int .i64) (subL (.int .i64) x2.2.2.1 (toN (0 : Int)) (toN (minI (ofN (lenL (.int .i64) x2.2.2.1)) (20 : Int))))) (some (x7, (x4.2.1, ((subL (.int .i64) x2.2.2.1 (toN (0 : Int)) (toN (minI (ofN (lenL (.int .i64) x2.2.2.1)) (20 : Int)))), ())))) none) none) :=
  (congrFun (congrFun (jnO_eq [1, 1, 0, 1, 0, 0, 0, 1] (BF (R := den tboscageref18Plan) 67 0 [1, 1, 0, 1, 0, 0, 0, 1])) ⟨[(1, ⟨(.ptr 0 0), ()⟩), (2, ⟨(.ptr 1 0), ()⟩), (3, ⟨(.ptr 2 0), ()⟩), (4, ⟨(.int .i64), x0⟩), (16, ⟨.bool, x1⟩)], [⟨(.box tboscageref18Plan), x2⟩, ⟨(.box (.pair (.own tapiNode 3) (.pair (.int .i64) (.pair (.own (.int .i64) 4) .unit)))), x3⟩, ⟨(.box (.pair (.own tapiNode 5) (.pair (.int .i64) (.pair (.nil 24) .unit)))), x4⟩, ⟨(.row 27 tapiNode false), x5⟩, ⟨(.row 24 (.int .i64) false), x6⟩, ⟨(.row 27 tapiNode false), x7⟩]⟩) (seqK false [1, 1, 0, 1, 0, 0, 1] (BF 67 0 [1, 1, 0, 1, 0, 0, 1]) (againK [1, 1, 0, 1, 0, 0] (loopW [1, 1, 0, 1, 0, 0] (BF 67 0 [1, 1, 0, 1, 0, 0])) (blockK 0 (seqK false [1, 1, 1] (BF 67 0 [1, 1, 1]) (finF 67 tboscageref18Plan [] 0)))))).trans (by kernel_rfl)
theorem law18_Back.eq (a0 : den tboscageref18Plan) : law18_Back a0 =
  some a0 :=
  (callW_eq (P := PP) (T := TT) (pr := RR) 66 [⟨tboscageref18Plan, a0⟩] [] tboscageref18Plan []).trans (by kernel_rfl)
theorem plan_Do.eq (a0 : den (.list tapiNode)) (a1 : den tboscageref18Plan) : plan_Do a0 a1 =
  bnd (plan_May a1) fun r0 =>
  br (notB (eqI r0 (0 : Int)))
   (some ([], ((0 : Int), ((4 : Int), ()))))
   (bnd (heap_May a0) fun r1 =>
   br (notB (eqI r1 (0 : Int)))
    (some ([], ((0 : Int), ((4 : Int), ()))))
    (bnd (plan_fits a0 a1) fun r2 =>
    br (notB r2)
     (some ([], ((0 : Int), ((4 : Int), ()))))
     (plan_Do.l0 a0 (ofN (lenL tapiNode a0)) (0 : Int) a1 []))) :=
  (callW_eq (P := PP) (T := TT) (pr := RR) 68 [⟨(.list tapiNode), a0⟩, ⟨tboscageref18Plan, a1⟩] [] (.tcons (.list tapiNode) (.tcons (.int .i64) (.tcons (.int .i64) .tnil))) []).trans (by kernel_rfl)
theorem plan_Do.l0.eq (x0 : den (.list tapiNode)) (x1 : den (.int .i64)) (x2 : den (.int .i64)) (x3 : denO (.box tboscageref18Plan)) (x4 : denO (.row 27 tapiNode false)) : plan_Do.l0 x0 x1 x2 x3 x4 =
  br (ltI x2 x1)
   (br (andB (leI (0 : Int) x2) (ltI x2 (ofN (lenL tapiNode x0)))) (bnd (node_Copy (ixL tapiNode x0 x2)) fun r0 =>
   br (fitL tapiNode (appL tapiNode x4 ((r0.1.1, (r0.1.2.1, (r0.1.2.2.1, (r0.1.2.2.2.1, (r0.2.1, (r0.1.2.2.2.2.2.1, (r0.2.2.1, r0.1.2.2.2.2.2.2.2))))))) :: []))) (plan_Do.l0 x0 x1 (addI .i64 x2 (1 : Int)) x3 (appL tapiNode x4 ((r0.1.1, (r0.1.2.1, (r0.1.2.2.1, (r0.1.2.2.2.1, (r0.2.1, (r0.1.2.2.2.2.2.1, (r0.2.2.1, r0.1.2.2.2.2.2.2.2))))))) :: []))) none) none)
   (plan_Do.l1 x3.1 (ofN (lenL tapiNode x3.1)) (0 : Int) x3 x4 []) :=
  (loopB_eq (P := PP) (T := TT) (C := CF) [1, 1, 1, 0, 1, 0, 0] [1, 1, 1, 0, 1, 0, 0] 68 0 ⟨[(3, ⟨(.ptr 0 0), ()⟩), (7, ⟨(.own tapiNode 1), ()⟩), (31, ⟨(.list tapiNode), x0⟩), (32, ⟨(.int .i64), x1⟩), (33, ⟨(.int .i64), x2⟩)], [⟨(.box tboscageref18Plan), x3⟩, ⟨(.row 27 tapiNode false), x4⟩]⟩ (blockK 0 (seqK false [1, 1, 1, 1] (BF 68 0 [1, 1, 1, 1]) (finF 68 (.tcons (.list tapiNode) (.tcons (.int .i64) (.tcons (.int .i64) .tnil))) [] 0)))).trans (by kernel_rfl)
theorem plan_Do.l1.eq (x0 : den (.list tapiNode)) (x1 : den (.int .i64)) (x2 : den (.int .i64)) (x3 : denO (.box tboscageref18Plan)) (x4 : denO (.row 27 tapiNode false)) (x5 : denO (.row 24 (.int .i64) false)) : plan_Do.l1 x0 x1 x2 x3 x4 x5 =
  br (ltI x2 x1)
   (br (andB (leI (0 : Int) x2) (ltI x2 (ofN (lenL tapiNode x0)))) (bnd (plan_Fill_o (ixL tapiNode x0 x2) x5) fun r0 =>
   br (fitL tapiNode (appL tapiNode x4 (r0.1.1 :: []))) (br (fitL (.int .i64) (appL (.int .i64) r0.2.1 ((ofN (lenL tapiNode (appL tapiNode x4 (r0.1.1 :: [])))) :: []))) (plan_Do.l1 x0 x1 (addI .i64 x2 (1 : Int)) x3 (appL tapiNode x4 (r0.1.1 :: [])) (appL (.int .i64) r0.2.1 ((ofN (lenL tapiNode (appL tapiNode x4 (r0.1.1 :: [])))) :: []))) none) none) none)
   (bnd (plan_Ref x3.2.1 x5) fun r1 =>
   some (x4, r1)) :=
  (loopB_eq (P := PP) (T := TT) (C := CF) [1, 1, 1, 1, 1, 0, 1, 0, 0] [1, 1, 1, 1, 1, 0, 1, 0, 0] 68 0 ⟨[(3, ⟨(.ptr 0 0), ()⟩), (7, ⟨(.own tapiNode 1), ()⟩), (10, ⟨(.own (.int .i64) 2), ()⟩), (44, ⟨(.list tapiNode), x0⟩), (45, ⟨(.int .i64), x1⟩), (46, ⟨(.int .i64), x2⟩)], [⟨(.box tboscageref18Plan), x3⟩, ⟨(.row 27 tapiNode false), x4⟩, ⟨(.row 24 (.int .i64) false), x5⟩]⟩ (blockK 2 (seqK false [1, 1, 1, 1, 1, 1] (BF 68 0 [1, 1, 1, 1, 1, 1]) (finF 68 (.tcons (.list tapiNode) (.tcons (.int .i64) (.tcons (.int .i64) .tnil))) [] 0)))).trans (by kernel_rfl)
theorem ref18_Do.eq (a0 : den (.list tapiNode)) (a1 : den tboscageref18Plan) : ref18_Do a0 a1 =
  bnd (ref18_May a1) fun r0 =>
  br (notB r0)
   (some ([], ((0 : Int), (false, ()))))
   (bnd (ref17_May a0) fun r1 =>
   br (notB r1)
    (some ([], ((0 : Int), (false, ()))))
    (br (fitL (.int .i64) (appL (.int .i64) (a1.2.1 :: []) a1.2.2.1)) (ref18_Do.l0 a0 (0 : Int) a1 (appL (.int .i64) (a1.2.1 :: []) a1.2.2.1)) none)) :=
  (callW_eq (P := PP) (T := TT) (pr := RR) 69 [⟨(.list tapiNode), a0⟩, ⟨tboscageref18Plan, a1⟩] [] (.tcons (.list tapiNode) (.tcons (.int .i64) (.tcons .bool .tnil))) []).trans (by kernel_rfl)
theorem ref18_Do.l0.eq (x0 : den (.list tapiNode)) (x1 : den (.int .i64)) (x2 : denO (.box tboscageref18Plan)) (x3 : denO (.row 24 (.int .i64) false)) : ref18_Do.l0 x0 x1 x2 x3 =
  br (ltI x1 (ofN (lenL tapiNode x2.1)))
   (br (andB (leI (0 : Int) x1) (ltI x1 (ofN (lenL tapiNode x2.1)))) (bnd (ref13_Refs (ixL tapiNode x2.1 x1)) fun r0 =>
   br (fitL (.int .i64) (appL (.int .i64) x3 r0)) (ref18_Do.l0 x0 (addI .i64 x1 (1 : Int)) x2 (appL (.int .i64) x3 r0)) none) none)
   (ref18_Do.l1 x0 (0 : Int) x2 x3) :=
  (loopB_eq (P := PP) (T := TT) (C := CF) [1, 1, 1, 0, 1, 0, 0] [1, 1, 1, 0, 1, 0, 0] 69 0 ⟨[(0, ⟨(.list tapiNode), x0⟩), (3, ⟨(.ptr 0 0), ()⟩), (7, ⟨(.own (.int .i64) 1), ()⟩), (8, ⟨(.int .i64), x1⟩)], [⟨(.box tboscageref18Plan), x2⟩, ⟨(.row 24 (.int .i64) false), x3⟩]⟩ (blockK 0 (seqK false [1, 1, 1, 1] (BF 69 0 [1, 1, 1, 1]) (finF 69 (.tcons (.list tapiNode) (.tcons (.int .i64) (.tcons .bool .tnil))) [] 0)))).trans (by kernel_rfl)
theorem ref18_Do.l1.eq (x0 : den (.list tapiNode)) (x1 : den (.int .i64)) (x2 : denO (.box tboscageref18Plan)) (x3 : denO (.row 24 (.int .i64) false)) : ref18_Do.l1 x0 x1 x2 x3 =
  br (ltI x1 (ofN (lenL (.int .i64) x3)))
   (br (andB (leI (0 : Int) x1) (ltI x1 (ofN (lenL (.int .i64) x3)))) (br (ltI (ofN (lenL tapiNode x0)) (ixL (.int .i64) x3 x1))
    (some ([], ((0 : Int), (false, ()))))
    (ref18_Do.l1 x0 (addI .i64 x1 (1 : Int)) x2 x3)) none)
   (br (fitL tapiNode (appL tapiNode [] x0)) (ref18_Do.l2 (0 : Int) x2 (appL tapiNode [] x0) []) none) :=
  (loopB_eq (P := PP) (T := TT) (C := CF) [1, 1, 1, 1, 0, 1, 0, 0] [1, 1, 1, 1, 0, 1, 0, 0] 69 0 ⟨[(0, ⟨(.list tapiNode), x0⟩), (3, ⟨(.ptr 0 0), ()⟩), (7, ⟨(.own (.int .i64) 1), ()⟩), (9, ⟨(.int .i64), x1⟩)], [⟨(.box tboscageref18Plan), x2⟩, ⟨(.row 24 (.int .i64) false), x3⟩]⟩ (blockK 2 (seqK false [1, 1, 1, 1, 1] (BF 69 0 [1, 1, 1, 1, 1]) (finF 69 (.tcons (.list tapiNode) (.tcons (.int .i64) (.tcons .bool .tnil))) [] 0)))).trans (by kernel_rfl)
theorem ref18_Do.l2.eq (x0 : den (.int .i64)) (x1 : denO (.box tboscageref18Plan)) (x2 : denO (.row 27 tapiNode false)) (x3 : denO (.row 24 (.int .i64) false)) : ref18_Do.l2 x0 x1 x2 x3 =
  br (ltI x0 (ofN (lenL tapiNode x1.1)))
   (br (andB (leI (0 : Int) x0) (ltI x0 (ofN (lenL tapiNode x1.1)))) (bnd (ref18_Fill_o (ixL tapiNode x1.1 x0) x3) fun r0 =>
   br (fitL tapiNode (appL tapiNode x2 (r0.1.1 :: []))) (br (fitL (.int .i64) (appL (.int .i64) r0.2.1 ((ofN (lenL tapiNode (appL tapiNode x2 (r0.1.1 :: [])))) :: []))) (ref18_Do.l2 (addI .i64 x0 (1 : Int)) x1 (appL tapiNode x2 (r0.1.1 :: [])) (appL (.int .i64) r0.2.1 ((ofN (lenL tapiNode (appL tapiNode x2 (r0.1.1 :: [])))) :: []))) none) none) none)
   (bnd (ref18_Ref x1.2.1 x3) fun r1 =>
   some (x2, (r1.1, (true, ())))) :=
  (loopB_eq (P := PP) (T := TT) (C := CF) [1, 1, 1, 1, 1, 1, 0, 1, 0, 0] [1, 1, 1, 1, 1, 1, 0, 1, 0, 0] 69 0 ⟨[(3, ⟨(.ptr 0 0), ()⟩), (10, ⟨(.own tapiNode 1), ()⟩), (11, ⟨(.own (.int .i64) 2), ()⟩), (12, ⟨(.int .i64), x0⟩)], [⟨(.box tboscageref18Plan), x1⟩, ⟨(.row 27 tapiNode false), x2⟩, ⟨(.row 24 (.int .i64) false), x3⟩]⟩ (blockK 4 (seqK false [1, 1, 1, 1, 1, 1, 1] (BF 69 0 [1, 1, 1, 1, 1, 1, 1]) (finF 69 (.tcons (.list tapiNode) (.tcons (.int .i64) (.tcons .bool .tnil))) [] 0)))).trans (by kernel_rfl)
theorem ref18_SameHeap.eq (a0 : den (.list tapiNode)) (a1 : den (.list tapiNode)) : ref18_SameHeap a0 a1 =
  br (notB (eqI (ofN (lenL tapiNode a0)) (ofN (lenL tapiNode a1))))
   (some false)
   (ref18_SameHeap.l0 a0 a1 (0 : Int)) :=
  (callW_eq (P := PP) (T := TT) (pr := RR) 70 [⟨(.list tapiNode), a0⟩, ⟨(.list tapiNode), a1⟩] [] .bool []).trans (by kernel_rfl)
theorem ref18_SameHeap.l0.eq (x0 : den (.list tapiNode)) (x1 : den (.list tapiNode)) (x2 : den (.int .i64)) : ref18_SameHeap.l0 x0 x1 x2 =
  br (ltI x2 (ofN (lenL tapiNode x0)))
   (br (andB (leI (0 : Int) x2) (ltI x2 (ofN (lenL tapiNode x0)))) (br (andB (leI (0 : Int) x2) (ltI x2 (ofN (lenL tapiNode x1)))) (bnd (ref13_Same (ixL tapiNode x0 x2) (ixL tapiNode x1 x2)) fun r0 =>
   br (notB r0)
    (some false)
    (ref18_SameHeap.l0 x0 x1 (addI .i64 x2 (1 : Int)))) none) none)
   (some true) :=
  (loopB_eq (P := PP) (T := TT) (C := CF) [1, 1, 0, 1, 0, 0] [1, 1, 0, 1, 0, 0] 70 0 ⟨[(0, ⟨(.list tapiNode), x0⟩), (1, ⟨(.list tapiNode), x1⟩), (5, ⟨(.int .i64), x2⟩)], []⟩ (blockK 0 (seqK false [1, 1, 1] (BF 70 0 [1, 1, 1]) (finF 70 .bool [] 0)))).trans (by kernel_rfl)
theorem plan_Add.eq (a0 : den tboscageref18Plan) (a1 : den tapiNode) : plan_Add a0 a1 =
  bnd (slices_Cloneapi_Node_api_Node a0.1) fun r0 =>
  bnd (node_Copy a1) fun r1 =>
  br (fitL tapiNode (appL tapiNode r0.2.1 ((r1.1.1, (r1.1.2.1, (r1.1.2.2.1, (r1.1.2.2.2.1, (r1.2.1, (r1.1.2.2.2.2.2.1, (r1.2.2.1, r1.1.2.2.2.2.2.2.2))))))) :: []))) (bnd (ref_New (subI .i64 (ofN (lenL tapiNode (appL tapiNode r0.2.1 ((r1.1.1, (r1.1.2.1, (r1.1.2.2.1, (r1.1.2.2.2.1, (r1.2.1, (r1.1.2.2.2.2.2.1, (r1.2.2.1, r1.1.2.2.2.2.2.2.2))))))) :: [])))) (1 : Int))) fun r2 =>
  some (((appL tapiNode r0.2.1 ((r1.1.1, (r1.1.2.1, (r1.1.2.2.1, (r1.1.2.2.2.1, (r1.2.1, (r1.1.2.2.2.2.2.1, (r1.2.2.1, r1.1.2.2.2.2.2.2.2))))))) :: [])), a0.2), (r2, ()))) none :=
  (callW_eq (P := PP) (T := TT) (pr := RR) 71 [⟨tboscageref18Plan, a0⟩, ⟨tapiNode, a1⟩] [] (.tcons tboscageref18Plan (.tcons (.int .i64) .tnil)) []).trans (by kernel_rfl)
theorem plan_May.eq (a0 : den tboscageref18Plan) : plan_May a0 =
  plan_May.l0 a0.1 (ofN (lenL tapiNode a0.1)) (0 : Int) a0 :=
  (callW_eq (P := PP) (T := TT) (pr := RR) 72 [⟨tboscageref18Plan, a0⟩] [] (.int .i64) []).trans (by kernel_rfl)
theorem plan_May.l0.eq (x0 : den (.list tapiNode)) (x1 : den (.int .i64)) (x2 : den (.int .i64)) (x3 : denO (.box tboscageref18Plan)) : plan_May.l0 x0 x1 x2 x3 =
  br (ltI x2 x1)
   (br (andB (leI (0 : Int) x2) (ltI x2 (ofN (lenL tapiNode x0)))) (bnd (node_May (ixL tapiNode x0 x2)) fun r0 =>
   br (notB (eqI r0 (0 : Int)))
    (some (4 : Int))
    (bnd (node_Refs (ixL tapiNode x0 x2)) fun r1 =>
    bnd (slices_ContainsFuncapi_Ref_api_Ref r1 ((), ()) x2) fun r2 =>
    br r2.1
     (some (4 : Int))
     (plan_May.l0 x0 x1 (addI .i64 x2 (1 : Int)) x3))) none)
   (bnd (plan_ahead x3.2.1 (ofN (lenL tapiNode x3.1))) fun r3 =>
   br (notB r3)
    (some (4 : Int))
    (bnd (slices_ContainsFuncapi_Ref_api_Ref_v1 x3.2.2.1) fun r4 =>
    br r4
     (some (4 : Int))
     (some (0 : Int)))) :=
  (loopB_eq (P := PP) (T := TT) (C := CF) [1, 0, 1, 0, 0] [1, 0, 1, 0, 0] 72 0 ⟨[(1, ⟨(.ptr 0 0), ()⟩), (6, ⟨(.list tapiNode), x0⟩), (7, ⟨(.int .i64), x1⟩), (8, ⟨(.int .i64), x2⟩)], [⟨(.box tboscageref18Plan), x3⟩]⟩ (blockK 0 (seqK false [1, 1] (BF 72 0 [1, 1]) (finF 72 (.int .i64) [] 0)))).trans (by kernel_rfl)
theorem ref18_May.eq (a0 : den tboscageref18Plan) : ref18_May a0 =
  ref18_May.l0 (0 : Int) a0 :=
  (callW_eq (P := PP) (T := TT) (pr := RR) 73 [⟨tboscageref18Plan, a0⟩] [] .bool []).trans (by kernel_rfl)
theorem ref18_May.l0.eq (x0 : den (.int .i64)) (x1 : denO (.box tboscageref18Plan)) : ref18_May.l0 x0 x1 =
  br (ltI x0 (ofN (lenL tapiNode x1.1)))
   (br (andB (leI (0 : Int) x0) (ltI x0 (ofN (lenL tapiNode x1.1)))) (bnd (ref13_Refs (ixL tapiNode x1.1 x0)) fun r0 =>
   ref18_May.l1 x0 r0 (0 : Int) x1) none)
   (ref18_May.l2 (0 : Int) x1) :=
  (loopB_eq (P := PP) (T := TT) (C := CF) [1, 0, 1, 0, 0] [1, 0, 1, 0, 0] 73 0 ⟨[(1, ⟨(.ptr 0 0), ()⟩), (3, ⟨(.int .i64), x0⟩)], [⟨(.box tboscageref18Plan), x1⟩]⟩ (blockK 0 (seqK false [1, 1] (BF 73 0 [1, 1]) (finF 73 .bool [] 0)))).trans (by kernel_rfl)
theorem ref18_May.l1.eq (x0 : den (.int .i64)) (x1 : den (.list (.int .i64))) (x2 : den (.int .i64)) (x3 : denO (.box tboscageref18Plan)) : ref18_May.l1 x0 x1 x2 x3 =
  br (ltI x2 (ofN (lenL (.int .i64) x1)))
   (br (andB (leI (0 : Int) x2) (ltI x2 (ofN (lenL (.int .i64) x1)))) (br (ltI (ixL (.int .i64) x1 x2) (subI .i64 (0 : Int) x0))
    (some false)
    (ref18_May.l1 x0 x1 (addI .i64 x2 (1 : Int)) x3)) none)
   (br (andB (leI (0 : Int) x0) (ltI x0 (ofN (lenL tapiNode x3.1)))) (bnd (ref13_May (ixL tapiNode x3.1 x0)) fun r0 =>
   br (notB (eqI r0 (0 : Int)))
    (some false)
    (ref18_May.l0 (addI .i64 x0 (1 : Int)) x3)) none) :=
  (loopB_eq (P := PP) (T := TT) (C := CF) [1, 0, 1, 0, 0, 1, 0, 0, 1, 0, 1, 0, 0] [1, 0, 1, 0, 0, 1, 0, 0, 1, 0, 1, 0, 0] 73 0 ⟨[(1, ⟨(.ptr 0 0), ()⟩), (3, ⟨(.int .i64), x0⟩), (4, ⟨(.list (.int .i64)), x1⟩), (5, ⟨(.int .i64), x2⟩)], [⟨(.box tboscageref18Plan), x3⟩]⟩ (blockK 2 (seqK false [1, 0, 1, 0, 0, 1, 0, 0, 1, 1] (BF 73 0 [1, 0, 1, 0, 0, 1, 0, 0, 1, 1]) (blockK 1 (seqK false [1, 0, 1, 0, 0, 1, 1] (BF 73 0 [1, 0, 1, 0, 0, 1, 1]) (againK [1, 0, 1, 0, 0] (loopW [1, 0, 1, 0, 0] (BF 73 0 [1, 0, 1, 0, 0])) (blockK 0 (seqK false [1, 1] (BF 73 0 [1, 1]) (finF 73 .bool [] 0))))))))).trans (by kernel_rfl)
theorem ref18_May.l2.eq (x0 : den (.int .i64)) (x1 : denO (.box tboscageref18Plan)) : ref18_May.l2 x0 x1 =
  br (ltI x0 (ofN (lenL (.int .i64) x1.2.2.1)))
   (br (andB (leI (0 : Int) x0) (ltI x0 (ofN (lenL (.int .i64) x1.2.2.1)))) (br (ltI (ixL (.int .i64) x1.2.2.1 x0) (1 : Int))
    (some false)
    (ref18_May.l2 (addI .i64 x0 (1 : Int)) x1)) none)
   (some (leI (subI .i64 (0 : Int) (ofN (lenL tapiNode x1.1))) x1.2.1)) :=
  (loopB_eq (P := PP) (T := TT) (C := CF) [1, 1, 0, 1, 0, 0] [1, 1, 0, 1, 0, 0] 73 0 ⟨[(1, ⟨(.ptr 0 0), ()⟩), (6, ⟨(.int .i64), x0⟩)], [⟨(.box tboscageref18Plan), x1⟩]⟩ (blockK 4 (seqK false [1, 1, 1] (BF 73 0 [1, 1, 1]) (finF 73 .bool [] 0)))).trans (by kernel_rfl)
theorem ref13_SameRefs.eq (a0 : den (.list (.int .i64))) (a1 : den (.list (.int .i64))) : ref13_SameRefs a0 a1 =
  br (notB (eqI (ofN (lenL (.int .i64) a0)) (ofN (lenL (.int .i64) a1))))
   (some false)
   (ref13_SameRefs.l0 a0 a1 (0 : Int)) :=
  (callW_eq (P := PP) (T := TT) (pr := RR) 33 [⟨(.list (.int .i64)), a0⟩, ⟨(.list (.int .i64)), a1⟩] [] .bool []).trans (by kernel_rfl)
theorem ref13_SameRefs.l0.eq (x0 : den (.list (.int .i64))) (x1 : den (.list (.int .i64))) (x2 : den (.int .i64)) : ref13_SameRefs.l0 x0 x1 x2 =
  br (ltI x2 (ofN (lenL (.int .i64) x0)))
   (br (andB (leI (0 : Int) x2) (ltI x2 (ofN (lenL (.int .i64) x0)))) (br (andB (leI (0 : Int) x2) (ltI x2 (ofN (lenL (.int .i64) x1)))) (br (notB (eqI (ixL (.int .i64) x0 x2) (ixL (.int .i64) x1 x2)))
    (some false)
    (ref13_SameRefs.l0 x0 x1 (addI .i64 x2 (1 : Int)))) none) none)
   (some true) :=
  (loopB_eq (P := PP) (T := TT) (C := CF) [1, 1, 0, 1, 0, 0] [1, 1, 0, 1, 0, 0] 33 0 ⟨[(0, ⟨(.list (.int .i64)), x0⟩), (1, ⟨(.list (.int .i64)), x1⟩), (5, ⟨(.int .i64), x2⟩)], []⟩ (blockK 0 (seqK false [1, 1, 1] (BF 33 0 [1, 1, 1]) (finF 33 .bool [] 0)))).trans (by kernel_rfl)
theorem base_Cut.eq (a0 : den .str) (a1 : den (.int .i64)) : base_Cut a0 a1 =
  br (andB (leI (0 : Int) (0 : Int)) (andB (leI (0 : Int) (minI (ofN (lenS a0)) a1)) (leI (minI (ofN (lenS a0)) a1) (ofN (lenS a0))))) (some (subS a0 (toN (0 : Int)) (toN (minI (ofN (lenS a0)) a1)))) none :=
  (callW_eq (P := PP) (T := TT) (pr := RR) 21 [⟨.str, a0⟩, ⟨(.int .i64), a1⟩] [] .str []).trans (by kernel_rfl)
theorem law07_Few.eq (a0 : den (.list tapiPair)) : law07_Few a0 =
  law07_Few.l0 a0 (0 : Int) [] :=
  (callW_eq (P := PP) (T := TT) (pr := RR) 22 [⟨(.list tapiPair), a0⟩] [] (.list tapiPair) []).trans (by kernel_rfl)
theorem law07_Few.l0.eq (x0 : den (.list tapiPair)) (x1 : den (.int .i64)) (x2 : denO (.row 43 tapiPair false)) : law07_Few.l0 x0 x1 x2 =
  br (ltI x1 (ofN (lenL tapiPair x0)))
   (law07_Few.j1 x0 x1 (ltI x1 (40 : Int)) x2)
   (law07_Few.j1 x0 x1 false x2) :=
  (loopB_eq (P := PP) (T := TT) (C := CF) [1, 1, 0, 1, 0, 0] [1, 1, 0, 1, 0, 0] 22 0 ⟨[(0, ⟨(.list tapiPair), x0⟩), (3, ⟨(.own tapiPair 0), ()⟩), (4, ⟨(.int .i64), x1⟩)], [⟨(.row 43 tapiPair false), x2⟩]⟩ (blockK 0 (seqK false [1, 1, 1] (BF 22 0 [1, 1, 1]) (finF 22 (.list tapiPair) [] 0)))).trans (by kernel_rfl)
theorem law07_Few.j1.eq (x0 : den (.list tapiPair)) (x1 : den (.int .i64)) (x2 : den .bool) (x3 : denO (.row 43 tapiPair false)) : law07_Few.j1 x0 x1 x2 x3 =
  br x2
   (br (andB (leI (0 : Int) x1) (ltI x1 (ofN (lenL tapiPair x0)))) (br (andB (leI (0 : Int) x1) (ltI x1 (ofN (lenL tapiPair x0)))) (bnd (base_Cut (ixL tapiPair x0 x1).1 (40 : Int)) fun r0 =>
   bnd (base_Cut (ixL tapiPair x0 x1).2.1 (40 : Int)) fun r1 =>
   br (fitL tapiPair (appL tapiPair x3 ((r0, (r1, ())) :: []))) (law07_Few.l0 x0 (addI .i64 x1 (1 : Int)) (appL tapiPair x3 ((r0, (r1, ())) :: []))) none) none) none)
   (some x3) :=
  (congrFun (congrFun (jnO_eq [1, 1, 0, 1, 0, 0, 0, 1] (BF (R := den (.list tapiPair)) 22 0 [1, 1, 0, 1, 0, 0, 0, 1])) ⟨[(0, ⟨(.list tapiPair), x0⟩), (3, ⟨(.own tapiPair 0), ()⟩), (4, ⟨(.int .i64), x1⟩), (13, ⟨.bool, x2⟩)], [⟨(.row 43 tapiPair false), x3⟩]⟩) (seqK false [1, 1, 0, 1, 0, 0, 1] (BF 22 0 [1, 1, 0, 1, 0, 0, 1]) (againK [1, 1, 0, 1, 0, 0] (loopW [1, 1, 0, 1, 0, 0] (BF 22 0 [1, 1, 0, 1, 0, 0])) (blockK 0 (seqK false [1, 1, 1] (BF 22 0 [1, 1, 1]) (finF 22 (.list tapiPair) [] 0)))))).trans (by kernel_rfl)
theorem node_Copy.eq (a0 : den tapiNode) : node_Copy a0 =
  bnd (slices_Cloneapi_Ref_api_Ref a0.2.2.2.2.1) fun r0 =>
  bnd (slices_Cloneapi_Pair_api_Pair a0.2.2.2.2.2.2.1) fun r1 =>
  some ((a0.1, (a0.2.1, (a0.2.2.1, (a0.2.2.2.1, ((), (a0.2.2.2.2.2.1, ((), a0.2.2.2.2.2.2.2))))))), (r0.2.1, (r1.2.1, ()))) :=
  (callW_eq (P := PP) (T := TT) (pr := RR) 31 [⟨tapiNode, a0⟩] [] (.pair (.int .i64) (.pair .str (.pair .str (.pair (.int .u32) (.pair (.own (.int .i64) 0) (.pair (.int .i64) (.pair (.own tapiPair 1) (.pair (.int .i64) (.pair (.int .i64) .unit))))))))) [(.row 24 (.int .i64) false), (.row 43 tapiPair false)]).trans (by kernel_rfl)
theorem ref_Which.eq (a0 : den (.int .i64)) : ref_Which a0 =
  bnd (ref_Kind a0) fun r0 =>
  br (notB (eqI r0 (2 : Int)))
   (some ((0 : Int), (false, ())))
   (some ((subI .i64 (-1 : Int) a0), (true, ()))) :=
  (callW_eq (P := PP) (T := TT) (pr := RR) 101 [⟨(.int .i64), a0⟩] [] (.tcons (.int .i64) (.tcons .bool .tnil)) []).trans (by kernel_rfl)
theorem ref07_Same.eq (a0 : den (.list tapiPair)) (a1 : den (.list tapiPair)) : ref07_Same a0 a1 =
  br (notB (eqI (ofN (lenL tapiPair a0)) (ofN (lenL tapiPair a1))))
   (some false)
   (ref07_Same.l0 a0 a1 (0 : Int)) :=
  (callW_eq (P := PP) (T := TT) (pr := RR) 36 [⟨(.list tapiPair), a0⟩, ⟨(.list tapiPair), a1⟩] [] .bool []).trans (by kernel_rfl)
theorem ref07_Same.l0.eq (x0 : den (.list tapiPair)) (x1 : den (.list tapiPair)) (x2 : den (.int .i64)) : ref07_Same.l0 x0 x1 x2 =
  br (ltI x2 (ofN (lenL tapiPair x0)))
   (br (andB (leI (0 : Int) x2) (ltI x2 (ofN (lenL tapiPair x0)))) (br (andB (leI (0 : Int) x2) (ltI x2 (ofN (lenL tapiPair x1)))) (br (notB (andB (eqS (ixL tapiPair x0 x2).1 (ixL tapiPair x1 x2).1) (andB (eqS (ixL tapiPair x0 x2).2.1 (ixL tapiPair x1 x2).2.1) true)))
    (some false)
    (ref07_Same.l0 x0 x1 (addI .i64 x2 (1 : Int)))) none) none)
   (some true) :=
  (loopB_eq (P := PP) (T := TT) (C := CF) [1, 1, 0, 1, 0, 0] [1, 1, 0, 1, 0, 0] 36 0 ⟨[(0, ⟨(.list tapiPair), x0⟩), (1, ⟨(.list tapiPair), x1⟩), (5, ⟨(.int .i64), x2⟩)], []⟩ (blockK 0 (seqK false [1, 1, 1] (BF 36 0 [1, 1, 1]) (finF 36 .bool [] 0)))).trans (by kernel_rfl)
theorem node_Leaf.eq (a0 : den .str) (a1 : den .str) : node_Leaf a0 a1 =
  some ((1 : Int), (a0, (a1, ((0 : Int), ([], ((0 : Int), ([], ((1 : Int), ((0 : Int), ()))))))))) :=
  (callW_eq (P := PP) (T := TT) (pr := RR) 24 [⟨.str, a0⟩, ⟨.str, a1⟩] [] tapiNode []).trans (by kernel_rfl)
theorem ref13_Refs.eq (a0 : den tapiNode) : ref13_Refs a0 =
  ref13_Refs.l0 (0 : Int) a0 [] :=
  (callW_eq (P := PP) (T := TT) (pr := RR) 35 [⟨tapiNode, a0⟩] [] (.list (.int .i64)) []).trans (by kernel_rfl)
theorem ref13_Refs.l0.eq (x0 : den (.int .i64)) (x1 : denO (.box tapiNode)) (x2 : denO (.row 24 (.int .i64) false)) : ref13_Refs.l0 x0 x1 x2 =
  br (ltI x0 (ofN (lenL (.int .i64) x1.2.2.2.2.1)))
   (br (andB (leI (0 : Int) x0) (ltI x0 (ofN (lenL (.int .i64) x1.2.2.2.2.1)))) (br (notB (eqI (ixL (.int .i64) x1.2.2.2.2.1 x0) (0 : Int)))
    (br (andB (leI (0 : Int) x0) (ltI x0 (ofN (lenL (.int .i64) x1.2.2.2.2.1)))) (br (fitL (.int .i64) (appL (.int .i64) x2 ((ixL (.int .i64) x1.2.2.2.2.1 x0) :: []))) (ref13_Refs.l0 (addI .i64 x0 (1 : Int)) x1 (appL (.int .i64) x2 ((ixL (.int .i64) x1.2.2.2.2.1 x0) :: []))) none) none)
    (ref13_Refs.l0 (addI .i64 x0 (1 : Int)) x1 x2)) none)
   (br (notB (eqI x1.2.2.2.2.2.1 (0 : Int)))
    (br (fitL (.int .i64) (appL (.int .i64) x2 (x1.2.2.2.2.2.1 :: []))) (some (appL (.int .i64) x2 (x1.2.2.2.2.2.1 :: []))) none)
    (some x2)) :=
  (loopB_eq (P := PP) (T := TT) (C := CF) [1, 1, 0, 1, 0, 0] [1, 1, 0, 1, 0, 0] 35 0 ⟨[(1, ⟨(.ptr 0 0), ()⟩), (3, ⟨(.own (.int .i64) 1), ()⟩), (4, ⟨(.int .i64), x0⟩)], [⟨(.box tapiNode), x1⟩, ⟨(.row 24 (.int .i64) false), x2⟩]⟩ (blockK 0 (seqK false [1, 1, 1] (BF 35 0 [1, 1, 1]) (finF 35 (.list (.int .i64)) [] 0)))).trans (by kernel_rfl)
theorem heap_May.eq (a0 : den (.list tapiNode)) : heap_May a0 =
  heap_May.l0 a0 (ofN (lenL tapiNode a0)) (0 : Int) :=
  (callW_eq (P := PP) (T := TT) (pr := RR) 51 [⟨(.list tapiNode), a0⟩] [] (.int .i64) []).trans (by kernel_rfl)
theorem heap_May.l0.eq (x0 : den (.list tapiNode)) (x1 : den (.int .i64)) (x2 : den (.int .i64)) : heap_May.l0 x0 x1 x2 =
  br (ltI x2 x1)
   (br (andB (leI (0 : Int) x2) (ltI x2 (ofN (lenL tapiNode x0)))) (bnd (node_May (ixL tapiNode x0 x2)) fun r0 =>
   br (notB (eqI r0 (0 : Int)))
    (some (4 : Int))
    (bnd (node_Refs (ixL tapiNode x0 x2)) fun r1 =>
    heap_May.l1 x2 x0 x1 x2 r1 (ofN (lenL (.int .i64) r1)) (0 : Int))) none)
   (some (0 : Int)) :=
  (loopB_eq (P := PP) (T := TT) (C := CF) [1, 0, 1, 0, 0] [1, 0, 1, 0, 0] 51 0 ⟨[(7, ⟨(.list tapiNode), x0⟩), (8, ⟨(.int .i64), x1⟩), (9, ⟨(.int .i64), x2⟩)], []⟩ (blockK 0 (seqK false [1, 1] (BF 51 0 [1, 1]) (finF 51 (.int .i64) [] 0)))).trans (by kernel_rfl)
theorem heap_May.l1.eq (x0 : den (.int .i64)) (x1 : den (.list tapiNode)) (x2 : den (.int .i64)) (x3 : den (.int .i64)) (x4 : den (.list (.int .i64))) (x5 : den (.int .i64)) (x6 : den (.int .i64)) : heap_May.l1 x0 x1 x2 x3 x4 x5 x6 =
  br (ltI x6 x5)
   (br (andB (leI (0 : Int) x6) (ltI x6 (ofN (lenL (.int .i64) x4)))) (br (ltI (ixL (.int .i64) x4 x6) (1 : Int))
    (some (4 : Int))
    (br (ltI x0 (ixL (.int .i64) x4 x6))
     (some (4 : Int))
     (heap_May.l1 x0 x1 x2 x3 x4 x5 (addI .i64 x6 (1 : Int))))) none)
   (heap_May.l0 x1 x2 (addI .i64 x3 (1 : Int))) :=
  (loopB_eq (P := PP) (T := TT) (C := CF) [1, 0, 1, 0, 0, 1, 1, 0, 0, 1, 1, 1, 0, 0] [1, 0, 1, 0, 0, 1, 1, 0, 0, 1, 1, 1, 0, 0] 51 0 ⟨[(3, ⟨(.int .i64), x0⟩), (7, ⟨(.list tapiNode), x1⟩), (8, ⟨(.int .i64), x2⟩), (9, ⟨(.int .i64), x3⟩), (18, ⟨(.list (.int .i64)), x4⟩), (19, ⟨(.int .i64), x5⟩), (20, ⟨(.int .i64), x6⟩)], []⟩ (blockK 2 (blockK 1 (seqK false [1, 0, 1, 0, 0, 1, 1, 1] (BF 51 0 [1, 0, 1, 0, 0, 1, 1, 1]) (againK [1, 0, 1, 0, 0] (loopW [1, 0, 1, 0, 0] (BF 51 0 [1, 0, 1, 0, 0])) (blockK 0 (seqK false [1, 1] (BF 51 0 [1, 1]) (finF 51 (.int .i64) [] 0)))))))).trans (by kernel_rfl)
theorem plan_fits.eq (a0 : den (.list tapiNode)) (a1 : den tboscageref18Plan) : plan_fits a0 a1 =
  both
   (bnd (slices_Cloneapi_Ref_api_Ref a1.2.2.1) fun r0 =>
   br (fitL (.int .i64) (appL (.int .i64) r0.2.1 (a1.2.1 :: []))) (plan_fits.l0 a1.1 (ofN (lenL tapiNode a1.1)) (0 : Int) a0 (appL (.int .i64) r0.2.1 (a1.2.1 :: []))) none)
   (bnd (slices_Cloneapi_Ref_api_Ref a1.2.2.1) fun r1 =>
   br (fitL (.int .i64) (appL (.int .i64) r1.2.1 (a1.2.1 :: []))) (plan_fits.l0 a1.1 (ofN (lenL tapiNode a1.1)) (0 : Int) a0 (appL (.int .i64) r1.2.1 (a1.2.1 :: []))) none) :=
  (callW_eq (P := PP) (T := TT) (pr := RR) 102 [⟨(.list tapiNode), a0⟩, ⟨tboscageref18Plan, a1⟩] [] .bool []).trans (by kernel_rfl)
theorem plan_fits.l0.eq (x0 : den (.list tapiNode)) (x1 : den (.int .i64)) (x2 : den (.int .i64)) (x3 : denO (.box (.list tapiNode))) (x4 : denO (.row 24 (.int .i64) false)) : plan_fits.l0 x0 x1 x2 x3 x4 =
  br (ltI x2 x1)
   (br (andB (leI (0 : Int) x2) (ltI x2 (ofN (lenL tapiNode x0)))) (bnd (node_Refs (ixL tapiNode x0 x2)) fun r0 =>
   br (fitL (.int .i64) (appL (.int .i64) x4 r0)) (plan_fits.l0 x0 x1 (addI .i64 x2 (1 : Int)) x3 (appL (.int .i64) x4 r0)) none) none)
   (bnd (slices_ContainsFuncapi_Ref_api_Ref_v2 x4 ((), ()) x3) fun r1 =>
   some (notB r1.1)) :=
  (loopB_eq (P := PP) (T := TT) (C := CF) [1, 1, 0, 1, 0, 0] [1, 1, 0, 1, 0, 0] 102 0 ⟨[(2, ⟨(.ptr 0 0), ()⟩), (5, ⟨(.own (.int .i64) 1), ()⟩), (16, ⟨(.list tapiNode), x0⟩), (17, ⟨(.int .i64), x1⟩), (18, ⟨(.int .i64), x2⟩)], [⟨(.box (.list tapiNode)), x3⟩, ⟨(.row 24 (.int .i64) false), x4⟩]⟩ (blockK 0 (seqK false [1, 1, 1] (BF 102 0 [1, 1, 1]) (finF 102 .bool [] 0)))).trans (by kernel_rfl)
theorem ref17_May.eq (a0 : den (.list tapiNode)) : ref17_May a0 =
  ref17_May.l0 a0 (0 : Int) :=
  (callW_eq (P := PP) (T := TT) (pr := RR) 52 [⟨(.list tapiNode), a0⟩] [] .bool []).trans (by kernel_rfl)
theorem ref17_May.l0.eq (x0 : den (.list tapiNode)) (x1 : den (.int .i64)) : ref17_May.l0 x0 x1 =
  br (ltI x1 (ofN (lenL tapiNode x0)))
   (br (andB (leI (0 : Int) x1) (ltI x1 (ofN (lenL tapiNode x0)))) (bnd (ref13_Refs (ixL tapiNode x0 x1)) fun r0 =>
   ref17_May.l1 x0 x1 r0 (0 : Int)) none)
   (some true) :=
  (loopB_eq (P := PP) (T := TT) (C := CF) [1, 0, 1, 0, 0] [1, 0, 1, 0, 0] 52 0 ⟨[(0, ⟨(.list tapiNode), x0⟩), (3, ⟨(.int .i64), x1⟩)], []⟩ (blockK 0 (seqK false [1, 1] (BF 52 0 [1, 1]) (finF 52 .bool [] 0)))).trans (by kernel_rfl)
theorem ref17_May.l1.eq (x0 : den (.list tapiNode)) (x1 : den (.int .i64)) (x2 : den (.list (.int .i64))) (x3 : den (.int .i64)) : ref17_May.l1 x0 x1 x2 x3 =
  br (ltI x3 (ofN (lenL (.int .i64) x2)))
   (br (andB (leI (0 : Int) x3) (ltI x3 (ofN (lenL (.int .i64) x2)))) (br (ltI (ixL (.int .i64) x2 x3) (1 : Int))
    (some false)
    (br (andB (leI (0 : Int) x3) (ltI x3 (ofN (lenL (.int .i64) x2)))) (br (ltI x1 (ixL (.int .i64) x2 x3))
     (some false)
     (ref17_May.l1 x0 x1 x2 (addI .i64 x3 (1 : Int)))) none)) none)
   (br (andB (leI (0 : Int) x1) (ltI x1 (ofN (lenL tapiNode x0)))) (bnd (ref13_May (ixL tapiNode x0 x1)) fun r0 =>
   br (notB (eqI r0 (0 : Int)))
    (some false)
    (ref17_May.l0 x0 (addI .i64 x1 (1 : Int)))) none) :=
  (loopB_eq (P := PP) (T := TT) (C := CF) [1, 0, 1, 0, 0, 1, 0, 0, 1, 0, 1, 0, 0] [1, 0, 1, 0, 0, 1, 0, 0, 1, 0, 1, 0, 0] 52 0 ⟨[(0, ⟨(.list tapiNode), x0⟩), (3, ⟨(.int .i64), x1⟩), (4, ⟨(.list (.int .i64)), x2⟩), (5, ⟨(.int .i64), x3⟩)], []⟩ (blockK 2 (seqK false [1, 0, 1, 0, 0, 1, 0, 0, 1, 1] (BF 52 0 [1, 0, 1, 0, 0, 1, 0, 0, 1, 1]) (blockK 1 (seqK false [1, 0, 1, 0, 0, 1, 1] (BF 52 0 [1, 0, 1, 0, 0, 1, 1]) (againK [1, 0, 1, 0, 0] (loopW [1, 0, 1, 0, 0] (BF 52 0 [1, 0, 1, 0, 0])) (blockK 0 (seqK false [1, 1] (BF 52 0 [1, 1]) (finF 52 .bool [] 0))))))))).trans (by kernel_rfl)
theorem slices_Cloneapi_Node_api_Node.eq (a0 : den (.list tapiNode)) : slices_Cloneapi_Node_api_Node a0 =
  br (eqI (ofN (lenL tapiNode a0)) (0 : Int))
   (both
    (some ((), ([], ())))
    (br (fitL tapiNode (appL tapiNode [] a0)) (some ((), ((appL tapiNode [] a0), ()))) none))
   (br (fitL tapiNode (appL tapiNode [] a0)) (some ((), ((appL tapiNode [] a0), ()))) none) :=
  (callW_eq (P := PP) (T := TT) (pr := RR) 103 [⟨(.list tapiNode), a0⟩] [] (.own tapiNode 0) [(.row 27 tapiNode false)]).trans (by kernel_rfl)
theorem ref_New.eq (a0 : den (.int .i64)) : ref_New a0 =
  br (ltI a0 (0 : Int))
   (some (0 : Int))
   (some (subI .i64 (-1 : Int) a0)) :=
  (callW_eq (P := PP) (T := TT) (pr := RR) 104 [⟨(.int .i64), a0⟩] [] (.int .i64) []).trans (by kernel_rfl)
theorem node_May.eq (a0 : den tapiNode) : node_May a0 =
  bnd (node_formed a0) fun r0 =>
  br (ltI a0.1 (1 : Int))
   (some (11 : Int))
   (br (ltI (6 : Int) a0.1)
    (some (11 : Int))
    (bnd (node_long a0) fun r1 =>
    br r1
     (some (6 : Int))
     (bnd (node_Same a0 (r0.1, (r0.2.1, (r0.2.2.1, (r0.2.2.2.1, (r0.2.2.2.2.1, (r0.2.2.2.2.2.1, (r0.2.2.2.2.2.2.1, (r0.2.2.2.2.2.2.2.1, ((maxI a0.2.2.2.2.2.2.2.2.1 (0 : Int)), ())))))))))) fun r2 =>
     br (notB r2)
      (some (4 : Int))
      (bnd (node_whole a0) fun r3 =>
      br (notB r3)
       (some (4 : Int))
       (some (0 : Int)))))) :=
  (callW_eq (P := PP) (T := TT) (pr := RR) 18 [⟨tapiNode, a0⟩] [] (.int .i64) []).trans (by kernel_rfl)
theorem node_Refs.eq (a0 : den tapiNode) : node_Refs a0 =
  both
   (bnd (slices_Cloneapi_Ref_api_Ref a0.2.2.2.2.1) fun r0 =>
   br (fitL (.int .i64) (appL (.int .i64) r0.2.1 (a0.2.2.2.2.2.1 :: []))) (node_Refs.l0 (ofN (lenL (.int .i64) (appL (.int .i64) r0.2.1 (a0.2.2.2.2.2.1 :: [])))) (0 : Int) [] (appL (.int .i64) r0.2.1 (a0.2.2.2.2.2.1 :: []))) none)
   (bnd (slices_Cloneapi_Ref_api_Ref a0.2.2.2.2.1) fun r1 =>
   br (fitL (.int .i64) (appL (.int .i64) r1.2.1 (a0.2.2.2.2.2.1 :: []))) (node_Refs.l0 (ofN (lenL (.int .i64) (appL (.int .i64) r1.2.1 (a0.2.2.2.2.2.1 :: [])))) (0 : Int) [] (appL (.int .i64) r1.2.1 (a0.2.2.2.2.2.1 :: []))) none) :=
  (callW_eq (P := PP) (T := TT) (pr := RR) 34 [⟨tapiNode, a0⟩] [] (.list (.int .i64)) []).trans (by kernel_rfl)
theorem node_Refs.l0.eq (x0 : den (.int .i64)) (x1 : den (.int .i64)) (x2 : denO (.row 24 (.int .i64) false)) (x3 : denO (.row 24 (.int .i64) false)) : node_Refs.l0 x0 x1 x2 x3 =
  br (ltI x1 x0)
   (br (andB (leI (0 : Int) x1) (ltI x1 (ofN (lenL (.int .i64) x3)))) (br (notB (eqI (ixL (.int .i64) x3 x1) (0 : Int)))
    (br (fitL (.int .i64) (appL (.int .i64) x2 ((ixL (.int .i64) x3 x1) :: []))) (node_Refs.l0 x0 (addI .i64 x1 (1 : Int)) (appL (.int .i64) x2 ((ixL (.int .i64) x3 x1) :: [])) x3) none)
    (node_Refs.l0 x0 (addI .i64 x1 (1 : Int)) x2 x3)) none)
   (some x2) :=
  (loopB_eq (P := PP) (T := TT) (C := CF) [1, 1, 0, 1, 0, 0] [1, 1, 0, 1, 0, 0] 34 0 ⟨[(3, ⟨(.own (.int .i64) 0), ()⟩), (12, ⟨(.own (.int .i64) 1), ()⟩), (13, ⟨(.int .i64), x0⟩), (14, ⟨(.int .i64), x1⟩)], [⟨(.row 24 (.int .i64) false), x2⟩, ⟨(.row 24 (.int .i64) false), x3⟩]⟩ (blockK 0 (seqK false [1, 1, 1] (BF 34 0 [1, 1, 1]) (finF 34 (.list (.int .i64)) [] 0)))).trans (by kernel_rfl)
theorem slices_ContainsFuncapi_Ref_api_Ref.eq (a0 : den (.list (.int .i64))) (a1 : den (.fn 106 (.tcons (.ptr 0 0) .tnil))) (a2 : denO (.box (.int .i64))) : slices_ContainsFuncapi_Ref_api_Ref a0 a1 a2 =
  bnd (slices_IndexFuncapi_Ref_api_Ref a0 ((), ()) a2) fun r0 =>
  some ((leI (0 : Int) r0.1), (r0.2.1, ())) :=
  (callW_eq (P := PP) (T := TT) (pr := RR) 105 [⟨(.list (.int .i64)), a0⟩, ⟨(.fn 106 (.tcons (.ptr 0 0) .tnil)), a1⟩] [⟨(.box (.int .i64)), a2⟩] .bool [(.box (.int .i64))]).trans (by kernel_rfl)
theorem plan_ahead.eq (a0 : den (.int .i64)) (a1 : den (.int .i64)) : plan_ahead a0 a1 =
  bnd (ref_Which a0) fun r0 =>
  br (notB r0.2.1)
   (some true)
   (some (ltI r0.1 a1)) :=
  (callW_eq (P := PP) (T := TT) (pr := RR) 107 [⟨(.int .i64), a0⟩, ⟨(.int .i64), a1⟩] [] .bool []).trans (by kernel_rfl)
theorem slices_ContainsFuncapi_Ref_api_Ref_v1.eq (a0 : den (.list (.int .i64))) : slices_ContainsFuncapi_Ref_api_Ref_v1 a0 =
  bnd (slices_IndexFuncapi_Ref_api_Ref_v1 a0) fun r0 =>
  some (leI (0 : Int) r0) :=
  (callW_eq (P := PP) (T := TT) (pr := RR) 105 [⟨(.list (.int .i64)), a0⟩, ⟨(.fn 108 .tnil), ()⟩] [] .bool []).trans (by kernel_rfl)
theorem ref13_May.eq (a0 : den tapiNode) : ref13_May a0 =
  br (ltI a0.1 (1 : Int))
   (some (11 : Int))
   (br (ltI (6 : Int) a0.1)
    (some (11 : Int))
    (bnd (ref13_long a0) fun r0 =>
    br r0
     (some (6 : Int))
     (bnd (ref13_form a0) fun r1 =>
     br (notB r1)
      (some (4 : Int))
      (some (0 : Int))))) :=
  (callW_eq (P := PP) (T := TT) (pr := RR) 19 [⟨tapiNode, a0⟩] [] (.int .i64) []).trans (by kernel_rfl)
theorem slices_Cloneapi_Ref_api_Ref.eq (a0 : den (.list (.int .i64))) : slices_Cloneapi_Ref_api_Ref a0 =
  br (eqI (ofN (lenL (.int .i64) a0)) (0 : Int))
   (both
    (some ((), ([], ())))
    (br (fitL (.int .i64) (appL (.int .i64) [] a0)) (some ((), ((appL (.int .i64) [] a0), ()))) none))
   (br (fitL (.int .i64) (appL (.int .i64) [] a0)) (some ((), ((appL (.int .i64) [] a0), ()))) none) :=
  (callW_eq (P := PP) (T := TT) (pr := RR) 84 [⟨(.list (.int .i64)), a0⟩] [] (.own (.int .i64) 0) [(.row 24 (.int .i64) false)]).trans (by kernel_rfl)
theorem slices_Cloneapi_Pair_api_Pair.eq (a0 : den (.list tapiPair)) : slices_Cloneapi_Pair_api_Pair a0 =
  br (eqI (ofN (lenL tapiPair a0)) (0 : Int))
   (both
    (some ((), ([], ())))
    (br (fitL tapiPair (appL tapiPair [] a0)) (some ((), ((appL tapiPair [] a0), ()))) none))
   (br (fitL tapiPair (appL tapiPair [] a0)) (some ((), ((appL tapiPair [] a0), ()))) none) :=
  (callW_eq (P := PP) (T := TT) (pr := RR) 85 [⟨(.list tapiPair), a0⟩] [] (.own tapiPair 0) [(.row 43 tapiPair false)]).trans (by kernel_rfl)
theorem ref_Kind.eq (a0 : den (.int .i64)) : ref_Kind a0 =
  br (eqI a0 (0 : Int))
   (some (0 : Int))
   (br (ltI a0 (0 : Int))
    (some (2 : Int))
    (br (notB (eqI (1024 : Int) (0 : Int))) (br (notB (eqI (1024 : Int) (0 : Int))) (bnd (ref_Make (remI a0 (1024 : Int)) (quoI .i64 a0 (1024 : Int))) fun r0 =>
    br (notB (eqI r0.2.1 (0 : Int)))
     (some (3 : Int))
     (some (1 : Int))) none) none)) :=
  (callW_eq (P := PP) (T := TT) (pr := RR) 125 [⟨(.int .i64), a0⟩] [] (.int .i64) []).trans (by kernel_rfl)
theorem slices_ContainsFuncapi_Ref_api_Ref_v2.eq (a0 : den (.list (.int .i64))) (a1 : den (.fn 126 (.tcons (.ptr 0 0) .tnil))) (a2 : denO (.box (.list tapiNode))) : slices_ContainsFuncapi_Ref_api_Ref_v2 a0 a1 a2 =
  bnd (slices_IndexFuncapi_Ref_api_Ref_v2 a0 ((), ()) a2) fun r0 =>
  some ((leI (0 : Int) r0.1), (r0.2.1, ())) :=
  (callW_eq (P := PP) (T := TT) (pr := RR) 105 [⟨(.list (.int .i64)), a0⟩, ⟨(.fn 126 (.tcons (.ptr 0 0) .tnil)), a1⟩] [⟨(.box (.list tapiNode)), a2⟩] .bool [(.box (.list tapiNode))]).trans (by kernel_rfl)
theorem node_formed.eq (a0 : den tapiNode) : node_formed a0 =
  br (eqI a0.1 (1 : Int))
   (bnd (node_Leaf a0.2.1 a0.2.2.1) fun r0 =>
   some r0)
   (br (eqI a0.1 (6 : Int))
    (bnd (node_Tomb a0.2.1 a0.2.2.1) fun r1 =>
    some r1)
    (br (eqI a0.1 (2 : Int))
     (bnd (node_Branch a0.2.2.2.1 a0.2.2.2.2.1 (maxI a0.2.2.2.2.2.2.2.1 (0 : Int))) fun r2 =>
     some r2)
     (br (eqI a0.1 (3 : Int))
      (bnd (node_Bucket a0.2.2.2.2.2.2.1) fun r3 =>
      some r3)
      (br (eqI a0.1 (4 : Int))
       (br (eqI (ofN (lenL (.int .i64) a0.2.2.2.2.1)) (2 : Int))
        (br (andB (leI (0 : Int) (0 : Int)) (ltI (0 : Int) (ofN (lenL (.int .i64) a0.2.2.2.2.1)))) (br (andB (leI (0 : Int) (1 : Int)) (ltI (1 : Int) (ofN (lenL (.int .i64) a0.2.2.2.2.1)))) (bnd (node_Tree a0.2.1 a0.2.2.1 (ixL (.int .i64) a0.2.2.2.2.1 (0 : Int)) (ixL (.int .i64) a0.2.2.2.2.1 (1 : Int)) (maxI a0.2.2.2.2.2.2.2.1 (1 : Int))) fun r4 =>
        some r4) none) none)
        (some ((0 : Int), (ByteArray.empty, (ByteArray.empty, ((0 : Int), ([], ((0 : Int), ([], ((0 : Int), ((0 : Int), ())))))))))))
       (br (eqI a0.1 (5 : Int))
        (bnd (node_Inner a0.2.2.2.2.2.1) fun r5 =>
        some r5)
        (some ((0 : Int), (ByteArray.empty, (ByteArray.empty, ((0 : Int), ([], ((0 : Int), ([], ((0 : Int), ((0 : Int), ()))))))))))))))) :=
  (callW_eq (P := PP) (T := TT) (pr := RR) 76 [⟨tapiNode, a0⟩] [] tapiNode []).trans (by kernel_rfl)
theorem node_long.eq (a0 : den tapiNode) : node_long a0 =
  bnd (node_long_1 (a0.2.1, (a0.2.2.1, ()))) fun r0 =>
  br r0
   (some true)
   (bnd (slices_ContainsFuncapi_Pair_api_Pair a0.2.2.2.2.2.2.1) fun r1 =>
   some r1) :=
  (callW_eq (P := PP) (T := TT) (pr := RR) 77 [⟨tapiNode, a0⟩] [] .bool []).trans (by kernel_rfl)
theorem node_Same.eq (a0 : den tapiNode) (a1 : den tapiNode) : node_Same a0 a1 =
  br (eqI a0.1 a1.1)
   (br (eqS a0.2.1 a1.2.1)
    (br (eqS a0.2.2.1 a1.2.2.1)
     (node_Same.j0 (eqI a0.2.2.2.1 a1.2.2.2.1) a0 a1)
     (node_Same.j0 false a0 a1))
    (node_Same.j0 false a0 a1))
   (node_Same.j0 false a0 a1) :=
  (callW_eq (P := PP) (T := TT) (pr := RR) 32 [⟨tapiNode, a0⟩, ⟨tapiNode, a1⟩] [] .bool []).trans (by kernel_rfl)
theorem node_Same.j0.eq (x0 : den .bool) (x1 : denO (.box tapiNode)) (x2 : denO (.box tapiNode)) : node_Same.j0 x0 x1 x2 =
  br x0
   (br (eqI x1.2.2.2.2.2.1 x2.2.2.2.2.2.1)
    (br (eqI x1.2.2.2.2.2.2.2.1 x2.2.2.2.2.2.2.2.1)
     (br (eqI x1.2.2.2.2.2.2.2.2.1 x2.2.2.2.2.2.2.2.2.1)
      (bnd (slices_Equalapi_Ref_api_Ref x1.2.2.2.2.1 x2.2.2.2.2.1) fun r0 =>
      br r0
       (bnd (slices_Equalapi_Pair_api_Pair x1.2.2.2.2.2.2.1 x2.2.2.2.2.2.2.1) fun r1 =>
       some r1)
       (some false))
      (some false))
     (some false))
    (some false))
   (some false) :=
  (congrFun (congrFun (jnO_eq [1, 1] (BF (R := den .bool) 32 0 [1, 1])) ⟨[(2, ⟨(.ptr 0 0), ()⟩), (3, ⟨(.ptr 1 0), ()⟩), (5, ⟨.bool, x0⟩)], [⟨(.box tapiNode), x1⟩, ⟨(.box tapiNode), x2⟩]⟩) (finF 32 .bool [] 0)).trans (by kernel_rfl)
theorem node_whole.eq (a0 : den tapiNode) : node_whole a0 =
  br (eqI a0.1 (2 : Int))
   (bnd (mask_Count a0.2.2.2.1) fun r0 =>
   br (eqI (ofN (lenL (.int .i64) a0.2.2.2.2.1)) r0)
    (bnd (slices_Containsapi_Ref_api_Ref a0.2.2.2.2.1 (0 : Int)) fun r1 =>
    some (notB r1))
    (some false))
   (br (eqI a0.1 (3 : Int))
    (br (leI (2 : Int) (ofN (lenL tapiPair a0.2.2.2.2.2.2.1)))
     (bnd (pair_Is a0.2.2.2.2.2.2.1) fun r2 =>
     some r2)
     (some false))
    (br (eqI a0.1 (5 : Int))
     (some (notB (eqI a0.2.2.2.2.2.1 (0 : Int))))
     (some true))) :=
  (callW_eq (P := PP) (T := TT) (pr := RR) 78 [⟨tapiNode, a0⟩] [] .bool []).trans (by kernel_rfl)
theorem slices_IndexFuncapi_Ref_api_Ref.eq (a0 : den (.list (.int .i64))) (a1 : den (.fn 106 (.tcons (.ptr 0 0) .tnil))) (a2 : denO (.box (.int .i64))) : slices_IndexFuncapi_Ref_api_Ref a0 a1 a2 =
  slices_IndexFuncapi_Ref_api_Ref.l0 a0 ((), ()) (ofN (lenL (.int .i64) a0)) (0 : Int) a2 :=
  (callW_eq (P := PP) (T := TT) (pr := RR) 128 [⟨(.list (.int .i64)), a0⟩, ⟨(.fn 106 (.tcons (.ptr 0 0) .tnil)), a1⟩] [⟨(.box (.int .i64)), a2⟩] (.int .i64) [(.box (.int .i64))]).trans (by kernel_rfl)
theorem slices_IndexFuncapi_Ref_api_Ref.l0.eq (x0 : den (.list (.int .i64))) (x1 : den (.fn 106 (.tcons (.ptr 0 0) .tnil))) (x2 : den (.int .i64)) (x3 : den (.int .i64)) (x4 : denO (.box (.int .i64))) : slices_IndexFuncapi_Ref_api_Ref.l0 x0 x1 x2 x3 x4 =
  br (ltI x3 x2)
   (br (andB (leI (0 : Int) x3) (ltI x3 (ofN (lenL (.int .i64) x0)))) (bnd (plan_May_1 (ixL (.int .i64) x0 x3) x4) fun r0 =>
   br r0.1
    (some (x3, (r0.2.1, ())))
    (slices_IndexFuncapi_Ref_api_Ref.l0 x0 ((), ()) x2 (addI .i64 x3 (1 : Int)) r0.2.1)) none)
   (some ((-1 : Int), (x4, ()))) :=
  (loopB_eq (P := PP) (T := TT) (C := CF) [1, 0, 1, 0, 0] [1, 0, 1, 0, 0] 128 1 ⟨[(0, ⟨(.list (.int .i64)), x0⟩), (1, ⟨(.fn 106 (.tcons (.ptr 0 0) .tnil)), x1⟩), (7, ⟨(.int .i64), x2⟩), (8, ⟨(.int .i64), x3⟩)], [⟨(.box (.int .i64)), x4⟩]⟩ (blockK 0 (seqK false [1, 1] (BF 128 1 [1, 1]) (finF 128 (.int .i64) [(.box (.int .i64))] 1)))).trans (by kernel_rfl)
theorem slices_IndexFuncapi_Ref_api_Ref_v1.eq (a0 : den (.list (.int .i64))) : slices_IndexFuncapi_Ref_api_Ref_v1 a0 =
  slices_IndexFuncapi_Ref_api_Ref_v1.l0 a0 (ofN (lenL (.int .i64) a0)) (0 : Int) :=
  (callW_eq (P := PP) (T := TT) (pr := RR) 128 [⟨(.list (.int .i64)), a0⟩, ⟨(.fn 108 .tnil), ()⟩] [] (.int .i64) []).trans (by kernel_rfl)
theorem slices_IndexFuncapi_Ref_api_Ref_v1.l0.eq (x0 : den (.list (.int .i64))) (x1 : den (.int .i64)) (x2 : den (.int .i64)) : slices_IndexFuncapi_Ref_api_Ref_v1.l0 x0 x1 x2 =
  br (ltI x2 x1)
   (br (andB (leI (0 : Int) x2) (ltI x2 (ofN (lenL (.int .i64) x0)))) (bnd (plan_May_2 (ixL (.int .i64) x0 x2)) fun r0 =>
   br r0
    (some x2)
    (slices_IndexFuncapi_Ref_api_Ref_v1.l0 x0 x1 (addI .i64 x2 (1 : Int)))) none)
   (some (-1 : Int)) :=
  (loopB_eq (P := PP) (T := TT) (C := CF) [1, 0, 1, 0, 0] [1, 0, 1, 0, 0] 128 0 ⟨[(0, ⟨(.list (.int .i64)), x0⟩), (1, ⟨(.fn 108 .tnil), ()⟩), (7, ⟨(.int .i64), x1⟩), (8, ⟨(.int .i64), x2⟩)], []⟩ (blockK 0 (seqK false [1, 1] (BF 128 0 [1, 1]) (finF 128 (.int .i64) [] 0)))).trans (by kernel_rfl)
theorem ref13_long.eq (a0 : den tapiNode) : ref13_long a0 =
  br (ltI (16 : Int) (ofN (lenS a0.2.1)))
   (ref13_long.l0 true (0 : Int) a0)
   (ref13_long.l0 (ltI (16 : Int) (ofN (lenS a0.2.2.1))) (0 : Int) a0) :=
  (callW_eq (P := PP) (T := TT) (pr := RR) 79 [⟨tapiNode, a0⟩] [] .bool []).trans (by kernel_rfl)
theorem ref13_long.l0.eq (x0 : den .bool) (x1 : den (.int .i64)) (x2 : denO (.box tapiNode)) : ref13_long.l0 x0 x1 x2 =
  br (ltI x1 (ofN (lenL tapiPair x2.2.2.2.2.2.2.1)))
   (br x0
    (ref13_long.l0 true (addI .i64 x1 (1 : Int)) x2)
    (br (andB (leI (0 : Int) x1) (ltI x1 (ofN (lenL tapiPair x2.2.2.2.2.2.2.1)))) (br (ltI (16 : Int) (ofN (lenS (ixL tapiPair x2.2.2.2.2.2.2.1 x1).1)))
     (ref13_long.l0 true (addI .i64 x1 (1 : Int)) x2)
     (br (andB (leI (0 : Int) x1) (ltI x1 (ofN (lenL tapiPair x2.2.2.2.2.2.2.1)))) (ref13_long.l0 (ltI (16 : Int) (ofN (lenS (ixL tapiPair x2.2.2.2.2.2.2.1 x1).2.1))) (addI .i64 x1 (1 : Int)) x2) none)) none))
   (some x0) :=
  (loopB_eq (P := PP) (T := TT) (C := CF) [1, 1, 0, 1, 0, 0] [1, 1, 0, 1, 0, 0] 79 0 ⟨[(1, ⟨(.ptr 0 0), ()⟩), (3, ⟨.bool, x0⟩), (4, ⟨(.int .i64), x1⟩)], [⟨(.box tapiNode), x2⟩]⟩ (blockK 0 (seqK false [1, 1, 1] (BF 79 0 [1, 1, 1]) (finF 79 .bool [] 0)))).trans (by kernel_rfl)
theorem ref13_form.eq (a0 : den tapiNode) : ref13_form a0 =
  br (ltI a0.2.2.2.2.2.2.2.2.1 (0 : Int))
   (some false)
   (br (eqI a0.1 (1 : Int))
    (ref13_form.j0 a0.1 true a0)
    (ref13_form.j0 a0.1 (eqI a0.1 (6 : Int)) a0)) :=
  (callW_eq (P := PP) (T := TT) (pr := RR) 80 [⟨tapiNode, a0⟩] [] .bool []).trans (by kernel_rfl)
theorem ref13_form.j0.eq (x0 : den (.int .i64)) (x1 : den .bool) (x2 : denO (.box tapiNode)) : ref13_form.j0 x0 x1 x2 =
  br x1
   (br (eqI x2.2.2.2.2.2.2.2.1 (1 : Int))
    (bnd (ref13_bare x2 false true true true) fun r0 =>
    some r0)
    (some false))
   (br (eqI x0 (2 : Int))
    (ref13_form.l1 (0 : Int) x2)
    (br (eqI x0 (3 : Int))
     (br (leI (2 : Int) (ofN (lenL tapiPair x2.2.2.2.2.2.2.1)))
      (bnd (ref07_Is x2.2.2.2.2.2.2.1) fun r1 =>
      br r1
       (br (eqI x2.2.2.2.2.2.2.2.1 (ofN (lenL tapiPair x2.2.2.2.2.2.2.1)))
        (bnd (ref13_bare x2 true true true false) fun r2 =>
        some r2)
        (some false))
       (some false))
      (some false))
     (br (eqI x0 (4 : Int))
      (br (eqI x2.2.2.2.1 (0 : Int))
       (br (eqI (ofN (lenL (.int .i64) x2.2.2.2.2.1)) (2 : Int))
        (br (leI (1 : Int) x2.2.2.2.2.2.2.2.1)
         (bnd (ref13_bare x2 false false true true) fun r3 =>
         some r3)
         (some false))
        (some false))
       (some false))
      (br (notB (eqI x2.2.2.2.2.2.1 (0 : Int)))
       (br (eqI x2.2.2.2.2.2.2.2.1 (0 : Int))
        (bnd (ref13_bare x2 true true false true) fun r4 =>
        some r4)
        (some false))
       (some false))))) :=
  (congrFun (congrFun (jnO_eq [1, 1, 0, 1, 0, 1] (BF (R := den .bool) 80 0 [1, 1, 0, 1, 0, 1])) ⟨[(1, ⟨(.ptr 0 0), ()⟩), (8, ⟨(.int .i64), x0⟩), (9, ⟨.bool, x1⟩)], [⟨(.box tapiNode), x2⟩]⟩) (blockK 0 (seqK false [1, 1, 1] (BF 80 0 [1, 1, 1]) (finF 80 .bool [] 0)))).trans (by kernel_rfl)
theorem ref13_form.l1.eq (x0 : den (.int .i64)) (x1 : denO (.box tapiNode)) : ref13_form.l1 x0 x1 =
  br (ltI x0 (ofN (lenL (.int .i64) x1.2.2.2.2.1)))
   (br (andB (leI (0 : Int) x0) (ltI x0 (ofN (lenL (.int .i64) x1.2.2.2.2.1)))) (br (eqI (ixL (.int .i64) x1.2.2.2.2.1 x0) (0 : Int))
    (some false)
    (ref13_form.l1 (addI .i64 x0 (1 : Int)) x1)) none)
   (bnd (ref06_All x1.2.2.2.1) fun r0 =>
   br (eqI (ofN (lenL (.int .i64) x1.2.2.2.2.1)) (ofN (lenL (.int .i64) r0)))
    (br (leI (0 : Int) x1.2.2.2.2.2.2.2.1)
     (bnd (ref13_bare x1 true false true true) fun r1 =>
     some r1)
     (some false))
    (some false)) :=
  (loopB_eq (P := PP) (T := TT) (C := CF) [1, 1, 0, 1, 0, 1, 1, 1, 0, 0, 1, 0, 0] [1, 1, 0, 1, 0, 1, 1, 1, 0, 0, 1, 0, 0] 80 0 ⟨[(1, ⟨(.ptr 0 0), ()⟩), (3, ⟨(.int .i64), x0⟩)], [⟨(.box tapiNode), x1⟩]⟩ (blockK 1 (seqK false [1, 1, 0, 1, 0, 1, 1, 1, 0, 1] (BF 80 0 [1, 1, 0, 1, 0, 1, 1, 1, 0, 1]) (blockK 0 (seqK false [1, 1, 1] (BF 80 0 [1, 1, 1]) (finF 80 .bool [] 0)))))).trans (by kernel_rfl)
theorem ref_Make.eq (a0 : den (.int .i64)) (a1 : den (.int .i64)) : ref_Make a0 a1 =
  br (ltI a0 (1 : Int))
   (some ((0 : Int), ((2 : Int), ())))
   (br (ltI (1000 : Int) a0)
    (some ((0 : Int), ((2 : Int), ())))
    (br (ltI a1 (1 : Int))
     (some ((0 : Int), ((8 : Int), ())))
     (br (ltI (4503599627370496 : Int) a1)
      (some ((0 : Int), ((8 : Int), ())))
      (some ((addI .i64 (mulI .i64 a1 (1024 : Int)) a0), ((0 : Int), ())))))) :=
  (callW_eq (P := PP) (T := TT) (pr := RR) 136 [⟨(.int .i64), a0⟩, ⟨(.int .i64), a1⟩] [] (.tcons (.int .i64) (.tcons (.int .i64) .tnil)) []).trans (by kernel_rfl)
theorem slices_IndexFuncapi_Ref_api_Ref_v2.eq (a0 : den (.list (.int .i64))) (a1 : den (.fn 126 (.tcons (.ptr 0 0) .tnil))) (a2 : denO (.box (.list tapiNode))) : slices_IndexFuncapi_Ref_api_Ref_v2 a0 a1 a2 =
  slices_IndexFuncapi_Ref_api_Ref_v2.l0 a0 ((), ()) (ofN (lenL (.int .i64) a0)) (0 : Int) a2 :=
  (callW_eq (P := PP) (T := TT) (pr := RR) 128 [⟨(.list (.int .i64)), a0⟩, ⟨(.fn 126 (.tcons (.ptr 0 0) .tnil)), a1⟩] [⟨(.box (.list tapiNode)), a2⟩] (.int .i64) [(.box (.list tapiNode))]).trans (by kernel_rfl)
theorem slices_IndexFuncapi_Ref_api_Ref_v2.l0.eq (x0 : den (.list (.int .i64))) (x1 : den (.fn 126 (.tcons (.ptr 0 0) .tnil))) (x2 : den (.int .i64)) (x3 : den (.int .i64)) (x4 : denO (.box (.list tapiNode))) : slices_IndexFuncapi_Ref_api_Ref_v2.l0 x0 x1 x2 x3 x4 =
  br (ltI x3 x2)
   (br (andB (leI (0 : Int) x3) (ltI x3 (ofN (lenL (.int .i64) x0)))) (bnd (plan_fits_1 (ixL (.int .i64) x0 x3) x4) fun r0 =>
   br r0.1
    (some (x3, (r0.2.1, ())))
    (slices_IndexFuncapi_Ref_api_Ref_v2.l0 x0 ((), ()) x2 (addI .i64 x3 (1 : Int)) r0.2.1)) none)
   (some ((-1 : Int), (x4, ()))) :=
  (loopB_eq (P := PP) (T := TT) (C := CF) [1, 0, 1, 0, 0] [1, 0, 1, 0, 0] 128 1 ⟨[(0, ⟨(.list (.int .i64)), x0⟩), (1, ⟨(.fn 126 (.tcons (.ptr 0 0) .tnil)), x1⟩), (7, ⟨(.int .i64), x2⟩), (8, ⟨(.int .i64), x3⟩)], [⟨(.box (.list tapiNode)), x4⟩]⟩ (blockK 0 (seqK false [1, 1] (BF 128 1 [1, 1]) (finF 128 (.int .i64) [(.box (.list tapiNode))] 1)))).trans (by kernel_rfl)
theorem node_Tomb.eq (a0 : den .str) (a1 : den .str) : node_Tomb a0 a1 =
  some ((6 : Int), (a0, (a1, ((0 : Int), ([], ((0 : Int), ([], ((1 : Int), ((0 : Int), ()))))))))) :=
  (callW_eq (P := PP) (T := TT) (pr := RR) 25 [⟨.str, a0⟩, ⟨.str, a1⟩] [] tapiNode []).trans (by kernel_rfl)
theorem node_Branch.eq (a0 : den (.int .u32)) (a1 : den (.list (.int .i64))) (a2 : den (.int .i64)) : node_Branch a0 a1 a2 =
  bnd (slices_Cloneapi_Ref_api_Ref a1) fun r0 =>
  some ((2 : Int), (ByteArray.empty, (ByteArray.empty, (a0, (r0.2.1, ((0 : Int), ([], (a2, ((0 : Int), ()))))))))) :=
  (callW_eq (P := PP) (T := TT) (pr := RR) 30 [⟨(.int .u32), a0⟩, ⟨(.list (.int .i64)), a1⟩, ⟨(.int .i64), a2⟩] [] tapiNode []).trans (by kernel_rfl)
theorem node_Bucket.eq (a0 : den (.list tapiPair)) : node_Bucket a0 =
  bnd (pair_Make a0) fun r0 =>
  some ((3 : Int), (ByteArray.empty, (ByteArray.empty, ((0 : Int), ([], ((0 : Int), (r0, ((ofN (lenL tapiPair r0)), ((0 : Int), ()))))))))) :=
  (callW_eq (P := PP) (T := TT) (pr := RR) 28 [⟨(.list tapiPair), a0⟩] [] tapiNode []).trans (by kernel_rfl)
theorem node_Tree.eq (a0 : den .str) (a1 : den .str) (a2 : den (.int .i64)) (a3 : den (.int .i64)) (a4 : den (.int .i64)) : node_Tree a0 a1 a2 a3 a4 =
  some ((4 : Int), (a0, (a1, ((0 : Int), ((a2 :: (a3 :: [])), ((0 : Int), ([], (a4, ((0 : Int), ()))))))))) :=
  (callW_eq (P := PP) (T := TT) (pr := RR) 26 [⟨.str, a0⟩, ⟨.str, a1⟩, ⟨(.int .i64), a2⟩, ⟨(.int .i64), a3⟩, ⟨(.int .i64), a4⟩] [] tapiNode []).trans (by kernel_rfl)
theorem node_Inner.eq (a0 : den (.int .i64)) : node_Inner a0 =
  some ((5 : Int), (ByteArray.empty, (ByteArray.empty, ((0 : Int), ([], (a0, ([], ((0 : Int), ((0 : Int), ()))))))))) :=
  (callW_eq (P := PP) (T := TT) (pr := RR) 27 [⟨(.int .i64), a0⟩] [] tapiNode []).trans (by kernel_rfl)
theorem node_long_1.eq (a0 : den tapiPair) : node_long_1 a0 =
  br (ltI (16 : Int) (ofN (lenS a0.1)))
   (some true)
   (some (ltI (16 : Int) (ofN (lenS a0.2.1)))) :=
  (callW_eq (P := PP) (T := TT) (pr := RR) 111 [⟨tapiPair, a0⟩] [] .bool []).trans (by kernel_rfl)
theorem slices_ContainsFuncapi_Pair_api_Pair.eq (a0 : den (.list tapiPair)) : slices_ContainsFuncapi_Pair_api_Pair a0 =
  bnd (slices_IndexFuncapi_Pair_api_Pair a0) fun r0 =>
  some (leI (0 : Int) r0) :=
  (callW_eq (P := PP) (T := TT) (pr := RR) 112 [⟨(.list tapiPair), a0⟩, ⟨(.fn 111 .tnil), ()⟩] [] .bool []).trans (by kernel_rfl)
theorem slices_Equalapi_Ref_api_Ref.eq (a0 : den (.list (.int .i64))) (a1 : den (.list (.int .i64))) : slices_Equalapi_Ref_api_Ref a0 a1 =
  br (notB (eqI (ofN (lenL (.int .i64) a0)) (ofN (lenL (.int .i64) a1))))
   (some false)
   (slices_Equalapi_Ref_api_Ref.l0 a0 a1 (ofN (lenL (.int .i64) a0)) (0 : Int)) :=
  (callW_eq (P := PP) (T := TT) (pr := RR) 86 [⟨(.list (.int .i64)), a0⟩, ⟨(.list (.int .i64)), a1⟩] [] .bool []).trans (by kernel_rfl)
theorem slices_Equalapi_Ref_api_Ref.l0.eq (x0 : den (.list (.int .i64))) (x1 : den (.list (.int .i64))) (x2 : den (.int .i64)) (x3 : den (.int .i64)) : slices_Equalapi_Ref_api_Ref.l0 x0 x1 x2 x3 =
  br (ltI x3 x2)
   (br (andB (leI (0 : Int) x3) (ltI x3 (ofN (lenL (.int .i64) x0)))) (br (andB (leI (0 : Int) x3) (ltI x3 (ofN (lenL (.int .i64) x1)))) (br (notB (eqI (ixL (.int .i64) x0 x3) (ixL (.int .i64) x1 x3)))
    (some false)
    (slices_Equalapi_Ref_api_Ref.l0 x0 x1 x2 (addI .i64 x3 (1 : Int)))) none) none)
   (some true) :=
  (loopB_eq (P := PP) (T := TT) (C := CF) [1, 1, 0, 1, 0, 0] [1, 1, 0, 1, 0, 0] 86 0 ⟨[(0, ⟨(.list (.int .i64)), x0⟩), (1, ⟨(.list (.int .i64)), x1⟩), (12, ⟨(.int .i64), x2⟩), (13, ⟨(.int .i64), x3⟩)], []⟩ (blockK 0 (seqK false [1, 1, 1] (BF 86 0 [1, 1, 1]) (finF 86 .bool [] 0)))).trans (by kernel_rfl)
theorem slices_Equalapi_Pair_api_Pair.eq (a0 : den (.list tapiPair)) (a1 : den (.list tapiPair)) : slices_Equalapi_Pair_api_Pair a0 a1 =
  br (notB (eqI (ofN (lenL tapiPair a0)) (ofN (lenL tapiPair a1))))
   (some false)
   (slices_Equalapi_Pair_api_Pair.l0 a0 a1 (ofN (lenL tapiPair a0)) (0 : Int)) :=
  (callW_eq (P := PP) (T := TT) (pr := RR) 87 [⟨(.list tapiPair), a0⟩, ⟨(.list tapiPair), a1⟩] [] .bool []).trans (by kernel_rfl)
theorem slices_Equalapi_Pair_api_Pair.l0.eq (x0 : den (.list tapiPair)) (x1 : den (.list tapiPair)) (x2 : den (.int .i64)) (x3 : den (.int .i64)) : slices_Equalapi_Pair_api_Pair.l0 x0 x1 x2 x3 =
  br (ltI x3 x2)
   (br (andB (leI (0 : Int) x3) (ltI x3 (ofN (lenL tapiPair x0)))) (br (andB (leI (0 : Int) x3) (ltI x3 (ofN (lenL tapiPair x1)))) (br (notB (andB (eqS (ixL tapiPair x0 x3).1 (ixL tapiPair x1 x3).1) (andB (eqS (ixL tapiPair x0 x3).2.1 (ixL tapiPair x1 x3).2.1) true)))
    (some false)
    (slices_Equalapi_Pair_api_Pair.l0 x0 x1 x2 (addI .i64 x3 (1 : Int)))) none) none)
   (some true) :=
  (loopB_eq (P := PP) (T := TT) (C := CF) [1, 1, 0, 1, 0, 0] [1, 1, 0, 1, 0, 0] 87 0 ⟨[(0, ⟨(.list tapiPair), x0⟩), (1, ⟨(.list tapiPair), x1⟩), (12, ⟨(.int .i64), x2⟩), (13, ⟨(.int .i64), x3⟩)], []⟩ (blockK 0 (seqK false [1, 1, 1] (BF 87 0 [1, 1, 1]) (finF 87 .bool [] 0)))).trans (by kernel_rfl)
theorem mask_Count.eq (a0 : den (.int .u32)) : mask_Count a0 =
  bnd (math_bits_OnesCount32 a0) fun r0 =>
  some r0 :=
  (callW_eq (P := PP) (T := TT) (pr := RR) 113 [⟨(.int .u32), a0⟩] [] (.int .i64) []).trans (by kernel_rfl)
theorem slices_Containsapi_Ref_api_Ref.eq (a0 : den (.list (.int .i64))) (a1 : den (.int .i64)) : slices_Containsapi_Ref_api_Ref a0 a1 =
  bnd (slices_Indexapi_Ref_api_Ref a0 a1) fun r0 =>
  some (leI (0 : Int) r0) :=
  (callW_eq (P := PP) (T := TT) (pr := RR) 114 [⟨(.list (.int .i64)), a0⟩, ⟨(.int .i64), a1⟩] [] .bool []).trans (by kernel_rfl)
theorem pair_Is.eq (a0 : den (.list tapiPair)) : pair_Is a0 =
  pair_Is.l0 a0 (ofN (lenL tapiPair a0)) (0 : Int) :=
  (callW_eq (P := PP) (T := TT) (pr := RR) 115 [⟨(.list tapiPair), a0⟩] [] .bool []).trans (by kernel_rfl)
theorem pair_Is.l0.eq (x0 : den (.list tapiPair)) (x1 : den (.int .i64)) (x2 : den (.int .i64)) : pair_Is.l0 x0 x1 x2 =
  br (ltI x2 x1)
   (br (ltI (0 : Int) x2)
    (br (andB (leI (0 : Int) (subI .i64 x2 (1 : Int))) (ltI (subI .i64 x2 (1 : Int)) (ofN (lenL tapiPair x0)))) (br (andB (leI (0 : Int) x2) (ltI x2 (ofN (lenL tapiPair x0)))) (bnd (order_Compare (ixL tapiPair x0 (subI .i64 x2 (1 : Int))).1 (ixL tapiPair x0 x2).1) fun r0 =>
    br (leI (0 : Int) r0)
     (some false)
     (pair_Is.l0 x0 x1 (addI .i64 x2 (1 : Int)))) none) none)
    (pair_Is.l0 x0 x1 (addI .i64 x2 (1 : Int))))
   (some true) :=
  (loopB_eq (P := PP) (T := TT) (C := CF) [1, 0, 1, 0, 0] [1, 0, 1, 0, 0] 115 0 ⟨[(0, ⟨(.list tapiPair), x0⟩), (5, ⟨(.int .i64), x1⟩), (6, ⟨(.int .i64), x2⟩)], []⟩ (blockK 0 (seqK false [1, 1] (BF 115 0 [1, 1]) (finF 115 .bool [] 0)))).trans (by kernel_rfl)
theorem plan_May_1.eq (a0 : den (.int .i64)) (a1 : denO (.box (.int .i64))) : plan_May_1 a0 a1 =
  bnd (plan_ahead a0 a1) fun r0 =>
  some ((notB r0), (a1, ())) :=
  (callW_eq (P := PP) (T := TT) (pr := RR) 106 [⟨(.int .i64), a0⟩, ⟨(.ptr 0 0), ()⟩] [⟨(.box (.int .i64)), a1⟩] .bool [(.box (.int .i64))]).trans (by kernel_rfl)
theorem plan_May_2.eq (a0 : den (.int .i64)) : plan_May_2 a0 =
  some (leI a0 (0 : Int)) :=
  (callW_eq (P := PP) (T := TT) (pr := RR) 108 [⟨(.int .i64), a0⟩] [] .bool []).trans (by kernel_rfl)
theorem ref13_bare.eq (a0 : den tapiNode) (a1 : den .bool) (a2 : den .bool) (a3 : den .bool) (a4 : den .bool) : ref13_bare a0 a1 a2 a3 a4 =
  br a1
   (br (notB (eqS a0.2.1 ByteArray.empty))
    (some false)
    (br (notB (eqS a0.2.2.1 ByteArray.empty))
     (some false)
     (br a2
      (br (notB (eqI a0.2.2.2.1 (0 : Int)))
       (some false)
       (br (ltI (0 : Int) (ofN (lenL (.int .i64) a0.2.2.2.2.1)))
        (some false)
        (br (notB a3)
         (br (notB a4)
          (some true)
          (some (eqI (ofN (lenL tapiPair a0.2.2.2.2.2.2.1)) (0 : Int))))
         (br (eqI a0.2.2.2.2.2.1 (0 : Int))
          (br (notB a4)
           (some true)
           (some (eqI (ofN (lenL tapiPair a0.2.2.2.2.2.2.1)) (0 : Int))))
          (some false)))))
      (br (notB a3)
       (br (notB a4)
        (some true)
        (some (eqI (ofN (lenL tapiPair a0.2.2.2.2.2.2.1)) (0 : Int))))
       (br (eqI a0.2.2.2.2.2.1 (0 : Int))
        (br (notB a4)
         (some true)
         (some (eqI (ofN (lenL tapiPair a0.2.2.2.2.2.2.1)) (0 : Int))))
        (some false))))))
   (br a2
    (br (notB (eqI a0.2.2.2.1 (0 : Int)))
     (some false)
     (br (ltI (0 : Int) (ofN (lenL (.int .i64) a0.2.2.2.2.1)))
      (some false)
      (br (notB a3)
       (br (notB a4)
        (some true)
        (some (eqI (ofN (lenL tapiPair a0.2.2.2.2.2.2.1)) (0 : Int))))
       (br (eqI a0.2.2.2.2.2.1 (0 : Int))
        (br (notB a4)
         (some true)
         (some (eqI (ofN (lenL tapiPair a0.2.2.2.2.2.2.1)) (0 : Int))))
        (some false)))))
    (br (notB a3)
     (br (notB a4)
      (some true)
      (some (eqI (ofN (lenL tapiPair a0.2.2.2.2.2.2.1)) (0 : Int))))
     (br (eqI a0.2.2.2.2.2.1 (0 : Int))
      (br (notB a4)
       (some true)
       (some (eqI (ofN (lenL tapiPair a0.2.2.2.2.2.2.1)) (0 : Int))))
      (some false)))) :=
  (callW_eq (P := PP) (T := TT) (pr := RR) 116 [⟨tapiNode, a0⟩, ⟨.bool, a1⟩, ⟨.bool, a2⟩, ⟨.bool, a3⟩, ⟨.bool, a4⟩] [] .bool []).trans (by kernel_rfl)
theorem ref07_Is.eq (a0 : den (.list tapiPair)) : ref07_Is a0 =
  ref07_Is.l0 a0 (1 : Int) :=
  (callW_eq (P := PP) (T := TT) (pr := RR) 117 [⟨(.list tapiPair), a0⟩] [] .bool []).trans (by kernel_rfl)
theorem ref07_Is.l0.eq (x0 : den (.list tapiPair)) (x1 : den (.int .i64)) : ref07_Is.l0 x0 x1 =
  br (ltI x1 (ofN (lenL tapiPair x0)))
   (br (andB (leI (0 : Int) (subI .i64 x1 (1 : Int))) (ltI (subI .i64 x1 (1 : Int)) (ofN (lenL tapiPair x0)))) (br (andB (leI (0 : Int) x1) (ltI x1 (ofN (lenL tapiPair x0)))) (bnd (ref01_Less (ixL tapiPair x0 (subI .i64 x1 (1 : Int))).1 (ixL tapiPair x0 x1).1) fun r0 =>
   br (notB r0)
    (some false)
    (ref07_Is.l0 x0 (addI .i64 x1 (1 : Int)))) none) none)
   (some true) :=
  (loopB_eq (P := PP) (T := TT) (C := CF) [1, 0, 1, 0, 0] [1, 0, 1, 0, 0] 117 0 ⟨[(0, ⟨(.list tapiPair), x0⟩), (3, ⟨(.int .i64), x1⟩)], []⟩ (blockK 0 (seqK false [1, 1] (BF 117 0 [1, 1]) (finF 117 .bool [] 0)))).trans (by kernel_rfl)
theorem ref06_All.eq (a0 : den (.int .u32)) : ref06_All a0 =
  ref06_All.l0 a0 (0 : Int) [] :=
  (callW_eq (P := PP) (T := TT) (pr := RR) 88 [⟨(.int .u32), a0⟩] [] (.list (.int .i64)) []).trans (by kernel_rfl)
theorem ref06_All.l0.eq (x0 : den (.int .u32)) (x1 : den (.int .i64)) (x2 : denO (.row 3 (.int .i64) false)) : ref06_All.l0 x0 x1 x2 =
  br (ltI x1 (32 : Int))
   (bnd (ref06_Has x0 x1) fun r0 =>
   br r0
    (br (fitL (.int .i64) (appL (.int .i64) x2 (x1 :: []))) (ref06_All.l0 x0 (addI .i64 x1 (1 : Int)) (appL (.int .i64) x2 (x1 :: []))) none)
    (ref06_All.l0 x0 (addI .i64 x1 (1 : Int)) x2))
   (some x2) :=
  (loopB_eq (P := PP) (T := TT) (C := CF) [1, 1, 0, 1, 0, 0] [1, 1, 0, 1, 0, 0] 88 0 ⟨[(0, ⟨(.int .u32), x0⟩), (3, ⟨(.own (.int .i64) 0), ()⟩), (4, ⟨(.int .i64), x1⟩)], [⟨(.row 3 (.int .i64) false), x2⟩]⟩ (blockK 0 (seqK false [1, 1, 1] (BF 88 0 [1, 1, 1]) (finF 88 (.list (.int .i64)) [] 0)))).trans (by kernel_rfl)
theorem plan_fits_1.eq (a0 : den (.int .i64)) (a1 : denO (.box (.list tapiNode))) : plan_fits_1 a0 a1 =
  bnd (plan_has a1 a0) fun r0 =>
  some ((notB r0), (a1, ())) :=
  (callW_eq (P := PP) (T := TT) (pr := RR) 126 [⟨(.int .i64), a0⟩, ⟨(.ptr 0 0), ()⟩] [⟨(.box (.list tapiNode)), a1⟩] .bool [(.box (.list tapiNode))]).trans (by kernel_rfl)
theorem pair_Make.eq (a0 : den (.list tapiPair)) : pair_Make a0 =
  pair_Make.l0 a0 (ofN (lenL tapiPair a0)) (0 : Int) [] :=
  (callW_eq (P := PP) (T := TT) (pr := RR) 81 [⟨(.list tapiPair), a0⟩] [] (.list tapiPair) []).trans (by kernel_rfl)
theorem pair_Make.l0.eq (x0 : den (.list tapiPair)) (x1 : den (.int .i64)) (x2 : den (.int .i64)) (x3 : denO (.row 43 tapiPair false)) : pair_Make.l0 x0 x1 x2 x3 =
  br (ltI x2 x1)
   (br (andB (leI (0 : Int) x2) (ltI x2 (ofN (lenL tapiPair x0)))) (bnd (pair_put x3 (ixL tapiPair x0 x2)) fun r0 =>
   pair_Make.l0 x0 x1 (addI .i64 x2 (1 : Int)) r0.2.1) none)
   (some x3) :=
  (loopB_eq (P := PP) (T := TT) (C := CF) [1, 1, 0, 1, 0, 0] [1, 1, 0, 1, 0, 0] 81 0 ⟨[(3, ⟨(.own tapiPair 0), ()⟩), (6, ⟨(.list tapiPair), x0⟩), (7, ⟨(.int .i64), x1⟩), (8, ⟨(.int .i64), x2⟩)], [⟨(.row 43 tapiPair false), x3⟩]⟩ (blockK 0 (seqK false [1, 1, 1] (BF 81 0 [1, 1, 1]) (finF 81 (.list tapiPair) [] 0)))).trans (by kernel_rfl)
theorem slices_IndexFuncapi_Pair_api_Pair.eq (a0 : den (.list tapiPair)) : slices_IndexFuncapi_Pair_api_Pair a0 =
  slices_IndexFuncapi_Pair_api_Pair.l0 a0 (ofN (lenL tapiPair a0)) (0 : Int) :=
  (callW_eq (P := PP) (T := TT) (pr := RR) 130 [⟨(.list tapiPair), a0⟩, ⟨(.fn 111 .tnil), ()⟩] [] (.int .i64) []).trans (by kernel_rfl)
theorem slices_IndexFuncapi_Pair_api_Pair.l0.eq (x0 : den (.list tapiPair)) (x1 : den (.int .i64)) (x2 : den (.int .i64)) : slices_IndexFuncapi_Pair_api_Pair.l0 x0 x1 x2 =
  br (ltI x2 x1)
   (br (andB (leI (0 : Int) x2) (ltI x2 (ofN (lenL tapiPair x0)))) (bnd (node_long_1 (ixL tapiPair x0 x2)) fun r0 =>
   br r0
    (some x2)
    (slices_IndexFuncapi_Pair_api_Pair.l0 x0 x1 (addI .i64 x2 (1 : Int)))) none)
   (some (-1 : Int)) :=
  (loopB_eq (P := PP) (T := TT) (C := CF) [1, 0, 1, 0, 0] [1, 0, 1, 0, 0] 130 0 ⟨[(0, ⟨(.list tapiPair), x0⟩), (1, ⟨(.fn 111 .tnil), ()⟩), (7, ⟨(.int .i64), x1⟩), (8, ⟨(.int .i64), x2⟩)], []⟩ (blockK 0 (seqK false [1, 1] (BF 130 0 [1, 1]) (finF 130 (.int .i64) [] 0)))).trans (by kernel_rfl)
theorem math_bits_OnesCount32.eq (a0 : den (.int .u32)) : math_bits_OnesCount32 a0 =
  br (leI (0 : Int) (24 : Int)) (br (andB (leI (0 : Int) (shrI .u32 a0 (24 : Int))) (ltI (shrI .u32 a0 (24 : Int)) (ofN (lenS (ByteArray.mk #[0, 1, 1, 2, 1, 2, 2, 3, 1, 2, 2, 3, 2, 3, 3, 4, 1, 2, 2, 3, 2, 3, 3, 4, 2, 3, 3, 4, 3, 4, 4, 5, 1, 2, 2, 3, 2, 3, 3, 4, 2, 3, 3, 4, 3, 4, 4, 5, 2, 3, 3, 4, 3, 4, 4, 5, 3, 4, 4, 5, 4, 5, 5, 6, 1, 2, 2, 3, 2, 3, 3, 4, 2, 3, 3, 4, 3, 4, 4, 5, 2, 3, 3, 4, 3, 4, 4, 5, 3, 4, 4, 5, 4, 5, 5, 6, 2, 3, 3, 4, 3, 4, 4, 5, 3, 4, 4, 5, 4, 5, 5, 6, 3, 4, 4, 5, 4, 5, 5, 6, 4, 5, 5, 6, 5, 6, 6, 7, 1, 2, 2, 3, 2, 3, 3, 4, 2, 3, 3, 4, 3, 4, 4, 5, 2, 3, 3, 4, 3, 4, 4, 5, 3, 4, 4, 5, 4, 5, 5, 6, 2, 3, 3, 4, 3, 4, 4, 5, 3, 4, 4, 5, 4, 5, 5, 6, 3, 4, 4, 5, 4, 5, 5, 6, 4, 5, 5, 6, 5, 6, 6, 7, 2, 3, 3, 4, 3, 4, 4, 5, 3, 4, 4, 5, 4, 5, 5, 6, 3, 4, 4, 5, 4, 5, 5, 6, 4, 5, 5, 6, 5, 6, 6, 7, 3, 4, 4, 5, 4, 5, 5, 6, 4, 5, 5, 6, 5, 6, 6, 7, 4, 5, 5, 6, 5, 6, 6, 7, 5, 6, 6, 7, 6, 7, 7, 8]))))) (br (leI (0 : Int) (16 : Int)) (br (andB (leI (0 : Int) (andI .u32 (shrI .u32 a0 (16 : Int)) (255 : Int))) (ltI (andI .u32 (shrI .u32 a0 (16 : Int)) (255 : Int)) (ofN (lenS (ByteArray.mk #[0, 1, 1, 2, 1, 2, 2, 3, 1, 2, 2, 3, 2, 3, 3, 4, 1, 2, 2, 3, 2, 3, 3, 4, 2, 3, 3, 4, 3, 4, 4, 5, 1, 2, 2, 3, 2, 3, 3, 4, 2, 3, 3, 4, 3, 4, 4, 5, 2, 3, 3, 4, 3, 4, 4, 5, 3, 4, 4, 5, 4, 5, 5, 6, 1, 2, 2, 3, 2, 3, 3, 4, 2, 3, 3, 4, 3, 4, 4, 5, 2, 3, 3, 4, 3, 4, 4, 5, 3, 4, 4, 5, 4, 5, 5, 6, 2, 3, 3, 4, 3, 4, 4, 5, 3, 4, 4, 5, 4, 5, 5, 6, 3, 4, 4, 5, 4, 5, 5, 6, 4, 5, 5, 6, 5, 6, 6, 7, 1, 2, 2, 3, 2, 3, 3, 4, 2, 3, 3, 4, 3, 4, 4, 5, 2, 3, 3, 4, 3, 4, 4, 5, 3, 4, 4, 5, 4, 5, 5, 6, 2, 3, 3, 4, 3, 4, 4, 5, 3, 4, 4, 5, 4, 5, 5, 6, 3, 4, 4, 5, 4, 5, 5, 6, 4, 5, 5, 6, 5, 6, 6, 7, 2, 3, 3, 4, 3, 4, 4, 5, 3, 4, 4, 5, 4, 5, 5, 6, 3, 4, 4, 5, 4, 5, 5, 6, 4, 5, 5, 6, 5, 6, 6, 7, 3, 4, 4, 5, 4, 5, 5, 6, 4, 5, 5, 6, 5, 6, 6, 7, 4, 5, 5, 6, 5, 6, 6, 7, 5, 6, 6, 7, 6, 7, 7, 8]))))) (br (leI (0 : Int) (8 : Int)) (br (andB (leI (0 : Int) (andI .u32 (shrI .u32 a0 (8 : Int)) (255 : Int))) (ltI (andI .u32 (shrI .u32 a0 (8 : Int)) (255 : Int)) (ofN (lenS (ByteArray.mk #[0, 1, 1, 2, 1, 2, 2, 3, 1, 2, 2, 3, 2, 3, 3, 4, 1, 2, 2, 3, 2, 3, 3, 4, 2, 3, 3, 4, 3, 4, 4, 5, 1, 2, 2, 3, 2, 3, 3, 4, 2, 3, 3, 4, 3, 4, 4, 5, 2, 3, 3, 4, 3, 4, 4, 5, 3, 4, 4, 5, 4, 5, 5, 6, 1, 2, 2, 3, 2, 3, 3, 4, 2, 3, 3, 4, 3, 4, 4, 5, 2, 3, 3, 4, 3, 4, 4, 5, 3, 4, 4, 5, 4, 5, 5, 6, 2, 3, 3, 4, 3, 4, 4, 5, 3, 4, 4, 5, 4, 5, 5, 6, 3, 4, 4, 5, 4, 5, 5, 6, 4, 5, 5, 6, 5, 6, 6, 7, 1, 2, 2, 3, 2, 3, 3, 4, 2, 3, 3, 4, 3, 4, 4, 5, 2, 3, 3, 4, 3, 4, 4, 5, 3, 4, 4, 5, 4, 5, 5, 6, 2, 3, 3, 4, 3, 4, 4, 5, 3, 4, 4, 5, 4, 5, 5, 6, 3, 4, 4, 5, 4, 5, 5, 6, 4, 5, 5, 6, 5, 6, 6, 7, 2, 3, 3, 4, 3, 4, 4, 5, 3, 4, 4, 5, 4, 5, 5, 6, 3, 4, 4, 5, 4, 5, 5, 6, 4, 5, 5, 6, 5, 6, 6, 7, 3, 4, 4, 5, 4, 5, 5, 6, 4, 5, 5, 6, 5, 6, 6, 7, 4, 5, 5, 6, 5, 6, 6, 7, 5, 6, 6, 7, 6, 7, 7, 8]))))) (br (andB (leI (0 : Int) (andI .u32 a0 (255 : Int))) (ltI (andI .u32 a0 (255 : Int)) (ofN (lenS (ByteArray.mk #[0, 1, 1, 2, 1, 2, 2, 3, 1, 2, 2, 3, 2, 3, 3, 4, 1, 2, 2, 3, 2, 3, 3, 4, 2, 3, 3, 4, 3, 4, 4, 5, 1, 2, 2, 3, 2, 3, 3, 4, 2, 3, 3, 4, 3, 4, 4, 5, 2, 3, 3, 4, 3, 4, 4, 5, 3, 4, 4, 5, 4, 5, 5, 6, 1, 2, 2, 3, 2, 3, 3, 4, 2, 3, 3, 4, 3, 4, 4, 5, 2, 3, 3, 4, 3, 4, 4, 5, 3, 4, 4, 5, 4, 5, 5, 6, 2, 3, 3, 4, 3, 4, 4, 5, 3, 4, 4, 5, 4, 5, 5, 6, 3, 4, 4, 5, 4, 5, 5, 6, 4, 5, 5, 6, 5, 6, 6, 7, 1, 2, 2, 3, 2, 3, 3, 4, 2, 3, 3, 4, 3, 4, 4, 5, 2, 3, 3, 4, 3, 4, 4, 5, 3, 4, 4, 5, 4, 5, 5, 6, 2, 3, 3, 4, 3, 4, 4, 5, 3, 4, 4, 5, 4, 5, 5, 6, 3, 4, 4, 5, 4, 5, 5, 6, 4, 5, 5, 6, 5, 6, 6, 7, 2, 3, 3, 4, 3, 4, 4, 5, 3, 4, 4, 5, 4, 5, 5, 6, 3, 4, 4, 5, 4, 5, 5, 6, 4, 5, 5, 6, 5, 6, 6, 7, 3, 4, 4, 5, 4, 5, 5, 6, 4, 5, 5, 6, 5, 6, 6, 7, 4, 5, 5, 6, 5, 6, 6, 7, 5, 6, 6, 7, 6, 7, 7, 8]))))) (some (wrapI .i64 (addI .u8 (addI .u8 (addI .u8 (getS (ByteArray.mk #[0, 1, 1, 2, 1, 2, 2, 3, 1, 2, 2, 3, 2, 3, 3, 4, 1, 2, 2, 3, 2, 3, 3, 4, 2, 3, 3, 4, 3, 4, 4, 5, 1, 2, 2, 3, 2, 3, 3, 4, 2, 3, 3, 4, 3, 4, 4, 5, 2, 3, 3, 4, 3, 4, 4, 5, 3, 4, 4, 5, 4, 5, 5, 6, 1, 2, 2, 3, 2, 3, 3, 4, 2, 3, 3, 4, 3, 4, 4, 5, 2, 3, 3, 4, 3, 4, 4, 5, 3, 4, 4, 5, 4, 5, 5, 6, 2, 3, 3, 4, 3, 4, 4, 5, 3, 4, 4, 5, 4, 5, 5, 6, 3, 4, 4, 5, 4, 5, 5, 6, 4, 5, 5, 6, 5, 6, 6, 7, 1, 2, 2, 3, 2, 3, 3, 4, 2, 3, 3, 4, 3, 4, 4, 5, 2, 3, 3, 4, 3, 4, 4, 5, 3, 4, 4, 5, 4, 5, 5, 6, 2, 3, 3, 4, 3, 4, 4, 5, 3, 4, 4, 5, 4, 5, 5, 6, 3, 4, 4, 5, 4, 5, 5, 6, 4, 5, 5, 6, 5, 6, 6, 7, 2, 3, 3, 4, 3, 4, 4, 5, 3, 4, 4, 5, 4, 5, 5, 6, 3, 4, 4, 5, 4, 5, 5, 6, 4, 5, 5, 6, 5, 6, 6, 7, 3, 4, 4, 5, 4, 5, 5, 6, 4, 5, 5, 6, 5, 6, 6, 7, 4, 5, 5, 6, 5, 6, 6, 7, 5, 6, 6, 7, 6, 7, 7, 8]) (toN (shrI .u32 a0 (24 : Int)))) (getS (ByteArray.mk #[0, 1, 1, 2, 1, 2, 2, 3, 1, 2, 2, 3, 2, 3, 3, 4, 1, 2, 2, 3, 2, 3, 3, 4, 2, 3, 3, 4, 3, 4, 4, 5, 1, 2, 2, 3, 2, 3, 3, 4, 2, 3, 3, 4, 3, 4, 4, 5, 2, 3, 3, 4, 3, 4, 4, 5, 3, 4, 4, 5, 4, 5, 5, 6, 1, 2, 2, 3, 2, 3, 3, 4, 2, 3, 3, 4, 3, 4, 4, 5, 2, 3, 3, 4, 3, 4, 4, 5, 3, 4, 4, 5, 4, 5, 5, 6, 2, 3, 3, 4, 3, 4, 4, 5, 3, 4, 4, 5, 4, 5, 5, 6, 3, 4, 4, 5, 4, 5, 5, 6, 4, 5, 5, 6, 5, 6, 6, 7, 1, 2, 2, 3, 2, 3, 3, 4, 2, 3, 3, 4, 3, 4, 4, 5, 2, 3, 3, 4, 3, 4, 4, 5, 3, 4, 4, 5, 4, 5, 5, 6, 2, 3, 3, 4, 3, 4, 4, 5, 3, 4, 4, 5, 4, 5, 5, 6, 3, 4, 4, 5, 4, 5, 5, 6, 4, 5, 5, 6, 5, 6, 6, 7, 2, 3, 3, 4, 3, 4, 4, 5, 3, 4, 4, 5, 4, 5, 5, 6, 3, 4, 4, 5, 4, 5, 5, 6, 4, 5, 5, 6, 5, 6, 6, 7, 3, 4, 4, 5, 4, 5, 5, 6, 4, 5, 5, 6, 5, 6, 6, 7, 4, 5, 5, 6, 5, 6, 6, 7, 5, 6, 6, 7, 6, 7, 7, 8]) (toN (andI .u32 (shrI .u32 a0 (16 : Int)) (255 : Int))))) (getS (ByteArray.mk #[0, 1, 1, 2, 1, 2, 2, 3, 1, 2, 2, 3, 2, 3, 3, 4, 1, 2, 2, 3, 2, 3, 3, 4, 2, 3, 3, 4, 3, 4, 4, 5, 1, 2, 2, 3, 2, 3, 3, 4, 2, 3, 3, 4, 3, 4, 4, 5, 2, 3, 3, 4, 3, 4, 4, 5, 3, 4, 4, 5, 4, 5, 5, 6, 1, 2, 2, 3, 2, 3, 3, 4, 2, 3, 3, 4, 3, 4, 4, 5, 2, 3, 3, 4, 3, 4, 4, 5, 3, 4, 4, 5, 4, 5, 5, 6, 2, 3, 3, 4, 3, 4, 4, 5, 3, 4, 4, 5, 4, 5, 5, 6, 3, 4, 4, 5, 4, 5, 5, 6, 4, 5, 5, 6, 5, 6, 6, 7, 1, 2, 2, 3, 2, 3, 3, 4, 2, 3, 3, 4, 3, 4, 4, 5, 2, 3, 3, 4, 3, 4, 4, 5, 3, 4, 4, 5, 4, 5, 5, 6, 2, 3, 3, 4, 3, 4, 4, 5, 3, 4, 4, 5, 4, 5, 5, 6, 3, 4, 4, 5, 4, 5, 5, 6, 4, 5, 5, 6, 5, 6, 6, 7, 2, 3, 3, 4, 3, 4, 4, 5, 3, 4, 4, 5, 4, 5, 5, 6, 3, 4, 4, 5, 4, 5, 5, 6, 4, 5, 5, 6, 5, 6, 6, 7, 3, 4, 4, 5, 4, 5, 5, 6, 4, 5, 5, 6, 5, 6, 6, 7, 4, 5, 5, 6, 5, 6, 6, 7, 5, 6, 6, 7, 6, 7, 7, 8]) (toN (andI .u32 (shrI .u32 a0 (8 : Int)) (255 : Int))))) (getS (ByteArray.mk #[0, 1, 1, 2, 1, 2, 2, 3, 1, 2, 2, 3, 2, 3, 3, 4, 1, 2, 2, 3, 2, 3, 3, 4, 2, 3, 3, 4, 3, 4, 4, 5, 1, 2, 2, 3, 2, 3, 3, 4, 2, 3, 3, 4, 3, 4, 4, 5, 2, 3, 3, 4, 3, 4, 4, 5, 3, 4, 4, 5, 4, 5, 5, 6, 1, 2, 2, 3, 2, 3, 3, 4, 2, 3, 3, 4, 3, 4, 4, 5, 2, 3, 3, 4, 3, 4, 4, 5, 3, 4, 4, 5, 4, 5, 5, 6, 2, 3, 3, 4, 3, 4, 4, 5, 3, 4, 4, 5, 4, 5, 5, 6, 3, 4, 4, 5, 4, 5, 5, 6, 4, 5, 5, 6, 5, 6, 6, 7, 1, 2, 2, 3, 2, 3, 3, 4, 2, 3, 3, 4, 3, 4, 4, 5, 2, 3, 3, 4, 3, 4, 4, 5, 3, 4, 4, 5, 4, 5, 5, 6, 2, 3, 3, 4, 3, 4, 4, 5, 3, 4, 4, 5, 4, 5, 5, 6, 3, 4, 4, 5, 4, 5, 5, 6, 4, 5, 5, 6, 5, 6, 6, 7, 2, 3, 3, 4, 3, 4, 4, 5, 3, 4, 4, 5, 4, 5, 5, 6, 3, 4, 4, 5, 4, 5, 5, 6, 4, 5, 5, 6, 5, 6, 6, 7, 3, 4, 4, 5, 4, 5, 5, 6, 4, 5, 5, 6, 5, 6, 6, 7, 4, 5, 5, 6, 5, 6, 6, 7, 5, 6, 6, 7, 6, 7, 7, 8]) (toN (andI .u32 a0 (255 : Int))))))) none) none) none) none) none) none) none :=
  (callW_eq (P := PP) (T := TT) (pr := RR) 121 [⟨(.int .u32), a0⟩] [] (.int .i64) []).trans (by kernel_rfl)
theorem slices_Indexapi_Ref_api_Ref.eq (a0 : den (.list (.int .i64))) (a1 : den (.int .i64)) : slices_Indexapi_Ref_api_Ref a0 a1 =
  slices_Indexapi_Ref_api_Ref.l0 a0 a1 (ofN (lenL (.int .i64) a0)) (0 : Int) :=
  (callW_eq (P := PP) (T := TT) (pr := RR) 131 [⟨(.list (.int .i64)), a0⟩, ⟨(.int .i64), a1⟩] [] (.int .i64) []).trans (by kernel_rfl)
theorem slices_Indexapi_Ref_api_Ref.l0.eq (x0 : den (.list (.int .i64))) (x1 : den (.int .i64)) (x2 : den (.int .i64)) (x3 : den (.int .i64)) : slices_Indexapi_Ref_api_Ref.l0 x0 x1 x2 x3 =
  br (ltI x3 x2)
   (br (andB (leI (0 : Int) x3) (ltI x3 (ofN (lenL (.int .i64) x0)))) (br (eqI x1 (ixL (.int .i64) x0 x3))
    (some x3)
    (slices_Indexapi_Ref_api_Ref.l0 x0 x1 x2 (addI .i64 x3 (1 : Int)))) none)
   (some (-1 : Int)) :=
  (loopB_eq (P := PP) (T := TT) (C := CF) [1, 0, 1, 0, 0] [1, 0, 1, 0, 0] 131 0 ⟨[(0, ⟨(.list (.int .i64)), x0⟩), (1, ⟨(.int .i64), x1⟩), (7, ⟨(.int .i64), x2⟩), (8, ⟨(.int .i64), x3⟩)], []⟩ (blockK 0 (seqK false [1, 1] (BF 131 0 [1, 1]) (finF 131 (.int .i64) [] 0)))).trans (by kernel_rfl)
theorem order_Compare.eq (a0 : den .str) (a1 : den .str) : order_Compare a0 a1 =
  bnd (order_Common a0 a1) fun r0 =>
  br (eqI r0 (ofN (lenS a0)))
   (order_Compare.j0 a0 a1 r0 (eqI r0 (ofN (lenS a1))))
   (order_Compare.j0 a0 a1 r0 false) :=
  (callW_eq (P := PP) (T := TT) (pr := RR) 132 [⟨.str, a0⟩, ⟨.str, a1⟩] [] (.int .i64) []).trans (by kernel_rfl)
theorem order_Compare.j0.eq (x0 : den .str) (x1 : den .str) (x2 : den (.int .i64)) (x3 : den .bool) : order_Compare.j0 x0 x1 x2 x3 =
  br x3
   (some (0 : Int))
   (br (eqI x2 (ofN (lenS x0)))
    (some (-1 : Int))
    (br (eqI x2 (ofN (lenS x1)))
     (some (1 : Int))
     (br (andB (leI (0 : Int) x2) (ltI x2 (ofN (lenS x0)))) (br (andB (leI (0 : Int) x2) (ltI x2 (ofN (lenS x1)))) (br (ltI (getS x1 (toN x2)) (getS x0 (toN x2)))
      (some (1 : Int))
      (some (-1 : Int))) none) none))) :=
  (congrFun (congrFun (jnO_eq [1, 1, 0, 0, 1] (BF (R := den (.int .i64)) 132 0 [1, 1, 0, 0, 1])) ⟨[(0, ⟨.str, x0⟩), (1, ⟨.str, x1⟩), (5, ⟨(.int .i64), x2⟩), (9, ⟨.bool, x3⟩)], []⟩) (blockK 0 (seqK false [1, 1, 1] (BF 132 0 [1, 1, 1]) (finF 132 (.int .i64) [] 0)))).trans (by kernel_rfl)
theorem ref01_Less.eq (a0 : den .str) (a1 : den .str) : ref01_Less a0 a1 =
  ref01_Less.l0 a0 a1 (0 : Int) :=
  (callW_eq (P := PP) (T := TT) (pr := RR) 83 [⟨.str, a0⟩, ⟨.str, a1⟩] [] .bool []).trans (by kernel_rfl)
theorem ref01_Less.l0.eq (x0 : den .str) (x1 : den .str) (x2 : den (.int .i64)) : ref01_Less.l0 x0 x1 x2 =
  br (ltI x2 (ofN (lenS x0)))
   (ref01_Less.j1 x0 x1 x2 (ltI x2 (ofN (lenS x1))))
   (ref01_Less.j1 x0 x1 x2 false) :=
  (loopB_eq (P := PP) (T := TT) (C := CF) [1, 0, 1, 0, 0] [1, 0, 1, 0, 0] 83 0 ⟨[(0, ⟨.str, x0⟩), (1, ⟨.str, x1⟩), (5, ⟨(.int .i64), x2⟩)], []⟩ (blockK 0 (seqK false [1, 1] (BF 83 0 [1, 1]) (finF 83 .bool [] 0)))).trans (by kernel_rfl)
theorem ref01_Less.j1.eq (x0 : den .str) (x1 : den .str) (x2 : den (.int .i64)) (x3 : den .bool) : ref01_Less.j1 x0 x1 x2 x3 =
  br x3
   (br (andB (leI (0 : Int) x2) (ltI x2 (ofN (lenS x0)))) (br (andB (leI (0 : Int) x2) (ltI x2 (ofN (lenS x1)))) (br (notB (eqI (getS x0 (toN x2)) (getS x1 (toN x2))))
    (br (andB (leI (0 : Int) x2) (ltI x2 (ofN (lenS x0)))) (br (andB (leI (0 : Int) x2) (ltI x2 (ofN (lenS x1)))) (some (ltI (getS x0 (toN x2)) (getS x1 (toN x2)))) none) none)
    (ref01_Less.l0 x0 x1 (addI .i64 x2 (1 : Int)))) none) none)
   (some (ltI (ofN (lenS x0)) (ofN (lenS x1)))) :=
  (congrFun (congrFun (jnO_eq [1, 0, 1, 0, 0, 0, 1] (BF (R := den .bool) 83 0 [1, 0, 1, 0, 0, 0, 1])) ⟨[(0, ⟨.str, x0⟩), (1, ⟨.str, x1⟩), (5, ⟨(.int .i64), x2⟩), (15, ⟨.bool, x3⟩)], []⟩) (seqK false [1, 0, 1, 0, 0, 1] (BF 83 0 [1, 0, 1, 0, 0, 1]) (againK [1, 0, 1, 0, 0] (loopW [1, 0, 1, 0, 0] (BF 83 0 [1, 0, 1, 0, 0])) (blockK 0 (seqK false [1, 1] (BF 83 0 [1, 1]) (finF 83 .bool [] 0)))))).trans (by kernel_rfl)
theorem ref06_Has.eq (a0 : den (.int .u32)) (a1 : den (.int .i64)) : ref06_Has a0 a1 =
  ref06_Has.l0 a0 a1 (0 : Int) :=
  (callW_eq (P := PP) (T := TT) (pr := RR) 119 [⟨(.int .u32), a0⟩, ⟨(.int .i64), a1⟩] [] .bool []).trans (by kernel_rfl)
theorem ref06_Has.l0.eq (x0 : den (.int .u32)) (x1 : den (.int .i64)) (x2 : den (.int .i64)) : ref06_Has.l0 x0 x1 x2 =
  br (ltI x2 (32 : Int))
   (br (notB (eqI (2 : Int) (0 : Int))) (br (eqI (remI x0 (2 : Int)) (1 : Int))
    (br (eqI x2 x1)
     (some true)
     (br (notB (eqI (2 : Int) (0 : Int))) (ref06_Has.l0 (quoI .u32 x0 (2 : Int)) x1 (addI .i64 x2 (1 : Int))) none))
    (br (notB (eqI (2 : Int) (0 : Int))) (ref06_Has.l0 (quoI .u32 x0 (2 : Int)) x1 (addI .i64 x2 (1 : Int))) none)) none)
   (some false) :=
  (loopB_eq (P := PP) (T := TT) (C := CF) [1, 0, 1, 0, 0] [1, 0, 1, 0, 0] 119 0 ⟨[(0, ⟨(.int .u32), x0⟩), (1, ⟨(.int .i64), x1⟩), (5, ⟨(.int .i64), x2⟩)], []⟩ (blockK 0 (seqK false [1, 1] (BF 119 0 [1, 1]) (finF 119 .bool [] 0)))).trans (by kernel_rfl)
theorem plan_has.eq (a0 : den (.list tapiNode)) (a1 : den (.int .i64)) : plan_has a0 a1 =
  some (leI a1 (ofN (lenL tapiNode a0))) :=
  (callW_eq (P := PP) (T := TT) (pr := RR) 127 [⟨(.list tapiNode), a0⟩, ⟨(.int .i64), a1⟩] [] .bool []).trans (by kernel_rfl)
theorem pair_put.eq (a0 : den (.list tapiPair)) (a1 : den tapiPair) : pair_put a0 a1 =
  bnd (pair_place a0 a1.1) fun r0 =>
  br r0.2.1
   (bnd (slices_Cloneapi_Pair_api_Pair a0) fun r1 =>
   br (andB (leI (0 : Int) r0.1) (ltI r0.1 (ofN (lenL tapiPair r1.2.1)))) (some ((), ((setL tapiPair r1.2.1 r0.1 a1), ()))) none)
   (both
    (bnd (slices_Cloneapi_Pair_api_Pair a0) fun r2 =>
    bnd (slices_Insertapi_Pair_api_Pair r0.1 r2.2.1 (a1 :: [])) fun r3 =>
    some ((), (r3.2.1, ())))
    (bnd (slices_Cloneapi_Pair_api_Pair a0) fun r4 =>
    bnd (slices_Insertapi_Pair_api_Pair r0.1 r4.2.1 (a1 :: [])) fun r5 =>
    some ((), (r5.2.1, ())))) :=
  (callW_eq (P := PP) (T := TT) (pr := RR) 118 [⟨(.list tapiPair), a0⟩, ⟨tapiPair, a1⟩] [] (.own tapiPair 0) [(.row 43 tapiPair false)]).trans (by kernel_rfl)
theorem order_Common.eq (a0 : den .str) (a1 : den .str) : order_Common a0 a1 =
  order_Common.l0 a0 a1 (minI (ofN (lenS a0)) (ofN (lenS a1))) (minI (ofN (lenS a0)) (ofN (lenS a1))) (0 : Int) :=
  (callW_eq (P := PP) (T := TT) (pr := RR) 137 [⟨.str, a0⟩, ⟨.str, a1⟩] [] (.int .i64) []).trans (by kernel_rfl)
theorem order_Common.l0.eq (x0 : den .str) (x1 : den .str) (x2 : den (.int .i64)) (x3 : den (.int .i64)) (x4 : den (.int .i64)) : order_Common.l0 x0 x1 x2 x3 x4 =
  br (ltI x4 x3)
   (br (andB (leI (0 : Int) x4) (ltI x4 (ofN (lenS x0)))) (br (andB (leI (0 : Int) x4) (ltI x4 (ofN (lenS x1)))) (br (notB (eqI (getS x0 (toN x4)) (getS x1 (toN x4))))
    (some x4)
    (order_Common.l0 x0 x1 x2 x3 (addI .i64 x4 (1 : Int)))) none) none)
   (some x2) :=
  (loopB_eq (P := PP) (T := TT) (C := CF) [1, 1, 0, 1, 0, 0] [1, 1, 0, 1, 0, 0] 137 0 ⟨[(0, ⟨.str, x0⟩), (1, ⟨.str, x1⟩), (5, ⟨(.int .i64), x2⟩), (12, ⟨(.int .i64), x3⟩), (13, ⟨(.int .i64), x4⟩)], []⟩ (blockK 0 (seqK false [1, 1, 1] (BF 137 0 [1, 1, 1]) (finF 137 (.int .i64) [] 0)))).trans (by kernel_rfl)
theorem pair_place.eq (a0 : den (.list tapiPair)) (a1 : den .str) : pair_place a0 a1 =
  bnd (slices_BinarySearchFuncapi_Pair_api_Pair_string a0 a1) fun r0 =>
  some r0 :=
  (callW_eq (P := PP) (T := TT) (pr := RR) 133 [⟨(.list tapiPair), a0⟩, ⟨.str, a1⟩] [] (.tcons (.int .i64) (.tcons .bool .tnil)) []).trans (by kernel_rfl)
theorem slices_Insertapi_Pair_api_Pair.eq (a0 : den (.int .i64)) (a1 : denO (.row 43 tapiPair true)) (a2 : denO (.row 43 tapiPair true)) : slices_Insertapi_Pair_api_Pair a0 a1 a2 =
  br (insG tapiPair a1 a0 a2) (some ((), ((insL tapiPair a1 a0 a2), (a2, ())))) none :=
  (callW_eq (P := PP) (T := TT) (pr := RR) 134 [⟨(.own tapiPair 0), ()⟩, ⟨(.int .i64), a0⟩, ⟨(.own tapiPair 1), ()⟩] [⟨(.row 43 tapiPair true), a1⟩, ⟨(.row 43 tapiPair true), a2⟩] (.own tapiPair 0) [(.row 43 tapiPair false), (.row 43 tapiPair true)]).trans (by kernel_rfl)
theorem slices_BinarySearchFuncapi_Pair_api_Pair_string.eq (a0 : den (.list tapiPair)) (a1 : den .str) : slices_BinarySearchFuncapi_Pair_api_Pair_string a0 a1 =
  slices_BinarySearchFuncapi_Pair_api_Pair_string.l0 a0 a1 (ofN (lenL tapiPair a0)) (0 : Int) (ofN (lenL tapiPair a0)) :=
  (callW_eq (P := PP) (T := TT) (pr := RR) 138 [⟨(.list tapiPair), a0⟩, ⟨.str, a1⟩, ⟨(.fn 139 .tnil), ()⟩] [] (.tcons (.int .i64) (.tcons .bool .tnil)) []).trans (by kernel_rfl)
theorem slices_BinarySearchFuncapi_Pair_api_Pair_string.l0.eq (x0 : den (.list tapiPair)) (x1 : den .str) (x2 : den (.int .i64)) (x3 : den (.int .i64)) (x4 : den (.int .i64)) : slices_BinarySearchFuncapi_Pair_api_Pair_string.l0 x0 x1 x2 x3 x4 =
  br (ltI x3 x4)
   (br (leI (0 : Int) (1 : Int)) (br (andB (leI (0 : Int) (wrapI .i64 (shrI .u64 (wrapI .u64 (addI .i64 x3 x4)) (1 : Int)))) (ltI (wrapI .i64 (shrI .u64 (wrapI .u64 (addI .i64 x3 x4)) (1 : Int))) (ofN (lenL tapiPair x0)))) (bnd (pair_place_1 (ixL tapiPair x0 (wrapI .i64 (shrI .u64 (wrapI .u64 (addI .i64 x3 x4)) (1 : Int)))) x1) fun r0 =>
   br (ltI r0 (0 : Int))
    (slices_BinarySearchFuncapi_Pair_api_Pair_string.l0 x0 x1 x2 (addI .i64 (wrapI .i64 (shrI .u64 (wrapI .u64 (addI .i64 x3 x4)) (1 : Int))) (1 : Int)) x4)
    (slices_BinarySearchFuncapi_Pair_api_Pair_string.l0 x0 x1 x2 x3 (wrapI .i64 (shrI .u64 (wrapI .u64 (addI .i64 x3 x4)) (1 : Int))))) none) none)
   (br (ltI x3 x2)
    (br (andB (leI (0 : Int) x3) (ltI x3 (ofN (lenL tapiPair x0)))) (bnd (pair_place_1 (ixL tapiPair x0 x3) x1) fun r1 =>
    some (x3, ((eqI r1 (0 : Int)), ()))) none)
    (some (x3, (false, ())))) :=
  (loopB_eq (P := PP) (T := TT) (C := CF) [1, 1, 1, 0, 0, 0] [1, 1, 1, 0, 0, 0] 138 0 ⟨[(0, ⟨(.list tapiPair), x0⟩), (1, ⟨.str, x1⟩), (2, ⟨(.fn 139 .tnil), ()⟩), (8, ⟨(.int .i64), x2⟩), (9, ⟨(.int .i64), x3⟩), (10, ⟨(.int .i64), x4⟩)], []⟩ (blockK 0 (seqK false [1, 1, 1, 1] (BF 138 0 [1, 1, 1, 1]) (finF 138 (.tcons (.int .i64) (.tcons .bool .tnil)) [] 0)))).trans (by kernel_rfl)
theorem pair_place_1.eq (a0 : den tapiPair) (a1 : den .str) : pair_place_1 a0 a1 =
  bnd (order_Compare a0.1 a1) fun r0 =>
  some r0 :=
  (callW_eq (P := PP) (T := TT) (pr := RR) 139 [⟨tapiPair, a0⟩, ⟨.str, a1⟩] [] (.int .i64) []).trans (by kernel_rfl)
end Go.Proofs.Ytobfcaejpcpboaa.AV
