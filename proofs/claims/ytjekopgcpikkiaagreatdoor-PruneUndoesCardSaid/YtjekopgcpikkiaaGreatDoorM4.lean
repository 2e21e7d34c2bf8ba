/- Texts of one proof, laid together: how the interpreter's words stand for the program's code and what the functions do. No conditions but those that each lemma names. -/
import Derived.Test.YtjekopgcpikkiaaGreatDoorM3
import Derived.Test.YtjekopgcpikkiaaGreatDoorM2
import Derived.WideShapes
import Derived.Laws.BitsLemmas
import Derived.Lib.TrailingZeros
set_option linter.unusedSimpArgs false
set_option maxRecDepth 100000
set_option linter.unusedVariables false
namespace Go.Proofs.YtjekopgcpikkiaaGreatDoor.AM
open Go.Abs
theorem law24_PruneUndoes.eq (a0 : Int) (a1 : den (.list tapiPair)) (a2 : den .str) (a3 : den .str) : law24_PruneUndoes a0 a1 a2 a3 = bnd (law24_works) fun r0 => br (notB r0) (some false) (bnd (law24_made a0 a1) fun r1 => bnd (base_Cut a2 (16 : Int)) fun r2 => bnd (base_Cut a3 (16 : Int)) fun r3 => br (notB r1.2.2.2.1) (law24_PruneUndoes.j0 a0 r2 r3 r1.2.1 r1.2.2.1 true) (bnd (ref24_Bound r1.1 r2) fun r4 => law24_PruneUndoes.j0 a0 r2 r3 r1.2.1 r1.2.2.1 r4)) := (callW_eq _ _ _ _ _).trans (by kernel_rfl)
theorem law24_PruneUndoes.j0.eq (x0 : Int) (x1 : den .str) (x2 : den .str) (x3 : den (.list tapiNode)) (x4 : Int) (x5 : Bool) : law24_PruneUndoes.j0 x0 x1 x2 x3 x4 x5 = br x5 (some true) (bnd (graft_Run x3 x4 (1 : Int) x1 x2 ByteArray.empty x0) fun r0 => bnd (prune_Run r0.1 r0.2.1 x1 x0) fun r1 => br (eqI r0.2.2.1 (0 : Int)) (br (eqI r1.2.2.1 (0 : Int)) (bnd (ref17_Same r1.1 r1.2.1 x3 x4) fun r2 => some r2) (some false)) (some false)) := (congrFun (congrFun (jnO_eq _ _) _) _).trans (by kernel_rfl)
theorem law24_works.eq  : law24_works  = bnd (node_Leaf (ByteArray.mk #[97]) (ByteArray.mk #[49])) fun r0 => bnd (prune_Run (r0 :: []) (1 : Int) (ByteArray.mk #[97]) (64 : Int)) fun r1 => bnd (prune_Run (r0 :: []) (1 : Int) (ByteArray.mk #[98]) (64 : Int)) fun r2 => bnd (prune_New (1 : Int) (ByteArray.mk #[97]) (64 : Int)) fun r3 => br (andB (leI (0 : Int) (0 : Int)) (ltI (0 : Int) (ofN (lenL tapiNode (r0 :: []))))) (bnd (pP_Feed (ixL tapiNode (r0 :: []) (0 : Int)) r3.2.1 r3.2.2.1) fun r4 => bnd (pP_Answer r4.2.1 r4.2.2.1) fun r5 => bnd (pP_Plan r5.2.1 r5.2.2.1) fun r6 => br (eqI r1.2.2.1 (0 : Int)) (br (eqI r2.2.2.1 (0 : Int)) (br (eqI r1.2.1 (0 : Int)) (br (eqI (ofN (lenL tapiNode r1.1)) (1 : Int)) (br (eqI r2.2.1 (1 : Int)) (br (eqI (ofN (lenL tapiNode r2.1)) (1 : Int)) (br (eqS r5.1.1 (ByteArray.mk #[49])) (br r5.1.2.1 (br r6.1.2.1 (br (eqI (ofN (lenL (.int .i64) r6.2.2.2.2.1)) (1 : Int)) (some (eqI r6.1.1.2.1 (0 : Int))) (some false)) (some false)) (some false)) (some false)) (some false)) (some false)) (some false)) (some false)) (some false)) (some false)) none := (callW_eq _ _ _ _ _).trans (by kernel_rfl)
theorem law24_made.eq (a0 : Int) (a1 : den (.list tapiPair)) : law24_made a0 a1 = br (andB (leI (0 : Int) (0 : Int)) (andB (leI (0 : Int) (minI (ofN (lenL tapiPair a1)) (12 : Int))) (leI (minI (ofN (lenL tapiPair a1)) (12 : Int)) (ofN (lenL tapiPair a1))))) (bnd (law07_Few (subL tapiPair a1 (toN (0 : Int)) (toN (minI (ofN (lenL tapiPair a1)) (12 : Int))))) fun r0 => bnd (ref20_Long r0) fun r1 => br r1 (some ([], ([], ((0 : Int), (false, ()))))) (bnd (ref20_Make a0 r0) fun r2 => bnd (ref07_Make r0) fun r3 => some (r3, (r2.1, (r2.2.1, (true, ())))))) none := (callW_eq _ _ _ _ _).trans (by kernel_rfl)
theorem base_Cut.eq (a0 : den .str) (a1 : Int) : base_Cut a0 a1 = br (andB (leI (0 : Int) (0 : Int)) (andB (leI (0 : Int) (minI (ofN (lenS a0)) a1)) (leI (minI (ofN (lenS a0)) a1) (ofN (lenS a0))))) (some (subS a0 (toN (0 : Int)) (toN (minI (ofN (lenS a0)) a1)))) none := (callW_eq _ _ _ _ _).trans (by kernel_rfl)
theorem ref24_Bound.eq (a0 : den (.list tapiPair)) (a1 : den .str) : ref24_Bound a0 a1 = bnd (ref07_Get a0 a1) fun r0 => some r0.2.1 := (callW_eq _ _ _ _ _).trans (by kernel_rfl)
theorem graft_Run.eq (a0 : den (.list tapiNode)) (a1 : Int) (a2 : Int) (a3 : den .str) (a4 : den .str) (a5 : den .str) (a6 : Int) : graft_Run a0 a1 a2 a3 a4 a5 a6 = bnd (node_Leaf a3 a4) fun r0 => bnd (node_May r0) fun r1 => br (ltI a2 (1 : Int)) (some ([], ((0 : Int), ((2 : Int), ())))) (br (ltI (3 : Int) a2) (some ([], ((0 : Int), ((2 : Int), ())))) (br (notB (eqI r1 (0 : Int))) (some ([], ((0 : Int), (r1, ())))) (bnd (trie_Is a0 a1 a6) fun r2 => br (notB r2) (some ([], ((0 : Int), ((4 : Int), ())))) (bnd (graft_New a1 a2 a3 a4 a5 a6) fun r3 => graft_Run.l0 a0 a1 r3.2.1 r3.2.2.1)))) := (callW_eq _ _ _ _ _).trans (by kernel_rfl)
theorem graft_Run.l0.eq (x0 : den (.list tapiNode)) (x1 : Int) (x2 : denO (.box tgraftGraftO)) (x3 : denO (.row 104 tgraftstep false)) : graft_Run.l0 x0 x1 x2 x3 = bnd (gG_Want x2 x3) fun r0 => br (notB (eqI r0.1 (0 : Int))) (bnd (gG_Want r0.2.1 r0.2.2.1) fun r1 => br (andB (leI (0 : Int) (subI .i64 r1.1 (1 : Int))) (ltI (subI .i64 r1.1 (1 : Int)) (ofN (lenL tapiNode x0)))) (bnd (gG_Feed (ixL tapiNode x0 (subI .i64 r1.1 (1 : Int))) r1.2.1 r1.2.2.1) fun r2 => graft_Run.l0 x0 x1 r2.2.1 r2.2.2.1) none) (bnd (gG_Plan r0.2.1 r0.2.2.1) fun r3 => br (notB r3.1.2.1) (bnd (plan_Do x0 ([], (x1, ([], ())))) fun r4 => some r4) (bnd (plan_Do x0 (r3.2.2.2.1, (r3.1.1.2.1, (r3.2.2.2.2.1, ())))) fun r5 => some r5)) := (loopB_eq _ _ _ _ _ _).trans (by kernel_rfl)
theorem prune_Run.eq (a0 : den (.list tapiNode)) (a1 : Int) (a2 : den .str) (a3 : Int) : prune_Run a0 a1 a2 a3 = bnd (trie_Is a0 a1 a3) fun r0 => br (notB r0) (some ([], ((0 : Int), ((4 : Int), ())))) (bnd (prune_New a1 a2 a3) fun r1 => prune_Run.l0 a0 a1 r1.2.1 r1.2.2.1) := (callW_eq _ _ _ _ _).trans (by kernel_rfl)
theorem prune_Run.l0.eq (x0 : den (.list tapiNode)) (x1 : Int) (x2 : denO (.box tprunePruneO)) (x3 : denO (.row 127 tgraftstep false)) : prune_Run.l0 x0 x1 x2 x3 = bnd (pP_Want x2 x3) fun r0 => br (notB (eqI r0.1 (0 : Int))) (bnd (pP_Want r0.2.1 r0.2.2.1) fun r1 => br (andB (leI (0 : Int) (subI .i64 r1.1 (1 : Int))) (ltI (subI .i64 r1.1 (1 : Int)) (ofN (lenL tapiNode x0)))) (bnd (pP_Feed (ixL tapiNode x0 (subI .i64 r1.1 (1 : Int))) r1.2.1 r1.2.2.1) fun r2 => prune_Run.l0 x0 x1 r2.2.1 r2.2.2.1) none) (bnd (pP_Plan r0.2.1 r0.2.2.1) fun r3 => br (notB r3.1.2.1) (bnd (plan_Do x0 ([], (x1, ([], ())))) fun r4 => some r4) (bnd (plan_Do x0 (r3.2.2.2.1, (r3.1.1.2.1, (r3.2.2.2.2.1, ())))) fun r5 => some r5)) := (loopB_eq _ _ _ _ _ _).trans (by kernel_rfl)
theorem ref17_Same.eq (a0 : den (.list tapiNode)) (a1 : Int) (a2 : den (.list tapiNode)) (a3 : Int) : ref17_Same a0 a1 a2 a3 = bnd (ref17_Fits a0 a1) fun r0 => br r0 (bnd (ref17_Fits a2 a3) fun r1 => br r1 (bnd (ref17_shape a0 a1 a2 a3) fun r2 => some r2) (some false)) (some false) := (callW_eq _ _ _ _ _).trans (by kernel_rfl)
theorem node_Leaf.eq (a0 : den .str) (a1 : den .str) : node_Leaf a0 a1 = some ((1 : Int), (a0, (a1, ((0 : Int), ([], ((0 : Int), ([], ((1 : Int), ((0 : Int), ()))))))))) := (callW_eq _ _ _ _ _).trans (by kernel_rfl)
theorem prune_New.eq (a0 : Int) (a1 : den .str) (a2 : Int) : prune_New a0 a1 a2 = bnd (hash_Of a1 a2) fun r0 => some ((), ((a1, (a2, (r0, (a0, ((), ((0 : Int), ((0 : Int), (ByteArray.empty, (ByteArray.empty, ((0 : Int), ([], ((0 : Int), ([], ((0 : Int), ((0 : Int), ((0 : Int), ((0 : Int), (ByteArray.empty, (ByteArray.empty, ((0 : Int), ([], ((0 : Int), ([], ((0 : Int), ((0 : Int), ()))))))))))))))))))))))))), ([], ()))) := (callW_eq _ _ _ _ _).trans (by kernel_rfl)
theorem pP_Feed.eq (a0 : den tapiNode) (a1 : denO (.box tprunePruneO)) (a2 : denO (.row 127 tgraftstep true)) : pP_Feed a0 a1 a2 = bnd (pP_Want a1 a2) fun r0 => br (eqI r0.1 (0 : Int)) (some ((), (r0.2.1, (r0.2.2.1, ())))) (br (notB (eqI r0.2.1.2.2.2.2.2.1 (0 : Int))) (some ((), ((r0.2.1.1, (r0.2.1.2.1, (r0.2.1.2.2.1, ((0 : Int), ((), (r0.2.1.2.2.2.2.2.1, (r0.2.1.2.2.2.2.2.2.1, (r0.2.1.2.2.2.2.2.2.2.1, (r0.2.1.2.2.2.2.2.2.2.2.1, (r0.2.1.2.2.2.2.2.2.2.2.2.1, (r0.2.1.2.2.2.2.2.2.2.2.2.2.1, (r0.2.1.2.2.2.2.2.2.2.2.2.2.2.1, (r0.2.1.2.2.2.2.2.2.2.2.2.2.2.2.1, (r0.2.1.2.2.2.2.2.2.2.2.2.2.2.2.2.1, (r0.2.1.2.2.2.2.2.2.2.2.2.2.2.2.2.2.1, (r0.2.1.2.2.2.2.2.2.2.2.2.2.2.2.2.2.2.1, a0)))))))))))))))), (r0.2.2.1, ())))) (br (notB (eqI a0.1 (2 : Int))) (pP_Feed.j0 r0.1 true (r0.2.1.1, (r0.2.1.2.1, (r0.2.1.2.2.1, ((0 : Int), r0.2.1.2.2.2.2)))) r0.2.2.1 a0) (bnd (hash_Levels r0.2.1.2.1) fun r1 => pP_Feed.j0 r0.1 (leI r1 (ofN (lenL tgraftstep r0.2.2.1))) (r0.2.1.1, (r0.2.1.2.1, (r0.2.1.2.2.1, ((0 : Int), r0.2.1.2.2.2.2)))) r0.2.2.1 a0))) := (callW_eq _ _ _ _ _).trans (by kernel_rfl)
theorem pP_Feed.j0.eq (x0 : Int) (x1 : Bool) (x2 : denO (.box tprunePruneO)) (x3 : denO (.row 127 tgraftstep true)) (x4 : denO (.box tapiNode)) : pP_Feed.j0 x0 x1 x2 x3 x4 = br x1 (both (bnd (pP_lone (x2.1, (x2.2.1, (x2.2.2.1, (x2.2.2.2.1, ((), (x0, (x4.1, (x4.2.1, (x4.2.2.1, (x4.2.2.2.1, (x4.2.2.2.2.1, (x4.2.2.2.2.2.1, (x4.2.2.2.2.2.2.1, (x4.2.2.2.2.2.2.2.1, (x4.2.2.2.2.2.2.2.2.1, x2.2.2.2.2.2.2.2.2.2.2.2.2.2.2.2))))))))))))))) x3) fun r0 => some ((), ((r0.2.1.1, (r0.2.1.2.1, (r0.2.1.2.2.1, (r0.1, ((), (r0.2.1.2.2.2.2.2.1, (r0.2.1.2.2.2.2.2.2.1, (r0.2.1.2.2.2.2.2.2.2.1, (r0.2.1.2.2.2.2.2.2.2.2.1, (r0.2.1.2.2.2.2.2.2.2.2.2.1, (r0.2.1.2.2.2.2.2.2.2.2.2.2.1, (r0.2.1.2.2.2.2.2.2.2.2.2.2.2.1, (r0.2.1.2.2.2.2.2.2.2.2.2.2.2.2.1, (r0.2.1.2.2.2.2.2.2.2.2.2.2.2.2.2.1, (r0.2.1.2.2.2.2.2.2.2.2.2.2.2.2.2.2.1, (r0.1, r0.2.1.2.2.2.2.2.2.2.2.2.2.2.2.2.2.2.2)))))))))))))))), (r0.2.2.1, ())))) (bnd (pP_lone (x2.1, (x2.2.1, (x2.2.2.1, (x2.2.2.2.1, ((), (x0, (x4.1, (x4.2.1, (x4.2.2.1, (x4.2.2.2.1, (x4.2.2.2.2.1, (x4.2.2.2.2.2.1, (x4.2.2.2.2.2.2.1, (x4.2.2.2.2.2.2.2.1, (x4.2.2.2.2.2.2.2.2.1, x2.2.2.2.2.2.2.2.2.2.2.2.2.2.2.2))))))))))))))) x3) fun r1 => some ((), ((r1.2.1.1, (r1.2.1.2.1, (r1.2.1.2.2.1, (r1.1, ((), (r1.2.1.2.2.2.2.2.1, (r1.2.1.2.2.2.2.2.2.1, (r1.2.1.2.2.2.2.2.2.2.1, (r1.2.1.2.2.2.2.2.2.2.2.1, (r1.2.1.2.2.2.2.2.2.2.2.2.1, (r1.2.1.2.2.2.2.2.2.2.2.2.2.1, (r1.2.1.2.2.2.2.2.2.2.2.2.2.2.1, (r1.2.1.2.2.2.2.2.2.2.2.2.2.2.2.1, (r1.2.1.2.2.2.2.2.2.2.2.2.2.2.2.2.1, (r1.2.1.2.2.2.2.2.2.2.2.2.2.2.2.2.2.1, (r1.1, r1.2.1.2.2.2.2.2.2.2.2.2.2.2.2.2.2.2.2)))))))))))))))), (r1.2.2.1, ()))))) (bnd (hash_Chunk x2.2.2.1 (ofN (lenL tgraftstep x3)) x2.2.1) fun r2 => br (fitL tgraftstep (appL tgraftstep x3 ((x0, (x4.1, (x4.2.1, (x4.2.2.1, (x4.2.2.2.1, (x4.2.2.2.2.1, (x4.2.2.2.2.2.1, (x4.2.2.2.2.2.2.1, (x4.2.2.2.2.2.2.2.1, (x4.2.2.2.2.2.2.2.2.1, (r2, ()))))))))))) :: []))) (bnd (branch_Child x4 r2) fun r3 => some ((), ((x2.1, (x2.2.1, (x2.2.2.1, (r3, x2.2.2.2.2)))), ((appL tgraftstep x3 ((x0, (x4.1, (x4.2.1, (x4.2.2.1, (x4.2.2.2.1, (x4.2.2.2.2.1, (x4.2.2.2.2.2.1, (x4.2.2.2.2.2.2.1, (x4.2.2.2.2.2.2.2.1, (x4.2.2.2.2.2.2.2.2.1, (r2, ()))))))))))) :: [])), ())))) none) := (congrFun (congrFun (jnO_eq _ _) _) _).trans (by kernel_rfl)
theorem pP_Answer.eq (a0 : denO (.box tprunePruneO)) (a1 : denO (.row 127 tgraftstep true)) : pP_Answer a0 a1 = br (notB (eqI a0.2.2.2.1 (0 : Int))) (pP_Answer.j0 true a0 a1) (br (notB (eqI a0.2.2.2.2.2.2.1 (1 : Int))) (pP_Answer.j0 (notB (eqI a0.2.2.2.2.2.2.1 (3 : Int))) a0 a1) (pP_Answer.j0 false a0 a1)) := (callW_eq _ _ _ _ _).trans (by kernel_rfl)
theorem pP_Answer.j0.eq (x0 : Bool) (x1 : denO (.box tprunePruneO)) (x2 : denO (.row 127 tgraftstep true)) : pP_Answer.j0 x0 x1 x2 = br x0 (some ((ByteArray.empty, (false, ())), (x1, (x2, ())))) (bnd (node_Binds (x1.2.2.2.2.2.2.1, (x1.2.2.2.2.2.2.2.1, (x1.2.2.2.2.2.2.2.2.1, (x1.2.2.2.2.2.2.2.2.2.1, (x1.2.2.2.2.2.2.2.2.2.2.1, (x1.2.2.2.2.2.2.2.2.2.2.2.1, (x1.2.2.2.2.2.2.2.2.2.2.2.2.1, (x1.2.2.2.2.2.2.2.2.2.2.2.2.2.1, (x1.2.2.2.2.2.2.2.2.2.2.2.2.2.2.1, ())))))))))) fun r0 => bnd (pair_Get r0.2.1 x1.1) fun r1 => some (r1, (x1, (x2, ())))) := (congrFun (congrFun (jnO_eq _ _) _) _).trans (by kernel_rfl)
theorem pP_Plan.eq (a0 : denO (.box tprunePruneO)) (a1 : denO (.row 127 tgraftstep true)) : pP_Plan a0 a1 = bnd (pP_Answer_o (a0.1, (a0.2.1, (a0.2.2.1, (a0.2.2.2.1, (a1, a0.2.2.2.2.2)))))) fun r0 => br (notB r0.1.2.1) (some ((((), ((0 : Int), ((), ()))), (false, ())), (r0.2.1, ((), ([], ([], ())))))) (bnd (pP_bottom ((), ((0 : Int), ((), ()))) r0.2.1) fun r1 => bnd (slices_Backwardps r1.2.1.2.2.2.2.1) fun r2 => bnd (slices_Backwardps_1 r2.2.1) fun r3 => pP_Plan.e0 r3 r1.2.1 ((), ((0 : Int), ((), ()))) ((), (r1.1.1.2.1, ((), ()))) r1.1.2.1 r1.1.2.2.1 [] [] r1.2.2.1 r1.2.2.2.1) := (callW_eq _ _ _ _ _).trans (by kernel_rfl)
theorem pP_Plan.e0.nil (x0 : denO (.box tprunePrune)) (x1 : denO (.box (tPl 7 8))) (x2 : denO (.box (tPl 9 10))) (x3 : denO (.box (.int .i64))) (x4 : denO (.box .bool)) (x5 : denO (.row 58 tapiNode false)) (x6 : denO (.row 24 (.int .i64) false)) (x7 : denO (.row 58 tapiNode false)) (x8 : denO (.row 24 (.int .i64) false)) : pP_Plan.e0 [] x0 x1 x2 x3 x4 x5 x6 x7 x8 = some ((((), (x3, ((), ()))), (true, ())), (x0, ((), (x7, (x8, ()))))) := by kernel_rfl
theorem pP_Plan.e0.cons (y : den (.tcons (.int .i64) (.tcons tgraftstep .tnil))) (ys : List (den (.tcons (.int .i64) (.tcons tgraftstep .tnil)))) (x0 : denO (.box tprunePrune)) (x1 : denO (.box (tPl 7 8))) (x2 : denO (.box (tPl 9 10))) (x3 : denO (.box (.int .i64))) (x4 : denO (.box .bool)) (x5 : denO (.row 58 tapiNode false)) (x6 : denO (.row 24 (.int .i64) false)) (x7 : denO (.row 58 tapiNode false)) (x8 : denO (.row 24 (.int .i64) false)) : pP_Plan.e0 (y :: ys) x0 x1 x2 x3 x4 x5 x6 x7 x8 = bnd (pP_up ((), (x2.2.1, ((), ()))) y.2.1 x3 x4 x0 x7 x8) fun r0 => pP_Plan.e0 ys r0.2.1 ((), (x1.2.1, ((), ()))) ((), (r0.1.1.2.1, ((), ()))) r0.1.2.1 r0.1.2.2.1 x5 x6 r0.2.2.1 r0.2.2.2.1 := by kernel_rfl
theorem law07_Few.eq (a0 : den (.list tapiPair)) : law07_Few a0 = law07_Few.l0 a0 (0 : Int) [] := (callW_eq _ _ _ _ _).trans (by kernel_rfl)
theorem law07_Few.l0.eq (x0 : den (.list tapiPair)) (x1 : Int) (x2 : denO (.row 84 tapiPair false)) : law07_Few.l0 x0 x1 x2 = br (ltI x1 (ofN (lenL tapiPair x0))) (law07_Few.j1 x0 x1 (ltI x1 (40 : Int)) x2) (law07_Few.j1 x0 x1 false x2) := (loopB_eq _ _ _ _ _ _).trans (by kernel_rfl)
theorem law07_Few.j1.eq (x0 : den (.list tapiPair)) (x1 : Int) (x2 : Bool) (x3 : denO (.row 84 tapiPair false)) : law07_Few.j1 x0 x1 x2 x3 = br x2 (br (andB (leI (0 : Int) x1) (ltI x1 (ofN (lenL tapiPair x0)))) (br (andB (leI (0 : Int) x1) (ltI x1 (ofN (lenL tapiPair x0)))) (bnd (base_Cut (ixL tapiPair x0 x1).1 (40 : Int)) fun r0 => bnd (base_Cut (ixL tapiPair x0 x1).2.1 (40 : Int)) fun r1 => br (fitL tapiPair (appL tapiPair x3 ((r0, (r1, ())) :: []))) (law07_Few.l0 x0 (addI .i64 x1 (1 : Int)) (appL tapiPair x3 ((r0, (r1, ())) :: []))) none) none) none) (some x3) := (congrFun (congrFun (jnO_eq _ _) _) _).trans (by kernel_rfl)
theorem ref20_Long.eq (a0 : den (.list tapiPair)) : ref20_Long a0 = bnd (ref07_Make a0) fun r0 => ref20_Long.l0 r0 (0 : Int) := (callW_eq _ _ _ _ _).trans (by kernel_rfl)
theorem ref20_Long.l0.eq (x0 : den (.list tapiPair)) (x1 : Int) : ref20_Long.l0 x0 x1 = br (ltI x1 (ofN (lenL tapiPair x0))) (br (andB (leI (0 : Int) x1) (ltI x1 (ofN (lenL tapiPair x0)))) (br (ltI (16 : Int) (ofN (lenS (ixL tapiPair x0 x1).1))) (some true) (br (andB (leI (0 : Int) x1) (ltI x1 (ofN (lenL tapiPair x0)))) (br (ltI (16 : Int) (ofN (lenS (ixL tapiPair x0 x1).2.1))) (some true) (ref20_Long.l0 x0 (addI .i64 x1 (1 : Int)))) none)) none) (some false) := (loopB_eq _ _ _ _ _ _).trans (by kernel_rfl)
theorem ref20_Make.eq (a0 : Int) (a1 : den (.list tapiPair)) : ref20_Make a0 a1 = bnd (ref07_Make a1) fun r0 => bnd (ref20_make1 a0 r0 (0 : Int) []) fun r1 => some (r1.2.1, r1.1.2) := (callW_eq _ _ _ _ _).trans (by kernel_rfl)
theorem ref07_Make.eq (a0 : den (.list tapiPair)) : ref07_Make a0 = ref07_Make.l0 a0 (0 : Int) [] := (callW_eq _ _ _ _ _).trans (by kernel_rfl)
theorem ref07_Make.l0.eq (x0 : den (.list tapiPair)) (x1 : Int) (x2 : denO (.row 84 tapiPair false)) : ref07_Make.l0 x0 x1 x2 = br (ltI x1 (ofN (lenL tapiPair x0))) (bnd (ref07_last x0 x1) fun r0 => br (notB r0) (ref07_Make.l0 x0 (addI .i64 x1 (1 : Int)) x2) (ref07_Make.l1 x0 x1 (0 : Int) x2)) (some x2) := (loopB_eq _ _ _ _ _ _).trans (by kernel_rfl)
theorem ref07_Make.l1.eq (x0 : den (.list tapiPair)) (x1 : Int) (x2 : Int) (x3 : denO (.row 84 tapiPair false)) : ref07_Make.l1 x0 x1 x2 x3 = br (ltI x2 (ofN (lenL tapiPair x3))) (br (andB (leI (0 : Int) x2) (ltI x2 (ofN (lenL tapiPair x3)))) (br (andB (leI (0 : Int) x1) (ltI x1 (ofN (lenL tapiPair x0)))) (bnd (ref01_Less (ixL tapiPair x3 x2).1 (ixL tapiPair x0 x1).1) fun r0 => ref07_Make.j2 x0 x1 x2 r0 x3) none) none) (ref07_Make.j2 x0 x1 x2 false x3) := (loopB_eq _ _ _ _ _ _).trans (by kernel_rfl)
theorem ref07_Make.j2.eq (x0 : den (.list tapiPair)) (x1 : Int) (x2 : Int) (x3 : Bool) (x4 : denO (.row 84 tapiPair false)) : ref07_Make.j2 x0 x1 x2 x3 x4 = br x3 (ref07_Make.l1 x0 x1 (addI .i64 x2 (1 : Int)) x4) (br (andB (leI (0 : Int) x1) (ltI x1 (ofN (lenL tapiPair x0)))) (both (both (br (andB (leI (0 : Int) (0 : Int)) (andB (leI (0 : Int) x2) (leI x2 (ofN (lenL tapiPair x4))))) (br (andB (leI (0 : Int) x2) (andB (leI x2 (ofN (lenL tapiPair x4))) (leI (ofN (lenL tapiPair x4)) (ofN (lenL tapiPair x4))))) (both (br (fitL tapiPair (appL tapiPair [] (subL tapiPair x4 (toN (0 : Int)) (toN x2)))) (br (fitL tapiPair (appL tapiPair (appL tapiPair [] (subL tapiPair x4 (toN (0 : Int)) (toN x2))) ((ixL tapiPair x0 x1) :: []))) (br (fitL tapiPair (appL tapiPair (appL tapiPair (appL tapiPair [] (subL tapiPair x4 (toN (0 : Int)) (toN x2))) ((ixL tapiPair x0 x1) :: [])) (subL tapiPair x4 (toN x2) (toN (ofN (lenL tapiPair x4)))))) (ref07_Make.l0 x0 (addI .i64 x1 (1 : Int)) (appL tapiPair (appL tapiPair (appL tapiPair [] (subL tapiPair x4 (toN (0 : Int)) (toN x2))) ((ixL tapiPair x0 x1) :: [])) (subL tapiPair x4 (toN x2) (toN (ofN (lenL tapiPair x4)))))) none) none) none) (br (fitL tapiPair (appL tapiPair [] (subL tapiPair x4 (toN (0 : Int)) (toN x2)))) (br (fitL tapiPair (appL tapiPair (appL tapiPair [] (subL tapiPair x4 (toN (0 : Int)) (toN x2))) ((ixL tapiPair x0 x1) :: []))) (br (fitL tapiPair (appL tapiPair (appL tapiPair (appL tapiPair [] (subL tapiPair x4 (toN (0 : Int)) (toN x2))) ((ixL tapiPair x0 x1) :: [])) (subL tapiPair x4 (toN x2) (toN (ofN (lenL tapiPair x4)))))) (ref07_Make.l0 x0 (addI .i64 x1 (1 : Int)) (appL tapiPair (appL tapiPair (appL tapiPair [] (subL tapiPair x4 (toN (0 : Int)) (toN x2))) ((ixL tapiPair x0 x1) :: [])) (subL tapiPair x4 (toN x2) (toN (ofN (lenL tapiPair x4)))))) none) none) none)) none) none) (both (both (br (andB (leI (0 : Int) (0 : Int)) (andB (leI (0 : Int) x2) (leI x2 (ofN (lenL tapiPair x4))))) (br (andB (leI (0 : Int) x2) (andB (leI x2 (ofN (lenL tapiPair x4))) (leI (ofN (lenL tapiPair x4)) (ofN (lenL tapiPair x4))))) (br (fitL tapiPair (appL tapiPair [] (subL tapiPair x4 (toN (0 : Int)) (toN x2)))) (br (fitL tapiPair (appL tapiPair (appL tapiPair [] (subL tapiPair x4 (toN (0 : Int)) (toN x2))) ((ixL tapiPair x0 x1) :: []))) (br (fitL tapiPair (appL tapiPair (appL tapiPair (appL tapiPair [] (subL tapiPair x4 (toN (0 : Int)) (toN x2))) ((ixL tapiPair x0 x1) :: [])) (subL tapiPair x4 (toN x2) (toN (ofN (lenL tapiPair x4)))))) (ref07_Make.l0 x0 (addI .i64 x1 (1 : Int)) (appL tapiPair (appL tapiPair (appL tapiPair [] (subL tapiPair x4 (toN (0 : Int)) (toN x2))) ((ixL tapiPair x0 x1) :: [])) (subL tapiPair x4 (toN x2) (toN (ofN (lenL tapiPair x4)))))) none) none) none) none) none) (br (andB (leI (0 : Int) x2) (andB (leI x2 (ofN (lenL tapiPair x4))) (leI (ofN (lenL tapiPair x4)) (ofN (lenL tapiPair x4))))) (br (andB (leI (0 : Int) (0 : Int)) (andB (leI (0 : Int) x2) (leI x2 (ofN (lenL tapiPair x4))))) (br (fitL tapiPair (appL tapiPair [] (subL tapiPair x4 (toN (0 : Int)) (toN x2)))) (br (fitL tapiPair (appL tapiPair (appL tapiPair [] (subL tapiPair x4 (toN (0 : Int)) (toN x2))) ((ixL tapiPair x0 x1) :: []))) (br (fitL tapiPair (appL tapiPair (appL tapiPair (appL tapiPair [] (subL tapiPair x4 (toN (0 : Int)) (toN x2))) ((ixL tapiPair x0 x1) :: [])) (subL tapiPair x4 (toN x2) (toN (ofN (lenL tapiPair x4)))))) (ref07_Make.l0 x0 (addI .i64 x1 (1 : Int)) (appL tapiPair (appL tapiPair (appL tapiPair [] (subL tapiPair x4 (toN (0 : Int)) (toN x2))) ((ixL tapiPair x0 x1) :: [])) (subL tapiPair x4 (toN x2) (toN (ofN (lenL tapiPair x4)))))) none) none) none) none) none)) (br (andB (leI (0 : Int) x2) (andB (leI x2 (ofN (lenL tapiPair x4))) (leI (ofN (lenL tapiPair x4)) (ofN (lenL tapiPair x4))))) (br (andB (leI (0 : Int) (0 : Int)) (andB (leI (0 : Int) x2) (leI x2 (ofN (lenL tapiPair x4))))) (both (br (fitL tapiPair (appL tapiPair [] (subL tapiPair x4 (toN (0 : Int)) (toN x2)))) (br (fitL tapiPair (appL tapiPair (appL tapiPair [] (subL tapiPair x4 (toN (0 : Int)) (toN x2))) ((ixL tapiPair x0 x1) :: []))) (br (fitL tapiPair (appL tapiPair (appL tapiPair (appL tapiPair [] (subL tapiPair x4 (toN (0 : Int)) (toN x2))) ((ixL tapiPair x0 x1) :: [])) (subL tapiPair x4 (toN x2) (toN (ofN (lenL tapiPair x4)))))) (ref07_Make.l0 x0 (addI .i64 x1 (1 : Int)) (appL tapiPair (appL tapiPair (appL tapiPair [] (subL tapiPair x4 (toN (0 : Int)) (toN x2))) ((ixL tapiPair x0 x1) :: [])) (subL tapiPair x4 (toN x2) (toN (ofN (lenL tapiPair x4)))))) none) none) none) (br (fitL tapiPair (appL tapiPair [] (subL tapiPair x4 (toN (0 : Int)) (toN x2)))) (br (fitL tapiPair (appL tapiPair (appL tapiPair [] (subL tapiPair x4 (toN (0 : Int)) (toN x2))) ((ixL tapiPair x0 x1) :: []))) (br (fitL tapiPair (appL tapiPair (appL tapiPair (appL tapiPair [] (subL tapiPair x4 (toN (0 : Int)) (toN x2))) ((ixL tapiPair x0 x1) :: [])) (subL tapiPair x4 (toN x2) (toN (ofN (lenL tapiPair x4)))))) (ref07_Make.l0 x0 (addI .i64 x1 (1 : Int)) (appL tapiPair (appL tapiPair (appL tapiPair [] (subL tapiPair x4 (toN (0 : Int)) (toN x2))) ((ixL tapiPair x0 x1) :: [])) (subL tapiPair x4 (toN x2) (toN (ofN (lenL tapiPair x4)))))) none) none) none)) none) none))) (both (br (andB (leI (0 : Int) (0 : Int)) (andB (leI (0 : Int) x2) (leI x2 (ofN (lenL tapiPair x4))))) (br (andB (leI (0 : Int) x2) (andB (leI x2 (ofN (lenL tapiPair x4))) (leI (ofN (lenL tapiPair x4)) (ofN (lenL tapiPair x4))))) (both (both (br (fitL tapiPair (appL tapiPair [] (subL tapiPair x4 (toN (0 : Int)) (toN x2)))) (br (fitL tapiPair (appL tapiPair (appL tapiPair [] (subL tapiPair x4 (toN (0 : Int)) (toN x2))) ((ixL tapiPair x0 x1) :: []))) (br (fitL tapiPair (appL tapiPair (appL tapiPair (appL tapiPair [] (subL tapiPair x4 (toN (0 : Int)) (toN x2))) ((ixL tapiPair x0 x1) :: [])) (subL tapiPair x4 (toN x2) (toN (ofN (lenL tapiPair x4)))))) (ref07_Make.l0 x0 (addI .i64 x1 (1 : Int)) (appL tapiPair (appL tapiPair (appL tapiPair [] (subL tapiPair x4 (toN (0 : Int)) (toN x2))) ((ixL tapiPair x0 x1) :: [])) (subL tapiPair x4 (toN x2) (toN (ofN (lenL tapiPair x4)))))) none) none) none) (br (fitL tapiPair (appL tapiPair [] (subL tapiPair x4 (toN (0 : Int)) (toN x2)))) (br (fitL tapiPair (appL tapiPair (appL tapiPair [] (subL tapiPair x4 (toN (0 : Int)) (toN x2))) ((ixL tapiPair x0 x1) :: []))) (br (fitL tapiPair (appL tapiPair (appL tapiPair (appL tapiPair [] (subL tapiPair x4 (toN (0 : Int)) (toN x2))) ((ixL tapiPair x0 x1) :: [])) (subL tapiPair x4 (toN x2) (toN (ofN (lenL tapiPair x4)))))) (ref07_Make.l0 x0 (addI .i64 x1 (1 : Int)) (appL tapiPair (appL tapiPair (appL tapiPair [] (subL tapiPair x4 (toN (0 : Int)) (toN x2))) ((ixL tapiPair x0 x1) :: [])) (subL tapiPair x4 (toN x2) (toN (ofN (lenL tapiPair x4)))))) none) none) none)) (br (fitL tapiPair (appL tapiPair [] (subL tapiPair x4 (toN (0 : Int)) (toN x2)))) (br (fitL tapiPair (appL tapiPair (appL tapiPair [] (subL tapiPair x4 (toN (0 : Int)) (toN x2))) ((ixL tapiPair x0 x1) :: []))) (br (fitL tapiPair (appL tapiPair (appL tapiPair (appL tapiPair [] (subL tapiPair x4 (toN (0 : Int)) (toN x2))) ((ixL tapiPair x0 x1) :: [])) (subL tapiPair x4 (toN x2) (toN (ofN (lenL tapiPair x4)))))) (ref07_Make.l0 x0 (addI .i64 x1 (1 : Int)) (appL tapiPair (appL tapiPair (appL tapiPair [] (subL tapiPair x4 (toN (0 : Int)) (toN x2))) ((ixL tapiPair x0 x1) :: [])) (subL tapiPair x4 (toN x2) (toN (ofN (lenL tapiPair x4)))))) none) none) none)) none) none) (both (both (both (br (andB (leI (0 : Int) (0 : Int)) (andB (leI (0 : Int) x2) (leI x2 (ofN (lenL tapiPair x4))))) (br (andB (leI (0 : Int) x2) (andB (leI x2 (ofN (lenL tapiPair x4))) (leI (ofN (lenL tapiPair x4)) (ofN (lenL tapiPair x4))))) (br (fitL tapiPair (appL tapiPair [] (subL tapiPair x4 (toN (0 : Int)) (toN x2)))) (br (fitL tapiPair (appL tapiPair (appL tapiPair [] (subL tapiPair x4 (toN (0 : Int)) (toN x2))) ((ixL tapiPair x0 x1) :: []))) (br (fitL tapiPair (appL tapiPair (appL tapiPair (appL tapiPair [] (subL tapiPair x4 (toN (0 : Int)) (toN x2))) ((ixL tapiPair x0 x1) :: [])) (subL tapiPair x4 (toN x2) (toN (ofN (lenL tapiPair x4)))))) (ref07_Make.l0 x0 (addI .i64 x1 (1 : Int)) (appL tapiPair (appL tapiPair (appL tapiPair [] (subL tapiPair x4 (toN (0 : Int)) (toN x2))) ((ixL tapiPair x0 x1) :: [])) (subL tapiPair x4 (toN x2) (toN (ofN (lenL tapiPair x4)))))) none) none) none) none) none) (br (andB (leI (0 : Int) x2) (andB (leI x2 (ofN (lenL tapiPair x4))) (leI (ofN (lenL tapiPair x4)) (ofN (lenL tapiPair x4))))) (br (andB (leI (0 : Int) (0 : Int)) (andB (leI (0 : Int) x2) (leI x2 (ofN (lenL tapiPair x4))))) (br (fitL tapiPair (appL tapiPair [] (subL tapiPair x4 (toN (0 : Int)) (toN x2)))) (br (fitL tapiPair (appL tapiPair (appL tapiPair [] (subL tapiPair x4 (toN (0 : Int)) (toN x2))) ((ixL tapiPair x0 x1) :: []))) (br (fitL tapiPair (appL tapiPair (appL tapiPair (appL tapiPair [] (subL tapiPair x4 (toN (0 : Int)) (toN x2))) ((ixL tapiPair x0 x1) :: [])) (subL tapiPair x4 (toN x2) (toN (ofN (lenL tapiPair x4)))))) (ref07_Make.l0 x0 (addI .i64 x1 (1 : Int)) (appL tapiPair (appL tapiPair (appL tapiPair [] (subL tapiPair x4 (toN (0 : Int)) (toN x2))) ((ixL tapiPair x0 x1) :: [])) (subL tapiPair x4 (toN x2) (toN (ofN (lenL tapiPair x4)))))) none) none) none) none) none)) (both (br (andB (leI (0 : Int) (0 : Int)) (andB (leI (0 : Int) x2) (leI x2 (ofN (lenL tapiPair x4))))) (br (andB (leI (0 : Int) x2) (andB (leI x2 (ofN (lenL tapiPair x4))) (leI (ofN (lenL tapiPair x4)) (ofN (lenL tapiPair x4))))) (br (fitL tapiPair (appL tapiPair [] (subL tapiPair x4 (toN (0 : Int)) (toN x2)))) (br (fitL tapiPair (appL tapiPair (appL tapiPair [] (subL tapiPair x4 (toN (0 : Int)) (toN x2))) ((ixL tapiPair x0 x1) :: []))) (br (fitL tapiPair (appL tapiPair (appL tapiPair (appL tapiPair [] (subL tapiPair x4 (toN (0 : Int)) (toN x2))) ((ixL tapiPair x0 x1) :: [])) (subL tapiPair x4 (toN x2) (toN (ofN (lenL tapiPair x4)))))) (ref07_Make.l0 x0 (addI .i64 x1 (1 : Int)) (appL tapiPair (appL tapiPair (appL tapiPair [] (subL tapiPair x4 (toN (0 : Int)) (toN x2))) ((ixL tapiPair x0 x1) :: [])) (subL tapiPair x4 (toN x2) (toN (ofN (lenL tapiPair x4)))))) none) none) none) none) none) (br (andB (leI (0 : Int) x2) (andB (leI x2 (ofN (lenL tapiPair x4))) (leI (ofN (lenL tapiPair x4)) (ofN (lenL tapiPair x4))))) (br (andB (leI (0 : Int) (0 : Int)) (andB (leI (0 : Int) x2) (leI x2 (ofN (lenL tapiPair x4))))) (br (fitL tapiPair (appL tapiPair [] (subL tapiPair x4 (toN (0 : Int)) (toN x2)))) (br (fitL tapiPair (appL tapiPair (appL tapiPair [] (subL tapiPair x4 (toN (0 : Int)) (toN x2))) ((ixL tapiPair x0 x1) :: []))) (br (fitL tapiPair (appL tapiPair (appL tapiPair (appL tapiPair [] (subL tapiPair x4 (toN (0 : Int)) (toN x2))) ((ixL tapiPair x0 x1) :: [])) (subL tapiPair x4 (toN x2) (toN (ofN (lenL tapiPair x4)))))) (ref07_Make.l0 x0 (addI .i64 x1 (1 : Int)) (appL tapiPair (appL tapiPair (appL tapiPair [] (subL tapiPair x4 (toN (0 : Int)) (toN x2))) ((ixL tapiPair x0 x1) :: [])) (subL tapiPair x4 (toN x2) (toN (ofN (lenL tapiPair x4)))))) none) none) none) none) none))) (br (andB (leI (0 : Int) x2) (andB (leI x2 (ofN (lenL tapiPair x4))) (leI (ofN (lenL tapiPair x4)) (ofN (lenL tapiPair x4))))) (br (andB (leI (0 : Int) (0 : Int)) (andB (leI (0 : Int) x2) (leI x2 (ofN (lenL tapiPair x4))))) (both (both (br (fitL tapiPair (appL tapiPair [] (subL tapiPair x4 (toN (0 : Int)) (toN x2)))) (br (fitL tapiPair (appL tapiPair (appL tapiPair [] (subL tapiPair x4 (toN (0 : Int)) (toN x2))) ((ixL tapiPair x0 x1) :: []))) (br (fitL tapiPair (appL tapiPair (appL tapiPair (appL tapiPair [] (subL tapiPair x4 (toN (0 : Int)) (toN x2))) ((ixL tapiPair x0 x1) :: [])) (subL tapiPair x4 (toN x2) (toN (ofN (lenL tapiPair x4)))))) (ref07_Make.l0 x0 (addI .i64 x1 (1 : Int)) (appL tapiPair (appL tapiPair (appL tapiPair [] (subL tapiPair x4 (toN (0 : Int)) (toN x2))) ((ixL tapiPair x0 x1) :: [])) (subL tapiPair x4 (toN x2) (toN (ofN (lenL tapiPair x4)))))) none) none) none) (br (fitL tapiPair (appL tapiPair [] (subL tapiPair x4 (toN (0 : Int)) (toN x2)))) (br (fitL tapiPair (appL tapiPair (appL tapiPair [] (subL tapiPair x4 (toN (0 : Int)) (toN x2))) ((ixL tapiPair x0 x1) :: []))) (br (fitL tapiPair (appL tapiPair (appL tapiPair (appL tapiPair [] (subL tapiPair x4 (toN (0 : Int)) (toN x2))) ((ixL tapiPair x0 x1) :: [])) (subL tapiPair x4 (toN x2) (toN (ofN (lenL tapiPair x4)))))) (ref07_Make.l0 x0 (addI .i64 x1 (1 : Int)) (appL tapiPair (appL tapiPair (appL tapiPair [] (subL tapiPair x4 (toN (0 : Int)) (toN x2))) ((ixL tapiPair x0 x1) :: [])) (subL tapiPair x4 (toN x2) (toN (ofN (lenL tapiPair x4)))))) none) none) none)) (br (fitL tapiPair (appL tapiPair [] (subL tapiPair x4 (toN (0 : Int)) (toN x2)))) (br (fitL tapiPair (appL tapiPair (appL tapiPair [] (subL tapiPair x4 (toN (0 : Int)) (toN x2))) ((ixL tapiPair x0 x1) :: []))) (br (fitL tapiPair (appL tapiPair (appL tapiPair (appL tapiPair [] (subL tapiPair x4 (toN (0 : Int)) (toN x2))) ((ixL tapiPair x0 x1) :: [])) (subL tapiPair x4 (toN x2) (toN (ofN (lenL tapiPair x4)))))) (ref07_Make.l0 x0 (addI .i64 x1 (1 : Int)) (appL tapiPair (appL tapiPair (appL tapiPair [] (subL tapiPair x4 (toN (0 : Int)) (toN x2))) ((ixL tapiPair x0 x1) :: [])) (subL tapiPair x4 (toN x2) (toN (ofN (lenL tapiPair x4)))))) none) none) none)) none) none)))) none) := (congrFun (congrFun (jnO_eq _ _) _) _).trans (by kernel_rfl)
theorem ref07_Get.eq (a0 : den (.list tapiPair)) (a1 : den .str) : ref07_Get a0 a1 = ref07_Get.l0 a0 a1 (subI .i64 (ofN (lenL tapiPair a0)) (1 : Int)) := (callW_eq _ _ _ _ _).trans (by kernel_rfl)
theorem ref07_Get.l0.eq (x0 : den (.list tapiPair)) (x1 : den .str) (x2 : Int) : ref07_Get.l0 x0 x1 x2 = br (leI (0 : Int) x2) (br (andB (leI (0 : Int) x2) (ltI x2 (ofN (lenL tapiPair x0)))) (br (eqS (ixL tapiPair x0 x2).1 x1) (br (andB (leI (0 : Int) x2) (ltI x2 (ofN (lenL tapiPair x0)))) (some ((ixL tapiPair x0 x2).2.1, (true, ()))) none) (ref07_Get.l0 x0 x1 (subI .i64 x2 (1 : Int)))) none) (some (ByteArray.empty, (false, ()))) := (loopB_eq _ _ _ _ _ _).trans (by kernel_rfl)
theorem node_May.eq (a0 : den tapiNode) : node_May a0 = bnd (node_formed a0) fun r0 => br (ltI a0.1 (1 : Int)) (some (11 : Int)) (br (ltI (6 : Int) a0.1) (some (11 : Int)) (bnd (node_long a0) fun r1 => br r1 (some (6 : Int)) (bnd (node_Same a0 (r0.1, (r0.2.1, (r0.2.2.1, (r0.2.2.2.1, (r0.2.2.2.2.1, (r0.2.2.2.2.2.1, (r0.2.2.2.2.2.2.1, (r0.2.2.2.2.2.2.2.1, ((maxI a0.2.2.2.2.2.2.2.2.1 (0 : Int)), ())))))))))) fun r2 => br (notB r2) (some (4 : Int)) (bnd (node_whole a0) fun r3 => br (notB r3) (some (4 : Int)) (some (0 : Int)))))) := (callW_eq _ _ _ _ _).trans (by kernel_rfl)
theorem trie_Is.eq (a0 : den (.list tapiNode)) (a1 : Int) (a2 : Int) : trie_Is a0 a1 a2 = bnd (heap_Binds a0 a1) fun r0 => br (notB (eqI r0.2.1 (0 : Int))) (some false) (bnd (trie_Make a2 r0.1) fun r1 => br (eqI r1.2.2.1 (0 : Int)) (bnd (heap_Same a0 a1 r1.1 r1.2.1) fun r2 => some r2) (some false)) := (callW_eq _ _ _ _ _).trans (by kernel_rfl)
theorem graft_New.eq (a0 : Int) (a1 : Int) (a2 : den .str) (a3 : den .str) (a4 : den .str) (a5 : Int) : graft_New a0 a1 a2 a3 a4 a5 = bnd (hash_Of a2 a5) fun r0 => some ((), ((a1, (a2, (a3, (a4, (a5, (r0, (a0, ((), ((0 : Int), ((0 : Int), (ByteArray.empty, (ByteArray.empty, ((0 : Int), ([], ((0 : Int), ([], ((0 : Int), ((0 : Int), ())))))))))))))))))), ([], ()))) := (callW_eq _ _ _ _ _).trans (by kernel_rfl)
theorem gG_Want.eq (a0 : denO (.box tgraftGraftO)) (a1 : denO (.row 104 tgraftstep true)) : gG_Want a0 a1 = some (a0.2.2.2.2.2.2.1, (a0, (a1, ()))) := (callW_eq _ _ _ _ _).trans (by kernel_rfl)
theorem gG_Feed.eq (a0 : den tapiNode) (a1 : denO (.box tgraftGraftO)) (a2 : denO (.row 104 tgraftstep true)) : gG_Feed a0 a1 a2 = bnd (gG_Want a1 a2) fun r0 => br (eqI r0.1 (0 : Int)) (some ((), (r0.2.1, (r0.2.2.1, ())))) (br (notB (eqI a0.1 (2 : Int))) (gG_Feed.j0 r0.1 true (r0.2.1.1, (r0.2.1.2.1, (r0.2.1.2.2.1, (r0.2.1.2.2.2.1, (r0.2.1.2.2.2.2.1, (r0.2.1.2.2.2.2.2.1, ((0 : Int), r0.2.1.2.2.2.2.2.2.2))))))) r0.2.2.1 a0) (bnd (hash_Levels r0.2.1.2.2.2.2.1) fun r1 => gG_Feed.j0 r0.1 (leI r1 (ofN (lenL tgraftstep r0.2.2.1))) (r0.2.1.1, (r0.2.1.2.1, (r0.2.1.2.2.1, (r0.2.1.2.2.2.1, (r0.2.1.2.2.2.2.1, (r0.2.1.2.2.2.2.2.1, ((0 : Int), r0.2.1.2.2.2.2.2.2.2))))))) r0.2.2.1 a0)) := (callW_eq _ _ _ _ _).trans (by kernel_rfl)
theorem gG_Feed.j0.eq (x0 : Int) (x1 : Bool) (x2 : denO (.box tgraftGraftO)) (x3 : denO (.row 104 tgraftstep true)) (x4 : denO (.box tapiNode)) : gG_Feed.j0 x0 x1 x2 x3 x4 = br x1 (both (some ((), ((x2.1, (x2.2.1, (x2.2.2.1, (x2.2.2.2.1, (x2.2.2.2.2.1, (x2.2.2.2.2.2.1, (x2.2.2.2.2.2.2.1, ((), (x0, x4))))))))), (x3, ())))) (some ((), ((x2.1, (x2.2.1, (x2.2.2.1, (x2.2.2.2.1, (x2.2.2.2.2.1, (x2.2.2.2.2.2.1, (x2.2.2.2.2.2.2.1, ((), (x0, x4))))))))), (x3, ()))))) (bnd (hash_Chunk x2.2.2.2.2.2.1 (ofN (lenL tgraftstep x3)) x2.2.2.2.2.1) fun r0 => br (fitL tgraftstep (appL tgraftstep x3 ((x0, (x4.1, (x4.2.1, (x4.2.2.1, (x4.2.2.2.1, (x4.2.2.2.2.1, (x4.2.2.2.2.2.1, (x4.2.2.2.2.2.2.1, (x4.2.2.2.2.2.2.2.1, (x4.2.2.2.2.2.2.2.2.1, (r0, ()))))))))))) :: []))) (bnd (branch_Child x4 r0) fun r1 => some ((), ((x2.1, (x2.2.1, (x2.2.2.1, (x2.2.2.2.1, (x2.2.2.2.2.1, (x2.2.2.2.2.2.1, (r1, x2.2.2.2.2.2.2.2))))))), ((appL tgraftstep x3 ((x0, (x4.1, (x4.2.1, (x4.2.2.1, (x4.2.2.2.1, (x4.2.2.2.2.1, (x4.2.2.2.2.2.1, (x4.2.2.2.2.2.2.1, (x4.2.2.2.2.2.2.2.1, (x4.2.2.2.2.2.2.2.2.1, (r0, ()))))))))))) :: [])), ())))) none) := (congrFun (congrFun (jnO_eq _ _) _) _).trans (by kernel_rfl)
theorem gG_Plan.eq (a0 : denO (.box tgraftGraftO)) (a1 : denO (.row 104 tgraftstep true)) : gG_Plan a0 a1 = bnd (gG_changes_o (a0.1, (a0.2.1, (a0.2.2.1, (a0.2.2.2.1, (a0.2.2.2.2.1, (a0.2.2.2.2.2.1, (a0.2.2.2.2.2.2.1, (a1, a0.2.2.2.2.2.2.2.2))))))))) fun r0 => br (notB r0.1) (some ((((), ((0 : Int), ((), ()))), (false, ())), (r0.2.1, ((), ([], ([], ())))))) (bnd (gG_bound_o r0.2.1) fun r1 => br r1.1.2.1 (gG_Plan.j0 r1.2.1 ((), ((0 : Int), ((), ()))) (0 : Int) [] []) (gG_Plan.j0 r1.2.1 ((), ((0 : Int), ((), ()))) (1 : Int) [] [])) := (callW_eq _ _ _ _ _).trans (by kernel_rfl)
theorem gG_Plan.j0.eq (x0 : denO (.box tgraftGraft)) (x1 : denO (.box (tPl 4 5))) (x2 : denO (.box (.int .i64))) (x3 : denO (.row 58 tapiNode false)) (x4 : denO (.row 24 (.int .i64) false)) : gG_Plan.j0 x0 x1 x2 x3 x4 = bnd (gG_bottom ((), ((0 : Int), ((), ()))) x0) fun r0 => bnd (slices_Backwardgs r0.2.1.2.2.2.2.2.2.2.1) fun r1 => bnd (slices_Backwardgs_1 r1.2.1) fun r2 => gG_Plan.e1 r2 r0.2.1 ((), (x1.2.1, ((), ()))) x2 ((), (r0.1.1.2.1, ((), ()))) r0.1.2.1 x3 x4 r0.2.2.1 r0.2.2.2.1 := (congrFun (congrFun (jnO_eq _ _) _) _).trans (by kernel_rfl)
theorem gG_Plan.e1.nil (x0 : denO (.box tgraftGraft)) (x1 : denO (.box (tPl 6 7))) (x2 : denO (.box (.int .i64))) (x3 : denO (.box (tPl 8 9))) (x4 : denO (.box (.int .i64))) (x5 : denO (.row 58 tapiNode false)) (x6 : denO (.row 24 (.int .i64) false)) (x7 : denO (.row 58 tapiNode false)) (x8 : denO (.row 24 (.int .i64) false)) : gG_Plan.e1 [] x0 x1 x2 x3 x4 x5 x6 x7 x8 = some ((((), (x4, ((), ()))), (true, ())), (x0, ((), (x7, (x8, ()))))) := by kernel_rfl
theorem gG_Plan.e1.cons (y : den (.tcons (.int .i64) (.tcons tgraftstep .tnil))) (ys : List (den (.tcons (.int .i64) (.tcons tgraftstep .tnil)))) (x0 : denO (.box tgraftGraft)) (x1 : denO (.box (tPl 6 7))) (x2 : denO (.box (.int .i64))) (x3 : denO (.box (tPl 8 9))) (x4 : denO (.box (.int .i64))) (x5 : denO (.row 58 tapiNode false)) (x6 : denO (.row 24 (.int .i64) false)) (x7 : denO (.row 58 tapiNode false)) (x8 : denO (.row 24 (.int .i64) false)) : gG_Plan.e1 (y :: ys) x0 x1 x2 x3 x4 x5 x6 x7 x8 = br (fitL (.int .i64) (appL (.int .i64) x8 (y.2.1.1 :: []))) (bnd (branch_With (y.2.1.2.1, (y.2.1.2.2.1, (y.2.1.2.2.2.1, (y.2.1.2.2.2.2.1, (y.2.1.2.2.2.2.2.1, (y.2.1.2.2.2.2.2.2.1, (y.2.1.2.2.2.2.2.2.2.1, (y.2.1.2.2.2.2.2.2.2.2.1, (y.2.1.2.2.2.2.2.2.2.2.2.1, ()))))))))) y.2.1.2.2.2.2.2.2.2.2.2.2.1 x4) fun r0 => bnd (branch_Sized r0 (addI .i64 y.2.1.2.2.2.2.2.2.2.2.1 x2)) fun r1 => bnd (plan_Add ((), (x3.2.1, ((), ()))) r1 x7 (appL (.int .i64) x8 (y.2.1.1 :: []))) fun r2 => gG_Plan.e1 ys x0 ((), (x1.2.1, ((), ()))) x2 ((), (r2.1.1.2.1, ((), ()))) r2.1.2.1 x5 x6 r2.2.2.2.1 r2.2.2.1) none := by kernel_rfl
theorem plan_Do.eq (a0 : den (.list tapiNode)) (a1 : den tplanPlan) : plan_Do a0 a1 = bnd (plan_May a1) fun r0 => br (notB (eqI r0 (0 : Int))) (some ([], ((0 : Int), ((4 : Int), ())))) (bnd (heap_May a0) fun r1 => br (notB (eqI r1 (0 : Int))) (some ([], ((0 : Int), ((4 : Int), ())))) (bnd (plan_fits a0 a1) fun r2 => br (notB r2) (some ([], ((0 : Int), ((4 : Int), ())))) (plan_Do.l0 a0 (ofN (lenL tapiNode a0)) (0 : Int) a1 []))) := (callW_eq _ _ _ _ _).trans (by kernel_rfl)
theorem plan_Do.l0.eq (x0 : den (.list tapiNode)) (x1 : Int) (x2 : Int) (x3 : denO (.box tplanPlan)) (x4 : denO (.row 58 tapiNode false)) : plan_Do.l0 x0 x1 x2 x3 x4 = br (ltI x2 x1) (br (andB (leI (0 : Int) x2) (ltI x2 (ofN (lenL tapiNode x0)))) (bnd (node_Copy (ixL tapiNode x0 x2)) fun r0 => br (fitL tapiNode (appL tapiNode x4 ((r0.1.1, (r0.1.2.1, (r0.1.2.2.1, (r0.1.2.2.2.1, (r0.2.1, (r0.1.2.2.2.2.2.1, (r0.2.2.1, r0.1.2.2.2.2.2.2.2))))))) :: []))) (plan_Do.l0 x0 x1 (addI .i64 x2 (1 : Int)) x3 (appL tapiNode x4 ((r0.1.1, (r0.1.2.1, (r0.1.2.2.1, (r0.1.2.2.2.1, (r0.2.1, (r0.1.2.2.2.2.2.1, (r0.2.2.1, r0.1.2.2.2.2.2.2.2))))))) :: []))) none) none) (plan_Do.l1 x3.1 (ofN (lenL tapiNode x3.1)) (0 : Int) x3 x4 []) := (loopB_eq _ _ _ _ _ _).trans (by kernel_rfl)
theorem plan_Do.l1.eq (x0 : den (.list tapiNode)) (x1 : Int) (x2 : Int) (x3 : denO (.box tplanPlan)) (x4 : denO (.row 58 tapiNode false)) (x5 : denO (.row 24 (.int .i64) false)) : plan_Do.l1 x0 x1 x2 x3 x4 x5 = br (ltI x2 x1) (br (andB (leI (0 : Int) x2) (ltI x2 (ofN (lenL tapiNode x0)))) (bnd (plan_Fill_o (ixL tapiNode x0 x2) x5) fun r0 => br (fitL tapiNode (appL tapiNode x4 (r0.1.1 :: []))) (br (fitL (.int .i64) (appL (.int .i64) r0.2.1 ((ofN (lenL tapiNode (appL tapiNode x4 (r0.1.1 :: [])))) :: []))) (plan_Do.l1 x0 x1 (addI .i64 x2 (1 : Int)) x3 (appL tapiNode x4 (r0.1.1 :: [])) (appL (.int .i64) r0.2.1 ((ofN (lenL tapiNode (appL tapiNode x4 (r0.1.1 :: [])))) :: []))) none) none) none) (bnd (plan_Ref x3.2.1 x5) fun r1 => some (x4, r1)) := (loopB_eq _ _ _ _ _ _).trans (by kernel_rfl)
theorem pP_Want.eq (a0 : denO (.box tprunePruneO)) (a1 : denO (.row 127 tgraftstep true)) : pP_Want a0 a1 = some (a0.2.2.2.1, (a0, (a1, ()))) := (callW_eq _ _ _ _ _).trans (by kernel_rfl)
theorem ref17_Fits.eq (a0 : den (.list tapiNode)) (a1 : Int) : ref17_Fits a0 a1 = br (leI (0 : Int) a1) (br (leI a1 (ofN (lenL tapiNode a0))) (bnd (ref17_May a0) fun r0 => some r0) (some false)) (some false) := (callW_eq _ _ _ _ _).trans (by kernel_rfl)
theorem ref17_shape.eq (a0 : den (.list tapiNode)) (a1 : Int) (a2 : den (.list tapiNode)) (a3 : Int) : ref17_shape a0 a1 a2 a3 = br (eqI a1 (0 : Int)) (ref17_shape.j0 a0 a1 a2 a3 true) (ref17_shape.j0 a0 a1 a2 a3 (eqI a3 (0 : Int))) := (callW_eq _ _ _ _ _).trans (by kernel_rfl)
theorem ref17_shape.j0.eq (x0 : den (.list tapiNode)) (x1 : Int) (x2 : den (.list tapiNode)) (x3 : Int) (x4 : Bool) : ref17_shape.j0 x0 x1 x2 x3 x4 = br x4 (br (eqI x1 (0 : Int)) (some (eqI x3 (0 : Int))) (some false)) (br (andB (leI (0 : Int) (subI .i64 x1 (1 : Int))) (ltI (subI .i64 x1 (1 : Int)) (ofN (lenL tapiNode x0)))) (br (andB (leI (0 : Int) (subI .i64 x3 (1 : Int))) (ltI (subI .i64 x3 (1 : Int)) (ofN (lenL tapiNode x2)))) (both (both (br (notB (eqI (ofN (lenL (.int .i64) (ixL tapiNode x0 (subI .i64 x1 (1 : Int))).2.2.2.2.1)) (ofN (lenL (.int .i64) (ixL tapiNode x2 (subI .i64 x3 (1 : Int))).2.2.2.2.1)))) (some false) (ref17_shape.l1 x0 x2 (0 : Int) (ixL tapiNode x0 (subI .i64 x1 (1 : Int))) (ixL tapiNode x2 (subI .i64 x3 (1 : Int))))) (br (notB (eqI (ofN (lenL (.int .i64) (ixL tapiNode x0 (subI .i64 x1 (1 : Int))).2.2.2.2.1)) (ofN (lenL (.int .i64) (ixL tapiNode x2 (subI .i64 x3 (1 : Int))).2.2.2.2.1)))) (some false) (ref17_shape.l1 x0 x2 (0 : Int) (ixL tapiNode x0 (subI .i64 x1 (1 : Int))) (ixL tapiNode x2 (subI .i64 x3 (1 : Int)))))) (both (both (br (notB (eqI (ofN (lenL (.int .i64) (ixL tapiNode x0 (subI .i64 x1 (1 : Int))).2.2.2.2.1)) (ofN (lenL (.int .i64) (ixL tapiNode x2 (subI .i64 x3 (1 : Int))).2.2.2.2.1)))) (some false) (ref17_shape.l1 x0 x2 (0 : Int) (ixL tapiNode x0 (subI .i64 x1 (1 : Int))) (ixL tapiNode x2 (subI .i64 x3 (1 : Int))))) (both (br (notB (eqI (ofN (lenL (.int .i64) (ixL tapiNode x0 (subI .i64 x1 (1 : Int))).2.2.2.2.1)) (ofN (lenL (.int .i64) (ixL tapiNode x2 (subI .i64 x3 (1 : Int))).2.2.2.2.1)))) (some false) (ref17_shape.l1 x0 x2 (0 : Int) (ixL tapiNode x0 (subI .i64 x1 (1 : Int))) (ixL tapiNode x2 (subI .i64 x3 (1 : Int))))) (br (notB (eqI (ofN (lenL (.int .i64) (ixL tapiNode x0 (subI .i64 x1 (1 : Int))).2.2.2.2.1)) (ofN (lenL (.int .i64) (ixL tapiNode x2 (subI .i64 x3 (1 : Int))).2.2.2.2.1)))) (some false) (ref17_shape.l1 x0 x2 (0 : Int) (ixL tapiNode x0 (subI .i64 x1 (1 : Int))) (ixL tapiNode x2 (subI .i64 x3 (1 : Int))))))) (both (br (notB (eqI (ofN (lenL (.int .i64) (ixL tapiNode x0 (subI .i64 x1 (1 : Int))).2.2.2.2.1)) (ofN (lenL (.int .i64) (ixL tapiNode x2 (subI .i64 x3 (1 : Int))).2.2.2.2.1)))) (some false) (ref17_shape.l1 x0 x2 (0 : Int) (ixL tapiNode x0 (subI .i64 x1 (1 : Int))) (ixL tapiNode x2 (subI .i64 x3 (1 : Int))))) (both (br (notB (eqI (ofN (lenL (.int .i64) (ixL tapiNode x0 (subI .i64 x1 (1 : Int))).2.2.2.2.1)) (ofN (lenL (.int .i64) (ixL tapiNode x2 (subI .i64 x3 (1 : Int))).2.2.2.2.1)))) (some false) (ref17_shape.l1 x0 x2 (0 : Int) (ixL tapiNode x0 (subI .i64 x1 (1 : Int))) (ixL tapiNode x2 (subI .i64 x3 (1 : Int))))) (br (notB (eqI (ofN (lenL (.int .i64) (ixL tapiNode x0 (subI .i64 x1 (1 : Int))).2.2.2.2.1)) (ofN (lenL (.int .i64) (ixL tapiNode x2 (subI .i64 x3 (1 : Int))).2.2.2.2.1)))) (some false) (ref17_shape.l1 x0 x2 (0 : Int) (ixL tapiNode x0 (subI .i64 x1 (1 : Int))) (ixL tapiNode x2 (subI .i64 x3 (1 : Int))))))))) none) none) := (congrFun (congrFun (jnO_eq _ _) _) _).trans (by kernel_rfl)
theorem ref17_shape.l1.eq (x0 : den (.list tapiNode)) (x1 : den (.list tapiNode)) (x2 : Int) (x3 : denO (.box tapiNode)) (x4 : denO (.box tapiNode)) : ref17_shape.l1 x0 x1 x2 x3 x4 = br (ltI x2 (ofN (lenL (.int .i64) x3.2.2.2.2.1))) (br (andB (leI (0 : Int) x2) (ltI x2 (ofN (lenL (.int .i64) x3.2.2.2.2.1)))) (br (andB (leI (0 : Int) x2) (ltI x2 (ofN (lenL (.int .i64) x4.2.2.2.2.1)))) (bnd (ref17_shape x0 (ixL (.int .i64) x3.2.2.2.2.1 x2) x1 (ixL (.int .i64) x4.2.2.2.2.1 x2)) fun r0 => br (notB r0) (some false) (ref17_shape.l1 x0 x1 (addI .i64 x2 (1 : Int)) x3 x4)) none) none) (bnd (ref17_shape x0 x3.2.2.2.2.2.1 x1 x4.2.2.2.2.2.1) fun r1 => br (notB r1) (some false) (bnd (ref13_Same (x3.1, (x3.2.1, (x3.2.2.1, (x3.2.2.2.1, ([], ((0 : Int), (x3.2.2.2.2.2.2.1, (x3.2.2.2.2.2.2.2.1, ((0 : Int), ()))))))))) (x4.1, (x4.2.1, (x4.2.2.1, (x4.2.2.2.1, ([], ((0 : Int), (x4.2.2.2.2.2.2.1, (x4.2.2.2.2.2.2.2.1, ((0 : Int), ())))))))))) fun r2 => some r2)) := (loopB_eq _ _ _ _ _ _).trans (by kernel_rfl)
theorem hash_Of.eq (a0 : den .str) (a1 : Int) : hash_Of a0 a1 = hash_Of.l0 a0 a1 (14695981039346656037 : Int) (ofN (lenS a0)) (0 : Int) := (callW_eq _ _ _ _ _).trans (by kernel_rfl)
theorem hash_Of.l0.eq (x0 : den .str) (x1 : Int) (x2 : den (.int .u64)) (x3 : Int) (x4 : Int) : hash_Of.l0 x0 x1 x2 x3 x4 = br (ltI x4 x3) (br (andB (leI (0 : Int) x4) (ltI x4 (ofN (lenS x0)))) (hash_Of.l0 x0 x1 (mulI .u64 (xorI .u64 x2 (wrapI .u64 (getS x0 (toN x4)))) (1099511628211 : Int)) x3 (addI .i64 x4 (1 : Int))) none) (bnd (hash_cut x2 x1) fun r0 => some r0) := (loopB_eq _ _ _ _ _ _).trans (by kernel_rfl)
theorem hash_Levels.eq (a0 : Int) : hash_Levels a0 = bnd (hash_within a0) fun r0 => br (notB (eqI (5 : Int) (0 : Int))) (some (quoI .i64 (subI .i64 (addI .i64 r0 (5 : Int)) (1 : Int)) (5 : Int))) none := (callW_eq _ _ _ _ _).trans (by kernel_rfl)
theorem pP_lone.eq (a0 : denO (.box tprunePruneO)) (a1 : denO (.row 127 tgraftstep true)) : pP_lone a0 a1 = br (eqI (ofN (lenL tgraftstep a1)) (0 : Int)) (pP_lone.j0 true a0 a1) (br (notB (eqI a0.2.2.2.2.2.2.1 (1 : Int))) (pP_lone.j0 true a0 a1) (pP_lone.j0 (notB (eqS a0.2.2.2.2.2.2.2.1 a0.1)) a0 a1)) := (callW_eq _ _ _ _ _).trans (by kernel_rfl)
theorem pP_lone.j0.eq (x0 : Bool) (x1 : denO (.box tprunePruneO)) (x2 : denO (.row 127 tgraftstep true)) : pP_lone.j0 x0 x1 x2 = br x0 (some ((0 : Int), (x1, (x2, ())))) (br (andB (leI (0 : Int) (subI .i64 (ofN (lenL tgraftstep x2)) (1 : Int))) (ltI (subI .i64 (ofN (lenL tgraftstep x2)) (1 : Int)) (ofN (lenL tgraftstep x2)))) (both (pP_lone.j1 x1 x2 (ixL tgraftstep x2 (subI .i64 (ofN (lenL tgraftstep x2)) (1 : Int)))) (pP_lone.j1 x1 x2 (ixL tgraftstep x2 (subI .i64 (ofN (lenL tgraftstep x2)) (1 : Int))))) none) := (congrFun (congrFun (jnO_eq _ _) _) _).trans (by kernel_rfl)
theorem pP_lone.j1.eq (x0 : denO (.box tprunePruneO)) (x1 : denO (.row 127 tgraftstep true)) (x2 : denO (.box tgraftstep)) : pP_lone.j1 x0 x1 x2 = bnd (branch_Without (x2.2.1, (x2.2.2.1, (x2.2.2.2.1, (x2.2.2.2.2.1, (x2.2.2.2.2.2.1, (x2.2.2.2.2.2.2.1, (x2.2.2.2.2.2.2.2.1, (x2.2.2.2.2.2.2.2.2.1, (x2.2.2.2.2.2.2.2.2.2.1, ()))))))))) x2.2.2.2.2.2.2.2.2.2.2.1) fun r0 => bnd (branch_Only r0) fun r1 => br (notB r1.2.1) (some ((0 : Int), (x0, (x1, ())))) (some (r1.1, (x0, (x1, ())))) := (congrFun (congrFun (jnO_eq _ _) _) _).trans (by kernel_rfl)
theorem hash_Chunk.eq (a0 : den (.int .u64)) (a1 : Int) (a2 : Int) : hash_Chunk a0 a1 a2 = br (ltI a1 (0 : Int)) (some (0 : Int)) (bnd (hash_Levels a2) fun r0 => br (leI r0 a1) (some (0 : Int)) (bnd (hash_cut a0 a2) fun r1 => br (leI (0 : Int) (mulI .i64 (5 : Int) a1)) (some (wrapI .i64 (andI .u64 (shrI .u64 r1 (mulI .i64 (5 : Int) a1)) (31 : Int)))) none)) := (callW_eq _ _ _ _ _).trans (by kernel_rfl)
theorem branch_Child.eq (a0 : den tapiNode) (a1 : Int) : branch_Child a0 a1 = bnd (branch_branch a0) fun r0 => bnd (mask_Has r0.1.2.2.2.1 a1) fun r1 => br (notB r1) (some (0 : Int)) (bnd (mask_Place r0.1.2.2.2.1 a1) fun r2 => br (andB (leI (0 : Int) r2) (ltI r2 (ofN (lenL (.int .i64) r0.2.1)))) (some (ixL (.int .i64) r0.2.1 r2)) none) := (callW_eq _ _ _ _ _).trans (by kernel_rfl)
theorem node_Binds.eq (a0 : den tapiNode) : node_Binds a0 = br (eqI a0.1 (1 : Int)) (some ((), (((a0.2.1, (a0.2.2.1, ())) :: []), ()))) (br (eqI a0.1 (6 : Int)) (some ((), (((a0.2.1, (a0.2.2.1, ())) :: []), ()))) (br (eqI a0.1 (4 : Int)) (some ((), (((a0.2.1, (a0.2.2.1, ())) :: []), ()))) (br (eqI a0.1 (3 : Int)) (bnd (slices_CloneQQ a0.2.2.2.2.2.2.1) fun r0 => some ((), (r0.2.1, ()))) (some ((), ([], ())))))) := (callW_eq _ _ _ _ _).trans (by kernel_rfl)
theorem pair_Get.eq (a0 : den (.list tapiPair)) (a1 : den .str) : pair_Get a0 a1 = bnd (pair_ordered a0) fun r0 => bnd (pair_place r0 a1) fun r1 => br (notB r1.2.1) (some (ByteArray.empty, (false, ()))) (br (andB (leI (0 : Int) r1.1) (ltI r1.1 (ofN (lenL tapiPair r0)))) (some ((ixL tapiPair r0 r1.1).2.1, (true, ()))) none) := (callW_eq _ _ _ _ _).trans (by kernel_rfl)
theorem pP_Answer_o.eq (a0 : denO (.box tprunePrune)) : pP_Answer_o a0 = br (notB (eqI a0.2.2.2.1 (0 : Int))) (pP_Answer_o.j0 true a0) (br (notB (eqI a0.2.2.2.2.2.2.1 (1 : Int))) (pP_Answer_o.j0 (notB (eqI a0.2.2.2.2.2.2.1 (3 : Int))) a0) (pP_Answer_o.j0 false a0)) := (callW_eq _ _ _ _ _).trans (by kernel_rfl)
theorem pP_Answer_o.j0.eq (x0 : Bool) (x1 : denO (.box tprunePrune)) : pP_Answer_o.j0 x0 x1 = br x0 (some ((ByteArray.empty, (false, ())), (x1, ()))) (bnd (node_Binds (x1.2.2.2.2.2.2.1, (x1.2.2.2.2.2.2.2.1, (x1.2.2.2.2.2.2.2.2.1, (x1.2.2.2.2.2.2.2.2.2.1, (x1.2.2.2.2.2.2.2.2.2.2.1, (x1.2.2.2.2.2.2.2.2.2.2.2.1, (x1.2.2.2.2.2.2.2.2.2.2.2.2.1, (x1.2.2.2.2.2.2.2.2.2.2.2.2.2.1, (x1.2.2.2.2.2.2.2.2.2.2.2.2.2.2.1, ())))))))))) fun r0 => bnd (pair_Get r0.2.1 x1.1) fun r1 => some (r1, (x1, ()))) := (congrFun (congrFun (jnO_eq _ _) _) _).trans (by kernel_rfl)
theorem pP_bottom.eq (a0 : den (.pair (.nil 58) (.pair (.int .i64) (.pair (.nil 24) .unit)))) (a1 : denO (.box tprunePrune)) : pP_bottom a0 a1 = br (fitL (.int .i64) (appL (.int .i64) [] (a1.2.2.2.2.2.1 :: []))) (br (eqI a1.2.2.2.2.2.2.1 (1 : Int)) (some ((((), (a0.2.1, ((), ()))), ((0 : Int), (true, ()))), (a1, ([], ((appL (.int .i64) [] (a1.2.2.2.2.2.1 :: [])), ()))))) (bnd (node_Binds (a1.2.2.2.2.2.2.1, (a1.2.2.2.2.2.2.2.1, (a1.2.2.2.2.2.2.2.2.1, (a1.2.2.2.2.2.2.2.2.2.1, (a1.2.2.2.2.2.2.2.2.2.2.1, (a1.2.2.2.2.2.2.2.2.2.2.2.1, (a1.2.2.2.2.2.2.2.2.2.2.2.2.1, (a1.2.2.2.2.2.2.2.2.2.2.2.2.2.1, (a1.2.2.2.2.2.2.2.2.2.2.2.2.2.2.1, ())))))))))) fun r0 => bnd (pair_Drop r0.2.1 a1.1) fun r1 => br (eqI (ofN (lenL tapiPair r1)) (1 : Int)) (br (andB (leI (0 : Int) (0 : Int)) (ltI (0 : Int) (ofN (lenL tapiPair r1)))) (br (andB (leI (0 : Int) (0 : Int)) (ltI (0 : Int) (ofN (lenL tapiPair r1)))) (both (bnd (node_Leaf (ixL tapiPair r1 (0 : Int)).1 (ixL tapiPair r1 (0 : Int)).2.1) fun r2 => both (bnd (plan_Add ((), (a0.2.1, ((), ()))) r2 [] (appL (.int .i64) [] (a1.2.2.2.2.2.1 :: []))) fun r3 => some ((((), (r3.1.1.2.1, ((), ()))), (r3.1.2.1, (true, ()))), (a1, (r3.2.2.2.1, (r3.2.2.1, ()))))) (bnd (plan_Add ((), (a0.2.1, ((), ()))) r2 [] (appL (.int .i64) [] (a1.2.2.2.2.2.1 :: []))) fun r4 => some ((((), (r4.1.1.2.1, ((), ()))), (r4.1.2.1, (true, ()))), (a1, (r4.2.2.2.1, (r4.2.2.1, ())))))) (bnd (node_Leaf (ixL tapiPair r1 (0 : Int)).1 (ixL tapiPair r1 (0 : Int)).2.1) fun r5 => bnd (plan_Add ((), (a0.2.1, ((), ()))) r5 [] (appL (.int .i64) [] (a1.2.2.2.2.2.1 :: []))) fun r6 => some ((((), (r6.1.1.2.1, ((), ()))), (r6.1.2.1, (true, ()))), (a1, (r6.2.2.2.1, (r6.2.2.1, ())))))) none) none) (bnd (node_Bucket r1) fun r7 => bnd (plan_Add ((), (a0.2.1, ((), ()))) r7 [] (appL (.int .i64) [] (a1.2.2.2.2.2.1 :: []))) fun r8 => some ((((), (r8.1.1.2.1, ((), ()))), (r8.1.2.1, (false, ()))), (a1, (r8.2.2.2.1, (r8.2.2.1, ()))))))) none := (callW_eq _ _ _ _ _).trans (by kernel_rfl)
theorem slices_Backwardps.eq (a0 : den (.list tgraftstep)) : slices_Backwardps a0 = some (((), ()), (a0, ())) := (callW_eq _ _ _ _ _).trans (by kernel_rfl)
theorem slices_Backwardps_1.eq (a0 : den (.eptr (.list tgraftstep) 0)) : slices_Backwardps_1 a0 = slices_Backwardps_1.l0 a0 (subI .i64 (ofN (lenL tgraftstep a0)) (1 : Int)) := (callW_eq _ _ _ _ _).trans (by kernel_rfl)
theorem slices_Backwardps_1.l0.eq (x0 : den (.eptr (.list tgraftstep) 0)) (x1 : Int) : slices_Backwardps_1.l0 x0 x1 = br (leI (0 : Int) x1) (br (andB (leI (0 : Int) x1) (ltI x1 (ofN (lenL tgraftstep x0)))) (yieldW ⟨(.tcons (.int .i64) (.tcons tgraftstep .tnil)), (x1, ((ixL tgraftstep x0 x1), ()))⟩ (br (notB true) (some []) (slices_Backwardps_1.l0 x0 (subI .i64 x1 (1 : Int)))) (br (notB false) (some []) (slices_Backwardps_1.l0 x0 (subI .i64 x1 (1 : Int))))) none) (some []) := (loopB_eq _ _ _ _ _ _).trans (by kernel_rfl)
theorem pP_up.eq (a0 : den (tPl 1 2)) (a1 : den tgraftstep) (a2 : Int) (a3 : Bool) (a4 : denO (.box tprunePrune)) (a5 : denO (.row 58 tapiNode true)) (a6 : denO (.row 24 (.int .i64) true)) : pP_up a0 a1 a2 a3 a4 a5 a6 = br (fitL (.int .i64) (appL (.int .i64) a6 (a1.1 :: []))) (bnd (branch_Without (a1.2.1, (a1.2.2.1, (a1.2.2.2.1, (a1.2.2.2.2.1, (a1.2.2.2.2.2.1, (a1.2.2.2.2.2.2.1, (a1.2.2.2.2.2.2.2.1, (a1.2.2.2.2.2.2.2.2.1, (a1.2.2.2.2.2.2.2.2.2.1, ()))))))))) a1.2.2.2.2.2.2.2.2.2.2.1) fun r0 => br a3 (pP_up.j0 a2 (eqI (ofN (lenL (.int .i64) r0.2.2.2.2.1)) (0 : Int)) a4 a5 (appL (.int .i64) a6 (a1.1 :: [])) ((), (a0.2.1, ((), ()))) a1 ((), ((0 : Int), ((), ()))) r0 [] []) (pP_up.j0 a2 false a4 a5 (appL (.int .i64) a6 (a1.1 :: [])) ((), (a0.2.1, ((), ()))) a1 ((), ((0 : Int), ((), ()))) r0 [] [])) none := (callW_eq _ _ _ _ _).trans (by kernel_rfl)
theorem pP_up.j0.eq (x0 : Int) (x1 : Bool) (x2 : denO (.box tprunePrune)) (x3 : denO (.row 58 tapiNode true)) (x4 : denO (.row 24 (.int .i64) false)) (x5 : denO (.box (tPl 1 2))) (x6 : denO (.box tgraftstep)) (x7 : denO (.box (tPl 7 8))) (x8 : denO (.box tapiNode)) (x9 : denO (.row 58 tapiNode false)) (x10 : denO (.row 24 (.int .i64) false)) : pP_up.j0 x0 x1 x2 x3 x4 x5 x6 x7 x8 x9 x10 = br x1 (some ((((), (x5.2.1, ((), ()))), (x0, (true, ()))), (x2, (x3, (x4, ()))))) (br (eqI x0 (0 : Int)) (br (notB (eqI x2.2.2.2.2.2.2.2.2.2.2.2.2.2.2.2.1 (0 : Int))) (pP_up.j1 x0 (eqI x2.2.2.2.2.2.2.2.2.2.2.2.2.2.2.2.2.1 (1 : Int)) x2 x3 x4 ((), (x5.2.1, ((), ()))) x6 ((), (x7.2.1, ((), ()))) x8 x9 x10) (pP_up.j1 x0 false x2 x3 x4 ((), (x5.2.1, ((), ()))) x6 ((), (x7.2.1, ((), ()))) x8 x9 x10)) (pP_up.j1 x0 false x2 x3 x4 ((), (x5.2.1, ((), ()))) x6 ((), (x7.2.1, ((), ()))) x8 x9 x10)) := (congrFun (congrFun (jnO_eq _ _) _) _).trans (by kernel_rfl)
theorem pP_up.j1.eq (x0 : Int) (x1 : Bool) (x2 : denO (.box tprunePrune)) (x3 : denO (.row 58 tapiNode true)) (x4 : denO (.row 24 (.int .i64) false)) (x5 : denO (.box (tPl 1 2))) (x6 : denO (.box tgraftstep)) (x7 : denO (.box (tPl 7 8))) (x8 : denO (.box tapiNode)) (x9 : denO (.row 58 tapiNode false)) (x10 : denO (.row 24 (.int .i64) false)) : pP_up.j1 x0 x1 x2 x3 x4 x5 x6 x7 x8 x9 x10 = br x1 (both (some ((((), (x5.2.1, ((), ()))), (x2.2.2.2.2.2.2.2.2.2.2.2.2.2.2.2.1, (true, ()))), (x2, (x3, (x4, ()))))) (some ((((), (x5.2.1, ((), ()))), (x2.2.2.2.2.2.2.2.2.2.2.2.2.2.2.2.1, (true, ()))), (x2, (x3, (x4, ())))))) (br (notB (eqI x0 (0 : Int))) (bnd (branch_With x8 x6.2.2.2.2.2.2.2.2.2.2.1 x0) fun r0 => bnd (branch_Sized r0 (maxI (subI .i64 x6.2.2.2.2.2.2.2.2.1 (1 : Int)) (0 : Int))) fun r1 => bnd (plan_Add ((), (x5.2.1, ((), ()))) r1 x3 x4) fun r2 => some ((((), (r2.1.1.2.1, ((), ()))), (r2.1.2.1, (false, ()))), (x2, (r2.2.2.2.1, (r2.2.2.1, ()))))) (bnd (branch_Sized x8 (maxI (subI .i64 x6.2.2.2.2.2.2.2.2.1 (1 : Int)) (0 : Int))) fun r3 => bnd (plan_Add ((), (x5.2.1, ((), ()))) r3 x3 x4) fun r4 => some ((((), (r4.1.1.2.1, ((), ()))), (r4.1.2.1, (false, ()))), (x2, (r4.2.2.2.1, (r4.2.2.1, ())))))) := (congrFun (congrFun (jnO_eq _ _) _) _).trans (by kernel_rfl)
theorem ref20_make1.eq (a0 : Int) (a1 : den (.list tapiPair)) (a2 : Int) (a3 : denO (.row 58 tapiNode true)) : ref20_make1 a0 a1 a2 a3 = br (eqI (ofN (lenL tapiPair a1)) (0 : Int)) (some (((), ((0 : Int), ())), (a3, ()))) (br (eqI (ofN (lenL tapiPair a1)) (1 : Int)) (br (andB (leI (0 : Int) (0 : Int)) (ltI (0 : Int) (ofN (lenL tapiPair a1)))) (br (andB (leI (0 : Int) (0 : Int)) (ltI (0 : Int) (ofN (lenL tapiPair a1)))) (both (br (fitL tapiNode (appL tapiNode a3 (((1 : Int), ((ixL tapiPair a1 (0 : Int)).1, ((ixL tapiPair a1 (0 : Int)).2.1, ((0 : Int), ([], ((0 : Int), ([], ((1 : Int), ((0 : Int), ()))))))))) :: []))) (some (((), ((ofN (lenL tapiNode (appL tapiNode a3 (((1 : Int), ((ixL tapiPair a1 (0 : Int)).1, ((ixL tapiPair a1 (0 : Int)).2.1, ((0 : Int), ([], ((0 : Int), ([], ((1 : Int), ((0 : Int), ()))))))))) :: [])))), ())), ((appL tapiNode a3 (((1 : Int), ((ixL tapiPair a1 (0 : Int)).1, ((ixL tapiPair a1 (0 : Int)).2.1, ((0 : Int), ([], ((0 : Int), ([], ((1 : Int), ((0 : Int), ()))))))))) :: [])), ()))) none) (br (fitL tapiNode (appL tapiNode a3 (((1 : Int), ((ixL tapiPair a1 (0 : Int)).1, ((ixL tapiPair a1 (0 : Int)).2.1, ((0 : Int), ([], ((0 : Int), ([], ((1 : Int), ((0 : Int), ()))))))))) :: []))) (some (((), ((ofN (lenL tapiNode (appL tapiNode a3 (((1 : Int), ((ixL tapiPair a1 (0 : Int)).1, ((ixL tapiPair a1 (0 : Int)).2.1, ((0 : Int), ([], ((0 : Int), ([], ((1 : Int), ((0 : Int), ()))))))))) :: [])))), ())), ((appL tapiNode a3 (((1 : Int), ((ixL tapiPair a1 (0 : Int)).1, ((ixL tapiPair a1 (0 : Int)).2.1, ((0 : Int), ([], ((0 : Int), ([], ((1 : Int), ((0 : Int), ()))))))))) :: [])), ()))) none)) none) none) (bnd (ref04_Levels a0) fun r0 => br (leI r0 a2) (br (fitL tapiNode (appL tapiNode a3 (((3 : Int), (ByteArray.empty, (ByteArray.empty, ((0 : Int), ([], ((0 : Int), (a1, ((ofN (lenL tapiPair a1)), ((0 : Int), ()))))))))) :: []))) (some (((), ((ofN (lenL tapiNode (appL tapiNode a3 (((3 : Int), (ByteArray.empty, (ByteArray.empty, ((0 : Int), ([], ((0 : Int), (a1, ((ofN (lenL tapiPair a1)), ((0 : Int), ()))))))))) :: [])))), ())), ((appL tapiNode a3 (((3 : Int), (ByteArray.empty, (ByteArray.empty, ((0 : Int), ([], ((0 : Int), (a1, ((ofN (lenL tapiPair a1)), ((0 : Int), ()))))))))) :: [])), ()))) none) (ref20_make1.l0 a0 a1 a2 (1 : Int) (0 : Int) a3 ((2 : Int), (ByteArray.empty, (ByteArray.empty, ((0 : Int), ((), ((0 : Int), ((), ((ofN (lenL tapiPair a1)), ((0 : Int), ())))))))))))) := (callW_eq _ _ _ _ _).trans (by kernel_rfl)
theorem ref20_make1.l0.eq (x0 : Int) (x1 : den (.list tapiPair)) (x2 : Int) (x3 : den (.int .u32)) (x4 : Int) (x5 : denO (.row 58 tapiNode true)) (x6 : denO (.box (.pair (.int .i64) (.pair .str (.pair .str (.pair (.int .u32) (.pair (.nil 24) (.pair (.int .i64) (.pair (.nil 84) (.pair (.int .i64) (.pair (.int .i64) .unit))))))))))) : ref20_make1.l0 x0 x1 x2 x3 x4 x5 x6 = br (ltI x4 (32 : Int)) (ref20_make1.l1 x0 x1 x2 x3 x4 (0 : Int) x5 x6 []) (br (fitL tapiNode (appL tapiNode x5 ((x6.1, (x6.2.1, (x6.2.2.1, (x6.2.2.2.1, ([], (x6.2.2.2.2.2.1, ([], x6.2.2.2.2.2.2.2))))))) :: []))) (some (((), ((ofN (lenL tapiNode (appL tapiNode x5 ((x6.1, (x6.2.1, (x6.2.2.1, (x6.2.2.2.1, ([], (x6.2.2.2.2.2.1, ([], x6.2.2.2.2.2.2.2))))))) :: [])))), ())), ((appL tapiNode x5 ((x6.1, (x6.2.1, (x6.2.2.1, (x6.2.2.2.1, ([], (x6.2.2.2.2.2.1, ([], x6.2.2.2.2.2.2.2))))))) :: [])), ()))) none) := (loopB_eq _ _ _ _ _ _).trans (by kernel_rfl)
theorem ref20_make1.l1.eq (x0 : Int) (x1 : den (.list tapiPair)) (x2 : Int) (x3 : den (.int .u32)) (x4 : Int) (x5 : Int) (x6 : denO (.row 58 tapiNode true)) (x7 : denO (.box (.pair (.int .i64) (.pair .str (.pair .str (.pair (.int .u32) (.pair (.nil 24) (.pair (.int .i64) (.pair (.nil 84) (.pair (.int .i64) (.pair (.int .i64) .unit))))))))))) (x8 : denO (.row 84 tapiPair false)) : ref20_make1.l1 x0 x1 x2 x3 x4 x5 x6 x7 x8 = br (ltI x5 (ofN (lenL tapiPair x1))) (br (andB (leI (0 : Int) x5) (ltI x5 (ofN (lenL tapiPair x1)))) (bnd (ref20_chunk (ixL tapiPair x1 x5).1 x2 x0) fun r0 => br (eqI r0 x4) (br (andB (leI (0 : Int) x5) (ltI x5 (ofN (lenL tapiPair x1)))) (br (fitL tapiPair (appL tapiPair x8 ((ixL tapiPair x1 x5) :: []))) (ref20_make1.l1 x0 x1 x2 x3 x4 (addI .i64 x5 (1 : Int)) x6 x7 (appL tapiPair x8 ((ixL tapiPair x1 x5) :: []))) none) none) (ref20_make1.l1 x0 x1 x2 x3 x4 (addI .i64 x5 (1 : Int)) x6 x7 x8)) none) (br (ltI (0 : Int) (ofN (lenL tapiPair x8))) (bnd (ref20_make1 x0 x8 (addI .i64 x2 (1 : Int)) x6) fun r1 => br (fitL (.int .i64) (r1.1.2.1 :: [])) (ref20_make1.l2 x0 x1 x2 (mulI .u32 (2 : Int) x3) (addI .i64 x4 (1 : Int)) r1.2.1 (x7.1, (x7.2.1, (x7.2.2.1, ((addI .u32 x7.2.2.2.1 x3), x7.2.2.2.2)))) (r1.1.2.1 :: [])) none) (ref20_make1.l0 x0 x1 x2 (mulI .u32 (2 : Int) x3) (addI .i64 x4 (1 : Int)) x6 x7)) := (loopB_eq _ _ _ _ _ _).trans (by kernel_rfl)
theorem ref20_make1.l2.eq (x0 : Int) (x1 : den (.list tapiPair)) (x2 : Int) (x3 : den (.int .u32)) (x4 : Int) (x5 : denO (.row 58 tapiNode false)) (x6 : denO (.box (.pair (.int .i64) (.pair .str (.pair .str (.pair (.int .u32) (.pair (.own (.int .i64) 2) (.pair (.int .i64) (.pair (.nil 84) (.pair (.int .i64) (.pair (.int .i64) .unit))))))))))) (x7 : denO (.row 24 (.int .i64) false)) : ref20_make1.l2 x0 x1 x2 x3 x4 x5 x6 x7 = br (ltI x4 (32 : Int)) (ref20_make1.l3 x0 x1 x2 x3 x4 (0 : Int) x5 x6 [] x7) (br (fitL tapiNode (appL tapiNode x5 ((x6.1, (x6.2.1, (x6.2.2.1, (x6.2.2.2.1, (x7, (x6.2.2.2.2.2.1, ([], x6.2.2.2.2.2.2.2))))))) :: []))) (some (((), ((ofN (lenL tapiNode (appL tapiNode x5 ((x6.1, (x6.2.1, (x6.2.2.1, (x6.2.2.2.1, (x7, (x6.2.2.2.2.2.1, ([], x6.2.2.2.2.2.2.2))))))) :: [])))), ())), ((appL tapiNode x5 ((x6.1, (x6.2.1, (x6.2.2.1, (x6.2.2.2.1, (x7, (x6.2.2.2.2.2.1, ([], x6.2.2.2.2.2.2.2))))))) :: [])), ()))) none) := (loopB_eq _ _ _ _ _ _).trans (by kernel_rfl)
theorem ref20_make1.l3.eq (x0 : Int) (x1 : den (.list tapiPair)) (x2 : Int) (x3 : den (.int .u32)) (x4 : Int) (x5 : Int) (x6 : denO (.row 58 tapiNode false)) (x7 : denO (.box (.pair (.int .i64) (.pair .str (.pair .str (.pair (.int .u32) (.pair (.own (.int .i64) 3) (.pair (.int .i64) (.pair (.nil 84) (.pair (.int .i64) (.pair (.int .i64) .unit))))))))))) (x8 : denO (.row 84 tapiPair false)) (x9 : denO (.row 24 (.int .i64) false)) : ref20_make1.l3 x0 x1 x2 x3 x4 x5 x6 x7 x8 x9 = br (ltI x5 (ofN (lenL tapiPair x1))) (br (andB (leI (0 : Int) x5) (ltI x5 (ofN (lenL tapiPair x1)))) (bnd (ref20_chunk (ixL tapiPair x1 x5).1 x2 x0) fun r0 => br (eqI r0 x4) (br (andB (leI (0 : Int) x5) (ltI x5 (ofN (lenL tapiPair x1)))) (br (fitL tapiPair (appL tapiPair x8 ((ixL tapiPair x1 x5) :: []))) (ref20_make1.l3 x0 x1 x2 x3 x4 (addI .i64 x5 (1 : Int)) x6 x7 (appL tapiPair x8 ((ixL tapiPair x1 x5) :: [])) x9) none) none) (ref20_make1.l3 x0 x1 x2 x3 x4 (addI .i64 x5 (1 : Int)) x6 x7 x8 x9)) none) (br (ltI (0 : Int) (ofN (lenL tapiPair x8))) (bnd (ref20_make1 x0 x8 (addI .i64 x2 (1 : Int)) x6) fun r1 => br (fitL (.int .i64) (appL (.int .i64) x9 (r1.1.2.1 :: []))) (ref20_make1.l2 x0 x1 x2 (mulI .u32 (2 : Int) x3) (addI .i64 x4 (1 : Int)) r1.2.1 (x7.1, (x7.2.1, (x7.2.2.1, ((addI .u32 x7.2.2.2.1 x3), x7.2.2.2.2)))) (appL (.int .i64) x9 (r1.1.2.1 :: []))) none) (ref20_make1.l2 x0 x1 x2 (mulI .u32 (2 : Int) x3) (addI .i64 x4 (1 : Int)) x6 x7 x9)) := (loopB_eq _ _ _ _ _ _).trans (by kernel_rfl)
theorem ref07_last.eq (a0 : den (.list tapiPair)) (a1 : Int) : ref07_last a0 a1 = ref07_last.l0 a0 a1 (addI .i64 a1 (1 : Int)) := (callW_eq _ _ _ _ _).trans (by kernel_rfl)
theorem ref07_last.l0.eq (x0 : den (.list tapiPair)) (x1 : Int) (x2 : Int) : ref07_last.l0 x0 x1 x2 = br (ltI x2 (ofN (lenL tapiPair x0))) (br (andB (leI (0 : Int) x2) (ltI x2 (ofN (lenL tapiPair x0)))) (br (andB (leI (0 : Int) x1) (ltI x1 (ofN (lenL tapiPair x0)))) (br (eqS (ixL tapiPair x0 x2).1 (ixL tapiPair x0 x1).1) (some false) (ref07_last.l0 x0 x1 (addI .i64 x2 (1 : Int)))) none) none) (some true) := (loopB_eq _ _ _ _ _ _).trans (by kernel_rfl)
theorem ref01_Less.eq (a0 : den .str) (a1 : den .str) : ref01_Less a0 a1 = ref01_Less.l0 a0 a1 (0 : Int) := (callW_eq _ _ _ _ _).trans (by kernel_rfl)
theorem ref01_Less.l0.eq (x0 : den .str) (x1 : den .str) (x2 : Int) : ref01_Less.l0 x0 x1 x2 = br (ltI x2 (ofN (lenS x0))) (ref01_Less.j1 x0 x1 x2 (ltI x2 (ofN (lenS x1)))) (ref01_Less.j1 x0 x1 x2 false) := (loopB_eq _ _ _ _ _ _).trans (by kernel_rfl)
theorem ref01_Less.j1.eq (x0 : den .str) (x1 : den .str) (x2 : Int) (x3 : Bool) : ref01_Less.j1 x0 x1 x2 x3 = br x3 (br (andB (leI (0 : Int) x2) (ltI x2 (ofN (lenS x0)))) (br (andB (leI (0 : Int) x2) (ltI x2 (ofN (lenS x1)))) (br (notB (eqI (getS x0 (toN x2)) (getS x1 (toN x2)))) (br (andB (leI (0 : Int) x2) (ltI x2 (ofN (lenS x0)))) (br (andB (leI (0 : Int) x2) (ltI x2 (ofN (lenS x1)))) (some (ltI (getS x0 (toN x2)) (getS x1 (toN x2)))) none) none) (ref01_Less.l0 x0 x1 (addI .i64 x2 (1 : Int)))) none) none) (some (ltI (ofN (lenS x0)) (ofN (lenS x1)))) := (congrFun (congrFun (jnO_eq _ _) _) _).trans (by kernel_rfl)
theorem node_formed.eq (a0 : den tapiNode) : node_formed a0 = br (eqI a0.1 (1 : Int)) (bnd (node_Leaf a0.2.1 a0.2.2.1) fun r0 => some r0) (br (eqI a0.1 (6 : Int)) (bnd (node_Tomb a0.2.1 a0.2.2.1) fun r1 => some r1) (br (eqI a0.1 (2 : Int)) (bnd (node_Branch a0.2.2.2.1 a0.2.2.2.2.1 (maxI a0.2.2.2.2.2.2.2.1 (0 : Int))) fun r2 => some r2) (br (eqI a0.1 (3 : Int)) (bnd (node_Bucket a0.2.2.2.2.2.2.1) fun r3 => some r3) (br (eqI a0.1 (4 : Int)) (br (eqI (ofN (lenL (.int .i64) a0.2.2.2.2.1)) (2 : Int)) (br (andB (leI (0 : Int) (0 : Int)) (ltI (0 : Int) (ofN (lenL (.int .i64) a0.2.2.2.2.1)))) (br (andB (leI (0 : Int) (1 : Int)) (ltI (1 : Int) (ofN (lenL (.int .i64) a0.2.2.2.2.1)))) (bnd (node_Tree a0.2.1 a0.2.2.1 (ixL (.int .i64) a0.2.2.2.2.1 (0 : Int)) (ixL (.int .i64) a0.2.2.2.2.1 (1 : Int)) (maxI a0.2.2.2.2.2.2.2.1 (1 : Int))) fun r4 => some r4) none) none) (some ((0 : Int), (ByteArray.empty, (ByteArray.empty, ((0 : Int), ([], ((0 : Int), ([], ((0 : Int), ((0 : Int), ()))))))))))) (br (eqI a0.1 (5 : Int)) (bnd (node_Inner a0.2.2.2.2.2.1) fun r5 => some r5) (some ((0 : Int), (ByteArray.empty, (ByteArray.empty, ((0 : Int), ([], ((0 : Int), ([], ((0 : Int), ((0 : Int), ()))))))))))))))) := (callW_eq _ _ _ _ _).trans (by kernel_rfl)
theorem node_long.eq (a0 : den tapiNode) : node_long a0 = bnd (node_long_1 (a0.2.1, (a0.2.2.1, ()))) fun r0 => br r0 (some true) (bnd (slices_ContainsFuncQQ a0.2.2.2.2.2.2.1) fun r1 => some r1) := (callW_eq _ _ _ _ _).trans (by kernel_rfl)
theorem node_Same.eq (a0 : den tapiNode) (a1 : den tapiNode) : node_Same a0 a1 = br (eqI a0.1 a1.1) (br (eqS a0.2.1 a1.2.1) (br (eqS a0.2.2.1 a1.2.2.1) (node_Same.j0 (eqI a0.2.2.2.1 a1.2.2.2.1) a0 a1) (node_Same.j0 false a0 a1)) (node_Same.j0 false a0 a1)) (node_Same.j0 false a0 a1) := (callW_eq _ _ _ _ _).trans (by kernel_rfl)
theorem node_Same.j0.eq (x0 : Bool) (x1 : denO (.box tapiNode)) (x2 : denO (.box tapiNode)) : node_Same.j0 x0 x1 x2 = br x0 (br (eqI x1.2.2.2.2.2.1 x2.2.2.2.2.2.1) (br (eqI x1.2.2.2.2.2.2.2.1 x2.2.2.2.2.2.2.2.1) (br (eqI x1.2.2.2.2.2.2.2.2.1 x2.2.2.2.2.2.2.2.2.1) (bnd (slices_EqualRR x1.2.2.2.2.1 x2.2.2.2.2.1) fun r0 => br r0 (bnd (slices_EqualQQ x1.2.2.2.2.2.2.1 x2.2.2.2.2.2.2.1) fun r1 => some r1) (some false)) (some false)) (some false)) (some false)) (some false) := (congrFun (congrFun (jnO_eq _ _) _) _).trans (by kernel_rfl)
theorem node_whole.eq (a0 : den tapiNode) : node_whole a0 = br (eqI a0.1 (2 : Int)) (bnd (mask_Count a0.2.2.2.1) fun r0 => br (eqI (ofN (lenL (.int .i64) a0.2.2.2.2.1)) r0) (bnd (slices_ContainsRR a0.2.2.2.2.1 (0 : Int)) fun r1 => some (notB r1)) (some false)) (br (eqI a0.1 (3 : Int)) (br (leI (2 : Int) (ofN (lenL tapiPair a0.2.2.2.2.2.2.1))) (bnd (pair_Is a0.2.2.2.2.2.2.1) fun r2 => some r2) (some false)) (br (eqI a0.1 (5 : Int)) (some (notB (eqI a0.2.2.2.2.2.1 (0 : Int)))) (some true))) := (callW_eq _ _ _ _ _).trans (by kernel_rfl)
theorem heap_Binds.eq (a0 : den (.list tapiNode)) (a1 : Int) : heap_Binds a0 a1 = bnd (heap_may a0 a1) fun r0 => br (notB (eqI r0 (0 : Int))) (some ([], (r0, ()))) (bnd (heap_binds a0 a1) fun r1 => some (r1.2.1, ((0 : Int), ()))) := (callW_eq _ _ _ _ _).trans (by kernel_rfl)
theorem trie_Make.eq (a0 : Int) (a1 : den (.list tapiPair)) : trie_Make a0 a1 = bnd (pair_Make a1) fun r0 => trie_Make.l0 a0 r0 r0 (ofN (lenL tapiPair r0)) (0 : Int) := (callW_eq _ _ _ _ _).trans (by kernel_rfl)
theorem trie_Make.l0.eq (x0 : Int) (x1 : den (.list tapiPair)) (x2 : den (.list tapiPair)) (x3 : Int) (x4 : Int) : trie_Make.l0 x0 x1 x2 x3 x4 = br (ltI x4 x3) (br (andB (leI (0 : Int) x4) (ltI x4 (ofN (lenL tapiPair x2)))) (bnd (node_Leaf (ixL tapiPair x2 x4).1 (ixL tapiPair x2 x4).2.1) fun r0 => bnd (node_May r0) fun r1 => br (notB (eqI r1 (0 : Int))) (some ([], ((0 : Int), (r1, ())))) (trie_Make.l0 x0 x1 x2 x3 (addI .i64 x4 (1 : Int)))) none) (bnd (tM_trie x1 (0 : Int) (x0, ((), ())) []) fun r2 => some (r2.2.2.1, (r2.1, ((0 : Int), ())))) := (loopB_eq _ _ _ _ _ _).trans (by kernel_rfl)
theorem heap_Same.eq (a0 : den (.list tapiNode)) (a1 : Int) (a2 : den (.list tapiNode)) (a3 : Int) : heap_Same a0 a1 a2 a3 = bnd (heap_may a0 a1) fun r0 => br (eqI r0 (0 : Int)) (bnd (heap_may a2 a3) fun r1 => br (eqI r1 (0 : Int)) (bnd (heap_same a0 a1 a2 a3) fun r2 => some r2) (some false)) (some false) := (callW_eq _ _ _ _ _).trans (by kernel_rfl)
theorem gG_changes_o.eq (a0 : denO (.box tgraftGraft)) : gG_changes_o a0 = br (notB (eqI a0.2.2.2.2.2.2.1 (0 : Int))) (some (false, (a0, ()))) (bnd (gG_bound_o a0) fun r0 => br (eqI r0.2.1.1 (1 : Int)) (some (true, (r0.2.1, ()))) (br (eqI r0.2.1.1 (2 : Int)) (some ((notB r0.1.2.1), (r0.2.1, ()))) (br (eqI r0.2.1.1 (3 : Int)) (br r0.1.2.1 (some ((eqS r0.1.1 r0.2.1.2.2.2.1), (r0.2.1, ()))) (some (false, (r0.2.1, ())))) (some (false, (r0.2.1, ())))))) := (callW_eq _ _ _ _ _).trans (by kernel_rfl)
theorem gG_bound_o.eq (a0 : denO (.box tgraftGraft)) : gG_bound_o a0 = br (notB (eqI a0.2.2.2.2.2.2.1 (0 : Int))) (some ((ByteArray.empty, (false, ())), (a0, ()))) (br (notB (eqI a0.2.2.2.2.2.2.2.2.2.1 (1 : Int))) (br (notB (eqI a0.2.2.2.2.2.2.2.2.2.1 (3 : Int))) (some ((ByteArray.empty, (false, ())), (a0, ()))) (bnd (node_Binds a0.2.2.2.2.2.2.2.2.2) fun r0 => bnd (pair_Get r0.2.1 a0.2.1) fun r1 => some (r1, (a0, ())))) (bnd (node_Binds a0.2.2.2.2.2.2.2.2.2) fun r2 => bnd (pair_Get r2.2.1 a0.2.1) fun r3 => some (r3, (a0, ())))) := (callW_eq _ _ _ _ _).trans (by kernel_rfl)
theorem gG_bottom.eq (a0 : den (.pair (.nil 58) (.pair (.int .i64) (.pair (.nil 24) .unit)))) (a1 : denO (.box tgraftGraft)) : gG_bottom a0 a1 = bnd (gG_bound_o a1) fun r0 => br (eqI r0.2.1.2.2.2.2.2.2.2.2.1 (0 : Int)) (gG_bottom.j0 false true r0.2.1 ((), (a0.2.1, ((), ()))) ((), ((0 : Int), ((), ()))) [] [] [] []) (br (eqI r0.2.1.2.2.2.2.2.2.2.2.2.1 (1 : Int)) (gG_bottom.j0 false r0.1.2.1 r0.2.1 ((), (a0.2.1, ((), ()))) ((), ((0 : Int), ((), ()))) [] [] [] []) (gG_bottom.j0 false false r0.2.1 ((), (a0.2.1, ((), ()))) ((), ((0 : Int), ((), ()))) [] [] [] [])) := (callW_eq _ _ _ _ _).trans (by kernel_rfl)
theorem gG_bottom.j0.eq (x0 : Bool) (x1 : Bool) (x2 : denO (.box tgraftGraft)) (x3 : denO (.box (tPl 3 4))) (x4 : denO (.box (tPl 5 6))) (x5 : denO (.row 58 tapiNode false)) (x6 : denO (.row 24 (.int .i64) false)) (x7 : denO (.row 58 tapiNode false)) (x8 : denO (.row 24 (.int .i64) false)) : gG_bottom.j0 x0 x1 x2 x3 x4 x5 x6 x7 x8 = br x1 (bnd (node_Leaf x2.2.1 x2.2.2.1) fun r0 => bnd (plan_Add ((), (x3.2.1, ((), ()))) r0 x5 x6) fun r1 => br (notB (eqI x2.2.2.2.2.2.2.2.2.1 (0 : Int))) (br (notB x0) (br (fitL (.int .i64) (appL (.int .i64) r1.2.2.1 (x2.2.2.2.2.2.2.2.2.1 :: []))) (some ((((), (r1.1.1.2.1, ((), ()))), r1.1.2), (x2, (r1.2.2.2.1, ((appL (.int .i64) r1.2.2.1 (x2.2.2.2.2.2.2.2.2.1 :: [])), ()))))) none) (some ((((), (r1.1.1.2.1, ((), ()))), r1.1.2), (x2, (r1.2.2.2.1, (r1.2.2.1, ())))))) (some ((((), (r1.1.1.2.1, ((), ()))), r1.1.2), (x2, (r1.2.2.2.1, (r1.2.2.1, ())))))) (br (eqI x2.2.2.2.2.2.2.2.2.2.1 (1 : Int)) (bnd (gG_two ((), (x3.2.1, ((), ()))) (ofN (lenL tgraftstep x2.2.2.2.2.2.2.2.1)) x2 x5 x6) fun r2 => br (notB (eqI r2.2.1.2.2.2.2.2.2.2.2.1 (0 : Int))) (br (notB r2.1.2.2.1) (br (fitL (.int .i64) (appL (.int .i64) r2.2.2.2.1 (r2.2.1.2.2.2.2.2.2.2.2.1 :: []))) (some ((((), (r2.1.1.2.1, ((), ()))), (r2.1.2.1, ())), (r2.2.1, (r2.2.2.1, ((appL (.int .i64) r2.2.2.2.1 (r2.2.1.2.2.2.2.2.2.2.2.1 :: [])), ()))))) none) (some ((((), (r2.1.1.2.1, ((), ()))), (r2.1.2.1, ())), (r2.2.1, (r2.2.2.1, (r2.2.2.2.1, ())))))) (some ((((), (r2.1.1.2.1, ((), ()))), (r2.1.2.1, ())), (r2.2.1, (r2.2.2.1, (r2.2.2.2.1, ())))))) (bnd (node_Binds x2.2.2.2.2.2.2.2.2.2) fun r3 => bnd (pair_Put r3.2.1 x2.2.1 x2.2.2.1) fun r4 => bnd (node_Bucket r4) fun r5 => bnd (plan_Add ((), (x3.2.1, ((), ()))) r5 x5 x6) fun r6 => br (notB (eqI x2.2.2.2.2.2.2.2.2.1 (0 : Int))) (br (notB x0) (br (fitL (.int .i64) (appL (.int .i64) r6.2.2.1 (x2.2.2.2.2.2.2.2.2.1 :: []))) (some ((((), (r6.1.1.2.1, ((), ()))), r6.1.2), (x2, (r6.2.2.2.1, ((appL (.int .i64) r6.2.2.1 (x2.2.2.2.2.2.2.2.2.1 :: [])), ()))))) none) (some ((((), (r6.1.1.2.1, ((), ()))), r6.1.2), (x2, (r6.2.2.2.1, (r6.2.2.1, ())))))) (some ((((), (r6.1.1.2.1, ((), ()))), r6.1.2), (x2, (r6.2.2.2.1, (r6.2.2.1, ()))))))) := (congrFun (congrFun (jnO_eq _ _) _) _).trans (by kernel_rfl)
theorem slices_Backwardgs.eq (a0 : den (.list tgraftstep)) : slices_Backwardgs a0 = some (((), ()), (a0, ())) := (callW_eq _ _ _ _ _).trans (by kernel_rfl)
theorem slices_Backwardgs_1.eq (a0 : den (.eptr (.list tgraftstep) 0)) : slices_Backwardgs_1 a0 = slices_Backwardgs_1.l0 a0 (subI .i64 (ofN (lenL tgraftstep a0)) (1 : Int)) := (callW_eq _ _ _ _ _).trans (by kernel_rfl)
theorem slices_Backwardgs_1.l0.eq (x0 : den (.eptr (.list tgraftstep) 0)) (x1 : Int) : slices_Backwardgs_1.l0 x0 x1 = br (leI (0 : Int) x1) (br (andB (leI (0 : Int) x1) (ltI x1 (ofN (lenL tgraftstep x0)))) (yieldW ⟨(.tcons (.int .i64) (.tcons tgraftstep .tnil)), (x1, ((ixL tgraftstep x0 x1), ()))⟩ (br (notB true) (some []) (slices_Backwardgs_1.l0 x0 (subI .i64 x1 (1 : Int)))) (br (notB false) (some []) (slices_Backwardgs_1.l0 x0 (subI .i64 x1 (1 : Int))))) none) (some []) := (loopB_eq _ _ _ _ _ _).trans (by kernel_rfl)
theorem branch_With.eq (a0 : den tapiNode) (a1 : Int) (a2 : Int) : branch_With a0 a1 a2 = bnd (branch_branch a0) fun r0 => bnd (mask_With r0.1.2.2.2.1 a1) fun r1 => bnd (mask_Place r1 a1) fun r2 => br (eqI a2 (0 : Int)) (branch_With.j0 a2 r1 r2 true ((0 : Int), (ByteArray.empty, (ByteArray.empty, ((0 : Int), ((), ((0 : Int), ((), ((0 : Int), ((0 : Int), ()))))))))) r0.1 [] [] r0.2.1 r0.2.2.1) (bnd (mask_Has r1 a1) fun r3 => branch_With.j0 a2 r1 r2 (notB r3) ((0 : Int), (ByteArray.empty, (ByteArray.empty, ((0 : Int), ((), ((0 : Int), ((), ((0 : Int), ((0 : Int), ()))))))))) r0.1 [] [] r0.2.1 r0.2.2.1) := (callW_eq _ _ _ _ _).trans (by kernel_rfl)
theorem branch_With.j0.eq (x0 : Int) (x1 : den (.int .u32)) (x2 : Int) (x3 : Bool) (x4 : denO (.box (tNd 2 3))) (x5 : denO (.box (tNd 4 5))) (x6 : denO (.row 24 (.int .i64) false)) (x7 : denO (.row 84 tapiPair false)) (x8 : denO (.row 24 (.int .i64) false)) (x9 : denO (.row 84 tapiPair false)) : branch_With.j0 x0 x1 x2 x3 x4 x5 x6 x7 x8 x9 = br x3 (some (x5.1, (x5.2.1, (x5.2.2.1, (x5.2.2.2.1, (x8, (x5.2.2.2.2.2.1, (x9, x5.2.2.2.2.2.2.2)))))))) (br (eqI x1 x5.2.2.2.1) (br (andB (leI (0 : Int) x2) (ltI x2 (ofN (lenL (.int .i64) x8)))) (some (x5.1, (x5.2.1, (x5.2.2.1, (x1, ((setL (.int .i64) x8 x2 x0), (x5.2.2.2.2.2.1, (x9, x5.2.2.2.2.2.2.2)))))))) none) (bnd (slices_InsertRR x2 x8 (x0 :: [])) fun r0 => some (x5.1, (x5.2.1, (x5.2.2.1, (x1, (r0.2.1, (x5.2.2.2.2.2.1, (x9, x5.2.2.2.2.2.2.2))))))))) := (congrFun (congrFun (jnO_eq _ _) _) _).trans (by kernel_rfl)
theorem branch_Sized.eq (a0 : den tapiNode) (a1 : Int) : branch_Sized a0 a1 = bnd (branch_branch a0) fun r0 => br (leI (0 : Int) a1) (some (r0.1.1, (r0.1.2.1, (r0.1.2.2.1, (r0.1.2.2.2.1, (r0.2.1, (r0.1.2.2.2.2.2.1, (r0.2.2.1, (a1, r0.1.2.2.2.2.2.2.2.2))))))))) (some (r0.1.1, (r0.1.2.1, (r0.1.2.2.1, (r0.1.2.2.2.1, (r0.2.1, (r0.1.2.2.2.2.2.1, (r0.2.2.1, r0.1.2.2.2.2.2.2.2)))))))) := (callW_eq _ _ _ _ _).trans (by kernel_rfl)
theorem plan_Add.eq (a0 : den (tPl 0 1)) (a1 : den tapiNode) (a2 : denO (.row 58 tapiNode true)) (a3 : denO (.row 24 (.int .i64) true)) : plan_Add a0 a1 a2 a3 = bnd (slices_CloneNN a2) fun r0 => bnd (node_Copy a1) fun r1 => br (fitL tapiNode (appL tapiNode r0.2.1 ((r1.1.1, (r1.1.2.1, (r1.1.2.2.1, (r1.1.2.2.2.1, (r1.2.1, (r1.1.2.2.2.2.2.1, (r1.2.2.1, r1.1.2.2.2.2.2.2.2))))))) :: []))) (bnd (ref_New (subI .i64 (ofN (lenL tapiNode (appL tapiNode r0.2.1 ((r1.1.1, (r1.1.2.1, (r1.1.2.2.1, (r1.1.2.2.2.1, (r1.2.1, (r1.1.2.2.2.2.2.1, (r1.2.2.1, r1.1.2.2.2.2.2.2.2))))))) :: [])))) (1 : Int))) fun r2 => some ((((), (a0.2.1, ((), ()))), (r2, ())), ((), (a3, ((appL tapiNode r0.2.1 ((r1.1.1, (r1.1.2.1, (r1.1.2.2.1, (r1.1.2.2.2.1, (r1.2.1, (r1.1.2.2.2.2.2.1, (r1.2.2.1, r1.1.2.2.2.2.2.2.2))))))) :: [])), ()))))) none := (callW_eq _ _ _ _ _).trans (by kernel_rfl)
theorem plan_May.eq (a0 : den tplanPlan) : plan_May a0 = plan_May.l0 a0.1 (ofN (lenL tapiNode a0.1)) (0 : Int) a0 := (callW_eq _ _ _ _ _).trans (by kernel_rfl)
theorem plan_May.l0.eq (x0 : den (.list tapiNode)) (x1 : Int) (x2 : Int) (x3 : denO (.box tplanPlan)) : plan_May.l0 x0 x1 x2 x3 = br (ltI x2 x1) (br (andB (leI (0 : Int) x2) (ltI x2 (ofN (lenL tapiNode x0)))) (bnd (node_May (ixL tapiNode x0 x2)) fun r0 => br (notB (eqI r0 (0 : Int))) (some (4 : Int)) (bnd (node_Refs (ixL tapiNode x0 x2)) fun r1 => bnd (slices_ContainsFuncRR r1 ((), ()) x2) fun r2 => br r2.1 (some (4 : Int)) (plan_May.l0 x0 x1 (addI .i64 x2 (1 : Int)) x3))) none) (bnd (plan_ahead x3.2.1 (ofN (lenL tapiNode x3.1))) fun r3 => br (notB r3) (some (4 : Int)) (bnd (slices_ContainsFuncRR_v1 x3.2.2.1) fun r4 => br r4 (some (4 : Int)) (some (0 : Int)))) := (loopB_eq _ _ _ _ _ _).trans (by kernel_rfl)
theorem heap_May.eq (a0 : den (.list tapiNode)) : heap_May a0 = heap_May.l0 a0 (ofN (lenL tapiNode a0)) (0 : Int) := (callW_eq _ _ _ _ _).trans (by kernel_rfl)
theorem heap_May.l0.eq (x0 : den (.list tapiNode)) (x1 : Int) (x2 : Int) : heap_May.l0 x0 x1 x2 = br (ltI x2 x1) (br (andB (leI (0 : Int) x2) (ltI x2 (ofN (lenL tapiNode x0)))) (bnd (node_May (ixL tapiNode x0 x2)) fun r0 => br (notB (eqI r0 (0 : Int))) (some (4 : Int)) (bnd (node_Refs (ixL tapiNode x0 x2)) fun r1 => heap_May.l1 x2 x0 x1 x2 r1 (ofN (lenL (.int .i64) r1)) (0 : Int))) none) (some (0 : Int)) := (loopB_eq _ _ _ _ _ _).trans (by kernel_rfl)
theorem heap_May.l1.eq (x0 : Int) (x1 : den (.list tapiNode)) (x2 : Int) (x3 : Int) (x4 : den (.list (.int .i64))) (x5 : Int) (x6 : Int) : heap_May.l1 x0 x1 x2 x3 x4 x5 x6 = br (ltI x6 x5) (br (andB (leI (0 : Int) x6) (ltI x6 (ofN (lenL (.int .i64) x4)))) (br (ltI (ixL (.int .i64) x4 x6) (1 : Int)) (some (4 : Int)) (br (ltI x0 (ixL (.int .i64) x4 x6)) (some (4 : Int)) (heap_May.l1 x0 x1 x2 x3 x4 x5 (addI .i64 x6 (1 : Int))))) none) (heap_May.l0 x1 x2 (addI .i64 x3 (1 : Int))) := (loopB_eq _ _ _ _ _ _).trans (by kernel_rfl)
theorem plan_fits.eq (a0 : den (.list tapiNode)) (a1 : den tplanPlan) : plan_fits a0 a1 = both (bnd (slices_CloneRR a1.2.2.1) fun r0 => br (fitL (.int .i64) (appL (.int .i64) r0.2.1 (a1.2.1 :: []))) (plan_fits.l0 a1.1 (ofN (lenL tapiNode a1.1)) (0 : Int) a0 (appL (.int .i64) r0.2.1 (a1.2.1 :: []))) none) (bnd (slices_CloneRR a1.2.2.1) fun r1 => br (fitL (.int .i64) (appL (.int .i64) r1.2.1 (a1.2.1 :: []))) (plan_fits.l0 a1.1 (ofN (lenL tapiNode a1.1)) (0 : Int) a0 (appL (.int .i64) r1.2.1 (a1.2.1 :: []))) none) := (callW_eq _ _ _ _ _).trans (by kernel_rfl)
theorem plan_fits.l0.eq (x0 : den (.list tapiNode)) (x1 : Int) (x2 : Int) (x3 : denO (.box (.list tapiNode))) (x4 : denO (.row 24 (.int .i64) false)) : plan_fits.l0 x0 x1 x2 x3 x4 = br (ltI x2 x1) (br (andB (leI (0 : Int) x2) (ltI x2 (ofN (lenL tapiNode x0)))) (bnd (node_Refs (ixL tapiNode x0 x2)) fun r0 => br (fitL (.int .i64) (appL (.int .i64) x4 r0)) (plan_fits.l0 x0 x1 (addI .i64 x2 (1 : Int)) x3 (appL (.int .i64) x4 r0)) none) none) (bnd (slices_ContainsFuncRR_v2 x4 ((), ()) x3) fun r1 => some (notB r1.1)) := (loopB_eq _ _ _ _ _ _).trans (by kernel_rfl)
theorem node_Copy.eq (a0 : den tapiNode) : node_Copy a0 = bnd (slices_CloneRR a0.2.2.2.2.1) fun r0 => bnd (slices_CloneQQ a0.2.2.2.2.2.2.1) fun r1 => some ((a0.1, (a0.2.1, (a0.2.2.1, (a0.2.2.2.1, ((), (a0.2.2.2.2.2.1, ((), a0.2.2.2.2.2.2.2))))))), (r0.2.1, (r1.2.1, ()))) := (callW_eq _ _ _ _ _).trans (by kernel_rfl)
theorem plan_Fill_o.eq (a0 : den tapiNode) (a1 : denO (.row 24 (.int .i64) true)) : plan_Fill_o a0 a1 = bnd (node_Copy a0) fun r0 => bnd (plan_Ref r0.1.2.2.2.2.2.1 a1) fun r1 => plan_Fill_o.l0 r1.2.1 (ofN (lenL (.int .i64) r0.2.1)) (0 : Int) a1 (r0.1.1, (r0.1.2.1, (r0.1.2.2.1, (r0.1.2.2.2.1, ((), (r1.1, r0.1.2.2.2.2.2.2)))))) ((0 : Int), (ByteArray.empty, (ByteArray.empty, ((0 : Int), ((), ((0 : Int), ((), ((0 : Int), ((0 : Int), ()))))))))) r0.2.1 r0.2.2.1 [] [] := (callW_eq _ _ _ _ _).trans (by kernel_rfl)
theorem plan_Fill_o.l0.eq (x0 : Int) (x1 : Int) (x2 : Int) (x3 : denO (.row 24 (.int .i64) true)) (x4 : denO (.box (tNd 3 4))) (x5 : denO (.box (tNd 5 6))) (x6 : denO (.row 24 (.int .i64) false)) (x7 : denO (.row 84 tapiPair false)) (x8 : denO (.row 24 (.int .i64) false)) (x9 : denO (.row 84 tapiPair false)) : plan_Fill_o.l0 x0 x1 x2 x3 x4 x5 x6 x7 x8 x9 = br (ltI x2 x1) (br (andB (leI (0 : Int) x2) (ltI x2 (ofN (lenL (.int .i64) x6)))) (bnd (plan_Ref (ixL (.int .i64) x6 x2) x3) fun r0 => br (notB (eqI r0.2.1 (0 : Int))) (br (andB (leI (0 : Int) x2) (ltI x2 (ofN (lenL (.int .i64) x6)))) (plan_Fill_o.l0 r0.2.1 x1 (addI .i64 x2 (1 : Int)) x3 x4 x5 (setL (.int .i64) x6 x2 r0.1) x7 x8 x9) none) (br (andB (leI (0 : Int) x2) (ltI x2 (ofN (lenL (.int .i64) x6)))) (plan_Fill_o.l0 x0 x1 (addI .i64 x2 (1 : Int)) x3 x4 x5 (setL (.int .i64) x6 x2 r0.1) x7 x8 x9) none)) none) (br (notB (eqI x0 (0 : Int))) (some ((((0 : Int), (ByteArray.empty, (ByteArray.empty, ((0 : Int), ([], ((0 : Int), ([], ((0 : Int), ((0 : Int), ()))))))))), (x0, ())), (x3, ()))) (some (((x4.1, (x4.2.1, (x4.2.2.1, (x4.2.2.2.1, (x6, (x4.2.2.2.2.2.1, (x7, x4.2.2.2.2.2.2.2))))))), (x0, ())), (x3, ())))) := (loopB_eq _ _ _ _ _ _).trans (by kernel_rfl)
theorem plan_Ref.eq (a0 : Int) (a1 : den (.list (.int .i64))) : plan_Ref a0 a1 = bnd (ref_Which a0) fun r0 => br (notB r0.2.1) (some (a0, ((0 : Int), ()))) (br (leI (ofN (lenL (.int .i64) a1)) r0.1) (some ((0 : Int), ((4 : Int), ()))) (br (andB (leI (0 : Int) r0.1) (ltI r0.1 (ofN (lenL (.int .i64) a1)))) (some ((ixL (.int .i64) a1 r0.1), ((0 : Int), ()))) none)) := (callW_eq _ _ _ _ _).trans (by kernel_rfl)
theorem ref17_May.eq (a0 : den (.list tapiNode)) : ref17_May a0 = ref17_May.l0 a0 (0 : Int) := (callW_eq _ _ _ _ _).trans (by kernel_rfl)
theorem ref17_May.l0.eq (x0 : den (.list tapiNode)) (x1 : Int) : ref17_May.l0 x0 x1 = br (ltI x1 (ofN (lenL tapiNode x0))) (br (andB (leI (0 : Int) x1) (ltI x1 (ofN (lenL tapiNode x0)))) (bnd (ref13_Refs (ixL tapiNode x0 x1)) fun r0 => ref17_May.l1 x0 x1 r0 (0 : Int)) none) (some true) := (loopB_eq _ _ _ _ _ _).trans (by kernel_rfl)
theorem ref17_May.l1.eq (x0 : den (.list tapiNode)) (x1 : Int) (x2 : den (.list (.int .i64))) (x3 : Int) : ref17_May.l1 x0 x1 x2 x3 = br (ltI x3 (ofN (lenL (.int .i64) x2))) (br (andB (leI (0 : Int) x3) (ltI x3 (ofN (lenL (.int .i64) x2)))) (br (ltI (ixL (.int .i64) x2 x3) (1 : Int)) (some false) (br (andB (leI (0 : Int) x3) (ltI x3 (ofN (lenL (.int .i64) x2)))) (br (ltI x1 (ixL (.int .i64) x2 x3)) (some false) (ref17_May.l1 x0 x1 x2 (addI .i64 x3 (1 : Int)))) none)) none) (br (andB (leI (0 : Int) x1) (ltI x1 (ofN (lenL tapiNode x0)))) (bnd (ref13_May (ixL tapiNode x0 x1)) fun r0 => br (notB (eqI r0 (0 : Int))) (some false) (ref17_May.l0 x0 (addI .i64 x1 (1 : Int)))) none) := (loopB_eq _ _ _ _ _ _).trans (by kernel_rfl)
end Go.Proofs.YtjekopgcpikkiaaGreatDoor.AM
set_option maxRecDepth 100000
set_option linter.unusedVariables false
namespace Go.Proofs.YtjekopgcpikkiaaGreatDoor.AM
open Go.Abs
theorem ref13_Same.eq (a0 : den tapiNode) (a1 : den tapiNode) : ref13_Same a0 a1 = br (notB (eqI a0.1 a1.1)) (some false) (br (notB (eqS a0.2.1 a1.2.1)) (some false) (br (notB (eqS a0.2.2.1 a1.2.2.1)) (some false) (br (notB (eqI a0.2.2.2.1 a1.2.2.2.1)) (some false) (br (notB (eqI a0.2.2.2.2.2.1 a1.2.2.2.2.2.1)) (some false) (br (notB (eqI a0.2.2.2.2.2.2.2.1 a1.2.2.2.2.2.2.2.1)) (some false) (br (notB (eqI a0.2.2.2.2.2.2.2.2.1 a1.2.2.2.2.2.2.2.2.1)) (some false) (bnd (ref13_SameRefs a0.2.2.2.2.1 a1.2.2.2.2.1) fun r0 => br r0 (bnd (ref07_Same a0.2.2.2.2.2.2.1 a1.2.2.2.2.2.2.1) fun r1 => some r1) (some false)))))))) := (callW_eq _ _ _ _ _).trans (by kernel_rfl)
theorem hash_cut.eq (a0 : den (.int .u64)) (a1 : Int) : hash_cut a0 a1 = bnd (hash_within a1) fun r0 => br (eqI r0 (64 : Int)) (some a0) (bnd (hash_within a1) fun r1 => br (leI (0 : Int) r1) (some (andI .u64 a0 (subI .u64 (shlI .u64 (1 : Int) r1) (1 : Int)))) none) := (callW_eq _ _ _ _ _).trans (by kernel_rfl)
theorem hash_within.eq (a0 : Int) : hash_within a0 = some (minI (maxI a0 (0 : Int)) (64 : Int)) := (callW_eq _ _ _ _ _).trans (by kernel_rfl)
theorem branch_Without.eq (a0 : den tapiNode) (a1 : Int) : branch_Without a0 a1 = bnd (branch_branch a0) fun r0 => bnd (mask_Has r0.1.2.2.2.1 a1) fun r1 => br (notB r1) (some (r0.1.1, (r0.1.2.1, (r0.1.2.2.1, (r0.1.2.2.2.1, (r0.2.1, (r0.1.2.2.2.2.2.1, (r0.2.2.1, r0.1.2.2.2.2.2.2.2)))))))) (bnd (mask_Place r0.1.2.2.2.1 a1) fun r2 => bnd (slices_DeleteRR r2 (addI .i64 r2 (1 : Int)) r0.2.1) fun r3 => bnd (mask_Without r0.1.2.2.2.1 a1) fun r4 => some (r0.1.1, (r0.1.2.1, (r0.1.2.2.1, (r4, (r3.2.1, (r0.1.2.2.2.2.2.1, (r0.2.2.1, r0.1.2.2.2.2.2.2.2)))))))) := (callW_eq _ _ _ _ _).trans (by kernel_rfl)
theorem branch_Only.eq (a0 : den tapiNode) : branch_Only a0 = bnd (branch_branch a0) fun r0 => br (notB (eqI (ofN (lenL (.int .i64) r0.2.1)) (1 : Int))) (some ((0 : Int), (false, ()))) (br (andB (leI (0 : Int) (0 : Int)) (ltI (0 : Int) (ofN (lenL (.int .i64) r0.2.1)))) (some ((ixL (.int .i64) r0.2.1 (0 : Int)), (true, ()))) none) := (callW_eq _ _ _ _ _).trans (by kernel_rfl)
theorem branch_branch.eq (a0 : den tapiNode) : branch_branch a0 = br (notB (eqI a0.1 (2 : Int))) (bnd (node_Branch_o (0 : Int) [] (0 : Int)) fun r0 => some (r0.1, (r0.2.1, (r0.2.2.1, ())))) (bnd (node_May a0) fun r1 => br (notB (eqI r1 (0 : Int))) (bnd (node_Branch_o (0 : Int) [] (0 : Int)) fun r2 => some (r2.1, (r2.2.1, (r2.2.2.1, ())))) (bnd (node_Copy a0) fun r3 => some (r3.1, (r3.2.1, (r3.2.2.1, ()))))) := (callW_eq _ _ _ _ _).trans (by kernel_rfl)
theorem mask_Has.eq (a0 : den (.int .u32)) (a1 : Int) : mask_Has a0 a1 = bnd (mask_in a1) fun r0 => br r0 (br (leI (0 : Int) a1) (some (eqI (andI .u32 (shrI .u32 a0 a1) (1 : Int)) (1 : Int))) none) (some false) := (callW_eq _ _ _ _ _).trans (by kernel_rfl)
theorem mask_Place.eq (a0 : den (.int .u32)) (a1 : Int) : mask_Place a0 a1 = bnd (mask_below a1) fun r0 => bnd (math_bits_OnesCount32 (andI .u32 a0 r0)) fun r1 => some r1 := (callW_eq _ _ _ _ _).trans (by kernel_rfl)
theorem slices_CloneQQ.eq (a0 : den (.list tapiPair)) : slices_CloneQQ a0 = br (eqI (ofN (lenL tapiPair a0)) (0 : Int)) (both (some ((), ([], ()))) (br (fitL tapiPair (appL tapiPair [] a0)) (some ((), ((appL tapiPair [] a0), ()))) none)) (br (fitL tapiPair (appL tapiPair [] a0)) (some ((), ((appL tapiPair [] a0), ()))) none) := (callW_eq _ _ _ _ _).trans (by kernel_rfl)
theorem pair_ordered.eq (a0 : den (.list tapiPair)) : pair_ordered a0 = bnd (pair_Is a0) fun r0 => br r0 (some a0) (bnd (pair_Make a0) fun r1 => some r1) := (callW_eq _ _ _ _ _).trans (by kernel_rfl)
theorem pair_place.eq (a0 : den (.list tapiPair)) (a1 : den .str) : pair_place a0 a1 = bnd (slices_BinarySearchFuncQQ_string a0 a1) fun r0 => some r0 := (callW_eq _ _ _ _ _).trans (by kernel_rfl)
theorem pair_Drop.eq (a0 : den (.list tapiPair)) (a1 : den .str) : pair_Drop a0 a1 = bnd (pair_ordered a0) fun r0 => bnd (slices_CloneQQ r0) fun r1 => bnd (pair_place r1.2.1 a1) fun r2 => br (notB r2.2.1) (some r1.2.1) (bnd (slices_DeleteQQ r2.1 (addI .i64 r2.1 (1 : Int)) r1.2.1) fun r3 => some r3.2.1) := (callW_eq _ _ _ _ _).trans (by kernel_rfl)
theorem node_Bucket.eq (a0 : den (.list tapiPair)) : node_Bucket a0 = bnd (pair_Make a0) fun r0 => some ((3 : Int), (ByteArray.empty, (ByteArray.empty, ((0 : Int), ([], ((0 : Int), (r0, ((ofN (lenL tapiPair r0)), ((0 : Int), ()))))))))) := (callW_eq _ _ _ _ _).trans (by kernel_rfl)
theorem ref04_Levels.eq (a0 : Int) : ref04_Levels a0 = ref04_Levels.l0 a0 (0 : Int) := (callW_eq _ _ _ _ _).trans (by kernel_rfl)
theorem ref04_Levels.l0.eq (x0 : Int) (x1 : Int) : ref04_Levels.l0 x0 x1 = bnd (ref04_clamp x0) fun r0 => br (ltI (mulI .i64 (5 : Int) x1) r0) (ref04_Levels.l0 x0 (addI .i64 x1 (1 : Int))) (some x1) := (loopB_eq _ _ _ _ _ _).trans (by kernel_rfl)
theorem ref20_chunk.eq (a0 : den .str) (a1 : Int) (a2 : Int) : ref20_chunk a0 a1 a2 = bnd (ref04_Of a0 a2) fun r0 => bnd (ref04_Chunk r0 a1 a2) fun r1 => some r1 := (callW_eq _ _ _ _ _).trans (by kernel_rfl)
theorem node_Tomb.eq (a0 : den .str) (a1 : den .str) : node_Tomb a0 a1 = some ((6 : Int), (a0, (a1, ((0 : Int), ([], ((0 : Int), ([], ((1 : Int), ((0 : Int), ()))))))))) := (callW_eq _ _ _ _ _).trans (by kernel_rfl)
theorem node_Branch.eq (a0 : den (.int .u32)) (a1 : den (.list (.int .i64))) (a2 : Int) : node_Branch a0 a1 a2 = bnd (slices_CloneRR a1) fun r0 => some ((2 : Int), (ByteArray.empty, (ByteArray.empty, (a0, (r0.2.1, ((0 : Int), ([], (a2, ((0 : Int), ()))))))))) := (callW_eq _ _ _ _ _).trans (by kernel_rfl)
theorem node_Tree.eq (a0 : den .str) (a1 : den .str) (a2 : Int) (a3 : Int) (a4 : Int) : node_Tree a0 a1 a2 a3 a4 = some ((4 : Int), (a0, (a1, ((0 : Int), ((a2 :: (a3 :: [])), ((0 : Int), ([], (a4, ((0 : Int), ()))))))))) := (callW_eq _ _ _ _ _).trans (by kernel_rfl)
theorem node_Inner.eq (a0 : Int) : node_Inner a0 = some ((5 : Int), (ByteArray.empty, (ByteArray.empty, ((0 : Int), ([], (a0, ([], ((0 : Int), ((0 : Int), ()))))))))) := (callW_eq _ _ _ _ _).trans (by kernel_rfl)
theorem node_long_1.eq (a0 : den tapiPair) : node_long_1 a0 = br (ltI (16 : Int) (ofN (lenS a0.1))) (some true) (some (ltI (16 : Int) (ofN (lenS a0.2.1)))) := (callW_eq _ _ _ _ _).trans (by kernel_rfl)
theorem slices_ContainsFuncQQ.eq (a0 : den (.list tapiPair)) : slices_ContainsFuncQQ a0 = bnd (slices_IndexFuncQQ a0) fun r0 => some (leI (0 : Int) r0) := (callW_eq _ _ _ _ _).trans (by kernel_rfl)
theorem slices_EqualRR.eq (a0 : den (.list (.int .i64))) (a1 : den (.list (.int .i64))) : slices_EqualRR a0 a1 = br (notB (eqI (ofN (lenL (.int .i64) a0)) (ofN (lenL (.int .i64) a1)))) (some false) (slices_EqualRR.l0 a0 a1 (ofN (lenL (.int .i64) a0)) (0 : Int)) := (callW_eq _ _ _ _ _).trans (by kernel_rfl)
theorem slices_EqualRR.l0.eq (x0 : den (.list (.int .i64))) (x1 : den (.list (.int .i64))) (x2 : Int) (x3 : Int) : slices_EqualRR.l0 x0 x1 x2 x3 = br (ltI x3 x2) (br (andB (leI (0 : Int) x3) (ltI x3 (ofN (lenL (.int .i64) x0)))) (br (andB (leI (0 : Int) x3) (ltI x3 (ofN (lenL (.int .i64) x1)))) (br (notB (eqI (ixL (.int .i64) x0 x3) (ixL (.int .i64) x1 x3))) (some false) (slices_EqualRR.l0 x0 x1 x2 (addI .i64 x3 (1 : Int)))) none) none) (some true) := (loopB_eq _ _ _ _ _ _).trans (by kernel_rfl)
theorem slices_EqualQQ.eq (a0 : den (.list tapiPair)) (a1 : den (.list tapiPair)) : slices_EqualQQ a0 a1 = br (notB (eqI (ofN (lenL tapiPair a0)) (ofN (lenL tapiPair a1)))) (some false) (slices_EqualQQ.l0 a0 a1 (ofN (lenL tapiPair a0)) (0 : Int)) := (callW_eq _ _ _ _ _).trans (by kernel_rfl)
theorem slices_EqualQQ.l0.eq (x0 : den (.list tapiPair)) (x1 : den (.list tapiPair)) (x2 : Int) (x3 : Int) : slices_EqualQQ.l0 x0 x1 x2 x3 = br (ltI x3 x2) (br (andB (leI (0 : Int) x3) (ltI x3 (ofN (lenL tapiPair x0)))) (br (andB (leI (0 : Int) x3) (ltI x3 (ofN (lenL tapiPair x1)))) (br (notB (andB (eqS (ixL tapiPair x0 x3).1 (ixL tapiPair x1 x3).1) (andB (eqS (ixL tapiPair x0 x3).2.1 (ixL tapiPair x1 x3).2.1) true))) (some false) (slices_EqualQQ.l0 x0 x1 x2 (addI .i64 x3 (1 : Int)))) none) none) (some true) := (loopB_eq _ _ _ _ _ _).trans (by kernel_rfl)
theorem mask_Count.eq (a0 : den (.int .u32)) : mask_Count a0 = bnd (math_bits_OnesCount32 a0) fun r0 => some r0 := (callW_eq _ _ _ _ _).trans (by kernel_rfl)
theorem slices_ContainsRR.eq (a0 : den (.list (.int .i64))) (a1 : Int) : slices_ContainsRR a0 a1 = bnd (slices_IndexRR a0 a1) fun r0 => some (leI (0 : Int) r0) := (callW_eq _ _ _ _ _).trans (by kernel_rfl)
theorem pair_Is.eq (a0 : den (.list tapiPair)) : pair_Is a0 = pair_Is.l0 a0 (ofN (lenL tapiPair a0)) (0 : Int) := (callW_eq _ _ _ _ _).trans (by kernel_rfl)
theorem pair_Is.l0.eq (x0 : den (.list tapiPair)) (x1 : Int) (x2 : Int) : pair_Is.l0 x0 x1 x2 = br (ltI x2 x1) (br (ltI (0 : Int) x2) (br (andB (leI (0 : Int) (subI .i64 x2 (1 : Int))) (ltI (subI .i64 x2 (1 : Int)) (ofN (lenL tapiPair x0)))) (br (andB (leI (0 : Int) x2) (ltI x2 (ofN (lenL tapiPair x0)))) (bnd (order_Compare (ixL tapiPair x0 (subI .i64 x2 (1 : Int))).1 (ixL tapiPair x0 x2).1) fun r0 => br (leI (0 : Int) r0) (some false) (pair_Is.l0 x0 x1 (addI .i64 x2 (1 : Int)))) none) none) (pair_Is.l0 x0 x1 (addI .i64 x2 (1 : Int)))) (some true) := (loopB_eq _ _ _ _ _ _).trans (by kernel_rfl)
theorem heap_may.eq (a0 : den (.list tapiNode)) (a1 : Int) : heap_may a0 a1 = br (ltI a1 (0 : Int)) (some (4 : Int)) (br (ltI (ofN (lenL tapiNode a0)) a1) (some (4 : Int)) (bnd (heap_May a0) fun r0 => some r0)) := (callW_eq _ _ _ _ _).trans (by kernel_rfl)
theorem heap_binds.eq (a0 : den (.list tapiNode)) (a1 : Int) : heap_binds a0 a1 = br (eqI a1 (0 : Int)) (some ((), ([], ()))) (br (andB (leI (0 : Int) (subI .i64 a1 (1 : Int))) (ltI (subI .i64 a1 (1 : Int)) (ofN (lenL tapiNode a0)))) (br (eqI (ixL tapiNode a0 (subI .i64 a1 (1 : Int))).1 (4 : Int)) (br (andB (leI (0 : Int) (0 : Int)) (ltI (0 : Int) (ofN (lenL (.int .i64) (ixL tapiNode a0 (subI .i64 a1 (1 : Int))).2.2.2.2.1)))) (br (andB (leI (0 : Int) (1 : Int)) (ltI (1 : Int) (ofN (lenL (.int .i64) (ixL tapiNode a0 (subI .i64 a1 (1 : Int))).2.2.2.2.1)))) (bnd (heap_binds a0 (ixL (.int .i64) (ixL tapiNode a0 (subI .i64 a1 (1 : Int))).2.2.2.2.1 (0 : Int))) fun r0 => bnd (node_Binds (ixL tapiNode a0 (subI .i64 a1 (1 : Int)))) fun r1 => br (fitL tapiPair (appL tapiPair r0.2.1 r1.2.1)) (bnd (heap_binds a0 (ixL (.int .i64) (ixL tapiNode a0 (subI .i64 a1 (1 : Int))).2.2.2.2.1 (1 : Int))) fun r2 => br (fitL tapiPair (appL tapiPair (appL tapiPair r0.2.1 r1.2.1) r2.2.1)) (some ((), ((appL tapiPair (appL tapiPair r0.2.1 r1.2.1) r2.2.1), ()))) none) none) none) none) (bnd (node_Binds (ixL tapiNode a0 (subI .i64 a1 (1 : Int)))) fun r3 => bnd (node_Refs (ixL tapiNode a0 (subI .i64 a1 (1 : Int)))) fun r4 => heap_binds.l0 a0 r4 (ofN (lenL (.int .i64) r4)) (0 : Int) r3.2.1)) none) := (callW_eq _ _ _ _ _).trans (by kernel_rfl)
theorem heap_binds.l0.eq (x0 : den (.list tapiNode)) (x1 : den (.list (.int .i64))) (x2 : Int) (x3 : Int) (x4 : denO (.row 84 tapiPair false)) : heap_binds.l0 x0 x1 x2 x3 x4 = br (ltI x3 x2) (br (andB (leI (0 : Int) x3) (ltI x3 (ofN (lenL (.int .i64) x1)))) (bnd (heap_binds x0 (ixL (.int .i64) x1 x3)) fun r0 => br (fitL tapiPair (appL tapiPair x4 r0.2.1)) (heap_binds.l0 x0 x1 x2 (addI .i64 x3 (1 : Int)) (appL tapiPair x4 r0.2.1)) none) none) (some ((), (x4, ()))) := (loopB_eq _ _ _ _ _ _).trans (by kernel_rfl)
theorem pair_Make.eq (a0 : den (.list tapiPair)) : pair_Make a0 = pair_Make.l0 a0 (ofN (lenL tapiPair a0)) (0 : Int) [] := (callW_eq _ _ _ _ _).trans (by kernel_rfl)
theorem pair_Make.l0.eq (x0 : den (.list tapiPair)) (x1 : Int) (x2 : Int) (x3 : denO (.row 84 tapiPair false)) : pair_Make.l0 x0 x1 x2 x3 = br (ltI x2 x1) (br (andB (leI (0 : Int) x2) (ltI x2 (ofN (lenL tapiPair x0)))) (bnd (pair_put x3 (ixL tapiPair x0 x2)) fun r0 => pair_Make.l0 x0 x1 (addI .i64 x2 (1 : Int)) r0.2.1) none) (some x3) := (loopB_eq _ _ _ _ _ _).trans (by kernel_rfl)
theorem tM_trie.eq (a0 : den (.list tapiPair)) (a1 : Int) (a2 : denO (.box (.pair (.int .i64) (.pair (.own tapiNode 1) .unit)))) (a3 : denO (.row 58 tapiNode true)) : tM_trie a0 a1 a2 a3 = br (eqI (ofN (lenL tapiPair a0)) (0 : Int)) (some ((0 : Int), ((a2.1, ((), ())), (a3, ())))) (br (eqI (ofN (lenL tapiPair a0)) (1 : Int)) (br (andB (leI (0 : Int) (0 : Int)) (ltI (0 : Int) (ofN (lenL tapiPair a0)))) (br (andB (leI (0 : Int) (0 : Int)) (ltI (0 : Int) (ofN (lenL tapiPair a0)))) (bnd (node_Leaf (ixL tapiPair a0 (0 : Int)).1 (ixL tapiPair a0 (0 : Int)).2.1) fun r0 => bnd (tM_add r0 (a2.1, ((), ())) a3) fun r1 => some (r1.1, ((r1.2.1.1, ((), ())), (r1.2.2.1, ())))) none) none) (bnd (hash_Levels a2.1) fun r2 => br (leI r2 a1) (bnd (node_Bucket a0) fun r3 => bnd (tM_add r3 (a2.1, ((), ())) a3) fun r4 => some (r4.1, ((r4.2.1.1, ((), ())), (r4.2.2.1, ())))) (bnd (tM_parted a0 a1 (a2.1, ((), ())) a3) fun r5 => bnd (mask_All r5.1.2.1) fun r6 => tM_trie.l0 a0 a1 r5.1.1 r5.1.2.1 r6 (ofN (lenL (.int .i64) r6)) (0 : Int) (r5.2.1.1, ((), ())) r5.2.2.1 []))) := (callW_eq _ _ _ _ _).trans (by kernel_rfl)
theorem tM_trie.l0.eq (x0 : den (.list tapiPair)) (x1 : Int) (x2 : den (.mp tapiPair)) (x3 : den (.int .u32)) (x4 : den (.list (.int .i64))) (x5 : Int) (x6 : Int) (x7 : denO (.box (.pair (.int .i64) (.pair (.own tapiNode 1) .unit)))) (x8 : denO (.row 58 tapiNode true)) (x9 : denO (.row 24 (.int .i64) false)) : tM_trie.l0 x0 x1 x2 x3 x4 x5 x6 x7 x8 x9 = br (ltI x6 x5) (br (andB (leI (0 : Int) x6) (ltI x6 (ofN (lenL (.int .i64) x4)))) (bnd (tM_trie (getM tapiPair x2 (ixL (.int .i64) x4 x6)) (addI .i64 x1 (1 : Int)) (x7.1, ((), ())) x8) fun r0 => br (fitL (.int .i64) (appL (.int .i64) x9 (r0.1 :: []))) (tM_trie.l1 x0 x1 x2 x3 x4 x5 (addI .i64 x6 (1 : Int)) (r0.2.1.1, ((), ())) r0.2.2.1 (appL (.int .i64) x9 (r0.1 :: []))) none) none) (bnd (node_Branch x3 x9 (ofN (lenL tapiPair x0))) fun r1 => bnd (tM_add r1 (x7.1, ((), ())) x8) fun r2 => some (r2.1, ((r2.2.1.1, ((), ())), (r2.2.2.1, ())))) := (loopB_eq _ _ _ _ _ _).trans (by kernel_rfl)
theorem tM_trie.l1.eq (x0 : den (.list tapiPair)) (x1 : Int) (x2 : den (.mp tapiPair)) (x3 : den (.int .u32)) (x4 : den (.list (.int .i64))) (x5 : Int) (x6 : Int) (x7 : denO (.box (.pair (.int .i64) (.pair (.own tapiNode 1) .unit)))) (x8 : denO (.row 58 tapiNode false)) (x9 : denO (.row 24 (.int .i64) false)) : tM_trie.l1 x0 x1 x2 x3 x4 x5 x6 x7 x8 x9 = br (ltI x6 x5) (br (andB (leI (0 : Int) x6) (ltI x6 (ofN (lenL (.int .i64) x4)))) (bnd (tM_trie (getM tapiPair x2 (ixL (.int .i64) x4 x6)) (addI .i64 x1 (1 : Int)) (x7.1, ((), ())) x8) fun r0 => br (fitL (.int .i64) (appL (.int .i64) x9 (r0.1 :: []))) (tM_trie.l1 x0 x1 x2 x3 x4 x5 (addI .i64 x6 (1 : Int)) (r0.2.1.1, ((), ())) r0.2.2.1 (appL (.int .i64) x9 (r0.1 :: []))) none) none) (bnd (node_Branch x3 x9 (ofN (lenL tapiPair x0))) fun r1 => bnd (tM_add r1 (x7.1, ((), ())) x8) fun r2 => some (r2.1, ((r2.2.1.1, ((), ())), (r2.2.2.1, ())))) := (loopB_eq _ _ _ _ _ _).trans (by kernel_rfl)
theorem heap_same.eq (a0 : den (.list tapiNode)) (a1 : Int) (a2 : den (.list tapiNode)) (a3 : Int) : heap_same a0 a1 a2 a3 = br (eqI a1 (0 : Int)) (heap_same.j0 a0 a1 a2 a3 true) (heap_same.j0 a0 a1 a2 a3 (eqI a3 (0 : Int))) := (callW_eq _ _ _ _ _).trans (by kernel_rfl)
theorem heap_same.j0.eq (x0 : den (.list tapiNode)) (x1 : Int) (x2 : den (.list tapiNode)) (x3 : Int) (x4 : Bool) : heap_same.j0 x0 x1 x2 x3 x4 = br x4 (some (eqI x1 x3)) (br (andB (leI (0 : Int) (subI .i64 x1 (1 : Int))) (ltI (subI .i64 x1 (1 : Int)) (ofN (lenL tapiNode x0)))) (br (andB (leI (0 : Int) (subI .i64 x3 (1 : Int))) (ltI (subI .i64 x3 (1 : Int)) (ofN (lenL tapiNode x2)))) (both (both (bnd (heap_bare (ixL tapiNode x0 (subI .i64 x1 (1 : Int)))) fun r0 => bnd (heap_bare (ixL tapiNode x2 (subI .i64 x3 (1 : Int)))) fun r1 => bnd (node_Same r0 r1) fun r2 => br (notB r2) (some false) (bnd (node_Refs (ixL tapiNode x0 (subI .i64 x1 (1 : Int)))) fun r3 => bnd (node_Refs (ixL tapiNode x2 (subI .i64 x3 (1 : Int)))) fun r4 => heap_same.l1 x0 x2 r3 r4 (ofN (lenL (.int .i64) r3)) (0 : Int))) (bnd (heap_bare (ixL tapiNode x0 (subI .i64 x1 (1 : Int)))) fun r5 => bnd (heap_bare (ixL tapiNode x2 (subI .i64 x3 (1 : Int)))) fun r6 => bnd (node_Same r5 r6) fun r7 => br (notB r7) (some false) (bnd (node_Refs (ixL tapiNode x0 (subI .i64 x1 (1 : Int)))) fun r8 => bnd (node_Refs (ixL tapiNode x2 (subI .i64 x3 (1 : Int)))) fun r9 => heap_same.l1 x0 x2 r8 r9 (ofN (lenL (.int .i64) r8)) (0 : Int)))) (both (both (bnd (heap_bare (ixL tapiNode x0 (subI .i64 x1 (1 : Int)))) fun r10 => bnd (heap_bare (ixL tapiNode x2 (subI .i64 x3 (1 : Int)))) fun r11 => bnd (node_Same r10 r11) fun r12 => br (notB r12) (some false) (bnd (node_Refs (ixL tapiNode x0 (subI .i64 x1 (1 : Int)))) fun r13 => bnd (node_Refs (ixL tapiNode x2 (subI .i64 x3 (1 : Int)))) fun r14 => heap_same.l1 x0 x2 r13 r14 (ofN (lenL (.int .i64) r13)) (0 : Int))) (both (bnd (heap_bare (ixL tapiNode x0 (subI .i64 x1 (1 : Int)))) fun r15 => bnd (heap_bare (ixL tapiNode x2 (subI .i64 x3 (1 : Int)))) fun r16 => bnd (node_Same r15 r16) fun r17 => br (notB r17) (some false) (bnd (node_Refs (ixL tapiNode x0 (subI .i64 x1 (1 : Int)))) fun r18 => bnd (node_Refs (ixL tapiNode x2 (subI .i64 x3 (1 : Int)))) fun r19 => heap_same.l1 x0 x2 r18 r19 (ofN (lenL (.int .i64) r18)) (0 : Int))) (bnd (heap_bare (ixL tapiNode x0 (subI .i64 x1 (1 : Int)))) fun r20 => bnd (heap_bare (ixL tapiNode x2 (subI .i64 x3 (1 : Int)))) fun r21 => bnd (node_Same r20 r21) fun r22 => br (notB r22) (some false) (bnd (node_Refs (ixL tapiNode x0 (subI .i64 x1 (1 : Int)))) fun r23 => bnd (node_Refs (ixL tapiNode x2 (subI .i64 x3 (1 : Int)))) fun r24 => heap_same.l1 x0 x2 r23 r24 (ofN (lenL (.int .i64) r23)) (0 : Int))))) (both (bnd (heap_bare (ixL tapiNode x0 (subI .i64 x1 (1 : Int)))) fun r25 => bnd (heap_bare (ixL tapiNode x2 (subI .i64 x3 (1 : Int)))) fun r26 => bnd (node_Same r25 r26) fun r27 => br (notB r27) (some false) (bnd (node_Refs (ixL tapiNode x0 (subI .i64 x1 (1 : Int)))) fun r28 => bnd (node_Refs (ixL tapiNode x2 (subI .i64 x3 (1 : Int)))) fun r29 => heap_same.l1 x0 x2 r28 r29 (ofN (lenL (.int .i64) r28)) (0 : Int))) (both (bnd (heap_bare (ixL tapiNode x0 (subI .i64 x1 (1 : Int)))) fun r30 => bnd (heap_bare (ixL tapiNode x2 (subI .i64 x3 (1 : Int)))) fun r31 => bnd (node_Same r30 r31) fun r32 => br (notB r32) (some false) (bnd (node_Refs (ixL tapiNode x0 (subI .i64 x1 (1 : Int)))) fun r33 => bnd (node_Refs (ixL tapiNode x2 (subI .i64 x3 (1 : Int)))) fun r34 => heap_same.l1 x0 x2 r33 r34 (ofN (lenL (.int .i64) r33)) (0 : Int))) (bnd (heap_bare (ixL tapiNode x0 (subI .i64 x1 (1 : Int)))) fun r35 => bnd (heap_bare (ixL tapiNode x2 (subI .i64 x3 (1 : Int)))) fun r36 => bnd (node_Same r35 r36) fun r37 => br (notB r37) (some false) (bnd (node_Refs (ixL tapiNode x0 (subI .i64 x1 (1 : Int)))) fun r38 => bnd (node_Refs (ixL tapiNode x2 (subI .i64 x3 (1 : Int)))) fun r39 => heap_same.l1 x0 x2 r38 r39 (ofN (lenL (.int .i64) r38)) (0 : Int))))))) none) none) := (congrFun (congrFun (jnO_eq _ _) _) _).trans (by kernel_rfl)
theorem heap_same.l1.eq (x0 : den (.list tapiNode)) (x1 : den (.list tapiNode)) (x2 : den (.list (.int .i64))) (x3 : den (.list (.int .i64))) (x4 : Int) (x5 : Int) : heap_same.l1 x0 x1 x2 x3 x4 x5 = br (ltI x5 x4) (br (andB (leI (0 : Int) x5) (ltI x5 (ofN (lenL (.int .i64) x2)))) (br (andB (leI (0 : Int) x5) (ltI x5 (ofN (lenL (.int .i64) x3)))) (bnd (heap_same x0 (ixL (.int .i64) x2 x5) x1 (ixL (.int .i64) x3 x5)) fun r0 => br (notB r0) (some false) (heap_same.l1 x0 x1 x2 x3 x4 (addI .i64 x5 (1 : Int)))) none) none) (some true) := (loopB_eq _ _ _ _ _ _).trans (by kernel_rfl)
theorem gG_two.eq (a0 : den (tPl 1 2)) (a1 : Int) (a2 : denO (.box tgraftGraft)) (a3 : denO (.row 58 tapiNode true)) (a4 : denO (.row 24 (.int .i64) true)) : gG_two a0 a1 a2 a3 a4 = bnd (hash_Levels a2.2.2.2.2.1) fun r0 => br (leI r0 a1) (both (bnd (node_Binds a2.2.2.2.2.2.2.2.2.2) fun r1 => both (both (br (fitL tapiPair (appL tapiPair r1.2.1 ((a2.2.1, (a2.2.2.1, ())) :: []))) (both (bnd (node_Bucket (appL tapiPair r1.2.1 ((a2.2.1, (a2.2.2.1, ())) :: []))) fun r2 => both (bnd (plan_Add ((), (a0.2.1, ((), ()))) r2 a3 a4) fun r3 => some ((((), (r3.1.1.2.1, ((), ()))), (r3.1.2.1, (false, ()))), (a2, (r3.2.2.2.1, (r3.2.2.1, ()))))) (bnd (plan_Add ((), (a0.2.1, ((), ()))) r2 a3 a4) fun r4 => some ((((), (r4.1.1.2.1, ((), ()))), (r4.1.2.1, (false, ()))), (a2, (r4.2.2.2.1, (r4.2.2.1, ())))))) (bnd (node_Bucket (appL tapiPair r1.2.1 ((a2.2.1, (a2.2.2.1, ())) :: []))) fun r5 => bnd (plan_Add ((), (a0.2.1, ((), ()))) r5 a3 a4) fun r6 => some ((((), (r6.1.1.2.1, ((), ()))), (r6.1.2.1, (false, ()))), (a2, (r6.2.2.2.1, (r6.2.2.1, ())))))) none) (br (fitL tapiPair (appL tapiPair r1.2.1 ((a2.2.1, (a2.2.2.1, ())) :: []))) (bnd (node_Bucket (appL tapiPair r1.2.1 ((a2.2.1, (a2.2.2.1, ())) :: []))) fun r7 => bnd (plan_Add ((), (a0.2.1, ((), ()))) r7 a3 a4) fun r8 => some ((((), (r8.1.1.2.1, ((), ()))), (r8.1.2.1, (false, ()))), (a2, (r8.2.2.2.1, (r8.2.2.1, ()))))) none)) (br (fitL tapiPair (appL tapiPair r1.2.1 ((a2.2.1, (a2.2.2.1, ())) :: []))) (bnd (node_Bucket (appL tapiPair r1.2.1 ((a2.2.1, (a2.2.2.1, ())) :: []))) fun r9 => bnd (plan_Add ((), (a0.2.1, ((), ()))) r9 a3 a4) fun r10 => some ((((), (r10.1.1.2.1, ((), ()))), (r10.1.2.1, (false, ()))), (a2, (r10.2.2.2.1, (r10.2.2.1, ()))))) none)) (both (both (bnd (node_Binds a2.2.2.2.2.2.2.2.2.2) fun r11 => both (br (fitL tapiPair (appL tapiPair r11.2.1 ((a2.2.1, (a2.2.2.1, ())) :: []))) (both (bnd (node_Bucket (appL tapiPair r11.2.1 ((a2.2.1, (a2.2.2.1, ())) :: []))) fun r12 => both (bnd (plan_Add ((), (a0.2.1, ((), ()))) r12 a3 a4) fun r13 => some ((((), (r13.1.1.2.1, ((), ()))), (r13.1.2.1, (false, ()))), (a2, (r13.2.2.2.1, (r13.2.2.1, ()))))) (bnd (plan_Add ((), (a0.2.1, ((), ()))) r12 a3 a4) fun r14 => some ((((), (r14.1.1.2.1, ((), ()))), (r14.1.2.1, (false, ()))), (a2, (r14.2.2.2.1, (r14.2.2.1, ())))))) (bnd (node_Bucket (appL tapiPair r11.2.1 ((a2.2.1, (a2.2.2.1, ())) :: []))) fun r15 => bnd (plan_Add ((), (a0.2.1, ((), ()))) r15 a3 a4) fun r16 => some ((((), (r16.1.1.2.1, ((), ()))), (r16.1.2.1, (false, ()))), (a2, (r16.2.2.2.1, (r16.2.2.1, ())))))) none) (br (fitL tapiPair (appL tapiPair r11.2.1 ((a2.2.1, (a2.2.2.1, ())) :: []))) (bnd (node_Bucket (appL tapiPair r11.2.1 ((a2.2.1, (a2.2.2.1, ())) :: []))) fun r17 => bnd (plan_Add ((), (a0.2.1, ((), ()))) r17 a3 a4) fun r18 => some ((((), (r18.1.1.2.1, ((), ()))), (r18.1.2.1, (false, ()))), (a2, (r18.2.2.2.1, (r18.2.2.1, ()))))) none)) (bnd (node_Binds a2.2.2.2.2.2.2.2.2.2) fun r19 => br (fitL tapiPair (appL tapiPair r19.2.1 ((a2.2.1, (a2.2.2.1, ())) :: []))) (bnd (node_Bucket (appL tapiPair r19.2.1 ((a2.2.1, (a2.2.2.1, ())) :: []))) fun r20 => bnd (plan_Add ((), (a0.2.1, ((), ()))) r20 a3 a4) fun r21 => some ((((), (r21.1.1.2.1, ((), ()))), (r21.1.2.1, (false, ()))), (a2, (r21.2.2.2.1, (r21.2.2.1, ()))))) none)) (both (bnd (node_Binds a2.2.2.2.2.2.2.2.2.2) fun r22 => br (fitL tapiPair (appL tapiPair r22.2.1 ((a2.2.1, (a2.2.2.1, ())) :: []))) (bnd (node_Bucket (appL tapiPair r22.2.1 ((a2.2.1, (a2.2.2.1, ())) :: []))) fun r23 => bnd (plan_Add ((), (a0.2.1, ((), ()))) r23 a3 a4) fun r24 => some ((((), (r24.1.1.2.1, ((), ()))), (r24.1.2.1, (false, ()))), (a2, (r24.2.2.2.1, (r24.2.2.1, ()))))) none) (bnd (node_Binds a2.2.2.2.2.2.2.2.2.2) fun r25 => br (fitL tapiPair (appL tapiPair r25.2.1 ((a2.2.1, (a2.2.2.1, ())) :: []))) (bnd (node_Bucket (appL tapiPair r25.2.1 ((a2.2.1, (a2.2.2.1, ())) :: []))) fun r26 => bnd (plan_Add ((), (a0.2.1, ((), ()))) r26 a3 a4) fun r27 => some ((((), (r27.1.1.2.1, ((), ()))), (r27.1.2.1, (false, ()))), (a2, (r27.2.2.2.1, (r27.2.2.1, ()))))) none)))) (bnd (hash_Chunk a2.2.2.2.2.2.1 a1 a2.2.2.2.2.1) fun r28 => bnd (hash_Of a2.2.2.2.2.2.2.2.2.2.2.1 a2.2.2.2.2.1) fun r29 => bnd (hash_Chunk r29 a1 a2.2.2.2.2.1) fun r30 => bnd (branch_Sized ((0 : Int), (ByteArray.empty, (ByteArray.empty, ((0 : Int), ([], ((0 : Int), ([], ((0 : Int), ((0 : Int), ()))))))))) (2 : Int)) fun r31 => br (eqI r28 r30) (bnd (gG_two ((), (a0.2.1, ((), ()))) (addI .i64 a1 (1 : Int)) a2 a3 a4) fun r32 => bnd (branch_With r31 r28 r32.1.2.1) fun r33 => bnd (plan_Add ((), (r32.1.1.2.1, ((), ()))) r33 r32.2.2.1 r32.2.2.2.1) fun r34 => some ((((), (r34.1.1.2.1, ((), ()))), (r34.1.2.1, r32.1.2.2)), (r32.2.1, (r34.2.2.2.1, (r34.2.2.1, ()))))) (bnd (node_Leaf a2.2.1 a2.2.2.1) fun r35 => bnd (plan_Add ((), (a0.2.1, ((), ()))) r35 a3 a4) fun r36 => bnd (branch_With r31 r28 r36.1.2.1) fun r37 => bnd (branch_With r37 r30 a2.2.2.2.2.2.2.2.2.1) fun r38 => bnd (plan_Add ((), (r36.1.1.2.1, ((), ()))) r38 r36.2.2.2.1 r36.2.2.1) fun r39 => some ((((), (r39.1.1.2.1, ((), ()))), (r39.1.2.1, (true, ()))), (a2, (r39.2.2.2.1, (r39.2.2.1, ())))))) := (callW_eq _ _ _ _ _).trans (by kernel_rfl)
theorem pair_Put.eq (a0 : den (.list tapiPair)) (a1 : den .str) (a2 : den .str) : pair_Put a0 a1 a2 = bnd (pair_ordered a0) fun r0 => bnd (pair_put r0 (a1, (a2, ()))) fun r1 => some r1.2.1 := (callW_eq _ _ _ _ _).trans (by kernel_rfl)
theorem mask_With.eq (a0 : den (.int .u32)) (a1 : Int) : mask_With a0 a1 = bnd (mask_in a1) fun r0 => br (notB r0) (some a0) (br (leI (0 : Int) a1) (some (orI .u32 a0 (shlI .u32 (1 : Int) a1))) none) := (callW_eq _ _ _ _ _).trans (by kernel_rfl)
theorem slices_InsertRR.eq (a0 : Int) (a1 : denO (.row 24 (.int .i64) true)) (a2 : denO (.row 24 (.int .i64) true)) : slices_InsertRR a0 a1 a2 = br (insG (.int .i64) a1 a0 a2) (some ((), ((insL (.int .i64) a1 a0 a2), (a2, ())))) none := (callW_eq _ _ _ _ _).trans (by kernel_rfl)
theorem slices_CloneNN.eq (a0 : den (.list tapiNode)) : slices_CloneNN a0 = br (eqI (ofN (lenL tapiNode a0)) (0 : Int)) (both (some ((), ([], ()))) (br (fitL tapiNode (appL tapiNode [] a0)) (some ((), ((appL tapiNode [] a0), ()))) none)) (br (fitL tapiNode (appL tapiNode [] a0)) (some ((), ((appL tapiNode [] a0), ()))) none) := (callW_eq _ _ _ _ _).trans (by kernel_rfl)
theorem ref_New.eq (a0 : Int) : ref_New a0 = br (ltI a0 (0 : Int)) (some (0 : Int)) (some (subI .i64 (-1 : Int) a0)) := (callW_eq _ _ _ _ _).trans (by kernel_rfl)
theorem node_Refs.eq (a0 : den tapiNode) : node_Refs a0 = both (bnd (slices_CloneRR a0.2.2.2.2.1) fun r0 => br (fitL (.int .i64) (appL (.int .i64) r0.2.1 (a0.2.2.2.2.2.1 :: []))) (node_Refs.l0 (ofN (lenL (.int .i64) (appL (.int .i64) r0.2.1 (a0.2.2.2.2.2.1 :: [])))) (0 : Int) [] (appL (.int .i64) r0.2.1 (a0.2.2.2.2.2.1 :: []))) none) (bnd (slices_CloneRR a0.2.2.2.2.1) fun r1 => br (fitL (.int .i64) (appL (.int .i64) r1.2.1 (a0.2.2.2.2.2.1 :: []))) (node_Refs.l0 (ofN (lenL (.int .i64) (appL (.int .i64) r1.2.1 (a0.2.2.2.2.2.1 :: [])))) (0 : Int) [] (appL (.int .i64) r1.2.1 (a0.2.2.2.2.2.1 :: []))) none) := (callW_eq _ _ _ _ _).trans (by kernel_rfl)
theorem node_Refs.l0.eq (x0 : Int) (x1 : Int) (x2 : denO (.row 24 (.int .i64) false)) (x3 : denO (.row 24 (.int .i64) false)) : node_Refs.l0 x0 x1 x2 x3 = br (ltI x1 x0) (br (andB (leI (0 : Int) x1) (ltI x1 (ofN (lenL (.int .i64) x3)))) (br (notB (eqI (ixL (.int .i64) x3 x1) (0 : Int))) (br (fitL (.int .i64) (appL (.int .i64) x2 ((ixL (.int .i64) x3 x1) :: []))) (node_Refs.l0 x0 (addI .i64 x1 (1 : Int)) (appL (.int .i64) x2 ((ixL (.int .i64) x3 x1) :: [])) x3) none) (node_Refs.l0 x0 (addI .i64 x1 (1 : Int)) x2 x3)) none) (some x2) := (loopB_eq _ _ _ _ _ _).trans (by kernel_rfl)
theorem slices_ContainsFuncRR.eq (a0 : den (.list (.int .i64))) (a1 : den (.fn 143 (.tcons (.ptr 0 0) .tnil))) (a2 : denO (.box (.int .i64))) : slices_ContainsFuncRR a0 a1 a2 = bnd (slices_IndexFuncRR a0 ((), ()) a2) fun r0 => some ((leI (0 : Int) r0.1), (r0.2.1, ())) := (callW_eq _ _ _ _ _).trans (by kernel_rfl)
theorem plan_ahead.eq (a0 : Int) (a1 : Int) : plan_ahead a0 a1 = bnd (ref_Which a0) fun r0 => br (notB r0.2.1) (some true) (some (ltI r0.1 a1)) := (callW_eq _ _ _ _ _).trans (by kernel_rfl)
theorem slices_ContainsFuncRR_v1.eq (a0 : den (.list (.int .i64))) : slices_ContainsFuncRR_v1 a0 = bnd (slices_IndexFuncRR_v1 a0) fun r0 => some (leI (0 : Int) r0) := (callW_eq _ _ _ _ _).trans (by kernel_rfl)
theorem slices_CloneRR.eq (a0 : den (.list (.int .i64))) : slices_CloneRR a0 = br (eqI (ofN (lenL (.int .i64) a0)) (0 : Int)) (both (some ((), ([], ()))) (br (fitL (.int .i64) (appL (.int .i64) [] a0)) (some ((), ((appL (.int .i64) [] a0), ()))) none)) (br (fitL (.int .i64) (appL (.int .i64) [] a0)) (some ((), ((appL (.int .i64) [] a0), ()))) none) := (callW_eq _ _ _ _ _).trans (by kernel_rfl)
theorem slices_ContainsFuncRR_v2.eq (a0 : den (.list (.int .i64))) (a1 : den (.fn 147 (.tcons (.ptr 0 0) .tnil))) (a2 : denO (.box (.list tapiNode))) : slices_ContainsFuncRR_v2 a0 a1 a2 = bnd (slices_IndexFuncRR_v2 a0 ((), ()) a2) fun r0 => some ((leI (0 : Int) r0.1), (r0.2.1, ())) := (callW_eq _ _ _ _ _).trans (by kernel_rfl)
theorem ref_Which.eq (a0 : Int) : ref_Which a0 = bnd (ref_Kind a0) fun r0 => br (notB (eqI r0 (2 : Int))) (some ((0 : Int), (false, ()))) (some ((subI .i64 (-1 : Int) a0), (true, ()))) := (callW_eq _ _ _ _ _).trans (by kernel_rfl)
theorem ref13_Refs.eq (a0 : den tapiNode) : ref13_Refs a0 = ref13_Refs.l0 (0 : Int) a0 [] := (callW_eq _ _ _ _ _).trans (by kernel_rfl)
theorem ref13_Refs.l0.eq (x0 : Int) (x1 : denO (.box tapiNode)) (x2 : denO (.row 24 (.int .i64) false)) : ref13_Refs.l0 x0 x1 x2 = br (ltI x0 (ofN (lenL (.int .i64) x1.2.2.2.2.1))) (br (andB (leI (0 : Int) x0) (ltI x0 (ofN (lenL (.int .i64) x1.2.2.2.2.1)))) (br (notB (eqI (ixL (.int .i64) x1.2.2.2.2.1 x0) (0 : Int))) (br (andB (leI (0 : Int) x0) (ltI x0 (ofN (lenL (.int .i64) x1.2.2.2.2.1)))) (br (fitL (.int .i64) (appL (.int .i64) x2 ((ixL (.int .i64) x1.2.2.2.2.1 x0) :: []))) (ref13_Refs.l0 (addI .i64 x0 (1 : Int)) x1 (appL (.int .i64) x2 ((ixL (.int .i64) x1.2.2.2.2.1 x0) :: []))) none) none) (ref13_Refs.l0 (addI .i64 x0 (1 : Int)) x1 x2)) none) (br (notB (eqI x1.2.2.2.2.2.1 (0 : Int))) (br (fitL (.int .i64) (appL (.int .i64) x2 (x1.2.2.2.2.2.1 :: []))) (some (appL (.int .i64) x2 (x1.2.2.2.2.2.1 :: []))) none) (some x2)) := (loopB_eq _ _ _ _ _ _).trans (by kernel_rfl)
theorem ref13_May.eq (a0 : den tapiNode) : ref13_May a0 = br (ltI a0.1 (1 : Int)) (some (11 : Int)) (br (ltI (6 : Int) a0.1) (some (11 : Int)) (bnd (ref13_long a0) fun r0 => br r0 (some (6 : Int)) (bnd (ref13_form a0) fun r1 => br (notB r1) (some (4 : Int)) (some (0 : Int))))) := (callW_eq _ _ _ _ _).trans (by kernel_rfl)
theorem ref13_SameRefs.eq (a0 : den (.list (.int .i64))) (a1 : den (.list (.int .i64))) : ref13_SameRefs a0 a1 = br (notB (eqI (ofN (lenL (.int .i64) a0)) (ofN (lenL (.int .i64) a1)))) (some false) (ref13_SameRefs.l0 a0 a1 (0 : Int)) := (callW_eq _ _ _ _ _).trans (by kernel_rfl)
theorem ref13_SameRefs.l0.eq (x0 : den (.list (.int .i64))) (x1 : den (.list (.int .i64))) (x2 : Int) : ref13_SameRefs.l0 x0 x1 x2 = br (ltI x2 (ofN (lenL (.int .i64) x0))) (br (andB (leI (0 : Int) x2) (ltI x2 (ofN (lenL (.int .i64) x0)))) (br (andB (leI (0 : Int) x2) (ltI x2 (ofN (lenL (.int .i64) x1)))) (br (notB (eqI (ixL (.int .i64) x0 x2) (ixL (.int .i64) x1 x2))) (some false) (ref13_SameRefs.l0 x0 x1 (addI .i64 x2 (1 : Int)))) none) none) (some true) := (loopB_eq _ _ _ _ _ _).trans (by kernel_rfl)
theorem ref07_Same.eq (a0 : den (.list tapiPair)) (a1 : den (.list tapiPair)) : ref07_Same a0 a1 = br (notB (eqI (ofN (lenL tapiPair a0)) (ofN (lenL tapiPair a1)))) (some false) (ref07_Same.l0 a0 a1 (0 : Int)) := (callW_eq _ _ _ _ _).trans (by kernel_rfl)
theorem ref07_Same.l0.eq (x0 : den (.list tapiPair)) (x1 : den (.list tapiPair)) (x2 : Int) : ref07_Same.l0 x0 x1 x2 = br (ltI x2 (ofN (lenL tapiPair x0))) (br (andB (leI (0 : Int) x2) (ltI x2 (ofN (lenL tapiPair x0)))) (br (andB (leI (0 : Int) x2) (ltI x2 (ofN (lenL tapiPair x1)))) (br (notB (andB (eqS (ixL tapiPair x0 x2).1 (ixL tapiPair x1 x2).1) (andB (eqS (ixL tapiPair x0 x2).2.1 (ixL tapiPair x1 x2).2.1) true))) (some false) (ref07_Same.l0 x0 x1 (addI .i64 x2 (1 : Int)))) none) none) (some true) := (loopB_eq _ _ _ _ _ _).trans (by kernel_rfl)
theorem slices_DeleteRR.eq (a0 : Int) (a1 : Int) (a2 : denO (.row 24 (.int .i64) true)) : slices_DeleteRR a0 a1 a2 = br (delG (.int .i64) a2 a0 a1) (some ((), ((delL (.int .i64) a2 a0 a1), ()))) none := (callW_eq _ _ _ _ _).trans (by kernel_rfl)
theorem mask_Without.eq (a0 : den (.int .u32)) (a1 : Int) : mask_Without a0 a1 = bnd (mask_in a1) fun r0 => br (notB r0) (some a0) (br (leI (0 : Int) a1) (some (andNotI .u32 a0 (shlI .u32 (1 : Int) a1))) none) := (callW_eq _ _ _ _ _).trans (by kernel_rfl)
theorem node_Branch_o.eq (a0 : den (.int .u32)) (a1 : den (.list (.int .i64))) (a2 : Int) : node_Branch_o a0 a1 a2 = bnd (slices_CloneRR a1) fun r0 => some (((2 : Int), (ByteArray.empty, (ByteArray.empty, (a0, ((), ((0 : Int), ((), (a2, ((0 : Int), ()))))))))), (r0.2.1, ([], ()))) := (callW_eq _ _ _ _ _).trans (by kernel_rfl)
theorem mask_in.eq (a0 : Int) : mask_in a0 = br (leI (0 : Int) a0) (some (ltI a0 (32 : Int))) (some false) := (callW_eq _ _ _ _ _).trans (by kernel_rfl)
theorem mask_below.eq (a0 : Int) : mask_below a0 = br (leI a0 (0 : Int)) (some (0 : Int)) (br (leI (32 : Int) a0) (some (4294967295 : Int)) (br (leI (0 : Int) a0) (some (subI .u32 (shlI .u32 (1 : Int) a0) (1 : Int))) none)) := (callW_eq _ _ _ _ _).trans (by kernel_rfl)
theorem math_bits_OnesCount32.eq (a0 : den (.int .u32)) : math_bits_OnesCount32 a0 = br (leI (0 : Int) (24 : Int)) (br (andB (leI (0 : Int) (shrI .u32 a0 (24 : Int))) (ltI (shrI .u32 a0 (24 : Int)) (ofN (lenS (ByteArray.mk #[0, 1, 1, 2, 1, 2, 2, 3, 1, 2, 2, 3, 2, 3, 3, 4, 1, 2, 2, 3, 2, 3, 3, 4, 2, 3, 3, 4, 3, 4, 4, 5, 1, 2, 2, 3, 2, 3, 3, 4, 2, 3, 3, 4, 3, 4, 4, 5, 2, 3, 3, 4, 3, 4, 4, 5, 3, 4, 4, 5, 4, 5, 5, 6, 1, 2, 2, 3, 2, 3, 3, 4, 2, 3, 3, 4, 3, 4, 4, 5, 2, 3, 3, 4, 3, 4, 4, 5, 3, 4, 4, 5, 4, 5, 5, 6, 2, 3, 3, 4, 3, 4, 4, 5, 3, 4, 4, 5, 4, 5, 5, 6, 3, 4, 4, 5, 4, 5, 5, 6, 4, 5, 5, 6, 5, 6, 6, 7, 1, 2, 2, 3, 2, 3, 3, 4, 2, 3, 3, 4, 3, 4, 4, 5, 2, 3, 3, 4, 3, 4, 4, 5, 3, 4, 4, 5, 4, 5, 5, 6, 2, 3, 3, 4, 3, 4, 4, 5, 3, 4, 4, 5, 4, 5, 5, 6, 3, 4, 4, 5, 4, 5, 5, 6, 4, 5, 5, 6, 5, 6, 6, 7, 2, 3, 3, 4, 3, 4, 4, 5, 3, 4, 4, 5, 4, 5, 5, 6, 3, 4, 4, 5, 4, 5, 5, 6, 4, 5, 5, 6, 5, 6, 6, 7, 3, 4, 4, 5, 4, 5, 5, 6, 4, 5, 5, 6, 5, 6, 6, 7, 4, 5, 5, 6, 5, 6, 6, 7, 5, 6, 6, 7, 6, 7, 7, 8]))))) (br (leI (0 : Int) (16 : Int)) (br (andB (leI (0 : Int) (andI .u32 (shrI .u32 a0 (16 : Int)) (255 : Int))) (ltI (andI .u32 (shrI .u32 a0 (16 : Int)) (255 : Int)) (ofN (lenS (ByteArray.mk #[0, 1, 1, 2, 1, 2, 2, 3, 1, 2, 2, 3, 2, 3, 3, 4, 1, 2, 2, 3, 2, 3, 3, 4, 2, 3, 3, 4, 3, 4, 4, 5, 1, 2, 2, 3, 2, 3, 3, 4, 2, 3, 3, 4, 3, 4, 4, 5, 2, 3, 3, 4, 3, 4, 4, 5, 3, 4, 4, 5, 4, 5, 5, 6, 1, 2, 2, 3, 2, 3, 3, 4, 2, 3, 3, 4, 3, 4, 4, 5, 2, 3, 3, 4, 3, 4, 4, 5, 3, 4, 4, 5, 4, 5, 5, 6, 2, 3, 3, 4, 3, 4, 4, 5, 3, 4, 4, 5, 4, 5, 5, 6, 3, 4, 4, 5, 4, 5, 5, 6, 4, 5, 5, 6, 5, 6, 6, 7, 1, 2, 2, 3, 2, 3, 3, 4, 2, 3, 3, 4, 3, 4, 4, 5, 2, 3, 3, 4, 3, 4, 4, 5, 3, 4, 4, 5, 4, 5, 5, 6, 2, 3, 3, 4, 3, 4, 4, 5, 3, 4, 4, 5, 4, 5, 5, 6, 3, 4, 4, 5, 4, 5, 5, 6, 4, 5, 5, 6, 5, 6, 6, 7, 2, 3, 3, 4, 3, 4, 4, 5, 3, 4, 4, 5, 4, 5, 5, 6, 3, 4, 4, 5, 4, 5, 5, 6, 4, 5, 5, 6, 5, 6, 6, 7, 3, 4, 4, 5, 4, 5, 5, 6, 4, 5, 5, 6, 5, 6, 6, 7, 4, 5, 5, 6, 5, 6, 6, 7, 5, 6, 6, 7, 6, 7, 7, 8]))))) (br (leI (0 : Int) (8 : Int)) (br (andB (leI (0 : Int) (andI .u32 (shrI .u32 a0 (8 : Int)) (255 : Int))) (ltI (andI .u32 (shrI .u32 a0 (8 : Int)) (255 : Int)) (ofN (lenS (ByteArray.mk #[0, 1, 1, 2, 1, 2, 2, 3, 1, 2, 2, 3, 2, 3, 3, 4, 1, 2, 2, 3, 2, 3, 3, 4, 2, 3, 3, 4, 3, 4, 4, 5, 1, 2, 2, 3, 2, 3, 3, 4, 2, 3, 3, 4, 3, 4, 4, 5, 2, 3, 3, 4, 3, 4, 4, 5, 3, 4, 4, 5, 4, 5, 5, 6, 1, 2, 2, 3, 2, 3, 3, 4, 2, 3, 3, 4, 3, 4, 4, 5, 2, 3, 3, 4, 3, 4, 4, 5, 3, 4, 4, 5, 4, 5, 5, 6, 2, 3, 3, 4, 3, 4, 4, 5, 3, 4, 4, 5, 4, 5, 5, 6, 3, 4, 4, 5, 4, 5, 5, 6, 4, 5, 5, 6, 5, 6, 6, 7, 1, 2, 2, 3, 2, 3, 3, 4, 2, 3, 3, 4, 3, 4, 4, 5, 2, 3, 3, 4, 3, 4, 4, 5, 3, 4, 4, 5, 4, 5, 5, 6, 2, 3, 3, 4, 3, 4, 4, 5, 3, 4, 4, 5, 4, 5, 5, 6, 3, 4, 4, 5, 4, 5, 5, 6, 4, 5, 5, 6, 5, 6, 6, 7, 2, 3, 3, 4, 3, 4, 4, 5, 3, 4, 4, 5, 4, 5, 5, 6, 3, 4, 4, 5, 4, 5, 5, 6, 4, 5, 5, 6, 5, 6, 6, 7, 3, 4, 4, 5, 4, 5, 5, 6, 4, 5, 5, 6, 5, 6, 6, 7, 4, 5, 5, 6, 5, 6, 6, 7, 5, 6, 6, 7, 6, 7, 7, 8]))))) (br (andB (leI (0 : Int) (andI .u32 a0 (255 : Int))) (ltI (andI .u32 a0 (255 : Int)) (ofN (lenS (ByteArray.mk #[0, 1, 1, 2, 1, 2, 2, 3, 1, 2, 2, 3, 2, 3, 3, 4, 1, 2, 2, 3, 2, 3, 3, 4, 2, 3, 3, 4, 3, 4, 4, 5, 1, 2, 2, 3, 2, 3, 3, 4, 2, 3, 3, 4, 3, 4, 4, 5, 2, 3, 3, 4, 3, 4, 4, 5, 3, 4, 4, 5, 4, 5, 5, 6, 1, 2, 2, 3, 2, 3, 3, 4, 2, 3, 3, 4, 3, 4, 4, 5, 2, 3, 3, 4, 3, 4, 4, 5, 3, 4, 4, 5, 4, 5, 5, 6, 2, 3, 3, 4, 3, 4, 4, 5, 3, 4, 4, 5, 4, 5, 5, 6, 3, 4, 4, 5, 4, 5, 5, 6, 4, 5, 5, 6, 5, 6, 6, 7, 1, 2, 2, 3, 2, 3, 3, 4, 2, 3, 3, 4, 3, 4, 4, 5, 2, 3, 3, 4, 3, 4, 4, 5, 3, 4, 4, 5, 4, 5, 5, 6, 2, 3, 3, 4, 3, 4, 4, 5, 3, 4, 4, 5, 4, 5, 5, 6, 3, 4, 4, 5, 4, 5, 5, 6, 4, 5, 5, 6, 5, 6, 6, 7, 2, 3, 3, 4, 3, 4, 4, 5, 3, 4, 4, 5, 4, 5, 5, 6, 3, 4, 4, 5, 4, 5, 5, 6, 4, 5, 5, 6, 5, 6, 6, 7, 3, 4, 4, 5, 4, 5, 5, 6, 4, 5, 5, 6, 5, 6, 6, 7, 4, 5, 5, 6, 5, 6, 6, 7, 5, 6, 6, 7, 6, 7, 7, 8]))))) (some (wrapI .i64 (addI .u8 (addI .u8 (addI .u8 (getS (ByteArray.mk #[0, 1, 1, 2, 1, 2, 2, 3, 1, 2, 2, 3, 2, 3, 3, 4, 1, 2, 2, 3, 2, 3, 3, 4, 2, 3, 3, 4, 3, 4, 4, 5, 1, 2, 2, 3, 2, 3, 3, 4, 2, 3, 3, 4, 3, 4, 4, 5, 2, 3, 3, 4, 3, 4, 4, 5, 3, 4, 4, 5, 4, 5, 5, 6, 1, 2, 2, 3, 2, 3, 3, 4, 2, 3, 3, 4, 3, 4, 4, 5, 2, 3, 3, 4, 3, 4, 4, 5, 3, 4, 4, 5, 4, 5, 5, 6, 2, 3, 3, 4, 3, 4, 4, 5, 3, 4, 4, 5, 4, 5, 5, 6, 3, 4, 4, 5, 4, 5, 5, 6, 4, 5, 5, 6, 5, 6, 6, 7, 1, 2, 2, 3, 2, 3, 3, 4, 2, 3, 3, 4, 3, 4, 4, 5, 2, 3, 3, 4, 3, 4, 4, 5, 3, 4, 4, 5, 4, 5, 5, 6, 2, 3, 3, 4, 3, 4, 4, 5, 3, 4, 4, 5, 4, 5, 5, 6, 3, 4, 4, 5, 4, 5, 5, 6, 4, 5, 5, 6, 5, 6, 6, 7, 2, 3, 3, 4, 3, 4, 4, 5, 3, 4, 4, 5, 4, 5, 5, 6, 3, 4, 4, 5, 4, 5, 5, 6, 4, 5, 5, 6, 5, 6, 6, 7, 3, 4, 4, 5, 4, 5, 5, 6, 4, 5, 5, 6, 5, 6, 6, 7, 4, 5, 5, 6, 5, 6, 6, 7, 5, 6, 6, 7, 6, 7, 7, 8]) (toN (shrI .u32 a0 (24 : Int)))) (getS (ByteArray.mk #[0, 1, 1, 2, 1, 2, 2, 3, 1, 2, 2, 3, 2, 3, 3, 4, 1, 2, 2, 3, 2, 3, 3, 4, 2, 3, 3, 4, 3, 4, 4, 5, 1, 2, 2, 3, 2, 3, 3, 4, 2, 3, 3, 4, 3, 4, 4, 5, 2, 3, 3, 4, 3, 4, 4, 5, 3, 4, 4, 5, 4, 5, 5, 6, 1, 2, 2, 3, 2, 3, 3, 4, 2, 3, 3, 4, 3, 4, 4, 5, 2, 3, 3, 4, 3, 4, 4, 5, 3, 4, 4, 5, 4, 5, 5, 6, 2, 3, 3, 4, 3, 4, 4, 5, 3, 4, 4, 5, 4, 5, 5, 6, 3, 4, 4, 5, 4, 5, 5, 6, 4, 5, 5, 6, 5, 6, 6, 7, 1, 2, 2, 3, 2, 3, 3, 4, 2, 3, 3, 4, 3, 4, 4, 5, 2, 3, 3, 4, 3, 4, 4, 5, 3, 4, 4, 5, 4, 5, 5, 6, 2, 3, 3, 4, 3, 4, 4, 5, 3, 4, 4, 5, 4, 5, 5, 6, 3, 4, 4, 5, 4, 5, 5, 6, 4, 5, 5, 6, 5, 6, 6, 7, 2, 3, 3, 4, 3, 4, 4, 5, 3, 4, 4, 5, 4, 5, 5, 6, 3, 4, 4, 5, 4, 5, 5, 6, 4, 5, 5, 6, 5, 6, 6, 7, 3, 4, 4, 5, 4, 5, 5, 6, 4, 5, 5, 6, 5, 6, 6, 7, 4, 5, 5, 6, 5, 6, 6, 7, 5, 6, 6, 7, 6, 7, 7, 8]) (toN (andI .u32 (shrI .u32 a0 (16 : Int)) (255 : Int))))) (getS (ByteArray.mk #[0, 1, 1, 2, 1, 2, 2, 3, 1, 2, 2, 3, 2, 3, 3, 4, 1, 2, 2, 3, 2, 3, 3, 4, 2, 3, 3, 4, 3, 4, 4, 5, 1, 2, 2, 3, 2, 3, 3, 4, 2, 3, 3, 4, 3, 4, 4, 5, 2, 3, 3, 4, 3, 4, 4, 5, 3, 4, 4, 5, 4, 5, 5, 6, 1, 2, 2, 3, 2, 3, 3, 4, 2, 3, 3, 4, 3, 4, 4, 5, 2, 3, 3, 4, 3, 4, 4, 5, 3, 4, 4, 5, 4, 5, 5, 6, 2, 3, 3, 4, 3, 4, 4, 5, 3, 4, 4, 5, 4, 5, 5, 6, 3, 4, 4, 5, 4, 5, 5, 6, 4, 5, 5, 6, 5, 6, 6, 7, 1, 2, 2, 3, 2, 3, 3, 4, 2, 3, 3, 4, 3, 4, 4, 5, 2, 3, 3, 4, 3, 4, 4, 5, 3, 4, 4, 5, 4, 5, 5, 6, 2, 3, 3, 4, 3, 4, 4, 5, 3, 4, 4, 5, 4, 5, 5, 6, 3, 4, 4, 5, 4, 5, 5, 6, 4, 5, 5, 6, 5, 6, 6, 7, 2, 3, 3, 4, 3, 4, 4, 5, 3, 4, 4, 5, 4, 5, 5, 6, 3, 4, 4, 5, 4, 5, 5, 6, 4, 5, 5, 6, 5, 6, 6, 7, 3, 4, 4, 5, 4, 5, 5, 6, 4, 5, 5, 6, 5, 6, 6, 7, 4, 5, 5, 6, 5, 6, 6, 7, 5, 6, 6, 7, 6, 7, 7, 8]) (toN (andI .u32 (shrI .u32 a0 (8 : Int)) (255 : Int))))) (getS (ByteArray.mk #[0, 1, 1, 2, 1, 2, 2, 3, 1, 2, 2, 3, 2, 3, 3, 4, 1, 2, 2, 3, 2, 3, 3, 4, 2, 3, 3, 4, 3, 4, 4, 5, 1, 2, 2, 3, 2, 3, 3, 4, 2, 3, 3, 4, 3, 4, 4, 5, 2, 3, 3, 4, 3, 4, 4, 5, 3, 4, 4, 5, 4, 5, 5, 6, 1, 2, 2, 3, 2, 3, 3, 4, 2, 3, 3, 4, 3, 4, 4, 5, 2, 3, 3, 4, 3, 4, 4, 5, 3, 4, 4, 5, 4, 5, 5, 6, 2, 3, 3, 4, 3, 4, 4, 5, 3, 4, 4, 5, 4, 5, 5, 6, 3, 4, 4, 5, 4, 5, 5, 6, 4, 5, 5, 6, 5, 6, 6, 7, 1, 2, 2, 3, 2, 3, 3, 4, 2, 3, 3, 4, 3, 4, 4, 5, 2, 3, 3, 4, 3, 4, 4, 5, 3, 4, 4, 5, 4, 5, 5, 6, 2, 3, 3, 4, 3, 4, 4, 5, 3, 4, 4, 5, 4, 5, 5, 6, 3, 4, 4, 5, 4, 5, 5, 6, 4, 5, 5, 6, 5, 6, 6, 7, 2, 3, 3, 4, 3, 4, 4, 5, 3, 4, 4, 5, 4, 5, 5, 6, 3, 4, 4, 5, 4, 5, 5, 6, 4, 5, 5, 6, 5, 6, 6, 7, 3, 4, 4, 5, 4, 5, 5, 6, 4, 5, 5, 6, 5, 6, 6, 7, 4, 5, 5, 6, 5, 6, 6, 7, 5, 6, 6, 7, 6, 7, 7, 8]) (toN (andI .u32 a0 (255 : Int))))))) none) none) none) none) none) none) none := (callW_eq _ _ _ _ _).trans (by kernel_rfl)
theorem slices_BinarySearchFuncQQ_string.eq (a0 : den (.list tapiPair)) (a1 : den .str) : slices_BinarySearchFuncQQ_string a0 a1 = slices_BinarySearchFuncQQ_string.l0 a0 a1 (ofN (lenL tapiPair a0)) (0 : Int) (ofN (lenL tapiPair a0)) := (callW_eq _ _ _ _ _).trans (by kernel_rfl)
theorem slices_BinarySearchFuncQQ_string.l0.eq (x0 : den (.list tapiPair)) (x1 : den .str) (x2 : Int) (x3 : Int) (x4 : Int) : slices_BinarySearchFuncQQ_string.l0 x0 x1 x2 x3 x4 = br (ltI x3 x4) (br (leI (0 : Int) (1 : Int)) (br (andB (leI (0 : Int) (wrapI .i64 (shrI .u64 (wrapI .u64 (addI .i64 x3 x4)) (1 : Int)))) (ltI (wrapI .i64 (shrI .u64 (wrapI .u64 (addI .i64 x3 x4)) (1 : Int))) (ofN (lenL tapiPair x0)))) (bnd (pair_place_1 (ixL tapiPair x0 (wrapI .i64 (shrI .u64 (wrapI .u64 (addI .i64 x3 x4)) (1 : Int)))) x1) fun r0 => br (ltI r0 (0 : Int)) (slices_BinarySearchFuncQQ_string.l0 x0 x1 x2 (addI .i64 (wrapI .i64 (shrI .u64 (wrapI .u64 (addI .i64 x3 x4)) (1 : Int))) (1 : Int)) x4) (slices_BinarySearchFuncQQ_string.l0 x0 x1 x2 x3 (wrapI .i64 (shrI .u64 (wrapI .u64 (addI .i64 x3 x4)) (1 : Int))))) none) none) (br (ltI x3 x2) (br (andB (leI (0 : Int) x3) (ltI x3 (ofN (lenL tapiPair x0)))) (bnd (pair_place_1 (ixL tapiPair x0 x3) x1) fun r1 => some (x3, ((eqI r1 (0 : Int)), ()))) none) (some (x3, (false, ())))) := (loopB_eq _ _ _ _ _ _).trans (by kernel_rfl)
theorem slices_DeleteQQ.eq (a0 : Int) (a1 : Int) (a2 : denO (.row 84 tapiPair true)) : slices_DeleteQQ a0 a1 a2 = br (delG tapiPair a2 a0 a1) (some ((), ((delL tapiPair a2 a0 a1), ()))) none := (callW_eq _ _ _ _ _).trans (by kernel_rfl)
theorem ref04_clamp.eq (a0 : Int) : ref04_clamp a0 = br (ltI a0 (0 : Int)) (some (0 : Int)) (br (ltI (64 : Int) a0) (some (64 : Int)) (some a0)) := (callW_eq _ _ _ _ _).trans (by kernel_rfl)
theorem ref04_Of.eq (a0 : den .str) (a1 : Int) : ref04_Of a0 a1 = ref04_Of.l0 a0 a1 (14695981039346656037 : Int) (0 : Int) := (callW_eq _ _ _ _ _).trans (by kernel_rfl)
theorem ref04_Of.l0.eq (x0 : den .str) (x1 : Int) (x2 : den (.int .u64)) (x3 : Int) : ref04_Of.l0 x0 x1 x2 x3 = br (ltI x3 (ofN (lenS x0))) (br (andB (leI (0 : Int) x3) (ltI x3 (ofN (lenS x0)))) (ref04_Of.l0 x0 x1 (mulI .u64 (xorI .u64 x2 (wrapI .u64 (getS x0 (toN x3)))) (1099511628211 : Int)) (addI .i64 x3 (1 : Int))) none) (ref04_Of.l1 x1 x2 (0 : Int) (1 : Int) (0 : Int)) := (loopB_eq _ _ _ _ _ _).trans (by kernel_rfl)
theorem ref04_Of.l1.eq (x0 : Int) (x1 : den (.int .u64)) (x2 : den (.int .u64)) (x3 : den (.int .u64)) (x4 : Int) : ref04_Of.l1 x0 x1 x2 x3 x4 = bnd (ref04_clamp x0) fun r0 => br (ltI x4 r0) (br (notB (eqI (2 : Int) (0 : Int))) (br (notB (eqI (2 : Int) (0 : Int))) (ref04_Of.l1 x0 (quoI .u64 x1 (2 : Int)) (addI .u64 x2 (mulI .u64 x3 (remI x1 (2 : Int)))) (mulI .u64 (2 : Int) x3) (addI .i64 x4 (1 : Int))) none) none) (some x2) := (loopB_eq _ _ _ _ _ _).trans (by kernel_rfl)
theorem ref04_Chunk.eq (a0 : den (.int .u64)) (a1 : Int) (a2 : Int) : ref04_Chunk a0 a1 a2 = br (ltI a1 (0 : Int)) (some (0 : Int)) (bnd (ref04_Levels a2) fun r0 => br (leI r0 a1) (some (0 : Int)) (ref04_Chunk.l0 a0 a1 a2 (0 : Int) (1 : Int) (mulI .i64 (5 : Int) a1))) := (callW_eq _ _ _ _ _).trans (by kernel_rfl)
theorem ref04_Chunk.l0.eq (x0 : den (.int .u64)) (x1 : Int) (x2 : Int) (x3 : Int) (x4 : Int) (x5 : Int) : ref04_Chunk.l0 x0 x1 x2 x3 x4 x5 = br (ltI x5 (addI .i64 (mulI .i64 (5 : Int) x1) (5 : Int))) (bnd (ref04_clamp x2) fun r0 => br (ltI x5 r0) (bnd (ref04_bit x0 x5) fun r1 => ref04_Chunk.l0 x0 x1 x2 (addI .i64 x3 (mulI .i64 x4 r1)) (mulI .i64 (2 : Int) x4) (addI .i64 x5 (1 : Int))) (some x3)) (some x3) := (loopB_eq _ _ _ _ _ _).trans (by kernel_rfl)
theorem slices_IndexFuncQQ.eq (a0 : den (.list tapiPair)) : slices_IndexFuncQQ a0 = slices_IndexFuncQQ.l0 a0 (ofN (lenL tapiPair a0)) (0 : Int) := (callW_eq _ _ _ _ _).trans (by kernel_rfl)
theorem slices_IndexFuncQQ.l0.eq (x0 : den (.list tapiPair)) (x1 : Int) (x2 : Int) : slices_IndexFuncQQ.l0 x0 x1 x2 = br (ltI x2 x1) (br (andB (leI (0 : Int) x2) (ltI x2 (ofN (lenL tapiPair x0)))) (bnd (node_long_1 (ixL tapiPair x0 x2)) fun r0 => br r0 (some x2) (slices_IndexFuncQQ.l0 x0 x1 (addI .i64 x2 (1 : Int)))) none) (some (-1 : Int)) := (loopB_eq _ _ _ _ _ _).trans (by kernel_rfl)
theorem slices_IndexRR.eq (a0 : den (.list (.int .i64))) (a1 : Int) : slices_IndexRR a0 a1 = slices_IndexRR.l0 a0 a1 (ofN (lenL (.int .i64) a0)) (0 : Int) := (callW_eq _ _ _ _ _).trans (by kernel_rfl)
theorem slices_IndexRR.l0.eq (x0 : den (.list (.int .i64))) (x1 : Int) (x2 : Int) (x3 : Int) : slices_IndexRR.l0 x0 x1 x2 x3 = br (ltI x3 x2) (br (andB (leI (0 : Int) x3) (ltI x3 (ofN (lenL (.int .i64) x0)))) (br (eqI x1 (ixL (.int .i64) x0 x3)) (some x3) (slices_IndexRR.l0 x0 x1 x2 (addI .i64 x3 (1 : Int)))) none) (some (-1 : Int)) := (loopB_eq _ _ _ _ _ _).trans (by kernel_rfl)
theorem order_Compare.eq (a0 : den .str) (a1 : den .str) : order_Compare a0 a1 = bnd (order_Common a0 a1) fun r0 => br (eqI r0 (ofN (lenS a0))) (order_Compare.j0 a0 a1 r0 (eqI r0 (ofN (lenS a1)))) (order_Compare.j0 a0 a1 r0 false) := (callW_eq _ _ _ _ _).trans (by kernel_rfl)
theorem order_Compare.j0.eq (x0 : den .str) (x1 : den .str) (x2 : Int) (x3 : Bool) : order_Compare.j0 x0 x1 x2 x3 = br x3 (some (0 : Int)) (br (eqI x2 (ofN (lenS x0))) (some (-1 : Int)) (br (eqI x2 (ofN (lenS x1))) (some (1 : Int)) (br (andB (leI (0 : Int) x2) (ltI x2 (ofN (lenS x0)))) (br (andB (leI (0 : Int) x2) (ltI x2 (ofN (lenS x1)))) (br (ltI (getS x1 (toN x2)) (getS x0 (toN x2))) (some (1 : Int)) (some (-1 : Int))) none) none))) := (congrFun (congrFun (jnO_eq _ _) _) _).trans (by kernel_rfl)
theorem pair_put.eq (a0 : den (.list tapiPair)) (a1 : den tapiPair) : pair_put a0 a1 = bnd (pair_place a0 a1.1) fun r0 => br r0.2.1 (bnd (slices_CloneQQ a0) fun r1 => br (andB (leI (0 : Int) r0.1) (ltI r0.1 (ofN (lenL tapiPair r1.2.1)))) (some ((), ((setL tapiPair r1.2.1 r0.1 a1), ()))) none) (both (bnd (slices_CloneQQ a0) fun r2 => bnd (slices_InsertQQ r0.1 r2.2.1 (a1 :: [])) fun r3 => some ((), (r3.2.1, ()))) (bnd (slices_CloneQQ a0) fun r4 => bnd (slices_InsertQQ r0.1 r4.2.1 (a1 :: [])) fun r5 => some ((), (r5.2.1, ())))) := (callW_eq _ _ _ _ _).trans (by kernel_rfl)
theorem tM_add.eq (a0 : den tapiNode) (a1 : denO (.box (.pair (.int .i64) (.pair (.own tapiNode 1) .unit)))) (a2 : denO (.row 58 tapiNode true)) : tM_add a0 a1 a2 = br (fitL tapiNode (appL tapiNode a2 (a0 :: []))) (some ((ofN (lenL tapiNode (appL tapiNode a2 (a0 :: [])))), ((a1.1, ((), ())), ((appL tapiNode a2 (a0 :: [])), ())))) none := (callW_eq _ _ _ _ _).trans (by kernel_rfl)
theorem tM_parted.eq (a0 : den (.list tapiPair)) (a1 : Int) (a2 : denO (.box (.pair (.int .i64) (.pair (.own tapiNode 1) .unit)))) (a3 : denO (.row 58 tapiNode true)) : tM_parted a0 a1 a2 a3 = br (fitL tapiPair a0) (bnd (tM_parted.go a1 a2.1 a0 (fun _ => []) 0) fun q => some ((q.1, (q.2, ())), (a2, (a3, ())))) none := (callW_eq _ _ _ _ _).trans (by kernel_rfl)
theorem tM_parted.fin (level bits : Int) (m : den (.mp tapiPair)) (s : Int) : tM_parted.go level bits [] m s = some (m, s) := rfl
theorem tM_parted.step (level bits : Int) (p : den tapiPair) (l : List (den tapiPair)) (m : den (.mp tapiPair)) (s : Int) : tM_parted.go level bits (p :: l) m s = bnd (hash_Of p.1 bits) fun h => bnd (hash_Chunk h level bits) fun i => bnd (mask_With s i) fun s' => tM_parted.go level bits l (putM tapiPair m i p) s' := rfl
theorem mask_All.eq (a0 : den (.int .u32)) : mask_All a0 = mask_All.l0 a0 (-1 : Int) [] := (callW_eq _ _ _ _ _).trans (by kernel_rfl)
theorem mask_All.l0.eq (x0 : den (.int .u32)) (x1 : Int) (x2 : denO (.row 3 (.int .i64) false)) : mask_All.l0 x0 x1 x2 = bnd (mask_Next x0 x1) fun r0 => br (notB r0.2.1) (some x2) (br (fitL (.int .i64) (appL (.int .i64) x2 (r0.1 :: []))) (mask_All.l0 x0 r0.1 (appL (.int .i64) x2 (r0.1 :: []))) none) := (loopB_eq _ _ _ _ _ _).trans (by kernel_rfl)
theorem heap_bare.eq (a0 : den tapiNode) : heap_bare a0 = bnd (node_Copy a0) fun r0 => heap_bare.l0 (ofN (lenL (.int .i64) r0.2.1)) (0 : Int) r0.1 ((0 : Int), (ByteArray.empty, (ByteArray.empty, ((0 : Int), ((), ((0 : Int), ((), ((0 : Int), ((0 : Int), ()))))))))) r0.2.1 r0.2.2.1 [] [] := (callW_eq _ _ _ _ _).trans (by kernel_rfl)
theorem heap_bare.l0.eq (x0 : Int) (x1 : Int) (x2 : denO (.box (tNd 2 3))) (x3 : denO (.box (tNd 4 5))) (x4 : denO (.row 24 (.int .i64) false)) (x5 : denO (.row 84 tapiPair false)) (x6 : denO (.row 24 (.int .i64) false)) (x7 : denO (.row 84 tapiPair false)) : heap_bare.l0 x0 x1 x2 x3 x4 x5 x6 x7 = br (ltI x1 x0) (br (andB (leI (0 : Int) x1) (ltI x1 (ofN (lenL (.int .i64) x4)))) (br (andB (leI (0 : Int) x1) (ltI x1 (ofN (lenL (.int .i64) x4)))) (heap_bare.l0 x0 (addI .i64 x1 (1 : Int)) x2 x3 (setL (.int .i64) x4 x1 (minI (ixL (.int .i64) x4 x1) (1 : Int))) x5 x6 x7) none) none) (some (x2.1, (x2.2.1, (x2.2.2.1, (x2.2.2.2.1, (x4, ((minI x2.2.2.2.2.2.1 (1 : Int)), (x5, (x2.2.2.2.2.2.2.2.1, ((0 : Int), ())))))))))) := (loopB_eq _ _ _ _ _ _).trans (by kernel_rfl)
theorem slices_IndexFuncRR.eq (a0 : den (.list (.int .i64))) (a1 : den (.fn 143 (.tcons (.ptr 0 0) .tnil))) (a2 : denO (.box (.int .i64))) : slices_IndexFuncRR a0 a1 a2 = slices_IndexFuncRR.l0 a0 ((), ()) (ofN (lenL (.int .i64) a0)) (0 : Int) a2 := (callW_eq _ _ _ _ _).trans (by kernel_rfl)
theorem slices_IndexFuncRR.l0.eq (x0 : den (.list (.int .i64))) (x1 : den (.fn 143 (.tcons (.ptr 0 0) .tnil))) (x2 : Int) (x3 : Int) (x4 : denO (.box (.int .i64))) : slices_IndexFuncRR.l0 x0 x1 x2 x3 x4 = br (ltI x3 x2) (br (andB (leI (0 : Int) x3) (ltI x3 (ofN (lenL (.int .i64) x0)))) (bnd (plan_May_1 (ixL (.int .i64) x0 x3) x4) fun r0 => br r0.1 (some (x3, (r0.2.1, ()))) (slices_IndexFuncRR.l0 x0 ((), ()) x2 (addI .i64 x3 (1 : Int)) r0.2.1)) none) (some ((-1 : Int), (x4, ()))) := (loopB_eq _ _ _ _ _ _).trans (by kernel_rfl)
theorem slices_IndexFuncRR_v1.eq (a0 : den (.list (.int .i64))) : slices_IndexFuncRR_v1 a0 = slices_IndexFuncRR_v1.l0 a0 (ofN (lenL (.int .i64) a0)) (0 : Int) := (callW_eq _ _ _ _ _).trans (by kernel_rfl)
theorem slices_IndexFuncRR_v1.l0.eq (x0 : den (.list (.int .i64))) (x1 : Int) (x2 : Int) : slices_IndexFuncRR_v1.l0 x0 x1 x2 = br (ltI x2 x1) (br (andB (leI (0 : Int) x2) (ltI x2 (ofN (lenL (.int .i64) x0)))) (bnd (plan_May_2 (ixL (.int .i64) x0 x2)) fun r0 => br r0 (some x2) (slices_IndexFuncRR_v1.l0 x0 x1 (addI .i64 x2 (1 : Int)))) none) (some (-1 : Int)) := (loopB_eq _ _ _ _ _ _).trans (by kernel_rfl)
theorem slices_IndexFuncRR_v2.eq (a0 : den (.list (.int .i64))) (a1 : den (.fn 147 (.tcons (.ptr 0 0) .tnil))) (a2 : denO (.box (.list tapiNode))) : slices_IndexFuncRR_v2 a0 a1 a2 = slices_IndexFuncRR_v2.l0 a0 ((), ()) (ofN (lenL (.int .i64) a0)) (0 : Int) a2 := (callW_eq _ _ _ _ _).trans (by kernel_rfl)
theorem slices_IndexFuncRR_v2.l0.eq (x0 : den (.list (.int .i64))) (x1 : den (.fn 147 (.tcons (.ptr 0 0) .tnil))) (x2 : Int) (x3 : Int) (x4 : denO (.box (.list tapiNode))) : slices_IndexFuncRR_v2.l0 x0 x1 x2 x3 x4 = br (ltI x3 x2) (br (andB (leI (0 : Int) x3) (ltI x3 (ofN (lenL (.int .i64) x0)))) (bnd (plan_fits_1 (ixL (.int .i64) x0 x3) x4) fun r0 => br r0.1 (some (x3, (r0.2.1, ()))) (slices_IndexFuncRR_v2.l0 x0 ((), ()) x2 (addI .i64 x3 (1 : Int)) r0.2.1)) none) (some ((-1 : Int), (x4, ()))) := (loopB_eq _ _ _ _ _ _).trans (by kernel_rfl)
theorem ref_Kind.eq (a0 : Int) : ref_Kind a0 = br (eqI a0 (0 : Int)) (some (0 : Int)) (br (ltI a0 (0 : Int)) (some (2 : Int)) (br (notB (eqI (1024 : Int) (0 : Int))) (br (notB (eqI (1024 : Int) (0 : Int))) (bnd (ref_Make (remI a0 (1024 : Int)) (quoI .i64 a0 (1024 : Int))) fun r0 => br (notB (eqI r0.2.1 (0 : Int))) (some (3 : Int)) (some (1 : Int))) none) none)) := (callW_eq _ _ _ _ _).trans (by kernel_rfl)
theorem ref13_long.eq (a0 : den tapiNode) : ref13_long a0 = br (ltI (16 : Int) (ofN (lenS a0.2.1))) (ref13_long.l0 true (0 : Int) a0) (ref13_long.l0 (ltI (16 : Int) (ofN (lenS a0.2.2.1))) (0 : Int) a0) := (callW_eq _ _ _ _ _).trans (by kernel_rfl)
theorem ref13_long.l0.eq (x0 : Bool) (x1 : Int) (x2 : denO (.box tapiNode)) : ref13_long.l0 x0 x1 x2 = br (ltI x1 (ofN (lenL tapiPair x2.2.2.2.2.2.2.1))) (br x0 (ref13_long.l0 true (addI .i64 x1 (1 : Int)) x2) (br (andB (leI (0 : Int) x1) (ltI x1 (ofN (lenL tapiPair x2.2.2.2.2.2.2.1)))) (br (ltI (16 : Int) (ofN (lenS (ixL tapiPair x2.2.2.2.2.2.2.1 x1).1))) (ref13_long.l0 true (addI .i64 x1 (1 : Int)) x2) (br (andB (leI (0 : Int) x1) (ltI x1 (ofN (lenL tapiPair x2.2.2.2.2.2.2.1)))) (ref13_long.l0 (ltI (16 : Int) (ofN (lenS (ixL tapiPair x2.2.2.2.2.2.2.1 x1).2.1))) (addI .i64 x1 (1 : Int)) x2) none)) none)) (some x0) := (loopB_eq _ _ _ _ _ _).trans (by kernel_rfl)
theorem ref13_form.eq (a0 : den tapiNode) : ref13_form a0 = br (ltI a0.2.2.2.2.2.2.2.2.1 (0 : Int)) (some false) (br (eqI a0.1 (1 : Int)) (ref13_form.j0 a0.1 true a0) (ref13_form.j0 a0.1 (eqI a0.1 (6 : Int)) a0)) := (callW_eq _ _ _ _ _).trans (by kernel_rfl)
theorem ref13_form.j0.eq (x0 : Int) (x1 : Bool) (x2 : denO (.box tapiNode)) : ref13_form.j0 x0 x1 x2 = br x1 (br (eqI x2.2.2.2.2.2.2.2.1 (1 : Int)) (bnd (ref13_bare x2 false true true true) fun r0 => some r0) (some false)) (br (eqI x0 (2 : Int)) (ref13_form.l1 (0 : Int) x2) (br (eqI x0 (3 : Int)) (br (leI (2 : Int) (ofN (lenL tapiPair x2.2.2.2.2.2.2.1))) (bnd (ref07_Is x2.2.2.2.2.2.2.1) fun r1 => br r1 (br (eqI x2.2.2.2.2.2.2.2.1 (ofN (lenL tapiPair x2.2.2.2.2.2.2.1))) (bnd (ref13_bare x2 true true true false) fun r2 => some r2) (some false)) (some false)) (some false)) (br (eqI x0 (4 : Int)) (br (eqI x2.2.2.2.1 (0 : Int)) (br (eqI (ofN (lenL (.int .i64) x2.2.2.2.2.1)) (2 : Int)) (br (leI (1 : Int) x2.2.2.2.2.2.2.2.1) (bnd (ref13_bare x2 false false true true) fun r3 => some r3) (some false)) (some false)) (some false)) (br (notB (eqI x2.2.2.2.2.2.1 (0 : Int))) (br (eqI x2.2.2.2.2.2.2.2.1 (0 : Int)) (bnd (ref13_bare x2 true true false true) fun r4 => some r4) (some false)) (some false))))) := (congrFun (congrFun (jnO_eq _ _) _) _).trans (by kernel_rfl)
theorem ref13_form.l1.eq (x0 : Int) (x1 : denO (.box tapiNode)) : ref13_form.l1 x0 x1 = br (ltI x0 (ofN (lenL (.int .i64) x1.2.2.2.2.1))) (br (andB (leI (0 : Int) x0) (ltI x0 (ofN (lenL (.int .i64) x1.2.2.2.2.1)))) (br (eqI (ixL (.int .i64) x1.2.2.2.2.1 x0) (0 : Int)) (some false) (ref13_form.l1 (addI .i64 x0 (1 : Int)) x1)) none) (bnd (ref06_All x1.2.2.2.1) fun r0 => br (eqI (ofN (lenL (.int .i64) x1.2.2.2.2.1)) (ofN (lenL (.int .i64) r0))) (br (leI (0 : Int) x1.2.2.2.2.2.2.2.1) (bnd (ref13_bare x1 true false true true) fun r1 => some r1) (some false)) (some false)) := (loopB_eq _ _ _ _ _ _).trans (by kernel_rfl)
theorem pair_place_1.eq (a0 : den tapiPair) (a1 : den .str) : pair_place_1 a0 a1 = bnd (order_Compare a0.1 a1) fun r0 => some r0 := (callW_eq _ _ _ _ _).trans (by kernel_rfl)
theorem ref04_bit.eq (a0 : den (.int .u64)) (a1 : Int) : ref04_bit a0 a1 = ref04_bit.l0 a0 a1 (0 : Int) := (callW_eq _ _ _ _ _).trans (by kernel_rfl)
theorem ref04_bit.l0.eq (x0 : den (.int .u64)) (x1 : Int) (x2 : Int) : ref04_bit.l0 x0 x1 x2 = br (ltI x2 x1) (br (notB (eqI (2 : Int) (0 : Int))) (ref04_bit.l0 (quoI .u64 x0 (2 : Int)) x1 (addI .i64 x2 (1 : Int))) none) (br (notB (eqI (2 : Int) (0 : Int))) (some (wrapI .i64 (remI x0 (2 : Int)))) none) := (loopB_eq _ _ _ _ _ _).trans (by kernel_rfl)
theorem order_Common.eq (a0 : den .str) (a1 : den .str) : order_Common a0 a1 = order_Common.l0 a0 a1 (minI (ofN (lenS a0)) (ofN (lenS a1))) (minI (ofN (lenS a0)) (ofN (lenS a1))) (0 : Int) := (callW_eq _ _ _ _ _).trans (by kernel_rfl)
theorem order_Common.l0.eq (x0 : den .str) (x1 : den .str) (x2 : Int) (x3 : Int) (x4 : Int) : order_Common.l0 x0 x1 x2 x3 x4 = br (ltI x4 x3) (br (andB (leI (0 : Int) x4) (ltI x4 (ofN (lenS x0)))) (br (andB (leI (0 : Int) x4) (ltI x4 (ofN (lenS x1)))) (br (notB (eqI (getS x0 (toN x4)) (getS x1 (toN x4)))) (some x4) (order_Common.l0 x0 x1 x2 x3 (addI .i64 x4 (1 : Int)))) none) none) (some x2) := (loopB_eq _ _ _ _ _ _).trans (by kernel_rfl)
theorem slices_InsertQQ.eq (a0 : Int) (a1 : denO (.row 84 tapiPair true)) (a2 : denO (.row 84 tapiPair true)) : slices_InsertQQ a0 a1 a2 = br (insG tapiPair a1 a0 a2) (some ((), ((insL tapiPair a1 a0 a2), (a2, ())))) none := (callW_eq _ _ _ _ _).trans (by kernel_rfl)
theorem mask_Next.eq (a0 : den (.int .u32)) (a1 : Int) : mask_Next a0 a1 = br (leI (31 : Int) a1) (some ((0 : Int), (false, ()))) (bnd (mask_below (addI .i64 a1 (1 : Int))) fun r0 => br (eqI (andNotI .u32 a0 r0) (0 : Int)) (some ((0 : Int), (false, ()))) (bnd (math_bits_TrailingZeros32 (andNotI .u32 a0 r0)) fun r1 => some (r1, (true, ())))) := (callW_eq _ _ _ _ _).trans (by kernel_rfl)
theorem plan_May_1.eq (a0 : Int) (a1 : denO (.box (.int .i64))) : plan_May_1 a0 a1 = bnd (plan_ahead a0 a1) fun r0 => some ((notB r0), (a1, ())) := (callW_eq _ _ _ _ _).trans (by kernel_rfl)
theorem plan_May_2.eq (a0 : Int) : plan_May_2 a0 = some (leI a0 (0 : Int)) := (callW_eq _ _ _ _ _).trans (by kernel_rfl)
theorem plan_fits_1.eq (a0 : Int) (a1 : denO (.box (.list tapiNode))) : plan_fits_1 a0 a1 = bnd (plan_has a1 a0) fun r0 => some ((notB r0), (a1, ())) := (callW_eq _ _ _ _ _).trans (by kernel_rfl)
theorem ref_Make.eq (a0 : Int) (a1 : Int) : ref_Make a0 a1 = br (ltI a0 (1 : Int)) (some ((0 : Int), ((2 : Int), ()))) (br (ltI (1000 : Int) a0) (some ((0 : Int), ((2 : Int), ()))) (br (ltI a1 (1 : Int)) (some ((0 : Int), ((8 : Int), ()))) (br (ltI (4503599627370496 : Int) a1) (some ((0 : Int), ((8 : Int), ()))) (some ((addI .i64 (mulI .i64 a1 (1024 : Int)) a0), ((0 : Int), ())))))) := (callW_eq _ _ _ _ _).trans (by kernel_rfl)
theorem ref13_bare.eq (a0 : den tapiNode) (a1 : Bool) (a2 : Bool) (a3 : Bool) (a4 : Bool) : ref13_bare a0 a1 a2 a3 a4 = br a1 (br (notB (eqS a0.2.1 ByteArray.empty)) (some false) (br (notB (eqS a0.2.2.1 ByteArray.empty)) (some false) (br a2 (br (notB (eqI a0.2.2.2.1 (0 : Int))) (some false) (br (ltI (0 : Int) (ofN (lenL (.int .i64) a0.2.2.2.2.1))) (some false) (br (notB a3) (br (notB a4) (some true) (some (eqI (ofN (lenL tapiPair a0.2.2.2.2.2.2.1)) (0 : Int)))) (br (eqI a0.2.2.2.2.2.1 (0 : Int)) (br (notB a4) (some true) (some (eqI (ofN (lenL tapiPair a0.2.2.2.2.2.2.1)) (0 : Int)))) (some false))))) (br (notB a3) (br (notB a4) (some true) (some (eqI (ofN (lenL tapiPair a0.2.2.2.2.2.2.1)) (0 : Int)))) (br (eqI a0.2.2.2.2.2.1 (0 : Int)) (br (notB a4) (some true) (some (eqI (ofN (lenL tapiPair a0.2.2.2.2.2.2.1)) (0 : Int)))) (some false)))))) (br a2 (br (notB (eqI a0.2.2.2.1 (0 : Int))) (some false) (br (ltI (0 : Int) (ofN (lenL (.int .i64) a0.2.2.2.2.1))) (some false) (br (notB a3) (br (notB a4) (some true) (some (eqI (ofN (lenL tapiPair a0.2.2.2.2.2.2.1)) (0 : Int)))) (br (eqI a0.2.2.2.2.2.1 (0 : Int)) (br (notB a4) (some true) (some (eqI (ofN (lenL tapiPair a0.2.2.2.2.2.2.1)) (0 : Int)))) (some false))))) (br (notB a3) (br (notB a4) (some true) (some (eqI (ofN (lenL tapiPair a0.2.2.2.2.2.2.1)) (0 : Int)))) (br (eqI a0.2.2.2.2.2.1 (0 : Int)) (br (notB a4) (some true) (some (eqI (ofN (lenL tapiPair a0.2.2.2.2.2.2.1)) (0 : Int)))) (some false)))) := (callW_eq _ _ _ _ _).trans (by kernel_rfl)
theorem ref07_Is.eq (a0 : den (.list tapiPair)) : ref07_Is a0 = ref07_Is.l0 a0 (1 : Int) := (callW_eq _ _ _ _ _).trans (by kernel_rfl)
theorem ref07_Is.l0.eq (x0 : den (.list tapiPair)) (x1 : Int) : ref07_Is.l0 x0 x1 = br (ltI x1 (ofN (lenL tapiPair x0))) (br (andB (leI (0 : Int) (subI .i64 x1 (1 : Int))) (ltI (subI .i64 x1 (1 : Int)) (ofN (lenL tapiPair x0)))) (br (andB (leI (0 : Int) x1) (ltI x1 (ofN (lenL tapiPair x0)))) (bnd (ref01_Less (ixL tapiPair x0 (subI .i64 x1 (1 : Int))).1 (ixL tapiPair x0 x1).1) fun r0 => br (notB r0) (some false) (ref07_Is.l0 x0 (addI .i64 x1 (1 : Int)))) none) none) (some true) := (loopB_eq _ _ _ _ _ _).trans (by kernel_rfl)
theorem ref06_All.eq (a0 : den (.int .u32)) : ref06_All a0 = ref06_All.l0 a0 (0 : Int) [] := (callW_eq _ _ _ _ _).trans (by kernel_rfl)
theorem ref06_All.l0.eq (x0 : den (.int .u32)) (x1 : Int) (x2 : denO (.row 3 (.int .i64) false)) : ref06_All.l0 x0 x1 x2 = br (ltI x1 (32 : Int)) (bnd (ref06_Has x0 x1) fun r0 => br r0 (br (fitL (.int .i64) (appL (.int .i64) x2 (x1 :: []))) (ref06_All.l0 x0 (addI .i64 x1 (1 : Int)) (appL (.int .i64) x2 (x1 :: []))) none) (ref06_All.l0 x0 (addI .i64 x1 (1 : Int)) x2)) (some x2) := (loopB_eq _ _ _ _ _ _).trans (by kernel_rfl)
theorem math_bits_TrailingZeros32.eq (a0 : den (.int .u32)) : math_bits_TrailingZeros32 a0 = br (andB (leI 0 a0) (ltI a0 4294967296)) (some (ctzI a0)) none := (callW_eq _ _ _ _ _).trans (by kernel_rfl)
theorem plan_has.eq (a0 : den (.list tapiNode)) (a1 : Int) : plan_has a0 a1 = some (leI a1 (ofN (lenL tapiNode a0))) := (callW_eq _ _ _ _ _).trans (by kernel_rfl)
theorem ref06_Has.eq (a0 : den (.int .u32)) (a1 : Int) : ref06_Has a0 a1 = ref06_Has.l0 a0 a1 (0 : Int) := (callW_eq _ _ _ _ _).trans (by kernel_rfl)
theorem ref06_Has.l0.eq (x0 : den (.int .u32)) (x1 : Int) (x2 : Int) : ref06_Has.l0 x0 x1 x2 = br (ltI x2 (32 : Int)) (br (notB (eqI (2 : Int) (0 : Int))) (br (eqI (remI x0 (2 : Int)) (1 : Int)) (br (eqI x2 x1) (some true) (br (notB (eqI (2 : Int) (0 : Int))) (ref06_Has.l0 (quoI .u32 x0 (2 : Int)) x1 (addI .i64 x2 (1 : Int))) none)) (br (notB (eqI (2 : Int) (0 : Int))) (ref06_Has.l0 (quoI .u32 x0 (2 : Int)) x1 (addI .i64 x2 (1 : Int))) none)) none) (some false) := (loopB_eq _ _ _ _ _ _).trans (by kernel_rfl)
end Go.Proofs.YtjekopgcpikkiaaGreatDoor.AM

set_option linter.unusedVariables false
namespace Go.Abs
def bt (a : ByteArray) (i : Int) : Int := getS a (toN i)
abbrev bl (s : ByteArray) : List UInt8 := s.data.toList
theorem loop_eq (bs : ByteArray) : ∀ (d i : Nat) (r : List UInt8), bs.size - i = d → ByteArray.toList.loop bs i r = r.reverse ++ (bl bs).drop i := by
  intro d
  induction d with
  | zero =>
    intro i r h
    unfold ByteArray.toList.loop
    rw [if_neg (by omega), List.drop_eq_nil_of_le (by simp [bl]; show bs.size ≤ i; omega)]
    simp
  | succ d ih =>
    intro i r h
    unfold ByteArray.toList.loop
    rw [if_pos (by omega), ih (i + 1) _ (by omega)]
    have hi : i < (bl bs).length := by simp [bl]; show i < bs.size; omega
    rw [List.drop_eq_getElem_cons hi]
    have : bs.get! i = (bl bs)[i] := by
      have hi' : i < bs.data.size := by show i < bs.size; omega
      simp only [bl, ByteArray.get!]
      rw [getElem!_pos bs.data i hi']
      rfl
    rw [this]
    simp
theorem toList_eq (bs : ByteArray) : bs.toList = bl bs := by
  unfold ByteArray.toList
  rw [loop_eq bs bs.size 0 [] rfl]
  simp
theorem bl_inj {a b : ByteArray} (h : bl a = bl b) : a = b := Go.WideShapes.bytes_inj h
theorem bl_len (a : ByteArray) : (bl a).length = a.size := by
  show a.data.toList.length = a.data.size
  simp
theorem toList_iff {a b : ByteArray} : a.toList = b.toList ↔ a = b := by
  constructor
  · intro h
    rw [toList_eq, toList_eq] at h
    exact bl_inj h
  · intro h
    rw [h]
theorem toList_beq (a b : ByteArray) : (a.toList == b.toList) = decide (a = b) := by
  by_cases h : a = b
  · subst h; simp
  · have : ¬ a.toList = b.toList := fun e => h (toList_iff.1 e)
    simp [h, this]
theorem bt_get (a : ByteArray) (i : Nat) (h : i < (bl a).length) : bt a (i : Int) = ((bl a)[i].toNat : Int) := by
  have h' : i < a.data.size := h
  unfold bt getS toN
  simp only [Int.toNat_natCast, bl, ByteArray.get!]
  rw [getElem!_pos a.data i h']
  rfl
def ltL : List UInt8 → List UInt8 → Bool
  | _, [] => false
  | [], _ :: _ => true
  | x :: xs, y :: ys => if x = y then ltL xs ys else decide (x.toNat < y.toNat)
def comL : List UInt8 → List UInt8 → Nat
  | x :: xs, y :: ys => if x = y then comL xs ys + 1 else 0
  | _, _ => 0
def lt (a b : ByteArray) : Bool := ltL (bl a) (bl b)
def com (a b : ByteArray) : Nat := comL (bl a) (bl b)
def cmp (a b : ByteArray) : Int := if a = b then 0 else if lt a b then -1 else 1
theorem byte_eq {x y : UInt8} : x = y ↔ (x.toNat : Int) = (y.toNat : Int) := by
  constructor
  · intro h; rw [h]
  · intro h; exact UInt8.toNat_inj.1 (by omega)
theorem ltL_irrefl : ∀ a, ltL a a = false
  | [] => rfl
  | x :: xs => by simp [ltL, ltL_irrefl xs]
theorem ltL_trans : ∀ a b c, ltL a b = true → ltL b c = true → ltL a c = true
  | _, _, [], _, h => by cases ‹List UInt8› <;> simp [ltL] at h
  | _, [], _ :: _, h, _ => by cases ‹List UInt8› <;> simp [ltL] at h
  | [], _ :: _, _ :: _, _, _ => rfl
  | x :: xs, y :: ys, z :: zs, h1, h2 => by
    unfold ltL at h1 h2 ⊢
    by_cases e1 : x = y <;> by_cases e2 : y = z
    · subst e1; subst e2; simp at h1 h2 ⊢; exact ltL_trans _ _ _ h1 h2
    · subst e1; simp [e2] at h2 ⊢; exact h2
    · subst e2; simp [e1] at h1 ⊢; exact h1
    · simp [e1] at h1; simp [e2] at h2
      have : x ≠ z := by intro e; subst e; omega
      simp [this]; omega
theorem ltL_total : ∀ a b, a ≠ b → ltL a b = true ∨ ltL b a = true
  | [], [], h => absurd rfl h
  | [], _ :: _, _ => .inl rfl
  | _ :: _, [], _ => .inr rfl
  | x :: xs, y :: ys, h => by
    unfold ltL
    by_cases e : x = y
    · subst e
      simp
      exact ltL_total xs ys (fun e => h (by rw [e]))
    · have e' : ¬ y = x := fun k => e k.symm
      have hn : x.toNat ≠ y.toNat := fun k => e (UInt8.toNat_inj.1 k)
      simp [e, e']
      omega
theorem lt_irrefl (a : ByteArray) : lt a a = false := ltL_irrefl _
theorem lt_trans {a b c : ByteArray} (h : lt a b = true) (k : lt b c = true) : lt a c = true := ltL_trans _ _ _ h k
theorem lt_total {a b : ByteArray} (h : a ≠ b) : lt a b = true ∨ lt b a = true := ltL_total _ _ (fun e => h (bl_inj e))
theorem lt_asymm {a b : ByteArray} (h : lt a b = true) : lt b a = false := by
  cases k : lt b a with
  | false => rfl
  | true => have := lt_trans h k; rw [lt_irrefl] at this; cases this
theorem comL_le : ∀ a b, comL a b ≤ a.length ∧ comL a b ≤ b.length
  | [], _ => by simp [comL]
  | _ :: _, [] => by simp [comL]
  | x :: xs, y :: ys => by
    have := comL_le xs ys
    unfold comL
    split <;> simp <;> omega
theorem com_le (a b : ByteArray) : com a b ≤ a.size ∧ com a b ≤ b.size := by
  have := comL_le (bl a) (bl b)
  rw [bl_len, bl_len] at this
  exact this
theorem cmp_eq {a b : ByteArray} : cmp a b = 0 ↔ a = b := by
  unfold cmp
  by_cases h : a = b
  · simp [h]
  · simp only [h, if_false, iff_false]; split <;> omega
theorem cmp_neg {a b : ByteArray} : cmp a b < 0 ↔ lt a b = true := by
  unfold cmp
  by_cases h : a = b
  · subst h; simp [lt_irrefl]
  · simp only [h, if_false]; split <;> simp_all
theorem ltL_com : ∀ a b, ltL a b = (if comL a b = b.length then false else if comL a b = a.length then true else decide ((a.getD (comL a b) 0).toNat < (b.getD (comL a b) 0).toNat))
  | _, [] => by simp [ltL, comL]
  | [], _ :: _ => by simp [ltL, comL]
  | x :: xs, y :: ys => by
    unfold ltL comL
    by_cases e : x = y
    · subst e
      simp only [if_true, List.length_cons, Nat.add_right_cancel_iff, List.getD_cons_succ]
      exact ltL_com xs ys
    · simp [e]
theorem bl_take (b : ByteArray) (i : Nat) : bl (b.extract 0 i) = (bl b).take i := by
  simp [bl]
theorem take_all (b : ByteArray) (i : Nat) (h : b.size ≤ i) : b.extract 0 i = b := by
  apply bl_inj
  rw [bl_take, List.take_of_length_le (by rw [bl_len]; exact h)]
theorem drop_cons (a : ByteArray) (i : Nat) (h : i < a.size) : ∃ x : UInt8, (bl a).drop i = x :: (bl a).drop (i + 1) ∧ bt a i = (x.toNat : Int) := by
  have h' : i < (bl a).length := by rw [bl_len]; exact h
  exact ⟨(bl a)[i], List.drop_eq_getElem_cons h', bt_get a i h'⟩
theorem comL_nil (l : List UInt8) : comL l [] = 0 := by cases l <;> rfl
theorem comL_end (a b : ByteArray) (i : Nat) (h : a.size ≤ i ∨ b.size ≤ i) : comL ((bl a).drop i) ((bl b).drop i) = 0 := by
  rcases h with h | h
  · rw [List.drop_eq_nil_of_le (by rw [bl_len]; exact h)]; rfl
  · rw [List.drop_eq_nil_of_le (show (bl b).length ≤ i by rw [bl_len]; exact h)]; exact comL_nil _
theorem comL_step (a b : ByteArray) (i : Nat) (h : i < a.size) (h' : i < b.size) :
    comL ((bl a).drop i) ((bl b).drop i) = if bt a i = bt b i then comL ((bl a).drop (i + 1)) ((bl b).drop (i + 1)) + 1 else 0 := by
  obtain ⟨x, e, hx⟩ := drop_cons a i h
  obtain ⟨y, e', hy⟩ := drop_cons b i h'
  rw [e, e', hx, hy]
  show (if x = y then _ else _) = _
  by_cases q : x = y
  · rw [if_pos q, if_pos (byte_eq.1 q)]
  · rw [if_neg q, if_neg (fun k => q (byte_eq.2 k))]
theorem ltL_step (a b : ByteArray) (i : Nat) (h : i < a.size) (h' : i < b.size) :
    ltL ((bl a).drop i) ((bl b).drop i) = if bt a i = bt b i then ltL ((bl a).drop (i + 1)) ((bl b).drop (i + 1)) else decide (bt a i < bt b i) := by
  obtain ⟨x, e, hx⟩ := drop_cons a i h
  obtain ⟨y, e', hy⟩ := drop_cons b i h'
  rw [e, e', hx, hy]
  conv => lhs; unfold ltL
  by_cases q : x = y
  · rw [if_pos q, if_pos (byte_eq.1 q)]
  · rw [if_neg q, if_neg (fun k => q (byte_eq.2 k))]
    exact decide_eq_decide.2 (by omega)
theorem ltL_nil (l : List UInt8) : ltL l [] = false := by cases l <;> rfl
theorem ltL_end (a b : ByteArray) (i : Nat) (h1 : i ≤ a.size) (h2 : i ≤ b.size) (h : a.size ≤ i ∨ b.size ≤ i) : ltL ((bl a).drop i) ((bl b).drop i) = decide (a.size < b.size) := by
  by_cases e : b.size ≤ i
  · rw [List.drop_eq_nil_of_le (show (bl b).length ≤ i by rw [bl_len]; exact e), ltL_nil]
    exact (decide_eq_false (by omega)).symm
  · have h3 : a.size ≤ i := by omega
    obtain ⟨y, e', _⟩ := drop_cons b i (by omega)
    rw [List.drop_eq_nil_of_le (by rw [bl_len]; exact h3), e']
    exact (decide_eq_true (by omega)).symm
theorem comL_self : ∀ l, comL l l = l.length
  | [] => rfl
  | x :: xs => by simp [comL, comL_self xs]
theorem com_self (a : ByteArray) : com a a = a.size := by rw [com, comL_self, bl_len]
theorem comL_full : ∀ a b, comL a b = a.length → comL a b = b.length → a = b
  | [], [], _, _ => rfl
  | [], _ :: _, _, h => by simp [comL] at h
  | _ :: _, [], h, _ => by simp [comL] at h
  | x :: xs, y :: ys, h, h' => by
    unfold comL at h h'
    by_cases e : x = y
    · simp only [e, if_true, List.length_cons, Nat.add_right_cancel_iff] at h h'
      rw [e, comL_full xs ys h h']
    · simp [e] at h
theorem com_full {a b : ByteArray} (h : com a b = a.size) (h' : com a b = b.size) : a = b :=
  bl_inj (comL_full _ _ (by rw [bl_len]; exact h) (by rw [bl_len]; exact h'))
theorem comL_ne : ∀ a b, comL a b < a.length → comL a b < b.length → a.getD (comL a b) 0 ≠ b.getD (comL a b) 0
  | [], _, h, _ => by simp at h
  | _ :: _, [], _, h => by simp at h
  | x :: xs, y :: ys, h, h' => by
    unfold comL at h h' ⊢
    by_cases e : x = y
    · simp only [e, if_true, List.length_cons] at h h' ⊢
      rw [List.getD_cons_succ, List.getD_cons_succ]
      exact comL_ne xs ys (by omega) (by omega)
    · simp only [e, if_false]
      simpa using e
theorem bt_getD (a : ByteArray) (i : Nat) (h : i < a.size) : bt a i = (((bl a).getD i 0).toNat : Int) := by
  have h' : i < (bl a).length := by rw [bl_len]; exact h
  rw [bt_get a i h', List.getD_eq_getElem?_getD, List.getElem?_eq_getElem h']
  rfl
theorem lt_com (a b : ByteArray) : lt a b = if com a b = b.size then false else if com a b = a.size then true else decide (bt a (com a b) < bt b (com a b)) := by
  have hle := com_le a b
  have h := ltL_com (bl a) (bl b)
  rw [bl_len, bl_len] at h
  show ltL (bl a) (bl b) = _
  rw [h]
  show (if com a b = b.size then _ else if com a b = a.size then _ else _) = _
  by_cases h1 : com a b = b.size
  · rw [if_pos h1, if_pos h1]
  · rw [if_neg h1, if_neg h1]
    by_cases h2 : com a b = a.size
    · rw [if_pos h2, if_pos h2]
    · rw [if_neg h2, if_neg h2, bt_getD a _ (by omega), bt_getD b _ (by omega)]
      exact decide_eq_decide.2 (by unfold com; omega)
theorem com_ne {a b : ByteArray} (h1 : com a b ≠ a.size) (h2 : com a b ≠ b.size) : bt a (com a b) ≠ bt b (com a b) := by
  have hle := com_le a b
  rw [bt_getD a _ (by omega), bt_getD b _ (by omega)]
  have h := comL_ne (bl a) (bl b) (by rw [bl_len]; show com a b < _; omega) (by rw [bl_len]; show com a b < _; omega)
  intro e
  exact h (byte_eq.2 e)
theorem cmp_com (a b : ByteArray) : cmp a b = if com a b = a.size then (if com a b = b.size then 0 else -1) else if com a b = b.size then 1 else if bt a (com a b) > bt b (com a b) then 1 else -1 := by
  by_cases e : a = b
  · subst e
    unfold cmp
    rw [if_pos rfl, if_pos (com_self a), if_pos (com_self a)]
  · unfold cmp
    rw [if_neg e, lt_com]
    by_cases h1 : com a b = a.size
    · have h2 : com a b ≠ b.size := fun k => e (com_full h1 k)
      rw [if_pos h1, if_neg h2, if_neg h2, if_pos h1, if_pos rfl]
    · rw [if_neg h1, if_neg h1]
      by_cases h2 : com a b = b.size
      · rw [if_pos h2, if_pos h2]; rfl
      · have := com_ne h1 h2
        rw [if_neg h2, if_neg h2]
        by_cases h3 : bt a (com a b) > bt b (com a b)
        · rw [if_pos h3, if_neg (by simp; omega)]
        · rw [if_neg h3, if_pos (by simp; omega)]
end Go.Abs
set_option autoImplicit false
set_option linter.unusedVariables false
namespace Go.Abs
section
variable {A R : Type}
theorem bnd_some (a : A) (K : A → Option R) : bnd (some a) K = K a := by
  have h : ∀ o, o = K a → bnd (some a) K = o := fun o h => h ▸ rfl
  exact h _ rfl
theorem br_t (x y : Option R) : br true x y = x := by
  have h : ∀ o, o = x → br true x y = o := fun o h => h ▸ rfl
  exact h _ rfl
theorem br_f (x y : Option R) : br false x y = y := by
  have h : ∀ o, o = y → br false x y = o := fun o h => h ▸ rfl
  exact h _ rfl
theorem br_if (p : Prop) [Decidable p] (x y : Option R) : br (decide p) x y = if p then x else y := by
  by_cases h : p
  · rw [if_pos h, decide_eq_true h, br_t]
  · rw [if_neg h, decide_eq_false h, br_f]
theorem br_b (b : Bool) (x y : Option R) : br b x y = if b = true then x else y := by
  cases b
  · rw [br_f, if_neg (by simp)]
  · rw [br_t, if_pos rfl]
theorem both_self (x : Option R) : both x x = x := by
  unfold both
  rw [if_pos rfl]
theorem eqI_d (a b : Int) : eqI a b = decide (a = b) := rfl
theorem ltI_d (a b : Int) : ltI a b = decide (a < b) := rfl
theorem leI_d (a b : Int) : leI a b = decide (a ≤ b) := rfl
theorem notB_d (p : Prop) [Decidable p] : notB (decide p) = decide (¬ p) := by by_cases h : p <;> simp [notB, h]
theorem andB_d (p q : Prop) [Decidable p] [Decidable q] : andB (decide p) (decide q) = decide (p ∧ q) := by by_cases h : p <;> by_cases k : q <;> simp [andB, h, k]
theorem eqS_d (a b : ByteArray) : eqS a b = decide (a = b) := toList_beq a b
theorem ofN_d (n : Nat) : ofN n = (n : Int) := rfl
theorem toN_d (n : Nat) : toN (n : Int) = n := Int.toNat_natCast n
theorem lenL_d (t : Ty) (l : List (den t)) : lenL t l = l.length := rfl
theorem lenS_d (s : ByteArray) : lenS s = s.size := rfl
theorem appL_d (t : Ty) (a b : List (den t)) : appL t a b = a ++ b := rfl
theorem fitL_d (t : Ty) (l : List (den t)) : fitL t l = decide (l.length ≤ 1073741824) := rfl
theorem ixL_d (t : Ty) (l : List (den t)) (i : Nat) (h : i < l.length) : ixL t l (i : Int) = l[i] := by
  unfold ixL
  rw [Int.toNat_natCast, List.getD_eq_getElem?_getD, List.getElem?_eq_getElem h]
  rfl
theorem wrap_i64_id {x : Int} (h0 : -9223372036854775808 ≤ x) (h1 : x ≤ 9223372036854775807) : IntKind.i64.wrap x = x := by
  rw [IntKind.wrap_i64]; omega
theorem addI_d {a b : Int} (h0 : -9223372036854775808 ≤ a + b) (h1 : a + b ≤ 9223372036854775807) : addI .i64 a b = a + b := wrap_i64_id h0 h1
theorem subI_d {a b : Int} (h0 : -9223372036854775808 ≤ a - b) (h1 : a - b ≤ 9223372036854775807) : subI .i64 a b = a - b := wrap_i64_id h0 h1
theorem add1 (n : Nat) (h : n < 9223372036854775807) : addI .i64 (n : Int) 1 = ((n + 1 : Nat) : Int) := by
  rw [addI_d (by omega) (by omega)]; omega
theorem sub1 (n : Nat) (h : 0 < n) (h' : n < 9223372036854775807) : subI .i64 (n : Int) 1 = ((n - 1 : Nat) : Int) := by
  rw [subI_d (by omega) (by omega)]; omega
theorem maxI_d (a b : Int) : maxI a b = max a b := by unfold maxI; rw [Int.max_def]; split <;> split <;> omega
theorem minI_d (a b : Int) : minI a b = min a b := by unfold minI; rw [Int.min_def]; split <;> split <;> omega
theorem subL0 (t : Ty) (l : List (den t)) (j : Nat) : subL t l 0 j = l.take j := by
  unfold subL
  rw [List.drop_zero, Nat.sub_zero]
theorem getS_bt (a : ByteArray) (i : Int) : getS a (toN i) = bt a i := rfl
theorem some_int {a b : Int} (h : a = b) : (some a : Option Int) = some b := by rw [h]
theorem some_bool {a b : Bool} (h : a = b) : (some a : Option Bool) = some b := by rw [h]
theorem subS_d (a : ByteArray) (i j : Nat) : subS a i j = a.extract i j := rfl
end
end Go.Abs
set_option linter.unusedVariables false
set_option linter.unusedSimpArgs false
namespace Go.Proofs.YtjekopgcpikkiaaGreatDoor.AM
open Go.Abs
theorem common_loop (a b : ByteArray) (m : Nat) (hm : m = min a.size b.size) (hs : a.size ≤ 9223372036854775806) (d : Nat) : ∀ (i : Nat), i ≤ m → m - i = d →
    order_Common.l0 a b m m i = some ((i + comL ((bl a).drop i) ((bl b).drop i) : Nat) : Int) := by
  induction d with
  | zero =>
    intro i h1 h2
    rw [order_Common.l0.eq]
    simp only [ltI_d, leI_d, ofN_d, lenS_d, andB_d, eqI_d, notB_d, br_if, getS_bt]
    rw [if_neg (by omega), comL_end a b i (by omega)]
    exact some_int (by omega)
  | succ d ih =>
    intro i h1 h2
    rw [order_Common.l0.eq]
    simp only [ltI_d, leI_d, ofN_d, lenS_d, andB_d, eqI_d, notB_d, br_if, getS_bt]
    rw [if_pos (by omega), if_pos (by omega), if_pos (by omega), comL_step a b i (by omega) (by omega)]
    by_cases e : bt a i = bt b i
    · rw [if_neg (by intro h; exact h e), if_pos e, add1 i (by omega), ih (i + 1) (by omega) (by omega)]
      exact some_int (by omega)
    · rw [if_pos e, if_neg e]
      exact some_int (by omega)
theorem common_any (a b : ByteArray) (hs : a.size ≤ 9223372036854775806) : order_Common a b = some (com a b : Int) := by
  rw [order_Common.eq]
  simp only [ofN_d, lenS_d, minI_d]
  have e : min (a.size : Int) (b.size : Int) = ((min a.size b.size : Nat) : Int) := by omega
  rw [e]
  have := common_loop a b (min a.size b.size) rfl hs (min a.size b.size) 0 (by omega) (by omega)
  simp only [List.drop_zero, Nat.zero_add, Int.ofNat_zero, Int.cast_ofNat_Int] at this
  exact this
theorem compare_any (a b : ByteArray) (hs : a.size ≤ 9223372036854775806) : order_Compare a b = some (cmp a b) := by
  have hle := com_le a b
  rw [order_Compare.eq, common_any a b hs, bnd_some]
  simp only [ofN_d, lenS_d, eqI_d, br_if]
  rw [cmp_com]
  by_cases h1 : com a b = a.size
  · rw [if_pos h1, if_pos (by omega), order_Compare.j0.eq]
    simp only [ltI_d, leI_d, ofN_d, lenS_d, andB_d, eqI_d, notB_d, br_if, getS_bt]
    by_cases h2 : com a b = b.size
    · rw [if_pos (by omega), if_pos h2]
    · rw [if_neg (by omega), if_neg h2, if_pos (by omega)]
  · rw [if_neg h1, if_neg (by omega), order_Compare.j0.eq, br_f]
    simp only [ltI_d, leI_d, ofN_d, lenS_d, andB_d, eqI_d, notB_d, br_if, getS_bt]
    rw [if_neg (by omega)]
    by_cases h2 : com a b = b.size
    · rw [if_pos (by omega), if_pos h2]
    · rw [if_neg (by omega), if_neg h2, if_pos (by omega), if_pos (by omega)]
      show (if bt b (com a b) < bt a (com a b) then _ else _) = _
      by_cases h3 : bt b (com a b) < bt a (com a b)
      · rw [if_pos h3, if_pos h3]
      · rw [if_neg h3, if_neg h3]
theorem less_loop (a b : ByteArray) (hs : a.size ≤ 9223372036854775806) (d : Nat) : ∀ (i : Nat), i ≤ a.size → i ≤ b.size → a.size - i = d →
    ref01_Less.l0 a b i = some (ltL ((bl a).drop i) ((bl b).drop i)) := by
  have stop : ∀ (i : Nat), i ≤ a.size → i ≤ b.size → (a.size ≤ i ∨ b.size ≤ i) → ref01_Less.j1 a b i false = some (ltL ((bl a).drop i) ((bl b).drop i)) := by
    intro i h1 h2 h3
    rw [ref01_Less.j1.eq, br_f, ltL_end a b i h1 h2 h3]
    simp only [ltI_d, ofN_d, lenS_d]
    exact some_bool (decide_eq_decide.2 (by omega))
  induction d with
  | zero =>
    intro i h1 h1' h2
    rw [ref01_Less.l0.eq]
    simp only [ltI_d, ofN_d, lenS_d, br_if]
    rw [if_neg (by omega)]
    exact stop i h1 h1' (.inl (by omega))
  | succ d ih =>
    intro i h1 h1' h2
    rw [ref01_Less.l0.eq]
    simp only [ltI_d, ofN_d, lenS_d, br_if]
    rw [if_pos (by omega)]
    by_cases hb : i < b.size
    · rw [show decide ((i : Int) < (b.size : Int)) = true from decide_eq_true (by omega), ref01_Less.j1.eq, br_t]
      simp only [ltI_d, leI_d, ofN_d, lenS_d, andB_d, eqI_d, notB_d, br_if, getS_bt]
      rw [if_pos (by omega), if_pos (by omega), ltL_step a b i (by omega) hb]
      by_cases e : bt a i = bt b i
      · rw [if_neg (by intro h; exact h e), if_pos e, add1 i (by omega)]
        exact ih (i + 1) (by omega) (by omega) (by omega)
      · rw [if_pos e, if_neg e, if_pos (by omega), if_pos (by omega)]
    · rw [show decide ((i : Int) < (b.size : Int)) = false from decide_eq_false (by omega)]
      exact stop i h1 h1' (.inr (by omega))
theorem less_any (a b : ByteArray) (hs : a.size ≤ 9223372036854775806) : ref01_Less a b = some (lt a b) := by
  rw [ref01_Less.eq]
  have := less_loop a b hs a.size 0 (by omega) (by omega) (by omega)
  simp only [List.drop_zero, Int.ofNat_zero, Int.cast_ofNat_Int] at this
  exact this
def cut (k : Nat) (s : ByteArray) : ByteArray := s.extract 0 k
theorem cut_size (k : Nat) (s : ByteArray) : (cut k s).size = min k s.size := by
  unfold cut
  rw [ByteArray.size_extract]
  omega
theorem base_Cut_any (s : ByteArray) (k : Nat) : base_Cut s (k : Int) = some (cut k s) := by
  rw [base_Cut.eq]
  simp only [ltI_d, leI_d, ofN_d, lenS_d, andB_d, minI_d, br_if, subS_d]
  have hk : (0 : Int) ≤ (k : Int) := by omega
  rw [if_pos (by omega)]
  have e : toN (min (s.size : Int) (k : Int)) = min s.size k := by unfold toN; omega
  rw [e]
  show some (s.extract 0 (min s.size k)) = some (cut k s)
  congr 1
  by_cases h : s.size ≤ k
  · rw [show min s.size k = s.size by omega]
    unfold cut
    rw [take_all s s.size (Nat.le_refl _), take_all s k h]
  · rw [show min s.size k = k by omega]; rfl
theorem base_Cut_40 (s : ByteArray) : base_Cut s (40 : Int) = some (cut 40 s) := base_Cut_any s 40
end Go.Proofs.YtjekopgcpikkiaaGreatDoor.AM
set_option linter.unusedVariables false
set_option linter.unusedSimpArgs false
namespace Go.Abs
theorem wraps_u32 (n : Int) (h0 : 0 ≤ n) (h1 : n < 2 ^ 32) : IntKind.u32.wrap n = n := by rw [IntKind.wrap_u32]; omega
theorem bv32 (a : Nat) (ha : a < 4294967296) : (BitVec.ofInt 32 (a : Int)).toNat = a := by
  rw [BitVec.ofInt_natCast, BitVec.toNat_ofNat]; exact Nat.mod_eq_of_lt (by omega)
theorem and_u32 (a b : Nat) (ha : a < 4294967296) (hb : b < 4294967296) : andI .u32 a b = ((a &&& b : Nat) : Int) := by
  have hx : a &&& b < 2 ^ 32 := Nat.and_lt_two_pow _ (by omega)
  show IntKind.u32.wrap ((BitVec.ofInt 32 (a : Int) &&& BitVec.ofInt 32 (b : Int)).toNat : Int) = _
  rw [BitVec.toNat_and, bv32 a ha, bv32 b hb, IntKind.wrap_u32]
  omega
theorem or_u32 (a b : Nat) (ha : a < 4294967296) (hb : b < 4294967296) : orI .u32 a b = ((a ||| b : Nat) : Int) := by
  have hx : a ||| b < 2 ^ 32 := Nat.or_lt_two_pow (by omega) (by omega)
  show IntKind.u32.wrap ((BitVec.ofInt 32 (a : Int) ||| BitVec.ofInt 32 (b : Int)).toNat : Int) = _
  rw [BitVec.toNat_or, bv32 a ha, bv32 b hb, IntKind.wrap_u32]
  omega
theorem andNot_u32 (a b : Nat) (ha : a < 4294967296) (hb : b < 4294967296) : andNotI .u32 a b = ((a &&& (4294967295 - b) : Nat) : Int) := by
  have hx : a &&& (4294967295 - b) < 2 ^ 32 := Nat.and_lt_two_pow _ (by omega)
  show IntKind.u32.wrap ((BitVec.ofInt 32 (a : Int) &&& ~~~(BitVec.ofInt 32 (b : Int))).toNat : Int) = _
  rw [BitVec.toNat_and, BitVec.toNat_not, bv32 a ha, bv32 b hb, IntKind.wrap_u32]
  have e : 2 ^ 32 - 1 - b = 4294967295 - b := by omega
  rw [e]
  omega
theorem not_bit (b : Nat) (hb : b < 4294967296) (i : Nat) : (4294967295 - b).testBit i = (decide (i < 32) && !b.testBit i) := by
  have := Nat.testBit_two_pow_sub_succ (n := 32) (x := b) (by omega) i
  rw [← this]
  congr 1
  omega
def allL (m : Nat) : List Nat := (List.range 32).filter fun j => m.testBit j
def allI (m : Nat) : List Int := (allL m).map fun j : Nat => (j : Int)
def cnt (n m : Nat) : Nat := ((List.range n).filter fun j => m.testBit j).length
theorem cnt_succ (n m : Nat) : cnt (n + 1) m = cnt n m + if m.testBit n = true then 1 else 0 := by
  unfold cnt
  rw [List.range_succ, List.filter_append, List.length_append]
  congr 1
  by_cases h : m.testBit n = true <;> simp [h]
theorem cnt_le (n m : Nat) : cnt n m ≤ n := by
  unfold cnt
  have := List.length_filter_le (fun j => m.testBit j) (List.range n)
  simpa using this
theorem cnt_all (m : Nat) : cnt 32 m = (allL m).length := rfl
theorem cnt_add (a : Nat) (m : Nat) : ∀ b, cnt (a + b) m = cnt a m + cnt b (m / 2 ^ a)
  | 0 => by simp [cnt]
  | b + 1 => by
    rw [show a + (b + 1) = (a + b) + 1 by omega, cnt_succ, cnt_succ, cnt_add a m b, Nat.testBit_div_two_pow, Nat.add_comm b a]
    omega
theorem cnt_mod (m : Nat) : ∀ b, ∀ c, b ≤ c → cnt b (m % 2 ^ c) = cnt b m
  | 0, _, _ => rfl
  | b + 1, c, h => by
    rw [cnt_succ, cnt_succ, cnt_mod m b c (by omega), Nat.testBit_mod_two_pow]
    have : decide (b < c) = true := decide_eq_true (by omega)
    rw [this, Bool.true_and]
theorem cnt_four (m : Nat) : cnt 32 m = cnt 8 (m / 16777216) + cnt 8 (m / 65536 % 256) + cnt 8 (m / 256 % 256) + cnt 8 (m % 256) := by
  have h1 := cnt_add 8 m 24
  have h2 := cnt_add 8 (m / 2 ^ 8) 16
  have h3 := cnt_add 8 (m / 2 ^ 8 / 2 ^ 8) 8
  have e1 := cnt_mod m 8 8 (by omega)
  have e2 := cnt_mod (m / 2 ^ 8) 8 8 (by omega)
  have e3 := cnt_mod (m / 2 ^ 8 / 2 ^ 8) 8 8 (by omega)
  rw [Nat.div_div_eq_div_mul] at h2 h3 e3
  rw [Nat.div_div_eq_div_mul] at h3
  simp only [Nat.reducePow, Nat.reduceMul, Nat.reduceAdd] at h1 h2 h3 e1 e2 e3
  omega
def ones : ByteArray := ByteArray.mk #[0, 1, 1, 2, 1, 2, 2, 3, 1, 2, 2, 3, 2, 3, 3, 4, 1, 2, 2, 3, 2, 3, 3, 4, 2, 3, 3, 4, 3, 4, 4, 5, 1, 2, 2, 3, 2, 3, 3, 4, 2, 3, 3, 4, 3, 4, 4, 5, 2, 3, 3, 4, 3, 4, 4, 5, 3, 4, 4, 5, 4, 5, 5, 6, 1, 2, 2, 3, 2, 3, 3, 4, 2, 3, 3, 4, 3, 4, 4, 5, 2, 3, 3, 4, 3, 4, 4, 5, 3, 4, 4, 5, 4, 5, 5, 6, 2, 3, 3, 4, 3, 4, 4, 5, 3, 4, 4, 5, 4, 5, 5, 6, 3, 4, 4, 5, 4, 5, 5, 6, 4, 5, 5, 6, 5, 6, 6, 7, 1, 2, 2, 3, 2, 3, 3, 4, 2, 3, 3, 4, 3, 4, 4, 5, 2, 3, 3, 4, 3, 4, 4, 5, 3, 4, 4, 5, 4, 5, 5, 6, 2, 3, 3, 4, 3, 4, 4, 5, 3, 4, 4, 5, 4, 5, 5, 6, 3, 4, 4, 5, 4, 5, 5, 6, 4, 5, 5, 6, 5, 6, 6, 7, 2, 3, 3, 4, 3, 4, 4, 5, 3, 4, 4, 5, 4, 5, 5, 6, 3, 4, 4, 5, 4, 5, 5, 6, 4, 5, 5, 6, 5, 6, 6, 7, 3, 4, 4, 5, 4, 5, 5, 6, 4, 5, 5, 6, 5, 6, 6, 7, 4, 5, 5, 6, 5, 6, 6, 7, 5, 6, 6, 7, 6, 7, 7, 8]
theorem ones_len : lenS ones = 256 := by decide +kernel
theorem cnt_table : ∀ i : Fin 256, bt ones ((i.val : Nat) : Int) = ((cnt 8 i.val : Nat) : Int) := by
  decide +kernel
theorem cnt_tab (i : Nat) (h : i < 256) : bt ones (i : Int) = ((cnt 8 i : Nat) : Int) := cnt_table ⟨i, h⟩
def cl (i : Int) : Nat := (min (max i 0) 32).toNat
theorem cl_le (i : Int) : cl i ≤ 32 := by unfold cl; omega
def low (i : Int) : Nat := 2 ^ cl i - 1
theorem low_lt (i : Int) : low i < 4294967296 := by
  have := Nat.pow_le_pow_right (n := 2) (by omega) (cl_le i)
  unfold low
  omega
theorem low_bit (i : Int) (j : Nat) : (low i).testBit j = decide (j < cl i) := by
  unfold low
  exact Nat.testBit_two_pow_sub_one _ _
theorem cnt_low (m : Nat) (i : Int) : ∀ n, n ≤ 32 → cnt n (m &&& low i) = cnt (min n (cl i)) m
  | 0, _ => by simp [cnt]
  | n + 1, h => by
    have ih := cnt_low m i n (by omega)
    rw [cnt_succ, ih, Nat.testBit_and, low_bit]
    by_cases q : n < cl i
    · rw [Nat.min_eq_left (by omega), Nat.min_eq_left (by omega), cnt_succ]
      simp [q]
    · rw [Nat.min_eq_right (by omega), Nat.min_eq_right (by omega)]
      simp [q]
theorem allI_mem {m : Nat} {x : Int} : x ∈ allI m ↔ ∃ j : Nat, j < 32 ∧ m.testBit j = true ∧ x = j := by
  unfold allI allL
  simp only [List.mem_map, List.mem_filter, List.mem_range]
  constructor
  · rintro ⟨j, ⟨h1, h2⟩, rfl⟩; exact ⟨j, h1, h2, rfl⟩
  · rintro ⟨j, h1, h2, rfl⟩; exact ⟨j, ⟨h1, h2⟩, rfl⟩
theorem allI_len (m : Nat) : (allI m).length = cnt 32 m := by unfold allI; rw [List.length_map]; rfl
theorem allI_sorted (m : Nat) : (allI m).Pairwise (· < ·) := by
  unfold allI allL
  rw [List.pairwise_map]
  exact (List.pairwise_lt_range.imp (fun h => by omega)).filter _
theorem sorted_tail {l : List Int} (hs : l.Pairwise (· < ·)) {i j : Int} {rest : List Int} (h : l.filter (fun x => decide (i < x)) = j :: rest) : l.filter (fun x => decide (j < x)) = rest := by
  induction l with
  | nil => simp at h
  | cons a l ih =>
    obtain ⟨h1, h2⟩ := List.pairwise_cons.1 hs
    by_cases q : i < a
    · have hall : l.filter (fun x => decide (i < x)) = l := List.filter_eq_self.2 (fun x hx => decide_eq_true (by have := h1 x hx; omega))
      rw [List.filter_cons_of_pos (by simpa using q), hall] at h
      injection h with e1 e2
      subst e1; subst e2
      rw [List.filter_cons_of_neg (by simp)]
      exact List.filter_eq_self.2 (fun x hx => decide_eq_true (h1 x hx))
    · rw [List.filter_cons_of_neg (by simpa using q)] at h
      have hj : i < j := by
        have := List.mem_filter.1 (show j ∈ l.filter (fun x => decide (i < x)) by rw [h]; simp)
        simpa using this.2
      rw [List.filter_cons_of_neg (by simp; omega)]
      exact ih h2 h
def next (m : Nat) (i : Int) : Int × Bool := match (allI m).filter (fun x => decide (i < x)) with
  | [] => (0, false)
  | j :: _ => (j, true)
theorem ctz_bit {x : Nat} (h0 : x ≠ 0) (h : x < 4294967296) : x.testBit (Lib.ctz 32 x) = true ∧ Lib.ctz 32 x < 32 ∧ ∀ j, j < Lib.ctz 32 x → x.testBit j = false := by
  obtain ⟨m, hm, hk⟩ := Lib.ctzFrom_spec 32 x (by omega) (by omega)
  have e : Lib.ctz 32 x = Lib.ctzFrom 32 x := by simp [Lib.ctz, h0]
  rw [e]
  generalize Lib.ctzFrom 32 x = c at *
  subst hm
  refine ⟨?_, hk, fun j hj => ?_⟩
  · rw [Nat.testBit_two_pow_mul]
    simp [Nat.testBit_zero]
  · rw [Nat.testBit_two_pow_mul]
    have : ¬ c ≤ j := by omega
    simp [this]
theorem filter_first {l : List Int} (hs : l.Pairwise (· < ·)) {p : Int → Bool} {c : Int} (hc : c ∈ l) (hp : p c = true) (hn : ∀ x ∈ l, x < c → p x = false) : ∃ rest, l.filter p = c :: rest := by
  induction l with
  | nil => simp at hc
  | cons a l ih =>
    obtain ⟨h1, h2⟩ := List.pairwise_cons.1 hs
    rcases List.mem_cons.1 hc with e | e
    · subst e
      exact ⟨l.filter p, List.filter_cons_of_pos hp⟩
    · rw [List.filter_cons_of_neg (by rw [hn a (by simp) (h1 c e)]; simp)]
      exact ih h2 e (fun x hx => hn x (List.mem_cons_of_mem _ hx))
def withM (m : Nat) (i : Int) : Nat := if 0 ≤ i ∧ i < 32 then m ||| 2 ^ i.toNat else m
def withoutM (m : Nat) (i : Int) : Nat := if 0 ≤ i ∧ i < 32 then m &&& (4294967295 - 2 ^ i.toNat) else m
def hasM (m : Nat) (i : Int) : Bool := decide (0 ≤ i ∧ i < 32) && m.testBit i.toNat
theorem pow_lt32 {i : Nat} (h : i < 32) : 2 ^ i < 4294967296 := by
  have := Nat.pow_le_pow_right (n := 2) (by omega) (show i ≤ 31 by omega)
  omega
theorem withM_lt {m : Nat} (hm : m < 4294967296) (i : Int) : withM m i < 4294967296 := by
  unfold withM
  split
  · exact Nat.or_lt_two_pow (n := 32) hm (pow_lt32 (by omega))
  · exact hm
theorem withoutM_lt {m : Nat} (hm : m < 4294967296) (i : Int) : withoutM m i < 4294967296 := by
  unfold withoutM
  split
  · exact Nat.lt_of_le_of_lt Nat.and_le_left hm
  · exact hm
theorem withM_bit (m : Nat) (i : Int) (j : Nat) : (withM m i).testBit j = (m.testBit j || decide (0 ≤ i ∧ i < 32 ∧ i = j)) := by
  unfold withM
  by_cases h : 0 ≤ i ∧ i < 32
  · rw [if_pos h, Nat.testBit_or, Nat.testBit_two_pow]
    congr 1
    exact decide_eq_decide.2 (by omega)
  · rw [if_neg h]
    have : ¬ (0 ≤ i ∧ i < 32 ∧ i = j) := by omega
    simp [this]
theorem withoutM_bit {m : Nat} (hm : m < 4294967296) (i : Int) (j : Nat) : (withoutM m i).testBit j = (m.testBit j && !decide (0 ≤ i ∧ i < 32 ∧ i = j)) := by
  unfold withoutM
  by_cases h : 0 ≤ i ∧ i < 32
  · rw [if_pos h, Nat.testBit_and, not_bit _ (pow_lt32 (by omega)), Nat.testBit_two_pow]
    by_cases q : j < 32
    · rw [decide_eq_true q, Bool.true_and]
      congr 2
      exact decide_eq_decide.2 (by omega)
    · have : m.testBit j = false := Nat.testBit_lt_two_pow (Nat.lt_of_lt_of_le hm (Nat.pow_le_pow_right (n := 2) (i := 32) (by omega) (by omega)))
      simp [this]
  · rw [if_neg h]
    have : ¬ (0 ≤ i ∧ i < 32 ∧ i = j) := by omega
    simp [this]
def makeL (l : List Int) : Nat → Nat
  | 0 => 0
  | n + 1 => makeL l n + if (n : Int) ∈ l then 2 ^ n else 0
theorem makeL_lt (l : List Int) : ∀ n, makeL l n < 2 ^ n
  | 0 => by simp [makeL]
  | n + 1 => by
    have := makeL_lt l n
    unfold makeL
    rw [Nat.pow_succ]
    split <;> omega
theorem makeL_bit (l : List Int) (j : Nat) : ∀ n, (makeL l n).testBit j = (decide (j < n) && decide ((j : Int) ∈ l))
  | 0 => by simp [makeL]
  | n + 1 => by
    have hlt := makeL_lt l n
    have ih := makeL_bit l j n
    unfold makeL
    by_cases h : (n : Int) ∈ l
    · rw [if_pos h, Nat.add_comm]
      by_cases e : j = n
      · subst e
        rw [Nat.testBit_two_pow_add_eq, Nat.testBit_lt_two_pow hlt]
        simp [h]
      · rcases Nat.lt_or_ge j n with q | q
        · rw [Nat.testBit_two_pow_add_gt q, ih]
          have : decide (j < n + 1) = decide (j < n) := decide_eq_decide.2 (by omega)
          rw [this]
        · have hb : 2 ^ n + makeL l n < 2 ^ j := by
            have h2 := Nat.pow_le_pow_right (n := 2) (by omega) (show n + 1 ≤ j by omega)
            rw [Nat.pow_succ] at h2
            omega
          rw [Nat.testBit_lt_two_pow hb]
          have : ¬ j < n + 1 := by omega
          simp [this]
    · rw [if_neg h, Nat.add_zero, ih]
      by_cases e : j = n
      · subst e; simp [h]
      · have : decide (j < n + 1) = decide (j < n) := decide_eq_decide.2 (by omega)
        rw [this]
theorem high_bit {m : Nat} (hm : m < 4294967296) {j : Nat} (h : ¬ j < 32) : m.testBit j = false :=
  Nat.testBit_lt_two_pow (Nat.lt_of_lt_of_le hm (Nat.pow_le_pow_right (n := 2) (i := 32) (by omega) (by omega)))
def rd (l : List Int) (i : Int) : Int := l.getD i.toNat 0
end Go.Abs
set_option linter.unusedVariables false
set_option linter.unusedSimpArgs false
namespace Go.Proofs.YtjekopgcpikkiaaGreatDoor.AM
open Go.Abs
theorem shr_div (a n : Nat) (k : IntKind) (hn : n ≤ k.bits) : shrI k (a : Int) (n : Int) = ((a / 2 ^ n : Nat) : Int) := by
  unfold shrI
  rw [Int.toNat_natCast, Nat.min_eq_left hn]
  rw [Int.fdiv_eq_ediv_of_nonneg _ (by exact Int.pow_nonneg (by omega))]
  have : ((2 : Int) ^ n) = ((2 ^ n : Nat) : Int) := by simp
  rw [this]
  rfl
theorem ones_any (m : Nat) (hm : m < 4294967296) : math_bits_OnesCount32 m = some (cnt 32 m : Int) := by
  have key : math_bits_OnesCount32 (m : Int) = br (leI 0 (24 : Int)) (br (andB (leI 0 (shrI .u32 (m : Int) (24 : Int))) (ltI (shrI .u32 (m : Int) (24 : Int)) (ofN (lenS ones)))) (br (leI 0 (16 : Int)) (br (andB (leI 0 (andI .u32 (shrI .u32 (m : Int) (16 : Int)) (255 : Int))) (ltI (andI .u32 (shrI .u32 (m : Int) (16 : Int)) (255 : Int)) (ofN (lenS ones)))) (br (leI 0 (8 : Int)) (br (andB (leI 0 (andI .u32 (shrI .u32 (m : Int) (8 : Int)) (255 : Int))) (ltI (andI .u32 (shrI .u32 (m : Int) (8 : Int)) (255 : Int)) (ofN (lenS ones)))) (br (andB (leI 0 (andI .u32 (m : Int) (255 : Int))) (ltI (andI .u32 (m : Int) (255 : Int)) (ofN (lenS ones)))) (some (wrapI .i64 (addI .u8 (addI .u8 (addI .u8 (getS ones (toN (shrI .u32 (m : Int) (24 : Int)))) (getS ones (toN (andI .u32 (shrI .u32 (m : Int) (16 : Int)) (255 : Int))))) (getS ones (toN (andI .u32 (shrI .u32 (m : Int) (8 : Int)) (255 : Int))))) (getS ones (toN (andI .u32 (m : Int) (255 : Int))))))) none) none) none) none) none) none) none := math_bits_OnesCount32.eq (m : Int)
  rw [key]
  clear key
  have s24 : shrI .u32 (m : Int) (24 : Int) = ((m / 16777216 : Nat) : Int) := shr_div m 24 .u32 (by decide)
  have s16 : shrI .u32 (m : Int) (16 : Int) = ((m / 65536 : Nat) : Int) := shr_div m 16 .u32 (by decide)
  have s8 : shrI .u32 (m : Int) (8 : Int) = ((m / 256 : Nat) : Int) := shr_div m 8 .u32 (by decide)
  have e255 : (255 : Int) = ((255 : Nat) : Int) := rfl
  rw [s24, s16, s8]
  have a1 : andI .u32 ((m / 65536 : Nat) : Int) (255 : Int) = ((m / 65536 % 256 : Nat) : Int) := by
    rw [e255, and_u32 _ _ (by omega) (by omega), show (255 : Nat) = 2 ^ 8 - 1 by rfl, Nat.and_two_pow_sub_one_eq_mod]
  have a2 : andI .u32 ((m / 256 : Nat) : Int) (255 : Int) = ((m / 256 % 256 : Nat) : Int) := by
    rw [e255, and_u32 _ _ (by omega) (by omega), show (255 : Nat) = 2 ^ 8 - 1 by rfl, Nat.and_two_pow_sub_one_eq_mod]
  have a3 : andI .u32 (m : Int) (255 : Int) = ((m % 256 : Nat) : Int) := by
    rw [e255, and_u32 _ _ (by omega) (by omega), show (255 : Nat) = 2 ^ 8 - 1 by rfl, Nat.and_two_pow_sub_one_eq_mod]
  rw [a1, a2, a3]
  simp only [getS_bt]
  rw [cnt_tab _ (show m / 16777216 < 256 by omega), cnt_tab _ (show m / 65536 % 256 < 256 by omega), cnt_tab _ (show m / 256 % 256 < 256 by omega), cnt_tab _ (show m % 256 < 256 by omega)]
  simp only [ones_len, ofN_d, ltI_d, leI_d, andB_d, br_if]
  have l0 := cnt_le 8 (m / 16777216)
  have l1 := cnt_le 8 (m / 65536 % 256)
  have l2 := cnt_le 8 (m / 256 % 256)
  have l3 := cnt_le 8 (m % 256)
  have w : ∀ n : Nat, n < 256 → IntKind.u8.wrap (n : Int) = n := fun n hn => by simp [IntKind.wrap, IntKind.bits, IntKind.signed]; omega
  rw [if_pos (by omega), if_pos (by omega), if_pos (by omega), if_pos (by omega), if_pos (by omega), if_pos (by omega), if_pos (by omega)]
  refine some_int ?_
  rw [cnt_four m]
  have d1 : addI .u8 (cnt 8 (m / 16777216) : Int) (cnt 8 (m / 65536 % 256) : Int) = ((cnt 8 (m / 16777216) + cnt 8 (m / 65536 % 256) : Nat) : Int) := by
    unfold addI; rw [← Int.natCast_add, w _ (by omega)]
  rw [d1]
  have d2 : addI .u8 ((cnt 8 (m / 16777216) + cnt 8 (m / 65536 % 256) : Nat) : Int) (cnt 8 (m / 256 % 256) : Int) = ((cnt 8 (m / 16777216) + cnt 8 (m / 65536 % 256) + cnt 8 (m / 256 % 256) : Nat) : Int) := by
    unfold addI; rw [← Int.natCast_add, w _ (by omega)]
  rw [d2]
  have d3 : addI .u8 ((cnt 8 (m / 16777216) + cnt 8 (m / 65536 % 256) + cnt 8 (m / 256 % 256) : Nat) : Int) (cnt 8 (m % 256) : Int) = ((cnt 8 (m / 16777216) + cnt 8 (m / 65536 % 256) + cnt 8 (m / 256 % 256) + cnt 8 (m % 256) : Nat) : Int) := by
    unfold addI; rw [← Int.natCast_add, w _ (by omega)]
  rw [d3]
  exact wrap_i64_id (by omega) (by omega)
theorem count_any (m : Nat) (hm : m < 4294967296) : mask_Count m = some ((allI m).length : Int) := by
  rw [mask_Count.eq, ones_any m hm, bnd_some, allI_len]
theorem refhas_loop (m : Nat) (hm : m < 4294967296) (i : Int) (d : Nat) : ∀ (j : Nat), j ≤ 32 → 32 - j = d → ref06_Has.l0 ((m / 2 ^ j : Nat) : Int) i j = some (decide ((j : Int) ≤ i ∧ i < 32) && m.testBit i.toNat) := by
  induction d with
  | zero =>
    intro j hj hd
    rw [ref06_Has.l0.eq]
    simp only [ltI_d, br_if]
    rw [if_neg (by omega)]
    have : ¬ ((j : Int) ≤ i ∧ i < 32) := by omega
    simp [this]
  | succ d ih =>
    intro j hj hd
    rw [ref06_Has.l0.eq]
    simp only [ltI_d, eqI_d, notB_d, br_if]
    have hdiv : m / 2 ^ j ≤ m := Nat.div_le_self _ _
    have e1 : remI ((m / 2 ^ j : Nat) : Int) 2 = ((m / 2 ^ j % 2 : Nat) : Int) := by unfold remI; rw [Int.tmod_eq_emod_of_nonneg (Int.natCast_nonneg _)]; rfl
    have e2 : quoI .u32 ((m / 2 ^ j : Nat) : Int) 2 = ((m / 2 ^ (j + 1) : Nat) : Int) := by
      unfold quoI
      rw [Int.tdiv_eq_ediv_of_nonneg (Int.natCast_nonneg _), Nat.pow_succ, ← Nat.div_div_eq_div_mul, IntKind.wrap_u32]
      generalize m / 2 ^ j = q at hdiv ⊢
      omega
    have hb : m.testBit j = decide (m / 2 ^ j % 2 = 1) := Nat.testBit_eq_decide_div_mod_eq
    rw [if_pos (by omega), if_pos (by omega), e1, e2, add1 j (by omega), ih (j + 1) (by omega) (by omega)]
    simp only [if_pos (show ¬ (2 : Int) = 0 by omega)]
    by_cases g : m / 2 ^ j % 2 = 1
    · rw [if_pos (by omega)]
      by_cases q : (j : Int) = i
      · rw [if_pos q, ← q, Int.toNat_natCast, hb, decide_eq_true g, decide_eq_true (by omega)]
        rfl
      · rw [if_neg q]
        refine some_bool ?_
        congr 1
        exact decide_eq_decide.2 (by omega)
    · rw [if_neg (by omega)]
      by_cases q : (j : Int) = i
      · rw [← q, Int.toNat_natCast, hb, decide_eq_false g]
        simp
      · refine some_bool ?_
        congr 1
        exact decide_eq_decide.2 (by omega)
theorem refhas_any (m : Nat) (hm : m < 4294967296) (i : Int) : ref06_Has m i = some (hasM m i) := by
  rw [ref06_Has.eq]
  unfold hasM
  have := refhas_loop m hm i 32 0 (by omega) (by omega)
  simp only [Nat.pow_zero, Nat.div_one, Int.cast_ofNat_Int] at this
  exact this
theorem refall_loop (m : Nat) (hm : m < 4294967296) (d : Nat) : ∀ (j : Nat), j ≤ 32 → 32 - j = d →
    ref06_All.l0 m j (((List.range j).filter fun x => m.testBit x).map fun x : Nat => (x : Int)) = some (allI m) := by
  induction d with
  | zero =>
    intro j hj hd
    rw [ref06_All.l0.eq]
    simp only [ltI_d, br_if]
    rw [if_neg (by omega), show j = 32 by omega]
    rfl
  | succ d ih =>
    intro j hj hd
    rw [ref06_All.l0.eq]
    simp only [ltI_d, br_if]
    rw [if_pos (by omega), refhas_any m hm j, bnd_some, br_b, add1 j (by omega)]
    have := ih (j + 1) (by omega) (by omega)
    rw [List.range_succ, List.filter_append, List.map_append] at this
    have hl : (((List.range j).filter fun x => m.testBit x).map fun x : Nat => (x : Int)).length ≤ 32 := by
      rw [List.length_map]
      have := List.length_filter_le (fun x => m.testBit x) (List.range j)
      simp at this
      omega
    have hh : hasM m (j : Int) = m.testBit j := by
      unfold hasM
      rw [Int.toNat_natCast, decide_eq_true (by omega)]
      rfl
    rw [hh]
    by_cases g : m.testBit j = true
    · rw [if_pos g]
      simp only [fitL_d, appL_d, br_if]
      rw [if_pos (by rw [List.length_append]; show _ + 1 ≤ _; omega)]
      have e : [j].filter (fun x => m.testBit x) = [j] := by simp [g]
      rw [e] at this
      exact this
    · rw [if_neg g]
      have e : [j].filter (fun x => m.testBit x) = [] := by simp [g]
      rw [e] at this
      simpa using this
theorem refall_any (m : Nat) (hm : m < 4294967296) : ref06_All m = some (allI m) := by
  rw [ref06_All.eq]
  have := refall_loop m hm 32 0 (by omega) (by omega)
  simpa using this
end Go.Proofs.YtjekopgcpikkiaaGreatDoor.AM
set_option linter.unusedVariables false
set_option linter.unusedSimpArgs false
namespace Go.Proofs.YtjekopgcpikkiaaGreatDoor.AM
open Go.Abs
abbrev PairV : Type := ByteArray × ByteArray × Unit
theorem ixP (l : List PairV) (i : Nat) (h : i < l.length) : ixL tapiPair l (i : Int) = l[i] := ixL_d tapiPair l i h
theorem ixR (l : List Int) (i : Nat) (h : i < l.length) : ixL (.int .i64) l (i : Int) = l[i] := ixL_d (.int .i64) l i h
def cutP (p : PairV) : PairV := (cut 40 p.1, (cut 40 p.2.1, ()))
def fewL (l : List PairV) : List PairV := (l.take 40).map cutP
theorem few_loop (l : List PairV) (hl : l.length ≤ 9223372036854775807) (d : Nat) : ∀ (i : Nat), i ≤ l.length → i ≤ 40 → min l.length 40 - i = d → law07_Few.l0 l i ((l.take i).map cutP) = some (fewL l) := by
  have stop : ∀ i : Nat, i ≤ l.length → i ≤ 40 → min l.length 40 = i → some ((l.take i).map cutP) = some (fewL l) := by
    intro i h1 h2 h3
    unfold fewL
    by_cases h : l.length ≤ 40
    · rw [List.take_of_length_le (show l.length ≤ i by omega), List.take_of_length_le h]
    · rw [show i = 40 by omega]
  induction d with
  | zero =>
    intro i h1 h2 h3
    rw [law07_Few.l0.eq]
    simp only [ltI_d, ofN_d, lenL_d, br_if]
    have hs := stop i h1 h2 (by omega)
    by_cases hi : i < l.length
    · rw [if_pos (by omega), show decide ((i : Int) < 40) = false from decide_eq_false (by omega), law07_Few.j1.eq, br_f]
      exact hs
    · rw [if_neg (by omega), law07_Few.j1.eq, br_f]
      exact hs
  | succ d ih =>
    intro i h1 h2 h3
    have hi : i < l.length := by omega
    rw [law07_Few.l0.eq]
    simp only [ltI_d, ofN_d, lenL_d, br_if]
    rw [if_pos (by omega), show decide ((i : Int) < 40) = true from decide_eq_true (by omega), law07_Few.j1.eq, br_t]
    simp only [ltI_d, leI_d, ofN_d, lenL_d, andB_d, br_if, fitL_d, appL_d]
    rw [if_pos (by omega), if_pos (by omega), ixP l i hi, base_Cut_40, bnd_some, base_Cut_40, bnd_some]
    have hlen : ((l.take i).map cutP).length = i := by simp; omega
    rw [if_pos (by rw [List.length_append, hlen]; show i + 1 ≤ _; omega), add1 i (by omega)]
    have := ih (i + 1) (by omega) (by omega) (by omega)
    rw [List.take_succ_eq_append_getElem hi, List.map_append] at this
    exact this
theorem few_any (l : List PairV) (hl : l.length ≤ 9223372036854775807) : law07_Few l = some (fewL l) := by
  rw [law07_Few.eq]
  have := few_loop l hl (min l.length 40) 0 (by omega) (by omega) (by omega)
  rw [List.take_zero, List.map_nil, show ((0 : Nat) : Int) = 0 from rfl] at this
  exact this
def okP (p : PairV) : Prop := p.1.size ≤ 40 ∧ p.2.1.size ≤ 40
theorem fewL_ok (l : List PairV) : ∀ p ∈ fewL l, okP p := by
  intro p hp
  unfold fewL at hp
  obtain ⟨q, _, rfl⟩ := List.mem_map.1 hp
  constructor <;> (show (cut 40 _).size ≤ 40; rw [cut_size]; omega)
def isS : List PairV → Bool
  | a :: b :: r => lt a.1 b.1 && isS (b :: r)
  | _ => true
theorem isS_drop (l : List PairV) (i : Nat) (h0 : 0 < i) (hi : i < l.length) : isS (l.drop (i - 1)) = (lt l[i-1].1 l[i].1 && isS (l.drop i)) := by
  rw [List.drop_eq_getElem_cons (show i - 1 < l.length by omega), show i - 1 + 1 = i by omega, List.drop_eq_getElem_cons hi]
  rfl
theorem isS_end (l : List PairV) (i : Nat) (hi : l.length ≤ i + 1) : isS (l.drop i) = true := by
  have : (l.drop i).length ≤ 1 := by rw [List.length_drop]; omega
  generalize l.drop i = r at this
  match r, this with
  | [], _ => rfl
  | [a], _ => rfl
  | _ :: _ :: _, h => exact absurd h (by simp)
theorem is_loop (l : List PairV) (hl : l.length ≤ 50000000) (hs : ∀ p ∈ l, okP p) (d : Nat) : ∀ (i : Nat), 0 < i → i ≤ l.length → l.length - i = d → pair_Is.l0 l l.length i = some (isS (l.drop (i - 1))) := by
  induction d with
  | zero =>
    intro i h0 h1 h2
    rw [pair_Is.l0.eq]
    simp only [ltI_d, br_if]
    rw [if_neg (by omega), isS_end l (i - 1) (by omega)]
  | succ d ih =>
    intro i h0 h1 h2
    have hi : i < l.length := by omega
    rw [pair_Is.l0.eq]
    simp only [ltI_d, leI_d, ofN_d, lenL_d, andB_d, br_if]
    have ha := (hs _ (List.getElem_mem (show i - 1 < l.length by omega))).1
    rw [if_pos (by omega), if_pos (by omega), sub1 i h0 (by omega), if_pos (by omega), if_pos (by omega), ixP l i hi, ixP l (i - 1) (by omega), compare_any _ _ (by omega), bnd_some, add1 i (by omega), isS_drop l i h0 hi]
    by_cases hc : lt l[i-1].1 l[i].1 = true
    · rw [if_neg (by have := cmp_neg.2 hc; omega), hc, Bool.true_and]
      have := ih (i + 1) (by omega) (by omega) (by omega)
      rw [show i + 1 - 1 = i by omega] at this
      exact this
    · have hc' : lt l[i-1].1 l[i].1 = false := by simpa using hc
      rw [if_pos (by have : ¬ cmp l[i-1].1 l[i].1 < 0 := fun h => hc (cmp_neg.1 h); omega), hc', Bool.false_and]
theorem is_any (l : List PairV) (hl : l.length ≤ 50000000) (hs : ∀ p ∈ l, okP p) : pair_Is l = some (isS l) := by
  rw [pair_Is.eq]
  simp only [ofN_d, lenL_d]
  by_cases h : l.length = 0
  · rw [pair_Is.l0.eq]
    simp only [ltI_d, br_if]
    rw [if_neg (by omega), List.eq_nil_of_length_eq_zero h]
    rfl
  · rw [pair_Is.l0.eq]
    simp only [ltI_d, br_if]
    rw [if_pos (by omega), if_neg (by omega)]
    have := is_loop l hl hs (l.length - 1) 1 (by omega) (by omega) rfl
    rw [show (1 : Nat) - 1 = 0 by omega, List.drop_zero] at this
    have e : addI .i64 0 1 = ((1 : Nat) : Int) := add1 0 (by omega)
    rw [e]
    exact this
theorem refis_loop (l : List PairV) (hl : l.length ≤ 50000000) (hs : ∀ p ∈ l, okP p) (d : Nat) : ∀ (i : Nat), 0 < i → l.length - i = d → ref07_Is.l0 l i = some (isS (l.drop (i - 1))) := by
  induction d with
  | zero =>
    intro i h0 h2
    rw [ref07_Is.l0.eq]
    simp only [ltI_d, ofN_d, lenL_d, br_if]
    rw [if_neg (by omega), isS_end l (i - 1) (by omega)]
  | succ d ih =>
    intro i h0 h2
    have hi : i < l.length := by omega
    rw [ref07_Is.l0.eq]
    simp only [ltI_d, leI_d, ofN_d, lenL_d, andB_d, br_if]
    have ha := (hs _ (List.getElem_mem (show i - 1 < l.length by omega))).1
    rw [if_pos (by omega), sub1 i h0 (by omega), if_pos (by omega), if_pos (by omega), ixP l i hi, ixP l (i - 1) (by omega), less_any _ _ (by omega), bnd_some, add1 i (by omega), isS_drop l i h0 hi]
    by_cases hc : lt l[i-1].1 l[i].1 = true
    · rw [hc, Bool.true_and]
      have := ih (i + 1) (by omega) (by omega)
      rw [show i + 1 - 1 = i by omega] at this
      rw [show notB true = false from rfl, br_f]
      exact this
    · have hc' : lt l[i-1].1 l[i].1 = false := by simpa using hc
      rw [hc', Bool.false_and, show notB false = true from rfl, br_t]
theorem refis_any (l : List PairV) (hl : l.length ≤ 50000000) (hs : ∀ p ∈ l, okP p) : ref07_Is l = some (isS l) := by
  rw [ref07_Is.eq]
  have := refis_loop l hl hs (l.length - 1) 1 (by omega) rfl
  rw [show (1 : Nat) - 1 = 0 by omega, List.drop_zero] at this
  exact this
theorem eq_pair (p q : PairV) : andB (eqS p.1 q.1) (andB (eqS p.2.1 q.2.1) true) = decide (p = q) := by
  obtain ⟨a, b, _⟩ := p
  obtain ⟨c, d, _⟩ := q
  rw [eqS_d, eqS_d, show (true : Bool) = decide True from rfl, andB_d, andB_d]
  refine decide_eq_decide.2 ⟨fun ⟨h1, h2, _⟩ => ?_, fun h => ?_⟩
  · have h1 : a = c := h1
    have h2 : b = d := h2
    show (a, b, ()) = (c, d, ())
    rw [h1, h2]
  · injection h with h1 h2
    injection h2 with h2 h3
    exact ⟨h1, h2, trivial⟩
theorem drop_eq_iff {A : Type} {l m : List A} {i : Nat} (hl : i < l.length) (hm : i < m.length) : l.drop i = m.drop i ↔ l[i] = m[i] ∧ l.drop (i + 1) = m.drop (i + 1) := by
  rw [List.drop_eq_getElem_cons hl, List.drop_eq_getElem_cons hm, List.cons.injEq]
theorem equalP_loop (l m : List PairV) (hl : l.length ≤ 50000000) (hm : l.length = m.length) (d : Nat) : ∀ (i : Nat), i ≤ l.length → l.length - i = d → slices_EqualQQ.l0 l m l.length i = some (decide (l.drop i = m.drop i)) := by
  induction d with
  | zero =>
    intro i h1 h2
    rw [slices_EqualQQ.l0.eq]
    simp only [ltI_d, br_if]
    rw [if_neg (by omega), List.drop_eq_nil_of_le (by omega), List.drop_eq_nil_of_le (by omega), decide_eq_true rfl]
  | succ d ih =>
    intro i h1 h2
    rw [slices_EqualQQ.l0.eq]
    simp only [ltI_d, leI_d, ofN_d, lenL_d, andB_d, eq_pair, notB_d, br_if]
    rw [if_pos (by omega), if_pos (by omega), if_pos (by omega), ixP l i (by omega), ixP m i (by omega), add1 i (by omega), ih (i + 1) (by omega) (by omega)]
    by_cases e : l[i] = m[i]
    · rw [if_neg (by intro h; exact h e)]
      exact some_bool (decide_eq_decide.2 (by rw [drop_eq_iff (show i < l.length by omega) (show i < m.length by omega)]; simp [e]))
    · rw [if_pos e]
      exact some_bool (decide_eq_false (by rw [drop_eq_iff (show i < l.length by omega) (show i < m.length by omega)]; exact fun h => e h.1)).symm
theorem equalP_any (l m : List PairV) (hl : l.length ≤ 50000000) : slices_EqualQQ l m = some (decide (l = m)) := by
  rw [slices_EqualQQ.eq]
  simp only [ofN_d, lenL_d, eqI_d, notB_d, br_if]
  by_cases h : l.length = m.length
  · rw [if_neg (by omega)]
    exact equalP_loop l m hl h l.length 0 (by omega) (by omega)
  · rw [if_pos (by omega)]
    exact some_bool (decide_eq_false (fun e => h (by rw [e]))).symm
theorem equalR_loop (l m : List Int) (hl : l.length ≤ 50000000) (hm : l.length = m.length) (d : Nat) : ∀ (i : Nat), i ≤ l.length → l.length - i = d → slices_EqualRR.l0 l m l.length i = some (decide (l.drop i = m.drop i)) := by
  induction d with
  | zero =>
    intro i h1 h2
    rw [slices_EqualRR.l0.eq]
    simp only [ltI_d, br_if]
    rw [if_neg (by omega), List.drop_eq_nil_of_le (by omega), List.drop_eq_nil_of_le (by omega), decide_eq_true rfl]
  | succ d ih =>
    intro i h1 h2
    rw [slices_EqualRR.l0.eq]
    simp only [ltI_d, leI_d, ofN_d, lenL_d, andB_d, eqI_d, notB_d, br_if]
    rw [if_pos (by omega), if_pos (by omega), if_pos (by omega), ixR l i (by omega), ixR m i (by omega), add1 i (by omega), ih (i + 1) (by omega) (by omega)]
    by_cases e : l[i] = m[i]
    · rw [if_neg (by intro h; exact h e)]
      exact some_bool (decide_eq_decide.2 (by rw [drop_eq_iff (show i < l.length by omega) (show i < m.length by omega)]; simp [e]))
    · rw [if_pos e]
      exact some_bool (decide_eq_false (by rw [drop_eq_iff (show i < l.length by omega) (show i < m.length by omega)]; exact fun h => e h.1)).symm
theorem equalR_any (l m : List Int) (hl : l.length ≤ 50000000) : slices_EqualRR l m = some (decide (l = m)) := by
  rw [slices_EqualRR.eq]
  simp only [ofN_d, lenL_d, eqI_d, notB_d, br_if]
  by_cases h : l.length = m.length
  · rw [if_neg (by omega)]
    exact equalR_loop l m hl h l.length 0 (by omega) (by omega)
  · rw [if_pos (by omega)]
    exact some_bool (decide_eq_false (fun e => h (by rw [e]))).symm
theorem cloneP_any (l : List PairV) (hl : l.length ≤ 50000000) : slices_CloneQQ l = some ((), (l, ())) := by
  rw [slices_CloneQQ.eq]
  simp only [ofN_d, lenL_d, eqI_d, br_if, fitL_d, appL_d, List.nil_append]
  by_cases h : l.length = 0
  · rw [if_pos (by omega), if_pos (by omega), List.eq_nil_of_length_eq_zero h, both_self]
  · rw [if_neg (by omega), if_pos (by omega)]
theorem cloneR_any (l : List Int) (hl : l.length ≤ 50000000) : slices_CloneRR l = some ((), (l, ())) := by
  rw [slices_CloneRR.eq]
  simp only [ofN_d, lenL_d, eqI_d, br_if, fitL_d, appL_d, List.nil_append]
  by_cases h : l.length = 0
  · rw [if_pos (by omega), if_pos (by omega), List.eq_nil_of_length_eq_zero h, both_self]
  · rw [if_neg (by omega), if_pos (by omega)]
theorem indexR_loop (l : List Int) (x : Int) (hl : l.length ≤ 50000000) (d : Nat) : ∀ (i : Nat), i ≤ l.length → l.length - i = d → ∃ r : Int, slices_IndexRR.l0 l x l.length i = some r ∧ (0 ≤ r ↔ x ∈ l.drop i) := by
  induction d with
  | zero =>
    intro i h1 h2
    rw [slices_IndexRR.l0.eq]
    simp only [ltI_d, br_if]
    rw [if_neg (by omega), List.drop_eq_nil_of_le (by omega)]
    exact ⟨_, rfl, by simp⟩
  | succ d ih =>
    intro i h1 h2
    rw [slices_IndexRR.l0.eq]
    simp only [ltI_d, leI_d, ofN_d, lenL_d, andB_d, eqI_d, br_if]
    rw [if_pos (by omega), if_pos (by omega), ixR l i (by omega), add1 i (by omega), List.drop_eq_getElem_cons (show i < l.length by omega)]
    by_cases e : x = l[i]
    · rw [if_pos e]
      exact ⟨_, rfl, fun _ => by rw [e]; exact List.mem_cons_self, fun _ => Int.natCast_nonneg i⟩
    · rw [if_neg e]
      obtain ⟨r, h3, h4⟩ := ih (i + 1) (by omega) (by omega)
      exact ⟨r, h3, by rw [h4, List.mem_cons]; exact ⟨Or.inr, fun h => h.resolve_left e⟩⟩
theorem containsR_any (l : List Int) (x : Int) (hl : l.length ≤ 50000000) : slices_ContainsRR l x = some (decide (x ∈ l)) := by
  rw [slices_ContainsRR.eq, slices_IndexRR.eq]
  simp only [ofN_d, lenL_d]
  obtain ⟨r, h1, h2⟩ := indexR_loop l x hl l.length 0 (by omega) (by omega)
  rw [show ((0 : Nat) : Int) = 0 from rfl] at h1
  rw [h1, bnd_some, leI_d]
  exact some_bool (decide_eq_decide.2 (by rw [h2, List.drop_zero]))
def longP (p : PairV) : Bool := decide (16 < p.1.size) || decide (16 < p.2.1.size)
theorem long1_any (p : PairV) : node_long_1 p = some (longP p) := by
  rw [node_long_1.eq]
  simp only [ltI_d, ofN_d, lenS_d, br_if]
  unfold longP
  by_cases h : 16 < p.1.size
  · rw [if_pos (by omega), decide_eq_true h]; rfl
  · rw [if_neg (by omega), decide_eq_false h, Bool.false_or]
    exact some_bool (decide_eq_decide.2 (by omega))
theorem indexP_loop (l : List PairV) (hl : l.length ≤ 50000000) (d : Nat) : ∀ (i : Nat), i ≤ l.length → l.length - i = d → ∃ r : Int, slices_IndexFuncQQ.l0 l l.length i = some r ∧ (0 ≤ r ↔ (l.drop i).any longP = true) := by
  induction d with
  | zero =>
    intro i h1 h2
    rw [slices_IndexFuncQQ.l0.eq]
    simp only [ltI_d, br_if]
    rw [if_neg (by omega), List.drop_eq_nil_of_le (by omega)]
    exact ⟨_, rfl, by simp⟩
  | succ d ih =>
    intro i h1 h2
    rw [slices_IndexFuncQQ.l0.eq]
    simp only [ltI_d, leI_d, ofN_d, lenL_d, andB_d, eqI_d, br_if]
    rw [if_pos (by omega), if_pos (by omega), ixP l i (by omega), add1 i (by omega), List.drop_eq_getElem_cons (show i < l.length by omega), long1_any, bnd_some, br_b]
    by_cases e : longP l[i] = true
    · rw [if_pos e]
      exact ⟨_, rfl, by rw [List.any_cons, e]; simp⟩
    · rw [if_neg e]
      obtain ⟨r, h3, h4⟩ := ih (i + 1) (by omega) (by omega)
      have e' : longP l[i] = false := by simpa using e
      exact ⟨r, h3, by rw [h4, List.any_cons, e', Bool.false_or]⟩
theorem longL_any (l : List PairV) (hl : l.length ≤ 50000000) : slices_ContainsFuncQQ l = some (l.any longP) := by
  rw [slices_ContainsFuncQQ.eq, slices_IndexFuncQQ.eq]
  simp only [ofN_d, lenL_d]
  obtain ⟨r, h1, h2⟩ := indexP_loop l hl l.length 0 (by omega) (by omega)
  rw [show ((0 : Nat) : Int) = 0 from rfl] at h1
  rw [h1, bnd_some, leI_d]
  refine some_bool ?_
  rw [List.drop_zero] at h2
  cases h : l.any longP with
  | true => exact decide_eq_true (h2.2 h)
  | false => exact decide_eq_false (fun h3 => by rw [h2.1 h3] at h; cases h)
end Go.Proofs.YtjekopgcpikkiaaGreatDoor.AM
set_option linter.unusedVariables false
set_option linter.unusedSimpArgs false
namespace Go.Proofs.YtjekopgcpikkiaaGreatDoor.AM
open Go.Abs
def putS : List PairV → PairV → List PairV
  | [], p => [p]
  | q :: qs, p => if lt q.1 p.1 = true then q :: putS qs p else if q.1 = p.1 then p :: qs else p :: q :: qs
def makeS (l : List PairV) : List PairV := l.foldl putS []
def Srt (l : List PairV) : Prop := l.Pairwise fun a b => lt a.1 b.1 = true
theorem putS_len (p : PairV) : ∀ l, (putS l p).length ≤ l.length + 1
  | [] => by simp [putS]
  | q :: qs => by
    have := putS_len p qs
    unfold putS
    split
    · simp; omega
    · split <;> simp
theorem putS_mem {p x : PairV} : ∀ {l : List PairV}, x ∈ putS l p → x = p ∨ x ∈ l
  | [], h => by simp [putS] at h; exact .inl h
  | q :: qs, h => by
    unfold putS at h
    split at h
    · rcases List.mem_cons.1 h with h | h
      · exact .inr (h ▸ List.mem_cons_self)
      · exact (putS_mem h).imp id (List.mem_cons_of_mem _)
    · split at h
      · rcases List.mem_cons.1 h with h | h
        · exact .inl h
        · exact .inr (List.mem_cons_of_mem _ h)
      · rcases List.mem_cons.1 h with h | h
        · exact .inl h
        · exact .inr h
theorem putS_srt (p : PairV) : ∀ {l : List PairV}, Srt l → Srt (putS l p)
  | [], _ => List.pairwise_singleton _ _
  | q :: qs, h => by
    obtain ⟨h1, h2⟩ := List.pairwise_cons.1 h
    unfold putS
    split
    · rename_i hl
      refine List.pairwise_cons.2 ⟨fun x hx => ?_, putS_srt p h2⟩
      rcases putS_mem hx with rfl | hx
      · exact hl
      · exact h1 x hx
    · rename_i hl
      split
      · rename_i he
        exact List.pairwise_cons.2 ⟨fun x hx => he ▸ h1 x hx, h2⟩
      · rename_i he
        have hlt : lt p.1 q.1 = true := (lt_total (fun e => he e.symm)).resolve_right hl
        refine List.pairwise_cons.2 ⟨fun x hx => ?_, h⟩
        rcases List.mem_cons.1 hx with rfl | hx
        · exact hlt
        · exact lt_trans hlt (h1 x hx)
theorem putS_at (p : PairV) : ∀ (l : List PairV) (i : Nat), i ≤ l.length → (∀ (a : Nat) (h : a < l.length), a < i → lt l[a].1 p.1 = true) → (∀ (h : i < l.length), lt l[i].1 p.1 = false) →
    putS l p = if ∃ h : i < l.length, l[i].1 = p.1 then l.set i p else l.take i ++ p :: l.drop i
  | [], i, h0, _, _ => by
    have : i = 0 := by simpa using h0
    subst this
    rw [if_neg (by rintro ⟨h, _⟩; simp at h)]
    rfl
  | q :: qs, 0, _, _, h2 => by
    have hq : lt q.1 p.1 = false := h2 (by simp)
    unfold putS
    rw [if_neg (by rw [hq]; simp)]
    by_cases he : q.1 = p.1
    · rw [if_pos he, if_pos ⟨by simp, he⟩]; rfl
    · rw [if_neg he, if_neg (by rintro ⟨_, h⟩; exact he h)]; rfl
  | q :: qs, i + 1, h0, h1, h2 => by
    have hq : lt q.1 p.1 = true := h1 0 (by simp) (by omega)
    unfold putS
    rw [if_pos hq, putS_at p qs i (by simpa using h0) (fun a h ha => h1 (a + 1) (by simpa using h) (by omega)) (fun h => h2 (by simpa using h))]
    by_cases he : ∃ h : i < qs.length, qs[i].1 = p.1
    · rw [if_pos he, if_pos (by obtain ⟨h, e⟩ := he; exact ⟨by simpa using h, e⟩)]; rfl
    · rw [if_neg he, if_neg (by rintro ⟨h, e⟩; exact he ⟨by simpa using h, e⟩)]; rfl
theorem srt_get {l : List PairV} (h : Srt l) {a b : Nat} (hb : b < l.length) (hab : a < b) : lt l[a].1 l[b].1 = true := List.pairwise_iff_getElem.1 h a b (by omega) hb hab
theorem wrap_u64_id {x : Int} (h0 : 0 ≤ x) (h1 : x < 18446744073709551616) : IntKind.u64.wrap x = x := by
  have : IntKind.u64.wrap x = x % 18446744073709551616 := by simp [IntKind.wrap, IntKind.bits, IntKind.signed]
  rw [this]; omega
theorem mid (i j : Nat) (h : i + j ≤ 100000000) : wrapI .i64 (shrI .u64 (wrapI .u64 (addI .i64 (i : Int) (j : Int))) 1) = (((i + j) / 2 : Nat) : Int) := by
  rw [addI_d (by omega) (by omega)]
  unfold wrapI
  rw [wrap_u64_id (by omega) (by omega), show ((i : Int) + (j : Int)) = ((i + j : Nat) : Int) by omega]
  have := shr_div (i + j) 1 .u64 (by decide)
  rw [show ((1 : Nat) : Int) = 1 from rfl, Nat.pow_one] at this
  rw [this]
  exact wrap_i64_id (by omega) (by omega)
theorem place1_any (p : PairV) (k : ByteArray) (hp : okP p) : pair_place_1 p k = some (cmp p.1 k) := by
  rw [pair_place_1.eq, compare_any _ _ (by have := hp.1; omega), bnd_some]
theorem search_loop (l : List PairV) (k : ByteArray) (hl : l.length ≤ 50000000) (hs : ∀ p ∈ l, okP p) (hS : Srt l) : ∀ (d i j : Nat), j - i ≤ d → i ≤ j → j ≤ l.length → (∀ (a : Nat) (h : a < l.length), a < i → lt l[a].1 k = true) → (∀ (a : Nat) (h : a < l.length), j ≤ a → lt l[a].1 k = false) →
    ∃ pos : Nat, slices_BinarySearchFuncQQ_string.l0 l k l.length i j = some ((pos : Int), (decide (∃ h : pos < l.length, l[pos].1 = k), ())) ∧ pos ≤ l.length ∧ (∀ (a : Nat) (h : a < l.length), a < pos → lt l[a].1 k = true) ∧ (∀ (a : Nat) (h : a < l.length), pos ≤ a → lt l[a].1 k = false) := by
  intro d
  induction d with
  | zero =>
    intro i j h0 h1 h2 h3 h4
    have hij : j = i := by omega
    subst hij
    rw [slices_BinarySearchFuncQQ_string.l0.eq]
    simp only [ltI_d, leI_d, ofN_d, lenL_d, andB_d, eqI_d, br_if]
    rw [if_neg (by omega)]
    by_cases hn : j < l.length
    · rw [if_pos (by omega), if_pos (by omega), ixP l j hn, place1_any _ _ (hs _ (List.getElem_mem hn)), bnd_some]
      refine ⟨j, ?_, h2, h3, h4⟩
      have : decide (cmp l[j].1 k = 0) = decide (∃ h : j < l.length, l[j].1 = k) := decide_eq_decide.2 ⟨fun h => ⟨hn, cmp_eq.1 h⟩, fun ⟨_, h⟩ => cmp_eq.2 h⟩
      rw [this]
    · rw [if_neg (by omega)]
      refine ⟨j, ?_, h2, h3, h4⟩
      have : (false : Bool) = decide (∃ h : j < l.length, l[j].1 = k) := (decide_eq_false (fun ⟨h, _⟩ => hn h)).symm
      rw [← this]
  | succ d ih =>
    intro i j h0 h1 h2 h3 h4
    by_cases hij : i = j
    · exact ih i j (by omega) h1 h2 h3 h4
    have hm := mid i j (by omega)
    have hlt : (i + j) / 2 < l.length := by omega
    rw [slices_BinarySearchFuncQQ_string.l0.eq, hm]
    simp only [ltI_d, leI_d, ofN_d, lenL_d, andB_d, eqI_d, br_if]
    rw [if_pos (by omega), if_pos (by omega), if_pos (by omega), ixP l _ hlt, place1_any _ _ (hs _ (List.getElem_mem hlt)), bnd_some, add1 _ (by omega)]
    by_cases hc : lt l[(i + j) / 2].1 k = true
    · rw [if_pos (cmp_neg.2 hc)]
      refine ih _ j (by omega) (by omega) h2 (fun a h ha => ?_) h4
      by_cases he : a = (i + j) / 2
      · subst he; exact hc
      · exact lt_trans (srt_get hS hlt (show a < (i + j) / 2 by omega)) hc
    · rw [if_neg (fun h => hc (cmp_neg.1 h))]
      refine ih i _ (by omega) (by omega) (by omega) h3 (fun a h ha => ?_)
      cases hk : lt l[a].1 k with
      | false => rfl
      | true =>
        exfalso
        by_cases he : (i + j) / 2 = a
        · subst he; exact hc hk
        · exact hc (lt_trans (srt_get hS h (show (i + j) / 2 < a by omega)) hk)
theorem place_any (l : List PairV) (k : ByteArray) (hl : l.length ≤ 50000000) (hs : ∀ p ∈ l, okP p) (hS : Srt l) :
    ∃ pos : Nat, pair_place l k = some ((pos : Int), (decide (∃ h : pos < l.length, l[pos].1 = k), ())) ∧ pos ≤ l.length ∧ (∀ (a : Nat) (h : a < l.length), a < pos → lt l[a].1 k = true) ∧ (∀ (a : Nat) (h : a < l.length), pos ≤ a → lt l[a].1 k = false) := by
  obtain ⟨pos, h1, h2⟩ := search_loop l k hl hs hS l.length 0 l.length (by omega) (by omega) (by omega) (fun a h h' => by omega) (fun a h h' => by omega)
  refine ⟨pos, ?_, h2⟩
  rw [pair_place.eq, slices_BinarySearchFuncQQ_string.eq]
  simp only [ofN_d, lenL_d]
  rw [show ((0 : Nat) : Int) = 0 from rfl] at h1
  rw [h1, bnd_some]
theorem put_any (l : List PairV) (p : PairV) (hl : l.length ≤ 45000000) (hs : ∀ q ∈ l, okP q) (hS : Srt l) : pair_put l p = some ((), (putS l p, ())) := by
  obtain ⟨pos, h1, h2, h3, h4⟩ := place_any l p.1 (by omega) hs hS
  have hput := putS_at p l pos h2 h3 (fun h => h4 pos h (Nat.le_refl _))
  rw [pair_put.eq, h1, bnd_some]
  simp only [br_if]
  by_cases he : ∃ h : pos < l.length, l[pos].1 = p.1
  · rw [if_pos he, cloneP_any l (by omega), bnd_some]
    simp only [ltI_d, leI_d, ofN_d, lenL_d, andB_d, br_if]
    rw [if_pos (by obtain ⟨h, _⟩ := he; omega), hput, if_pos he]
    unfold setL
    rw [Int.toNat_natCast]
  · rw [if_neg he, cloneP_any l (by omega), bnd_some, slices_InsertQQ.eq]
    have hg : insG tapiPair l (pos : Int) [p] = true := by
      unfold insG
      refine decide_eq_true ⟨by omega, ?_, ?_, ?_⟩
      · show pos ≤ l.length; exact h2
      · show 0 < 1; omega
      · show l.length + 1 ≤ _; omega
    rw [hg, br_t, bnd_some, both_self, hput, if_neg he]
    unfold insL
    rw [Int.toNat_natCast, List.append_assoc]
    rfl
theorem putS_ok {l : List PairV} {p : PairV} (hl : ∀ q ∈ l, okP q) (hp : okP p) : ∀ q ∈ putS l p, okP q := fun q hq => by
  rcases putS_mem hq with rfl | h
  · exact hp
  · exact hl q h
theorem make_loop (l : List PairV) (hl : l.length ≤ 40000000) (hs : ∀ p ∈ l, okP p) (d : Nat) : ∀ (i : Nat) (acc : List PairV), i ≤ l.length → l.length - i = d → acc.length ≤ i → (∀ q ∈ acc, okP q) → Srt acc → pair_Make.l0 l l.length i acc = some ((l.drop i).foldl putS acc) := by
  induction d with
  | zero =>
    intro i acc h1 h2 h3 h4 h5
    rw [pair_Make.l0.eq]
    simp only [ltI_d, br_if]
    rw [if_neg (by omega), List.drop_eq_nil_of_le (by omega)]
    rfl
  | succ d ih =>
    intro i acc h1 h2 h3 h4 h5
    have hi : i < l.length := by omega
    rw [pair_Make.l0.eq]
    simp only [ltI_d, leI_d, ofN_d, lenL_d, andB_d, br_if]
    rw [if_pos (by omega), if_pos (by omega), ixP l i hi, put_any acc _ (by omega) h4 h5, bnd_some, add1 i (by omega), List.drop_eq_getElem_cons hi]
    have := putS_len l[i] acc
    exact ih (i + 1) (putS acc l[i]) (by omega) (by omega) (by omega) (putS_ok h4 (hs _ (List.getElem_mem hi))) (putS_srt _ h5)
theorem make_any (l : List PairV) (hl : l.length ≤ 40000000) (hs : ∀ p ∈ l, okP p) : pair_Make l = some (makeS l) := by
  rw [pair_Make.eq]
  simp only [ofN_d, lenL_d]
  have := make_loop l hl hs l.length 0 [] (by omega) (by omega) (by simp) (by simp) List.Pairwise.nil
  rw [List.drop_zero, show ((0 : Nat) : Int) = 0 from rfl] at this
  exact this
theorem foldl_len : ∀ (l acc : List PairV), (l.foldl putS acc).length ≤ acc.length + l.length
  | [], acc => by simp
  | p :: l, acc => by
    have h1 := foldl_len l (putS acc p)
    have h2 := putS_len p acc
    simp only [List.foldl_cons, List.length_cons]
    omega
theorem makeS_len (l : List PairV) : (makeS l).length ≤ l.length := by have := foldl_len l []; unfold makeS; simpa using this
theorem putS_end (p : PairV) : ∀ (l : List PairV), (∀ q ∈ l, lt q.1 p.1 = true) → putS l p = l ++ [p]
  | [], _ => rfl
  | q :: qs, h => by
    unfold putS
    rw [if_pos (h q List.mem_cons_self), putS_end p qs fun x hx => h x (List.mem_cons_of_mem _ hx)]
    rfl
theorem foldl_srt : ∀ (l acc : List PairV), Srt (acc ++ l) → l.foldl putS acc = acc ++ l
  | [], acc, _ => by simp
  | p :: l, acc, h => by
    rw [List.foldl_cons, putS_end p acc (fun q hq => (List.pairwise_append.1 h).2.2 q hq p List.mem_cons_self), foldl_srt l (acc ++ [p]) (by simpa using h)]
    simp
theorem makeS_srt {l : List PairV} (h : Srt l) : makeS l = l := by
  have := foldl_srt l [] (by simpa using h)
  simpa [makeS] using this
theorem isS_srt : ∀ {l : List PairV}, isS l = true → Srt l
  | [], _ => List.Pairwise.nil
  | [a], _ => List.pairwise_singleton _ _
  | a :: b :: r, h => by
    have h' : (lt a.1 b.1 && isS (b :: r)) = true := h
    rw [Bool.and_eq_true] at h'
    have hr := isS_srt h'.2
    refine List.pairwise_cons.2 ⟨fun x hx => ?_, hr⟩
    rcases List.mem_cons.1 hx with rfl | hx
    · exact h'.1
    · exact lt_trans h'.1 ((List.pairwise_cons.1 hr).1 x hx)
end Go.Proofs.YtjekopgcpikkiaaGreatDoor.AM
set_option linter.unusedVariables false
set_option linter.unusedSimpArgs false
namespace Go.Proofs.YtjekopgcpikkiaaGreatDoor.AM
open Go.Abs
abbrev NodeV : Type := Int × ByteArray × ByteArray × Int × List Int × Int × List PairV × Int × Int × Unit
def few (n : NodeV) : NodeV := (n.1, (cut 40 n.2.1, (cut 40 n.2.2.1, (n.2.2.2.1, (n.2.2.2.2.1.take 40, (n.2.2.2.2.2.1, (fewL n.2.2.2.2.2.2.1, n.2.2.2.2.2.2.2)))))))
structure okN (n : NodeV) : Prop where
  key : n.2.1.size ≤ 40
  val : n.2.2.1.size ≤ 40
  map0 : 0 ≤ n.2.2.2.1
  map1 : n.2.2.2.1 < 4294967296
  kids : n.2.2.2.2.1.length ≤ 1000000
  list : n.2.2.2.2.2.2.1.length ≤ 1000000
  binds : ∀ p ∈ n.2.2.2.2.2.2.1, okP p
theorem node_ext {a b : NodeV} : a = b ↔ a.1 = b.1 ∧ a.2.1 = b.2.1 ∧ a.2.2.1 = b.2.2.1 ∧ a.2.2.2.1 = b.2.2.2.1 ∧ a.2.2.2.2.1 = b.2.2.2.2.1 ∧ a.2.2.2.2.2.1 = b.2.2.2.2.2.1 ∧ a.2.2.2.2.2.2.1 = b.2.2.2.2.2.2.1 ∧ a.2.2.2.2.2.2.2.1 = b.2.2.2.2.2.2.2.1 ∧ a.2.2.2.2.2.2.2.2.1 = b.2.2.2.2.2.2.2.2.1 := by
  refine ⟨fun h => by subst h; exact ⟨rfl, rfl, rfl, rfl, rfl, rfl, rfl, rfl, rfl⟩, fun ⟨h1, h2, h3, h4, h5, h6, h7, h8, h9⟩ => ?_⟩
  obtain ⟨a1, a2, a3, a4, a5, a6, a7, a8, a9, _⟩ := a
  obtain ⟨b1, b2, b3, b4, b5, b6, b7, b8, b9, _⟩ := b
  dsimp only at h1 h2 h3 h4 h5 h6 h7 h8 h9
  subst h1; subst h2; subst h3; subst h4; subst h5; subst h6; subst h7; subst h8; subst h9
  rfl
instance nodeDec : DecidableEq NodeV := fun a b => decidable_of_iff _ node_ext.symm
theorem same_j0 (c : Bool) (a b : NodeV) (h : okN a) : node_Same.j0 c a b = some (c && decide (a.2.2.2.2.2.1 = b.2.2.2.2.2.1 ∧ a.2.2.2.2.2.2.2.1 = b.2.2.2.2.2.2.2.1 ∧ a.2.2.2.2.2.2.2.2.1 = b.2.2.2.2.2.2.2.2.1 ∧ a.2.2.2.2.1 = b.2.2.2.2.1 ∧ a.2.2.2.2.2.2.1 = b.2.2.2.2.2.2.1)) := by
  have hk := h.kids
  have hl := h.list
  rw [node_Same.j0.eq]
  cases c with
  | false => rw [br_f, Bool.false_and]
  | true =>
    rw [br_t, Bool.true_and]
    simp only [eqI_d, br_if]
    by_cases h1 : a.2.2.2.2.2.1 = b.2.2.2.2.2.1
    · rw [if_pos h1]
      by_cases h2 : a.2.2.2.2.2.2.2.1 = b.2.2.2.2.2.2.2.1
      · rw [if_pos h2]
        by_cases h3 : a.2.2.2.2.2.2.2.2.1 = b.2.2.2.2.2.2.2.2.1
        · rw [if_pos h3, equalR_any _ _ (by omega), bnd_some, br_if]
          by_cases h4 : a.2.2.2.2.1 = b.2.2.2.2.1
          · rw [if_pos h4, equalP_any _ _ (by omega), bnd_some]
            exact some_bool (decide_eq_decide.2 ⟨fun h5 => ⟨h1, h2, h3, h4, h5⟩, fun h => h.2.2.2.2⟩)
          · rw [if_neg h4]; exact some_bool (decide_eq_false (fun h => h4 h.2.2.2.1)).symm
        · rw [if_neg h3]; exact some_bool (decide_eq_false (fun h => h3 h.2.2.1)).symm
      · rw [if_neg h2]; exact some_bool (decide_eq_false (fun h => h2 h.2.1)).symm
    · rw [if_neg h1]; exact some_bool (decide_eq_false (fun h => h1 h.1)).symm
theorem same_any (a b : NodeV) (h : okN a) : node_Same a b = some (decide (a = b)) := by
  rw [node_Same.eq]
  simp only [same_j0 _ a b h, eqI_d, eqS_d, br_if, Bool.false_and]
  by_cases h1 : a.1 = b.1
  · rw [if_pos h1]
    by_cases h2 : a.2.1 = b.2.1
    · rw [if_pos h2]
      by_cases h3 : a.2.2.1 = b.2.2.1
      · rw [if_pos h3]
        by_cases h4 : a.2.2.2.1 = b.2.2.2.1
        · rw [decide_eq_true h4, Bool.true_and]
          exact some_bool (decide_eq_decide.2 ⟨fun ⟨g1, g2, g3, g4, g5⟩ => node_ext.2 ⟨h1, h2, h3, h4, g4, g1, g5, g2, g3⟩, fun e => by subst e; exact ⟨rfl, rfl, rfl, rfl, rfl⟩⟩)
        · rw [decide_eq_false h4, Bool.false_and]; exact some_bool (decide_eq_false (fun e => h4 (by rw [e]))).symm
      · rw [if_neg h3]; exact some_bool (decide_eq_false (fun e => h3 (by rw [e]))).symm
    · rw [if_neg h2]; exact some_bool (decide_eq_false (fun e => h2 (by rw [e]))).symm
  · rw [if_neg h1]; exact some_bool (decide_eq_false (fun e => h1 (by rw [e]))).symm
def longN (n : NodeV) : Bool := longP (n.2.1, (n.2.2.1, ())) || n.2.2.2.2.2.2.1.any longP
theorem long_any (n : NodeV) (h : okN n) : node_long n = some (longN n) := by
  rw [node_long.eq, long1_any, bnd_some, br_b]
  unfold longN
  by_cases e : longP (n.2.1, (n.2.2.1, ())) = true
  · rw [if_pos e, e]; rfl
  · have e' : longP (n.2.1, (n.2.2.1, ())) = false := by simpa using e
    rw [if_neg e, longL_any _ (by have := h.list; omega), bnd_some, e', Bool.false_or]
theorem reflong_loop (n : NodeV) (h : okN n) (d : Nat) : ∀ (i : Nat) (c : Bool), i ≤ n.2.2.2.2.2.2.1.length → n.2.2.2.2.2.2.1.length - i = d → ref13_long.l0 c i n = some (c || (n.2.2.2.2.2.2.1.drop i).any longP) := by
  have hl := h.list
  induction d with
  | zero =>
    intro i c h1 h2
    rw [ref13_long.l0.eq]
    simp only [ltI_d, ofN_d, lenL_d, br_if]
    rw [if_neg (by omega), List.drop_eq_nil_of_le (by omega)]
    simp
  | succ d ih =>
    intro i c h1 h2
    have hi : i < n.2.2.2.2.2.2.1.length := by omega
    rw [ref13_long.l0.eq]
    simp only [ltI_d, leI_d, ofN_d, lenL_d, lenS_d, andB_d, br_if]
    rw [if_pos (by omega), add1 i (by omega)]
    cases c with
    | true => rw [br_t, ih (i + 1) true (by omega) (by omega)]; simp
    | false =>
      rw [br_f, if_pos (by omega), ixP _ i hi, List.drop_eq_getElem_cons hi, List.any_cons, Bool.false_or]
      rw [show longP n.2.2.2.2.2.2.1[i] = (decide (16 < n.2.2.2.2.2.2.1[i].1.size) || decide (16 < n.2.2.2.2.2.2.1[i].2.1.size)) from rfl]
      by_cases e : 16 < n.2.2.2.2.2.2.1[i].1.size
      · rw [if_pos (by omega), ih (i + 1) true (by omega) (by omega), decide_eq_true e]
        simp
      · rw [if_neg (by omega), if_pos (by omega), ih (i + 1) _ (by omega) (by omega), decide_eq_false e, Bool.false_or]
        refine some_bool ?_
        congr 1
        exact decide_eq_decide.2 (by omega)
theorem reflong_any (n : NodeV) (h : okN n) : ref13_long n = some (longN n) := by
  rw [ref13_long.eq]
  simp only [ltI_d, ofN_d, lenS_d, br_if]
  have key : ∀ c : Bool, ref13_long.l0 c 0 n = some (c || n.2.2.2.2.2.2.1.any longP) := fun c => by
    have := reflong_loop n h n.2.2.2.2.2.2.1.length 0 c (by omega) (by omega)
    rw [List.drop_zero, show ((0 : Nat) : Int) = 0 from rfl] at this
    exact this
  unfold longN
  rw [key, key, show longP (n.2.1, (n.2.2.1, ())) = (decide (16 < n.2.1.size) || decide (16 < n.2.2.1.size)) from rfl]
  by_cases e : 16 < n.2.1.size
  · rw [if_pos (by omega), decide_eq_true e]; simp
  · rw [if_neg (by omega), decide_eq_false e, Bool.false_or]
    refine some_bool ?_
    congr 1
    exact decide_eq_decide.2 (by omega)
def bareP (n : NodeV) (binding branch main list : Bool) : Prop :=
  (binding = true → n.2.1 = ByteArray.empty ∧ n.2.2.1 = ByteArray.empty) ∧ (branch = true → n.2.2.2.1 = 0 ∧ n.2.2.2.2.1 = []) ∧ (main = true → n.2.2.2.2.2.1 = 0) ∧ (list = true → n.2.2.2.2.2.2.1 = [])
instance (n : NodeV) (a b c d : Bool) : Decidable (bareP n a b c d) := by unfold bareP; infer_instance
theorem len0 {A : Type} {l : List A} : (l.length : Int) = 0 ↔ l = [] := by
  constructor
  · intro h; exact List.eq_nil_of_length_eq_zero (by omega)
  · intro h; rw [h]; rfl
theorem bare_any (n : NodeV) (a b c d : Bool) : ref13_bare n a b c d = some (decide (bareP n a b c d)) := by
  rw [ref13_bare.eq]
  unfold bareP
  simp only [eqI_d, eqS_d, ltI_d, leI_d, ofN_d, lenL_d, notB_d, br_if, br_b]
  have hk : (0 : Int) < (n.2.2.2.2.1.length : Int) ↔ ¬ n.2.2.2.2.1 = [] := by
    rw [← len0]; omega
  simp only [hk, len0]
  by_cases e1 : n.2.1 = ByteArray.empty <;> by_cases e2 : n.2.2.1 = ByteArray.empty <;> by_cases e3 : n.2.2.2.1 = 0 <;> by_cases e4 : n.2.2.2.2.1 = [] <;> by_cases e5 : n.2.2.2.2.2.1 = 0 <;> cases a <;> cases b <;> cases c <;> cases d <;> simp [e1, e2, e3, e4, e5, notB]
def formP (n : NodeV) : Prop := 0 ≤ n.2.2.2.2.2.2.2.2.1 ∧
  if n.1 = 1 ∨ n.1 = 6 then n.2.2.2.2.2.2.2.1 = 1 ∧ bareP n false true true true
  else if n.1 = 2 then (0 : Int) ∉ n.2.2.2.2.1 ∧ n.2.2.2.2.1.length = (allI n.2.2.2.1.toNat).length ∧ 0 ≤ n.2.2.2.2.2.2.2.1 ∧ bareP n true false true true
  else if n.1 = 3 then 2 ≤ n.2.2.2.2.2.2.1.length ∧ isS n.2.2.2.2.2.2.1 = true ∧ n.2.2.2.2.2.2.2.1 = (n.2.2.2.2.2.2.1.length : Int) ∧ bareP n true true true false
  else if n.1 = 4 then n.2.2.2.1 = 0 ∧ n.2.2.2.2.1.length = 2 ∧ 1 ≤ n.2.2.2.2.2.2.2.1 ∧ bareP n false false true true
  else n.2.2.2.2.2.1 ≠ 0 ∧ n.2.2.2.2.2.2.2.1 = 0 ∧ bareP n true true false true
instance (n : NodeV) : Decidable (formP n) := by unfold formP; infer_instance
theorem kid_loop (n : NodeV) (h : okN n) (d : Nat) : ∀ (i : Nat), i ≤ n.2.2.2.2.1.length → n.2.2.2.2.1.length - i = d →
    ref13_form.l1 i n = some (decide ((0 : Int) ∉ n.2.2.2.2.1.drop i ∧ n.2.2.2.2.1.length = (allI n.2.2.2.1.toNat).length ∧ 0 ≤ n.2.2.2.2.2.2.2.1 ∧ bareP n true false true true)) := by
  have hk := h.kids
  have hm0 := h.map0
  have hm1 := h.map1
  induction d with
  | zero =>
    intro i h1 h2
    rw [ref13_form.l1.eq]
    simp only [ltI_d, leI_d, eqI_d, ofN_d, lenL_d, br_if]
    have hm : n.2.2.2.1 = ((n.2.2.2.1.toNat : Nat) : Int) := (Int.toNat_of_nonneg hm0).symm
    rw [if_neg (by omega), hm, refall_any _ (by omega), bnd_some, Int.toNat_natCast, List.drop_eq_nil_of_le (by omega), bare_any]
    by_cases e1 : n.2.2.2.2.1.length = (allI n.2.2.2.1.toNat).length
    · rw [if_pos (by omega)]
      by_cases e2 : 0 ≤ n.2.2.2.2.2.2.2.1
      · rw [if_pos e2, bnd_some]
        exact some_bool (decide_eq_decide.2 ⟨fun e3 => ⟨by simp, e1, e2, e3⟩, fun e => e.2.2.2⟩)
      · rw [if_neg e2]; exact some_bool (decide_eq_false (fun e => e2 e.2.2.1)).symm
    · rw [if_neg (by omega)]; exact some_bool (decide_eq_false (fun e => e1 e.2.1)).symm
  | succ d ih =>
    intro i h1 h2
    have hi : i < n.2.2.2.2.1.length := by omega
    rw [ref13_form.l1.eq]
    simp only [ltI_d, leI_d, eqI_d, ofN_d, lenL_d, andB_d, br_if]
    rw [if_pos (by omega), if_pos (by omega), ixR _ i hi, add1 i (by omega), ih (i + 1) (by omega) (by omega), List.drop_eq_getElem_cons hi]
    by_cases e : n.2.2.2.2.1[i] = 0
    · rw [if_pos e]
      exact some_bool (decide_eq_false (fun q => q.1 (by rw [e]; exact List.mem_cons_self))).symm
    · rw [if_neg e]
      exact some_bool (decide_eq_decide.2 ⟨fun q => ⟨fun q' => (List.mem_cons.1 q').elim (fun q2 => e q2.symm) q.1, q.2⟩, fun q => ⟨fun q' => q.1 (List.mem_cons_of_mem _ q'), q.2⟩⟩)
theorem form_any (n : NodeV) (h : okN n) (h1 : 1 ≤ n.1) (h2 : n.1 ≤ 6) : ref13_form n = some (decide (formP n)) := by
  have hl := h.list
  have hk := h.kids
  rw [ref13_form.eq]
  unfold formP
  simp only [ltI_d, eqI_d, br_if]
  by_cases hb : n.2.2.2.2.2.2.2.2.1 < 0
  · rw [if_pos hb]
    exact some_bool (decide_eq_false (fun q => absurd q.1 (by omega))).symm
  rw [if_neg hb]
  have hj : ref13_form.j0 n.1 (decide (n.1 = 1 ∨ n.1 = 6)) n = some (decide (0 ≤ n.2.2.2.2.2.2.2.2.1 ∧
      if n.1 = 1 ∨ n.1 = 6 then n.2.2.2.2.2.2.2.1 = 1 ∧ bareP n false true true true
      else if n.1 = 2 then (0 : Int) ∉ n.2.2.2.2.1 ∧ n.2.2.2.2.1.length = (allI n.2.2.2.1.toNat).length ∧ 0 ≤ n.2.2.2.2.2.2.2.1 ∧ bareP n true false true true
      else if n.1 = 3 then 2 ≤ n.2.2.2.2.2.2.1.length ∧ isS n.2.2.2.2.2.2.1 = true ∧ n.2.2.2.2.2.2.2.1 = (n.2.2.2.2.2.2.1.length : Int) ∧ bareP n true true true false
      else if n.1 = 4 then n.2.2.2.1 = 0 ∧ n.2.2.2.2.1.length = 2 ∧ 1 ≤ n.2.2.2.2.2.2.2.1 ∧ bareP n false false true true
      else n.2.2.2.2.2.1 ≠ 0 ∧ n.2.2.2.2.2.2.2.1 = 0 ∧ bareP n true true false true)) := by
    rw [ref13_form.j0.eq]
    simp only [ltI_d, leI_d, eqI_d, ofN_d, lenL_d, notB_d, br_if, bare_any, bnd_some]
    have hbb : 0 ≤ n.2.2.2.2.2.2.2.2.1 := by omega
    by_cases k1 : n.1 = 1 ∨ n.1 = 6
    · simp only [if_pos k1]
      by_cases e : n.2.2.2.2.2.2.2.1 = 1
      · rw [if_pos e]; exact some_bool (decide_eq_decide.2 ⟨fun q => ⟨hbb, e, q⟩, fun q => q.2.2⟩)
      · rw [if_neg e]; exact some_bool (decide_eq_false (fun q => e q.2.1)).symm
    simp only [if_neg k1]
    by_cases k2 : n.1 = 2
    · simp only [if_pos k2]
      have := kid_loop n h n.2.2.2.2.1.length 0 (by omega) (by omega)
      rw [List.drop_zero, show ((0 : Nat) : Int) = 0 from rfl] at this
      rw [this]
      exact some_bool (decide_eq_decide.2 ⟨fun q => ⟨hbb, q⟩, fun q => q.2⟩)
    simp only [if_neg k2]
    by_cases k3 : n.1 = 3
    · simp only [if_pos k3]
      by_cases e1 : (2 : Int) ≤ (n.2.2.2.2.2.2.1.length : Int)
      · rw [if_pos e1, refis_any _ (by omega) h.binds, bnd_some, br_b]
        by_cases e2 : isS n.2.2.2.2.2.2.1 = true
        · rw [if_pos e2]
          by_cases e3 : n.2.2.2.2.2.2.2.1 = (n.2.2.2.2.2.2.1.length : Int)
          · rw [if_pos e3]; exact some_bool (decide_eq_decide.2 ⟨fun q => ⟨hbb, by omega, e2, e3, q⟩, fun q => q.2.2.2.2⟩)
          · rw [if_neg e3]; exact some_bool (decide_eq_false (fun q => e3 q.2.2.2.1)).symm
        · rw [if_neg e2]; exact some_bool (decide_eq_false (fun q => e2 q.2.2.1)).symm
      · rw [if_neg e1]; exact some_bool (decide_eq_false (fun q => e1 (by have := q.2.1; omega))).symm
    simp only [if_neg k3]
    by_cases k4 : n.1 = 4
    · simp only [if_pos k4]
      by_cases e1 : n.2.2.2.1 = 0
      · rw [if_pos e1]
        by_cases e2 : (n.2.2.2.2.1.length : Int) = 2
        · rw [if_pos e2]
          by_cases e3 : 1 ≤ n.2.2.2.2.2.2.2.1
          · rw [if_pos e3]; exact some_bool (decide_eq_decide.2 ⟨fun q => ⟨hbb, e1, by omega, e3, q⟩, fun q => q.2.2.2.2⟩)
          · rw [if_neg e3]; exact some_bool (decide_eq_false (fun q => e3 q.2.2.2.1)).symm
        · rw [if_neg e2]; exact some_bool (decide_eq_false (fun q => e2 (by have := q.2.2.1; omega))).symm
      · rw [if_neg e1]; exact some_bool (decide_eq_false (fun q => e1 q.2.1)).symm
    simp only [if_neg k4]
    by_cases e1 : n.2.2.2.2.2.1 = 0
    · rw [if_neg (by intro q; exact q e1)]; exact some_bool (decide_eq_false (fun q => q.2.1 e1)).symm
    · rw [if_pos e1]
      by_cases e2 : n.2.2.2.2.2.2.2.1 = 0
      · rw [if_pos e2]; exact some_bool (decide_eq_decide.2 ⟨fun q => ⟨hbb, e1, e2, q⟩, fun q => q.2.2.2⟩)
      · rw [if_neg e2]; exact some_bool (decide_eq_false (fun q => e2 q.2.2.1)).symm
  by_cases k1 : n.1 = 1
  · rw [if_pos k1]
    have e : decide (n.1 = 1 ∨ n.1 = 6) = true := decide_eq_true (.inl k1)
    rw [e] at hj
    exact hj
  · rw [if_neg k1]
    have e : decide (n.1 = 1 ∨ n.1 = 6) = decide (n.1 = 6) := decide_eq_decide.2 ⟨fun q => q.resolve_left k1, .inr⟩
    rw [e] at hj
    exact hj
def mayS (n : NodeV) : Int := if n.1 < 1 then 11 else if 6 < n.1 then 11 else if longN n = true then 6 else if formP n then 0 else 4
theorem refmay_any (n : NodeV) (h : okN n) : ref13_May n = some (mayS n) := by
  rw [ref13_May.eq]
  unfold mayS
  simp only [ltI_d, eqI_d, br_if]
  by_cases h1 : n.1 < 1
  · rw [if_pos h1, if_pos h1]
  · rw [if_neg h1, if_neg h1]
    by_cases h2 : 6 < n.1
    · rw [if_pos h2, if_pos h2]
    · rw [if_neg h2, if_neg h2, reflong_any n h, bnd_some, br_b]
      by_cases h3 : longN n = true
      · rw [if_pos h3, if_pos h3]
      · rw [if_neg h3, if_neg h3, form_any n h (by omega) (by omega), bnd_some, notB_d, br_if]
        by_cases h4 : formP n
        · rw [if_neg (by intro q; exact q h4), if_pos h4]
        · rw [if_pos h4, if_neg h4]
end Go.Proofs.YtjekopgcpikkiaaGreatDoor.AM
set_option linter.unusedVariables false
set_option linter.unusedSimpArgs false
namespace Go.Proofs.YtjekopgcpikkiaaGreatDoor.AM
open Go.Abs
def zeroN : NodeV := (0, (ByteArray.empty, (ByteArray.empty, (0, ([], (0, ([], (0, (0, ())))))))))
def formedV (n : NodeV) : NodeV :=
  if n.1 = 1 then (1, (n.2.1, (n.2.2.1, (0, ([], (0, ([], (1, (0, ()))))))))) else
  if n.1 = 6 then (6, (n.2.1, (n.2.2.1, (0, ([], (0, ([], (1, (0, ()))))))))) else
  if n.1 = 2 then (2, (ByteArray.empty, (ByteArray.empty, (n.2.2.2.1, (n.2.2.2.2.1, (0, ([], (max n.2.2.2.2.2.2.2.1 0, (0, ()))))))))) else
  if n.1 = 3 then (3, (ByteArray.empty, (ByteArray.empty, (0, ([], (0, (makeS n.2.2.2.2.2.2.1, (((makeS n.2.2.2.2.2.2.1).length : Int), (0, ()))))))))) else
  if n.1 = 4 then (if n.2.2.2.2.1.length = 2 then (4, (n.2.1, (n.2.2.1, (0, (n.2.2.2.2.1, (0, ([], (max n.2.2.2.2.2.2.2.1 1, (0, ()))))))))) else zeroN) else
  if n.1 = 5 then (5, (ByteArray.empty, (ByteArray.empty, (0, ([], (n.2.2.2.2.2.1, ([], (0, (0, ()))))))))) else zeroN
theorem two {l : List Int} (h : l.length = 2) : [l[0], l[1]] = l := by
  match l, h with
  | [a, b], _ => rfl
theorem formed_any (n : NodeV) (h : okN n) : node_formed n = some (formedV n) := by
  have hl := h.list
  have hk := h.kids
  rw [node_formed.eq]
  unfold formedV
  simp only [ltI_d, leI_d, eqI_d, ofN_d, lenL_d, andB_d, maxI_d, br_if]
  by_cases k1 : n.1 = 1
  · rw [if_pos k1, if_pos k1, node_Leaf.eq, bnd_some]
  rw [if_neg k1, if_neg k1]
  by_cases k6 : n.1 = 6
  · rw [if_pos k6, if_pos k6, node_Tomb.eq, bnd_some]
  rw [if_neg k6, if_neg k6]
  by_cases k2 : n.1 = 2
  · rw [if_pos k2, if_pos k2, node_Branch.eq, cloneR_any _ (by omega), bnd_some, bnd_some]
  rw [if_neg k2, if_neg k2]
  by_cases k3 : n.1 = 3
  · rw [if_pos k3, if_pos k3, node_Bucket.eq, make_any _ (by omega) h.binds, bnd_some, bnd_some]
    rfl
  rw [if_neg k3, if_neg k3]
  by_cases k4 : n.1 = 4
  · rw [if_pos k4, if_pos k4]
    by_cases e : n.2.2.2.2.1.length = 2
    · rw [if_pos e, if_pos (by omega), if_pos (by omega), if_pos (by omega)]
      have i0 := ixR n.2.2.2.2.1 0 (by omega)
      have i1 := ixR n.2.2.2.2.1 1 (by omega)
      rw [show ((0 : Nat) : Int) = 0 from rfl] at i0
      rw [show ((1 : Nat) : Int) = 1 from rfl] at i1
      rw [i0, i1, node_Tree.eq, bnd_some, two e]
    · rw [if_neg e, if_neg (by omega)]
      rfl
  rw [if_neg k4, if_neg k4]
  by_cases k5 : n.1 = 5
  · rw [if_pos k5, if_pos k5, node_Inner.eq, bnd_some]
  rw [if_neg k5, if_neg k5]
  rfl
def wholeP (n : NodeV) : Prop :=
  if n.1 = 2 then n.2.2.2.2.1.length = (allI n.2.2.2.1.toNat).length ∧ (0 : Int) ∉ n.2.2.2.2.1
  else if n.1 = 3 then 2 ≤ n.2.2.2.2.2.2.1.length ∧ isS n.2.2.2.2.2.2.1 = true
  else if n.1 = 5 then n.2.2.2.2.2.1 ≠ 0 else True
instance (n : NodeV) : Decidable (wholeP n) := by unfold wholeP; infer_instance
theorem whole_any (n : NodeV) (h : okN n) : node_whole n = some (decide (wholeP n)) := by
  have hl := h.list
  have hk := h.kids
  have hm0 := h.map0
  have hm1 := h.map1
  rw [node_whole.eq]
  unfold wholeP
  simp only [ltI_d, leI_d, eqI_d, ofN_d, lenL_d, andB_d, notB_d, br_if]
  by_cases k2 : n.1 = 2
  · simp only [if_pos k2]
    have hm : n.2.2.2.1 = ((n.2.2.2.1.toNat : Nat) : Int) := (Int.toNat_of_nonneg hm0).symm
    rw [hm, count_any _ (by omega), bnd_some, Int.toNat_natCast]
    by_cases e : n.2.2.2.2.1.length = (allI n.2.2.2.1.toNat).length
    · rw [if_pos (by omega), containsR_any _ _ (by omega), bnd_some, notB_d]
      exact some_bool (decide_eq_decide.2 ⟨fun q => ⟨e, q⟩, fun q => q.2⟩)
    · rw [if_neg (by omega)]; exact some_bool (decide_eq_false (fun q => e q.1)).symm
  simp only [if_neg k2]
  by_cases k3 : n.1 = 3
  · simp only [if_pos k3]
    by_cases e : 2 ≤ n.2.2.2.2.2.2.1.length
    · rw [if_pos (by omega), is_any _ (by omega) h.binds, bnd_some]
      refine some_bool ?_
      cases hs : isS n.2.2.2.2.2.2.1 with
      | true => exact (decide_eq_true ⟨e, rfl⟩).symm
      | false => exact (decide_eq_false (fun q => by cases q.2)).symm
    · rw [if_neg (by omega)]; exact some_bool (decide_eq_false (fun q => e q.1)).symm
  simp only [if_neg k3]
  by_cases k5 : n.1 = 5
  · simp only [if_pos k5]
  simp only [if_neg k5]
  exact some_bool (decide_eq_true trivial).symm
def bornV (n : NodeV) : NodeV :=
  let f := formedV n
  (f.1, (f.2.1, (f.2.2.1, (f.2.2.2.1, (f.2.2.2.2.1, (f.2.2.2.2.2.1, (f.2.2.2.2.2.2.1, (f.2.2.2.2.2.2.2.1, (max n.2.2.2.2.2.2.2.2.1 0, ())))))))))
theorem max0 {a b : Int} : a = max a b ↔ b ≤ a := by omega
theorem form_iff (n : NodeV) (h1 : 1 ≤ n.1) (h2 : n.1 ≤ 6) : (n = bornV n ∧ wholeP n) ↔ formP n := by
  obtain ⟨k, key, val, m, ks, mn, L, sz, bi, u⟩ := n
  rw [node_ext]
  unfold bornV formedV wholeP formP bareP
  dsimp only at h1 h2 ⊢
  by_cases k1 : k = 1
  · subst k1
    simp [max0]
    constructor
    · rintro ⟨rfl, rfl, rfl, rfl, rfl, h⟩; simp [h]
    · rintro ⟨h, rfl, ⟨rfl, rfl⟩, rfl, rfl⟩; simp [h]
  by_cases k6 : k = 6
  · subst k6
    simp [max0]
    constructor
    · rintro ⟨rfl, rfl, rfl, rfl, rfl, h⟩; simp [h]
    · rintro ⟨h, rfl, ⟨rfl, rfl⟩, rfl, rfl⟩; simp [h]
  by_cases k2 : k = 2
  · subst k2
    simp [max0]
    constructor
    · rintro ⟨⟨h1, h2, h3, h4, h5, h6⟩, h7, h8⟩; exact ⟨h6, h8, h7, h5, ⟨h1, h2⟩, h3, h4⟩
    · rintro ⟨h6, h8, h7, h5, ⟨h1, h2⟩, h3, h4⟩; exact ⟨⟨h1, h2, h3, h4, h5, h6⟩, h7, h8⟩
  by_cases k3 : k = 3
  · subst k3
    simp [max0]
    constructor
    · rintro ⟨⟨h1, h2, h3, h4, h5, h6, h7, h8⟩, h9, h10⟩
      refine ⟨h8, h9, h10, ?_, ⟨h1, h2⟩, ⟨h3, h4⟩, h5⟩
      rw [h7, ← h6]
    · rintro ⟨h8, h9, h10, h7, ⟨h1, h2⟩, ⟨h3, h4⟩, h5⟩
      have := makeS_srt (isS_srt h10)
      refine ⟨⟨h1, h2, h3, h4, h5, this.symm, ?_, h8⟩, h9, h10⟩
      rw [this]; exact h7
  by_cases k4 : k = 4
  · subst k4
    by_cases e : ks.length = 2
    · simp [max0, e]
      constructor
      · rintro ⟨rfl, rfl, rfl, h, h'⟩; simp [h, h']
      · rintro ⟨h', rfl, h, rfl, rfl⟩; simp [h, h']
    · simp [max0, e, zeroN]
  have k5 : k = 5 := by omega
  subst k5
  simp [max0]
  constructor
  · rintro ⟨⟨h1, h2, h3, h4, h5, h6, h7⟩, h8⟩; exact ⟨h7, h8, h6, ⟨h1, h2⟩, ⟨h3, h4⟩, h5⟩
  · rintro ⟨h7, h8, h6, ⟨h1, h2⟩, ⟨h3, h4⟩, h5⟩; exact ⟨⟨h1, h2, h3, h4, h5, h6, h7⟩, h8⟩
theorem may_any (n : NodeV) (h : okN n) : node_May n = some (mayS n) := by
  rw [node_May.eq, formed_any n h, bnd_some]
  unfold mayS
  simp only [ltI_d, eqI_d, maxI_d, br_if]
  by_cases h1 : n.1 < 1
  · rw [if_pos h1, if_pos h1]
  rw [if_neg h1, if_neg h1]
  by_cases h2 : 6 < n.1
  · rw [if_pos h2, if_pos h2]
  rw [if_neg h2, if_neg h2, long_any n h, bnd_some, br_b]
  by_cases h3 : longN n = true
  · rw [if_pos h3, if_pos h3]
  rw [if_neg h3, if_neg h3, same_any n _ h, bnd_some, notB_d, br_if, whole_any n h, bnd_some, notB_d, br_if]
  have := form_iff n (by omega) (by omega)
  show (if ¬ n = bornV n then some (4 : Int) else if ¬ wholeP n then some 4 else some 0) = _
  by_cases h4 : n = bornV n
  · rw [if_neg (by intro q; exact q h4)]
    by_cases h5 : wholeP n
    · rw [if_neg (by intro q; exact q h5), if_pos (this.1 ⟨h4, h5⟩)]
    · rw [if_pos h5, if_neg (fun q => h5 (this.2 q).2)]
  · rw [if_pos h4, if_neg (fun q => h4 (this.2 q).1)]
end Go.Proofs.YtjekopgcpikkiaaGreatDoor.AM
set_option linter.unusedVariables false
set_option linter.unusedSimpArgs false
namespace Go.Proofs.YtjekopgcpikkiaaGreatDoor.AM
open Go.Abs
theorem refsameP_loop (l m : List PairV) (hl : l.length ≤ 50000000) (hm : l.length = m.length) (d : Nat) : ∀ (i : Nat), i ≤ l.length → l.length - i = d → ref07_Same.l0 l m i = some (decide (l.drop i = m.drop i)) := by
  induction d with
  | zero =>
    intro i h1 h2
    rw [ref07_Same.l0.eq]
    simp only [ltI_d, ofN_d, lenL_d, br_if]
    rw [if_neg (by omega), List.drop_eq_nil_of_le (by omega), List.drop_eq_nil_of_le (by omega), decide_eq_true rfl]
  | succ d ih =>
    intro i h1 h2
    rw [ref07_Same.l0.eq]
    simp only [ltI_d, leI_d, ofN_d, lenL_d, andB_d, eq_pair, notB_d, br_if]
    rw [if_pos (by omega), if_pos (by omega), if_pos (by omega), ixP l i (by omega), ixP m i (by omega), add1 i (by omega), ih (i + 1) (by omega) (by omega)]
    by_cases e : l[i] = m[i]
    · rw [if_neg (by intro h; exact h e)]
      exact some_bool (decide_eq_decide.2 (by rw [drop_eq_iff (show i < l.length by omega) (show i < m.length by omega)]; simp [e]))
    · rw [if_pos e]
      exact some_bool (decide_eq_false (by rw [drop_eq_iff (show i < l.length by omega) (show i < m.length by omega)]; exact fun h => e h.1)).symm
theorem refsameP_any (l m : List PairV) (hl : l.length ≤ 50000000) : ref07_Same l m = some (decide (l = m)) := by
  rw [ref07_Same.eq]
  simp only [ofN_d, lenL_d, eqI_d, notB_d, br_if]
  by_cases h : l.length = m.length
  · rw [if_neg (by omega)]
    exact refsameP_loop l m hl h l.length 0 (by omega) (by omega)
  · rw [if_pos (by omega)]
    exact some_bool (decide_eq_false (fun e => h (by rw [e]))).symm
end Go.Proofs.YtjekopgcpikkiaaGreatDoor.AM
