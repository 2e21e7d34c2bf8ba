/- Texts of one proof, laid together: how the interpreter's words stand for the program's code and what the functions do. No conditions but those that each lemma names. -/
import Derived.Test.YtmopkbmcilolgaaGreatM2
set_option linter.unusedSimpArgs false
set_option maxRecDepth 100000
set_option linter.unusedVariables false
namespace Go.Proofs.YtmopkbmcilolgaaGreat.AH
open Go.Abs
noncomputable def law27_SplitOld (a0 : den (.list tapiPair)) (a1 : den (.int .u8)) (a2 : den .str) (a3 : den .str) (a4 : den .str) : Option (den .bool) := CF 8 [⟨(.list tapiPair), a0⟩, ⟨(.int .u8), a1⟩, ⟨.str, a2⟩, ⟨.str, a3⟩, ⟨.str, a4⟩] [] .bool []
noncomputable def law27_SplitOld.j0 (x0 : den (.list tapiNode)) (x1 : den (.int .i64)) (x2 : den (.int .i64)) (x3 : den .bool) (x4 : den .bool) (x5 : denO (.box (.pair (.own tapiNode 1) (.pair (.int .i64) (.pair (.own (.int .i64) 2) .unit))))) (x6 : denO (.row 53 tapiNode false)) (x7 : denO (.row 24 (.int .i64) false)) : Option (den .bool) := jnO [1, 1, 1, 1, 1, 1, 1, 1, 1, 1, 1, 1, 1, 1, 0, 1] (BF (R := den .bool) 8 0 [1, 1, 1, 1, 1, 1, 1, 1, 1, 1, 1, 1, 1, 1, 0, 1]) ⟨[(11, ⟨(.list tapiNode), x0⟩), (12, ⟨(.int .i64), x1⟩), (16, ⟨(.int .i64), x2⟩), (22, ⟨(.ptr 0 0), ()⟩), (23, ⟨.bool, x3⟩), (121, ⟨.bool, x4⟩)], [⟨(.box (.pair (.own tapiNode 1) (.pair (.int .i64) (.pair (.own (.int .i64) 2) .unit)))), x5⟩, ⟨(.row 53 tapiNode false), x6⟩, ⟨(.row 24 (.int .i64) false), x7⟩]⟩ (seqK false [1, 1, 1, 1, 1, 1, 1, 1, 1, 1, 1, 1, 1, 1, 1] (BF 8 0 [1, 1, 1, 1, 1, 1, 1, 1, 1, 1, 1, 1, 1, 1, 1]) (finF 8 .bool [] 0))
noncomputable def law27_SplitOld.l1 (x0 : den (.list tapiNode)) (x1 : den (.list tapiNode)) (x2 : den (.int .i64)) (x3 : den (.list (.int .i64))) (x4 : den (.int .i64)) (x5 : den (.int .i64)) (x6 : denO (.box tplanPlan)) : Option (den .bool) := loopW [1, 1, 1, 1, 1, 1, 1, 1, 1, 1, 1, 1, 1, 1, 1, 1, 1, 1, 1, 0, 1, 0, 0] (BF (R := den .bool) 8 0 [1, 1, 1, 1, 1, 1, 1, 1, 1, 1, 1, 1, 1, 1, 1, 1, 1, 1, 1, 0, 1, 0, 0]) ⟨[(11, ⟨(.list tapiNode), x0⟩), (22, ⟨(.ptr 0 0), ()⟩), (27, ⟨(.list tapiNode), x1⟩), (28, ⟨(.int .i64), x2⟩), (29, ⟨(.list (.int .i64)), x3⟩), (30, ⟨(.int .i64), x4⟩), (31, ⟨(.int .i64), x5⟩)], [⟨(.box tplanPlan), x6⟩]⟩ (blockK 0 (seqK false [1, 1, 1, 1, 1, 1, 1, 1, 1, 1, 1, 1, 1, 1, 1, 1, 1, 1, 1, 1] (BF 8 0 [1, 1, 1, 1, 1, 1, 1, 1, 1, 1, 1, 1, 1, 1, 1, 1, 1, 1, 1, 1]) (finF 8 .bool [] 0)))
noncomputable def law27_works  : Option (den .bool) := CF 32 [] [] .bool []
noncomputable def law27_works.j0 (x0 : den (.list tapiNode)) (x1 : den (.int .i64)) (x2 : den .bool) : Option (den .bool) := jnO [1, 1, 0, 1] (BF (R := den .bool) 32 0 [1, 1, 0, 1]) ⟨[(1, ⟨(.list tapiNode), x0⟩), (2, ⟨(.int .i64), x1⟩), (24, ⟨.bool, x2⟩)], []⟩ (seqK false [1, 1, 1] (BF 32 0 [1, 1, 1]) (finF 32 .bool [] 0))
noncomputable def law27_made (a0 : den (.list tapiPair)) : Option (den (.tcons (.list tapiPair) (.tcons (.list tapiNode) (.tcons (.int .i64) (.tcons .bool .tnil))))) := CF 31 [⟨(.list tapiPair), a0⟩] [] (.tcons (.list tapiPair) (.tcons (.list tapiNode) (.tcons (.int .i64) (.tcons .bool .tnil)))) []
noncomputable def base_Cut (a0 : den .str) (a1 : den (.int .i64)) : Option (den .str) := CF 11 [⟨.str, a0⟩, ⟨(.int .i64), a1⟩] [] .str []
noncomputable def split_New (a0 : den (.int .i64)) (a1 : den (.int .i64)) (a2 : den .str) (a3 : den .str) (a4 : den .str) : Option (denR (.ptr 0 0) [(.box tsplitSplitO), (.row 109 tsplitstep false)]) := CF 36 [⟨(.int .i64), a0⟩, ⟨(.int .i64), a1⟩, ⟨.str, a2⟩, ⟨.str, a3⟩, ⟨.str, a4⟩] [] (.ptr 0 0) [(.box tsplitSplitO), (.row 109 tsplitstep false)]
noncomputable def law27_fed (a0 : den (.list tapiNode)) (a1 : denO (.box tsplitSplitO)) (a2 : denO (.row 109 tsplitstep true)) : Option (denR (.tcons (.int .i64) (.tcons .bool .tnil)) [(.box tsplitSplitO), (.row 109 tsplitstep false)]) := CF 37 [⟨(.ptr 0 0), ()⟩, ⟨(.list tapiNode), a0⟩] [⟨(.box tsplitSplitO), a1⟩, ⟨(.row 109 tsplitstep true), a2⟩] (.tcons (.int .i64) (.tcons .bool .tnil)) [(.box tsplitSplitO), (.row 109 tsplitstep false)]
noncomputable def law27_fed.l0 (x0 : den (.list tapiNode)) (x1 : den (.int .i64)) (x2 : denO (.box tsplitSplitO)) (x3 : denO (.row 109 tsplitstep true)) : Option (denR (.tcons (.int .i64) (.tcons .bool .tnil)) [(.box tsplitSplitO), (.row 109 tsplitstep false)]) := loopW [1, 1, 0, 0, 0] (BF (R := denR (.tcons (.int .i64) (.tcons .bool .tnil)) [(.box tsplitSplitO), (.row 109 tsplitstep false)]) 37 2 [1, 1, 0, 0, 0]) ⟨[(0, ⟨(.ptr 0 0), ()⟩), (1, ⟨(.list tapiNode), x0⟩), (6, ⟨(.int .i64), x1⟩)], [⟨(.box tsplitSplitO), x2⟩, ⟨(.row 109 tsplitstep true), x3⟩]⟩ (blockK 0 (seqK false [1, 1, 1] (BF 37 2 [1, 1, 1]) (finF 37 (.tcons (.int .i64) (.tcons .bool .tnil)) [(.box tsplitSplitO), (.row 109 tsplitstep false)] 2)))
noncomputable def law27_fed.j1 (x0 : den (.list tapiNode)) (x1 : den (.int .i64)) (x2 : den (.int .i64)) (x3 : den .bool) (x4 : denO (.box tsplitSplitO)) (x5 : denO (.row 109 tsplitstep true)) : Option (denR (.tcons (.int .i64) (.tcons .bool .tnil)) [(.box tsplitSplitO), (.row 109 tsplitstep false)]) := jnO [1, 1, 0, 0, 0, 1, 0, 1, 1, 0, 1] (BF (R := denR (.tcons (.int .i64) (.tcons .bool .tnil)) [(.box tsplitSplitO), (.row 109 tsplitstep false)]) 37 2 [1, 1, 0, 0, 0, 1, 0, 1, 1, 0, 1]) ⟨[(0, ⟨(.ptr 0 0), ()⟩), (1, ⟨(.list tapiNode), x0⟩), (6, ⟨(.int .i64), x1⟩), (7, ⟨(.int .i64), x2⟩), (36, ⟨.bool, x3⟩)], [⟨(.box tsplitSplitO), x4⟩, ⟨(.row 109 tsplitstep true), x5⟩]⟩ (seqK false [1, 1, 0, 0, 0, 1, 0, 1, 1, 1] (BF 37 2 [1, 1, 0, 0, 0, 1, 0, 1, 1, 1]) (blockK 1 (againK [1, 1, 0, 0, 0] (loopW [1, 1, 0, 0, 0] (BF 37 2 [1, 1, 0, 0, 0])) (blockK 0 (seqK false [1, 1, 1] (BF 37 2 [1, 1, 1]) (finF 37 (.tcons (.int .i64) (.tcons .bool .tnil)) [(.box tsplitSplitO), (.row 109 tsplitstep false)] 2))))))
noncomputable def law27_fed.l2 (x0 : den (.list tapiNode)) (x1 : den (.int .i64)) (x2 : denO (.box tsplitSplitO)) (x3 : denO (.row 109 tsplitstep false)) : Option (denR (.tcons (.int .i64) (.tcons .bool .tnil)) [(.box tsplitSplitO), (.row 109 tsplitstep false)]) := loopW [1, 1, 0, 0, 0] (BF (R := denR (.tcons (.int .i64) (.tcons .bool .tnil)) [(.box tsplitSplitO), (.row 109 tsplitstep false)]) 37 2 [1, 1, 0, 0, 0]) ⟨[(0, ⟨(.ptr 0 0), ()⟩), (1, ⟨(.list tapiNode), x0⟩), (6, ⟨(.int .i64), x1⟩)], [⟨(.box tsplitSplitO), x2⟩, ⟨(.row 109 tsplitstep false), x3⟩]⟩ (blockK 0 (seqK false [1, 1, 1] (BF 37 2 [1, 1, 1]) (finF 37 (.tcons (.int .i64) (.tcons .bool .tnil)) [(.box tsplitSplitO), (.row 109 tsplitstep false)] 2)))
noncomputable def law27_fed.j3 (x0 : den (.list tapiNode)) (x1 : den (.int .i64)) (x2 : den (.int .i64)) (x3 : den .bool) (x4 : denO (.box tsplitSplitO)) (x5 : denO (.row 109 tsplitstep false)) : Option (denR (.tcons (.int .i64) (.tcons .bool .tnil)) [(.box tsplitSplitO), (.row 109 tsplitstep false)]) := jnO [1, 1, 0, 0, 0, 1, 0, 1, 1, 0, 1] (BF (R := denR (.tcons (.int .i64) (.tcons .bool .tnil)) [(.box tsplitSplitO), (.row 109 tsplitstep false)]) 37 2 [1, 1, 0, 0, 0, 1, 0, 1, 1, 0, 1]) ⟨[(0, ⟨(.ptr 0 0), ()⟩), (1, ⟨(.list tapiNode), x0⟩), (6, ⟨(.int .i64), x1⟩), (7, ⟨(.int .i64), x2⟩), (36, ⟨.bool, x3⟩)], [⟨(.box tsplitSplitO), x4⟩, ⟨(.row 109 tsplitstep false), x5⟩]⟩ (seqK false [1, 1, 0, 0, 0, 1, 0, 1, 1, 1] (BF 37 2 [1, 1, 0, 0, 0, 1, 0, 1, 1, 1]) (blockK 1 (againK [1, 1, 0, 0, 0] (loopW [1, 1, 0, 0, 0] (BF 37 2 [1, 1, 0, 0, 0])) (blockK 0 (seqK false [1, 1, 1] (BF 37 2 [1, 1, 1]) (finF 37 (.tcons (.int .i64) (.tcons .bool .tnil)) [(.box tsplitSplitO), (.row 109 tsplitstep false)] 2))))))
noncomputable def split_Split_Answer (a0 : denO (.box tsplitSplitO)) (a1 : denO (.row 109 tsplitstep true)) : Option (denR (.tcons .str (.tcons .bool .tnil)) [(.box tsplitSplitO), (.row 109 tsplitstep true)]) := CF 38 [⟨(.ptr 0 0), ()⟩] [⟨(.box tsplitSplitO), a0⟩, ⟨(.row 109 tsplitstep true), a1⟩] (.tcons .str (.tcons .bool .tnil)) [(.box tsplitSplitO), (.row 109 tsplitstep true)]
noncomputable def ref07_Get (a0 : den (.list tapiPair)) (a1 : den .str) : Option (den (.tcons .str (.tcons .bool .tnil))) := CF 16 [⟨(.list tapiPair), a0⟩, ⟨.str, a1⟩] [] (.tcons .str (.tcons .bool .tnil)) []
noncomputable def ref07_Get.l0 (x0 : den (.list tapiPair)) (x1 : den .str) (x2 : den (.int .i64)) : Option (den (.tcons .str (.tcons .bool .tnil))) := loopW [1, 0, 1, 0, 0] (BF (R := den (.tcons .str (.tcons .bool .tnil))) 16 0 [1, 0, 1, 0, 0]) ⟨[(0, ⟨(.list tapiPair), x0⟩), (1, ⟨.str, x1⟩), (6, ⟨(.int .i64), x2⟩)], []⟩ (blockK 0 (seqK false [1, 1] (BF 16 0 [1, 1]) (finF 16 (.tcons .str (.tcons .bool .tnil)) [] 0)))
noncomputable def split_Split_Plan (a0 : denO (.box tsplitSplitO)) (a1 : denO (.row 109 tsplitstep true)) : Option (denR (.tcons (.pair (.own tapiNode 2) (.pair (.int .i64) (.pair (.own (.int .i64) 3) .unit))) (.tcons .bool .tnil)) [(.box tsplitSplit), .gone, (.row 53 tapiNode false), (.row 24 (.int .i64) false)]) := CF 39 [⟨(.ptr 0 0), ()⟩] [⟨(.box tsplitSplitO), a0⟩, ⟨(.row 109 tsplitstep true), a1⟩] (.tcons (.pair (.own tapiNode 2) (.pair (.int .i64) (.pair (.own (.int .i64) 3) .unit))) (.tcons .bool .tnil)) [(.box tsplitSplit), .gone, (.row 53 tapiNode false), (.row 24 (.int .i64) false)]
noncomputable def split_Split_Plan.j0 (x0 : denO (.box tsplitSplit)) (x1 : denO (.box (.pair (.own tapiNode 4) (.pair (.int .i64) (.pair (.own (.int .i64) 5) .unit))))) (x2 : denO (.box (.int .i64))) (x3 : denO (.row 53 tapiNode false)) (x4 : denO (.row 24 (.int .i64) false)) : Option (denR (.tcons (.pair (.own tapiNode 2) (.pair (.int .i64) (.pair (.own (.int .i64) 3) .unit))) (.tcons .bool .tnil)) [(.box tsplitSplit), .gone, (.row 53 tapiNode false), (.row 24 (.int .i64) false)]) := jnO [1, 1, 1, 1] (BF (R := denR (.tcons (.pair (.own tapiNode 2) (.pair (.int .i64) (.pair (.own (.int .i64) 3) .unit))) (.tcons .bool .tnil)) [(.box tsplitSplit), .gone, (.row 53 tapiNode false), (.row 24 (.int .i64) false)]) 39 2 [1, 1, 1, 1]) ⟨[(0, ⟨(.ptr 0 0), ()⟩), (2, ⟨(.ptr 2 0), ()⟩), (4, ⟨(.ptr 3 0), ()⟩)], [⟨(.box tsplitSplit), x0⟩, ⟨.gone, ()⟩, ⟨(.box (.pair (.own tapiNode 4) (.pair (.int .i64) (.pair (.own (.int .i64) 5) .unit)))), x1⟩, ⟨(.box (.int .i64)), x2⟩, ⟨(.row 53 tapiNode false), x3⟩, ⟨(.row 24 (.int .i64) false), x4⟩]⟩ (finF 39 (.tcons (.pair (.own tapiNode 2) (.pair (.int .i64) (.pair (.own (.int .i64) 3) .unit))) (.tcons .bool .tnil)) [(.box tsplitSplit), .gone, (.row 53 tapiNode false), (.row 24 (.int .i64) false)] 2)
noncomputable def split_Split_Plan.e1 (xs : List (den (.tcons (.int .i64) (.tcons tsplitstep .tnil)))) (x0 : denO (.box tsplitSplit)) (x1 : denO (.box (.pair (.own tapiNode 6) (.pair (.int .i64) (.pair (.own (.int .i64) 7) .unit))))) (x2 : denO (.box (.int .i64))) (x3 : denO (.box (.pair (.own tapiNode 8) (.pair (.int .i64) (.pair (.own (.int .i64) 9) .unit))))) (x4 : denO (.box (.int .i64))) (x5 : denO (.row 53 tapiNode false)) (x6 : denO (.row 24 (.int .i64) false)) (x7 : denO (.row 53 tapiNode false)) (x8 : denO (.row 24 (.int .i64) false)) : Option (denR (.tcons (.pair (.own tapiNode 2) (.pair (.int .i64) (.pair (.own (.int .i64) 3) .unit))) (.tcons .bool .tnil)) [(.box tsplitSplit), .gone, (.row 53 tapiNode false), (.row 24 (.int .i64) false)]) := rangeD (.tcons (.int .i64) (.tcons tsplitstep .tnil)) [1, 1, 1, 1, 1, 0, 1, 0] 2 [2, 4, 5, 6] [32, 33] (BF (R := denR (.tcons (.pair (.own tapiNode 2) (.pair (.int .i64) (.pair (.own (.int .i64) 3) .unit))) (.tcons .bool .tnil)) [(.box tsplitSplit), .gone, (.row 53 tapiNode false), (.row 24 (.int .i64) false)]) 39 2 [1, 1, 1, 1, 1, 0, 1, 0, 0]) (BF (R := denR (.tcons (.pair (.own tapiNode 2) (.pair (.int .i64) (.pair (.own (.int .i64) 3) .unit))) (.tcons .bool .tnil)) [(.box tsplitSplit), .gone, (.row 53 tapiNode false), (.row 24 (.int .i64) false)]) 39 2 [1, 1, 1, 1, 1, 0, 1, 0, 1]) xs ⟨[(2, ⟨(.ptr 2 0), ()⟩), (4, ⟨(.ptr 3 0), ()⟩), (5, ⟨(.ptr 4 0), ()⟩), (6, ⟨(.ptr 5 0), ()⟩)], [⟨(.box tsplitSplit), x0⟩, ⟨.gone, ()⟩, ⟨(.box (.pair (.own tapiNode 6) (.pair (.int .i64) (.pair (.own (.int .i64) 7) .unit)))), x1⟩, ⟨(.box (.int .i64)), x2⟩, ⟨(.box (.pair (.own tapiNode 8) (.pair (.int .i64) (.pair (.own (.int .i64) 9) .unit)))), x3⟩, ⟨(.box (.int .i64)), x4⟩, ⟨(.row 53 tapiNode false), x5⟩, ⟨(.row 24 (.int .i64) false), x6⟩, ⟨(.row 53 tapiNode false), x7⟩, ⟨(.row 24 (.int .i64) false), x8⟩]⟩ (blockK 0 (seqK false [1, 1, 1, 1, 1, 1] (BF 39 2 [1, 1, 1, 1, 1, 1]) (finF 39 (.tcons (.pair (.own tapiNode 2) (.pair (.int .i64) (.pair (.own (.int .i64) 3) .unit))) (.tcons .bool .tnil)) [(.box tsplitSplit), .gone, (.row 53 tapiNode false), (.row 24 (.int .i64) false)] 2)))
noncomputable def node_Tree (a0 : den .str) (a1 : den .str) (a2 : den (.int .i64)) (a3 : den (.int .i64)) (a4 : den (.int .i64)) : Option (den tapiNode) := CF 26 [⟨.str, a0⟩, ⟨.str, a1⟩, ⟨(.int .i64), a2⟩, ⟨(.int .i64), a3⟩, ⟨(.int .i64), a4⟩] [] tapiNode []
noncomputable def split_Split_Feed_o (a0 : den tapiNode) : Option (den .tnil) := CF 40 [⟨.nilptr, ()⟩, ⟨tapiNode, a0⟩] [] .tnil []
noncomputable def split_Split_Plan_o  : Option (den (.tcons tplanPlan (.tcons .bool .tnil))) := CF 39 [⟨.nilptr, ()⟩] [] (.tcons tplanPlan (.tcons .bool .tnil)) []
noncomputable def ref27_Deep (a0 : den (.list tapiPair)) : Option (den (.int .i64)) := CF 41 [⟨(.list tapiPair), a0⟩] [] (.int .i64) []
noncomputable def ref23_Changes (a0 : den (.int .i64)) (a1 : den .str) (a2 : den .str) (a3 : den .bool) : Option (den .bool) := CF 42 [⟨(.int .i64), a0⟩, ⟨.str, a1⟩, ⟨.str, a2⟩, ⟨.bool, a3⟩] [] .bool []
noncomputable def split_Split_Want_o  : Option (den (.int .i64)) := CF 43 [⟨.nilptr, ()⟩] [] (.int .i64) []
noncomputable def ref18_Do (a0 : den (.list tapiNode)) (a1 : den tplanPlan) : Option (den (.tcons (.list tapiNode) (.tcons (.int .i64) (.tcons .bool .tnil)))) := CF 27 [⟨(.list tapiNode), a0⟩, ⟨tplanPlan, a1⟩] [] (.tcons (.list tapiNode) (.tcons (.int .i64) (.tcons .bool .tnil))) []
noncomputable def ref18_Do.l0 (x0 : den (.list tapiNode)) (x1 : den (.int .i64)) (x2 : denO (.box tplanPlan)) (x3 : denO (.row 24 (.int .i64) false)) : Option (den (.tcons (.list tapiNode) (.tcons (.int .i64) (.tcons .bool .tnil)))) := loopW [1, 1, 1, 0, 1, 0, 0] (BF (R := den (.tcons (.list tapiNode) (.tcons (.int .i64) (.tcons .bool .tnil)))) 27 0 [1, 1, 1, 0, 1, 0, 0]) ⟨[(0, ⟨(.list tapiNode), x0⟩), (3, ⟨(.ptr 0 0), ()⟩), (7, ⟨(.own (.int .i64) 1), ()⟩), (8, ⟨(.int .i64), x1⟩)], [⟨(.box tplanPlan), x2⟩, ⟨(.row 24 (.int .i64) false), x3⟩]⟩ (blockK 0 (seqK false [1, 1, 1, 1] (BF 27 0 [1, 1, 1, 1]) (finF 27 (.tcons (.list tapiNode) (.tcons (.int .i64) (.tcons .bool .tnil))) [] 0)))
noncomputable def ref18_Do.l1 (x0 : den (.list tapiNode)) (x1 : den (.int .i64)) (x2 : denO (.box tplanPlan)) (x3 : denO (.row 24 (.int .i64) false)) : Option (den (.tcons (.list tapiNode) (.tcons (.int .i64) (.tcons .bool .tnil)))) := loopW [1, 1, 1, 1, 0, 1, 0, 0] (BF (R := den (.tcons (.list tapiNode) (.tcons (.int .i64) (.tcons .bool .tnil)))) 27 0 [1, 1, 1, 1, 0, 1, 0, 0]) ⟨[(0, ⟨(.list tapiNode), x0⟩), (3, ⟨(.ptr 0 0), ()⟩), (7, ⟨(.own (.int .i64) 1), ()⟩), (9, ⟨(.int .i64), x1⟩)], [⟨(.box tplanPlan), x2⟩, ⟨(.row 24 (.int .i64) false), x3⟩]⟩ (blockK 2 (seqK false [1, 1, 1, 1, 1] (BF 27 0 [1, 1, 1, 1, 1]) (finF 27 (.tcons (.list tapiNode) (.tcons (.int .i64) (.tcons .bool .tnil))) [] 0)))
noncomputable def ref18_Do.l2 (x0 : den (.int .i64)) (x1 : denO (.box tplanPlan)) (x2 : denO (.row 53 tapiNode false)) (x3 : denO (.row 24 (.int .i64) false)) : Option (den (.tcons (.list tapiNode) (.tcons (.int .i64) (.tcons .bool .tnil)))) := loopW [1, 1, 1, 1, 1, 1, 0, 1, 0, 0] (BF (R := den (.tcons (.list tapiNode) (.tcons (.int .i64) (.tcons .bool .tnil)))) 27 0 [1, 1, 1, 1, 1, 1, 0, 1, 0, 0]) ⟨[(3, ⟨(.ptr 0 0), ()⟩), (10, ⟨(.own tapiNode 1), ()⟩), (11, ⟨(.own (.int .i64) 2), ()⟩), (12, ⟨(.int .i64), x0⟩)], [⟨(.box tplanPlan), x1⟩, ⟨(.row 53 tapiNode false), x2⟩, ⟨(.row 24 (.int .i64) false), x3⟩]⟩ (blockK 4 (seqK false [1, 1, 1, 1, 1, 1, 1] (BF 27 0 [1, 1, 1, 1, 1, 1, 1]) (finF 27 (.tcons (.list tapiNode) (.tcons (.int .i64) (.tcons .bool .tnil))) [] 0)))
noncomputable def ref23_Gone (a0 : den (.list tapiNode)) (a1 : den (.int .i64)) (a2 : den (.list tapiNode)) (a3 : den (.int .i64)) : Option (den (.list (.int .i64))) := CF 29 [⟨(.list tapiNode), a0⟩, ⟨(.int .i64), a1⟩, ⟨(.list tapiNode), a2⟩, ⟨(.int .i64), a3⟩] [] (.list (.int .i64)) []
noncomputable def ref23_Gone.l0 (x0 : den (.list (.int .i64))) (x1 : den (.list (.int .i64))) (x2 : den (.int .i64)) (x3 : denO (.row 24 (.int .i64) false)) : Option (den (.list (.int .i64))) := loopW [1, 1, 0, 1, 0, 0] (BF (R := den (.list (.int .i64))) 29 0 [1, 1, 0, 1, 0, 0]) ⟨[(9, ⟨(.list (.int .i64)), x0⟩), (10, ⟨(.list (.int .i64)), x1⟩), (11, ⟨(.own (.int .i64) 0), ()⟩), (12, ⟨(.int .i64), x2⟩)], [⟨(.row 24 (.int .i64) false), x3⟩]⟩ (blockK 0 (seqK false [1, 1, 1] (BF 29 0 [1, 1, 1]) (finF 29 (.list (.int .i64)) [] 0)))
noncomputable def ref23_Gone.l1 (x0 : den (.list (.int .i64))) (x1 : den (.list (.int .i64))) (x2 : den (.int .i64)) (x3 : den .bool) (x4 : den (.int .i64)) (x5 : denO (.row 24 (.int .i64) false)) : Option (den (.list (.int .i64))) := loopW [1, 1, 0, 1, 0, 0, 1, 0, 0, 1, 0, 1, 0, 0] (BF (R := den (.list (.int .i64))) 29 0 [1, 1, 0, 1, 0, 0, 1, 0, 0, 1, 0, 1, 0, 0]) ⟨[(9, ⟨(.list (.int .i64)), x0⟩), (10, ⟨(.list (.int .i64)), x1⟩), (11, ⟨(.own (.int .i64) 0), ()⟩), (12, ⟨(.int .i64), x2⟩), (13, ⟨.bool, x3⟩), (14, ⟨(.int .i64), x4⟩)], [⟨(.row 24 (.int .i64) false), x5⟩]⟩ (blockK 2 (seqK false [1, 1, 0, 1, 0, 0, 1, 0, 0, 1, 1] (BF 29 0 [1, 1, 0, 1, 0, 0, 1, 0, 0, 1, 1]) (blockK 1 (seqK false [1, 1, 0, 1, 0, 0, 1, 1] (BF 29 0 [1, 1, 0, 1, 0, 0, 1, 1]) (againK [1, 1, 0, 1, 0, 0] (loopW [1, 1, 0, 1, 0, 0] (BF 29 0 [1, 1, 0, 1, 0, 0])) (blockK 0 (seqK false [1, 1, 1] (BF 29 0 [1, 1, 1]) (finF 29 (.list (.int .i64)) [] 0))))))))
noncomputable def ref23_SameSet (a0 : den (.list (.int .i64))) (a1 : den (.list (.int .i64))) : Option (den .bool) := CF 28 [⟨(.list (.int .i64)), a0⟩, ⟨(.list (.int .i64)), a1⟩] [] .bool []
noncomputable def ref23_SameSet.l0 (x0 : den (.list (.int .i64))) (x1 : den (.list (.int .i64))) (x2 : den (.int .i64)) : Option (den .bool) := loopW [1, 1, 0, 1, 0, 0] (BF (R := den .bool) 28 0 [1, 1, 0, 1, 0, 0]) ⟨[(0, ⟨(.list (.int .i64)), x0⟩), (1, ⟨(.list (.int .i64)), x1⟩), (5, ⟨(.int .i64), x2⟩)], []⟩ (blockK 0 (seqK false [1, 1, 1] (BF 28 0 [1, 1, 1]) (finF 28 .bool [] 0)))
noncomputable def ref23_SameSet.l1 (x0 : den (.list (.int .i64))) (x1 : den (.list (.int .i64))) (x2 : den (.int .i64)) (x3 : den (.int .i64)) (x4 : den (.int .i64)) : Option (den .bool) := loopW [1, 1, 0, 1, 0, 0, 1, 0, 0, 1, 0, 1, 0, 0] (BF (R := den .bool) 28 0 [1, 1, 0, 1, 0, 0, 1, 0, 0, 1, 0, 1, 0, 0]) ⟨[(0, ⟨(.list (.int .i64)), x0⟩), (1, ⟨(.list (.int .i64)), x1⟩), (5, ⟨(.int .i64), x2⟩), (6, ⟨(.int .i64), x3⟩), (7, ⟨(.int .i64), x4⟩)], []⟩ (blockK 2 (seqK false [1, 1, 0, 1, 0, 0, 1, 0, 0, 1, 1] (BF 28 0 [1, 1, 0, 1, 0, 0, 1, 0, 0, 1, 1]) (blockK 1 (seqK false [1, 1, 0, 1, 0, 0, 1, 1] (BF 28 0 [1, 1, 0, 1, 0, 0, 1, 1]) (againK [1, 1, 0, 1, 0, 0] (loopW [1, 1, 0, 1, 0, 0] (BF 28 0 [1, 1, 0, 1, 0, 0])) (blockK 0 (seqK false [1, 1, 1] (BF 28 0 [1, 1, 1]) (finF 28 .bool [] 0))))))))
noncomputable def ref17_Refs (a0 : den (.list tapiNode)) (a1 : den (.int .i64)) : Option (den (.list (.int .i64))) := CF 30 [⟨(.list tapiNode), a0⟩, ⟨(.int .i64), a1⟩] [] (.list (.int .i64)) []
noncomputable def ref17_Refs.l0 (x0 : den (.int .i64)) (x1 : denO (.row 4 .bool false)) (x2 : denO (.row 24 (.int .i64) false)) : Option (den (.list (.int .i64))) := loopW [1, 1, 1, 0, 1, 0, 0] (BF (R := den (.list (.int .i64))) 30 0 [1, 1, 1, 0, 1, 0, 0]) ⟨[(5, ⟨(.own .bool 0), ()⟩), (6, ⟨(.own (.int .i64) 1), ()⟩), (7, ⟨(.int .i64), x0⟩)], [⟨(.row 4 .bool false), x1⟩, ⟨(.row 24 (.int .i64) false), x2⟩]⟩ (blockK 0 (seqK false [1, 1, 1, 1] (BF 30 0 [1, 1, 1, 1]) (finF 30 (.list (.int .i64)) [] 0)))
noncomputable def ref25_Is (a0 : den (.list tapiNode)) (a1 : den (.int .i64)) : Option (den .bool) := CF 14 [⟨(.list tapiNode), a0⟩, ⟨(.int .i64), a1⟩] [] .bool []
noncomputable def split_Run (a0 : den (.list tapiNode)) (a1 : den (.int .i64)) (a2 : den (.int .i64)) (a3 : den .str) (a4 : den .str) (a5 : den .str) : Option (den (.tcons (.list tapiNode) (.tcons (.int .i64) (.tcons (.int .i64) .tnil)))) := CF 33 [⟨(.list tapiNode), a0⟩, ⟨(.int .i64), a1⟩, ⟨(.int .i64), a2⟩, ⟨.str, a3⟩, ⟨.str, a4⟩, ⟨.str, a5⟩] [] (.tcons (.list tapiNode) (.tcons (.int .i64) (.tcons (.int .i64) .tnil))) []
noncomputable def split_Run.l0 (x0 : den (.list tapiNode)) (x1 : den (.int .i64)) (x2 : denO (.box tsplitSplitO)) (x3 : denO (.row 109 tsplitstep false)) : Option (den (.tcons (.list tapiNode) (.tcons (.int .i64) (.tcons (.int .i64) .tnil)))) := loopW [1, 1, 1, 1, 0, 0, 0] (BF (R := den (.tcons (.list tapiNode) (.tcons (.int .i64) (.tcons (.int .i64) .tnil)))) 33 0 [1, 1, 1, 1, 0, 0, 0]) ⟨[(0, ⟨(.list tapiNode), x0⟩), (1, ⟨(.int .i64), x1⟩), (16, ⟨(.ptr 0 0), ()⟩)], [⟨(.box tsplitSplitO), x2⟩, ⟨(.row 109 tsplitstep false), x3⟩]⟩ (blockK 1 (seqK false [1, 1, 1, 1, 1] (BF 33 0 [1, 1, 1, 1, 1]) (finF 33 (.tcons (.list tapiNode) (.tcons (.int .i64) (.tcons (.int .i64) .tnil))) [] 0)))
noncomputable def split_Split_Feed (a0 : den tapiNode) (a1 : denO (.box tsplitSplitO)) (a2 : denO (.row 109 tsplitstep true)) : Option (denR .tnil [(.box tsplitSplitO), (.row 109 tsplitstep false)]) := CF 40 [⟨(.ptr 0 0), ()⟩, ⟨tapiNode, a0⟩] [⟨(.box tsplitSplitO), a1⟩, ⟨(.row 109 tsplitstep true), a2⟩] .tnil [(.box tsplitSplitO), (.row 109 tsplitstep false)]
noncomputable def split_Split_Feed.j0 (x0 : den (.int .i64)) (x1 : den .bool) (x2 : denO (.box tsplitSplitO)) (x3 : denO (.row 109 tsplitstep true)) (x4 : denO (.box tapiNode)) : Option (denR .tnil [(.box tsplitSplitO), (.row 109 tsplitstep false)]) := jnO [1, 1, 1, 1, 0, 1] (BF (R := denR .tnil [(.box tsplitSplitO), (.row 109 tsplitstep false)]) 40 2 [1, 1, 1, 1, 0, 1]) ⟨[(0, ⟨(.ptr 0 0), ()⟩), (3, ⟨(.ptr 2 0), ()⟩), (4, ⟨(.int .i64), x0⟩), (22, ⟨.bool, x1⟩)], [⟨(.box tsplitSplitO), x2⟩, ⟨(.row 109 tsplitstep true), x3⟩, ⟨(.box tapiNode), x4⟩]⟩ (seqK false [1, 1, 1, 1, 1] (BF 40 2 [1, 1, 1, 1, 1]) (finF 40 .tnil [(.box tsplitSplitO), (.row 109 tsplitstep false)] 2))
noncomputable def split_Split_Feed.j1 (x0 : den (.int .i64)) (x1 : den (.int .i64)) (x2 : denO (.box tsplitSplitO)) (x3 : denO (.row 109 tsplitstep true)) (x4 : denO (.box tapiNode)) : Option (denR .tnil [(.box tsplitSplitO), (.row 109 tsplitstep false)]) := jnO [1, 1, 1, 1, 1, 1, 1] (BF (R := denR .tnil [(.box tsplitSplitO), (.row 109 tsplitstep false)]) 40 2 [1, 1, 1, 1, 1, 1, 1]) ⟨[(0, ⟨(.ptr 0 0), ()⟩), (3, ⟨(.ptr 2 0), ()⟩), (4, ⟨(.int .i64), x0⟩), (5, ⟨(.int .i64), x1⟩)], [⟨(.box tsplitSplitO), x2⟩, ⟨(.row 109 tsplitstep true), x3⟩, ⟨(.box tapiNode), x4⟩]⟩ (finF 40 .tnil [(.box tsplitSplitO), (.row 109 tsplitstep false)] 2)
noncomputable def law07_Few (a0 : den (.list tapiPair)) : Option (den (.list tapiPair)) := CF 45 [⟨(.list tapiPair), a0⟩] [] (.list tapiPair) []
noncomputable def law07_Few.l0 (x0 : den (.list tapiPair)) (x1 : den (.int .i64)) (x2 : denO (.row 82 tapiPair false)) : Option (den (.list tapiPair)) := loopW [1, 1, 0, 1, 0, 0] (BF (R := den (.list tapiPair)) 45 0 [1, 1, 0, 1, 0, 0]) ⟨[(0, ⟨(.list tapiPair), x0⟩), (3, ⟨(.own tapiPair 0), ()⟩), (4, ⟨(.int .i64), x1⟩)], [⟨(.row 82 tapiPair false), x2⟩]⟩ (blockK 0 (seqK false [1, 1, 1] (BF 45 0 [1, 1, 1]) (finF 45 (.list tapiPair) [] 0)))
noncomputable def law07_Few.j1 (x0 : den (.list tapiPair)) (x1 : den (.int .i64)) (x2 : den .bool) (x3 : denO (.row 82 tapiPair false)) : Option (den (.list tapiPair)) := jnO [1, 1, 0, 1, 0, 0, 0, 1] (BF (R := den (.list tapiPair)) 45 0 [1, 1, 0, 1, 0, 0, 0, 1]) ⟨[(0, ⟨(.list tapiPair), x0⟩), (3, ⟨(.own tapiPair 0), ()⟩), (4, ⟨(.int .i64), x1⟩), (13, ⟨.bool, x2⟩)], [⟨(.row 82 tapiPair false), x3⟩]⟩ (seqK false [1, 1, 0, 1, 0, 0, 1] (BF 45 0 [1, 1, 0, 1, 0, 0, 1]) (againK [1, 1, 0, 1, 0, 0] (loopW [1, 1, 0, 1, 0, 0] (BF 45 0 [1, 1, 0, 1, 0, 0])) (blockK 0 (seqK false [1, 1, 1] (BF 45 0 [1, 1, 1]) (finF 45 (.list tapiPair) [] 0)))))
noncomputable def ref20_Long (a0 : den (.list tapiPair)) : Option (den .bool) := CF 46 [⟨(.list tapiPair), a0⟩] [] .bool []
noncomputable def ref20_Long.l0 (x0 : den (.list tapiPair)) (x1 : den (.int .i64)) : Option (den .bool) := loopW [1, 1, 0, 1, 0, 0] (BF (R := den .bool) 46 0 [1, 1, 0, 1, 0, 0]) ⟨[(3, ⟨(.list tapiPair), x0⟩), (4, ⟨(.int .i64), x1⟩)], []⟩ (blockK 0 (seqK false [1, 1, 1] (BF 46 0 [1, 1, 1]) (finF 46 .bool [] 0)))
noncomputable def ref25_Make (a0 : den (.list tapiPair)) : Option (den (.tcons (.list tapiNode) (.tcons (.int .i64) .tnil))) := CF 47 [⟨(.list tapiPair), a0⟩] [] (.tcons (.list tapiNode) (.tcons (.int .i64) .tnil)) []
noncomputable def ref07_Make (a0 : den (.list tapiPair)) : Option (den (.list tapiPair)) := CF 48 [⟨(.list tapiPair), a0⟩] [] (.list tapiPair) []
noncomputable def ref07_Make.l0 (x0 : den (.list tapiPair)) (x1 : den (.int .i64)) (x2 : denO (.row 82 tapiPair false)) : Option (den (.list tapiPair)) := loopW [1, 1, 0, 1, 0, 0] (BF (R := den (.list tapiPair)) 48 0 [1, 1, 0, 1, 0, 0]) ⟨[(0, ⟨(.list tapiPair), x0⟩), (3, ⟨(.own tapiPair 0), ()⟩), (4, ⟨(.int .i64), x1⟩)], [⟨(.row 82 tapiPair false), x2⟩]⟩ (blockK 0 (seqK false [1, 1, 1] (BF 48 0 [1, 1, 1]) (finF 48 (.list tapiPair) [] 0)))
noncomputable def ref07_Make.l1 (x0 : den (.list tapiPair)) (x1 : den (.int .i64)) (x2 : den (.int .i64)) (x3 : denO (.row 82 tapiPair false)) : Option (den (.list tapiPair)) := loopW [1, 1, 0, 1, 0, 0, 1, 0, 0, 1, 1, 0, 0, 0] (BF (R := den (.list tapiPair)) 48 0 [1, 1, 0, 1, 0, 0, 1, 0, 0, 1, 1, 0, 0, 0]) ⟨[(0, ⟨(.list tapiPair), x0⟩), (3, ⟨(.own tapiPair 0), ()⟩), (4, ⟨(.int .i64), x1⟩), (5, ⟨(.int .i64), x2⟩)], [⟨(.row 82 tapiPair false), x3⟩]⟩ (blockK 2 (seqK false [1, 1, 0, 1, 0, 0, 1, 0, 0, 1, 1, 1] (BF 48 0 [1, 1, 0, 1, 0, 0, 1, 0, 0, 1, 1, 1]) (blockK 1 (seqK false [1, 1, 0, 1, 0, 0, 1, 1] (BF 48 0 [1, 1, 0, 1, 0, 0, 1, 1]) (againK [1, 1, 0, 1, 0, 0] (loopW [1, 1, 0, 1, 0, 0] (BF 48 0 [1, 1, 0, 1, 0, 0])) (blockK 0 (seqK false [1, 1, 1] (BF 48 0 [1, 1, 1]) (finF 48 (.list tapiPair) [] 0))))))))
noncomputable def ref07_Make.j2 (x0 : den (.list tapiPair)) (x1 : den (.int .i64)) (x2 : den (.int .i64)) (x3 : den .bool) (x4 : denO (.row 82 tapiPair false)) : Option (den (.list tapiPair)) := jnO [1, 1, 0, 1, 0, 0, 1, 0, 0, 1, 1, 0, 0, 0, 0, 1] (BF (R := den (.list tapiPair)) 48 0 [1, 1, 0, 1, 0, 0, 1, 0, 0, 1, 1, 0, 0, 0, 0, 1]) ⟨[(0, ⟨(.list tapiPair), x0⟩), (3, ⟨(.own tapiPair 0), ()⟩), (4, ⟨(.int .i64), x1⟩), (5, ⟨(.int .i64), x2⟩), (33, ⟨.bool, x3⟩)], [⟨(.row 82 tapiPair false), x4⟩]⟩ (seqK false [1, 1, 0, 1, 0, 0, 1, 0, 0, 1, 1, 0, 0, 0, 1] (BF 48 0 [1, 1, 0, 1, 0, 0, 1, 0, 0, 1, 1, 0, 0, 0, 1]) (againK [1, 1, 0, 1, 0, 0, 1, 0, 0, 1, 1, 0, 0, 0] (loopW [1, 1, 0, 1, 0, 0, 1, 0, 0, 1, 1, 0, 0, 0] (BF 48 0 [1, 1, 0, 1, 0, 0, 1, 0, 0, 1, 1, 0, 0, 0])) (blockK 2 (seqK false [1, 1, 0, 1, 0, 0, 1, 0, 0, 1, 1, 1] (BF 48 0 [1, 1, 0, 1, 0, 0, 1, 0, 0, 1, 1, 1]) (blockK 1 (seqK false [1, 1, 0, 1, 0, 0, 1, 1] (BF 48 0 [1, 1, 0, 1, 0, 0, 1, 1]) (againK [1, 1, 0, 1, 0, 0] (loopW [1, 1, 0, 1, 0, 0] (BF 48 0 [1, 1, 0, 1, 0, 0])) (blockK 0 (seqK false [1, 1, 1] (BF 48 0 [1, 1, 1]) (finF 48 (.list tapiPair) [] 0))))))))))
noncomputable def split_Split_Want (a0 : denO (.box tsplitSplitO)) (a1 : denO (.row 109 tsplitstep true)) : Option (denR (.int .i64) [(.box tsplitSplitO), (.row 109 tsplitstep true)]) := CF 43 [⟨(.ptr 0 0), ()⟩] [⟨(.box tsplitSplitO), a0⟩, ⟨(.row 109 tsplitstep true), a1⟩] (.int .i64) [(.box tsplitSplitO), (.row 109 tsplitstep true)]
noncomputable def split_Split_Plan_v1 (a0 : denO (.box tsplitSplitO)) (a1 : denO (.row 109 tsplitstep true)) : Option (denR (.tcons (.pair (.own tapiNode 2) (.pair (.int .i64) (.pair (.own (.int .i64) 3) .unit))) (.tcons .bool .tnil)) [(.box tsplitSplitO), (.row 109 tsplitstep true), (.row 53 tapiNode false), (.row 24 (.int .i64) false)]) := CF 39 [⟨(.ptr 0 0), ()⟩] [⟨(.box tsplitSplitO), a0⟩, ⟨(.row 109 tsplitstep true), a1⟩] (.tcons (.pair (.own tapiNode 2) (.pair (.int .i64) (.pair (.own (.int .i64) 3) .unit))) (.tcons .bool .tnil)) [(.box tsplitSplitO), (.row 109 tsplitstep true), (.row 53 tapiNode false), (.row 24 (.int .i64) false)]
noncomputable def split_Split_Plan_v1.j0 (x0 : denO (.box tsplitSplitO)) (x1 : denO (.row 109 tsplitstep true)) (x2 : denO (.box (.pair (.own tapiNode 4) (.pair (.int .i64) (.pair (.own (.int .i64) 5) .unit))))) (x3 : denO (.box (.int .i64))) (x4 : denO (.row 53 tapiNode false)) (x5 : denO (.row 24 (.int .i64) false)) : Option (denR (.tcons (.pair (.own tapiNode 2) (.pair (.int .i64) (.pair (.own (.int .i64) 3) .unit))) (.tcons .bool .tnil)) [(.box tsplitSplitO), (.row 109 tsplitstep true), (.row 53 tapiNode false), (.row 24 (.int .i64) false)]) := jnO [1, 1, 1, 1] (BF (R := denR (.tcons (.pair (.own tapiNode 2) (.pair (.int .i64) (.pair (.own (.int .i64) 3) .unit))) (.tcons .bool .tnil)) [(.box tsplitSplitO), (.row 109 tsplitstep true), (.row 53 tapiNode false), (.row 24 (.int .i64) false)]) 39 2 [1, 1, 1, 1]) ⟨[(0, ⟨(.ptr 0 0), ()⟩), (2, ⟨(.ptr 2 0), ()⟩), (4, ⟨(.ptr 3 0), ()⟩)], [⟨(.box tsplitSplitO), x0⟩, ⟨(.row 109 tsplitstep true), x1⟩, ⟨(.box (.pair (.own tapiNode 4) (.pair (.int .i64) (.pair (.own (.int .i64) 5) .unit)))), x2⟩, ⟨(.box (.int .i64)), x3⟩, ⟨(.row 53 tapiNode false), x4⟩, ⟨(.row 24 (.int .i64) false), x5⟩]⟩ (finF 39 (.tcons (.pair (.own tapiNode 2) (.pair (.int .i64) (.pair (.own (.int .i64) 3) .unit))) (.tcons .bool .tnil)) [(.box tsplitSplitO), (.row 109 tsplitstep true), (.row 53 tapiNode false), (.row 24 (.int .i64) false)] 2)
noncomputable def split_Split_changes_o (a0 : denO (.box tsplitSplit)) : Option (denR .bool [(.box tsplitSplit)]) := CF 68 [⟨(.ptr 0 0), ()⟩] [⟨(.box tsplitSplit), a0⟩] .bool [(.box tsplitSplit)]
noncomputable def split_Split_bottom (a0 : den (.pair (.nil 53) (.pair (.int .i64) (.pair (.nil 24) .unit)))) (a1 : denO (.box tsplitSplit)) : Option (denR (.tcons (.pair (.own tapiNode 1) (.pair (.int .i64) (.pair (.own (.int .i64) 2) .unit))) (.tcons (.int .i64) (.tcons (.int .i64) .tnil))) [(.box tsplitSplit), (.row 53 tapiNode false), (.row 24 (.int .i64) false)]) := CF 69 [⟨(.ptr 0 0), ()⟩, ⟨(.pair (.nil 53) (.pair (.int .i64) (.pair (.nil 24) .unit))), a0⟩] [⟨(.box tsplitSplit), a1⟩] (.tcons (.pair (.own tapiNode 1) (.pair (.int .i64) (.pair (.own (.int .i64) 2) .unit))) (.tcons (.int .i64) (.tcons (.int .i64) .tnil))) [(.box tsplitSplit), (.row 53 tapiNode false), (.row 24 (.int .i64) false)]
noncomputable def split_Split_bottom.j0 (x0 : den (.int .i64)) (x1 : denO (.box tsplitSplit)) (x2 : denO (.box (.pair (.own tapiNode 4) (.pair (.int .i64) (.pair (.own (.int .i64) 5) .unit))))) (x3 : denO (.box (.pair (.own tapiNode 6) (.pair (.int .i64) (.pair (.own (.int .i64) 7) .unit))))) (x4 : denO (.row 53 tapiNode false)) (x5 : denO (.row 24 (.int .i64) false)) (x6 : denO (.row 53 tapiNode false)) (x7 : denO (.row 24 (.int .i64) false)) : Option (denR (.tcons (.pair (.own tapiNode 1) (.pair (.int .i64) (.pair (.own (.int .i64) 2) .unit))) (.tcons (.int .i64) (.tcons (.int .i64) .tnil))) [(.box tsplitSplit), (.row 53 tapiNode false), (.row 24 (.int .i64) false)]) := jnO [1, 1, 1, 1] (BF (R := denR (.tcons (.pair (.own tapiNode 1) (.pair (.int .i64) (.pair (.own (.int .i64) 2) .unit))) (.tcons (.int .i64) (.tcons (.int .i64) .tnil))) [(.box tsplitSplit), (.row 53 tapiNode false), (.row 24 (.int .i64) false)]) 69 1 [1, 1, 1, 1]) ⟨[(2, ⟨(.ptr 1 0), ()⟩), (3, ⟨(.ptr 2 0), ()⟩), (4, ⟨(.ptr 3 0), ()⟩), (10, ⟨(.int .i64), x0⟩)], [⟨(.box tsplitSplit), x1⟩, ⟨(.box (.ptr 0 0)), ()⟩, ⟨(.box (.pair (.own tapiNode 4) (.pair (.int .i64) (.pair (.own (.int .i64) 5) .unit)))), x2⟩, ⟨(.box (.pair (.own tapiNode 6) (.pair (.int .i64) (.pair (.own (.int .i64) 7) .unit)))), x3⟩, ⟨(.row 53 tapiNode false), x4⟩, ⟨(.row 24 (.int .i64) false), x5⟩, ⟨(.row 53 tapiNode false), x6⟩, ⟨(.row 24 (.int .i64) false), x7⟩]⟩ (finF 69 (.tcons (.pair (.own tapiNode 1) (.pair (.int .i64) (.pair (.own (.int .i64) 2) .unit))) (.tcons (.int .i64) (.tcons (.int .i64) .tnil))) [(.box tsplitSplit), (.row 53 tapiNode false), (.row 24 (.int .i64) false)] 1)
noncomputable def slices_Backwardsplit_step_split_step (a0 : den (.list tsplitstep)) : Option (denR (.fn 102 (.tcons (.ptr 0 0) .tnil)) [(.box (.list tsplitstep))]) := CF 70 [⟨(.list tsplitstep), a0⟩] [] (.fn 102 (.tcons (.ptr 0 0) .tnil)) [(.box (.list tsplitstep))]
noncomputable def slices_Backwardsplit_step_split_step_1 (a0 : den (.eptr (.list tsplitstep) 0)) : Option (den (.list (.tcons (.int .i64) (.tcons tsplitstep .tnil)))) := CF 102 [⟨(.own .dead 0), ()⟩, ⟨(.eptr (.list tsplitstep) 0), a0⟩] [⟨.held, ()⟩] (.list (.tcons (.int .i64) (.tcons tsplitstep .tnil))) []
noncomputable def slices_Backwardsplit_step_split_step_1.l0 (x0 : den (.eptr (.list tsplitstep) 0)) (x1 : den (.int .i64)) : Option (den (.list (.tcons (.int .i64) (.tcons tsplitstep .tnil)))) := loopW [1, 0, 0] (BF (R := List (den (.tcons (.int .i64) (.tcons tsplitstep .tnil)))) 102 1 [1, 0, 0]) ⟨[(0, ⟨(.own .dead 0), ()⟩), (1, ⟨(.eptr (.list tsplitstep) 0), x0⟩), (3, ⟨(.int .i64), x1⟩)], [⟨.held, ()⟩]⟩ (blockK 0 (iterK (List (den (.tcons (.int .i64) (.tcons tsplitstep .tnil)))) []))
noncomputable def split_with (a0 : den tapiNode) (a1 : den (.int .i64)) (a2 : den (.int .i64)) (a3 : den (.int .i64)) : Option (den tapiNode) := CF 72 [⟨tapiNode, a0⟩, ⟨(.int .i64), a1⟩, ⟨(.int .i64), a2⟩, ⟨(.int .i64), a3⟩] [] tapiNode []
noncomputable def plan_Add (a0 : den (.pair (.own tapiNode 0) (.pair (.int .i64) (.pair (.own (.int .i64) 1) .unit)))) (a1 : den tapiNode) (a2 : denO (.row 53 tapiNode true)) (a3 : denO (.row 24 (.int .i64) true)) : Option (denR (.tcons (.pair (.own tapiNode 2) (.pair (.int .i64) (.pair (.own (.int .i64) 1) .unit))) (.tcons (.int .i64) .tnil)) [.gone, (.row 24 (.int .i64) false), (.row 53 tapiNode false)]) := CF 71 [⟨(.pair (.own tapiNode 0) (.pair (.int .i64) (.pair (.own (.int .i64) 1) .unit))), a0⟩, ⟨tapiNode, a1⟩] [⟨(.row 53 tapiNode true), a2⟩, ⟨(.row 24 (.int .i64) true), a3⟩] (.tcons (.pair (.own tapiNode 2) (.pair (.int .i64) (.pair (.own (.int .i64) 1) .unit))) (.tcons (.int .i64) .tnil)) [.gone, (.row 24 (.int .i64) false), (.row 53 tapiNode false)]
noncomputable def split_Split_changes_o_v1  : Option (den .bool) := CF 68 [⟨.nilptr, ()⟩] [] .bool []
noncomputable def ref25_Depth (a0 : den (.list tapiPair)) : Option (den (.int .i64)) := CF 74 [⟨(.list tapiPair), a0⟩] [] (.int .i64) []
noncomputable def ref18_May (a0 : den tplanPlan) : Option (den .bool) := CF 60 [⟨tplanPlan, a0⟩] [] .bool []
noncomputable def ref18_May.l0 (x0 : den (.int .i64)) (x1 : denO (.box tplanPlan)) : Option (den .bool) := loopW [1, 0, 1, 0, 0] (BF (R := den .bool) 60 0 [1, 0, 1, 0, 0]) ⟨[(1, ⟨(.ptr 0 0), ()⟩), (3, ⟨(.int .i64), x0⟩)], [⟨(.box tplanPlan), x1⟩]⟩ (blockK 0 (seqK false [1, 1] (BF 60 0 [1, 1]) (finF 60 .bool [] 0)))
noncomputable def ref18_May.l1 (x0 : den (.int .i64)) (x1 : den (.list (.int .i64))) (x2 : den (.int .i64)) (x3 : denO (.box tplanPlan)) : Option (den .bool) := loopW [1, 0, 1, 0, 0, 1, 0, 0, 1, 0, 1, 0, 0] (BF (R := den .bool) 60 0 [1, 0, 1, 0, 0, 1, 0, 0, 1, 0, 1, 0, 0]) ⟨[(1, ⟨(.ptr 0 0), ()⟩), (3, ⟨(.int .i64), x0⟩), (4, ⟨(.list (.int .i64)), x1⟩), (5, ⟨(.int .i64), x2⟩)], [⟨(.box tplanPlan), x3⟩]⟩ (blockK 2 (seqK false [1, 0, 1, 0, 0, 1, 0, 0, 1, 1] (BF 60 0 [1, 0, 1, 0, 0, 1, 0, 0, 1, 1]) (blockK 1 (seqK false [1, 0, 1, 0, 0, 1, 1] (BF 60 0 [1, 0, 1, 0, 0, 1, 1]) (againK [1, 0, 1, 0, 0] (loopW [1, 0, 1, 0, 0] (BF 60 0 [1, 0, 1, 0, 0])) (blockK 0 (seqK false [1, 1] (BF 60 0 [1, 1]) (finF 60 .bool [] 0))))))))
noncomputable def ref18_May.l2 (x0 : den (.int .i64)) (x1 : denO (.box tplanPlan)) : Option (den .bool) := loopW [1, 1, 0, 1, 0, 0] (BF (R := den .bool) 60 0 [1, 1, 0, 1, 0, 0]) ⟨[(1, ⟨(.ptr 0 0), ()⟩), (6, ⟨(.int .i64), x0⟩)], [⟨(.box tplanPlan), x1⟩]⟩ (blockK 4 (seqK false [1, 1, 1] (BF 60 0 [1, 1, 1]) (finF 60 .bool [] 0)))
noncomputable def ref17_May (a0 : den (.list tapiNode)) : Option (den .bool) := CF 61 [⟨(.list tapiNode), a0⟩] [] .bool []
noncomputable def ref17_May.l0 (x0 : den (.list tapiNode)) (x1 : den (.int .i64)) : Option (den .bool) := loopW [1, 0, 1, 0, 0] (BF (R := den .bool) 61 0 [1, 0, 1, 0, 0]) ⟨[(0, ⟨(.list tapiNode), x0⟩), (3, ⟨(.int .i64), x1⟩)], []⟩ (blockK 0 (seqK false [1, 1] (BF 61 0 [1, 1]) (finF 61 .bool [] 0)))
noncomputable def ref17_May.l1 (x0 : den (.list tapiNode)) (x1 : den (.int .i64)) (x2 : den (.list (.int .i64))) (x3 : den (.int .i64)) : Option (den .bool) := loopW [1, 0, 1, 0, 0, 1, 0, 0, 1, 0, 1, 0, 0] (BF (R := den .bool) 61 0 [1, 0, 1, 0, 0, 1, 0, 0, 1, 0, 1, 0, 0]) ⟨[(0, ⟨(.list tapiNode), x0⟩), (3, ⟨(.int .i64), x1⟩), (4, ⟨(.list (.int .i64)), x2⟩), (5, ⟨(.int .i64), x3⟩)], []⟩ (blockK 2 (seqK false [1, 0, 1, 0, 0, 1, 0, 0, 1, 1] (BF 61 0 [1, 0, 1, 0, 0, 1, 0, 0, 1, 1]) (blockK 1 (seqK false [1, 0, 1, 0, 0, 1, 1] (BF 61 0 [1, 0, 1, 0, 0, 1, 1]) (againK [1, 0, 1, 0, 0] (loopW [1, 0, 1, 0, 0] (BF 61 0 [1, 0, 1, 0, 0])) (blockK 0 (seqK false [1, 1] (BF 61 0 [1, 1]) (finF 61 .bool [] 0))))))))
noncomputable def ref13_Refs (a0 : den tapiNode) : Option (den (.list (.int .i64))) := CF 54 [⟨tapiNode, a0⟩] [] (.list (.int .i64)) []
noncomputable def ref13_Refs.l0 (x0 : den (.int .i64)) (x1 : denO (.box tapiNode)) (x2 : denO (.row 24 (.int .i64) false)) : Option (den (.list (.int .i64))) := loopW [1, 1, 0, 1, 0, 0] (BF (R := den (.list (.int .i64))) 54 0 [1, 1, 0, 1, 0, 0]) ⟨[(1, ⟨(.ptr 0 0), ()⟩), (3, ⟨(.own (.int .i64) 1), ()⟩), (4, ⟨(.int .i64), x0⟩)], [⟨(.box tapiNode), x1⟩, ⟨(.row 24 (.int .i64) false), x2⟩]⟩ (blockK 0 (seqK false [1, 1, 1] (BF 54 0 [1, 1, 1]) (finF 54 (.list (.int .i64)) [] 0)))
noncomputable def ref18_Fill_o (a0 : den tapiNode) (a1 : denO (.row 24 (.int .i64) true)) : Option (denR (.tcons tapiNode (.tcons .bool .tnil)) [(.row 24 (.int .i64) true)]) := CF 62 [⟨tapiNode, a0⟩, ⟨(.own (.int .i64) 0), ()⟩] [⟨(.row 24 (.int .i64) true), a1⟩] (.tcons tapiNode (.tcons .bool .tnil)) [(.row 24 (.int .i64) true)]
noncomputable def ref18_Fill_o.l0 (x0 : den .bool) (x1 : den (.int .i64)) (x2 : denO (.row 24 (.int .i64) true)) (x3 : denO (.box tapiNode)) (x4 : denO (.box (.pair (.int .i64) (.pair .str (.pair .str (.pair (.int .u32) (.pair (.own (.int .i64) 4) (.pair (.int .i64) (.pair (.own tapiPair 5) tsplithalf))))))))) (x5 : denO (.box (.pair (.int .i64) (.pair .str (.pair .str (.pair (.int .u32) (.pair (.own (.int .i64) 6) (.pair (.int .i64) (.pair (.list tapiPair) tsplithalf))))))))) (x6 : denO (.row 24 (.int .i64) false)) (x7 : denO (.row 82 tapiPair false)) (x8 : denO (.row 24 (.int .i64) false)) : Option (denR (.tcons tapiNode (.tcons .bool .tnil)) [(.row 24 (.int .i64) true)]) := loopW [1, 1, 1, 0, 1, 0, 0] (BF (R := denR (.tcons tapiNode (.tcons .bool .tnil)) [(.row 24 (.int .i64) true)]) 62 1 [1, 1, 1, 0, 1, 0, 0]) ⟨[(1, ⟨(.own (.int .i64) 0), ()⟩), (2, ⟨(.ptr 1 0), ()⟩), (4, ⟨(.ptr 2 0), ()⟩), (6, ⟨(.ptr 3 0), ()⟩), (7, ⟨.bool, x0⟩), (8, ⟨(.int .i64), x1⟩)], [⟨(.row 24 (.int .i64) true), x2⟩, ⟨(.box tapiNode), x3⟩, ⟨(.box (.pair (.int .i64) (.pair .str (.pair .str (.pair (.int .u32) (.pair (.own (.int .i64) 4) (.pair (.int .i64) (.pair (.own tapiPair 5) tsplithalf)))))))), x4⟩, ⟨(.box (.pair (.int .i64) (.pair .str (.pair .str (.pair (.int .u32) (.pair (.own (.int .i64) 6) (.pair (.int .i64) (.pair (.list tapiPair) tsplithalf)))))))), x5⟩, ⟨(.row 24 (.int .i64) false), x6⟩, ⟨(.row 82 tapiPair false), x7⟩, ⟨(.row 24 (.int .i64) false), x8⟩]⟩ (blockK 0 (seqK false [1, 1, 1, 1] (BF 62 1 [1, 1, 1, 1]) (finF 62 (.tcons tapiNode (.tcons .bool .tnil)) [(.row 24 (.int .i64) true)] 1)))
noncomputable def ref18_Ref (a0 : den (.int .i64)) (a1 : den (.list (.int .i64))) : Option (den (.tcons (.int .i64) (.tcons .bool .tnil))) := CF 63 [⟨(.int .i64), a0⟩, ⟨(.list (.int .i64)), a1⟩] [] (.tcons (.int .i64) (.tcons .bool .tnil)) []
noncomputable def ref18_Ref.l0 (x0 : den (.int .i64)) (x1 : den (.list (.int .i64))) (x2 : den (.int .i64)) : Option (den (.tcons (.int .i64) (.tcons .bool .tnil))) := loopW [1, 1, 0, 1, 0, 0] (BF (R := den (.tcons (.int .i64) (.tcons .bool .tnil))) 63 0 [1, 1, 0, 1, 0, 0]) ⟨[(0, ⟨(.int .i64), x0⟩), (1, ⟨(.list (.int .i64)), x1⟩), (6, ⟨(.int .i64), x2⟩)], []⟩ (blockK 0 (seqK false [1, 1, 1] (BF 63 0 [1, 1, 1]) (finF 63 (.tcons (.int .i64) (.tcons .bool .tnil)) [] 0)))
noncomputable def ref17_mark_o (a0 : den (.list tapiNode)) (a1 : den (.int .i64)) (a2 : denO (.row 4 .bool true)) : Option (denR .tnil [(.row 4 .bool true)]) := CF 64 [⟨(.list tapiNode), a0⟩, ⟨(.int .i64), a1⟩, ⟨(.own .bool 0), ()⟩] [⟨(.row 4 .bool true), a2⟩] .tnil [(.row 4 .bool true)]
noncomputable def ref17_mark_o.j0 (x0 : den (.list tapiNode)) (x1 : den (.int .i64)) (x2 : den .bool) (x3 : denO (.row 4 .bool true)) : Option (denR .tnil [(.row 4 .bool true)]) := jnO [0, 1] (BF (R := denR .tnil [(.row 4 .bool true)]) 64 1 [0, 1]) ⟨[(0, ⟨(.list tapiNode), x0⟩), (1, ⟨(.int .i64), x1⟩), (2, ⟨(.own .bool 0), ()⟩), (16, ⟨.bool, x2⟩)], [⟨(.row 4 .bool true), x3⟩]⟩ (seqK false [1] (BF 64 1 [1]) (finF 64 .tnil [(.row 4 .bool true)] 1))
noncomputable def ref17_mark_o.l1 (x0 : den (.list tapiNode)) (x1 : den (.list (.int .i64))) (x2 : den (.int .i64)) (x3 : denO (.row 4 .bool true)) : Option (denR .tnil [(.row 4 .bool true)]) := loopW [1, 1, 1, 1, 0, 0] (BF (R := denR .tnil [(.row 4 .bool true)]) 64 1 [1, 1, 1, 1, 0, 0]) ⟨[(0, ⟨(.list tapiNode), x0⟩), (2, ⟨(.own .bool 0), ()⟩), (6, ⟨(.list (.int .i64)), x1⟩), (7, ⟨(.int .i64), x2⟩)], [⟨(.row 4 .bool true), x3⟩]⟩ (blockK 0 (finF 64 .tnil [(.row 4 .bool true)] 1))
noncomputable def ref17_Fits (a0 : den (.list tapiNode)) (a1 : den (.int .i64)) : Option (den .bool) := CF 51 [⟨(.list tapiNode), a0⟩, ⟨(.int .i64), a1⟩] [] .bool []
noncomputable def ref17_Binds (a0 : den (.list tapiNode)) (a1 : den (.int .i64)) : Option (den (.list tapiPair)) := CF 18 [⟨(.list tapiNode), a0⟩, ⟨(.int .i64), a1⟩] [] (.list tapiPair) []
noncomputable def ref17_Binds.l0 (x0 : den (.list tapiNode)) (x1 : den (.list (.int .i64))) (x2 : den (.int .i64)) (x3 : denO (.row 82 tapiPair false)) : Option (den (.list tapiPair)) := loopW [1, 1, 1, 1, 1, 1, 1, 0, 1, 0, 0] (BF (R := den (.list tapiPair)) 18 0 [1, 1, 1, 1, 1, 1, 1, 0, 1, 0, 0]) ⟨[(0, ⟨(.list tapiNode), x0⟩), (5, ⟨(.own tapiPair 0), ()⟩), (7, ⟨(.list (.int .i64)), x1⟩), (8, ⟨(.int .i64), x2⟩)], [⟨(.row 82 tapiPair false), x3⟩]⟩ (blockK 0 (seqK false [1, 1, 1, 1, 1, 1, 1, 1] (BF 18 0 [1, 1, 1, 1, 1, 1, 1, 1]) (finF 18 (.list tapiPair) [] 0)))
noncomputable def ref17_Same (a0 : den (.list tapiNode)) (a1 : den (.int .i64)) (a2 : den (.list tapiNode)) (a3 : den (.int .i64)) : Option (den .bool) := CF 44 [⟨(.list tapiNode), a0⟩, ⟨(.int .i64), a1⟩, ⟨(.list tapiNode), a2⟩, ⟨(.int .i64), a3⟩] [] .bool []
noncomputable def node_Leaf (a0 : den .str) (a1 : den .str) : Option (den tapiNode) := CF 66 [⟨.str, a0⟩, ⟨.str, a1⟩] [] tapiNode []
noncomputable def node_May (a0 : den tapiNode) : Option (den (.int .i64)) := CF 65 [⟨tapiNode, a0⟩] [] (.int .i64) []
noncomputable def tree_Is (a0 : den (.list tapiNode)) (a1 : den (.int .i64)) : Option (den .bool) := CF 49 [⟨(.list tapiNode), a0⟩, ⟨(.int .i64), a1⟩] [] .bool []
noncomputable def plan_Do (a0 : den (.list tapiNode)) (a1 : den tplanPlan) : Option (den (.tcons (.list tapiNode) (.tcons (.int .i64) (.tcons (.int .i64) .tnil)))) := CF 50 [⟨(.list tapiNode), a0⟩, ⟨tplanPlan, a1⟩] [] (.tcons (.list tapiNode) (.tcons (.int .i64) (.tcons (.int .i64) .tnil))) []
noncomputable def plan_Do.l0 (x0 : den (.list tapiNode)) (x1 : den (.int .i64)) (x2 : den (.int .i64)) (x3 : denO (.box tplanPlan)) (x4 : denO (.row 53 tapiNode false)) : Option (den (.tcons (.list tapiNode) (.tcons (.int .i64) (.tcons (.int .i64) .tnil)))) := loopW [1, 1, 1, 0, 1, 0, 0] (BF (R := den (.tcons (.list tapiNode) (.tcons (.int .i64) (.tcons (.int .i64) .tnil)))) 50 0 [1, 1, 1, 0, 1, 0, 0]) ⟨[(3, ⟨(.ptr 0 0), ()⟩), (7, ⟨(.own tapiNode 1), ()⟩), (31, ⟨(.list tapiNode), x0⟩), (32, ⟨(.int .i64), x1⟩), (33, ⟨(.int .i64), x2⟩)], [⟨(.box tplanPlan), x3⟩, ⟨(.row 53 tapiNode false), x4⟩]⟩ (blockK 0 (seqK false [1, 1, 1, 1] (BF 50 0 [1, 1, 1, 1]) (finF 50 (.tcons (.list tapiNode) (.tcons (.int .i64) (.tcons (.int .i64) .tnil))) [] 0)))
noncomputable def plan_Do.l1 (x0 : den (.list tapiNode)) (x1 : den (.int .i64)) (x2 : den (.int .i64)) (x3 : denO (.box tplanPlan)) (x4 : denO (.row 53 tapiNode false)) (x5 : denO (.row 24 (.int .i64) false)) : Option (den (.tcons (.list tapiNode) (.tcons (.int .i64) (.tcons (.int .i64) .tnil)))) := loopW [1, 1, 1, 1, 1, 0, 1, 0, 0] (BF (R := den (.tcons (.list tapiNode) (.tcons (.int .i64) (.tcons (.int .i64) .tnil)))) 50 0 [1, 1, 1, 1, 1, 0, 1, 0, 0]) ⟨[(3, ⟨(.ptr 0 0), ()⟩), (7, ⟨(.own tapiNode 1), ()⟩), (10, ⟨(.own (.int .i64) 2), ()⟩), (44, ⟨(.list tapiNode), x0⟩), (45, ⟨(.int .i64), x1⟩), (46, ⟨(.int .i64), x2⟩)], [⟨(.box tplanPlan), x3⟩, ⟨(.row 53 tapiNode false), x4⟩, ⟨(.row 24 (.int .i64) false), x5⟩]⟩ (blockK 2 (seqK false [1, 1, 1, 1, 1, 1] (BF 50 0 [1, 1, 1, 1, 1, 1]) (finF 50 (.tcons (.list tapiNode) (.tcons (.int .i64) (.tcons (.int .i64) .tnil))) [] 0)))
noncomputable def order_Compare (a0 : den .str) (a1 : den .str) : Option (den (.int .i64)) := CF 73 [⟨.str, a0⟩, ⟨.str, a1⟩] [] (.int .i64) []
noncomputable def order_Compare.j0 (x0 : den .str) (x1 : den .str) (x2 : den (.int .i64)) (x3 : den .bool) : Option (den (.int .i64)) := jnO [1, 1, 0, 0, 1] (BF (R := den (.int .i64)) 73 0 [1, 1, 0, 0, 1]) ⟨[(0, ⟨.str, x0⟩), (1, ⟨.str, x1⟩), (5, ⟨(.int .i64), x2⟩), (9, ⟨.bool, x3⟩)], []⟩ (blockK 0 (seqK false [1, 1, 1] (BF 73 0 [1, 1, 1]) (finF 73 (.int .i64) [] 0)))
noncomputable def ref25_make1 (a0 : den (.list tapiPair)) (a1 : denO (.row 53 tapiNode true)) : Option (denR (.tcons (.own tapiNode 0) (.tcons (.int .i64) .tnil)) [(.row 53 tapiNode false)]) := CF 76 [⟨(.own tapiNode 0), ()⟩, ⟨(.list tapiPair), a0⟩] [⟨(.row 53 tapiNode true), a1⟩] (.tcons (.own tapiNode 0) (.tcons (.int .i64) .tnil)) [(.row 53 tapiNode false)]
noncomputable def ref25_make1.l0 (x0 : den (.list tapiPair)) (x1 : den (.int .i64)) (x2 : den (.int .i64)) (x3 : denO (.row 53 tapiNode true)) : Option (denR (.tcons (.own tapiNode 0) (.tcons (.int .i64) .tnil)) [(.row 53 tapiNode false)]) := loopW [1, 1, 1, 0, 1, 0, 0] (BF (R := denR (.tcons (.own tapiNode 0) (.tcons (.int .i64) .tnil)) [(.row 53 tapiNode false)]) 76 1 [1, 1, 1, 0, 1, 0, 0]) ⟨[(0, ⟨(.own tapiNode 0), ()⟩), (1, ⟨(.list tapiPair), x0⟩), (6, ⟨(.int .i64), x1⟩), (7, ⟨(.int .i64), x2⟩)], [⟨(.row 53 tapiNode true), x3⟩]⟩ (blockK 0 (seqK false [1, 1, 1, 1] (BF 76 1 [1, 1, 1, 1]) (finF 76 (.tcons (.own tapiNode 0) (.tcons (.int .i64) .tnil)) [(.row 53 tapiNode false)] 1)))
noncomputable def ref07_last (a0 : den (.list tapiPair)) (a1 : den (.int .i64)) : Option (den .bool) := CF 77 [⟨(.list tapiPair), a0⟩, ⟨(.int .i64), a1⟩] [] .bool []
noncomputable def ref07_last.l0 (x0 : den (.list tapiPair)) (x1 : den (.int .i64)) (x2 : den (.int .i64)) : Option (den .bool) := loopW [1, 0, 1, 0, 0] (BF (R := den .bool) 77 0 [1, 0, 1, 0, 0]) ⟨[(0, ⟨(.list tapiPair), x0⟩), (1, ⟨(.int .i64), x1⟩), (5, ⟨(.int .i64), x2⟩)], []⟩ (blockK 0 (seqK false [1, 1] (BF 77 0 [1, 1]) (finF 77 .bool [] 0)))
noncomputable def ref01_Less (a0 : den .str) (a1 : den .str) : Option (den .bool) := CF 78 [⟨.str, a0⟩, ⟨.str, a1⟩] [] .bool []
noncomputable def ref01_Less.l0 (x0 : den .str) (x1 : den .str) (x2 : den (.int .i64)) : Option (den .bool) := loopW [1, 0, 1, 0, 0] (BF (R := den .bool) 78 0 [1, 0, 1, 0, 0]) ⟨[(0, ⟨.str, x0⟩), (1, ⟨.str, x1⟩), (5, ⟨(.int .i64), x2⟩)], []⟩ (blockK 0 (seqK false [1, 1] (BF 78 0 [1, 1]) (finF 78 .bool [] 0)))
noncomputable def ref01_Less.j1 (x0 : den .str) (x1 : den .str) (x2 : den (.int .i64)) (x3 : den .bool) : Option (den .bool) := jnO [1, 0, 1, 0, 0, 0, 1] (BF (R := den .bool) 78 0 [1, 0, 1, 0, 0, 0, 1]) ⟨[(0, ⟨.str, x0⟩), (1, ⟨.str, x1⟩), (5, ⟨(.int .i64), x2⟩), (15, ⟨.bool, x3⟩)], []⟩ (seqK false [1, 0, 1, 0, 0, 1] (BF 78 0 [1, 0, 1, 0, 0, 1]) (againK [1, 0, 1, 0, 0] (loopW [1, 0, 1, 0, 0] (BF 78 0 [1, 0, 1, 0, 0])) (blockK 0 (seqK false [1, 1] (BF 78 0 [1, 1]) (finF 78 .bool [] 0)))))
noncomputable def split_Split_changes (a0 : denO (.box tsplitSplitO)) (a1 : denO (.row 109 tsplitstep true)) : Option (denR .bool [(.box tsplitSplitO), (.row 109 tsplitstep true)]) := CF 68 [⟨(.ptr 0 0), ()⟩] [⟨(.box tsplitSplitO), a0⟩, ⟨(.row 109 tsplitstep true), a1⟩] .bool [(.box tsplitSplitO), (.row 109 tsplitstep true)]
noncomputable def split_Split_bottom_v1 (a0 : den (.pair (.nil 53) (.pair (.int .i64) (.pair (.nil 24) .unit)))) (a1 : denO (.box tsplitSplitO)) (a2 : denO (.row 109 tsplitstep true)) : Option (denR (.tcons (.pair (.own tapiNode 1) (.pair (.int .i64) (.pair (.own (.int .i64) 2) .unit))) (.tcons (.int .i64) (.tcons (.int .i64) .tnil))) [(.box tsplitSplitO), (.row 53 tapiNode false), (.row 24 (.int .i64) false)]) := CF 69 [⟨(.ptr 0 0), ()⟩, ⟨(.pair (.nil 53) (.pair (.int .i64) (.pair (.nil 24) .unit))), a0⟩] [⟨(.box tsplitSplitO), a1⟩, ⟨(.row 109 tsplitstep true), a2⟩] (.tcons (.pair (.own tapiNode 1) (.pair (.int .i64) (.pair (.own (.int .i64) 2) .unit))) (.tcons (.int .i64) (.tcons (.int .i64) .tnil))) [(.box tsplitSplitO), (.row 53 tapiNode false), (.row 24 (.int .i64) false)]
noncomputable def slices_IndexFuncsplit_step_split_step (a0 : den (.list tsplitstep)) (a1 : den (.fn 100 (.tcons (.ptr 0 0) .tnil))) (a2 : denO (.box tsplitSplit)) : Option (denR (.int .i64) [(.box (.ptr 1 0)), (.box tsplitSplit)]) := CF 99 [⟨(.list tsplitstep), a0⟩, ⟨(.fn 100 (.tcons (.ptr 0 0) .tnil)), a1⟩] [⟨(.box (.ptr 1 0)), ()⟩, ⟨(.box tsplitSplit), a2⟩] (.int .i64) [(.box (.ptr 1 0)), (.box tsplitSplit)]
noncomputable def slices_IndexFuncsplit_step_split_step.l0 (x0 : den (.list tsplitstep)) (x1 : den (.fn 100 (.tcons (.ptr 0 0) .tnil))) (x2 : den (.int .i64)) (x3 : den (.int .i64)) (x4 : denO (.box tsplitSplit)) : Option (denR (.int .i64) [(.box (.ptr 1 0)), (.box tsplitSplit)]) := loopW [1, 0, 1, 0, 0] (BF (R := denR (.int .i64) [(.box (.ptr 1 0)), (.box tsplitSplit)]) 99 2 [1, 0, 1, 0, 0]) ⟨[(0, ⟨(.list tsplitstep), x0⟩), (1, ⟨(.fn 100 (.tcons (.ptr 0 0) .tnil)), x1⟩), (7, ⟨(.int .i64), x2⟩), (8, ⟨(.int .i64), x3⟩)], [⟨(.box (.ptr 1 0)), ()⟩, ⟨(.box tsplitSplit), x4⟩]⟩ (blockK 0 (seqK false [1, 1] (BF 99 2 [1, 1]) (finF 99 (.int .i64) [(.box (.ptr 1 0)), (.box tsplitSplit)] 2)))
noncomputable def split_Split_cut (a0 : den (.pair (.own tapiNode 1) (.pair (.int .i64) (.pair (.own (.int .i64) 2) .unit)))) (a1 : den (.int .i64)) (a2 : denO (.box tsplitSplit)) (a3 : denO (.row 53 tapiNode true)) (a4 : denO (.row 24 (.int .i64) true)) : Option (denR (.tcons (.pair (.own tapiNode 1) (.pair (.int .i64) (.pair (.own (.int .i64) 2) .unit))) (.tcons tsplithalf (.tcons tsplithalf .tnil))) [(.box tsplitSplit), (.row 53 tapiNode false), (.row 24 (.int .i64) false)]) := CF 101 [⟨(.ptr 0 0), ()⟩, ⟨(.pair (.own tapiNode 1) (.pair (.int .i64) (.pair (.own (.int .i64) 2) .unit))), a0⟩, ⟨(.int .i64), a1⟩] [⟨(.box tsplitSplit), a2⟩, ⟨(.row 53 tapiNode true), a3⟩, ⟨(.row 24 (.int .i64) true), a4⟩] (.tcons (.pair (.own tapiNode 1) (.pair (.int .i64) (.pair (.own (.int .i64) 2) .unit))) (.tcons tsplithalf (.tcons tsplithalf .tnil))) [(.box tsplitSplit), (.row 53 tapiNode false), (.row 24 (.int .i64) false)]
noncomputable def split_Split_cut.e0 (xs : List (den (.tcons (.int .i64) (.tcons tsplitstep .tnil)))) (x0 : denO (.box tsplitSplit)) (x1 : denO (.row 53 tapiNode true)) (x2 : denO (.row 24 (.int .i64) true)) (x3 : denO (.box (.pair (.own tapiNode 1) (.pair (.int .i64) (.pair (.own (.int .i64) 2) .unit))))) (x4 : denO (.box (.pair (.own tapiNode 9) (.pair (.int .i64) (.pair (.own (.int .i64) 10) .unit))))) (x5 : denO (.box tsplithalf)) (x6 : denO (.box tsplithalf)) (x7 : denO (.box (.arr 2 tsplithalf))) (x8 : denO (.box (.int .i64))) (x9 : denO (.row 53 tapiNode false)) (x10 : denO (.row 24 (.int .i64) false)) : Option (denR (.tcons (.pair (.own tapiNode 1) (.pair (.int .i64) (.pair (.own (.int .i64) 2) .unit))) (.tcons tsplithalf (.tcons tsplithalf .tnil))) [(.box tsplitSplit), (.row 53 tapiNode false), (.row 24 (.int .i64) false)]) := rangeD (.tcons (.int .i64) (.tcons tsplitstep .tnil)) [1, 1, 1, 0, 1, 0] 3 [4, 6, 7, 8, 9, 10] [22, 23] (BF (R := denR (.tcons (.pair (.own tapiNode 1) (.pair (.int .i64) (.pair (.own (.int .i64) 2) .unit))) (.tcons tsplithalf (.tcons tsplithalf .tnil))) [(.box tsplitSplit), (.row 53 tapiNode false), (.row 24 (.int .i64) false)]) 101 3 [1, 1, 1, 0, 1, 0, 0]) (BF (R := denR (.tcons (.pair (.own tapiNode 1) (.pair (.int .i64) (.pair (.own (.int .i64) 2) .unit))) (.tcons tsplithalf (.tcons tsplithalf .tnil))) [(.box tsplitSplit), (.row 53 tapiNode false), (.row 24 (.int .i64) false)]) 101 3 [1, 1, 1, 0, 1, 0, 1]) xs ⟨[(4, ⟨(.ptr 3 0), ()⟩), (6, ⟨(.ptr 4 0), ()⟩), (7, ⟨(.ptr 5 0), ()⟩), (8, ⟨(.ptr 6 0), ()⟩), (9, ⟨(.ptr 7 0), ()⟩), (10, ⟨(.ptr 8 0), ()⟩)], [⟨(.box tsplitSplit), x0⟩, ⟨(.row 53 tapiNode true), x1⟩, ⟨(.row 24 (.int .i64) true), x2⟩, ⟨(.box (.pair (.own tapiNode 1) (.pair (.int .i64) (.pair (.own (.int .i64) 2) .unit)))), x3⟩, ⟨(.box (.pair (.own tapiNode 9) (.pair (.int .i64) (.pair (.own (.int .i64) 10) .unit)))), x4⟩, ⟨(.box tsplithalf), x5⟩, ⟨(.box tsplithalf), x6⟩, ⟨(.box (.arr 2 tsplithalf)), x7⟩, ⟨(.box (.int .i64)), x8⟩, ⟨(.row 53 tapiNode false), x9⟩, ⟨(.row 24 (.int .i64) false), x10⟩]⟩ (blockK 0 (seqK false [1, 1, 1, 1] (BF 101 3 [1, 1, 1, 1]) (finF 101 (.tcons (.pair (.own tapiNode 1) (.pair (.int .i64) (.pair (.own (.int .i64) 2) .unit))) (.tcons tsplithalf (.tcons tsplithalf .tnil))) [(.box tsplitSplit), (.row 53 tapiNode false), (.row 24 (.int .i64) false)] 3)))
noncomputable def split_Split_cut.e1 (xs : List (den (.tcons (.int .i64) (.tcons tsplitstep .tnil)))) (x0 : denO (.box tsplitSplit)) (x1 : denO (.row 24 (.int .i64) false)) (x2 : denO (.box (.pair (.own tapiNode 9) (.pair (.int .i64) (.pair (.own (.int .i64) 2) .unit))))) (x3 : denO (.box (.pair (.own tapiNode 10) (.pair (.int .i64) (.pair (.own (.int .i64) 11) .unit))))) (x4 : denO (.box tsplithalf)) (x5 : denO (.box tsplithalf)) (x6 : denO (.box (.arr 2 tsplithalf))) (x7 : denO (.box (.int .i64))) (x8 : denO (.row 53 tapiNode false)) (x9 : denO (.row 53 tapiNode false)) (x10 : denO (.row 24 (.int .i64) false)) : Option (denR (.tcons (.pair (.own tapiNode 1) (.pair (.int .i64) (.pair (.own (.int .i64) 2) .unit))) (.tcons tsplithalf (.tcons tsplithalf .tnil))) [(.box tsplitSplit), (.row 53 tapiNode false), (.row 24 (.int .i64) false)]) := rangeD (.tcons (.int .i64) (.tcons tsplitstep .tnil)) [1, 1, 1, 0, 1, 0] 3 [4, 6, 7, 8, 9, 10] [22, 23] (BF (R := denR (.tcons (.pair (.own tapiNode 1) (.pair (.int .i64) (.pair (.own (.int .i64) 2) .unit))) (.tcons tsplithalf (.tcons tsplithalf .tnil))) [(.box tsplitSplit), (.row 53 tapiNode false), (.row 24 (.int .i64) false)]) 101 3 [1, 1, 1, 0, 1, 0, 0]) (BF (R := denR (.tcons (.pair (.own tapiNode 1) (.pair (.int .i64) (.pair (.own (.int .i64) 2) .unit))) (.tcons tsplithalf (.tcons tsplithalf .tnil))) [(.box tsplitSplit), (.row 53 tapiNode false), (.row 24 (.int .i64) false)]) 101 3 [1, 1, 1, 0, 1, 0, 1]) xs ⟨[(4, ⟨(.ptr 3 0), ()⟩), (6, ⟨(.ptr 4 0), ()⟩), (7, ⟨(.ptr 5 0), ()⟩), (8, ⟨(.ptr 6 0), ()⟩), (9, ⟨(.ptr 7 0), ()⟩), (10, ⟨(.ptr 8 0), ()⟩)], [⟨(.box tsplitSplit), x0⟩, ⟨.gone, ()⟩, ⟨(.row 24 (.int .i64) false), x1⟩, ⟨(.box (.pair (.own tapiNode 9) (.pair (.int .i64) (.pair (.own (.int .i64) 2) .unit)))), x2⟩, ⟨(.box (.pair (.own tapiNode 10) (.pair (.int .i64) (.pair (.own (.int .i64) 11) .unit)))), x3⟩, ⟨(.box tsplithalf), x4⟩, ⟨(.box tsplithalf), x5⟩, ⟨(.box (.arr 2 tsplithalf)), x6⟩, ⟨(.box (.int .i64)), x7⟩, ⟨(.row 53 tapiNode false), x8⟩, ⟨(.row 53 tapiNode false), x9⟩, ⟨(.row 24 (.int .i64) false), x10⟩]⟩ (blockK 0 (seqK false [1, 1, 1, 1] (BF 101 3 [1, 1, 1, 1]) (finF 101 (.tcons (.pair (.own tapiNode 1) (.pair (.int .i64) (.pair (.own (.int .i64) 2) .unit))) (.tcons tsplithalf (.tcons tsplithalf .tnil))) [(.box tsplitSplit), (.row 53 tapiNode false), (.row 24 (.int .i64) false)] 3)))
noncomputable def slices_Cloneapi_Ref_api_Ref (a0 : den (.list (.int .i64))) : Option (denR (.own (.int .i64) 0) [(.row 24 (.int .i64) false)]) := CF 105 [⟨(.list (.int .i64)), a0⟩] [] (.own (.int .i64) 0) [(.row 24 (.int .i64) false)]
noncomputable def slices_Cloneapi_Node_api_Node (a0 : den (.list tapiNode)) : Option (denR (.own tapiNode 0) [(.row 53 tapiNode false)]) := CF 103 [⟨(.list tapiNode), a0⟩] [] (.own tapiNode 0) [(.row 53 tapiNode false)]
noncomputable def node_Copy (a0 : den tapiNode) : Option (denR (.pair (.int .i64) (.pair .str (.pair .str (.pair (.int .u32) (.pair (.own (.int .i64) 0) (.pair (.int .i64) (.pair (.own tapiPair 1) tsplithalf))))))) [(.row 24 (.int .i64) false), (.row 82 tapiPair false)]) := CF 86 [⟨tapiNode, a0⟩] [] (.pair (.int .i64) (.pair .str (.pair .str (.pair (.int .u32) (.pair (.own (.int .i64) 0) (.pair (.int .i64) (.pair (.own tapiPair 1) tsplithalf))))))) [(.row 24 (.int .i64) false), (.row 82 tapiPair false)]
noncomputable def ref_New (a0 : den (.int .i64)) : Option (den (.int .i64)) := CF 104 [⟨(.int .i64), a0⟩] [] (.int .i64) []
noncomputable def ref17_Depth (a0 : den (.list tapiNode)) (a1 : den (.int .i64)) : Option (den (.int .i64)) := CF 107 [⟨(.list tapiNode), a0⟩, ⟨(.int .i64), a1⟩] [] (.int .i64) []
noncomputable def ref17_Depth.l0 (x0 : den (.list tapiNode)) (x1 : den (.int .i64)) (x2 : den (.list (.int .i64))) (x3 : den (.int .i64)) : Option (den (.int .i64)) := loopW [1, 1, 1, 0, 1, 0, 0] (BF (R := den (.int .i64)) 107 0 [1, 1, 1, 0, 1, 0, 0]) ⟨[(0, ⟨(.list tapiNode), x0⟩), (5, ⟨(.int .i64), x1⟩), (6, ⟨(.list (.int .i64)), x2⟩), (7, ⟨(.int .i64), x3⟩)], []⟩ (blockK 0 (seqK false [1, 1, 1, 1] (BF 107 0 [1, 1, 1, 1]) (finF 107 (.int .i64) [] 0)))
noncomputable def ref13_May (a0 : den tapiNode) : Option (den (.int .i64)) := CF 93 [⟨tapiNode, a0⟩] [] (.int .i64) []
noncomputable def ref13_Binds (a0 : den tapiNode) : Option (den (.list tapiPair)) := CF 53 [⟨tapiNode, a0⟩] [] (.list tapiPair) []
noncomputable def ref17_shape (a0 : den (.list tapiNode)) (a1 : den (.int .i64)) (a2 : den (.list tapiNode)) (a3 : den (.int .i64)) : Option (den .bool) := CF 75 [⟨(.list tapiNode), a0⟩, ⟨(.int .i64), a1⟩, ⟨(.list tapiNode), a2⟩, ⟨(.int .i64), a3⟩] [] .bool []
noncomputable def ref17_shape.j0 (x0 : den (.list tapiNode)) (x1 : den (.int .i64)) (x2 : den (.list tapiNode)) (x3 : den (.int .i64)) (x4 : den .bool) : Option (den .bool) := jnO [1, 0, 1] (BF (R := den .bool) 75 0 [1, 0, 1]) ⟨[(0, ⟨(.list tapiNode), x0⟩), (1, ⟨(.int .i64), x1⟩), (2, ⟨(.list tapiNode), x2⟩), (3, ⟨(.int .i64), x3⟩), (17, ⟨.bool, x4⟩)], []⟩ (seqK false [1, 1] (BF 75 0 [1, 1]) (finF 75 .bool [] 0))
noncomputable def ref17_shape.l1 (x0 : den (.list tapiNode)) (x1 : den (.list tapiNode)) (x2 : den (.int .i64)) (x3 : denO (.box tapiNode)) (x4 : denO (.box tapiNode)) : Option (den .bool) := loopW [1, 1, 1, 1, 0, 1, 0, 0] (BF (R := den .bool) 75 0 [1, 1, 1, 1, 0, 1, 0, 0]) ⟨[(0, ⟨(.list tapiNode), x0⟩), (2, ⟨(.list tapiNode), x1⟩), (9, ⟨(.ptr 0 0), ()⟩), (10, ⟨(.ptr 1 0), ()⟩), (11, ⟨(.int .i64), x2⟩)], [⟨(.box tapiNode), x3⟩, ⟨(.box tapiNode), x4⟩]⟩ (blockK 0 (seqK false [1, 1, 1, 1, 1] (BF 75 0 [1, 1, 1, 1, 1]) (finF 75 .bool [] 0)))
noncomputable def node_formed (a0 : den tapiNode) : Option (den tapiNode) := CF 94 [⟨tapiNode, a0⟩] [] tapiNode []
noncomputable def node_long (a0 : den tapiNode) : Option (den .bool) := CF 95 [⟨tapiNode, a0⟩] [] .bool []
noncomputable def node_Same (a0 : den tapiNode) (a1 : den tapiNode) : Option (den .bool) := CF 96 [⟨tapiNode, a0⟩, ⟨tapiNode, a1⟩] [] .bool []
noncomputable def node_Same.j0 (x0 : den .bool) (x1 : denO (.box tapiNode)) (x2 : denO (.box tapiNode)) : Option (den .bool) := jnO [1, 1] (BF (R := den .bool) 96 0 [1, 1]) ⟨[(2, ⟨(.ptr 0 0), ()⟩), (3, ⟨(.ptr 1 0), ()⟩), (5, ⟨.bool, x0⟩)], [⟨(.box tapiNode), x1⟩, ⟨(.box tapiNode), x2⟩]⟩ (finF 96 .bool [] 0)
noncomputable def node_whole (a0 : den tapiNode) : Option (den .bool) := CF 97 [⟨tapiNode, a0⟩] [] .bool []
noncomputable def heap_Binds (a0 : den (.list tapiNode)) (a1 : den (.int .i64)) : Option (den (.tcons (.list tapiPair) (.tcons (.int .i64) .tnil))) := CF 79 [⟨(.list tapiNode), a0⟩, ⟨(.int .i64), a1⟩] [] (.tcons (.list tapiPair) (.tcons (.int .i64) .tnil)) []
noncomputable def pair_Is (a0 : den (.list tapiPair)) : Option (den .bool) := CF 80 [⟨(.list tapiPair), a0⟩] [] .bool []
noncomputable def pair_Is.l0 (x0 : den (.list tapiPair)) (x1 : den (.int .i64)) (x2 : den (.int .i64)) : Option (den .bool) := loopW [1, 0, 1, 0, 0] (BF (R := den .bool) 80 0 [1, 0, 1, 0, 0]) ⟨[(0, ⟨(.list tapiPair), x0⟩), (5, ⟨(.int .i64), x1⟩), (6, ⟨(.int .i64), x2⟩)], []⟩ (blockK 0 (seqK false [1, 1] (BF 80 0 [1, 1]) (finF 80 .bool [] 0)))
noncomputable def tree_nodes (a0 : den (.list tapiPair)) : Option (den (.tcons (.list tapiNode) (.tcons (.int .i64) .tnil))) := CF 81 [⟨(.list tapiPair), a0⟩] [] (.tcons (.list tapiNode) (.tcons (.int .i64) .tnil)) []
noncomputable def heap_Same (a0 : den (.list tapiNode)) (a1 : den (.int .i64)) (a2 : den (.list tapiNode)) (a3 : den (.int .i64)) : Option (den .bool) := CF 82 [⟨(.list tapiNode), a0⟩, ⟨(.int .i64), a1⟩, ⟨(.list tapiNode), a2⟩, ⟨(.int .i64), a3⟩] [] .bool []
noncomputable def plan_May (a0 : den tplanPlan) : Option (den (.int .i64)) := CF 83 [⟨tplanPlan, a0⟩] [] (.int .i64) []
noncomputable def plan_May.l0 (x0 : den (.list tapiNode)) (x1 : den (.int .i64)) (x2 : den (.int .i64)) (x3 : denO (.box tplanPlan)) : Option (den (.int .i64)) := loopW [1, 0, 1, 0, 0] (BF (R := den (.int .i64)) 83 0 [1, 0, 1, 0, 0]) ⟨[(1, ⟨(.ptr 0 0), ()⟩), (6, ⟨(.list tapiNode), x0⟩), (7, ⟨(.int .i64), x1⟩), (8, ⟨(.int .i64), x2⟩)], [⟨(.box tplanPlan), x3⟩]⟩ (blockK 0 (seqK false [1, 1] (BF 83 0 [1, 1]) (finF 83 (.int .i64) [] 0)))
noncomputable def heap_May (a0 : den (.list tapiNode)) : Option (den (.int .i64)) := CF 84 [⟨(.list tapiNode), a0⟩] [] (.int .i64) []
noncomputable def heap_May.l0 (x0 : den (.list tapiNode)) (x1 : den (.int .i64)) (x2 : den (.int .i64)) : Option (den (.int .i64)) := loopW [1, 0, 1, 0, 0] (BF (R := den (.int .i64)) 84 0 [1, 0, 1, 0, 0]) ⟨[(7, ⟨(.list tapiNode), x0⟩), (8, ⟨(.int .i64), x1⟩), (9, ⟨(.int .i64), x2⟩)], []⟩ (blockK 0 (seqK false [1, 1] (BF 84 0 [1, 1]) (finF 84 (.int .i64) [] 0)))
noncomputable def heap_May.l1 (x0 : den (.int .i64)) (x1 : den (.list tapiNode)) (x2 : den (.int .i64)) (x3 : den (.int .i64)) (x4 : den (.list (.int .i64))) (x5 : den (.int .i64)) (x6 : den (.int .i64)) : Option (den (.int .i64)) := loopW [1, 0, 1, 0, 0, 1, 1, 0, 0, 1, 1, 1, 0, 0] (BF (R := den (.int .i64)) 84 0 [1, 0, 1, 0, 0, 1, 1, 0, 0, 1, 1, 1, 0, 0]) ⟨[(3, ⟨(.int .i64), x0⟩), (7, ⟨(.list tapiNode), x1⟩), (8, ⟨(.int .i64), x2⟩), (9, ⟨(.int .i64), x3⟩), (18, ⟨(.list (.int .i64)), x4⟩), (19, ⟨(.int .i64), x5⟩), (20, ⟨(.int .i64), x6⟩)], []⟩ (blockK 2 (blockK 1 (seqK false [1, 0, 1, 0, 0, 1, 1, 1] (BF 84 0 [1, 0, 1, 0, 0, 1, 1, 1]) (againK [1, 0, 1, 0, 0] (loopW [1, 0, 1, 0, 0] (BF 84 0 [1, 0, 1, 0, 0])) (blockK 0 (seqK false [1, 1] (BF 84 0 [1, 1]) (finF 84 (.int .i64) [] 0)))))))
noncomputable def plan_fits (a0 : den (.list tapiNode)) (a1 : den tplanPlan) : Option (den .bool) := CF 85 [⟨(.list tapiNode), a0⟩, ⟨tplanPlan, a1⟩] [] .bool []
noncomputable def plan_fits.l0 (x0 : den (.list tapiNode)) (x1 : den (.int .i64)) (x2 : den (.int .i64)) (x3 : denO (.box (.list tapiNode))) (x4 : denO (.row 24 (.int .i64) false)) : Option (den .bool) := loopW [1, 1, 0, 1, 0, 0] (BF (R := den .bool) 85 0 [1, 1, 0, 1, 0, 0]) ⟨[(2, ⟨(.ptr 0 0), ()⟩), (5, ⟨(.own (.int .i64) 1), ()⟩), (16, ⟨(.list tapiNode), x0⟩), (17, ⟨(.int .i64), x1⟩), (18, ⟨(.int .i64), x2⟩)], [⟨(.box (.list tapiNode)), x3⟩, ⟨(.row 24 (.int .i64) false), x4⟩]⟩ (blockK 0 (seqK false [1, 1, 1] (BF 85 0 [1, 1, 1]) (finF 85 .bool [] 0)))
noncomputable def plan_Fill_o (a0 : den tapiNode) (a1 : denO (.row 24 (.int .i64) true)) : Option (denR (.tcons tapiNode (.tcons (.int .i64) .tnil)) [(.row 24 (.int .i64) true)]) := CF 87 [⟨tapiNode, a0⟩, ⟨(.own (.int .i64) 0), ()⟩] [⟨(.row 24 (.int .i64) true), a1⟩] (.tcons tapiNode (.tcons (.int .i64) .tnil)) [(.row 24 (.int .i64) true)]
noncomputable def plan_Fill_o.l0 (x0 : den (.int .i64)) (x1 : den (.int .i64)) (x2 : den (.int .i64)) (x3 : denO (.row 24 (.int .i64) true)) (x4 : denO (.box (.pair (.int .i64) (.pair .str (.pair .str (.pair (.int .u32) (.pair (.own (.int .i64) 3) (.pair (.int .i64) (.pair (.own tapiPair 4) tsplithalf))))))))) (x5 : denO (.box (.pair (.int .i64) (.pair .str (.pair .str (.pair (.int .u32) (.pair (.own (.int .i64) 5) (.pair (.int .i64) (.pair (.own tapiPair 6) tsplithalf))))))))) (x6 : denO (.row 24 (.int .i64) false)) (x7 : denO (.row 82 tapiPair false)) (x8 : denO (.row 24 (.int .i64) false)) (x9 : denO (.row 82 tapiPair false)) : Option (denR (.tcons tapiNode (.tcons (.int .i64) .tnil)) [(.row 24 (.int .i64) true)]) := loopW [1, 1, 1, 1, 0, 1, 0, 0] (BF (R := denR (.tcons tapiNode (.tcons (.int .i64) .tnil)) [(.row 24 (.int .i64) true)]) 87 1 [1, 1, 1, 1, 0, 1, 0, 0]) ⟨[(1, ⟨(.own (.int .i64) 0), ()⟩), (2, ⟨(.ptr 1 0), ()⟩), (4, ⟨(.ptr 2 0), ()⟩), (7, ⟨(.int .i64), x0⟩), (24, ⟨(.own (.int .i64) 3), ()⟩), (25, ⟨(.int .i64), x1⟩), (26, ⟨(.int .i64), x2⟩)], [⟨(.row 24 (.int .i64) true), x3⟩, ⟨(.box (.pair (.int .i64) (.pair .str (.pair .str (.pair (.int .u32) (.pair (.own (.int .i64) 3) (.pair (.int .i64) (.pair (.own tapiPair 4) tsplithalf)))))))), x4⟩, ⟨(.box (.pair (.int .i64) (.pair .str (.pair .str (.pair (.int .u32) (.pair (.own (.int .i64) 5) (.pair (.int .i64) (.pair (.own tapiPair 6) tsplithalf)))))))), x5⟩, ⟨(.row 24 (.int .i64) false), x6⟩, ⟨(.row 82 tapiPair false), x7⟩, ⟨(.row 24 (.int .i64) false), x8⟩, ⟨(.row 82 tapiPair false), x9⟩]⟩ (blockK 0 (seqK false [1, 1, 1, 1, 1] (BF 87 1 [1, 1, 1, 1, 1]) (finF 87 (.tcons tapiNode (.tcons (.int .i64) .tnil)) [(.row 24 (.int .i64) true)] 1)))
noncomputable def plan_Ref (a0 : den (.int .i64)) (a1 : den (.list (.int .i64))) : Option (den (.tcons (.int .i64) (.tcons (.int .i64) .tnil))) := CF 88 [⟨(.int .i64), a0⟩, ⟨(.list (.int .i64)), a1⟩] [] (.tcons (.int .i64) (.tcons (.int .i64) .tnil)) []
noncomputable def order_Common (a0 : den .str) (a1 : den .str) : Option (den (.int .i64)) := CF 106 [⟨.str, a0⟩, ⟨.str, a1⟩] [] (.int .i64) []
noncomputable def order_Common.l0 (x0 : den .str) (x1 : den .str) (x2 : den (.int .i64)) (x3 : den (.int .i64)) (x4 : den (.int .i64)) : Option (den (.int .i64)) := loopW [1, 1, 0, 1, 0, 0] (BF (R := den (.int .i64)) 106 0 [1, 1, 0, 1, 0, 0]) ⟨[(0, ⟨.str, x0⟩), (1, ⟨.str, x1⟩), (5, ⟨(.int .i64), x2⟩), (12, ⟨(.int .i64), x3⟩), (13, ⟨(.int .i64), x4⟩)], []⟩ (blockK 0 (seqK false [1, 1, 1] (BF 106 0 [1, 1, 1]) (finF 106 (.int .i64) [] 0)))
noncomputable def ref05_Above (a0 : den .str) (a1 : den .str) : Option (den .bool) := CF 108 [⟨.str, a0⟩, ⟨.str, a1⟩] [] .bool []
noncomputable def split_Split_bottom_1 (a0 : den tsplitstep) (a1 : denO (.box tsplitSplit)) : Option (denR .bool [(.box (.ptr 1 0)), (.box tsplitSplit)]) := CF 100 [⟨tsplitstep, a0⟩, ⟨(.ptr 0 0), ()⟩] [⟨(.box (.ptr 1 0)), ()⟩, ⟨(.box tsplitSplit), a1⟩] .bool [(.box (.ptr 1 0)), (.box tsplitSplit)]
noncomputable def slices_Cloneapi_Pair_api_Pair (a0 : den (.list tapiPair)) : Option (denR (.own tapiPair 0) [(.row 82 tapiPair false)]) := CF 121 [⟨(.list tapiPair), a0⟩] [] (.own tapiPair 0) [(.row 82 tapiPair false)]
noncomputable def ref13_long (a0 : den tapiNode) : Option (den .bool) := CF 125 [⟨tapiNode, a0⟩] [] .bool []
noncomputable def ref13_long.l0 (x0 : den .bool) (x1 : den (.int .i64)) (x2 : denO (.box tapiNode)) : Option (den .bool) := loopW [1, 1, 0, 1, 0, 0] (BF (R := den .bool) 125 0 [1, 1, 0, 1, 0, 0]) ⟨[(1, ⟨(.ptr 0 0), ()⟩), (3, ⟨.bool, x0⟩), (4, ⟨(.int .i64), x1⟩)], [⟨(.box tapiNode), x2⟩]⟩ (blockK 0 (seqK false [1, 1, 1] (BF 125 0 [1, 1, 1]) (finF 125 .bool [] 0)))
noncomputable def ref13_form (a0 : den tapiNode) : Option (den .bool) := CF 126 [⟨tapiNode, a0⟩] [] .bool []
noncomputable def ref13_form.j0 (x0 : den (.int .i64)) (x1 : den .bool) (x2 : denO (.box tapiNode)) : Option (den .bool) := jnO [1, 1, 0, 1, 0, 1] (BF (R := den .bool) 126 0 [1, 1, 0, 1, 0, 1]) ⟨[(1, ⟨(.ptr 0 0), ()⟩), (8, ⟨(.int .i64), x0⟩), (9, ⟨.bool, x1⟩)], [⟨(.box tapiNode), x2⟩]⟩ (blockK 0 (seqK false [1, 1, 1] (BF 126 0 [1, 1, 1]) (finF 126 .bool [] 0)))
noncomputable def ref13_form.l1 (x0 : den (.int .i64)) (x1 : denO (.box tapiNode)) : Option (den .bool) := loopW [1, 1, 0, 1, 0, 1, 1, 1, 0, 0, 1, 0, 0] (BF (R := den .bool) 126 0 [1, 1, 0, 1, 0, 1, 1, 1, 0, 0, 1, 0, 0]) ⟨[(1, ⟨(.ptr 0 0), ()⟩), (3, ⟨(.int .i64), x0⟩)], [⟨(.box tapiNode), x1⟩]⟩ (blockK 1 (seqK false [1, 1, 0, 1, 0, 1, 1, 1, 0, 1] (BF 126 0 [1, 1, 0, 1, 0, 1, 1, 1, 0, 1]) (blockK 0 (seqK false [1, 1, 1] (BF 126 0 [1, 1, 1]) (finF 126 .bool [] 0)))))
noncomputable def ref13_Same (a0 : den tapiNode) (a1 : den tapiNode) : Option (den .bool) := CF 52 [⟨tapiNode, a0⟩, ⟨tapiNode, a1⟩] [] .bool []
noncomputable def node_Tomb (a0 : den .str) (a1 : den .str) : Option (den tapiNode) := CF 127 [⟨.str, a0⟩, ⟨.str, a1⟩] [] tapiNode []
noncomputable def node_Branch (a0 : den (.int .u32)) (a1 : den (.list (.int .i64))) (a2 : den (.int .i64)) : Option (den tapiNode) := CF 128 [⟨(.int .u32), a0⟩, ⟨(.list (.int .i64)), a1⟩, ⟨(.int .i64), a2⟩] [] tapiNode []
noncomputable def node_Bucket (a0 : den (.list tapiPair)) : Option (den tapiNode) := CF 129 [⟨(.list tapiPair), a0⟩] [] tapiNode []
noncomputable def node_Inner (a0 : den (.int .i64)) : Option (den tapiNode) := CF 130 [⟨(.int .i64), a0⟩] [] tapiNode []
noncomputable def node_long_1 (a0 : den tapiPair) : Option (den .bool) := CF 131 [⟨tapiPair, a0⟩] [] .bool []
noncomputable def slices_ContainsFuncapi_Pair_api_Pair (a0 : den (.list tapiPair)) : Option (den .bool) := CF 132 [⟨(.list tapiPair), a0⟩, ⟨(.fn 131 .tnil), ()⟩] [] .bool []
noncomputable def slices_Equalapi_Ref_api_Ref (a0 : den (.list (.int .i64))) (a1 : den (.list (.int .i64))) : Option (den .bool) := CF 133 [⟨(.list (.int .i64)), a0⟩, ⟨(.list (.int .i64)), a1⟩] [] .bool []
noncomputable def slices_Equalapi_Ref_api_Ref.l0 (x0 : den (.list (.int .i64))) (x1 : den (.list (.int .i64))) (x2 : den (.int .i64)) (x3 : den (.int .i64)) : Option (den .bool) := loopW [1, 1, 0, 1, 0, 0] (BF (R := den .bool) 133 0 [1, 1, 0, 1, 0, 0]) ⟨[(0, ⟨(.list (.int .i64)), x0⟩), (1, ⟨(.list (.int .i64)), x1⟩), (12, ⟨(.int .i64), x2⟩), (13, ⟨(.int .i64), x3⟩)], []⟩ (blockK 0 (seqK false [1, 1, 1] (BF 133 0 [1, 1, 1]) (finF 133 .bool [] 0)))
noncomputable def slices_Equalapi_Pair_api_Pair (a0 : den (.list tapiPair)) (a1 : den (.list tapiPair)) : Option (den .bool) := CF 134 [⟨(.list tapiPair), a0⟩, ⟨(.list tapiPair), a1⟩] [] .bool []
noncomputable def slices_Equalapi_Pair_api_Pair.l0 (x0 : den (.list tapiPair)) (x1 : den (.list tapiPair)) (x2 : den (.int .i64)) (x3 : den (.int .i64)) : Option (den .bool) := loopW [1, 1, 0, 1, 0, 0] (BF (R := den .bool) 134 0 [1, 1, 0, 1, 0, 0]) ⟨[(0, ⟨(.list tapiPair), x0⟩), (1, ⟨(.list tapiPair), x1⟩), (12, ⟨(.int .i64), x2⟩), (13, ⟨(.int .i64), x3⟩)], []⟩ (blockK 0 (seqK false [1, 1, 1] (BF 134 0 [1, 1, 1]) (finF 134 .bool [] 0)))
noncomputable def mask_Count (a0 : den (.int .u32)) : Option (den (.int .i64)) := CF 135 [⟨(.int .u32), a0⟩] [] (.int .i64) []
noncomputable def slices_Containsapi_Ref_api_Ref (a0 : den (.list (.int .i64))) (a1 : den (.int .i64)) : Option (den .bool) := CF 136 [⟨(.list (.int .i64)), a0⟩, ⟨(.int .i64), a1⟩] [] .bool []
noncomputable def heap_may (a0 : den (.list tapiNode)) (a1 : den (.int .i64)) : Option (den (.int .i64)) := CF 109 [⟨(.list tapiNode), a0⟩, ⟨(.int .i64), a1⟩] [] (.int .i64) []
noncomputable def heap_binds (a0 : den (.list tapiNode)) (a1 : den (.int .i64)) : Option (denR (.own tapiPair 0) [(.row 82 tapiPair false)]) := CF 110 [⟨(.list tapiNode), a0⟩, ⟨(.int .i64), a1⟩] [] (.own tapiPair 0) [(.row 82 tapiPair false)]
noncomputable def heap_binds.l0 (x0 : den (.list tapiNode)) (x1 : den (.list (.int .i64))) (x2 : den (.int .i64)) (x3 : den (.int .i64)) (x4 : denO (.row 82 tapiPair false)) : Option (denR (.own tapiPair 0) [(.row 82 tapiPair false)]) := loopW [1, 1, 1, 1, 1, 0, 1, 0, 0] (BF (R := denR (.own tapiPair 0) [(.row 82 tapiPair false)]) 110 0 [1, 1, 1, 1, 1, 0, 1, 0, 0]) ⟨[(0, ⟨(.list tapiNode), x0⟩), (6, ⟨(.own tapiPair 0), ()⟩), (38, ⟨(.list (.int .i64)), x1⟩), (39, ⟨(.int .i64), x2⟩), (40, ⟨(.int .i64), x3⟩)], [⟨(.row 82 tapiPair false), x4⟩]⟩ (blockK 0 (seqK false [1, 1, 1, 1, 1, 1] (BF 110 0 [1, 1, 1, 1, 1, 1]) (finF 110 (.own tapiPair 0) [(.row 82 tapiPair false)] 0)))
noncomputable def tree_nodes_1 (a0 : den (.list tapiPair)) (a1 : denO (.box (.fn 111 (.tcons (.ptr 0 0) (.tcons (.ptr 1 0) .tnil))))) (a2 : denO (.row 53 tapiNode true)) : Option (denR (.int .i64) [(.box (.fn 111 (.tcons (.ptr 0 0) (.tcons (.ptr 1 0) .tnil)))), (.box (.own tapiNode 2)), (.row 53 tapiNode false)]) := CF 111 [⟨(.list tapiPair), a0⟩, ⟨(.ptr 0 0), ()⟩, ⟨(.ptr 1 0), ()⟩] [⟨(.box (.fn 111 (.tcons (.ptr 0 0) (.tcons (.ptr 1 0) .tnil)))), a1⟩, ⟨(.box (.own tapiNode 2)), ()⟩, ⟨(.row 53 tapiNode true), a2⟩] (.int .i64) [(.box (.fn 111 (.tcons (.ptr 0 0) (.tcons (.ptr 1 0) .tnil)))), (.box (.own tapiNode 2)), (.row 53 tapiNode false)]
noncomputable def tree_nodes_1.j0 (x0 : den (.list tapiPair)) (x1 : den (.int .i64)) (x2 : den (.int .i64)) (x3 : den (.int .i64)) (x4 : denO (.box (.fn 111 (.tcons (.ptr 0 0) (.tcons (.ptr 1 0) .tnil))))) (x5 : denO (.row 53 tapiNode false)) : Option (denR (.int .i64) [(.box (.fn 111 (.tcons (.ptr 0 0) (.tcons (.ptr 1 0) .tnil)))), (.box (.own tapiNode 2)), (.row 53 tapiNode false)]) := jnO [1, 1, 1, 1] (BF (R := denR (.int .i64) [(.box (.fn 111 (.tcons (.ptr 0 0) (.tcons (.ptr 1 0) .tnil)))), (.box (.own tapiNode 2)), (.row 53 tapiNode false)]) 111 3 [1, 1, 1, 1]) ⟨[(0, ⟨(.list tapiPair), x0⟩), (2, ⟨(.ptr 1 0), ()⟩), (5, ⟨(.int .i64), x1⟩), (6, ⟨(.int .i64), x2⟩), (7, ⟨(.int .i64), x3⟩)], [⟨(.box (.fn 111 (.tcons (.ptr 0 0) (.tcons (.ptr 1 0) .tnil)))), x4⟩, ⟨(.box (.own tapiNode 2)), ()⟩, ⟨(.row 53 tapiNode false), x5⟩]⟩ (finF 111 (.int .i64) [(.box (.fn 111 (.tcons (.ptr 0 0) (.tcons (.ptr 1 0) .tnil)))), (.box (.own tapiNode 2)), (.row 53 tapiNode false)] 3)
noncomputable def heap_same (a0 : den (.list tapiNode)) (a1 : den (.int .i64)) (a2 : den (.list tapiNode)) (a3 : den (.int .i64)) : Option (den .bool) := CF 113 [⟨(.list tapiNode), a0⟩, ⟨(.int .i64), a1⟩, ⟨(.list tapiNode), a2⟩, ⟨(.int .i64), a3⟩] [] .bool []
noncomputable def heap_same.j0 (x0 : den (.list tapiNode)) (x1 : den (.int .i64)) (x2 : den (.list tapiNode)) (x3 : den (.int .i64)) (x4 : den .bool) : Option (den .bool) := jnO [1, 0, 1] (BF (R := den .bool) 113 0 [1, 0, 1]) ⟨[(0, ⟨(.list tapiNode), x0⟩), (1, ⟨(.int .i64), x1⟩), (2, ⟨(.list tapiNode), x2⟩), (3, ⟨(.int .i64), x3⟩), (19, ⟨.bool, x4⟩)], []⟩ (seqK false [1, 1] (BF 113 0 [1, 1]) (finF 113 .bool [] 0))
noncomputable def heap_same.l1 (x0 : den (.list tapiNode)) (x1 : den (.list tapiNode)) (x2 : den (.list (.int .i64))) (x3 : den (.list (.int .i64))) (x4 : den (.int .i64)) (x5 : den (.int .i64)) : Option (den .bool) := loopW [1, 1, 1, 1, 1, 0, 1, 0, 0] (BF (R := den .bool) 113 0 [1, 1, 1, 1, 1, 0, 1, 0, 0]) ⟨[(0, ⟨(.list tapiNode), x0⟩), (2, ⟨(.list tapiNode), x1⟩), (11, ⟨(.list (.int .i64)), x2⟩), (12, ⟨(.list (.int .i64)), x3⟩), (44, ⟨(.int .i64), x4⟩), (45, ⟨(.int .i64), x5⟩)], []⟩ (blockK 0 (seqK false [1, 1, 1, 1, 1, 1] (BF 113 0 [1, 1, 1, 1, 1, 1]) (finF 113 .bool [] 0)))
noncomputable def node_Refs (a0 : den tapiNode) : Option (den (.list (.int .i64))) := CF 115 [⟨tapiNode, a0⟩] [] (.list (.int .i64)) []
noncomputable def node_Refs.l0 (x0 : den (.int .i64)) (x1 : den (.int .i64)) (x2 : denO (.row 24 (.int .i64) false)) (x3 : denO (.row 24 (.int .i64) false)) : Option (den (.list (.int .i64))) := loopW [1, 1, 0, 1, 0, 0] (BF (R := den (.list (.int .i64))) 115 0 [1, 1, 0, 1, 0, 0]) ⟨[(3, ⟨(.own (.int .i64) 0), ()⟩), (12, ⟨(.own (.int .i64) 1), ()⟩), (13, ⟨(.int .i64), x0⟩), (14, ⟨(.int .i64), x1⟩)], [⟨(.row 24 (.int .i64) false), x2⟩, ⟨(.row 24 (.int .i64) false), x3⟩]⟩ (blockK 0 (seqK false [1, 1, 1] (BF 115 0 [1, 1, 1]) (finF 115 (.list (.int .i64)) [] 0)))
noncomputable def slices_ContainsFuncapi_Ref_api_Ref (a0 : den (.list (.int .i64))) (a1 : den (.fn 116 (.tcons (.ptr 0 0) .tnil))) (a2 : denO (.box (.int .i64))) : Option (denR .bool [(.box (.int .i64))]) := CF 114 [⟨(.list (.int .i64)), a0⟩, ⟨(.fn 116 (.tcons (.ptr 0 0) .tnil)), a1⟩] [⟨(.box (.int .i64)), a2⟩] .bool [(.box (.int .i64))]
noncomputable def plan_ahead (a0 : den (.int .i64)) (a1 : den (.int .i64)) : Option (den .bool) := CF 117 [⟨(.int .i64), a0⟩, ⟨(.int .i64), a1⟩] [] .bool []
noncomputable def slices_ContainsFuncapi_Ref_api_Ref_v1 (a0 : den (.list (.int .i64))) : Option (den .bool) := CF 114 [⟨(.list (.int .i64)), a0⟩, ⟨(.fn 118 .tnil), ()⟩] [] .bool []
noncomputable def slices_ContainsFuncapi_Ref_api_Ref_v2 (a0 : den (.list (.int .i64))) (a1 : den (.fn 119 (.tcons (.ptr 0 0) .tnil))) (a2 : denO (.box (.list tapiNode))) : Option (denR .bool [(.box (.list tapiNode))]) := CF 114 [⟨(.list (.int .i64)), a0⟩, ⟨(.fn 119 (.tcons (.ptr 0 0) .tnil)), a1⟩] [⟨(.box (.list tapiNode)), a2⟩] .bool [(.box (.list tapiNode))]
noncomputable def ref_Which (a0 : den (.int .i64)) : Option (den (.tcons (.int .i64) (.tcons .bool .tnil))) := CF 122 [⟨(.int .i64), a0⟩] [] (.tcons (.int .i64) (.tcons .bool .tnil)) []
noncomputable def ref05_Of (a0 : den .str) : Option (den (.int .u64)) := CF 137 [⟨.str, a0⟩] [] (.int .u64) []
noncomputable def pri_Above (a0 : den .str) (a1 : den .str) : Option (den .bool) := CF 92 [⟨.str, a0⟩, ⟨.str, a1⟩] [] .bool []
noncomputable def ref13_bare (a0 : den tapiNode) (a1 : den .bool) (a2 : den .bool) (a3 : den .bool) (a4 : den .bool) : Option (den .bool) := CF 145 [⟨tapiNode, a0⟩, ⟨.bool, a1⟩, ⟨.bool, a2⟩, ⟨.bool, a3⟩, ⟨.bool, a4⟩] [] .bool []
noncomputable def ref07_Is (a0 : den (.list tapiPair)) : Option (den .bool) := CF 147 [⟨(.list tapiPair), a0⟩] [] .bool []
noncomputable def ref07_Is.l0 (x0 : den (.list tapiPair)) (x1 : den (.int .i64)) : Option (den .bool) := loopW [1, 0, 1, 0, 0] (BF (R := den .bool) 147 0 [1, 0, 1, 0, 0]) ⟨[(0, ⟨(.list tapiPair), x0⟩), (3, ⟨(.int .i64), x1⟩)], []⟩ (blockK 0 (seqK false [1, 1] (BF 147 0 [1, 1]) (finF 147 .bool [] 0)))
noncomputable def ref06_All (a0 : den (.int .u32)) : Option (den (.list (.int .i64))) := CF 146 [⟨(.int .u32), a0⟩] [] (.list (.int .i64)) []
noncomputable def ref06_All.l0 (x0 : den (.int .u32)) (x1 : den (.int .i64)) (x2 : denO (.row 3 (.int .i64) false)) : Option (den (.list (.int .i64))) := loopW [1, 1, 0, 1, 0, 0] (BF (R := den (.list (.int .i64))) 146 0 [1, 1, 0, 1, 0, 0]) ⟨[(0, ⟨(.int .u32), x0⟩), (3, ⟨(.own (.int .i64) 0), ()⟩), (4, ⟨(.int .i64), x1⟩)], [⟨(.row 3 (.int .i64) false), x2⟩]⟩ (blockK 0 (seqK false [1, 1, 1] (BF 146 0 [1, 1, 1]) (finF 146 (.list (.int .i64)) [] 0)))
noncomputable def ref13_SameRefs (a0 : den (.list (.int .i64))) (a1 : den (.list (.int .i64))) : Option (den .bool) := CF 89 [⟨(.list (.int .i64)), a0⟩, ⟨(.list (.int .i64)), a1⟩] [] .bool []
noncomputable def ref13_SameRefs.l0 (x0 : den (.list (.int .i64))) (x1 : den (.list (.int .i64))) (x2 : den (.int .i64)) : Option (den .bool) := loopW [1, 1, 0, 1, 0, 0] (BF (R := den .bool) 89 0 [1, 1, 0, 1, 0, 0]) ⟨[(0, ⟨(.list (.int .i64)), x0⟩), (1, ⟨(.list (.int .i64)), x1⟩), (5, ⟨(.int .i64), x2⟩)], []⟩ (blockK 0 (seqK false [1, 1, 1] (BF 89 0 [1, 1, 1]) (finF 89 .bool [] 0)))
noncomputable def ref07_Same (a0 : den (.list tapiPair)) (a1 : den (.list tapiPair)) : Option (den .bool) := CF 17 [⟨(.list tapiPair), a0⟩, ⟨(.list tapiPair), a1⟩] [] .bool []
noncomputable def ref07_Same.l0 (x0 : den (.list tapiPair)) (x1 : den (.list tapiPair)) (x2 : den (.int .i64)) : Option (den .bool) := loopW [1, 1, 0, 1, 0, 0] (BF (R := den .bool) 17 0 [1, 1, 0, 1, 0, 0]) ⟨[(0, ⟨(.list tapiPair), x0⟩), (1, ⟨(.list tapiPair), x1⟩), (5, ⟨(.int .i64), x2⟩)], []⟩ (blockK 0 (seqK false [1, 1, 1] (BF 17 0 [1, 1, 1]) (finF 17 .bool [] 0)))
noncomputable def pair_Make (a0 : den (.list tapiPair)) : Option (den (.list tapiPair)) := CF 148 [⟨(.list tapiPair), a0⟩] [] (.list tapiPair) []
noncomputable def pair_Make.l0 (x0 : den (.list tapiPair)) (x1 : den (.int .i64)) (x2 : den (.int .i64)) (x3 : denO (.row 82 tapiPair false)) : Option (den (.list tapiPair)) := loopW [1, 1, 0, 1, 0, 0] (BF (R := den (.list tapiPair)) 148 0 [1, 1, 0, 1, 0, 0]) ⟨[(3, ⟨(.own tapiPair 0), ()⟩), (6, ⟨(.list tapiPair), x0⟩), (7, ⟨(.int .i64), x1⟩), (8, ⟨(.int .i64), x2⟩)], [⟨(.row 82 tapiPair false), x3⟩]⟩ (blockK 0 (seqK false [1, 1, 1] (BF 148 0 [1, 1, 1]) (finF 148 (.list tapiPair) [] 0)))
noncomputable def slices_IndexFuncapi_Pair_api_Pair (a0 : den (.list tapiPair)) : Option (den (.int .i64)) := CF 149 [⟨(.list tapiPair), a0⟩, ⟨(.fn 131 .tnil), ()⟩] [] (.int .i64) []
noncomputable def slices_IndexFuncapi_Pair_api_Pair.l0 (x0 : den (.list tapiPair)) (x1 : den (.int .i64)) (x2 : den (.int .i64)) : Option (den (.int .i64)) := loopW [1, 0, 1, 0, 0] (BF (R := den (.int .i64)) 149 0 [1, 0, 1, 0, 0]) ⟨[(0, ⟨(.list tapiPair), x0⟩), (1, ⟨(.fn 131 .tnil), ()⟩), (7, ⟨(.int .i64), x1⟩), (8, ⟨(.int .i64), x2⟩)], []⟩ (blockK 0 (seqK false [1, 1] (BF 149 0 [1, 1]) (finF 149 (.int .i64) [] 0)))
noncomputable def math_bits_OnesCount32 (a0 : den (.int .u32)) : Option (den (.int .i64)) := CF 150 [⟨(.int .u32), a0⟩] [] (.int .i64) []
noncomputable def slices_Indexapi_Ref_api_Ref (a0 : den (.list (.int .i64))) (a1 : den (.int .i64)) : Option (den (.int .i64)) := CF 151 [⟨(.list (.int .i64)), a0⟩, ⟨(.int .i64), a1⟩] [] (.int .i64) []
noncomputable def slices_Indexapi_Ref_api_Ref.l0 (x0 : den (.list (.int .i64))) (x1 : den (.int .i64)) (x2 : den (.int .i64)) (x3 : den (.int .i64)) : Option (den (.int .i64)) := loopW [1, 0, 1, 0, 0] (BF (R := den (.int .i64)) 151 0 [1, 0, 1, 0, 0]) ⟨[(0, ⟨(.list (.int .i64)), x0⟩), (1, ⟨(.int .i64), x1⟩), (7, ⟨(.int .i64), x2⟩), (8, ⟨(.int .i64), x3⟩)], []⟩ (blockK 0 (seqK false [1, 1] (BF 151 0 [1, 1]) (finF 151 (.int .i64) [] 0)))
noncomputable def node_Binds (a0 : den tapiNode) : Option (denR (.own tapiPair 0) [(.row 82 tapiPair false)]) := CF 138 [⟨tapiNode, a0⟩] [] (.own tapiPair 0) [(.row 82 tapiPair false)]
noncomputable def tree_top (a0 : den (.list tapiPair)) : Option (den (.int .i64)) := CF 112 [⟨(.list tapiPair), a0⟩] [] (.int .i64) []
noncomputable def tree_top.l0 (x0 : den (.list tapiPair)) (x1 : den (.int .i64)) (x2 : den (.int .i64)) (x3 : denO (.row 9 .str false)) : Option (den (.int .i64)) := loopW [1, 1, 0, 1, 0, 0] (BF (R := den (.int .i64)) 112 0 [1, 1, 0, 1, 0, 0]) ⟨[(3, ⟨(.own .str 0), ()⟩), (8, ⟨(.list tapiPair), x0⟩), (9, ⟨(.int .i64), x1⟩), (10, ⟨(.int .i64), x2⟩)], [⟨(.row 9 .str false), x3⟩]⟩ (blockK 0 (seqK false [1, 1, 1] (BF 112 0 [1, 1, 1]) (finF 112 (.int .i64) [] 0)))
noncomputable def heap_bare (a0 : den tapiNode) : Option (den tapiNode) := CF 141 [⟨tapiNode, a0⟩] [] tapiNode []
noncomputable def heap_bare.l0 (x0 : den (.int .i64)) (x1 : den (.int .i64)) (x2 : denO (.box (.pair (.int .i64) (.pair .str (.pair .str (.pair (.int .u32) (.pair (.own (.int .i64) 2) (.pair (.int .i64) (.pair (.own tapiPair 3) tsplithalf))))))))) (x3 : denO (.box (.pair (.int .i64) (.pair .str (.pair .str (.pair (.int .u32) (.pair (.own (.int .i64) 4) (.pair (.int .i64) (.pair (.own tapiPair 5) tsplithalf))))))))) (x4 : denO (.row 24 (.int .i64) false)) (x5 : denO (.row 82 tapiPair false)) (x6 : denO (.row 24 (.int .i64) false)) (x7 : denO (.row 82 tapiPair false)) : Option (den tapiNode) := loopW [1, 1, 0, 1, 0, 0] (BF (R := den tapiNode) 141 0 [1, 1, 0, 1, 0, 0]) ⟨[(1, ⟨(.ptr 0 0), ()⟩), (2, ⟨(.ptr 1 0), ()⟩), (8, ⟨(.int .i64), x0⟩), (9, ⟨(.int .i64), x1⟩)], [⟨(.box (.pair (.int .i64) (.pair .str (.pair .str (.pair (.int .u32) (.pair (.own (.int .i64) 2) (.pair (.int .i64) (.pair (.own tapiPair 3) tsplithalf)))))))), x2⟩, ⟨(.box (.pair (.int .i64) (.pair .str (.pair .str (.pair (.int .u32) (.pair (.own (.int .i64) 4) (.pair (.int .i64) (.pair (.own tapiPair 5) tsplithalf)))))))), x3⟩, ⟨(.row 24 (.int .i64) false), x4⟩, ⟨(.row 82 tapiPair false), x5⟩, ⟨(.row 24 (.int .i64) false), x6⟩, ⟨(.row 82 tapiPair false), x7⟩]⟩ (blockK 0 (seqK false [1, 1, 1] (BF 141 0 [1, 1, 1]) (finF 141 tapiNode [] 0)))
noncomputable def slices_IndexFuncapi_Ref_api_Ref (a0 : den (.list (.int .i64))) (a1 : den (.fn 116 (.tcons (.ptr 0 0) .tnil))) (a2 : denO (.box (.int .i64))) : Option (denR (.int .i64) [(.box (.int .i64))]) := CF 142 [⟨(.list (.int .i64)), a0⟩, ⟨(.fn 116 (.tcons (.ptr 0 0) .tnil)), a1⟩] [⟨(.box (.int .i64)), a2⟩] (.int .i64) [(.box (.int .i64))]
noncomputable def slices_IndexFuncapi_Ref_api_Ref.l0 (x0 : den (.list (.int .i64))) (x1 : den (.fn 116 (.tcons (.ptr 0 0) .tnil))) (x2 : den (.int .i64)) (x3 : den (.int .i64)) (x4 : denO (.box (.int .i64))) : Option (denR (.int .i64) [(.box (.int .i64))]) := loopW [1, 0, 1, 0, 0] (BF (R := denR (.int .i64) [(.box (.int .i64))]) 142 1 [1, 0, 1, 0, 0]) ⟨[(0, ⟨(.list (.int .i64)), x0⟩), (1, ⟨(.fn 116 (.tcons (.ptr 0 0) .tnil)), x1⟩), (7, ⟨(.int .i64), x2⟩), (8, ⟨(.int .i64), x3⟩)], [⟨(.box (.int .i64)), x4⟩]⟩ (blockK 0 (seqK false [1, 1] (BF 142 1 [1, 1]) (finF 142 (.int .i64) [(.box (.int .i64))] 1)))
noncomputable def slices_IndexFuncapi_Ref_api_Ref_v1 (a0 : den (.list (.int .i64))) : Option (den (.int .i64)) := CF 142 [⟨(.list (.int .i64)), a0⟩, ⟨(.fn 118 .tnil), ()⟩] [] (.int .i64) []
noncomputable def slices_IndexFuncapi_Ref_api_Ref_v1.l0 (x0 : den (.list (.int .i64))) (x1 : den (.int .i64)) (x2 : den (.int .i64)) : Option (den (.int .i64)) := loopW [1, 0, 1, 0, 0] (BF (R := den (.int .i64)) 142 0 [1, 0, 1, 0, 0]) ⟨[(0, ⟨(.list (.int .i64)), x0⟩), (1, ⟨(.fn 118 .tnil), ()⟩), (7, ⟨(.int .i64), x1⟩), (8, ⟨(.int .i64), x2⟩)], []⟩ (blockK 0 (seqK false [1, 1] (BF 142 0 [1, 1]) (finF 142 (.int .i64) [] 0)))
noncomputable def slices_IndexFuncapi_Ref_api_Ref_v2 (a0 : den (.list (.int .i64))) (a1 : den (.fn 119 (.tcons (.ptr 0 0) .tnil))) (a2 : denO (.box (.list tapiNode))) : Option (denR (.int .i64) [(.box (.list tapiNode))]) := CF 142 [⟨(.list (.int .i64)), a0⟩, ⟨(.fn 119 (.tcons (.ptr 0 0) .tnil)), a1⟩] [⟨(.box (.list tapiNode)), a2⟩] (.int .i64) [(.box (.list tapiNode))]
noncomputable def slices_IndexFuncapi_Ref_api_Ref_v2.l0 (x0 : den (.list (.int .i64))) (x1 : den (.fn 119 (.tcons (.ptr 0 0) .tnil))) (x2 : den (.int .i64)) (x3 : den (.int .i64)) (x4 : denO (.box (.list tapiNode))) : Option (denR (.int .i64) [(.box (.list tapiNode))]) := loopW [1, 0, 1, 0, 0] (BF (R := denR (.int .i64) [(.box (.list tapiNode))]) 142 1 [1, 0, 1, 0, 0]) ⟨[(0, ⟨(.list (.int .i64)), x0⟩), (1, ⟨(.fn 119 (.tcons (.ptr 0 0) .tnil)), x1⟩), (7, ⟨(.int .i64), x2⟩), (8, ⟨(.int .i64), x3⟩)], [⟨(.box (.list tapiNode)), x4⟩]⟩ (blockK 0 (seqK false [1, 1] (BF 142 1 [1, 1]) (finF 142 (.int .i64) [(.box (.list tapiNode))] 1)))
noncomputable def ref_Kind (a0 : den (.int .i64)) : Option (den (.int .i64)) := CF 143 [⟨(.int .i64), a0⟩] [] (.int .i64) []
noncomputable def ref04_Of (a0 : den .str) (a1 : den (.int .i64)) : Option (den (.int .u64)) := CF 152 [⟨.str, a0⟩, ⟨(.int .i64), a1⟩] [] (.int .u64) []
noncomputable def ref04_Of.l0 (x0 : den .str) (x1 : den (.int .i64)) (x2 : den (.int .u64)) (x3 : den (.int .i64)) : Option (den (.int .u64)) := loopW [1, 1, 0, 1, 0, 0] (BF (R := den (.int .u64)) 152 0 [1, 1, 0, 1, 0, 0]) ⟨[(0, ⟨.str, x0⟩), (1, ⟨(.int .i64), x1⟩), (5, ⟨(.int .u64), x2⟩), (6, ⟨(.int .i64), x3⟩)], []⟩ (blockK 0 (seqK false [1, 1, 1] (BF 152 0 [1, 1, 1]) (finF 152 (.int .u64) [] 0)))
noncomputable def ref04_Of.l1 (x0 : den (.int .i64)) (x1 : den (.int .u64)) (x2 : den (.int .u64)) (x3 : den (.int .u64)) (x4 : den (.int .i64)) : Option (den (.int .u64)) := loopW [1, 1, 1, 1, 0, 1, 0, 0] (BF (R := den (.int .u64)) 152 0 [1, 1, 1, 1, 0, 1, 0, 0]) ⟨[(1, ⟨(.int .i64), x0⟩), (5, ⟨(.int .u64), x1⟩), (7, ⟨(.int .u64), x2⟩), (8, ⟨(.int .u64), x3⟩), (9, ⟨(.int .i64), x4⟩)], []⟩ (blockK 2 (seqK false [1, 1, 1, 1, 1] (BF 152 0 [1, 1, 1, 1, 1]) (finF 152 (.int .u64) [] 0)))
noncomputable def ref05_down (a0 : den (.int .u64)) (a1 : den (.int .i64)) : Option (den (.int .u64)) := CF 153 [⟨(.int .u64), a0⟩, ⟨(.int .i64), a1⟩] [] (.int .u64) []
noncomputable def ref05_down.l0 (x0 : den (.int .u64)) (x1 : den (.int .i64)) (x2 : den (.int .i64)) : Option (den (.int .u64)) := loopW [1, 0, 1, 0, 0] (BF (R := den (.int .u64)) 153 0 [1, 0, 1, 0, 0]) ⟨[(0, ⟨(.int .u64), x0⟩), (1, ⟨(.int .i64), x1⟩), (5, ⟨(.int .i64), x2⟩)], []⟩ (blockK 0 (seqK false [1, 1] (BF 153 0 [1, 1]) (finF 153 (.int .u64) [] 0)))
noncomputable def pri_Of (a0 : den .str) : Option (den (.int .u64)) := CF 124 [⟨.str, a0⟩] [] (.int .u64) []
noncomputable def ref06_Has (a0 : den (.int .u32)) (a1 : den (.int .i64)) : Option (den .bool) := CF 156 [⟨(.int .u32), a0⟩, ⟨(.int .i64), a1⟩] [] .bool []
noncomputable def ref06_Has.l0 (x0 : den (.int .u32)) (x1 : den (.int .i64)) (x2 : den (.int .i64)) : Option (den .bool) := loopW [1, 0, 1, 0, 0] (BF (R := den .bool) 156 0 [1, 0, 1, 0, 0]) ⟨[(0, ⟨(.int .u32), x0⟩), (1, ⟨(.int .i64), x1⟩), (5, ⟨(.int .i64), x2⟩)], []⟩ (blockK 0 (seqK false [1, 1] (BF 156 0 [1, 1]) (finF 156 .bool [] 0)))
noncomputable def pair_put (a0 : den (.list tapiPair)) (a1 : den tapiPair) : Option (denR (.own tapiPair 0) [(.row 82 tapiPair false)]) := CF 157 [⟨(.list tapiPair), a0⟩, ⟨tapiPair, a1⟩] [] (.own tapiPair 0) [(.row 82 tapiPair false)]
noncomputable def pri_Top (a0 : den (.list .str)) : Option (den (.tcons .str (.tcons .bool .tnil))) := CF 139 [⟨(.list .str), a0⟩] [] (.tcons .str (.tcons .bool .tnil)) []
noncomputable def pri_Top.l0 (x0 : den (.list .str)) (x1 : den .str) (x2 : den (.list .str)) (x3 : den (.int .i64)) (x4 : den (.int .i64)) : Option (den (.tcons .str (.tcons .bool .tnil))) := loopW [1, 1, 0, 1, 0, 0] (BF (R := den (.tcons .str (.tcons .bool .tnil))) 139 0 [1, 1, 0, 1, 0, 0]) ⟨[(0, ⟨(.list .str), x0⟩), (4, ⟨.str, x1⟩), (7, ⟨(.list .str), x2⟩), (8, ⟨(.int .i64), x3⟩), (9, ⟨(.int .i64), x4⟩)], []⟩ (blockK 0 (seqK false [1, 1, 1] (BF 139 0 [1, 1, 1]) (finF 139 (.tcons .str (.tcons .bool .tnil)) [] 0)))
noncomputable def slices_Indexstring_string (a0 : den (.list .str)) (a1 : den .str) : Option (den (.int .i64)) := CF 140 [⟨(.list .str), a0⟩, ⟨.str, a1⟩] [] (.int .i64) []
noncomputable def slices_Indexstring_string.l0 (x0 : den (.list .str)) (x1 : den .str) (x2 : den (.int .i64)) (x3 : den (.int .i64)) : Option (den (.int .i64)) := loopW [1, 0, 1, 0, 0] (BF (R := den (.int .i64)) 140 0 [1, 0, 1, 0, 0]) ⟨[(0, ⟨(.list .str), x0⟩), (1, ⟨.str, x1⟩), (7, ⟨(.int .i64), x2⟩), (8, ⟨(.int .i64), x3⟩)], []⟩ (blockK 0 (seqK false [1, 1] (BF 140 0 [1, 1]) (finF 140 (.int .i64) [] 0)))
noncomputable def plan_May_1 (a0 : den (.int .i64)) (a1 : denO (.box (.int .i64))) : Option (denR .bool [(.box (.int .i64))]) := CF 116 [⟨(.int .i64), a0⟩, ⟨(.ptr 0 0), ()⟩] [⟨(.box (.int .i64)), a1⟩] .bool [(.box (.int .i64))]
noncomputable def plan_May_2 (a0 : den (.int .i64)) : Option (den .bool) := CF 118 [⟨(.int .i64), a0⟩] [] .bool []
noncomputable def plan_fits_1 (a0 : den (.int .i64)) (a1 : denO (.box (.list tapiNode))) : Option (denR .bool [(.box (.list tapiNode))]) := CF 119 [⟨(.int .i64), a0⟩, ⟨(.ptr 0 0), ()⟩] [⟨(.box (.list tapiNode)), a1⟩] .bool [(.box (.list tapiNode))]
noncomputable def ref_Make (a0 : den (.int .i64)) (a1 : den (.int .i64)) : Option (den (.tcons (.int .i64) (.tcons (.int .i64) .tnil))) := CF 154 [⟨(.int .i64), a0⟩, ⟨(.int .i64), a1⟩] [] (.tcons (.int .i64) (.tcons (.int .i64) .tnil)) []
noncomputable def ref04_clamp (a0 : den (.int .i64)) : Option (den (.int .i64)) := CF 158 [⟨(.int .i64), a0⟩] [] (.int .i64) []
noncomputable def hash_Of (a0 : den .str) (a1 : den (.int .i64)) : Option (den (.int .u64)) := CF 144 [⟨.str, a0⟩, ⟨(.int .i64), a1⟩] [] (.int .u64) []
noncomputable def hash_Of.l0 (x0 : den .str) (x1 : den (.int .i64)) (x2 : den (.int .u64)) (x3 : den (.int .i64)) (x4 : den (.int .i64)) : Option (den (.int .u64)) := loopW [1, 1, 0, 1, 0, 0] (BF (R := den (.int .u64)) 144 0 [1, 1, 0, 1, 0, 0]) ⟨[(0, ⟨.str, x0⟩), (1, ⟨(.int .i64), x1⟩), (5, ⟨(.int .u64), x2⟩), (8, ⟨(.int .i64), x3⟩), (9, ⟨(.int .i64), x4⟩)], []⟩ (blockK 0 (seqK false [1, 1, 1] (BF 144 0 [1, 1, 1]) (finF 144 (.int .u64) [] 0)))
noncomputable def pair_place (a0 : den (.list tapiPair)) (a1 : den .str) : Option (den (.tcons (.int .i64) (.tcons .bool .tnil))) := CF 160 [⟨(.list tapiPair), a0⟩, ⟨.str, a1⟩] [] (.tcons (.int .i64) (.tcons .bool .tnil)) []
noncomputable def slices_Insertapi_Pair_api_Pair (a0 : den (.int .i64)) (a1 : denO (.row 82 tapiPair true)) (a2 : denO (.row 82 tapiPair true)) : Option (denR (.own tapiPair 0) [(.row 82 tapiPair false), (.row 82 tapiPair true)]) := CF 161 [⟨(.own tapiPair 0), ()⟩, ⟨(.int .i64), a0⟩, ⟨(.own tapiPair 1), ()⟩] [⟨(.row 82 tapiPair true), a1⟩, ⟨(.row 82 tapiPair true), a2⟩] (.own tapiPair 0) [(.row 82 tapiPair false), (.row 82 tapiPair true)]
noncomputable def plan_has (a0 : den (.list tapiNode)) (a1 : den (.int .i64)) : Option (den .bool) := CF 120 [⟨(.list tapiNode), a0⟩, ⟨(.int .i64), a1⟩] [] .bool []
noncomputable def hash_cut (a0 : den (.int .u64)) (a1 : den (.int .i64)) : Option (den (.int .u64)) := CF 155 [⟨(.int .u64), a0⟩, ⟨(.int .i64), a1⟩] [] (.int .u64) []
noncomputable def slices_BinarySearchFuncapi_Pair_api_Pair_string (a0 : den (.list tapiPair)) (a1 : den .str) : Option (den (.tcons (.int .i64) (.tcons .bool .tnil))) := CF 162 [⟨(.list tapiPair), a0⟩, ⟨.str, a1⟩, ⟨(.fn 163 .tnil), ()⟩] [] (.tcons (.int .i64) (.tcons .bool .tnil)) []
noncomputable def slices_BinarySearchFuncapi_Pair_api_Pair_string.l0 (x0 : den (.list tapiPair)) (x1 : den .str) (x2 : den (.int .i64)) (x3 : den (.int .i64)) (x4 : den (.int .i64)) : Option (den (.tcons (.int .i64) (.tcons .bool .tnil))) := loopW [1, 1, 1, 0, 0, 0] (BF (R := den (.tcons (.int .i64) (.tcons .bool .tnil))) 162 0 [1, 1, 1, 0, 0, 0]) ⟨[(0, ⟨(.list tapiPair), x0⟩), (1, ⟨.str, x1⟩), (2, ⟨(.fn 163 .tnil), ()⟩), (8, ⟨(.int .i64), x2⟩), (9, ⟨(.int .i64), x3⟩), (10, ⟨(.int .i64), x4⟩)], []⟩ (blockK 0 (seqK false [1, 1, 1, 1] (BF 162 0 [1, 1, 1, 1]) (finF 162 (.tcons (.int .i64) (.tcons .bool .tnil)) [] 0)))
noncomputable def hash_within (a0 : den (.int .i64)) : Option (den (.int .i64)) := CF 159 [⟨(.int .i64), a0⟩] [] (.int .i64) []
noncomputable def pair_place_1 (a0 : den tapiPair) (a1 : den .str) : Option (den (.int .i64)) := CF 163 [⟨tapiPair, a0⟩, ⟨.str, a1⟩] [] (.int .i64) []
end Go.Proofs.YtmopkbmcilolgaaGreat.AH
set_option maxRecDepth 100000
set_option linter.unusedVariables false
namespace Go.Proofs.YtmopkbmcilolgaaGreat.AH
open Go.Abs
theorem law27_SplitOld.eq (a0 : den (.list tapiPair)) (a1 : den (.int .u8)) (a2 : den .str) (a3 : den .str) (a4 : den .str) : law27_SplitOld a0 a1 a2 a3 a4 =
  bnd (law27_works) fun r0 =>
  br (notB r0)
   (some false)
   (bnd (law27_made a0) fun r1 =>
   bnd (base_Cut a2 (16 : Int)) fun r2 =>
   bnd (base_Cut a3 (16 : Int)) fun r3 =>
   br (notB r1.2.2.2.1)
    (some true)
    (br (notB (eqI (3 : Int) (0 : Int))) (bnd (split_New r1.2.2.1 (addI .i64 (1 : Int) (wrapI .i64 (remI a1 (3 : Int)))) r2 r3 a4) fun r4 =>
    bnd (law27_fed r1.2.1 r4.2.1 r4.2.2.1) fun r5 =>
    bnd (split_Split_Answer r5.2.1 r5.2.2.1) fun r6 =>
    bnd (ref07_Get r1.1 r2) fun r7 =>
    bnd (split_Split_Plan r6.2.1 r6.2.2.1) fun r8 =>
    bnd (node_Tree (ByteArray.mk #[97]) ByteArray.empty (0 : Int) (0 : Int) (1 : Int)) fun r9 =>
    bnd (split_Split_Feed_o r9) fun r10 =>
    bnd (split_Split_Plan_o) fun r11 =>
    br (notB r5.1.2.1)
     (law27_SplitOld.j0 r1.2.1 r1.2.2.1 r5.1.1 r8.1.2.1 true ((), (r8.1.1.2.1, ((), ()))) r8.2.2.2.1 r8.2.2.2.2.1)
     (bnd (ref27_Deep r1.1) fun r12 =>
     br (ltI r12 r5.1.1)
      (law27_SplitOld.j0 r1.2.1 r1.2.2.1 r5.1.1 r8.1.2.1 true ((), (r8.1.1.2.1, ((), ()))) r8.2.2.2.1 r8.2.2.2.2.1)
      (br (notB (eqS r6.1.1 r7.1))
       (law27_SplitOld.j0 r1.2.1 r1.2.2.1 r5.1.1 r8.1.2.1 true ((), (r8.1.1.2.1, ((), ()))) r8.2.2.2.1 r8.2.2.2.2.1)
       (br (notB (eqB r6.1.2.1 r7.2.1))
        (law27_SplitOld.j0 r1.2.1 r1.2.2.1 r5.1.1 r8.1.2.1 true ((), (r8.1.1.2.1, ((), ()))) r8.2.2.2.1 r8.2.2.2.2.1)
        (bnd (ref23_Changes (addI .i64 (1 : Int) (wrapI .i64 (remI a1 (3 : Int)))) a4 r7.1 r7.2.1) fun r13 =>
        br (notB (eqB r8.1.2.1 r13))
         (law27_SplitOld.j0 r1.2.1 r1.2.2.1 r5.1.1 r8.1.2.1 true ((), (r8.1.1.2.1, ((), ()))) r8.2.2.2.1 r8.2.2.2.2.1)
         (br r11.2.1
          (law27_SplitOld.j0 r1.2.1 r1.2.2.1 r5.1.1 r8.1.2.1 true ((), (r8.1.1.2.1, ((), ()))) r8.2.2.2.1 r8.2.2.2.2.1)
          (bnd (split_Split_Want_o) fun r14 =>
          law27_SplitOld.j0 r1.2.1 r1.2.2.1 r5.1.1 r8.1.2.1 (notB (eqI r14 (0 : Int))) ((), (r8.1.1.2.1, ((), ()))) r8.2.2.2.1 r8.2.2.2.2.1))))))) none)) :=
  (callW_eq (P := PP) (T := TT) (pr := RR) 8 [⟨(.list tapiPair), a0⟩, ⟨(.int .u8), a1⟩, ⟨.str, a2⟩, ⟨.str, a3⟩, ⟨.str, a4⟩] [] .bool []).trans (by kernel_rfl)
theorem law27_SplitOld.j0.eq (x0 : den (.list tapiNode)) (x1 : den (.int .i64)) (x2 : den (.int .i64)) (x3 : den .bool) (x4 : den .bool) (x5 : denO (.box (.pair (.own tapiNode 1) (.pair (.int .i64) (.pair (.own (.int .i64) 2) .unit))))) (x6 : denO (.row 53 tapiNode false)) (x7 : denO (.row 24 (.int .i64) false)) : law27_SplitOld.j0 x0 x1 x2 x3 x4 x5 x6 x7 =
  br x4
   (some false)
   (br (notB x3)
    (br (eqI (addI .i64 (ofN (lenL tapiNode x6)) (ofN (lenL (.int .i64) x7))) (0 : Int))
     (some (eqI x5.2.1 (0 : Int)))
     (some false))
    (bnd (ref18_Do x0 (x6, (x5.2.1, (x7, ())))) fun r0 =>
    br (notB r0.2.2.1)
     (some false)
     (bnd (ref23_Gone x0 x1 r0.1 r0.2.1) fun r1 =>
     bnd (ref23_SameSet x7 r1) fun r2 =>
     br (notB r2)
      (some false)
      (br (ltI (addI .i64 x2 (1 : Int)) (ofN (lenL tapiNode x6)))
       (some false)
       (bnd (ref17_Refs r0.1 r0.2.1) fun r3 =>
       law27_SplitOld.l1 x0 r0.1 r0.2.1 r3 (0 : Int) (0 : Int) (x6, (x5.2.1, (x7, ())))))))) :=
  (congrFun (congrFun (jnO_eq [1, 1, 1, 1, 1, 1, 1, 1, 1, 1, 1, 1, 1, 1, 0, 1] (BF (R := den .bool) 8 0 [1, 1, 1, 1, 1, 1, 1, 1, 1, 1, 1, 1, 1, 1, 0, 1])) ⟨[(11, ⟨(.list tapiNode), x0⟩), (12, ⟨(.int .i64), x1⟩), (16, ⟨(.int .i64), x2⟩), (22, ⟨(.ptr 0 0), ()⟩), (23, ⟨.bool, x3⟩), (121, ⟨.bool, x4⟩)], [⟨(.box (.pair (.own tapiNode 1) (.pair (.int .i64) (.pair (.own (.int .i64) 2) .unit)))), x5⟩, ⟨(.row 53 tapiNode false), x6⟩, ⟨(.row 24 (.int .i64) false), x7⟩]⟩) (seqK false [1, 1, 1, 1, 1, 1, 1, 1, 1, 1, 1, 1, 1, 1, 1] (BF 8 0 [1, 1, 1, 1, 1, 1, 1, 1, 1, 1, 1, 1, 1, 1, 1]) (finF 8 .bool [] 0))).trans (by kernel_rfl)
theorem law27_SplitOld.l1.eq (x0 : den (.list tapiNode)) (x1 : den (.list tapiNode)) (x2 : den (.int .i64)) (x3 : den (.list (.int .i64))) (x4 : den (.int .i64)) (x5 : den (.int .i64)) (x6 : denO (.box tplanPlan)) : law27_SplitOld.l1 x0 x1 x2 x3 x4 x5 x6 =
  br (ltI x5 (ofN (lenL (.int .i64) x3)))
   (br (andB (leI (0 : Int) x5) (ltI x5 (ofN (lenL (.int .i64) x3)))) (br (ltI (ofN (lenL tapiNode x0)) (ixL (.int .i64) x3 x5))
    (law27_SplitOld.l1 x0 x1 x2 x3 (addI .i64 x4 (1 : Int)) (addI .i64 x5 (1 : Int)) x6)
    (law27_SplitOld.l1 x0 x1 x2 x3 x4 (addI .i64 x5 (1 : Int)) x6)) none)
   (br (eqI x4 (ofN (lenL tapiNode x6.1)))
    (bnd (ref25_Is x1 x2) fun r0 =>
    some r0)
    (some false)) :=
  (loopB_eq (P := PP) (T := TT) (C := CF) [1, 1, 1, 1, 1, 1, 1, 1, 1, 1, 1, 1, 1, 1, 1, 1, 1, 1, 1, 0, 1, 0, 0] [1, 1, 1, 1, 1, 1, 1, 1, 1, 1, 1, 1, 1, 1, 1, 1, 1, 1, 1, 0, 1, 0, 0] 8 0 ⟨[(11, ⟨(.list tapiNode), x0⟩), (22, ⟨(.ptr 0 0), ()⟩), (27, ⟨(.list tapiNode), x1⟩), (28, ⟨(.int .i64), x2⟩), (29, ⟨(.list (.int .i64)), x3⟩), (30, ⟨(.int .i64), x4⟩), (31, ⟨(.int .i64), x5⟩)], [⟨(.box tplanPlan), x6⟩]⟩ (blockK 0 (seqK false [1, 1, 1, 1, 1, 1, 1, 1, 1, 1, 1, 1, 1, 1, 1, 1, 1, 1, 1, 1] (BF 8 0 [1, 1, 1, 1, 1, 1, 1, 1, 1, 1, 1, 1, 1, 1, 1, 1, 1, 1, 1, 1]) (finF 8 .bool [] 0)))).trans (by kernel_rfl)
theorem law27_works.eq  : law27_works  =
  bnd (split_Run [] (0 : Int) (1 : Int) (ByteArray.mk #[97]) (ByteArray.mk #[49]) ByteArray.empty) fun r0 =>
  br (notB (eqI r0.2.2.1 (0 : Int)))
   (law27_works.j0 r0.1 r0.2.1 true)
   (br (notB (eqI (ofN (lenL tapiNode r0.1)) (1 : Int)))
    (law27_works.j0 r0.1 r0.2.1 true)
    (law27_works.j0 r0.1 r0.2.1 (notB (eqI r0.2.1 (1 : Int))))) :=
  (callW_eq (P := PP) (T := TT) (pr := RR) 32 [] [] .bool []).trans (by kernel_rfl)
theorem law27_works.j0.eq (x0 : den (.list tapiNode)) (x1 : den (.int .i64)) (x2 : den .bool) : law27_works.j0 x0 x1 x2 =
  br x2
   (some false)
   (bnd (split_New x1 (2 : Int) (ByteArray.mk #[97]) (ByteArray.mk #[50]) ByteArray.empty) fun r0 =>
   br (andB (leI (0 : Int) (0 : Int)) (ltI (0 : Int) (ofN (lenL tapiNode x0)))) (bnd (split_Split_Feed (ixL tapiNode x0 (0 : Int)) r0.2.1 r0.2.2.1) fun r1 =>
   bnd (split_Split_Answer r1.2.1 r1.2.2.1) fun r2 =>
   bnd (split_Split_Plan r2.2.1 r2.2.2.1) fun r3 =>
   br (eqS r2.1.1 (ByteArray.mk #[49]))
    (br r2.1.2.1
     (br (notB r3.1.2.1)
      (br (andB (leI (0 : Int) (0 : Int)) (ltI (0 : Int) (ofN (lenL tapiNode x0)))) (some (eqI (ixL tapiNode x0 (0 : Int)).2.2.2.2.2.2.2.1 (1 : Int))) none)
      (some false))
     (some false))
    (some false)) none) :=
  (congrFun (congrFun (jnO_eq [1, 1, 0, 1] (BF (R := den .bool) 32 0 [1, 1, 0, 1])) ⟨[(1, ⟨(.list tapiNode), x0⟩), (2, ⟨(.int .i64), x1⟩), (24, ⟨.bool, x2⟩)], []⟩) (seqK false [1, 1, 1] (BF 32 0 [1, 1, 1]) (finF 32 .bool [] 0))).trans (by kernel_rfl)
theorem law27_made.eq (a0 : den (.list tapiPair)) : law27_made a0 =
  br (andB (leI (0 : Int) (0 : Int)) (andB (leI (0 : Int) (minI (ofN (lenL tapiPair a0)) (16 : Int))) (leI (minI (ofN (lenL tapiPair a0)) (16 : Int)) (ofN (lenL tapiPair a0))))) (bnd (law07_Few (subL tapiPair a0 (toN (0 : Int)) (toN (minI (ofN (lenL tapiPair a0)) (16 : Int))))) fun r0 =>
  bnd (ref20_Long r0) fun r1 =>
  br r1
   (some ([], ([], ((0 : Int), (false, ())))))
   (bnd (ref25_Make r0) fun r2 =>
   bnd (ref07_Make r0) fun r3 =>
   some (r3, (r2.1, (r2.2.1, (true, ())))))) none :=
  (callW_eq (P := PP) (T := TT) (pr := RR) 31 [⟨(.list tapiPair), a0⟩] [] (.tcons (.list tapiPair) (.tcons (.list tapiNode) (.tcons (.int .i64) (.tcons .bool .tnil)))) []).trans (by kernel_rfl)
theorem base_Cut.eq (a0 : den .str) (a1 : den (.int .i64)) : base_Cut a0 a1 =
  br (andB (leI (0 : Int) (0 : Int)) (andB (leI (0 : Int) (minI (ofN (lenS a0)) a1)) (leI (minI (ofN (lenS a0)) a1) (ofN (lenS a0))))) (some (subS a0 (toN (0 : Int)) (toN (minI (ofN (lenS a0)) a1)))) none :=
  (callW_eq (P := PP) (T := TT) (pr := RR) 11 [⟨.str, a0⟩, ⟨(.int .i64), a1⟩] [] .str []).trans (by kernel_rfl)
theorem split_New.eq (a0 : den (.int .i64)) (a1 : den (.int .i64)) (a2 : den .str) (a3 : den .str) (a4 : den .str) : split_New a0 a1 a2 a3 a4 =
  some ((), ((a1, (a2, (a3, (a4, (a0, ((), ((0 : Int), ((0 : Int), (ByteArray.empty, (ByteArray.empty, ((0 : Int), ([], ((0 : Int), ([], ((0 : Int), ((0 : Int), ((0 : Int), (false, ())))))))))))))))))), ([], ()))) :=
  (callW_eq (P := PP) (T := TT) (pr := RR) 36 [⟨(.int .i64), a0⟩, ⟨(.int .i64), a1⟩, ⟨.str, a2⟩, ⟨.str, a3⟩, ⟨.str, a4⟩] [] (.ptr 0 0) [(.box tsplitSplitO), (.row 109 tsplitstep false)]).trans (by kernel_rfl)
theorem law27_fed.eq (a0 : den (.list tapiNode)) (a1 : denO (.box tsplitSplitO)) (a2 : denO (.row 109 tsplitstep true)) : law27_fed a0 a1 a2 =
  law27_fed.l0 a0 (0 : Int) a1 a2 :=
  (callW_eq (P := PP) (T := TT) (pr := RR) 37 [⟨(.ptr 0 0), ()⟩, ⟨(.list tapiNode), a0⟩] [⟨(.box tsplitSplitO), a1⟩, ⟨(.row 109 tsplitstep true), a2⟩] (.tcons (.int .i64) (.tcons .bool .tnil)) [(.box tsplitSplitO), (.row 109 tsplitstep false)]).trans (by kernel_rfl)
theorem law27_fed.l0.eq (x0 : den (.list tapiNode)) (x1 : den (.int .i64)) (x2 : denO (.box tsplitSplitO)) (x3 : denO (.row 109 tsplitstep true)) : law27_fed.l0 x0 x1 x2 x3 =
  bnd (split_Split_Want x2 x3) fun r0 =>
  br (notB (eqI r0.1 (0 : Int)))
   (bnd (split_Split_Want r0.2.1 r0.2.2.1) fun r1 =>
   bnd (split_Split_Plan_v1 r1.2.1 r1.2.2.1) fun r2 =>
   br (ltI r1.1 (1 : Int))
    (law27_fed.j1 x0 x1 r1.1 true r2.2.1 r2.2.2.1)
    (br (ltI (ofN (lenL tapiNode x0)) r1.1)
     (law27_fed.j1 x0 x1 r1.1 true r2.2.1 r2.2.2.1)
     (br (ltI (ofN (lenL tapiNode x0)) x1)
      (law27_fed.j1 x0 x1 r1.1 true r2.2.1 r2.2.2.1)
      (law27_fed.j1 x0 x1 r1.1 r2.1.2.1 r2.2.1 r2.2.2.1))))
   (some ((x1, (true, ())), (r0.2.1, (r0.2.2.1, ())))) :=
  (loopB_eq (P := PP) (T := TT) (C := CF) [1, 1, 0, 0, 0] [1, 1, 0, 0, 0] 37 2 ⟨[(0, ⟨(.ptr 0 0), ()⟩), (1, ⟨(.list tapiNode), x0⟩), (6, ⟨(.int .i64), x1⟩)], [⟨(.box tsplitSplitO), x2⟩, ⟨(.row 109 tsplitstep true), x3⟩]⟩ (blockK 0 (seqK false [1, 1, 1] (BF 37 2 [1, 1, 1]) (finF 37 (.tcons (.int .i64) (.tcons .bool .tnil)) [(.box tsplitSplitO), (.row 109 tsplitstep false)] 2)))).trans (by kernel_rfl)
theorem law27_fed.j1.eq (x0 : den (.list tapiNode)) (x1 : den (.int .i64)) (x2 : den (.int .i64)) (x3 : den .bool) (x4 : denO (.box tsplitSplitO)) (x5 : denO (.row 109 tsplitstep true)) : law27_fed.j1 x0 x1 x2 x3 x4 x5 =
  br x3
   (some ((x1, (false, ())), (x4, (x5, ()))))
   (br (andB (leI (0 : Int) (subI .i64 x2 (1 : Int))) (ltI (subI .i64 x2 (1 : Int)) (ofN (lenL tapiNode x0)))) (bnd (split_Split_Feed (ixL tapiNode x0 (subI .i64 x2 (1 : Int))) x4 x5) fun r0 =>
   law27_fed.l2 x0 (addI .i64 x1 (1 : Int)) r0.2.1 r0.2.2.1) none) :=
  (congrFun (congrFun (jnO_eq [1, 1, 0, 0, 0, 1, 0, 1, 1, 0, 1] (BF (R := denR (.tcons (.int .i64) (.tcons .bool .tnil)) [(.box tsplitSplitO), (.row 109 tsplitstep false)]) 37 2 [1, 1, 0, 0, 0, 1, 0, 1, 1, 0, 1])) ⟨[(0, ⟨(.ptr 0 0), ()⟩), (1, ⟨(.list tapiNode), x0⟩), (6, ⟨(.int .i64), x1⟩), (7, ⟨(.int .i64), x2⟩), (36, ⟨.bool, x3⟩)], [⟨(.box tsplitSplitO), x4⟩, ⟨(.row 109 tsplitstep true), x5⟩]⟩) (seqK false [1, 1, 0, 0, 0, 1, 0, 1, 1, 1] (BF 37 2 [1, 1, 0, 0, 0, 1, 0, 1, 1, 1]) (blockK 1 (againK [1, 1, 0, 0, 0] (loopW [1, 1, 0, 0, 0] (BF 37 2 [1, 1, 0, 0, 0])) (blockK 0 (seqK false [1, 1, 1] (BF 37 2 [1, 1, 1]) (finF 37 (.tcons (.int .i64) (.tcons .bool .tnil)) [(.box tsplitSplitO), (.row 109 tsplitstep false)] 2))))))).trans (by kernel_rfl)
theorem law27_fed.l2.eq (x0 : den (.list tapiNode)) (x1 : den (.int .i64)) (x2 : denO (.box tsplitSplitO)) (x3 : denO (.row 109 tsplitstep false)) : law27_fed.l2 x0 x1 x2 x3 =
  bnd (split_Split_Want x2 x3) fun r0 =>
  br (notB (eqI r0.1 (0 : Int)))
   (bnd (split_Split_Want r0.2.1 r0.2.2.1) fun r1 =>
   bnd (split_Split_Plan_v1 r1.2.1 r1.2.2.1) fun r2 =>
   br (ltI r1.1 (1 : Int))
    (law27_fed.j3 x0 x1 r1.1 true r2.2.1 r2.2.2.1)
    (br (ltI (ofN (lenL tapiNode x0)) r1.1)
     (law27_fed.j3 x0 x1 r1.1 true r2.2.1 r2.2.2.1)
     (br (ltI (ofN (lenL tapiNode x0)) x1)
      (law27_fed.j3 x0 x1 r1.1 true r2.2.1 r2.2.2.1)
      (law27_fed.j3 x0 x1 r1.1 r2.1.2.1 r2.2.1 r2.2.2.1))))
   (some ((x1, (true, ())), (r0.2.1, (r0.2.2.1, ())))) :=
  (loopB_eq (P := PP) (T := TT) (C := CF) [1, 1, 0, 0, 0] [1, 1, 0, 0, 0] 37 2 ⟨[(0, ⟨(.ptr 0 0), ()⟩), (1, ⟨(.list tapiNode), x0⟩), (6, ⟨(.int .i64), x1⟩)], [⟨(.box tsplitSplitO), x2⟩, ⟨(.row 109 tsplitstep false), x3⟩]⟩ (blockK 0 (seqK false [1, 1, 1] (BF 37 2 [1, 1, 1]) (finF 37 (.tcons (.int .i64) (.tcons .bool .tnil)) [(.box tsplitSplitO), (.row 109 tsplitstep false)] 2)))).trans (by kernel_rfl)
theorem law27_fed.j3.eq (x0 : den (.list tapiNode)) (x1 : den (.int .i64)) (x2 : den (.int .i64)) (x3 : den .bool) (x4 : denO (.box tsplitSplitO)) (x5 : denO (.row 109 tsplitstep false)) : law27_fed.j3 x0 x1 x2 x3 x4 x5 =
  br x3
   (some ((x1, (false, ())), (x4, (x5, ()))))
   (br (andB (leI (0 : Int) (subI .i64 x2 (1 : Int))) (ltI (subI .i64 x2 (1 : Int)) (ofN (lenL tapiNode x0)))) (bnd (split_Split_Feed (ixL tapiNode x0 (subI .i64 x2 (1 : Int))) x4 x5) fun r0 =>
   law27_fed.l2 x0 (addI .i64 x1 (1 : Int)) r0.2.1 r0.2.2.1) none) :=
  (congrFun (congrFun (jnO_eq [1, 1, 0, 0, 0, 1, 0, 1, 1, 0, 1] (BF (R := denR (.tcons (.int .i64) (.tcons .bool .tnil)) [(.box tsplitSplitO), (.row 109 tsplitstep false)]) 37 2 [1, 1, 0, 0, 0, 1, 0, 1, 1, 0, 1])) ⟨[(0, ⟨(.ptr 0 0), ()⟩), (1, ⟨(.list tapiNode), x0⟩), (6, ⟨(.int .i64), x1⟩), (7, ⟨(.int .i64), x2⟩), (36, ⟨.bool, x3⟩)], [⟨(.box tsplitSplitO), x4⟩, ⟨(.row 109 tsplitstep false), x5⟩]⟩) (seqK false [1, 1, 0, 0, 0, 1, 0, 1, 1, 1] (BF 37 2 [1, 1, 0, 0, 0, 1, 0, 1, 1, 1]) (blockK 1 (againK [1, 1, 0, 0, 0] (loopW [1, 1, 0, 0, 0] (BF 37 2 [1, 1, 0, 0, 0])) (blockK 0 (seqK false [1, 1, 1] (BF 37 2 [1, 1, 1]) (finF 37 (.tcons (.int .i64) (.tcons .bool .tnil)) [(.box tsplitSplitO), (.row 109 tsplitstep false)] 2))))))).trans (by kernel_rfl)
theorem split_Split_Answer.eq (a0 : denO (.box tsplitSplitO)) (a1 : denO (.row 109 tsplitstep true)) : split_Split_Answer a0 a1 =
  br (notB (eqI a0.2.2.2.2.1 (0 : Int)))
   (some ((ByteArray.empty, (false, ())), (a0, (a1, ()))))
   (br (notB a0.2.2.2.2.2.2.2.2.2.2.2.2.2.2.2.2.2.1)
    (some ((ByteArray.empty, (false, ())), (a0, (a1, ()))))
    (some ((a0.2.2.2.2.2.2.2.2.2.1, (true, ())), (a0, (a1, ()))))) :=
  (callW_eq (P := PP) (T := TT) (pr := RR) 38 [⟨(.ptr 0 0), ()⟩] [⟨(.box tsplitSplitO), a0⟩, ⟨(.row 109 tsplitstep true), a1⟩] (.tcons .str (.tcons .bool .tnil)) [(.box tsplitSplitO), (.row 109 tsplitstep true)]).trans (by kernel_rfl)
theorem ref07_Get.eq (a0 : den (.list tapiPair)) (a1 : den .str) : ref07_Get a0 a1 =
  ref07_Get.l0 a0 a1 (subI .i64 (ofN (lenL tapiPair a0)) (1 : Int)) :=
  (callW_eq (P := PP) (T := TT) (pr := RR) 16 [⟨(.list tapiPair), a0⟩, ⟨.str, a1⟩] [] (.tcons .str (.tcons .bool .tnil)) []).trans (by kernel_rfl)
theorem ref07_Get.l0.eq (x0 : den (.list tapiPair)) (x1 : den .str) (x2 : den (.int .i64)) : ref07_Get.l0 x0 x1 x2 =
  br (leI (0 : Int) x2)
   (br (andB (leI (0 : Int) x2) (ltI x2 (ofN (lenL tapiPair x0)))) (br (eqS (ixL tapiPair x0 x2).1 x1)
    (br (andB (leI (0 : Int) x2) (ltI x2 (ofN (lenL tapiPair x0)))) (some ((ixL tapiPair x0 x2).2.1, (true, ()))) none)
    (ref07_Get.l0 x0 x1 (subI .i64 x2 (1 : Int)))) none)
   (some (ByteArray.empty, (false, ()))) :=
  (loopB_eq (P := PP) (T := TT) (C := CF) [1, 0, 1, 0, 0] [1, 0, 1, 0, 0] 16 0 ⟨[(0, ⟨(.list tapiPair), x0⟩), (1, ⟨.str, x1⟩), (6, ⟨(.int .i64), x2⟩)], []⟩ (blockK 0 (seqK false [1, 1] (BF 16 0 [1, 1]) (finF 16 (.tcons .str (.tcons .bool .tnil)) [] 0)))).trans (by kernel_rfl)
theorem split_Split_Plan.eq (a0 : denO (.box tsplitSplitO)) (a1 : denO (.row 109 tsplitstep true)) : split_Split_Plan a0 a1 =
  bnd (split_Split_changes_o (a0.1, (a0.2.1, (a0.2.2.1, (a0.2.2.2.1, (a0.2.2.2.2.1, (a1, a0.2.2.2.2.2.2))))))) fun r0 =>
  br (notB r0.1)
   (some ((((), ((0 : Int), ((), ()))), (false, ())), (r0.2.1, ((), ([], ([], ()))))))
   (br r0.2.1.2.2.2.2.2.2.2.2.2.2.2.2.2.2.2.2.2.1
    (split_Split_Plan.j0 r0.2.1 ((), ((0 : Int), ((), ()))) (0 : Int) [] [])
    (split_Split_Plan.j0 r0.2.1 ((), ((0 : Int), ((), ()))) (1 : Int) [] [])) :=
  (callW_eq (P := PP) (T := TT) (pr := RR) 39 [⟨(.ptr 0 0), ()⟩] [⟨(.box tsplitSplitO), a0⟩, ⟨(.row 109 tsplitstep true), a1⟩] (.tcons (.pair (.own tapiNode 2) (.pair (.int .i64) (.pair (.own (.int .i64) 3) .unit))) (.tcons .bool .tnil)) [(.box tsplitSplit), .gone, (.row 53 tapiNode false), (.row 24 (.int .i64) false)]).trans (by kernel_rfl)
theorem split_Split_Plan.j0.eq (x0 : denO (.box tsplitSplit)) (x1 : denO (.box (.pair (.own tapiNode 4) (.pair (.int .i64) (.pair (.own (.int .i64) 5) .unit))))) (x2 : denO (.box (.int .i64))) (x3 : denO (.row 53 tapiNode false)) (x4 : denO (.row 24 (.int .i64) false)) : split_Split_Plan.j0 x0 x1 x2 x3 x4 =
  bnd (split_Split_bottom ((), ((0 : Int), ((), ()))) x0) fun r0 =>
  br (andB (leI (0 : Int) (0 : Int)) (andB (leI (0 : Int) r0.1.2.2.1) (leI r0.1.2.2.1 (ofN (lenL tsplitstep r0.2.1.2.2.2.2.2.1))))) (bnd (slices_Backwardsplit_step_split_step (subL tsplitstep r0.2.1.2.2.2.2.2.1 (toN (0 : Int)) (toN r0.1.2.2.1))) fun r1 =>
  bnd (slices_Backwardsplit_step_split_step_1 r1.2.1) fun r2 =>
  split_Split_Plan.e1 r2 r0.2.1 ((), (x1.2.1, ((), ()))) x2 ((), (r0.1.1.2.1, ((), ()))) r0.1.2.1 x3 x4 r0.2.2.1 r0.2.2.2.1) none :=
  (congrFun (congrFun (jnO_eq [1, 1, 1, 1] (BF (R := denR (.tcons (.pair (.own tapiNode 2) (.pair (.int .i64) (.pair (.own (.int .i64) 3) .unit))) (.tcons .bool .tnil)) [(.box tsplitSplit), .gone, (.row 53 tapiNode false), (.row 24 (.int .i64) false)]) 39 2 [1, 1, 1, 1])) ⟨[(0, ⟨(.ptr 0 0), ()⟩), (2, ⟨(.ptr 2 0), ()⟩), (4, ⟨(.ptr 3 0), ()⟩)], [⟨(.box tsplitSplit), x0⟩, ⟨.gone, ()⟩, ⟨(.box (.pair (.own tapiNode 4) (.pair (.int .i64) (.pair (.own (.int .i64) 5) .unit)))), x1⟩, ⟨(.box (.int .i64)), x2⟩, ⟨(.row 53 tapiNode false), x3⟩, ⟨(.row 24 (.int .i64) false), x4⟩]⟩) (finF 39 (.tcons (.pair (.own tapiNode 2) (.pair (.int .i64) (.pair (.own (.int .i64) 3) .unit))) (.tcons .bool .tnil)) [(.box tsplitSplit), .gone, (.row 53 tapiNode false), (.row 24 (.int .i64) false)] 2)).trans (by kernel_rfl)
theorem split_Split_Plan.e1.nil (x0 : denO (.box tsplitSplit)) (x1 : denO (.box (.pair (.own tapiNode 6) (.pair (.int .i64) (.pair (.own (.int .i64) 7) .unit))))) (x2 : denO (.box (.int .i64))) (x3 : denO (.box (.pair (.own tapiNode 8) (.pair (.int .i64) (.pair (.own (.int .i64) 9) .unit))))) (x4 : denO (.box (.int .i64))) (x5 : denO (.row 53 tapiNode false)) (x6 : denO (.row 24 (.int .i64) false)) (x7 : denO (.row 53 tapiNode false)) (x8 : denO (.row 24 (.int .i64) false)) : split_Split_Plan.e1 [] x0 x1 x2 x3 x4 x5 x6 x7 x8 =
  some ((((), (x4, ((), ()))), (true, ())), (x0, ((), (x7, (x8, ()))))) := by kernel_rfl
theorem split_Split_Plan.e1.cons (y : den (.tcons (.int .i64) (.tcons tsplitstep .tnil))) (ys : List (den (.tcons (.int .i64) (.tcons tsplitstep .tnil)))) (x0 : denO (.box tsplitSplit)) (x1 : denO (.box (.pair (.own tapiNode 6) (.pair (.int .i64) (.pair (.own (.int .i64) 7) .unit))))) (x2 : denO (.box (.int .i64))) (x3 : denO (.box (.pair (.own tapiNode 8) (.pair (.int .i64) (.pair (.own (.int .i64) 9) .unit))))) (x4 : denO (.box (.int .i64))) (x5 : denO (.row 53 tapiNode false)) (x6 : denO (.row 24 (.int .i64) false)) (x7 : denO (.row 53 tapiNode false)) (x8 : denO (.row 24 (.int .i64) false)) : split_Split_Plan.e1 (y :: ys) x0 x1 x2 x3 x4 x5 x6 x7 x8 =
  br (fitL (.int .i64) (appL (.int .i64) x8 (y.2.1.1 :: []))) (bnd (split_with (y.2.1.2.1, (y.2.1.2.2.1, (y.2.1.2.2.2.1, (y.2.1.2.2.2.2.1, (y.2.1.2.2.2.2.2.1, (y.2.1.2.2.2.2.2.2.1, (y.2.1.2.2.2.2.2.2.2.1, (y.2.1.2.2.2.2.2.2.2.2.1, (y.2.1.2.2.2.2.2.2.2.2.2.1, ()))))))))) y.2.1.2.2.2.2.2.2.2.2.2.2.1 x4 (addI .i64 y.2.1.2.2.2.2.2.2.2.2.1 x2)) fun r0 =>
  bnd (plan_Add ((), (x3.2.1, ((), ()))) r0 x7 (appL (.int .i64) x8 (y.2.1.1 :: []))) fun r1 =>
  split_Split_Plan.e1 ys x0 ((), (x1.2.1, ((), ()))) x2 ((), (r1.1.1.2.1, ((), ()))) r1.1.2.1 x5 x6 r1.2.2.2.1 r1.2.2.1) none := by kernel_rfl
theorem node_Tree.eq (a0 : den .str) (a1 : den .str) (a2 : den (.int .i64)) (a3 : den (.int .i64)) (a4 : den (.int .i64)) : node_Tree a0 a1 a2 a3 a4 =
  some ((4 : Int), (a0, (a1, ((0 : Int), ((a2 :: (a3 :: [])), ((0 : Int), ([], (a4, ((0 : Int), ()))))))))) :=
  (callW_eq (P := PP) (T := TT) (pr := RR) 26 [⟨.str, a0⟩, ⟨.str, a1⟩, ⟨(.int .i64), a2⟩, ⟨(.int .i64), a3⟩, ⟨(.int .i64), a4⟩] [] tapiNode []).trans (by kernel_rfl)
theorem split_Split_Feed_o.eq (a0 : den tapiNode) : split_Split_Feed_o a0 =
  bnd (split_Split_Want_o) fun r0 =>
  br (eqI r0 (0 : Int))
   (some ())
   (none) :=
  (callW_eq (P := PP) (T := TT) (pr := RR) 40 [⟨.nilptr, ()⟩, ⟨tapiNode, a0⟩] [] .tnil []).trans (by kernel_rfl)
theorem split_Split_Plan_o.eq  : split_Split_Plan_o  =
  bnd (split_Split_changes_o_v1) fun r0 =>
  br (notB r0)
   (some (([], ((0 : Int), ([], ()))), (false, ())))
   (none) :=
  (callW_eq (P := PP) (T := TT) (pr := RR) 39 [⟨.nilptr, ()⟩] [] (.tcons tplanPlan (.tcons .bool .tnil)) []).trans (by kernel_rfl)
theorem ref27_Deep.eq (a0 : den (.list tapiPair)) : ref27_Deep a0 =
  bnd (ref25_Depth a0) fun r0 =>
  some r0 :=
  (callW_eq (P := PP) (T := TT) (pr := RR) 41 [⟨(.list tapiPair), a0⟩] [] (.int .i64) []).trans (by kernel_rfl)
theorem ref23_Changes.eq (a0 : den (.int .i64)) (a1 : den .str) (a2 : den .str) (a3 : den .bool) : ref23_Changes a0 a1 a2 a3 =
  br (eqI a0 (1 : Int))
   (some true)
   (br (eqI a0 (2 : Int))
    (some (notB a3))
    (br (eqI a0 (3 : Int))
     (br a3
      (some (eqS a2 a1))
      (some false))
     (some false))) :=
  (callW_eq (P := PP) (T := TT) (pr := RR) 42 [⟨(.int .i64), a0⟩, ⟨.str, a1⟩, ⟨.str, a2⟩, ⟨.bool, a3⟩] [] .bool []).trans (by kernel_rfl)
theorem split_Split_Want_o.eq  : split_Split_Want_o  =
  some (0 : Int) :=
  (callW_eq (P := PP) (T := TT) (pr := RR) 43 [⟨.nilptr, ()⟩] [] (.int .i64) []).trans (by kernel_rfl)
theorem ref18_Do.eq (a0 : den (.list tapiNode)) (a1 : den tplanPlan) : ref18_Do a0 a1 =
  bnd (ref18_May a1) fun r0 =>
  br (notB r0)
   (some ([], ((0 : Int), (false, ()))))
   (bnd (ref17_May a0) fun r1 =>
   br (notB r1)
    (some ([], ((0 : Int), (false, ()))))
    (br (fitL (.int .i64) (appL (.int .i64) (a1.2.1 :: []) a1.2.2.1)) (ref18_Do.l0 a0 (0 : Int) a1 (appL (.int .i64) (a1.2.1 :: []) a1.2.2.1)) none)) :=
  (callW_eq (P := PP) (T := TT) (pr := RR) 27 [⟨(.list tapiNode), a0⟩, ⟨tplanPlan, a1⟩] [] (.tcons (.list tapiNode) (.tcons (.int .i64) (.tcons .bool .tnil))) []).trans (by kernel_rfl)
theorem ref18_Do.l0.eq (x0 : den (.list tapiNode)) (x1 : den (.int .i64)) (x2 : denO (.box tplanPlan)) (x3 : denO (.row 24 (.int .i64) false)) : ref18_Do.l0 x0 x1 x2 x3 =
  br (ltI x1 (ofN (lenL tapiNode x2.1)))
   (br (andB (leI (0 : Int) x1) (ltI x1 (ofN (lenL tapiNode x2.1)))) (bnd (ref13_Refs (ixL tapiNode x2.1 x1)) fun r0 =>
   br (fitL (.int .i64) (appL (.int .i64) x3 r0)) (ref18_Do.l0 x0 (addI .i64 x1 (1 : Int)) x2 (appL (.int .i64) x3 r0)) none) none)
   (ref18_Do.l1 x0 (0 : Int) x2 x3) :=
  (loopB_eq (P := PP) (T := TT) (C := CF) [1, 1, 1, 0, 1, 0, 0] [1, 1, 1, 0, 1, 0, 0] 27 0 ⟨[(0, ⟨(.list tapiNode), x0⟩), (3, ⟨(.ptr 0 0), ()⟩), (7, ⟨(.own (.int .i64) 1), ()⟩), (8, ⟨(.int .i64), x1⟩)], [⟨(.box tplanPlan), x2⟩, ⟨(.row 24 (.int .i64) false), x3⟩]⟩ (blockK 0 (seqK false [1, 1, 1, 1] (BF 27 0 [1, 1, 1, 1]) (finF 27 (.tcons (.list tapiNode) (.tcons (.int .i64) (.tcons .bool .tnil))) [] 0)))).trans (by kernel_rfl)
theorem ref18_Do.l1.eq (x0 : den (.list tapiNode)) (x1 : den (.int .i64)) (x2 : denO (.box tplanPlan)) (x3 : denO (.row 24 (.int .i64) false)) : ref18_Do.l1 x0 x1 x2 x3 =
  br (ltI x1 (ofN (lenL (.int .i64) x3)))
   (br (andB (leI (0 : Int) x1) (ltI x1 (ofN (lenL (.int .i64) x3)))) (br (ltI (ofN (lenL tapiNode x0)) (ixL (.int .i64) x3 x1))
    (some ([], ((0 : Int), (false, ()))))
    (ref18_Do.l1 x0 (addI .i64 x1 (1 : Int)) x2 x3)) none)
   (br (fitL tapiNode (appL tapiNode [] x0)) (ref18_Do.l2 (0 : Int) x2 (appL tapiNode [] x0) []) none) :=
  (loopB_eq (P := PP) (T := TT) (C := CF) [1, 1, 1, 1, 0, 1, 0, 0] [1, 1, 1, 1, 0, 1, 0, 0] 27 0 ⟨[(0, ⟨(.list tapiNode), x0⟩), (3, ⟨(.ptr 0 0), ()⟩), (7, ⟨(.own (.int .i64) 1), ()⟩), (9, ⟨(.int .i64), x1⟩)], [⟨(.box tplanPlan), x2⟩, ⟨(.row 24 (.int .i64) false), x3⟩]⟩ (blockK 2 (seqK false [1, 1, 1, 1, 1] (BF 27 0 [1, 1, 1, 1, 1]) (finF 27 (.tcons (.list tapiNode) (.tcons (.int .i64) (.tcons .bool .tnil))) [] 0)))).trans (by kernel_rfl)
theorem ref18_Do.l2.eq (x0 : den (.int .i64)) (x1 : denO (.box tplanPlan)) (x2 : denO (.row 53 tapiNode false)) (x3 : denO (.row 24 (.int .i64) false)) : ref18_Do.l2 x0 x1 x2 x3 =
  br (ltI x0 (ofN (lenL tapiNode x1.1)))
   (br (andB (leI (0 : Int) x0) (ltI x0 (ofN (lenL tapiNode x1.1)))) (bnd (ref18_Fill_o (ixL tapiNode x1.1 x0) x3) fun r0 =>
   br (fitL tapiNode (appL tapiNode x2 (r0.1.1 :: []))) (br (fitL (.int .i64) (appL (.int .i64) r0.2.1 ((ofN (lenL tapiNode (appL tapiNode x2 (r0.1.1 :: [])))) :: []))) (ref18_Do.l2 (addI .i64 x0 (1 : Int)) x1 (appL tapiNode x2 (r0.1.1 :: [])) (appL (.int .i64) r0.2.1 ((ofN (lenL tapiNode (appL tapiNode x2 (r0.1.1 :: [])))) :: []))) none) none) none)
   (bnd (ref18_Ref x1.2.1 x3) fun r1 =>
   some (x2, (r1.1, (true, ())))) :=
  (loopB_eq (P := PP) (T := TT) (C := CF) [1, 1, 1, 1, 1, 1, 0, 1, 0, 0] [1, 1, 1, 1, 1, 1, 0, 1, 0, 0] 27 0 ⟨[(3, ⟨(.ptr 0 0), ()⟩), (10, ⟨(.own tapiNode 1), ()⟩), (11, ⟨(.own (.int .i64) 2), ()⟩), (12, ⟨(.int .i64), x0⟩)], [⟨(.box tplanPlan), x1⟩, ⟨(.row 53 tapiNode false), x2⟩, ⟨(.row 24 (.int .i64) false), x3⟩]⟩ (blockK 4 (seqK false [1, 1, 1, 1, 1, 1, 1] (BF 27 0 [1, 1, 1, 1, 1, 1, 1]) (finF 27 (.tcons (.list tapiNode) (.tcons (.int .i64) (.tcons .bool .tnil))) [] 0)))).trans (by kernel_rfl)
theorem ref23_Gone.eq (a0 : den (.list tapiNode)) (a1 : den (.int .i64)) (a2 : den (.list tapiNode)) (a3 : den (.int .i64)) : ref23_Gone a0 a1 a2 a3 =
  bnd (ref17_Refs a0 a1) fun r0 =>
  bnd (ref17_Refs a2 a3) fun r1 =>
  ref23_Gone.l0 r0 r1 (0 : Int) [] :=
  (callW_eq (P := PP) (T := TT) (pr := RR) 29 [⟨(.list tapiNode), a0⟩, ⟨(.int .i64), a1⟩, ⟨(.list tapiNode), a2⟩, ⟨(.int .i64), a3⟩] [] (.list (.int .i64)) []).trans (by kernel_rfl)
theorem ref23_Gone.l0.eq (x0 : den (.list (.int .i64))) (x1 : den (.list (.int .i64))) (x2 : den (.int .i64)) (x3 : denO (.row 24 (.int .i64) false)) : ref23_Gone.l0 x0 x1 x2 x3 =
  br (ltI x2 (ofN (lenL (.int .i64) x0)))
   (ref23_Gone.l1 x0 x1 x2 false (0 : Int) x3)
   (some x3) :=
  (loopB_eq (P := PP) (T := TT) (C := CF) [1, 1, 0, 1, 0, 0] [1, 1, 0, 1, 0, 0] 29 0 ⟨[(9, ⟨(.list (.int .i64)), x0⟩), (10, ⟨(.list (.int .i64)), x1⟩), (11, ⟨(.own (.int .i64) 0), ()⟩), (12, ⟨(.int .i64), x2⟩)], [⟨(.row 24 (.int .i64) false), x3⟩]⟩ (blockK 0 (seqK false [1, 1, 1] (BF 29 0 [1, 1, 1]) (finF 29 (.list (.int .i64)) [] 0)))).trans (by kernel_rfl)
theorem ref23_Gone.l1.eq (x0 : den (.list (.int .i64))) (x1 : den (.list (.int .i64))) (x2 : den (.int .i64)) (x3 : den .bool) (x4 : den (.int .i64)) (x5 : denO (.row 24 (.int .i64) false)) : ref23_Gone.l1 x0 x1 x2 x3 x4 x5 =
  br (ltI x4 (ofN (lenL (.int .i64) x1)))
   (br x3
    (ref23_Gone.l1 x0 x1 x2 true (addI .i64 x4 (1 : Int)) x5)
    (br (andB (leI (0 : Int) x2) (ltI x2 (ofN (lenL (.int .i64) x0)))) (br (andB (leI (0 : Int) x4) (ltI x4 (ofN (lenL (.int .i64) x1)))) (ref23_Gone.l1 x0 x1 x2 (eqI (ixL (.int .i64) x0 x2) (ixL (.int .i64) x1 x4)) (addI .i64 x4 (1 : Int)) x5) none) none))
   (br (notB x3)
    (br (andB (leI (0 : Int) x2) (ltI x2 (ofN (lenL (.int .i64) x0)))) (br (fitL (.int .i64) (appL (.int .i64) x5 ((ixL (.int .i64) x0 x2) :: []))) (ref23_Gone.l0 x0 x1 (addI .i64 x2 (1 : Int)) (appL (.int .i64) x5 ((ixL (.int .i64) x0 x2) :: []))) none) none)
    (ref23_Gone.l0 x0 x1 (addI .i64 x2 (1 : Int)) x5)) :=
  (loopB_eq (P := PP) (T := TT) (C := CF) [1, 1, 0, 1, 0, 0, 1, 0, 0, 1, 0, 1, 0, 0] [1, 1, 0, 1, 0, 0, 1, 0, 0, 1, 0, 1, 0, 0] 29 0 ⟨[(9, ⟨(.list (.int .i64)), x0⟩), (10, ⟨(.list (.int .i64)), x1⟩), (11, ⟨(.own (.int .i64) 0), ()⟩), (12, ⟨(.int .i64), x2⟩), (13, ⟨.bool, x3⟩), (14, ⟨(.int .i64), x4⟩)], [⟨(.row 24 (.int .i64) false), x5⟩]⟩ (blockK 2 (seqK false [1, 1, 0, 1, 0, 0, 1, 0, 0, 1, 1] (BF 29 0 [1, 1, 0, 1, 0, 0, 1, 0, 0, 1, 1]) (blockK 1 (seqK false [1, 1, 0, 1, 0, 0, 1, 1] (BF 29 0 [1, 1, 0, 1, 0, 0, 1, 1]) (againK [1, 1, 0, 1, 0, 0] (loopW [1, 1, 0, 1, 0, 0] (BF 29 0 [1, 1, 0, 1, 0, 0])) (blockK 0 (seqK false [1, 1, 1] (BF 29 0 [1, 1, 1]) (finF 29 (.list (.int .i64)) [] 0))))))))).trans (by kernel_rfl)
theorem ref23_SameSet.eq (a0 : den (.list (.int .i64))) (a1 : den (.list (.int .i64))) : ref23_SameSet a0 a1 =
  br (notB (eqI (ofN (lenL (.int .i64) a0)) (ofN (lenL (.int .i64) a1))))
   (some false)
   (ref23_SameSet.l0 a0 a1 (0 : Int)) :=
  (callW_eq (P := PP) (T := TT) (pr := RR) 28 [⟨(.list (.int .i64)), a0⟩, ⟨(.list (.int .i64)), a1⟩] [] .bool []).trans (by kernel_rfl)
theorem ref23_SameSet.l0.eq (x0 : den (.list (.int .i64))) (x1 : den (.list (.int .i64))) (x2 : den (.int .i64)) : ref23_SameSet.l0 x0 x1 x2 =
  br (ltI x2 (ofN (lenL (.int .i64) x0)))
   (ref23_SameSet.l1 x0 x1 x2 (0 : Int) (0 : Int))
   (some true) :=
  (loopB_eq (P := PP) (T := TT) (C := CF) [1, 1, 0, 1, 0, 0] [1, 1, 0, 1, 0, 0] 28 0 ⟨[(0, ⟨(.list (.int .i64)), x0⟩), (1, ⟨(.list (.int .i64)), x1⟩), (5, ⟨(.int .i64), x2⟩)], []⟩ (blockK 0 (seqK false [1, 1, 1] (BF 28 0 [1, 1, 1]) (finF 28 .bool [] 0)))).trans (by kernel_rfl)
theorem ref23_SameSet.l1.eq (x0 : den (.list (.int .i64))) (x1 : den (.list (.int .i64))) (x2 : den (.int .i64)) (x3 : den (.int .i64)) (x4 : den (.int .i64)) : ref23_SameSet.l1 x0 x1 x2 x3 x4 =
  br (ltI x4 (ofN (lenL (.int .i64) x1)))
   (br (andB (leI (0 : Int) x2) (ltI x2 (ofN (lenL (.int .i64) x0)))) (br (andB (leI (0 : Int) x4) (ltI x4 (ofN (lenL (.int .i64) x1)))) (br (eqI (ixL (.int .i64) x0 x2) (ixL (.int .i64) x1 x4))
    (ref23_SameSet.l1 x0 x1 x2 (addI .i64 x3 (1 : Int)) (addI .i64 x4 (1 : Int)))
    (ref23_SameSet.l1 x0 x1 x2 x3 (addI .i64 x4 (1 : Int)))) none) none)
   (br (notB (eqI x3 (1 : Int)))
    (some false)
    (ref23_SameSet.l0 x0 x1 (addI .i64 x2 (1 : Int)))) :=
  (loopB_eq (P := PP) (T := TT) (C := CF) [1, 1, 0, 1, 0, 0, 1, 0, 0, 1, 0, 1, 0, 0] [1, 1, 0, 1, 0, 0, 1, 0, 0, 1, 0, 1, 0, 0] 28 0 ⟨[(0, ⟨(.list (.int .i64)), x0⟩), (1, ⟨(.list (.int .i64)), x1⟩), (5, ⟨(.int .i64), x2⟩), (6, ⟨(.int .i64), x3⟩), (7, ⟨(.int .i64), x4⟩)], []⟩ (blockK 2 (seqK false [1, 1, 0, 1, 0, 0, 1, 0, 0, 1, 1] (BF 28 0 [1, 1, 0, 1, 0, 0, 1, 0, 0, 1, 1]) (blockK 1 (seqK false [1, 1, 0, 1, 0, 0, 1, 1] (BF 28 0 [1, 1, 0, 1, 0, 0, 1, 1]) (againK [1, 1, 0, 1, 0, 0] (loopW [1, 1, 0, 1, 0, 0] (BF 28 0 [1, 1, 0, 1, 0, 0])) (blockK 0 (seqK false [1, 1, 1] (BF 28 0 [1, 1, 1]) (finF 28 .bool [] 0))))))))).trans (by kernel_rfl)
theorem ref17_Refs.eq (a0 : den (.list tapiNode)) (a1 : den (.int .i64)) : ref17_Refs a0 a1 =
  br (andB (fitN (ofN (lenL tapiNode a0))) (eqI (ofN (lenL tapiNode a0)) (ofN (lenL tapiNode a0)))) (bnd (ref17_mark_o a0 a1 (repL .bool (toN (ofN (lenL tapiNode a0))) false)) fun r0 =>
  ref17_Refs.l0 (subI .i64 (ofN (lenL tapiNode a0)) (1 : Int)) r0.2.1 []) none :=
  (callW_eq (P := PP) (T := TT) (pr := RR) 30 [⟨(.list tapiNode), a0⟩, ⟨(.int .i64), a1⟩] [] (.list (.int .i64)) []).trans (by kernel_rfl)
theorem ref17_Refs.l0.eq (x0 : den (.int .i64)) (x1 : denO (.row 4 .bool false)) (x2 : denO (.row 24 (.int .i64) false)) : ref17_Refs.l0 x0 x1 x2 =
  br (leI (0 : Int) x0)
   (br (andB (leI (0 : Int) x0) (ltI x0 (ofN (lenL .bool x1)))) (br (ixL .bool x1 x0)
    (br (fitL (.int .i64) (appL (.int .i64) x2 ((addI .i64 x0 (1 : Int)) :: []))) (ref17_Refs.l0 (subI .i64 x0 (1 : Int)) x1 (appL (.int .i64) x2 ((addI .i64 x0 (1 : Int)) :: []))) none)
    (ref17_Refs.l0 (subI .i64 x0 (1 : Int)) x1 x2)) none)
   (some x2) :=
  (loopB_eq (P := PP) (T := TT) (C := CF) [1, 1, 1, 0, 1, 0, 0] [1, 1, 1, 0, 1, 0, 0] 30 0 ⟨[(5, ⟨(.own .bool 0), ()⟩), (6, ⟨(.own (.int .i64) 1), ()⟩), (7, ⟨(.int .i64), x0⟩)], [⟨(.row 4 .bool false), x1⟩, ⟨(.row 24 (.int .i64) false), x2⟩]⟩ (blockK 0 (seqK false [1, 1, 1, 1] (BF 30 0 [1, 1, 1, 1]) (finF 30 (.list (.int .i64)) [] 0)))).trans (by kernel_rfl)
theorem ref25_Is.eq (a0 : den (.list tapiNode)) (a1 : den (.int .i64)) : ref25_Is a0 a1 =
  bnd (ref17_Fits a0 a1) fun r0 =>
  br (notB r0)
   (some false)
   (bnd (ref17_Binds a0 a1) fun r1 =>
   bnd (ref25_Make r1) fun r2 =>
   bnd (ref17_Same a0 a1 r2.1 r2.2.1) fun r3 =>
   some r3) :=
  (callW_eq (P := PP) (T := TT) (pr := RR) 14 [⟨(.list tapiNode), a0⟩, ⟨(.int .i64), a1⟩] [] .bool []).trans (by kernel_rfl)
theorem split_Run.eq (a0 : den (.list tapiNode)) (a1 : den (.int .i64)) (a2 : den (.int .i64)) (a3 : den .str) (a4 : den .str) (a5 : den .str) : split_Run a0 a1 a2 a3 a4 a5 =
  bnd (node_Leaf a3 a4) fun r0 =>
  bnd (node_May r0) fun r1 =>
  br (ltI a2 (1 : Int))
   (some ([], ((0 : Int), ((2 : Int), ()))))
   (br (ltI (3 : Int) a2)
    (some ([], ((0 : Int), ((2 : Int), ()))))
    (br (notB (eqI r1 (0 : Int)))
     (some ([], ((0 : Int), (r1, ()))))
     (bnd (tree_Is a0 a1) fun r2 =>
     br (notB r2)
      (some ([], ((0 : Int), ((4 : Int), ()))))
      (bnd (split_New a1 a2 a3 a4 a5) fun r3 =>
      split_Run.l0 a0 a1 r3.2.1 r3.2.2.1)))) :=
  (callW_eq (P := PP) (T := TT) (pr := RR) 33 [⟨(.list tapiNode), a0⟩, ⟨(.int .i64), a1⟩, ⟨(.int .i64), a2⟩, ⟨.str, a3⟩, ⟨.str, a4⟩, ⟨.str, a5⟩] [] (.tcons (.list tapiNode) (.tcons (.int .i64) (.tcons (.int .i64) .tnil))) []).trans (by kernel_rfl)
theorem split_Run.l0.eq (x0 : den (.list tapiNode)) (x1 : den (.int .i64)) (x2 : denO (.box tsplitSplitO)) (x3 : denO (.row 109 tsplitstep false)) : split_Run.l0 x0 x1 x2 x3 =
  bnd (split_Split_Want x2 x3) fun r0 =>
  br (notB (eqI r0.1 (0 : Int)))
   (bnd (split_Split_Want r0.2.1 r0.2.2.1) fun r1 =>
   br (andB (leI (0 : Int) (subI .i64 r1.1 (1 : Int))) (ltI (subI .i64 r1.1 (1 : Int)) (ofN (lenL tapiNode x0)))) (bnd (split_Split_Feed (ixL tapiNode x0 (subI .i64 r1.1 (1 : Int))) r1.2.1 r1.2.2.1) fun r2 =>
   split_Run.l0 x0 x1 r2.2.1 r2.2.2.1) none)
   (bnd (split_Split_Plan r0.2.1 r0.2.2.1) fun r3 =>
   br (notB r3.1.2.1)
    (bnd (plan_Do x0 ([], (x1, ([], ())))) fun r4 =>
    some r4)
    (bnd (plan_Do x0 (r3.2.2.2.1, (r3.1.1.2.1, (r3.2.2.2.2.1, ())))) fun r5 =>
    some r5)) :=
  (loopB_eq (P := PP) (T := TT) (C := CF) [1, 1, 1, 1, 0, 0, 0] [1, 1, 1, 1, 0, 0, 0] 33 0 ⟨[(0, ⟨(.list tapiNode), x0⟩), (1, ⟨(.int .i64), x1⟩), (16, ⟨(.ptr 0 0), ()⟩)], [⟨(.box tsplitSplitO), x2⟩, ⟨(.row 109 tsplitstep false), x3⟩]⟩ (blockK 1 (seqK false [1, 1, 1, 1, 1] (BF 33 0 [1, 1, 1, 1, 1]) (finF 33 (.tcons (.list tapiNode) (.tcons (.int .i64) (.tcons (.int .i64) .tnil))) [] 0)))).trans (by kernel_rfl)
theorem split_Split_Feed.eq (a0 : den tapiNode) (a1 : denO (.box tsplitSplitO)) (a2 : denO (.row 109 tsplitstep true)) : split_Split_Feed a0 a1 a2 =
  bnd (split_Split_Want a1 a2) fun r0 =>
  br (eqI r0.1 (0 : Int))
   (some ((), (r0.2.1, (r0.2.2.1, ()))))
   (br (notB (eqI a0.1 (4 : Int)))
    (split_Split_Feed.j0 r0.1 true (r0.2.1.1, (r0.2.1.2.1, (r0.2.1.2.2.1, (r0.2.1.2.2.2.1, ((0 : Int), r0.2.1.2.2.2.2.2))))) r0.2.2.1 a0)
    (split_Split_Feed.j0 r0.1 (notB (eqI (ofN (lenL (.int .i64) a0.2.2.2.2.1)) (2 : Int))) (r0.2.1.1, (r0.2.1.2.1, (r0.2.1.2.2.1, (r0.2.1.2.2.2.1, ((0 : Int), r0.2.1.2.2.2.2.2))))) r0.2.2.1 a0)) :=
  (callW_eq (P := PP) (T := TT) (pr := RR) 40 [⟨(.ptr 0 0), ()⟩, ⟨tapiNode, a0⟩] [⟨(.box tsplitSplitO), a1⟩, ⟨(.row 109 tsplitstep true), a2⟩] .tnil [(.box tsplitSplitO), (.row 109 tsplitstep false)]).trans (by kernel_rfl)
theorem split_Split_Feed.j0.eq (x0 : den (.int .i64)) (x1 : den .bool) (x2 : denO (.box tsplitSplitO)) (x3 : denO (.row 109 tsplitstep true)) (x4 : denO (.box tapiNode)) : split_Split_Feed.j0 x0 x1 x2 x3 x4 =
  br x1
   (some ((), (x2, (x3, ()))))
   (bnd (order_Compare x2.2.1 x4.2.1) fun r0 =>
   br (eqI r0 (0 : Int))
    (some ((), ((x2.1, (x2.2.1, (x2.2.2.1, (x2.2.2.2.1, (x2.2.2.2.2.1, ((), (x0, (x4.1, (x4.2.1, (x4.2.2.1, (x4.2.2.2.1, (x4.2.2.2.2.1, (x4.2.2.2.2.2.1, (x4.2.2.2.2.2.2.1, (x4.2.2.2.2.2.2.2.1, (x4.2.2.2.2.2.2.2.2.1, ((0 : Int), (true, ())))))))))))))))))), (x3, ()))))
    (br (ltI (0 : Int) r0)
     (split_Split_Feed.j1 x0 (1 : Int) x2 x3 x4)
     (split_Split_Feed.j1 x0 (0 : Int) x2 x3 x4))) :=
  (congrFun (congrFun (jnO_eq [1, 1, 1, 1, 0, 1] (BF (R := denR .tnil [(.box tsplitSplitO), (.row 109 tsplitstep false)]) 40 2 [1, 1, 1, 1, 0, 1])) ⟨[(0, ⟨(.ptr 0 0), ()⟩), (3, ⟨(.ptr 2 0), ()⟩), (4, ⟨(.int .i64), x0⟩), (22, ⟨.bool, x1⟩)], [⟨(.box tsplitSplitO), x2⟩, ⟨(.row 109 tsplitstep true), x3⟩, ⟨(.box tapiNode), x4⟩]⟩) (seqK false [1, 1, 1, 1, 1] (BF 40 2 [1, 1, 1, 1, 1]) (finF 40 .tnil [(.box tsplitSplitO), (.row 109 tsplitstep false)] 2))).trans (by kernel_rfl)
theorem split_Split_Feed.j1.eq (x0 : den (.int .i64)) (x1 : den (.int .i64)) (x2 : denO (.box tsplitSplitO)) (x3 : denO (.row 109 tsplitstep true)) (x4 : denO (.box tapiNode)) : split_Split_Feed.j1 x0 x1 x2 x3 x4 =
  br (fitL tsplitstep (appL tsplitstep x3 ((x0, (x4.1, (x4.2.1, (x4.2.2.1, (x4.2.2.2.1, (x4.2.2.2.2.1, (x4.2.2.2.2.2.1, (x4.2.2.2.2.2.2.1, (x4.2.2.2.2.2.2.2.1, (x4.2.2.2.2.2.2.2.2.1, (x1, ()))))))))))) :: []))) (br (andB (leI (0 : Int) x1) (ltI x1 (ofN (lenL (.int .i64) x4.2.2.2.2.1)))) (some ((), ((x2.1, (x2.2.1, (x2.2.2.1, (x2.2.2.2.1, ((ixL (.int .i64) x4.2.2.2.2.1 x1), x2.2.2.2.2.2))))), ((appL tsplitstep x3 ((x0, (x4.1, (x4.2.1, (x4.2.2.1, (x4.2.2.2.1, (x4.2.2.2.2.1, (x4.2.2.2.2.2.1, (x4.2.2.2.2.2.2.1, (x4.2.2.2.2.2.2.2.1, (x4.2.2.2.2.2.2.2.2.1, (x1, ()))))))))))) :: [])), ())))) none) none :=
  (congrFun (congrFun (jnO_eq [1, 1, 1, 1, 1, 1, 1] (BF (R := denR .tnil [(.box tsplitSplitO), (.row 109 tsplitstep false)]) 40 2 [1, 1, 1, 1, 1, 1, 1])) ⟨[(0, ⟨(.ptr 0 0), ()⟩), (3, ⟨(.ptr 2 0), ()⟩), (4, ⟨(.int .i64), x0⟩), (5, ⟨(.int .i64), x1⟩)], [⟨(.box tsplitSplitO), x2⟩, ⟨(.row 109 tsplitstep true), x3⟩, ⟨(.box tapiNode), x4⟩]⟩) (finF 40 .tnil [(.box tsplitSplitO), (.row 109 tsplitstep false)] 2)).trans (by kernel_rfl)
theorem law07_Few.eq (a0 : den (.list tapiPair)) : law07_Few a0 =
  law07_Few.l0 a0 (0 : Int) [] :=
  (callW_eq (P := PP) (T := TT) (pr := RR) 45 [⟨(.list tapiPair), a0⟩] [] (.list tapiPair) []).trans (by kernel_rfl)
theorem law07_Few.l0.eq (x0 : den (.list tapiPair)) (x1 : den (.int .i64)) (x2 : denO (.row 82 tapiPair false)) : law07_Few.l0 x0 x1 x2 =
  br (ltI x1 (ofN (lenL tapiPair x0)))
   (law07_Few.j1 x0 x1 (ltI x1 (40 : Int)) x2)
   (law07_Few.j1 x0 x1 false x2) :=
  (loopB_eq (P := PP) (T := TT) (C := CF) [1, 1, 0, 1, 0, 0] [1, 1, 0, 1, 0, 0] 45 0 ⟨[(0, ⟨(.list tapiPair), x0⟩), (3, ⟨(.own tapiPair 0), ()⟩), (4, ⟨(.int .i64), x1⟩)], [⟨(.row 82 tapiPair false), x2⟩]⟩ (blockK 0 (seqK false [1, 1, 1] (BF 45 0 [1, 1, 1]) (finF 45 (.list tapiPair) [] 0)))).trans (by kernel_rfl)
theorem law07_Few.j1.eq (x0 : den (.list tapiPair)) (x1 : den (.int .i64)) (x2 : den .bool) (x3 : denO (.row 82 tapiPair false)) : law07_Few.j1 x0 x1 x2 x3 =
  br x2
   (br (andB (leI (0 : Int) x1) (ltI x1 (ofN (lenL tapiPair x0)))) (br (andB (leI (0 : Int) x1) (ltI x1 (ofN (lenL tapiPair x0)))) (bnd (base_Cut (ixL tapiPair x0 x1).1 (40 : Int)) fun r0 =>
   bnd (base_Cut (ixL tapiPair x0 x1).2.1 (40 : Int)) fun r1 =>
   br (fitL tapiPair (appL tapiPair x3 ((r0, (r1, ())) :: []))) (law07_Few.l0 x0 (addI .i64 x1 (1 : Int)) (appL tapiPair x3 ((r0, (r1, ())) :: []))) none) none) none)
   (some x3) :=
  (congrFun (congrFun (jnO_eq [1, 1, 0, 1, 0, 0, 0, 1] (BF (R := den (.list tapiPair)) 45 0 [1, 1, 0, 1, 0, 0, 0, 1])) ⟨[(0, ⟨(.list tapiPair), x0⟩), (3, ⟨(.own tapiPair 0), ()⟩), (4, ⟨(.int .i64), x1⟩), (13, ⟨.bool, x2⟩)], [⟨(.row 82 tapiPair false), x3⟩]⟩) (seqK false [1, 1, 0, 1, 0, 0, 1] (BF 45 0 [1, 1, 0, 1, 0, 0, 1]) (againK [1, 1, 0, 1, 0, 0] (loopW [1, 1, 0, 1, 0, 0] (BF 45 0 [1, 1, 0, 1, 0, 0])) (blockK 0 (seqK false [1, 1, 1] (BF 45 0 [1, 1, 1]) (finF 45 (.list tapiPair) [] 0)))))).trans (by kernel_rfl)
theorem ref20_Long.eq (a0 : den (.list tapiPair)) : ref20_Long a0 =
  bnd (ref07_Make a0) fun r0 =>
  ref20_Long.l0 r0 (0 : Int) :=
  (callW_eq (P := PP) (T := TT) (pr := RR) 46 [⟨(.list tapiPair), a0⟩] [] .bool []).trans (by kernel_rfl)
theorem ref20_Long.l0.eq (x0 : den (.list tapiPair)) (x1 : den (.int .i64)) : ref20_Long.l0 x0 x1 =
  br (ltI x1 (ofN (lenL tapiPair x0)))
   (br (andB (leI (0 : Int) x1) (ltI x1 (ofN (lenL tapiPair x0)))) (br (ltI (16 : Int) (ofN (lenS (ixL tapiPair x0 x1).1)))
    (some true)
    (br (andB (leI (0 : Int) x1) (ltI x1 (ofN (lenL tapiPair x0)))) (br (ltI (16 : Int) (ofN (lenS (ixL tapiPair x0 x1).2.1)))
     (some true)
     (ref20_Long.l0 x0 (addI .i64 x1 (1 : Int)))) none)) none)
   (some false) :=
  (loopB_eq (P := PP) (T := TT) (C := CF) [1, 1, 0, 1, 0, 0] [1, 1, 0, 1, 0, 0] 46 0 ⟨[(3, ⟨(.list tapiPair), x0⟩), (4, ⟨(.int .i64), x1⟩)], []⟩ (blockK 0 (seqK false [1, 1, 1] (BF 46 0 [1, 1, 1]) (finF 46 .bool [] 0)))).trans (by kernel_rfl)
theorem ref25_Make.eq (a0 : den (.list tapiPair)) : ref25_Make a0 =
  bnd (ref07_Make a0) fun r0 =>
  bnd (ref25_make1 r0 []) fun r1 =>
  some (r1.2.1, r1.1.2) :=
  (callW_eq (P := PP) (T := TT) (pr := RR) 47 [⟨(.list tapiPair), a0⟩] [] (.tcons (.list tapiNode) (.tcons (.int .i64) .tnil)) []).trans (by kernel_rfl)
theorem ref07_Make.eq (a0 : den (.list tapiPair)) : ref07_Make a0 =
  ref07_Make.l0 a0 (0 : Int) [] :=
  (callW_eq (P := PP) (T := TT) (pr := RR) 48 [⟨(.list tapiPair), a0⟩] [] (.list tapiPair) []).trans (by kernel_rfl)
theorem ref07_Make.l0.eq (x0 : den (.list tapiPair)) (x1 : den (.int .i64)) (x2 : denO (.row 82 tapiPair false)) : ref07_Make.l0 x0 x1 x2 =
  br (ltI x1 (ofN (lenL tapiPair x0)))
   (bnd (ref07_last x0 x1) fun r0 =>
   br (notB r0)
    (ref07_Make.l0 x0 (addI .i64 x1 (1 : Int)) x2)
    (ref07_Make.l1 x0 x1 (0 : Int) x2))
   (some x2) :=
  (loopB_eq (P := PP) (T := TT) (C := CF) [1, 1, 0, 1, 0, 0] [1, 1, 0, 1, 0, 0] 48 0 ⟨[(0, ⟨(.list tapiPair), x0⟩), (3, ⟨(.own tapiPair 0), ()⟩), (4, ⟨(.int .i64), x1⟩)], [⟨(.row 82 tapiPair false), x2⟩]⟩ (blockK 0 (seqK false [1, 1, 1] (BF 48 0 [1, 1, 1]) (finF 48 (.list tapiPair) [] 0)))).trans (by kernel_rfl)
theorem ref07_Make.l1.eq (x0 : den (.list tapiPair)) (x1 : den (.int .i64)) (x2 : den (.int .i64)) (x3 : denO (.row 82 tapiPair false)) : ref07_Make.l1 x0 x1 x2 x3 =
  br (ltI x2 (ofN (lenL tapiPair x3)))
   (br (andB (leI (0 : Int) x2) (ltI x2 (ofN (lenL tapiPair x3)))) (br (andB (leI (0 : Int) x1) (ltI x1 (ofN (lenL tapiPair x0)))) (bnd (ref01_Less (ixL tapiPair x3 x2).1 (ixL tapiPair x0 x1).1) fun r0 =>
   ref07_Make.j2 x0 x1 x2 r0 x3) none) none)
   (ref07_Make.j2 x0 x1 x2 false x3) :=
  (loopB_eq (P := PP) (T := TT) (C := CF) [1, 1, 0, 1, 0, 0, 1, 0, 0, 1, 1, 0, 0, 0] [1, 1, 0, 1, 0, 0, 1, 0, 0, 1, 1, 0, 0, 0] 48 0 ⟨[(0, ⟨(.list tapiPair), x0⟩), (3, ⟨(.own tapiPair 0), ()⟩), (4, ⟨(.int .i64), x1⟩), (5, ⟨(.int .i64), x2⟩)], [⟨(.row 82 tapiPair false), x3⟩]⟩ (blockK 2 (seqK false [1, 1, 0, 1, 0, 0, 1, 0, 0, 1, 1, 1] (BF 48 0 [1, 1, 0, 1, 0, 0, 1, 0, 0, 1, 1, 1]) (blockK 1 (seqK false [1, 1, 0, 1, 0, 0, 1, 1] (BF 48 0 [1, 1, 0, 1, 0, 0, 1, 1]) (againK [1, 1, 0, 1, 0, 0] (loopW [1, 1, 0, 1, 0, 0] (BF 48 0 [1, 1, 0, 1, 0, 0])) (blockK 0 (seqK false [1, 1, 1] (BF 48 0 [1, 1, 1]) (finF 48 (.list tapiPair) [] 0))))))))).trans (by kernel_rfl)
theorem ref07_Make.j2.eq (x0 : den (.list tapiPair)) (x1 : den (.int .i64)) (x2 : den (.int .i64)) (x3 : den .bool) (x4 : denO (.row 82 tapiPair false)) : ref07_Make.j2 x0 x1 x2 x3 x4 =
  br x3
   (ref07_Make.l1 x0 x1 (addI .i64 x2 (1 : Int)) x4)
   (br (andB (leI (0 : Int) x1) (ltI x1 (ofN (lenL tapiPair x0)))) (both
    (both
     (br (andB (leI (0 : Int) (0 : Int)) (andB (leI (0 : Int) x2) (leI x2 (ofN (lenL tapiPair x4))))) (br (andB (leI (0 : Int) x2) (andB (leI x2 (ofN (lenL tapiPair x4))) (leI (ofN (lenL tapiPair x4)) (ofN (lenL tapiPair x4))))) (both
      (br (fitL tapiPair (appL tapiPair [] (subL tapiPair x4 (toN (0 : Int)) (toN x2)))) (br (fitL tapiPair (appL tapiPair (appL tapiPair [] (subL tapiPair x4 (toN (0 : Int)) (toN x2))) ((ixL tapiPair x0 x1) :: []))) (br (fitL tapiPair (appL tapiPair (appL tapiPair (appL tapiPair [] (subL tapiPair x4 (toN (0 : Int)) (toN x2))) ((ixL tapiPair x0 x1) :: [])) (subL tapiPair x4 (toN x2) (toN (ofN (lenL tapiPair x4)))))) (ref07_Make.l0 x0 (addI .i64 x1 (1 : Int)) (appL tapiPair (appL tapiPair (appL tapiPair [] (subL tapiPair x4 (toN (0 : Int)) (toN x2))) ((ixL tapiPair x0 x1) :: [])) (subL tapiPair x4 (toN x2) (toN (ofN (lenL tapiPair x4)))))) none) none) none)
      (br (fitL tapiPair (appL tapiPair [] (subL tapiPair x4 (toN (0 : Int)) (toN x2)))) (br (fitL tapiPair (appL tapiPair (appL tapiPair [] (subL tapiPair x4 (toN (0 : Int)) (toN x2))) ((ixL tapiPair x0 x1) :: []))) (br (fitL tapiPair (appL tapiPair (appL tapiPair (appL tapiPair [] (subL tapiPair x4 (toN (0 : Int)) (toN x2))) ((ixL tapiPair x0 x1) :: [])) (subL tapiPair x4 (toN x2) (toN (ofN (lenL tapiPair x4)))))) (ref07_Make.l0 x0 (addI .i64 x1 (1 : Int)) (appL tapiPair (appL tapiPair (appL tapiPair [] (subL tapiPair x4 (toN (0 : Int)) (toN x2))) ((ixL tapiPair x0 x1) :: [])) (subL tapiPair x4 (toN x2) (toN (ofN (lenL tapiPair x4)))))) none) none) none)) none) none)
     (both
      (both
       (br (andB (leI (0 : Int) (0 : Int)) (andB (leI (0 : Int) x2) (leI x2 (ofN (lenL tapiPair x4))))) (br (andB (leI (0 : Int) x2) (andB (leI x2 (ofN (lenL tapiPair x4))) (leI (ofN (lenL tapiPair x4)) (ofN (lenL tapiPair x4))))) (br (fitL tapiPair (appL tapiPair [] (subL tapiPair x4 (toN (0 : Int)) (toN x2)))) (br (fitL tapiPair (appL tapiPair (appL tapiPair [] (subL tapiPair x4 (toN (0 : Int)) (toN x2))) ((ixL tapiPair x0 x1) :: []))) (br (fitL tapiPair (appL tapiPair (appL tapiPair (appL tapiPair [] (subL tapiPair x4 (toN (0 : Int)) (toN x2))) ((ixL tapiPair x0 x1) :: [])) (subL tapiPair x4 (toN x2) (toN (ofN (lenL tapiPair x4)))))) (ref07_Make.l0 x0 (addI .i64 x1 (1 : Int)) (appL tapiPair (appL tapiPair (appL tapiPair [] (subL tapiPair x4 (toN (0 : Int)) (toN x2))) ((ixL tapiPair x0 x1) :: [])) (subL tapiPair x4 (toN x2) (toN (ofN (lenL tapiPair x4)))))) none) none) none) none) none)
       (br (andB (leI (0 : Int) x2) (andB (leI x2 (ofN (lenL tapiPair x4))) (leI (ofN (lenL tapiPair x4)) (ofN (lenL tapiPair x4))))) (br (andB (leI (0 : Int) (0 : Int)) (andB (leI (0 : Int) x2) (leI x2 (ofN (lenL tapiPair x4))))) (br (fitL tapiPair (appL tapiPair [] (subL tapiPair x4 (toN (0 : Int)) (toN x2)))) (br (fitL tapiPair (appL tapiPair (appL tapiPair [] (subL tapiPair x4 (toN (0 : Int)) (toN x2))) ((ixL tapiPair x0 x1) :: []))) (br (fitL tapiPair (appL tapiPair (appL tapiPair (appL tapiPair [] (subL tapiPair x4 (toN (0 : Int)) (toN x2))) ((ixL tapiPair x0 x1) :: [])) (subL tapiPair x4 (toN x2) (toN (ofN (lenL tapiPair x4)))))) (ref07_Make.l0 x0 (addI .i64 x1 (1 : Int)) (appL tapiPair (appL tapiPair (appL tapiPair [] (subL tapiPair x4 (toN (0 : Int)) (toN x2))) ((ixL tapiPair x0 x1) :: [])) (subL tapiPair x4 (toN x2) (toN (ofN (lenL tapiPair x4)))))) none) none) none) none) none))
      (br (andB (leI (0 : Int) x2) (andB (leI x2 (ofN (lenL tapiPair x4))) (leI (ofN (lenL tapiPair x4)) (ofN (lenL tapiPair x4))))) (br (andB (leI (0 : Int) (0 : Int)) (andB (leI (0 : Int) x2) (leI x2 (ofN (lenL tapiPair x4))))) (both
       (br (fitL tapiPair (appL tapiPair [] (subL tapiPair x4 (toN (0 : Int)) (toN x2)))) (br (fitL tapiPair (appL tapiPair (appL tapiPair [] (subL tapiPair x4 (toN (0 : Int)) (toN x2))) ((ixL tapiPair x0 x1) :: []))) (br (fitL tapiPair (appL tapiPair (appL tapiPair (appL tapiPair [] (subL tapiPair x4 (toN (0 : Int)) (toN x2))) ((ixL tapiPair x0 x1) :: [])) (subL tapiPair x4 (toN x2) (toN (ofN (lenL tapiPair x4)))))) (ref07_Make.l0 x0 (addI .i64 x1 (1 : Int)) (appL tapiPair (appL tapiPair (appL tapiPair [] (subL tapiPair x4 (toN (0 : Int)) (toN x2))) ((ixL tapiPair x0 x1) :: [])) (subL tapiPair x4 (toN x2) (toN (ofN (lenL tapiPair x4)))))) none) none) none)
       (br (fitL tapiPair (appL tapiPair [] (subL tapiPair x4 (toN (0 : Int)) (toN x2)))) (br (fitL tapiPair (appL tapiPair (appL tapiPair [] (subL tapiPair x4 (toN (0 : Int)) (toN x2))) ((ixL tapiPair x0 x1) :: []))) (br (fitL tapiPair (appL tapiPair (appL tapiPair (appL tapiPair [] (subL tapiPair x4 (toN (0 : Int)) (toN x2))) ((ixL tapiPair x0 x1) :: [])) (subL tapiPair x4 (toN x2) (toN (ofN (lenL tapiPair x4)))))) (ref07_Make.l0 x0 (addI .i64 x1 (1 : Int)) (appL tapiPair (appL tapiPair (appL tapiPair [] (subL tapiPair x4 (toN (0 : Int)) (toN x2))) ((ixL tapiPair x0 x1) :: [])) (subL tapiPair x4 (toN x2) (toN (ofN (lenL tapiPair x4)))))) none) none) none)) none) none)))
    (both
     (br (andB (leI (0 : Int) (0 : Int)) (andB (leI (0 : Int) x2) (leI x2 (ofN (lenL tapiPair x4))))) (br (andB (leI (0 : Int) x2) (andB (leI x2 (ofN (lenL tapiPair x4))) (leI (ofN (lenL tapiPair x4)) (ofN (lenL tapiPair x4))))) (both
      (both
       (br (fitL tapiPair (appL tapiPair [] (subL tapiPair x4 (toN (0 : Int)) (toN x2)))) (br (fitL tapiPair (appL tapiPair (appL tapiPair [] (subL tapiPair x4 (toN (0 : Int)) (toN x2))) ((ixL tapiPair x0 x1) :: []))) (br (fitL tapiPair (appL tapiPair (appL tapiPair (appL tapiPair [] (subL tapiPair x4 (toN (0 : Int)) (toN x2))) ((ixL tapiPair x0 x1) :: [])) (subL tapiPair x4 (toN x2) (toN (ofN (lenL tapiPair x4)))))) (ref07_Make.l0 x0 (addI .i64 x1 (1 : Int)) (appL tapiPair (appL tapiPair (appL tapiPair [] (subL tapiPair x4 (toN (0 : Int)) (toN x2))) ((ixL tapiPair x0 x1) :: [])) (subL tapiPair x4 (toN x2) (toN (ofN (lenL tapiPair x4)))))) none) none) none)
       (br (fitL tapiPair (appL tapiPair [] (subL tapiPair x4 (toN (0 : Int)) (toN x2)))) (br (fitL tapiPair (appL tapiPair (appL tapiPair [] (subL tapiPair x4 (toN (0 : Int)) (toN x2))) ((ixL tapiPair x0 x1) :: []))) (br (fitL tapiPair (appL tapiPair (appL tapiPair (appL tapiPair [] (subL tapiPair x4 (toN (0 : Int)) (toN x2))) ((ixL tapiPair x0 x1) :: [])) (subL tapiPair x4 (toN x2) (toN (ofN (lenL tapiPair x4)))))) (ref07_Make.l0 x0 (addI .i64 x1 (1 : Int)) (appL tapiPair (appL tapiPair (appL tapiPair [] (subL tapiPair x4 (toN (0 : Int)) (toN x2))) ((ixL tapiPair x0 x1) :: [])) (subL tapiPair x4 (toN x2) (toN (ofN (lenL tapiPair x4)))))) none) none) none))
      (br (fitL tapiPair (appL tapiPair [] (subL tapiPair x4 (toN (0 : Int)) (toN x2)))) (br (fitL tapiPair (appL tapiPair (appL tapiPair [] (subL tapiPair x4 (toN (0 : Int)) (toN x2))) ((ixL tapiPair x0 x1) :: []))) (br (fitL tapiPair (appL tapiPair (appL tapiPair (appL tapiPair [] (subL tapiPair x4 (toN (0 : Int)) (toN x2))) ((ixL tapiPair x0 x1) :: [])) (subL tapiPair x4 (toN x2) (toN (ofN (lenL tapiPair x4)))))) (ref07_Make.l0 x0 (addI .i64 x1 (1 : Int)) (appL tapiPair (appL tapiPair (appL tapiPair [] (subL tapiPair x4 (toN (0 : Int)) (toN x2))) ((ixL tapiPair x0 x1) :: [])) (subL tapiPair x4 (toN x2) (toN (ofN (lenL tapiPair x4)))))) none) none) none)) none) none)
     (both
      (both
       (both
        (br (andB (leI (0 : Int) (0 : Int)) (andB (leI (0 : Int) x2) (leI x2 (ofN (lenL tapiPair x4))))) (br (andB (leI (0 : Int) x2) (andB (leI x2 (ofN (lenL tapiPair x4))) (leI (ofN (lenL tapiPair x4)) (ofN (lenL tapiPair x4))))) (br (fitL tapiPair (appL tapiPair [] (subL tapiPair x4 (toN (0 : Int)) (toN x2)))) (br (fitL tapiPair (appL tapiPair (appL tapiPair [] (subL tapiPair x4 (toN (0 : Int)) (toN x2))) ((ixL tapiPair x0 x1) :: []))) (br (fitL tapiPair (appL tapiPair (appL tapiPair (appL tapiPair [] (subL tapiPair x4 (toN (0 : Int)) (toN x2))) ((ixL tapiPair x0 x1) :: [])) (subL tapiPair x4 (toN x2) (toN (ofN (lenL tapiPair x4)))))) (ref07_Make.l0 x0 (addI .i64 x1 (1 : Int)) (appL tapiPair (appL tapiPair (appL tapiPair [] (subL tapiPair x4 (toN (0 : Int)) (toN x2))) ((ixL tapiPair x0 x1) :: [])) (subL tapiPair x4 (toN x2) (toN (ofN (lenL tapiPair x4)))))) none) none) none) none) none)
        (br (andB (leI (0 : Int) x2) (andB (leI x2 (ofN (lenL tapiPair x4))) (leI (ofN (lenL tapiPair x4)) (ofN (lenL tapiPair x4))))) (br (andB (leI (0 : Int) (0 : Int)) (andB (leI (0 : Int) x2) (leI x2 (ofN (lenL tapiPair x4))))) (br (fitL tapiPair (appL tapiPair [] (subL tapiPair x4 (toN (0 : Int)) (toN x2)))) (br (fitL tapiPair (appL tapiPair (appL tapiPair [] (subL tapiPair x4 (toN (0 : Int)) (toN x2))) ((ixL tapiPair x0 x1) :: []))) (br (fitL tapiPair (appL tapiPair (appL tapiPair (appL tapiPair [] (subL tapiPair x4 (toN (0 : Int)) (toN x2))) ((ixL tapiPair x0 x1) :: [])) (subL tapiPair x4 (toN x2) (toN (ofN (lenL tapiPair x4)))))) (ref07_Make.l0 x0 (addI .i64 x1 (1 : Int)) (appL tapiPair (appL tapiPair (appL tapiPair [] (subL tapiPair x4 (toN (0 : Int)) (toN x2))) ((ixL tapiPair x0 x1) :: [])) (subL tapiPair x4 (toN x2) (toN (ofN (lenL tapiPair x4)))))) none) none) none) none) none))
       (both
        (br (andB (leI (0 : Int) (0 : Int)) (andB (leI (0 : Int) x2) (leI x2 (ofN (lenL tapiPair x4))))) (br (andB (leI (0 : Int) x2) (andB (leI x2 (ofN (lenL tapiPair x4))) (leI (ofN (lenL tapiPair x4)) (ofN (lenL tapiPair x4))))) (br (fitL tapiPair (appL tapiPair [] (subL tapiPair x4 (toN (0 : Int)) (toN x2)))) (br (fitL tapiPair (appL tapiPair (appL tapiPair [] (subL tapiPair x4 (toN (0 : Int)) (toN x2))) ((ixL tapiPair x0 x1) :: []))) (br (fitL tapiPair (appL tapiPair (appL tapiPair (appL tapiPair [] (subL tapiPair x4 (toN (0 : Int)) (toN x2))) ((ixL tapiPair x0 x1) :: [])) (subL tapiPair x4 (toN x2) (toN (ofN (lenL tapiPair x4)))))) (ref07_Make.l0 x0 (addI .i64 x1 (1 : Int)) (appL tapiPair (appL tapiPair (appL tapiPair [] (subL tapiPair x4 (toN (0 : Int)) (toN x2))) ((ixL tapiPair x0 x1) :: [])) (subL tapiPair x4 (toN x2) (toN (ofN (lenL tapiPair x4)))))) none) none) none) none) none)
        (br (andB (leI (0 : Int) x2) (andB (leI x2 (ofN (lenL tapiPair x4))) (leI (ofN (lenL tapiPair x4)) (ofN (lenL tapiPair x4))))) (br (andB (leI (0 : Int) (0 : Int)) (andB (leI (0 : Int) x2) (leI x2 (ofN (lenL tapiPair x4))))) (br (fitL tapiPair (appL tapiPair [] (subL tapiPair x4 (toN (0 : Int)) (toN x2)))) (br (fitL tapiPair (appL tapiPair (appL tapiPair [] (subL tapiPair x4 (toN (0 : Int)) (toN x2))) ((ixL tapiPair x0 x1) :: []))) (br (fitL tapiPair (appL tapiPair (appL tapiPair (appL tapiPair [] (subL tapiPair x4 (toN (0 : Int)) (toN x2))) ((ixL tapiPair x0 x1) :: [])) (subL tapiPair x4 (toN x2) (toN (ofN (lenL tapiPair x4)))))) (ref07_Make.l0 x0 (addI .i64 x1 (1 : Int)) (appL tapiPair (appL tapiPair (appL tapiPair [] (subL tapiPair x4 (toN (0 : Int)) (toN x2))) ((ixL tapiPair x0 x1) :: [])) (subL tapiPair x4 (toN x2) (toN (ofN (lenL tapiPair x4)))))) none) none) none) none) none)))
      (br (andB (leI (0 : Int) x2) (andB (leI x2 (ofN (lenL tapiPair x4))) (leI (ofN (lenL tapiPair x4)) (ofN (lenL tapiPair x4))))) (br (andB (leI (0 : Int) (0 : Int)) (andB (leI (0 : Int) x2) (leI x2 (ofN (lenL tapiPair x4))))) (both
       (both
        (br (fitL tapiPair (appL tapiPair [] (subL tapiPair x4 (toN (0 : Int)) (toN x2)))) (br (fitL tapiPair (appL tapiPair (appL tapiPair [] (subL tapiPair x4 (toN (0 : Int)) (toN x2))) ((ixL tapiPair x0 x1) :: []))) (br (fitL tapiPair (appL tapiPair (appL tapiPair (appL tapiPair [] (subL tapiPair x4 (toN (0 : Int)) (toN x2))) ((ixL tapiPair x0 x1) :: [])) (subL tapiPair x4 (toN x2) (toN (ofN (lenL tapiPair x4)))))) (ref07_Make.l0 x0 (addI .i64 x1 (1 : Int)) (appL tapiPair (appL tapiPair (appL tapiPair [] (subL tapiPair x4 (toN (0 : Int)) (toN x2))) ((ixL tapiPair x0 x1) :: [])) (subL tapiPair x4 (toN x2) (toN (ofN (lenL tapiPair x4)))))) none) none) none)
        (br (fitL tapiPair (appL tapiPair [] (subL tapiPair x4 (toN (0 : Int)) (toN x2)))) (br (fitL tapiPair (appL tapiPair (appL tapiPair [] (subL tapiPair x4 (toN (0 : Int)) (toN x2))) ((ixL tapiPair x0 x1) :: []))) (br (fitL tapiPair (appL tapiPair (appL tapiPair (appL tapiPair [] (subL tapiPair x4 (toN (0 : Int)) (toN x2))) ((ixL tapiPair x0 x1) :: [])) (subL tapiPair x4 (toN x2) (toN (ofN (lenL tapiPair x4)))))) (ref07_Make.l0 x0 (addI .i64 x1 (1 : Int)) (appL tapiPair (appL tapiPair (appL tapiPair [] (subL tapiPair x4 (toN (0 : Int)) (toN x2))) ((ixL tapiPair x0 x1) :: [])) (subL tapiPair x4 (toN x2) (toN (ofN (lenL tapiPair x4)))))) none) none) none))
       (br (fitL tapiPair (appL tapiPair [] (subL tapiPair x4 (toN (0 : Int)) (toN x2)))) (br (fitL tapiPair (appL tapiPair (appL tapiPair [] (subL tapiPair x4 (toN (0 : Int)) (toN x2))) ((ixL tapiPair x0 x1) :: []))) (br (fitL tapiPair (appL tapiPair (appL tapiPair (appL tapiPair [] (subL tapiPair x4 (toN (0 : Int)) (toN x2))) ((ixL tapiPair x0 x1) :: [])) (subL tapiPair x4 (toN x2) (toN (ofN (lenL tapiPair x4)))))) (ref07_Make.l0 x0 (addI .i64 x1 (1 : Int)) (appL tapiPair (appL tapiPair (appL tapiPair [] (subL tapiPair x4 (toN (0 : Int)) (toN x2))) ((ixL tapiPair x0 x1) :: [])) (subL tapiPair x4 (toN x2) (toN (ofN (lenL tapiPair x4)))))) none) none) none)) none) none)))) none) :=
  (congrFun (congrFun (jnO_eq [1, 1, 0, 1, 0, 0, 1, 0, 0, 1, 1, 0, 0, 0, 0, 1] (BF (R := den (.list tapiPair)) 48 0 [1, 1, 0, 1, 0, 0, 1, 0, 0, 1, 1, 0, 0, 0, 0, 1])) ⟨[(0, ⟨(.list tapiPair), x0⟩), (3, ⟨(.own tapiPair 0), ()⟩), (4, ⟨(.int .i64), x1⟩), (5, ⟨(.int .i64), x2⟩), (33, ⟨.bool, x3⟩)], [⟨(.row 82 tapiPair false), x4⟩]⟩) (seqK false [1, 1, 0, 1, 0, 0, 1, 0, 0, 1, 1, 0, 0, 0, 1] (BF 48 0 [1, 1, 0, 1, 0, 0, 1, 0, 0, 1, 1, 0, 0, 0, 1]) (againK [1, 1, 0, 1, 0, 0, 1, 0, 0, 1, 1, 0, 0, 0] (loopW [1, 1, 0, 1, 0, 0, 1, 0, 0, 1, 1, 0, 0, 0] (BF 48 0 [1, 1, 0, 1, 0, 0, 1, 0, 0, 1, 1, 0, 0, 0])) (blockK 2 (seqK false [1, 1, 0, 1, 0, 0, 1, 0, 0, 1, 1, 1] (BF 48 0 [1, 1, 0, 1, 0, 0, 1, 0, 0, 1, 1, 1]) (blockK 1 (seqK false [1, 1, 0, 1, 0, 0, 1, 1] (BF 48 0 [1, 1, 0, 1, 0, 0, 1, 1]) (againK [1, 1, 0, 1, 0, 0] (loopW [1, 1, 0, 1, 0, 0] (BF 48 0 [1, 1, 0, 1, 0, 0])) (blockK 0 (seqK false [1, 1, 1] (BF 48 0 [1, 1, 1]) (finF 48 (.list tapiPair) [] 0))))))))))).trans (by kernel_rfl)
theorem split_Split_Want.eq (a0 : denO (.box tsplitSplitO)) (a1 : denO (.row 109 tsplitstep true)) : split_Split_Want a0 a1 =
  some (a0.2.2.2.2.1, (a0, (a1, ()))) :=
  (callW_eq (P := PP) (T := TT) (pr := RR) 43 [⟨(.ptr 0 0), ()⟩] [⟨(.box tsplitSplitO), a0⟩, ⟨(.row 109 tsplitstep true), a1⟩] (.int .i64) [(.box tsplitSplitO), (.row 109 tsplitstep true)]).trans (by kernel_rfl)
theorem split_Split_Plan_v1.eq (a0 : denO (.box tsplitSplitO)) (a1 : denO (.row 109 tsplitstep true)) : split_Split_Plan_v1 a0 a1 =
  bnd (split_Split_changes a0 a1) fun r0 =>
  br (notB r0.1)
   (some ((((), ((0 : Int), ((), ()))), (false, ())), (r0.2.1, (r0.2.2.1, ([], ([], ()))))))
   (br r0.2.1.2.2.2.2.2.2.2.2.2.2.2.2.2.2.2.2.2.1
    (split_Split_Plan_v1.j0 r0.2.1 r0.2.2.1 ((), ((0 : Int), ((), ()))) (0 : Int) [] [])
    (split_Split_Plan_v1.j0 r0.2.1 r0.2.2.1 ((), ((0 : Int), ((), ()))) (1 : Int) [] [])) :=
  (callW_eq (P := PP) (T := TT) (pr := RR) 39 [⟨(.ptr 0 0), ()⟩] [⟨(.box tsplitSplitO), a0⟩, ⟨(.row 109 tsplitstep true), a1⟩] (.tcons (.pair (.own tapiNode 2) (.pair (.int .i64) (.pair (.own (.int .i64) 3) .unit))) (.tcons .bool .tnil)) [(.box tsplitSplitO), (.row 109 tsplitstep true), (.row 53 tapiNode false), (.row 24 (.int .i64) false)]).trans (by kernel_rfl)
theorem split_Split_Plan_v1.j0.eq (x0 : denO (.box tsplitSplitO)) (x1 : denO (.row 109 tsplitstep true)) (x2 : denO (.box (.pair (.own tapiNode 4) (.pair (.int .i64) (.pair (.own (.int .i64) 5) .unit))))) (x3 : denO (.box (.int .i64))) (x4 : denO (.row 53 tapiNode false)) (x5 : denO (.row 24 (.int .i64) false)) : split_Split_Plan_v1.j0 x0 x1 x2 x3 x4 x5 =
  bnd (split_Split_bottom_v1 ((), ((0 : Int), ((), ()))) x0 x1) fun r0 =>
  none :=
  (congrFun (congrFun (jnO_eq [1, 1, 1, 1] (BF (R := denR (.tcons (.pair (.own tapiNode 2) (.pair (.int .i64) (.pair (.own (.int .i64) 3) .unit))) (.tcons .bool .tnil)) [(.box tsplitSplitO), (.row 109 tsplitstep true), (.row 53 tapiNode false), (.row 24 (.int .i64) false)]) 39 2 [1, 1, 1, 1])) ⟨[(0, ⟨(.ptr 0 0), ()⟩), (2, ⟨(.ptr 2 0), ()⟩), (4, ⟨(.ptr 3 0), ()⟩)], [⟨(.box tsplitSplitO), x0⟩, ⟨(.row 109 tsplitstep true), x1⟩, ⟨(.box (.pair (.own tapiNode 4) (.pair (.int .i64) (.pair (.own (.int .i64) 5) .unit)))), x2⟩, ⟨(.box (.int .i64)), x3⟩, ⟨(.row 53 tapiNode false), x4⟩, ⟨(.row 24 (.int .i64) false), x5⟩]⟩) (finF 39 (.tcons (.pair (.own tapiNode 2) (.pair (.int .i64) (.pair (.own (.int .i64) 3) .unit))) (.tcons .bool .tnil)) [(.box tsplitSplitO), (.row 109 tsplitstep true), (.row 53 tapiNode false), (.row 24 (.int .i64) false)] 2)).trans (by kernel_rfl)
theorem split_Split_changes_o.eq (a0 : denO (.box tsplitSplit)) : split_Split_changes_o a0 =
  br (notB (eqI a0.2.2.2.2.1 (0 : Int)))
   (some (false, (a0, ())))
   (br (eqI a0.1 (1 : Int))
    (some (true, (a0, ())))
    (br (eqI a0.1 (2 : Int))
     (some ((notB a0.2.2.2.2.2.2.2.2.2.2.2.2.2.2.2.2.2.1), (a0, ())))
     (br (eqI a0.1 (3 : Int))
      (br a0.2.2.2.2.2.2.2.2.2.2.2.2.2.2.2.2.2.1
       (some ((eqS a0.2.2.2.2.2.2.2.2.2.1 a0.2.2.2.1), (a0, ())))
       (some (false, (a0, ()))))
      (some (false, (a0, ())))))) :=
  (callW_eq (P := PP) (T := TT) (pr := RR) 68 [⟨(.ptr 0 0), ()⟩] [⟨(.box tsplitSplit), a0⟩] .bool [(.box tsplitSplit)]).trans (by kernel_rfl)
theorem split_Split_bottom.eq (a0 : den (.pair (.nil 53) (.pair (.int .i64) (.pair (.nil 24) .unit)))) (a1 : denO (.box tsplitSplit)) : split_Split_bottom a0 a1 =
  br a1.2.2.2.2.2.2.2.2.2.2.2.2.2.2.2.2.2.1
   (br (fitL (.int .i64) (appL (.int .i64) [] (a1.2.2.2.2.2.2.1 :: []))) (br (andB (leI (0 : Int) (0 : Int)) (ltI (0 : Int) (ofN (lenL (.int .i64) a1.2.2.2.2.2.2.2.2.2.2.2.1)))) (br (andB (leI (0 : Int) (1 : Int)) (ltI (1 : Int) (ofN (lenL (.int .i64) a1.2.2.2.2.2.2.2.2.2.2.2.1)))) (both
    (bnd (node_Tree a1.2.1 a1.2.2.1 (ixL (.int .i64) a1.2.2.2.2.2.2.2.2.2.2.2.1 (0 : Int)) (ixL (.int .i64) a1.2.2.2.2.2.2.2.2.2.2.2.1 (1 : Int)) a1.2.2.2.2.2.2.2.2.2.2.2.2.2.2.1) fun r0 =>
    both
     (bnd (plan_Add ((), (a0.2.1, ((), ()))) r0 [] (appL (.int .i64) [] (a1.2.2.2.2.2.2.1 :: []))) fun r1 =>
     both
      (both
       (some ((((), (r1.1.1.2.1, ((), ()))), (r1.1.2.1, ((ofN (lenL tsplitstep a1.2.2.2.2.2.1)), ()))), (a1, (r1.2.2.2.1, (r1.2.2.1, ())))))
       (some ((((), (r1.1.1.2.1, ((), ()))), (r1.1.2.1, ((ofN (lenL tsplitstep a1.2.2.2.2.2.1)), ()))), (a1, (r1.2.2.2.1, (r1.2.2.1, ()))))))
      (some ((((), (r1.1.1.2.1, ((), ()))), (r1.1.2.1, ((ofN (lenL tsplitstep a1.2.2.2.2.2.1)), ()))), (a1, (r1.2.2.2.1, (r1.2.2.1, ()))))))
     (bnd (plan_Add ((), (a0.2.1, ((), ()))) r0 [] (appL (.int .i64) [] (a1.2.2.2.2.2.2.1 :: []))) fun r2 =>
     both
      (both
       (some ((((), (r2.1.1.2.1, ((), ()))), (r2.1.2.1, ((ofN (lenL tsplitstep a1.2.2.2.2.2.1)), ()))), (a1, (r2.2.2.2.1, (r2.2.2.1, ())))))
       (some ((((), (r2.1.1.2.1, ((), ()))), (r2.1.2.1, ((ofN (lenL tsplitstep a1.2.2.2.2.2.1)), ()))), (a1, (r2.2.2.2.1, (r2.2.2.1, ()))))))
      (some ((((), (r2.1.1.2.1, ((), ()))), (r2.1.2.1, ((ofN (lenL tsplitstep a1.2.2.2.2.2.1)), ()))), (a1, (r2.2.2.2.1, (r2.2.2.1, ())))))))
    (bnd (node_Tree a1.2.1 a1.2.2.1 (ixL (.int .i64) a1.2.2.2.2.2.2.2.2.2.2.2.1 (0 : Int)) (ixL (.int .i64) a1.2.2.2.2.2.2.2.2.2.2.2.1 (1 : Int)) a1.2.2.2.2.2.2.2.2.2.2.2.2.2.2.1) fun r3 =>
    bnd (plan_Add ((), (a0.2.1, ((), ()))) r3 [] (appL (.int .i64) [] (a1.2.2.2.2.2.2.1 :: []))) fun r4 =>
    both
     (both
      (some ((((), (r4.1.1.2.1, ((), ()))), (r4.1.2.1, ((ofN (lenL tsplitstep a1.2.2.2.2.2.1)), ()))), (a1, (r4.2.2.2.1, (r4.2.2.1, ())))))
      (some ((((), (r4.1.1.2.1, ((), ()))), (r4.1.2.1, ((ofN (lenL tsplitstep a1.2.2.2.2.2.1)), ()))), (a1, (r4.2.2.2.1, (r4.2.2.1, ()))))))
     (some ((((), (r4.1.1.2.1, ((), ()))), (r4.1.2.1, ((ofN (lenL tsplitstep a1.2.2.2.2.2.1)), ()))), (a1, (r4.2.2.2.1, (r4.2.2.1, ()))))))) none) none) none)
   (bnd (slices_IndexFuncsplit_step_split_step a1.2.2.2.2.2.1 ((), ()) a1) fun r5 =>
   br (ltI r5.1 (0 : Int))
    (split_Split_bottom.j0 (ofN (lenL tsplitstep r5.2.2.1.2.2.2.2.2.1)) r5.2.2.1 ((), (a0.2.1, ((), ()))) ((), ((0 : Int), ((), ()))) [] [] [] [])
    (split_Split_bottom.j0 r5.1 r5.2.2.1 ((), (a0.2.1, ((), ()))) ((), ((0 : Int), ((), ()))) [] [] [] [])) :=
  (callW_eq (P := PP) (T := TT) (pr := RR) 69 [⟨(.ptr 0 0), ()⟩, ⟨(.pair (.nil 53) (.pair (.int .i64) (.pair (.nil 24) .unit))), a0⟩] [⟨(.box tsplitSplit), a1⟩] (.tcons (.pair (.own tapiNode 1) (.pair (.int .i64) (.pair (.own (.int .i64) 2) .unit))) (.tcons (.int .i64) (.tcons (.int .i64) .tnil))) [(.box tsplitSplit), (.row 53 tapiNode false), (.row 24 (.int .i64) false)]).trans (by kernel_rfl)
theorem split_Split_bottom.j0.eq (x0 : den (.int .i64)) (x1 : denO (.box tsplitSplit)) (x2 : denO (.box (.pair (.own tapiNode 4) (.pair (.int .i64) (.pair (.own (.int .i64) 5) .unit))))) (x3 : denO (.box (.pair (.own tapiNode 6) (.pair (.int .i64) (.pair (.own (.int .i64) 7) .unit))))) (x4 : denO (.row 53 tapiNode false)) (x5 : denO (.row 24 (.int .i64) false)) (x6 : denO (.row 53 tapiNode false)) (x7 : denO (.row 24 (.int .i64) false)) : split_Split_bottom.j0 x0 x1 x2 x3 x4 x5 x6 x7 =
  bnd (split_Split_cut ((), (x2.2.1, ((), ()))) x0 x1 x4 x5) fun r0 =>
  bnd (node_Tree r0.2.1.2.1 r0.2.1.2.2.1 r0.1.2.1.1 r0.1.2.2.1.1 (addI .i64 (addI .i64 r0.1.2.1.2.1 r0.1.2.2.1.2.1) (1 : Int))) fun r1 =>
  bnd (plan_Add ((), (r0.1.1.2.1, ((), ()))) r1 r0.2.2.1 r0.2.2.2.1) fun r2 =>
  some ((((), (r2.1.1.2.1, ((), ()))), (r2.1.2.1, (x0, ()))), (r0.2.1, (r2.2.2.2.1, (r2.2.2.1, ())))) :=
  (congrFun (congrFun (jnO_eq [1, 1, 1, 1] (BF (R := denR (.tcons (.pair (.own tapiNode 1) (.pair (.int .i64) (.pair (.own (.int .i64) 2) .unit))) (.tcons (.int .i64) (.tcons (.int .i64) .tnil))) [(.box tsplitSplit), (.row 53 tapiNode false), (.row 24 (.int .i64) false)]) 69 1 [1, 1, 1, 1])) ⟨[(2, ⟨(.ptr 1 0), ()⟩), (3, ⟨(.ptr 2 0), ()⟩), (4, ⟨(.ptr 3 0), ()⟩), (10, ⟨(.int .i64), x0⟩)], [⟨(.box tsplitSplit), x1⟩, ⟨(.box (.ptr 0 0)), ()⟩, ⟨(.box (.pair (.own tapiNode 4) (.pair (.int .i64) (.pair (.own (.int .i64) 5) .unit)))), x2⟩, ⟨(.box (.pair (.own tapiNode 6) (.pair (.int .i64) (.pair (.own (.int .i64) 7) .unit)))), x3⟩, ⟨(.row 53 tapiNode false), x4⟩, ⟨(.row 24 (.int .i64) false), x5⟩, ⟨(.row 53 tapiNode false), x6⟩, ⟨(.row 24 (.int .i64) false), x7⟩]⟩) (finF 69 (.tcons (.pair (.own tapiNode 1) (.pair (.int .i64) (.pair (.own (.int .i64) 2) .unit))) (.tcons (.int .i64) (.tcons (.int .i64) .tnil))) [(.box tsplitSplit), (.row 53 tapiNode false), (.row 24 (.int .i64) false)] 1)).trans (by kernel_rfl)
theorem slices_Backwardsplit_step_split_step.eq (a0 : den (.list tsplitstep)) : slices_Backwardsplit_step_split_step a0 =
  some (((), ()), (a0, ())) :=
  (callW_eq (P := PP) (T := TT) (pr := RR) 70 [⟨(.list tsplitstep), a0⟩] [] (.fn 102 (.tcons (.ptr 0 0) .tnil)) [(.box (.list tsplitstep))]).trans (by kernel_rfl)
theorem slices_Backwardsplit_step_split_step_1.eq (a0 : den (.eptr (.list tsplitstep) 0)) : slices_Backwardsplit_step_split_step_1 a0 =
  slices_Backwardsplit_step_split_step_1.l0 a0 (subI .i64 (ofN (lenL tsplitstep a0)) (1 : Int)) :=
  (callW_eq (P := PP) (T := TT) (pr := RR) 102 [⟨(.own .dead 0), ()⟩, ⟨(.eptr (.list tsplitstep) 0), a0⟩] [⟨.held, ()⟩] (.list (.tcons (.int .i64) (.tcons tsplitstep .tnil))) []).trans (by kernel_rfl)
theorem slices_Backwardsplit_step_split_step_1.l0.eq (x0 : den (.eptr (.list tsplitstep) 0)) (x1 : den (.int .i64)) : slices_Backwardsplit_step_split_step_1.l0 x0 x1 =
  br (leI (0 : Int) x1)
   (br (andB (leI (0 : Int) x1) (ltI x1 (ofN (lenL tsplitstep x0)))) (yieldW (R := List (den (.tcons (.int .i64) (.tcons tsplitstep .tnil)))) ⟨(.tcons (.int .i64) (.tcons tsplitstep .tnil)), (x1, ((ixL tsplitstep x0 x1), ()))⟩
    (br (notB true)
     (some [])
     (slices_Backwardsplit_step_split_step_1.l0 x0 (subI .i64 x1 (1 : Int))))
    (br (notB false)
     (some [])
     (slices_Backwardsplit_step_split_step_1.l0 x0 (subI .i64 x1 (1 : Int))))) none)
   (some []) :=
  (loopB_eq (P := PP) (T := TT) (C := CF) [1, 0, 0] [1, 0, 0] 102 1 ⟨[(0, ⟨(.own .dead 0), ()⟩), (1, ⟨(.eptr (.list tsplitstep) 0), x0⟩), (3, ⟨(.int .i64), x1⟩)], [⟨.held, ()⟩]⟩ (blockK 0 (iterK (List (den (.tcons (.int .i64) (.tcons tsplitstep .tnil)))) []))).trans (by kernel_rfl)
theorem split_with.eq (a0 : den tapiNode) (a1 : den (.int .i64)) (a2 : den (.int .i64)) (a3 : den (.int .i64)) : split_with a0 a1 a2 a3 =
  bnd (slices_Cloneapi_Ref_api_Ref a0.2.2.2.2.1) fun r0 =>
  br (andB (leI (0 : Int) a1) (ltI a1 (ofN (lenL (.int .i64) r0.2.1)))) (br (andB (leI (0 : Int) (0 : Int)) (ltI (0 : Int) (ofN (lenL (.int .i64) (setL (.int .i64) r0.2.1 a1 a2))))) (br (andB (leI (0 : Int) (1 : Int)) (ltI (1 : Int) (ofN (lenL (.int .i64) (setL (.int .i64) r0.2.1 a1 a2))))) (both
   (bnd (node_Tree a0.2.1 a0.2.2.1 (ixL (.int .i64) (setL (.int .i64) r0.2.1 a1 a2) (0 : Int)) (ixL (.int .i64) (setL (.int .i64) r0.2.1 a1 a2) (1 : Int)) a3) fun r1 =>
   some r1)
   (bnd (node_Tree a0.2.1 a0.2.2.1 (ixL (.int .i64) (setL (.int .i64) r0.2.1 a1 a2) (0 : Int)) (ixL (.int .i64) (setL (.int .i64) r0.2.1 a1 a2) (1 : Int)) a3) fun r2 =>
   some r2)) none) none) none :=
  (callW_eq (P := PP) (T := TT) (pr := RR) 72 [⟨tapiNode, a0⟩, ⟨(.int .i64), a1⟩, ⟨(.int .i64), a2⟩, ⟨(.int .i64), a3⟩] [] tapiNode []).trans (by kernel_rfl)
theorem plan_Add.eq (a0 : den (.pair (.own tapiNode 0) (.pair (.int .i64) (.pair (.own (.int .i64) 1) .unit)))) (a1 : den tapiNode) (a2 : denO (.row 53 tapiNode true)) (a3 : denO (.row 24 (.int .i64) true)) : plan_Add a0 a1 a2 a3 =
  bnd (slices_Cloneapi_Node_api_Node a2) fun r0 =>
  bnd (node_Copy a1) fun r1 =>
  br (fitL tapiNode (appL tapiNode r0.2.1 ((r1.1.1, (r1.1.2.1, (r1.1.2.2.1, (r1.1.2.2.2.1, (r1.2.1, (r1.1.2.2.2.2.2.1, (r1.2.2.1, r1.1.2.2.2.2.2.2.2))))))) :: []))) (bnd (ref_New (subI .i64 (ofN (lenL tapiNode (appL tapiNode r0.2.1 ((r1.1.1, (r1.1.2.1, (r1.1.2.2.1, (r1.1.2.2.2.1, (r1.2.1, (r1.1.2.2.2.2.2.1, (r1.2.2.1, r1.1.2.2.2.2.2.2.2))))))) :: [])))) (1 : Int))) fun r2 =>
  some ((((), (a0.2.1, ((), ()))), (r2, ())), ((), (a3, ((appL tapiNode r0.2.1 ((r1.1.1, (r1.1.2.1, (r1.1.2.2.1, (r1.1.2.2.2.1, (r1.2.1, (r1.1.2.2.2.2.2.1, (r1.2.2.1, r1.1.2.2.2.2.2.2.2))))))) :: [])), ()))))) none :=
  (callW_eq (P := PP) (T := TT) (pr := RR) 71 [⟨(.pair (.own tapiNode 0) (.pair (.int .i64) (.pair (.own (.int .i64) 1) .unit))), a0⟩, ⟨tapiNode, a1⟩] [⟨(.row 53 tapiNode true), a2⟩, ⟨(.row 24 (.int .i64) true), a3⟩] (.tcons (.pair (.own tapiNode 2) (.pair (.int .i64) (.pair (.own (.int .i64) 1) .unit))) (.tcons (.int .i64) .tnil)) [.gone, (.row 24 (.int .i64) false), (.row 53 tapiNode false)]).trans (by kernel_rfl)
theorem split_Split_changes_o_v1.eq  : split_Split_changes_o_v1  =
  some false :=
  (callW_eq (P := PP) (T := TT) (pr := RR) 68 [⟨.nilptr, ()⟩] [] .bool []).trans (by kernel_rfl)
theorem ref25_Depth.eq (a0 : den (.list tapiPair)) : ref25_Depth a0 =
  bnd (ref25_Make a0) fun r0 =>
  bnd (ref17_Depth r0.1 r0.2.1) fun r1 =>
  some r1 :=
  (callW_eq (P := PP) (T := TT) (pr := RR) 74 [⟨(.list tapiPair), a0⟩] [] (.int .i64) []).trans (by kernel_rfl)
theorem ref18_May.eq (a0 : den tplanPlan) : ref18_May a0 =
  ref18_May.l0 (0 : Int) a0 :=
  (callW_eq (P := PP) (T := TT) (pr := RR) 60 [⟨tplanPlan, a0⟩] [] .bool []).trans (by kernel_rfl)
theorem ref18_May.l0.eq (x0 : den (.int .i64)) (x1 : denO (.box tplanPlan)) : ref18_May.l0 x0 x1 =
  br (ltI x0 (ofN (lenL tapiNode x1.1)))
   (br (andB (leI (0 : Int) x0) (ltI x0 (ofN (lenL tapiNode x1.1)))) (bnd (ref13_Refs (ixL tapiNode x1.1 x0)) fun r0 =>
   ref18_May.l1 x0 r0 (0 : Int) x1) none)
   (ref18_May.l2 (0 : Int) x1) :=
  (loopB_eq (P := PP) (T := TT) (C := CF) [1, 0, 1, 0, 0] [1, 0, 1, 0, 0] 60 0 ⟨[(1, ⟨(.ptr 0 0), ()⟩), (3, ⟨(.int .i64), x0⟩)], [⟨(.box tplanPlan), x1⟩]⟩ (blockK 0 (seqK false [1, 1] (BF 60 0 [1, 1]) (finF 60 .bool [] 0)))).trans (by kernel_rfl)
theorem ref18_May.l1.eq (x0 : den (.int .i64)) (x1 : den (.list (.int .i64))) (x2 : den (.int .i64)) (x3 : denO (.box tplanPlan)) : ref18_May.l1 x0 x1 x2 x3 =
  br (ltI x2 (ofN (lenL (.int .i64) x1)))
   (br (andB (leI (0 : Int) x2) (ltI x2 (ofN (lenL (.int .i64) x1)))) (br (ltI (ixL (.int .i64) x1 x2) (subI .i64 (0 : Int) x0))
    (some false)
    (ref18_May.l1 x0 x1 (addI .i64 x2 (1 : Int)) x3)) none)
   (br (andB (leI (0 : Int) x0) (ltI x0 (ofN (lenL tapiNode x3.1)))) (bnd (ref13_May (ixL tapiNode x3.1 x0)) fun r0 =>
   br (notB (eqI r0 (0 : Int)))
    (some false)
    (ref18_May.l0 (addI .i64 x0 (1 : Int)) x3)) none) :=
  (loopB_eq (P := PP) (T := TT) (C := CF) [1, 0, 1, 0, 0, 1, 0, 0, 1, 0, 1, 0, 0] [1, 0, 1, 0, 0, 1, 0, 0, 1, 0, 1, 0, 0] 60 0 ⟨[(1, ⟨(.ptr 0 0), ()⟩), (3, ⟨(.int .i64), x0⟩), (4, ⟨(.list (.int .i64)), x1⟩), (5, ⟨(.int .i64), x2⟩)], [⟨(.box tplanPlan), x3⟩]⟩ (blockK 2 (seqK false [1, 0, 1, 0, 0, 1, 0, 0, 1, 1] (BF 60 0 [1, 0, 1, 0, 0, 1, 0, 0, 1, 1]) (blockK 1 (seqK false [1, 0, 1, 0, 0, 1, 1] (BF 60 0 [1, 0, 1, 0, 0, 1, 1]) (againK [1, 0, 1, 0, 0] (loopW [1, 0, 1, 0, 0] (BF 60 0 [1, 0, 1, 0, 0])) (blockK 0 (seqK false [1, 1] (BF 60 0 [1, 1]) (finF 60 .bool [] 0))))))))).trans (by kernel_rfl)
theorem ref18_May.l2.eq (x0 : den (.int .i64)) (x1 : denO (.box tplanPlan)) : ref18_May.l2 x0 x1 =
  br (ltI x0 (ofN (lenL (.int .i64) x1.2.2.1)))
   (br (andB (leI (0 : Int) x0) (ltI x0 (ofN (lenL (.int .i64) x1.2.2.1)))) (br (ltI (ixL (.int .i64) x1.2.2.1 x0) (1 : Int))
    (some false)
    (ref18_May.l2 (addI .i64 x0 (1 : Int)) x1)) none)
   (some (leI (subI .i64 (0 : Int) (ofN (lenL tapiNode x1.1))) x1.2.1)) :=
  (loopB_eq (P := PP) (T := TT) (C := CF) [1, 1, 0, 1, 0, 0] [1, 1, 0, 1, 0, 0] 60 0 ⟨[(1, ⟨(.ptr 0 0), ()⟩), (6, ⟨(.int .i64), x0⟩)], [⟨(.box tplanPlan), x1⟩]⟩ (blockK 4 (seqK false [1, 1, 1] (BF 60 0 [1, 1, 1]) (finF 60 .bool [] 0)))).trans (by kernel_rfl)
theorem ref17_May.eq (a0 : den (.list tapiNode)) : ref17_May a0 =
  ref17_May.l0 a0 (0 : Int) :=
  (callW_eq (P := PP) (T := TT) (pr := RR) 61 [⟨(.list tapiNode), a0⟩] [] .bool []).trans (by kernel_rfl)
theorem ref17_May.l0.eq (x0 : den (.list tapiNode)) (x1 : den (.int .i64)) : ref17_May.l0 x0 x1 =
  br (ltI x1 (ofN (lenL tapiNode x0)))
   (br (andB (leI (0 : Int) x1) (ltI x1 (ofN (lenL tapiNode x0)))) (bnd (ref13_Refs (ixL tapiNode x0 x1)) fun r0 =>
   ref17_May.l1 x0 x1 r0 (0 : Int)) none)
   (some true) :=
  (loopB_eq (P := PP) (T := TT) (C := CF) [1, 0, 1, 0, 0] [1, 0, 1, 0, 0] 61 0 ⟨[(0, ⟨(.list tapiNode), x0⟩), (3, ⟨(.int .i64), x1⟩)], []⟩ (blockK 0 (seqK false [1, 1] (BF 61 0 [1, 1]) (finF 61 .bool [] 0)))).trans (by kernel_rfl)
theorem ref17_May.l1.eq (x0 : den (.list tapiNode)) (x1 : den (.int .i64)) (x2 : den (.list (.int .i64))) (x3 : den (.int .i64)) : ref17_May.l1 x0 x1 x2 x3 =
  br (ltI x3 (ofN (lenL (.int .i64) x2)))
   (br (andB (leI (0 : Int) x3) (ltI x3 (ofN (lenL (.int .i64) x2)))) (br (ltI (ixL (.int .i64) x2 x3) (1 : Int))
    (some false)
    (br (andB (leI (0 : Int) x3) (ltI x3 (ofN (lenL (.int .i64) x2)))) (br (ltI x1 (ixL (.int .i64) x2 x3))
     (some false)
     (ref17_May.l1 x0 x1 x2 (addI .i64 x3 (1 : Int)))) none)) none)
   (br (andB (leI (0 : Int) x1) (ltI x1 (ofN (lenL tapiNode x0)))) (bnd (ref13_May (ixL tapiNode x0 x1)) fun r0 =>
   br (notB (eqI r0 (0 : Int)))
    (some false)
    (ref17_May.l0 x0 (addI .i64 x1 (1 : Int)))) none) :=
  (loopB_eq (P := PP) (T := TT) (C := CF) [1, 0, 1, 0, 0, 1, 0, 0, 1, 0, 1, 0, 0] [1, 0, 1, 0, 0, 1, 0, 0, 1, 0, 1, 0, 0] 61 0 ⟨[(0, ⟨(.list tapiNode), x0⟩), (3, ⟨(.int .i64), x1⟩), (4, ⟨(.list (.int .i64)), x2⟩), (5, ⟨(.int .i64), x3⟩)], []⟩ (blockK 2 (seqK false [1, 0, 1, 0, 0, 1, 0, 0, 1, 1] (BF 61 0 [1, 0, 1, 0, 0, 1, 0, 0, 1, 1]) (blockK 1 (seqK false [1, 0, 1, 0, 0, 1, 1] (BF 61 0 [1, 0, 1, 0, 0, 1, 1]) (againK [1, 0, 1, 0, 0] (loopW [1, 0, 1, 0, 0] (BF 61 0 [1, 0, 1, 0, 0])) (blockK 0 (seqK false [1, 1] (BF 61 0 [1, 1]) (finF 61 .bool [] 0))))))))).trans (by kernel_rfl)
theorem ref13_Refs.eq (a0 : den tapiNode) : ref13_Refs a0 =
  ref13_Refs.l0 (0 : Int) a0 [] :=
  (callW_eq (P := PP) (T := TT) (pr := RR) 54 [⟨tapiNode, a0⟩] [] (.list (.int .i64)) []).trans (by kernel_rfl)
theorem ref13_Refs.l0.eq (x0 : den (.int .i64)) (x1 : denO (.box tapiNode)) (x2 : denO (.row 24 (.int .i64) false)) : ref13_Refs.l0 x0 x1 x2 =
  br (ltI x0 (ofN (lenL (.int .i64) x1.2.2.2.2.1)))
   (br (andB (leI (0 : Int) x0) (ltI x0 (ofN (lenL (.int .i64) x1.2.2.2.2.1)))) (br (notB (eqI (ixL (.int .i64) x1.2.2.2.2.1 x0) (0 : Int)))
    (br (andB (leI (0 : Int) x0) (ltI x0 (ofN (lenL (.int .i64) x1.2.2.2.2.1)))) (br (fitL (.int .i64) (appL (.int .i64) x2 ((ixL (.int .i64) x1.2.2.2.2.1 x0) :: []))) (ref13_Refs.l0 (addI .i64 x0 (1 : Int)) x1 (appL (.int .i64) x2 ((ixL (.int .i64) x1.2.2.2.2.1 x0) :: []))) none) none)
    (ref13_Refs.l0 (addI .i64 x0 (1 : Int)) x1 x2)) none)
   (br (notB (eqI x1.2.2.2.2.2.1 (0 : Int)))
    (br (fitL (.int .i64) (appL (.int .i64) x2 (x1.2.2.2.2.2.1 :: []))) (some (appL (.int .i64) x2 (x1.2.2.2.2.2.1 :: []))) none)
    (some x2)) :=
  (loopB_eq (P := PP) (T := TT) (C := CF) [1, 1, 0, 1, 0, 0] [1, 1, 0, 1, 0, 0] 54 0 ⟨[(1, ⟨(.ptr 0 0), ()⟩), (3, ⟨(.own (.int .i64) 1), ()⟩), (4, ⟨(.int .i64), x0⟩)], [⟨(.box tapiNode), x1⟩, ⟨(.row 24 (.int .i64) false), x2⟩]⟩ (blockK 0 (seqK false [1, 1, 1] (BF 54 0 [1, 1, 1]) (finF 54 (.list (.int .i64)) [] 0)))).trans (by kernel_rfl)
theorem ref18_Fill_o.eq (a0 : den tapiNode) (a1 : denO (.row 24 (.int .i64) true)) : ref18_Fill_o a0 a1 =
  ref18_Fill_o.l0 true (0 : Int) a1 a0 ((0 : Int), (ByteArray.empty, (ByteArray.empty, ((0 : Int), ((), ((0 : Int), ((), ((0 : Int), ((0 : Int), ()))))))))) (a0.1, (a0.2.1, (a0.2.2.1, (a0.2.2.2.1, ((), a0.2.2.2.2.2))))) [] [] [] :=
  (callW_eq (P := PP) (T := TT) (pr := RR) 62 [⟨tapiNode, a0⟩, ⟨(.own (.int .i64) 0), ()⟩] [⟨(.row 24 (.int .i64) true), a1⟩] (.tcons tapiNode (.tcons .bool .tnil)) [(.row 24 (.int .i64) true)]).trans (by kernel_rfl)
theorem ref18_Fill_o.l0.eq (x0 : den .bool) (x1 : den (.int .i64)) (x2 : denO (.row 24 (.int .i64) true)) (x3 : denO (.box tapiNode)) (x4 : denO (.box (.pair (.int .i64) (.pair .str (.pair .str (.pair (.int .u32) (.pair (.own (.int .i64) 4) (.pair (.int .i64) (.pair (.own tapiPair 5) tsplithalf))))))))) (x5 : denO (.box (.pair (.int .i64) (.pair .str (.pair .str (.pair (.int .u32) (.pair (.own (.int .i64) 6) (.pair (.int .i64) (.pair (.list tapiPair) tsplithalf))))))))) (x6 : denO (.row 24 (.int .i64) false)) (x7 : denO (.row 82 tapiPair false)) (x8 : denO (.row 24 (.int .i64) false)) : ref18_Fill_o.l0 x0 x1 x2 x3 x4 x5 x6 x7 x8 =
  br (ltI x1 (ofN (lenL (.int .i64) x3.2.2.2.2.1)))
   (br (andB (leI (0 : Int) x1) (ltI x1 (ofN (lenL (.int .i64) x3.2.2.2.2.1)))) (bnd (ref18_Ref (ixL (.int .i64) x3.2.2.2.2.1 x1) x2) fun r0 =>
   br (fitL (.int .i64) (appL (.int .i64) x8 (r0.1 :: []))) (br x0
    (ref18_Fill_o.l0 r0.2.1 (addI .i64 x1 (1 : Int)) x2 x3 x4 x5 x6 x7 (appL (.int .i64) x8 (r0.1 :: [])))
    (ref18_Fill_o.l0 false (addI .i64 x1 (1 : Int)) x2 x3 x4 x5 x6 x7 (appL (.int .i64) x8 (r0.1 :: [])))) none) none)
   (bnd (ref18_Ref x3.2.2.2.2.2.1 x2) fun r1 =>
   br (notB x0)
    (some ((((0 : Int), (ByteArray.empty, (ByteArray.empty, ((0 : Int), ([], ((0 : Int), ([], ((0 : Int), ((0 : Int), ()))))))))), (false, ())), (x2, ())))
    (br (notB r1.2.1)
     (some ((((0 : Int), (ByteArray.empty, (ByteArray.empty, ((0 : Int), ([], ((0 : Int), ([], ((0 : Int), ((0 : Int), ()))))))))), (false, ())), (x2, ())))
     (some (((x5.1, (x5.2.1, (x5.2.2.1, (x5.2.2.2.1, (x8, (r1.1, x5.2.2.2.2.2.2)))))), (true, ())), (x2, ()))))) :=
  (loopB_eq (P := PP) (T := TT) (C := CF) [1, 1, 1, 0, 1, 0, 0] [1, 1, 1, 0, 1, 0, 0] 62 1 ⟨[(1, ⟨(.own (.int .i64) 0), ()⟩), (2, ⟨(.ptr 1 0), ()⟩), (4, ⟨(.ptr 2 0), ()⟩), (6, ⟨(.ptr 3 0), ()⟩), (7, ⟨.bool, x0⟩), (8, ⟨(.int .i64), x1⟩)], [⟨(.row 24 (.int .i64) true), x2⟩, ⟨(.box tapiNode), x3⟩, ⟨(.box (.pair (.int .i64) (.pair .str (.pair .str (.pair (.int .u32) (.pair (.own (.int .i64) 4) (.pair (.int .i64) (.pair (.own tapiPair 5) tsplithalf)))))))), x4⟩, ⟨(.box (.pair (.int .i64) (.pair .str (.pair .str (.pair (.int .u32) (.pair (.own (.int .i64) 6) (.pair (.int .i64) (.pair (.list tapiPair) tsplithalf)))))))), x5⟩, ⟨(.row 24 (.int .i64) false), x6⟩, ⟨(.row 82 tapiPair false), x7⟩, ⟨(.row 24 (.int .i64) false), x8⟩]⟩ (blockK 0 (seqK false [1, 1, 1, 1] (BF 62 1 [1, 1, 1, 1]) (finF 62 (.tcons tapiNode (.tcons .bool .tnil)) [(.row 24 (.int .i64) true)] 1)))).trans (by kernel_rfl)
theorem ref18_Ref.eq (a0 : den (.int .i64)) (a1 : den (.list (.int .i64))) : ref18_Ref a0 a1 =
  br (leI (0 : Int) a0)
   (some (a0, (true, ())))
   (ref18_Ref.l0 a0 a1 (0 : Int)) :=
  (callW_eq (P := PP) (T := TT) (pr := RR) 63 [⟨(.int .i64), a0⟩, ⟨(.list (.int .i64)), a1⟩] [] (.tcons (.int .i64) (.tcons .bool .tnil)) []).trans (by kernel_rfl)
theorem ref18_Ref.l0.eq (x0 : den (.int .i64)) (x1 : den (.list (.int .i64))) (x2 : den (.int .i64)) : ref18_Ref.l0 x0 x1 x2 =
  br (ltI x2 (ofN (lenL (.int .i64) x1)))
   (br (eqI x0 (subI .i64 (-1 : Int) x2))
    (br (andB (leI (0 : Int) x2) (ltI x2 (ofN (lenL (.int .i64) x1)))) (some ((ixL (.int .i64) x1 x2), (true, ()))) none)
    (ref18_Ref.l0 x0 x1 (addI .i64 x2 (1 : Int))))
   (some ((0 : Int), (false, ()))) :=
  (loopB_eq (P := PP) (T := TT) (C := CF) [1, 1, 0, 1, 0, 0] [1, 1, 0, 1, 0, 0] 63 0 ⟨[(0, ⟨(.int .i64), x0⟩), (1, ⟨(.list (.int .i64)), x1⟩), (6, ⟨(.int .i64), x2⟩)], []⟩ (blockK 0 (seqK false [1, 1, 1] (BF 63 0 [1, 1, 1]) (finF 63 (.tcons (.int .i64) (.tcons .bool .tnil)) [] 0)))).trans (by kernel_rfl)
theorem ref17_mark_o.eq (a0 : den (.list tapiNode)) (a1 : den (.int .i64)) (a2 : denO (.row 4 .bool true)) : ref17_mark_o a0 a1 a2 =
  br (eqI a1 (0 : Int))
   (ref17_mark_o.j0 a0 a1 true a2)
   (br (andB (leI (0 : Int) (subI .i64 a1 (1 : Int))) (ltI (subI .i64 a1 (1 : Int)) (ofN (lenL .bool a2)))) (ref17_mark_o.j0 a0 a1 (ixL .bool a2 (subI .i64 a1 (1 : Int))) a2) none) :=
  (callW_eq (P := PP) (T := TT) (pr := RR) 64 [⟨(.list tapiNode), a0⟩, ⟨(.int .i64), a1⟩, ⟨(.own .bool 0), ()⟩] [⟨(.row 4 .bool true), a2⟩] .tnil [(.row 4 .bool true)]).trans (by kernel_rfl)
theorem ref17_mark_o.j0.eq (x0 : den (.list tapiNode)) (x1 : den (.int .i64)) (x2 : den .bool) (x3 : denO (.row 4 .bool true)) : ref17_mark_o.j0 x0 x1 x2 x3 =
  br x2
   (some ((), (x3, ())))
   (br (andB (leI (0 : Int) (subI .i64 x1 (1 : Int))) (ltI (subI .i64 x1 (1 : Int)) (ofN (lenL .bool x3)))) (br (andB (leI (0 : Int) (subI .i64 x1 (1 : Int))) (ltI (subI .i64 x1 (1 : Int)) (ofN (lenL tapiNode x0)))) (bnd (ref13_Refs (ixL tapiNode x0 (subI .i64 x1 (1 : Int)))) fun r0 =>
   ref17_mark_o.l1 x0 r0 (0 : Int) (setL .bool x3 (subI .i64 x1 (1 : Int)) true)) none) none) :=
  (congrFun (congrFun (jnO_eq [0, 1] (BF (R := denR .tnil [(.row 4 .bool true)]) 64 1 [0, 1])) ⟨[(0, ⟨(.list tapiNode), x0⟩), (1, ⟨(.int .i64), x1⟩), (2, ⟨(.own .bool 0), ()⟩), (16, ⟨.bool, x2⟩)], [⟨(.row 4 .bool true), x3⟩]⟩) (seqK false [1] (BF 64 1 [1]) (finF 64 .tnil [(.row 4 .bool true)] 1))).trans (by kernel_rfl)
theorem ref17_mark_o.l1.eq (x0 : den (.list tapiNode)) (x1 : den (.list (.int .i64))) (x2 : den (.int .i64)) (x3 : denO (.row 4 .bool true)) : ref17_mark_o.l1 x0 x1 x2 x3 =
  br (ltI x2 (ofN (lenL (.int .i64) x1)))
   (br (andB (leI (0 : Int) x2) (ltI x2 (ofN (lenL (.int .i64) x1)))) (bnd (ref17_mark_o x0 (ixL (.int .i64) x1 x2) x3) fun r0 =>
   ref17_mark_o.l1 x0 x1 (addI .i64 x2 (1 : Int)) r0.2.1) none)
   (some ((), (x3, ()))) :=
  (loopB_eq (P := PP) (T := TT) (C := CF) [1, 1, 1, 1, 0, 0] [1, 1, 1, 1, 0, 0] 64 1 ⟨[(0, ⟨(.list tapiNode), x0⟩), (2, ⟨(.own .bool 0), ()⟩), (6, ⟨(.list (.int .i64)), x1⟩), (7, ⟨(.int .i64), x2⟩)], [⟨(.row 4 .bool true), x3⟩]⟩ (blockK 0 (finF 64 .tnil [(.row 4 .bool true)] 1))).trans (by kernel_rfl)
theorem ref17_Fits.eq (a0 : den (.list tapiNode)) (a1 : den (.int .i64)) : ref17_Fits a0 a1 =
  br (leI (0 : Int) a1)
   (br (leI a1 (ofN (lenL tapiNode a0)))
    (bnd (ref17_May a0) fun r0 =>
    some r0)
    (some false))
   (some false) :=
  (callW_eq (P := PP) (T := TT) (pr := RR) 51 [⟨(.list tapiNode), a0⟩, ⟨(.int .i64), a1⟩] [] .bool []).trans (by kernel_rfl)
theorem ref17_Binds.eq (a0 : den (.list tapiNode)) (a1 : den (.int .i64)) : ref17_Binds a0 a1 =
  br (eqI a1 (0 : Int))
   (some [])
   (br (andB (leI (0 : Int) (subI .i64 a1 (1 : Int))) (ltI (subI .i64 a1 (1 : Int)) (ofN (lenL tapiNode a0)))) (br (eqI (ixL tapiNode a0 (subI .i64 a1 (1 : Int))).1 (4 : Int))
    (br (andB (leI (0 : Int) (0 : Int)) (ltI (0 : Int) (ofN (lenL (.int .i64) (ixL tapiNode a0 (subI .i64 a1 (1 : Int))).2.2.2.2.1)))) (bnd (ref17_Binds a0 (ixL (.int .i64) (ixL tapiNode a0 (subI .i64 a1 (1 : Int))).2.2.2.2.1 (0 : Int))) fun r0 =>
    br (fitL tapiPair (appL tapiPair [] r0)) (bnd (ref13_Binds (ixL tapiNode a0 (subI .i64 a1 (1 : Int)))) fun r1 =>
    br (fitL tapiPair (appL tapiPair (appL tapiPair [] r0) r1)) (br (andB (leI (0 : Int) (1 : Int)) (ltI (1 : Int) (ofN (lenL (.int .i64) (ixL tapiNode a0 (subI .i64 a1 (1 : Int))).2.2.2.2.1)))) (bnd (ref17_Binds a0 (ixL (.int .i64) (ixL tapiNode a0 (subI .i64 a1 (1 : Int))).2.2.2.2.1 (1 : Int))) fun r2 =>
    br (fitL tapiPair (appL tapiPair (appL tapiPair (appL tapiPair [] r0) r1) r2)) (some (appL tapiPair (appL tapiPair (appL tapiPair [] r0) r1) r2)) none) none) none) none) none)
    (bnd (ref13_Binds (ixL tapiNode a0 (subI .i64 a1 (1 : Int)))) fun r3 =>
    br (fitL tapiPair (appL tapiPair [] r3)) (bnd (ref13_Refs (ixL tapiNode a0 (subI .i64 a1 (1 : Int)))) fun r4 =>
    ref17_Binds.l0 a0 r4 (0 : Int) (appL tapiPair [] r3)) none)) none) :=
  (callW_eq (P := PP) (T := TT) (pr := RR) 18 [⟨(.list tapiNode), a0⟩, ⟨(.int .i64), a1⟩] [] (.list tapiPair) []).trans (by kernel_rfl)
theorem ref17_Binds.l0.eq (x0 : den (.list tapiNode)) (x1 : den (.list (.int .i64))) (x2 : den (.int .i64)) (x3 : denO (.row 82 tapiPair false)) : ref17_Binds.l0 x0 x1 x2 x3 =
  br (ltI x2 (ofN (lenL (.int .i64) x1)))
   (br (andB (leI (0 : Int) x2) (ltI x2 (ofN (lenL (.int .i64) x1)))) (bnd (ref17_Binds x0 (ixL (.int .i64) x1 x2)) fun r0 =>
   br (fitL tapiPair (appL tapiPair x3 r0)) (ref17_Binds.l0 x0 x1 (addI .i64 x2 (1 : Int)) (appL tapiPair x3 r0)) none) none)
   (some x3) :=
  (loopB_eq (P := PP) (T := TT) (C := CF) [1, 1, 1, 1, 1, 1, 1, 0, 1, 0, 0] [1, 1, 1, 1, 1, 1, 1, 0, 1, 0, 0] 18 0 ⟨[(0, ⟨(.list tapiNode), x0⟩), (5, ⟨(.own tapiPair 0), ()⟩), (7, ⟨(.list (.int .i64)), x1⟩), (8, ⟨(.int .i64), x2⟩)], [⟨(.row 82 tapiPair false), x3⟩]⟩ (blockK 0 (seqK false [1, 1, 1, 1, 1, 1, 1, 1] (BF 18 0 [1, 1, 1, 1, 1, 1, 1, 1]) (finF 18 (.list tapiPair) [] 0)))).trans (by kernel_rfl)
theorem ref17_Same.eq (a0 : den (.list tapiNode)) (a1 : den (.int .i64)) (a2 : den (.list tapiNode)) (a3 : den (.int .i64)) : ref17_Same a0 a1 a2 a3 =
  bnd (ref17_Fits a0 a1) fun r0 =>
  br r0
   (bnd (ref17_Fits a2 a3) fun r1 =>
   br r1
    (bnd (ref17_shape a0 a1 a2 a3) fun r2 =>
    some r2)
    (some false))
   (some false) :=
  (callW_eq (P := PP) (T := TT) (pr := RR) 44 [⟨(.list tapiNode), a0⟩, ⟨(.int .i64), a1⟩, ⟨(.list tapiNode), a2⟩, ⟨(.int .i64), a3⟩] [] .bool []).trans (by kernel_rfl)
theorem node_Leaf.eq (a0 : den .str) (a1 : den .str) : node_Leaf a0 a1 =
  some ((1 : Int), (a0, (a1, ((0 : Int), ([], ((0 : Int), ([], ((1 : Int), ((0 : Int), ()))))))))) :=
  (callW_eq (P := PP) (T := TT) (pr := RR) 66 [⟨.str, a0⟩, ⟨.str, a1⟩] [] tapiNode []).trans (by kernel_rfl)
theorem node_May.eq (a0 : den tapiNode) : node_May a0 =
  bnd (node_formed a0) fun r0 =>
  br (ltI a0.1 (1 : Int))
   (some (11 : Int))
   (br (ltI (6 : Int) a0.1)
    (some (11 : Int))
    (bnd (node_long a0) fun r1 =>
    br r1
     (some (6 : Int))
     (bnd (node_Same a0 (r0.1, (r0.2.1, (r0.2.2.1, (r0.2.2.2.1, (r0.2.2.2.2.1, (r0.2.2.2.2.2.1, (r0.2.2.2.2.2.2.1, (r0.2.2.2.2.2.2.2.1, ((maxI a0.2.2.2.2.2.2.2.2.1 (0 : Int)), ())))))))))) fun r2 =>
     br (notB r2)
      (some (4 : Int))
      (bnd (node_whole a0) fun r3 =>
      br (notB r3)
       (some (4 : Int))
       (some (0 : Int)))))) :=
  (callW_eq (P := PP) (T := TT) (pr := RR) 65 [⟨tapiNode, a0⟩] [] (.int .i64) []).trans (by kernel_rfl)
theorem tree_Is.eq (a0 : den (.list tapiNode)) (a1 : den (.int .i64)) : tree_Is a0 a1 =
  bnd (heap_Binds a0 a1) fun r0 =>
  br (notB (eqI r0.2.1 (0 : Int)))
   (some false)
   (bnd (pair_Is r0.1) fun r1 =>
   br (notB r1)
    (some false)
    (bnd (tree_nodes r0.1) fun r2 =>
    bnd (heap_Same a0 a1 r2.1 r2.2.1) fun r3 =>
    some r3)) :=
  (callW_eq (P := PP) (T := TT) (pr := RR) 49 [⟨(.list tapiNode), a0⟩, ⟨(.int .i64), a1⟩] [] .bool []).trans (by kernel_rfl)
theorem plan_Do.eq (a0 : den (.list tapiNode)) (a1 : den tplanPlan) : plan_Do a0 a1 =
  bnd (plan_May a1) fun r0 =>
  br (notB (eqI r0 (0 : Int)))
   (some ([], ((0 : Int), ((4 : Int), ()))))
   (bnd (heap_May a0) fun r1 =>
   br (notB (eqI r1 (0 : Int)))
    (some ([], ((0 : Int), ((4 : Int), ()))))
    (bnd (plan_fits a0 a1) fun r2 =>
    br (notB r2)
     (some ([], ((0 : Int), ((4 : Int), ()))))
     (plan_Do.l0 a0 (ofN (lenL tapiNode a0)) (0 : Int) a1 []))) :=
  (callW_eq (P := PP) (T := TT) (pr := RR) 50 [⟨(.list tapiNode), a0⟩, ⟨tplanPlan, a1⟩] [] (.tcons (.list tapiNode) (.tcons (.int .i64) (.tcons (.int .i64) .tnil))) []).trans (by kernel_rfl)
theorem plan_Do.l0.eq (x0 : den (.list tapiNode)) (x1 : den (.int .i64)) (x2 : den (.int .i64)) (x3 : denO (.box tplanPlan)) (x4 : denO (.row 53 tapiNode false)) : plan_Do.l0 x0 x1 x2 x3 x4 =
  br (ltI x2 x1)
   (br (andB (leI (0 : Int) x2) (ltI x2 (ofN (lenL tapiNode x0)))) (bnd (node_Copy (ixL tapiNode x0 x2)) fun r0 =>
   br (fitL tapiNode (appL tapiNode x4 ((r0.1.1, (r0.1.2.1, (r0.1.2.2.1, (r0.1.2.2.2.1, (r0.2.1, (r0.1.2.2.2.2.2.1, (r0.2.2.1, r0.1.2.2.2.2.2.2.2))))))) :: []))) (plan_Do.l0 x0 x1 (addI .i64 x2 (1 : Int)) x3 (appL tapiNode x4 ((r0.1.1, (r0.1.2.1, (r0.1.2.2.1, (r0.1.2.2.2.1, (r0.2.1, (r0.1.2.2.2.2.2.1, (r0.2.2.1, r0.1.2.2.2.2.2.2.2))))))) :: []))) none) none)
   (plan_Do.l1 x3.1 (ofN (lenL tapiNode x3.1)) (0 : Int) x3 x4 []) :=
  (loopB_eq (P := PP) (T := TT) (C := CF) [1, 1, 1, 0, 1, 0, 0] [1, 1, 1, 0, 1, 0, 0] 50 0 ⟨[(3, ⟨(.ptr 0 0), ()⟩), (7, ⟨(.own tapiNode 1), ()⟩), (31, ⟨(.list tapiNode), x0⟩), (32, ⟨(.int .i64), x1⟩), (33, ⟨(.int .i64), x2⟩)], [⟨(.box tplanPlan), x3⟩, ⟨(.row 53 tapiNode false), x4⟩]⟩ (blockK 0 (seqK false [1, 1, 1, 1] (BF 50 0 [1, 1, 1, 1]) (finF 50 (.tcons (.list tapiNode) (.tcons (.int .i64) (.tcons (.int .i64) .tnil))) [] 0)))).trans (by kernel_rfl)
theorem plan_Do.l1.eq (x0 : den (.list tapiNode)) (x1 : den (.int .i64)) (x2 : den (.int .i64)) (x3 : denO (.box tplanPlan)) (x4 : denO (.row 53 tapiNode false)) (x5 : denO (.row 24 (.int .i64) false)) : plan_Do.l1 x0 x1 x2 x3 x4 x5 =
  br (ltI x2 x1)
   (br (andB (leI (0 : Int) x2) (ltI x2 (ofN (lenL tapiNode x0)))) (bnd (plan_Fill_o (ixL tapiNode x0 x2) x5) fun r0 =>
   br (fitL tapiNode (appL tapiNode x4 (r0.1.1 :: []))) (br (fitL (.int .i64) (appL (.int .i64) r0.2.1 ((ofN (lenL tapiNode (appL tapiNode x4 (r0.1.1 :: [])))) :: []))) (plan_Do.l1 x0 x1 (addI .i64 x2 (1 : Int)) x3 (appL tapiNode x4 (r0.1.1 :: [])) (appL (.int .i64) r0.2.1 ((ofN (lenL tapiNode (appL tapiNode x4 (r0.1.1 :: [])))) :: []))) none) none) none)
   (bnd (plan_Ref x3.2.1 x5) fun r1 =>
   some (x4, r1)) :=
  (loopB_eq (P := PP) (T := TT) (C := CF) [1, 1, 1, 1, 1, 0, 1, 0, 0] [1, 1, 1, 1, 1, 0, 1, 0, 0] 50 0 ⟨[(3, ⟨(.ptr 0 0), ()⟩), (7, ⟨(.own tapiNode 1), ()⟩), (10, ⟨(.own (.int .i64) 2), ()⟩), (44, ⟨(.list tapiNode), x0⟩), (45, ⟨(.int .i64), x1⟩), (46, ⟨(.int .i64), x2⟩)], [⟨(.box tplanPlan), x3⟩, ⟨(.row 53 tapiNode false), x4⟩, ⟨(.row 24 (.int .i64) false), x5⟩]⟩ (blockK 2 (seqK false [1, 1, 1, 1, 1, 1] (BF 50 0 [1, 1, 1, 1, 1, 1]) (finF 50 (.tcons (.list tapiNode) (.tcons (.int .i64) (.tcons (.int .i64) .tnil))) [] 0)))).trans (by kernel_rfl)
theorem order_Compare.eq (a0 : den .str) (a1 : den .str) : order_Compare a0 a1 =
  bnd (order_Common a0 a1) fun r0 =>
  br (eqI r0 (ofN (lenS a0)))
   (order_Compare.j0 a0 a1 r0 (eqI r0 (ofN (lenS a1))))
   (order_Compare.j0 a0 a1 r0 false) :=
  (callW_eq (P := PP) (T := TT) (pr := RR) 73 [⟨.str, a0⟩, ⟨.str, a1⟩] [] (.int .i64) []).trans (by kernel_rfl)
theorem order_Compare.j0.eq (x0 : den .str) (x1 : den .str) (x2 : den (.int .i64)) (x3 : den .bool) : order_Compare.j0 x0 x1 x2 x3 =
  br x3
   (some (0 : Int))
   (br (eqI x2 (ofN (lenS x0)))
    (some (-1 : Int))
    (br (eqI x2 (ofN (lenS x1)))
     (some (1 : Int))
     (br (andB (leI (0 : Int) x2) (ltI x2 (ofN (lenS x0)))) (br (andB (leI (0 : Int) x2) (ltI x2 (ofN (lenS x1)))) (br (ltI (getS x1 (toN x2)) (getS x0 (toN x2)))
      (some (1 : Int))
      (some (-1 : Int))) none) none))) :=
  (congrFun (congrFun (jnO_eq [1, 1, 0, 0, 1] (BF (R := den (.int .i64)) 73 0 [1, 1, 0, 0, 1])) ⟨[(0, ⟨.str, x0⟩), (1, ⟨.str, x1⟩), (5, ⟨(.int .i64), x2⟩), (9, ⟨.bool, x3⟩)], []⟩) (blockK 0 (seqK false [1, 1, 1] (BF 73 0 [1, 1, 1]) (finF 73 (.int .i64) [] 0)))).trans (by kernel_rfl)
theorem ref25_make1.eq (a0 : den (.list tapiPair)) (a1 : denO (.row 53 tapiNode true)) : ref25_make1 a0 a1 =
  br (eqI (ofN (lenL tapiPair a0)) (0 : Int))
   (some (((), ((0 : Int), ())), (a1, ())))
   (ref25_make1.l0 a0 (0 : Int) (1 : Int) a1) :=
  (callW_eq (P := PP) (T := TT) (pr := RR) 76 [⟨(.own tapiNode 0), ()⟩, ⟨(.list tapiPair), a0⟩] [⟨(.row 53 tapiNode true), a1⟩] (.tcons (.own tapiNode 0) (.tcons (.int .i64) .tnil)) [(.row 53 tapiNode false)]).trans (by kernel_rfl)
theorem ref25_make1.l0.eq (x0 : den (.list tapiPair)) (x1 : den (.int .i64)) (x2 : den (.int .i64)) (x3 : denO (.row 53 tapiNode true)) : ref25_make1.l0 x0 x1 x2 x3 =
  br (ltI x2 (ofN (lenL tapiPair x0)))
   (br (andB (leI (0 : Int) x2) (ltI x2 (ofN (lenL tapiPair x0)))) (br (andB (leI (0 : Int) x1) (ltI x1 (ofN (lenL tapiPair x0)))) (bnd (ref05_Above (ixL tapiPair x0 x2).1 (ixL tapiPair x0 x1).1) fun r0 =>
   br r0
    (ref25_make1.l0 x0 x2 (addI .i64 x2 (1 : Int)) x3)
    (ref25_make1.l0 x0 x1 (addI .i64 x2 (1 : Int)) x3)) none) none)
   (br (andB (leI (0 : Int) (0 : Int)) (andB (leI (0 : Int) x1) (leI x1 (ofN (lenL tapiPair x0))))) (bnd (ref25_make1 (subL tapiPair x0 (toN (0 : Int)) (toN x1)) x3) fun r1 =>
   br (andB (leI (0 : Int) (addI .i64 x1 (1 : Int))) (andB (leI (addI .i64 x1 (1 : Int)) (ofN (lenL tapiPair x0))) (leI (ofN (lenL tapiPair x0)) (ofN (lenL tapiPair x0))))) (bnd (ref25_make1 (subL tapiPair x0 (toN (addI .i64 x1 (1 : Int))) (toN (ofN (lenL tapiPair x0)))) r1.2.1) fun r2 =>
   br (andB (leI (0 : Int) x1) (ltI x1 (ofN (lenL tapiPair x0)))) (br (andB (leI (0 : Int) x1) (ltI x1 (ofN (lenL tapiPair x0)))) (br (fitL tapiNode (appL tapiNode r2.2.1 (((4 : Int), ((ixL tapiPair x0 x1).1, ((ixL tapiPair x0 x1).2.1, ((0 : Int), ((r1.1.2.1 :: (r2.1.2.1 :: [])), ((0 : Int), ([], ((ofN (lenL tapiPair x0)), ((0 : Int), ()))))))))) :: []))) (some (((), ((ofN (lenL tapiNode (appL tapiNode r2.2.1 (((4 : Int), ((ixL tapiPair x0 x1).1, ((ixL tapiPair x0 x1).2.1, ((0 : Int), ((r1.1.2.1 :: (r2.1.2.1 :: [])), ((0 : Int), ([], ((ofN (lenL tapiPair x0)), ((0 : Int), ()))))))))) :: [])))), ())), ((appL tapiNode r2.2.1 (((4 : Int), ((ixL tapiPair x0 x1).1, ((ixL tapiPair x0 x1).2.1, ((0 : Int), ((r1.1.2.1 :: (r2.1.2.1 :: [])), ((0 : Int), ([], ((ofN (lenL tapiPair x0)), ((0 : Int), ()))))))))) :: [])), ()))) none) none) none) none) none) :=
  (loopB_eq (P := PP) (T := TT) (C := CF) [1, 1, 1, 0, 1, 0, 0] [1, 1, 1, 0, 1, 0, 0] 76 1 ⟨[(0, ⟨(.own tapiNode 0), ()⟩), (1, ⟨(.list tapiPair), x0⟩), (6, ⟨(.int .i64), x1⟩), (7, ⟨(.int .i64), x2⟩)], [⟨(.row 53 tapiNode true), x3⟩]⟩ (blockK 0 (seqK false [1, 1, 1, 1] (BF 76 1 [1, 1, 1, 1]) (finF 76 (.tcons (.own tapiNode 0) (.tcons (.int .i64) .tnil)) [(.row 53 tapiNode false)] 1)))).trans (by kernel_rfl)
theorem ref07_last.eq (a0 : den (.list tapiPair)) (a1 : den (.int .i64)) : ref07_last a0 a1 =
  ref07_last.l0 a0 a1 (addI .i64 a1 (1 : Int)) :=
  (callW_eq (P := PP) (T := TT) (pr := RR) 77 [⟨(.list tapiPair), a0⟩, ⟨(.int .i64), a1⟩] [] .bool []).trans (by kernel_rfl)
theorem ref07_last.l0.eq (x0 : den (.list tapiPair)) (x1 : den (.int .i64)) (x2 : den (.int .i64)) : ref07_last.l0 x0 x1 x2 =
  br (ltI x2 (ofN (lenL tapiPair x0)))
   (br (andB (leI (0 : Int) x2) (ltI x2 (ofN (lenL tapiPair x0)))) (br (andB (leI (0 : Int) x1) (ltI x1 (ofN (lenL tapiPair x0)))) (br (eqS (ixL tapiPair x0 x2).1 (ixL tapiPair x0 x1).1)
    (some false)
    (ref07_last.l0 x0 x1 (addI .i64 x2 (1 : Int)))) none) none)
   (some true) :=
  (loopB_eq (P := PP) (T := TT) (C := CF) [1, 0, 1, 0, 0] [1, 0, 1, 0, 0] 77 0 ⟨[(0, ⟨(.list tapiPair), x0⟩), (1, ⟨(.int .i64), x1⟩), (5, ⟨(.int .i64), x2⟩)], []⟩ (blockK 0 (seqK false [1, 1] (BF 77 0 [1, 1]) (finF 77 .bool [] 0)))).trans (by kernel_rfl)
theorem ref01_Less.eq (a0 : den .str) (a1 : den .str) : ref01_Less a0 a1 =
  ref01_Less.l0 a0 a1 (0 : Int) :=
  (callW_eq (P := PP) (T := TT) (pr := RR) 78 [⟨.str, a0⟩, ⟨.str, a1⟩] [] .bool []).trans (by kernel_rfl)
theorem ref01_Less.l0.eq (x0 : den .str) (x1 : den .str) (x2 : den (.int .i64)) : ref01_Less.l0 x0 x1 x2 =
  br (ltI x2 (ofN (lenS x0)))
   (ref01_Less.j1 x0 x1 x2 (ltI x2 (ofN (lenS x1))))
   (ref01_Less.j1 x0 x1 x2 false) :=
  (loopB_eq (P := PP) (T := TT) (C := CF) [1, 0, 1, 0, 0] [1, 0, 1, 0, 0] 78 0 ⟨[(0, ⟨.str, x0⟩), (1, ⟨.str, x1⟩), (5, ⟨(.int .i64), x2⟩)], []⟩ (blockK 0 (seqK false [1, 1] (BF 78 0 [1, 1]) (finF 78 .bool [] 0)))).trans (by kernel_rfl)
theorem ref01_Less.j1.eq (x0 : den .str) (x1 : den .str) (x2 : den (.int .i64)) (x3 : den .bool) : ref01_Less.j1 x0 x1 x2 x3 =
  br x3
   (br (andB (leI (0 : Int) x2) (ltI x2 (ofN (lenS x0)))) (br (andB (leI (0 : Int) x2) (ltI x2 (ofN (lenS x1)))) (br (notB (eqI (getS x0 (toN x2)) (getS x1 (toN x2))))
    (br (andB (leI (0 : Int) x2) (ltI x2 (ofN (lenS x0)))) (br (andB (leI (0 : Int) x2) (ltI x2 (ofN (lenS x1)))) (some (ltI (getS x0 (toN x2)) (getS x1 (toN x2)))) none) none)
    (ref01_Less.l0 x0 x1 (addI .i64 x2 (1 : Int)))) none) none)
   (some (ltI (ofN (lenS x0)) (ofN (lenS x1)))) :=
  (congrFun (congrFun (jnO_eq [1, 0, 1, 0, 0, 0, 1] (BF (R := den .bool) 78 0 [1, 0, 1, 0, 0, 0, 1])) ⟨[(0, ⟨.str, x0⟩), (1, ⟨.str, x1⟩), (5, ⟨(.int .i64), x2⟩), (15, ⟨.bool, x3⟩)], []⟩) (seqK false [1, 0, 1, 0, 0, 1] (BF 78 0 [1, 0, 1, 0, 0, 1]) (againK [1, 0, 1, 0, 0] (loopW [1, 0, 1, 0, 0] (BF 78 0 [1, 0, 1, 0, 0])) (blockK 0 (seqK false [1, 1] (BF 78 0 [1, 1]) (finF 78 .bool [] 0)))))).trans (by kernel_rfl)
theorem split_Split_changes.eq (a0 : denO (.box tsplitSplitO)) (a1 : denO (.row 109 tsplitstep true)) : split_Split_changes a0 a1 =
  br (notB (eqI a0.2.2.2.2.1 (0 : Int)))
   (some (false, (a0, (a1, ()))))
   (br (eqI a0.1 (1 : Int))
    (some (true, (a0, (a1, ()))))
    (br (eqI a0.1 (2 : Int))
     (some ((notB a0.2.2.2.2.2.2.2.2.2.2.2.2.2.2.2.2.2.1), (a0, (a1, ()))))
     (br (eqI a0.1 (3 : Int))
      (br a0.2.2.2.2.2.2.2.2.2.2.2.2.2.2.2.2.2.1
       (some ((eqS a0.2.2.2.2.2.2.2.2.2.1 a0.2.2.2.1), (a0, (a1, ()))))
       (some (false, (a0, (a1, ())))))
      (some (false, (a0, (a1, ()))))))) :=
  (callW_eq (P := PP) (T := TT) (pr := RR) 68 [⟨(.ptr 0 0), ()⟩] [⟨(.box tsplitSplitO), a0⟩, ⟨(.row 109 tsplitstep true), a1⟩] .bool [(.box tsplitSplitO), (.row 109 tsplitstep true)]).trans (by kernel_rfl)
theorem split_Split_bottom_v1.eq (a0 : den (.pair (.nil 53) (.pair (.int .i64) (.pair (.nil 24) .unit)))) (a1 : denO (.box tsplitSplitO)) (a2 : denO (.row 109 tsplitstep true)) : split_Split_bottom_v1 a0 a1 a2 =
  br a1.2.2.2.2.2.2.2.2.2.2.2.2.2.2.2.2.2.1
   (br (fitL (.int .i64) (appL (.int .i64) [] (a1.2.2.2.2.2.2.1 :: []))) (br (andB (leI (0 : Int) (0 : Int)) (ltI (0 : Int) (ofN (lenL (.int .i64) a1.2.2.2.2.2.2.2.2.2.2.2.1)))) (br (andB (leI (0 : Int) (1 : Int)) (ltI (1 : Int) (ofN (lenL (.int .i64) a1.2.2.2.2.2.2.2.2.2.2.2.1)))) (both
    (bnd (node_Tree a1.2.1 a1.2.2.1 (ixL (.int .i64) a1.2.2.2.2.2.2.2.2.2.2.2.1 (0 : Int)) (ixL (.int .i64) a1.2.2.2.2.2.2.2.2.2.2.2.1 (1 : Int)) a1.2.2.2.2.2.2.2.2.2.2.2.2.2.2.1) fun r0 =>
    both
     (bnd (plan_Add ((), (a0.2.1, ((), ()))) r0 [] (appL (.int .i64) [] (a1.2.2.2.2.2.2.1 :: []))) fun r1 =>
     both
      (both
       (none)
       (none))
      (none))
     (bnd (plan_Add ((), (a0.2.1, ((), ()))) r0 [] (appL (.int .i64) [] (a1.2.2.2.2.2.2.1 :: []))) fun r2 =>
     both
      (both
       (none)
       (none))
      (none)))
    (bnd (node_Tree a1.2.1 a1.2.2.1 (ixL (.int .i64) a1.2.2.2.2.2.2.2.2.2.2.2.1 (0 : Int)) (ixL (.int .i64) a1.2.2.2.2.2.2.2.2.2.2.2.1 (1 : Int)) a1.2.2.2.2.2.2.2.2.2.2.2.2.2.2.1) fun r3 =>
    bnd (plan_Add ((), (a0.2.1, ((), ()))) r3 [] (appL (.int .i64) [] (a1.2.2.2.2.2.2.1 :: []))) fun r4 =>
    both
     (both
      (none)
      (none))
     (none))) none) none) none)
   (none) :=
  (callW_eq (P := PP) (T := TT) (pr := RR) 69 [⟨(.ptr 0 0), ()⟩, ⟨(.pair (.nil 53) (.pair (.int .i64) (.pair (.nil 24) .unit))), a0⟩] [⟨(.box tsplitSplitO), a1⟩, ⟨(.row 109 tsplitstep true), a2⟩] (.tcons (.pair (.own tapiNode 1) (.pair (.int .i64) (.pair (.own (.int .i64) 2) .unit))) (.tcons (.int .i64) (.tcons (.int .i64) .tnil))) [(.box tsplitSplitO), (.row 53 tapiNode false), (.row 24 (.int .i64) false)]).trans (by kernel_rfl)
theorem slices_IndexFuncsplit_step_split_step.eq (a0 : den (.list tsplitstep)) (a1 : den (.fn 100 (.tcons (.ptr 0 0) .tnil))) (a2 : denO (.box tsplitSplit)) : slices_IndexFuncsplit_step_split_step a0 a1 a2 =
  slices_IndexFuncsplit_step_split_step.l0 a0 ((), ()) (ofN (lenL tsplitstep a0)) (0 : Int) a2 :=
  (callW_eq (P := PP) (T := TT) (pr := RR) 99 [⟨(.list tsplitstep), a0⟩, ⟨(.fn 100 (.tcons (.ptr 0 0) .tnil)), a1⟩] [⟨(.box (.ptr 1 0)), ()⟩, ⟨(.box tsplitSplit), a2⟩] (.int .i64) [(.box (.ptr 1 0)), (.box tsplitSplit)]).trans (by kernel_rfl)
theorem slices_IndexFuncsplit_step_split_step.l0.eq (x0 : den (.list tsplitstep)) (x1 : den (.fn 100 (.tcons (.ptr 0 0) .tnil))) (x2 : den (.int .i64)) (x3 : den (.int .i64)) (x4 : denO (.box tsplitSplit)) : slices_IndexFuncsplit_step_split_step.l0 x0 x1 x2 x3 x4 =
  br (ltI x3 x2)
   (br (andB (leI (0 : Int) x3) (ltI x3 (ofN (lenL tsplitstep x0)))) (bnd (split_Split_bottom_1 (ixL tsplitstep x0 x3) x4) fun r0 =>
   br r0.1
    (some (x3, ((), (r0.2.2.1, ()))))
    (slices_IndexFuncsplit_step_split_step.l0 x0 ((), ()) x2 (addI .i64 x3 (1 : Int)) r0.2.2.1)) none)
   (some ((-1 : Int), ((), (x4, ())))) :=
  (loopB_eq (P := PP) (T := TT) (C := CF) [1, 0, 1, 0, 0] [1, 0, 1, 0, 0] 99 2 ⟨[(0, ⟨(.list tsplitstep), x0⟩), (1, ⟨(.fn 100 (.tcons (.ptr 0 0) .tnil)), x1⟩), (7, ⟨(.int .i64), x2⟩), (8, ⟨(.int .i64), x3⟩)], [⟨(.box (.ptr 1 0)), ()⟩, ⟨(.box tsplitSplit), x4⟩]⟩ (blockK 0 (seqK false [1, 1] (BF 99 2 [1, 1]) (finF 99 (.int .i64) [(.box (.ptr 1 0)), (.box tsplitSplit)] 2)))).trans (by kernel_rfl)
theorem split_Split_cut.eq (a0 : den (.pair (.own tapiNode 1) (.pair (.int .i64) (.pair (.own (.int .i64) 2) .unit)))) (a1 : den (.int .i64)) (a2 : denO (.box tsplitSplit)) (a3 : denO (.row 53 tapiNode true)) (a4 : denO (.row 24 (.int .i64) true)) : split_Split_cut a0 a1 a2 a3 a4 =
  br (andB (leI (0 : Int) a1) (andB (leI a1 (ofN (lenL tsplitstep a2.2.2.2.2.2.1))) (leI (ofN (lenL tsplitstep a2.2.2.2.2.2.1)) (ofN (lenL tsplitstep a2.2.2.2.2.2.1))))) (bnd (slices_Backwardsplit_step_split_step (subL tsplitstep a2.2.2.2.2.2.1 (toN a1) (toN (ofN (lenL tsplitstep a2.2.2.2.2.2.1))))) fun r0 =>
  bnd (slices_Backwardsplit_step_split_step_1 r0.2.1) fun r1 =>
  split_Split_cut.e0 r1 a2 a3 a4 ((), (a0.2.1, ((), ()))) ((), ((0 : Int), ((), ()))) ((0 : Int), ((0 : Int), ())) ((0 : Int), ((0 : Int), ())) (List.replicate 2 ((0 : Int), ((0 : Int), ()))) (0 : Int) [] []) none :=
  (callW_eq (P := PP) (T := TT) (pr := RR) 101 [⟨(.ptr 0 0), ()⟩, ⟨(.pair (.own tapiNode 1) (.pair (.int .i64) (.pair (.own (.int .i64) 2) .unit))), a0⟩, ⟨(.int .i64), a1⟩] [⟨(.box tsplitSplit), a2⟩, ⟨(.row 53 tapiNode true), a3⟩, ⟨(.row 24 (.int .i64) true), a4⟩] (.tcons (.pair (.own tapiNode 1) (.pair (.int .i64) (.pair (.own (.int .i64) 2) .unit))) (.tcons tsplithalf (.tcons tsplithalf .tnil))) [(.box tsplitSplit), (.row 53 tapiNode false), (.row 24 (.int .i64) false)]).trans (by kernel_rfl)
theorem split_Split_cut.e0.nil (x0 : denO (.box tsplitSplit)) (x1 : denO (.row 53 tapiNode true)) (x2 : denO (.row 24 (.int .i64) true)) (x3 : denO (.box (.pair (.own tapiNode 1) (.pair (.int .i64) (.pair (.own (.int .i64) 2) .unit))))) (x4 : denO (.box (.pair (.own tapiNode 9) (.pair (.int .i64) (.pair (.own (.int .i64) 10) .unit))))) (x5 : denO (.box tsplithalf)) (x6 : denO (.box tsplithalf)) (x7 : denO (.box (.arr 2 tsplithalf))) (x8 : denO (.box (.int .i64))) (x9 : denO (.row 53 tapiNode false)) (x10 : denO (.row 24 (.int .i64) false)) : split_Split_cut.e0 [] x0 x1 x2 x3 x4 x5 x6 x7 x8 x9 x10 =
  br (andB (leI (0 : Int) (0 : Int)) (ltI (0 : Int) (ofN 2))) (br (andB (leI (0 : Int) (1 : Int)) (ltI (1 : Int) (ofN 2))) (both
   (both
    (some ((((), (x3.2.1, ((), ()))), ((ixL tsplithalf x7 (0 : Int)), ((ixL tsplithalf x7 (1 : Int)), ()))), (x0, (x1, (x2, ())))))
    (both
     (some ((((), (x3.2.1, ((), ()))), ((ixL tsplithalf x7 (0 : Int)), ((ixL tsplithalf x7 (1 : Int)), ()))), (x0, (x1, (x2, ())))))
     (some ((((), (x3.2.1, ((), ()))), ((ixL tsplithalf x7 (0 : Int)), ((ixL tsplithalf x7 (1 : Int)), ()))), (x0, (x1, (x2, ())))))))
   (both
    (both
     (some ((((), (x3.2.1, ((), ()))), ((ixL tsplithalf x7 (0 : Int)), ((ixL tsplithalf x7 (1 : Int)), ()))), (x0, (x1, (x2, ())))))
     (some ((((), (x3.2.1, ((), ()))), ((ixL tsplithalf x7 (0 : Int)), ((ixL tsplithalf x7 (1 : Int)), ()))), (x0, (x1, (x2, ()))))))
    (both
     (some ((((), (x3.2.1, ((), ()))), ((ixL tsplithalf x7 (0 : Int)), ((ixL tsplithalf x7 (1 : Int)), ()))), (x0, (x1, (x2, ())))))
     (some ((((), (x3.2.1, ((), ()))), ((ixL tsplithalf x7 (0 : Int)), ((ixL tsplithalf x7 (1 : Int)), ()))), (x0, (x1, (x2, ())))))))) none) none := by kernel_rfl
theorem split_Split_cut.e0.cons (y : den (.tcons (.int .i64) (.tcons tsplitstep .tnil))) (ys : List (den (.tcons (.int .i64) (.tcons tsplitstep .tnil)))) (x0 : denO (.box tsplitSplit)) (x1 : denO (.row 53 tapiNode true)) (x2 : denO (.row 24 (.int .i64) true)) (x3 : denO (.box (.pair (.own tapiNode 1) (.pair (.int .i64) (.pair (.own (.int .i64) 2) .unit))))) (x4 : denO (.box (.pair (.own tapiNode 9) (.pair (.int .i64) (.pair (.own (.int .i64) 10) .unit))))) (x5 : denO (.box tsplithalf)) (x6 : denO (.box tsplithalf)) (x7 : denO (.box (.arr 2 tsplithalf))) (x8 : denO (.box (.int .i64))) (x9 : denO (.row 53 tapiNode false)) (x10 : denO (.row 24 (.int .i64) false)) : split_Split_cut.e0 (y :: ys) x0 x1 x2 x3 x4 x5 x6 x7 x8 x9 x10 =
  br (andB (leI (0 : Int) (subI .i64 (1 : Int) y.2.1.2.2.2.2.2.2.2.2.2.2.1)) (ltI (subI .i64 (1 : Int) y.2.1.2.2.2.2.2.2.2.2.2.2.1) (ofN 2))) (br (fitL (.int .i64) (appL (.int .i64) x2 (y.2.1.1 :: []))) (bnd (split_with (y.2.1.2.1, (y.2.1.2.2.1, (y.2.1.2.2.2.1, (y.2.1.2.2.2.2.1, (y.2.1.2.2.2.2.2.1, (y.2.1.2.2.2.2.2.2.1, (y.2.1.2.2.2.2.2.2.2.1, (y.2.1.2.2.2.2.2.2.2.2.1, (y.2.1.2.2.2.2.2.2.2.2.2.1, ()))))))))) y.2.1.2.2.2.2.2.2.2.2.2.2.1 (ixL tsplithalf x7 (subI .i64 (1 : Int) y.2.1.2.2.2.2.2.2.2.2.2.2.1)).1 (subI .i64 (addI .i64 (ixL tsplithalf x7 (subI .i64 (1 : Int) y.2.1.2.2.2.2.2.2.2.2.2.2.1)).2.1 y.2.1.2.2.2.2.2.2.2.2.1) x8)) fun r0 =>
  bnd (plan_Add ((), (x3.2.1, ((), ()))) r0 x1 (appL (.int .i64) x2 (y.2.1.1 :: []))) fun r1 =>
  split_Split_cut.e1 ys x0 r1.2.2.1 ((), (r1.1.1.2.1, ((), ()))) ((), (x4.2.1, ((), ()))) x5 x6 (setL tsplithalf (setL tsplithalf x7 (subI .i64 (1 : Int) y.2.1.2.2.2.2.2.2.2.2.2.2.1) (r1.1.2.1, (ixL tsplithalf x7 (subI .i64 (1 : Int) y.2.1.2.2.2.2.2.2.2.2.2.2.1)).2)) (subI .i64 (1 : Int) y.2.1.2.2.2.2.2.2.2.2.2.2.1) ((ixL tsplithalf (setL tsplithalf x7 (subI .i64 (1 : Int) y.2.1.2.2.2.2.2.2.2.2.2.2.1) (r1.1.2.1, (ixL tsplithalf x7 (subI .i64 (1 : Int) y.2.1.2.2.2.2.2.2.2.2.2.2.1)).2)) (subI .i64 (1 : Int) y.2.1.2.2.2.2.2.2.2.2.2.2.1)).1, ((subI .i64 (addI .i64 (ixL tsplithalf x7 (subI .i64 (1 : Int) y.2.1.2.2.2.2.2.2.2.2.2.2.1)).2.1 y.2.1.2.2.2.2.2.2.2.2.1) x8), ()))) y.2.1.2.2.2.2.2.2.2.2.1 r1.2.2.2.1 x9 x10) none) none := by kernel_rfl
theorem split_Split_cut.e1.nil (x0 : denO (.box tsplitSplit)) (x1 : denO (.row 24 (.int .i64) false)) (x2 : denO (.box (.pair (.own tapiNode 9) (.pair (.int .i64) (.pair (.own (.int .i64) 2) .unit))))) (x3 : denO (.box (.pair (.own tapiNode 10) (.pair (.int .i64) (.pair (.own (.int .i64) 11) .unit))))) (x4 : denO (.box tsplithalf)) (x5 : denO (.box tsplithalf)) (x6 : denO (.box (.arr 2 tsplithalf))) (x7 : denO (.box (.int .i64))) (x8 : denO (.row 53 tapiNode false)) (x9 : denO (.row 53 tapiNode false)) (x10 : denO (.row 24 (.int .i64) false)) : split_Split_cut.e1 [] x0 x1 x2 x3 x4 x5 x6 x7 x8 x9 x10 =
  br (andB (leI (0 : Int) (0 : Int)) (ltI (0 : Int) (ofN 2))) (br (andB (leI (0 : Int) (1 : Int)) (ltI (1 : Int) (ofN 2))) (both
   (both
    (some ((((), (x2.2.1, ((), ()))), ((ixL tsplithalf x6 (0 : Int)), ((ixL tsplithalf x6 (1 : Int)), ()))), (x0, (x8, (x1, ())))))
    (both
     (some ((((), (x2.2.1, ((), ()))), ((ixL tsplithalf x6 (0 : Int)), ((ixL tsplithalf x6 (1 : Int)), ()))), (x0, (x8, (x1, ())))))
     (some ((((), (x2.2.1, ((), ()))), ((ixL tsplithalf x6 (0 : Int)), ((ixL tsplithalf x6 (1 : Int)), ()))), (x0, (x8, (x1, ())))))))
   (both
    (both
     (some ((((), (x2.2.1, ((), ()))), ((ixL tsplithalf x6 (0 : Int)), ((ixL tsplithalf x6 (1 : Int)), ()))), (x0, (x8, (x1, ())))))
     (some ((((), (x2.2.1, ((), ()))), ((ixL tsplithalf x6 (0 : Int)), ((ixL tsplithalf x6 (1 : Int)), ()))), (x0, (x8, (x1, ()))))))
    (both
     (some ((((), (x2.2.1, ((), ()))), ((ixL tsplithalf x6 (0 : Int)), ((ixL tsplithalf x6 (1 : Int)), ()))), (x0, (x8, (x1, ())))))
     (some ((((), (x2.2.1, ((), ()))), ((ixL tsplithalf x6 (0 : Int)), ((ixL tsplithalf x6 (1 : Int)), ()))), (x0, (x8, (x1, ())))))))) none) none := by kernel_rfl
theorem split_Split_cut.e1.cons (y : den (.tcons (.int .i64) (.tcons tsplitstep .tnil))) (ys : List (den (.tcons (.int .i64) (.tcons tsplitstep .tnil)))) (x0 : denO (.box tsplitSplit)) (x1 : denO (.row 24 (.int .i64) false)) (x2 : denO (.box (.pair (.own tapiNode 9) (.pair (.int .i64) (.pair (.own (.int .i64) 2) .unit))))) (x3 : denO (.box (.pair (.own tapiNode 10) (.pair (.int .i64) (.pair (.own (.int .i64) 11) .unit))))) (x4 : denO (.box tsplithalf)) (x5 : denO (.box tsplithalf)) (x6 : denO (.box (.arr 2 tsplithalf))) (x7 : denO (.box (.int .i64))) (x8 : denO (.row 53 tapiNode false)) (x9 : denO (.row 53 tapiNode false)) (x10 : denO (.row 24 (.int .i64) false)) : split_Split_cut.e1 (y :: ys) x0 x1 x2 x3 x4 x5 x6 x7 x8 x9 x10 =
  br (andB (leI (0 : Int) (subI .i64 (1 : Int) y.2.1.2.2.2.2.2.2.2.2.2.2.1)) (ltI (subI .i64 (1 : Int) y.2.1.2.2.2.2.2.2.2.2.2.2.1) (ofN 2))) (br (fitL (.int .i64) (appL (.int .i64) x1 (y.2.1.1 :: []))) (bnd (split_with (y.2.1.2.1, (y.2.1.2.2.1, (y.2.1.2.2.2.1, (y.2.1.2.2.2.2.1, (y.2.1.2.2.2.2.2.1, (y.2.1.2.2.2.2.2.2.1, (y.2.1.2.2.2.2.2.2.2.1, (y.2.1.2.2.2.2.2.2.2.2.1, (y.2.1.2.2.2.2.2.2.2.2.2.1, ()))))))))) y.2.1.2.2.2.2.2.2.2.2.2.2.1 (ixL tsplithalf x6 (subI .i64 (1 : Int) y.2.1.2.2.2.2.2.2.2.2.2.2.1)).1 (subI .i64 (addI .i64 (ixL tsplithalf x6 (subI .i64 (1 : Int) y.2.1.2.2.2.2.2.2.2.2.2.2.1)).2.1 y.2.1.2.2.2.2.2.2.2.2.1) x7)) fun r0 =>
  bnd (plan_Add ((), (x2.2.1, ((), ()))) r0 x8 (appL (.int .i64) x1 (y.2.1.1 :: []))) fun r1 =>
  split_Split_cut.e1 ys x0 r1.2.2.1 ((), (r1.1.1.2.1, ((), ()))) ((), (x3.2.1, ((), ()))) x4 x5 (setL tsplithalf (setL tsplithalf x6 (subI .i64 (1 : Int) y.2.1.2.2.2.2.2.2.2.2.2.2.1) (r1.1.2.1, (ixL tsplithalf x6 (subI .i64 (1 : Int) y.2.1.2.2.2.2.2.2.2.2.2.2.1)).2)) (subI .i64 (1 : Int) y.2.1.2.2.2.2.2.2.2.2.2.2.1) ((ixL tsplithalf (setL tsplithalf x6 (subI .i64 (1 : Int) y.2.1.2.2.2.2.2.2.2.2.2.2.1) (r1.1.2.1, (ixL tsplithalf x6 (subI .i64 (1 : Int) y.2.1.2.2.2.2.2.2.2.2.2.2.1)).2)) (subI .i64 (1 : Int) y.2.1.2.2.2.2.2.2.2.2.2.2.1)).1, ((subI .i64 (addI .i64 (ixL tsplithalf x6 (subI .i64 (1 : Int) y.2.1.2.2.2.2.2.2.2.2.2.2.1)).2.1 y.2.1.2.2.2.2.2.2.2.2.1) x7), ()))) y.2.1.2.2.2.2.2.2.2.2.1 r1.2.2.2.1 x9 x10) none) none := by kernel_rfl
theorem slices_Cloneapi_Ref_api_Ref.eq (a0 : den (.list (.int .i64))) : slices_Cloneapi_Ref_api_Ref a0 =
  br (eqI (ofN (lenL (.int .i64) a0)) (0 : Int))
   (both
    (some ((), ([], ())))
    (br (fitL (.int .i64) (appL (.int .i64) [] a0)) (some ((), ((appL (.int .i64) [] a0), ()))) none))
   (br (fitL (.int .i64) (appL (.int .i64) [] a0)) (some ((), ((appL (.int .i64) [] a0), ()))) none) :=
  (callW_eq (P := PP) (T := TT) (pr := RR) 105 [⟨(.list (.int .i64)), a0⟩] [] (.own (.int .i64) 0) [(.row 24 (.int .i64) false)]).trans (by kernel_rfl)
theorem slices_Cloneapi_Node_api_Node.eq (a0 : den (.list tapiNode)) : slices_Cloneapi_Node_api_Node a0 =
  br (eqI (ofN (lenL tapiNode a0)) (0 : Int))
   (both
    (some ((), ([], ())))
    (br (fitL tapiNode (appL tapiNode [] a0)) (some ((), ((appL tapiNode [] a0), ()))) none))
   (br (fitL tapiNode (appL tapiNode [] a0)) (some ((), ((appL tapiNode [] a0), ()))) none) :=
  (callW_eq (P := PP) (T := TT) (pr := RR) 103 [⟨(.list tapiNode), a0⟩] [] (.own tapiNode 0) [(.row 53 tapiNode false)]).trans (by kernel_rfl)
theorem node_Copy.eq (a0 : den tapiNode) : node_Copy a0 =
  bnd (slices_Cloneapi_Ref_api_Ref a0.2.2.2.2.1) fun r0 =>
  bnd (slices_Cloneapi_Pair_api_Pair a0.2.2.2.2.2.2.1) fun r1 =>
  some ((a0.1, (a0.2.1, (a0.2.2.1, (a0.2.2.2.1, ((), (a0.2.2.2.2.2.1, ((), a0.2.2.2.2.2.2.2))))))), (r0.2.1, (r1.2.1, ()))) :=
  (callW_eq (P := PP) (T := TT) (pr := RR) 86 [⟨tapiNode, a0⟩] [] (.pair (.int .i64) (.pair .str (.pair .str (.pair (.int .u32) (.pair (.own (.int .i64) 0) (.pair (.int .i64) (.pair (.own tapiPair 1) tsplithalf))))))) [(.row 24 (.int .i64) false), (.row 82 tapiPair false)]).trans (by kernel_rfl)
theorem ref_New.eq (a0 : den (.int .i64)) : ref_New a0 =
  br (ltI a0 (0 : Int))
   (some (0 : Int))
   (some (subI .i64 (-1 : Int) a0)) :=
  (callW_eq (P := PP) (T := TT) (pr := RR) 104 [⟨(.int .i64), a0⟩] [] (.int .i64) []).trans (by kernel_rfl)
theorem ref17_Depth.eq (a0 : den (.list tapiNode)) (a1 : den (.int .i64)) : ref17_Depth a0 a1 =
  br (eqI a1 (0 : Int))
   (some (0 : Int))
   (br (andB (leI (0 : Int) (subI .i64 a1 (1 : Int))) (ltI (subI .i64 a1 (1 : Int)) (ofN (lenL tapiNode a0)))) (bnd (ref13_Refs (ixL tapiNode a0 (subI .i64 a1 (1 : Int)))) fun r0 =>
   ref17_Depth.l0 a0 (0 : Int) r0 (0 : Int)) none) :=
  (callW_eq (P := PP) (T := TT) (pr := RR) 107 [⟨(.list tapiNode), a0⟩, ⟨(.int .i64), a1⟩] [] (.int .i64) []).trans (by kernel_rfl)
theorem ref17_Depth.l0.eq (x0 : den (.list tapiNode)) (x1 : den (.int .i64)) (x2 : den (.list (.int .i64))) (x3 : den (.int .i64)) : ref17_Depth.l0 x0 x1 x2 x3 =
  br (ltI x3 (ofN (lenL (.int .i64) x2)))
   (br (andB (leI (0 : Int) x3) (ltI x3 (ofN (lenL (.int .i64) x2)))) (bnd (ref17_Depth x0 (ixL (.int .i64) x2 x3)) fun r0 =>
   ref17_Depth.l0 x0 (maxI x1 r0) x2 (addI .i64 x3 (1 : Int))) none)
   (some (addI .i64 x1 (1 : Int))) :=
  (loopB_eq (P := PP) (T := TT) (C := CF) [1, 1, 1, 0, 1, 0, 0] [1, 1, 1, 0, 1, 0, 0] 107 0 ⟨[(0, ⟨(.list tapiNode), x0⟩), (5, ⟨(.int .i64), x1⟩), (6, ⟨(.list (.int .i64)), x2⟩), (7, ⟨(.int .i64), x3⟩)], []⟩ (blockK 0 (seqK false [1, 1, 1, 1] (BF 107 0 [1, 1, 1, 1]) (finF 107 (.int .i64) [] 0)))).trans (by kernel_rfl)
theorem ref13_May.eq (a0 : den tapiNode) : ref13_May a0 =
  br (ltI a0.1 (1 : Int))
   (some (11 : Int))
   (br (ltI (6 : Int) a0.1)
    (some (11 : Int))
    (bnd (ref13_long a0) fun r0 =>
    br r0
     (some (6 : Int))
     (bnd (ref13_form a0) fun r1 =>
     br (notB r1)
      (some (4 : Int))
      (some (0 : Int))))) :=
  (callW_eq (P := PP) (T := TT) (pr := RR) 93 [⟨tapiNode, a0⟩] [] (.int .i64) []).trans (by kernel_rfl)
theorem ref13_Binds.eq (a0 : den tapiNode) : ref13_Binds a0 =
  br (eqI a0.1 (1 : Int))
   (some ((a0.2.1, (a0.2.2.1, ())) :: []))
   (br (eqI a0.1 (4 : Int))
    (some ((a0.2.1, (a0.2.2.1, ())) :: []))
    (br (eqI a0.1 (6 : Int))
     (some ((a0.2.1, (a0.2.2.1, ())) :: []))
     (br (eqI a0.1 (3 : Int))
      (some a0.2.2.2.2.2.2.1)
      (some [])))) :=
  (callW_eq (P := PP) (T := TT) (pr := RR) 53 [⟨tapiNode, a0⟩] [] (.list tapiPair) []).trans (by kernel_rfl)
end Go.Proofs.YtmopkbmcilolgaaGreat.AH
