/- Texts of one proof, laid together: how the interpreter's words stand for the program's code and what the functions do. No conditions but those that each lemma names. -/
import Derived.Test.YtmopkbmcilolgaaM2
set_option linter.unusedSimpArgs false
set_option maxRecDepth 100000
set_option linter.unusedVariables false
namespace Go.Proofs.Ytmopkbmcilolgaa.AC
open Go.Abs
noncomputable def law17_HeapBinds (a0 : den (.list tapiNode)) (a1 : den (.int .i64)) : Option (den .bool) := CF 3 [⟨(.list tapiNode), a0⟩, ⟨(.int .i64), a1⟩] [] .bool []
noncomputable def law17_HeapCounts (a0 : den (.list tapiNode)) (a1 : den (.int .i64)) : Option (den .bool) := CF 4 [⟨(.list tapiNode), a0⟩, ⟨(.int .i64), a1⟩] [] .bool []
noncomputable def law17_HeapCounts.e0 (xs : List (den (.tcons (.int .i64) .tnil))) (x0 : den (.list tapiNode)) (x1 : den (.int .i64)) (x2 : den (.int .i64)) (x3 : den (.int .i64)) (x4 : den (.int .i64)) (x5 : den (.int .i64)) (x6 : denO (.row 28 (.int .i64) false)) : Option (den .bool) := rangeD (.tcons (.int .i64) .tnil) [1, 1, 1, 1, 1, 1, 0, 1, 0] 0 [0, 1, 5, 6, 7, 8, 9] [34] (BF (R := den .bool) 4 0 [1, 1, 1, 1, 1, 1, 0, 1, 0, 0]) (BF (R := den .bool) 4 0 [1, 1, 1, 1, 1, 1, 0, 1, 0, 1]) xs ⟨[(0, ⟨(.list tapiNode), x0⟩), (1, ⟨(.int .i64), x1⟩), (5, ⟨(.int .i64), x2⟩), (6, ⟨(.int .i64), x3⟩), (7, ⟨(.int .i64), x4⟩), (8, ⟨(.int .i64), x5⟩), (9, ⟨(.ptr 0 0), ()⟩)], [⟨(.box (.own (.int .i64) 1)), ()⟩, ⟨(.row 28 (.int .i64) false), x6⟩]⟩ (blockK 0 (seqK false [1, 1, 1, 1, 1, 1, 1] (BF 4 0 [1, 1, 1, 1, 1, 1, 1]) (finF 4 .bool [] 0)))
noncomputable def law17_HeapSame (a0 : den (.list tapiNode)) (a1 : den (.int .i64)) (a2 : den (.list tapiNode)) (a3 : den (.int .i64)) : Option (den .bool) := CF 5 [⟨(.list tapiNode), a0⟩, ⟨(.int .i64), a1⟩, ⟨(.list tapiNode), a2⟩, ⟨(.int .i64), a3⟩] [] .bool []
noncomputable def law21_FindRuns (a0 : den (.list tapiNode)) (a1 : den (.int .i64)) (a2 : den .str) (a3 : den (.int .i64)) : Option (den .bool) := CF 7 [⟨(.list tapiNode), a0⟩, ⟨(.int .i64), a1⟩, ⟨.str, a2⟩, ⟨(.int .i64), a3⟩] [] .bool []
noncomputable def law21_FindFeeds (a0 : den (.list tapiNode)) (a1 : den (.int .i64)) (a2 : den .str) (a3 : den (.int .i64)) : Option (den .bool) := CF 8 [⟨(.list tapiNode), a0⟩, ⟨(.int .i64), a1⟩, ⟨.str, a2⟩, ⟨(.int .i64), a3⟩] [] .bool []
noncomputable def law21_FindFeeds.l0 (x0 : den (.list tapiNode)) (x1 : den .str) (x2 : den .str) (x3 : den .bool) (x4 : den (.int .i64)) (x5 : den (.int .i64)) (x6 : denO (.box tfindFind)) : Option (den .bool) := loopW [1, 1, 1, 1, 1, 1, 1, 0, 1, 0, 0] (BF (R := den .bool) 8 0 [1, 1, 1, 1, 1, 1, 1, 0, 1, 0, 0]) ⟨[(0, ⟨(.list tapiNode), x0⟩), (2, ⟨.str, x1⟩), (9, ⟨(.ptr 0 0), ()⟩), (10, ⟨.str, x2⟩), (11, ⟨.bool, x3⟩), (12, ⟨(.int .i64), x4⟩), (13, ⟨(.int .i64), x5⟩)], [⟨(.box tfindFind), x6⟩]⟩ (blockK 0 (seqK false [1, 1, 1, 1, 1, 1, 1, 1] (BF 8 0 [1, 1, 1, 1, 1, 1, 1, 1]) (finF 8 .bool [] 0)))
noncomputable def law21_FindFeeds.j1 (x0 : den (.list tapiNode)) (x1 : den .str) (x2 : den .str) (x3 : den .bool) (x4 : den (.int .i64)) (x5 : den (.int .i64)) (x6 : den (.int .i64)) (x7 : den .bool) (x8 : denO (.box tfindFind)) : Option (den .bool) := jnO [1, 1, 1, 1, 1, 1, 1, 0, 1, 0, 0, 1, 0, 0, 1, 0, 1] (BF (R := den .bool) 8 0 [1, 1, 1, 1, 1, 1, 1, 0, 1, 0, 0, 1, 0, 0, 1, 0, 1]) ⟨[(0, ⟨(.list tapiNode), x0⟩), (2, ⟨.str, x1⟩), (9, ⟨(.ptr 0 0), ()⟩), (10, ⟨.str, x2⟩), (11, ⟨.bool, x3⟩), (12, ⟨(.int .i64), x4⟩), (13, ⟨(.int .i64), x5⟩), (14, ⟨(.int .i64), x6⟩), (67, ⟨.bool, x7⟩)], [⟨(.box tfindFind), x8⟩]⟩ (seqK false [1, 1, 1, 1, 1, 1, 1, 0, 1, 0, 0, 1, 0, 0, 1, 1] (BF 8 0 [1, 1, 1, 1, 1, 1, 1, 0, 1, 0, 0, 1, 0, 0, 1, 1]) (blockK 1 (seqK false [1, 1, 1, 1, 1, 1, 1, 0, 1, 0, 0, 1, 1] (BF 8 0 [1, 1, 1, 1, 1, 1, 1, 0, 1, 0, 0, 1, 1]) (againK [1, 1, 1, 1, 1, 1, 1, 0, 1, 0, 0] (loopW [1, 1, 1, 1, 1, 1, 1, 0, 1, 0, 0] (BF 8 0 [1, 1, 1, 1, 1, 1, 1, 0, 1, 0, 0])) (blockK 0 (seqK false [1, 1, 1, 1, 1, 1, 1, 1] (BF 8 0 [1, 1, 1, 1, 1, 1, 1, 1]) (finF 8 .bool [] 0)))))))
noncomputable def law21_FindTries (a0 : den (.int .i64)) (a1 : den (.list tapiPair)) (a2 : den .str) : Option (den .bool) := CF 9 [⟨(.int .i64), a0⟩, ⟨(.list tapiPair), a1⟩, ⟨.str, a2⟩] [] .bool []
noncomputable def law17_Few (a0 : den (.list tapiNode)) : Option (den (.list tapiNode)) := CF 10 [⟨(.list tapiNode), a0⟩] [] (.list tapiNode) []
noncomputable def law17_Few.l0 (x0 : den (.list tapiNode)) (x1 : den (.int .i64)) (x2 : den (.int .i64)) (x3 : denO (.row 60 tapiNode false)) : Option (den (.list tapiNode)) := loopW [1, 1, 0, 1, 0, 0] (BF (R := den (.list tapiNode)) 10 0 [1, 1, 0, 1, 0, 0]) ⟨[(0, ⟨(.list tapiNode), x0⟩), (3, ⟨(.own tapiNode 0), ()⟩), (4, ⟨(.int .i64), x1⟩), (5, ⟨(.int .i64), x2⟩)], [⟨(.row 60 tapiNode false), x3⟩]⟩ (blockK 0 (seqK false [1, 1, 1] (BF 10 0 [1, 1, 1]) (finF 10 (.list tapiNode) [] 0)))
noncomputable def law17_Few.j1 (x0 : den (.list tapiNode)) (x1 : den (.int .i64)) (x2 : den (.int .i64)) (x3 : den .bool) (x4 : denO (.row 60 tapiNode false)) : Option (den (.list tapiNode)) := jnO [1, 1, 0, 1, 0, 0, 0, 1] (BF (R := den (.list tapiNode)) 10 0 [1, 1, 0, 1, 0, 0, 0, 1]) ⟨[(0, ⟨(.list tapiNode), x0⟩), (3, ⟨(.own tapiNode 0), ()⟩), (4, ⟨(.int .i64), x1⟩), (5, ⟨(.int .i64), x2⟩), (15, ⟨.bool, x3⟩)], [⟨(.row 60 tapiNode false), x4⟩]⟩ (seqK false [1, 1, 0, 1, 0, 0, 1] (BF 10 0 [1, 1, 0, 1, 0, 0, 1]) (againK [1, 1, 0, 1, 0, 0] (loopW [1, 1, 0, 1, 0, 0] (BF 10 0 [1, 1, 0, 1, 0, 0])) (blockK 0 (seqK false [1, 1, 1] (BF 10 0 [1, 1, 1]) (finF 10 (.list tapiNode) [] 0)))))
noncomputable def heap_Binds (a0 : den (.list tapiNode)) (a1 : den (.int .i64)) : Option (den (.tcons (.list tapiPair) (.tcons (.int .i64) .tnil))) := CF 11 [⟨(.list tapiNode), a0⟩, ⟨(.int .i64), a1⟩] [] (.tcons (.list tapiPair) (.tcons (.int .i64) .tnil)) []
noncomputable def heap_May (a0 : den (.list tapiNode)) : Option (den (.int .i64)) := CF 12 [⟨(.list tapiNode), a0⟩] [] (.int .i64) []
noncomputable def heap_May.l0 (x0 : den (.list tapiNode)) (x1 : den (.int .i64)) (x2 : den (.int .i64)) : Option (den (.int .i64)) := loopW [1, 0, 1, 0, 0] (BF (R := den (.int .i64)) 12 0 [1, 0, 1, 0, 0]) ⟨[(7, ⟨(.list tapiNode), x0⟩), (8, ⟨(.int .i64), x1⟩), (9, ⟨(.int .i64), x2⟩)], []⟩ (blockK 0 (seqK false [1, 1] (BF 12 0 [1, 1]) (finF 12 (.int .i64) [] 0)))
noncomputable def heap_May.l1 (x0 : den (.int .i64)) (x1 : den (.list tapiNode)) (x2 : den (.int .i64)) (x3 : den (.int .i64)) (x4 : den (.list (.int .i64))) (x5 : den (.int .i64)) (x6 : den (.int .i64)) : Option (den (.int .i64)) := loopW [1, 0, 1, 0, 0, 1, 1, 0, 0, 1, 1, 1, 0, 0] (BF (R := den (.int .i64)) 12 0 [1, 0, 1, 0, 0, 1, 1, 0, 0, 1, 1, 1, 0, 0]) ⟨[(3, ⟨(.int .i64), x0⟩), (7, ⟨(.list tapiNode), x1⟩), (8, ⟨(.int .i64), x2⟩), (9, ⟨(.int .i64), x3⟩), (18, ⟨(.list (.int .i64)), x4⟩), (19, ⟨(.int .i64), x5⟩), (20, ⟨(.int .i64), x6⟩)], []⟩ (blockK 2 (blockK 1 (seqK false [1, 0, 1, 0, 0, 1, 1, 1] (BF 12 0 [1, 0, 1, 0, 0, 1, 1, 1]) (againK [1, 0, 1, 0, 0] (loopW [1, 0, 1, 0, 0] (BF 12 0 [1, 0, 1, 0, 0])) (blockK 0 (seqK false [1, 1] (BF 12 0 [1, 1]) (finF 12 (.int .i64) [] 0)))))))
noncomputable def ref17_May (a0 : den (.list tapiNode)) : Option (den .bool) := CF 13 [⟨(.list tapiNode), a0⟩] [] .bool []
noncomputable def ref17_May.l0 (x0 : den (.list tapiNode)) (x1 : den (.int .i64)) : Option (den .bool) := loopW [1, 0, 1, 0, 0] (BF (R := den .bool) 13 0 [1, 0, 1, 0, 0]) ⟨[(0, ⟨(.list tapiNode), x0⟩), (3, ⟨(.int .i64), x1⟩)], []⟩ (blockK 0 (seqK false [1, 1] (BF 13 0 [1, 1]) (finF 13 .bool [] 0)))
noncomputable def ref17_May.l1 (x0 : den (.list tapiNode)) (x1 : den (.int .i64)) (x2 : den (.list (.int .i64))) (x3 : den (.int .i64)) : Option (den .bool) := loopW [1, 0, 1, 0, 0, 1, 0, 0, 1, 0, 1, 0, 0] (BF (R := den .bool) 13 0 [1, 0, 1, 0, 0, 1, 0, 0, 1, 0, 1, 0, 0]) ⟨[(0, ⟨(.list tapiNode), x0⟩), (3, ⟨(.int .i64), x1⟩), (4, ⟨(.list (.int .i64)), x2⟩), (5, ⟨(.int .i64), x3⟩)], []⟩ (blockK 2 (seqK false [1, 0, 1, 0, 0, 1, 0, 0, 1, 1] (BF 13 0 [1, 0, 1, 0, 0, 1, 0, 0, 1, 1]) (blockK 1 (seqK false [1, 0, 1, 0, 0, 1, 1] (BF 13 0 [1, 0, 1, 0, 0, 1, 1]) (againK [1, 0, 1, 0, 0] (loopW [1, 0, 1, 0, 0] (BF 13 0 [1, 0, 1, 0, 0])) (blockK 0 (seqK false [1, 1] (BF 13 0 [1, 1]) (finF 13 .bool [] 0))))))))
noncomputable def ref17_Fits (a0 : den (.list tapiNode)) (a1 : den (.int .i64)) : Option (den .bool) := CF 14 [⟨(.list tapiNode), a0⟩, ⟨(.int .i64), a1⟩] [] .bool []
noncomputable def law17_works  : Option (den .bool) := CF 15 [] [] .bool []
noncomputable def ref17_Binds (a0 : den (.list tapiNode)) (a1 : den (.int .i64)) : Option (den (.list tapiPair)) := CF 17 [⟨(.list tapiNode), a0⟩, ⟨(.int .i64), a1⟩] [] (.list tapiPair) []
noncomputable def ref17_Binds.l0 (x0 : den (.list tapiNode)) (x1 : den (.list (.int .i64))) (x2 : den (.int .i64)) (x3 : denO (.row 75 tapiPair false)) : Option (den (.list tapiPair)) := loopW [1, 1, 1, 1, 1, 1, 1, 0, 1, 0, 0] (BF (R := den (.list tapiPair)) 17 0 [1, 1, 1, 1, 1, 1, 1, 0, 1, 0, 0]) ⟨[(0, ⟨(.list tapiNode), x0⟩), (5, ⟨(.own tapiPair 0), ()⟩), (7, ⟨(.list (.int .i64)), x1⟩), (8, ⟨(.int .i64), x2⟩)], [⟨(.row 75 tapiPair false), x3⟩]⟩ (blockK 0 (seqK false [1, 1, 1, 1, 1, 1, 1, 1] (BF 17 0 [1, 1, 1, 1, 1, 1, 1, 1]) (finF 17 (.list tapiPair) [] 0)))
noncomputable def ref07_Same (a0 : den (.list tapiPair)) (a1 : den (.list tapiPair)) : Option (den .bool) := CF 16 [⟨(.list tapiPair), a0⟩, ⟨(.list tapiPair), a1⟩] [] .bool []
noncomputable def ref07_Same.l0 (x0 : den (.list tapiPair)) (x1 : den (.list tapiPair)) (x2 : den (.int .i64)) : Option (den .bool) := loopW [1, 1, 0, 1, 0, 0] (BF (R := den .bool) 16 0 [1, 1, 0, 1, 0, 0]) ⟨[(0, ⟨(.list tapiPair), x0⟩), (1, ⟨(.list tapiPair), x1⟩), (5, ⟨(.int .i64), x2⟩)], []⟩ (blockK 0 (seqK false [1, 1, 1] (BF 16 0 [1, 1, 1]) (finF 16 .bool [] 0)))
noncomputable def heap_Count (a0 : den (.list tapiNode)) (a1 : den (.int .i64)) : Option (den (.tcons (.int .i64) (.tcons (.int .i64) .tnil))) := CF 18 [⟨(.list tapiNode), a0⟩, ⟨(.int .i64), a1⟩] [] (.tcons (.int .i64) (.tcons (.int .i64) .tnil)) []
noncomputable def heap_Count.e0 (xs : List (den (.tcons (.int .i64) .tnil))) (x0 : denO (.box (.int .i64))) : Option (den (.tcons (.int .i64) (.tcons (.int .i64) .tnil))) := rangeD (.tcons (.int .i64) .tnil) [1, 1, 1, 0, 1, 0] 0 [7] [17] (BF (R := den (.tcons (.int .i64) (.tcons (.int .i64) .tnil))) 18 0 [1, 1, 1, 0, 1, 0, 0]) (BF (R := den (.tcons (.int .i64) (.tcons (.int .i64) .tnil))) 18 0 [1, 1, 1, 0, 1, 0, 1]) xs ⟨[(7, ⟨(.ptr 0 0), ()⟩)], [⟨(.box (.int .i64)), x0⟩]⟩ (blockK 0 (seqK false [1, 1, 1, 1] (BF 18 0 [1, 1, 1, 1]) (finF 18 (.tcons (.int .i64) (.tcons (.int .i64) .tnil)) [] 0)))
noncomputable def heap_Depth (a0 : den (.list tapiNode)) (a1 : den (.int .i64)) : Option (den (.tcons (.int .i64) (.tcons (.int .i64) .tnil))) := CF 19 [⟨(.list tapiNode), a0⟩, ⟨(.int .i64), a1⟩] [] (.tcons (.int .i64) (.tcons (.int .i64) .tnil)) []
noncomputable def heap_Depth.l0 (x0 : den (.int .i64)) (x1 : den (.list tapiNode)) (x2 : den (.int .i64)) (x3 : den (.int .i64)) (x4 : denO (.row 3 (.int .i64) false)) : Option (den (.tcons (.int .i64) (.tcons (.int .i64) .tnil))) := loopW [1, 1, 1, 0, 1, 0, 0] (BF (R := den (.tcons (.int .i64) (.tcons (.int .i64) .tnil))) 19 0 [1, 1, 1, 0, 1, 0, 0]) ⟨[(1, ⟨(.int .i64), x0⟩), (7, ⟨(.own (.int .i64) 0), ()⟩), (22, ⟨(.list tapiNode), x1⟩), (23, ⟨(.int .i64), x2⟩), (24, ⟨(.int .i64), x3⟩)], [⟨(.row 3 (.int .i64) false), x4⟩]⟩ (blockK 0 (seqK false [1, 1, 1, 1] (BF 19 0 [1, 1, 1, 1]) (finF 19 (.tcons (.int .i64) (.tcons (.int .i64) .tnil)) [] 0)))
noncomputable def heap_Depth.l1 (x0 : den (.int .i64)) (x1 : den (.int .i64)) (x2 : den (.list tapiNode)) (x3 : den (.int .i64)) (x4 : den (.int .i64)) (x5 : den (.list (.int .i64))) (x6 : den (.int .i64)) (x7 : den (.int .i64)) (x8 : denO (.row 3 (.int .i64) false)) : Option (den (.tcons (.int .i64) (.tcons (.int .i64) .tnil))) := loopW [1, 1, 1, 0, 1, 0, 0, 1, 1, 0, 0, 1, 0, 1, 0, 0] (BF (R := den (.tcons (.int .i64) (.tcons (.int .i64) .tnil))) 19 0 [1, 1, 1, 0, 1, 0, 0, 1, 1, 0, 0, 1, 0, 1, 0, 0]) ⟨[(1, ⟨(.int .i64), x0⟩), (7, ⟨(.own (.int .i64) 0), ()⟩), (8, ⟨(.int .i64), x1⟩), (22, ⟨(.list tapiNode), x2⟩), (23, ⟨(.int .i64), x3⟩), (24, ⟨(.int .i64), x4⟩), (30, ⟨(.list (.int .i64)), x5⟩), (31, ⟨(.int .i64), x6⟩), (32, ⟨(.int .i64), x7⟩)], [⟨(.row 3 (.int .i64) false), x8⟩]⟩ (blockK 2 (seqK false [1, 1, 1, 0, 1, 0, 0, 1, 1, 0, 0, 1, 1] (BF 19 0 [1, 1, 1, 0, 1, 0, 0, 1, 1, 0, 0, 1, 1]) (blockK 1 (seqK false [1, 1, 1, 0, 1, 0, 0, 1, 1, 1] (BF 19 0 [1, 1, 1, 0, 1, 0, 0, 1, 1, 1]) (againK [1, 1, 1, 0, 1, 0, 0] (loopW [1, 1, 1, 0, 1, 0, 0] (BF 19 0 [1, 1, 1, 0, 1, 0, 0])) (blockK 0 (seqK false [1, 1, 1, 1] (BF 19 0 [1, 1, 1, 1]) (finF 19 (.tcons (.int .i64) (.tcons (.int .i64) .tnil)) [] 0))))))))
noncomputable def heap_Refs (a0 : den (.list tapiNode)) (a1 : den (.int .i64)) : Option (denR (.fn 49 (.tcons (.ptr 0 0) (.tcons (.ptr 1 0) .tnil))) [(.box (.list tapiNode)), (.box (.int .i64))]) := CF 20 [⟨(.list tapiNode), a0⟩, ⟨(.int .i64), a1⟩] [] (.fn 49 (.tcons (.ptr 0 0) (.tcons (.ptr 1 0) .tnil))) [(.box (.list tapiNode)), (.box (.int .i64))]
noncomputable def heap_Refs_1 (a0 : den (.eptr (.list tapiNode) 0)) (a1 : den (.eptr (.int .i64) 0)) : Option (den (.list (.tcons (.int .i64) .tnil))) := CF 49 [⟨(.own .dead 0), ()⟩, ⟨(.eptr (.list tapiNode) 0), a0⟩, ⟨(.eptr (.int .i64) 0), a1⟩] [⟨.held, ()⟩] (.list (.tcons (.int .i64) .tnil)) []
noncomputable def heap_Refs_1.l0 (x0 : den (.eptr (.list tapiNode) 0)) (x1 : den (.int .i64)) (x2 : denO (.row 4 .bool false)) : Option (den (.list (.tcons (.int .i64) .tnil))) := loopW [1, 1, 1, 1, 0, 0] (BF (R := List (den (.tcons (.int .i64) .tnil))) 49 1 [1, 1, 1, 1, 0, 0]) ⟨[(0, ⟨(.own .dead 0), ()⟩), (1, ⟨(.eptr (.list tapiNode) 0), x0⟩), (4, ⟨(.own .bool 1), ()⟩), (5, ⟨(.int .i64), x1⟩)], [⟨.held, ()⟩, ⟨(.row 4 .bool false), x2⟩]⟩ (blockK 0 (iterK (List (den (.tcons (.int .i64) .tnil))) []))
noncomputable def heap_Refs_1.j1 (x0 : den (.eptr (.list tapiNode) 0)) (x1 : den (.int .i64)) (x2 : den .bool) (x3 : denO (.row 4 .bool false)) : Option (den (.list (.tcons (.int .i64) .tnil))) := jnO [1, 1, 1, 1, 0, 0, 1, 0, 0, 1, 0, 1] (BF (R := List (den (.tcons (.int .i64) .tnil))) 49 1 [1, 1, 1, 1, 0, 0, 1, 0, 0, 1, 0, 1]) ⟨[(0, ⟨(.own .dead 0), ()⟩), (1, ⟨(.eptr (.list tapiNode) 0), x0⟩), (4, ⟨(.own .bool 1), ()⟩), (5, ⟨(.int .i64), x1⟩), (35, ⟨.bool, x2⟩)], [⟨.held, ()⟩, ⟨(.row 4 .bool false), x3⟩]⟩ (seqK false [1, 1, 1, 1, 0, 0, 1, 0, 0, 1, 1] (BF 49 1 [1, 1, 1, 1, 0, 0, 1, 0, 0, 1, 1]) (blockK 1 (seqK false [1, 1, 1, 1, 0, 0, 1, 1] (BF 49 1 [1, 1, 1, 1, 0, 0, 1, 1]) (againK [1, 1, 1, 1, 0, 0] (loopW [1, 1, 1, 1, 0, 0] (BF 49 1 [1, 1, 1, 1, 0, 0])) (blockK 0 (iterK (List (den (.tcons (.int .i64) .tnil))) []))))))
noncomputable def heap_Refs_1.l2 (x0 : den (.eptr (.list tapiNode) 0)) (x1 : den (.int .i64)) (x2 : den (.list (.int .i64))) (x3 : den (.int .i64)) (x4 : den (.int .i64)) (x5 : denO (.row 4 .bool false)) : Option (den (.list (.tcons (.int .i64) .tnil))) := loopW [1, 1, 1, 1, 0, 0, 1, 0, 0, 1, 1, 1, 0, 0] (BF (R := List (den (.tcons (.int .i64) .tnil))) 49 1 [1, 1, 1, 1, 0, 0, 1, 0, 0, 1, 1, 1, 0, 0]) ⟨[(0, ⟨(.own .dead 0), ()⟩), (1, ⟨(.eptr (.list tapiNode) 0), x0⟩), (4, ⟨(.own .bool 1), ()⟩), (5, ⟨(.int .i64), x1⟩), (41, ⟨(.list (.int .i64)), x2⟩), (42, ⟨(.int .i64), x3⟩), (43, ⟨(.int .i64), x4⟩)], [⟨.held, ()⟩, ⟨(.row 4 .bool false), x5⟩]⟩ (blockK 2 (blockK 1 (seqK false [1, 1, 1, 1, 0, 0, 1, 1] (BF 49 1 [1, 1, 1, 1, 0, 0, 1, 1]) (againK [1, 1, 1, 1, 0, 0] (loopW [1, 1, 1, 1, 0, 0] (BF 49 1 [1, 1, 1, 1, 0, 0])) (blockK 0 (iterK (List (den (.tcons (.int .i64) .tnil))) []))))))
noncomputable def ref17_Refs (a0 : den (.list tapiNode)) (a1 : den (.int .i64)) : Option (den (.list (.int .i64))) := CF 21 [⟨(.list tapiNode), a0⟩, ⟨(.int .i64), a1⟩] [] (.list (.int .i64)) []
noncomputable def ref17_Refs.l0 (x0 : den (.int .i64)) (x1 : denO (.row 4 .bool false)) (x2 : denO (.row 28 (.int .i64) false)) : Option (den (.list (.int .i64))) := loopW [1, 1, 1, 0, 1, 0, 0] (BF (R := den (.list (.int .i64))) 21 0 [1, 1, 1, 0, 1, 0, 0]) ⟨[(5, ⟨(.own .bool 0), ()⟩), (6, ⟨(.own (.int .i64) 1), ()⟩), (7, ⟨(.int .i64), x0⟩)], [⟨(.row 4 .bool false), x1⟩, ⟨(.row 28 (.int .i64) false), x2⟩]⟩ (blockK 0 (seqK false [1, 1, 1, 1] (BF 21 0 [1, 1, 1, 1]) (finF 21 (.list (.int .i64)) [] 0)))
noncomputable def ref17_Depth (a0 : den (.list tapiNode)) (a1 : den (.int .i64)) : Option (den (.int .i64)) := CF 22 [⟨(.list tapiNode), a0⟩, ⟨(.int .i64), a1⟩] [] (.int .i64) []
noncomputable def ref17_Depth.l0 (x0 : den (.list tapiNode)) (x1 : den (.int .i64)) (x2 : den (.list (.int .i64))) (x3 : den (.int .i64)) : Option (den (.int .i64)) := loopW [1, 1, 1, 0, 1, 0, 0] (BF (R := den (.int .i64)) 22 0 [1, 1, 1, 0, 1, 0, 0]) ⟨[(0, ⟨(.list tapiNode), x0⟩), (5, ⟨(.int .i64), x1⟩), (6, ⟨(.list (.int .i64)), x2⟩), (7, ⟨(.int .i64), x3⟩)], []⟩ (blockK 0 (seqK false [1, 1, 1, 1] (BF 22 0 [1, 1, 1, 1]) (finF 22 (.int .i64) [] 0)))
noncomputable def ref13_SameRefs (a0 : den (.list (.int .i64))) (a1 : den (.list (.int .i64))) : Option (den .bool) := CF 23 [⟨(.list (.int .i64)), a0⟩, ⟨(.list (.int .i64)), a1⟩] [] .bool []
noncomputable def ref13_SameRefs.l0 (x0 : den (.list (.int .i64))) (x1 : den (.list (.int .i64))) (x2 : den (.int .i64)) : Option (den .bool) := loopW [1, 1, 0, 1, 0, 0] (BF (R := den .bool) 23 0 [1, 1, 0, 1, 0, 0]) ⟨[(0, ⟨(.list (.int .i64)), x0⟩), (1, ⟨(.list (.int .i64)), x1⟩), (5, ⟨(.int .i64), x2⟩)], []⟩ (blockK 0 (seqK false [1, 1, 1] (BF 23 0 [1, 1, 1]) (finF 23 .bool [] 0)))
noncomputable def heap_Same (a0 : den (.list tapiNode)) (a1 : den (.int .i64)) (a2 : den (.list tapiNode)) (a3 : den (.int .i64)) : Option (den .bool) := CF 24 [⟨(.list tapiNode), a0⟩, ⟨(.int .i64), a1⟩, ⟨(.list tapiNode), a2⟩, ⟨(.int .i64), a3⟩] [] .bool []
noncomputable def ref17_Same (a0 : den (.list tapiNode)) (a1 : den (.int .i64)) (a2 : den (.list tapiNode)) (a3 : den (.int .i64)) : Option (den .bool) := CF 25 [⟨(.list tapiNode), a0⟩, ⟨(.int .i64), a1⟩, ⟨(.list tapiNode), a2⟩, ⟨(.int .i64), a3⟩] [] .bool []
noncomputable def base_Cut (a0 : den .str) (a1 : den (.int .i64)) : Option (den .str) := CF 26 [⟨.str, a0⟩, ⟨(.int .i64), a1⟩] [] .str []
noncomputable def find_Run (a0 : den (.list tapiNode)) (a1 : den (.int .i64)) (a2 : den .str) (a3 : den (.int .i64)) : Option (den (.tcons .str (.tcons .bool (.tcons (.int .i64) .tnil)))) := CF 27 [⟨(.list tapiNode), a0⟩, ⟨(.int .i64), a1⟩, ⟨.str, a2⟩, ⟨(.int .i64), a3⟩] [] (.tcons .str (.tcons .bool (.tcons (.int .i64) .tnil))) []
noncomputable def find_Run.l0 (x0 : den (.list tapiNode)) (x1 : den (.int .i64)) (x2 : denO (.box tfindFind)) : Option (den (.tcons .str (.tcons .bool (.tcons (.int .i64) .tnil)))) := loopW [1, 1, 1, 1, 0, 0, 0] (BF (R := den (.tcons .str (.tcons .bool (.tcons (.int .i64) .tnil)))) 27 0 [1, 1, 1, 1, 0, 0, 0]) ⟨[(0, ⟨(.list tapiNode), x0⟩), (13, ⟨(.ptr 0 0), ()⟩), (14, ⟨(.int .i64), x1⟩)], [⟨(.box tfindFind), x2⟩]⟩ (blockK 0 (seqK false [1, 1, 1, 1, 1] (BF 27 0 [1, 1, 1, 1, 1]) (finF 27 (.tcons .str (.tcons .bool (.tcons (.int .i64) .tnil))) [] 0)))
noncomputable def ref21_Run (a0 : den (.list tapiNode)) (a1 : den (.int .i64)) (a2 : den .str) (a3 : den (.int .i64)) : Option (den (.tcons .str (.tcons .bool (.tcons (.int .i64) .tnil)))) := CF 28 [⟨(.list tapiNode), a0⟩, ⟨(.int .i64), a1⟩, ⟨.str, a2⟩, ⟨(.int .i64), a3⟩] [] (.tcons .str (.tcons .bool (.tcons (.int .i64) .tnil))) []
noncomputable def ref21_Run.l0 (x0 : den (.list tapiNode)) (x1 : den .str) (x2 : den (.int .i64)) (x3 : den (.int .i64)) (x4 : den (.int .i64)) (x5 : den (.int .i64)) (x6 : den .str) (x7 : den .bool) : Option (den (.tcons .str (.tcons .bool (.tcons (.int .i64) .tnil)))) := loopW [1, 1, 1, 1, 0, 0, 0] (BF (R := den (.tcons .str (.tcons .bool (.tcons (.int .i64) .tnil)))) 28 0 [1, 1, 1, 1, 0, 0, 0]) ⟨[(0, ⟨(.list tapiNode), x0⟩), (2, ⟨.str, x1⟩), (3, ⟨(.int .i64), x2⟩), (11, ⟨(.int .i64), x3⟩), (12, ⟨(.int .i64), x4⟩), (13, ⟨(.int .i64), x5⟩), (14, ⟨.str, x6⟩), (15, ⟨.bool, x7⟩)], []⟩ (blockK 0 (seqK false [1, 1, 1, 1, 1] (BF 28 0 [1, 1, 1, 1, 1]) (finF 28 (.tcons .str (.tcons .bool (.tcons (.int .i64) .tnil))) [] 0)))
noncomputable def law21_works  : Option (den .bool) := CF 29 [] [] .bool []
noncomputable def find_New (a0 : den (.int .i64)) (a1 : den .str) (a2 : den (.int .i64)) : Option (denR (.ptr 0 0) [(.box tfindFind)]) := CF 30 [⟨(.int .i64), a0⟩, ⟨.str, a1⟩, ⟨(.int .i64), a2⟩] [] (.ptr 0 0) [(.box tfindFind)]
noncomputable def find_Find_Want (a0 : denO (.box tfindFind)) : Option (denR (.int .i64) [(.box tfindFind)]) := CF 31 [⟨(.ptr 0 0), ()⟩] [⟨(.box tfindFind), a0⟩] (.int .i64) [(.box tfindFind)]
noncomputable def node_Leaf (a0 : den .str) (a1 : den .str) : Option (den tapiNode) := CF 34 [⟨.str, a0⟩, ⟨.str, a1⟩] [] tapiNode []
noncomputable def find_Find_Feed (a0 : den tapiNode) (a1 : denO (.box tfindFind)) : Option (denR .tnil [(.box tfindFind)]) := CF 33 [⟨(.ptr 0 0), ()⟩, ⟨tapiNode, a0⟩] [⟨(.box tfindFind), a1⟩] .tnil [(.box tfindFind)]
noncomputable def find_Find_Answer (a0 : denO (.box tfindFind)) : Option (denR (.tcons .str (.tcons .bool .tnil)) [(.box tfindFind)]) := CF 32 [⟨(.ptr 0 0), ()⟩] [⟨(.box tfindFind), a0⟩] (.tcons .str (.tcons .bool .tnil)) [(.box tfindFind)]
noncomputable def find_Find_Feed_o (a0 : den tapiNode) : Option (den .tnil) := CF 33 [⟨.nilptr, ()⟩, ⟨tapiNode, a0⟩] [] .tnil []
noncomputable def find_Find_Answer_o  : Option (den (.tcons .str (.tcons .bool .tnil))) := CF 32 [⟨.nilptr, ()⟩] [] (.tcons .str (.tcons .bool .tnil)) []
noncomputable def find_Find_Want_o  : Option (den (.int .i64)) := CF 31 [⟨.nilptr, ()⟩] [] (.int .i64) []
noncomputable def law07_Few (a0 : den (.list tapiPair)) : Option (den (.list tapiPair)) := CF 35 [⟨(.list tapiPair), a0⟩] [] (.list tapiPair) []
noncomputable def law07_Few.l0 (x0 : den (.list tapiPair)) (x1 : den (.int .i64)) (x2 : denO (.row 75 tapiPair false)) : Option (den (.list tapiPair)) := loopW [1, 1, 0, 1, 0, 0] (BF (R := den (.list tapiPair)) 35 0 [1, 1, 0, 1, 0, 0]) ⟨[(0, ⟨(.list tapiPair), x0⟩), (3, ⟨(.own tapiPair 0), ()⟩), (4, ⟨(.int .i64), x1⟩)], [⟨(.row 75 tapiPair false), x2⟩]⟩ (blockK 0 (seqK false [1, 1, 1] (BF 35 0 [1, 1, 1]) (finF 35 (.list tapiPair) [] 0)))
noncomputable def law07_Few.j1 (x0 : den (.list tapiPair)) (x1 : den (.int .i64)) (x2 : den .bool) (x3 : denO (.row 75 tapiPair false)) : Option (den (.list tapiPair)) := jnO [1, 1, 0, 1, 0, 0, 0, 1] (BF (R := den (.list tapiPair)) 35 0 [1, 1, 0, 1, 0, 0, 0, 1]) ⟨[(0, ⟨(.list tapiPair), x0⟩), (3, ⟨(.own tapiPair 0), ()⟩), (4, ⟨(.int .i64), x1⟩), (13, ⟨.bool, x2⟩)], [⟨(.row 75 tapiPair false), x3⟩]⟩ (seqK false [1, 1, 0, 1, 0, 0, 1] (BF 35 0 [1, 1, 0, 1, 0, 0, 1]) (againK [1, 1, 0, 1, 0, 0] (loopW [1, 1, 0, 1, 0, 0] (BF 35 0 [1, 1, 0, 1, 0, 0])) (blockK 0 (seqK false [1, 1, 1] (BF 35 0 [1, 1, 1]) (finF 35 (.list tapiPair) [] 0)))))
noncomputable def ref20_Long (a0 : den (.list tapiPair)) : Option (den .bool) := CF 36 [⟨(.list tapiPair), a0⟩] [] .bool []
noncomputable def ref20_Long.l0 (x0 : den (.list tapiPair)) (x1 : den (.int .i64)) : Option (den .bool) := loopW [1, 1, 0, 1, 0, 0] (BF (R := den .bool) 36 0 [1, 1, 0, 1, 0, 0]) ⟨[(3, ⟨(.list tapiPair), x0⟩), (4, ⟨(.int .i64), x1⟩)], []⟩ (blockK 0 (seqK false [1, 1, 1] (BF 36 0 [1, 1, 1]) (finF 36 .bool [] 0)))
noncomputable def ref20_Make (a0 : den (.int .i64)) (a1 : den (.list tapiPair)) : Option (den (.tcons (.list tapiNode) (.tcons (.int .i64) .tnil))) := CF 37 [⟨(.int .i64), a0⟩, ⟨(.list tapiPair), a1⟩] [] (.tcons (.list tapiNode) (.tcons (.int .i64) .tnil)) []
noncomputable def ref07_Get (a0 : den (.list tapiPair)) (a1 : den .str) : Option (den (.tcons .str (.tcons .bool .tnil))) := CF 38 [⟨(.list tapiPair), a0⟩, ⟨.str, a1⟩] [] (.tcons .str (.tcons .bool .tnil)) []
noncomputable def ref07_Get.l0 (x0 : den (.list tapiPair)) (x1 : den .str) (x2 : den (.int .i64)) : Option (den (.tcons .str (.tcons .bool .tnil))) := loopW [1, 0, 1, 0, 0] (BF (R := den (.tcons .str (.tcons .bool .tnil))) 38 0 [1, 0, 1, 0, 0]) ⟨[(0, ⟨(.list tapiPair), x0⟩), (1, ⟨.str, x1⟩), (6, ⟨(.int .i64), x2⟩)], []⟩ (blockK 0 (seqK false [1, 1] (BF 38 0 [1, 1]) (finF 38 (.tcons .str (.tcons .bool .tnil)) [] 0)))
noncomputable def ref04_Levels (a0 : den (.int .i64)) : Option (den (.int .i64)) := CF 39 [⟨(.int .i64), a0⟩] [] (.int .i64) []
noncomputable def ref04_Levels.l0 (x0 : den (.int .i64)) (x1 : den (.int .i64)) : Option (den (.int .i64)) := loopW [1, 1, 0, 0, 0] (BF (R := den (.int .i64)) 39 0 [1, 1, 0, 0, 0]) ⟨[(0, ⟨(.int .i64), x0⟩), (3, ⟨(.int .i64), x1⟩)], []⟩ (blockK 0 (seqK false [1, 1, 1] (BF 39 0 [1, 1, 1]) (finF 39 (.int .i64) [] 0)))
noncomputable def law13_Few (a0 : den tapiNode) : Option (den tapiNode) := CF 40 [⟨tapiNode, a0⟩] [] tapiNode []
noncomputable def ref13_Refs (a0 : den tapiNode) : Option (den (.list (.int .i64))) := CF 41 [⟨tapiNode, a0⟩] [] (.list (.int .i64)) []
noncomputable def ref13_Refs.l0 (x0 : den (.int .i64)) (x1 : denO (.box tapiNode)) (x2 : denO (.row 28 (.int .i64) false)) : Option (den (.list (.int .i64))) := loopW [1, 1, 0, 1, 0, 0] (BF (R := den (.list (.int .i64))) 41 0 [1, 1, 0, 1, 0, 0]) ⟨[(1, ⟨(.ptr 0 0), ()⟩), (3, ⟨(.own (.int .i64) 1), ()⟩), (4, ⟨(.int .i64), x0⟩)], [⟨(.box tapiNode), x1⟩, ⟨(.row 28 (.int .i64) false), x2⟩]⟩ (blockK 0 (seqK false [1, 1, 1] (BF 41 0 [1, 1, 1]) (finF 41 (.list (.int .i64)) [] 0)))
noncomputable def heap_may (a0 : den (.list tapiNode)) (a1 : den (.int .i64)) : Option (den (.int .i64)) := CF 42 [⟨(.list tapiNode), a0⟩, ⟨(.int .i64), a1⟩] [] (.int .i64) []
noncomputable def heap_binds (a0 : den (.list tapiNode)) (a1 : den (.int .i64)) : Option (denR (.own tapiPair 0) [(.row 75 tapiPair false)]) := CF 43 [⟨(.list tapiNode), a0⟩, ⟨(.int .i64), a1⟩] [] (.own tapiPair 0) [(.row 75 tapiPair false)]
noncomputable def heap_binds.l0 (x0 : den (.list tapiNode)) (x1 : den (.list (.int .i64))) (x2 : den (.int .i64)) (x3 : den (.int .i64)) (x4 : denO (.row 75 tapiPair false)) : Option (denR (.own tapiPair 0) [(.row 75 tapiPair false)]) := loopW [1, 1, 1, 1, 1, 0, 1, 0, 0] (BF (R := denR (.own tapiPair 0) [(.row 75 tapiPair false)]) 43 0 [1, 1, 1, 1, 1, 0, 1, 0, 0]) ⟨[(0, ⟨(.list tapiNode), x0⟩), (6, ⟨(.own tapiPair 0), ()⟩), (38, ⟨(.list (.int .i64)), x1⟩), (39, ⟨(.int .i64), x2⟩), (40, ⟨(.int .i64), x3⟩)], [⟨(.row 75 tapiPair false), x4⟩]⟩ (blockK 0 (seqK false [1, 1, 1, 1, 1, 1] (BF 43 0 [1, 1, 1, 1, 1, 1]) (finF 43 (.own tapiPair 0) [(.row 75 tapiPair false)] 0)))
noncomputable def node_May (a0 : den tapiNode) : Option (den (.int .i64)) := CF 44 [⟨tapiNode, a0⟩] [] (.int .i64) []
noncomputable def node_Refs (a0 : den tapiNode) : Option (den (.list (.int .i64))) := CF 45 [⟨tapiNode, a0⟩] [] (.list (.int .i64)) []
noncomputable def node_Refs.l0 (x0 : den (.int .i64)) (x1 : den (.int .i64)) (x2 : denO (.row 28 (.int .i64) false)) (x3 : denO (.row 28 (.int .i64) false)) : Option (den (.list (.int .i64))) := loopW [1, 1, 0, 1, 0, 0] (BF (R := den (.list (.int .i64))) 45 0 [1, 1, 0, 1, 0, 0]) ⟨[(3, ⟨(.own (.int .i64) 0), ()⟩), (12, ⟨(.own (.int .i64) 1), ()⟩), (13, ⟨(.int .i64), x0⟩), (14, ⟨(.int .i64), x1⟩)], [⟨(.row 28 (.int .i64) false), x2⟩, ⟨(.row 28 (.int .i64) false), x3⟩]⟩ (blockK 0 (seqK false [1, 1, 1] (BF 45 0 [1, 1, 1]) (finF 45 (.list (.int .i64)) [] 0)))
noncomputable def ref13_May (a0 : den tapiNode) : Option (den (.int .i64)) := CF 46 [⟨tapiNode, a0⟩] [] (.int .i64) []
noncomputable def node_Inner (a0 : den (.int .i64)) : Option (den tapiNode) := CF 47 [⟨(.int .i64), a0⟩] [] tapiNode []
noncomputable def ref13_Binds (a0 : den tapiNode) : Option (den (.list tapiPair)) := CF 48 [⟨tapiNode, a0⟩] [] (.list tapiPair) []
noncomputable def ref17_mark_o (a0 : den (.list tapiNode)) (a1 : den (.int .i64)) (a2 : denO (.row 4 .bool true)) : Option (denR .tnil [(.row 4 .bool true)]) := CF 50 [⟨(.list tapiNode), a0⟩, ⟨(.int .i64), a1⟩, ⟨(.own .bool 0), ()⟩] [⟨(.row 4 .bool true), a2⟩] .tnil [(.row 4 .bool true)]
noncomputable def ref17_mark_o.j0 (x0 : den (.list tapiNode)) (x1 : den (.int .i64)) (x2 : den .bool) (x3 : denO (.row 4 .bool true)) : Option (denR .tnil [(.row 4 .bool true)]) := jnO [0, 1] (BF (R := denR .tnil [(.row 4 .bool true)]) 50 1 [0, 1]) ⟨[(0, ⟨(.list tapiNode), x0⟩), (1, ⟨(.int .i64), x1⟩), (2, ⟨(.own .bool 0), ()⟩), (16, ⟨.bool, x2⟩)], [⟨(.row 4 .bool true), x3⟩]⟩ (seqK false [1] (BF 50 1 [1]) (finF 50 .tnil [(.row 4 .bool true)] 1))
noncomputable def ref17_mark_o.l1 (x0 : den (.list tapiNode)) (x1 : den (.list (.int .i64))) (x2 : den (.int .i64)) (x3 : denO (.row 4 .bool true)) : Option (denR .tnil [(.row 4 .bool true)]) := loopW [1, 1, 1, 1, 0, 0] (BF (R := denR .tnil [(.row 4 .bool true)]) 50 1 [1, 1, 1, 1, 0, 0]) ⟨[(0, ⟨(.list tapiNode), x0⟩), (2, ⟨(.own .bool 0), ()⟩), (6, ⟨(.list (.int .i64)), x1⟩), (7, ⟨(.int .i64), x2⟩)], [⟨(.row 4 .bool true), x3⟩]⟩ (blockK 0 (finF 50 .tnil [(.row 4 .bool true)] 1))
noncomputable def heap_same (a0 : den (.list tapiNode)) (a1 : den (.int .i64)) (a2 : den (.list tapiNode)) (a3 : den (.int .i64)) : Option (den .bool) := CF 51 [⟨(.list tapiNode), a0⟩, ⟨(.int .i64), a1⟩, ⟨(.list tapiNode), a2⟩, ⟨(.int .i64), a3⟩] [] .bool []
noncomputable def heap_same.j0 (x0 : den (.list tapiNode)) (x1 : den (.int .i64)) (x2 : den (.list tapiNode)) (x3 : den (.int .i64)) (x4 : den .bool) : Option (den .bool) := jnO [1, 0, 1] (BF (R := den .bool) 51 0 [1, 0, 1]) ⟨[(0, ⟨(.list tapiNode), x0⟩), (1, ⟨(.int .i64), x1⟩), (2, ⟨(.list tapiNode), x2⟩), (3, ⟨(.int .i64), x3⟩), (19, ⟨.bool, x4⟩)], []⟩ (seqK false [1, 1] (BF 51 0 [1, 1]) (finF 51 .bool [] 0))
noncomputable def heap_same.l1 (x0 : den (.list tapiNode)) (x1 : den (.list tapiNode)) (x2 : den (.list (.int .i64))) (x3 : den (.list (.int .i64))) (x4 : den (.int .i64)) (x5 : den (.int .i64)) : Option (den .bool) := loopW [1, 1, 1, 1, 1, 0, 1, 0, 0] (BF (R := den .bool) 51 0 [1, 1, 1, 1, 1, 0, 1, 0, 0]) ⟨[(0, ⟨(.list tapiNode), x0⟩), (2, ⟨(.list tapiNode), x1⟩), (11, ⟨(.list (.int .i64)), x2⟩), (12, ⟨(.list (.int .i64)), x3⟩), (44, ⟨(.int .i64), x4⟩), (45, ⟨(.int .i64), x5⟩)], []⟩ (blockK 0 (seqK false [1, 1, 1, 1, 1, 1] (BF 51 0 [1, 1, 1, 1, 1, 1]) (finF 51 .bool [] 0)))
noncomputable def ref17_shape (a0 : den (.list tapiNode)) (a1 : den (.int .i64)) (a2 : den (.list tapiNode)) (a3 : den (.int .i64)) : Option (den .bool) := CF 52 [⟨(.list tapiNode), a0⟩, ⟨(.int .i64), a1⟩, ⟨(.list tapiNode), a2⟩, ⟨(.int .i64), a3⟩] [] .bool []
noncomputable def ref17_shape.j0 (x0 : den (.list tapiNode)) (x1 : den (.int .i64)) (x2 : den (.list tapiNode)) (x3 : den (.int .i64)) (x4 : den .bool) : Option (den .bool) := jnO [1, 0, 1] (BF (R := den .bool) 52 0 [1, 0, 1]) ⟨[(0, ⟨(.list tapiNode), x0⟩), (1, ⟨(.int .i64), x1⟩), (2, ⟨(.list tapiNode), x2⟩), (3, ⟨(.int .i64), x3⟩), (17, ⟨.bool, x4⟩)], []⟩ (seqK false [1, 1] (BF 52 0 [1, 1]) (finF 52 .bool [] 0))
noncomputable def ref17_shape.l1 (x0 : den (.list tapiNode)) (x1 : den (.list tapiNode)) (x2 : den (.int .i64)) (x3 : denO (.box tapiNode)) (x4 : denO (.box tapiNode)) : Option (den .bool) := loopW [1, 1, 1, 1, 0, 1, 0, 0] (BF (R := den .bool) 52 0 [1, 1, 1, 1, 0, 1, 0, 0]) ⟨[(0, ⟨(.list tapiNode), x0⟩), (2, ⟨(.list tapiNode), x1⟩), (9, ⟨(.ptr 0 0), ()⟩), (10, ⟨(.ptr 1 0), ()⟩), (11, ⟨(.int .i64), x2⟩)], [⟨(.box tapiNode), x3⟩, ⟨(.box tapiNode), x4⟩]⟩ (blockK 0 (seqK false [1, 1, 1, 1, 1] (BF 52 0 [1, 1, 1, 1, 1]) (finF 52 .bool [] 0)))
noncomputable def ref21_Bound (a0 : den tapiNode) (a1 : den .str) : Option (den (.tcons .str (.tcons .bool .tnil))) := CF 53 [⟨tapiNode, a0⟩, ⟨.str, a1⟩] [] (.tcons .str (.tcons .bool .tnil)) []
noncomputable def ref21_next (a0 : den tapiNode) (a1 : den .str) (a2 : den (.int .i64)) (a3 : den (.int .i64)) : Option (den (.tcons (.int .i64) (.tcons (.int .i64) .tnil))) := CF 54 [⟨tapiNode, a0⟩, ⟨.str, a1⟩, ⟨(.int .i64), a2⟩, ⟨(.int .i64), a3⟩] [] (.tcons (.int .i64) (.tcons (.int .i64) .tnil)) []
noncomputable def hash_Of (a0 : den .str) (a1 : den (.int .i64)) : Option (den (.int .u64)) := CF 55 [⟨.str, a0⟩, ⟨(.int .i64), a1⟩] [] (.int .u64) []
noncomputable def hash_Of.l0 (x0 : den .str) (x1 : den (.int .i64)) (x2 : den (.int .u64)) (x3 : den (.int .i64)) (x4 : den (.int .i64)) : Option (den (.int .u64)) := loopW [1, 1, 0, 1, 0, 0] (BF (R := den (.int .u64)) 55 0 [1, 1, 0, 1, 0, 0]) ⟨[(0, ⟨.str, x0⟩), (1, ⟨(.int .i64), x1⟩), (5, ⟨(.int .u64), x2⟩), (8, ⟨(.int .i64), x3⟩), (9, ⟨(.int .i64), x4⟩)], []⟩ (blockK 0 (seqK false [1, 1, 1] (BF 55 0 [1, 1, 1]) (finF 55 (.int .u64) [] 0)))
noncomputable def hash_Chunk (a0 : den (.int .u64)) (a1 : den (.int .i64)) (a2 : den (.int .i64)) : Option (den (.int .i64)) := CF 57 [⟨(.int .u64), a0⟩, ⟨(.int .i64), a1⟩, ⟨(.int .i64), a2⟩] [] (.int .i64) []
noncomputable def branch_Child (a0 : den tapiNode) (a1 : den (.int .i64)) : Option (den (.int .i64)) := CF 56 [⟨tapiNode, a0⟩, ⟨(.int .i64), a1⟩] [] (.int .i64) []
noncomputable def node_Binds (a0 : den tapiNode) : Option (denR (.own tapiPair 0) [(.row 75 tapiPair false)]) := CF 59 [⟨tapiNode, a0⟩] [] (.own tapiPair 0) [(.row 75 tapiPair false)]
noncomputable def pair_Get (a0 : den (.list tapiPair)) (a1 : den .str) : Option (den (.tcons .str (.tcons .bool .tnil))) := CF 58 [⟨(.list tapiPair), a0⟩, ⟨.str, a1⟩] [] (.tcons .str (.tcons .bool .tnil)) []
noncomputable def ref07_Make (a0 : den (.list tapiPair)) : Option (den (.list tapiPair)) := CF 60 [⟨(.list tapiPair), a0⟩] [] (.list tapiPair) []
noncomputable def ref07_Make.l0 (x0 : den (.list tapiPair)) (x1 : den (.int .i64)) (x2 : denO (.row 75 tapiPair false)) : Option (den (.list tapiPair)) := loopW [1, 1, 0, 1, 0, 0] (BF (R := den (.list tapiPair)) 60 0 [1, 1, 0, 1, 0, 0]) ⟨[(0, ⟨(.list tapiPair), x0⟩), (3, ⟨(.own tapiPair 0), ()⟩), (4, ⟨(.int .i64), x1⟩)], [⟨(.row 75 tapiPair false), x2⟩]⟩ (blockK 0 (seqK false [1, 1, 1] (BF 60 0 [1, 1, 1]) (finF 60 (.list tapiPair) [] 0)))
noncomputable def ref07_Make.l1 (x0 : den (.list tapiPair)) (x1 : den (.int .i64)) (x2 : den (.int .i64)) (x3 : denO (.row 75 tapiPair false)) : Option (den (.list tapiPair)) := loopW [1, 1, 0, 1, 0, 0, 1, 0, 0, 1, 1, 0, 0, 0] (BF (R := den (.list tapiPair)) 60 0 [1, 1, 0, 1, 0, 0, 1, 0, 0, 1, 1, 0, 0, 0]) ⟨[(0, ⟨(.list tapiPair), x0⟩), (3, ⟨(.own tapiPair 0), ()⟩), (4, ⟨(.int .i64), x1⟩), (5, ⟨(.int .i64), x2⟩)], [⟨(.row 75 tapiPair false), x3⟩]⟩ (blockK 2 (seqK false [1, 1, 0, 1, 0, 0, 1, 0, 0, 1, 1, 1] (BF 60 0 [1, 1, 0, 1, 0, 0, 1, 0, 0, 1, 1, 1]) (blockK 1 (seqK false [1, 1, 0, 1, 0, 0, 1, 1] (BF 60 0 [1, 1, 0, 1, 0, 0, 1, 1]) (againK [1, 1, 0, 1, 0, 0] (loopW [1, 1, 0, 1, 0, 0] (BF 60 0 [1, 1, 0, 1, 0, 0])) (blockK 0 (seqK false [1, 1, 1] (BF 60 0 [1, 1, 1]) (finF 60 (.list tapiPair) [] 0))))))))
noncomputable def ref07_Make.j2 (x0 : den (.list tapiPair)) (x1 : den (.int .i64)) (x2 : den (.int .i64)) (x3 : den .bool) (x4 : denO (.row 75 tapiPair false)) : Option (den (.list tapiPair)) := jnO [1, 1, 0, 1, 0, 0, 1, 0, 0, 1, 1, 0, 0, 0, 0, 1] (BF (R := den (.list tapiPair)) 60 0 [1, 1, 0, 1, 0, 0, 1, 0, 0, 1, 1, 0, 0, 0, 0, 1]) ⟨[(0, ⟨(.list tapiPair), x0⟩), (3, ⟨(.own tapiPair 0), ()⟩), (4, ⟨(.int .i64), x1⟩), (5, ⟨(.int .i64), x2⟩), (33, ⟨.bool, x3⟩)], [⟨(.row 75 tapiPair false), x4⟩]⟩ (seqK false [1, 1, 0, 1, 0, 0, 1, 0, 0, 1, 1, 0, 0, 0, 1] (BF 60 0 [1, 1, 0, 1, 0, 0, 1, 0, 0, 1, 1, 0, 0, 0, 1]) (againK [1, 1, 0, 1, 0, 0, 1, 0, 0, 1, 1, 0, 0, 0] (loopW [1, 1, 0, 1, 0, 0, 1, 0, 0, 1, 1, 0, 0, 0] (BF 60 0 [1, 1, 0, 1, 0, 0, 1, 0, 0, 1, 1, 0, 0, 0])) (blockK 2 (seqK false [1, 1, 0, 1, 0, 0, 1, 0, 0, 1, 1, 1] (BF 60 0 [1, 1, 0, 1, 0, 0, 1, 0, 0, 1, 1, 1]) (blockK 1 (seqK false [1, 1, 0, 1, 0, 0, 1, 1] (BF 60 0 [1, 1, 0, 1, 0, 0, 1, 1]) (againK [1, 1, 0, 1, 0, 0] (loopW [1, 1, 0, 1, 0, 0] (BF 60 0 [1, 1, 0, 1, 0, 0])) (blockK 0 (seqK false [1, 1, 1] (BF 60 0 [1, 1, 1]) (finF 60 (.list tapiPair) [] 0))))))))))
noncomputable def ref20_make1 (a0 : den (.int .i64)) (a1 : den (.list tapiPair)) (a2 : den (.int .i64)) (a3 : denO (.row 60 tapiNode true)) : Option (denR (.tcons (.own tapiNode 0) (.tcons (.int .i64) .tnil)) [(.row 60 tapiNode false)]) := CF 61 [⟨(.own tapiNode 0), ()⟩, ⟨(.int .i64), a0⟩, ⟨(.list tapiPair), a1⟩, ⟨(.int .i64), a2⟩] [⟨(.row 60 tapiNode true), a3⟩] (.tcons (.own tapiNode 0) (.tcons (.int .i64) .tnil)) [(.row 60 tapiNode false)]
noncomputable def ref20_make1.l0 (x0 : den (.int .i64)) (x1 : den (.list tapiPair)) (x2 : den (.int .i64)) (x3 : den (.int .u32)) (x4 : den (.int .i64)) (x5 : denO (.row 60 tapiNode true)) (x6 : denO (.box (.pair (.int .i64) (.pair .str (.pair .str (.pair (.int .u32) (.pair (.nil 28) (.pair (.int .i64) (.pair (.nil 75) (.pair (.int .i64) (.pair (.int .i64) .unit))))))))))) : Option (denR (.tcons (.own tapiNode 0) (.tcons (.int .i64) .tnil)) [(.row 60 tapiNode false)]) := loopW [1, 1, 1, 0, 1, 1, 1, 1, 1, 1, 1, 0, 0] (BF (R := denR (.tcons (.own tapiNode 0) (.tcons (.int .i64) .tnil)) [(.row 60 tapiNode false)]) 61 1 [1, 1, 1, 0, 1, 1, 1, 1, 1, 1, 1, 0, 0]) ⟨[(0, ⟨(.own tapiNode 0), ()⟩), (1, ⟨(.int .i64), x0⟩), (2, ⟨(.list tapiPair), x1⟩), (3, ⟨(.int .i64), x2⟩), (10, ⟨(.ptr 1 0), ()⟩), (11, ⟨(.int .u32), x3⟩), (12, ⟨(.int .i64), x4⟩)], [⟨(.row 60 tapiNode true), x5⟩, ⟨(.box (.pair (.int .i64) (.pair .str (.pair .str (.pair (.int .u32) (.pair (.nil 28) (.pair (.int .i64) (.pair (.nil 75) (.pair (.int .i64) (.pair (.int .i64) .unit)))))))))), x6⟩]⟩ (blockK 0 (seqK false [1, 1, 1, 1] (BF 61 1 [1, 1, 1, 1]) (finF 61 (.tcons (.own tapiNode 0) (.tcons (.int .i64) .tnil)) [(.row 60 tapiNode false)] 1)))
noncomputable def ref20_make1.l1 (x0 : den (.int .i64)) (x1 : den (.list tapiPair)) (x2 : den (.int .i64)) (x3 : den (.int .u32)) (x4 : den (.int .i64)) (x5 : den (.int .i64)) (x6 : denO (.row 60 tapiNode true)) (x7 : denO (.box (.pair (.int .i64) (.pair .str (.pair .str (.pair (.int .u32) (.pair (.nil 28) (.pair (.int .i64) (.pair (.nil 75) (.pair (.int .i64) (.pair (.int .i64) .unit))))))))))) (x8 : denO (.row 75 tapiPair false)) : Option (denR (.tcons (.own tapiNode 0) (.tcons (.int .i64) .tnil)) [(.row 60 tapiNode false)]) := loopW [1, 1, 1, 0, 1, 1, 1, 1, 1, 1, 1, 0, 0, 1, 0, 0, 1, 0, 1, 0, 0] (BF (R := denR (.tcons (.own tapiNode 0) (.tcons (.int .i64) .tnil)) [(.row 60 tapiNode false)]) 61 1 [1, 1, 1, 0, 1, 1, 1, 1, 1, 1, 1, 0, 0, 1, 0, 0, 1, 0, 1, 0, 0]) ⟨[(0, ⟨(.own tapiNode 0), ()⟩), (1, ⟨(.int .i64), x0⟩), (2, ⟨(.list tapiPair), x1⟩), (3, ⟨(.int .i64), x2⟩), (10, ⟨(.ptr 1 0), ()⟩), (11, ⟨(.int .u32), x3⟩), (12, ⟨(.int .i64), x4⟩), (13, ⟨(.own tapiPair 2), ()⟩), (14, ⟨(.int .i64), x5⟩)], [⟨(.row 60 tapiNode true), x6⟩, ⟨(.box (.pair (.int .i64) (.pair .str (.pair .str (.pair (.int .u32) (.pair (.nil 28) (.pair (.int .i64) (.pair (.nil 75) (.pair (.int .i64) (.pair (.int .i64) .unit)))))))))), x7⟩, ⟨(.row 75 tapiPair false), x8⟩]⟩ (blockK 2 (seqK false [1, 1, 1, 0, 1, 1, 1, 1, 1, 1, 1, 0, 0, 1, 0, 0, 1, 1] (BF 61 1 [1, 1, 1, 0, 1, 1, 1, 1, 1, 1, 1, 0, 0, 1, 0, 0, 1, 1]) (blockK 1 (seqK false [1, 1, 1, 0, 1, 1, 1, 1, 1, 1, 1, 0, 0, 1, 1] (BF 61 1 [1, 1, 1, 0, 1, 1, 1, 1, 1, 1, 1, 0, 0, 1, 1]) (againK [1, 1, 1, 0, 1, 1, 1, 1, 1, 1, 1, 0, 0] (loopW [1, 1, 1, 0, 1, 1, 1, 1, 1, 1, 1, 0, 0] (BF 61 1 [1, 1, 1, 0, 1, 1, 1, 1, 1, 1, 1, 0, 0])) (blockK 0 (seqK false [1, 1, 1, 1] (BF 61 1 [1, 1, 1, 1]) (finF 61 (.tcons (.own tapiNode 0) (.tcons (.int .i64) .tnil)) [(.row 60 tapiNode false)] 1))))))))
noncomputable def ref20_make1.l2 (x0 : den (.int .i64)) (x1 : den (.list tapiPair)) (x2 : den (.int .i64)) (x3 : den (.int .u32)) (x4 : den (.int .i64)) (x5 : denO (.row 60 tapiNode false)) (x6 : denO (.box (.pair (.int .i64) (.pair .str (.pair .str (.pair (.int .u32) (.pair (.own (.int .i64) 2) (.pair (.int .i64) (.pair (.nil 75) (.pair (.int .i64) (.pair (.int .i64) .unit))))))))))) (x7 : denO (.row 28 (.int .i64) false)) : Option (denR (.tcons (.own tapiNode 0) (.tcons (.int .i64) .tnil)) [(.row 60 tapiNode false)]) := loopW [1, 1, 1, 0, 1, 1, 1, 1, 1, 1, 1, 0, 0] (BF (R := denR (.tcons (.own tapiNode 0) (.tcons (.int .i64) .tnil)) [(.row 60 tapiNode false)]) 61 1 [1, 1, 1, 0, 1, 1, 1, 1, 1, 1, 1, 0, 0]) ⟨[(0, ⟨(.own tapiNode 0), ()⟩), (1, ⟨(.int .i64), x0⟩), (2, ⟨(.list tapiPair), x1⟩), (3, ⟨(.int .i64), x2⟩), (10, ⟨(.ptr 1 0), ()⟩), (11, ⟨(.int .u32), x3⟩), (12, ⟨(.int .i64), x4⟩)], [⟨(.row 60 tapiNode false), x5⟩, ⟨(.box (.pair (.int .i64) (.pair .str (.pair .str (.pair (.int .u32) (.pair (.own (.int .i64) 2) (.pair (.int .i64) (.pair (.nil 75) (.pair (.int .i64) (.pair (.int .i64) .unit)))))))))), x6⟩, ⟨(.row 28 (.int .i64) false), x7⟩]⟩ (blockK 0 (seqK false [1, 1, 1, 1] (BF 61 1 [1, 1, 1, 1]) (finF 61 (.tcons (.own tapiNode 0) (.tcons (.int .i64) .tnil)) [(.row 60 tapiNode false)] 1)))
noncomputable def ref20_make1.l3 (x0 : den (.int .i64)) (x1 : den (.list tapiPair)) (x2 : den (.int .i64)) (x3 : den (.int .u32)) (x4 : den (.int .i64)) (x5 : den (.int .i64)) (x6 : denO (.row 60 tapiNode false)) (x7 : denO (.box (.pair (.int .i64) (.pair .str (.pair .str (.pair (.int .u32) (.pair (.own (.int .i64) 3) (.pair (.int .i64) (.pair (.nil 75) (.pair (.int .i64) (.pair (.int .i64) .unit))))))))))) (x8 : denO (.row 75 tapiPair false)) (x9 : denO (.row 28 (.int .i64) false)) : Option (denR (.tcons (.own tapiNode 0) (.tcons (.int .i64) .tnil)) [(.row 60 tapiNode false)]) := loopW [1, 1, 1, 0, 1, 1, 1, 1, 1, 1, 1, 0, 0, 1, 0, 0, 1, 0, 1, 0, 0] (BF (R := denR (.tcons (.own tapiNode 0) (.tcons (.int .i64) .tnil)) [(.row 60 tapiNode false)]) 61 1 [1, 1, 1, 0, 1, 1, 1, 1, 1, 1, 1, 0, 0, 1, 0, 0, 1, 0, 1, 0, 0]) ⟨[(0, ⟨(.own tapiNode 0), ()⟩), (1, ⟨(.int .i64), x0⟩), (2, ⟨(.list tapiPair), x1⟩), (3, ⟨(.int .i64), x2⟩), (10, ⟨(.ptr 1 0), ()⟩), (11, ⟨(.int .u32), x3⟩), (12, ⟨(.int .i64), x4⟩), (13, ⟨(.own tapiPair 2), ()⟩), (14, ⟨(.int .i64), x5⟩)], [⟨(.row 60 tapiNode false), x6⟩, ⟨(.box (.pair (.int .i64) (.pair .str (.pair .str (.pair (.int .u32) (.pair (.own (.int .i64) 3) (.pair (.int .i64) (.pair (.nil 75) (.pair (.int .i64) (.pair (.int .i64) .unit)))))))))), x7⟩, ⟨(.row 75 tapiPair false), x8⟩, ⟨(.row 28 (.int .i64) false), x9⟩]⟩ (blockK 2 (seqK false [1, 1, 1, 0, 1, 1, 1, 1, 1, 1, 1, 0, 0, 1, 0, 0, 1, 1] (BF 61 1 [1, 1, 1, 0, 1, 1, 1, 1, 1, 1, 1, 0, 0, 1, 0, 0, 1, 1]) (blockK 1 (seqK false [1, 1, 1, 0, 1, 1, 1, 1, 1, 1, 1, 0, 0, 1, 1] (BF 61 1 [1, 1, 1, 0, 1, 1, 1, 1, 1, 1, 1, 0, 0, 1, 1]) (againK [1, 1, 1, 0, 1, 1, 1, 1, 1, 1, 1, 0, 0] (loopW [1, 1, 1, 0, 1, 1, 1, 1, 1, 1, 1, 0, 0] (BF 61 1 [1, 1, 1, 0, 1, 1, 1, 1, 1, 1, 1, 0, 0])) (blockK 0 (seqK false [1, 1, 1, 1] (BF 61 1 [1, 1, 1, 1]) (finF 61 (.tcons (.own tapiNode 0) (.tcons (.int .i64) .tnil)) [(.row 60 tapiNode false)] 1))))))))
noncomputable def ref04_clamp (a0 : den (.int .i64)) : Option (den (.int .i64)) := CF 62 [⟨(.int .i64), a0⟩] [] (.int .i64) []
noncomputable def node_formed (a0 : den tapiNode) : Option (den tapiNode) := CF 63 [⟨tapiNode, a0⟩] [] tapiNode []
noncomputable def node_long (a0 : den tapiNode) : Option (den .bool) := CF 64 [⟨tapiNode, a0⟩] [] .bool []
noncomputable def node_Same (a0 : den tapiNode) (a1 : den tapiNode) : Option (den .bool) := CF 65 [⟨tapiNode, a0⟩, ⟨tapiNode, a1⟩] [] .bool []
noncomputable def node_Same.j0 (x0 : den .bool) (x1 : denO (.box tapiNode)) (x2 : denO (.box tapiNode)) : Option (den .bool) := jnO [1, 1] (BF (R := den .bool) 65 0 [1, 1]) ⟨[(2, ⟨(.ptr 0 0), ()⟩), (3, ⟨(.ptr 1 0), ()⟩), (5, ⟨.bool, x0⟩)], [⟨(.box tapiNode), x1⟩, ⟨(.box tapiNode), x2⟩]⟩ (finF 65 .bool [] 0)
noncomputable def node_whole (a0 : den tapiNode) : Option (den .bool) := CF 66 [⟨tapiNode, a0⟩] [] .bool []
noncomputable def slices_Cloneapi_Ref_api_Ref (a0 : den (.list (.int .i64))) : Option (denR (.own (.int .i64) 0) [(.row 28 (.int .i64) false)]) := CF 67 [⟨(.list (.int .i64)), a0⟩] [] (.own (.int .i64) 0) [(.row 28 (.int .i64) false)]
noncomputable def ref13_long (a0 : den tapiNode) : Option (den .bool) := CF 68 [⟨tapiNode, a0⟩] [] .bool []
noncomputable def ref13_long.l0 (x0 : den .bool) (x1 : den (.int .i64)) (x2 : denO (.box tapiNode)) : Option (den .bool) := loopW [1, 1, 0, 1, 0, 0] (BF (R := den .bool) 68 0 [1, 1, 0, 1, 0, 0]) ⟨[(1, ⟨(.ptr 0 0), ()⟩), (3, ⟨.bool, x0⟩), (4, ⟨(.int .i64), x1⟩)], [⟨(.box tapiNode), x2⟩]⟩ (blockK 0 (seqK false [1, 1, 1] (BF 68 0 [1, 1, 1]) (finF 68 .bool [] 0)))
noncomputable def ref13_form (a0 : den tapiNode) : Option (den .bool) := CF 69 [⟨tapiNode, a0⟩] [] .bool []
noncomputable def ref13_form.j0 (x0 : den (.int .i64)) (x1 : den .bool) (x2 : denO (.box tapiNode)) : Option (den .bool) := jnO [1, 1, 0, 1, 0, 1] (BF (R := den .bool) 69 0 [1, 1, 0, 1, 0, 1]) ⟨[(1, ⟨(.ptr 0 0), ()⟩), (8, ⟨(.int .i64), x0⟩), (9, ⟨.bool, x1⟩)], [⟨(.box tapiNode), x2⟩]⟩ (blockK 0 (seqK false [1, 1, 1] (BF 69 0 [1, 1, 1]) (finF 69 .bool [] 0)))
noncomputable def ref13_form.l1 (x0 : den (.int .i64)) (x1 : denO (.box tapiNode)) : Option (den .bool) := loopW [1, 1, 0, 1, 0, 1, 1, 1, 0, 0, 1, 0, 0] (BF (R := den .bool) 69 0 [1, 1, 0, 1, 0, 1, 1, 1, 0, 0, 1, 0, 0]) ⟨[(1, ⟨(.ptr 0 0), ()⟩), (3, ⟨(.int .i64), x0⟩)], [⟨(.box tapiNode), x1⟩]⟩ (blockK 1 (seqK false [1, 1, 0, 1, 0, 1, 1, 1, 0, 1] (BF 69 0 [1, 1, 0, 1, 0, 1, 1, 1, 0, 1]) (blockK 0 (seqK false [1, 1, 1] (BF 69 0 [1, 1, 1]) (finF 69 .bool [] 0)))))
noncomputable def heap_bare (a0 : den tapiNode) : Option (den tapiNode) := CF 70 [⟨tapiNode, a0⟩] [] tapiNode []
noncomputable def heap_bare.l0 (x0 : den (.int .i64)) (x1 : den (.int .i64)) (x2 : denO (.box (.pair (.int .i64) (.pair .str (.pair .str (.pair (.int .u32) (.pair (.own (.int .i64) 2) (.pair (.int .i64) (.pair (.own tapiPair 3) (.pair (.int .i64) (.pair (.int .i64) .unit))))))))))) (x3 : denO (.box (.pair (.int .i64) (.pair .str (.pair .str (.pair (.int .u32) (.pair (.own (.int .i64) 4) (.pair (.int .i64) (.pair (.own tapiPair 5) (.pair (.int .i64) (.pair (.int .i64) .unit))))))))))) (x4 : denO (.row 28 (.int .i64) false)) (x5 : denO (.row 75 tapiPair false)) (x6 : denO (.row 28 (.int .i64) false)) (x7 : denO (.row 75 tapiPair false)) : Option (den tapiNode) := loopW [1, 1, 0, 1, 0, 0] (BF (R := den tapiNode) 70 0 [1, 1, 0, 1, 0, 0]) ⟨[(1, ⟨(.ptr 0 0), ()⟩), (2, ⟨(.ptr 1 0), ()⟩), (8, ⟨(.int .i64), x0⟩), (9, ⟨(.int .i64), x1⟩)], [⟨(.box (.pair (.int .i64) (.pair .str (.pair .str (.pair (.int .u32) (.pair (.own (.int .i64) 2) (.pair (.int .i64) (.pair (.own tapiPair 3) (.pair (.int .i64) (.pair (.int .i64) .unit)))))))))), x2⟩, ⟨(.box (.pair (.int .i64) (.pair .str (.pair .str (.pair (.int .u32) (.pair (.own (.int .i64) 4) (.pair (.int .i64) (.pair (.own tapiPair 5) (.pair (.int .i64) (.pair (.int .i64) .unit)))))))))), x3⟩, ⟨(.row 28 (.int .i64) false), x4⟩, ⟨(.row 75 tapiPair false), x5⟩, ⟨(.row 28 (.int .i64) false), x6⟩, ⟨(.row 75 tapiPair false), x7⟩]⟩ (blockK 0 (seqK false [1, 1, 1] (BF 70 0 [1, 1, 1]) (finF 70 tapiNode [] 0)))
noncomputable def ref13_Same (a0 : den tapiNode) (a1 : den tapiNode) : Option (den .bool) := CF 71 [⟨tapiNode, a0⟩, ⟨tapiNode, a1⟩] [] .bool []
noncomputable def ref19_Of (a0 : den tapiNode) : Option (den tboscageref19Branch) := CF 72 [⟨tapiNode, a0⟩] [] tboscageref19Branch []
noncomputable def ref19_Of.l0 (x0 : den (.list (.int .i64))) (x1 : den (.int .i64)) (x2 : denO (.box tapiNode)) (x3 : denO (.box tboscageref19Branch)) (x4 : denO (.box tboscageref19Branch)) : Option (den tboscageref19Branch) := loopW [1, 1, 1, 1, 0, 1, 0, 0] (BF (R := den tboscageref19Branch) 72 0 [1, 1, 1, 1, 0, 1, 0, 0]) ⟨[(1, ⟨(.ptr 0 0), ()⟩), (2, ⟨(.ptr 1 0), ()⟩), (3, ⟨(.ptr 2 0), ()⟩), (4, ⟨(.list (.int .i64)), x0⟩), (5, ⟨(.int .i64), x1⟩)], [⟨(.box tapiNode), x2⟩, ⟨(.box tboscageref19Branch), x3⟩, ⟨(.box tboscageref19Branch), x4⟩]⟩ (blockK 0 (seqK false [1, 1, 1, 1, 1] (BF 72 0 [1, 1, 1, 1, 1]) (finF 72 tboscageref19Branch [] 0)))
noncomputable def ref04_Of (a0 : den .str) (a1 : den (.int .i64)) : Option (den (.int .u64)) := CF 75 [⟨.str, a0⟩, ⟨(.int .i64), a1⟩] [] (.int .u64) []
noncomputable def ref04_Of.l0 (x0 : den .str) (x1 : den (.int .i64)) (x2 : den (.int .u64)) (x3 : den (.int .i64)) : Option (den (.int .u64)) := loopW [1, 1, 0, 1, 0, 0] (BF (R := den (.int .u64)) 75 0 [1, 1, 0, 1, 0, 0]) ⟨[(0, ⟨.str, x0⟩), (1, ⟨(.int .i64), x1⟩), (5, ⟨(.int .u64), x2⟩), (6, ⟨(.int .i64), x3⟩)], []⟩ (blockK 0 (seqK false [1, 1, 1] (BF 75 0 [1, 1, 1]) (finF 75 (.int .u64) [] 0)))
noncomputable def ref04_Of.l1 (x0 : den (.int .i64)) (x1 : den (.int .u64)) (x2 : den (.int .u64)) (x3 : den (.int .u64)) (x4 : den (.int .i64)) : Option (den (.int .u64)) := loopW [1, 1, 1, 1, 0, 1, 0, 0] (BF (R := den (.int .u64)) 75 0 [1, 1, 1, 1, 0, 1, 0, 0]) ⟨[(1, ⟨(.int .i64), x0⟩), (5, ⟨(.int .u64), x1⟩), (7, ⟨(.int .u64), x2⟩), (8, ⟨(.int .u64), x3⟩), (9, ⟨(.int .i64), x4⟩)], []⟩ (blockK 2 (seqK false [1, 1, 1, 1, 1] (BF 75 0 [1, 1, 1, 1, 1]) (finF 75 (.int .u64) [] 0)))
noncomputable def ref04_Chunk (a0 : den (.int .u64)) (a1 : den (.int .i64)) (a2 : den (.int .i64)) : Option (den (.int .i64)) := CF 74 [⟨(.int .u64), a0⟩, ⟨(.int .i64), a1⟩, ⟨(.int .i64), a2⟩] [] (.int .i64) []
noncomputable def ref04_Chunk.l0 (x0 : den (.int .u64)) (x1 : den (.int .i64)) (x2 : den (.int .i64)) (x3 : den (.int .i64)) (x4 : den (.int .i64)) (x5 : den (.int .i64)) : Option (den (.int .i64)) := loopW [1, 1, 1, 0, 1, 0, 0] (BF (R := den (.int .i64)) 74 0 [1, 1, 1, 0, 1, 0, 0]) ⟨[(0, ⟨(.int .u64), x0⟩), (1, ⟨(.int .i64), x1⟩), (2, ⟨(.int .i64), x2⟩), (7, ⟨(.int .i64), x3⟩), (8, ⟨(.int .i64), x4⟩), (9, ⟨(.int .i64), x5⟩)], []⟩ (blockK 0 (seqK false [1, 1, 1, 1] (BF 74 0 [1, 1, 1, 1]) (finF 74 (.int .i64) [] 0)))
noncomputable def ref19_Branch_Child (a0 : den tboscageref19Branch) (a1 : den (.int .i64)) : Option (den (.int .i64)) := CF 73 [⟨tboscageref19Branch, a0⟩, ⟨(.int .i64), a1⟩] [] (.int .i64) []
noncomputable def hash_cut (a0 : den (.int .u64)) (a1 : den (.int .i64)) : Option (den (.int .u64)) := CF 76 [⟨(.int .u64), a0⟩, ⟨(.int .i64), a1⟩] [] (.int .u64) []
noncomputable def hash_Levels (a0 : den (.int .i64)) : Option (den (.int .i64)) := CF 80 [⟨(.int .i64), a0⟩] [] (.int .i64) []
noncomputable def branch_branch (a0 : den tapiNode) : Option (denR (.pair (.int .i64) (.pair .str (.pair .str (.pair (.int .u32) (.pair (.own (.int .i64) 0) (.pair (.int .i64) (.pair (.own tapiPair 1) (.pair (.int .i64) (.pair (.int .i64) .unit))))))))) [(.row 28 (.int .i64) false), (.row 75 tapiPair false)]) := CF 77 [⟨tapiNode, a0⟩] [] (.pair (.int .i64) (.pair .str (.pair .str (.pair (.int .u32) (.pair (.own (.int .i64) 0) (.pair (.int .i64) (.pair (.own tapiPair 1) (.pair (.int .i64) (.pair (.int .i64) .unit))))))))) [(.row 28 (.int .i64) false), (.row 75 tapiPair false)]
noncomputable def mask_Has (a0 : den (.int .u32)) (a1 : den (.int .i64)) : Option (den .bool) := CF 78 [⟨(.int .u32), a0⟩, ⟨(.int .i64), a1⟩] [] .bool []
noncomputable def mask_Place (a0 : den (.int .u32)) (a1 : den (.int .i64)) : Option (den (.int .i64)) := CF 79 [⟨(.int .u32), a0⟩, ⟨(.int .i64), a1⟩] [] (.int .i64) []
noncomputable def slices_Cloneapi_Pair_api_Pair (a0 : den (.list tapiPair)) : Option (denR (.own tapiPair 0) [(.row 75 tapiPair false)]) := CF 83 [⟨(.list tapiPair), a0⟩] [] (.own tapiPair 0) [(.row 75 tapiPair false)]
noncomputable def pair_ordered (a0 : den (.list tapiPair)) : Option (den (.list tapiPair)) := CF 81 [⟨(.list tapiPair), a0⟩] [] (.list tapiPair) []
noncomputable def pair_place (a0 : den (.list tapiPair)) (a1 : den .str) : Option (den (.tcons (.int .i64) (.tcons .bool .tnil))) := CF 82 [⟨(.list tapiPair), a0⟩, ⟨.str, a1⟩] [] (.tcons (.int .i64) (.tcons .bool .tnil)) []
noncomputable def ref07_last (a0 : den (.list tapiPair)) (a1 : den (.int .i64)) : Option (den .bool) := CF 84 [⟨(.list tapiPair), a0⟩, ⟨(.int .i64), a1⟩] [] .bool []
noncomputable def ref07_last.l0 (x0 : den (.list tapiPair)) (x1 : den (.int .i64)) (x2 : den (.int .i64)) : Option (den .bool) := loopW [1, 0, 1, 0, 0] (BF (R := den .bool) 84 0 [1, 0, 1, 0, 0]) ⟨[(0, ⟨(.list tapiPair), x0⟩), (1, ⟨(.int .i64), x1⟩), (5, ⟨(.int .i64), x2⟩)], []⟩ (blockK 0 (seqK false [1, 1] (BF 84 0 [1, 1]) (finF 84 .bool [] 0)))
noncomputable def ref01_Less (a0 : den .str) (a1 : den .str) : Option (den .bool) := CF 85 [⟨.str, a0⟩, ⟨.str, a1⟩] [] .bool []
noncomputable def ref01_Less.l0 (x0 : den .str) (x1 : den .str) (x2 : den (.int .i64)) : Option (den .bool) := loopW [1, 0, 1, 0, 0] (BF (R := den .bool) 85 0 [1, 0, 1, 0, 0]) ⟨[(0, ⟨.str, x0⟩), (1, ⟨.str, x1⟩), (5, ⟨(.int .i64), x2⟩)], []⟩ (blockK 0 (seqK false [1, 1] (BF 85 0 [1, 1]) (finF 85 .bool [] 0)))
noncomputable def ref01_Less.j1 (x0 : den .str) (x1 : den .str) (x2 : den (.int .i64)) (x3 : den .bool) : Option (den .bool) := jnO [1, 0, 1, 0, 0, 0, 1] (BF (R := den .bool) 85 0 [1, 0, 1, 0, 0, 0, 1]) ⟨[(0, ⟨.str, x0⟩), (1, ⟨.str, x1⟩), (5, ⟨(.int .i64), x2⟩), (15, ⟨.bool, x3⟩)], []⟩ (seqK false [1, 0, 1, 0, 0, 1] (BF 85 0 [1, 0, 1, 0, 0, 1]) (againK [1, 0, 1, 0, 0] (loopW [1, 0, 1, 0, 0] (BF 85 0 [1, 0, 1, 0, 0])) (blockK 0 (seqK false [1, 1] (BF 85 0 [1, 1]) (finF 85 .bool [] 0)))))
noncomputable def ref20_chunk (a0 : den .str) (a1 : den (.int .i64)) (a2 : den (.int .i64)) : Option (den (.int .i64)) := CF 86 [⟨.str, a0⟩, ⟨(.int .i64), a1⟩, ⟨(.int .i64), a2⟩] [] (.int .i64) []
noncomputable def node_Tomb (a0 : den .str) (a1 : den .str) : Option (den tapiNode) := CF 87 [⟨.str, a0⟩, ⟨.str, a1⟩] [] tapiNode []
noncomputable def node_Branch (a0 : den (.int .u32)) (a1 : den (.list (.int .i64))) (a2 : den (.int .i64)) : Option (den tapiNode) := CF 88 [⟨(.int .u32), a0⟩, ⟨(.list (.int .i64)), a1⟩, ⟨(.int .i64), a2⟩] [] tapiNode []
noncomputable def node_Bucket (a0 : den (.list tapiPair)) : Option (den tapiNode) := CF 89 [⟨(.list tapiPair), a0⟩] [] tapiNode []
noncomputable def node_Tree (a0 : den .str) (a1 : den .str) (a2 : den (.int .i64)) (a3 : den (.int .i64)) (a4 : den (.int .i64)) : Option (den tapiNode) := CF 90 [⟨.str, a0⟩, ⟨.str, a1⟩, ⟨(.int .i64), a2⟩, ⟨(.int .i64), a3⟩, ⟨(.int .i64), a4⟩] [] tapiNode []
noncomputable def node_long_1 (a0 : den tapiPair) : Option (den .bool) := CF 91 [⟨tapiPair, a0⟩] [] .bool []
noncomputable def slices_ContainsFuncapi_Pair_api_Pair (a0 : den (.list tapiPair)) : Option (den .bool) := CF 92 [⟨(.list tapiPair), a0⟩, ⟨(.fn 91 .tnil), ()⟩] [] .bool []
noncomputable def slices_Equalapi_Ref_api_Ref (a0 : den (.list (.int .i64))) (a1 : den (.list (.int .i64))) : Option (den .bool) := CF 93 [⟨(.list (.int .i64)), a0⟩, ⟨(.list (.int .i64)), a1⟩] [] .bool []
noncomputable def slices_Equalapi_Ref_api_Ref.l0 (x0 : den (.list (.int .i64))) (x1 : den (.list (.int .i64))) (x2 : den (.int .i64)) (x3 : den (.int .i64)) : Option (den .bool) := loopW [1, 1, 0, 1, 0, 0] (BF (R := den .bool) 93 0 [1, 1, 0, 1, 0, 0]) ⟨[(0, ⟨(.list (.int .i64)), x0⟩), (1, ⟨(.list (.int .i64)), x1⟩), (12, ⟨(.int .i64), x2⟩), (13, ⟨(.int .i64), x3⟩)], []⟩ (blockK 0 (seqK false [1, 1, 1] (BF 93 0 [1, 1, 1]) (finF 93 .bool [] 0)))
noncomputable def slices_Equalapi_Pair_api_Pair (a0 : den (.list tapiPair)) (a1 : den (.list tapiPair)) : Option (den .bool) := CF 94 [⟨(.list tapiPair), a0⟩, ⟨(.list tapiPair), a1⟩] [] .bool []
noncomputable def slices_Equalapi_Pair_api_Pair.l0 (x0 : den (.list tapiPair)) (x1 : den (.list tapiPair)) (x2 : den (.int .i64)) (x3 : den (.int .i64)) : Option (den .bool) := loopW [1, 1, 0, 1, 0, 0] (BF (R := den .bool) 94 0 [1, 1, 0, 1, 0, 0]) ⟨[(0, ⟨(.list tapiPair), x0⟩), (1, ⟨(.list tapiPair), x1⟩), (12, ⟨(.int .i64), x2⟩), (13, ⟨(.int .i64), x3⟩)], []⟩ (blockK 0 (seqK false [1, 1, 1] (BF 94 0 [1, 1, 1]) (finF 94 .bool [] 0)))
noncomputable def mask_Count (a0 : den (.int .u32)) : Option (den (.int .i64)) := CF 95 [⟨(.int .u32), a0⟩] [] (.int .i64) []
noncomputable def slices_Containsapi_Ref_api_Ref (a0 : den (.list (.int .i64))) (a1 : den (.int .i64)) : Option (den .bool) := CF 96 [⟨(.list (.int .i64)), a0⟩, ⟨(.int .i64), a1⟩] [] .bool []
noncomputable def pair_Is (a0 : den (.list tapiPair)) : Option (den .bool) := CF 97 [⟨(.list tapiPair), a0⟩] [] .bool []
noncomputable def pair_Is.l0 (x0 : den (.list tapiPair)) (x1 : den (.int .i64)) (x2 : den (.int .i64)) : Option (den .bool) := loopW [1, 0, 1, 0, 0] (BF (R := den .bool) 97 0 [1, 0, 1, 0, 0]) ⟨[(0, ⟨(.list tapiPair), x0⟩), (5, ⟨(.int .i64), x1⟩), (6, ⟨(.int .i64), x2⟩)], []⟩ (blockK 0 (seqK false [1, 1] (BF 97 0 [1, 1]) (finF 97 .bool [] 0)))
noncomputable def ref13_bare (a0 : den tapiNode) (a1 : den .bool) (a2 : den .bool) (a3 : den .bool) (a4 : den .bool) : Option (den .bool) := CF 98 [⟨tapiNode, a0⟩, ⟨.bool, a1⟩, ⟨.bool, a2⟩, ⟨.bool, a3⟩, ⟨.bool, a4⟩] [] .bool []
noncomputable def ref07_Is (a0 : den (.list tapiPair)) : Option (den .bool) := CF 100 [⟨(.list tapiPair), a0⟩] [] .bool []
noncomputable def ref07_Is.l0 (x0 : den (.list tapiPair)) (x1 : den (.int .i64)) : Option (den .bool) := loopW [1, 0, 1, 0, 0] (BF (R := den .bool) 100 0 [1, 0, 1, 0, 0]) ⟨[(0, ⟨(.list tapiPair), x0⟩), (3, ⟨(.int .i64), x1⟩)], []⟩ (blockK 0 (seqK false [1, 1] (BF 100 0 [1, 1]) (finF 100 .bool [] 0)))
noncomputable def ref06_All (a0 : den (.int .u32)) : Option (den (.list (.int .i64))) := CF 99 [⟨(.int .u32), a0⟩] [] (.list (.int .i64)) []
noncomputable def ref06_All.l0 (x0 : den (.int .u32)) (x1 : den (.int .i64)) (x2 : denO (.row 3 (.int .i64) false)) : Option (den (.list (.int .i64))) := loopW [1, 1, 0, 1, 0, 0] (BF (R := den (.list (.int .i64))) 99 0 [1, 1, 0, 1, 0, 0]) ⟨[(0, ⟨(.int .u32), x0⟩), (3, ⟨(.own (.int .i64) 0), ()⟩), (4, ⟨(.int .i64), x1⟩)], [⟨(.row 3 (.int .i64) false), x2⟩]⟩ (blockK 0 (seqK false [1, 1, 1] (BF 99 0 [1, 1, 1]) (finF 99 (.list (.int .i64)) [] 0)))
noncomputable def node_Copy (a0 : den tapiNode) : Option (denR (.pair (.int .i64) (.pair .str (.pair .str (.pair (.int .u32) (.pair (.own (.int .i64) 0) (.pair (.int .i64) (.pair (.own tapiPair 1) (.pair (.int .i64) (.pair (.int .i64) .unit))))))))) [(.row 28 (.int .i64) false), (.row 75 tapiPair false)]) := CF 101 [⟨tapiNode, a0⟩] [] (.pair (.int .i64) (.pair .str (.pair .str (.pair (.int .u32) (.pair (.own (.int .i64) 0) (.pair (.int .i64) (.pair (.own tapiPair 1) (.pair (.int .i64) (.pair (.int .i64) .unit))))))))) [(.row 28 (.int .i64) false), (.row 75 tapiPair false)]
noncomputable def ref04_bit (a0 : den (.int .u64)) (a1 : den (.int .i64)) : Option (den (.int .i64)) := CF 102 [⟨(.int .u64), a0⟩, ⟨(.int .i64), a1⟩] [] (.int .i64) []
noncomputable def ref04_bit.l0 (x0 : den (.int .u64)) (x1 : den (.int .i64)) (x2 : den (.int .i64)) : Option (den (.int .i64)) := loopW [1, 0, 1, 0, 0] (BF (R := den (.int .i64)) 102 0 [1, 0, 1, 0, 0]) ⟨[(0, ⟨(.int .u64), x0⟩), (1, ⟨(.int .i64), x1⟩), (5, ⟨(.int .i64), x2⟩)], []⟩ (blockK 0 (seqK false [1, 1] (BF 102 0 [1, 1]) (finF 102 (.int .i64) [] 0)))
noncomputable def hash_within (a0 : den (.int .i64)) : Option (den (.int .i64)) := CF 103 [⟨(.int .i64), a0⟩] [] (.int .i64) []
noncomputable def node_Branch_o (a0 : den (.int .u32)) (a1 : den (.list (.int .i64))) (a2 : den (.int .i64)) : Option (denR (.pair (.int .i64) (.pair .str (.pair .str (.pair (.int .u32) (.pair (.own (.int .i64) 0) (.pair (.int .i64) (.pair (.own tapiPair 1) (.pair (.int .i64) (.pair (.int .i64) .unit))))))))) [(.row 28 (.int .i64) false), (.row 75 tapiPair false)]) := CF 88 [⟨(.int .u32), a0⟩, ⟨(.list (.int .i64)), a1⟩, ⟨(.int .i64), a2⟩] [] (.pair (.int .i64) (.pair .str (.pair .str (.pair (.int .u32) (.pair (.own (.int .i64) 0) (.pair (.int .i64) (.pair (.own tapiPair 1) (.pair (.int .i64) (.pair (.int .i64) .unit))))))))) [(.row 28 (.int .i64) false), (.row 75 tapiPair false)]
noncomputable def mask_in (a0 : den (.int .i64)) : Option (den .bool) := CF 104 [⟨(.int .i64), a0⟩] [] .bool []
noncomputable def mask_below (a0 : den (.int .i64)) : Option (den (.int .u32)) := CF 106 [⟨(.int .i64), a0⟩] [] (.int .u32) []
noncomputable def math_bits_OnesCount32 (a0 : den (.int .u32)) : Option (den (.int .i64)) := CF 105 [⟨(.int .u32), a0⟩] [] (.int .i64) []
noncomputable def pair_Make (a0 : den (.list tapiPair)) : Option (den (.list tapiPair)) := CF 107 [⟨(.list tapiPair), a0⟩] [] (.list tapiPair) []
noncomputable def pair_Make.l0 (x0 : den (.list tapiPair)) (x1 : den (.int .i64)) (x2 : den (.int .i64)) (x3 : denO (.row 75 tapiPair false)) : Option (den (.list tapiPair)) := loopW [1, 1, 0, 1, 0, 0] (BF (R := den (.list tapiPair)) 107 0 [1, 1, 0, 1, 0, 0]) ⟨[(3, ⟨(.own tapiPair 0), ()⟩), (6, ⟨(.list tapiPair), x0⟩), (7, ⟨(.int .i64), x1⟩), (8, ⟨(.int .i64), x2⟩)], [⟨(.row 75 tapiPair false), x3⟩]⟩ (blockK 0 (seqK false [1, 1, 1] (BF 107 0 [1, 1, 1]) (finF 107 (.list tapiPair) [] 0)))
noncomputable def slices_BinarySearchFuncapi_Pair_api_Pair_string (a0 : den (.list tapiPair)) (a1 : den .str) : Option (den (.tcons (.int .i64) (.tcons .bool .tnil))) := CF 108 [⟨(.list tapiPair), a0⟩, ⟨.str, a1⟩, ⟨(.fn 109 .tnil), ()⟩] [] (.tcons (.int .i64) (.tcons .bool .tnil)) []
noncomputable def slices_BinarySearchFuncapi_Pair_api_Pair_string.l0 (x0 : den (.list tapiPair)) (x1 : den .str) (x2 : den (.int .i64)) (x3 : den (.int .i64)) (x4 : den (.int .i64)) : Option (den (.tcons (.int .i64) (.tcons .bool .tnil))) := loopW [1, 1, 1, 0, 0, 0] (BF (R := den (.tcons (.int .i64) (.tcons .bool .tnil))) 108 0 [1, 1, 1, 0, 0, 0]) ⟨[(0, ⟨(.list tapiPair), x0⟩), (1, ⟨.str, x1⟩), (2, ⟨(.fn 109 .tnil), ()⟩), (8, ⟨(.int .i64), x2⟩), (9, ⟨(.int .i64), x3⟩), (10, ⟨(.int .i64), x4⟩)], []⟩ (blockK 0 (seqK false [1, 1, 1, 1] (BF 108 0 [1, 1, 1, 1]) (finF 108 (.tcons (.int .i64) (.tcons .bool .tnil)) [] 0)))
noncomputable def slices_IndexFuncapi_Pair_api_Pair (a0 : den (.list tapiPair)) : Option (den (.int .i64)) := CF 111 [⟨(.list tapiPair), a0⟩, ⟨(.fn 91 .tnil), ()⟩] [] (.int .i64) []
noncomputable def slices_IndexFuncapi_Pair_api_Pair.l0 (x0 : den (.list tapiPair)) (x1 : den (.int .i64)) (x2 : den (.int .i64)) : Option (den (.int .i64)) := loopW [1, 0, 1, 0, 0] (BF (R := den (.int .i64)) 111 0 [1, 0, 1, 0, 0]) ⟨[(0, ⟨(.list tapiPair), x0⟩), (1, ⟨(.fn 91 .tnil), ()⟩), (7, ⟨(.int .i64), x1⟩), (8, ⟨(.int .i64), x2⟩)], []⟩ (blockK 0 (seqK false [1, 1] (BF 111 0 [1, 1]) (finF 111 (.int .i64) [] 0)))
noncomputable def slices_Indexapi_Ref_api_Ref (a0 : den (.list (.int .i64))) (a1 : den (.int .i64)) : Option (den (.int .i64)) := CF 112 [⟨(.list (.int .i64)), a0⟩, ⟨(.int .i64), a1⟩] [] (.int .i64) []
noncomputable def slices_Indexapi_Ref_api_Ref.l0 (x0 : den (.list (.int .i64))) (x1 : den (.int .i64)) (x2 : den (.int .i64)) (x3 : den (.int .i64)) : Option (den (.int .i64)) := loopW [1, 0, 1, 0, 0] (BF (R := den (.int .i64)) 112 0 [1, 0, 1, 0, 0]) ⟨[(0, ⟨(.list (.int .i64)), x0⟩), (1, ⟨(.int .i64), x1⟩), (7, ⟨(.int .i64), x2⟩), (8, ⟨(.int .i64), x3⟩)], []⟩ (blockK 0 (seqK false [1, 1] (BF 112 0 [1, 1]) (finF 112 (.int .i64) [] 0)))
noncomputable def order_Compare (a0 : den .str) (a1 : den .str) : Option (den (.int .i64)) := CF 110 [⟨.str, a0⟩, ⟨.str, a1⟩] [] (.int .i64) []
noncomputable def order_Compare.j0 (x0 : den .str) (x1 : den .str) (x2 : den (.int .i64)) (x3 : den .bool) : Option (den (.int .i64)) := jnO [1, 1, 0, 0, 1] (BF (R := den (.int .i64)) 110 0 [1, 1, 0, 0, 1]) ⟨[(0, ⟨.str, x0⟩), (1, ⟨.str, x1⟩), (5, ⟨(.int .i64), x2⟩), (9, ⟨.bool, x3⟩)], []⟩ (blockK 0 (seqK false [1, 1, 1] (BF 110 0 [1, 1, 1]) (finF 110 (.int .i64) [] 0)))
noncomputable def ref06_Has (a0 : den (.int .u32)) (a1 : den (.int .i64)) : Option (den .bool) := CF 113 [⟨(.int .u32), a0⟩, ⟨(.int .i64), a1⟩] [] .bool []
noncomputable def ref06_Has.l0 (x0 : den (.int .u32)) (x1 : den (.int .i64)) (x2 : den (.int .i64)) : Option (den .bool) := loopW [1, 0, 1, 0, 0] (BF (R := den .bool) 113 0 [1, 0, 1, 0, 0]) ⟨[(0, ⟨(.int .u32), x0⟩), (1, ⟨(.int .i64), x1⟩), (5, ⟨(.int .i64), x2⟩)], []⟩ (blockK 0 (seqK false [1, 1] (BF 113 0 [1, 1]) (finF 113 .bool [] 0)))
noncomputable def pair_put (a0 : den (.list tapiPair)) (a1 : den tapiPair) : Option (denR (.own tapiPair 0) [(.row 75 tapiPair false)]) := CF 114 [⟨(.list tapiPair), a0⟩, ⟨tapiPair, a1⟩] [] (.own tapiPair 0) [(.row 75 tapiPair false)]
noncomputable def pair_place_1 (a0 : den tapiPair) (a1 : den .str) : Option (den (.int .i64)) := CF 109 [⟨tapiPair, a0⟩, ⟨.str, a1⟩] [] (.int .i64) []
noncomputable def order_Common (a0 : den .str) (a1 : den .str) : Option (den (.int .i64)) := CF 115 [⟨.str, a0⟩, ⟨.str, a1⟩] [] (.int .i64) []
noncomputable def order_Common.l0 (x0 : den .str) (x1 : den .str) (x2 : den (.int .i64)) (x3 : den (.int .i64)) (x4 : den (.int .i64)) : Option (den (.int .i64)) := loopW [1, 1, 0, 1, 0, 0] (BF (R := den (.int .i64)) 115 0 [1, 1, 0, 1, 0, 0]) ⟨[(0, ⟨.str, x0⟩), (1, ⟨.str, x1⟩), (5, ⟨(.int .i64), x2⟩), (12, ⟨(.int .i64), x3⟩), (13, ⟨(.int .i64), x4⟩)], []⟩ (blockK 0 (seqK false [1, 1, 1] (BF 115 0 [1, 1, 1]) (finF 115 (.int .i64) [] 0)))
noncomputable def slices_Insertapi_Pair_api_Pair (a0 : den (.int .i64)) (a1 : denO (.row 75 tapiPair true)) (a2 : denO (.row 75 tapiPair true)) : Option (denR (.own tapiPair 0) [(.row 75 tapiPair false), (.row 75 tapiPair true)]) := CF 116 [⟨(.own tapiPair 0), ()⟩, ⟨(.int .i64), a0⟩, ⟨(.own tapiPair 1), ()⟩] [⟨(.row 75 tapiPair true), a1⟩, ⟨(.row 75 tapiPair true), a2⟩] (.own tapiPair 0) [(.row 75 tapiPair false), (.row 75 tapiPair true)]
end Go.Proofs.Ytmopkbmcilolgaa.AC
set_option maxRecDepth 100000
set_option linter.unusedVariables false
namespace Go.Proofs.Ytmopkbmcilolgaa.AC
open Go.Abs
theorem law17_HeapBinds.eq (a0 : den (.list tapiNode)) (a1 : den (.int .i64)) : law17_HeapBinds a0 a1 =
  bnd (law17_Few a0) fun r0 =>
  bnd (law17_Few r0) fun r1 =>
  bnd (heap_Binds r1 a1) fun r2 =>
  bnd (law17_Few r0) fun r3 =>
  bnd (heap_May r3) fun r4 =>
  bnd (ref17_May r0) fun r5 =>
  br (notB (eqB (eqI r4 (0 : Int)) r5))
   (some false)
   (bnd (ref17_Fits r0 a1) fun r6 =>
   br (notB r6)
    (br (eqI r2.2.1 (4 : Int))
     (br (eqI (ofN (lenL tapiPair r2.1)) (0 : Int))
      (bnd (law17_works) fun r7 =>
      some r7)
      (some false))
     (some false))
    (br (eqI r2.2.1 (0 : Int))
     (bnd (ref17_Binds r0 a1) fun r8 =>
     bnd (ref07_Same r2.1 r8) fun r9 =>
     br r9
      (bnd (law17_works) fun r10 =>
      some r10)
      (some false))
     (some false))) :=
  (callW_eq (P := PP) (T := TT) (pr := RR) 3 [⟨(.list tapiNode), a0⟩, ⟨(.int .i64), a1⟩] [] .bool []).trans (by kernel_rfl)
theorem law17_HeapCounts.eq (a0 : den (.list tapiNode)) (a1 : den (.int .i64)) : law17_HeapCounts a0 a1 =
  bnd (law17_Few a0) fun r0 =>
  bnd (law17_Few r0) fun r1 =>
  bnd (heap_Count r1 a1) fun r2 =>
  bnd (law17_Few r0) fun r3 =>
  bnd (heap_Depth r3 a1) fun r4 =>
  bnd (law17_works) fun r5 =>
  br (notB r5)
   (some false)
   (bnd (law17_Few r0) fun r6 =>
   bnd (heap_Refs r6 a1) fun r7 =>
   bnd (heap_Refs_1 r7.2.1 r7.2.2.1) fun r8 =>
   law17_HeapCounts.e0 r8 r0 a1 r2.1 r2.2.1 r4.1 r4.2.1 []) :=
  (callW_eq (P := PP) (T := TT) (pr := RR) 4 [⟨(.list tapiNode), a0⟩, ⟨(.int .i64), a1⟩] [] .bool []).trans (by kernel_rfl)
theorem law17_HeapCounts.e0.nil (x0 : den (.list tapiNode)) (x1 : den (.int .i64)) (x2 : den (.int .i64)) (x3 : den (.int .i64)) (x4 : den (.int .i64)) (x5 : den (.int .i64)) (x6 : denO (.row 28 (.int .i64) false)) : law17_HeapCounts.e0 [] x0 x1 x2 x3 x4 x5 x6 =
  bnd (ref17_Fits x0 x1) fun r0 =>
  br (notB r0)
   (br (eqI x3 (4 : Int))
    (br (eqI x5 (4 : Int))
     (br (eqI x2 (0 : Int))
      (br (eqI x4 (0 : Int))
       (some (eqI (ofN (lenL (.int .i64) x6)) (0 : Int)))
       (some false))
      (some false))
     (some false))
    (some false))
   (br (eqI x3 (0 : Int))
    (br (eqI x5 (0 : Int))
     (bnd (ref17_Refs x0 x1) fun r1 =>
     br (eqI x2 (ofN (lenL (.int .i64) r1)))
      (bnd (ref17_Depth x0 x1) fun r2 =>
      br (eqI x4 r2)
       (bnd (ref17_Refs x0 x1) fun r3 =>
       bnd (ref13_SameRefs x6 r3) fun r4 =>
       some r4)
       (some false))
      (some false))
     (some false))
    (some false)) := by kernel_rfl
theorem law17_HeapCounts.e0.cons (y : den (.tcons (.int .i64) .tnil)) (ys : List (den (.tcons (.int .i64) .tnil))) (x0 : den (.list tapiNode)) (x1 : den (.int .i64)) (x2 : den (.int .i64)) (x3 : den (.int .i64)) (x4 : den (.int .i64)) (x5 : den (.int .i64)) (x6 : denO (.row 28 (.int .i64) false)) : law17_HeapCounts.e0 (y :: ys) x0 x1 x2 x3 x4 x5 x6 =
  br (fitL (.int .i64) (appL (.int .i64) x6 (y.1 :: []))) (law17_HeapCounts.e0 ys x0 x1 x2 x3 x4 x5 (appL (.int .i64) x6 (y.1 :: []))) none := by kernel_rfl
theorem law17_HeapSame.eq (a0 : den (.list tapiNode)) (a1 : den (.int .i64)) (a2 : den (.list tapiNode)) (a3 : den (.int .i64)) : law17_HeapSame a0 a1 a2 a3 =
  bnd (law17_Few a0) fun r0 =>
  bnd (law17_Few a2) fun r1 =>
  bnd (law17_Few r0) fun r2 =>
  bnd (law17_Few r1) fun r3 =>
  bnd (heap_Same r2 a1 r3 a3) fun r4 =>
  bnd (ref17_Same r0 a1 r1 a3) fun r5 =>
  br (eqB r4 r5)
   (bnd (law17_works) fun r6 =>
   some r6)
   (some false) :=
  (callW_eq (P := PP) (T := TT) (pr := RR) 5 [⟨(.list tapiNode), a0⟩, ⟨(.int .i64), a1⟩, ⟨(.list tapiNode), a2⟩, ⟨(.int .i64), a3⟩] [] .bool []).trans (by kernel_rfl)
theorem law21_FindRuns.eq (a0 : den (.list tapiNode)) (a1 : den (.int .i64)) (a2 : den .str) (a3 : den (.int .i64)) : law21_FindRuns a0 a1 a2 a3 =
  bnd (law17_Few a0) fun r0 =>
  bnd (base_Cut a2 (40 : Int)) fun r1 =>
  bnd (law17_Few r0) fun r2 =>
  bnd (find_Run r2 a1 r1 a3) fun r3 =>
  bnd (ref21_Run r0 a1 r1 a3) fun r4 =>
  br (eqS r3.1 r4.1)
   (br (eqB r3.2.1 r4.2.1)
    (br (eqI r3.2.2.1 r4.2.2.1)
     (bnd (law21_works) fun r5 =>
     some r5)
     (some false))
    (some false))
   (some false) :=
  (callW_eq (P := PP) (T := TT) (pr := RR) 7 [⟨(.list tapiNode), a0⟩, ⟨(.int .i64), a1⟩, ⟨.str, a2⟩, ⟨(.int .i64), a3⟩] [] .bool []).trans (by kernel_rfl)
theorem law21_FindFeeds.eq (a0 : den (.list tapiNode)) (a1 : den (.int .i64)) (a2 : den .str) (a3 : den (.int .i64)) : law21_FindFeeds a0 a1 a2 a3 =
  bnd (law21_works) fun r0 =>
  br (notB r0)
   (some false)
   (bnd (law17_Few a0) fun r1 =>
   bnd (base_Cut a2 (40 : Int)) fun r2 =>
   bnd (find_New a1 r2 a3) fun r3 =>
   bnd (find_Find_Want r3.2.1) fun r4 =>
   br (notB (eqI r4.1 a1))
    (some false)
    (bnd (ref17_Fits r1 a1) fun r5 =>
    br (notB r5)
     (some true)
     (bnd (ref21_Run r1 a1 r2 a3) fun r6 =>
     law21_FindFeeds.l0 r1 r2 r6.1 r6.2.1 r6.2.2.1 (0 : Int) r4.2.1))) :=
  (callW_eq (P := PP) (T := TT) (pr := RR) 8 [⟨(.list tapiNode), a0⟩, ⟨(.int .i64), a1⟩, ⟨.str, a2⟩, ⟨(.int .i64), a3⟩] [] .bool []).trans (by kernel_rfl)
theorem law21_FindFeeds.l0.eq (x0 : den (.list tapiNode)) (x1 : den .str) (x2 : den .str) (x3 : den .bool) (x4 : den (.int .i64)) (x5 : den (.int .i64)) (x6 : denO (.box tfindFind)) : law21_FindFeeds.l0 x0 x1 x2 x3 x4 x5 x6 =
  br (ltI x5 x4)
   (bnd (find_Find_Want x6) fun r0 =>
   br (ltI r0.1 (1 : Int))
    (law21_FindFeeds.j1 x0 x1 x2 x3 x4 x5 r0.1 true r0.2.1)
    (law21_FindFeeds.j1 x0 x1 x2 x3 x4 x5 r0.1 (ltI (ofN (lenL tapiNode x0)) r0.1) r0.2.1))
   (bnd (node_Leaf x1 (ByteArray.mk #[120])) fun r1 =>
   bnd (find_Find_Feed r1 x6) fun r2 =>
   bnd (find_Find_Answer r2.2.1) fun r3 =>
   bnd (node_Leaf x1 (ByteArray.mk #[120])) fun r4 =>
   bnd (find_Find_Feed_o r4) fun r5 =>
   bnd (find_Find_Answer_o) fun r6 =>
   bnd (find_Find_Want r3.2.1) fun r7 =>
   br (eqI r7.1 (0 : Int))
    (br (eqS r3.1.1 x2)
     (br (eqB r3.1.2.1 x3)
      (bnd (find_Find_Want_o) fun r8 =>
      br (eqI r8 (0 : Int))
       (some (notB r6.2.1))
       (some false))
      (some false))
     (some false))
    (some false)) :=
  (loopB_eq (P := PP) (T := TT) (C := CF) [1, 1, 1, 1, 1, 1, 1, 0, 1, 0, 0] [1, 1, 1, 1, 1, 1, 1, 0, 1, 0, 0] 8 0 ⟨[(0, ⟨(.list tapiNode), x0⟩), (2, ⟨.str, x1⟩), (9, ⟨(.ptr 0 0), ()⟩), (10, ⟨.str, x2⟩), (11, ⟨.bool, x3⟩), (12, ⟨(.int .i64), x4⟩), (13, ⟨(.int .i64), x5⟩)], [⟨(.box tfindFind), x6⟩]⟩ (blockK 0 (seqK false [1, 1, 1, 1, 1, 1, 1, 1] (BF 8 0 [1, 1, 1, 1, 1, 1, 1, 1]) (finF 8 .bool [] 0)))).trans (by kernel_rfl)
theorem law21_FindFeeds.j1.eq (x0 : den (.list tapiNode)) (x1 : den .str) (x2 : den .str) (x3 : den .bool) (x4 : den (.int .i64)) (x5 : den (.int .i64)) (x6 : den (.int .i64)) (x7 : den .bool) (x8 : denO (.box tfindFind)) : law21_FindFeeds.j1 x0 x1 x2 x3 x4 x5 x6 x7 x8 =
  br x7
   (some false)
   (bnd (find_Find_Answer x8) fun r0 =>
   br r0.1.2.1
    (some false)
    (br (andB (leI (0 : Int) (subI .i64 x6 (1 : Int))) (ltI (subI .i64 x6 (1 : Int)) (ofN (lenL tapiNode x0)))) (bnd (find_Find_Feed (ixL tapiNode x0 (subI .i64 x6 (1 : Int))) r0.2.1) fun r1 =>
    law21_FindFeeds.l0 x0 x1 x2 x3 x4 (addI .i64 x5 (1 : Int)) r1.2.1) none)) :=
  (congrFun (congrFun (jnO_eq [1, 1, 1, 1, 1, 1, 1, 0, 1, 0, 0, 1, 0, 0, 1, 0, 1] (BF (R := den .bool) 8 0 [1, 1, 1, 1, 1, 1, 1, 0, 1, 0, 0, 1, 0, 0, 1, 0, 1])) ⟨[(0, ⟨(.list tapiNode), x0⟩), (2, ⟨.str, x1⟩), (9, ⟨(.ptr 0 0), ()⟩), (10, ⟨.str, x2⟩), (11, ⟨.bool, x3⟩), (12, ⟨(.int .i64), x4⟩), (13, ⟨(.int .i64), x5⟩), (14, ⟨(.int .i64), x6⟩), (67, ⟨.bool, x7⟩)], [⟨(.box tfindFind), x8⟩]⟩) (seqK false [1, 1, 1, 1, 1, 1, 1, 0, 1, 0, 0, 1, 0, 0, 1, 1] (BF 8 0 [1, 1, 1, 1, 1, 1, 1, 0, 1, 0, 0, 1, 0, 0, 1, 1]) (blockK 1 (seqK false [1, 1, 1, 1, 1, 1, 1, 0, 1, 0, 0, 1, 1] (BF 8 0 [1, 1, 1, 1, 1, 1, 1, 0, 1, 0, 0, 1, 1]) (againK [1, 1, 1, 1, 1, 1, 1, 0, 1, 0, 0] (loopW [1, 1, 1, 1, 1, 1, 1, 0, 1, 0, 0] (BF 8 0 [1, 1, 1, 1, 1, 1, 1, 0, 1, 0, 0])) (blockK 0 (seqK false [1, 1, 1, 1, 1, 1, 1, 1] (BF 8 0 [1, 1, 1, 1, 1, 1, 1, 1]) (finF 8 .bool [] 0)))))))).trans (by kernel_rfl)
theorem law21_FindTries.eq (a0 : den (.int .i64)) (a1 : den (.list tapiPair)) (a2 : den .str) : law21_FindTries a0 a1 a2 =
  bnd (law21_works) fun r0 =>
  br (notB r0)
   (some false)
   (bnd (law07_Few a1) fun r1 =>
   bnd (base_Cut a2 (40 : Int)) fun r2 =>
   bnd (ref20_Long r1) fun r3 =>
   br r3
    (some true)
    (bnd (ref20_Make a0 r1) fun r4 =>
    bnd (find_Run r4.1 r4.2.1 r2 a0) fun r5 =>
    bnd (ref07_Get r1 r2) fun r6 =>
    br (eqS r5.1 r6.1)
     (br (eqB r5.2.1 r6.2.1)
      (bnd (ref04_Levels a0) fun r7 =>
      some (leI r5.2.2.1 (addI .i64 r7 (1 : Int))))
      (some false))
     (some false))) :=
  (callW_eq (P := PP) (T := TT) (pr := RR) 9 [⟨(.int .i64), a0⟩, ⟨(.list tapiPair), a1⟩, ⟨.str, a2⟩] [] .bool []).trans (by kernel_rfl)
theorem law17_Few.eq (a0 : den (.list tapiNode)) : law17_Few a0 =
  law17_Few.l0 a0 (1 : Int) (0 : Int) [] :=
  (callW_eq (P := PP) (T := TT) (pr := RR) 10 [⟨(.list tapiNode), a0⟩] [] (.list tapiNode) []).trans (by kernel_rfl)
theorem law17_Few.l0.eq (x0 : den (.list tapiNode)) (x1 : den (.int .i64)) (x2 : den (.int .i64)) (x3 : denO (.row 60 tapiNode false)) : law17_Few.l0 x0 x1 x2 x3 =
  br (ltI x2 (ofN (lenL tapiNode x0)))
   (law17_Few.j1 x0 x1 x2 (ltI x2 (12 : Int)) x3)
   (law17_Few.j1 x0 x1 x2 false x3) :=
  (loopB_eq (P := PP) (T := TT) (C := CF) [1, 1, 0, 1, 0, 0] [1, 1, 0, 1, 0, 0] 10 0 ⟨[(0, ⟨(.list tapiNode), x0⟩), (3, ⟨(.own tapiNode 0), ()⟩), (4, ⟨(.int .i64), x1⟩), (5, ⟨(.int .i64), x2⟩)], [⟨(.row 60 tapiNode false), x3⟩]⟩ (blockK 0 (seqK false [1, 1, 1] (BF 10 0 [1, 1, 1]) (finF 10 (.list tapiNode) [] 0)))).trans (by kernel_rfl)
theorem law17_Few.j1.eq (x0 : den (.list tapiNode)) (x1 : den (.int .i64)) (x2 : den (.int .i64)) (x3 : den .bool) (x4 : denO (.row 60 tapiNode false)) : law17_Few.j1 x0 x1 x2 x3 x4 =
  br x3
   (br (andB (leI (0 : Int) x2) (ltI x2 (ofN (lenL tapiNode x0)))) (bnd (law13_Few (ixL tapiNode x0 x2)) fun r0 =>
   bnd (ref13_Refs r0) fun r1 =>
   br (ltI (3000 : Int) (mulI .i64 x1 (maxI (ofN (lenL (.int .i64) r1)) (1 : Int))))
    (some x4)
    (br (fitL tapiNode (appL tapiNode x4 (r0 :: []))) (law17_Few.l0 x0 (mulI .i64 x1 (maxI (ofN (lenL (.int .i64) r1)) (1 : Int))) (addI .i64 x2 (1 : Int)) (appL tapiNode x4 (r0 :: []))) none)) none)
   (some x4) :=
  (congrFun (congrFun (jnO_eq [1, 1, 0, 1, 0, 0, 0, 1] (BF (R := den (.list tapiNode)) 10 0 [1, 1, 0, 1, 0, 0, 0, 1])) ⟨[(0, ⟨(.list tapiNode), x0⟩), (3, ⟨(.own tapiNode 0), ()⟩), (4, ⟨(.int .i64), x1⟩), (5, ⟨(.int .i64), x2⟩), (15, ⟨.bool, x3⟩)], [⟨(.row 60 tapiNode false), x4⟩]⟩) (seqK false [1, 1, 0, 1, 0, 0, 1] (BF 10 0 [1, 1, 0, 1, 0, 0, 1]) (againK [1, 1, 0, 1, 0, 0] (loopW [1, 1, 0, 1, 0, 0] (BF 10 0 [1, 1, 0, 1, 0, 0])) (blockK 0 (seqK false [1, 1, 1] (BF 10 0 [1, 1, 1]) (finF 10 (.list tapiNode) [] 0)))))).trans (by kernel_rfl)
theorem heap_Binds.eq (a0 : den (.list tapiNode)) (a1 : den (.int .i64)) : heap_Binds a0 a1 =
  bnd (heap_may a0 a1) fun r0 =>
  br (notB (eqI r0 (0 : Int)))
   (some ([], (r0, ())))
   (bnd (heap_binds a0 a1) fun r1 =>
   some (r1.2.1, ((0 : Int), ()))) :=
  (callW_eq (P := PP) (T := TT) (pr := RR) 11 [⟨(.list tapiNode), a0⟩, ⟨(.int .i64), a1⟩] [] (.tcons (.list tapiPair) (.tcons (.int .i64) .tnil)) []).trans (by kernel_rfl)
theorem heap_May.eq (a0 : den (.list tapiNode)) : heap_May a0 =
  heap_May.l0 a0 (ofN (lenL tapiNode a0)) (0 : Int) :=
  (callW_eq (P := PP) (T := TT) (pr := RR) 12 [⟨(.list tapiNode), a0⟩] [] (.int .i64) []).trans (by kernel_rfl)
theorem heap_May.l0.eq (x0 : den (.list tapiNode)) (x1 : den (.int .i64)) (x2 : den (.int .i64)) : heap_May.l0 x0 x1 x2 =
  br (ltI x2 x1)
   (br (andB (leI (0 : Int) x2) (ltI x2 (ofN (lenL tapiNode x0)))) (bnd (node_May (ixL tapiNode x0 x2)) fun r0 =>
   br (notB (eqI r0 (0 : Int)))
    (some (4 : Int))
    (bnd (node_Refs (ixL tapiNode x0 x2)) fun r1 =>
    heap_May.l1 x2 x0 x1 x2 r1 (ofN (lenL (.int .i64) r1)) (0 : Int))) none)
   (some (0 : Int)) :=
  (loopB_eq (P := PP) (T := TT) (C := CF) [1, 0, 1, 0, 0] [1, 0, 1, 0, 0] 12 0 ⟨[(7, ⟨(.list tapiNode), x0⟩), (8, ⟨(.int .i64), x1⟩), (9, ⟨(.int .i64), x2⟩)], []⟩ (blockK 0 (seqK false [1, 1] (BF 12 0 [1, 1]) (finF 12 (.int .i64) [] 0)))).trans (by kernel_rfl)
theorem heap_May.l1.eq (x0 : den (.int .i64)) (x1 : den (.list tapiNode)) (x2 : den (.int .i64)) (x3 : den (.int .i64)) (x4 : den (.list (.int .i64))) (x5 : den (.int .i64)) (x6 : den (.int .i64)) : heap_May.l1 x0 x1 x2 x3 x4 x5 x6 =
  br (ltI x6 x5)
   (br (andB (leI (0 : Int) x6) (ltI x6 (ofN (lenL (.int .i64) x4)))) (br (ltI (ixL (.int .i64) x4 x6) (1 : Int))
    (some (4 : Int))
    (br (ltI x0 (ixL (.int .i64) x4 x6))
     (some (4 : Int))
     (heap_May.l1 x0 x1 x2 x3 x4 x5 (addI .i64 x6 (1 : Int))))) none)
   (heap_May.l0 x1 x2 (addI .i64 x3 (1 : Int))) :=
  (loopB_eq (P := PP) (T := TT) (C := CF) [1, 0, 1, 0, 0, 1, 1, 0, 0, 1, 1, 1, 0, 0] [1, 0, 1, 0, 0, 1, 1, 0, 0, 1, 1, 1, 0, 0] 12 0 ⟨[(3, ⟨(.int .i64), x0⟩), (7, ⟨(.list tapiNode), x1⟩), (8, ⟨(.int .i64), x2⟩), (9, ⟨(.int .i64), x3⟩), (18, ⟨(.list (.int .i64)), x4⟩), (19, ⟨(.int .i64), x5⟩), (20, ⟨(.int .i64), x6⟩)], []⟩ (blockK 2 (blockK 1 (seqK false [1, 0, 1, 0, 0, 1, 1, 1] (BF 12 0 [1, 0, 1, 0, 0, 1, 1, 1]) (againK [1, 0, 1, 0, 0] (loopW [1, 0, 1, 0, 0] (BF 12 0 [1, 0, 1, 0, 0])) (blockK 0 (seqK false [1, 1] (BF 12 0 [1, 1]) (finF 12 (.int .i64) [] 0)))))))).trans (by kernel_rfl)
theorem ref17_May.eq (a0 : den (.list tapiNode)) : ref17_May a0 =
  ref17_May.l0 a0 (0 : Int) :=
  (callW_eq (P := PP) (T := TT) (pr := RR) 13 [⟨(.list tapiNode), a0⟩] [] .bool []).trans (by kernel_rfl)
theorem ref17_May.l0.eq (x0 : den (.list tapiNode)) (x1 : den (.int .i64)) : ref17_May.l0 x0 x1 =
  br (ltI x1 (ofN (lenL tapiNode x0)))
   (br (andB (leI (0 : Int) x1) (ltI x1 (ofN (lenL tapiNode x0)))) (bnd (ref13_Refs (ixL tapiNode x0 x1)) fun r0 =>
   ref17_May.l1 x0 x1 r0 (0 : Int)) none)
   (some true) :=
  (loopB_eq (P := PP) (T := TT) (C := CF) [1, 0, 1, 0, 0] [1, 0, 1, 0, 0] 13 0 ⟨[(0, ⟨(.list tapiNode), x0⟩), (3, ⟨(.int .i64), x1⟩)], []⟩ (blockK 0 (seqK false [1, 1] (BF 13 0 [1, 1]) (finF 13 .bool [] 0)))).trans (by kernel_rfl)
theorem ref17_May.l1.eq (x0 : den (.list tapiNode)) (x1 : den (.int .i64)) (x2 : den (.list (.int .i64))) (x3 : den (.int .i64)) : ref17_May.l1 x0 x1 x2 x3 =
  br (ltI x3 (ofN (lenL (.int .i64) x2)))
   (br (andB (leI (0 : Int) x3) (ltI x3 (ofN (lenL (.int .i64) x2)))) (br (ltI (ixL (.int .i64) x2 x3) (1 : Int))
    (some false)
    (br (andB (leI (0 : Int) x3) (ltI x3 (ofN (lenL (.int .i64) x2)))) (br (ltI x1 (ixL (.int .i64) x2 x3))
     (some false)
     (ref17_May.l1 x0 x1 x2 (addI .i64 x3 (1 : Int)))) none)) none)
   (br (andB (leI (0 : Int) x1) (ltI x1 (ofN (lenL tapiNode x0)))) (bnd (ref13_May (ixL tapiNode x0 x1)) fun r0 =>
   br (notB (eqI r0 (0 : Int)))
    (some false)
    (ref17_May.l0 x0 (addI .i64 x1 (1 : Int)))) none) :=
  (loopB_eq (P := PP) (T := TT) (C := CF) [1, 0, 1, 0, 0, 1, 0, 0, 1, 0, 1, 0, 0] [1, 0, 1, 0, 0, 1, 0, 0, 1, 0, 1, 0, 0] 13 0 ⟨[(0, ⟨(.list tapiNode), x0⟩), (3, ⟨(.int .i64), x1⟩), (4, ⟨(.list (.int .i64)), x2⟩), (5, ⟨(.int .i64), x3⟩)], []⟩ (blockK 2 (seqK false [1, 0, 1, 0, 0, 1, 0, 0, 1, 1] (BF 13 0 [1, 0, 1, 0, 0, 1, 0, 0, 1, 1]) (blockK 1 (seqK false [1, 0, 1, 0, 0, 1, 1] (BF 13 0 [1, 0, 1, 0, 0, 1, 1]) (againK [1, 0, 1, 0, 0] (loopW [1, 0, 1, 0, 0] (BF 13 0 [1, 0, 1, 0, 0])) (blockK 0 (seqK false [1, 1] (BF 13 0 [1, 1]) (finF 13 .bool [] 0))))))))).trans (by kernel_rfl)
theorem ref17_Fits.eq (a0 : den (.list tapiNode)) (a1 : den (.int .i64)) : ref17_Fits a0 a1 =
  br (leI (0 : Int) a1)
   (br (leI a1 (ofN (lenL tapiNode a0)))
    (bnd (ref17_May a0) fun r0 =>
    some r0)
    (some false))
   (some false) :=
  (callW_eq (P := PP) (T := TT) (pr := RR) 14 [⟨(.list tapiNode), a0⟩, ⟨(.int .i64), a1⟩] [] .bool []).trans (by kernel_rfl)
theorem law17_works.eq  : law17_works  =
  bnd (node_Leaf (ByteArray.mk #[97]) (ByteArray.mk #[49])) fun r0 =>
  bnd (node_Inner (1 : Int)) fun r1 =>
  bnd (heap_Count (r0 :: (r1 :: [])) (2 : Int)) fun r2 =>
  bnd (heap_Depth (r0 :: (r1 :: [])) (2 : Int)) fun r3 =>
  bnd (heap_Binds (r0 :: (r1 :: [])) (2 : Int)) fun r4 =>
  br (eqI r2.1 (2 : Int))
   (br (eqI r2.2.1 (0 : Int))
    (br (eqI r3.1 (2 : Int))
     (br (eqI r3.2.1 (0 : Int))
      (br (eqI (ofN (lenL tapiPair r4.1)) (1 : Int))
       (some (eqI r4.2.1 (0 : Int)))
       (some false))
      (some false))
     (some false))
    (some false))
   (some false) :=
  (callW_eq (P := PP) (T := TT) (pr := RR) 15 [] [] .bool []).trans (by kernel_rfl)
theorem ref17_Binds.eq (a0 : den (.list tapiNode)) (a1 : den (.int .i64)) : ref17_Binds a0 a1 =
  br (eqI a1 (0 : Int))
   (some [])
   (br (andB (leI (0 : Int) (subI .i64 a1 (1 : Int))) (ltI (subI .i64 a1 (1 : Int)) (ofN (lenL tapiNode a0)))) (br (eqI (ixL tapiNode a0 (subI .i64 a1 (1 : Int))).1 (4 : Int))
    (br (andB (leI (0 : Int) (0 : Int)) (ltI (0 : Int) (ofN (lenL (.int .i64) (ixL tapiNode a0 (subI .i64 a1 (1 : Int))).2.2.2.2.1)))) (bnd (ref17_Binds a0 (ixL (.int .i64) (ixL tapiNode a0 (subI .i64 a1 (1 : Int))).2.2.2.2.1 (0 : Int))) fun r0 =>
    br (fitL tapiPair (appL tapiPair [] r0)) (bnd (ref13_Binds (ixL tapiNode a0 (subI .i64 a1 (1 : Int)))) fun r1 =>
    br (fitL tapiPair (appL tapiPair (appL tapiPair [] r0) r1)) (br (andB (leI (0 : Int) (1 : Int)) (ltI (1 : Int) (ofN (lenL (.int .i64) (ixL tapiNode a0 (subI .i64 a1 (1 : Int))).2.2.2.2.1)))) (bnd (ref17_Binds a0 (ixL (.int .i64) (ixL tapiNode a0 (subI .i64 a1 (1 : Int))).2.2.2.2.1 (1 : Int))) fun r2 =>
    br (fitL tapiPair (appL tapiPair (appL tapiPair (appL tapiPair [] r0) r1) r2)) (some (appL tapiPair (appL tapiPair (appL tapiPair [] r0) r1) r2)) none) none) none) none) none)
    (bnd (ref13_Binds (ixL tapiNode a0 (subI .i64 a1 (1 : Int)))) fun r3 =>
    br (fitL tapiPair (appL tapiPair [] r3)) (bnd (ref13_Refs (ixL tapiNode a0 (subI .i64 a1 (1 : Int)))) fun r4 =>
    ref17_Binds.l0 a0 r4 (0 : Int) (appL tapiPair [] r3)) none)) none) :=
  (callW_eq (P := PP) (T := TT) (pr := RR) 17 [⟨(.list tapiNode), a0⟩, ⟨(.int .i64), a1⟩] [] (.list tapiPair) []).trans (by kernel_rfl)
theorem ref17_Binds.l0.eq (x0 : den (.list tapiNode)) (x1 : den (.list (.int .i64))) (x2 : den (.int .i64)) (x3 : denO (.row 75 tapiPair false)) : ref17_Binds.l0 x0 x1 x2 x3 =
  br (ltI x2 (ofN (lenL (.int .i64) x1)))
   (br (andB (leI (0 : Int) x2) (ltI x2 (ofN (lenL (.int .i64) x1)))) (bnd (ref17_Binds x0 (ixL (.int .i64) x1 x2)) fun r0 =>
   br (fitL tapiPair (appL tapiPair x3 r0)) (ref17_Binds.l0 x0 x1 (addI .i64 x2 (1 : Int)) (appL tapiPair x3 r0)) none) none)
   (some x3) :=
  (loopB_eq (P := PP) (T := TT) (C := CF) [1, 1, 1, 1, 1, 1, 1, 0, 1, 0, 0] [1, 1, 1, 1, 1, 1, 1, 0, 1, 0, 0] 17 0 ⟨[(0, ⟨(.list tapiNode), x0⟩), (5, ⟨(.own tapiPair 0), ()⟩), (7, ⟨(.list (.int .i64)), x1⟩), (8, ⟨(.int .i64), x2⟩)], [⟨(.row 75 tapiPair false), x3⟩]⟩ (blockK 0 (seqK false [1, 1, 1, 1, 1, 1, 1, 1] (BF 17 0 [1, 1, 1, 1, 1, 1, 1, 1]) (finF 17 (.list tapiPair) [] 0)))).trans (by kernel_rfl)
theorem ref07_Same.eq (a0 : den (.list tapiPair)) (a1 : den (.list tapiPair)) : ref07_Same a0 a1 =
  br (notB (eqI (ofN (lenL tapiPair a0)) (ofN (lenL tapiPair a1))))
   (some false)
   (ref07_Same.l0 a0 a1 (0 : Int)) :=
  (callW_eq (P := PP) (T := TT) (pr := RR) 16 [⟨(.list tapiPair), a0⟩, ⟨(.list tapiPair), a1⟩] [] .bool []).trans (by kernel_rfl)
theorem ref07_Same.l0.eq (x0 : den (.list tapiPair)) (x1 : den (.list tapiPair)) (x2 : den (.int .i64)) : ref07_Same.l0 x0 x1 x2 =
  br (ltI x2 (ofN (lenL tapiPair x0)))
   (br (andB (leI (0 : Int) x2) (ltI x2 (ofN (lenL tapiPair x0)))) (br (andB (leI (0 : Int) x2) (ltI x2 (ofN (lenL tapiPair x1)))) (br (notB (andB (eqS (ixL tapiPair x0 x2).1 (ixL tapiPair x1 x2).1) (andB (eqS (ixL tapiPair x0 x2).2.1 (ixL tapiPair x1 x2).2.1) true)))
    (some false)
    (ref07_Same.l0 x0 x1 (addI .i64 x2 (1 : Int)))) none) none)
   (some true) :=
  (loopB_eq (P := PP) (T := TT) (C := CF) [1, 1, 0, 1, 0, 0] [1, 1, 0, 1, 0, 0] 16 0 ⟨[(0, ⟨(.list tapiPair), x0⟩), (1, ⟨(.list tapiPair), x1⟩), (5, ⟨(.int .i64), x2⟩)], []⟩ (blockK 0 (seqK false [1, 1, 1] (BF 16 0 [1, 1, 1]) (finF 16 .bool [] 0)))).trans (by kernel_rfl)
theorem heap_Count.eq (a0 : den (.list tapiNode)) (a1 : den (.int .i64)) : heap_Count a0 a1 =
  bnd (heap_may a0 a1) fun r0 =>
  br (notB (eqI r0 (0 : Int)))
   (some ((0 : Int), (r0, ())))
   (bnd (heap_Refs a0 a1) fun r1 =>
   bnd (heap_Refs_1 r1.2.1 r1.2.2.1) fun r2 =>
   heap_Count.e0 r2 (0 : Int)) :=
  (callW_eq (P := PP) (T := TT) (pr := RR) 18 [⟨(.list tapiNode), a0⟩, ⟨(.int .i64), a1⟩] [] (.tcons (.int .i64) (.tcons (.int .i64) .tnil)) []).trans (by kernel_rfl)
theorem heap_Count.e0.nil (x0 : denO (.box (.int .i64))) : heap_Count.e0 [] x0 =
  some (x0, ((0 : Int), ())) := by kernel_rfl
theorem heap_Count.e0.cons (y : den (.tcons (.int .i64) .tnil)) (ys : List (den (.tcons (.int .i64) .tnil))) (x0 : denO (.box (.int .i64))) : heap_Count.e0 (y :: ys) x0 =
  heap_Count.e0 ys (addI .i64 x0 (1 : Int)) := by kernel_rfl
theorem heap_Depth.eq (a0 : den (.list tapiNode)) (a1 : den (.int .i64)) : heap_Depth a0 a1 =
  bnd (heap_may a0 a1) fun r0 =>
  br (notB (eqI r0 (0 : Int)))
   (some ((0 : Int), (r0, ())))
   (br (andB (fitN (addI .i64 (ofN (lenL tapiNode a0)) (1 : Int))) (eqI (addI .i64 (ofN (lenL tapiNode a0)) (1 : Int)) (addI .i64 (ofN (lenL tapiNode a0)) (1 : Int)))) (heap_Depth.l0 a1 a0 (ofN (lenL tapiNode a0)) (0 : Int) (repL (.int .i64) (toN (addI .i64 (ofN (lenL tapiNode a0)) (1 : Int))) (0 : Int))) none) :=
  (callW_eq (P := PP) (T := TT) (pr := RR) 19 [⟨(.list tapiNode), a0⟩, ⟨(.int .i64), a1⟩] [] (.tcons (.int .i64) (.tcons (.int .i64) .tnil)) []).trans (by kernel_rfl)
theorem heap_Depth.l0.eq (x0 : den (.int .i64)) (x1 : den (.list tapiNode)) (x2 : den (.int .i64)) (x3 : den (.int .i64)) (x4 : denO (.row 3 (.int .i64) false)) : heap_Depth.l0 x0 x1 x2 x3 x4 =
  br (ltI x3 x2)
   (br (andB (leI (0 : Int) x3) (ltI x3 (ofN (lenL tapiNode x1)))) (bnd (node_Refs (ixL tapiNode x1 x3)) fun r0 =>
   heap_Depth.l1 x0 x3 x1 x2 x3 r0 (ofN (lenL (.int .i64) r0)) (0 : Int) x4) none)
   (br (andB (leI (0 : Int) x0) (ltI x0 (ofN (lenL (.int .i64) x4)))) (some ((ixL (.int .i64) x4 x0), ((0 : Int), ()))) none) :=
  (loopB_eq (P := PP) (T := TT) (C := CF) [1, 1, 1, 0, 1, 0, 0] [1, 1, 1, 0, 1, 0, 0] 19 0 ⟨[(1, ⟨(.int .i64), x0⟩), (7, ⟨(.own (.int .i64) 0), ()⟩), (22, ⟨(.list tapiNode), x1⟩), (23, ⟨(.int .i64), x2⟩), (24, ⟨(.int .i64), x3⟩)], [⟨(.row 3 (.int .i64) false), x4⟩]⟩ (blockK 0 (seqK false [1, 1, 1, 1] (BF 19 0 [1, 1, 1, 1]) (finF 19 (.tcons (.int .i64) (.tcons (.int .i64) .tnil)) [] 0)))).trans (by kernel_rfl)
theorem heap_Depth.l1.eq (x0 : den (.int .i64)) (x1 : den (.int .i64)) (x2 : den (.list tapiNode)) (x3 : den (.int .i64)) (x4 : den (.int .i64)) (x5 : den (.list (.int .i64))) (x6 : den (.int .i64)) (x7 : den (.int .i64)) (x8 : denO (.row 3 (.int .i64) false)) : heap_Depth.l1 x0 x1 x2 x3 x4 x5 x6 x7 x8 =
  br (ltI x7 x6)
   (br (andB (leI (0 : Int) x7) (ltI x7 (ofN (lenL (.int .i64) x5)))) (br (andB (leI (0 : Int) (addI .i64 x1 (1 : Int))) (ltI (addI .i64 x1 (1 : Int)) (ofN (lenL (.int .i64) x8)))) (br (andB (leI (0 : Int) (ixL (.int .i64) x5 x7)) (ltI (ixL (.int .i64) x5 x7) (ofN (lenL (.int .i64) x8)))) (both
    (br (andB (leI (0 : Int) (addI .i64 x1 (1 : Int))) (ltI (addI .i64 x1 (1 : Int)) (ofN (lenL (.int .i64) x8)))) (heap_Depth.l1 x0 x1 x2 x3 x4 x5 x6 (addI .i64 x7 (1 : Int)) (setL (.int .i64) x8 (addI .i64 x1 (1 : Int)) (maxI (ixL (.int .i64) x8 (addI .i64 x1 (1 : Int))) (ixL (.int .i64) x8 (ixL (.int .i64) x5 x7))))) none)
    (br (andB (leI (0 : Int) (addI .i64 x1 (1 : Int))) (ltI (addI .i64 x1 (1 : Int)) (ofN (lenL (.int .i64) x8)))) (heap_Depth.l1 x0 x1 x2 x3 x4 x5 x6 (addI .i64 x7 (1 : Int)) (setL (.int .i64) x8 (addI .i64 x1 (1 : Int)) (maxI (ixL (.int .i64) x8 (addI .i64 x1 (1 : Int))) (ixL (.int .i64) x8 (ixL (.int .i64) x5 x7))))) none)) none) none) none)
   (br (andB (leI (0 : Int) (addI .i64 x1 (1 : Int))) (ltI (addI .i64 x1 (1 : Int)) (ofN (lenL (.int .i64) x8)))) (br (andB (leI (0 : Int) (addI .i64 x1 (1 : Int))) (ltI (addI .i64 x1 (1 : Int)) (ofN (lenL (.int .i64) x8)))) (heap_Depth.l0 x0 x2 x3 (addI .i64 x4 (1 : Int)) (setL (.int .i64) x8 (addI .i64 x1 (1 : Int)) (addI .i64 (ixL (.int .i64) x8 (addI .i64 x1 (1 : Int))) (1 : Int)))) none) none) :=
  (loopB_eq (P := PP) (T := TT) (C := CF) [1, 1, 1, 0, 1, 0, 0, 1, 1, 0, 0, 1, 0, 1, 0, 0] [1, 1, 1, 0, 1, 0, 0, 1, 1, 0, 0, 1, 0, 1, 0, 0] 19 0 ⟨[(1, ⟨(.int .i64), x0⟩), (7, ⟨(.own (.int .i64) 0), ()⟩), (8, ⟨(.int .i64), x1⟩), (22, ⟨(.list tapiNode), x2⟩), (23, ⟨(.int .i64), x3⟩), (24, ⟨(.int .i64), x4⟩), (30, ⟨(.list (.int .i64)), x5⟩), (31, ⟨(.int .i64), x6⟩), (32, ⟨(.int .i64), x7⟩)], [⟨(.row 3 (.int .i64) false), x8⟩]⟩ (blockK 2 (seqK false [1, 1, 1, 0, 1, 0, 0, 1, 1, 0, 0, 1, 1] (BF 19 0 [1, 1, 1, 0, 1, 0, 0, 1, 1, 0, 0, 1, 1]) (blockK 1 (seqK false [1, 1, 1, 0, 1, 0, 0, 1, 1, 1] (BF 19 0 [1, 1, 1, 0, 1, 0, 0, 1, 1, 1]) (againK [1, 1, 1, 0, 1, 0, 0] (loopW [1, 1, 1, 0, 1, 0, 0] (BF 19 0 [1, 1, 1, 0, 1, 0, 0])) (blockK 0 (seqK false [1, 1, 1, 1] (BF 19 0 [1, 1, 1, 1]) (finF 19 (.tcons (.int .i64) (.tcons (.int .i64) .tnil)) [] 0))))))))).trans (by kernel_rfl)
theorem heap_Refs.eq (a0 : den (.list tapiNode)) (a1 : den (.int .i64)) : heap_Refs a0 a1 =
  some (((), ((), ())), (a0, (a1, ()))) :=
  (callW_eq (P := PP) (T := TT) (pr := RR) 20 [⟨(.list tapiNode), a0⟩, ⟨(.int .i64), a1⟩] [] (.fn 49 (.tcons (.ptr 0 0) (.tcons (.ptr 1 0) .tnil))) [(.box (.list tapiNode)), (.box (.int .i64))]).trans (by kernel_rfl)
theorem heap_Refs_1.eq (a0 : den (.eptr (.list tapiNode) 0)) (a1 : den (.eptr (.int .i64) 0)) : heap_Refs_1 a0 a1 =
  bnd (heap_may a0 a1) fun r0 =>
  br (notB (eqI r0 (0 : Int)))
   (some [])
   (br (eqI a1 (0 : Int))
    (some [])
    (br (andB (fitN (addI .i64 a1 (1 : Int))) (eqI (addI .i64 a1 (1 : Int)) (addI .i64 a1 (1 : Int)))) (br (andB (leI (0 : Int) a1) (ltI a1 (ofN (lenL .bool (repL .bool (toN (addI .i64 a1 (1 : Int))) false))))) (heap_Refs_1.l0 a0 a1 (setL .bool (repL .bool (toN (addI .i64 a1 (1 : Int))) false) a1 true)) none) none)) :=
  (callW_eq (P := PP) (T := TT) (pr := RR) 49 [⟨(.own .dead 0), ()⟩, ⟨(.eptr (.list tapiNode) 0), a0⟩, ⟨(.eptr (.int .i64) 0), a1⟩] [⟨.held, ()⟩] (.list (.tcons (.int .i64) .tnil)) []).trans (by kernel_rfl)
theorem heap_Refs_1.l0.eq (x0 : den (.eptr (.list tapiNode) 0)) (x1 : den (.int .i64)) (x2 : denO (.row 4 .bool false)) : heap_Refs_1.l0 x0 x1 x2 =
  br (ltI (0 : Int) x1)
   (br (andB (leI (0 : Int) x1) (ltI x1 (ofN (lenL .bool x2)))) (br (notB (ixL .bool x2 x1))
    (heap_Refs_1.l0 x0 (subI .i64 x1 (1 : Int)) x2)
    (yieldW (R := List (den (.tcons (.int .i64) .tnil))) ⟨(.tcons (.int .i64) .tnil), (x1, ())⟩
     (heap_Refs_1.j1 x0 x1 (notB true) x2)
     (heap_Refs_1.j1 x0 x1 (notB false) x2))) none)
   (some []) :=
  (loopB_eq (P := PP) (T := TT) (C := CF) [1, 1, 1, 1, 0, 0] [1, 1, 1, 1, 0, 0] 49 1 ⟨[(0, ⟨(.own .dead 0), ()⟩), (1, ⟨(.eptr (.list tapiNode) 0), x0⟩), (4, ⟨(.own .bool 1), ()⟩), (5, ⟨(.int .i64), x1⟩)], [⟨.held, ()⟩, ⟨(.row 4 .bool false), x2⟩]⟩ (blockK 0 (iterK (List (den (.tcons (.int .i64) .tnil))) []))).trans (by kernel_rfl)
theorem heap_Refs_1.j1.eq (x0 : den (.eptr (.list tapiNode) 0)) (x1 : den (.int .i64)) (x2 : den .bool) (x3 : denO (.row 4 .bool false)) : heap_Refs_1.j1 x0 x1 x2 x3 =
  br x2
   (some [])
   (br (andB (leI (0 : Int) (subI .i64 x1 (1 : Int))) (ltI (subI .i64 x1 (1 : Int)) (ofN (lenL tapiNode x0)))) (bnd (node_Refs (ixL tapiNode x0 (subI .i64 x1 (1 : Int)))) fun r0 =>
   heap_Refs_1.l2 x0 x1 r0 (ofN (lenL (.int .i64) r0)) (0 : Int) x3) none) :=
  (congrFun (congrFun (jnO_eq [1, 1, 1, 1, 0, 0, 1, 0, 0, 1, 0, 1] (BF (R := List (den (.tcons (.int .i64) .tnil))) 49 1 [1, 1, 1, 1, 0, 0, 1, 0, 0, 1, 0, 1])) ⟨[(0, ⟨(.own .dead 0), ()⟩), (1, ⟨(.eptr (.list tapiNode) 0), x0⟩), (4, ⟨(.own .bool 1), ()⟩), (5, ⟨(.int .i64), x1⟩), (35, ⟨.bool, x2⟩)], [⟨.held, ()⟩, ⟨(.row 4 .bool false), x3⟩]⟩) (seqK false [1, 1, 1, 1, 0, 0, 1, 0, 0, 1, 1] (BF 49 1 [1, 1, 1, 1, 0, 0, 1, 0, 0, 1, 1]) (blockK 1 (seqK false [1, 1, 1, 1, 0, 0, 1, 1] (BF 49 1 [1, 1, 1, 1, 0, 0, 1, 1]) (againK [1, 1, 1, 1, 0, 0] (loopW [1, 1, 1, 1, 0, 0] (BF 49 1 [1, 1, 1, 1, 0, 0])) (blockK 0 (iterK (List (den (.tcons (.int .i64) .tnil))) []))))))).trans (by kernel_rfl)
theorem heap_Refs_1.l2.eq (x0 : den (.eptr (.list tapiNode) 0)) (x1 : den (.int .i64)) (x2 : den (.list (.int .i64))) (x3 : den (.int .i64)) (x4 : den (.int .i64)) (x5 : denO (.row 4 .bool false)) : heap_Refs_1.l2 x0 x1 x2 x3 x4 x5 =
  br (ltI x4 x3)
   (br (andB (leI (0 : Int) x4) (ltI x4 (ofN (lenL (.int .i64) x2)))) (br (andB (leI (0 : Int) (ixL (.int .i64) x2 x4)) (ltI (ixL (.int .i64) x2 x4) (ofN (lenL .bool x5)))) (heap_Refs_1.l2 x0 x1 x2 x3 (addI .i64 x4 (1 : Int)) (setL .bool x5 (ixL (.int .i64) x2 x4) true)) none) none)
   (heap_Refs_1.l0 x0 (subI .i64 x1 (1 : Int)) x5) :=
  (loopB_eq (P := PP) (T := TT) (C := CF) [1, 1, 1, 1, 0, 0, 1, 0, 0, 1, 1, 1, 0, 0] [1, 1, 1, 1, 0, 0, 1, 0, 0, 1, 1, 1, 0, 0] 49 1 ⟨[(0, ⟨(.own .dead 0), ()⟩), (1, ⟨(.eptr (.list tapiNode) 0), x0⟩), (4, ⟨(.own .bool 1), ()⟩), (5, ⟨(.int .i64), x1⟩), (41, ⟨(.list (.int .i64)), x2⟩), (42, ⟨(.int .i64), x3⟩), (43, ⟨(.int .i64), x4⟩)], [⟨.held, ()⟩, ⟨(.row 4 .bool false), x5⟩]⟩ (blockK 2 (blockK 1 (seqK false [1, 1, 1, 1, 0, 0, 1, 1] (BF 49 1 [1, 1, 1, 1, 0, 0, 1, 1]) (againK [1, 1, 1, 1, 0, 0] (loopW [1, 1, 1, 1, 0, 0] (BF 49 1 [1, 1, 1, 1, 0, 0])) (blockK 0 (iterK (List (den (.tcons (.int .i64) .tnil))) []))))))).trans (by kernel_rfl)
theorem ref17_Refs.eq (a0 : den (.list tapiNode)) (a1 : den (.int .i64)) : ref17_Refs a0 a1 =
  br (andB (fitN (ofN (lenL tapiNode a0))) (eqI (ofN (lenL tapiNode a0)) (ofN (lenL tapiNode a0)))) (bnd (ref17_mark_o a0 a1 (repL .bool (toN (ofN (lenL tapiNode a0))) false)) fun r0 =>
  ref17_Refs.l0 (subI .i64 (ofN (lenL tapiNode a0)) (1 : Int)) r0.2.1 []) none :=
  (callW_eq (P := PP) (T := TT) (pr := RR) 21 [⟨(.list tapiNode), a0⟩, ⟨(.int .i64), a1⟩] [] (.list (.int .i64)) []).trans (by kernel_rfl)
theorem ref17_Refs.l0.eq (x0 : den (.int .i64)) (x1 : denO (.row 4 .bool false)) (x2 : denO (.row 28 (.int .i64) false)) : ref17_Refs.l0 x0 x1 x2 =
  br (leI (0 : Int) x0)
   (br (andB (leI (0 : Int) x0) (ltI x0 (ofN (lenL .bool x1)))) (br (ixL .bool x1 x0)
    (br (fitL (.int .i64) (appL (.int .i64) x2 ((addI .i64 x0 (1 : Int)) :: []))) (ref17_Refs.l0 (subI .i64 x0 (1 : Int)) x1 (appL (.int .i64) x2 ((addI .i64 x0 (1 : Int)) :: []))) none)
    (ref17_Refs.l0 (subI .i64 x0 (1 : Int)) x1 x2)) none)
   (some x2) :=
  (loopB_eq (P := PP) (T := TT) (C := CF) [1, 1, 1, 0, 1, 0, 0] [1, 1, 1, 0, 1, 0, 0] 21 0 ⟨[(5, ⟨(.own .bool 0), ()⟩), (6, ⟨(.own (.int .i64) 1), ()⟩), (7, ⟨(.int .i64), x0⟩)], [⟨(.row 4 .bool false), x1⟩, ⟨(.row 28 (.int .i64) false), x2⟩]⟩ (blockK 0 (seqK false [1, 1, 1, 1] (BF 21 0 [1, 1, 1, 1]) (finF 21 (.list (.int .i64)) [] 0)))).trans (by kernel_rfl)
theorem ref17_Depth.eq (a0 : den (.list tapiNode)) (a1 : den (.int .i64)) : ref17_Depth a0 a1 =
  br (eqI a1 (0 : Int))
   (some (0 : Int))
   (br (andB (leI (0 : Int) (subI .i64 a1 (1 : Int))) (ltI (subI .i64 a1 (1 : Int)) (ofN (lenL tapiNode a0)))) (bnd (ref13_Refs (ixL tapiNode a0 (subI .i64 a1 (1 : Int)))) fun r0 =>
   ref17_Depth.l0 a0 (0 : Int) r0 (0 : Int)) none) :=
  (callW_eq (P := PP) (T := TT) (pr := RR) 22 [⟨(.list tapiNode), a0⟩, ⟨(.int .i64), a1⟩] [] (.int .i64) []).trans (by kernel_rfl)
theorem ref17_Depth.l0.eq (x0 : den (.list tapiNode)) (x1 : den (.int .i64)) (x2 : den (.list (.int .i64))) (x3 : den (.int .i64)) : ref17_Depth.l0 x0 x1 x2 x3 =
  br (ltI x3 (ofN (lenL (.int .i64) x2)))
   (br (andB (leI (0 : Int) x3) (ltI x3 (ofN (lenL (.int .i64) x2)))) (bnd (ref17_Depth x0 (ixL (.int .i64) x2 x3)) fun r0 =>
   ref17_Depth.l0 x0 (maxI x1 r0) x2 (addI .i64 x3 (1 : Int))) none)
   (some (addI .i64 x1 (1 : Int))) :=
  (loopB_eq (P := PP) (T := TT) (C := CF) [1, 1, 1, 0, 1, 0, 0] [1, 1, 1, 0, 1, 0, 0] 22 0 ⟨[(0, ⟨(.list tapiNode), x0⟩), (5, ⟨(.int .i64), x1⟩), (6, ⟨(.list (.int .i64)), x2⟩), (7, ⟨(.int .i64), x3⟩)], []⟩ (blockK 0 (seqK false [1, 1, 1, 1] (BF 22 0 [1, 1, 1, 1]) (finF 22 (.int .i64) [] 0)))).trans (by kernel_rfl)
theorem ref13_SameRefs.eq (a0 : den (.list (.int .i64))) (a1 : den (.list (.int .i64))) : ref13_SameRefs a0 a1 =
  br (notB (eqI (ofN (lenL (.int .i64) a0)) (ofN (lenL (.int .i64) a1))))
   (some false)
   (ref13_SameRefs.l0 a0 a1 (0 : Int)) :=
  (callW_eq (P := PP) (T := TT) (pr := RR) 23 [⟨(.list (.int .i64)), a0⟩, ⟨(.list (.int .i64)), a1⟩] [] .bool []).trans (by kernel_rfl)
theorem ref13_SameRefs.l0.eq (x0 : den (.list (.int .i64))) (x1 : den (.list (.int .i64))) (x2 : den (.int .i64)) : ref13_SameRefs.l0 x0 x1 x2 =
  br (ltI x2 (ofN (lenL (.int .i64) x0)))
   (br (andB (leI (0 : Int) x2) (ltI x2 (ofN (lenL (.int .i64) x0)))) (br (andB (leI (0 : Int) x2) (ltI x2 (ofN (lenL (.int .i64) x1)))) (br (notB (eqI (ixL (.int .i64) x0 x2) (ixL (.int .i64) x1 x2)))
    (some false)
    (ref13_SameRefs.l0 x0 x1 (addI .i64 x2 (1 : Int)))) none) none)
   (some true) :=
  (loopB_eq (P := PP) (T := TT) (C := CF) [1, 1, 0, 1, 0, 0] [1, 1, 0, 1, 0, 0] 23 0 ⟨[(0, ⟨(.list (.int .i64)), x0⟩), (1, ⟨(.list (.int .i64)), x1⟩), (5, ⟨(.int .i64), x2⟩)], []⟩ (blockK 0 (seqK false [1, 1, 1] (BF 23 0 [1, 1, 1]) (finF 23 .bool [] 0)))).trans (by kernel_rfl)
theorem heap_Same.eq (a0 : den (.list tapiNode)) (a1 : den (.int .i64)) (a2 : den (.list tapiNode)) (a3 : den (.int .i64)) : heap_Same a0 a1 a2 a3 =
  bnd (heap_may a0 a1) fun r0 =>
  br (eqI r0 (0 : Int))
   (bnd (heap_may a2 a3) fun r1 =>
   br (eqI r1 (0 : Int))
    (bnd (heap_same a0 a1 a2 a3) fun r2 =>
    some r2)
    (some false))
   (some false) :=
  (callW_eq (P := PP) (T := TT) (pr := RR) 24 [⟨(.list tapiNode), a0⟩, ⟨(.int .i64), a1⟩, ⟨(.list tapiNode), a2⟩, ⟨(.int .i64), a3⟩] [] .bool []).trans (by kernel_rfl)
theorem ref17_Same.eq (a0 : den (.list tapiNode)) (a1 : den (.int .i64)) (a2 : den (.list tapiNode)) (a3 : den (.int .i64)) : ref17_Same a0 a1 a2 a3 =
  bnd (ref17_Fits a0 a1) fun r0 =>
  br r0
   (bnd (ref17_Fits a2 a3) fun r1 =>
   br r1
    (bnd (ref17_shape a0 a1 a2 a3) fun r2 =>
    some r2)
    (some false))
   (some false) :=
  (callW_eq (P := PP) (T := TT) (pr := RR) 25 [⟨(.list tapiNode), a0⟩, ⟨(.int .i64), a1⟩, ⟨(.list tapiNode), a2⟩, ⟨(.int .i64), a3⟩] [] .bool []).trans (by kernel_rfl)
theorem base_Cut.eq (a0 : den .str) (a1 : den (.int .i64)) : base_Cut a0 a1 =
  br (andB (leI (0 : Int) (0 : Int)) (andB (leI (0 : Int) (minI (ofN (lenS a0)) a1)) (leI (minI (ofN (lenS a0)) a1) (ofN (lenS a0))))) (some (subS a0 (toN (0 : Int)) (toN (minI (ofN (lenS a0)) a1)))) none :=
  (callW_eq (P := PP) (T := TT) (pr := RR) 26 [⟨.str, a0⟩, ⟨(.int .i64), a1⟩] [] .str []).trans (by kernel_rfl)
theorem find_Run.eq (a0 : den (.list tapiNode)) (a1 : den (.int .i64)) (a2 : den .str) (a3 : den (.int .i64)) : find_Run a0 a1 a2 a3 =
  bnd (heap_Count a0 a1) fun r0 =>
  br (notB (eqI r0.2.1 (0 : Int)))
   (some (ByteArray.empty, (false, ((0 : Int), ()))))
   (bnd (find_New a1 a2 a3) fun r1 =>
   find_Run.l0 a0 (0 : Int) r1.2.1) :=
  (callW_eq (P := PP) (T := TT) (pr := RR) 27 [⟨(.list tapiNode), a0⟩, ⟨(.int .i64), a1⟩, ⟨.str, a2⟩, ⟨(.int .i64), a3⟩] [] (.tcons .str (.tcons .bool (.tcons (.int .i64) .tnil))) []).trans (by kernel_rfl)
theorem find_Run.l0.eq (x0 : den (.list tapiNode)) (x1 : den (.int .i64)) (x2 : denO (.box tfindFind)) : find_Run.l0 x0 x1 x2 =
  bnd (find_Find_Want x2) fun r0 =>
  br (notB (eqI r0.1 (0 : Int)))
   (bnd (find_Find_Want r0.2.1) fun r1 =>
   br (andB (leI (0 : Int) (subI .i64 r1.1 (1 : Int))) (ltI (subI .i64 r1.1 (1 : Int)) (ofN (lenL tapiNode x0)))) (bnd (find_Find_Feed (ixL tapiNode x0 (subI .i64 r1.1 (1 : Int))) r1.2.1) fun r2 =>
   find_Run.l0 x0 (addI .i64 x1 (1 : Int)) r2.2.1) none)
   (bnd (find_Find_Answer r0.2.1) fun r3 =>
   some (r3.1.1, (r3.1.2.1, (x1, ())))) :=
  (loopB_eq (P := PP) (T := TT) (C := CF) [1, 1, 1, 1, 0, 0, 0] [1, 1, 1, 1, 0, 0, 0] 27 0 ⟨[(0, ⟨(.list tapiNode), x0⟩), (13, ⟨(.ptr 0 0), ()⟩), (14, ⟨(.int .i64), x1⟩)], [⟨(.box tfindFind), x2⟩]⟩ (blockK 0 (seqK false [1, 1, 1, 1, 1] (BF 27 0 [1, 1, 1, 1, 1]) (finF 27 (.tcons .str (.tcons .bool (.tcons (.int .i64) .tnil))) [] 0)))).trans (by kernel_rfl)
theorem ref21_Run.eq (a0 : den (.list tapiNode)) (a1 : den (.int .i64)) (a2 : den .str) (a3 : den (.int .i64)) : ref21_Run a0 a1 a2 a3 =
  bnd (ref17_Fits a0 a1) fun r0 =>
  br (notB r0)
   (some (ByteArray.empty, (false, ((0 : Int), ()))))
   (ref21_Run.l0 a0 a2 a3 a1 (0 : Int) (0 : Int) ByteArray.empty false) :=
  (callW_eq (P := PP) (T := TT) (pr := RR) 28 [⟨(.list tapiNode), a0⟩, ⟨(.int .i64), a1⟩, ⟨.str, a2⟩, ⟨(.int .i64), a3⟩] [] (.tcons .str (.tcons .bool (.tcons (.int .i64) .tnil))) []).trans (by kernel_rfl)
theorem ref21_Run.l0.eq (x0 : den (.list tapiNode)) (x1 : den .str) (x2 : den (.int .i64)) (x3 : den (.int .i64)) (x4 : den (.int .i64)) (x5 : den (.int .i64)) (x6 : den .str) (x7 : den .bool) : ref21_Run.l0 x0 x1 x2 x3 x4 x5 x6 x7 =
  br (notB (eqI x3 (0 : Int)))
   (br (andB (leI (0 : Int) (subI .i64 x3 (1 : Int))) (ltI (subI .i64 x3 (1 : Int)) (ofN (lenL tapiNode x0)))) (bnd (ref21_Bound (ixL tapiNode x0 (subI .i64 x3 (1 : Int))) x1) fun r0 =>
   bnd (ref21_next (ixL tapiNode x0 (subI .i64 x3 (1 : Int))) x1 x4 x2) fun r1 =>
   ref21_Run.l0 x0 x1 x2 r1.1 r1.2.1 (addI .i64 x5 (1 : Int)) r0.1 r0.2.1) none)
   (some (x6, (x7, (x5, ())))) :=
  (loopB_eq (P := PP) (T := TT) (C := CF) [1, 1, 1, 1, 0, 0, 0] [1, 1, 1, 1, 0, 0, 0] 28 0 ⟨[(0, ⟨(.list tapiNode), x0⟩), (2, ⟨.str, x1⟩), (3, ⟨(.int .i64), x2⟩), (11, ⟨(.int .i64), x3⟩), (12, ⟨(.int .i64), x4⟩), (13, ⟨(.int .i64), x5⟩), (14, ⟨.str, x6⟩), (15, ⟨.bool, x7⟩)], []⟩ (blockK 0 (seqK false [1, 1, 1, 1, 1] (BF 28 0 [1, 1, 1, 1, 1]) (finF 28 (.tcons .str (.tcons .bool (.tcons (.int .i64) .tnil))) [] 0)))).trans (by kernel_rfl)
theorem law21_works.eq  : law21_works  =
  bnd (node_Leaf (ByteArray.mk #[97]) (ByteArray.mk #[49])) fun r0 =>
  bnd (find_Run (r0 :: []) (1 : Int) (ByteArray.mk #[97]) (64 : Int)) fun r1 =>
  bnd (find_Run (r0 :: []) (1 : Int) (ByteArray.mk #[98]) (64 : Int)) fun r2 =>
  br (eqS r1.1 (ByteArray.mk #[49]))
   (br r1.2.1
    (br (eqI r1.2.2.1 (1 : Int))
     (some (notB r2.2.1))
     (some false))
    (some false))
   (some false) :=
  (callW_eq (P := PP) (T := TT) (pr := RR) 29 [] [] .bool []).trans (by kernel_rfl)
theorem find_New.eq (a0 : den (.int .i64)) (a1 : den .str) (a2 : den (.int .i64)) : find_New a0 a1 a2 =
  bnd (hash_Of a1 a2) fun r0 =>
  some ((), ((a1, (a2, (r0, ((0 : Int), (a0, (ByteArray.empty, (false, ()))))))), ())) :=
  (callW_eq (P := PP) (T := TT) (pr := RR) 30 [⟨(.int .i64), a0⟩, ⟨.str, a1⟩, ⟨(.int .i64), a2⟩] [] (.ptr 0 0) [(.box tfindFind)]).trans (by kernel_rfl)
theorem find_Find_Want.eq (a0 : denO (.box tfindFind)) : find_Find_Want a0 =
  some (a0.2.2.2.2.1, (a0, ())) :=
  (callW_eq (P := PP) (T := TT) (pr := RR) 31 [⟨(.ptr 0 0), ()⟩] [⟨(.box tfindFind), a0⟩] (.int .i64) [(.box tfindFind)]).trans (by kernel_rfl)
theorem node_Leaf.eq (a0 : den .str) (a1 : den .str) : node_Leaf a0 a1 =
  some ((1 : Int), (a0, (a1, ((0 : Int), ([], ((0 : Int), ([], ((1 : Int), ((0 : Int), ()))))))))) :=
  (callW_eq (P := PP) (T := TT) (pr := RR) 34 [⟨.str, a0⟩, ⟨.str, a1⟩] [] tapiNode []).trans (by kernel_rfl)
theorem find_Find_Feed.eq (a0 : den tapiNode) (a1 : denO (.box tfindFind)) : find_Find_Feed a0 a1 =
  bnd (find_Find_Want a1) fun r0 =>
  br (eqI r0.1 (0 : Int))
   (some ((), (r0.2.1, ())))
   (br (eqI a0.1 (5 : Int))
    (some ((), ((r0.2.1.1, (r0.2.1.2.1, (r0.2.1.2.2.1, (r0.2.1.2.2.2.1, (a0.2.2.2.2.2.1, r0.2.1.2.2.2.2.2))))), ())))
    (br (eqI a0.1 (2 : Int))
     (bnd (hash_Chunk r0.2.1.2.2.1 r0.2.1.2.2.2.1 r0.2.1.2.1) fun r1 =>
     bnd (branch_Child a0 r1) fun r2 =>
     some ((), ((r0.2.1.1, (r0.2.1.2.1, (r0.2.1.2.2.1, ((addI .i64 r0.2.1.2.2.2.1 (1 : Int)), (r2, r0.2.1.2.2.2.2.2))))), ())))
     (br (eqI a0.1 (1 : Int))
      (bnd (node_Binds a0) fun r3 =>
      bnd (pair_Get r3.2.1 r0.2.1.1) fun r4 =>
      some ((), ((r0.2.1.1, (r0.2.1.2.1, (r0.2.1.2.2.1, (r0.2.1.2.2.2.1, ((0 : Int), r4))))), ())))
      (br (eqI a0.1 (6 : Int))
       (bnd (node_Binds a0) fun r5 =>
       bnd (pair_Get r5.2.1 r0.2.1.1) fun r6 =>
       some ((), ((r0.2.1.1, (r0.2.1.2.1, (r0.2.1.2.2.1, (r0.2.1.2.2.2.1, ((0 : Int), r6))))), ())))
       (br (eqI a0.1 (3 : Int))
        (bnd (node_Binds a0) fun r7 =>
        bnd (pair_Get r7.2.1 r0.2.1.1) fun r8 =>
        some ((), ((r0.2.1.1, (r0.2.1.2.1, (r0.2.1.2.2.1, (r0.2.1.2.2.2.1, ((0 : Int), r8))))), ())))
        (some ((), ((r0.2.1.1, (r0.2.1.2.1, (r0.2.1.2.2.1, (r0.2.1.2.2.2.1, ((0 : Int), r0.2.1.2.2.2.2.2))))), ())))))))) :=
  (callW_eq (P := PP) (T := TT) (pr := RR) 33 [⟨(.ptr 0 0), ()⟩, ⟨tapiNode, a0⟩] [⟨(.box tfindFind), a1⟩] .tnil [(.box tfindFind)]).trans (by kernel_rfl)
theorem find_Find_Answer.eq (a0 : denO (.box tfindFind)) : find_Find_Answer a0 =
  br (notB (eqI a0.2.2.2.2.1 (0 : Int)))
   (some ((ByteArray.empty, (false, ())), (a0, ())))
   (some (a0.2.2.2.2.2, (a0, ()))) :=
  (callW_eq (P := PP) (T := TT) (pr := RR) 32 [⟨(.ptr 0 0), ()⟩] [⟨(.box tfindFind), a0⟩] (.tcons .str (.tcons .bool .tnil)) [(.box tfindFind)]).trans (by kernel_rfl)
theorem find_Find_Feed_o.eq (a0 : den tapiNode) : find_Find_Feed_o a0 =
  bnd (find_Find_Want_o) fun r0 =>
  br (eqI r0 (0 : Int))
   (some ())
   (none) :=
  (callW_eq (P := PP) (T := TT) (pr := RR) 33 [⟨.nilptr, ()⟩, ⟨tapiNode, a0⟩] [] .tnil []).trans (by kernel_rfl)
theorem find_Find_Answer_o.eq  : find_Find_Answer_o  =
  some (ByteArray.empty, (false, ())) :=
  (callW_eq (P := PP) (T := TT) (pr := RR) 32 [⟨.nilptr, ()⟩] [] (.tcons .str (.tcons .bool .tnil)) []).trans (by kernel_rfl)
theorem find_Find_Want_o.eq  : find_Find_Want_o  =
  some (0 : Int) :=
  (callW_eq (P := PP) (T := TT) (pr := RR) 31 [⟨.nilptr, ()⟩] [] (.int .i64) []).trans (by kernel_rfl)
theorem law07_Few.eq (a0 : den (.list tapiPair)) : law07_Few a0 =
  law07_Few.l0 a0 (0 : Int) [] :=
  (callW_eq (P := PP) (T := TT) (pr := RR) 35 [⟨(.list tapiPair), a0⟩] [] (.list tapiPair) []).trans (by kernel_rfl)
theorem law07_Few.l0.eq (x0 : den (.list tapiPair)) (x1 : den (.int .i64)) (x2 : denO (.row 75 tapiPair false)) : law07_Few.l0 x0 x1 x2 =
  br (ltI x1 (ofN (lenL tapiPair x0)))
   (law07_Few.j1 x0 x1 (ltI x1 (40 : Int)) x2)
   (law07_Few.j1 x0 x1 false x2) :=
  (loopB_eq (P := PP) (T := TT) (C := CF) [1, 1, 0, 1, 0, 0] [1, 1, 0, 1, 0, 0] 35 0 ⟨[(0, ⟨(.list tapiPair), x0⟩), (3, ⟨(.own tapiPair 0), ()⟩), (4, ⟨(.int .i64), x1⟩)], [⟨(.row 75 tapiPair false), x2⟩]⟩ (blockK 0 (seqK false [1, 1, 1] (BF 35 0 [1, 1, 1]) (finF 35 (.list tapiPair) [] 0)))).trans (by kernel_rfl)
theorem law07_Few.j1.eq (x0 : den (.list tapiPair)) (x1 : den (.int .i64)) (x2 : den .bool) (x3 : denO (.row 75 tapiPair false)) : law07_Few.j1 x0 x1 x2 x3 =
  br x2
   (br (andB (leI (0 : Int) x1) (ltI x1 (ofN (lenL tapiPair x0)))) (br (andB (leI (0 : Int) x1) (ltI x1 (ofN (lenL tapiPair x0)))) (bnd (base_Cut (ixL tapiPair x0 x1).1 (40 : Int)) fun r0 =>
   bnd (base_Cut (ixL tapiPair x0 x1).2.1 (40 : Int)) fun r1 =>
   br (fitL tapiPair (appL tapiPair x3 ((r0, (r1, ())) :: []))) (law07_Few.l0 x0 (addI .i64 x1 (1 : Int)) (appL tapiPair x3 ((r0, (r1, ())) :: []))) none) none) none)
   (some x3) :=
  (congrFun (congrFun (jnO_eq [1, 1, 0, 1, 0, 0, 0, 1] (BF (R := den (.list tapiPair)) 35 0 [1, 1, 0, 1, 0, 0, 0, 1])) ⟨[(0, ⟨(.list tapiPair), x0⟩), (3, ⟨(.own tapiPair 0), ()⟩), (4, ⟨(.int .i64), x1⟩), (13, ⟨.bool, x2⟩)], [⟨(.row 75 tapiPair false), x3⟩]⟩) (seqK false [1, 1, 0, 1, 0, 0, 1] (BF 35 0 [1, 1, 0, 1, 0, 0, 1]) (againK [1, 1, 0, 1, 0, 0] (loopW [1, 1, 0, 1, 0, 0] (BF 35 0 [1, 1, 0, 1, 0, 0])) (blockK 0 (seqK false [1, 1, 1] (BF 35 0 [1, 1, 1]) (finF 35 (.list tapiPair) [] 0)))))).trans (by kernel_rfl)
theorem ref20_Long.eq (a0 : den (.list tapiPair)) : ref20_Long a0 =
  bnd (ref07_Make a0) fun r0 =>
  ref20_Long.l0 r0 (0 : Int) :=
  (callW_eq (P := PP) (T := TT) (pr := RR) 36 [⟨(.list tapiPair), a0⟩] [] .bool []).trans (by kernel_rfl)
theorem ref20_Long.l0.eq (x0 : den (.list tapiPair)) (x1 : den (.int .i64)) : ref20_Long.l0 x0 x1 =
  br (ltI x1 (ofN (lenL tapiPair x0)))
   (br (andB (leI (0 : Int) x1) (ltI x1 (ofN (lenL tapiPair x0)))) (br (ltI (16 : Int) (ofN (lenS (ixL tapiPair x0 x1).1)))
    (some true)
    (br (andB (leI (0 : Int) x1) (ltI x1 (ofN (lenL tapiPair x0)))) (br (ltI (16 : Int) (ofN (lenS (ixL tapiPair x0 x1).2.1)))
     (some true)
     (ref20_Long.l0 x0 (addI .i64 x1 (1 : Int)))) none)) none)
   (some false) :=
  (loopB_eq (P := PP) (T := TT) (C := CF) [1, 1, 0, 1, 0, 0] [1, 1, 0, 1, 0, 0] 36 0 ⟨[(3, ⟨(.list tapiPair), x0⟩), (4, ⟨(.int .i64), x1⟩)], []⟩ (blockK 0 (seqK false [1, 1, 1] (BF 36 0 [1, 1, 1]) (finF 36 .bool [] 0)))).trans (by kernel_rfl)
theorem ref20_Make.eq (a0 : den (.int .i64)) (a1 : den (.list tapiPair)) : ref20_Make a0 a1 =
  bnd (ref07_Make a1) fun r0 =>
  bnd (ref20_make1 a0 r0 (0 : Int) []) fun r1 =>
  some (r1.2.1, r1.1.2) :=
  (callW_eq (P := PP) (T := TT) (pr := RR) 37 [⟨(.int .i64), a0⟩, ⟨(.list tapiPair), a1⟩] [] (.tcons (.list tapiNode) (.tcons (.int .i64) .tnil)) []).trans (by kernel_rfl)
theorem ref07_Get.eq (a0 : den (.list tapiPair)) (a1 : den .str) : ref07_Get a0 a1 =
  ref07_Get.l0 a0 a1 (subI .i64 (ofN (lenL tapiPair a0)) (1 : Int)) :=
  (callW_eq (P := PP) (T := TT) (pr := RR) 38 [⟨(.list tapiPair), a0⟩, ⟨.str, a1⟩] [] (.tcons .str (.tcons .bool .tnil)) []).trans (by kernel_rfl)
theorem ref07_Get.l0.eq (x0 : den (.list tapiPair)) (x1 : den .str) (x2 : den (.int .i64)) : ref07_Get.l0 x0 x1 x2 =
  br (leI (0 : Int) x2)
   (br (andB (leI (0 : Int) x2) (ltI x2 (ofN (lenL tapiPair x0)))) (br (eqS (ixL tapiPair x0 x2).1 x1)
    (br (andB (leI (0 : Int) x2) (ltI x2 (ofN (lenL tapiPair x0)))) (some ((ixL tapiPair x0 x2).2.1, (true, ()))) none)
    (ref07_Get.l0 x0 x1 (subI .i64 x2 (1 : Int)))) none)
   (some (ByteArray.empty, (false, ()))) :=
  (loopB_eq (P := PP) (T := TT) (C := CF) [1, 0, 1, 0, 0] [1, 0, 1, 0, 0] 38 0 ⟨[(0, ⟨(.list tapiPair), x0⟩), (1, ⟨.str, x1⟩), (6, ⟨(.int .i64), x2⟩)], []⟩ (blockK 0 (seqK false [1, 1] (BF 38 0 [1, 1]) (finF 38 (.tcons .str (.tcons .bool .tnil)) [] 0)))).trans (by kernel_rfl)
theorem ref04_Levels.eq (a0 : den (.int .i64)) : ref04_Levels a0 =
  ref04_Levels.l0 a0 (0 : Int) :=
  (callW_eq (P := PP) (T := TT) (pr := RR) 39 [⟨(.int .i64), a0⟩] [] (.int .i64) []).trans (by kernel_rfl)
theorem ref04_Levels.l0.eq (x0 : den (.int .i64)) (x1 : den (.int .i64)) : ref04_Levels.l0 x0 x1 =
  bnd (ref04_clamp x0) fun r0 =>
  br (ltI (mulI .i64 (5 : Int) x1) r0)
   (ref04_Levels.l0 x0 (addI .i64 x1 (1 : Int)))
   (some x1) :=
  (loopB_eq (P := PP) (T := TT) (C := CF) [1, 1, 0, 0, 0] [1, 1, 0, 0, 0] 39 0 ⟨[(0, ⟨(.int .i64), x0⟩), (3, ⟨(.int .i64), x1⟩)], []⟩ (blockK 0 (seqK false [1, 1, 1] (BF 39 0 [1, 1, 1]) (finF 39 (.int .i64) [] 0)))).trans (by kernel_rfl)
theorem law13_Few.eq (a0 : den tapiNode) : law13_Few a0 =
  bnd (base_Cut a0.2.1 (40 : Int)) fun r0 =>
  bnd (base_Cut a0.2.2.1 (40 : Int)) fun r1 =>
  br (andB (leI (0 : Int) (0 : Int)) (andB (leI (0 : Int) (minI (ofN (lenL (.int .i64) a0.2.2.2.2.1)) (40 : Int))) (leI (minI (ofN (lenL (.int .i64) a0.2.2.2.2.1)) (40 : Int)) (ofN (lenL (.int .i64) a0.2.2.2.2.1))))) (br (fitL (.int .i64) (appL (.int .i64) [] (subL (.int .i64) a0.2.2.2.2.1 (toN (0 : Int)) (toN (minI (ofN (lenL (.int .i64) a0.2.2.2.2.1)) (40 : Int)))))) (bnd (law07_Few a0.2.2.2.2.2.2.1) fun r2 =>
  some (a0.1, (r0, (r1, (a0.2.2.2.1, ((appL (.int .i64) [] (subL (.int .i64) a0.2.2.2.2.1 (toN (0 : Int)) (toN (minI (ofN (lenL (.int .i64) a0.2.2.2.2.1)) (40 : Int))))), (a0.2.2.2.2.2.1, (r2, a0.2.2.2.2.2.2.2)))))))) none) none :=
  (callW_eq (P := PP) (T := TT) (pr := RR) 40 [⟨tapiNode, a0⟩] [] tapiNode []).trans (by kernel_rfl)
theorem ref13_Refs.eq (a0 : den tapiNode) : ref13_Refs a0 =
  ref13_Refs.l0 (0 : Int) a0 [] :=
  (callW_eq (P := PP) (T := TT) (pr := RR) 41 [⟨tapiNode, a0⟩] [] (.list (.int .i64)) []).trans (by kernel_rfl)
theorem ref13_Refs.l0.eq (x0 : den (.int .i64)) (x1 : denO (.box tapiNode)) (x2 : denO (.row 28 (.int .i64) false)) : ref13_Refs.l0 x0 x1 x2 =
  br (ltI x0 (ofN (lenL (.int .i64) x1.2.2.2.2.1)))
   (br (andB (leI (0 : Int) x0) (ltI x0 (ofN (lenL (.int .i64) x1.2.2.2.2.1)))) (br (notB (eqI (ixL (.int .i64) x1.2.2.2.2.1 x0) (0 : Int)))
    (br (andB (leI (0 : Int) x0) (ltI x0 (ofN (lenL (.int .i64) x1.2.2.2.2.1)))) (br (fitL (.int .i64) (appL (.int .i64) x2 ((ixL (.int .i64) x1.2.2.2.2.1 x0) :: []))) (ref13_Refs.l0 (addI .i64 x0 (1 : Int)) x1 (appL (.int .i64) x2 ((ixL (.int .i64) x1.2.2.2.2.1 x0) :: []))) none) none)
    (ref13_Refs.l0 (addI .i64 x0 (1 : Int)) x1 x2)) none)
   (br (notB (eqI x1.2.2.2.2.2.1 (0 : Int)))
    (br (fitL (.int .i64) (appL (.int .i64) x2 (x1.2.2.2.2.2.1 :: []))) (some (appL (.int .i64) x2 (x1.2.2.2.2.2.1 :: []))) none)
    (some x2)) :=
  (loopB_eq (P := PP) (T := TT) (C := CF) [1, 1, 0, 1, 0, 0] [1, 1, 0, 1, 0, 0] 41 0 ⟨[(1, ⟨(.ptr 0 0), ()⟩), (3, ⟨(.own (.int .i64) 1), ()⟩), (4, ⟨(.int .i64), x0⟩)], [⟨(.box tapiNode), x1⟩, ⟨(.row 28 (.int .i64) false), x2⟩]⟩ (blockK 0 (seqK false [1, 1, 1] (BF 41 0 [1, 1, 1]) (finF 41 (.list (.int .i64)) [] 0)))).trans (by kernel_rfl)
theorem heap_may.eq (a0 : den (.list tapiNode)) (a1 : den (.int .i64)) : heap_may a0 a1 =
  br (ltI a1 (0 : Int))
   (some (4 : Int))
   (br (ltI (ofN (lenL tapiNode a0)) a1)
    (some (4 : Int))
    (bnd (heap_May a0) fun r0 =>
    some r0)) :=
  (callW_eq (P := PP) (T := TT) (pr := RR) 42 [⟨(.list tapiNode), a0⟩, ⟨(.int .i64), a1⟩] [] (.int .i64) []).trans (by kernel_rfl)
theorem heap_binds.eq (a0 : den (.list tapiNode)) (a1 : den (.int .i64)) : heap_binds a0 a1 =
  br (eqI a1 (0 : Int))
   (some ((), ([], ())))
   (br (andB (leI (0 : Int) (subI .i64 a1 (1 : Int))) (ltI (subI .i64 a1 (1 : Int)) (ofN (lenL tapiNode a0)))) (br (eqI (ixL tapiNode a0 (subI .i64 a1 (1 : Int))).1 (4 : Int))
    (br (andB (leI (0 : Int) (0 : Int)) (ltI (0 : Int) (ofN (lenL (.int .i64) (ixL tapiNode a0 (subI .i64 a1 (1 : Int))).2.2.2.2.1)))) (br (andB (leI (0 : Int) (1 : Int)) (ltI (1 : Int) (ofN (lenL (.int .i64) (ixL tapiNode a0 (subI .i64 a1 (1 : Int))).2.2.2.2.1)))) (bnd (heap_binds a0 (ixL (.int .i64) (ixL tapiNode a0 (subI .i64 a1 (1 : Int))).2.2.2.2.1 (0 : Int))) fun r0 =>
    bnd (node_Binds (ixL tapiNode a0 (subI .i64 a1 (1 : Int)))) fun r1 =>
    br (fitL tapiPair (appL tapiPair r0.2.1 r1.2.1)) (bnd (heap_binds a0 (ixL (.int .i64) (ixL tapiNode a0 (subI .i64 a1 (1 : Int))).2.2.2.2.1 (1 : Int))) fun r2 =>
    br (fitL tapiPair (appL tapiPair (appL tapiPair r0.2.1 r1.2.1) r2.2.1)) (some ((), ((appL tapiPair (appL tapiPair r0.2.1 r1.2.1) r2.2.1), ()))) none) none) none) none)
    (bnd (node_Binds (ixL tapiNode a0 (subI .i64 a1 (1 : Int)))) fun r3 =>
    bnd (node_Refs (ixL tapiNode a0 (subI .i64 a1 (1 : Int)))) fun r4 =>
    heap_binds.l0 a0 r4 (ofN (lenL (.int .i64) r4)) (0 : Int) r3.2.1)) none) :=
  (callW_eq (P := PP) (T := TT) (pr := RR) 43 [⟨(.list tapiNode), a0⟩, ⟨(.int .i64), a1⟩] [] (.own tapiPair 0) [(.row 75 tapiPair false)]).trans (by kernel_rfl)
theorem heap_binds.l0.eq (x0 : den (.list tapiNode)) (x1 : den (.list (.int .i64))) (x2 : den (.int .i64)) (x3 : den (.int .i64)) (x4 : denO (.row 75 tapiPair false)) : heap_binds.l0 x0 x1 x2 x3 x4 =
  br (ltI x3 x2)
   (br (andB (leI (0 : Int) x3) (ltI x3 (ofN (lenL (.int .i64) x1)))) (bnd (heap_binds x0 (ixL (.int .i64) x1 x3)) fun r0 =>
   br (fitL tapiPair (appL tapiPair x4 r0.2.1)) (heap_binds.l0 x0 x1 x2 (addI .i64 x3 (1 : Int)) (appL tapiPair x4 r0.2.1)) none) none)
   (some ((), (x4, ()))) :=
  (loopB_eq (P := PP) (T := TT) (C := CF) [1, 1, 1, 1, 1, 0, 1, 0, 0] [1, 1, 1, 1, 1, 0, 1, 0, 0] 43 0 ⟨[(0, ⟨(.list tapiNode), x0⟩), (6, ⟨(.own tapiPair 0), ()⟩), (38, ⟨(.list (.int .i64)), x1⟩), (39, ⟨(.int .i64), x2⟩), (40, ⟨(.int .i64), x3⟩)], [⟨(.row 75 tapiPair false), x4⟩]⟩ (blockK 0 (seqK false [1, 1, 1, 1, 1, 1] (BF 43 0 [1, 1, 1, 1, 1, 1]) (finF 43 (.own tapiPair 0) [(.row 75 tapiPair false)] 0)))).trans (by kernel_rfl)
theorem node_May.eq (a0 : den tapiNode) : node_May a0 =
  bnd (node_formed a0) fun r0 =>
  br (ltI a0.1 (1 : Int))
   (some (11 : Int))
   (br (ltI (6 : Int) a0.1)
    (some (11 : Int))
    (bnd (node_long a0) fun r1 =>
    br r1
     (some (6 : Int))
     (bnd (node_Same a0 (r0.1, (r0.2.1, (r0.2.2.1, (r0.2.2.2.1, (r0.2.2.2.2.1, (r0.2.2.2.2.2.1, (r0.2.2.2.2.2.2.1, (r0.2.2.2.2.2.2.2.1, ((maxI a0.2.2.2.2.2.2.2.2.1 (0 : Int)), ())))))))))) fun r2 =>
     br (notB r2)
      (some (4 : Int))
      (bnd (node_whole a0) fun r3 =>
      br (notB r3)
       (some (4 : Int))
       (some (0 : Int)))))) :=
  (callW_eq (P := PP) (T := TT) (pr := RR) 44 [⟨tapiNode, a0⟩] [] (.int .i64) []).trans (by kernel_rfl)
theorem node_Refs.eq (a0 : den tapiNode) : node_Refs a0 =
  both
   (bnd (slices_Cloneapi_Ref_api_Ref a0.2.2.2.2.1) fun r0 =>
   br (fitL (.int .i64) (appL (.int .i64) r0.2.1 (a0.2.2.2.2.2.1 :: []))) (node_Refs.l0 (ofN (lenL (.int .i64) (appL (.int .i64) r0.2.1 (a0.2.2.2.2.2.1 :: [])))) (0 : Int) [] (appL (.int .i64) r0.2.1 (a0.2.2.2.2.2.1 :: []))) none)
   (bnd (slices_Cloneapi_Ref_api_Ref a0.2.2.2.2.1) fun r1 =>
   br (fitL (.int .i64) (appL (.int .i64) r1.2.1 (a0.2.2.2.2.2.1 :: []))) (node_Refs.l0 (ofN (lenL (.int .i64) (appL (.int .i64) r1.2.1 (a0.2.2.2.2.2.1 :: [])))) (0 : Int) [] (appL (.int .i64) r1.2.1 (a0.2.2.2.2.2.1 :: []))) none) :=
  (callW_eq (P := PP) (T := TT) (pr := RR) 45 [⟨tapiNode, a0⟩] [] (.list (.int .i64)) []).trans (by kernel_rfl)
theorem node_Refs.l0.eq (x0 : den (.int .i64)) (x1 : den (.int .i64)) (x2 : denO (.row 28 (.int .i64) false)) (x3 : denO (.row 28 (.int .i64) false)) : node_Refs.l0 x0 x1 x2 x3 =
  br (ltI x1 x0)
   (br (andB (leI (0 : Int) x1) (ltI x1 (ofN (lenL (.int .i64) x3)))) (br (notB (eqI (ixL (.int .i64) x3 x1) (0 : Int)))
    (br (fitL (.int .i64) (appL (.int .i64) x2 ((ixL (.int .i64) x3 x1) :: []))) (node_Refs.l0 x0 (addI .i64 x1 (1 : Int)) (appL (.int .i64) x2 ((ixL (.int .i64) x3 x1) :: [])) x3) none)
    (node_Refs.l0 x0 (addI .i64 x1 (1 : Int)) x2 x3)) none)
   (some x2) :=
  (loopB_eq (P := PP) (T := TT) (C := CF) [1, 1, 0, 1, 0, 0] [1, 1, 0, 1, 0, 0] 45 0 ⟨[(3, ⟨(.own (.int .i64) 0), ()⟩), (12, ⟨(.own (.int .i64) 1), ()⟩), (13, ⟨(.int .i64), x0⟩), (14, ⟨(.int .i64), x1⟩)], [⟨(.row 28 (.int .i64) false), x2⟩, ⟨(.row 28 (.int .i64) false), x3⟩]⟩ (blockK 0 (seqK false [1, 1, 1] (BF 45 0 [1, 1, 1]) (finF 45 (.list (.int .i64)) [] 0)))).trans (by kernel_rfl)
theorem ref13_May.eq (a0 : den tapiNode) : ref13_May a0 =
  br (ltI a0.1 (1 : Int))
   (some (11 : Int))
   (br (ltI (6 : Int) a0.1)
    (some (11 : Int))
    (bnd (ref13_long a0) fun r0 =>
    br r0
     (some (6 : Int))
     (bnd (ref13_form a0) fun r1 =>
     br (notB r1)
      (some (4 : Int))
      (some (0 : Int))))) :=
  (callW_eq (P := PP) (T := TT) (pr := RR) 46 [⟨tapiNode, a0⟩] [] (.int .i64) []).trans (by kernel_rfl)
theorem node_Inner.eq (a0 : den (.int .i64)) : node_Inner a0 =
  some ((5 : Int), (ByteArray.empty, (ByteArray.empty, ((0 : Int), ([], (a0, ([], ((0 : Int), ((0 : Int), ()))))))))) :=
  (callW_eq (P := PP) (T := TT) (pr := RR) 47 [⟨(.int .i64), a0⟩] [] tapiNode []).trans (by kernel_rfl)
theorem ref13_Binds.eq (a0 : den tapiNode) : ref13_Binds a0 =
  br (eqI a0.1 (1 : Int))
   (some ((a0.2.1, (a0.2.2.1, ())) :: []))
   (br (eqI a0.1 (4 : Int))
    (some ((a0.2.1, (a0.2.2.1, ())) :: []))
    (br (eqI a0.1 (6 : Int))
     (some ((a0.2.1, (a0.2.2.1, ())) :: []))
     (br (eqI a0.1 (3 : Int))
      (some a0.2.2.2.2.2.2.1)
      (some [])))) :=
  (callW_eq (P := PP) (T := TT) (pr := RR) 48 [⟨tapiNode, a0⟩] [] (.list tapiPair) []).trans (by kernel_rfl)
theorem ref17_mark_o.eq (a0 : den (.list tapiNode)) (a1 : den (.int .i64)) (a2 : denO (.row 4 .bool true)) : ref17_mark_o a0 a1 a2 =
  br (eqI a1 (0 : Int))
   (ref17_mark_o.j0 a0 a1 true a2)
   (br (andB (leI (0 : Int) (subI .i64 a1 (1 : Int))) (ltI (subI .i64 a1 (1 : Int)) (ofN (lenL .bool a2)))) (ref17_mark_o.j0 a0 a1 (ixL .bool a2 (subI .i64 a1 (1 : Int))) a2) none) :=
  (callW_eq (P := PP) (T := TT) (pr := RR) 50 [⟨(.list tapiNode), a0⟩, ⟨(.int .i64), a1⟩, ⟨(.own .bool 0), ()⟩] [⟨(.row 4 .bool true), a2⟩] .tnil [(.row 4 .bool true)]).trans (by kernel_rfl)
theorem ref17_mark_o.j0.eq (x0 : den (.list tapiNode)) (x1 : den (.int .i64)) (x2 : den .bool) (x3 : denO (.row 4 .bool true)) : ref17_mark_o.j0 x0 x1 x2 x3 =
  br x2
   (some ((), (x3, ())))
   (br (andB (leI (0 : Int) (subI .i64 x1 (1 : Int))) (ltI (subI .i64 x1 (1 : Int)) (ofN (lenL .bool x3)))) (br (andB (leI (0 : Int) (subI .i64 x1 (1 : Int))) (ltI (subI .i64 x1 (1 : Int)) (ofN (lenL tapiNode x0)))) (bnd (ref13_Refs (ixL tapiNode x0 (subI .i64 x1 (1 : Int)))) fun r0 =>
   ref17_mark_o.l1 x0 r0 (0 : Int) (setL .bool x3 (subI .i64 x1 (1 : Int)) true)) none) none) :=
  (congrFun (congrFun (jnO_eq [0, 1] (BF (R := denR .tnil [(.row 4 .bool true)]) 50 1 [0, 1])) ⟨[(0, ⟨(.list tapiNode), x0⟩), (1, ⟨(.int .i64), x1⟩), (2, ⟨(.own .bool 0), ()⟩), (16, ⟨.bool, x2⟩)], [⟨(.row 4 .bool true), x3⟩]⟩) (seqK false [1] (BF 50 1 [1]) (finF 50 .tnil [(.row 4 .bool true)] 1))).trans (by kernel_rfl)
theorem ref17_mark_o.l1.eq (x0 : den (.list tapiNode)) (x1 : den (.list (.int .i64))) (x2 : den (.int .i64)) (x3 : denO (.row 4 .bool true)) : ref17_mark_o.l1 x0 x1 x2 x3 =
  br (ltI x2 (ofN (lenL (.int .i64) x1)))
   (br (andB (leI (0 : Int) x2) (ltI x2 (ofN (lenL (.int .i64) x1)))) (bnd (ref17_mark_o x0 (ixL (.int .i64) x1 x2) x3) fun r0 =>
   ref17_mark_o.l1 x0 x1 (addI .i64 x2 (1 : Int)) r0.2.1) none)
   (some ((), (x3, ()))) :=
  (loopB_eq (P := PP) (T := TT) (C := CF) [1, 1, 1, 1, 0, 0] [1, 1, 1, 1, 0, 0] 50 1 ⟨[(0, ⟨(.list tapiNode), x0⟩), (2, ⟨(.own .bool 0), ()⟩), (6, ⟨(.list (.int .i64)), x1⟩), (7, ⟨(.int .i64), x2⟩)], [⟨(.row 4 .bool true), x3⟩]⟩ (blockK 0 (finF 50 .tnil [(.row 4 .bool true)] 1))).trans (by kernel_rfl)
theorem heap_same.eq (a0 : den (.list tapiNode)) (a1 : den (.int .i64)) (a2 : den (.list tapiNode)) (a3 : den (.int .i64)) : heap_same a0 a1 a2 a3 =
  br (eqI a1 (0 : Int))
   (heap_same.j0 a0 a1 a2 a3 true)
   (heap_same.j0 a0 a1 a2 a3 (eqI a3 (0 : Int))) :=
  (callW_eq (P := PP) (T := TT) (pr := RR) 51 [⟨(.list tapiNode), a0⟩, ⟨(.int .i64), a1⟩, ⟨(.list tapiNode), a2⟩, ⟨(.int .i64), a3⟩] [] .bool []).trans (by kernel_rfl)
theorem heap_same.j0.eq (x0 : den (.list tapiNode)) (x1 : den (.int .i64)) (x2 : den (.list tapiNode)) (x3 : den (.int .i64)) (x4 : den .bool) : heap_same.j0 x0 x1 x2 x3 x4 =
  br x4
   (some (eqI x1 x3))
   (br (andB (leI (0 : Int) (subI .i64 x1 (1 : Int))) (ltI (subI .i64 x1 (1 : Int)) (ofN (lenL tapiNode x0)))) (br (andB (leI (0 : Int) (subI .i64 x3 (1 : Int))) (ltI (subI .i64 x3 (1 : Int)) (ofN (lenL tapiNode x2)))) (both
    (both
     (bnd (heap_bare (ixL tapiNode x0 (subI .i64 x1 (1 : Int)))) fun r0 =>
     bnd (heap_bare (ixL tapiNode x2 (subI .i64 x3 (1 : Int)))) fun r1 =>
     bnd (node_Same r0 r1) fun r2 =>
     br (notB r2)
      (some false)
      (bnd (node_Refs (ixL tapiNode x0 (subI .i64 x1 (1 : Int)))) fun r3 =>
      bnd (node_Refs (ixL tapiNode x2 (subI .i64 x3 (1 : Int)))) fun r4 =>
      heap_same.l1 x0 x2 r3 r4 (ofN (lenL (.int .i64) r3)) (0 : Int)))
     (bnd (heap_bare (ixL tapiNode x0 (subI .i64 x1 (1 : Int)))) fun r5 =>
     bnd (heap_bare (ixL tapiNode x2 (subI .i64 x3 (1 : Int)))) fun r6 =>
     bnd (node_Same r5 r6) fun r7 =>
     br (notB r7)
      (some false)
      (bnd (node_Refs (ixL tapiNode x0 (subI .i64 x1 (1 : Int)))) fun r8 =>
      bnd (node_Refs (ixL tapiNode x2 (subI .i64 x3 (1 : Int)))) fun r9 =>
      heap_same.l1 x0 x2 r8 r9 (ofN (lenL (.int .i64) r8)) (0 : Int))))
    (both
     (both
      (bnd (heap_bare (ixL tapiNode x0 (subI .i64 x1 (1 : Int)))) fun r10 =>
      bnd (heap_bare (ixL tapiNode x2 (subI .i64 x3 (1 : Int)))) fun r11 =>
      bnd (node_Same r10 r11) fun r12 =>
      br (notB r12)
       (some false)
       (bnd (node_Refs (ixL tapiNode x0 (subI .i64 x1 (1 : Int)))) fun r13 =>
       bnd (node_Refs (ixL tapiNode x2 (subI .i64 x3 (1 : Int)))) fun r14 =>
       heap_same.l1 x0 x2 r13 r14 (ofN (lenL (.int .i64) r13)) (0 : Int)))
      (both
       (bnd (heap_bare (ixL tapiNode x0 (subI .i64 x1 (1 : Int)))) fun r15 =>
       bnd (heap_bare (ixL tapiNode x2 (subI .i64 x3 (1 : Int)))) fun r16 =>
       bnd (node_Same r15 r16) fun r17 =>
       br (notB r17)
        (some false)
        (bnd (node_Refs (ixL tapiNode x0 (subI .i64 x1 (1 : Int)))) fun r18 =>
        bnd (node_Refs (ixL tapiNode x2 (subI .i64 x3 (1 : Int)))) fun r19 =>
        heap_same.l1 x0 x2 r18 r19 (ofN (lenL (.int .i64) r18)) (0 : Int)))
       (bnd (heap_bare (ixL tapiNode x0 (subI .i64 x1 (1 : Int)))) fun r20 =>
       bnd (heap_bare (ixL tapiNode x2 (subI .i64 x3 (1 : Int)))) fun r21 =>
       bnd (node_Same r20 r21) fun r22 =>
       br (notB r22)
        (some false)
        (bnd (node_Refs (ixL tapiNode x0 (subI .i64 x1 (1 : Int)))) fun r23 =>
        bnd (node_Refs (ixL tapiNode x2 (subI .i64 x3 (1 : Int)))) fun r24 =>
        heap_same.l1 x0 x2 r23 r24 (ofN (lenL (.int .i64) r23)) (0 : Int)))))
     (both
      (bnd (heap_bare (ixL tapiNode x0 (subI .i64 x1 (1 : Int)))) fun r25 =>
      bnd (heap_bare (ixL tapiNode x2 (subI .i64 x3 (1 : Int)))) fun r26 =>
      bnd (node_Same r25 r26) fun r27 =>
      br (notB r27)
       (some false)
       (bnd (node_Refs (ixL tapiNode x0 (subI .i64 x1 (1 : Int)))) fun r28 =>
       bnd (node_Refs (ixL tapiNode x2 (subI .i64 x3 (1 : Int)))) fun r29 =>
       heap_same.l1 x0 x2 r28 r29 (ofN (lenL (.int .i64) r28)) (0 : Int)))
      (both
       (bnd (heap_bare (ixL tapiNode x0 (subI .i64 x1 (1 : Int)))) fun r30 =>
       bnd (heap_bare (ixL tapiNode x2 (subI .i64 x3 (1 : Int)))) fun r31 =>
       bnd (node_Same r30 r31) fun r32 =>
       br (notB r32)
        (some false)
        (bnd (node_Refs (ixL tapiNode x0 (subI .i64 x1 (1 : Int)))) fun r33 =>
        bnd (node_Refs (ixL tapiNode x2 (subI .i64 x3 (1 : Int)))) fun r34 =>
        heap_same.l1 x0 x2 r33 r34 (ofN (lenL (.int .i64) r33)) (0 : Int)))
       (bnd (heap_bare (ixL tapiNode x0 (subI .i64 x1 (1 : Int)))) fun r35 =>
       bnd (heap_bare (ixL tapiNode x2 (subI .i64 x3 (1 : Int)))) fun r36 =>
       bnd (node_Same r35 r36) fun r37 =>
       br (notB r37)
        (some false)
        (bnd (node_Refs (ixL tapiNode x0 (subI .i64 x1 (1 : Int)))) fun r38 =>
        bnd (node_Refs (ixL tapiNode x2 (subI .i64 x3 (1 : Int)))) fun r39 =>
        heap_same.l1 x0 x2 r38 r39 (ofN (lenL (.int .i64) r38)) (0 : Int))))))) none) none) :=
  (congrFun (congrFun (jnO_eq [1, 0, 1] (BF (R := den .bool) 51 0 [1, 0, 1])) ⟨[(0, ⟨(.list tapiNode), x0⟩), (1, ⟨(.int .i64), x1⟩), (2, ⟨(.list tapiNode), x2⟩), (3, ⟨(.int .i64), x3⟩), (19, ⟨.bool, x4⟩)], []⟩) (seqK false [1, 1] (BF 51 0 [1, 1]) (finF 51 .bool [] 0))).trans (by kernel_rfl)
theorem heap_same.l1.eq (x0 : den (.list tapiNode)) (x1 : den (.list tapiNode)) (x2 : den (.list (.int .i64))) (x3 : den (.list (.int .i64))) (x4 : den (.int .i64)) (x5 : den (.int .i64)) : heap_same.l1 x0 x1 x2 x3 x4 x5 =
  br (ltI x5 x4)
   (br (andB (leI (0 : Int) x5) (ltI x5 (ofN (lenL (.int .i64) x2)))) (br (andB (leI (0 : Int) x5) (ltI x5 (ofN (lenL (.int .i64) x3)))) (bnd (heap_same x0 (ixL (.int .i64) x2 x5) x1 (ixL (.int .i64) x3 x5)) fun r0 =>
   br (notB r0)
    (some false)
    (heap_same.l1 x0 x1 x2 x3 x4 (addI .i64 x5 (1 : Int)))) none) none)
   (some true) :=
  (loopB_eq (P := PP) (T := TT) (C := CF) [1, 1, 1, 1, 1, 0, 1, 0, 0] [1, 1, 1, 1, 1, 0, 1, 0, 0] 51 0 ⟨[(0, ⟨(.list tapiNode), x0⟩), (2, ⟨(.list tapiNode), x1⟩), (11, ⟨(.list (.int .i64)), x2⟩), (12, ⟨(.list (.int .i64)), x3⟩), (44, ⟨(.int .i64), x4⟩), (45, ⟨(.int .i64), x5⟩)], []⟩ (blockK 0 (seqK false [1, 1, 1, 1, 1, 1] (BF 51 0 [1, 1, 1, 1, 1, 1]) (finF 51 .bool [] 0)))).trans (by kernel_rfl)
theorem ref17_shape.eq (a0 : den (.list tapiNode)) (a1 : den (.int .i64)) (a2 : den (.list tapiNode)) (a3 : den (.int .i64)) : ref17_shape a0 a1 a2 a3 =
  br (eqI a1 (0 : Int))
   (ref17_shape.j0 a0 a1 a2 a3 true)
   (ref17_shape.j0 a0 a1 a2 a3 (eqI a3 (0 : Int))) :=
  (callW_eq (P := PP) (T := TT) (pr := RR) 52 [⟨(.list tapiNode), a0⟩, ⟨(.int .i64), a1⟩, ⟨(.list tapiNode), a2⟩, ⟨(.int .i64), a3⟩] [] .bool []).trans (by kernel_rfl)
theorem ref17_shape.j0.eq (x0 : den (.list tapiNode)) (x1 : den (.int .i64)) (x2 : den (.list tapiNode)) (x3 : den (.int .i64)) (x4 : den .bool) : ref17_shape.j0 x0 x1 x2 x3 x4 =
  br x4
   (br (eqI x1 (0 : Int))
    (some (eqI x3 (0 : Int)))
    (some false))
   (br (andB (leI (0 : Int) (subI .i64 x1 (1 : Int))) (ltI (subI .i64 x1 (1 : Int)) (ofN (lenL tapiNode x0)))) (br (andB (leI (0 : Int) (subI .i64 x3 (1 : Int))) (ltI (subI .i64 x3 (1 : Int)) (ofN (lenL tapiNode x2)))) (both
    (both
     (br (notB (eqI (ofN (lenL (.int .i64) (ixL tapiNode x0 (subI .i64 x1 (1 : Int))).2.2.2.2.1)) (ofN (lenL (.int .i64) (ixL tapiNode x2 (subI .i64 x3 (1 : Int))).2.2.2.2.1))))
      (some false)
      (ref17_shape.l1 x0 x2 (0 : Int) (ixL tapiNode x0 (subI .i64 x1 (1 : Int))) (ixL tapiNode x2 (subI .i64 x3 (1 : Int)))))
     (br (notB (eqI (ofN (lenL (.int .i64) (ixL tapiNode x0 (subI .i64 x1 (1 : Int))).2.2.2.2.1)) (ofN (lenL (.int .i64) (ixL tapiNode x2 (subI .i64 x3 (1 : Int))).2.2.2.2.1))))
      (some false)
      (ref17_shape.l1 x0 x2 (0 : Int) (ixL tapiNode x0 (subI .i64 x1 (1 : Int))) (ixL tapiNode x2 (subI .i64 x3 (1 : Int))))))
    (both
     (both
      (br (notB (eqI (ofN (lenL (.int .i64) (ixL tapiNode x0 (subI .i64 x1 (1 : Int))).2.2.2.2.1)) (ofN (lenL (.int .i64) (ixL tapiNode x2 (subI .i64 x3 (1 : Int))).2.2.2.2.1))))
       (some false)
       (ref17_shape.l1 x0 x2 (0 : Int) (ixL tapiNode x0 (subI .i64 x1 (1 : Int))) (ixL tapiNode x2 (subI .i64 x3 (1 : Int)))))
      (both
       (br (notB (eqI (ofN (lenL (.int .i64) (ixL tapiNode x0 (subI .i64 x1 (1 : Int))).2.2.2.2.1)) (ofN (lenL (.int .i64) (ixL tapiNode x2 (subI .i64 x3 (1 : Int))).2.2.2.2.1))))
        (some false)
        (ref17_shape.l1 x0 x2 (0 : Int) (ixL tapiNode x0 (subI .i64 x1 (1 : Int))) (ixL tapiNode x2 (subI .i64 x3 (1 : Int)))))
       (br (notB (eqI (ofN (lenL (.int .i64) (ixL tapiNode x0 (subI .i64 x1 (1 : Int))).2.2.2.2.1)) (ofN (lenL (.int .i64) (ixL tapiNode x2 (subI .i64 x3 (1 : Int))).2.2.2.2.1))))
        (some false)
        (ref17_shape.l1 x0 x2 (0 : Int) (ixL tapiNode x0 (subI .i64 x1 (1 : Int))) (ixL tapiNode x2 (subI .i64 x3 (1 : Int)))))))
     (both
      (br (notB (eqI (ofN (lenL (.int .i64) (ixL tapiNode x0 (subI .i64 x1 (1 : Int))).2.2.2.2.1)) (ofN (lenL (.int .i64) (ixL tapiNode x2 (subI .i64 x3 (1 : Int))).2.2.2.2.1))))
       (some false)
       (ref17_shape.l1 x0 x2 (0 : Int) (ixL tapiNode x0 (subI .i64 x1 (1 : Int))) (ixL tapiNode x2 (subI .i64 x3 (1 : Int)))))
      (both
       (br (notB (eqI (ofN (lenL (.int .i64) (ixL tapiNode x0 (subI .i64 x1 (1 : Int))).2.2.2.2.1)) (ofN (lenL (.int .i64) (ixL tapiNode x2 (subI .i64 x3 (1 : Int))).2.2.2.2.1))))
        (some false)
        (ref17_shape.l1 x0 x2 (0 : Int) (ixL tapiNode x0 (subI .i64 x1 (1 : Int))) (ixL tapiNode x2 (subI .i64 x3 (1 : Int)))))
       (br (notB (eqI (ofN (lenL (.int .i64) (ixL tapiNode x0 (subI .i64 x1 (1 : Int))).2.2.2.2.1)) (ofN (lenL (.int .i64) (ixL tapiNode x2 (subI .i64 x3 (1 : Int))).2.2.2.2.1))))
        (some false)
        (ref17_shape.l1 x0 x2 (0 : Int) (ixL tapiNode x0 (subI .i64 x1 (1 : Int))) (ixL tapiNode x2 (subI .i64 x3 (1 : Int))))))))) none) none) :=
  (congrFun (congrFun (jnO_eq [1, 0, 1] (BF (R := den .bool) 52 0 [1, 0, 1])) ⟨[(0, ⟨(.list tapiNode), x0⟩), (1, ⟨(.int .i64), x1⟩), (2, ⟨(.list tapiNode), x2⟩), (3, ⟨(.int .i64), x3⟩), (17, ⟨.bool, x4⟩)], []⟩) (seqK false [1, 1] (BF 52 0 [1, 1]) (finF 52 .bool [] 0))).trans (by kernel_rfl)
theorem ref17_shape.l1.eq (x0 : den (.list tapiNode)) (x1 : den (.list tapiNode)) (x2 : den (.int .i64)) (x3 : denO (.box tapiNode)) (x4 : denO (.box tapiNode)) : ref17_shape.l1 x0 x1 x2 x3 x4 =
  br (ltI x2 (ofN (lenL (.int .i64) x3.2.2.2.2.1)))
   (br (andB (leI (0 : Int) x2) (ltI x2 (ofN (lenL (.int .i64) x3.2.2.2.2.1)))) (br (andB (leI (0 : Int) x2) (ltI x2 (ofN (lenL (.int .i64) x4.2.2.2.2.1)))) (bnd (ref17_shape x0 (ixL (.int .i64) x3.2.2.2.2.1 x2) x1 (ixL (.int .i64) x4.2.2.2.2.1 x2)) fun r0 =>
   br (notB r0)
    (some false)
    (ref17_shape.l1 x0 x1 (addI .i64 x2 (1 : Int)) x3 x4)) none) none)
   (bnd (ref17_shape x0 x3.2.2.2.2.2.1 x1 x4.2.2.2.2.2.1) fun r1 =>
   br (notB r1)
    (some false)
    (bnd (ref13_Same (x3.1, (x3.2.1, (x3.2.2.1, (x3.2.2.2.1, ([], ((0 : Int), (x3.2.2.2.2.2.2.1, (x3.2.2.2.2.2.2.2.1, ((0 : Int), ()))))))))) (x4.1, (x4.2.1, (x4.2.2.1, (x4.2.2.2.1, ([], ((0 : Int), (x4.2.2.2.2.2.2.1, (x4.2.2.2.2.2.2.2.1, ((0 : Int), ())))))))))) fun r2 =>
    some r2)) :=
  (loopB_eq (P := PP) (T := TT) (C := CF) [1, 1, 1, 1, 0, 1, 0, 0] [1, 1, 1, 1, 0, 1, 0, 0] 52 0 ⟨[(0, ⟨(.list tapiNode), x0⟩), (2, ⟨(.list tapiNode), x1⟩), (9, ⟨(.ptr 0 0), ()⟩), (10, ⟨(.ptr 1 0), ()⟩), (11, ⟨(.int .i64), x2⟩)], [⟨(.box tapiNode), x3⟩, ⟨(.box tapiNode), x4⟩]⟩ (blockK 0 (seqK false [1, 1, 1, 1, 1] (BF 52 0 [1, 1, 1, 1, 1]) (finF 52 .bool [] 0)))).trans (by kernel_rfl)
theorem ref21_Bound.eq (a0 : den tapiNode) (a1 : den .str) : ref21_Bound a0 a1 =
  br (eqI a0.1 (3 : Int))
   (bnd (ref07_Get a0.2.2.2.2.2.2.1 a1) fun r0 =>
   some r0)
   (br (eqI a0.1 (1 : Int))
    (br (eqS a0.2.1 a1)
     (some (a0.2.2.1, (true, ())))
     (some (ByteArray.empty, (false, ()))))
    (br (eqI a0.1 (6 : Int))
     (br (eqS a0.2.1 a1)
      (some (a0.2.2.1, (true, ())))
      (some (ByteArray.empty, (false, ()))))
     (some (ByteArray.empty, (false, ()))))) :=
  (callW_eq (P := PP) (T := TT) (pr := RR) 53 [⟨tapiNode, a0⟩, ⟨.str, a1⟩] [] (.tcons .str (.tcons .bool .tnil)) []).trans (by kernel_rfl)
theorem ref21_next.eq (a0 : den tapiNode) (a1 : den .str) (a2 : den (.int .i64)) (a3 : den (.int .i64)) : ref21_next a0 a1 a2 a3 =
  br (eqI a0.1 (5 : Int))
   (some (a0.2.2.2.2.2.1, (a2, ())))
   (br (eqI a0.1 (2 : Int))
    (bnd (ref19_Of a0) fun r0 =>
    bnd (ref04_Of a1 a3) fun r1 =>
    bnd (ref04_Chunk r1 a2 a3) fun r2 =>
    bnd (ref19_Branch_Child r0 r2) fun r3 =>
    some (r3, ((addI .i64 a2 (1 : Int)), ())))
    (some ((0 : Int), (a2, ())))) :=
  (callW_eq (P := PP) (T := TT) (pr := RR) 54 [⟨tapiNode, a0⟩, ⟨.str, a1⟩, ⟨(.int .i64), a2⟩, ⟨(.int .i64), a3⟩] [] (.tcons (.int .i64) (.tcons (.int .i64) .tnil)) []).trans (by kernel_rfl)
theorem hash_Of.eq (a0 : den .str) (a1 : den (.int .i64)) : hash_Of a0 a1 =
  hash_Of.l0 a0 a1 (14695981039346656037 : Int) (ofN (lenS a0)) (0 : Int) :=
  (callW_eq (P := PP) (T := TT) (pr := RR) 55 [⟨.str, a0⟩, ⟨(.int .i64), a1⟩] [] (.int .u64) []).trans (by kernel_rfl)
theorem hash_Of.l0.eq (x0 : den .str) (x1 : den (.int .i64)) (x2 : den (.int .u64)) (x3 : den (.int .i64)) (x4 : den (.int .i64)) : hash_Of.l0 x0 x1 x2 x3 x4 =
  br (ltI x4 x3)
   (br (andB (leI (0 : Int) x4) (ltI x4 (ofN (lenS x0)))) (hash_Of.l0 x0 x1 (mulI .u64 (xorI .u64 x2 (wrapI .u64 (getS x0 (toN x4)))) (1099511628211 : Int)) x3 (addI .i64 x4 (1 : Int))) none)
   (bnd (hash_cut x2 x1) fun r0 =>
   some r0) :=
  (loopB_eq (P := PP) (T := TT) (C := CF) [1, 1, 0, 1, 0, 0] [1, 1, 0, 1, 0, 0] 55 0 ⟨[(0, ⟨.str, x0⟩), (1, ⟨(.int .i64), x1⟩), (5, ⟨(.int .u64), x2⟩), (8, ⟨(.int .i64), x3⟩), (9, ⟨(.int .i64), x4⟩)], []⟩ (blockK 0 (seqK false [1, 1, 1] (BF 55 0 [1, 1, 1]) (finF 55 (.int .u64) [] 0)))).trans (by kernel_rfl)
theorem hash_Chunk.eq (a0 : den (.int .u64)) (a1 : den (.int .i64)) (a2 : den (.int .i64)) : hash_Chunk a0 a1 a2 =
  br (ltI a1 (0 : Int))
   (some (0 : Int))
   (bnd (hash_Levels a2) fun r0 =>
   br (leI r0 a1)
    (some (0 : Int))
    (bnd (hash_cut a0 a2) fun r1 =>
    br (leI (0 : Int) (mulI .i64 (5 : Int) a1)) (some (wrapI .i64 (andI .u64 (shrI .u64 r1 (mulI .i64 (5 : Int) a1)) (31 : Int)))) none)) :=
  (callW_eq (P := PP) (T := TT) (pr := RR) 57 [⟨(.int .u64), a0⟩, ⟨(.int .i64), a1⟩, ⟨(.int .i64), a2⟩] [] (.int .i64) []).trans (by kernel_rfl)
theorem branch_Child.eq (a0 : den tapiNode) (a1 : den (.int .i64)) : branch_Child a0 a1 =
  bnd (branch_branch a0) fun r0 =>
  bnd (mask_Has r0.1.2.2.2.1 a1) fun r1 =>
  br (notB r1)
   (some (0 : Int))
   (bnd (mask_Place r0.1.2.2.2.1 a1) fun r2 =>
   br (andB (leI (0 : Int) r2) (ltI r2 (ofN (lenL (.int .i64) r0.2.1)))) (some (ixL (.int .i64) r0.2.1 r2)) none) :=
  (callW_eq (P := PP) (T := TT) (pr := RR) 56 [⟨tapiNode, a0⟩, ⟨(.int .i64), a1⟩] [] (.int .i64) []).trans (by kernel_rfl)
theorem node_Binds.eq (a0 : den tapiNode) : node_Binds a0 =
  br (eqI a0.1 (1 : Int))
   (some ((), (((a0.2.1, (a0.2.2.1, ())) :: []), ())))
   (br (eqI a0.1 (6 : Int))
    (some ((), (((a0.2.1, (a0.2.2.1, ())) :: []), ())))
    (br (eqI a0.1 (4 : Int))
     (some ((), (((a0.2.1, (a0.2.2.1, ())) :: []), ())))
     (br (eqI a0.1 (3 : Int))
      (bnd (slices_Cloneapi_Pair_api_Pair a0.2.2.2.2.2.2.1) fun r0 =>
      some ((), (r0.2.1, ())))
      (some ((), ([], ())))))) :=
  (callW_eq (P := PP) (T := TT) (pr := RR) 59 [⟨tapiNode, a0⟩] [] (.own tapiPair 0) [(.row 75 tapiPair false)]).trans (by kernel_rfl)
theorem pair_Get.eq (a0 : den (.list tapiPair)) (a1 : den .str) : pair_Get a0 a1 =
  bnd (pair_ordered a0) fun r0 =>
  bnd (pair_place r0 a1) fun r1 =>
  br (notB r1.2.1)
   (some (ByteArray.empty, (false, ())))
   (br (andB (leI (0 : Int) r1.1) (ltI r1.1 (ofN (lenL tapiPair r0)))) (some ((ixL tapiPair r0 r1.1).2.1, (true, ()))) none) :=
  (callW_eq (P := PP) (T := TT) (pr := RR) 58 [⟨(.list tapiPair), a0⟩, ⟨.str, a1⟩] [] (.tcons .str (.tcons .bool .tnil)) []).trans (by kernel_rfl)
theorem ref07_Make.eq (a0 : den (.list tapiPair)) : ref07_Make a0 =
  ref07_Make.l0 a0 (0 : Int) [] :=
  (callW_eq (P := PP) (T := TT) (pr := RR) 60 [⟨(.list tapiPair), a0⟩] [] (.list tapiPair) []).trans (by kernel_rfl)
theorem ref07_Make.l0.eq (x0 : den (.list tapiPair)) (x1 : den (.int .i64)) (x2 : denO (.row 75 tapiPair false)) : ref07_Make.l0 x0 x1 x2 =
  br (ltI x1 (ofN (lenL tapiPair x0)))
   (bnd (ref07_last x0 x1) fun r0 =>
   br (notB r0)
    (ref07_Make.l0 x0 (addI .i64 x1 (1 : Int)) x2)
    (ref07_Make.l1 x0 x1 (0 : Int) x2))
   (some x2) :=
  (loopB_eq (P := PP) (T := TT) (C := CF) [1, 1, 0, 1, 0, 0] [1, 1, 0, 1, 0, 0] 60 0 ⟨[(0, ⟨(.list tapiPair), x0⟩), (3, ⟨(.own tapiPair 0), ()⟩), (4, ⟨(.int .i64), x1⟩)], [⟨(.row 75 tapiPair false), x2⟩]⟩ (blockK 0 (seqK false [1, 1, 1] (BF 60 0 [1, 1, 1]) (finF 60 (.list tapiPair) [] 0)))).trans (by kernel_rfl)
theorem ref07_Make.l1.eq (x0 : den (.list tapiPair)) (x1 : den (.int .i64)) (x2 : den (.int .i64)) (x3 : denO (.row 75 tapiPair false)) : ref07_Make.l1 x0 x1 x2 x3 =
  br (ltI x2 (ofN (lenL tapiPair x3)))
   (br (andB (leI (0 : Int) x2) (ltI x2 (ofN (lenL tapiPair x3)))) (br (andB (leI (0 : Int) x1) (ltI x1 (ofN (lenL tapiPair x0)))) (bnd (ref01_Less (ixL tapiPair x3 x2).1 (ixL tapiPair x0 x1).1) fun r0 =>
   ref07_Make.j2 x0 x1 x2 r0 x3) none) none)
   (ref07_Make.j2 x0 x1 x2 false x3) :=
  (loopB_eq (P := PP) (T := TT) (C := CF) [1, 1, 0, 1, 0, 0, 1, 0, 0, 1, 1, 0, 0, 0] [1, 1, 0, 1, 0, 0, 1, 0, 0, 1, 1, 0, 0, 0] 60 0 ⟨[(0, ⟨(.list tapiPair), x0⟩), (3, ⟨(.own tapiPair 0), ()⟩), (4, ⟨(.int .i64), x1⟩), (5, ⟨(.int .i64), x2⟩)], [⟨(.row 75 tapiPair false), x3⟩]⟩ (blockK 2 (seqK false [1, 1, 0, 1, 0, 0, 1, 0, 0, 1, 1, 1] (BF 60 0 [1, 1, 0, 1, 0, 0, 1, 0, 0, 1, 1, 1]) (blockK 1 (seqK false [1, 1, 0, 1, 0, 0, 1, 1] (BF 60 0 [1, 1, 0, 1, 0, 0, 1, 1]) (againK [1, 1, 0, 1, 0, 0] (loopW [1, 1, 0, 1, 0, 0] (BF 60 0 [1, 1, 0, 1, 0, 0])) (blockK 0 (seqK false [1, 1, 1] (BF 60 0 [1, 1, 1]) (finF 60 (.list tapiPair) [] 0))))))))).trans (by kernel_rfl)
theorem ref07_Make.j2.eq (x0 : den (.list tapiPair)) (x1 : den (.int .i64)) (x2 : den (.int .i64)) (x3 : den .bool) (x4 : denO (.row 75 tapiPair false)) : ref07_Make.j2 x0 x1 x2 x3 x4 =
  br x3
   (ref07_Make.l1 x0 x1 (addI .i64 x2 (1 : Int)) x4)
   (br (andB (leI (0 : Int) x1) (ltI x1 (ofN (lenL tapiPair x0)))) (both
    (both
     (br (andB (leI (0 : Int) (0 : Int)) (andB (leI (0 : Int) x2) (leI x2 (ofN (lenL tapiPair x4))))) (br (andB (leI (0 : Int) x2) (andB (leI x2 (ofN (lenL tapiPair x4))) (leI (ofN (lenL tapiPair x4)) (ofN (lenL tapiPair x4))))) (both
      (br (fitL tapiPair (appL tapiPair [] (subL tapiPair x4 (toN (0 : Int)) (toN x2)))) (br (fitL tapiPair (appL tapiPair (appL tapiPair [] (subL tapiPair x4 (toN (0 : Int)) (toN x2))) ((ixL tapiPair x0 x1) :: []))) (br (fitL tapiPair (appL tapiPair (appL tapiPair (appL tapiPair [] (subL tapiPair x4 (toN (0 : Int)) (toN x2))) ((ixL tapiPair x0 x1) :: [])) (subL tapiPair x4 (toN x2) (toN (ofN (lenL tapiPair x4)))))) (ref07_Make.l0 x0 (addI .i64 x1 (1 : Int)) (appL tapiPair (appL tapiPair (appL tapiPair [] (subL tapiPair x4 (toN (0 : Int)) (toN x2))) ((ixL tapiPair x0 x1) :: [])) (subL tapiPair x4 (toN x2) (toN (ofN (lenL tapiPair x4)))))) none) none) none)
      (br (fitL tapiPair (appL tapiPair [] (subL tapiPair x4 (toN (0 : Int)) (toN x2)))) (br (fitL tapiPair (appL tapiPair (appL tapiPair [] (subL tapiPair x4 (toN (0 : Int)) (toN x2))) ((ixL tapiPair x0 x1) :: []))) (br (fitL tapiPair (appL tapiPair (appL tapiPair (appL tapiPair [] (subL tapiPair x4 (toN (0 : Int)) (toN x2))) ((ixL tapiPair x0 x1) :: [])) (subL tapiPair x4 (toN x2) (toN (ofN (lenL tapiPair x4)))))) (ref07_Make.l0 x0 (addI .i64 x1 (1 : Int)) (appL tapiPair (appL tapiPair (appL tapiPair [] (subL tapiPair x4 (toN (0 : Int)) (toN x2))) ((ixL tapiPair x0 x1) :: [])) (subL tapiPair x4 (toN x2) (toN (ofN (lenL tapiPair x4)))))) none) none) none)) none) none)
     (both
      (both
       (br (andB (leI (0 : Int) (0 : Int)) (andB (leI (0 : Int) x2) (leI x2 (ofN (lenL tapiPair x4))))) (br (andB (leI (0 : Int) x2) (andB (leI x2 (ofN (lenL tapiPair x4))) (leI (ofN (lenL tapiPair x4)) (ofN (lenL tapiPair x4))))) (br (fitL tapiPair (appL tapiPair [] (subL tapiPair x4 (toN (0 : Int)) (toN x2)))) (br (fitL tapiPair (appL tapiPair (appL tapiPair [] (subL tapiPair x4 (toN (0 : Int)) (toN x2))) ((ixL tapiPair x0 x1) :: []))) (br (fitL tapiPair (appL tapiPair (appL tapiPair (appL tapiPair [] (subL tapiPair x4 (toN (0 : Int)) (toN x2))) ((ixL tapiPair x0 x1) :: [])) (subL tapiPair x4 (toN x2) (toN (ofN (lenL tapiPair x4)))))) (ref07_Make.l0 x0 (addI .i64 x1 (1 : Int)) (appL tapiPair (appL tapiPair (appL tapiPair [] (subL tapiPair x4 (toN (0 : Int)) (toN x2))) ((ixL tapiPair x0 x1) :: [])) (subL tapiPair x4 (toN x2) (toN (ofN (lenL tapiPair x4)))))) none) none) none) none) none)
       (br (andB (leI (0 : Int) x2) (andB (leI x2 (ofN (lenL tapiPair x4))) (leI (ofN (lenL tapiPair x4)) (ofN (lenL tapiPair x4))))) (br (andB (leI (0 : Int) (0 : Int)) (andB (leI (0 : Int) x2) (leI x2 (ofN (lenL tapiPair x4))))) (br (fitL tapiPair (appL tapiPair [] (subL tapiPair x4 (toN (0 : Int)) (toN x2)))) (br (fitL tapiPair (appL tapiPair (appL tapiPair [] (subL tapiPair x4 (toN (0 : Int)) (toN x2))) ((ixL tapiPair x0 x1) :: []))) (br (fitL tapiPair (appL tapiPair (appL tapiPair (appL tapiPair [] (subL tapiPair x4 (toN (0 : Int)) (toN x2))) ((ixL tapiPair x0 x1) :: [])) (subL tapiPair x4 (toN x2) (toN (ofN (lenL tapiPair x4)))))) (ref07_Make.l0 x0 (addI .i64 x1 (1 : Int)) (appL tapiPair (appL tapiPair (appL tapiPair [] (subL tapiPair x4 (toN (0 : Int)) (toN x2))) ((ixL tapiPair x0 x1) :: [])) (subL tapiPair x4 (toN x2) (toN (ofN (lenL tapiPair x4)))))) none) none) none) none) none))
      (br (andB (leI (0 : Int) x2) (andB (leI x2 (ofN (lenL tapiPair x4))) (leI (ofN (lenL tapiPair x4)) (ofN (lenL tapiPair x4))))) (br (andB (leI (0 : Int) (0 : Int)) (andB (leI (0 : Int) x2) (leI x2 (ofN (lenL tapiPair x4))))) (both
       (br (fitL tapiPair (appL tapiPair [] (subL tapiPair x4 (toN (0 : Int)) (toN x2)))) (br (fitL tapiPair (appL tapiPair (appL tapiPair [] (subL tapiPair x4 (toN (0 : Int)) (toN x2))) ((ixL tapiPair x0 x1) :: []))) (br (fitL tapiPair (appL tapiPair (appL tapiPair (appL tapiPair [] (subL tapiPair x4 (toN (0 : Int)) (toN x2))) ((ixL tapiPair x0 x1) :: [])) (subL tapiPair x4 (toN x2) (toN (ofN (lenL tapiPair x4)))))) (ref07_Make.l0 x0 (addI .i64 x1 (1 : Int)) (appL tapiPair (appL tapiPair (appL tapiPair [] (subL tapiPair x4 (toN (0 : Int)) (toN x2))) ((ixL tapiPair x0 x1) :: [])) (subL tapiPair x4 (toN x2) (toN (ofN (lenL tapiPair x4)))))) none) none) none)
       (br (fitL tapiPair (appL tapiPair [] (subL tapiPair x4 (toN (0 : Int)) (toN x2)))) (br (fitL tapiPair (appL tapiPair (appL tapiPair [] (subL tapiPair x4 (toN (0 : Int)) (toN x2))) ((ixL tapiPair x0 x1) :: []))) (br (fitL tapiPair (appL tapiPair (appL tapiPair (appL tapiPair [] (subL tapiPair x4 (toN (0 : Int)) (toN x2))) ((ixL tapiPair x0 x1) :: [])) (subL tapiPair x4 (toN x2) (toN (ofN (lenL tapiPair x4)))))) (ref07_Make.l0 x0 (addI .i64 x1 (1 : Int)) (appL tapiPair (appL tapiPair (appL tapiPair [] (subL tapiPair x4 (toN (0 : Int)) (toN x2))) ((ixL tapiPair x0 x1) :: [])) (subL tapiPair x4 (toN x2) (toN (ofN (lenL tapiPair x4)))))) none) none) none)) none) none)))
    (both
     (br (andB (leI (0 : Int) (0 : Int)) (andB (leI (0 : Int) x2) (leI x2 (ofN (lenL tapiPair x4))))) (br (andB (leI (0 : Int) x2) (andB (leI x2 (ofN (lenL tapiPair x4))) (leI (ofN (lenL tapiPair x4)) (ofN (lenL tapiPair x4))))) (both
      (both
       (br (fitL tapiPair (appL tapiPair [] (subL tapiPair x4 (toN (0 : Int)) (toN x2)))) (br (fitL tapiPair (appL tapiPair (appL tapiPair [] (subL tapiPair x4 (toN (0 : Int)) (toN x2))) ((ixL tapiPair x0 x1) :: []))) (br (fitL tapiPair (appL tapiPair (appL tapiPair (appL tapiPair [] (subL tapiPair x4 (toN (0 : Int)) (toN x2))) ((ixL tapiPair x0 x1) :: [])) (subL tapiPair x4 (toN x2) (toN (ofN (lenL tapiPair x4)))))) (ref07_Make.l0 x0 (addI .i64 x1 (1 : Int)) (appL tapiPair (appL tapiPair (appL tapiPair [] (subL tapiPair x4 (toN (0 : Int)) (toN x2))) ((ixL tapiPair x0 x1) :: [])) (subL tapiPair x4 (toN x2) (toN (ofN (lenL tapiPair x4)))))) none) none) none)
       (br (fitL tapiPair (appL tapiPair [] (subL tapiPair x4 (toN (0 : Int)) (toN x2)))) (br (fitL tapiPair (appL tapiPair (appL tapiPair [] (subL tapiPair x4 (toN (0 : Int)) (toN x2))) ((ixL tapiPair x0 x1) :: []))) (br (fitL tapiPair (appL tapiPair (appL tapiPair (appL tapiPair [] (subL tapiPair x4 (toN (0 : Int)) (toN x2))) ((ixL tapiPair x0 x1) :: [])) (subL tapiPair x4 (toN x2) (toN (ofN (lenL tapiPair x4)))))) (ref07_Make.l0 x0 (addI .i64 x1 (1 : Int)) (appL tapiPair (appL tapiPair (appL tapiPair [] (subL tapiPair x4 (toN (0 : Int)) (toN x2))) ((ixL tapiPair x0 x1) :: [])) (subL tapiPair x4 (toN x2) (toN (ofN (lenL tapiPair x4)))))) none) none) none))
      (br (fitL tapiPair (appL tapiPair [] (subL tapiPair x4 (toN (0 : Int)) (toN x2)))) (br (fitL tapiPair (appL tapiPair (appL tapiPair [] (subL tapiPair x4 (toN (0 : Int)) (toN x2))) ((ixL tapiPair x0 x1) :: []))) (br (fitL tapiPair (appL tapiPair (appL tapiPair (appL tapiPair [] (subL tapiPair x4 (toN (0 : Int)) (toN x2))) ((ixL tapiPair x0 x1) :: [])) (subL tapiPair x4 (toN x2) (toN (ofN (lenL tapiPair x4)))))) (ref07_Make.l0 x0 (addI .i64 x1 (1 : Int)) (appL tapiPair (appL tapiPair (appL tapiPair [] (subL tapiPair x4 (toN (0 : Int)) (toN x2))) ((ixL tapiPair x0 x1) :: [])) (subL tapiPair x4 (toN x2) (toN (ofN (lenL tapiPair x4)))))) none) none) none)) none) none)
     (both
      (both
       (both
        (br (andB (leI (0 : Int) (0 : Int)) (andB (leI (0 : Int) x2) (leI x2 (ofN (lenL tapiPair x4))))) (br (andB (leI (0 : Int) x2) (andB (leI x2 (ofN (lenL tapiPair x4))) (leI (ofN (lenL tapiPair x4)) (ofN (lenL tapiPair x4))))) (br (fitL tapiPair (appL tapiPair [] (subL tapiPair x4 (toN (0 : Int)) (toN x2)))) (br (fitL tapiPair (appL tapiPair (appL tapiPair [] (subL tapiPair x4 (toN (0 : Int)) (toN x2))) ((ixL tapiPair x0 x1) :: []))) (br (fitL tapiPair (appL tapiPair (appL tapiPair (appL tapiPair [] (subL tapiPair x4 (toN (0 : Int)) (toN x2))) ((ixL tapiPair x0 x1) :: [])) (subL tapiPair x4 (toN x2) (toN (ofN (lenL tapiPair x4)))))) (ref07_Make.l0 x0 (addI .i64 x1 (1 : Int)) (appL tapiPair (appL tapiPair (appL tapiPair [] (subL tapiPair x4 (toN (0 : Int)) (toN x2))) ((ixL tapiPair x0 x1) :: [])) (subL tapiPair x4 (toN x2) (toN (ofN (lenL tapiPair x4)))))) none) none) none) none) none)
        (br (andB (leI (0 : Int) x2) (andB (leI x2 (ofN (lenL tapiPair x4))) (leI (ofN (lenL tapiPair x4)) (ofN (lenL tapiPair x4))))) (br (andB (leI (0 : Int) (0 : Int)) (andB (leI (0 : Int) x2) (leI x2 (ofN (lenL tapiPair x4))))) (br (fitL tapiPair (appL tapiPair [] (subL tapiPair x4 (toN (0 : Int)) (toN x2)))) (br (fitL tapiPair (appL tapiPair (appL tapiPair [] (subL tapiPair x4 (toN (0 : Int)) (toN x2))) ((ixL tapiPair x0 x1) :: []))) (br (fitL tapiPair (appL tapiPair (appL tapiPair (appL tapiPair [] (subL tapiPair x4 (toN (0 : Int)) (toN x2))) ((ixL tapiPair x0 x1) :: [])) (subL tapiPair x4 (toN x2) (toN (ofN (lenL tapiPair x4)))))) (ref07_Make.l0 x0 (addI .i64 x1 (1 : Int)) (appL tapiPair (appL tapiPair (appL tapiPair [] (subL tapiPair x4 (toN (0 : Int)) (toN x2))) ((ixL tapiPair x0 x1) :: [])) (subL tapiPair x4 (toN x2) (toN (ofN (lenL tapiPair x4)))))) none) none) none) none) none))
       (both
        (br (andB (leI (0 : Int) (0 : Int)) (andB (leI (0 : Int) x2) (leI x2 (ofN (lenL tapiPair x4))))) (br (andB (leI (0 : Int) x2) (andB (leI x2 (ofN (lenL tapiPair x4))) (leI (ofN (lenL tapiPair x4)) (ofN (lenL tapiPair x4))))) (br (fitL tapiPair (appL tapiPair [] (subL tapiPair x4 (toN (0 : Int)) (toN x2)))) (br (fitL tapiPair (appL tapiPair (appL tapiPair [] (subL tapiPair x4 (toN (0 : Int)) (toN x2))) ((ixL tapiPair x0 x1) :: []))) (br (fitL tapiPair (appL tapiPair (appL tapiPair (appL tapiPair [] (subL tapiPair x4 (toN (0 : Int)) (toN x2))) ((ixL tapiPair x0 x1) :: [])) (subL tapiPair x4 (toN x2) (toN (ofN (lenL tapiPair x4)))))) (ref07_Make.l0 x0 (addI .i64 x1 (1 : Int)) (appL tapiPair (appL tapiPair (appL tapiPair [] (subL tapiPair x4 (toN (0 : Int)) (toN x2))) ((ixL tapiPair x0 x1) :: [])) (subL tapiPair x4 (toN x2) (toN (ofN (lenL tapiPair x4)))))) none) none) none) none) none)
        (br (andB (leI (0 : Int) x2) (andB (leI x2 (ofN (lenL tapiPair x4))) (leI (ofN (lenL tapiPair x4)) (ofN (lenL tapiPair x4))))) (br (andB (leI (0 : Int) (0 : Int)) (andB (leI (0 : Int) x2) (leI x2 (ofN (lenL tapiPair x4))))) (br (fitL tapiPair (appL tapiPair [] (subL tapiPair x4 (toN (0 : Int)) (toN x2)))) (br (fitL tapiPair (appL tapiPair (appL tapiPair [] (subL tapiPair x4 (toN (0 : Int)) (toN x2))) ((ixL tapiPair x0 x1) :: []))) (br (fitL tapiPair (appL tapiPair (appL tapiPair (appL tapiPair [] (subL tapiPair x4 (toN (0 : Int)) (toN x2))) ((ixL tapiPair x0 x1) :: [])) (subL tapiPair x4 (toN x2) (toN (ofN (lenL tapiPair x4)))))) (ref07_Make.l0 x0 (addI .i64 x1 (1 : Int)) (appL tapiPair (appL tapiPair (appL tapiPair [] (subL tapiPair x4 (toN (0 : Int)) (toN x2))) ((ixL tapiPair x0 x1) :: [])) (subL tapiPair x4 (toN x2) (toN (ofN (lenL tapiPair x4)))))) none) none) none) none) none)))
      (br (andB (leI (0 : Int) x2) (andB (leI x2 (ofN (lenL tapiPair x4))) (leI (ofN (lenL tapiPair x4)) (ofN (lenL tapiPair x4))))) (br (andB (leI (0 : Int) (0 : Int)) (andB (leI (0 : Int) x2) (leI x2 (ofN (lenL tapiPair x4))))) (both
       (both
        (br (fitL tapiPair (appL tapiPair [] (subL tapiPair x4 (toN (0 : Int)) (toN x2)))) (br (fitL tapiPair (appL tapiPair (appL tapiPair [] (subL tapiPair x4 (toN (0 : Int)) (toN x2))) ((ixL tapiPair x0 x1) :: []))) (br (fitL tapiPair (appL tapiPair (appL tapiPair (appL tapiPair [] (subL tapiPair x4 (toN (0 : Int)) (toN x2))) ((ixL tapiPair x0 x1) :: [])) (subL tapiPair x4 (toN x2) (toN (ofN (lenL tapiPair x4)))))) (ref07_Make.l0 x0 (addI .i64 x1 (1 : Int)) (appL tapiPair (appL tapiPair (appL tapiPair [] (subL tapiPair x4 (toN (0 : Int)) (toN x2))) ((ixL tapiPair x0 x1) :: [])) (subL tapiPair x4 (toN x2) (toN (ofN (lenL tapiPair x4)))))) none) none) none)
        (br (fitL tapiPair (appL tapiPair [] (subL tapiPair x4 (toN (0 : Int)) (toN x2)))) (br (fitL tapiPair (appL tapiPair (appL tapiPair [] (subL tapiPair x4 (toN (0 : Int)) (toN x2))) ((ixL tapiPair x0 x1) :: []))) (br (fitL tapiPair (appL tapiPair (appL tapiPair (appL tapiPair [] (subL tapiPair x4 (toN (0 : Int)) (toN x2))) ((ixL tapiPair x0 x1) :: [])) (subL tapiPair x4 (toN x2) (toN (ofN (lenL tapiPair x4)))))) (ref07_Make.l0 x0 (addI .i64 x1 (1 : Int)) (appL tapiPair (appL tapiPair (appL tapiPair [] (subL tapiPair x4 (toN (0 : Int)) (toN x2))) ((ixL tapiPair x0 x1) :: [])) (subL tapiPair x4 (toN x2) (toN (ofN (lenL tapiPair x4)))))) none) none) none))
       (br (fitL tapiPair (appL tapiPair [] (subL tapiPair x4 (toN (0 : Int)) (toN x2)))) (br (fitL tapiPair (appL tapiPair (appL tapiPair [] (subL tapiPair x4 (toN (0 : Int)) (toN x2))) ((ixL tapiPair x0 x1) :: []))) (br (fitL tapiPair (appL tapiPair (appL tapiPair (appL tapiPair [] (subL tapiPair x4 (toN (0 : Int)) (toN x2))) ((ixL tapiPair x0 x1) :: [])) (subL tapiPair x4 (toN x2) (toN (ofN (lenL tapiPair x4)))))) (ref07_Make.l0 x0 (addI .i64 x1 (1 : Int)) (appL tapiPair (appL tapiPair (appL tapiPair [] (subL tapiPair x4 (toN (0 : Int)) (toN x2))) ((ixL tapiPair x0 x1) :: [])) (subL tapiPair x4 (toN x2) (toN (ofN (lenL tapiPair x4)))))) none) none) none)) none) none)))) none) :=
  (congrFun (congrFun (jnO_eq [1, 1, 0, 1, 0, 0, 1, 0, 0, 1, 1, 0, 0, 0, 0, 1] (BF (R := den (.list tapiPair)) 60 0 [1, 1, 0, 1, 0, 0, 1, 0, 0, 1, 1, 0, 0, 0, 0, 1])) ⟨[(0, ⟨(.list tapiPair), x0⟩), (3, ⟨(.own tapiPair 0), ()⟩), (4, ⟨(.int .i64), x1⟩), (5, ⟨(.int .i64), x2⟩), (33, ⟨.bool, x3⟩)], [⟨(.row 75 tapiPair false), x4⟩]⟩) (seqK false [1, 1, 0, 1, 0, 0, 1, 0, 0, 1, 1, 0, 0, 0, 1] (BF 60 0 [1, 1, 0, 1, 0, 0, 1, 0, 0, 1, 1, 0, 0, 0, 1]) (againK [1, 1, 0, 1, 0, 0, 1, 0, 0, 1, 1, 0, 0, 0] (loopW [1, 1, 0, 1, 0, 0, 1, 0, 0, 1, 1, 0, 0, 0] (BF 60 0 [1, 1, 0, 1, 0, 0, 1, 0, 0, 1, 1, 0, 0, 0])) (blockK 2 (seqK false [1, 1, 0, 1, 0, 0, 1, 0, 0, 1, 1, 1] (BF 60 0 [1, 1, 0, 1, 0, 0, 1, 0, 0, 1, 1, 1]) (blockK 1 (seqK false [1, 1, 0, 1, 0, 0, 1, 1] (BF 60 0 [1, 1, 0, 1, 0, 0, 1, 1]) (againK [1, 1, 0, 1, 0, 0] (loopW [1, 1, 0, 1, 0, 0] (BF 60 0 [1, 1, 0, 1, 0, 0])) (blockK 0 (seqK false [1, 1, 1] (BF 60 0 [1, 1, 1]) (finF 60 (.list tapiPair) [] 0))))))))))).trans (by kernel_rfl)
theorem ref20_make1.eq (a0 : den (.int .i64)) (a1 : den (.list tapiPair)) (a2 : den (.int .i64)) (a3 : denO (.row 60 tapiNode true)) : ref20_make1 a0 a1 a2 a3 =
  br (eqI (ofN (lenL tapiPair a1)) (0 : Int))
   (some (((), ((0 : Int), ())), (a3, ())))
   (br (eqI (ofN (lenL tapiPair a1)) (1 : Int))
    (br (andB (leI (0 : Int) (0 : Int)) (ltI (0 : Int) (ofN (lenL tapiPair a1)))) (br (andB (leI (0 : Int) (0 : Int)) (ltI (0 : Int) (ofN (lenL tapiPair a1)))) (both
     (br (fitL tapiNode (appL tapiNode a3 (((1 : Int), ((ixL tapiPair a1 (0 : Int)).1, ((ixL tapiPair a1 (0 : Int)).2.1, ((0 : Int), ([], ((0 : Int), ([], ((1 : Int), ((0 : Int), ()))))))))) :: []))) (some (((), ((ofN (lenL tapiNode (appL tapiNode a3 (((1 : Int), ((ixL tapiPair a1 (0 : Int)).1, ((ixL tapiPair a1 (0 : Int)).2.1, ((0 : Int), ([], ((0 : Int), ([], ((1 : Int), ((0 : Int), ()))))))))) :: [])))), ())), ((appL tapiNode a3 (((1 : Int), ((ixL tapiPair a1 (0 : Int)).1, ((ixL tapiPair a1 (0 : Int)).2.1, ((0 : Int), ([], ((0 : Int), ([], ((1 : Int), ((0 : Int), ()))))))))) :: [])), ()))) none)
     (br (fitL tapiNode (appL tapiNode a3 (((1 : Int), ((ixL tapiPair a1 (0 : Int)).1, ((ixL tapiPair a1 (0 : Int)).2.1, ((0 : Int), ([], ((0 : Int), ([], ((1 : Int), ((0 : Int), ()))))))))) :: []))) (some (((), ((ofN (lenL tapiNode (appL tapiNode a3 (((1 : Int), ((ixL tapiPair a1 (0 : Int)).1, ((ixL tapiPair a1 (0 : Int)).2.1, ((0 : Int), ([], ((0 : Int), ([], ((1 : Int), ((0 : Int), ()))))))))) :: [])))), ())), ((appL tapiNode a3 (((1 : Int), ((ixL tapiPair a1 (0 : Int)).1, ((ixL tapiPair a1 (0 : Int)).2.1, ((0 : Int), ([], ((0 : Int), ([], ((1 : Int), ((0 : Int), ()))))))))) :: [])), ()))) none)) none) none)
    (bnd (ref04_Levels a0) fun r0 =>
    br (leI r0 a2)
     (br (fitL tapiNode (appL tapiNode a3 (((3 : Int), (ByteArray.empty, (ByteArray.empty, ((0 : Int), ([], ((0 : Int), (a1, ((ofN (lenL tapiPair a1)), ((0 : Int), ()))))))))) :: []))) (some (((), ((ofN (lenL tapiNode (appL tapiNode a3 (((3 : Int), (ByteArray.empty, (ByteArray.empty, ((0 : Int), ([], ((0 : Int), (a1, ((ofN (lenL tapiPair a1)), ((0 : Int), ()))))))))) :: [])))), ())), ((appL tapiNode a3 (((3 : Int), (ByteArray.empty, (ByteArray.empty, ((0 : Int), ([], ((0 : Int), (a1, ((ofN (lenL tapiPair a1)), ((0 : Int), ()))))))))) :: [])), ()))) none)
     (ref20_make1.l0 a0 a1 a2 (1 : Int) (0 : Int) a3 ((2 : Int), (ByteArray.empty, (ByteArray.empty, ((0 : Int), ((), ((0 : Int), ((), ((ofN (lenL tapiPair a1)), ((0 : Int), ())))))))))))) :=
  (callW_eq (P := PP) (T := TT) (pr := RR) 61 [⟨(.own tapiNode 0), ()⟩, ⟨(.int .i64), a0⟩, ⟨(.list tapiPair), a1⟩, ⟨(.int .i64), a2⟩] [⟨(.row 60 tapiNode true), a3⟩] (.tcons (.own tapiNode 0) (.tcons (.int .i64) .tnil)) [(.row 60 tapiNode false)]).trans (by kernel_rfl)
theorem ref20_make1.l0.eq (x0 : den (.int .i64)) (x1 : den (.list tapiPair)) (x2 : den (.int .i64)) (x3 : den (.int .u32)) (x4 : den (.int .i64)) (x5 : denO (.row 60 tapiNode true)) (x6 : denO (.box (.pair (.int .i64) (.pair .str (.pair .str (.pair (.int .u32) (.pair (.nil 28) (.pair (.int .i64) (.pair (.nil 75) (.pair (.int .i64) (.pair (.int .i64) .unit))))))))))) : ref20_make1.l0 x0 x1 x2 x3 x4 x5 x6 =
  br (ltI x4 (32 : Int))
   (ref20_make1.l1 x0 x1 x2 x3 x4 (0 : Int) x5 x6 [])
   (br (fitL tapiNode (appL tapiNode x5 ((x6.1, (x6.2.1, (x6.2.2.1, (x6.2.2.2.1, ([], (x6.2.2.2.2.2.1, ([], x6.2.2.2.2.2.2.2))))))) :: []))) (some (((), ((ofN (lenL tapiNode (appL tapiNode x5 ((x6.1, (x6.2.1, (x6.2.2.1, (x6.2.2.2.1, ([], (x6.2.2.2.2.2.1, ([], x6.2.2.2.2.2.2.2))))))) :: [])))), ())), ((appL tapiNode x5 ((x6.1, (x6.2.1, (x6.2.2.1, (x6.2.2.2.1, ([], (x6.2.2.2.2.2.1, ([], x6.2.2.2.2.2.2.2))))))) :: [])), ()))) none) :=
  (loopB_eq (P := PP) (T := TT) (C := CF) [1, 1, 1, 0, 1, 1, 1, 1, 1, 1, 1, 0, 0] [1, 1, 1, 0, 1, 1, 1, 1, 1, 1, 1, 0, 0] 61 1 ⟨[(0, ⟨(.own tapiNode 0), ()⟩), (1, ⟨(.int .i64), x0⟩), (2, ⟨(.list tapiPair), x1⟩), (3, ⟨(.int .i64), x2⟩), (10, ⟨(.ptr 1 0), ()⟩), (11, ⟨(.int .u32), x3⟩), (12, ⟨(.int .i64), x4⟩)], [⟨(.row 60 tapiNode true), x5⟩, ⟨(.box (.pair (.int .i64) (.pair .str (.pair .str (.pair (.int .u32) (.pair (.nil 28) (.pair (.int .i64) (.pair (.nil 75) (.pair (.int .i64) (.pair (.int .i64) .unit)))))))))), x6⟩]⟩ (blockK 0 (seqK false [1, 1, 1, 1] (BF 61 1 [1, 1, 1, 1]) (finF 61 (.tcons (.own tapiNode 0) (.tcons (.int .i64) .tnil)) [(.row 60 tapiNode false)] 1)))).trans (by kernel_rfl)
theorem ref20_make1.l1.eq (x0 : den (.int .i64)) (x1 : den (.list tapiPair)) (x2 : den (.int .i64)) (x3 : den (.int .u32)) (x4 : den (.int .i64)) (x5 : den (.int .i64)) (x6 : denO (.row 60 tapiNode true)) (x7 : denO (.box (.pair (.int .i64) (.pair .str (.pair .str (.pair (.int .u32) (.pair (.nil 28) (.pair (.int .i64) (.pair (.nil 75) (.pair (.int .i64) (.pair (.int .i64) .unit))))))))))) (x8 : denO (.row 75 tapiPair false)) : ref20_make1.l1 x0 x1 x2 x3 x4 x5 x6 x7 x8 =
  br (ltI x5 (ofN (lenL tapiPair x1)))
   (br (andB (leI (0 : Int) x5) (ltI x5 (ofN (lenL tapiPair x1)))) (bnd (ref20_chunk (ixL tapiPair x1 x5).1 x2 x0) fun r0 =>
   br (eqI r0 x4)
    (br (andB (leI (0 : Int) x5) (ltI x5 (ofN (lenL tapiPair x1)))) (br (fitL tapiPair (appL tapiPair x8 ((ixL tapiPair x1 x5) :: []))) (ref20_make1.l1 x0 x1 x2 x3 x4 (addI .i64 x5 (1 : Int)) x6 x7 (appL tapiPair x8 ((ixL tapiPair x1 x5) :: []))) none) none)
    (ref20_make1.l1 x0 x1 x2 x3 x4 (addI .i64 x5 (1 : Int)) x6 x7 x8)) none)
   (br (ltI (0 : Int) (ofN (lenL tapiPair x8)))
    (bnd (ref20_make1 x0 x8 (addI .i64 x2 (1 : Int)) x6) fun r1 =>
    br (fitL (.int .i64) (r1.1.2.1 :: [])) (ref20_make1.l2 x0 x1 x2 (mulI .u32 (2 : Int) x3) (addI .i64 x4 (1 : Int)) r1.2.1 (x7.1, (x7.2.1, (x7.2.2.1, ((addI .u32 x7.2.2.2.1 x3), x7.2.2.2.2)))) (r1.1.2.1 :: [])) none)
    (ref20_make1.l0 x0 x1 x2 (mulI .u32 (2 : Int) x3) (addI .i64 x4 (1 : Int)) x6 x7)) :=
  (loopB_eq (P := PP) (T := TT) (C := CF) [1, 1, 1, 0, 1, 1, 1, 1, 1, 1, 1, 0, 0, 1, 0, 0, 1, 0, 1, 0, 0] [1, 1, 1, 0, 1, 1, 1, 1, 1, 1, 1, 0, 0, 1, 0, 0, 1, 0, 1, 0, 0] 61 1 ⟨[(0, ⟨(.own tapiNode 0), ()⟩), (1, ⟨(.int .i64), x0⟩), (2, ⟨(.list tapiPair), x1⟩), (3, ⟨(.int .i64), x2⟩), (10, ⟨(.ptr 1 0), ()⟩), (11, ⟨(.int .u32), x3⟩), (12, ⟨(.int .i64), x4⟩), (13, ⟨(.own tapiPair 2), ()⟩), (14, ⟨(.int .i64), x5⟩)], [⟨(.row 60 tapiNode true), x6⟩, ⟨(.box (.pair (.int .i64) (.pair .str (.pair .str (.pair (.int .u32) (.pair (.nil 28) (.pair (.int .i64) (.pair (.nil 75) (.pair (.int .i64) (.pair (.int .i64) .unit)))))))))), x7⟩, ⟨(.row 75 tapiPair false), x8⟩]⟩ (blockK 2 (seqK false [1, 1, 1, 0, 1, 1, 1, 1, 1, 1, 1, 0, 0, 1, 0, 0, 1, 1] (BF 61 1 [1, 1, 1, 0, 1, 1, 1, 1, 1, 1, 1, 0, 0, 1, 0, 0, 1, 1]) (blockK 1 (seqK false [1, 1, 1, 0, 1, 1, 1, 1, 1, 1, 1, 0, 0, 1, 1] (BF 61 1 [1, 1, 1, 0, 1, 1, 1, 1, 1, 1, 1, 0, 0, 1, 1]) (againK [1, 1, 1, 0, 1, 1, 1, 1, 1, 1, 1, 0, 0] (loopW [1, 1, 1, 0, 1, 1, 1, 1, 1, 1, 1, 0, 0] (BF 61 1 [1, 1, 1, 0, 1, 1, 1, 1, 1, 1, 1, 0, 0])) (blockK 0 (seqK false [1, 1, 1, 1] (BF 61 1 [1, 1, 1, 1]) (finF 61 (.tcons (.own tapiNode 0) (.tcons (.int .i64) .tnil)) [(.row 60 tapiNode false)] 1))))))))).trans (by kernel_rfl)
theorem ref20_make1.l2.eq (x0 : den (.int .i64)) (x1 : den (.list tapiPair)) (x2 : den (.int .i64)) (x3 : den (.int .u32)) (x4 : den (.int .i64)) (x5 : denO (.row 60 tapiNode false)) (x6 : denO (.box (.pair (.int .i64) (.pair .str (.pair .str (.pair (.int .u32) (.pair (.own (.int .i64) 2) (.pair (.int .i64) (.pair (.nil 75) (.pair (.int .i64) (.pair (.int .i64) .unit))))))))))) (x7 : denO (.row 28 (.int .i64) false)) : ref20_make1.l2 x0 x1 x2 x3 x4 x5 x6 x7 =
  br (ltI x4 (32 : Int))
   (ref20_make1.l3 x0 x1 x2 x3 x4 (0 : Int) x5 x6 [] x7)
   (br (fitL tapiNode (appL tapiNode x5 ((x6.1, (x6.2.1, (x6.2.2.1, (x6.2.2.2.1, (x7, (x6.2.2.2.2.2.1, ([], x6.2.2.2.2.2.2.2))))))) :: []))) (some (((), ((ofN (lenL tapiNode (appL tapiNode x5 ((x6.1, (x6.2.1, (x6.2.2.1, (x6.2.2.2.1, (x7, (x6.2.2.2.2.2.1, ([], x6.2.2.2.2.2.2.2))))))) :: [])))), ())), ((appL tapiNode x5 ((x6.1, (x6.2.1, (x6.2.2.1, (x6.2.2.2.1, (x7, (x6.2.2.2.2.2.1, ([], x6.2.2.2.2.2.2.2))))))) :: [])), ()))) none) :=
  (loopB_eq (P := PP) (T := TT) (C := CF) [1, 1, 1, 0, 1, 1, 1, 1, 1, 1, 1, 0, 0] [1, 1, 1, 0, 1, 1, 1, 1, 1, 1, 1, 0, 0] 61 1 ⟨[(0, ⟨(.own tapiNode 0), ()⟩), (1, ⟨(.int .i64), x0⟩), (2, ⟨(.list tapiPair), x1⟩), (3, ⟨(.int .i64), x2⟩), (10, ⟨(.ptr 1 0), ()⟩), (11, ⟨(.int .u32), x3⟩), (12, ⟨(.int .i64), x4⟩)], [⟨(.row 60 tapiNode false), x5⟩, ⟨(.box (.pair (.int .i64) (.pair .str (.pair .str (.pair (.int .u32) (.pair (.own (.int .i64) 2) (.pair (.int .i64) (.pair (.nil 75) (.pair (.int .i64) (.pair (.int .i64) .unit)))))))))), x6⟩, ⟨(.row 28 (.int .i64) false), x7⟩]⟩ (blockK 0 (seqK false [1, 1, 1, 1] (BF 61 1 [1, 1, 1, 1]) (finF 61 (.tcons (.own tapiNode 0) (.tcons (.int .i64) .tnil)) [(.row 60 tapiNode false)] 1)))).trans (by kernel_rfl)
theorem ref20_make1.l3.eq (x0 : den (.int .i64)) (x1 : den (.list tapiPair)) (x2 : den (.int .i64)) (x3 : den (.int .u32)) (x4 : den (.int .i64)) (x5 : den (.int .i64)) (x6 : denO (.row 60 tapiNode false)) (x7 : denO (.box (.pair (.int .i64) (.pair .str (.pair .str (.pair (.int .u32) (.pair (.own (.int .i64) 3) (.pair (.int .i64) (.pair (.nil 75) (.pair (.int .i64) (.pair (.int .i64) .unit))))))))))) (x8 : denO (.row 75 tapiPair false)) (x9 : denO (.row 28 (.int .i64) false)) : ref20_make1.l3 x0 x1 x2 x3 x4 x5 x6 x7 x8 x9 =
  br (ltI x5 (ofN (lenL tapiPair x1)))
   (br (andB (leI (0 : Int) x5) (ltI x5 (ofN (lenL tapiPair x1)))) (bnd (ref20_chunk (ixL tapiPair x1 x5).1 x2 x0) fun r0 =>
   br (eqI r0 x4)
    (br (andB (leI (0 : Int) x5) (ltI x5 (ofN (lenL tapiPair x1)))) (br (fitL tapiPair (appL tapiPair x8 ((ixL tapiPair x1 x5) :: []))) (ref20_make1.l3 x0 x1 x2 x3 x4 (addI .i64 x5 (1 : Int)) x6 x7 (appL tapiPair x8 ((ixL tapiPair x1 x5) :: [])) x9) none) none)
    (ref20_make1.l3 x0 x1 x2 x3 x4 (addI .i64 x5 (1 : Int)) x6 x7 x8 x9)) none)
   (br (ltI (0 : Int) (ofN (lenL tapiPair x8)))
    (bnd (ref20_make1 x0 x8 (addI .i64 x2 (1 : Int)) x6) fun r1 =>
    br (fitL (.int .i64) (appL (.int .i64) x9 (r1.1.2.1 :: []))) (ref20_make1.l2 x0 x1 x2 (mulI .u32 (2 : Int) x3) (addI .i64 x4 (1 : Int)) r1.2.1 (x7.1, (x7.2.1, (x7.2.2.1, ((addI .u32 x7.2.2.2.1 x3), x7.2.2.2.2)))) (appL (.int .i64) x9 (r1.1.2.1 :: []))) none)
    (ref20_make1.l2 x0 x1 x2 (mulI .u32 (2 : Int) x3) (addI .i64 x4 (1 : Int)) x6 x7 x9)) :=
  (loopB_eq (P := PP) (T := TT) (C := CF) [1, 1, 1, 0, 1, 1, 1, 1, 1, 1, 1, 0, 0, 1, 0, 0, 1, 0, 1, 0, 0] [1, 1, 1, 0, 1, 1, 1, 1, 1, 1, 1, 0, 0, 1, 0, 0, 1, 0, 1, 0, 0] 61 1 ⟨[(0, ⟨(.own tapiNode 0), ()⟩), (1, ⟨(.int .i64), x0⟩), (2, ⟨(.list tapiPair), x1⟩), (3, ⟨(.int .i64), x2⟩), (10, ⟨(.ptr 1 0), ()⟩), (11, ⟨(.int .u32), x3⟩), (12, ⟨(.int .i64), x4⟩), (13, ⟨(.own tapiPair 2), ()⟩), (14, ⟨(.int .i64), x5⟩)], [⟨(.row 60 tapiNode false), x6⟩, ⟨(.box (.pair (.int .i64) (.pair .str (.pair .str (.pair (.int .u32) (.pair (.own (.int .i64) 3) (.pair (.int .i64) (.pair (.nil 75) (.pair (.int .i64) (.pair (.int .i64) .unit)))))))))), x7⟩, ⟨(.row 75 tapiPair false), x8⟩, ⟨(.row 28 (.int .i64) false), x9⟩]⟩ (blockK 2 (seqK false [1, 1, 1, 0, 1, 1, 1, 1, 1, 1, 1, 0, 0, 1, 0, 0, 1, 1] (BF 61 1 [1, 1, 1, 0, 1, 1, 1, 1, 1, 1, 1, 0, 0, 1, 0, 0, 1, 1]) (blockK 1 (seqK false [1, 1, 1, 0, 1, 1, 1, 1, 1, 1, 1, 0, 0, 1, 1] (BF 61 1 [1, 1, 1, 0, 1, 1, 1, 1, 1, 1, 1, 0, 0, 1, 1]) (againK [1, 1, 1, 0, 1, 1, 1, 1, 1, 1, 1, 0, 0] (loopW [1, 1, 1, 0, 1, 1, 1, 1, 1, 1, 1, 0, 0] (BF 61 1 [1, 1, 1, 0, 1, 1, 1, 1, 1, 1, 1, 0, 0])) (blockK 0 (seqK false [1, 1, 1, 1] (BF 61 1 [1, 1, 1, 1]) (finF 61 (.tcons (.own tapiNode 0) (.tcons (.int .i64) .tnil)) [(.row 60 tapiNode false)] 1))))))))).trans (by kernel_rfl)
theorem ref04_clamp.eq (a0 : den (.int .i64)) : ref04_clamp a0 =
  br (ltI a0 (0 : Int))
   (some (0 : Int))
   (br (ltI (64 : Int) a0)
    (some (64 : Int))
    (some a0)) :=
  (callW_eq (P := PP) (T := TT) (pr := RR) 62 [⟨(.int .i64), a0⟩] [] (.int .i64) []).trans (by kernel_rfl)
theorem node_formed.eq (a0 : den tapiNode) : node_formed a0 =
  br (eqI a0.1 (1 : Int))
   (bnd (node_Leaf a0.2.1 a0.2.2.1) fun r0 =>
   some r0)
   (br (eqI a0.1 (6 : Int))
    (bnd (node_Tomb a0.2.1 a0.2.2.1) fun r1 =>
    some r1)
    (br (eqI a0.1 (2 : Int))
     (bnd (node_Branch a0.2.2.2.1 a0.2.2.2.2.1 (maxI a0.2.2.2.2.2.2.2.1 (0 : Int))) fun r2 =>
     some r2)
     (br (eqI a0.1 (3 : Int))
      (bnd (node_Bucket a0.2.2.2.2.2.2.1) fun r3 =>
      some r3)
      (br (eqI a0.1 (4 : Int))
       (br (eqI (ofN (lenL (.int .i64) a0.2.2.2.2.1)) (2 : Int))
        (br (andB (leI (0 : Int) (0 : Int)) (ltI (0 : Int) (ofN (lenL (.int .i64) a0.2.2.2.2.1)))) (br (andB (leI (0 : Int) (1 : Int)) (ltI (1 : Int) (ofN (lenL (.int .i64) a0.2.2.2.2.1)))) (bnd (node_Tree a0.2.1 a0.2.2.1 (ixL (.int .i64) a0.2.2.2.2.1 (0 : Int)) (ixL (.int .i64) a0.2.2.2.2.1 (1 : Int)) (maxI a0.2.2.2.2.2.2.2.1 (1 : Int))) fun r4 =>
        some r4) none) none)
        (some ((0 : Int), (ByteArray.empty, (ByteArray.empty, ((0 : Int), ([], ((0 : Int), ([], ((0 : Int), ((0 : Int), ())))))))))))
       (br (eqI a0.1 (5 : Int))
        (bnd (node_Inner a0.2.2.2.2.2.1) fun r5 =>
        some r5)
        (some ((0 : Int), (ByteArray.empty, (ByteArray.empty, ((0 : Int), ([], ((0 : Int), ([], ((0 : Int), ((0 : Int), ()))))))))))))))) :=
  (callW_eq (P := PP) (T := TT) (pr := RR) 63 [⟨tapiNode, a0⟩] [] tapiNode []).trans (by kernel_rfl)
theorem node_long.eq (a0 : den tapiNode) : node_long a0 =
  bnd (node_long_1 (a0.2.1, (a0.2.2.1, ()))) fun r0 =>
  br r0
   (some true)
   (bnd (slices_ContainsFuncapi_Pair_api_Pair a0.2.2.2.2.2.2.1) fun r1 =>
   some r1) :=
  (callW_eq (P := PP) (T := TT) (pr := RR) 64 [⟨tapiNode, a0⟩] [] .bool []).trans (by kernel_rfl)
theorem node_Same.eq (a0 : den tapiNode) (a1 : den tapiNode) : node_Same a0 a1 =
  br (eqI a0.1 a1.1)
   (br (eqS a0.2.1 a1.2.1)
    (br (eqS a0.2.2.1 a1.2.2.1)
     (node_Same.j0 (eqI a0.2.2.2.1 a1.2.2.2.1) a0 a1)
     (node_Same.j0 false a0 a1))
    (node_Same.j0 false a0 a1))
   (node_Same.j0 false a0 a1) :=
  (callW_eq (P := PP) (T := TT) (pr := RR) 65 [⟨tapiNode, a0⟩, ⟨tapiNode, a1⟩] [] .bool []).trans (by kernel_rfl)
theorem node_Same.j0.eq (x0 : den .bool) (x1 : denO (.box tapiNode)) (x2 : denO (.box tapiNode)) : node_Same.j0 x0 x1 x2 =
  br x0
   (br (eqI x1.2.2.2.2.2.1 x2.2.2.2.2.2.1)
    (br (eqI x1.2.2.2.2.2.2.2.1 x2.2.2.2.2.2.2.2.1)
     (br (eqI x1.2.2.2.2.2.2.2.2.1 x2.2.2.2.2.2.2.2.2.1)
      (bnd (slices_Equalapi_Ref_api_Ref x1.2.2.2.2.1 x2.2.2.2.2.1) fun r0 =>
      br r0
       (bnd (slices_Equalapi_Pair_api_Pair x1.2.2.2.2.2.2.1 x2.2.2.2.2.2.2.1) fun r1 =>
       some r1)
       (some false))
      (some false))
     (some false))
    (some false))
   (some false) :=
  (congrFun (congrFun (jnO_eq [1, 1] (BF (R := den .bool) 65 0 [1, 1])) ⟨[(2, ⟨(.ptr 0 0), ()⟩), (3, ⟨(.ptr 1 0), ()⟩), (5, ⟨.bool, x0⟩)], [⟨(.box tapiNode), x1⟩, ⟨(.box tapiNode), x2⟩]⟩) (finF 65 .bool [] 0)).trans (by kernel_rfl)
theorem node_whole.eq (a0 : den tapiNode) : node_whole a0 =
  br (eqI a0.1 (2 : Int))
   (bnd (mask_Count a0.2.2.2.1) fun r0 =>
   br (eqI (ofN (lenL (.int .i64) a0.2.2.2.2.1)) r0)
    (bnd (slices_Containsapi_Ref_api_Ref a0.2.2.2.2.1 (0 : Int)) fun r1 =>
    some (notB r1))
    (some false))
   (br (eqI a0.1 (3 : Int))
    (br (leI (2 : Int) (ofN (lenL tapiPair a0.2.2.2.2.2.2.1)))
     (bnd (pair_Is a0.2.2.2.2.2.2.1) fun r2 =>
     some r2)
     (some false))
    (br (eqI a0.1 (5 : Int))
     (some (notB (eqI a0.2.2.2.2.2.1 (0 : Int))))
     (some true))) :=
  (callW_eq (P := PP) (T := TT) (pr := RR) 66 [⟨tapiNode, a0⟩] [] .bool []).trans (by kernel_rfl)
theorem slices_Cloneapi_Ref_api_Ref.eq (a0 : den (.list (.int .i64))) : slices_Cloneapi_Ref_api_Ref a0 =
  br (eqI (ofN (lenL (.int .i64) a0)) (0 : Int))
   (both
    (some ((), ([], ())))
    (br (fitL (.int .i64) (appL (.int .i64) [] a0)) (some ((), ((appL (.int .i64) [] a0), ()))) none))
   (br (fitL (.int .i64) (appL (.int .i64) [] a0)) (some ((), ((appL (.int .i64) [] a0), ()))) none) :=
  (callW_eq (P := PP) (T := TT) (pr := RR) 67 [⟨(.list (.int .i64)), a0⟩] [] (.own (.int .i64) 0) [(.row 28 (.int .i64) false)]).trans (by kernel_rfl)
theorem ref13_long.eq (a0 : den tapiNode) : ref13_long a0 =
  br (ltI (16 : Int) (ofN (lenS a0.2.1)))
   (ref13_long.l0 true (0 : Int) a0)
   (ref13_long.l0 (ltI (16 : Int) (ofN (lenS a0.2.2.1))) (0 : Int) a0) :=
  (callW_eq (P := PP) (T := TT) (pr := RR) 68 [⟨tapiNode, a0⟩] [] .bool []).trans (by kernel_rfl)
theorem ref13_long.l0.eq (x0 : den .bool) (x1 : den (.int .i64)) (x2 : denO (.box tapiNode)) : ref13_long.l0 x0 x1 x2 =
  br (ltI x1 (ofN (lenL tapiPair x2.2.2.2.2.2.2.1)))
   (br x0
    (ref13_long.l0 true (addI .i64 x1 (1 : Int)) x2)
    (br (andB (leI (0 : Int) x1) (ltI x1 (ofN (lenL tapiPair x2.2.2.2.2.2.2.1)))) (br (ltI (16 : Int) (ofN (lenS (ixL tapiPair x2.2.2.2.2.2.2.1 x1).1)))
     (ref13_long.l0 true (addI .i64 x1 (1 : Int)) x2)
     (br (andB (leI (0 : Int) x1) (ltI x1 (ofN (lenL tapiPair x2.2.2.2.2.2.2.1)))) (ref13_long.l0 (ltI (16 : Int) (ofN (lenS (ixL tapiPair x2.2.2.2.2.2.2.1 x1).2.1))) (addI .i64 x1 (1 : Int)) x2) none)) none))
   (some x0) :=
  (loopB_eq (P := PP) (T := TT) (C := CF) [1, 1, 0, 1, 0, 0] [1, 1, 0, 1, 0, 0] 68 0 ⟨[(1, ⟨(.ptr 0 0), ()⟩), (3, ⟨.bool, x0⟩), (4, ⟨(.int .i64), x1⟩)], [⟨(.box tapiNode), x2⟩]⟩ (blockK 0 (seqK false [1, 1, 1] (BF 68 0 [1, 1, 1]) (finF 68 .bool [] 0)))).trans (by kernel_rfl)
theorem ref13_form.eq (a0 : den tapiNode) : ref13_form a0 =
  br (ltI a0.2.2.2.2.2.2.2.2.1 (0 : Int))
   (some false)
   (br (eqI a0.1 (1 : Int))
    (ref13_form.j0 a0.1 true a0)
    (ref13_form.j0 a0.1 (eqI a0.1 (6 : Int)) a0)) :=
  (callW_eq (P := PP) (T := TT) (pr := RR) 69 [⟨tapiNode, a0⟩] [] .bool []).trans (by kernel_rfl)
theorem ref13_form.j0.eq (x0 : den (.int .i64)) (x1 : den .bool) (x2 : denO (.box tapiNode)) : ref13_form.j0 x0 x1 x2 =
  br x1
   (br (eqI x2.2.2.2.2.2.2.2.1 (1 : Int))
    (bnd (ref13_bare x2 false true true true) fun r0 =>
    some r0)
    (some false))
   (br (eqI x0 (2 : Int))
    (ref13_form.l1 (0 : Int) x2)
    (br (eqI x0 (3 : Int))
     (br (leI (2 : Int) (ofN (lenL tapiPair x2.2.2.2.2.2.2.1)))
      (bnd (ref07_Is x2.2.2.2.2.2.2.1) fun r1 =>
      br r1
       (br (eqI x2.2.2.2.2.2.2.2.1 (ofN (lenL tapiPair x2.2.2.2.2.2.2.1)))
        (bnd (ref13_bare x2 true true true false) fun r2 =>
        some r2)
        (some false))
       (some false))
      (some false))
     (br (eqI x0 (4 : Int))
      (br (eqI x2.2.2.2.1 (0 : Int))
       (br (eqI (ofN (lenL (.int .i64) x2.2.2.2.2.1)) (2 : Int))
        (br (leI (1 : Int) x2.2.2.2.2.2.2.2.1)
         (bnd (ref13_bare x2 false false true true) fun r3 =>
         some r3)
         (some false))
        (some false))
       (some false))
      (br (notB (eqI x2.2.2.2.2.2.1 (0 : Int)))
       (br (eqI x2.2.2.2.2.2.2.2.1 (0 : Int))
        (bnd (ref13_bare x2 true true false true) fun r4 =>
        some r4)
        (some false))
       (some false))))) :=
  (congrFun (congrFun (jnO_eq [1, 1, 0, 1, 0, 1] (BF (R := den .bool) 69 0 [1, 1, 0, 1, 0, 1])) ⟨[(1, ⟨(.ptr 0 0), ()⟩), (8, ⟨(.int .i64), x0⟩), (9, ⟨.bool, x1⟩)], [⟨(.box tapiNode), x2⟩]⟩) (blockK 0 (seqK false [1, 1, 1] (BF 69 0 [1, 1, 1]) (finF 69 .bool [] 0)))).trans (by kernel_rfl)
theorem ref13_form.l1.eq (x0 : den (.int .i64)) (x1 : denO (.box tapiNode)) : ref13_form.l1 x0 x1 =
  br (ltI x0 (ofN (lenL (.int .i64) x1.2.2.2.2.1)))
   (br (andB (leI (0 : Int) x0) (ltI x0 (ofN (lenL (.int .i64) x1.2.2.2.2.1)))) (br (eqI (ixL (.int .i64) x1.2.2.2.2.1 x0) (0 : Int))
    (some false)
    (ref13_form.l1 (addI .i64 x0 (1 : Int)) x1)) none)
   (bnd (ref06_All x1.2.2.2.1) fun r0 =>
   br (eqI (ofN (lenL (.int .i64) x1.2.2.2.2.1)) (ofN (lenL (.int .i64) r0)))
    (br (leI (0 : Int) x1.2.2.2.2.2.2.2.1)
     (bnd (ref13_bare x1 true false true true) fun r1 =>
     some r1)
     (some false))
    (some false)) :=
  (loopB_eq (P := PP) (T := TT) (C := CF) [1, 1, 0, 1, 0, 1, 1, 1, 0, 0, 1, 0, 0] [1, 1, 0, 1, 0, 1, 1, 1, 0, 0, 1, 0, 0] 69 0 ⟨[(1, ⟨(.ptr 0 0), ()⟩), (3, ⟨(.int .i64), x0⟩)], [⟨(.box tapiNode), x1⟩]⟩ (blockK 1 (seqK false [1, 1, 0, 1, 0, 1, 1, 1, 0, 1] (BF 69 0 [1, 1, 0, 1, 0, 1, 1, 1, 0, 1]) (blockK 0 (seqK false [1, 1, 1] (BF 69 0 [1, 1, 1]) (finF 69 .bool [] 0)))))).trans (by kernel_rfl)
theorem heap_bare.eq (a0 : den tapiNode) : heap_bare a0 =
  bnd (node_Copy a0) fun r0 =>
  heap_bare.l0 (ofN (lenL (.int .i64) r0.2.1)) (0 : Int) r0.1 ((0 : Int), (ByteArray.empty, (ByteArray.empty, ((0 : Int), ((), ((0 : Int), ((), ((0 : Int), ((0 : Int), ()))))))))) r0.2.1 r0.2.2.1 [] [] :=
  (callW_eq (P := PP) (T := TT) (pr := RR) 70 [⟨tapiNode, a0⟩] [] tapiNode []).trans (by kernel_rfl)
theorem heap_bare.l0.eq (x0 : den (.int .i64)) (x1 : den (.int .i64)) (x2 : denO (.box (.pair (.int .i64) (.pair .str (.pair .str (.pair (.int .u32) (.pair (.own (.int .i64) 2) (.pair (.int .i64) (.pair (.own tapiPair 3) (.pair (.int .i64) (.pair (.int .i64) .unit))))))))))) (x3 : denO (.box (.pair (.int .i64) (.pair .str (.pair .str (.pair (.int .u32) (.pair (.own (.int .i64) 4) (.pair (.int .i64) (.pair (.own tapiPair 5) (.pair (.int .i64) (.pair (.int .i64) .unit))))))))))) (x4 : denO (.row 28 (.int .i64) false)) (x5 : denO (.row 75 tapiPair false)) (x6 : denO (.row 28 (.int .i64) false)) (x7 : denO (.row 75 tapiPair false)) : heap_bare.l0 x0 x1 x2 x3 x4 x5 x6 x7 =
  br (ltI x1 x0)
   (br (andB (leI (0 : Int) x1) (ltI x1 (ofN (lenL (.int .i64) x4)))) (br (andB (leI (0 : Int) x1) (ltI x1 (ofN (lenL (.int .i64) x4)))) (heap_bare.l0 x0 (addI .i64 x1 (1 : Int)) x2 x3 (setL (.int .i64) x4 x1 (minI (ixL (.int .i64) x4 x1) (1 : Int))) x5 x6 x7) none) none)
   (some (x2.1, (x2.2.1, (x2.2.2.1, (x2.2.2.2.1, (x4, ((minI x2.2.2.2.2.2.1 (1 : Int)), (x5, (x2.2.2.2.2.2.2.2.1, ((0 : Int), ())))))))))) :=
  (loopB_eq (P := PP) (T := TT) (C := CF) [1, 1, 0, 1, 0, 0] [1, 1, 0, 1, 0, 0] 70 0 ⟨[(1, ⟨(.ptr 0 0), ()⟩), (2, ⟨(.ptr 1 0), ()⟩), (8, ⟨(.int .i64), x0⟩), (9, ⟨(.int .i64), x1⟩)], [⟨(.box (.pair (.int .i64) (.pair .str (.pair .str (.pair (.int .u32) (.pair (.own (.int .i64) 2) (.pair (.int .i64) (.pair (.own tapiPair 3) (.pair (.int .i64) (.pair (.int .i64) .unit)))))))))), x2⟩, ⟨(.box (.pair (.int .i64) (.pair .str (.pair .str (.pair (.int .u32) (.pair (.own (.int .i64) 4) (.pair (.int .i64) (.pair (.own tapiPair 5) (.pair (.int .i64) (.pair (.int .i64) .unit)))))))))), x3⟩, ⟨(.row 28 (.int .i64) false), x4⟩, ⟨(.row 75 tapiPair false), x5⟩, ⟨(.row 28 (.int .i64) false), x6⟩, ⟨(.row 75 tapiPair false), x7⟩]⟩ (blockK 0 (seqK false [1, 1, 1] (BF 70 0 [1, 1, 1]) (finF 70 tapiNode [] 0)))).trans (by kernel_rfl)
theorem ref13_Same.eq (a0 : den tapiNode) (a1 : den tapiNode) : ref13_Same a0 a1 =
  br (notB (eqI a0.1 a1.1))
   (some false)
   (br (notB (eqS a0.2.1 a1.2.1))
    (some false)
    (br (notB (eqS a0.2.2.1 a1.2.2.1))
     (some false)
     (br (notB (eqI a0.2.2.2.1 a1.2.2.2.1))
      (some false)
      (br (notB (eqI a0.2.2.2.2.2.1 a1.2.2.2.2.2.1))
       (some false)
       (br (notB (eqI a0.2.2.2.2.2.2.2.1 a1.2.2.2.2.2.2.2.1))
        (some false)
        (br (notB (eqI a0.2.2.2.2.2.2.2.2.1 a1.2.2.2.2.2.2.2.2.1))
         (some false)
         (bnd (ref13_SameRefs a0.2.2.2.2.1 a1.2.2.2.2.1) fun r0 =>
         br r0
          (bnd (ref07_Same a0.2.2.2.2.2.2.1 a1.2.2.2.2.2.2.1) fun r1 =>
          some r1)
          (some false)))))))) :=
  (callW_eq (P := PP) (T := TT) (pr := RR) 71 [⟨tapiNode, a0⟩, ⟨tapiNode, a1⟩] [] .bool []).trans (by kernel_rfl)
theorem ref19_Of.eq (a0 : den tapiNode) : ref19_Of a0 =
  br (notB (eqI a0.1 (2 : Int)))
   (some ((List.replicate 32 (0 : Int)), ((0 : Int), ((0 : Int), ()))))
   (bnd (ref13_May a0) fun r0 =>
   br (notB (eqI r0 (0 : Int)))
    (some ((List.replicate 32 (0 : Int)), ((0 : Int), ((0 : Int), ()))))
    (bnd (ref06_All a0.2.2.2.1) fun r1 =>
    ref19_Of.l0 r1 (0 : Int) a0 ((List.replicate 32 (0 : Int)), ((0 : Int), ((0 : Int), ()))) ((List.replicate 32 (0 : Int)), ((0 : Int), ((0 : Int), ()))))) :=
  (callW_eq (P := PP) (T := TT) (pr := RR) 72 [⟨tapiNode, a0⟩] [] tboscageref19Branch []).trans (by kernel_rfl)
theorem ref19_Of.l0.eq (x0 : den (.list (.int .i64))) (x1 : den (.int .i64)) (x2 : denO (.box tapiNode)) (x3 : denO (.box tboscageref19Branch)) (x4 : denO (.box tboscageref19Branch)) : ref19_Of.l0 x0 x1 x2 x3 x4 =
  br (ltI x1 (ofN (lenL (.int .i64) x0)))
   (br (andB (leI (0 : Int) x1) (ltI x1 (ofN (lenL (.int .i64) x0)))) (br (andB (leI (0 : Int) x1) (ltI x1 (ofN (lenL (.int .i64) x2.2.2.2.2.1)))) (br (andB (leI (0 : Int) (ixL (.int .i64) x0 x1)) (ltI (ixL (.int .i64) x0 x1) (ofN 32))) (ref19_Of.l0 x0 (addI .i64 x1 (1 : Int)) x2 x3 ((setL (.int .i64) x4.1 (ixL (.int .i64) x0 x1) (ixL (.int .i64) x2.2.2.2.2.1 x1)), x4.2)) none) none) none)
   (both
    (some (x4.1, x2.2.2.2.2.2.2.2))
    (some (x4.1, x2.2.2.2.2.2.2.2))) :=
  (loopB_eq (P := PP) (T := TT) (C := CF) [1, 1, 1, 1, 0, 1, 0, 0] [1, 1, 1, 1, 0, 1, 0, 0] 72 0 ⟨[(1, ⟨(.ptr 0 0), ()⟩), (2, ⟨(.ptr 1 0), ()⟩), (3, ⟨(.ptr 2 0), ()⟩), (4, ⟨(.list (.int .i64)), x0⟩), (5, ⟨(.int .i64), x1⟩)], [⟨(.box tapiNode), x2⟩, ⟨(.box tboscageref19Branch), x3⟩, ⟨(.box tboscageref19Branch), x4⟩]⟩ (blockK 0 (seqK false [1, 1, 1, 1, 1] (BF 72 0 [1, 1, 1, 1, 1]) (finF 72 tboscageref19Branch [] 0)))).trans (by kernel_rfl)
theorem ref04_Of.eq (a0 : den .str) (a1 : den (.int .i64)) : ref04_Of a0 a1 =
  ref04_Of.l0 a0 a1 (14695981039346656037 : Int) (0 : Int) :=
  (callW_eq (P := PP) (T := TT) (pr := RR) 75 [⟨.str, a0⟩, ⟨(.int .i64), a1⟩] [] (.int .u64) []).trans (by kernel_rfl)
theorem ref04_Of.l0.eq (x0 : den .str) (x1 : den (.int .i64)) (x2 : den (.int .u64)) (x3 : den (.int .i64)) : ref04_Of.l0 x0 x1 x2 x3 =
  br (ltI x3 (ofN (lenS x0)))
   (br (andB (leI (0 : Int) x3) (ltI x3 (ofN (lenS x0)))) (ref04_Of.l0 x0 x1 (mulI .u64 (xorI .u64 x2 (wrapI .u64 (getS x0 (toN x3)))) (1099511628211 : Int)) (addI .i64 x3 (1 : Int))) none)
   (ref04_Of.l1 x1 x2 (0 : Int) (1 : Int) (0 : Int)) :=
  (loopB_eq (P := PP) (T := TT) (C := CF) [1, 1, 0, 1, 0, 0] [1, 1, 0, 1, 0, 0] 75 0 ⟨[(0, ⟨.str, x0⟩), (1, ⟨(.int .i64), x1⟩), (5, ⟨(.int .u64), x2⟩), (6, ⟨(.int .i64), x3⟩)], []⟩ (blockK 0 (seqK false [1, 1, 1] (BF 75 0 [1, 1, 1]) (finF 75 (.int .u64) [] 0)))).trans (by kernel_rfl)
theorem ref04_Of.l1.eq (x0 : den (.int .i64)) (x1 : den (.int .u64)) (x2 : den (.int .u64)) (x3 : den (.int .u64)) (x4 : den (.int .i64)) : ref04_Of.l1 x0 x1 x2 x3 x4 =
  bnd (ref04_clamp x0) fun r0 =>
  br (ltI x4 r0)
   (br (notB (eqI (2 : Int) (0 : Int))) (br (notB (eqI (2 : Int) (0 : Int))) (ref04_Of.l1 x0 (quoI .u64 x1 (2 : Int)) (addI .u64 x2 (mulI .u64 x3 (remI x1 (2 : Int)))) (mulI .u64 (2 : Int) x3) (addI .i64 x4 (1 : Int))) none) none)
   (some x2) :=
  (loopB_eq (P := PP) (T := TT) (C := CF) [1, 1, 1, 1, 0, 1, 0, 0] [1, 1, 1, 1, 0, 1, 0, 0] 75 0 ⟨[(1, ⟨(.int .i64), x0⟩), (5, ⟨(.int .u64), x1⟩), (7, ⟨(.int .u64), x2⟩), (8, ⟨(.int .u64), x3⟩), (9, ⟨(.int .i64), x4⟩)], []⟩ (blockK 2 (seqK false [1, 1, 1, 1, 1] (BF 75 0 [1, 1, 1, 1, 1]) (finF 75 (.int .u64) [] 0)))).trans (by kernel_rfl)
theorem ref04_Chunk.eq (a0 : den (.int .u64)) (a1 : den (.int .i64)) (a2 : den (.int .i64)) : ref04_Chunk a0 a1 a2 =
  br (ltI a1 (0 : Int))
   (some (0 : Int))
   (bnd (ref04_Levels a2) fun r0 =>
   br (leI r0 a1)
    (some (0 : Int))
    (ref04_Chunk.l0 a0 a1 a2 (0 : Int) (1 : Int) (mulI .i64 (5 : Int) a1))) :=
  (callW_eq (P := PP) (T := TT) (pr := RR) 74 [⟨(.int .u64), a0⟩, ⟨(.int .i64), a1⟩, ⟨(.int .i64), a2⟩] [] (.int .i64) []).trans (by kernel_rfl)
theorem ref04_Chunk.l0.eq (x0 : den (.int .u64)) (x1 : den (.int .i64)) (x2 : den (.int .i64)) (x3 : den (.int .i64)) (x4 : den (.int .i64)) (x5 : den (.int .i64)) : ref04_Chunk.l0 x0 x1 x2 x3 x4 x5 =
  br (ltI x5 (addI .i64 (mulI .i64 (5 : Int) x1) (5 : Int)))
   (bnd (ref04_clamp x2) fun r0 =>
   br (ltI x5 r0)
    (bnd (ref04_bit x0 x5) fun r1 =>
    ref04_Chunk.l0 x0 x1 x2 (addI .i64 x3 (mulI .i64 x4 r1)) (mulI .i64 (2 : Int) x4) (addI .i64 x5 (1 : Int)))
    (some x3))
   (some x3) :=
  (loopB_eq (P := PP) (T := TT) (C := CF) [1, 1, 1, 0, 1, 0, 0] [1, 1, 1, 0, 1, 0, 0] 74 0 ⟨[(0, ⟨(.int .u64), x0⟩), (1, ⟨(.int .i64), x1⟩), (2, ⟨(.int .i64), x2⟩), (7, ⟨(.int .i64), x3⟩), (8, ⟨(.int .i64), x4⟩), (9, ⟨(.int .i64), x5⟩)], []⟩ (blockK 0 (seqK false [1, 1, 1, 1] (BF 74 0 [1, 1, 1, 1]) (finF 74 (.int .i64) [] 0)))).trans (by kernel_rfl)
theorem ref19_Branch_Child.eq (a0 : den tboscageref19Branch) (a1 : den (.int .i64)) : ref19_Branch_Child a0 a1 =
  br (ltI a1 (0 : Int))
   (some (0 : Int))
   (br (ltI (31 : Int) a1)
    (some (0 : Int))
    (br (andB (leI (0 : Int) a1) (ltI a1 (ofN 32))) (some (ixL (.int .i64) a0.1 a1)) none)) :=
  (callW_eq (P := PP) (T := TT) (pr := RR) 73 [⟨tboscageref19Branch, a0⟩, ⟨(.int .i64), a1⟩] [] (.int .i64) []).trans (by kernel_rfl)
theorem hash_cut.eq (a0 : den (.int .u64)) (a1 : den (.int .i64)) : hash_cut a0 a1 =
  bnd (hash_within a1) fun r0 =>
  br (eqI r0 (64 : Int))
   (some a0)
   (bnd (hash_within a1) fun r1 =>
   br (leI (0 : Int) r1) (some (andI .u64 a0 (subI .u64 (shlI .u64 (1 : Int) r1) (1 : Int)))) none) :=
  (callW_eq (P := PP) (T := TT) (pr := RR) 76 [⟨(.int .u64), a0⟩, ⟨(.int .i64), a1⟩] [] (.int .u64) []).trans (by kernel_rfl)
theorem hash_Levels.eq (a0 : den (.int .i64)) : hash_Levels a0 =
  bnd (hash_within a0) fun r0 =>
  br (notB (eqI (5 : Int) (0 : Int))) (some (quoI .i64 (subI .i64 (addI .i64 r0 (5 : Int)) (1 : Int)) (5 : Int))) none :=
  (callW_eq (P := PP) (T := TT) (pr := RR) 80 [⟨(.int .i64), a0⟩] [] (.int .i64) []).trans (by kernel_rfl)
end Go.Proofs.Ytmopkbmcilolgaa.AC
set_option maxRecDepth 100000
set_option linter.unusedVariables false
namespace Go.Proofs.Ytmopkbmcilolgaa.AC
open Go.Abs
theorem branch_branch.eq (a0 : den tapiNode) : branch_branch a0 =
  br (notB (eqI a0.1 (2 : Int)))
   (bnd (node_Branch_o (0 : Int) [] (0 : Int)) fun r0 =>
   some (r0.1, (r0.2.1, (r0.2.2.1, ()))))
   (bnd (node_May a0) fun r1 =>
   br (notB (eqI r1 (0 : Int)))
    (bnd (node_Branch_o (0 : Int) [] (0 : Int)) fun r2 =>
    some (r2.1, (r2.2.1, (r2.2.2.1, ()))))
    (bnd (node_Copy a0) fun r3 =>
    some (r3.1, (r3.2.1, (r3.2.2.1, ()))))) :=
  (callW_eq (P := PP) (T := TT) (pr := RR) 77 [⟨tapiNode, a0⟩] [] (.pair (.int .i64) (.pair .str (.pair .str (.pair (.int .u32) (.pair (.own (.int .i64) 0) (.pair (.int .i64) (.pair (.own tapiPair 1) (.pair (.int .i64) (.pair (.int .i64) .unit))))))))) [(.row 28 (.int .i64) false), (.row 75 tapiPair false)]).trans (by kernel_rfl)
theorem mask_Has.eq (a0 : den (.int .u32)) (a1 : den (.int .i64)) : mask_Has a0 a1 =
  bnd (mask_in a1) fun r0 =>
  br r0
   (br (leI (0 : Int) a1) (some (eqI (andI .u32 (shrI .u32 a0 a1) (1 : Int)) (1 : Int))) none)
   (some false) :=
  (callW_eq (P := PP) (T := TT) (pr := RR) 78 [⟨(.int .u32), a0⟩, ⟨(.int .i64), a1⟩] [] .bool []).trans (by kernel_rfl)
theorem mask_Place.eq (a0 : den (.int .u32)) (a1 : den (.int .i64)) : mask_Place a0 a1 =
  bnd (mask_below a1) fun r0 =>
  bnd (math_bits_OnesCount32 (andI .u32 a0 r0)) fun r1 =>
  some r1 :=
  (callW_eq (P := PP) (T := TT) (pr := RR) 79 [⟨(.int .u32), a0⟩, ⟨(.int .i64), a1⟩] [] (.int .i64) []).trans (by kernel_rfl)
theorem slices_Cloneapi_Pair_api_Pair.eq (a0 : den (.list tapiPair)) : slices_Cloneapi_Pair_api_Pair a0 =
  br (eqI (ofN (lenL tapiPair a0)) (0 : Int))
   (both
    (some ((), ([], ())))
    (br (fitL tapiPair (appL tapiPair [] a0)) (some ((), ((appL tapiPair [] a0), ()))) none))
   (br (fitL tapiPair (appL tapiPair [] a0)) (some ((), ((appL tapiPair [] a0), ()))) none) :=
  (callW_eq (P := PP) (T := TT) (pr := RR) 83 [⟨(.list tapiPair), a0⟩] [] (.own tapiPair 0) [(.row 75 tapiPair false)]).trans (by kernel_rfl)
theorem pair_ordered.eq (a0 : den (.list tapiPair)) : pair_ordered a0 =
  bnd (pair_Is a0) fun r0 =>
  br r0
   (some a0)
   (bnd (pair_Make a0) fun r1 =>
   some r1) :=
  (callW_eq (P := PP) (T := TT) (pr := RR) 81 [⟨(.list tapiPair), a0⟩] [] (.list tapiPair) []).trans (by kernel_rfl)
theorem pair_place.eq (a0 : den (.list tapiPair)) (a1 : den .str) : pair_place a0 a1 =
  bnd (slices_BinarySearchFuncapi_Pair_api_Pair_string a0 a1) fun r0 =>
  some r0 :=
  (callW_eq (P := PP) (T := TT) (pr := RR) 82 [⟨(.list tapiPair), a0⟩, ⟨.str, a1⟩] [] (.tcons (.int .i64) (.tcons .bool .tnil)) []).trans (by kernel_rfl)
theorem ref07_last.eq (a0 : den (.list tapiPair)) (a1 : den (.int .i64)) : ref07_last a0 a1 =
  ref07_last.l0 a0 a1 (addI .i64 a1 (1 : Int)) :=
  (callW_eq (P := PP) (T := TT) (pr := RR) 84 [⟨(.list tapiPair), a0⟩, ⟨(.int .i64), a1⟩] [] .bool []).trans (by kernel_rfl)
theorem ref07_last.l0.eq (x0 : den (.list tapiPair)) (x1 : den (.int .i64)) (x2 : den (.int .i64)) : ref07_last.l0 x0 x1 x2 =
  br (ltI x2 (ofN (lenL tapiPair x0)))
   (br (andB (leI (0 : Int) x2) (ltI x2 (ofN (lenL tapiPair x0)))) (br (andB (leI (0 : Int) x1) (ltI x1 (ofN (lenL tapiPair x0)))) (br (eqS (ixL tapiPair x0 x2).1 (ixL tapiPair x0 x1).1)
    (some false)
    (ref07_last.l0 x0 x1 (addI .i64 x2 (1 : Int)))) none) none)
   (some true) :=
  (loopB_eq (P := PP) (T := TT) (C := CF) [1, 0, 1, 0, 0] [1, 0, 1, 0, 0] 84 0 ⟨[(0, ⟨(.list tapiPair), x0⟩), (1, ⟨(.int .i64), x1⟩), (5, ⟨(.int .i64), x2⟩)], []⟩ (blockK 0 (seqK false [1, 1] (BF 84 0 [1, 1]) (finF 84 .bool [] 0)))).trans (by kernel_rfl)
theorem ref01_Less.eq (a0 : den .str) (a1 : den .str) : ref01_Less a0 a1 =
  ref01_Less.l0 a0 a1 (0 : Int) :=
  (callW_eq (P := PP) (T := TT) (pr := RR) 85 [⟨.str, a0⟩, ⟨.str, a1⟩] [] .bool []).trans (by kernel_rfl)
theorem ref01_Less.l0.eq (x0 : den .str) (x1 : den .str) (x2 : den (.int .i64)) : ref01_Less.l0 x0 x1 x2 =
  br (ltI x2 (ofN (lenS x0)))
   (ref01_Less.j1 x0 x1 x2 (ltI x2 (ofN (lenS x1))))
   (ref01_Less.j1 x0 x1 x2 false) :=
  (loopB_eq (P := PP) (T := TT) (C := CF) [1, 0, 1, 0, 0] [1, 0, 1, 0, 0] 85 0 ⟨[(0, ⟨.str, x0⟩), (1, ⟨.str, x1⟩), (5, ⟨(.int .i64), x2⟩)], []⟩ (blockK 0 (seqK false [1, 1] (BF 85 0 [1, 1]) (finF 85 .bool [] 0)))).trans (by kernel_rfl)
theorem ref01_Less.j1.eq (x0 : den .str) (x1 : den .str) (x2 : den (.int .i64)) (x3 : den .bool) : ref01_Less.j1 x0 x1 x2 x3 =
  br x3
   (br (andB (leI (0 : Int) x2) (ltI x2 (ofN (lenS x0)))) (br (andB (leI (0 : Int) x2) (ltI x2 (ofN (lenS x1)))) (br (notB (eqI (getS x0 (toN x2)) (getS x1 (toN x2))))
    (br (andB (leI (0 : Int) x2) (ltI x2 (ofN (lenS x0)))) (br (andB (leI (0 : Int) x2) (ltI x2 (ofN (lenS x1)))) (some (ltI (getS x0 (toN x2)) (getS x1 (toN x2)))) none) none)
    (ref01_Less.l0 x0 x1 (addI .i64 x2 (1 : Int)))) none) none)
   (some (ltI (ofN (lenS x0)) (ofN (lenS x1)))) :=
  (congrFun (congrFun (jnO_eq [1, 0, 1, 0, 0, 0, 1] (BF (R := den .bool) 85 0 [1, 0, 1, 0, 0, 0, 1])) ⟨[(0, ⟨.str, x0⟩), (1, ⟨.str, x1⟩), (5, ⟨(.int .i64), x2⟩), (15, ⟨.bool, x3⟩)], []⟩) (seqK false [1, 0, 1, 0, 0, 1] (BF 85 0 [1, 0, 1, 0, 0, 1]) (againK [1, 0, 1, 0, 0] (loopW [1, 0, 1, 0, 0] (BF 85 0 [1, 0, 1, 0, 0])) (blockK 0 (seqK false [1, 1] (BF 85 0 [1, 1]) (finF 85 .bool [] 0)))))).trans (by kernel_rfl)
theorem ref20_chunk.eq (a0 : den .str) (a1 : den (.int .i64)) (a2 : den (.int .i64)) : ref20_chunk a0 a1 a2 =
  bnd (ref04_Of a0 a2) fun r0 =>
  bnd (ref04_Chunk r0 a1 a2) fun r1 =>
  some r1 :=
  (callW_eq (P := PP) (T := TT) (pr := RR) 86 [⟨.str, a0⟩, ⟨(.int .i64), a1⟩, ⟨(.int .i64), a2⟩] [] (.int .i64) []).trans (by kernel_rfl)
theorem node_Tomb.eq (a0 : den .str) (a1 : den .str) : node_Tomb a0 a1 =
  some ((6 : Int), (a0, (a1, ((0 : Int), ([], ((0 : Int), ([], ((1 : Int), ((0 : Int), ()))))))))) :=
  (callW_eq (P := PP) (T := TT) (pr := RR) 87 [⟨.str, a0⟩, ⟨.str, a1⟩] [] tapiNode []).trans (by kernel_rfl)
theorem node_Branch.eq (a0 : den (.int .u32)) (a1 : den (.list (.int .i64))) (a2 : den (.int .i64)) : node_Branch a0 a1 a2 =
  bnd (slices_Cloneapi_Ref_api_Ref a1) fun r0 =>
  some ((2 : Int), (ByteArray.empty, (ByteArray.empty, (a0, (r0.2.1, ((0 : Int), ([], (a2, ((0 : Int), ()))))))))) :=
  (callW_eq (P := PP) (T := TT) (pr := RR) 88 [⟨(.int .u32), a0⟩, ⟨(.list (.int .i64)), a1⟩, ⟨(.int .i64), a2⟩] [] tapiNode []).trans (by kernel_rfl)
theorem node_Bucket.eq (a0 : den (.list tapiPair)) : node_Bucket a0 =
  bnd (pair_Make a0) fun r0 =>
  some ((3 : Int), (ByteArray.empty, (ByteArray.empty, ((0 : Int), ([], ((0 : Int), (r0, ((ofN (lenL tapiPair r0)), ((0 : Int), ()))))))))) :=
  (callW_eq (P := PP) (T := TT) (pr := RR) 89 [⟨(.list tapiPair), a0⟩] [] tapiNode []).trans (by kernel_rfl)
theorem node_Tree.eq (a0 : den .str) (a1 : den .str) (a2 : den (.int .i64)) (a3 : den (.int .i64)) (a4 : den (.int .i64)) : node_Tree a0 a1 a2 a3 a4 =
  some ((4 : Int), (a0, (a1, ((0 : Int), ((a2 :: (a3 :: [])), ((0 : Int), ([], (a4, ((0 : Int), ()))))))))) :=
  (callW_eq (P := PP) (T := TT) (pr := RR) 90 [⟨.str, a0⟩, ⟨.str, a1⟩, ⟨(.int .i64), a2⟩, ⟨(.int .i64), a3⟩, ⟨(.int .i64), a4⟩] [] tapiNode []).trans (by kernel_rfl)
theorem node_long_1.eq (a0 : den tapiPair) : node_long_1 a0 =
  br (ltI (16 : Int) (ofN (lenS a0.1)))
   (some true)
   (some (ltI (16 : Int) (ofN (lenS a0.2.1)))) :=
  (callW_eq (P := PP) (T := TT) (pr := RR) 91 [⟨tapiPair, a0⟩] [] .bool []).trans (by kernel_rfl)
theorem slices_ContainsFuncapi_Pair_api_Pair.eq (a0 : den (.list tapiPair)) : slices_ContainsFuncapi_Pair_api_Pair a0 =
  bnd (slices_IndexFuncapi_Pair_api_Pair a0) fun r0 =>
  some (leI (0 : Int) r0) :=
  (callW_eq (P := PP) (T := TT) (pr := RR) 92 [⟨(.list tapiPair), a0⟩, ⟨(.fn 91 .tnil), ()⟩] [] .bool []).trans (by kernel_rfl)
theorem slices_Equalapi_Ref_api_Ref.eq (a0 : den (.list (.int .i64))) (a1 : den (.list (.int .i64))) : slices_Equalapi_Ref_api_Ref a0 a1 =
  br (notB (eqI (ofN (lenL (.int .i64) a0)) (ofN (lenL (.int .i64) a1))))
   (some false)
   (slices_Equalapi_Ref_api_Ref.l0 a0 a1 (ofN (lenL (.int .i64) a0)) (0 : Int)) :=
  (callW_eq (P := PP) (T := TT) (pr := RR) 93 [⟨(.list (.int .i64)), a0⟩, ⟨(.list (.int .i64)), a1⟩] [] .bool []).trans (by kernel_rfl)
theorem slices_Equalapi_Ref_api_Ref.l0.eq (x0 : den (.list (.int .i64))) (x1 : den (.list (.int .i64))) (x2 : den (.int .i64)) (x3 : den (.int .i64)) : slices_Equalapi_Ref_api_Ref.l0 x0 x1 x2 x3 =
  br (ltI x3 x2)
   (br (andB (leI (0 : Int) x3) (ltI x3 (ofN (lenL (.int .i64) x0)))) (br (andB (leI (0 : Int) x3) (ltI x3 (ofN (lenL (.int .i64) x1)))) (br (notB (eqI (ixL (.int .i64) x0 x3) (ixL (.int .i64) x1 x3)))
    (some false)
    (slices_Equalapi_Ref_api_Ref.l0 x0 x1 x2 (addI .i64 x3 (1 : Int)))) none) none)
   (some true) :=
  (loopB_eq (P := PP) (T := TT) (C := CF) [1, 1, 0, 1, 0, 0] [1, 1, 0, 1, 0, 0] 93 0 ⟨[(0, ⟨(.list (.int .i64)), x0⟩), (1, ⟨(.list (.int .i64)), x1⟩), (12, ⟨(.int .i64), x2⟩), (13, ⟨(.int .i64), x3⟩)], []⟩ (blockK 0 (seqK false [1, 1, 1] (BF 93 0 [1, 1, 1]) (finF 93 .bool [] 0)))).trans (by kernel_rfl)
theorem slices_Equalapi_Pair_api_Pair.eq (a0 : den (.list tapiPair)) (a1 : den (.list tapiPair)) : slices_Equalapi_Pair_api_Pair a0 a1 =
  br (notB (eqI (ofN (lenL tapiPair a0)) (ofN (lenL tapiPair a1))))
   (some false)
   (slices_Equalapi_Pair_api_Pair.l0 a0 a1 (ofN (lenL tapiPair a0)) (0 : Int)) :=
  (callW_eq (P := PP) (T := TT) (pr := RR) 94 [⟨(.list tapiPair), a0⟩, ⟨(.list tapiPair), a1⟩] [] .bool []).trans (by kernel_rfl)
theorem slices_Equalapi_Pair_api_Pair.l0.eq (x0 : den (.list tapiPair)) (x1 : den (.list tapiPair)) (x2 : den (.int .i64)) (x3 : den (.int .i64)) : slices_Equalapi_Pair_api_Pair.l0 x0 x1 x2 x3 =
  br (ltI x3 x2)
   (br (andB (leI (0 : Int) x3) (ltI x3 (ofN (lenL tapiPair x0)))) (br (andB (leI (0 : Int) x3) (ltI x3 (ofN (lenL tapiPair x1)))) (br (notB (andB (eqS (ixL tapiPair x0 x3).1 (ixL tapiPair x1 x3).1) (andB (eqS (ixL tapiPair x0 x3).2.1 (ixL tapiPair x1 x3).2.1) true)))
    (some false)
    (slices_Equalapi_Pair_api_Pair.l0 x0 x1 x2 (addI .i64 x3 (1 : Int)))) none) none)
   (some true) :=
  (loopB_eq (P := PP) (T := TT) (C := CF) [1, 1, 0, 1, 0, 0] [1, 1, 0, 1, 0, 0] 94 0 ⟨[(0, ⟨(.list tapiPair), x0⟩), (1, ⟨(.list tapiPair), x1⟩), (12, ⟨(.int .i64), x2⟩), (13, ⟨(.int .i64), x3⟩)], []⟩ (blockK 0 (seqK false [1, 1, 1] (BF 94 0 [1, 1, 1]) (finF 94 .bool [] 0)))).trans (by kernel_rfl)
theorem mask_Count.eq (a0 : den (.int .u32)) : mask_Count a0 =
  bnd (math_bits_OnesCount32 a0) fun r0 =>
  some r0 :=
  (callW_eq (P := PP) (T := TT) (pr := RR) 95 [⟨(.int .u32), a0⟩] [] (.int .i64) []).trans (by kernel_rfl)
theorem slices_Containsapi_Ref_api_Ref.eq (a0 : den (.list (.int .i64))) (a1 : den (.int .i64)) : slices_Containsapi_Ref_api_Ref a0 a1 =
  bnd (slices_Indexapi_Ref_api_Ref a0 a1) fun r0 =>
  some (leI (0 : Int) r0) :=
  (callW_eq (P := PP) (T := TT) (pr := RR) 96 [⟨(.list (.int .i64)), a0⟩, ⟨(.int .i64), a1⟩] [] .bool []).trans (by kernel_rfl)
theorem pair_Is.eq (a0 : den (.list tapiPair)) : pair_Is a0 =
  pair_Is.l0 a0 (ofN (lenL tapiPair a0)) (0 : Int) :=
  (callW_eq (P := PP) (T := TT) (pr := RR) 97 [⟨(.list tapiPair), a0⟩] [] .bool []).trans (by kernel_rfl)
theorem pair_Is.l0.eq (x0 : den (.list tapiPair)) (x1 : den (.int .i64)) (x2 : den (.int .i64)) : pair_Is.l0 x0 x1 x2 =
  br (ltI x2 x1)
   (br (ltI (0 : Int) x2)
    (br (andB (leI (0 : Int) (subI .i64 x2 (1 : Int))) (ltI (subI .i64 x2 (1 : Int)) (ofN (lenL tapiPair x0)))) (br (andB (leI (0 : Int) x2) (ltI x2 (ofN (lenL tapiPair x0)))) (bnd (order_Compare (ixL tapiPair x0 (subI .i64 x2 (1 : Int))).1 (ixL tapiPair x0 x2).1) fun r0 =>
    br (leI (0 : Int) r0)
     (some false)
     (pair_Is.l0 x0 x1 (addI .i64 x2 (1 : Int)))) none) none)
    (pair_Is.l0 x0 x1 (addI .i64 x2 (1 : Int))))
   (some true) :=
  (loopB_eq (P := PP) (T := TT) (C := CF) [1, 0, 1, 0, 0] [1, 0, 1, 0, 0] 97 0 ⟨[(0, ⟨(.list tapiPair), x0⟩), (5, ⟨(.int .i64), x1⟩), (6, ⟨(.int .i64), x2⟩)], []⟩ (blockK 0 (seqK false [1, 1] (BF 97 0 [1, 1]) (finF 97 .bool [] 0)))).trans (by kernel_rfl)
theorem ref13_bare.eq (a0 : den tapiNode) (a1 : den .bool) (a2 : den .bool) (a3 : den .bool) (a4 : den .bool) : ref13_bare a0 a1 a2 a3 a4 =
  br a1
   (br (notB (eqS a0.2.1 ByteArray.empty))
    (some false)
    (br (notB (eqS a0.2.2.1 ByteArray.empty))
     (some false)
     (br a2
      (br (notB (eqI a0.2.2.2.1 (0 : Int)))
       (some false)
       (br (ltI (0 : Int) (ofN (lenL (.int .i64) a0.2.2.2.2.1)))
        (some false)
        (br (notB a3)
         (br (notB a4)
          (some true)
          (some (eqI (ofN (lenL tapiPair a0.2.2.2.2.2.2.1)) (0 : Int))))
         (br (eqI a0.2.2.2.2.2.1 (0 : Int))
          (br (notB a4)
           (some true)
           (some (eqI (ofN (lenL tapiPair a0.2.2.2.2.2.2.1)) (0 : Int))))
          (some false)))))
      (br (notB a3)
       (br (notB a4)
        (some true)
        (some (eqI (ofN (lenL tapiPair a0.2.2.2.2.2.2.1)) (0 : Int))))
       (br (eqI a0.2.2.2.2.2.1 (0 : Int))
        (br (notB a4)
         (some true)
         (some (eqI (ofN (lenL tapiPair a0.2.2.2.2.2.2.1)) (0 : Int))))
        (some false))))))
   (br a2
    (br (notB (eqI a0.2.2.2.1 (0 : Int)))
     (some false)
     (br (ltI (0 : Int) (ofN (lenL (.int .i64) a0.2.2.2.2.1)))
      (some false)
      (br (notB a3)
       (br (notB a4)
        (some true)
        (some (eqI (ofN (lenL tapiPair a0.2.2.2.2.2.2.1)) (0 : Int))))
       (br (eqI a0.2.2.2.2.2.1 (0 : Int))
        (br (notB a4)
         (some true)
         (some (eqI (ofN (lenL tapiPair a0.2.2.2.2.2.2.1)) (0 : Int))))
        (some false)))))
    (br (notB a3)
     (br (notB a4)
      (some true)
      (some (eqI (ofN (lenL tapiPair a0.2.2.2.2.2.2.1)) (0 : Int))))
     (br (eqI a0.2.2.2.2.2.1 (0 : Int))
      (br (notB a4)
       (some true)
       (some (eqI (ofN (lenL tapiPair a0.2.2.2.2.2.2.1)) (0 : Int))))
      (some false)))) :=
  (callW_eq (P := PP) (T := TT) (pr := RR) 98 [⟨tapiNode, a0⟩, ⟨.bool, a1⟩, ⟨.bool, a2⟩, ⟨.bool, a3⟩, ⟨.bool, a4⟩] [] .bool []).trans (by kernel_rfl)
theorem ref07_Is.eq (a0 : den (.list tapiPair)) : ref07_Is a0 =
  ref07_Is.l0 a0 (1 : Int) :=
  (callW_eq (P := PP) (T := TT) (pr := RR) 100 [⟨(.list tapiPair), a0⟩] [] .bool []).trans (by kernel_rfl)
theorem ref07_Is.l0.eq (x0 : den (.list tapiPair)) (x1 : den (.int .i64)) : ref07_Is.l0 x0 x1 =
  br (ltI x1 (ofN (lenL tapiPair x0)))
   (br (andB (leI (0 : Int) (subI .i64 x1 (1 : Int))) (ltI (subI .i64 x1 (1 : Int)) (ofN (lenL tapiPair x0)))) (br (andB (leI (0 : Int) x1) (ltI x1 (ofN (lenL tapiPair x0)))) (bnd (ref01_Less (ixL tapiPair x0 (subI .i64 x1 (1 : Int))).1 (ixL tapiPair x0 x1).1) fun r0 =>
   br (notB r0)
    (some false)
    (ref07_Is.l0 x0 (addI .i64 x1 (1 : Int)))) none) none)
   (some true) :=
  (loopB_eq (P := PP) (T := TT) (C := CF) [1, 0, 1, 0, 0] [1, 0, 1, 0, 0] 100 0 ⟨[(0, ⟨(.list tapiPair), x0⟩), (3, ⟨(.int .i64), x1⟩)], []⟩ (blockK 0 (seqK false [1, 1] (BF 100 0 [1, 1]) (finF 100 .bool [] 0)))).trans (by kernel_rfl)
theorem ref06_All.eq (a0 : den (.int .u32)) : ref06_All a0 =
  ref06_All.l0 a0 (0 : Int) [] :=
  (callW_eq (P := PP) (T := TT) (pr := RR) 99 [⟨(.int .u32), a0⟩] [] (.list (.int .i64)) []).trans (by kernel_rfl)
theorem ref06_All.l0.eq (x0 : den (.int .u32)) (x1 : den (.int .i64)) (x2 : denO (.row 3 (.int .i64) false)) : ref06_All.l0 x0 x1 x2 =
  br (ltI x1 (32 : Int))
   (bnd (ref06_Has x0 x1) fun r0 =>
   br r0
    (br (fitL (.int .i64) (appL (.int .i64) x2 (x1 :: []))) (ref06_All.l0 x0 (addI .i64 x1 (1 : Int)) (appL (.int .i64) x2 (x1 :: []))) none)
    (ref06_All.l0 x0 (addI .i64 x1 (1 : Int)) x2))
   (some x2) :=
  (loopB_eq (P := PP) (T := TT) (C := CF) [1, 1, 0, 1, 0, 0] [1, 1, 0, 1, 0, 0] 99 0 ⟨[(0, ⟨(.int .u32), x0⟩), (3, ⟨(.own (.int .i64) 0), ()⟩), (4, ⟨(.int .i64), x1⟩)], [⟨(.row 3 (.int .i64) false), x2⟩]⟩ (blockK 0 (seqK false [1, 1, 1] (BF 99 0 [1, 1, 1]) (finF 99 (.list (.int .i64)) [] 0)))).trans (by kernel_rfl)
theorem node_Copy.eq (a0 : den tapiNode) : node_Copy a0 =
  bnd (slices_Cloneapi_Ref_api_Ref a0.2.2.2.2.1) fun r0 =>
  bnd (slices_Cloneapi_Pair_api_Pair a0.2.2.2.2.2.2.1) fun r1 =>
  some ((a0.1, (a0.2.1, (a0.2.2.1, (a0.2.2.2.1, ((), (a0.2.2.2.2.2.1, ((), a0.2.2.2.2.2.2.2))))))), (r0.2.1, (r1.2.1, ()))) :=
  (callW_eq (P := PP) (T := TT) (pr := RR) 101 [⟨tapiNode, a0⟩] [] (.pair (.int .i64) (.pair .str (.pair .str (.pair (.int .u32) (.pair (.own (.int .i64) 0) (.pair (.int .i64) (.pair (.own tapiPair 1) (.pair (.int .i64) (.pair (.int .i64) .unit))))))))) [(.row 28 (.int .i64) false), (.row 75 tapiPair false)]).trans (by kernel_rfl)
theorem ref04_bit.eq (a0 : den (.int .u64)) (a1 : den (.int .i64)) : ref04_bit a0 a1 =
  ref04_bit.l0 a0 a1 (0 : Int) :=
  (callW_eq (P := PP) (T := TT) (pr := RR) 102 [⟨(.int .u64), a0⟩, ⟨(.int .i64), a1⟩] [] (.int .i64) []).trans (by kernel_rfl)
theorem ref04_bit.l0.eq (x0 : den (.int .u64)) (x1 : den (.int .i64)) (x2 : den (.int .i64)) : ref04_bit.l0 x0 x1 x2 =
  br (ltI x2 x1)
   (br (notB (eqI (2 : Int) (0 : Int))) (ref04_bit.l0 (quoI .u64 x0 (2 : Int)) x1 (addI .i64 x2 (1 : Int))) none)
   (br (notB (eqI (2 : Int) (0 : Int))) (some (wrapI .i64 (remI x0 (2 : Int)))) none) :=
  (loopB_eq (P := PP) (T := TT) (C := CF) [1, 0, 1, 0, 0] [1, 0, 1, 0, 0] 102 0 ⟨[(0, ⟨(.int .u64), x0⟩), (1, ⟨(.int .i64), x1⟩), (5, ⟨(.int .i64), x2⟩)], []⟩ (blockK 0 (seqK false [1, 1] (BF 102 0 [1, 1]) (finF 102 (.int .i64) [] 0)))).trans (by kernel_rfl)
theorem hash_within.eq (a0 : den (.int .i64)) : hash_within a0 =
  some (minI (maxI a0 (0 : Int)) (64 : Int)) :=
  (callW_eq (P := PP) (T := TT) (pr := RR) 103 [⟨(.int .i64), a0⟩] [] (.int .i64) []).trans (by kernel_rfl)
theorem node_Branch_o.eq (a0 : den (.int .u32)) (a1 : den (.list (.int .i64))) (a2 : den (.int .i64)) : node_Branch_o a0 a1 a2 =
  bnd (slices_Cloneapi_Ref_api_Ref a1) fun r0 =>
  some (((2 : Int), (ByteArray.empty, (ByteArray.empty, (a0, ((), ((0 : Int), ((), (a2, ((0 : Int), ()))))))))), (r0.2.1, ([], ()))) :=
  (callW_eq (P := PP) (T := TT) (pr := RR) 88 [⟨(.int .u32), a0⟩, ⟨(.list (.int .i64)), a1⟩, ⟨(.int .i64), a2⟩] [] (.pair (.int .i64) (.pair .str (.pair .str (.pair (.int .u32) (.pair (.own (.int .i64) 0) (.pair (.int .i64) (.pair (.own tapiPair 1) (.pair (.int .i64) (.pair (.int .i64) .unit))))))))) [(.row 28 (.int .i64) false), (.row 75 tapiPair false)]).trans (by kernel_rfl)
theorem mask_in.eq (a0 : den (.int .i64)) : mask_in a0 =
  br (leI (0 : Int) a0)
   (some (ltI a0 (32 : Int)))
   (some false) :=
  (callW_eq (P := PP) (T := TT) (pr := RR) 104 [⟨(.int .i64), a0⟩] [] .bool []).trans (by kernel_rfl)
theorem mask_below.eq (a0 : den (.int .i64)) : mask_below a0 =
  br (leI a0 (0 : Int))
   (some (0 : Int))
   (br (leI (32 : Int) a0)
    (some (4294967295 : Int))
    (br (leI (0 : Int) a0) (some (subI .u32 (shlI .u32 (1 : Int) a0) (1 : Int))) none)) :=
  (callW_eq (P := PP) (T := TT) (pr := RR) 106 [⟨(.int .i64), a0⟩] [] (.int .u32) []).trans (by kernel_rfl)
theorem math_bits_OnesCount32.eq (a0 : den (.int .u32)) : math_bits_OnesCount32 a0 =
  br (leI (0 : Int) (24 : Int)) (br (andB (leI (0 : Int) (shrI .u32 a0 (24 : Int))) (ltI (shrI .u32 a0 (24 : Int)) (ofN (lenS (ByteArray.mk #[0, 1, 1, 2, 1, 2, 2, 3, 1, 2, 2, 3, 2, 3, 3, 4, 1, 2, 2, 3, 2, 3, 3, 4, 2, 3, 3, 4, 3, 4, 4, 5, 1, 2, 2, 3, 2, 3, 3, 4, 2, 3, 3, 4, 3, 4, 4, 5, 2, 3, 3, 4, 3, 4, 4, 5, 3, 4, 4, 5, 4, 5, 5, 6, 1, 2, 2, 3, 2, 3, 3, 4, 2, 3, 3, 4, 3, 4, 4, 5, 2, 3, 3, 4, 3, 4, 4, 5, 3, 4, 4, 5, 4, 5, 5, 6, 2, 3, 3, 4, 3, 4, 4, 5, 3, 4, 4, 5, 4, 5, 5, 6, 3, 4, 4, 5, 4, 5, 5, 6, 4, 5, 5, 6, 5, 6, 6, 7, 1, 2, 2, 3, 2, 3, 3, 4, 2, 3, 3, 4, 3, 4, 4, 5, 2, 3, 3, 4, 3, 4, 4, 5, 3, 4, 4, 5, 4, 5, 5, 6, 2, 3, 3, 4, 3, 4, 4, 5, 3, 4, 4, 5, 4, 5, 5, 6, 3, 4, 4, 5, 4, 5, 5, 6, 4, 5, 5, 6, 5, 6, 6, 7, 2, 3, 3, 4, 3, 4, 4, 5, 3, 4, 4, 5, 4, 5, 5, 6, 3, 4, 4, 5, 4, 5, 5, 6, 4, 5, 5, 6, 5, 6, 6, 7, 3, 4, 4, 5, 4, 5, 5, 6, 4, 5, 5, 6, 5, 6, 6, 7, 4, 5, 5, 6, 5, 6, 6, 7, 5, 6, 6, 7, 6, 7, 7, 8]))))) (br (leI (0 : Int) (16 : Int)) (br (andB (leI (0 : Int) (andI .u32 (shrI .u32 a0 (16 : Int)) (255 : Int))) (ltI (andI .u32 (shrI .u32 a0 (16 : Int)) (255 : Int)) (ofN (lenS (ByteArray.mk #[0, 1, 1, 2, 1, 2, 2, 3, 1, 2, 2, 3, 2, 3, 3, 4, 1, 2, 2, 3, 2, 3, 3, 4, 2, 3, 3, 4, 3, 4, 4, 5, 1, 2, 2, 3, 2, 3, 3, 4, 2, 3, 3, 4, 3, 4, 4, 5, 2, 3, 3, 4, 3, 4, 4, 5, 3, 4, 4, 5, 4, 5, 5, 6, 1, 2, 2, 3, 2, 3, 3, 4, 2, 3, 3, 4, 3, 4, 4, 5, 2, 3, 3, 4, 3, 4, 4, 5, 3, 4, 4, 5, 4, 5, 5, 6, 2, 3, 3, 4, 3, 4, 4, 5, 3, 4, 4, 5, 4, 5, 5, 6, 3, 4, 4, 5, 4, 5, 5, 6, 4, 5, 5, 6, 5, 6, 6, 7, 1, 2, 2, 3, 2, 3, 3, 4, 2, 3, 3, 4, 3, 4, 4, 5, 2, 3, 3, 4, 3, 4, 4, 5, 3, 4, 4, 5, 4, 5, 5, 6, 2, 3, 3, 4, 3, 4, 4, 5, 3, 4, 4, 5, 4, 5, 5, 6, 3, 4, 4, 5, 4, 5, 5, 6, 4, 5, 5, 6, 5, 6, 6, 7, 2, 3, 3, 4, 3, 4, 4, 5, 3, 4, 4, 5, 4, 5, 5, 6, 3, 4, 4, 5, 4, 5, 5, 6, 4, 5, 5, 6, 5, 6, 6, 7, 3, 4, 4, 5, 4, 5, 5, 6, 4, 5, 5, 6, 5, 6, 6, 7, 4, 5, 5, 6, 5, 6, 6, 7, 5, 6, 6, 7, 6, 7, 7, 8]))))) (br (leI (0 : Int) (8 : Int)) (br (andB (leI (0 : Int) (andI .u32 (shrI .u32 a0 (8 : Int)) (255 : Int))) (ltI (andI .u32 (shrI .u32 a0 (8 : Int)) (255 : Int)) (ofN (lenS (ByteArray.mk #[0, 1, 1, 2, 1, 2, 2, 3, 1, 2, 2, 3, 2, 3, 3, 4, 1, 2, 2, 3, 2, 3, 3, 4, 2, 3, 3, 4, 3, 4, 4, 5, 1, 2, 2, 3, 2, 3, 3, 4, 2, 3, 3, 4, 3, 4, 4, 5, 2, 3, 3, 4, 3, 4, 4, 5, 3, 4, 4, 5, 4, 5, 5, 6, 1, 2, 2, 3, 2, 3, 3, 4, 2, 3, 3, 4, 3, 4, 4, 5, 2, 3, 3, 4, 3, 4, 4, 5, 3, 4, 4, 5, 4, 5, 5, 6, 2, 3, 3, 4, 3, 4, 4, 5, 3, 4, 4, 5, 4, 5, 5, 6, 3, 4, 4, 5, 4, 5, 5, 6, 4, 5, 5, 6, 5, 6, 6, 7, 1, 2, 2, 3, 2, 3, 3, 4, 2, 3, 3, 4, 3, 4, 4, 5, 2, 3, 3, 4, 3, 4, 4, 5, 3, 4, 4, 5, 4, 5, 5, 6, 2, 3, 3, 4, 3, 4, 4, 5, 3, 4, 4, 5, 4, 5, 5, 6, 3, 4, 4, 5, 4, 5, 5, 6, 4, 5, 5, 6, 5, 6, 6, 7, 2, 3, 3, 4, 3, 4, 4, 5, 3, 4, 4, 5, 4, 5, 5, 6, 3, 4, 4, 5, 4, 5, 5, 6, 4, 5, 5, 6, 5, 6, 6, 7, 3, 4, 4, 5, 4, 5, 5, 6, 4, 5, 5, 6, 5, 6, 6, 7, 4, 5, 5, 6, 5, 6, 6, 7, 5, 6, 6, 7, 6, 7, 7, 8]))))) (br (andB (leI (0 : Int) (andI .u32 a0 (255 : Int))) (ltI (andI .u32 a0 (255 : Int)) (ofN (lenS (ByteArray.mk #[0, 1, 1, 2, 1, 2, 2, 3, 1, 2, 2, 3, 2, 3, 3, 4, 1, 2, 2, 3, 2, 3, 3, 4, 2, 3, 3, 4, 3, 4, 4, 5, 1, 2, 2, 3, 2, 3, 3, 4, 2, 3, 3, 4, 3, 4, 4, 5, 2, 3, 3, 4, 3, 4, 4, 5, 3, 4, 4, 5, 4, 5, 5, 6, 1, 2, 2, 3, 2, 3, 3, 4, 2, 3, 3, 4, 3, 4, 4, 5, 2, 3, 3, 4, 3, 4, 4, 5, 3, 4, 4, 5, 4, 5, 5, 6, 2, 3, 3, 4, 3, 4, 4, 5, 3, 4, 4, 5, 4, 5, 5, 6, 3, 4, 4, 5, 4, 5, 5, 6, 4, 5, 5, 6, 5, 6, 6, 7, 1, 2, 2, 3, 2, 3, 3, 4, 2, 3, 3, 4, 3, 4, 4, 5, 2, 3, 3, 4, 3, 4, 4, 5, 3, 4, 4, 5, 4, 5, 5, 6, 2, 3, 3, 4, 3, 4, 4, 5, 3, 4, 4, 5, 4, 5, 5, 6, 3, 4, 4, 5, 4, 5, 5, 6, 4, 5, 5, 6, 5, 6, 6, 7, 2, 3, 3, 4, 3, 4, 4, 5, 3, 4, 4, 5, 4, 5, 5, 6, 3, 4, 4, 5, 4, 5, 5, 6, 4, 5, 5, 6, 5, 6, 6, 7, 3, 4, 4, 5, 4, 5, 5, 6, 4, 5, 5, 6, 5, 6, 6, 7, 4, 5, 5, 6, 5, 6, 6, 7, 5, 6, 6, 7, 6, 7, 7, 8]))))) (some (wrapI .i64 (addI .u8 (addI .u8 (addI .u8 (getS (ByteArray.mk #[0, 1, 1, 2, 1, 2, 2, 3, 1, 2, 2, 3, 2, 3, 3, 4, 1, 2, 2, 3, 2, 3, 3, 4, 2, 3, 3, 4, 3, 4, 4, 5, 1, 2, 2, 3, 2, 3, 3, 4, 2, 3, 3, 4, 3, 4, 4, 5, 2, 3, 3, 4, 3, 4, 4, 5, 3, 4, 4, 5, 4, 5, 5, 6, 1, 2, 2, 3, 2, 3, 3, 4, 2, 3, 3, 4, 3, 4, 4, 5, 2, 3, 3, 4, 3, 4, 4, 5, 3, 4, 4, 5, 4, 5, 5, 6, 2, 3, 3, 4, 3, 4, 4, 5, 3, 4, 4, 5, 4, 5, 5, 6, 3, 4, 4, 5, 4, 5, 5, 6, 4, 5, 5, 6, 5, 6, 6, 7, 1, 2, 2, 3, 2, 3, 3, 4, 2, 3, 3, 4, 3, 4, 4, 5, 2, 3, 3, 4, 3, 4, 4, 5, 3, 4, 4, 5, 4, 5, 5, 6, 2, 3, 3, 4, 3, 4, 4, 5, 3, 4, 4, 5, 4, 5, 5, 6, 3, 4, 4, 5, 4, 5, 5, 6, 4, 5, 5, 6, 5, 6, 6, 7, 2, 3, 3, 4, 3, 4, 4, 5, 3, 4, 4, 5, 4, 5, 5, 6, 3, 4, 4, 5, 4, 5, 5, 6, 4, 5, 5, 6, 5, 6, 6, 7, 3, 4, 4, 5, 4, 5, 5, 6, 4, 5, 5, 6, 5, 6, 6, 7, 4, 5, 5, 6, 5, 6, 6, 7, 5, 6, 6, 7, 6, 7, 7, 8]) (toN (shrI .u32 a0 (24 : Int)))) (getS (ByteArray.mk #[0, 1, 1, 2, 1, 2, 2, 3, 1, 2, 2, 3, 2, 3, 3, 4, 1, 2, 2, 3, 2, 3, 3, 4, 2, 3, 3, 4, 3, 4, 4, 5, 1, 2, 2, 3, 2, 3, 3, 4, 2, 3, 3, 4, 3, 4, 4, 5, 2, 3, 3, 4, 3, 4, 4, 5, 3, 4, 4, 5, 4, 5, 5, 6, 1, 2, 2, 3, 2, 3, 3, 4, 2, 3, 3, 4, 3, 4, 4, 5, 2, 3, 3, 4, 3, 4, 4, 5, 3, 4, 4, 5, 4, 5, 5, 6, 2, 3, 3, 4, 3, 4, 4, 5, 3, 4, 4, 5, 4, 5, 5, 6, 3, 4, 4, 5, 4, 5, 5, 6, 4, 5, 5, 6, 5, 6, 6, 7, 1, 2, 2, 3, 2, 3, 3, 4, 2, 3, 3, 4, 3, 4, 4, 5, 2, 3, 3, 4, 3, 4, 4, 5, 3, 4, 4, 5, 4, 5, 5, 6, 2, 3, 3, 4, 3, 4, 4, 5, 3, 4, 4, 5, 4, 5, 5, 6, 3, 4, 4, 5, 4, 5, 5, 6, 4, 5, 5, 6, 5, 6, 6, 7, 2, 3, 3, 4, 3, 4, 4, 5, 3, 4, 4, 5, 4, 5, 5, 6, 3, 4, 4, 5, 4, 5, 5, 6, 4, 5, 5, 6, 5, 6, 6, 7, 3, 4, 4, 5, 4, 5, 5, 6, 4, 5, 5, 6, 5, 6, 6, 7, 4, 5, 5, 6, 5, 6, 6, 7, 5, 6, 6, 7, 6, 7, 7, 8]) (toN (andI .u32 (shrI .u32 a0 (16 : Int)) (255 : Int))))) (getS (ByteArray.mk #[0, 1, 1, 2, 1, 2, 2, 3, 1, 2, 2, 3, 2, 3, 3, 4, 1, 2, 2, 3, 2, 3, 3, 4, 2, 3, 3, 4, 3, 4, 4, 5, 1, 2, 2, 3, 2, 3, 3, 4, 2, 3, 3, 4, 3, 4, 4, 5, 2, 3, 3, 4, 3, 4, 4, 5, 3, 4, 4, 5, 4, 5, 5, 6, 1, 2, 2, 3, 2, 3, 3, 4, 2, 3, 3, 4, 3, 4, 4, 5, 2, 3, 3, 4, 3, 4, 4, 5, 3, 4, 4, 5, 4, 5, 5, 6, 2, 3, 3, 4, 3, 4, 4, 5, 3, 4, 4, 5, 4, 5, 5, 6, 3, 4, 4, 5, 4, 5, 5, 6, 4, 5, 5, 6, 5, 6, 6, 7, 1, 2, 2, 3, 2, 3, 3, 4, 2, 3, 3, 4, 3, 4, 4, 5, 2, 3, 3, 4, 3, 4, 4, 5, 3, 4, 4, 5, 4, 5, 5, 6, 2, 3, 3, 4, 3, 4, 4, 5, 3, 4, 4, 5, 4, 5, 5, 6, 3, 4, 4, 5, 4, 5, 5, 6, 4, 5, 5, 6, 5, 6, 6, 7, 2, 3, 3, 4, 3, 4, 4, 5, 3, 4, 4, 5, 4, 5, 5, 6, 3, 4, 4, 5, 4, 5, 5, 6, 4, 5, 5, 6, 5, 6, 6, 7, 3, 4, 4, 5, 4, 5, 5, 6, 4, 5, 5, 6, 5, 6, 6, 7, 4, 5, 5, 6, 5, 6, 6, 7, 5, 6, 6, 7, 6, 7, 7, 8]) (toN (andI .u32 (shrI .u32 a0 (8 : Int)) (255 : Int))))) (getS (ByteArray.mk #[0, 1, 1, 2, 1, 2, 2, 3, 1, 2, 2, 3, 2, 3, 3, 4, 1, 2, 2, 3, 2, 3, 3, 4, 2, 3, 3, 4, 3, 4, 4, 5, 1, 2, 2, 3, 2, 3, 3, 4, 2, 3, 3, 4, 3, 4, 4, 5, 2, 3, 3, 4, 3, 4, 4, 5, 3, 4, 4, 5, 4, 5, 5, 6, 1, 2, 2, 3, 2, 3, 3, 4, 2, 3, 3, 4, 3, 4, 4, 5, 2, 3, 3, 4, 3, 4, 4, 5, 3, 4, 4, 5, 4, 5, 5, 6, 2, 3, 3, 4, 3, 4, 4, 5, 3, 4, 4, 5, 4, 5, 5, 6, 3, 4, 4, 5, 4, 5, 5, 6, 4, 5, 5, 6, 5, 6, 6, 7, 1, 2, 2, 3, 2, 3, 3, 4, 2, 3, 3, 4, 3, 4, 4, 5, 2, 3, 3, 4, 3, 4, 4, 5, 3, 4, 4, 5, 4, 5, 5, 6, 2, 3, 3, 4, 3, 4, 4, 5, 3, 4, 4, 5, 4, 5, 5, 6, 3, 4, 4, 5, 4, 5, 5, 6, 4, 5, 5, 6, 5, 6, 6, 7, 2, 3, 3, 4, 3, 4, 4, 5, 3, 4, 4, 5, 4, 5, 5, 6, 3, 4, 4, 5, 4, 5, 5, 6, 4, 5, 5, 6, 5, 6, 6, 7, 3, 4, 4, 5, 4, 5, 5, 6, 4, 5, 5, 6, 5, 6, 6, 7, 4, 5, 5, 6, 5, 6, 6, 7, 5, 6, 6, 7, 6, 7, 7, 8]) (toN (andI .u32 a0 (255 : Int))))))) none) none) none) none) none) none) none :=
  (callW_eq (P := PP) (T := TT) (pr := RR) 105 [⟨(.int .u32), a0⟩] [] (.int .i64) []).trans (by kernel_rfl)
theorem pair_Make.eq (a0 : den (.list tapiPair)) : pair_Make a0 =
  pair_Make.l0 a0 (ofN (lenL tapiPair a0)) (0 : Int) [] :=
  (callW_eq (P := PP) (T := TT) (pr := RR) 107 [⟨(.list tapiPair), a0⟩] [] (.list tapiPair) []).trans (by kernel_rfl)
theorem pair_Make.l0.eq (x0 : den (.list tapiPair)) (x1 : den (.int .i64)) (x2 : den (.int .i64)) (x3 : denO (.row 75 tapiPair false)) : pair_Make.l0 x0 x1 x2 x3 =
  br (ltI x2 x1)
   (br (andB (leI (0 : Int) x2) (ltI x2 (ofN (lenL tapiPair x0)))) (bnd (pair_put x3 (ixL tapiPair x0 x2)) fun r0 =>
   pair_Make.l0 x0 x1 (addI .i64 x2 (1 : Int)) r0.2.1) none)
   (some x3) :=
  (loopB_eq (P := PP) (T := TT) (C := CF) [1, 1, 0, 1, 0, 0] [1, 1, 0, 1, 0, 0] 107 0 ⟨[(3, ⟨(.own tapiPair 0), ()⟩), (6, ⟨(.list tapiPair), x0⟩), (7, ⟨(.int .i64), x1⟩), (8, ⟨(.int .i64), x2⟩)], [⟨(.row 75 tapiPair false), x3⟩]⟩ (blockK 0 (seqK false [1, 1, 1] (BF 107 0 [1, 1, 1]) (finF 107 (.list tapiPair) [] 0)))).trans (by kernel_rfl)
theorem slices_BinarySearchFuncapi_Pair_api_Pair_string.eq (a0 : den (.list tapiPair)) (a1 : den .str) : slices_BinarySearchFuncapi_Pair_api_Pair_string a0 a1 =
  slices_BinarySearchFuncapi_Pair_api_Pair_string.l0 a0 a1 (ofN (lenL tapiPair a0)) (0 : Int) (ofN (lenL tapiPair a0)) :=
  (callW_eq (P := PP) (T := TT) (pr := RR) 108 [⟨(.list tapiPair), a0⟩, ⟨.str, a1⟩, ⟨(.fn 109 .tnil), ()⟩] [] (.tcons (.int .i64) (.tcons .bool .tnil)) []).trans (by kernel_rfl)
theorem slices_BinarySearchFuncapi_Pair_api_Pair_string.l0.eq (x0 : den (.list tapiPair)) (x1 : den .str) (x2 : den (.int .i64)) (x3 : den (.int .i64)) (x4 : den (.int .i64)) : slices_BinarySearchFuncapi_Pair_api_Pair_string.l0 x0 x1 x2 x3 x4 =
  br (ltI x3 x4)
   (br (leI (0 : Int) (1 : Int)) (br (andB (leI (0 : Int) (wrapI .i64 (shrI .u64 (wrapI .u64 (addI .i64 x3 x4)) (1 : Int)))) (ltI (wrapI .i64 (shrI .u64 (wrapI .u64 (addI .i64 x3 x4)) (1 : Int))) (ofN (lenL tapiPair x0)))) (bnd (pair_place_1 (ixL tapiPair x0 (wrapI .i64 (shrI .u64 (wrapI .u64 (addI .i64 x3 x4)) (1 : Int)))) x1) fun r0 =>
   br (ltI r0 (0 : Int))
    (slices_BinarySearchFuncapi_Pair_api_Pair_string.l0 x0 x1 x2 (addI .i64 (wrapI .i64 (shrI .u64 (wrapI .u64 (addI .i64 x3 x4)) (1 : Int))) (1 : Int)) x4)
    (slices_BinarySearchFuncapi_Pair_api_Pair_string.l0 x0 x1 x2 x3 (wrapI .i64 (shrI .u64 (wrapI .u64 (addI .i64 x3 x4)) (1 : Int))))) none) none)
   (br (ltI x3 x2)
    (br (andB (leI (0 : Int) x3) (ltI x3 (ofN (lenL tapiPair x0)))) (bnd (pair_place_1 (ixL tapiPair x0 x3) x1) fun r1 =>
    some (x3, ((eqI r1 (0 : Int)), ()))) none)
    (some (x3, (false, ())))) :=
  (loopB_eq (P := PP) (T := TT) (C := CF) [1, 1, 1, 0, 0, 0] [1, 1, 1, 0, 0, 0] 108 0 ⟨[(0, ⟨(.list tapiPair), x0⟩), (1, ⟨.str, x1⟩), (2, ⟨(.fn 109 .tnil), ()⟩), (8, ⟨(.int .i64), x2⟩), (9, ⟨(.int .i64), x3⟩), (10, ⟨(.int .i64), x4⟩)], []⟩ (blockK 0 (seqK false [1, 1, 1, 1] (BF 108 0 [1, 1, 1, 1]) (finF 108 (.tcons (.int .i64) (.tcons .bool .tnil)) [] 0)))).trans (by kernel_rfl)
theorem slices_IndexFuncapi_Pair_api_Pair.eq (a0 : den (.list tapiPair)) : slices_IndexFuncapi_Pair_api_Pair a0 =
  slices_IndexFuncapi_Pair_api_Pair.l0 a0 (ofN (lenL tapiPair a0)) (0 : Int) :=
  (callW_eq (P := PP) (T := TT) (pr := RR) 111 [⟨(.list tapiPair), a0⟩, ⟨(.fn 91 .tnil), ()⟩] [] (.int .i64) []).trans (by kernel_rfl)
theorem slices_IndexFuncapi_Pair_api_Pair.l0.eq (x0 : den (.list tapiPair)) (x1 : den (.int .i64)) (x2 : den (.int .i64)) : slices_IndexFuncapi_Pair_api_Pair.l0 x0 x1 x2 =
  br (ltI x2 x1)
   (br (andB (leI (0 : Int) x2) (ltI x2 (ofN (lenL tapiPair x0)))) (bnd (node_long_1 (ixL tapiPair x0 x2)) fun r0 =>
   br r0
    (some x2)
    (slices_IndexFuncapi_Pair_api_Pair.l0 x0 x1 (addI .i64 x2 (1 : Int)))) none)
   (some (-1 : Int)) :=
  (loopB_eq (P := PP) (T := TT) (C := CF) [1, 0, 1, 0, 0] [1, 0, 1, 0, 0] 111 0 ⟨[(0, ⟨(.list tapiPair), x0⟩), (1, ⟨(.fn 91 .tnil), ()⟩), (7, ⟨(.int .i64), x1⟩), (8, ⟨(.int .i64), x2⟩)], []⟩ (blockK 0 (seqK false [1, 1] (BF 111 0 [1, 1]) (finF 111 (.int .i64) [] 0)))).trans (by kernel_rfl)
theorem slices_Indexapi_Ref_api_Ref.eq (a0 : den (.list (.int .i64))) (a1 : den (.int .i64)) : slices_Indexapi_Ref_api_Ref a0 a1 =
  slices_Indexapi_Ref_api_Ref.l0 a0 a1 (ofN (lenL (.int .i64) a0)) (0 : Int) :=
  (callW_eq (P := PP) (T := TT) (pr := RR) 112 [⟨(.list (.int .i64)), a0⟩, ⟨(.int .i64), a1⟩] [] (.int .i64) []).trans (by kernel_rfl)
theorem slices_Indexapi_Ref_api_Ref.l0.eq (x0 : den (.list (.int .i64))) (x1 : den (.int .i64)) (x2 : den (.int .i64)) (x3 : den (.int .i64)) : slices_Indexapi_Ref_api_Ref.l0 x0 x1 x2 x3 =
  br (ltI x3 x2)
   (br (andB (leI (0 : Int) x3) (ltI x3 (ofN (lenL (.int .i64) x0)))) (br (eqI x1 (ixL (.int .i64) x0 x3))
    (some x3)
    (slices_Indexapi_Ref_api_Ref.l0 x0 x1 x2 (addI .i64 x3 (1 : Int)))) none)
   (some (-1 : Int)) :=
  (loopB_eq (P := PP) (T := TT) (C := CF) [1, 0, 1, 0, 0] [1, 0, 1, 0, 0] 112 0 ⟨[(0, ⟨(.list (.int .i64)), x0⟩), (1, ⟨(.int .i64), x1⟩), (7, ⟨(.int .i64), x2⟩), (8, ⟨(.int .i64), x3⟩)], []⟩ (blockK 0 (seqK false [1, 1] (BF 112 0 [1, 1]) (finF 112 (.int .i64) [] 0)))).trans (by kernel_rfl)
theorem order_Compare.eq (a0 : den .str) (a1 : den .str) : order_Compare a0 a1 =
  bnd (order_Common a0 a1) fun r0 =>
  br (eqI r0 (ofN (lenS a0)))
   (order_Compare.j0 a0 a1 r0 (eqI r0 (ofN (lenS a1))))
   (order_Compare.j0 a0 a1 r0 false) :=
  (callW_eq (P := PP) (T := TT) (pr := RR) 110 [⟨.str, a0⟩, ⟨.str, a1⟩] [] (.int .i64) []).trans (by kernel_rfl)
theorem order_Compare.j0.eq (x0 : den .str) (x1 : den .str) (x2 : den (.int .i64)) (x3 : den .bool) : order_Compare.j0 x0 x1 x2 x3 =
  br x3
   (some (0 : Int))
   (br (eqI x2 (ofN (lenS x0)))
    (some (-1 : Int))
    (br (eqI x2 (ofN (lenS x1)))
     (some (1 : Int))
     (br (andB (leI (0 : Int) x2) (ltI x2 (ofN (lenS x0)))) (br (andB (leI (0 : Int) x2) (ltI x2 (ofN (lenS x1)))) (br (ltI (getS x1 (toN x2)) (getS x0 (toN x2)))
      (some (1 : Int))
      (some (-1 : Int))) none) none))) :=
  (congrFun (congrFun (jnO_eq [1, 1, 0, 0, 1] (BF (R := den (.int .i64)) 110 0 [1, 1, 0, 0, 1])) ⟨[(0, ⟨.str, x0⟩), (1, ⟨.str, x1⟩), (5, ⟨(.int .i64), x2⟩), (9, ⟨.bool, x3⟩)], []⟩) (blockK 0 (seqK false [1, 1, 1] (BF 110 0 [1, 1, 1]) (finF 110 (.int .i64) [] 0)))).trans (by kernel_rfl)
theorem ref06_Has.eq (a0 : den (.int .u32)) (a1 : den (.int .i64)) : ref06_Has a0 a1 =
  ref06_Has.l0 a0 a1 (0 : Int) :=
  (callW_eq (P := PP) (T := TT) (pr := RR) 113 [⟨(.int .u32), a0⟩, ⟨(.int .i64), a1⟩] [] .bool []).trans (by kernel_rfl)
theorem ref06_Has.l0.eq (x0 : den (.int .u32)) (x1 : den (.int .i64)) (x2 : den (.int .i64)) : ref06_Has.l0 x0 x1 x2 =
  br (ltI x2 (32 : Int))
   (br (notB (eqI (2 : Int) (0 : Int))) (br (eqI (remI x0 (2 : Int)) (1 : Int))
    (br (eqI x2 x1)
     (some true)
     (br (notB (eqI (2 : Int) (0 : Int))) (ref06_Has.l0 (quoI .u32 x0 (2 : Int)) x1 (addI .i64 x2 (1 : Int))) none))
    (br (notB (eqI (2 : Int) (0 : Int))) (ref06_Has.l0 (quoI .u32 x0 (2 : Int)) x1 (addI .i64 x2 (1 : Int))) none)) none)
   (some false) :=
  (loopB_eq (P := PP) (T := TT) (C := CF) [1, 0, 1, 0, 0] [1, 0, 1, 0, 0] 113 0 ⟨[(0, ⟨(.int .u32), x0⟩), (1, ⟨(.int .i64), x1⟩), (5, ⟨(.int .i64), x2⟩)], []⟩ (blockK 0 (seqK false [1, 1] (BF 113 0 [1, 1]) (finF 113 .bool [] 0)))).trans (by kernel_rfl)
theorem pair_put.eq (a0 : den (.list tapiPair)) (a1 : den tapiPair) : pair_put a0 a1 =
  bnd (pair_place a0 a1.1) fun r0 =>
  br r0.2.1
   (bnd (slices_Cloneapi_Pair_api_Pair a0) fun r1 =>
   br (andB (leI (0 : Int) r0.1) (ltI r0.1 (ofN (lenL tapiPair r1.2.1)))) (some ((), ((setL tapiPair r1.2.1 r0.1 a1), ()))) none)
   (both
    (bnd (slices_Cloneapi_Pair_api_Pair a0) fun r2 =>
    bnd (slices_Insertapi_Pair_api_Pair r0.1 r2.2.1 (a1 :: [])) fun r3 =>
    some ((), (r3.2.1, ())))
    (bnd (slices_Cloneapi_Pair_api_Pair a0) fun r4 =>
    bnd (slices_Insertapi_Pair_api_Pair r0.1 r4.2.1 (a1 :: [])) fun r5 =>
    some ((), (r5.2.1, ())))) :=
  (callW_eq (P := PP) (T := TT) (pr := RR) 114 [⟨(.list tapiPair), a0⟩, ⟨tapiPair, a1⟩] [] (.own tapiPair 0) [(.row 75 tapiPair false)]).trans (by kernel_rfl)
theorem pair_place_1.eq (a0 : den tapiPair) (a1 : den .str) : pair_place_1 a0 a1 =
  bnd (order_Compare a0.1 a1) fun r0 =>
  some r0 :=
  (callW_eq (P := PP) (T := TT) (pr := RR) 109 [⟨tapiPair, a0⟩, ⟨.str, a1⟩] [] (.int .i64) []).trans (by kernel_rfl)
theorem order_Common.eq (a0 : den .str) (a1 : den .str) : order_Common a0 a1 =
  order_Common.l0 a0 a1 (minI (ofN (lenS a0)) (ofN (lenS a1))) (minI (ofN (lenS a0)) (ofN (lenS a1))) (0 : Int) :=
  (callW_eq (P := PP) (T := TT) (pr := RR) 115 [⟨.str, a0⟩, ⟨.str, a1⟩] [] (.int .i64) []).trans (by kernel_rfl)
theorem order_Common.l0.eq (x0 : den .str) (x1 : den .str) (x2 : den (.int .i64)) (x3 : den (.int .i64)) (x4 : den (.int .i64)) : order_Common.l0 x0 x1 x2 x3 x4 =
  br (ltI x4 x3)
   (br (andB (leI (0 : Int) x4) (ltI x4 (ofN (lenS x0)))) (br (andB (leI (0 : Int) x4) (ltI x4 (ofN (lenS x1)))) (br (notB (eqI (getS x0 (toN x4)) (getS x1 (toN x4))))
    (some x4)
    (order_Common.l0 x0 x1 x2 x3 (addI .i64 x4 (1 : Int)))) none) none)
   (some x2) :=
  (loopB_eq (P := PP) (T := TT) (C := CF) [1, 1, 0, 1, 0, 0] [1, 1, 0, 1, 0, 0] 115 0 ⟨[(0, ⟨.str, x0⟩), (1, ⟨.str, x1⟩), (5, ⟨(.int .i64), x2⟩), (12, ⟨(.int .i64), x3⟩), (13, ⟨(.int .i64), x4⟩)], []⟩ (blockK 0 (seqK false [1, 1, 1] (BF 115 0 [1, 1, 1]) (finF 115 (.int .i64) [] 0)))).trans (by kernel_rfl)
theorem slices_Insertapi_Pair_api_Pair.eq (a0 : den (.int .i64)) (a1 : denO (.row 75 tapiPair true)) (a2 : denO (.row 75 tapiPair true)) : slices_Insertapi_Pair_api_Pair a0 a1 a2 =
  br (insG tapiPair a1 a0 a2) (some ((), ((insL tapiPair a1 a0 a2), (a2, ())))) none :=
  (callW_eq (P := PP) (T := TT) (pr := RR) 116 [⟨(.own tapiPair 0), ()⟩, ⟨(.int .i64), a0⟩, ⟨(.own tapiPair 1), ()⟩] [⟨(.row 75 tapiPair true), a1⟩, ⟨(.row 75 tapiPair true), a2⟩] (.own tapiPair 0) [(.row 75 tapiPair false), (.row 75 tapiPair true)]).trans (by kernel_rfl)
end Go.Proofs.Ytmopkbmcilolgaa.AC

