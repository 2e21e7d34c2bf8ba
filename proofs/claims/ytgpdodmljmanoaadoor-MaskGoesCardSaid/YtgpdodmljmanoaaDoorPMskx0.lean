/- Written by pp.py, a program of this session, out of the translation: what the functions of a statement do, each for all its arguments, and (in a Law text) the statement itself, out of its plain law, without further conditions. -/
import Derived.Test.YtgpdodmljmanoaaDoorProg
import Derived.Below
import Derived.Deep.Draws
import Derived.Deep.AppendLies
import Derived.Maps.AppendAt
import Derived.OwnWalk
import Derived.Laws.BytesArg
import Derived.Laws.MakeOwn
import Derived.Laws.OwnMore
import Derived.Deep.OwnRows
import Derived.Tactics
import Derived.Lib.ConvBytes
import Derived.Laws.Slices
import Derived.WalkKit
import Derived.KernelRfl
import Derived.RowKit3
import Derived.Deep.LoopGhost
import Derived.Deep.QuietTactic
import Derived.BigQuiet
import Derived.WideLaws
import Derived.Deep.DeepCutAuto
import Derived.Deep.CutBlock
import Derived.Deep.RegionHeld3
import Derived.Laws.Rows
import Derived.Lib.AppendStr
import Derived.ArgAppend
import Derived.Laws.IdiomCopy
import Derived.OrdersHeld
import Derived.Laws.BitsLemmas
import Derived.RowKit
import Derived.Test.YtgpdodmljmanoaaDoorTab
import Derived.WalkMore
import Derived.Test.YtgpdodmljmanoaaDoorWWords
import Derived.Test.YtgpdodmljmanoaaDoorWLast
import Derived.Test.YtgpdodmljmanoaaDoorWTab
import Derived.Test.YtgpdodmljmanoaaDoorWFour
import Derived.Test.YtgpdodmljmanoaaDoorWQPut
import Derived.Test.YtgpdodmljmanoaaDoorWApart
import Derived.Test.YtgpdodmljmanoaaDoorWArr
import Derived.Test.YtgpdodmljmanoaaDoorWZeros
import Derived.Test.YtgpdodmljmanoaaDoorWFoot
import Derived.Test.YtgpdodmljmanoaaDoorWKept
import Derived.Test.YtgpdodmljmanoaaDoorWShare
import Derived.Test.YtgpdodmljmanoaaDoorWN
import Derived.Test.YtgpdodmljmanoaaDoorWFootNe
import Derived.Test.YtgpdodmljmanoaaDoorWAt
import Derived.Test.YtgpdodmljmanoaaDoorWEqStruct
import Derived.Test.YtgpdodmljmanoaaDoorWRepsOne
import Derived.Test.YtgpdodmljmanoaaDoorWInv
import Derived.Test.YtgpdodmljmanoaaDoorWInvWords
import Derived.Test.YtgpdodmljmanoaaDoorWGuard
import Derived.Test.YtgpdodmljmanoaaDoorWNEv
import Derived.Test.YtgpdodmljmanoaaDoorWMore
namespace Go.Proofs.YtgpdodmljmanoaaDoor.PMsk
open Go.Proofs.YtgpdodmljmanoaaDoor.Tab
open Go.RowKit Go.Proofs.YtgpdodmljmanoaaDoorW.PrintWords Go.Proofs.YtgpdodmljmanoaaDoorW.PrintLast Go.Proofs.YtgpdodmljmanoaaDoorW.PrintMore
attribute [local go_sem] max2_int min2_int max_two min_two max_three min_three max_four min_four   -- for this text's walks alone
set_option linter.unusedVariables false
set_option linter.unusedSimpArgs false



def errW : Option Int → Value
  | none => .nilIface
  | some c => .iface 0 (.int .i64 c)
theorem errW_none : errW none = .nilIface := rfl
theorem errW_some (c : Int) : errW (some c) = .iface 0 (.int .i64 c) := rfl

theorem info3 : (Tryd.prog.info? 3).map (fun i => (i.zero, i.size, i.bytes)) = some (some (.int .i64 0), 1, 8) := by kernel_rfl
-- the values' own types

end Go.Proofs.YtgpdodmljmanoaaDoor.PMsk
