/- Written by pp.py, a program of this session, out of the translation: what the functions of a statement do, each for all its arguments, and (in a Law text) the statement itself, out of its plain law, without further conditions. -/
import Derived.Test.YtgpdodmljmanoaaProg
import Derived.Below
import Derived.Deep.Draws
import Derived.Deep.AppendLies
import Derived.Maps.AppendAt
import Derived.OwnWalk
import Derived.Laws.BytesArg
import Derived.Laws.MakeOwn
import Derived.Laws.OwnMore
import Derived.Deep.OwnRows
import Derived.Tactics
import Derived.Lib.ConvBytes
import Derived.Laws.Slices
import Derived.WalkKit
import Derived.KernelRfl
import Derived.RowKit3
import Derived.Deep.LoopGhost
import Derived.Deep.QuietTactic
import Derived.BigQuiet
import Derived.WideLaws
import Derived.Deep.DeepCutAuto
import Derived.Deep.CutBlock
import Derived.Deep.RegionHeld3
import Derived.Laws.Rows
import Derived.Lib.AppendStr
import Derived.ArgAppend
import Derived.Laws.IdiomCopy
import Derived.OrdersHeld
import Derived.Laws.BitsLemmas
import Derived.RowKit
import Derived.Test.YtgpdodmljmanoaaWWords
import Derived.Test.YtgpdodmljmanoaaWLast
import Derived.Test.YtgpdodmljmanoaaWTab
import Derived.Test.YtgpdodmljmanoaaWFour
import Derived.Test.YtgpdodmljmanoaaWQPut
import Derived.Test.YtgpdodmljmanoaaWApart
import Derived.Test.YtgpdodmljmanoaaWArr
import Derived.Test.YtgpdodmljmanoaaWZeros
import Derived.Test.YtgpdodmljmanoaaWFoot
import Derived.Test.YtgpdodmljmanoaaWKept
import Derived.Test.YtgpdodmljmanoaaWShare
import Derived.Test.YtgpdodmljmanoaaWN
import Derived.Test.YtgpdodmljmanoaaWFootNe
import Derived.Test.YtgpdodmljmanoaaWAt
import Derived.Test.YtgpdodmljmanoaaWEqStruct
import Derived.Test.YtgpdodmljmanoaaWRepsOne
import Derived.Test.YtgpdodmljmanoaaWInv
import Derived.Test.YtgpdodmljmanoaaWInvWords
import Derived.Test.YtgpdodmljmanoaaWGuard
import Derived.Test.YtgpdodmljmanoaaWNEv
import Derived.Test.YtgpdodmljmanoaaWMore
namespace Go.Proofs.Ytgpdodmljmanoaa.PPri
open Go.RowKit Go.Proofs.YtgpdodmljmanoaaW.PrintWords Go.Proofs.YtgpdodmljmanoaaW.PrintLast Go.Proofs.YtgpdodmljmanoaaW.PrintMore
attribute [local go_sem] max2_int min2_int max_two min_two max_three min_three max_four min_four   -- for this text's walks alone
set_option linter.unusedVariables false
set_option linter.unusedSimpArgs false



def errW : Option Int → Value
  | none => .nilIface
  | some c => .iface 0 (.int .i64 c)
theorem errW_none : errW none = .nilIface := rfl
theorem errW_some (c : Int) : errW (some c) = .iface 0 (.int .i64 c) := rfl

theorem info9 : (Try.prog.info? 9).map (fun i => (i.zero, i.size, i.bytes)) = some (some (.string ⟨#[]⟩), 1, 16) := by kernel_rfl
-- the values' own types

end Go.Proofs.Ytgpdodmljmanoaa.PPri
