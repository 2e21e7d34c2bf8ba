/- The plain law of the statement NodeMays. No conditions but what is known of whatever comes in. -/
import Derived.Test.YtobfcaejpcpboaaP13mT
set_option linter.unusedVariables false
namespace Go.Proofs.Ytobfcaejpcpboaa.Pure
open Go.Abs Go.Proofs.Ytobfcaejpcpboaa.AT
theorem NodeMays (a0 : den tapiNode) (h0 : wfD tapiNode a0) : law13_NodeMays a0 = some true := by
  have hf := few_okN h0
  rw [law13_NodeMays.eq, Few_wf h0, bnd_some, Few_ok hf, bnd_some, few_few, may_any _ hf, bnd_some, refmay_any _ hf, bnd_some, eqI_d, br_if, if_pos rfl, works_any, bnd_some]
end Go.Proofs.Ytobfcaejpcpboaa.Pure
