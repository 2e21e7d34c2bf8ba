/- The plain law of the statement PlanStays. No conditions but what is known of whatever comes in. -/
import Derived.Test.YtobfcaejpcpboaaP18wV
set_option linter.unusedVariables false
set_option linter.unusedSimpArgs false
namespace Go.Proofs.Ytobfcaejpcpboaa.Pure
open Go.Abs Go.Proofs.Ytobfcaejpcpboaa.AV
theorem PlanStays (a0 : den (.list tapiNode)) (a1 : den tboscageref18Plan) (h0 : wfD (.list tapiNode) a0) (h1 : wfD tboscageref18Plan a1) : law18_PlanStays a0 a1 = some true := by
  have hh := okH.of h0
  have hp := okPl.of h1
  have hl := hh.len
  have hpl := hp.len
  have hsame : ref18_SameHeap (fewH a0) (fewH a0) = some true := by
    rw [sameH_any _ _ (by omega) (fun n hn => (hh.node n hn).small)]
    exact some_bool (decide_eq_true rfl)
  obtain ⟨r, hr, hrl, _⟩ := doL_out (giveP a1).1 (fewH a0) []
  rw [law18_PlanStays.eq, works18, bnd_some, show notB true = false from rfl, br_f, fewH_wf h0, bnd_some, fewH_ok hh, bnd_some, fewH_fewH, give_wf h1, bnd_some, do_any _ hh _ hp, bnd_some, hsame, bnd_some, bnd_some]
  cases (mayP (giveP a1) && (mayH (fewH a0) && fitsP (fewH a0) (giveP a1))) with
  | true =>
    rw [if_pos rfl]
    have ed : (doS (fewH a0) (giveP a1)).1 = fewH a0 ++ r := hr
    have hll : (fewH a0 ++ r).length = (fewH a0).length + (giveP a1).1.length := by rw [List.length_append, hrl]
    have e0 : toN (0 : Int) = 0 := rfl
    simp only [ltI_d, leI_d, eqI_d, notB_d, ofN_d, lenL_d, andB_d, br_if, br_t, ed]
    have ea : addI .i64 ((fewH a0).length : Int) ((giveP a1).1.length : Int) = (((fewH a0).length + (giveP a1).1.length : Nat) : Int) := by
      rw [addI_d (by omega) (by omega)]
      omega
    rw [hll, ea, if_neg (fun q => q (by first | exact rfl | exact True.intro)), if_pos (by omega), if_pos (by omega), toN_d, e0, subL0, List.take_left', hsame, bnd_some]
    rfl
  | false =>
    rw [if_neg (by simp)]
    rfl
end Go.Proofs.Ytobfcaejpcpboaa.Pure
