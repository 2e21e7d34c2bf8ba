/- The plain law of the statement PlanFills. No conditions but what is known of whatever comes in. -/
import Derived.Test.YtobfcaejpcpboaaP18wV
set_option linter.unusedVariables false
set_option linter.unusedSimpArgs false
namespace Go.Proofs.Ytobfcaejpcpboaa.Pure
open Go.Abs Go.Proofs.Ytobfcaejpcpboaa.AV
theorem eqB_self (b : Bool) : eqB b b = true := by cases b <;> rfl
theorem fills_j0 (n : NodeV) (hn : okN n) (hr : rngN n) (to : List Int) (hto : to.length ≤ 20) (r : Int) (hrr : rng r) (hff : few n = n) : law18_PlanFills.j0 r to n = some true := by
  have hfit : fitL (.int .i64) to = true := by rw [fitL_d]; exact decide_eq_true (by omega)
  have happ : appL (.int .i64) [] to = to := rfl
  have hs : ref13_Same (fillS to n) (fillS to n) = some true := by
    obtain ⟨s1, s2⟩ := fillS_small (to := to) hn.small
    rw [refsame_any _ _ s1 s2]
    exact some_bool (decide_eq_true rfl)
  have ee : ∀ z : Int, eqI z z = true := fun z => decide_eq_true rfl
  rw [law18_PlanFills.j0.eq, Few_ok hn, bnd_some, hff, happ, hfit, br_t, fill_any to n hn hr, bnd_some, reffill_any to (by omega) n hn hr, bnd_some]
  dsimp only
  rw [happ, hfit, br_t, planref_any r hrr to, bnd_some, refref_any r hrr to (by omega), bnd_some, hs, works18]
  simp only [bnd_some, br_t, ee]
  have e1 : eqI (if fillB to n = true then 0 else 4) 0 = fillB to n := by cases fillB to n <;> rfl
  have e2 : eqI (if (refR to r).isSome = true then 0 else 4) 0 = (refR to r).isSome := by cases (refR to r).isSome <;> rfl
  rw [e1, e2, eqB_self, eqB_self]
  cases fillB to n <;> cases (refR to r).isSome <;> rfl
theorem PlanFills (a0 : den tapiNode) (a1 : den (.list (.int .i64))) (a2 : den (.int .i64)) (h0 : wfD tapiNode a0) (h1 : wfD (.list (.int .i64)) a1) (h2 : wfD (.int .i64) a2) : law18_PlanFills a0 a1 a2 = some true := by
  have hf := few_okN h0
  obtain ⟨o1, o2⟩ := old20 a1 h1.1
  have happ : appL (.int .i64) [] (a1.take 20) = a1.take 20 := rfl
  have hj := fills_j0 (few a0) hf (few_rng h0) (a1.take 20) (by rw [List.length_take]; omega) a2 (wf_rng h2) (few_few a0)
  have hfew := Few_wf h0
  have hfit := fit20 a1
  rw [law18_PlanFills.eq]
  simp only [o1, o2, happ, hfit, hfew, bnd_some, br_t, hj, both_self]
end Go.Proofs.Ytobfcaejpcpboaa.Pure
