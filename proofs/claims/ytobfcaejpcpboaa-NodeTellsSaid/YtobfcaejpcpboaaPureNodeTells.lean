/- The plain law of the statement NodeTells. No conditions but what is known of whatever comes in. -/
import Derived.Test.YtobfcaejpcpboaaP13tT
set_option linter.unusedVariables false
namespace Go.Proofs.Ytobfcaejpcpboaa.Pure
open Go.Abs Go.Proofs.Ytobfcaejpcpboaa.AT
theorem NodeTells (a0 a1 : den tapiNode) (h0 : wfD tapiNode a0) (h1 : wfD tapiNode a1) : law13_NodeTells a0 a1 = some true := by
  have f0 := few_okN h0
  have f1 := few_okN h1
  have k0 := f0.kids
  have l0 := f0.list
  have key : law13_NodeTells.j0 false (few a0) = some true := by
    have hb : (bindsS (few a0)).length ≤ 1000000 := by
      unfold bindsS
      split
      · simp
      · split
        · omega
        · simp
    have hr := refsS_len (few a0)
    rw [law13_NodeTells.j0.eq, br_f, Few_ok f0, bnd_some, few_few, refs_any _ f0, bnd_some, refrefs_any _ f0, bnd_some, sameR_any _ _ (by omega), bnd_some, br_if, if_pos rfl, bnd_some, binds_any _ f0, bnd_some, refbinds_any, bnd_some, refsameP_any _ _ hb, bnd_some, br_if, if_pos rfl, works_any, bnd_some]
  rw [law13_NodeTells.eq, Few_wf h0, bnd_some, Few_wf h1, bnd_some, Few_ok f0, bnd_some, few_few, copy_any _ f0, bnd_some]
  have e : ref13_Same ((few a0).1, ((few a0).2.1, ((few a0).2.2.1, ((few a0).2.2.2.1, ((few a0).2.2.2.2.1, ((few a0).2.2.2.2.2.1, ((few a0).2.2.2.2.2.2.1, (few a0).2.2.2.2.2.2.2))))))) (few a0) = some true := by
    rw [refsame_any _ _ (by show (few a0).2.2.2.2.1.length ≤ _; omega) (by show (few a0).2.2.2.2.2.2.1.length ≤ _; omega)]
    exact some_bool (decide_eq_true rfl)
  rw [e, bnd_some, show notB true = false from rfl, br_f, bnd_some, Few_ok f1, bnd_some, few_few, same_any _ _ f0, bnd_some, refsame_any _ _ (by omega) (by omega), bnd_some]
  have e2 : ∀ b : Bool, notB (eqB b b) = false := fun b => by cases b <;> rfl
  rw [e2]
  exact key
end Go.Proofs.Ytobfcaejpcpboaa.Pure
