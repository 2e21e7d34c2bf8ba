/- The plain law of the statement BranchChanges. No conditions but what is known of whatever comes in. -/
import Derived.Test.YtobfcaejpcpboaaP19wU
set_option linter.unusedVariables false
set_option linter.unusedSimpArgs false
namespace Go.Proofs.Ytobfcaejpcpboaa.Pure
open Go.Abs Go.Proofs.Ytobfcaejpcpboaa.AU
theorem BranchChanges (a0 : den tapiNode) (a1 : den (.int .i64)) (a2 : den (.int .i64)) (h0 : wfD tapiNode a0) (h1 : wfD (.int .i64) a1) (h2 : wfD (.int .i64) a2) : law19_BranchChanges a0 a1 a2 = some true := by
  have hf := few_okN h0
  obtain ⟨m, ks, sz, bi, hb, hbr, hof, _⟩ := branch_spec (few a0) hf
  obtain ⟨mw, kw, hbw, hwith, _, hcw⟩ := with_spec hb hbr a1 a2
  obtain ⟨mo, ko, hbo, hwithout, hco⟩ := without_spec hb hbr a1
  obtain ⟨Ap, hput, hpl, hpa⟩ := refput_any ((List.range 32).map (chAt m ks)) (at_len m ks) sz bi a1 a2
  obtain ⟨Ao, hputo, hol, hoa⟩ := refput_any ((List.range 32).map (chAt m ks)) (at_len m ks) sz bi a1 0
  have no : ref19_Branch_Node (Ao, (sz, (bi, ()))) = some (bN mo ko sz bi) := node_any hbo Ao hol (fun j hj => by rw [hoa j hj, hco j hj, at_get m ks j hj])
  have same : ∀ {m : Nat} {ks : List Int} {sz bi : Int}, okB m ks sz bi → ref13_Same (bN m ks sz bi) (bN m ks sz bi) = some true := fun h => by
    rw [refsame_any _ _ (by have := h.node.kids; omega) (by show 0 ≤ _; omega)]
    exact some_bool (decide_eq_true rfl)
  have hj : ∀ At : List Int, At.length = 32 → (∀ j, j < 32 → At.getD j 0 = chAt mw kw j) → law19_BranchChanges.j0 a1 a2 (few a0) ((List.range 32).map (chAt m ks), (sz, (bi, ()))) (At, (sz, (bi, ()))) = some true := by
    intro At hA hat
    rw [law19_BranchChanges.j0.eq, Few_ok hf, bnd_some, few_few, hwith, bnd_some, node_any hbw At hA hat, bnd_some, same hbw, bnd_some, br_t, bnd_some, hwithout, bnd_some, hputo, bnd_some, no, bnd_some, same hbo, bnd_some, br_t, works19, bnd_some]
  rw [law19_BranchChanges.eq, Few_wf h0, bnd_some, hof, bnd_some]
  simp only [eqI_d, notB_d, br_if]
  by_cases hr : a2 = 0
  · rw [if_neg (fun q => q hr)]
    exact hj _ (at_len m ks) (fun j hj => by rw [at_get m ks j hj, hcw j hj, if_neg (fun q => q.2 hr)])
  · rw [if_pos hr, hput, bnd_some]
    refine hj _ hpl (fun j hj => ?_)
    rw [hpa j hj, hcw j hj, at_get m ks j hj]
    by_cases q : (j : Int) = a1
    · rw [if_pos q, if_pos ⟨q, hr⟩]
    · rw [if_neg q, if_neg (fun z => q z.1)]
end Go.Proofs.Ytobfcaejpcpboaa.Pure
