/- The plain law of the statement PlanDoes. No conditions but what is known of whatever comes in. -/
import Derived.Test.YtobfcaejpcpboaaP18wV
set_option linter.unusedVariables false
set_option linter.unusedSimpArgs false
namespace Go.Proofs.Ytobfcaejpcpboaa.Pure
open Go.Abs Go.Proofs.Ytobfcaejpcpboaa.AV
theorem doS_small (h : List NodeV) (hh : okH h) (p : PlanV) (hp : okPl p) : (doS h p).1.length ≤ 1000000 ∧ ∀ n ∈ (doS h p).1, small n := by
  obtain ⟨r, h1, h2, h3⟩ := doL_out p.1 h []
  have hl := hh.len
  have hpl := hp.len
  unfold doS
  rw [h1]
  refine ⟨by rw [List.length_append]; omega, fun n hn => ?_⟩
  rcases List.mem_append.1 hn with hn | hn
  · exact (hh.node n hn).small
  · exact h3 (fun m hm => (hp.node m hm).small) n hn
theorem PlanDoes (a0 : den (.list tapiNode)) (a1 : den tboscageref18Plan) (h0 : wfD (.list tapiNode) a0) (h1 : wfD tboscageref18Plan a1) : law18_PlanDoes a0 a1 = some true := by
  have hh := okH.of h0
  have hp := okPl.of h1
  obtain ⟨s1, s2⟩ := doS_small _ hh _ hp
  have ee : ∀ z : Int, eqI z z = true := fun z => decide_eq_true rfl
  have hsame : ref18_SameHeap (doS (fewH a0) (giveP a1)).1 (doS (fewH a0) (giveP a1)).1 = some true := by
    rw [sameH_any _ _ s1 s2]
    exact some_bool (decide_eq_true rfl)
  have hnil : ref18_SameHeap [] [] = some true := by
    rw [sameH_any [] [] (by show 0 ≤ _; omega) (fun n hn => by cases hn)]
    exact some_bool (decide_eq_true rfl)
  rw [law18_PlanDoes.eq, fewH_wf h0, bnd_some, give_wf h1, bnd_some, law18_Back.eq, bnd_some, fewH_ok hh, bnd_some, give_ok hp, bnd_some, giveP_giveP, fewH_fewH, do_any _ hh _ hp, bnd_some, refdo_any _ hh _ hp, bnd_some]
  cases (mayP (giveP a1) && (mayH (fewH a0) && fitsP (fewH a0) (giveP a1))) with
  | true =>
    rw [if_pos rfl, if_pos rfl, hsame, bnd_some, br_t, ee, br_t, works18]
    rfl
  | false =>
    rw [if_neg (by simp), if_neg (by simp), hnil, bnd_some, br_t, works18]
    rfl
end Go.Proofs.Ytobfcaejpcpboaa.Pure
