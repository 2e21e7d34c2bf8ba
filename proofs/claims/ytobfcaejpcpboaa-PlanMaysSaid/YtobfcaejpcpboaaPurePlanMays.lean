/- The plain law of the statement PlanMays. No conditions but what is known of whatever comes in. -/
import Derived.Test.YtobfcaejpcpboaaP18wV
set_option linter.unusedVariables false
set_option linter.unusedSimpArgs false
namespace Go.Proofs.Ytobfcaejpcpboaa.Pure
open Go.Abs Go.Proofs.Ytobfcaejpcpboaa.AV
theorem cloneN_any (l : List NodeV) (hl : l.length ≤ 1000000) : slices_Cloneapi_Node_api_Node l = some ((), (l, ())) := by
  rw [slices_Cloneapi_Node_api_Node.eq]
  simp only [ofN_d, lenL_d, eqI_d, br_if, fitL_d, appL_d, List.nil_append]
  by_cases h : l.length = 0
  · have e : l = [] := List.eq_nil_of_length_eq_zero h
    subst e
    rw [if_pos (by rfl), if_pos (by show 0 ≤ _; omega), both_self]
  · rw [if_neg (by omega), if_pos (by omega)]
theorem add_any (p : PlanV) (hp : okPl p) (n : NodeV) (hn : okN n) : plan_Add p n = some ((p.1 ++ [n], p.2), (-1 - (p.1.length : Int), ())) := by
  have hl := hp.len
  rw [plan_Add.eq, cloneN_any _ (by omega), bnd_some, copy_any n hn, bnd_some]
  have hll : (p.1 ++ [n]).length = p.1.length + 1 := by rw [List.length_append]; rfl
  have e : ((n.1, (n.2.1, (n.2.2.1, (n.2.2.2.1, (n.2.2.2.2.1, (n.2.2.2.2.2.1, (n.2.2.2.2.2.2.1, n.2.2.2.2.2.2.2))))))) : NodeV) = n := rfl
  have hfit : fitL tapiNode (appL tapiNode p.1 [n]) = true := by rw [fitL_d, appL_d]; exact decide_eq_true (by show (p.1 ++ [n]).length ≤ _; omega)
  show br (fitL tapiNode (appL tapiNode p.1 [n])) (bnd (ref_New (subI .i64 (ofN (lenL tapiNode (appL tapiNode p.1 [n]))) 1)) fun r2 => some ((p.1 ++ [n], p.2), (r2, ()))) none = _
  have es : subI .i64 (ofN (lenL tapiNode (appL tapiNode p.1 [n]))) 1 = (p.1.length : Int) := by
    rw [ofN_d, lenL_d, appL_d]
    show subI .i64 (((p.1 ++ [n]).length : Nat) : Int) 1 = _
    rw [hll, subI_d (by omega) (by omega)]
    omega
  rw [hfit, br_t, es, ref_New.eq, ltI_d, br_if, if_neg (by omega), bnd_some]
  have e2 : subI .i64 (-1) (p.1.length : Int) = -1 - (p.1.length : Int) := subI_d (by omega) (by omega)
  rw [e2]
theorem PlanMays (a0 : den tboscageref18Plan) (a1 : den tapiNode) (h0 : wfD tboscageref18Plan a0) (h1 : wfD tapiNode a1) : law18_PlanMays a0 a1 = some true := by
  have hp := okPl.of h0
  have hn := few_okN h1
  have hl := hp.len
  have hold := hp.old
  have hj1 : law18_PlanMays.j1 (-1 - ((giveP a0).1.length : Int)) (giveP a0) ((giveP a0).1 ++ [few a1], (giveP a0).2) ((), (giveP a0).2) ((giveP a0).1 ++ [few a1]) = some true := by
    have hll : ((giveP a0).1 ++ [few a1]).length = (giveP a0).1.length + 1 := by rw [List.length_append]; rfl
    have hs : ref18_SameHeap ((giveP a0).1 ++ [few a1]) ((giveP a0).1 ++ [few a1]) = some true := by
      rw [sameH_any _ _ (by omega) (fun n hm => by
        rcases List.mem_append.1 hm with hm | hm
        · exact (hp.node n hm).small
        · rw [List.mem_singleton.1 hm]; exact hn.small)]
      exact some_bool (decide_eq_true rfl)
    have hr : ref13_SameRefs (giveP a0).2.2.1 (giveP a0).2.2.1 = some true := by
      rw [sameR_any _ _ (by omega)]
      exact some_bool (decide_eq_true rfl)
    rw [law18_PlanMays.j1.eq, give_ok hp, bnd_some, giveP_giveP, mayp_any _ hp, bnd_some, refmayp_any _ hp, bnd_some]
    have e1 : eqB (eqI (if mayP (giveP a0) = true then 0 else 4) 0) (mayP (giveP a0)) = true := by cases mayP (giveP a0) <;> rfl
    have e2 : eqI (-1 - ((giveP a0).1.length : Int)) (subI .i64 0 (ofN (lenL tapiNode ((giveP a0).1 ++ [few a1])))) = true := by
      rw [eqI_d, ofN_d, lenL_d]
      show decide (_ = subI .i64 0 ((((giveP a0).1 ++ [few a1]).length : Nat) : Int)) = true
      rw [hll, subI_d (by omega) (by omega)]
      exact decide_eq_true (by omega)
    have e3 : ∀ z : Int, eqI z z = true := fun z => decide_eq_true rfl
    rw [e1, br_t, e2, br_t, hs, bnd_some, br_t, e3, br_t, hr, bnd_some, br_t, works18, bnd_some]
  have hf1 : fitL tapiNode (appL tapiNode [] (giveP a0).1) = true := by
    rw [fitL_d, appL_d]; exact decide_eq_true (by show (giveP a0).1.length ≤ _; omega)
  have hf2 : fitL tapiNode (appL tapiNode (appL tapiNode [] (giveP a0).1) (few a1 :: [])) = true := by
    rw [fitL_d, appL_d, appL_d]; exact decide_eq_true (by show ((giveP a0).1 ++ [few a1]).length ≤ _; rw [List.length_append]; show _ + 1 ≤ _; omega)
  have hj1' : law18_PlanMays.j1 (-1 - ((giveP a0).1.length : Int)) (giveP a0) ((giveP a0).1 ++ [few a1], (giveP a0).2) ((), (giveP a0).2) (appL tapiNode (appL tapiNode [] (giveP a0).1) (few a1 :: [])) = some true := hj1
  have hj0 : law18_PlanMays.j0 (-1 - ((giveP a0).1.length : Int)) (giveP a0) (few a1) ((giveP a0).1 ++ [few a1], (giveP a0).2) = some true := by
    rw [law18_PlanMays.j0.eq]
    simp only [hf1, hf2, br_t, hj1', both_self]
  have ha := add_any (giveP a0) hp (few a1) hn
  have hg := give_ok hp
  rw [giveP_giveP] at hg
  have hfe := Few_ok hn
  rw [few_few] at hfe
  rw [law18_PlanMays.eq, give_wf h0, bnd_some, law18_Back.eq, bnd_some, Few_wf h1, bnd_some]
  simp only [hg, hfe, ha, bnd_some, hj0, both_self]
end Go.Proofs.Ytobfcaejpcpboaa.Pure
