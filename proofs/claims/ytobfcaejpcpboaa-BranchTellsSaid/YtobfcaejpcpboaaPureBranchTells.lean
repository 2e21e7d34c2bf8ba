/- The plain law of the statement BranchTells. No conditions but what is known of whatever comes in. -/
import Derived.Test.YtobfcaejpcpboaaP19wU
set_option linter.unusedVariables false
set_option linter.unusedSimpArgs false
namespace Go.Proofs.Ytobfcaejpcpboaa.Pure
open Go.Abs Go.Proofs.Ytobfcaejpcpboaa.AU
theorem BranchTells (a0 : den tapiNode) (a1 : den (.int .i64)) (a2 : den (.int .i64)) (h0 : wfD tapiNode a0) (h1 : wfD (.int .i64) a1) (h2 : wfD (.int .i64) a2) : law19_BranchTells a0 a1 a2 = some true := by
  have hf := few_okN h0
  obtain ⟨m, ks, sz, bi, hb, hbr, hof, _⟩ := branch_spec (few a0) hf
  have hnode : ∀ {sz' bi' : Int}, okB m ks sz' bi' → ref19_Branch_Node ((List.range 32).map (chAt m ks), (sz', (bi', ()))) = some (bN m ks sz' bi') := fun h => node_any h _ (at_len m ks) (fun j hj => at_get m ks j hj)
  have hkl : ks.length ≤ 40 := hb.node.kids
  have honly : branch_Only (few a0) = some (if ks.length = 1 then (ks.getD 0 0, (true, ())) else (0, (false, ()))) := by
    rw [branch_Only.eq, hbr, bnd_some]
    simp only [ltI_d, leI_d, eqI_d, notB_d, ofN_d, lenL_d, andB_d, br_if]
    by_cases e : ks.length = 1
    · have i0 := ixR ks 0 (by omega)
      rw [show ((0 : Nat) : Int) = 0 from rfl] at i0
      rw [if_neg (by omega), if_pos (by omega), if_pos e, i0, List.getD_eq_getElem?_getD, List.getElem?_eq_getElem (show 0 < ks.length by omega)]
      rfl
    · rw [if_pos (by omega), if_neg e]
  have hsized : branch_Sized (few a0) a2 = some (bN m ks (if 0 ≤ a2 then a2 else sz) bi) := by
    rw [branch_Sized.eq, hbr, bnd_some]
    simp only [leI_d, br_if]
    by_cases e : 0 ≤ a2
    · rw [if_pos e, if_pos e]; rfl
    · rw [if_neg e, if_neg e]; rfl
  have hb' : okB m ks (if 0 ≤ a2 then a2 else sz) bi := ⟨hb.lt, hb.len, hb.nz, by split <;> first | assumption | exact hb.sz0, hb.bi0⟩
  have hj1 : ∀ (x8 : List Int × Int × Int × Unit), x8 = ((List.range 32).map (chAt m ks), ((if 0 ≤ a2 then a2 else sz), (bi, ()))) → ∀ r p : Int, ∀ b c : Bool, r = p → b = c → law19_BranchTells.j1 a1 a2 r b p c (few a0) ((List.range 32).map (chAt m ks), (sz, (bi, ()))) x8 = some true := by
    rintro x8 rfl r p b c rfl rfl
    rw [law19_BranchTells.j1.eq, Few_ok hf, bnd_some, few_few, child_any hb hbr, bnd_some, refchild_any, bnd_some, bnd_some, hsized, bnd_some, hnode hb', bnd_some, refsame_any _ _ (by show ks.length ≤ _; omega) (by show 0 ≤ _; omega), bnd_some, works19, bnd_some]
    have e : eqB b b = true := by cases b <;> rfl
    have ee : ∀ z : Int, eqI z z = true := fun z => decide_eq_true rfl
    rw [ee, br_t, ee, br_t, e, br_t, decide_eq_true rfl, br_t]
  have hj0 : ∀ r p : Int, ∀ b c : Bool, r = p → b = c → law19_BranchTells.j0 a1 a2 r b p c (few a0) ((List.range 32).map (chAt m ks), (sz, (bi, ()))) = some true := by
    intro r p b c hr hc
    rw [law19_BranchTells.j0.eq, leI_d, br_if]
    by_cases e : 0 ≤ a2
    · rw [if_pos e]; exact hj1 _ (by rw [if_pos e]) r p b c hr hc
    · rw [if_neg e]; exact hj1 _ (by rw [if_neg e]) r p b c hr hc
  rw [law19_BranchTells.eq, Few_wf h0, bnd_some, hof, bnd_some, Few_ok hf, bnd_some, few_few, honly, bnd_some, hnode hb, bnd_some]
  have hks : (bN m ks sz bi).2.2.2.2.1 = ks := rfl
  rw [hks]
  simp only [ltI_d, leI_d, eqI_d, ofN_d, lenL_d, andB_d, br_if]
  by_cases e : ks.length = 1
  · have i0 := ixR ks 0 (by omega)
    rw [show ((0 : Nat) : Int) = 0 from rfl] at i0
    rw [if_pos (by omega), bnd_some, hks]
    rw [if_pos (by omega), i0]
    refine hj0 _ _ _ _ ?_ ?_
    · rw [if_pos e, List.getD_eq_getElem?_getD, List.getElem?_eq_getElem (show 0 < ks.length by omega)]
      rfl
    · rw [if_pos e]; exact (decide_eq_true (by omega)).symm
  · rw [if_neg (by omega)]
    refine hj0 _ _ _ _ ?_ ?_
    · rw [if_neg e]
    · rw [if_neg e]; exact (decide_eq_false (by omega)).symm
end Go.Proofs.Ytobfcaejpcpboaa.Pure
