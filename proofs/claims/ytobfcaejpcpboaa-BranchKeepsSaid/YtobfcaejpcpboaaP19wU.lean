/- Chapter 19's example. No conditions. -/
import Derived.Test.YtobfcaejpcpboaaP19U
set_option linter.unusedVariables false
set_option linter.unusedSimpArgs false
namespace Go.Proofs.Ytobfcaejpcpboaa.AU
open Go.Abs
theorem works19 : law19_works = some true := by
  have oz : okN zeroN := ⟨by decide, by decide, by decide, by decide, by simp [zeroN], by simp [zeroN], by simp [zeroN]⟩
  have hbr : branch_branch zeroN = some ((2, (ByteArray.empty, (ByteArray.empty, (((0 : Nat) : Int), ((), (0, ((), (0, (0, ()))))))))), ([], ([], ()))) := by
    rw [branch_branch.eq, branchO_0, bnd_some]
    rfl
  obtain ⟨m, ks, hb, hw, hm, hch⟩ := with_spec (n := zeroN) okB.empty hbr 5 1025
  rw [if_neg (by omega)] at hm
  have hm : m = 32 := hm.trans (by decide)
  subst hm
  have hl : ks.length = 1 := hb.len.trans (by decide)
  have h5 := hch 5 (by omega)
  rw [if_pos ⟨rfl, by omega⟩] at h5
  have hk0 : ks.getD 0 0 = 1025 := h5
  have hself := branch_self hb
  have hch2 := child_any hb hself 5
  have hc : chI 32 ks 5 = 1025 := h5
  have i0 := ixR ks 0 (by omega)
  rw [show ((0 : Nat) : Int) = 0 from rfl] at i0
  have hg : ks[0] = 1025 := by
    rw [List.getD_eq_getElem?_getD, List.getElem?_eq_getElem (show 0 < ks.length by omega)] at hk0
    exact hk0
  have honly : branch_Only (bN 32 ks 0 0) = some (1025, (true, ())) := by
    rw [branch_Only.eq, hself, bnd_some]
    simp only [ltI_d, leI_d, eqI_d, notB_d, ofN_d, lenL_d, andB_d, br_if]
    rw [if_neg (by omega), if_pos (by omega), i0, hg]
  have hw : branch_With (0, (ByteArray.empty, (ByteArray.empty, (0, ([], (0, ([], (0, (0, ()))))))))) 5 1025 = some (bN 32 ks 0 0) := hw
  rw [law19_works.eq, hw, bnd_some, honly, bnd_some, hch2, bnd_some, hc]
  rfl
end Go.Proofs.Ytobfcaejpcpboaa.AU
