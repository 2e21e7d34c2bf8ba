/- The plain law of the statement NodeMakes. No conditions but what is known of whatever comes in. -/
import Derived.Test.YtobfcaejpcpboaaP13tT
set_option linter.unusedVariables false
namespace Go.Proofs.Ytobfcaejpcpboaa.Pure
open Go.Abs Go.Proofs.Ytobfcaejpcpboaa.AT
theorem same_self (n : NodeV) (hk : n.2.2.2.2.1.length ≤ 1000000) (hl : n.2.2.2.2.2.2.1.length ≤ 1000000) : ref13_Same n n = some true := by
  rw [refsame_any n n hk hl]
  exact some_bool (decide_eq_true rfl)
theorem makes_j2 (m : Int) (l : List PairV) (sz : Int) (ks : List Int) (hk : ks.length ≤ 40) (hl : l.length ≤ 40) (hs : ∀ p ∈ l, okP p) (hf : fewL l = l) : law13_NodeMakes.j2 m l sz false ks = some true := by
  have hm := makeS_len l
  rw [law13_NodeMakes.j2.eq, br_f, few_any _ (by omega), bnd_some, hf, node_Bucket.eq, make_any _ hl hs, bnd_some, bnd_some, refmake_any _ hl hs, bnd_some]
  simp only [fitL_d, appL_d, List.nil_append, br_if, ofN_d, lenL_d]
  rw [if_pos (by omega), node_Branch.eq, cloneR_any _ (by omega), bnd_some, bnd_some, same_self _ (by simp) (by show (makeS l).length ≤ _; omega), bnd_some, br_t, same_self _ (by show ks.length ≤ _; omega) (by simp), bnd_some, br_t, works_any, bnd_some]
theorem makes_j0 (key val : ByteArray) (m : Int) (l : List PairV) (sz a b : Int) (ks : List Int) (hk : ks.length ≤ 40) (hl : l.length ≤ 40) (hs : ∀ p ∈ l, okP p) (hf : fewL l = l) : law13_NodeMakes.j0 key val m l sz a b ks = some true := by
  rw [law13_NodeMakes.j0.eq, node_Leaf.eq, bnd_some, same_self _ (by simp) (by simp), bnd_some, show notB true = false from rfl, br_f, node_Tomb.eq, bnd_some, same_self _ (by simp) (by simp), bnd_some]
  rw [law13_NodeMakes.j1.eq, show notB true = false from rfl, br_f, node_Tree.eq, bnd_some, same_self _ (by simp) (by simp), bnd_some, show notB true = false from rfl, br_f, node_Inner.eq, bnd_some, same_self _ (by simp) (by simp), bnd_some]
  exact makes_j2 m l sz ks hk hl hs hf
theorem NodeMakes (a0 : den .str) (a1 : den .str) (a2 : den (.int .u32)) (a3 : den (.list (.int .i64))) (a4 : den (.list tapiPair)) (a5 : den (.int .i64)) (h0 : wfD .str a0) (h1 : wfD .str a1) (h2 : wfD (.int .u32) a2) (h3 : wfD (.list (.int .i64)) a3) (h4 : wfD (.list tapiPair) a4) (h5 : wfD (.int .i64) a5) : law13_NodeMakes a0 a1 a2 a3 a4 a5 = some true := by
  have h3' : List.length a3 ≤ 9223372036854775807 := h3.1
  rw [law13_NodeMakes.eq, base_Cut_40, bnd_some, base_Cut_40, bnd_some, few_any _ h4.1, bnd_some]
  have e : toN (min ((List.length a3 : Nat) : Int) 40) = min (List.length a3) 40 := by unfold toN; omega
  have e0 : toN 0 = 0 := rfl
  have e2 : List.take (min (List.length a3) 40) a3 = List.take 40 a3 := by
    by_cases h : List.length a3 ≤ 40
    · rw [Nat.min_eq_left h, List.take_of_length_le (Nat.le_refl _), List.take_of_length_le h]
    · rw [Nat.min_eq_right (by omega)]
  have hj := fun a b => makes_j0 (cut 40 a0) (cut 40 a1) a2 (fewL a4) a5 a b (List.take 40 a3) (by rw [List.length_take]; omega) (fewL_len a4) (fewL_ok a4) (fewL_fewL a4)
  simp only [ofN_d, lenL_d, minI_d, e, e0, subL0, appL_d, List.nil_append, e2, hj, both_self, fitL_d, leI_d, ltI_d, andB_d, br_if]
  have hlen : (List.take 40 a3).length ≤ 40 := by rw [List.length_take]; omega
  rw [if_pos (by omega), if_pos (by omega)]
  by_cases h : (1 : Int) < (((List.take 40 a3).length : Nat) : Int)
  · rw [if_pos h, if_pos (by omega), if_pos (by omega)]
  · rw [if_neg h]
end Go.Proofs.Ytobfcaejpcpboaa.Pure
