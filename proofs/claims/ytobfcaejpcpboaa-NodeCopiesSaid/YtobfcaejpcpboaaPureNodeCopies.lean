/- The plain law of the statement NodeCopies. No conditions but what is known of whatever comes in. -/
import Derived.Test.YtobfcaejpcpboaaP13tT
set_option linter.unusedVariables false
namespace Go.Proofs.Ytobfcaejpcpboaa.Pure
open Go.Abs Go.Proofs.Ytobfcaejpcpboaa.AT
theorem copies_l1 (n : NodeV) (c : den (.pair (.int .i64) (.pair .str (.pair .str (.pair (.int .u32) (.pair (.own (.int .i64) 3) (.pair (.int .i64) (.pair (.own tapiPair 4) (.pair (.int .i64) (.pair (.int .i64) .unit)))))))))) (ks : List Int) (hn : okN n) (d : Nat) : ∀ (i : Nat) (l : List PairV), l.length ≤ 40 → (∀ p ∈ l, p.2.1.size ≤ 41) → (∀ (k : Nat) (h : k < l.length), i ≤ k → l[k].2.1.size ≤ 40) → i ≤ l.length → l.length - i = d →
    law13_NodeCopies.l1 i n c n ks l = some true := by
  have hk := hn.kids
  have hl := hn.list
  induction d with
  | zero =>
    intro i l h1 h2 h2' h3 h4
    rw [law13_NodeCopies.l1.eq]
    simp only [ltI_d, ofN_d, lenL_d, br_if]
    rw [if_neg (by omega), refsame_any _ _ (by omega) (by omega), bnd_some]
    exact some_bool (decide_eq_true rfl)
  | succ d ih =>
    intro i l h1 h2 h2' h3 h4
    have hi : i < l.length := by omega
    rw [law13_NodeCopies.l1.eq]
    simp only [ltI_d, leI_d, ofN_d, lenL_d, andB_d, br_if]
    have hf : fitS l[i].2.1 (ByteArray.mk #[120]) = true := by
      have := h2' i hi (Nat.le_refl _)
      unfold fitS
      exact decide_eq_true (by show _ + 1 < _; omega)
    rw [if_pos (by omega), if_pos (by omega), ixP l i hi, hf, br_t, if_pos (by omega), add1 i (by omega)]
    have hs : (addS l[i].2.1 (ByteArray.mk #[120])).size ≤ 41 := by
      unfold addS
      rw [ByteArray.size_append]
      have := h2' i hi (Nat.le_refl _)
      show _ + 1 ≤ 41
      omega
    have hset : setL tapiPair l (i : Int) (l[i].1, ((addS l[i].2.1 (ByteArray.mk #[120])), ())) = l.set i (l[i].1, ((addS l[i].2.1 (ByteArray.mk #[120])), ())) := by
      unfold setL; rw [Int.toNat_natCast]
    rw [hset]
    refine ih (i + 1) _ (by rw [List.length_set]; exact h1) (fun p hp => ?_) (fun k h hk => ?_) (by rw [List.length_set]; omega) (by rw [List.length_set]; omega)
    · rcases List.mem_or_eq_of_mem_set hp with hp | rfl
      · exact h2 p hp
      · exact hs
    · rw [List.getElem_set_ne (by omega)]
      exact h2' k (by simpa using h) (by omega)
theorem copies_l0 (n : NodeV) (c : den (.pair (.int .i64) (.pair .str (.pair .str (.pair (.int .u32) (.pair (.own (.int .i64) 3) (.pair (.int .i64) (.pair (.own tapiPair 4) (.pair (.int .i64) (.pair (.int .i64) .unit)))))))))) (l : List PairV) (hn : okN n) (hl : l.length ≤ 40) (hs : ∀ p ∈ l, p.2.1.size ≤ 40) (d : Nat) : ∀ (i : Nat) (ks : List Int), ks.length ≤ 40 → i ≤ ks.length → ks.length - i = d →
    law13_NodeCopies.l0 i n c n ks l = some true := by
  induction d with
  | zero =>
    intro i ks h1 h2 h3
    rw [law13_NodeCopies.l0.eq]
    simp only [ltI_d, ofN_d, lenL_d, br_if]
    rw [if_neg (by omega)]
    exact copies_l1 n c ks hn l.length 0 l hl (fun p hp => by have := hs p hp; omega) (fun k h _ => hs _ (List.getElem_mem h)) (by omega) (by omega)
  | succ d ih =>
    intro i ks h1 h2 h3
    have hi : i < ks.length := by omega
    rw [law13_NodeCopies.l0.eq]
    simp only [ltI_d, leI_d, ofN_d, lenL_d, andB_d, br_if]
    rw [if_pos (by omega), if_pos (by omega), if_pos (by omega), add1 i (by omega)]
    have hset : ∀ z, (setL (.int .i64) ks (i : Int) z : List Int) = ks.set i z := fun z => by unfold setL; rw [Int.toNat_natCast]
    rw [hset]
    exact ih (i + 1) _ (by rw [List.length_set]; exact h1) (by rw [List.length_set]; omega) (by rw [List.length_set]; omega)
theorem NodeCopies (a0 : den tapiNode) (h0 : wfD tapiNode a0) : law13_NodeCopies a0 = some true := by
  have f0 := few_okN h0
  rw [law13_NodeCopies.eq, works_any, bnd_some, show notB true = false from rfl, br_f, Few_wf h0, bnd_some, copy_any _ f0, bnd_some]
  have e : node_Same (few a0) (few a0) = some true := by
    rw [same_any _ _ f0]
    exact some_bool (decide_eq_true rfl)
  have e' : node_Same ((few a0).1, ((few a0).2.1, ((few a0).2.2.1, ((few a0).2.2.2.1, ((few a0).2.2.2.2.1, ((few a0).2.2.2.2.2.1, ((few a0).2.2.2.2.2.2.1, (few a0).2.2.2.2.2.2.2))))))) (few a0) = some true := e
  rw [e', bnd_some, show notB true = false from rfl, br_f, Few_ok f0, bnd_some, few_few]
  have := copies_l0 (few a0) ((few a0).1, ((few a0).2.1, ((few a0).2.2.1, ((few a0).2.2.2.1, ((), ((few a0).2.2.2.2.2.1, ((), (few a0).2.2.2.2.2.2.2))))))) (few a0).2.2.2.2.2.2.1 f0 f0.list (fun p hp => (f0.binds p hp).2) (few a0).2.2.2.2.1.length 0 (few a0).2.2.2.2.1 f0.kids (by omega) (by omega)
  exact this
end Go.Proofs.Ytobfcaejpcpboaa.Pure
