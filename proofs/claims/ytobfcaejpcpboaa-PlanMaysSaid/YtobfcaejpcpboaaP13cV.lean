/- Nodes: what they are made of, what they tell: what the functions do, plainly. No conditions but those that each names. -/
import Derived.Test.YtobfcaejpcpboaaP13mV
import Derived.Test.YtobfcaejpcpboaaP07sV
set_option linter.unusedVariables false
set_option linter.unusedSimpArgs false
namespace Go.Proofs.Ytobfcaejpcpboaa.AV
open Go.Abs
theorem sameR_loop (l m : List Int) (hl : l.length ≤ 1000000) (hm : l.length = m.length) (d : Nat) : ∀ (i : Nat), i ≤ l.length → l.length - i = d → ref13_SameRefs.l0 l m i = some (decide (l.drop i = m.drop i)) := by
  induction d with
  | zero =>
    intro i h1 h2
    rw [ref13_SameRefs.l0.eq]
    simp only [ltI_d, ofN_d, lenL_d, br_if]
    rw [if_neg (by omega), List.drop_eq_nil_of_le (by omega), List.drop_eq_nil_of_le (by omega), decide_eq_true rfl]
  | succ d ih =>
    intro i h1 h2
    rw [ref13_SameRefs.l0.eq]
    simp only [ltI_d, leI_d, ofN_d, lenL_d, andB_d, eqI_d, notB_d, br_if]
    rw [if_pos (by omega), if_pos (by omega), if_pos (by omega), ixR l i (by omega), ixR m i (by omega), add1 i (by omega), ih (i + 1) (by omega) (by omega)]
    by_cases e : l[i] = m[i]
    · rw [if_neg (by intro h; exact h e)]
      exact some_bool (decide_eq_decide.2 (by rw [drop_eq_iff (show i < l.length by omega) (show i < m.length by omega)]; simp [e]))
    · rw [if_pos e]
      exact some_bool (decide_eq_false (by rw [drop_eq_iff (show i < l.length by omega) (show i < m.length by omega)]; exact fun h => e h.1)).symm
theorem sameR_any (l m : List Int) (hl : l.length ≤ 1000000) : ref13_SameRefs l m = some (decide (l = m)) := by
  rw [ref13_SameRefs.eq]
  simp only [ofN_d, lenL_d, eqI_d, notB_d, br_if]
  by_cases h : l.length = m.length
  · rw [if_neg (by omega)]
    exact sameR_loop l m hl h l.length 0 (by omega) (by omega)
  · rw [if_pos (by omega)]
    exact some_bool (decide_eq_false (fun e => h (by rw [e]))).symm
theorem refsame_any (a b : NodeV) (hk : a.2.2.2.2.1.length ≤ 1000000) (hl : a.2.2.2.2.2.2.1.length ≤ 1000000) : ref13_Same a b = some (decide (a = b)) := by
  rw [ref13_Same.eq]
  simp only [eqI_d, eqS_d, notB_d, br_if]
  have no : ∀ {p : Prop}, (a = b → p) → ¬ p → (some false : Option Bool) = some (decide (a = b)) := fun h n => (some_bool (decide_eq_false (fun e => n (h e)))).symm
  by_cases h1 : a.1 = b.1
  · rw [if_neg (by intro q; exact q h1)]
    by_cases h2 : a.2.1 = b.2.1
    · rw [if_neg (by intro q; exact q h2)]
      by_cases h3 : a.2.2.1 = b.2.2.1
      · rw [if_neg (by intro q; exact q h3)]
        by_cases h4 : a.2.2.2.1 = b.2.2.2.1
        · rw [if_neg (by intro q; exact q h4)]
          by_cases h5 : a.2.2.2.2.2.1 = b.2.2.2.2.2.1
          · rw [if_neg (by intro q; exact q h5)]
            by_cases h6 : a.2.2.2.2.2.2.2.1 = b.2.2.2.2.2.2.2.1
            · rw [if_neg (by intro q; exact q h6)]
              by_cases h7 : a.2.2.2.2.2.2.2.2.1 = b.2.2.2.2.2.2.2.2.1
              · rw [if_neg (by intro q; exact q h7), sameR_any _ _ hk, bnd_some, br_if]
                by_cases h8 : a.2.2.2.2.1 = b.2.2.2.2.1
                · rw [if_pos h8, refsameP_any _ _ hl, bnd_some]
                  exact some_bool (decide_eq_decide.2 ⟨fun h9 => node_ext.2 ⟨h1, h2, h3, h4, h8, h5, h9, h6, h7⟩, fun e => by rw [e]⟩)
                · rw [if_neg h8]; exact no (fun e => by rw [e]) h8
              · rw [if_pos h7]; exact no (fun e => by rw [e]) h7
            · rw [if_pos h6]; exact no (fun e => by rw [e]) h6
          · rw [if_pos h5]; exact no (fun e => by rw [e]) h5
        · rw [if_pos h4]; exact no (fun e => by rw [e]) h4
      · rw [if_pos h3]; exact no (fun e => by rw [e]) h3
    · rw [if_pos h2]; exact no (fun e => by rw [e]) h2
  · rw [if_pos h1]; exact no (fun e => by rw [e]) h1
theorem copy_any (n : NodeV) (h : okN n) : node_Copy n = some ((n.1, (n.2.1, (n.2.2.1, (n.2.2.2.1, ((), (n.2.2.2.2.2.1, ((), n.2.2.2.2.2.2.2))))))), (n.2.2.2.2.1, (n.2.2.2.2.2.2.1, ()))) := by
  have hl := h.list
  have hk := h.kids
  rw [node_Copy.eq, cloneR_any _ (by omega), bnd_some, cloneP_any _ (by omega), bnd_some]
/-! ### References, bindings -/
end Go.Proofs.Ytobfcaejpcpboaa.AV
