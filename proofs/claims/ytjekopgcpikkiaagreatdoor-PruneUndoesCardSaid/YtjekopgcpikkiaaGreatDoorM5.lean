/- Texts of one proof, laid together: how the interpreter's words stand for the program's code and what the functions do. No conditions but those that each lemma names. -/
import Derived.Test.YtjekopgcpikkiaaGreatDoorM4
set_option linter.unusedSimpArgs false
set_option linter.unusedVariables false
set_option linter.unusedSimpArgs false
namespace Go.Proofs.YtjekopgcpikkiaaGreatDoor.AM
open Go.Abs
theorem sameR_loop (l m : List Int) (hl : l.length ≤ 50000000) (hm : l.length = m.length) (d : Nat) : ∀ (i : Nat), i ≤ l.length → l.length - i = d → ref13_SameRefs.l0 l m i = some (decide (l.drop i = m.drop i)) := by
  induction d with
  | zero =>
    intro i h1 h2
    rw [ref13_SameRefs.l0.eq]
    simp only [ltI_d, ofN_d, lenL_d, br_if]
    rw [if_neg (by omega), List.drop_eq_nil_of_le (by omega), List.drop_eq_nil_of_le (by omega), decide_eq_true rfl]
  | succ d ih =>
    intro i h1 h2
    rw [ref13_SameRefs.l0.eq]
    simp only [ltI_d, leI_d, ofN_d, lenL_d, andB_d, eqI_d, notB_d, br_if]
    rw [if_pos (by omega), if_pos (by omega), if_pos (by omega), ixR l i (by omega), ixR m i (by omega), add1 i (by omega), ih (i + 1) (by omega) (by omega)]
    by_cases e : l[i] = m[i]
    · rw [if_neg (by intro h; exact h e)]
      exact some_bool (decide_eq_decide.2 (by rw [drop_eq_iff (show i < l.length by omega) (show i < m.length by omega)]; simp [e]))
    · rw [if_pos e]
      exact some_bool (decide_eq_false (by rw [drop_eq_iff (show i < l.length by omega) (show i < m.length by omega)]; exact fun h => e h.1)).symm
theorem sameR_any (l m : List Int) (hl : l.length ≤ 50000000) : ref13_SameRefs l m = some (decide (l = m)) := by
  rw [ref13_SameRefs.eq]
  simp only [ofN_d, lenL_d, eqI_d, notB_d, br_if]
  by_cases h : l.length = m.length
  · rw [if_neg (by omega)]
    exact sameR_loop l m hl h l.length 0 (by omega) (by omega)
  · rw [if_pos (by omega)]
    exact some_bool (decide_eq_false (fun e => h (by rw [e]))).symm
theorem refsame_any (a b : NodeV) (hk : a.2.2.2.2.1.length ≤ 50000000) (hl : a.2.2.2.2.2.2.1.length ≤ 50000000) : ref13_Same a b = some (decide (a = b)) := by
  rw [ref13_Same.eq]
  simp only [eqI_d, eqS_d, notB_d, br_if]
  have no : ∀ {p : Prop}, (a = b → p) → ¬ p → (some false : Option Bool) = some (decide (a = b)) := fun h n => (some_bool (decide_eq_false (fun e => n (h e)))).symm
  by_cases h1 : a.1 = b.1
  · rw [if_neg (by intro q; exact q h1)]
    by_cases h2 : a.2.1 = b.2.1
    · rw [if_neg (by intro q; exact q h2)]
      by_cases h3 : a.2.2.1 = b.2.2.1
      · rw [if_neg (by intro q; exact q h3)]
        by_cases h4 : a.2.2.2.1 = b.2.2.2.1
        · rw [if_neg (by intro q; exact q h4)]
          by_cases h5 : a.2.2.2.2.2.1 = b.2.2.2.2.2.1
          · rw [if_neg (by intro q; exact q h5)]
            by_cases h6 : a.2.2.2.2.2.2.2.1 = b.2.2.2.2.2.2.2.1
            · rw [if_neg (by intro q; exact q h6)]
              by_cases h7 : a.2.2.2.2.2.2.2.2.1 = b.2.2.2.2.2.2.2.2.1
              · rw [if_neg (by intro q; exact q h7), sameR_any _ _ hk, bnd_some, br_if]
                by_cases h8 : a.2.2.2.2.1 = b.2.2.2.2.1
                · rw [if_pos h8, refsameP_any _ _ hl, bnd_some]
                  exact some_bool (decide_eq_decide.2 ⟨fun h9 => node_ext.2 ⟨h1, h2, h3, h4, h8, h5, h9, h6, h7⟩, fun e => by rw [e]⟩)
                · rw [if_neg h8]; exact no (fun e => by rw [e]) h8
              · rw [if_pos h7]; exact no (fun e => by rw [e]) h7
            · rw [if_pos h6]; exact no (fun e => by rw [e]) h6
          · rw [if_pos h5]; exact no (fun e => by rw [e]) h5
        · rw [if_pos h4]; exact no (fun e => by rw [e]) h4
      · rw [if_pos h3]; exact no (fun e => by rw [e]) h3
    · rw [if_pos h2]; exact no (fun e => by rw [e]) h2
  · rw [if_pos h1]; exact no (fun e => by rw [e]) h1
theorem copy_any (n : NodeV) (h : okN n) : node_Copy n = some ((n.1, (n.2.1, (n.2.2.1, (n.2.2.2.1, ((), (n.2.2.2.2.2.1, ((), n.2.2.2.2.2.2.2))))))), (n.2.2.2.2.1, (n.2.2.2.2.2.2.1, ()))) := by
  have hl := h.list
  have hk := h.kids
  rw [node_Copy.eq, cloneR_any _ (by omega), bnd_some, cloneP_any _ (by omega), bnd_some]
end Go.Proofs.YtjekopgcpikkiaaGreatDoor.AM
set_option linter.unusedVariables false
set_option linter.unusedSimpArgs false
namespace Go.Proofs.YtjekopgcpikkiaaGreatDoor.AM
open Go.Abs
def refsS (n : NodeV) : List Int := n.2.2.2.2.1.filter (fun r => decide (r ≠ 0)) ++ (if n.2.2.2.2.2.1 ≠ 0 then [n.2.2.2.2.2.1] else [])
theorem refsS_len (n : NodeV) : (refsS n).length ≤ n.2.2.2.2.1.length + 1 := by
  unfold refsS
  have := List.length_filter_le (fun r : Int => decide (r ≠ 0)) n.2.2.2.2.1
  rw [List.length_append]
  split <;> simp only [List.length_cons, List.length_nil] <;> omega
theorem refs_loop (l : List Int) (hl : l.length ≤ 50000000) (d : Nat) : ∀ (i : Nat) (acc : List Int), i ≤ l.length → l.length - i = d → acc.length ≤ i → node_Refs.l0 l.length i acc l = some (acc ++ (l.drop i).filter (fun r => decide (r ≠ 0))) := by
  induction d with
  | zero =>
    intro i acc h1 h2 h3
    rw [node_Refs.l0.eq]
    simp only [ltI_d, br_if]
    rw [if_neg (by omega), List.drop_eq_nil_of_le (by omega)]
    simp
  | succ d ih =>
    intro i acc h1 h2 h3
    have hi : i < l.length := by omega
    rw [node_Refs.l0.eq]
    simp only [ltI_d, leI_d, ofN_d, lenL_d, andB_d, eqI_d, notB_d, br_if, fitL_d, appL_d]
    rw [if_pos (by omega), if_pos (by omega), ixR l i hi, add1 i (by omega), List.drop_eq_getElem_cons hi]
    by_cases e : l[i] = 0
    · rw [if_neg (by intro q; exact q e), ih (i + 1) acc (by omega) (by omega) (by omega), List.filter_cons_of_neg (by simp [e])]
    · rw [if_pos e, if_pos (by rw [List.length_append]; show _ + 1 ≤ _; omega), ih (i + 1) _ (by omega) (by omega) (by rw [List.length_append]; show _ + 1 ≤ _; omega), List.filter_cons_of_pos (by simp [e]), List.append_assoc]
      rfl
theorem refs_any (n : NodeV) (h : okN n) : node_Refs n = some (refsS n) := by
  have hk := h.kids
  rw [node_Refs.eq, cloneR_any _ (by omega), bnd_some]
  simp only [ofN_d, lenL_d, fitL_d, appL_d, br_if]
  have hlen : (n.2.2.2.2.1 ++ [n.2.2.2.2.2.1]).length = n.2.2.2.2.1.length + 1 := by simp
  rw [if_pos (by rw [hlen]; omega), both_self]
  have := refs_loop (n.2.2.2.2.1 ++ [n.2.2.2.2.2.1]) (by omega) _ 0 [] (by omega) rfl (by simp)
  rw [List.drop_zero, show ((0 : Nat) : Int) = 0 from rfl, List.nil_append, List.filter_append] at this
  rw [this]
  unfold refsS
  by_cases e : n.2.2.2.2.2.1 = 0
  · rw [List.filter_cons_of_neg (by simp [e]), if_neg (by intro q; exact q e)]; rfl
  · rw [List.filter_cons_of_pos (by simp [e]), if_pos e]; rfl
theorem refrefs_loop (n : NodeV) (h : okN n) (d : Nat) : ∀ (i : Nat) (acc : List Int), i ≤ n.2.2.2.2.1.length → n.2.2.2.2.1.length - i = d → acc.length ≤ i → ref13_Refs.l0 i n acc = some (acc ++ (n.2.2.2.2.1.drop i).filter (fun r => decide (r ≠ 0)) ++ (if n.2.2.2.2.2.1 ≠ 0 then [n.2.2.2.2.2.1] else [])) := by
  have hk := h.kids
  induction d with
  | zero =>
    intro i acc h1 h2 h3
    rw [ref13_Refs.l0.eq]
    simp only [ltI_d, leI_d, ofN_d, lenL_d, andB_d, eqI_d, notB_d, br_if, fitL_d, appL_d]
    rw [if_neg (by omega), List.drop_eq_nil_of_le (by omega), List.filter_nil, List.append_nil]
    by_cases e : n.2.2.2.2.2.1 = 0
    · rw [if_neg (by intro q; exact q e), if_neg (by intro q; exact q e), List.append_nil]
    · rw [if_pos e, if_pos e, if_pos (by rw [List.length_append]; show _ + 1 ≤ _; omega)]
  | succ d ih =>
    intro i acc h1 h2 h3
    have hi : i < n.2.2.2.2.1.length := by omega
    rw [ref13_Refs.l0.eq]
    simp only [ltI_d, leI_d, ofN_d, lenL_d, andB_d, eqI_d, notB_d, br_if, fitL_d, appL_d]
    rw [if_pos (by omega), if_pos (by omega), ixR _ i hi, add1 i (by omega), List.drop_eq_getElem_cons hi]
    by_cases e : n.2.2.2.2.1[i] = 0
    · rw [if_neg (by intro q; exact q e), ih (i + 1) acc (by omega) (by omega) (by omega), List.filter_cons_of_neg (by simp [e])]
    · rw [if_pos e, if_pos (by omega), if_pos (by rw [List.length_append]; show _ + 1 ≤ _; omega), ih (i + 1) _ (by omega) (by omega) (by rw [List.length_append]; show _ + 1 ≤ _; omega), List.filter_cons_of_pos (by simp [e])]
      simp
theorem refrefs_any (n : NodeV) (h : okN n) : ref13_Refs n = some (refsS n) := by
  rw [ref13_Refs.eq]
  have := refrefs_loop n h _ 0 [] (by omega) rfl (by simp)
  rw [List.drop_zero, show ((0 : Nat) : Int) = 0 from rfl, List.nil_append] at this
  exact this
end Go.Proofs.YtjekopgcpikkiaaGreatDoor.AM
set_option linter.unusedVariables false
set_option linter.unusedSimpArgs false
namespace Go.Proofs.YtjekopgcpikkiaaGreatDoor.AM
open Go.Abs
def rng (x : Int) : Prop := -9223372036854775808 ≤ x ∧ x ≤ 9223372036854775807
def rngN (n : NodeV) : Prop := (∀ k ∈ n.2.2.2.2.1, rng k) ∧ rng n.2.2.2.2.2.1
theorem refs_rng {n : NodeV} (h : rngN n) : ∀ r ∈ refsS n, rng r := by
  intro r hr
  unfold refsS at hr
  rcases List.mem_append.1 hr with hr | hr
  · exact h.1 r (List.mem_filter.1 hr).1
  · split at hr
    · rw [List.mem_singleton.1 hr]; exact h.2
    · cases hr
theorem ixN (l : List NodeV) (i : Nat) (h : i < l.length) : ixL tapiNode l (i : Int) = l[i] := ixL_d tapiNode l i h
structure okH (h : List NodeV) : Prop where
  len : h.length ≤ 40000000
  node : ∀ n ∈ h, okN n
  rng : ∀ n ∈ h, rngN n
def mayHL : Nat → List NodeV → Bool
  | _, [] => true
  | i, n :: l => (decide (mayS n = 0) && (refsS n).all fun r => decide (1 ≤ r ∧ r ≤ (i : Int))) && mayHL (i + 1) l
def mayH (h : List NodeV) : Bool := mayHL 0 h
theorem drop_all {p : Int → Bool} (l : List Int) (k : Nat) (h : k < l.length) : (l.drop k).all p = (p l[k] && (l.drop (k + 1)).all p) := by
  rw [List.drop_eq_getElem_cons h, List.all_cons]
theorem maych_l1 (h : List NodeV) (n i : Nat) (refs : List Int) (hr : refs.length ≤ 50000000) (d : Nat) : ∀ (k : Nat), k ≤ refs.length → refs.length - k = d →
    heap_May.l1 i h n i refs refs.length k = if ((refs.drop k).all fun r => decide (1 ≤ r ∧ r ≤ (i : Int))) = true then heap_May.l0 h n (addI .i64 i 1) else some 4 := by
  induction d with
  | zero =>
    intro k hk hd
    rw [heap_May.l1.eq]
    simp only [ltI_d, br_if]
    rw [if_neg (by omega), List.drop_eq_nil_of_le (by omega)]
    rfl
  | succ d ih =>
    intro k hk hd
    have hkl : k < refs.length := by omega
    rw [heap_May.l1.eq, ixR refs k hkl]
    simp only [ltI_d, leI_d, ofN_d, lenL_d, andB_d, br_if]
    rw [if_pos (by omega), if_pos (by omega), add1 k (by omega), ih (k + 1) (by omega) (by omega), drop_all refs k hkl]
    by_cases h1 : refs[k] < 1
    · rw [if_pos h1, decide_eq_false (by omega), Bool.false_and, if_neg (by simp)]
    · rw [if_neg h1]
      by_cases h2 : (i : Int) < refs[k]
      · rw [if_pos h2, decide_eq_false (by omega), Bool.false_and, if_neg (by simp)]
      · rw [if_neg h2, decide_eq_true (by omega), Bool.true_and]
theorem mayh_loop (h : List NodeV) (hl : h.length ≤ 50000000) (ho : ∀ n ∈ h, okN n) (d : Nat) : ∀ (i : Nat), i ≤ h.length → h.length - i = d → heap_May.l0 h h.length i = some (if mayHL i (h.drop i) = true then 0 else 4) := by
  induction d with
  | zero =>
    intro i hi hd
    rw [heap_May.l0.eq]
    simp only [ltI_d, br_if]
    rw [if_neg (by omega), List.drop_eq_nil_of_le (by omega)]
    rfl
  | succ d ih =>
    intro i hi hd
    have hil : i < h.length := by omega
    have o := ho _ (List.getElem_mem hil)
    have hrl := refsS_len h[i]
    have hkl := o.kids
    rw [heap_May.l0.eq, ixN h i hil, may_any _ o, bnd_some, refs_any _ o, bnd_some]
    simp only [ltI_d, leI_d, eqI_d, notB_d, ofN_d, lenL_d, andB_d, br_if]
    rw [if_pos (by omega), if_pos (by omega), List.drop_eq_getElem_cons hil]
    unfold mayHL
    by_cases hm : mayS h[i] = 0
    · rw [if_neg (fun q => q hm), decide_eq_true hm, Bool.true_and]
      have := maych_l1 h h.length i (refsS h[i]) (by omega) (refsS h[i]).length 0 (by omega) (by omega)
      rw [show ((0 : Nat) : Int) = 0 from rfl] at this
      rw [this, add1 i (by omega), ih (i + 1) (by omega) (by omega), List.drop_zero]
      cases (refsS h[i]).all fun r => decide (1 ≤ r ∧ r ≤ (i : Int)) with
      | true => rw [if_pos rfl, Bool.true_and]
      | false => rw [if_neg (by simp), Bool.false_and, if_neg (by simp)]
    · rw [if_pos hm, decide_eq_false hm, Bool.false_and, Bool.false_and, if_neg (by simp)]
theorem mayh_any (h : List NodeV) (ho : okH h) : heap_May h = some (if mayH h = true then 0 else 4) := by
  have hl := ho.len
  rw [heap_May.eq]
  exact mayh_loop h (by omega) ho.node h.length 0 (by omega) (by omega)
theorem refmaych_l1 (h : List NodeV) (i : Nat) (hi : i < h.length) (o : okN h[i]) (refs : List Int) (hr : refs.length ≤ 50000000) (d : Nat) : ∀ (k : Nat), k ≤ refs.length → refs.length - k = d →
    ref17_May.l1 h i refs k = if ((refs.drop k).all fun r => decide (1 ≤ r ∧ r ≤ (i : Int))) = true then (if mayS h[i] = 0 then ref17_May.l0 h (addI .i64 i 1) else some false) else some false := by
  induction d with
  | zero =>
    intro k hk hd
    rw [ref17_May.l1.eq, ixN h i hi, refmay_any _ o, bnd_some]
    simp only [ltI_d, leI_d, eqI_d, notB_d, ofN_d, lenL_d, andB_d, br_if]
    rw [if_neg (by omega), if_pos (by omega), List.drop_eq_nil_of_le (by omega), List.all_nil, if_pos rfl]
    by_cases hm : mayS h[i] = 0
    · rw [if_neg (fun q => q hm), if_pos hm]
    · rw [if_pos hm, if_neg hm]
  | succ d ih =>
    intro k hk hd
    have hkl : k < refs.length := by omega
    rw [ref17_May.l1.eq, ixR refs k hkl]
    simp only [ltI_d, leI_d, ofN_d, lenL_d, andB_d, br_if]
    rw [if_pos (by omega), if_pos (by omega), add1 k (by omega), ih (k + 1) (by omega) (by omega), drop_all refs k hkl]
    by_cases h1 : refs[k] < 1
    · rw [if_pos h1, decide_eq_false (by omega), Bool.false_and, if_neg (by simp)]
    · rw [if_neg h1, if_pos (by omega)]
      by_cases h2 : (i : Int) < refs[k]
      · rw [if_pos h2, decide_eq_false (by omega), Bool.false_and, if_neg (by simp)]
      · rw [if_neg h2, decide_eq_true (by omega), Bool.true_and]
theorem refmayh_loop (h : List NodeV) (hl : h.length ≤ 50000000) (ho : ∀ n ∈ h, okN n) (d : Nat) : ∀ (i : Nat), i ≤ h.length → h.length - i = d → ref17_May.l0 h i = some (mayHL i (h.drop i)) := by
  induction d with
  | zero =>
    intro i hi hd
    rw [ref17_May.l0.eq]
    simp only [ltI_d, ofN_d, lenL_d, br_if]
    rw [if_neg (by omega), List.drop_eq_nil_of_le (by omega)]
    rfl
  | succ d ih =>
    intro i hi hd
    have hil : i < h.length := by omega
    have o := ho _ (List.getElem_mem hil)
    have hrl := refsS_len h[i]
    have hkl := o.kids
    rw [ref17_May.l0.eq, ixN h i hil, refrefs_any _ o, bnd_some]
    simp only [ltI_d, leI_d, ofN_d, lenL_d, andB_d, br_if]
    have := refmaych_l1 h i hil o (refsS h[i]) (by omega) (refsS h[i]).length 0 (by omega) (by omega)
    rw [show ((0 : Nat) : Int) = 0 from rfl] at this
    rw [if_pos (by omega), if_pos (by omega), this, add1 i (by omega), ih (i + 1) (by omega) (by omega), List.drop_zero, List.drop_eq_getElem_cons hil]
    rw [show mayHL i (h[i] :: h.drop (i + 1)) = ((decide (mayS h[i] = 0) && (refsS h[i]).all fun r => decide (1 ≤ r ∧ r ≤ (i : Int))) && mayHL (i + 1) (h.drop (i + 1))) from rfl]
    cases (refsS h[i]).all fun r => decide (1 ≤ r ∧ r ≤ (i : Int)) with
    | true =>
      rw [if_pos rfl, Bool.and_true]
      by_cases hm : mayS h[i] = 0
      · rw [if_pos hm, decide_eq_true hm, Bool.true_and]
      · rw [if_neg hm, decide_eq_false hm, Bool.false_and]
    | false => rw [if_neg (by simp), Bool.and_false, Bool.false_and]
theorem refmayh_any (h : List NodeV) (ho : okH h) : ref17_May h = some (mayH h) := by
  have hl := ho.len
  rw [ref17_May.eq]
  exact refmayh_loop h (by omega) ho.node h.length 0 (by omega) (by omega)
end Go.Proofs.YtjekopgcpikkiaaGreatDoor.AM
set_option linter.unusedVariables false
set_option linter.unusedSimpArgs false
namespace Go.Proofs.YtjekopgcpikkiaaGreatDoor.AM
open Go.Abs
abbrev PlanV : Type := List NodeV × Int × List Int × Unit
structure okPl (p : PlanV) : Prop where
  len : p.1.length ≤ 1000
  node : ∀ n ∈ p.1, okN n
  rngs : ∀ n ∈ p.1, rngN n
  few : ∀ n ∈ p.1, n.2.2.2.2.1.length ≤ 40
  root : rng p.2.1
  old : p.2.2.1.length ≤ 1000
  olds : ∀ r ∈ p.2.2.1, rng r
def refR (to : List Int) (r : Int) : Option Int := if 0 ≤ r then some r else if -1 - r < (to.length : Int) then some (to.getD (-1 - r).toNat 0) else none
def refD (to : List Int) (r : Int) : Int := (refR to r).getD 0
theorem make_some (a b : Int) : ∃ x y, ref_Make a b = some (x, (y, ())) := by
  rw [ref_Make.eq]
  simp only [ltI_d, br_if]
  split
  · exact ⟨_, _, rfl⟩
  split
  · exact ⟨_, _, rfl⟩
  split
  · exact ⟨_, _, rfl⟩
  split
  · exact ⟨_, _, rfl⟩
  exact ⟨_, _, rfl⟩
theorem which_any (r : Int) (h : rng r) : ref_Which r = some (if r < 0 then (-1 - r, (true, ())) else (0, (false, ()))) := by
  unfold rng at h
  rw [ref_Which.eq, ref_Kind.eq]
  obtain ⟨x, y, hm⟩ := make_some (remI r 1024) (quoI .i64 r 1024)
  rw [hm, bnd_some]
  have hn : notB (eqI 1024 0) = true := rfl
  rw [hn, br_t, br_t]
  simp only [ltI_d, eqI_d, notB_d, br_if]
  by_cases h0 : r = 0
  · rw [if_pos h0, bnd_some, if_pos (by omega), if_neg (by omega)]
  rw [if_neg h0]
  by_cases h1 : r < 0
  · rw [if_pos h1, bnd_some, if_neg (by omega), if_pos h1]
    have : subI .i64 (-1) r = -1 - r := subI_d (by omega) (by omega)
    rw [this]
  · rw [if_neg h1, if_neg h1]
    by_cases hy : y = 0
    · rw [if_neg (fun q => q hy), bnd_some, if_pos (by omega)]
    · rw [if_pos hy, bnd_some, if_pos (by omega)]
theorem planref_any (r : Int) (h : rng r) (to : List Int) : plan_Ref r to = some (refD to r, ((if (refR to r).isSome = true then 0 else 4), ())) := by
  rw [plan_Ref.eq, which_any r h, bnd_some]
  unfold refD refR
  by_cases h1 : r < 0
  · rw [if_pos h1, if_neg (by omega), show notB true = false from rfl, br_f]
    simp only [ltI_d, leI_d, ofN_d, lenL_d, andB_d, br_if]
    by_cases h2 : -1 - r < (to.length : Int)
    · rw [if_neg (by omega), if_pos (by omega), if_pos h2]
      have hi : -1 - r = ((-1 - r).toNat : Int) := by omega
      have hlt : (-1 - r).toNat < to.length := by omega
      have e : ixL (.int .i64) to (-1 - r) = to[(-1 - r).toNat] := by
        conv => lhs; rw [hi]
        exact ixR to _ hlt
      rw [e, List.getD_eq_getElem?_getD, List.getElem?_eq_getElem hlt]
      rfl
    · rw [if_pos (by omega), if_neg h2]
      rfl
  · rw [if_neg h1, if_pos (by omega), show notB false = true from rfl, br_t]
    rfl
def fillB (to : List Int) (n : NodeV) : Bool := (refR to n.2.2.2.2.2.1).isSome && n.2.2.2.2.1.all fun k => (refR to k).isSome
def fillS (to : List Int) (n : NodeV) : NodeV := if fillB to n = true then (n.1, (n.2.1, (n.2.2.1, (n.2.2.2.1, (n.2.2.2.2.1.map (refD to), (refD to n.2.2.2.2.2.1, n.2.2.2.2.2.2)))))) else zeroN
theorem take_all_succ {p : Int → Bool} (l : List Int) (i : Nat) (h : i < l.length) : (l.take (i + 1)).all p = ((l.take i).all p && p l[i]) := by
  rw [List.take_succ_eq_append_getElem h, List.all_append]
  simp
theorem fill_l0 (to : List Int) (n : NodeV) (hn : okN n) (hr : rngN n) (x5 x8 x9) (L : List PairV) (hL : L = n.2.2.2.2.2.2.1) (d : Nat) : ∀ (i : Nat), i ≤ n.2.2.2.2.1.length → n.2.2.2.2.1.length - i = d →
    plan_Fill_o.l0 (if ((refR to n.2.2.2.2.2.1).isSome && (n.2.2.2.2.1.take i).all fun k => (refR to k).isSome) = true then 0 else 4) n.2.2.2.2.1.length i to
      (n.1, (n.2.1, (n.2.2.1, (n.2.2.2.1, ((), (refD to n.2.2.2.2.2.1, ((), n.2.2.2.2.2.2.2))))))) x5 ((n.2.2.2.2.1.take i).map (refD to) ++ n.2.2.2.2.1.drop i) L x8 x9 =
    some ((fillS to n, ((if fillB to n = true then 0 else 4), ())), (to, ())) := by
  subst hL
  have hk := hn.kids
  induction d with
  | zero =>
    intro i hi hd
    have e : i = n.2.2.2.2.1.length := by omega
    subst e
    rw [plan_Fill_o.l0.eq]
    simp only [ltI_d, br_if]
    rw [if_neg (by omega), List.take_length, List.drop_length, List.append_nil]
    rw [show ((refR to n.2.2.2.2.2.1).isSome && n.2.2.2.2.1.all fun k => (refR to k).isSome) = fillB to n from rfl]
    unfold fillS
    by_cases hb : fillB to n = true
    · rw [if_pos hb, if_pos hb]
      rfl
    · rw [if_neg hb, if_neg hb]
      rfl
  | succ d ih =>
    intro i hi hd
    have hil : i < n.2.2.2.2.1.length := by omega
    have hpl : ((n.2.2.2.2.1.take i).map (refD to)).length = i := by rw [List.length_map, List.length_take]; omega
    have hlen : ((n.2.2.2.2.1.take i).map (refD to) ++ n.2.2.2.2.1.drop i).length = n.2.2.2.2.1.length := by rw [List.length_append, hpl, List.length_drop]; omega
    have hget : ixL (.int .i64) ((n.2.2.2.2.1.take i).map (refD to) ++ n.2.2.2.2.1.drop i) (i : Int) = n.2.2.2.2.1[i] := by
      rw [ixR _ i (by omega), List.getElem_append_right (by omega), List.getElem_drop]
      congr 1
      omega
    have hset : setL (.int .i64) ((n.2.2.2.2.1.take i).map (refD to) ++ n.2.2.2.2.1.drop i) (i : Int) (refD to n.2.2.2.2.1[i]) = (n.2.2.2.2.1.take (i + 1)).map (refD to) ++ n.2.2.2.2.1.drop (i + 1) := by
      unfold setL
      rw [Int.toNat_natCast, List.set_append_right _ _ (by omega), hpl, Nat.sub_self, List.drop_eq_getElem_cons hil, List.set_cons_zero, List.take_succ_eq_append_getElem hil, List.map_append, List.append_assoc]
      rfl
    rw [plan_Fill_o.l0.eq, hget, planref_any _ (hr.1 _ (List.getElem_mem hil)) to, bnd_some, hset]
    have ih := ih (i + 1) (by omega) (by omega)
    rw [take_all_succ _ i hil] at ih
    simp only [ltI_d, leI_d, eqI_d, notB_d, ofN_d, lenL_d, andB_d, br_if]
    rw [if_pos (by omega), if_pos (by omega), add1 i (by omega)]
    cases hs : (refR to n.2.2.2.2.1[i]).isSome with
    | true =>
      rw [hs, Bool.and_true] at ih
      rw [if_pos rfl, if_neg (fun q => q rfl), if_pos (by omega)]
      exact ih
    | false =>
      rw [hs, Bool.and_false, Bool.and_false, if_neg (by simp)] at ih
      rw [if_neg (show ¬ (false = true) by simp), if_pos (show ¬ (4 : Int) = 0 by omega), if_pos (by omega)]
      exact ih
theorem fill_any (to : List Int) (n : NodeV) (hn : okN n) (hr : rngN n) : plan_Fill_o n to = some ((fillS to n, ((if fillB to n = true then 0 else 4), ())), (to, ())) := by
  rw [plan_Fill_o.eq, copy_any n hn, bnd_some, planref_any _ hr.2 to, bnd_some]
  have := fill_l0 to n hn hr (0, (ByteArray.empty, (ByteArray.empty, (0, ((), (0, ((), (0, (0, ()))))))))) [] [] _ rfl n.2.2.2.2.1.length 0 (by omega) (by omega)
  rw [List.take_zero, List.all_nil, Bool.and_true] at this
  exact this
end Go.Proofs.YtjekopgcpikkiaaGreatDoor.AM
set_option linter.unusedVariables false
set_option linter.unusedSimpArgs false
namespace Go.Proofs.YtjekopgcpikkiaaGreatDoor.AM
open Go.Abs
theorem ahead_any (r : Int) (h : rng r) (i : Nat) (hi : i ≤ 1000000) : plan_ahead r i = some (decide (-(i : Int) ≤ r)) := by
  unfold rng at h
  rw [plan_ahead.eq, which_any r h, bnd_some]
  by_cases h1 : r < 0
  · rw [if_pos h1, show notB true = false from rfl, br_f, ltI_d]
    exact some_bool (decide_eq_decide.2 (by omega))
  · rw [if_neg h1, show notB false = true from rfl, br_t]
    exact some_bool (decide_eq_true (by omega)).symm
theorem any_drop {p : Int → Bool} (l : List Int) (i : Nat) (h : i < l.length) : (l.drop i).any p = (p l[i] || (l.drop (i + 1)).any p) := by
  rw [List.drop_eq_getElem_cons h, List.any_cons]
theorem index0 (l : List Int) (hl : l.length ≤ 1000000) (hr : ∀ r ∈ l, rng r) (b : Nat) (hb : b ≤ 1000000) (d : Nat) : ∀ (i : Nat), i ≤ l.length → l.length - i = d → ∃ x : Int, slices_IndexFuncRR.l0 l ((), ()) l.length i b = some (x, ((b : Int), ())) ∧ (0 ≤ x ↔ (l.drop i).any (fun r => !decide (-(b : Int) ≤ r)) = true) := by
  induction d with
  | zero =>
    intro i hi hd
    rw [slices_IndexFuncRR.l0.eq]
    simp only [ltI_d, br_if]
    rw [if_neg (by omega), List.drop_eq_nil_of_le (by omega)]
    exact ⟨-1, rfl, by simp⟩
  | succ d ih =>
    intro i hi hd
    have hil : i < l.length := by omega
    rw [slices_IndexFuncRR.l0.eq, ixR l i hil, plan_May_1.eq, ahead_any _ (hr _ (List.getElem_mem hil)) b hb, bnd_some, bnd_some]
    simp only [ltI_d, leI_d, notB_d, ofN_d, lenL_d, andB_d, br_if]
    rw [if_pos (by omega), if_pos (by omega), add1 i (by omega), any_drop l i hil]
    by_cases h1 : -(b : Int) ≤ l[i]
    · rw [if_neg (fun q => q h1), decide_eq_true h1, Bool.not_true, Bool.false_or]
      exact ih (i + 1) (by omega) (by omega)
    · rw [if_pos h1, decide_eq_false h1, Bool.not_false, Bool.true_or]
      exact ⟨i, rfl, fun _ => rfl, fun _ => by omega⟩
theorem contains0 (l : List Int) (hl : l.length ≤ 1000000) (hr : ∀ r ∈ l, rng r) (b : Nat) (hb : b ≤ 1000000) : slices_ContainsFuncRR l ((), ()) b = some (l.any (fun r => !decide (-(b : Int) ≤ r)), ((b : Int), ())) := by
  obtain ⟨x, h1, h2⟩ := index0 l hl hr b hb l.length 0 (by omega) (by omega)
  rw [slices_ContainsFuncRR.eq, slices_IndexFuncRR.eq]
  have h1 : slices_IndexFuncRR.l0 l ((), ()) (ofN (lenL (.int .i64) l)) 0 b = some (x, ((b : Int), ())) := h1
  rw [h1, bnd_some, leI_d]
  rw [List.drop_zero] at h2
  have : decide ((0 : Int) ≤ x) = l.any (fun r => !decide (-(b : Int) ≤ r)) := by rw [Bool.eq_iff_iff, decide_eq_true_iff]; exact h2
  rw [this]
theorem index1 (l : List Int) (hl : l.length ≤ 1000000) (d : Nat) : ∀ (i : Nat), i ≤ l.length → l.length - i = d → ∃ x : Int, slices_IndexFuncRR_v1.l0 l l.length i = some x ∧ (0 ≤ x ↔ (l.drop i).any (fun r => decide (r ≤ 0)) = true) := by
  induction d with
  | zero =>
    intro i hi hd
    rw [slices_IndexFuncRR_v1.l0.eq]
    simp only [ltI_d, br_if]
    rw [if_neg (by omega), List.drop_eq_nil_of_le (by omega)]
    exact ⟨-1, rfl, by simp⟩
  | succ d ih =>
    intro i hi hd
    have hil : i < l.length := by omega
    rw [slices_IndexFuncRR_v1.l0.eq, ixR l i hil, plan_May_2.eq, bnd_some]
    simp only [ltI_d, leI_d, notB_d, ofN_d, lenL_d, andB_d, br_if]
    rw [if_pos (by omega), if_pos (by omega), add1 i (by omega), any_drop l i hil]
    by_cases h1 : l[i] ≤ 0
    · rw [if_pos h1, decide_eq_true h1, Bool.true_or]
      exact ⟨i, rfl, fun _ => rfl, fun _ => by omega⟩
    · rw [if_neg h1, decide_eq_false h1, Bool.false_or]
      exact ih (i + 1) (by omega) (by omega)
theorem contains1 (l : List Int) (hl : l.length ≤ 1000000) : slices_ContainsFuncRR_v1 l = some (l.any (fun r => decide (r ≤ 0))) := by
  obtain ⟨x, h1, h2⟩ := index1 l hl l.length 0 (by omega) (by omega)
  rw [slices_ContainsFuncRR_v1.eq, slices_IndexFuncRR_v1.eq]
  have h1 : slices_IndexFuncRR_v1.l0 l (ofN (lenL (.int .i64) l)) 0 = some x := h1
  rw [h1, bnd_some, leI_d]
  rw [List.drop_zero] at h2
  exact some_bool (by rw [Bool.eq_iff_iff, decide_eq_true_iff]; exact h2)
theorem index2 (h : List NodeV) (l : List Int) (hl : l.length ≤ 1000000) (d : Nat) : ∀ (i : Nat), i ≤ l.length → l.length - i = d → ∃ x : Int, slices_IndexFuncRR_v2.l0 l ((), ()) l.length i h = some (x, (h, ())) ∧ (0 ≤ x ↔ (l.drop i).any (fun r => !decide (r ≤ (h.length : Int))) = true) := by
  induction d with
  | zero =>
    intro i hi hd
    rw [slices_IndexFuncRR_v2.l0.eq]
    simp only [ltI_d, br_if]
    rw [if_neg (by omega), List.drop_eq_nil_of_le (by omega)]
    exact ⟨-1, rfl, by simp⟩
  | succ d ih =>
    intro i hi hd
    have hil : i < l.length := by omega
    rw [slices_IndexFuncRR_v2.l0.eq, ixR l i hil, plan_fits_1.eq, plan_has.eq, bnd_some, bnd_some]
    simp only [ltI_d, leI_d, notB_d, ofN_d, lenL_d, andB_d, br_if]
    rw [if_pos (by omega), if_pos (by omega), add1 i (by omega), any_drop l i hil]
    by_cases h1 : l[i] ≤ (h.length : Int)
    · rw [if_neg (fun q => q h1), decide_eq_true h1, Bool.not_true, Bool.false_or]
      exact ih (i + 1) (by omega) (by omega)
    · rw [if_pos h1, decide_eq_false h1, Bool.not_false, Bool.true_or]
      exact ⟨i, rfl, fun _ => rfl, fun _ => by omega⟩
theorem contains2 (h : List NodeV) (l : List Int) (hl : l.length ≤ 1000000) : slices_ContainsFuncRR_v2 l ((), ()) h = some (l.any (fun r => !decide (r ≤ (h.length : Int))), (h, ())) := by
  obtain ⟨x, h1, h2⟩ := index2 h l hl l.length 0 (by omega) (by omega)
  rw [slices_ContainsFuncRR_v2.eq, slices_IndexFuncRR_v2.eq]
  have h1 : slices_IndexFuncRR_v2.l0 l ((), ()) (ofN (lenL (.int .i64) l)) 0 h = some (x, (h, ())) := h1
  rw [h1, bnd_some, leI_d]
  rw [List.drop_zero] at h2
  have : decide ((0 : Int) ≤ x) = l.any (fun r => !decide (r ≤ (h.length : Int))) := by rw [Bool.eq_iff_iff, decide_eq_true_iff]; exact h2
  rw [this]
def mayPL : Nat → List NodeV → Bool
  | _, [] => true
  | i, n :: l => (decide (mayS n = 0) && (refsS n).all fun r => decide (-(i : Int) ≤ r)) && mayPL (i + 1) l
def mayP (p : PlanV) : Bool := mayPL 0 p.1 && (p.2.2.1.all (fun r => decide (1 ≤ r)) && decide (-(p.1.length : Int) ≤ p.2.1))
theorem any_not_all (l : List Int) (p : Int → Bool) : l.any (fun r => !p r) = !l.all p := by
  induction l with
  | nil => rfl
  | cons a l ih => rw [List.any_cons, List.all_cons, ih, Bool.not_and]
theorem mayp_loop (p : PlanV) (h : okPl p) (d : Nat) : ∀ (i : Nat), i ≤ p.1.length → p.1.length - i = d → plan_May.l0 p.1 p.1.length i p = some (if (mayPL i (p.1.drop i) && (p.2.2.1.all (fun r => decide (1 ≤ r)) && decide (-(p.1.length : Int) ≤ p.2.1))) = true then 0 else 4) := by
  have hl := h.len
  have hold := h.old
  induction d with
  | zero =>
    intro i hi hd
    rw [plan_May.l0.eq]
    simp only [ltI_d, ofN_d, lenL_d, br_if]
    rw [if_neg (by omega), ahead_any _ h.root _ (by omega), bnd_some, contains1 _ (by omega), bnd_some, List.drop_eq_nil_of_le (by omega), notB_d, br_if, br_b]
    rw [show mayPL i [] = true from rfl, Bool.true_and]
    have e : p.2.2.1.any (fun r => decide (r ≤ 0)) = !p.2.2.1.all (fun r => decide (1 ≤ r)) := by
      rw [← any_not_all]
      congr 1
      funext r
      rw [Bool.eq_iff_iff, Bool.not_eq_true', decide_eq_true_iff, decide_eq_false_iff_not]
      omega
    rw [e]
    by_cases h1 : -(p.1.length : Int) ≤ p.2.1
    · rw [if_neg (fun q => q h1), decide_eq_true h1, Bool.and_true]
      cases p.2.2.1.all (fun r => decide (1 ≤ r)) <;> rfl
    · rw [if_pos h1, decide_eq_false h1, Bool.and_false, if_neg (by simp)]
  | succ d ih =>
    intro i hi hd
    have hil : i < p.1.length := by omega
    have hm := List.getElem_mem hil
    have o := h.node _ hm
    have hrl := refsS_len p.1[i]
    have hkl := h.few _ hm
    rw [plan_May.l0.eq, ixN p.1 i hil, may_any _ o, bnd_some, refs_any _ o, bnd_some, contains0 _ (by omega) (refs_rng (h.rngs _ hm)) i (by omega), bnd_some]
    simp only [ltI_d, leI_d, eqI_d, notB_d, ofN_d, lenL_d, andB_d, br_if]
    simp only [br_b]
    rw [if_pos (by omega), if_pos (by omega), add1 i (by omega), ih (i + 1) (by omega) (by omega), List.drop_eq_getElem_cons hil, any_not_all]
    rw [show mayPL i (p.1[i] :: p.1.drop (i + 1)) = ((decide (mayS p.1[i] = 0) && (refsS p.1[i]).all fun r => decide (-(i : Int) ≤ r)) && mayPL (i + 1) (p.1.drop (i + 1))) from rfl]
    by_cases hz : mayS p.1[i] = 0
    · rw [if_neg (fun q => q hz), decide_eq_true hz, Bool.true_and]
      cases (refsS p.1[i]).all fun r => decide (-(i : Int) ≤ r) with
      | true => rw [if_neg (by simp), Bool.true_and]
      | false => rw [if_pos (show (!false) = true from rfl), Bool.false_and, Bool.false_and, if_neg (by simp)]
    · rw [if_pos hz, decide_eq_false hz, Bool.false_and, Bool.false_and, Bool.false_and, if_neg (by simp)]
theorem mayp_any (p : PlanV) (h : okPl p) : plan_May p = some (if mayP p = true then 0 else 4) := by
  rw [plan_May.eq]
  exact mayp_loop p h p.1.length 0 (by omega) (by omega)
def refsL (l : List NodeV) : List Int := l.flatMap refsS
def fitsL (h : List NodeV) (l : List Int) : Bool := l.all fun r => decide (r ≤ (h.length : Int))
def fitsP (h : List NodeV) (p : PlanV) : Bool := fitsL h ((p.2.2.1 ++ [p.2.1]) ++ refsL p.1)
theorem fits_loop (h : List NodeV) (ns : List NodeV) (hn : ns.length ≤ 1000) (ho : ∀ n ∈ ns, okN n) (hf : ∀ n ∈ ns, n.2.2.2.2.1.length ≤ 40) (d : Nat) : ∀ (i : Nat) (acc : List Int), acc.length ≤ 2000 + 41 * i → i ≤ ns.length → ns.length - i = d →
    plan_fits.l0 ns ns.length i h acc = some (fitsL h (acc ++ refsL (ns.drop i))) := by
  induction d with
  | zero =>
    intro i acc ha hi hd
    rw [plan_fits.l0.eq]
    simp only [ltI_d, br_if]
    rw [if_neg (by omega), contains2 h acc (by omega), bnd_some, any_not_all, List.drop_eq_nil_of_le (by omega)]
    rw [show refsL [] = [] from rfl, List.append_nil]
    unfold fitsL
    cases acc.all fun r => decide (r ≤ (h.length : Int)) <;> rfl
  | succ d ih =>
    intro i acc ha hi hd
    have hil : i < ns.length := by omega
    have o := ho _ (List.getElem_mem hil)
    have hrl := refsS_len ns[i]
    have hkl := hf _ (List.getElem_mem hil)
    have hal : (acc ++ refsS ns[i]).length ≤ 2000 + 41 * (i + 1) := by rw [List.length_append]; omega
    rw [plan_fits.l0.eq, ixN ns i hil, refs_any _ o, bnd_some]
    simp only [ltI_d, leI_d, ofN_d, lenL_d, andB_d, br_if, fitL_d, appL_d]
    rw [if_pos (by omega), if_pos (by omega), if_pos (by omega), add1 i (by omega), ih (i + 1) _ hal (by omega) (by omega), List.drop_eq_getElem_cons hil]
    unfold refsL
    rw [List.flatMap_cons, List.append_assoc]
theorem pfits_any (h : List NodeV) (p : PlanV) (hp : okPl p) : plan_fits h p = some (fitsP h p) := by
  have hold := hp.old
  have hal : (p.2.2.1 ++ [p.2.1]).length ≤ 2000 := by rw [List.length_append]; show _ + 1 ≤ _; omega
  rw [plan_fits.eq, both_self, cloneR_any _ (by omega), bnd_some]
  simp only [fitL_d, appL_d, br_if]
  rw [if_pos (by omega)]
  exact fits_loop h p.1 hp.len hp.node hp.few p.1.length 0 _ (by omega) (by omega) (by omega)
def doL (out : List NodeV) (to : List Int) : List NodeV → List NodeV × List Int
  | [] => (out, to)
  | n :: l => doL (out ++ [fillS to n]) (to ++ [((out.length + 1 : Nat) : Int)]) l
theorem doL_to : ∀ (l out : List NodeV) (to : List Int), (doL out to l).2.length = to.length + l.length
  | [], _, _ => rfl
  | n :: l, out, to => by
    unfold doL
    rw [doL_to l]
    simp only [List.length_append, List.length_cons, List.length_nil]
    omega
theorem do_l1 (p : PlanV) (hp : okPl p) (d : Nat) : ∀ (i : Nat) (out : List NodeV) (to : List Int), out.length ≤ 40000000 + i → to.length = i → i ≤ p.1.length → p.1.length - i = d →
    plan_Do.l1 p.1 p.1.length i p out to = some ((doL out to (p.1.drop i)).1, (refD (doL out to (p.1.drop i)).2 p.2.1, ((if (refR (doL out to (p.1.drop i)).2 p.2.1).isSome = true then 0 else 4), ()))) := by
  have hl := hp.len
  induction d with
  | zero =>
    intro i out to h1 h2 hi hd
    rw [plan_Do.l1.eq]
    simp only [ltI_d, br_if]
    rw [if_neg (by omega), planref_any _ hp.root to, bnd_some, List.drop_eq_nil_of_le (by omega)]
    rfl
  | succ d ih =>
    intro i out to h1 h2 hi hd
    have hil : i < p.1.length := by omega
    have hm := List.getElem_mem hil
    have o1 : (out ++ [fillS to p.1[i]]).length = out.length + 1 := by rw [List.length_append]; rfl
    have o2 : (to ++ [((out.length + 1 : Nat) : Int)]).length = to.length + 1 := by rw [List.length_append]; rfl
    rw [plan_Do.l1.eq, ixN p.1 i hil, fill_any to _ (hp.node _ hm) (hp.rngs _ hm), bnd_some]
    simp only [ltI_d, leI_d, ofN_d, lenL_d, andB_d, br_if, fitL_d, appL_d]
    rw [o1, o2, if_pos (by omega), if_pos (by omega), if_pos (by omega), if_pos (by omega), add1 i (by omega), ih (i + 1) _ _ (by omega) (by omega) (by omega) (by omega), List.drop_eq_getElem_cons hil]
    rfl
theorem do_l0 (h : List NodeV) (hh : okH h) (p : PlanV) (hp : okPl p) (d : Nat) : ∀ (i : Nat), i ≤ h.length → h.length - i = d →
    plan_Do.l0 h h.length i p (h.take i) = plan_Do.l1 p.1 p.1.length 0 p h [] := by
  have hl := hh.len
  induction d with
  | zero =>
    intro i hi hd
    rw [plan_Do.l0.eq]
    simp only [ltI_d, br_if]
    rw [if_neg (by omega), List.take_of_length_le (by omega)]
    rfl
  | succ d ih =>
    intro i hi hd
    have hil : i < h.length := by omega
    rw [plan_Do.l0.eq, ixN h i hil, copy_any _ (hh.node _ (List.getElem_mem hil)), bnd_some]
    simp only [ltI_d, leI_d, ofN_d, lenL_d, andB_d, br_if, fitL_d, appL_d]
    have e : h.take i ++ [h[i]] = h.take (i + 1) := by rw [List.take_succ_eq_append_getElem hil]
    have e' : h.take i ++ [((h[i].1, (h[i].2.1, (h[i].2.2.1, (h[i].2.2.2.1, (h[i].2.2.2.2.1, (h[i].2.2.2.2.2.1, (h[i].2.2.2.2.2.2.1, h[i].2.2.2.2.2.2.2))))))) : NodeV)] = h.take (i + 1) := e
    rw [if_pos (by omega), if_pos (by omega), e', if_pos (by rw [List.length_take]; omega), add1 i (by omega)]
    exact ih (i + 1) (by omega) (by omega)
def doS (h : List NodeV) (p : PlanV) : List NodeV × List Int := doL h [] p.1
theorem root_in {p : PlanV} (h : mayP p = true) (out : List NodeV) : (refR (doL out [] p.1).2 p.2.1).isSome = true := by
  have hlen := doL_to p.1 out []
  unfold mayP at h
  simp only [Bool.and_eq_true, decide_eq_true_eq] at h
  have h3 := h.2.2
  unfold refR
  by_cases h1 : 0 ≤ p.2.1
  · rw [if_pos h1]; rfl
  · have : -1 - p.2.1 < (((doL out [] p.1).2.length : Nat) : Int) := by
      rw [hlen]
      show _ < ((([] : List Int).length + p.1.length : Nat) : Int)
      simp only [List.length_nil]
      omega
    rw [if_neg h1, if_pos this]
    rfl
theorem do_any (h : List NodeV) (hh : okH h) (p : PlanV) (hp : okPl p) : plan_Do h p = some (if (mayP p && (mayH h && fitsP h p)) = true then ((doS h p).1, (refD (doS h p).2 p.2.1, (0, ()))) else ([], (0, (4, ())))) := by
  rw [plan_Do.eq, mayp_any p hp, bnd_some, mayh_any h hh, bnd_some, pfits_any h p hp, bnd_some]
  simp only [eqI_d, notB_d, br_if]
  cases h1 : mayP p with
  | false => rw [if_neg (show ¬ (false = true) by simp), if_pos (show ¬ (4 : Int) = 0 by omega), Bool.false_and, if_neg (show ¬ (false = true) by simp)]
  | true =>
    rw [if_pos rfl, if_neg (by omega), Bool.true_and]
    cases h2 : mayH h with
    | false => rw [if_neg (show ¬ (false = true) by simp), if_pos (show ¬ (4 : Int) = 0 by omega), Bool.false_and, if_neg (show ¬ (false = true) by simp)]
    | true =>
      rw [if_pos rfl, if_neg (by omega), Bool.true_and]
      cases h3 : fitsP h p with
      | false => rw [show notB false = true from rfl, br_t, if_neg (by simp)]
      | true =>
        rw [show notB true = false from rfl, br_f, if_pos rfl]
        have e0 := do_l0 h hh p hp h.length 0 (by omega) (by omega)
        have e1 := do_l1 p hp p.1.length 0 h [] (by have := hh.len; omega) rfl (by omega) (by omega)
        rw [show ((0 : Nat) : Int) = 0 from rfl] at e0 e1
        rw [List.take_zero] at e0
        show plan_Do.l0 h ((h.length : Nat) : Int) 0 p [] = _
        rw [e0]
        refine e1.trans ?_
        rw [List.drop_zero, if_pos (root_in h1 h)]
        rfl
end Go.Proofs.YtjekopgcpikkiaaGreatDoor.AM
set_option linter.unusedVariables false
set_option linter.unusedSimpArgs false
namespace Go.Proofs.YtjekopgcpikkiaaGreatDoor.AM
open Go.Abs
def bindsS (n : NodeV) : List PairV := if n.1 = 1 ∨ n.1 = 4 ∨ n.1 = 6 then [(n.2.1, (n.2.2.1, ()))] else if n.1 = 3 then n.2.2.2.2.2.2.1 else []
theorem binds_any (n : NodeV) (h : okN n) : node_Binds n = some ((), (bindsS n, ())) := by
  have hl := h.list
  rw [node_Binds.eq]
  unfold bindsS
  simp only [eqI_d, br_if]
  by_cases h1 : n.1 = 1
  · rw [if_pos h1, if_pos (.inl h1)]
  rw [if_neg h1]
  by_cases h6 : n.1 = 6
  · rw [if_pos h6, if_pos (.inr (.inr h6))]
  rw [if_neg h6]
  by_cases h4 : n.1 = 4
  · rw [if_pos h4, if_pos (.inr (.inl h4))]
  rw [if_neg h4, if_neg (show ¬ (n.1 = 1 ∨ n.1 = 4 ∨ n.1 = 6) by omega)]
  by_cases h3 : n.1 = 3
  · rw [if_pos h3, if_pos h3, cloneP_any _ (by omega), bnd_some]
  · rw [if_neg h3, if_neg h3]
end Go.Proofs.YtjekopgcpikkiaaGreatDoor.AM
set_option linter.unusedVariables false
set_option linter.unusedSimpArgs false
namespace Go.Proofs.YtjekopgcpikkiaaGreatDoor.AM
open Go.Abs
theorem mayS_zero {n : NodeV} (h : mayS n = 0) : 1 ≤ n.1 ∧ n.1 ≤ 6 ∧ longN n = false ∧ formP n := by
  unfold mayS at h
  by_cases h1 : n.1 < 1
  · rw [if_pos h1] at h; cases h
  rw [if_neg h1] at h
  by_cases h2 : 6 < n.1
  · rw [if_pos h2] at h; cases h
  rw [if_neg h2] at h
  by_cases h3 : longN n = true
  · rw [if_pos h3] at h; cases h
  rw [if_neg h3] at h
  by_cases h4 : formP n
  · exact ⟨by omega, by omega, by simpa using h3, h4⟩
  · rw [if_neg h4] at h; cases h
theorem form_tree {n : NodeV} (h : formP n) (h4 : n.1 = 4) : n.2.2.2.1 = 0 ∧ n.2.2.2.2.1.length = 2 ∧ 1 ≤ n.2.2.2.2.2.2.2.1 ∧ n.2.2.2.2.2.1 = 0 ∧ n.2.2.2.2.2.2.1 = [] := by
  unfold formP at h
  obtain ⟨_, h⟩ := h
  rw [if_neg (by omega), if_neg (by omega), if_neg (by omega), if_pos h4] at h
  obtain ⟨h1, h2, h3, hb⟩ := h
  unfold bareP at hb
  exact ⟨h1, h2, h3, hb.2.2.1 rfl, hb.2.2.2 rfl⟩
def stripV (n : NodeV) : NodeV := (n.1, (n.2.1, (n.2.2.1, (n.2.2.2.1, ([], (0, (n.2.2.2.2.2.2.1, (n.2.2.2.2.2.2.2.1, (0, ())))))))))
def allK (n : NodeV) : List Int := n.2.2.2.2.1 ++ [n.2.2.2.2.2.1]
theorem refsS_all (n : NodeV) : refsS n = (allK n).filter (fun r => decide (r ≠ 0)) := by
  unfold refsS allK
  rw [List.filter_append]
  by_cases h : n.2.2.2.2.2.1 = 0
  · rw [if_neg (by intro q; exact q h), List.filter_cons_of_neg (by simp [h])]; rfl
  · rw [if_pos h, List.filter_cons_of_pos (by simp [h])]; rfl
theorem allK_len (n : NodeV) : (allK n).length = n.2.2.2.2.1.length + 1 := by unfold allK; simp
inductive Shp where
  | nil
  | node (b : NodeV) (l : List Shp)
def getN (h : List NodeV) (r : Int) : NodeV := h.getD (r - 1).toNat zeroN
theorem getN_ix (h : List NodeV) (i : Nat) (hi : i < h.length) : getN h ((i : Int) + 1) = h[i] := by
  unfold getN
  rw [show ((i : Int) + 1 - 1).toNat = i by omega, List.getD_eq_getElem?_getD, List.getElem?_eq_getElem hi]; rfl
theorem getN_mem (h : List NodeV) (r : Int) (h1 : 1 ≤ r) (h2 : r ≤ h.length) : getN h r ∈ h := by
  obtain ⟨i, rfl⟩ : ∃ i : Nat, r = (i : Int) + 1 := ⟨(r - 1).toNat, by omega⟩
  rw [getN_ix h i (by omega)]
  exact List.getElem_mem _
theorem sub1I (r : Int) (h1 : 1 ≤ r) (h2 : r ≤ 1000000000) : subI .i64 r 1 = r - 1 := subI_d (by omega) (by omega)
theorem ixG (h : List NodeV) (r : Int) (h1 : 1 ≤ r) (h2 : r ≤ h.length) (h3 : h.length ≤ 50000000) : ixL tapiNode h (subI .i64 r 1) = getN h r := by
  obtain ⟨i, rfl⟩ : ∃ i : Nat, r = (i : Int) + 1 := ⟨(r - 1).toNat, by omega⟩
  rw [sub1I _ h1 (by omega), getN_ix h i (by omega), show ((i : Int) + 1 - 1) = (i : Int) by omega]
  exact ixN h i (by omega)
theorem inG (h : List NodeV) (r : Int) (h1 : 1 ≤ r) (h2 : r ≤ h.length) (h3 : h.length ≤ 50000000) : andB (leI 0 (subI .i64 r 1)) (ltI (subI .i64 r 1) (ofN (lenL tapiNode h))) = true := by
  rw [sub1I r h1 (by omega), leI_d, ltI_d, andB_d]
  refine decide_eq_true ⟨by omega, ?_⟩
  show r - 1 < (h.length : Int)
  omega
def unf (h : List NodeV) : Nat → Int → Shp
  | 0, _ => .nil
  | k + 1, r => if r = 0 then .nil else .node (stripV (getN h r)) ((allK (getN h r)).map (unf h k))
def U (h : List NodeV) (r : Int) : Shp := unf h r.toNat r
theorem mayHL_at : ∀ (l : List NodeV) (i : Nat), mayHL i l = true → ∀ (j : Nat) (hj : j < l.length), mayS l[j] = 0 ∧ ∀ r ∈ refsS l[j], 1 ≤ r ∧ r ≤ ((i + j : Nat) : Int)
  | n :: l, i, h, j, hj => by
    unfold mayHL at h
    simp only [Bool.and_eq_true, decide_eq_true_eq, List.all_eq_true] at h
    obtain ⟨⟨h1, h2⟩, h3⟩ := h
    cases j with
    | zero => exact ⟨h1, h2⟩
    | succ j =>
      have := mayHL_at l (i + 1) h3 j (by simpa using hj)
      rw [show i + 1 + j = i + (j + 1) by omega] at this
      exact this
theorem mayHL_of : ∀ (l : List NodeV) (i : Nat), (∀ (j : Nat) (hj : j < l.length), mayS l[j] = 0 ∧ ∀ r ∈ refsS l[j], 1 ≤ r ∧ r ≤ ((i + j : Nat) : Int)) → mayHL i l = true
  | [], _, _ => rfl
  | n :: l, i, h => by
    unfold mayHL
    simp only [Bool.and_eq_true, decide_eq_true_eq, List.all_eq_true]
    refine ⟨h 0 (by simp), mayHL_of l (i + 1) fun j hj => ?_⟩
    have := h (j + 1) (by simpa using hj)
    rw [show i + (j + 1) = i + 1 + j by omega] at this
    exact this
theorem may_node {h : List NodeV} (hm : mayH h = true) {r : Int} (h1 : 1 ≤ r) (h2 : r ≤ h.length) : mayS (getN h r) = 0 ∧ ∀ k ∈ allK (getN h r), k = 0 ∨ (1 ≤ k ∧ k ≤ r - 1) := by
  obtain ⟨i, rfl⟩ : ∃ i : Nat, r = (i : Int) + 1 := ⟨(r - 1).toNat, by omega⟩
  rw [getN_ix h i (by omega)]
  obtain ⟨a, b⟩ := mayHL_at h 0 hm i (by omega)
  refine ⟨a, fun k hk => ?_⟩
  by_cases e : k = 0
  · exact .inl e
  · have := b k (by rw [refsS_all]; exact List.mem_filter.2 ⟨hk, by simp [e]⟩)
    exact .inr ⟨this.1, by omega⟩
theorem unf_zero (h : List NodeV) (k : Nat) : unf h k 0 = .nil := by
  cases k with
  | zero => rfl
  | succ k => unfold unf; exact if_pos rfl
theorem unf_fuel {h : List NodeV} (hm : mayH h = true) : ∀ (n : Nat) (r : Int) (k k' : Nat), 0 ≤ r → r ≤ n → r ≤ h.length → r.toNat ≤ k → r.toNat ≤ k' → unf h k r = unf h k' r := by
  intro n
  induction n with
  | zero =>
    intro r k k' h0 h1 h2 h3 h4
    have : r = 0 := by omega
    subst this
    rw [unf_zero, unf_zero]
  | succ n ih =>
    intro r k k' h0 h1 h2 h3 h4
    by_cases e : r = 0
    · subst e; rw [unf_zero, unf_zero]
    obtain ⟨k, rfl⟩ : ∃ j, k = j + 1 := ⟨k - 1, by omega⟩
    obtain ⟨k', rfl⟩ : ∃ j, k' = j + 1 := ⟨k' - 1, by omega⟩
    unfold unf
    rw [if_neg e, if_neg e]
    congr 1
    refine List.map_congr_left fun x hx => ?_
    rcases (may_node hm (by omega) h2).2 x hx with rfl | ⟨g1, g2⟩
    · rw [unf_zero, unf_zero]
    · exact ih x k k' (by omega) (by omega) (by omega) (by omega) (by omega)
theorem U_zero (h : List NodeV) : U h 0 = .nil := unf_zero h _
theorem U_node {h : List NodeV} (hm : mayH h = true) {r : Int} (h1 : 1 ≤ r) (h2 : r ≤ h.length) : U h r = .node (stripV (getN h r)) ((allK (getN h r)).map (U h)) := by
  unfold U
  obtain ⟨k, hk⟩ : ∃ j, r.toNat = j + 1 := ⟨r.toNat - 1, by omega⟩
  rw [hk, unf, if_neg (by omega)]
  congr 1
  refine List.map_congr_left fun x hx => ?_
  rcases (may_node hm h1 h2).2 x hx with rfl | ⟨g1, g2⟩
  · rw [unf_zero, unf_zero]
  · exact unf_fuel hm x.toNat x k x.toNat (by omega) (by omega) (by omega) (by omega) (by omega)
theorem U_nil {h : List NodeV} (hm : mayH h = true) {r : Int} (h1 : 0 ≤ r) (h2 : r ≤ h.length) : U h r = .nil ↔ r = 0 := by
  constructor
  · intro e
    by_cases q : r = 0
    · exact q
    · rw [U_node hm (by omega) h2] at e; cases e
  · rintro rfl; exact U_zero h
def fitH (h : List NodeV) (r : Int) : Bool := decide (0 ≤ r ∧ r ≤ h.length) && mayH h
theorem hmay_any (h : List NodeV) (ho : okH h) (r : Int) : heap_may h r = some (if fitH h r = true then 0 else 4) := by
  rw [heap_may.eq, mayh_any h ho, bnd_some]
  unfold fitH
  simp only [ltI_d, leI_d, ofN_d, lenL_d, br_if]
  by_cases h1 : r < 0
  · rw [if_pos h1, decide_eq_false (by omega), Bool.false_and, if_neg (by simp)]
  rw [if_neg h1]
  by_cases h2 : (h.length : Int) < r
  · rw [if_pos h2, decide_eq_false (by omega), Bool.false_and, if_neg (by simp)]
  rw [if_neg h2, decide_eq_true (by omega), Bool.true_and]
theorem fits_any (h : List NodeV) (ho : okH h) (r : Int) : ref17_Fits h r = some (fitH h r) := by
  rw [ref17_Fits.eq, refmayh_any h ho, bnd_some]
  unfold fitH
  simp only [ltI_d, leI_d, ofN_d, lenL_d, br_if]
  by_cases h1 : 0 ≤ r
  · rw [if_pos h1]
    by_cases h2 : r ≤ (h.length : Int)
    · rw [if_pos h2, decide_eq_true ⟨h1, h2⟩, Bool.true_and]
    · rw [if_neg h2, decide_eq_false (fun q => h2 q.2), Bool.false_and]
  · rw [if_neg h1, decide_eq_false (fun q => h1 q.1), Bool.false_and]
theorem fitH_iff {h : List NodeV} {r : Int} : fitH h r = true ↔ (0 ≤ r ∧ r ≤ h.length) ∧ mayH h = true := by
  unfold fitH; simp
mutual
def bindsT : Shp → List PairV
  | .nil => []
  | .node b l => if b.1 = 4 then (bindsL l).getD 0 [] ++ bindsS b ++ (bindsL l).getD 1 [] else bindsS b ++ (bindsL l).flatten
def bindsL : List Shp → List (List PairV)
  | [] => []
  | s :: l => bindsT s :: bindsL l
end
theorem bindsL_map : ∀ l, bindsL l = l.map bindsT
  | [] => by rw [bindsL]; rfl
  | s :: l => by rw [bindsL, bindsL_map l]; rfl
theorem bindsT_nil : bindsT .nil = [] := by rw [bindsT]
theorem bindsT_node (b : NodeV) (l : List Shp) : bindsT (.node b l) = if b.1 = 4 then ((l.map bindsT).getD 0 []) ++ bindsS b ++ ((l.map bindsT).getD 1 []) else bindsS b ++ (l.map bindsT).flatten := by
  rw [bindsT, bindsL_map]
theorem bindsS_strip (n : NodeV) : bindsS (stripV n) = bindsS n := rfl
theorem flat_refs (f : Int → List PairV) (hf : f 0 = []) : ∀ l : List Int, (l.map f).flatten = ((l.filter (fun r => decide (r ≠ 0))).map f).flatten
  | [] => rfl
  | r :: l => by
    by_cases h : r = 0
    · rw [List.filter_cons_of_neg (by simp [h]), List.map_cons, List.flatten_cons, h, hf, List.nil_append, flat_refs f hf l]
    · rw [List.filter_cons_of_pos (by simp [h]), List.map_cons, List.map_cons, List.flatten_cons, List.flatten_cons, flat_refs f hf l]
theorem bindsU_refs {h : List NodeV} (hm : mayH h = true) {r : Int} (h1 : 1 ≤ r) (h2 : r ≤ h.length) (h4 : (getN h r).1 ≠ 4) : bindsT (U h r) = bindsS (getN h r) ++ ((refsS (getN h r)).map fun x => bindsT (U h x)).flatten := by
  rw [U_node hm h1 h2, bindsT_node, if_neg (show ¬ (stripV (getN h r)).1 = 4 from h4), bindsS_strip, List.map_map, refsS_all]
  congr 1
  exact flat_refs (fun x => bindsT (U h x)) (by rw [U_zero, bindsT_nil]) _
theorem bindsU_tree {h : List NodeV} (hm : mayH h = true) {r : Int} (h1 : 1 ≤ r) (h2 : r ≤ h.length) (h4 : (getN h r).1 = 4) :
    ∃ a b : Int, (getN h r).2.2.2.2.1 = [a, b] ∧ (getN h r).2.2.2.2.2.1 = 0 ∧ (a = 0 ∨ (1 ≤ a ∧ a ≤ r - 1)) ∧ (b = 0 ∨ (1 ≤ b ∧ b ≤ r - 1)) ∧ bindsT (U h r) = bindsT (U h a) ++ bindsS (getN h r) ++ bindsT (U h b) := by
  obtain ⟨g1, g2⟩ := may_node hm h1 h2
  obtain ⟨_, k2, _, k4, _⟩ := form_tree (mayS_zero g1).2.2.2 h4
  obtain ⟨a, b, e⟩ : ∃ a b, (getN h r).2.2.2.2.1 = [a, b] := by
    match hk : (getN h r).2.2.2.2.1, k2 with
    | [a, b], _ => exact ⟨a, b, rfl⟩
  have ea : allK (getN h r) = [a, b, 0] := by unfold allK; rw [e, k4]; rfl
  refine ⟨a, b, e, k4, g2 a (by rw [ea]; simp), g2 b (by rw [ea]; simp), ?_⟩
  rw [U_node hm h1 h2, bindsT_node, if_pos (show (stripV (getN h r)).1 = 4 from h4), bindsS_strip, ea]
  rfl
theorem ix0 (l : List Int) (a b : Int) (h : l = [a, b]) : ixL (.int .i64) l 0 = a ∧ ixL (.int .i64) l 1 = b := by subst h; exact ⟨rfl, rfl⟩
theorem in01 (l : List Int) (a b : Int) (h : l = [a, b]) : andB (leI 0 0) (ltI 0 (ofN (lenL (.int .i64) l))) = true ∧ andB (leI 0 1) (ltI 1 (ofN (lenL (.int .i64) l))) = true := by
  subst h; exact ⟨rfl, rfl⟩
theorem flat_sub {l : List (List PairV)} {x : List PairV} (h : x ∈ l) : x.length ≤ l.flatten.length := by
  induction l with
  | nil => cases h
  | cons y l ih =>
    rw [List.flatten_cons, List.length_append]
    rcases List.mem_cons.1 h with rfl | h
    · omega
    · have := ih h; omega
theorem hbinds_loop {h : List NodeV} (ho : okH h) (refs : List Int) (hr : refs.length ≤ 50000000) (hb : ∀ x ∈ refs, heap_binds h x = some ((), (bindsT (U h x), ()))) (d : Nat) : ∀ (i : Nat) (acc : List PairV), i ≤ refs.length → refs.length - i = d →
    (acc ++ ((refs.drop i).map fun x => bindsT (U h x)).flatten).length ≤ 1000000000 → heap_binds.l0 h refs refs.length i acc = some ((), (acc ++ ((refs.drop i).map fun x => bindsT (U h x)).flatten, ())) := by
  induction d with
  | zero =>
    intro i acc h1 h2 h3
    rw [heap_binds.l0.eq]
    simp only [ltI_d, br_if]
    rw [if_neg (by omega), List.drop_eq_nil_of_le (by omega)]
    simp
  | succ d ih =>
    intro i acc h1 h2 h3
    have hi : i < refs.length := by omega
    rw [List.drop_eq_getElem_cons hi, List.map_cons, List.flatten_cons, ← List.append_assoc] at h3
    rw [heap_binds.l0.eq]
    simp only [ltI_d, leI_d, ofN_d, lenL_d, andB_d, br_if]
    rw [if_pos (by omega), if_pos (by omega), ixR refs i hi, hb _ (List.getElem_mem hi), bnd_some]
    simp only [fitL_d, appL_d, br_if]
    rw [if_pos (by rw [List.length_append] at h3; omega), add1 i (by omega), ih (i + 1) _ (by omega) (by omega) h3, List.drop_eq_getElem_cons hi, List.map_cons, List.flatten_cons, List.append_assoc]
theorem hbinds_any {h : List NodeV} (ho : okH h) (hm : mayH h = true) : ∀ (n : Nat) (r : Int), 0 ≤ r → r ≤ n → r ≤ h.length → (bindsT (U h r)).length ≤ 1000000000 → heap_binds h r = some ((), (bindsT (U h r), ())) := by
  have hlen := ho.len
  intro n
  induction n with
  | zero =>
    intro r h0 h1 h2 h3
    have : r = 0 := by omega
    subst this
    rw [heap_binds.eq, eqI_d, br_if, if_pos rfl, U_zero, bindsT_nil]
  | succ n ih =>
    intro r h0 h1 h2 h3
    by_cases e : r = 0
    · subst e
      rw [heap_binds.eq, eqI_d, br_if, if_pos rfl, U_zero, bindsT_nil]
    have hr1 : 1 ≤ r := by omega
    have o := ho.node _ (getN_mem h r hr1 h2)
    rw [heap_binds.eq, eqI_d, br_if, if_neg e, inG h r hr1 h2 (by omega), br_t, ixG h r hr1 h2 (by omega), eqI_d, br_if]
    by_cases h4 : (getN h r).1 = 4
    · obtain ⟨a, b, k1, k2, k3, k4, k5⟩ := bindsU_tree hm hr1 h2 h4
      rw [k5, List.length_append, List.length_append] at h3
      rw [if_pos h4, (in01 _ a b k1).1, br_t, (in01 _ a b k1).2, br_t, (ix0 _ a b k1).1, (ix0 _ a b k1).2, ih a (by omega) (by omega) (by omega) (by omega), bnd_some, binds_any _ o, bnd_some]
      simp only [fitL_d, appL_d, br_if]
      rw [if_pos (by rw [List.length_append]; omega), ih b (by omega) (by omega) (by omega) (by omega), bnd_some]
      simp only [fitL_d, appL_d, br_if]
      rw [if_pos (by rw [List.length_append, List.length_append]; omega), k5]
    · have k5 := bindsU_refs hm hr1 h2 h4
      have hrl := refsS_len (getN h r)
      have hkl := o.kids
      rw [k5] at h3
      have hx := (may_node hm hr1 h2).2
      have hb : ∀ x ∈ refsS (getN h r), heap_binds h x = some ((), (bindsT (U h x), ())) := by
        intro x hx'
        have hq := hx'
        rw [refsS_all] at hq
        have := hx x (List.mem_filter.1 hq).1
        refine ih x (by omega) (by omega) (by omega) ?_
        have := flat_sub (List.mem_map.2 ⟨x, hx', rfl⟩ : bindsT (U h x) ∈ (refsS (getN h r)).map fun x => bindsT (U h x))
        rw [List.length_append] at h3
        omega
      rw [if_neg h4, binds_any _ o, bnd_some, refs_any _ o, bnd_some]
      have := hbinds_loop ho (refsS (getN h r)) (by omega) hb (refsS (getN h r)).length 0 (bindsS (getN h r)) (by omega) (by omega) (by rw [List.drop_zero]; exact h3)
      rw [List.drop_zero, show ((0 : Nat) : Int) = 0 from rfl] at this
      rw [k5]
      exact this
end Go.Proofs.YtjekopgcpikkiaaGreatDoor.AM
set_option linter.unusedVariables false
set_option linter.unusedSimpArgs false
namespace Go.Proofs.YtjekopgcpikkiaaGreatDoor.AM
open Go.Abs
noncomputable instance shpDec : DecidableEq Shp := fun _ _ => Classical.propDecidable _
noncomputable def eqSh (a b : Shp) : Bool := decide (a = b)
theorem eqSh_iff {a b : Shp} : eqSh a b = true ↔ a = b := by unfold eqSh; exact decide_eq_true_iff
theorem eqSh_not {a b : Shp} (h : a ≠ b) : eqSh a b = false := by unfold eqSh; exact decide_eq_false h
noncomputable def eqShL (a b : List Shp) : Bool := decide (a = b)
theorem eqShL_cons (a b : Shp) (l m : List Shp) : eqShL (a :: l) (b :: m) = (eqSh a b && eqShL l m) := by
  unfold eqShL eqSh
  rw [← Bool.decide_and]
  exact decide_eq_decide.2 (by simp)
theorem eqShL_nil : eqShL [] [] = true := by unfold eqShL; exact decide_eq_true rfl
theorem eqShL_iff {a b : List Shp} : eqShL a b = true ↔ a = b := by unfold eqShL; exact decide_eq_true_iff
def bareV (n : NodeV) : NodeV := (n.1, (n.2.1, (n.2.2.1, (n.2.2.2.1, (n.2.2.2.2.1.map (min · 1), (min n.2.2.2.2.2.1 1, (n.2.2.2.2.2.2.1, (n.2.2.2.2.2.2.2.1, (0, ())))))))))
theorem hbare_loop (m : Nat) (d : Nat) : ∀ (i : Nat) (ks : List Int) (x2 x3) (x5 : List PairV) (x6 : List Int) (x7 : List PairV), ks.length = m → m ≤ 50000000 → i ≤ m → m - i = d →
    heap_bare.l0 (m : Int) i x2 x3 ks x5 x6 x7 = some (x2.1, (x2.2.1, (x2.2.2.1, (x2.2.2.2.1, (ks.take i ++ (ks.drop i).map (min · 1), ((min x2.2.2.2.2.2.1 1), (x5, (x2.2.2.2.2.2.2.2.1, ((0 : Int), ()))))))))) := by
  induction d with
  | zero =>
    intro i ks x2 x3 x5 x6 x7 h1 h2 h3 h4
    rw [heap_bare.l0.eq]
    simp only [ltI_d, minI_d, br_if]
    rw [if_neg (by omega), List.drop_eq_nil_of_le (by omega), List.take_of_length_le (by omega), List.map_nil, List.append_nil]
  | succ d ih =>
    intro i ks x2 x3 x5 x6 x7 h1 h2 h3 h4
    have hi : i < ks.length := by omega
    rw [heap_bare.l0.eq]
    simp only [ltI_d, leI_d, ofN_d, lenL_d, andB_d, minI_d, br_if]
    rw [if_pos (by omega), if_pos (by omega), if_pos (by omega), ixR ks i hi, add1 i (by omega)]
    have e : setL (.int .i64) ks (i : Int) (min ks[i] 1) = ks.set i (min ks[i] 1) := by unfold setL; rw [Int.toNat_natCast]
    rw [e, ih (i + 1) _ _ _ _ _ _ (by rw [List.length_set]; omega) h2 (by omega) (by omega)]
    have e1 : (ks.set i (min ks[i] 1)).take (i + 1) = ks.take i ++ [min ks[i] 1] := by
      rw [List.take_succ_eq_append_getElem (by rw [List.length_set]; exact hi), List.getElem_set_self, List.take_set_of_le (by omega)]
    have e2 : (ks.set i (min ks[i] 1)).drop (i + 1) = ks.drop (i + 1) := List.drop_set_of_lt (by omega)
    rw [e1, e2, List.drop_eq_getElem_cons hi, List.map_cons, List.append_assoc]
    rfl
theorem hbare_any (n : NodeV) (h : okN n) : heap_bare n = some (bareV n) := by
  have hk := h.kids
  rw [heap_bare.eq, copy_any n h, bnd_some]
  have := hbare_loop n.2.2.2.2.1.length n.2.2.2.2.1.length 0 n.2.2.2.2.1 (n.1, (n.2.1, (n.2.2.1, (n.2.2.2.1, ((), (n.2.2.2.2.2.1, ((), n.2.2.2.2.2.2.2))))))) ((0 : Int), (ByteArray.empty, (ByteArray.empty, ((0 : Int), ((), ((0 : Int), ((), ((0 : Int), ((0 : Int), ()))))))))) n.2.2.2.2.2.2.1 [] [] rfl (by omega) (by omega) (by omega)
  rw [List.take_zero, List.drop_zero, List.nil_append, show ((0 : Nat) : Int) = 0 from rfl] at this
  exact this
theorem bare_okN {n : NodeV} (h : okN n) : okN (bareV n) := ⟨h.key, h.val, h.map0, h.map1, by show (n.2.2.2.2.1.map (min · 1)).length ≤ _; rw [List.length_map]; exact h.kids, h.list, h.binds⟩
theorem bare_iff (a b : NodeV) : bareV a = bareV b ↔ stripV a = stripV b ∧ (allK a).map (min · 1) = (allK b).map (min · 1) := by
  rw [node_ext, node_ext]
  unfold bareV stripV allK
  dsimp only
  rw [List.map_append, List.map_append, List.map_singleton, List.map_singleton]
  constructor
  · rintro ⟨h1, h2, h3, h4, h5, h6, h7, h8, _⟩
    exact ⟨⟨h1, h2, h3, h4, rfl, rfl, h7, h8, rfl⟩, by rw [h5, h6]⟩
  · rintro ⟨⟨h1, h2, h3, h4, _, _, h7, h8, _⟩, h5⟩
    obtain ⟨h5, h6⟩ := List.append_inj' h5 rfl
    injection h6 with h6
    exact ⟨h1, h2, h3, h4, h5, h6, h7, h8, rfl⟩
theorem kids_iff {h g : List NodeV} (hz : ∀ k ∈ ([] : List Int), True) : ∀ (l m : List Int), (∀ k ∈ l, 0 ≤ k ∧ (U h k = .nil ↔ k = 0)) → (∀ k ∈ m, 0 ≤ k ∧ (U g k = .nil ↔ k = 0)) →
    ((l.map (min · 1) = m.map (min · 1) ∧ (l.filter (fun r => decide (r ≠ 0))).map (U h) = (m.filter (fun r => decide (r ≠ 0))).map (U g)) ↔ l.map (U h) = m.map (U g))
  | [], [], _, _ => by simp
  | [], b :: m, _, _ => by simp
  | a :: l, [], _, _ => by simp
  | a :: l, b :: m, ha, hb => by
    have ih := kids_iff hz l m (fun k hk => ha k (List.mem_cons_of_mem _ hk)) (fun k hk => hb k (List.mem_cons_of_mem _ hk))
    obtain ⟨a0, a1⟩ := ha a List.mem_cons_self
    obtain ⟨b0, b1⟩ := hb b List.mem_cons_self
    rw [List.map_cons, List.map_cons, List.map_cons, List.map_cons, List.cons.injEq, List.cons.injEq, ← ih]
    by_cases ea : a = 0
    · by_cases eb : b = 0
      · have ua := a1.2 ea
        have ub := b1.2 eb
        rw [List.filter_cons_of_neg (by simp [ea]), List.filter_cons_of_neg (by simp [eb]), ua, ub]
        constructor
        · rintro ⟨⟨_, h1⟩, h2⟩; exact ⟨rfl, h1, h2⟩
        · rintro ⟨_, h1, h2⟩; exact ⟨⟨by omega, h1⟩, h2⟩
      · constructor
        · rintro ⟨⟨h1, _⟩, _⟩; omega
        · rintro ⟨h1, _⟩
          exact absurd (b1.1 (h1.symm.trans (a1.2 ea))) eb
    · by_cases eb : b = 0
      · constructor
        · rintro ⟨⟨h1, _⟩, _⟩; omega
        · rintro ⟨h1, _⟩
          exact absurd (a1.1 (h1.trans (b1.2 eb))) ea
      · rw [List.filter_cons_of_pos (by simp [ea]), List.filter_cons_of_pos (by simp [eb]), List.map_cons, List.map_cons, List.cons.injEq]
        constructor
        · rintro ⟨⟨_, h1⟩, h2, h3⟩; exact ⟨h2, h1, h3⟩
        · rintro ⟨h2, h1, h3⟩; exact ⟨⟨by omega, h1⟩, h2, h3⟩
theorem shape_iff {h g : List NodeV} (hm : mayH h = true) (gm : mayH g = true) {r s : Int} (h1 : 1 ≤ r) (h2 : r ≤ h.length) (g1 : 1 ≤ s) (g2 : s ≤ g.length) :
    U h r = U g s ↔ bareV (getN h r) = bareV (getN g s) ∧ (refsS (getN h r)).map (U h) = (refsS (getN g s)).map (U g) := by
  rw [U_node hm h1 h2, U_node gm g1 g2, bare_iff, refsS_all, refsS_all, Shp.node.injEq, and_assoc]
  refine and_congr_right fun _ => (kids_iff (fun _ hk => by cases hk) _ _ (fun k hk => ?_) (fun k hk => ?_)).symm
  · have := (may_node hm h1 h2).2 k hk
    exact ⟨by omega, U_nil hm (by omega) (by omega)⟩
  · have := (may_node gm g1 g2).2 k hk
    exact ⟨by omega, U_nil gm (by omega) (by omega)⟩
theorem min_filter : ∀ (l m : List Int), l.map (min · 1) = m.map (min · 1) → (∀ k ∈ l, 0 ≤ k) → (∀ k ∈ m, 0 ≤ k) → (l.filter (fun r => decide (r ≠ 0))).length = (m.filter (fun r => decide (r ≠ 0))).length
  | [], [], _, _, _ => rfl
  | [], _ :: _, h, _, _ => by cases h
  | _ :: _, [], h, _, _ => by cases h
  | a :: l, b :: m, h, ha, hb => by
    rw [List.map_cons, List.map_cons, List.cons.injEq] at h
    have ih := min_filter l m h.2 (fun k hk => ha k (List.mem_cons_of_mem _ hk)) (fun k hk => hb k (List.mem_cons_of_mem _ hk))
    have a0 := ha a List.mem_cons_self
    have b0 := hb b List.mem_cons_self
    by_cases ea : a = 0
    · have eb : b = 0 := by have := h.1; omega
      rw [List.filter_cons_of_neg (by simp [ea]), List.filter_cons_of_neg (by simp [eb])]; exact ih
    · have eb : b ≠ 0 := by have := h.1; omega
      rw [List.filter_cons_of_pos (by simp [ea]), List.filter_cons_of_pos (by simp [eb]), List.length_cons, List.length_cons, ih]
theorem hsame_loop {h g : List NodeV} (x y : List Int) (hx : x.length ≤ 50000000) (hxy : x.length = y.length) (hb : ∀ (a b : Int), a ∈ x → b ∈ y → heap_same h a g b = some (eqSh (U h a) (U g b))) (d : Nat) : ∀ (i : Nat), i ≤ x.length → x.length - i = d →
    heap_same.l1 h g x y x.length i = some (eqShL ((x.drop i).map (U h)) ((y.drop i).map (U g))) := by
  induction d with
  | zero =>
    intro i h1 h2
    rw [heap_same.l1.eq]
    simp only [ltI_d, br_if]
    rw [if_neg (by omega), List.drop_eq_nil_of_le (by omega), List.drop_eq_nil_of_le (by omega), List.map_nil, List.map_nil, eqShL_nil]
  | succ d ih =>
    intro i h1 h2
    have hi : i < x.length := by omega
    have hj : i < y.length := by omega
    rw [heap_same.l1.eq]
    simp only [ltI_d, leI_d, ofN_d, lenL_d, andB_d, br_if]
    rw [if_pos (by omega), if_pos (by omega), if_pos (by omega), ixR x i hi, ixR y i hj, hb _ _ (List.getElem_mem hi) (List.getElem_mem hj), bnd_some, add1 i (by omega), ih (i + 1) (by omega) (by omega), List.drop_eq_getElem_cons hi, List.drop_eq_getElem_cons hj, List.map_cons, List.map_cons, eqShL_cons]
    cases eqSh (U h x[i]) (U g y[i]) with
    | true => rw [show notB true = false from rfl, br_f, Bool.true_and]
    | false => rw [show notB false = true from rfl, br_t, Bool.false_and]
theorem hsame_any {h g : List NodeV} (ho : okH h) (hm : mayH h = true) (go : okH g) (gm : mayH g = true) : ∀ (n : Nat) (r s : Int), 0 ≤ r → r ≤ n → r ≤ h.length → 0 ≤ s → s ≤ g.length → heap_same h r g s = some (eqSh (U h r) (U g s)) := by
  have hlen := ho.len
  have glen := go.len
  have zero : ∀ r s : Int, 0 ≤ r → r ≤ h.length → 0 ≤ s → s ≤ g.length → (r = 0 ∨ s = 0) → heap_same h r g s = some (eqSh (U h r) (U g s)) := by
    intro r s h0 h1 g0 g1 hz
    have hj : heap_same.j0 h r g s true = some (eqSh (U h r) (U g s)) := by
      rw [heap_same.j0.eq, br_t, eqI_d]
      refine some_bool ?_
      by_cases e : r = s
      · have e1 : r = 0 := by omega
        have e2 : s = 0 := by omega
        subst e1; subst e2
        rw [U_zero, U_zero, decide_eq_true rfl, eqSh_iff.2 rfl]
      · rw [decide_eq_false e, eqSh_not]
        intro q
        rcases hz with rfl | rfl
        · rw [U_zero] at q; exact e ((U_nil gm g0 g1).1 q.symm).symm
        · rw [U_zero] at q; exact e ((U_nil hm h0 h1).1 q)
    rw [heap_same.eq]
    simp only [eqI_d, br_if]
    by_cases e : r = 0
    · rw [if_pos e]; exact hj
    · rw [if_neg e, decide_eq_true (hz.resolve_left e)]; exact hj
  intro n
  induction n with
  | zero =>
    intro r s h0 h1 h2 g0 g1
    exact zero r s h0 h2 g0 g1 (.inl (by omega))
  | succ n ih =>
    intro r s h0 h1 h2 g0 g1
    by_cases er : r = 0
    · exact zero r s h0 h2 g0 g1 (.inl er)
    by_cases es : s = 0
    · exact zero r s h0 h2 g0 g1 (.inr es)
    have hr1 : 1 ≤ r := by omega
    have hs1 : 1 ≤ s := by omega
    have o := ho.node _ (getN_mem h r hr1 h2)
    have p := go.node _ (getN_mem g s hs1 g1)
    have hx := (may_node hm hr1 h2).2
    have hy := (may_node gm hs1 g1).2
    have hrl := refsS_len (getN h r)
    have hkl := o.kids
    rw [heap_same.eq, eqI_d, br_if, if_neg er, eqI_d, decide_eq_false es, heap_same.j0.eq, br_f, inG h r hr1 h2 (by omega), br_t, inG g s hs1 g1 (by omega), br_t, ixG h r hr1 h2 (by omega), ixG g s hs1 g1 (by omega)]
    simp only [both_self]
    rw [hbare_any _ o, bnd_some, hbare_any _ p, bnd_some, same_any _ _ (bare_okN o), bnd_some, notB_d, br_if, refs_any _ o, bnd_some, refs_any _ p, bnd_some]
    by_cases hb : bareV (getN h r) = bareV (getN g s)
    · rw [if_neg (by intro q; exact q hb)]
      have hl : (refsS (getN h r)).length = (refsS (getN g s)).length := by
        rw [refsS_all, refsS_all]
        refine min_filter _ _ ((bare_iff _ _).1 hb).2 (fun k hk => ?_) (fun k hk => ?_)
        · have := hx k hk; omega
        · have := hy k hk; omega
      have := hsame_loop (h := h) (g := g) (refsS (getN h r)) (refsS (getN g s)) (by omega) hl (fun a b ha hb' => by
        rw [refsS_all] at ha hb'
        have k1 := hx a (List.mem_filter.1 ha).1
        have k2 := hy b (List.mem_filter.1 hb').1
        exact ih a b (by omega) (by omega) (by omega) (by omega) (by omega)) (refsS (getN h r)).length 0 (by omega) (by omega)
      rw [List.drop_zero, List.drop_zero, show ((0 : Nat) : Int) = 0 from rfl] at this
      refine this.trans (some_bool ?_)
      rw [Bool.eq_iff_iff, eqShL_iff, eqSh_iff, shape_iff hm gm hr1 h2 hs1 g1]
      exact ⟨fun q => ⟨hb, q⟩, fun q => q.2⟩
    · rw [if_pos hb]
      refine some_bool (eqSh_not ?_).symm
      intro q
      exact hb ((shape_iff hm gm hr1 h2 hs1 g1).1 q).1
theorem hSame_any (h g : List NodeV) (ho : okH h) (go : okH g) (r s : Int) : heap_Same h r g s = some (fitH h r && (fitH g s && eqSh (U h r) (U g s))) := by
  rw [heap_Same.eq, hmay_any h ho, bnd_some, eqI_d, br_if]
  cases h1 : fitH h r with
  | false => rw [if_neg (by simp), Bool.false_and]
  | true =>
    rw [if_pos (by simp), hmay_any g go, bnd_some, eqI_d, br_if]
    cases h2 : fitH g s with
    | false => rw [if_neg (by simp)]; rfl
    | true =>
      obtain ⟨⟨a, b⟩, c⟩ := fitH_iff.1 h1
      obtain ⟨⟨a', b'⟩, c'⟩ := fitH_iff.1 h2
      rw [if_pos (by simp), hsame_any ho c go c' r.toNat r s a (by omega) b a' b', bnd_some]
      rfl
theorem shp_loop {h g : List NodeV} (a b : NodeV) (oa : okN a) (ob : okN b) (hl : a.2.2.2.2.1.length = b.2.2.2.2.1.length) (hb : ∀ (x y : Int), x ∈ allK a → y ∈ allK b → ref17_shape h x g y = some (eqSh (U h x) (U g y))) (d : Nat) : ∀ (i : Nat), i ≤ a.2.2.2.2.1.length → a.2.2.2.2.1.length - i = d →
    ref17_shape.l1 h g i a b = some (eqShL ((a.2.2.2.2.1.drop i).map (U h)) ((b.2.2.2.2.1.drop i).map (U g)) && (eqSh (U h a.2.2.2.2.2.1) (U g b.2.2.2.2.2.1) && decide (stripV a = stripV b))) := by
  have ka := oa.kids
  have la := oa.list
  induction d with
  | zero =>
    intro i h1 h2
    rw [ref17_shape.l1.eq]
    simp only [ltI_d, ofN_d, lenL_d, br_if]
    rw [if_neg (by omega), hb a.2.2.2.2.2.1 b.2.2.2.2.2.1 (by unfold allK; simp) (by unfold allK; simp), bnd_some, refsame_any _ _ (by show 0 ≤ _; omega) (by show a.2.2.2.2.2.2.1.length ≤ _; omega), bnd_some, List.drop_eq_nil_of_le (by omega), List.drop_eq_nil_of_le (by omega), List.map_nil, List.map_nil, eqShL_nil, Bool.true_and]
    cases eqSh (U h a.2.2.2.2.2.1) (U g b.2.2.2.2.2.1) with
    | true => rw [show notB true = false from rfl, br_f, Bool.true_and]; rfl
    | false => rw [show notB false = true from rfl, br_t, Bool.false_and]
  | succ d ih =>
    intro i h1 h2
    have hi : i < a.2.2.2.2.1.length := by omega
    have hj : i < b.2.2.2.2.1.length := by omega
    rw [ref17_shape.l1.eq]
    simp only [ltI_d, leI_d, ofN_d, lenL_d, andB_d, br_if]
    rw [if_pos (by omega), if_pos (by omega), if_pos (by omega), ixR _ i hi, ixR _ i hj, hb _ _ (by unfold allK; exact List.mem_append_left _ (List.getElem_mem hi)) (by unfold allK; exact List.mem_append_left _ (List.getElem_mem hj)), bnd_some, add1 i (by omega), ih (i + 1) (by omega) (by omega), List.drop_eq_getElem_cons hi, List.drop_eq_getElem_cons hj, List.map_cons, List.map_cons, eqShL_cons]
    cases eqSh (U h a.2.2.2.2.1[i]) (U g b.2.2.2.2.1[i]) with
    | true => rw [show notB true = false from rfl, br_f, Bool.true_and]
    | false => rw [show notB false = true from rfl, br_t, Bool.false_and, Bool.false_and]
theorem shape_any {h g : List NodeV} (ho : okH h) (hm : mayH h = true) (go : okH g) (gm : mayH g = true) : ∀ (n : Nat) (r s : Int), 0 ≤ r → r ≤ n → r ≤ h.length → 0 ≤ s → s ≤ g.length → ref17_shape h r g s = some (eqSh (U h r) (U g s)) := by
  have hlen := ho.len
  have glen := go.len
  have zero : ∀ r s : Int, 0 ≤ r → r ≤ h.length → 0 ≤ s → s ≤ g.length → (r = 0 ∨ s = 0) → ref17_shape h r g s = some (eqSh (U h r) (U g s)) := by
    intro r s h0 h1 g0 g1 hz
    have hj : ref17_shape.j0 h r g s true = some (eqSh (U h r) (U g s)) := by
      rw [ref17_shape.j0.eq, br_t]
      simp only [eqI_d, br_if]
      by_cases e : r = 0
      · rw [if_pos e]
        subst e
        refine some_bool ?_
        rw [U_zero]
        by_cases e2 : s = 0
        · subst e2; rw [U_zero, decide_eq_true rfl, eqSh_iff.2 rfl]
        · rw [decide_eq_false e2, eqSh_not (fun q => e2 ((U_nil gm g0 g1).1 q.symm))]
      · rw [if_neg e]
        have e2 := hz.resolve_left e
        subst e2
        rw [U_zero, eqSh_not (fun q => e ((U_nil hm h0 h1).1 q))]
    rw [ref17_shape.eq]
    simp only [eqI_d, br_if]
    by_cases e : r = 0
    · rw [if_pos e]; exact hj
    · rw [if_neg e, decide_eq_true (hz.resolve_left e)]; exact hj
  intro n
  induction n with
  | zero =>
    intro r s h0 h1 h2 g0 g1
    exact zero r s h0 h2 g0 g1 (.inl (by omega))
  | succ n ih =>
    intro r s h0 h1 h2 g0 g1
    by_cases er : r = 0
    · exact zero r s h0 h2 g0 g1 (.inl er)
    by_cases es : s = 0
    · exact zero r s h0 h2 g0 g1 (.inr es)
    have hr1 : 1 ≤ r := by omega
    have hs1 : 1 ≤ s := by omega
    have o := ho.node _ (getN_mem h r hr1 h2)
    have p := go.node _ (getN_mem g s hs1 g1)
    have hx := (may_node hm hr1 h2).2
    have hy := (may_node gm hs1 g1).2
    have hkl := o.kids
    rw [ref17_shape.eq, eqI_d, br_if, if_neg er, eqI_d, decide_eq_false es, ref17_shape.j0.eq, br_f, inG h r hr1 h2 (by omega), br_t, inG g s hs1 g1 (by omega), br_t, ixG h r hr1 h2 (by omega), ixG g s hs1 g1 (by omega)]
    simp only [both_self, eqI_d, ofN_d, lenL_d, notB_d, br_if]
    by_cases hb : (getN h r).2.2.2.2.1.length = (getN g s).2.2.2.2.1.length
    · rw [if_neg (by omega)]
      have := shp_loop (h := h) (g := g) (getN h r) (getN g s) o p hb (fun a b ha hb' => by
        have k1 := hx a ha
        have k2 := hy b hb'
        exact ih a b (by omega) (by omega) (by omega) (by omega) (by omega)) (getN h r).2.2.2.2.1.length 0 (by omega) (by omega)
      rw [List.drop_zero, List.drop_zero, show ((0 : Nat) : Int) = 0 from rfl] at this
      refine this.trans (some_bool ?_)
      rw [Bool.eq_iff_iff, Bool.and_eq_true, Bool.and_eq_true, eqShL_iff, eqSh_iff, eqSh_iff, decide_eq_true_iff, U_node hm hr1 h2, U_node gm hs1 g1, Shp.node.injEq]
      unfold allK
      rw [List.map_append, List.map_append]
      constructor
      · rintro ⟨q1, q2, q3⟩
        exact ⟨q3, by rw [q1, List.map_singleton, List.map_singleton, q2]⟩
      · rintro ⟨q3, q1⟩
        obtain ⟨q1, q2⟩ := List.append_inj' q1 rfl
        injection q2 with q2
        exact ⟨q1, q2, q3⟩
    · rw [if_pos (by omega)]
      refine some_bool (eqSh_not ?_).symm
      intro q
      rw [U_node hm hr1 h2, U_node gm hs1 g1, Shp.node.injEq] at q
      have := congrArg List.length q.2
      rw [List.length_map, List.length_map, allK_len, allK_len] at this
      omega
theorem refSame_any (h g : List NodeV) (ho : okH h) (go : okH g) (r s : Int) : ref17_Same h r g s = some (fitH h r && (fitH g s && eqSh (U h r) (U g s))) := by
  rw [ref17_Same.eq, fits_any h ho, bnd_some]
  cases h1 : fitH h r with
  | false => rw [br_f, Bool.false_and]
  | true =>
    rw [br_t, fits_any g go, bnd_some]
    cases h2 : fitH g s with
    | false => rw [br_f]; rfl
    | true =>
      obtain ⟨⟨a, b⟩, c⟩ := fitH_iff.1 h1
      obtain ⟨⟨a', b'⟩, c'⟩ := fitH_iff.1 h2
      rw [br_t, shape_any ho c go c' r.toNat r s a (by omega) b a' b', bnd_some]
      rfl
end Go.Proofs.YtjekopgcpikkiaaGreatDoor.AM
set_option linter.unusedVariables false
set_option linter.unusedSimpArgs false
namespace Go.Proofs.YtjekopgcpikkiaaGreatDoor.AM
open Go.Abs
theorem mayHL_app : ∀ (a b : List NodeV) (i : Nat), mayHL i (a ++ b) = (mayHL i a && mayHL (i + a.length) b)
  | [], b, i => by rw [List.nil_append]; show _ = (true && mayHL i b); rw [Bool.true_and]
  | n :: a, b, i => by
    rw [List.cons_append, mayHL, mayHL, mayHL_app a b (i + 1), List.length_cons, show i + 1 + a.length = i + (a.length + 1) by omega, ← Bool.and_assoc]
theorem getN_app (a b : List NodeV) (r : Int) (h1 : 1 ≤ r) (h2 : r ≤ a.length) : getN (a ++ b) r = getN a r := by
  unfold getN
  rw [List.getD_eq_getElem?_getD, List.getD_eq_getElem?_getD, List.getElem?_append_left (by omega)]
theorem getN_last (a : List NodeV) (n : NodeV) : getN (a ++ [n]) ((a.length : Int) + 1) = n := by
  unfold getN
  rw [show ((a.length : Int) + 1 - 1).toNat = a.length by omega, List.getD_eq_getElem?_getD, List.getElem?_append_right (by omega), Nat.sub_self]
  rfl
theorem unf_app {a b : List NodeV} (hm : mayH a = true) : ∀ (k : Nat) (r : Int), 0 ≤ r → r ≤ a.length → unf (a ++ b) k r = unf a k r
  | 0, r, _, _ => rfl
  | k + 1, r, h0, h1 => by
    unfold unf
    by_cases e : r = 0
    · rw [if_pos e, if_pos e]
    · rw [if_neg e, if_neg e, getN_app a b r (by omega) h1]
      congr 1
      refine List.map_congr_left fun x hx => ?_
      have := (may_node hm (by omega) h1).2 x hx
      exact unf_app hm k x (by omega) (by omega)
theorem U_app {a b : List NodeV} (hm : mayH a = true) {r : Int} (h0 : 0 ≤ r) (h1 : r ≤ a.length) : U (a ++ b) r = U a r := unf_app hm _ r h0 h1
theorem may_more {h : List NodeV} {n : NodeV} (hm : mayH h = true) (hn : mayS n = 0) (hr : ∀ r ∈ refsS n, 1 ≤ r ∧ r ≤ h.length) : mayH (h ++ [n]) = true := by
  unfold mayH
  rw [mayHL_app, Bool.and_eq_true]
  refine ⟨hm, mayHL_of _ _ fun j hj => ?_⟩
  have : j = 0 := by simpa using hj
  subst this
  refine ⟨hn, fun r hr' => ?_⟩
  have := hr r hr'
  exact ⟨this.1, by omega⟩
theorem kids_rng {h : List NodeV} (hm : mayH h = true) (hl : h.length ≤ 50000000) : ∀ n ∈ h, rngN n := by
  intro n hn
  obtain ⟨j, hj, ej⟩ := List.getElem_of_mem hn
  have hk := (may_node hm (r := (j : Int) + 1) (by omega) (by omega)).2
  rw [getN_ix _ j hj, ej] at hk
  refine ⟨fun k hk' => ?_, ?_⟩
  · have := hk k (List.mem_append_left _ hk')
    unfold rng; omega
  · have := hk n.2.2.2.2.2.1 (List.mem_append_right _ List.mem_cons_self)
    unfold rng; omega
end Go.Proofs.YtjekopgcpikkiaaGreatDoor.AM
set_option linter.unusedVariables false
set_option linter.unusedSimpArgs false
namespace Go.Proofs.YtjekopgcpikkiaaGreatDoor.AM
open Go.Abs
theorem tri (a b : ByteArray) : (lt a b = true ∧ lt b a = false ∧ a ≠ b) ∨ (a = b ∧ lt a b = false ∧ lt b a = false) ∨ (lt b a = true ∧ lt a b = false ∧ a ≠ b) := by
  by_cases h : a = b
  · subst h; exact .inr (.inl ⟨rfl, lt_irrefl _, lt_irrefl _⟩)
  · rcases lt_total h with k | k
    · exact .inl ⟨k, lt_asymm k, h⟩
    · exact .inr (.inr ⟨k, lt_asymm k, h⟩)
theorem putS_lt {q p : PairV} {qs : List PairV} (h : lt q.1 p.1 = true) : putS (q :: qs) p = q :: putS qs p := by
  rw [putS, if_pos h]
theorem putS_eq {q p : PairV} {qs : List PairV} (h : q.1 = p.1) : putS (q :: qs) p = p :: qs := by
  rw [putS, if_neg (by rw [h, lt_irrefl]; simp), if_pos h]
theorem putS_gt {q p : PairV} {qs : List PairV} (h : lt p.1 q.1 = true) : putS (q :: qs) p = p :: q :: qs := by
  rw [putS, if_neg (by rw [lt_asymm h]; simp), if_neg (fun e => by rw [e, lt_irrefl] at h; cases h)]
theorem putS_nil (p : PairV) : putS [] p = [p] := rfl
theorem putS_same {p x : PairV} (h : p.1 = x.1) : ∀ l, putS (putS l p) x = putS l x
  | [] => by rw [putS_nil, putS_eq h, putS_nil]
  | q :: qs => by
    rcases tri q.1 p.1 with ⟨a, _⟩ | ⟨a, _⟩ | ⟨a, _⟩
    · have a' : lt q.1 x.1 = true := by rw [← h]; exact a
      rw [putS_lt a, putS_lt a', putS_lt a', putS_same h qs]
    · rw [putS_eq a, putS_eq h, putS_eq (a.trans h)]
    · have a' : lt x.1 q.1 = true := by rw [← h]; exact a
      rw [putS_gt a, putS_eq h, putS_gt a']
theorem putS_comm {p x : PairV} (h : p.1 ≠ x.1) : ∀ l, putS (putS l p) x = putS (putS l x) p
  | [] => by
    rw [putS_nil, putS_nil]
    rcases tri p.1 x.1 with ⟨c, _⟩ | ⟨c, _⟩ | ⟨c, _⟩
    · rw [putS_lt c, putS_gt c, putS_nil]
    · exact absurd c h
    · rw [putS_gt c, putS_lt c, putS_nil]
  | q :: qs => by
    rcases tri q.1 p.1 with ⟨a, _⟩ | ⟨a, _⟩ | ⟨a, _⟩
    · rcases tri q.1 x.1 with ⟨b, _⟩ | ⟨b, _⟩ | ⟨b, _⟩
      · rw [putS_lt a, putS_lt b, putS_lt b, putS_lt a, putS_comm h qs]
      · have c : lt x.1 p.1 = true := by rw [← b]; exact a
        rw [putS_lt a, putS_eq b, putS_eq b, putS_lt c]
      · rw [putS_lt a, putS_gt b, putS_gt b, putS_lt (lt_trans b a), putS_lt a]
    · rcases tri q.1 x.1 with ⟨b, _⟩ | ⟨b, _⟩ | ⟨b, _⟩
      · have c : lt p.1 x.1 = true := by rw [← a]; exact b
        rw [putS_eq a, putS_lt c, putS_lt b, putS_eq a]
      · exact absurd (a.symm.trans b) h
      · have c : lt x.1 p.1 = true := by rw [← a]; exact b
        rw [putS_eq a, putS_gt c, putS_gt b, putS_lt c, putS_eq a]
    · rcases tri q.1 x.1 with ⟨b, _⟩ | ⟨b, _⟩ | ⟨b, _⟩
      · rw [putS_gt a, putS_lt (lt_trans a b), putS_lt b, putS_gt a]
      · have c : lt p.1 x.1 = true := by rw [← b]; exact a
        rw [putS_gt a, putS_lt c, putS_eq b, putS_gt c]
      · rcases tri p.1 x.1 with ⟨c, _⟩ | ⟨c, _⟩ | ⟨c, _⟩
        · rw [putS_gt a, putS_lt c, putS_gt b, putS_gt c]
        · exact absurd c h
        · rw [putS_gt a, putS_gt c, putS_gt b, putS_lt c, putS_gt a]
theorem fold_skip {p : PairV} : ∀ (r acc : List PairV), (∃ q ∈ r, q.1 = p.1) → r.foldl putS (putS acc p) = r.foldl putS acc
  | [], _, ⟨_, h, _⟩ => by cases h
  | x :: r, acc, ⟨q, hq, e⟩ => by
    rw [List.foldl_cons, List.foldl_cons]
    by_cases hx : p.1 = x.1
    · rw [putS_same hx]
    · rw [putS_comm hx]
      refine fold_skip r _ ⟨q, ?_, e⟩
      rcases List.mem_cons.1 hq with rfl | hq
      · exact absurd e.symm hx
      · exact hq
theorem last_loop (l : List PairV) (hl : l.length ≤ 50000000) (i : Nat) (hi : i < l.length) (d : Nat) : ∀ (k : Nat), k ≤ l.length → l.length - k = d → ref07_last.l0 l i k = some ((l.drop k).all fun q => !decide (q.1 = l[i].1)) := by
  induction d with
  | zero =>
    intro k h1 h2
    rw [ref07_last.l0.eq]
    simp only [ltI_d, ofN_d, lenL_d, br_if]
    rw [if_neg (by omega), List.drop_eq_nil_of_le (by omega)]
    rfl
  | succ d ih =>
    intro k h1 h2
    have hk : k < l.length := by omega
    rw [ref07_last.l0.eq]
    simp only [ltI_d, leI_d, eqS_d, ofN_d, lenL_d, andB_d, br_if]
    rw [if_pos (by omega), if_pos (by omega), if_pos (by omega), ixP l k hk, ixP l i hi, add1 k (by omega), ih (k + 1) (by omega) (by omega), List.drop_eq_getElem_cons hk]
    rw [List.all_cons]
    by_cases e : l[k].1 = l[i].1
    · rw [if_pos e, decide_eq_true e]; rfl
    · rw [if_neg e, decide_eq_false e]; rfl
theorem last_any (l : List PairV) (hl : l.length ≤ 50000000) (i : Nat) (hi : i < l.length) : ref07_last l i = some ((l.drop (i + 1)).all fun q => !decide (q.1 = l[i].1)) := by
  rw [ref07_last.eq, add1 i (by omega)]
  exact last_loop l hl i hi _ (i + 1) (by omega) rfl
theorem insert_any (l out : List PairV) (i at_ : Nat) (hi : i < l.length) (hl : l.length ≤ 50000000) (ha : at_ ≤ out.length) (ho : out.length ≤ 50000000) :
    ref07_Make.j2 l i at_ false out = ref07_Make.l0 l ((i + 1 : Nat) : Int) (out.take at_ ++ l[i] :: out.drop at_) := by
  rw [ref07_Make.j2.eq, br_f]
  have e0 : toN 0 = 0 := rfl
  have s1 : subL tapiPair out 0 at_ = out.take at_ := subL0 _ _ _
  have s2 : subL tapiPair out at_ out.length = out.drop at_ := by
    unfold subL
    exact List.take_of_length_le (by rw [List.length_drop]; omega)
  have hx := ixP l i hi
  simp only [e0, toN_d, ofN_d, lenL_d, s1, s2, hx, appL_d, List.nil_append, add1 i (by omega)]
  have c1 : andB (leI 0 (i : Int)) (ltI (i : Int) (l.length : Int)) = true := by
    rw [leI_d, ltI_d, andB_d]; exact decide_eq_true ⟨by omega, by omega⟩
  have c2 : andB (leI 0 0) (andB (leI 0 (at_ : Int)) (leI (at_ : Int) (out.length : Int))) = true := by
    rw [leI_d, leI_d, leI_d, andB_d, andB_d]; exact decide_eq_true ⟨by omega, by omega, by omega⟩
  have c3 : fitL tapiPair (out.take at_) = true := by rw [fitL_d]; exact decide_eq_true (by rw [List.length_take]; omega)
  have c4 : fitL tapiPair (out.take at_ ++ [l[i]]) = true := by rw [fitL_d]; exact decide_eq_true (by rw [List.length_append, List.length_take]; show _ + 1 ≤ _; omega)
  have c5 : andB (leI 0 (at_ : Int)) (andB (leI (at_ : Int) (out.length : Int)) (leI (out.length : Int) (out.length : Int))) = true := by
    rw [leI_d, leI_d, leI_d, andB_d, andB_d]; exact decide_eq_true ⟨by omega, by omega, by omega⟩
  have c6 : fitL tapiPair (out.take at_ ++ [l[i]] ++ out.drop at_) = true := by rw [fitL_d]; exact decide_eq_true (by rw [List.length_append, List.length_append, List.length_take, List.length_drop]; show _ + 1 + _ ≤ _; omega)
  simp only [c1, c2, c3, c4, c5, c6, br_t, both_self]
  rw [List.append_assoc]
  rfl
theorem find_loop (l out : List PairV) (i : Nat) (hi : i < l.length) (hl : l.length ≤ 50000000) (ho : out.length ≤ 50000000) (hs : ∀ p ∈ out, okP p) (hS : Srt out) (hne : ∀ q ∈ out, q.1 ≠ l[i].1) (d : Nat) : ∀ (a : Nat), a ≤ out.length → out.length - a = d → (∀ (b : Nat) (h : b < out.length), b < a → lt out[b].1 l[i].1 = true) →
    ref07_Make.l1 l i a out = ref07_Make.l0 l ((i + 1 : Nat) : Int) (putS out l[i]) := by
  have fin : ∀ (a : Nat), a ≤ out.length → (∀ (b : Nat) (h : b < out.length), b < a → lt out[b].1 l[i].1 = true) → (∀ (h : a < out.length), lt out[a].1 l[i].1 = false) → ref07_Make.j2 l i a false out = ref07_Make.l0 l ((i + 1 : Nat) : Int) (putS out l[i]) := by
    intro a h1 h2 h3
    rw [insert_any l out i a hi hl h1 ho, putS_at l[i] out a h1 h2 h3, if_neg (by rintro ⟨h, e⟩; exact hne _ (List.getElem_mem h) e)]
  induction d with
  | zero =>
    intro a h1 h2 h3
    rw [ref07_Make.l1.eq]
    simp only [ltI_d, ofN_d, lenL_d, br_if]
    rw [if_neg (by omega)]
    exact fin a h1 h3 (fun h => by omega)
  | succ d ih =>
    intro a h1 h2 h3
    have ha : a < out.length := by omega
    rw [ref07_Make.l1.eq]
    simp only [ltI_d, leI_d, ofN_d, lenL_d, andB_d, br_if]
    rw [if_pos (by omega), if_pos (by omega), if_pos (by omega), ixP out a ha, ixP l i hi, less_any _ _ (by have := (hs _ (List.getElem_mem ha)).1; omega), bnd_some]
    cases hc : lt out[a].1 l[i].1 with
    | true =>
      rw [ref07_Make.j2.eq, br_t, add1 a (by omega)]
      refine ih (a + 1) (by omega) (by omega) (fun b h hb => ?_)
      by_cases e : b = a
      · subst e; exact hc
      · exact h3 b h (by omega)
    | false => exact fin a h1 h3 (fun _ => hc)
theorem refmake_loop (l : List PairV) (hl : l.length ≤ 40000000) (hs : ∀ p ∈ l, okP p) (d : Nat) : ∀ (i : Nat) (acc : List PairV), i ≤ l.length → l.length - i = d → acc.length ≤ i → (∀ q ∈ acc, okP q) → Srt acc → (∀ q ∈ acc, ∀ x ∈ l.drop i, q.1 ≠ x.1) →
    ref07_Make.l0 l i acc = some ((l.drop i).foldl putS acc) := by
  induction d with
  | zero =>
    intro i acc h1 h2 h3 h4 h5 h6
    rw [ref07_Make.l0.eq]
    simp only [ltI_d, ofN_d, lenL_d, br_if]
    rw [if_neg (by omega), List.drop_eq_nil_of_le (by omega)]
    rfl
  | succ d ih =>
    intro i acc h1 h2 h3 h4 h5 h6
    have hi : i < l.length := by omega
    have hd := List.drop_eq_getElem_cons hi
    rw [hd] at h6
    rw [ref07_Make.l0.eq]
    simp only [ltI_d, ofN_d, lenL_d, br_if]
    rw [if_pos (by omega), last_any l (by omega) i hi, bnd_some, hd, List.foldl_cons]
    by_cases e' : ((l.drop (i + 1)).all fun q => !decide (q.1 = l[i].1)) = true
    · have e : ∀ q ∈ l.drop (i + 1), q.1 ≠ l[i].1 := fun q hq => by simpa using List.all_eq_true.1 e' q hq
      rw [e', show notB true = false from rfl, br_f]
      have := find_loop l acc i hi (by omega) (by omega) h4 h5 (fun q hq => h6 q hq _ List.mem_cons_self) acc.length 0 (by omega) (by omega) (fun b h hb => by omega)
      rw [show ((0 : Nat) : Int) = 0 from rfl] at this
      rw [this]
      have hlen := putS_len l[i] acc
      refine ih (i + 1) _ (by omega) (by omega) (by omega) (putS_ok h4 (hs _ (List.getElem_mem hi))) (putS_srt _ h5) (fun q hq x hx => ?_)
      rcases putS_mem hq with rfl | hq
      · exact fun h => e x hx h.symm
      · exact h6 q hq x (List.mem_cons_of_mem _ hx)
    · have e : ¬ ∀ q ∈ l.drop (i + 1), q.1 ≠ l[i].1 := fun h => e' (List.all_eq_true.2 fun q hq => by simpa using h q hq)
      have e2 : ((l.drop (i + 1)).all fun q => !decide (q.1 = l[i].1)) = false := by simpa using e'
      rw [e2, show notB false = true from rfl, br_t, add1 i (by omega), ih (i + 1) acc (by omega) (by omega) (by omega) h4 h5 (fun q hq x hx => h6 q hq x (List.mem_cons_of_mem _ hx))]
      have hex : ∃ q ∈ l.drop (i + 1), q.1 = l[i].1 := by
        refine Classical.byContradiction fun h => e fun q hq he => h ⟨q, hq, he⟩
      rw [fold_skip _ _ hex]
theorem refmake_any (l : List PairV) (hl : l.length ≤ 40000000) (hs : ∀ p ∈ l, okP p) : ref07_Make l = some (makeS l) := by
  rw [ref07_Make.eq]
  have := refmake_loop l hl hs l.length 0 [] (by omega) (by omega) (by simp) (by simp) List.Pairwise.nil (by simp)
  rw [List.drop_zero, show ((0 : Nat) : Int) = 0 from rfl] at this
  exact this
end Go.Proofs.YtjekopgcpikkiaaGreatDoor.AM
set_option linter.unusedVariables false
set_option linter.unusedSimpArgs false
namespace Go.Proofs.YtjekopgcpikkiaaGreatDoor.AM
open Go.Abs
theorem srt_isS : ∀ {l : List PairV}, Srt l → isS l = true
  | [], _ => rfl
  | [_], _ => rfl
  | a :: b :: r, h => by
    have h1 := (List.pairwise_cons.1 h).1 b List.mem_cons_self
    have h2 := srt_isS (List.pairwise_cons.1 h).2
    show (lt a.1 b.1 && isS (b :: r)) = true
    rw [h1, h2]; rfl
theorem foldl_putS_srt : ∀ (l acc : List PairV), Srt acc → Srt (l.foldl putS acc)
  | [], _, h => h
  | p :: l, acc, h => foldl_putS_srt l (putS acc p) (putS_srt p h)
theorem makeS_Srt (l : List PairV) : Srt (makeS l) := foldl_putS_srt l [] List.Pairwise.nil
theorem foldl_putS_mem : ∀ (l acc : List PairV), ∀ x ∈ l.foldl putS acc, x ∈ acc ∨ x ∈ l
  | [], _, x, h => .inl h
  | p :: l, acc, x, h => by
    rcases foldl_putS_mem l (putS acc p) x h with h | h
    · rcases putS_mem h with rfl | h
      · exact .inr List.mem_cons_self
      · exact .inl h
    · exact .inr (List.mem_cons_of_mem _ h)
theorem makeS_mem {l : List PairV} {x : PairV} (h : x ∈ makeS l) : x ∈ l := (foldl_putS_mem l [] x h).resolve_left (by simp)
def pairAt (l : List PairV) (i : Nat) : PairV := l.getD i (ByteArray.empty, (ByteArray.empty, ()))
def okT (p : PairV) : Prop := p.1.size ≤ 16 ∧ p.2.1.size ≤ 16
theorem okT.ok {p : PairV} (h : okT p) : okP p := ⟨by have := h.1; omega, by have := h.2; omega⟩
end Go.Proofs.YtjekopgcpikkiaaGreatDoor.AM
set_option linter.unusedVariables false
set_option linter.unusedSimpArgs false
namespace Go.Proofs.YtjekopgcpikkiaaGreatDoor.AM
open Go.Abs
def fillQ (n : Nat) (r : Int) : Int := if 0 ≤ r then r else (n : Int) - r
def fillNd (n : Nat) (x : NodeV) : NodeV := (x.1, (x.2.1, (x.2.2.1, (x.2.2.2.1, (x.2.2.2.2.1.map (fillQ n), (fillQ n x.2.2.2.2.2.1, x.2.2.2.2.2.2))))))
def PS (h news : List NodeV) : List NodeV := h ++ news.map (fillNd h.length)
theorem fillQ_zero (n : Nat) (r : Int) : fillQ n r = 0 ↔ r = 0 := by unfold fillQ; split <;> omega
theorem fillQ_pos (n : Nat) {r : Int} (h : 0 ≤ r) : fillQ n r = r := if_pos h
theorem fillQ_neg (n : Nat) {r : Int} (h : r < 0) : fillQ n r = (n : Int) - r := if_neg (by omega)
theorem fillQ_0 (n : Nat) : fillQ n 0 = 0 := if_pos (Int.le_refl _)
theorem zero_mem_fill (n : Nat) (l : List Int) : (0 : Int) ∈ l.map (fillQ n) ↔ (0 : Int) ∈ l := by
  rw [List.mem_map]
  constructor
  · rintro ⟨a, ha, e⟩
    rw [fillQ_zero] at e
    exact e ▸ ha
  · intro h; exact ⟨0, h, fillQ_0 n⟩
theorem formP_fill (n : Nat) (x : NodeV) : formP (fillNd n x) ↔ formP x := by
  unfold formP bareP fillNd
  simp only [List.length_map, List.map_eq_nil_iff, fillQ_zero, zero_mem_fill, ne_eq]
theorem mayS_fill (n : Nat) (x : NodeV) : mayS (fillNd n x) = mayS x := by
  unfold mayS
  rw [show longN (fillNd n x) = longN x from rfl, show (fillNd n x).1 = x.1 from rfl]
  by_cases h : formP x
  · rw [if_pos h, if_pos ((formP_fill n x).2 h)]
  · rw [if_neg h, if_neg (fun q => h ((formP_fill n x).1 q))]
theorem allK_fill (n : Nat) (x : NodeV) : allK (fillNd n x) = (allK x).map (fillQ n) := by
  unfold allK fillNd
  rw [List.map_append]
  rfl
theorem stripV_fill (n : Nat) (x : NodeV) : stripV (fillNd n x) = stripV x := rfl
theorem okN_fill (n : Nat) {x : NodeV} (h : okN x) : okN (fillNd n x) := ⟨h.key, h.val, h.map0, h.map1, by show (x.2.2.2.2.1.map (fillQ n)).length ≤ _; rw [List.length_map]; exact h.kids, h.list, h.binds⟩
theorem PS_len (h news : List NodeV) : (PS h news).length = h.length + news.length := by unfold PS; rw [List.length_append, List.length_map]
theorem PS_nil (h : List NodeV) : PS h [] = h := by unfold PS; simp
theorem PS_add (h news : List NodeV) (n : NodeV) : PS h (news ++ [n]) = PS h news ++ [fillNd h.length n] := by unfold PS; rw [List.map_append, List.append_assoc]; rfl
structure PlanOK (h news : List NodeV) : Prop where
  may : mayH (PS h news) = true
  node : ∀ n ∈ news, okN n ∧ n.2.2.2.2.1.length ≤ 40
  ref : ∀ (i : Nat) (hi : i < news.length), mayS news[i] = 0 ∧ ∀ r ∈ allK news[i], -(i : Int) ≤ r ∧ r ≤ h.length
theorem PlanOK.nil {h : List NodeV} (hm : mayH h = true) : PlanOK h [] := ⟨by rw [PS_nil]; exact hm, fun n hn => (by cases hn), fun i hi => (by cases hi)⟩
theorem fill_in {h news : List NodeV} {r : Int} (lo : -(news.length : Int) ≤ r) (hi : r ≤ h.length) : 0 ≤ fillQ h.length r ∧ fillQ h.length r ≤ (PS h news).length := by
  rw [PS_len]
  unfold fillQ
  split <;> omega
theorem PlanOK.add {h news : List NodeV} (P : PlanOK h news) {n : NodeV} (ho : okN n) (hk : n.2.2.2.2.1.length ≤ 40) (hm : mayS n = 0) (hr : ∀ r ∈ allK n, -(news.length : Int) ≤ r ∧ r ≤ h.length) : PlanOK h (news ++ [n]) := by
  refine ⟨?_, ?_, ?_⟩
  · rw [PS_add]
    refine may_more P.may (by rw [mayS_fill]; exact hm) fun r hr' => ?_
    rw [refsS_all, allK_fill] at hr'
    obtain ⟨h1, h2⟩ := List.mem_filter.1 hr'
    obtain ⟨a, ha, rfl⟩ := List.mem_map.1 h1
    have := hr a ha
    have := fill_in (h := h) (news := news) this.1 this.2
    simp only [decide_eq_true_eq] at h2
    exact ⟨by omega, this.2⟩
  · intro m hm'
    rcases List.mem_append.1 hm' with hm' | hm'
    · exact P.node m hm'
    · rw [List.mem_singleton.1 hm']; exact ⟨ho, hk⟩
  · intro i hi
    rw [List.length_append] at hi
    simp only [List.length_cons, List.length_nil] at hi
    by_cases q : i < news.length
    · rw [List.getElem_append_left q]; exact P.ref i q
    · have : i = news.length := by omega
      subst this
      rw [List.getElem_append_right (Nat.le_refl _)]
      simp only [Nat.sub_self, List.getElem_cons_zero]
      exact ⟨hm, hr⟩
structure Has (h news : List NodeV) (r : Int) (s : Shp) : Prop where
  lo : -(news.length : Int) ≤ r
  hi : r ≤ h.length
  shp : U (PS h news) (fillQ h.length r) = s
theorem Has.more {h news : List NodeV} {r : Int} {s : Shp} (P : PlanOK h news) (H : Has h news r s) (n : NodeV) : Has h (news ++ [n]) r s := by
  have := fill_in H.lo H.hi
  refine ⟨by have := H.lo; rw [List.length_append]; simp only [List.length_cons, List.length_nil]; omega, H.hi, ?_⟩
  rw [PS_add, U_app P.may this.1 this.2]
  exact H.shp
theorem Has.heap {h news : List NodeV} {r : Int} (hm : mayH h = true) (h0 : 0 ≤ r) (h1 : r ≤ h.length) : Has h news r (U h r) := by
  refine ⟨by omega, h1, ?_⟩
  rw [fillQ_pos _ h0]
  exact U_app hm h0 h1
theorem Has.zero {h news : List NodeV} : Has h news 0 .nil := ⟨by omega, by omega, by rw [fillQ_0, U_zero]⟩
theorem Has.new {h news : List NodeV} {n : NodeV} (P : PlanOK h news) (P' : PlanOK h (news ++ [n])) : Has h (news ++ [n]) (-(news.length : Int) - 1) (.node (stripV n) ((allK n).map fun r => U (PS h news) (fillQ h.length r))) := by
  refine ⟨by rw [List.length_append]; simp only [List.length_cons, List.length_nil]; omega, by omega, ?_⟩
  have hp := PS_len h news
  have e : fillQ h.length (-(news.length : Int) - 1) = ((PS h news).length : Int) + 1 := by rw [fillQ_neg _ (by omega), hp]; omega
  have hm := P'.may
  rw [PS_add] at hm
  rw [e, PS_add, U_node hm (by omega) (by rw [List.length_append]; simp only [List.length_cons, List.length_nil]; omega), getN_last, stripV_fill, allK_fill, List.map_map]
  congr 1
  refine List.map_congr_left fun r hr => ?_
  have hi : news.length < (news ++ [n]).length := by rw [List.length_append]; simp
  have := (P'.ref news.length hi).2 r (by rw [List.getElem_append_right (Nat.le_refl _)]; simpa using hr)
  have := fill_in (h := h) (news := news) this.1 this.2
  exact U_app P.may this.1 this.2
theorem PlanOK.okH {h news : List NodeV} (P : PlanOK h news) (ho : okH h) (hl : h.length + news.length ≤ 40000000) : okH (PS h news) := by
  refine ⟨by rw [PS_len]; exact hl, fun n hn => ?_, kids_rng P.may (by rw [PS_len]; omega)⟩
  rcases List.mem_append.1 hn with hn | hn
  · exact ho.node n hn
  · obtain ⟨m, hm, rfl⟩ := List.mem_map.1 hn
    exact okN_fill _ (P.node m hm).1
def toL (n k : Nat) : List Int := (List.range k).map fun i => ((n + 1 + i : Nat) : Int)
theorem toL_len (n k : Nat) : (toL n k).length = k := by unfold toL; simp
theorem toL_succ (n k : Nat) : toL n (k + 1) = toL n k ++ [((n + k + 1 : Nat) : Int)] := by
  unfold toL
  rw [List.range_succ, List.map_append, List.map_cons, List.map_nil, show n + 1 + k = n + k + 1 by omega]
theorem refR_fill (n k : Nat) {r : Int} (h : -(k : Int) ≤ r) : refR (toL n k) r = some (fillQ n r) := by
  unfold refR fillQ
  by_cases h0 : 0 ≤ r
  · rw [if_pos h0, if_pos h0]
  · rw [if_neg h0, if_neg h0, toL_len, if_pos (by omega)]
    have hlt : (-1 - r).toNat < k := by omega
    have e : (toL n k).getD (-1 - r).toNat 0 = ((n + 1 + (-1 - r).toNat : Nat) : Int) := by
      unfold toL
      rw [List.getD_eq_getElem?_getD, List.getElem?_map, List.getElem?_range hlt]
      rfl
    rw [e]
    exact congrArg some (by omega)
theorem fillS_fill (n k : Nat) {x : NodeV} (hr : ∀ r ∈ allK x, -(k : Int) ≤ r) : fillS (toL n k) x = fillNd n x := by
  have hmain := hr x.2.2.2.2.2.1 (List.mem_append_right _ List.mem_cons_self)
  have hkid : ∀ r ∈ x.2.2.2.2.1, -(k : Int) ≤ r := fun r hk => hr r (List.mem_append_left _ hk)
  have hB : fillB (toL n k) x = true := by
    unfold fillB
    rw [refR_fill n k hmain, Bool.and_eq_true, List.all_eq_true]
    exact ⟨rfl, fun r hk => by rw [refR_fill n k (hkid r hk)]; rfl⟩
  unfold fillS
  rw [if_pos hB]
  unfold fillNd
  have e1 : x.2.2.2.2.1.map (refD (toL n k)) = x.2.2.2.2.1.map (fillQ n) := List.map_congr_left fun r hk => by unfold refD; rw [refR_fill n k (hkid r hk)]; rfl
  have e2 : refD (toL n k) x.2.2.2.2.2.1 = fillQ n x.2.2.2.2.2.1 := by unfold refD; rw [refR_fill n k hmain]; rfl
  rw [e1, e2]
theorem doL_eq (h : List NodeV) : ∀ (l pre : List NodeV), (∀ (i : Nat) (hi : i < l.length), ∀ r ∈ allK l[i], -((pre.length + i : Nat) : Int) ≤ r) → doL (PS h pre) (toL h.length pre.length) l = (PS h (pre ++ l), toL h.length (pre.length + l.length))
  | [], pre, _ => by rw [List.append_nil]; rfl
  | n :: l, pre, hr => by
    unfold doL
    have h0 := hr 0 (by simp)
    have e1 : fillS (toL h.length pre.length) n = fillNd h.length n := fillS_fill _ _ (by simpa using h0)
    have e2 : PS h pre ++ [fillNd h.length n] = PS h (pre ++ [n]) := (PS_add h pre n).symm
    have e3 : toL h.length pre.length ++ [(((PS h pre).length + 1 : Nat) : Int)] = toL h.length (pre ++ [n]).length := by
      rw [PS_len, List.length_append]
      exact (toL_succ _ _).symm
    rw [e1, e2, e3, doL_eq h l (pre ++ [n]) fun i hi r hr' => ?_]
    · rw [List.append_assoc, List.length_append, List.length_cons, List.length_cons, List.length_nil, show pre.length + (0 + 1) + l.length = pre.length + (l.length + 1) by omega]
      rfl
    · have := hr (i + 1) (by simpa using hi) r (by simpa using hr')
      rw [List.length_append]
      simp only [List.length_cons, List.length_nil]
      omega
theorem mayPL_of : ∀ (l : List NodeV) (i : Nat), (∀ (j : Nat) (hj : j < l.length), mayS l[j] = 0 ∧ ∀ r ∈ refsS l[j], -((i + j : Nat) : Int) ≤ r) → mayPL i l = true
  | [], _, _ => rfl
  | n :: l, i, h => by
    unfold mayPL
    simp only [Bool.and_eq_true, decide_eq_true_eq, List.all_eq_true]
    refine ⟨h 0 (by simp), mayPL_of l (i + 1) fun j hj => ?_⟩
    have := h (j + 1) (by simpa using hj)
    rw [show i + (j + 1) = i + 1 + j by omega] at this
    exact this
theorem refsS_sub {n : NodeV} {r : Int} (h : r ∈ refsS n) : r ∈ allK n := by
  rw [refsS_all] at h
  exact (List.mem_filter.1 h).1
theorem do_pre {h news : List NodeV} (ho : okH h) (hm : mayH h = true) (P : PlanOK h news) (hn : news.length ≤ 1000) {root : Int} (lo : -(news.length : Int) ≤ root) (hi : root ≤ h.length) {old : List Int} (hol : old.length ≤ 1000) (hold : ∀ r ∈ old, 1 ≤ r ∧ r ≤ h.length) :
    okPl (news, (root, (old, ()))) ∧ (mayP (news, (root, (old, ()))) && (mayH h && fitsP h (news, (root, (old, ()))))) = true ∧ doS h (news, (root, (old, ()))) = (PS h news, toL h.length news.length) ∧ refD (toL h.length news.length) root = fillQ h.length root := by
  have hlen := ho.len
  have ok : okPl (news, (root, (old, ()))) := by
    refine ⟨hn, fun n hn' => (P.node n hn').1, fun n hn' => ?_, fun n hn' => (P.node n hn').2, by show rng root; unfold rng; omega, hol, fun r hr => by have := hold r hr; unfold rng; omega⟩
    obtain ⟨i, hi', rfl⟩ := List.getElem_of_mem hn'
    have hr := (P.ref i hi').2
    have hi' : i < news.length := hi'
    refine ⟨fun k hk => ?_, ?_⟩
    · have := hr k (List.mem_append_left _ hk)
      unfold rng; omega
    · show rng news[i].2.2.2.2.2.1
      have := hr news[i].2.2.2.2.2.1 (List.mem_append_right _ List.mem_cons_self)
      unfold rng; omega
  have c1 : mayP (news, (root, (old, ()))) = true := by
    unfold mayP
    simp only [Bool.and_eq_true, decide_eq_true_eq, List.all_eq_true]
    refine ⟨mayPL_of news 0 fun j hj => ⟨(P.ref j hj).1, fun r hr => ?_⟩, fun r hr => (hold r hr).1, lo⟩
    have := ((P.ref j hj).2 r (refsS_sub hr)).1
    omega
  have c3 : fitsP h (news, (root, (old, ()))) = true := by
    unfold fitsP fitsL
    rw [List.all_eq_true]
    intro r hr
    rw [decide_eq_true_eq]
    rcases List.mem_append.1 hr with hr | hr
    · rcases List.mem_append.1 hr with hr | hr
      · exact (hold r hr).2
      · rw [List.mem_singleton.1 hr]; exact hi
    · unfold refsL at hr
      obtain ⟨n, hn', hr⟩ := List.mem_flatMap.1 hr
      obtain ⟨i, hi', rfl⟩ := List.getElem_of_mem hn'
      exact ((P.ref i hi').2 r (refsS_sub hr)).2
  have hd := doL_eq h news [] fun i hi' r hr => by have := ((P.ref i hi').2 r hr).1; simp only [List.length_nil]; omega
  rw [PS_nil] at hd
  have hd : doS h (news, (root, (old, ()))) = (PS h news, toL h.length news.length) := by
    unfold doS
    rw [List.nil_append, List.length_nil, Nat.zero_add] at hd
    exact hd
  have hroot : refD (toL h.length news.length) root = fillQ h.length root := by unfold refD; rw [refR_fill _ _ lo]; rfl
  exact ⟨ok, by rw [c1, hm, c3]; rfl, hd, hroot⟩
theorem do_plan {h news : List NodeV} (ho : okH h) (hm : mayH h = true) (P : PlanOK h news) (hn : news.length ≤ 1000) {root : Int} (lo : -(news.length : Int) ≤ root) (hi : root ≤ h.length) {old : List Int} (hol : old.length ≤ 1000) (hold : ∀ r ∈ old, 1 ≤ r ∧ r ≤ h.length) :
    plan_Do h (news, (root, (old, ()))) = some (PS h news, (fillQ h.length root, (0, ()))) := by
  obtain ⟨ok, c, hd, hroot⟩ := do_pre ho hm P hn lo hi hol hold
  rw [do_any h ho _ ok, if_pos c, hd, hroot]
end Go.Proofs.YtjekopgcpikkiaaGreatDoor.AM
set_option linter.unusedVariables false
set_option linter.unusedSimpArgs false
namespace Go.Proofs.YtjekopgcpikkiaaGreatDoor.AM
open Go.Abs
theorem find_put (p : PairV) (k : ByteArray) : ∀ l : List PairV, (putS l p).find? (fun q => decide (q.1 = k)) = if p.1 = k then some p else l.find? (fun q => decide (q.1 = k))
  | [] => by
    show List.find? _ [p] = _
    rw [List.find?_cons]
    by_cases h : p.1 = k
    · rw [if_pos h, decide_eq_true h]
    · rw [if_neg h, decide_eq_false h]
  | q :: qs => by
    rcases tri q.1 p.1 with ⟨h, _, hne⟩ | ⟨h, _⟩ | ⟨h, _, hne⟩
    · rw [putS_lt h, List.find?_cons, find_put p k qs, List.find?_cons]
      by_cases hq : q.1 = k
      · have hp : ¬ p.1 = k := fun e => hne (hq.trans e.symm)
        rw [decide_eq_true hq]
        show (some q : Option PairV) = if p.1 = k then some p else some q
        rw [if_neg hp]
      · rw [decide_eq_false hq]
    · rw [putS_eq h, List.find?_cons, List.find?_cons]
      by_cases hp : p.1 = k
      · rw [if_pos hp, decide_eq_true hp]
      · rw [if_neg hp, decide_eq_false hp, decide_eq_false (fun e => hp (h.symm.trans e))]
    · rw [putS_gt h, List.find?_cons]
      by_cases hp : p.1 = k
      · rw [if_pos hp, decide_eq_true hp]
      · rw [if_neg hp, decide_eq_false hp]
theorem find_fold (k : ByteArray) : ∀ (l acc : List PairV), (l.foldl putS acc).find? (fun q => decide (q.1 = k)) = (l.reverse.find? (fun q => decide (q.1 = k))).or (acc.find? (fun q => decide (q.1 = k)))
  | [], _ => rfl
  | p :: l, acc => by
    rw [List.foldl_cons, find_fold k l, find_put, List.reverse_cons, List.find?_append, Option.or_assoc]
    congr 1
    rw [List.find?_cons]
    by_cases h : p.1 = k
    · rw [if_pos h, decide_eq_true h]; rfl
    · rw [if_neg h, decide_eq_false h]; rfl
theorem find_make (k : ByteArray) (l : List PairV) : (makeS l).find? (fun q => decide (q.1 = k)) = l.reverse.find? (fun q => decide (q.1 = k)) := by
  have := find_fold k l []
  rw [List.find?_nil, Option.or_none] at this
  exact this
def valF (o : Option PairV) : ByteArray × Bool × Unit := match o with
  | some p => (p.2.1, (true, ()))
  | none => (ByteArray.empty, (false, ()))
theorem subI_nat (n : Nat) (h : n ≤ 1000000000) : subI .i64 (n : Int) 1 = (n : Int) - 1 := subI_d (by omega) (by omega)
theorem rget_loop (l : List PairV) (k : ByteArray) (hl : l.length ≤ 50000000) : ∀ (n : Nat), n ≤ l.length → ref07_Get.l0 l k ((n : Int) - 1) = some (valF ((l.take n).reverse.find? (fun q => decide (q.1 = k)))) := by
  intro n
  induction n with
  | zero =>
    intro h
    rw [ref07_Get.l0.eq, leI_d, br_if, if_neg (by omega), List.take_zero]
    rfl
  | succ n ih =>
    intro h
    have hi : n < l.length := by omega
    rw [show (((n + 1 : Nat) : Int) - 1) = (n : Int) by omega, ref07_Get.l0.eq]
    simp only [leI_d, ltI_d, ofN_d, lenL_d, andB_d, eqS_d, br_if]
    have hin : 0 ≤ (n : Int) ∧ (n : Int) < (l.length : Int) := ⟨by omega, by omega⟩
    rw [if_pos hin.1, if_pos hin, ixP l n hi, if_pos hin, subI_nat n (by omega), ih (by omega), List.take_succ_eq_append_getElem hi, List.reverse_append, List.reverse_singleton]
    show _ = some (valF (List.find? _ (l[n] :: (l.take n).reverse)))
    rw [List.find?_cons]
    by_cases e : l[n].1 = k
    · rw [if_pos e, decide_eq_true e]; rfl
    · rw [if_neg e, decide_eq_false e]
theorem rget_any (l : List PairV) (k : ByteArray) (hl : l.length ≤ 50000000) : ref07_Get l k = some (valF ((makeS l).find? (fun q => decide (q.1 = k)))) := by
  rw [ref07_Get.eq, find_make]
  simp only [ofN_d, lenL_d]
  rw [subI_nat _ (by omega), rget_loop l k hl l.length (Nat.le_refl _), List.take_length]
end Go.Proofs.YtjekopgcpikkiaaGreatDoor.AM
set_option linter.unusedVariables false
set_option linter.unusedSimpArgs false
namespace Go.Proofs.YtjekopgcpikkiaaGreatDoor.AM
open Go.Abs
theorem shl_one (i : Nat) (h : i < 32) : shlI .u32 1 (i : Int) = ((2 ^ i : Nat) : Int) := by
  unfold shlI
  have h1 := pow_lt32 h
  rw [Int.toNat_natCast, show IntKind.u32.bits = 32 from rfl, Nat.min_eq_left (by omega), Int.one_mul]
  have : ((2 : Int) ^ i) = ((2 ^ i : Nat) : Int) := by simp
  rw [this]
  generalize 2 ^ i = q at h1 ⊢
  exact wraps_u32 _ (by omega) (by omega)
theorem below_any (i : Int) : mask_below i = some (low i : Int) := by
  rw [mask_below.eq]
  simp only [leI_d, br_if]
  unfold low cl
  by_cases h1 : i ≤ 0
  · rw [if_pos h1, show (min (max i 0) 32).toNat = 0 by omega]
    rfl
  rw [if_neg h1]
  by_cases h2 : 32 ≤ i
  · rw [if_pos h2, show (min (max i 0) 32).toNat = 32 by omega]
    rfl
  rw [if_neg h2, if_pos (by omega), show (min (max i 0) 32).toNat = i.toNat by omega]
  have hi : i = ((i.toNat : Nat) : Int) := by omega
  have hlt : i.toNat < 32 := by omega
  generalize i.toNat = k at hi hlt
  subst hi
  rw [shl_one k hlt]
  have h3 := pow_lt32 hlt
  have h4 : 0 < 2 ^ k := Nat.two_pow_pos _
  refine some_int ?_
  generalize 2 ^ k = q at h3 h4 ⊢
  unfold subI
  rw [wraps_u32 _ (by omega) (by omega)]
  omega
theorem place_m (m : Nat) (hm : m < 4294967296) (i : Int) : mask_Place m i = some (cnt (cl i) m : Int) := by
  rw [mask_Place.eq, below_any, bnd_some, and_u32 _ _ hm (low_lt i), ones_any _ (Nat.lt_of_le_of_lt Nat.and_le_left hm), bnd_some, cnt_low m i 32 (by omega), Nat.min_eq_right (cl_le i)]
theorem in_any (i : Int) : mask_in i = some (decide (0 ≤ i ∧ i < 32)) := by
  rw [mask_in.eq]
  simp only [leI_d, ltI_d, br_if]
  by_cases h : 0 ≤ i
  · rw [if_pos h]; exact some_bool (decide_eq_decide.2 (by omega))
  · rw [if_neg h]; exact some_bool (decide_eq_false (by omega)).symm
theorem has_m (m : Nat) (hm : m < 4294967296) (i : Int) : mask_Has m i = some (hasM m i) := by
  rw [mask_Has.eq, in_any, bnd_some]
  simp only [leI_d, eqI_d, br_if]
  unfold hasM
  by_cases h : 0 ≤ i ∧ i < 32
  · rw [if_pos h, if_pos h.1, decide_eq_true h, Bool.true_and]
    have hi : i = ((i.toNat : Nat) : Int) := by omega
    have hlt : i.toNat < 32 := by omega
    generalize i.toNat = k at hi hlt
    subst hi
    rw [shr_div m k .u32 (show k ≤ 32 by omega)]
    have hd : m / 2 ^ k ≤ m := Nat.div_le_self _ _
    rw [show (1 : Int) = ((1 : Nat) : Int) from rfl, and_u32 _ _ (by omega) (by omega), Nat.and_one_is_mod]
    rw [show m.testBit k = decide (m / 2 ^ k % 2 = 1) from Nat.testBit_eq_decide_div_mod_eq]
    exact some_bool (decide_eq_decide.2 (by omega))
  · rw [if_neg h, decide_eq_false h]; rfl
theorem with_m (m : Nat) (hm : m < 4294967296) (i : Int) : mask_With m i = some (withM m i : Int) := by
  rw [mask_With.eq, in_any, bnd_some]
  simp only [leI_d, notB_d, br_if]
  unfold withM
  by_cases h : 0 ≤ i ∧ i < 32
  · rw [if_neg (by omega), if_pos h.1, if_pos h]
    have hi : i = ((i.toNat : Nat) : Int) := by omega
    have hlt : i.toNat < 32 := by omega
    generalize i.toNat = k at hi hlt
    subst hi
    rw [shl_one k hlt, or_u32 _ _ hm (pow_lt32 hlt)]
  · rw [if_pos h, if_neg h]
theorem without_m (m : Nat) (hm : m < 4294967296) (i : Int) : mask_Without m i = some (withoutM m i : Int) := by
  rw [mask_Without.eq, in_any, bnd_some]
  simp only [leI_d, notB_d, br_if]
  unfold withoutM
  by_cases h : 0 ≤ i ∧ i < 32
  · rw [if_neg (by omega), if_pos h.1, if_pos h]
    have hi : i = ((i.toNat : Nat) : Int) := by omega
    have hlt : i.toNat < 32 := by omega
    generalize i.toNat = k at hi hlt
    subst hi
    rw [shl_one k hlt, andNot_u32 _ _ hm (pow_lt32 hlt)]
  · rw [if_pos h, if_neg h]
end Go.Proofs.YtjekopgcpikkiaaGreatDoor.AM
set_option linter.unusedVariables false
set_option linter.unusedSimpArgs false
namespace Go.Proofs.YtjekopgcpikkiaaGreatDoor.AM
open Go.Abs
def bN (m : Nat) (ks : List Int) (sz bi : Int) : NodeV := (2, (ByteArray.empty, (ByteArray.empty, ((m : Int), (ks, (0, ([], (sz, (bi, ())))))))))
structure okB (m : Nat) (ks : List Int) (sz bi : Int) : Prop where
  lt : m < 4294967296
  len : ks.length = cnt 32 m
  nz : ∀ k ∈ ks, k ≠ 0
  sz0 : 0 ≤ sz
  bi0 : 0 ≤ bi
def chAt (m : Nat) (ks : List Int) (j : Nat) : Int := if m.testBit j = true then ks.getD (cnt j m) 0 else 0
theorem cnt_mono (m : Nat) {i j : Nat} (h : i ≤ j) : cnt i m ≤ cnt j m := by
  induction h with
  | refl => exact Nat.le_refl _
  | step _ ih => rw [cnt_succ]; omega
theorem cnt_less {m i j : Nat} (h : i < j) (hb : m.testBit i = true) : cnt i m < cnt j m := by
  have := cnt_mono m (show i + 1 ≤ j by omega)
  rw [cnt_succ, if_pos hb] at this
  omega
theorem cnt_inj {m i j : Nat} (hi : m.testBit i = true) (hj : m.testBit j = true) (h : cnt i m = cnt j m) : i = j := by
  rcases Nat.lt_trichotomy i j with q | q | q
  · have := cnt_less q hi; omega
  · exact q
  · have := cnt_less q hj; omega
theorem kids_of (m : Nat) (ks : List Int) : ∀ n, cnt n m ≤ ks.length → ((List.range n).filter fun j => m.testBit j).map (fun j => ks.getD (cnt j m) 0) = ks.take (cnt n m)
  | 0, _ => by simp [cnt]
  | n + 1, h => by
    have hc := cnt_succ n m
    have hm := cnt_mono m (show n ≤ n + 1 by omega)
    rw [List.range_succ, List.filter_append, List.map_append, kids_of m ks n (by omega)]
    by_cases b : m.testBit n = true
    · rw [if_pos b] at hc
      rw [hc, List.filter_cons_of_pos (by exact b), List.filter_nil, List.map_cons, List.map_nil, List.take_succ_eq_append_getElem (by omega)]
      rw [List.getD_eq_getElem?_getD, List.getElem?_eq_getElem (show cnt n m < ks.length by omega)]
      rfl
    · rw [if_neg b] at hc
      rw [hc, List.filter_cons_of_neg (by exact b), List.filter_nil, List.map_nil, List.append_nil, Nat.add_zero]
theorem okB.at_nz {m : Nat} {ks : List Int} {sz bi : Int} (h : okB m ks sz bi) {j : Nat} (hj : j < 32) (hb : m.testBit j = true) : ks.getD (cnt j m) 0 ≠ 0 := by
  have := cnt_less hj hb
  have hl := h.len
  rw [List.getD_eq_getElem?_getD, List.getElem?_eq_getElem (show cnt j m < ks.length by omega)]
  exact h.nz _ (List.getElem_mem _)
theorem okB.ch_nz {m : Nat} {ks : List Int} {sz bi : Int} (h : okB m ks sz bi) {j : Nat} (hj : j < 32) : chAt m ks j ≠ 0 ↔ m.testBit j = true := by
  unfold chAt
  by_cases hb : m.testBit j = true
  · rw [if_pos hb]; exact ⟨fun _ => hb, fun _ => h.at_nz hj hb⟩
  · rw [if_neg hb]; exact ⟨fun q => absurd rfl q, fun q => absurd q hb⟩
theorem okB.node {m : Nat} {ks : List Int} {sz bi : Int} (h : okB m ks sz bi) : okN (bN m ks sz bi) := by
  have hl := h.len
  have hc := cnt_le 32 m
  have hm := h.lt
  exact ⟨by show (0 : Nat) ≤ 40; omega, by show (0 : Nat) ≤ 40; omega, by show (0 : Int) ≤ (m : Int); omega, by show (m : Int) < 4294967296; omega, by show ks.length ≤ 1000000; omega, by show (0 : Nat) ≤ 1000000; omega, fun p hp => by cases hp⟩
theorem okB.may {m : Nat} {ks : List Int} {sz bi : Int} (h : okB m ks sz bi) : mayS (bN m ks sz bi) = 0 := by
  unfold mayS
  have hl : longN (bN m ks sz bi) = false := rfl
  rw [if_neg (by show ¬ (2 : Int) < 1; omega), if_neg (by show ¬ (6 : Int) < 2; omega), hl, if_neg (by simp), if_pos]
  refine ⟨h.bi0, ?_⟩
  rw [if_neg (by show ¬ ((2 : Int) = 1 ∨ (2 : Int) = 6); omega), if_pos (by show (2 : Int) = 2; rfl)]
  refine ⟨fun q => h.nz 0 q rfl, ?_, h.sz0, fun _ => ⟨rfl, rfl⟩, fun q => (by cases q), fun _ => rfl, fun _ => rfl⟩
  show ks.length = (allI (m : Int).toNat).length
  rw [Int.toNat_natCast, allI_len]
  exact h.len
theorem okB.empty : okB 0 [] 0 0 := ⟨by omega, by decide, fun k hk => (by cases hk), Int.le_refl _, Int.le_refl _⟩
theorem branch_form {n : NodeV} (h : okN n) (h1 : n.1 = 2) (h2 : mayS n = 0) : ∃ m ks sz bi, okB m ks sz bi ∧ n = bN m ks sz bi := by
  have hm0 := h.map0
  have hm1 := h.map1
  unfold mayS at h2
  rw [if_neg (by omega), if_neg (by omega)] at h2
  split at h2
  · omega
  split at h2
  case isFalse => omega
  rename_i hf
  obtain ⟨k, key, val, m, ks, mn, L, sz, bi, u⟩ := n
  unfold formP bareP at hf
  dsimp only at h1 hf hm0 hm1
  obtain ⟨f1, f2⟩ := hf
  rw [if_neg (by omega), if_pos h1] at f2
  obtain ⟨g1, g2, g3, g4, _, g5, g6⟩ := f2
  obtain ⟨g4, g7⟩ := g4 rfl
  have g5 := g5 rfl
  have g6 := g6 rfl
  subst h1; subst g4; subst g7; subst g5; subst g6
  refine ⟨m.toNat, ks, sz, bi, ⟨by omega, by rw [g2, allI_len], fun k hk e => g1 (e ▸ hk), g3, f1⟩, ?_⟩
  unfold bN
  rw [Int.toNat_of_nonneg hm0]
theorem branch_self {m : Nat} {ks : List Int} {sz bi : Int} (h : okB m ks sz bi) : branch_branch (bN m ks sz bi) = some ((2, (ByteArray.empty, (ByteArray.empty, ((m : Int), ((), (0, ((), (sz, (bi, ()))))))))), (ks, ([], ()))) := by
  rw [branch_branch.eq, may_any _ h.node, bnd_some, copy_any _ h.node, bnd_some, h.may]
  simp only [eqI_d, notB_d, br_if]
  rw [if_neg (fun q => q rfl), if_neg (fun q => q (by first | exact rfl | exact True.intro))]
  rfl
def chI (m : Nat) (ks : List Int) (i : Int) : Int := if 0 ≤ i ∧ i < 32 then chAt m ks i.toNat else 0
theorem child_any {n : NodeV} {m : Nat} {ks : List Int} {sz bi : Int} (h : okB m ks sz bi) (hb : branch_branch n = some ((2, (ByteArray.empty, (ByteArray.empty, ((m : Int), ((), (0, ((), (sz, (bi, ()))))))))), (ks, ([], ())))) (i : Int) : branch_Child n i = some (chI m ks i) := by
  have hl := h.len
  rw [branch_Child.eq, hb, bnd_some, has_m m h.lt i, bnd_some, place_m m h.lt i, bnd_some]
  unfold chI chAt hasM
  by_cases hi : 0 ≤ i ∧ i < 32
  · rw [decide_eq_true hi, Bool.true_and, if_pos hi]
    cases hbit : m.testBit i.toNat with
    | false => rfl
    | true =>
      have := cnt_less (show i.toNat < 32 by omega) hbit
      rw [show cl i = i.toNat by unfold cl; omega]
      show br (notB true) _ _ = _
      rw [show notB true = false from rfl, br_f]
      simp only [ltI_d, leI_d, ofN_d, lenL_d, andB_d, br_if]
      rw [if_pos (by omega), if_pos True.intro, ixR ks _ (by omega), List.getD_eq_getElem?_getD, List.getElem?_eq_getElem (show cnt i.toNat m < ks.length by omega)]
      rfl
  · rw [decide_eq_false hi, Bool.false_and, if_neg hi]
    rfl
theorem cnt_with {m : Nat} {i : Nat} (hi : i < 32) (hb : m.testBit i = false) : ∀ n, cnt n (withM m i) = cnt n m + if i < n then 1 else 0
  | 0 => by simp [cnt]
  | n + 1 => by
    rw [cnt_succ, cnt_succ, cnt_with hi hb n, withM_bit]
    by_cases q : i = n
    · subst q
      rw [hb, if_neg (by omega), if_pos (by simp; omega), if_neg (by simp), if_pos (by omega)]
    · have e : decide (0 ≤ (i : Int) ∧ (i : Int) < 32 ∧ (i : Int) = n) = false := decide_eq_false (by omega)
      rw [e, Bool.or_false]
      by_cases g : i < n
      · rw [if_pos g, if_pos (show i < n + 1 by omega)]; omega
      · rw [if_neg g, if_neg (show ¬ i < n + 1 by omega)]; omega
theorem cnt_without {m : Nat} (hm : m < 4294967296) {i : Nat} (hi : i < 32) (hb : m.testBit i = true) : ∀ n, cnt n m = cnt n (withoutM m i) + if i < n then 1 else 0
  | 0 => by simp [cnt]
  | n + 1 => by
    rw [cnt_succ, cnt_succ, cnt_without hm hi hb n, withoutM_bit hm]
    by_cases q : i = n
    · subst q
      rw [hb, if_neg (by omega), if_pos rfl, if_neg (by simp; omega), if_pos (by omega)]
    · have e : decide (0 ≤ (i : Int) ∧ (i : Int) < 32 ∧ (i : Int) = n) = false := decide_eq_false (by omega)
      rw [e, Bool.not_false, Bool.and_true]
      by_cases g : i < n
      · rw [if_pos g, if_pos (show i < n + 1 by omega)]; omega
      · rw [if_neg g, if_neg (show ¬ i < n + 1 by omega)]; omega
theorem getD_app {l r : List Int} {j : Nat} : (l ++ r).getD j 0 = if j < l.length then l.getD j 0 else r.getD (j - l.length) 0 := by
  by_cases h : j < l.length
  · rw [if_pos h, List.getD_eq_getElem?_getD, List.getD_eq_getElem?_getD, List.getElem?_append_left h]
  · rw [if_neg h, List.getD_eq_getElem?_getD, List.getD_eq_getElem?_getD, List.getElem?_append_right (by omega)]
theorem getD_take {l : List Int} {p j : Nat} (h : j < p) : (l.take p).getD j 0 = l.getD j 0 := by
  rw [List.getD_eq_getElem?_getD, List.getD_eq_getElem?_getD, List.getElem?_take, if_pos h]
theorem getD_drop {l : List Int} {p j : Nat} : (l.drop p).getD j 0 = l.getD (p + j) 0 := by
  rw [List.getD_eq_getElem?_getD, List.getD_eq_getElem?_getD, List.getElem?_drop]
theorem with_spec {n : NodeV} {m : Nat} {ks : List Int} {sz bi : Int} (h : okB m ks sz bi) (hb : branch_branch n = some ((2, (ByteArray.empty, (ByteArray.empty, ((m : Int), ((), (0, ((), (sz, (bi, ()))))))))), (ks, ([], ())))) (i r : Int) :
    ∃ m' ks', okB m' ks' sz bi ∧ branch_With n i r = some (bN m' ks' sz bi) ∧ m' = (if r = 0 then m else withM m i) ∧ ∀ j, j < 32 → chAt m' ks' j = if (j : Int) = i ∧ r ≠ 0 then r else chAt m ks j := by
  have hl := h.len
  have hm := h.lt
  have hw := withM_lt hm i
  have hc := cnt_le 32 m
  rw [branch_With.eq, hb, bnd_some]
  dsimp only
  rw [with_m m hm i, bnd_some, place_m _ hw i, bnd_some, has_m _ hw i, bnd_some]
  simp only [eqI_d, br_if]
  by_cases hr : r = 0
  · rw [if_pos hr, branch_With.j0.eq, br_t]
    exact ⟨m, ks, h, rfl, by rw [if_pos hr], fun j hj => by rw [if_neg (fun q => q.2 hr)]⟩
  rw [if_neg hr, branch_With.j0.eq]
  dsimp only
  by_cases hi : 0 ≤ i ∧ i < 32
  · have hin : hasM (withM m i) i = true := by
      unfold hasM
      rw [decide_eq_true hi, Bool.true_and, withM_bit, decide_eq_true (by omega), Bool.or_true]
    rw [hin, show notB true = false from rfl, br_f]
    have hii : i = ((i.toNat : Nat) : Int) := by omega
    have hlt : i.toNat < 32 := by omega
    generalize i.toNat = k at hii hlt
    subst hii
    rw [show cl (k : Int) = k by unfold cl; omega]
    cases hbit : m.testBit k with
    | true =>
      have hsame : withM m (k : Int) = m := by
        apply Nat.eq_of_testBit_eq
        intro j
        rw [withM_bit]
        by_cases q : k = j
        · subst q; rw [hbit, Bool.true_or]
        · rw [decide_eq_false (by omega), Bool.or_false]
      have hck := cnt_less hlt hbit
      rw [hsame]
      simp only [ltI_d, leI_d, eqI_d, ofN_d, lenL_d, andB_d, br_if]
      rw [if_pos True.intro, if_pos (by omega)]
      have es : setL (.int .i64) ks ((cnt k m : Nat) : Int) r = ks.set (cnt k m) r := by unfold setL; rw [Int.toNat_natCast]
      rw [es]
      refine ⟨m, ks.set (cnt k m) r, ⟨hm, by rw [List.length_set]; exact hl, fun x hx => ?_, h.sz0, h.bi0⟩, rfl, by rw [if_neg hr], fun j hj => ?_⟩
      · rcases List.mem_or_eq_of_mem_set hx with hx | rfl
        · exact h.nz x hx
        · exact hr
      · unfold chAt
        by_cases q : (j : Int) = k
        · have : j = k := by omega
          subst this
          rw [if_pos hbit, if_pos ⟨rfl, hr⟩, List.getD_eq_getElem?_getD, List.getElem?_set, if_pos rfl, if_pos (by omega)]
          rfl
        · rw [if_neg (show ¬ ((j : Int) = k ∧ r ≠ 0) from fun z => q z.1)]
          by_cases hbj : m.testBit j = true
          · rw [if_pos hbj, if_pos hbj, List.getD_eq_getElem?_getD, List.getElem?_set, if_neg (fun e => q (by rw [cnt_inj hbit hbj e])), ← List.getD_eq_getElem?_getD]
          · rw [if_neg hbj, if_neg hbj]
    | false =>
      have hne : ¬ ((withM m (k : Int) : Nat) : Int) = (m : Int) := by
        intro e
        have e : withM m (k : Int) = m := by omega
        have := withM_bit m (k : Int) k
        rw [e, hbit, Bool.false_or] at this
        have := this.symm
        rw [decide_eq_false_iff_not] at this
        omega
      have hcw := cnt_with hlt hbit
      have hck : cnt k (withM m (k : Int)) = cnt k m := by rw [hcw, if_neg (by omega)]; rfl
      have hcl : cnt k m ≤ ks.length := by rw [hl]; exact cnt_mono m (by omega)
      simp only [eqI_d, br_if]
      rw [if_neg hne, hck, slices_InsertRR.eq]
      have hg : insG (.int .i64) ks ((cnt k m : Nat) : Int) [r] = true := by
        unfold insG
        exact decide_eq_true ⟨by omega, by rw [Int.toNat_natCast]; exact hcl, by show 0 < 1; omega, by show ks.length + 1 ≤ _; omega⟩
      rw [hg, br_t, bnd_some]
      have el : insL (.int .i64) ks ((cnt k m : Nat) : Int) [r] = ks.take (cnt k m) ++ [r] ++ ks.drop (cnt k m) := by unfold insL; rw [Int.toNat_natCast]
      rw [el]
      have hp : (ks.take (cnt k m)).length = cnt k m := by rw [List.length_take]; omega
      refine ⟨withM m (k : Int), ks.take (cnt k m) ++ [r] ++ ks.drop (cnt k m), ⟨hw, ?_, fun x hx => ?_, h.sz0, h.bi0⟩, rfl, by rw [if_neg hr], fun j hj => ?_⟩
      · rw [hcw, if_pos hlt, List.length_append, List.length_append, hp, List.length_drop]
        show _ + 1 + _ = _
        omega
      · rcases List.mem_append.1 hx with hx | hx
        · rcases List.mem_append.1 hx with hx | hx
          · exact h.nz x (List.mem_of_mem_take hx)
          · rw [List.mem_singleton.1 hx]; exact hr
        · exact h.nz x (List.mem_of_mem_drop hx)
      · unfold chAt
        rw [withM_bit, hcw j]
        by_cases q : (j : Int) = k
        · have : j = k := by omega
          subst this
          rw [hbit, decide_eq_true (show 0 ≤ (j : Int) ∧ (j : Int) < 32 ∧ (j : Int) = j from ⟨by omega, by omega, rfl⟩), Bool.false_or, if_pos rfl, if_pos (show (j : Int) = j ∧ r ≠ 0 from ⟨rfl, hr⟩), if_neg (show ¬ j < j by omega), Nat.add_zero, List.append_assoc, getD_app, if_neg (by omega), hp, Nat.sub_self]
          rfl
        · rw [if_neg (show ¬ ((j : Int) = k ∧ r ≠ 0) from fun z => q z.1), decide_eq_false (by omega), Bool.or_false]
          by_cases hbj : m.testBit j = true
          · rw [if_pos hbj, if_pos hbj]
            by_cases g : k < j
            · have := cnt_mono m (show k ≤ j by omega)
              rw [if_pos g, getD_app, if_neg (by rw [List.length_append, hp]; show ¬ _ < _ + 1; omega), getD_drop, List.length_append, hp]
              congr 1
              show cnt k m + (cnt j m + 1 - (cnt k m + 1)) = cnt j m
              omega
            · have := cnt_less (show j < k by omega) hbj
              rw [if_neg g, Nat.add_zero, List.append_assoc, getD_app, if_pos (by omega), getD_take this]
          · rw [if_neg hbj, if_neg hbj]
  · have hin : hasM (withM m i) i = false := by
      unfold hasM
      rw [decide_eq_false hi, Bool.false_and]
    have hws : withM m i = m := by unfold withM; rw [if_neg hi]
    rw [hin, show notB false = true from rfl, br_t]
    exact ⟨m, ks, h, rfl, by rw [if_neg hr, hws], fun j hj => by rw [if_neg (by omega)]⟩
theorem without_spec {n : NodeV} {m : Nat} {ks : List Int} {sz bi : Int} (h : okB m ks sz bi) (hb : branch_branch n = some ((2, (ByteArray.empty, (ByteArray.empty, ((m : Int), ((), (0, ((), (sz, (bi, ()))))))))), (ks, ([], ())))) (i : Int) :
    ∃ m' ks', okB m' ks' sz bi ∧ branch_Without n i = some (bN m' ks' sz bi) ∧ ∀ j, j < 32 → chAt m' ks' j = if (j : Int) = i then 0 else chAt m ks j := by
  have hl := h.len
  have hm := h.lt
  have hc := cnt_le 32 m
  rw [branch_Without.eq, hb, bnd_some]
  dsimp only
  rw [has_m m hm i, bnd_some, place_m m hm i, bnd_some, without_m m hm i]
  by_cases hi : 0 ≤ i ∧ i < 32
  · have hii : i = ((i.toNat : Nat) : Int) := by omega
    have hlt : i.toNat < 32 := by omega
    generalize i.toNat = k at hii hlt
    subst hii
    rw [show cl (k : Int) = k by unfold cl; omega]
    have hh : hasM m (k : Int) = m.testBit k := by unfold hasM; rw [decide_eq_true hi, Bool.true_and, Int.toNat_natCast]
    rw [hh]
    cases hbit : m.testBit k with
    | false =>
      rw [show notB false = true from rfl, br_t]
      refine ⟨m, ks, h, rfl, fun j hj => ?_⟩
      by_cases q : (j : Int) = k
      · have : j = k := by omega
        subst this
        rw [if_pos rfl]
        unfold chAt
        rw [hbit, if_neg (by simp)]
      · rw [if_neg q]
    | true =>
      have hck := cnt_less hlt hbit
      have hcw := cnt_without hm hlt hbit
      have h32 := hcw 32
      rw [if_pos hlt] at h32
      rw [show notB true = false from rfl, br_f, slices_DeleteRR.eq, add1 _ (by omega)]
      have hg : delG (.int .i64) ks ((cnt k m : Nat) : Int) ((cnt k m + 1 : Nat) : Int) = true := by
        unfold delG
        exact decide_eq_true ⟨by omega, by omega, by rw [Int.toNat_natCast]; omega⟩
      rw [hg, br_t, bnd_some, bnd_some]
      have el : delL (.int .i64) ks ((cnt k m : Nat) : Int) ((cnt k m + 1 : Nat) : Int) = ks.take (cnt k m) ++ ks.drop (cnt k m + 1) := by unfold delL; rw [Int.toNat_natCast, Int.toNat_natCast]
      rw [el]
      have hp : (ks.take (cnt k m)).length = cnt k m := by rw [List.length_take]; omega
      refine ⟨withoutM m (k : Int), ks.take (cnt k m) ++ ks.drop (cnt k m + 1), ⟨withoutM_lt hm _, ?_, fun x hx => ?_, h.sz0, h.bi0⟩, rfl, fun j hj => ?_⟩
      · rw [List.length_append, hp, List.length_drop]
        omega
      · rcases List.mem_append.1 hx with hx | hx
        · exact h.nz x (List.mem_of_mem_take hx)
        · exact h.nz x (List.mem_of_mem_drop hx)
      · unfold chAt
        rw [withoutM_bit hm]
        have hj' := hcw j
        by_cases q : (j : Int) = k
        · have : j = k := by omega
          subst this
          rw [if_pos rfl, decide_eq_true (by omega), Bool.not_true, Bool.and_false, if_neg (by simp)]
        · rw [if_neg q, decide_eq_false (by omega), Bool.not_false, Bool.and_true]
          by_cases hbj : m.testBit j = true
          · rw [if_pos hbj, if_pos hbj]
            by_cases g : k < j
            · have := cnt_less g hbit
              rw [if_pos g] at hj'
              rw [getD_app, if_neg (by omega), getD_drop, hp]
              congr 1
              omega
            · have := cnt_less (show j < k by omega) hbj
              rw [if_neg g] at hj'
              rw [getD_app, if_pos (by omega), getD_take (by omega)]
              congr 1
              omega
          · rw [if_neg hbj, if_neg hbj]
  · have hh : hasM m i = false := by unfold hasM; rw [decide_eq_false hi, Bool.false_and]
    rw [hh, show notB false = true from rfl, br_t]
    exact ⟨m, ks, h, rfl, fun j hj => by rw [if_neg (by omega)]⟩
end Go.Proofs.YtjekopgcpikkiaaGreatDoor.AM
set_option autoImplicit false
set_option linter.unusedVariables false
namespace Go.Abs
theorem wrap_u64 (n : Int) : IntKind.u64.wrap n = n % 18446744073709551616 := by simp [IntKind.wrap, IntKind.bits, IntKind.signed]
theorem wrap_u64_id {n : Int} (h0 : 0 ≤ n) (h1 : n < 18446744073709551616) : IntKind.u64.wrap n = n := by rw [wrap_u64]; omega
theorem wrap_u64_range (n : Int) : 0 ≤ IntKind.u64.wrap n ∧ IntKind.u64.wrap n < 18446744073709551616 := by rw [wrap_u64]; omega
theorem and_u64 (a w : Nat) (ha : a < 18446744073709551616) (hw : w ≤ 64) : andI .u64 (a : Int) ((2 ^ w - 1 : Nat) : Int) = ((a % 2 ^ w : Nat) : Int) := by
  have hp : 2 ^ w ≤ 18446744073709551616 := by
    have := Nat.pow_le_pow_right (n := 2) (by omega) hw
    omega
  have hq : 0 < 2 ^ w := Nat.two_pow_pos w
  have e : ∀ x : Nat, x < 18446744073709551616 → (BitVec.ofInt 64 (x : Int)).toNat = x := by
    intro x hx
    simp only [BitVec.toNat_ofInt]
    omega
  unfold andI
  rw [show IntKind.u64.bits = 64 from rfl, BitVec.toNat_and, e a ha, e _ (by omega), Nat.and_two_pow_sub_one_eq_mod]
  have := Nat.mod_le a (2 ^ w)
  exact wrap_u64_id (by omega) (by omega)
def wid (bits : Int) : Nat := (min (max bits 0) 64).toNat
theorem wid_le (bits : Int) : wid bits ≤ 64 := by unfold wid; omega
def lev (bits : Int) : Nat := (wid bits + 4) / 5
theorem lev_le (bits : Int) : lev bits ≤ 13 := by have := wid_le bits; unfold lev; omega
def chunkS (h : Nat) (level : Nat) (bits : Int) : Nat := if level < lev bits then (h % 2 ^ wid bits) / 2 ^ (5 * level) % 32 else 0
def hstep (h b : Int) : Int := IntKind.u64.wrap ((xorI .u64 h (IntKind.u64.wrap b)) * 1099511628211)
def fnv : List UInt8 → Int → Int
  | [], h => h
  | x :: xs, h => fnv xs (hstep h (x.toNat : Int))
theorem hstep_range (h b : Int) : 0 ≤ hstep h b ∧ hstep h b < 18446744073709551616 := wrap_u64_range _
theorem fnv_cons (x : UInt8) (xs : List UInt8) (h : Int) : fnv (x :: xs) h = fnv xs (hstep h (x.toNat : Int)) := rfl
theorem hashN_ex : ∃ f : ByteArray → Nat, ∀ s, f s = (fnv (bl s) 14695981039346656037).toNat := ⟨_, fun _ => rfl⟩
noncomputable def hashN : ByteArray → Nat := Classical.choose hashN_ex
theorem hashN_eq (s : ByteArray) : hashN s = (fnv (bl s) 14695981039346656037).toNat := Classical.choose_spec hashN_ex s
noncomputable def hashS (s : ByteArray) (bits : Int) : Nat := hashN s % 2 ^ wid bits
theorem hash_lt (s : ByteArray) (bits : Int) : hashS s bits < 2 ^ wid bits := Nat.mod_lt _ (Nat.two_pow_pos _)
theorem pow_le64 {w : Nat} (h : w ≤ 64) : 2 ^ w ≤ 18446744073709551616 := by
  have := Nat.pow_le_pow_right (n := 2) (by omega) h
  omega
theorem hash_lt64 (s : ByteArray) (bits : Int) : hashS s bits < 18446744073709551616 := by
  have := hash_lt s bits
  have := pow_le64 (wid_le bits)
  omega
theorem mod_div_pow (h w a : Nat) (ha : a ≤ w) : h % 2 ^ w / 2 ^ a = h / 2 ^ a % 2 ^ (w - a) := by
  have : 2 ^ w = 2 ^ a * 2 ^ (w - a) := by rw [← Nat.pow_add]; congr 1; omega
  rw [this, Nat.mod_mul_right_div_self]
theorem mod_mod_pow (x p q : Nat) : x % 2 ^ p % 2 ^ q = x % 2 ^ min p q := by
  by_cases h : q ≤ p
  · rw [Nat.min_eq_right h, Nat.mod_mod_of_dvd _ (Nat.pow_dvd_pow 2 h)]
  · rw [Nat.min_eq_left (by omega), Nat.mod_eq_of_lt]
    have h1 := Nat.mod_lt x (Nat.two_pow_pos p)
    have h2 := Nat.pow_le_pow_right (n := 2) (by omega) (show p ≤ q by omega)
    omega
theorem mod_pow_succ (x p : Nat) : x % 2 ^ (p + 1) = x % 2 ^ p + 2 ^ p * (x / 2 ^ p % 2) := by
  rw [Nat.pow_succ, Nat.mod_mul]
theorem lowstep (A A' B B' P : Nat) (q2 : A / 2 = A') (m1 : B' = B + P * (A % 2)) (hB : B' < 18446744073709551616) (hA : A < 18446744073709551616) (hP : P ≤ 9223372036854775808) :
    IntKind.u64.wrap ((A : Int) / 2) = (A' : Int) ∧ IntKind.u64.wrap ((B : Int) + IntKind.u64.wrap ((P : Int) * ((A : Int) % 2))) = (B' : Int) := by
  have e : ((A : Int) % 2) = ((A % 2 : Nat) : Int) := by omega
  have hb : A % 2 = 0 ∨ A % 2 = 1 := by omega
  constructor
  · rw [wrap_u64_id (by omega) (by omega)]; omega
  · rw [e]
    rcases hb with hb | hb
    · rw [hb] at m1 ⊢
      rw [wrap_u64_id (n := (P : Int) * ((0 : Nat) : Int)) (by omega) (by omega), wrap_u64_id (by omega) (by omega)]
      omega
    · rw [hb] at m1 ⊢
      rw [wrap_u64_id (n := (P : Int) * ((1 : Nat) : Int)) (by omega) (by omega), wrap_u64_id (by omega) (by omega)]
      omega
theorem chunkstep (b B B' P : Nat) (m1 : B' = B + P * b) (hb : b < 2) (hB : B < 64) (hP : P ≤ 64) : IntKind.i64.wrap ((B : Int) + IntKind.i64.wrap ((P : Int) * (b : Int))) = (B' : Int) := by
  have hb : b = 0 ∨ b = 1 := by omega
  rcases hb with hb | hb
  · rw [hb] at m1 ⊢
    rw [wrap_i64_id (x := (P : Int) * ((0 : Nat) : Int)) (by omega) (by omega), wrap_i64_id (by omega) (by omega)]
    omega
  · rw [hb] at m1 ⊢
    rw [wrap_i64_id (x := (P : Int) * ((1 : Nat) : Int)) (by omega) (by omega), wrap_i64_id (by omega) (by omega)]
    omega
def m1 (h : Int) : Int := IntKind.u64.wrap ((xorI .u64 h (h / 1073741824)) * 13787848793156543929)
def m2 (h : Int) : Int := IntKind.u64.wrap ((xorI .u64 h (h / 134217728)) * 10723151780598845931)
def m3 (h : Int) : Int := xorI .u64 h (h / 2147483648)
theorem pri_ex : ∃ f : ByteArray → Int, ∀ s, f s = m3 (m2 (m1 ((hashS s 64 : Nat) : Int))) := ⟨_, fun _ => rfl⟩
noncomputable def pri : ByteArray → Int := Classical.choose pri_ex
noncomputable def above (a b : ByteArray) : Bool := if pri a = pri b then lt a b else decide (pri a > pri b)
end Go.Abs
set_option linter.unusedVariables false
set_option linter.unusedSimpArgs false
namespace Go.Proofs.YtjekopgcpikkiaaGreatDoor.AM
open Go.Abs
theorem clamp_any (bits : Int) : ref04_clamp bits = some (wid bits : Int) := by
  rw [ref04_clamp.eq]
  simp only [ltI_d, br_if]
  unfold wid
  by_cases h : bits < 0
  · rw [if_pos h]; exact some_int (by omega)
  · rw [if_neg h]
    by_cases h' : 64 < bits
    · rw [if_pos h']; exact some_int (by omega)
    · rw [if_neg h']; exact some_int (by omega)
theorem reflow_loop (bits : Int) (n : Nat) (hn : n < 18446744073709551616) (d : Nat) : ∀ (i : Nat) (one : Int), i ≤ wid bits → (i < 64 → one = 2 ^ i) → wid bits - i = d →
    ref04_Of.l1 bits ((n / 2 ^ i : Nat) : Int) ((n % 2 ^ i : Nat) : Int) one i = some ((n % 2 ^ wid bits : Nat) : Int) := by
  have hw := wid_le bits
  induction d with
  | zero =>
    intro i one hi h1 hd
    rw [ref04_Of.l1.eq, clamp_any, bnd_some]
    simp only [ltI_d, br_if]
    rw [if_neg (by omega), show i = wid bits by omega]
  | succ d ih =>
    intro i one hi h1 hd
    rw [ref04_Of.l1.eq, clamp_any, bnd_some]
    simp only [ltI_d, br_if, eqI_d, notB_d]
    have hone := h1 (by omega)
    subst hone
    have c : ((2 : Int) ^ i) = ((2 ^ i : Nat) : Int) := by simp
    have p : 2 ^ i ≤ 2 ^ 63 := Nat.pow_le_pow_right (by omega) (by omega)
    have q : n / 2 ^ i ≤ n := Nat.div_le_self _ _
    have q2 : n / 2 ^ i / 2 = n / 2 ^ (i + 1) := by rw [Nat.div_div_eq_div_mul, Nat.pow_succ]
    have m1 := mod_pow_succ n i
    have m2 : n % 2 ^ (i + 1) < 18446744073709551616 := by have := Nat.mod_le n (2 ^ (i + 1)); omega
    rw [if_pos (by omega), if_pos (by omega), if_pos (by omega), add1 i (by omega)]
    unfold quoI remI addI mulI
    rw [Int.tdiv_eq_ediv_of_nonneg (Int.natCast_nonneg _), Int.tmod_eq_emod_of_nonneg (Int.natCast_nonneg _)]
    have e := lowstep (n / 2 ^ i) _ (n % 2 ^ i) _ (2 ^ i) q2 m1 m2 (by omega) p
    rw [← c] at e
    rw [e.1, e.2]
    refine ih (i + 1) _ (by omega) (fun h => ?_) (by omega)
    have p2 : 2 ^ (i + 1) ≤ 2 ^ 63 := Nat.pow_le_pow_right (by omega) (by omega)
    have c2 : ((2 : Int) ^ (i + 1)) = ((2 ^ (i + 1) : Nat) : Int) := by simp
    rw [c, c2, wrap_u64, Nat.pow_succ]
    rw [Nat.pow_succ] at p2
    omega
theorem byte_u64 (s : ByteArray) (i : Nat) (hi : i < s.size) : ∃ x : UInt8, (bl s).drop i = x :: (bl s).drop (i + 1) ∧ wrapI .u64 (getS s (toN (i : Int))) = IntKind.u64.wrap (x.toNat : Int) := by
  obtain ⟨x, e, hx⟩ := drop_cons s i hi
  refine ⟨x, e, ?_⟩
  rw [getS_bt, hx]; rfl
theorem refof_loop (s : ByteArray) (bits : Int) (hs : s.size ≤ 140737488351232) (d : Nat) : ∀ (i : Nat) (h : Int), 0 ≤ h → h < 18446744073709551616 → i ≤ s.size → s.size - i = d →
    ref04_Of.l0 s bits h i = some ((((fnv ((bl s).drop i) h).toNat % 2 ^ wid bits : Nat)) : Int) := by
  have hw := wid_le bits
  induction d with
  | zero =>
    intro i h h0 h1 hi hd
    rw [ref04_Of.l0.eq]
    simp only [ltI_d, leI_d, ofN_d, lenS_d, andB_d, br_if]
    obtain ⟨n, rfl⟩ : ∃ n : Nat, h = n := ⟨h.toNat, by omega⟩
    rw [if_neg (by omega), List.drop_eq_nil_of_le (by rw [bl_len]; omega)]
    have := reflow_loop bits n (by omega) (wid bits) 0 1 (by omega) (fun _ => by simp) (by omega)
    simp only [Nat.pow_zero, Nat.div_one, Nat.mod_one, Int.cast_ofNat_Int] at this
    rw [this]
    rfl
  | succ d ih =>
    intro i h h0 h1 hi hd
    rw [ref04_Of.l0.eq]
    simp only [ltI_d, leI_d, ofN_d, lenS_d, andB_d, br_if]
    obtain ⟨x, e, hx⟩ := byte_u64 s i (by omega)
    rw [if_pos (by omega), if_pos (by omega), e, add1 i (by omega), hx]
    have hr := hstep_range h (x.toNat : Int)
    have := ih (i + 1) (hstep h (x.toNat : Int)) hr.1 hr.2 (by omega) (by omega)
    unfold hstep at this
    unfold mulI
    rw [this, fnv_cons]
    rfl
theorem refof_any (s : ByteArray) (bits : Int) (hs : s.size ≤ 140737488351232) : ref04_Of s bits = some ((hashS s bits : Nat) : Int) := by
  rw [ref04_Of.eq]
  have := refof_loop s bits hs s.size 0 14695981039346656037 (by omega) (by omega) (by omega) (by omega)
  simp only [List.drop_zero, Int.cast_ofNat_Int] at this
  unfold hashS
  rw [hashN_eq]
  exact this
theorem within_any (bits : Int) : hash_within bits = some (wid bits : Int) := by
  rw [hash_within.eq]
  simp only [minI_d, maxI_d]
  unfold wid
  exact some_int (by omega)
theorem cutb_any (h : Nat) (hh : h < 18446744073709551616) (bits : Int) : hash_cut h bits = some ((h % 2 ^ wid bits : Nat) : Int) := by
  have hw := wid_le bits
  rw [hash_cut.eq, within_any, bnd_some]
  simp only [eqI_d, leI_d, br_if]
  by_cases e : wid bits = 64
  · rw [if_pos (by omega), e, Nat.mod_eq_of_lt (by omega)]
  · rw [if_neg (by omega), bnd_some, if_pos (by omega)]
    have hpos : 0 < 2 ^ wid bits := Nat.two_pow_pos _
    have hle : 2 ^ wid bits ≤ 2 ^ 63 := Nat.pow_le_pow_right (by omega) (by omega)
    have e1 : shlI .u64 1 ((wid bits : Nat) : Int) = ((2 ^ wid bits : Nat) : Int) := by
      unfold shlI
      rw [Int.toNat_natCast, show IntKind.u64.bits = 64 from rfl, Nat.min_eq_left hw, Int.one_mul, wrap_u64]
      have c : ((2 : Int) ^ wid bits) = ((2 ^ wid bits : Nat) : Int) := by simp
      rw [c]
      generalize 2 ^ wid bits = P at hle ⊢
      omega
    have e2 : subI .u64 ((2 ^ wid bits : Nat) : Int) 1 = ((2 ^ wid bits - 1 : Nat) : Int) := by
      unfold subI
      rw [wrap_u64]
      generalize 2 ^ wid bits = P at hle hpos ⊢
      omega
    rw [e1, e2, and_u64 _ _ hh hw]
theorem hashof_loop (s : ByteArray) (bits : Int) (hs : s.size ≤ 140737488351232) (d : Nat) : ∀ (i : Nat) (h : Int), 0 ≤ h → h < 18446744073709551616 → i ≤ s.size → s.size - i = d →
    hash_Of.l0 s bits h s.size i = some ((((fnv ((bl s).drop i) h).toNat % 2 ^ wid bits : Nat)) : Int) := by
  induction d with
  | zero =>
    intro i h h0 h1 hi hd
    rw [hash_Of.l0.eq]
    simp only [ltI_d, leI_d, ofN_d, lenS_d, andB_d, br_if]
    obtain ⟨n, rfl⟩ : ∃ n : Nat, h = n := ⟨h.toNat, by omega⟩
    rw [if_neg (by omega), List.drop_eq_nil_of_le (by rw [bl_len]; omega), cutb_any n (by omega), bnd_some]
    rfl
  | succ d ih =>
    intro i h h0 h1 hi hd
    rw [hash_Of.l0.eq]
    simp only [ltI_d, leI_d, ofN_d, lenS_d, andB_d, br_if]
    obtain ⟨x, e, hx⟩ := byte_u64 s i (by omega)
    rw [if_pos (by omega), if_pos (by omega), e, add1 i (by omega), hx]
    have hr := hstep_range h (x.toNat : Int)
    have := ih (i + 1) (hstep h (x.toNat : Int)) hr.1 hr.2 (by omega) (by omega)
    unfold hstep at this
    unfold mulI
    rw [this, fnv_cons]
    rfl
theorem hashof_any (s : ByteArray) (bits : Int) (hs : s.size ≤ 140737488351232) : hash_Of s bits = some ((hashS s bits : Nat) : Int) := by
  rw [hash_Of.eq]
  have := hashof_loop s bits hs s.size 0 14695981039346656037 (by omega) (by omega) (by omega) (by omega)
  simp only [List.drop_zero, Int.cast_ofNat_Int] at this
  unfold hashS
  rw [hashN_eq]
  exact this
end Go.Proofs.YtjekopgcpikkiaaGreatDoor.AM
set_option linter.unusedVariables false
set_option linter.unusedSimpArgs false
namespace Go.Proofs.YtjekopgcpikkiaaGreatDoor.AM
open Go.Abs
theorem levels_any (bits : Int) : hash_Levels bits = some ((lev bits : Nat) : Int) := by
  have hw := wid_le bits
  rw [hash_Levels.eq, within_any, bnd_some, show notB (eqI 5 0) = true from rfl, br_t, addI_d (by omega) (by omega), subI_d (by omega) (by omega)]
  unfold quoI lev
  rw [Int.tdiv_eq_ediv_of_nonneg (by omega), wrap_i64_id (by omega) (by omega)]
  exact some_int (by omega)
theorem reflevels_loop (bits : Int) (d : Nat) : ∀ (l : Nat), l ≤ lev bits → lev bits - l = d → ref04_Levels.l0 bits l = some ((lev bits : Nat) : Int) := by
  have hw := wid_le bits
  have em : ∀ l : Nat, l ≤ 13 → mulI .i64 5 (l : Int) = 5 * (l : Int) := fun l hl => by unfold mulI; exact wrap_i64_id (by omega) (by omega)
  have hv := lev_le bits
  induction d with
  | zero =>
    intro l hl hd
    rw [ref04_Levels.l0.eq, clamp_any, bnd_some, em l (by omega)]
    simp only [ltI_d, br_if]
    unfold lev at hl hd
    rw [if_neg (by omega)]
    unfold lev
    exact some_int (by omega)
  | succ d ih =>
    intro l hl hd
    rw [ref04_Levels.l0.eq, clamp_any, bnd_some, em l (by omega)]
    simp only [ltI_d, br_if]
    have hl2 := hl
    have hd2 := hd
    unfold lev at hl hd
    rw [if_pos (by omega), add1 l (by omega)]
    exact ih (l + 1) (by omega) (by omega)
theorem reflevels_any (bits : Int) : ref04_Levels bits = some ((lev bits : Nat) : Int) := by
  rw [ref04_Levels.eq]
  exact reflevels_loop bits (lev bits) 0 (by omega) (by omega)
theorem chunk_any (h : Nat) (hh : h < 18446744073709551616) (level bits : Int) (hl : level ≤ 9223372036854775807) :
    hash_Chunk h level bits = some (((if level < 0 then 0 else chunkS h level.toNat bits) : Nat) : Int) := by
  have hv := lev_le bits
  have hw := wid_le bits
  rw [hash_Chunk.eq, levels_any, bnd_some]
  simp only [ltI_d, leI_d, br_if]
  by_cases h0 : level < 0
  · rw [if_pos h0, if_pos h0]; rfl
  · rw [if_neg h0, if_neg h0]
    unfold chunkS
    by_cases h1 : ((lev bits : Nat) : Int) ≤ level
    · rw [if_pos h1, if_neg (by omega)]; rfl
    · rw [if_neg h1, if_pos (by omega), cutb_any h hh, bnd_some]
      obtain ⟨l, rfl⟩ : ∃ l : Nat, level = l := ⟨level.toNat, by omega⟩
      rw [Int.toNat_natCast]
      have hlt : h % 2 ^ wid bits < 18446744073709551616 := by have := Nat.mod_le h (2 ^ wid bits); omega
      generalize h % 2 ^ wid bits = c at hlt ⊢
      have em : mulI .i64 5 (l : Int) = ((5 * l : Nat) : Int) := by unfold mulI; rw [wrap_i64_id (by omega) (by omega)]; omega
      rw [em, if_pos (by omega)]
      have e1 : shrI .u64 (c : Int) ((5 * l : Nat) : Int) = ((c / 2 ^ (5 * l) : Nat) : Int) := by
        unfold shrI
        have hl' : l < lev bits := by omega
        have : 5 * l ≤ 64 := by unfold lev at hl'; omega
        rw [Int.toNat_natCast, show IntKind.u64.bits = 64 from rfl, Nat.min_eq_left this, Int.fdiv_eq_ediv_of_nonneg _ (Int.pow_nonneg (by omega))]
        simp
      have hle : c / 2 ^ (5 * l) ≤ c := Nat.div_le_self _ _
      rw [e1]
      generalize c / 2 ^ (5 * l) = q at hle ⊢
      have e2 := and_u64 q 5 (by omega) (by omega)
      rw [show ((2 ^ 5 - 1 : Nat) : Int) = 31 from rfl] at e2
      rw [e2]
      have : q % 2 ^ 5 < 32 := Nat.mod_lt _ (by decide)
      unfold wrapI
      rw [wrap_i64_id (by omega) (by omega)]
theorem bit_loop (a : Nat) (d : Nat) : ∀ (h i : Nat), h < 18446744073709551616 → i ≤ a → a ≤ 64 → a - i = d → ref04_bit.l0 h a i = some ((h / 2 ^ d % 2 : Nat) : Int) := by
  induction d with
  | zero =>
    intro h i hh hi ha hd
    rw [ref04_bit.l0.eq]
    simp only [ltI_d, eqI_d, notB_d, br_if]
    unfold remI wrapI
    rw [if_neg (by omega), if_pos (by omega), Int.tmod_eq_emod_of_nonneg (by omega), wrap_i64_id (by omega) (by omega)]
    refine some_int ?_
    simp
  | succ d ih =>
    intro h i hh hi ha hd
    rw [ref04_bit.l0.eq]
    simp only [ltI_d, eqI_d, notB_d, br_if]
    unfold quoI
    rw [if_pos (by omega), if_pos (by omega), Int.tdiv_eq_ediv_of_nonneg (by omega), Go.Abs.wrap_u64_id (by omega) (by omega), add1 i (by omega), show ((h : Int) / 2) = ((h / 2 : Nat) : Int) by omega]
    rw [ih (h / 2) (i + 1) (by omega) (by omega) (by omega) (by omega), Nat.div_div_eq_div_mul, Nat.pow_succ, Nat.mul_comm 2]
theorem bit_any (h a : Nat) (hh : h < 18446744073709551616) (ha : a ≤ 64) : ref04_bit h a = some ((h / 2 ^ a % 2 : Nat) : Int) := by
  rw [ref04_bit.eq]
  exact bit_loop a a h 0 hh (by omega) ha (by omega)
theorem refchunk_loop (h : Nat) (hh : h < 18446744073709551616) (l : Nat) (bits : Int) (hl : l < lev bits) (d : Nat) : ∀ (j : Nat), j ≤ min 5 (wid bits - 5 * l) → min 5 (wid bits - 5 * l) - j = d →
    ref04_Chunk.l0 h l bits ((h / 2 ^ (5 * l) % 2 ^ j : Nat) : Int) (2 ^ j) ((5 * l + j : Nat) : Int) = some ((h / 2 ^ (5 * l) % 2 ^ min 5 (wid bits - 5 * l) : Nat) : Int) := by
  have hw := wid_le bits
  have hv := lev_le bits
  have hlw : 5 * l < wid bits := by unfold lev at hl; omega
  have em : addI .i64 (mulI .i64 5 (l : Int)) 5 = ((5 * l + 5 : Nat) : Int) := by
    have : mulI .i64 5 (l : Int) = ((5 * l : Nat) : Int) := by unfold mulI; rw [wrap_i64_id (by omega) (by omega)]; omega
    rw [this, addI_d (by omega) (by omega)]; omega
  induction d with
  | zero =>
    intro j hj hd
    have hj' : j = min 5 (wid bits - 5 * l) := by omega
    rw [ref04_Chunk.l0.eq, em, clamp_any, bnd_some]
    simp only [ltI_d, br_if]
    by_cases e : ((5 * l + j : Nat) : Int) < ((5 * l + 5 : Nat) : Int)
    · rw [if_pos e, if_neg (by omega), hj']
    · rw [if_neg e, hj']
  | succ d ih =>
    intro j hj hd
    rw [ref04_Chunk.l0.eq, em, clamp_any, bnd_some]
    simp only [ltI_d, br_if]
    rw [if_pos (by omega), if_pos (by omega), bit_any h (5 * l + j) hh (by omega), bnd_some, add1 _ (by omega)]
    have c : ((2 : Int) ^ j) = ((2 ^ j : Nat) : Int) := by simp
    have c2 : ((2 : Int) ^ (j + 1)) = ((2 ^ (j + 1) : Nat) : Int) := by simp
    have p : 2 ^ j ≤ 2 ^ 5 := Nat.pow_le_pow_right (by omega) (by omega)
    have m1 := mod_pow_succ (h / 2 ^ (5 * l)) j
    have q : h / 2 ^ (5 * l) / 2 ^ j = h / 2 ^ (5 * l + j) := by rw [Nat.div_div_eq_div_mul, Nat.pow_add]
    rw [q] at m1
    have m3 : h / 2 ^ (5 * l) % 2 ^ j < 2 ^ j := Nat.mod_lt _ (Nat.two_pow_pos _)
    have := ih (j + 1) (by omega) (by omega)
    rw [c2, Nat.pow_succ] at this
    have e1 := chunkstep (h / 2 ^ (5 * l + j) % 2) (h / 2 ^ (5 * l) % 2 ^ j) _ (2 ^ j) m1 (Nat.mod_lt _ (by omega)) (by omega) (by omega)
    rw [← c] at e1
    have w2 : mulI .i64 2 ((2 ^ j : Nat) : Int) = ((2 ^ j * 2 : Nat) : Int) := by
      unfold mulI
      generalize 2 ^ j = P at p ⊢
      rw [wrap_i64_id (by omega) (by omega)]
      omega
    have w1 : addI .i64 ((h / 2 ^ (5 * l) % 2 ^ j : Nat) : Int) (mulI .i64 (2 ^ j) ((h / 2 ^ (5 * l + j) % 2 : Nat) : Int)) = ((h / 2 ^ (5 * l) % 2 ^ (j + 1) : Nat) : Int) := e1
    rw [w1, c, w2]
    exact this
theorem refchunk_any (h : Nat) (hh : h < 18446744073709551616) (level bits : Int) (hl : level ≤ 9223372036854775807) :
    ref04_Chunk h level bits = some (((if level < 0 then 0 else chunkS h level.toNat bits) : Nat) : Int) := by
  have hv := lev_le bits
  have hw := wid_le bits
  rw [ref04_Chunk.eq, reflevels_any, bnd_some]
  simp only [ltI_d, leI_d, br_if]
  by_cases h0 : level < 0
  · rw [if_pos h0, if_pos h0]; rfl
  · rw [if_neg h0, if_neg h0]
    unfold chunkS
    by_cases h1 : ((lev bits : Nat) : Int) ≤ level
    · rw [if_pos h1, if_neg (by omega)]; rfl
    · rw [if_neg h1, if_pos (by omega)]
      obtain ⟨l, rfl⟩ : ∃ l : Nat, level = l := ⟨level.toNat, by omega⟩
      rw [Int.toNat_natCast]
      have hlw : 5 * l < wid bits := by
        have : l < lev bits := by omega
        unfold lev at this; omega
      have em : mulI .i64 5 (l : Int) = ((5 * l : Nat) : Int) := by unfold mulI; rw [wrap_i64_id (by omega) (by omega)]; omega
      have := refchunk_loop h hh l bits (by omega) (min 5 (wid bits - 5 * l)) 0 (by omega) (by omega)
      simp only [Nat.pow_zero, Nat.mod_one, Nat.add_zero, Int.pow_zero] at this
      rw [em, show (0 : Int) = ((0 : Nat) : Int) from rfl, this]
      refine some_int ?_
      rw [mod_div_pow h _ _ (by omega), show (32 : Nat) = 2 ^ 5 from rfl, mod_mod_pow, Nat.min_comm]
end Go.Proofs.YtjekopgcpikkiaaGreatDoor.AM
set_option linter.unusedVariables false
set_option linter.unusedSimpArgs false
namespace Go.Proofs.YtjekopgcpikkiaaGreatDoor.AM
open Go.Abs
noncomputable def ck (bits : Int) (level : Nat) (k : ByteArray) : Nat := chunkS (hashS k bits) level bits
theorem ck_lt (bits : Int) (level : Nat) (k : ByteArray) : ck bits level k < 32 := by
  unfold ck chunkS
  split
  · exact Nat.mod_lt _ (by decide)
  · decide
noncomputable def part (bits : Int) (level : Nat) (l : List PairV) (i : Nat) : List PairV := l.filter fun p => decide (ck bits level p.1 = i)
noncomputable def usedC (bits : Int) (level : Nat) (l : List PairV) : List Nat := (List.range 32).filter fun i => !(part bits level l i).isEmpty
noncomputable def maskC (bits : Int) (level : Nat) (l : List PairV) : Nat := makeL ((usedC bits level l).map fun i : Nat => (i : Int)) 32
theorem usedC_mem {bits : Int} {level : Nat} {l : List PairV} {i : Nat} : i ∈ usedC bits level l ↔ i < 32 ∧ part bits level l i ≠ [] := by
  unfold usedC
  rw [List.mem_filter, List.mem_range]
  cases part bits level l i <;> simp
theorem maskC_bit (bits : Int) (level : Nat) (l : List PairV) (j : Nat) : (maskC bits level l).testBit j = true ↔ j ∈ usedC bits level l := by
  unfold maskC
  rw [makeL_bit, Bool.and_eq_true, decide_eq_true_eq, decide_eq_true_eq, List.mem_map]
  constructor
  · rintro ⟨_, a, ha, e⟩
    have : a = j := by omega
    exact this ▸ ha
  · intro h
    exact ⟨(usedC_mem.1 h).1, j, h, rfl⟩
theorem maskC_lt (bits : Int) (level : Nat) (l : List PairV) : maskC bits level l < 4294967296 := makeL_lt _ 32
theorem allL_maskC (bits : Int) (level : Nat) (l : List PairV) : allL (maskC bits level l) = usedC bits level l := by
  unfold allL
  rw [usedC]
  refine List.filter_congr fun j hj => ?_
  rw [Bool.eq_iff_iff, maskC_bit, usedC_mem]
  have := List.mem_range.1 hj
  cases part bits level l j <;> simp <;> omega
theorem part_sub {bits : Int} {level : Nat} {l : List PairV} {i : Nat} {p : PairV} (h : p ∈ part bits level l i) : p ∈ l := (List.mem_filter.1 h).1
theorem part_srt {bits : Int} {level : Nat} {l : List PairV} (h : Srt l) (i : Nat) : Srt (part bits level l i) := List.Pairwise.filter _ h
theorem part_len (bits : Int) (level : Nat) (l : List PairV) (i : Nat) : (part bits level l i).length ≤ l.length := List.length_filter_le _ _
theorem part_find (bits : Int) (level : Nat) (l : List PairV) (k : ByteArray) : (part bits level l (ck bits level k)).find? (fun q => decide (q.1 = k)) = l.find? (fun q => decide (q.1 = k)) := by
  unfold part
  rw [List.find?_filter]
  congr 1
  funext q
  by_cases h : q.1 = k
  · subst h; simp
  · simp [h]
theorem filter_split (p : PairV → Bool) : ∀ l : List PairV, (l.filter p ++ l.filter (fun x => !p x)).Perm l
  | [] => List.Perm.refl _
  | a :: l => by
    by_cases h : p a = true
    · rw [List.filter_cons_of_pos h, List.filter_cons_of_neg (by simp [h]), List.cons_append]
      exact (filter_split p l).cons a
    · rw [List.filter_cons_of_neg h, List.filter_cons_of_pos (by simp [h])]
      exact List.perm_middle.trans ((filter_split p l).cons a)
theorem parts_upto (f : PairV → Nat) (l : List PairV) : ∀ n : Nat, (((List.range n).map fun i => l.filter fun p => decide (f p = i)).flatten).Perm (l.filter fun p => decide (f p < n))
  | 0 => by
    rw [List.filter_eq_nil_iff.2 (fun a _ => by simp)]
    exact List.Perm.refl _
  | n + 1 => by
    rw [List.range_succ, List.map_append, List.flatten_append, List.map_cons, List.map_nil, List.flatten_cons, List.flatten_nil, List.append_nil]
    refine ((parts_upto f l n).append_right _).trans ?_
    have h := filter_split (fun p => decide (f p < n)) (l.filter fun p => decide (f p < n + 1))
    rw [List.filter_filter, List.filter_filter] at h
    have e1 : (l.filter fun p => (decide (f p < n) && decide (f p < n + 1))) = l.filter fun p => decide (f p < n) := List.filter_congr fun p _ => by
      rw [← Bool.decide_and]; exact decide_eq_decide.2 (by omega)
    have e2 : (l.filter fun p => (!decide (f p < n) && decide (f p < n + 1))) = l.filter fun p => decide (f p = n) := List.filter_congr fun p _ => by
      rw [← decide_not, ← Bool.decide_and]; exact decide_eq_decide.2 (by omega)
    rw [e1, e2] at h
    exact h
theorem flat_used {A : Type} (f : Nat → List A) (q : Nat → Bool) (hq : ∀ i, q i = false → f i = []) : ∀ l : List Nat, ((l.filter q).map f).flatten = (l.map f).flatten
  | [] => rfl
  | a :: l => by
    by_cases h : q a = true
    · rw [List.filter_cons_of_pos h, List.map_cons, List.map_cons, List.flatten_cons, List.flatten_cons, flat_used f q hq l]
    · rw [List.filter_cons_of_neg h, List.map_cons, List.flatten_cons, hq a (by simpa using h), List.nil_append, flat_used f q hq l]
theorem parts_perm (bits : Int) (level : Nat) (l : List PairV) : (((usedC bits level l).map (part bits level l)).flatten).Perm l := by
  unfold usedC
  rw [flat_used (part bits level l) _ (fun i h => by
    cases hp : part bits level l i with
    | nil => rfl
    | cons a b => rw [hp] at h; cases h)]
  refine (parts_upto (fun p => ck bits level p.1) l 32).trans ?_
  rw [List.filter_eq_self.2 (fun p _ => decide_eq_true (ck_lt bits level p.1))]
theorem parts_sum (bits : Int) (level : Nat) (l : List PairV) : ((usedC bits level l).map fun i => (part bits level l i).length).sum = l.length := by
  rw [← (parts_perm bits level l).length_eq, List.length_flatten, List.map_map]
  rfl
def lfN (p : PairV) : NodeV := (1, (p.1, (p.2.1, (0, ([], (0, ([], (1, (0, ())))))))))
def buckN (l : List PairV) : NodeV := (3, (ByteArray.empty, (ByteArray.empty, (0, ([], (0, (l, ((l.length : Int), (0, ())))))))))
theorem lfN_ok {p : PairV} (hp : okP p) : okN (lfN p) := ⟨hp.1, hp.2, by show (0 : Int) ≤ 0; omega, by show (0 : Int) < 4294967296; omega, by show 0 ≤ _; omega, by show 0 ≤ _; omega, fun q hq => (by cases hq)⟩
theorem lfN_may {p : PairV} (hp : okT p) : mayS (lfN p) = 0 := by
  unfold mayS
  rw [if_neg (by show ¬ (1 : Int) < 1; omega), if_neg (by show ¬ (6 : Int) < 1; omega)]
  have hl : longN (lfN p) = false := by
    show ((decide (16 < p.1.size) || decide (16 < p.2.1.size)) || false) = false
    rw [decide_eq_false (by have := hp.1; omega), decide_eq_false (by have := hp.2; omega)]
    rfl
  rw [hl, if_neg (by simp), if_pos]
  refine ⟨Int.le_refl _, ?_⟩
  rw [if_pos (by show ((1 : Int) = 1 ∨ (1 : Int) = 6); omega)]
  exact ⟨rfl, fun q => (by cases q), fun _ => ⟨rfl, rfl⟩, fun _ => rfl, fun _ => rfl⟩
theorem buckN_ok {l : List PairV} (hl : l.length ≤ 1000000) (hb : ∀ p ∈ l, okP p) : okN (buckN l) := ⟨by show (0 : Nat) ≤ 40; omega, by show (0 : Nat) ≤ 40; omega, by show (0 : Int) ≤ 0; omega, by show (0 : Int) < 4294967296; omega, by show 0 ≤ _; omega, hl, hb⟩
theorem buckN_long {l : List PairV} (hb : ∀ p ∈ l, okT p) : longN (buckN l) = false := by
  show ((decide (16 < ByteArray.empty.size) || decide (16 < ByteArray.empty.size)) || l.any fun p => decide (16 < p.1.size) || decide (16 < p.2.1.size)) = false
  rw [decide_eq_false (by show ¬ 16 < 0; omega), Bool.or_self, Bool.false_or, List.any_eq_false]
  intro p hp
  rw [decide_eq_false (by have := (hb p hp).1; omega), decide_eq_false (by have := (hb p hp).2; omega)]
  simp
theorem buckN_may {l : List PairV} (h2 : 2 ≤ l.length) (hs : Srt l) (hb : ∀ p ∈ l, okT p) : mayS (buckN l) = 0 := by
  unfold mayS
  rw [if_neg (by show ¬ (3 : Int) < 1; omega), if_neg (by show ¬ (6 : Int) < 3; omega), buckN_long hb, if_neg (by simp), if_pos]
  refine ⟨Int.le_refl _, ?_⟩
  rw [if_neg (by show ¬ ((3 : Int) = 1 ∨ (3 : Int) = 6); omega), if_neg (by show ¬ (3 : Int) = 2; omega), if_pos (by show (3 : Int) = 3; rfl)]
  exact ⟨h2, srt_isS hs, rfl, fun _ => ⟨rfl, rfl⟩, fun _ => ⟨rfl, rfl⟩, fun _ => rfl, fun q => (by cases q)⟩
def walkN (rec : List NodeV → Nat → List NodeV × Int) : List NodeV → List Nat → List NodeV × List Int
  | h, [] => (h, [])
  | h, i :: is => ((walkN rec (rec h i).1 is).1, (rec h i).2 :: (walkN rec (rec h i).1 is).2)
noncomputable def trieN (bits : Int) : Nat → List NodeV → List PairV → List NodeV × Int
  | f, h, l => if l = [] then (h, 0) else if l.length = 1 then (h ++ [lfN (pairAt l 0)], (h.length : Int) + 1) else match f with
    | 0 => (h ++ [buckN l], (h.length : Int) + 1)
    | f + 1 => ((walkN (fun g i => trieN bits f g (part bits (lev bits - (f + 1)) l i)) h (usedC bits (lev bits - (f + 1)) l)).1 ++ [bN (maskC bits (lev bits - (f + 1)) l) (walkN (fun g i => trieN bits f g (part bits (lev bits - (f + 1)) l i)) h (usedC bits (lev bits - (f + 1)) l)).2 l.length 0],
      ((walkN (fun g i => trieN bits f g (part bits (lev bits - (f + 1)) l i)) h (usedC bits (lev bits - (f + 1)) l)).1.length : Int) + 1)
noncomputable def trieT (bits : Int) : Nat → List PairV → Shp
  | f, l => if l = [] then .nil else if l.length = 1 then .node (stripV (lfN (pairAt l 0))) [.nil] else match f with
    | 0 => .node (stripV (buckN l)) [.nil]
    | f + 1 => .node (stripV (bN (maskC bits (lev bits - (f + 1)) l) [] l.length 0)) ((usedC bits (lev bits - (f + 1)) l).map (fun i => trieT bits f (part bits (lev bits - (f + 1)) l i)) ++ [.nil])
theorem trieN_nil (bits : Int) (f : Nat) (h : List NodeV) : trieN bits f h [] = (h, 0) := by unfold trieN; rw [if_pos rfl]
theorem trieN_one (bits : Int) (f : Nat) (h : List NodeV) (p : PairV) : trieN bits f h [p] = (h ++ [lfN p], (h.length : Int) + 1) := by
  unfold trieN; rw [if_neg (by simp), if_pos (show [p].length = 1 from rfl)]; rfl
theorem trieN_buck (bits : Int) (h : List NodeV) {l : List PairV} (hl : 2 ≤ l.length) : trieN bits 0 h l = (h ++ [buckN l], (h.length : Int) + 1) := by
  unfold trieN; rw [if_neg (by rintro rfl; cases hl), if_neg (by omega)]
theorem trieN_br (bits : Int) (f : Nat) (h : List NodeV) {l : List PairV} (hl : 2 ≤ l.length) : trieN bits (f + 1) h l = ((walkN (fun g i => trieN bits f g (part bits (lev bits - (f + 1)) l i)) h (usedC bits (lev bits - (f + 1)) l)).1 ++ [bN (maskC bits (lev bits - (f + 1)) l) (walkN (fun g i => trieN bits f g (part bits (lev bits - (f + 1)) l i)) h (usedC bits (lev bits - (f + 1)) l)).2 l.length 0],
      ((walkN (fun g i => trieN bits f g (part bits (lev bits - (f + 1)) l i)) h (usedC bits (lev bits - (f + 1)) l)).1.length : Int) + 1) := by
  rw [trieN, if_neg (by rintro rfl; cases hl), if_neg (by omega)]
theorem trieT_nil (bits : Int) (f : Nat) : trieT bits f [] = .nil := by unfold trieT; rw [if_pos rfl]
theorem trieT_one (bits : Int) (f : Nat) (p : PairV) : trieT bits f [p] = .node (stripV (lfN p)) [.nil] := by
  unfold trieT; rw [if_neg (by simp), if_pos (show [p].length = 1 from rfl)]; rfl
theorem trieT_buck (bits : Int) {l : List PairV} (hl : 2 ≤ l.length) : trieT bits 0 l = .node (stripV (buckN l)) [.nil] := by
  unfold trieT; rw [if_neg (by rintro rfl; cases hl), if_neg (by omega)]
theorem trieT_br (bits : Int) (f : Nat) {l : List PairV} (hl : 2 ≤ l.length) : trieT bits (f + 1) l = .node (stripV (bN (maskC bits (lev bits - (f + 1)) l) [] l.length 0)) ((usedC bits (lev bits - (f + 1)) l).map (fun i => trieT bits f (part bits (lev bits - (f + 1)) l i)) ++ [.nil]) := by
  rw [trieT, if_neg (by rintro rfl; cases hl), if_neg (by omega)]
theorem len_cases (l : List PairV) : l = [] ∨ (∃ p, l = [p]) ∨ 2 ≤ l.length := by
  match l with
  | [] => exact .inl rfl
  | [p] => exact .inr (.inl ⟨p, rfl⟩)
  | a :: b :: r => exact .inr (.inr (by simp))
theorem trieT_ne (bits : Int) (f : Nat) {l : List PairV} (h : l ≠ []) : trieT bits f l ≠ .nil := by
  rcases len_cases l with rfl | ⟨p, rfl⟩ | hl
  · exact absurd rfl h
  · rw [trieT_one]; intro e; cases e
  · cases f with
    | zero => rw [trieT_buck bits hl]; intro e; cases e
    | succ f => rw [trieT_br bits f hl]; intro e; cases e
structure TrieOK (bits : Int) (f : Nat) (h : List NodeV) (l : List PairV) (g : List NodeV) (r : Int) : Prop where
  pre : ∃ new : List NodeV, g = h ++ new ∧ new.length ≤ l.length * (f + 1) ∧ ∀ n ∈ new, okN n
  may : mayH g = true
  r0 : 0 ≤ r
  r1 : r ≤ g.length
  shp : U g r = trieT bits f l
theorem one_more (bits : Int) (f : Nat) {h : List NodeV} {n : NodeV} {l : List PairV} (hm : mayH h = true) (ho : okN n) (hn : mayS n = 0) (hk : allK n = [0]) (hl : 1 ≤ l.length) (hs : trieT bits f l = .node (stripV n) [.nil]) : TrieOK bits f h l (h ++ [n]) ((h.length : Int) + 1) := by
  have hmay := may_more hm hn (fun r hr => by rw [refsS_all, hk] at hr; cases hr)
  refine ⟨⟨[n], rfl, ?_, fun m hm' => by rw [List.mem_singleton.1 hm']; exact ho⟩, hmay, by omega, by rw [List.length_append]; simp only [List.length_cons, List.length_nil]; omega, ?_⟩
  · show 1 ≤ _
    exact Nat.le_trans hl (Nat.le_mul_of_pos_right _ (by omega))
  · rw [U_node hmay (by omega) (by rw [List.length_append]; simp only [List.length_cons, List.length_nil]; omega), getN_last, hk, hs]
    show Shp.node _ [U _ 0] = _
    rw [U_zero]
theorem mul_up (a b f : Nat) : (a + b) * (f + 1) = a * (f + 1) + b * (f + 1) := Nat.add_mul _ _ _
theorem walkN_ok (bits : Int) (f : Nat) (rec : List NodeV → Nat → List NodeV × Int) (q : Nat → List PairV) (hrec : ∀ g i, mayH g = true → q i ≠ [] → (∀ p ∈ q i, okT p) → TrieOK bits f g (q i) (rec g i).1 (rec g i).2) : ∀ (is : List Nat) (h : List NodeV), mayH h = true → (∀ i ∈ is, q i ≠ [] ∧ ∀ p ∈ q i, okT p) →
    ∃ new, (walkN rec h is).1 = h ++ new ∧ new.length ≤ (is.map fun i => (q i).length).sum * (f + 1) ∧ (∀ n ∈ new, okN n) ∧ mayH (walkN rec h is).1 = true ∧ (∀ k ∈ (walkN rec h is).2, 1 ≤ k ∧ k ≤ (walkN rec h is).1.length) ∧ (walkN rec h is).2.map (U (walkN rec h is).1) = is.map (fun i => trieT bits f (q i))
  | [], h, hm, _ => ⟨[], by simp [walkN], by simp, by simp, hm, by simp [walkN], rfl⟩
  | i :: is, h, hm, hq => by
    obtain ⟨hi, hp⟩ := hq i List.mem_cons_self
    have a := hrec h i hm hi hp
    obtain ⟨na, ea, la, oa⟩ := a.pre
    obtain ⟨nb, eb, lb, ob, mb, kb, sb⟩ := walkN_ok bits f rec q hrec is (rec h i).1 a.may (fun j hj => hq j (List.mem_cons_of_mem _ hj))
    unfold walkN
    dsimp only
    generalize hA : rec h i = A at a ea eb mb kb sb ⊢
    generalize hB : walkN rec A.1 is = B at eb mb kb sb ⊢
    have hlen : A.1.length ≤ B.1.length := by rw [eb, List.length_append]; omega
    have hr0 := a.r0
    have hr1 := a.r1
    have hne : A.2 ≠ 0 := by
      intro e
      have := a.shp
      rw [e, U_zero] at this
      exact trieT_ne bits f hi this.symm
    have hU : U B.1 A.2 = trieT bits f (q i) := by
      rw [eb, U_app a.may hr0 hr1]
      exact a.shp
    refine ⟨na ++ nb, by rw [eb, ea, List.append_assoc], ?_, ?_, mb, ?_, ?_⟩
    · rw [List.length_append, List.map_cons, List.sum_cons, mul_up]; omega
    · intro n hn
      rcases List.mem_append.1 hn with hn | hn
      · exact oa n hn
      · exact ob n hn
    · intro k hk
      rcases List.mem_cons.1 hk with rfl | hk
      · exact ⟨by omega, by omega⟩
      · exact kb k hk
    · rw [List.map_cons, List.map_cons, sb, hU]
theorem allK_b (m : Nat) (ks : List Int) (sz bi : Int) : allK (bN m ks sz bi) = ks ++ [0] := rfl
theorem trieN_ok (bits : Int) : ∀ (f : Nat) (h : List NodeV) (l : List PairV), mayH h = true → (∀ p ∈ l, okT p) → Srt l → l.length ≤ 1000000 → TrieOK bits f h l (trieN bits f h l).1 (trieN bits f h l).2 := by
  intro f
  induction f with
  | zero =>
    intro h l hm hb hs hl
    rcases len_cases l with rfl | ⟨p, rfl⟩ | h2
    · rw [trieN_nil]
      exact ⟨⟨[], by simp, by simp, by simp⟩, hm, Int.le_refl _, by show (0 : Int) ≤ _; omega, by rw [U_zero, trieT_nil]⟩
    · rw [trieN_one]
      exact one_more bits 0 hm (lfN_ok (hb p List.mem_cons_self).ok) (lfN_may (hb p List.mem_cons_self)) rfl (Nat.le_refl _) (trieT_one bits 0 p)
    · rw [trieN_buck bits h h2]
      exact one_more bits 0 hm (buckN_ok hl fun p hp => (hb p hp).ok) (buckN_may h2 hs hb) rfl (by omega) (trieT_buck bits h2)
  | succ f ih =>
    intro h l hm hb hs hl
    rcases len_cases l with rfl | ⟨p, rfl⟩ | h2
    · rw [trieN_nil]
      exact ⟨⟨[], by simp, by simp, by simp⟩, hm, Int.le_refl _, by show (0 : Int) ≤ _; omega, by rw [U_zero, trieT_nil]⟩
    · rw [trieN_one]
      exact one_more bits (f + 1) hm (lfN_ok (hb p List.mem_cons_self).ok) (lfN_may (hb p List.mem_cons_self)) rfl (Nat.le_refl _) (trieT_one bits _ p)
    · rw [trieN_br bits f h h2]
      generalize hlv : lev bits - (f + 1) = level
      obtain ⟨new, e, ln, on, mn, kn, sn⟩ := walkN_ok bits f (fun g i => trieN bits f g (part bits level l i)) (part bits level l) (fun g i hg hi hp => ih g (part bits level l i) hg hp (part_srt hs i) (by have := part_len bits level l i; omega)) (usedC bits level l) h hm (fun i hi => ⟨(usedC_mem.1 hi).2, fun p hp => hb p (part_sub hp)⟩)
      rw [parts_sum] at ln
      generalize walkN (fun g i => trieN bits f g (part bits level l i)) h (usedC bits level l) = W at e mn kn sn ⊢
      have hW : W.2.length = cnt 32 (maskC bits level l) := by
        have := congrArg List.length sn
        rw [List.length_map, List.length_map] at this
        rw [this, cnt_all, allL_maskC]
      have hB : okB (maskC bits level l) W.2 (l.length : Int) 0 := ⟨maskC_lt _ _ _, hW, fun k hk => by have := kn k hk; omega, by omega, Int.le_refl _⟩
      have hmay := may_more mn hB.may (fun r hr => by
        rw [refsS_all, allK_b] at hr
        obtain ⟨hr1, hr2⟩ := List.mem_filter.1 hr
        rcases List.mem_append.1 hr1 with hr1 | hr1
        · exact kn r hr1
        · rw [List.mem_singleton] at hr1; subst hr1; simp at hr2)
      refine ⟨⟨new ++ [bN (maskC bits level l) W.2 l.length 0], by rw [e, List.append_assoc], ?_, ?_⟩, hmay, by omega, by rw [List.length_append]; simp only [List.length_cons, List.length_nil]; omega, ?_⟩
      · rw [List.length_append]
        simp only [List.length_cons, List.length_nil]
        have : l.length * (f + 1 + 1) = l.length * (f + 1) + l.length := Nat.mul_succ _ _
        omega
      · intro n hn
        rcases List.mem_append.1 hn with hn | hn
        · exact on n hn
        · rw [List.mem_singleton.1 hn]; exact hB.node
      · rw [U_node hmay (by omega) (by rw [List.length_append]; simp only [List.length_cons, List.length_nil]; omega), getN_last, allK_b, trieT_br bits f h2, hlv, List.map_append]
        have e2 : W.2.map (U (W.1 ++ [bN (maskC bits level l) W.2 l.length 0])) = W.2.map (U W.1) := List.map_congr_left fun k hk => U_app mn (by have := kn k hk; omega) (kn k hk).2
        rw [e2, sn]
        show Shp.node _ (_ ++ [U _ 0]) = _
        rw [U_zero]
        rfl
end Go.Proofs.YtjekopgcpikkiaaGreatDoor.AM
set_option linter.unusedVariables false
set_option linter.unusedSimpArgs false
namespace Go.Proofs.YtjekopgcpikkiaaGreatDoor.AM
open Go.Abs
theorem chunk20_any (k : ByteArray) (hk : k.size ≤ 40) (level : Nat) (hl : level ≤ 50000000) (bits : Int) : ref20_chunk k (level : Int) bits = some ((ck bits level k : Nat) : Int) := by
  rw [ref20_chunk.eq, refof_any k bits (by omega), bnd_some, refchunk_any _ (hash_lt64 k bits) _ _ (by omega), bnd_some, if_neg (by omega), Int.toNat_natCast]
  rfl
theorem part_drop (bits : Int) (level : Nat) (l : List PairV) (i k : Nat) (h : k < l.length) : part bits level (l.drop k) i = if ck bits level l[k].1 = i then l[k] :: part bits level (l.drop (k + 1)) i else part bits level (l.drop (k + 1)) i := by
  unfold part
  rw [List.drop_eq_getElem_cons h]
  by_cases e : ck bits level l[k].1 = i
  · rw [if_pos e, List.filter_cons_of_pos (by simpa using e)]
  · rw [if_neg e, List.filter_cons_of_neg (by simpa using e)]
theorem m1_l1 (bits : Int) (l : List PairV) (hl : l.length ≤ 50000000) (hb : ∀ p ∈ l, okP p) (level : Nat) (hv : level ≤ 50000000) (one : Int) (i : Nat) (h : List NodeV) (x7) (d : Nat) : ∀ (k : Nat) (acc : List PairV), k ≤ l.length → l.length - k = d → acc.length ≤ k →
    ref20_make1.l1 bits l (level : Int) one (i : Int) (k : Int) h x7 acc = ref20_make1.l1 bits l (level : Int) one (i : Int) (l.length : Int) h x7 (acc ++ part bits level (l.drop k) i) := by
  induction d with
  | zero =>
    intro k acc h1 h2 h3
    rw [show k = l.length by omega, List.drop_length]
    show _ = ref20_make1.l1 _ _ _ _ _ _ _ _ (acc ++ [])
    rw [List.append_nil]
  | succ d ih =>
    intro k acc h1 h2 h3
    have hk : k < l.length := by omega
    conv => lhs; rw [ref20_make1.l1.eq]
    simp only [ltI_d, leI_d, ofN_d, lenL_d, andB_d, br_if]
    rw [if_pos (by omega), if_pos (by omega), ixP l k hk, chunk20_any _ (hb _ (List.getElem_mem hk)).1 level hv bits, bnd_some, part_drop bits level l i k hk]
    simp only [eqI_d, fitL_d, appL_d, br_if]
    rw [add1 k (by omega)]
    by_cases e : ck bits level l[k].1 = i
    · rw [if_pos (by omega), if_pos (by omega), if_pos (by rw [List.length_append]; simp only [List.length_cons, List.length_nil]; omega), if_pos e, ih (k + 1) _ (by omega) (by omega) (by rw [List.length_append]; simp only [List.length_cons, List.length_nil]; omega), List.append_assoc]
      rfl
    · rw [if_neg (by omega), if_neg e, ih (k + 1) _ (by omega) (by omega) (by omega)]
theorem m1_l3 (bits : Int) (l : List PairV) (hl : l.length ≤ 50000000) (hb : ∀ p ∈ l, okP p) (level : Nat) (hv : level ≤ 50000000) (one : Int) (i : Nat) (h : List NodeV) (x7) (ks : List Int) (d : Nat) : ∀ (k : Nat) (acc : List PairV), k ≤ l.length → l.length - k = d → acc.length ≤ k →
    ref20_make1.l3 bits l (level : Int) one (i : Int) (k : Int) h x7 acc ks = ref20_make1.l3 bits l (level : Int) one (i : Int) (l.length : Int) h x7 (acc ++ part bits level (l.drop k) i) ks := by
  induction d with
  | zero =>
    intro k acc h1 h2 h3
    rw [show k = l.length by omega, List.drop_length]
    show _ = ref20_make1.l3 _ _ _ _ _ _ _ _ (acc ++ []) _
    rw [List.append_nil]
  | succ d ih =>
    intro k acc h1 h2 h3
    have hk : k < l.length := by omega
    conv => lhs; rw [ref20_make1.l3.eq]
    simp only [ltI_d, leI_d, ofN_d, lenL_d, andB_d, br_if]
    rw [if_pos (by omega), if_pos (by omega), ixP l k hk, chunk20_any _ (hb _ (List.getElem_mem hk)).1 level hv bits, bnd_some, part_drop bits level l i k hk]
    simp only [eqI_d, fitL_d, appL_d, br_if]
    rw [add1 k (by omega)]
    by_cases e : ck bits level l[k].1 = i
    · rw [if_pos (by omega), if_pos (by omega), if_pos (by rw [List.length_append]; simp only [List.length_cons, List.length_nil]; omega), if_pos e, ih (k + 1) _ (by omega) (by omega) (by rw [List.length_append]; simp only [List.length_cons, List.length_nil]; omega), List.append_assoc]
      rfl
    · rw [if_neg (by omega), if_neg e, ih (k + 1) _ (by omega) (by omega) (by omega)]
noncomputable def usedFrom (bits : Int) (level : Nat) (l : List PairV) (i : Nat) : List Nat := (List.range' i (32 - i)).filter fun j => !(part bits level l j).isEmpty
theorem usedFrom_0 (bits : Int) (level : Nat) (l : List PairV) : usedFrom bits level l 0 = usedC bits level l := by
  unfold usedFrom usedC
  rw [List.range_eq_range']
theorem usedFrom_end (bits : Int) (level : Nat) (l : List PairV) : usedFrom bits level l 32 = [] := rfl
theorem usedFrom_step (bits : Int) (level : Nat) (l : List PairV) (i : Nat) (h : i < 32) : usedFrom bits level l i = if part bits level l i = [] then usedFrom bits level l (i + 1) else i :: usedFrom bits level l (i + 1) := by
  unfold usedFrom
  rw [show 32 - i = (32 - (i + 1)) + 1 by omega, List.range'_succ]
  cases hp : part bits level l i with
  | nil => rw [if_pos rfl, List.filter_cons_of_neg (by simp [hp])]
  | cons a b => rw [if_neg (by simp), List.filter_cons_of_pos (by simp [hp])]
theorem walkN_cons (rec : List NodeV → Nat → List NodeV × Int) (h : List NodeV) (i : Nat) (is : List Nat) : walkN rec h (i :: is) = ((walkN rec (rec h i).1 is).1, (rec h i).2 :: (walkN rec (rec h i).1 is).2) := rfl
def brX (m : Nat) (size : Int) : Int × ByteArray × ByteArray × Int × Unit × Int × Unit × Int × Int × Unit := (2, (ByteArray.empty, (ByteArray.empty, ((m : Int), ((), (0, ((), (size, (0, ())))))))))
theorem one_step (j : Nat) (hj : j < 32) : mulI .u32 2 ((2 ^ j % 4294967296 : Nat) : Int) = ((2 ^ (j + 1) % 4294967296 : Nat) : Int) := by
  have hp := pow_lt32 hj
  unfold mulI
  rw [Nat.pow_succ, IntKind.wrap_u32]
  generalize 2 ^ j = q at hp ⊢
  omega
theorem mask_step (u : List Int) (j : Nat) (hj : j < 32) (hu : (j : Int) ∈ u) : addI .u32 (makeL u j : Int) ((2 ^ j % 4294967296 : Nat) : Int) = ((makeL u (j + 1) : Nat) : Int) := by
  have hp := pow_lt32 hj
  have h1 := makeL_lt u j
  have h2 : 2 ^ j * 2 ≤ 4294967296 := by
    have := Nat.pow_le_pow_right (n := 2) (by omega) (show j + 1 ≤ 32 by omega)
    rw [Nat.pow_succ] at this
    exact this
  have h3 : makeL u (j + 1) = makeL u j + 2 ^ j := by
    rw [makeL, if_pos hu]
  rw [h3]
  unfold addI
  rw [IntKind.wrap_u32]
  generalize 2 ^ j = q at hp h1 h2 ⊢
  omega
theorem mask_same (u : List Int) (j : Nat) (hu : (j : Int) ∉ u) : makeL u (j + 1) = makeL u j := by
  rw [makeL, if_neg hu, Nat.add_zero]
structure MkOK (f : Nat) (h : List NodeV) (l : List PairV) : Prop where
  may : mayH h = true
  txt : ∀ p ∈ l, okT p
  srt : Srt l
  len : l.length ≤ 1000000
  fits : h.length + l.length * (f + 1) ≤ 40000000
noncomputable abbrev usedI (bits : Int) (level : Nat) (l : List PairV) : List Int := (usedC bits level l).map fun i : Nat => (i : Int)
theorem usedI_mem {bits : Int} {level : Nat} {l : List PairV} {i : Nat} (hi : i < 32) : (i : Int) ∈ usedI bits level l ↔ part bits level l i ≠ [] := by
  rw [List.mem_map]
  constructor
  · rintro ⟨a, ha, e⟩
    have : a = i := by omega
    exact this ▸ (usedC_mem.1 ha).2
  · intro h
    exact ⟨i, usedC_mem.2 ⟨hi, h⟩, rfl⟩
theorem brX_add (m m' : Nat) (one : Int) (sz : Int) (h : addI .u32 (m : Int) one = (m' : Int)) : ((brX m sz).1, ((brX m sz).2.1, ((brX m sz).2.2.1, (addI .u32 (brX m sz).2.2.2.1 one, (brX m sz).2.2.2.2)))) = brX m' sz := by
  unfold brX
  dsimp only
  rw [h]
section
variable (bits : Int) (f : Nat) (l : List PairV) (hf : f + 1 ≤ lev bits) (hb : ∀ p ∈ l, okT p) (hS : Srt l) (hl : l.length ≤ 1000000)
  (ih : ∀ (h : List NodeV) (q : List PairV), MkOK f h q → ref20_make1 bits q ((lev bits - f : Nat) : Int) h = some (((), ((trieN bits f h q).2, ())), ((trieN bits f h q).1, ())))
include hf hb hS hl ih
theorem m1_l2 (d : Nat) : ∀ (i : Nat) (h : List NodeV) (ks : List Int), i ≤ 32 → 32 - i = d → ks.length ≤ i → mayH h = true → h.length + ((usedFrom bits (lev bits - (f + 1)) l i).map fun j => (part bits (lev bits - (f + 1)) l j).length).sum * (f + 1) + 1 ≤ 40000000 →
    ref20_make1.l2 bits l ((lev bits - (f + 1) : Nat) : Int) ((2 ^ i % 4294967296 : Nat) : Int) (i : Int) h (brX (makeL (usedI bits (lev bits - (f + 1)) l) i) l.length) ks =
      some (((), (((walkN (fun g i => trieN bits f g (part bits (lev bits - (f + 1)) l i)) h (usedFrom bits (lev bits - (f + 1)) l i)).1.length : Int) + 1, ())), ((walkN (fun g i => trieN bits f g (part bits (lev bits - (f + 1)) l i)) h (usedFrom bits (lev bits - (f + 1)) l i)).1 ++ [bN (maskC bits (lev bits - (f + 1)) l) (ks ++ (walkN (fun g i => trieN bits f g (part bits (lev bits - (f + 1)) l i)) h (usedFrom bits (lev bits - (f + 1)) l i)).2) l.length 0], ())) := by
  have hlev := lev_le bits
  induction d with
  | zero =>
    intro i h ks h1 h2 h3 hm hlen
    have : i = 32 := by omega
    subst this
    rw [usedFrom_end] at hlen ⊢
    rw [ref20_make1.l2.eq]
    simp only [ltI_d, fitL_d, appL_d, ofN_d, lenL_d, br_if]
    rw [if_neg (by omega), if_pos (by rw [List.length_append]; simp only [List.length_cons, List.length_nil]; simp only [List.map_nil, List.sum_nil] at hlen; omega)]
    show some (((), ((((h ++ [_]).length : Nat) : Int), ())), (h ++ [_], ())) = some (((), ((h.length : Int) + 1, ())), (h ++ [bN _ (ks ++ []) _ _], ()))
    rw [List.append_nil, List.length_append]
    rfl
  | succ d ihd =>
    intro i h ks h1 h2 h3 hm hlen
    have hi : i < 32 := by omega
    generalize hlv : lev bits - (f + 1) = level at hlen ihd ⊢
    have hlf : lev bits - f = level + 1 := by omega
    rw [hlf] at ih
    rw [ref20_make1.l2.eq]
    simp only [ltI_d, br_if]
    rw [if_pos (by omega)]
    have e3 := m1_l3 bits l (by omega) (fun p hp => (hb p hp).ok) level (by omega) ((2 ^ i % 4294967296 : Nat) : Int) i h (brX (makeL (usedI bits level l) i) l.length) ks l.length 0 [] (by omega) (by omega) (by simp)
    rw [List.nil_append, List.drop_zero] at e3
    rw [show ((0 : Nat) : Int) = 0 from rfl] at e3
    rw [e3, ref20_make1.l3.eq]
    simp only [ltI_d, lenL_d, ofN_d, br_if]
    rw [if_neg (by omega), one_step i hi, add1 i (by omega)]
    rw [usedFrom_step bits level l i hi] at hlen ⊢
    by_cases hp : part bits level l i = []
    · rw [if_pos hp] at hlen ⊢
      rw [if_neg (by rw [hp]; show ¬ (0 : Int) < ((0 : Nat) : Int); omega)]
      have := ihd (i + 1) h ks (by omega) (by omega) (by omega) hm hlen
      rw [mask_same _ i (fun q => (usedI_mem hi).1 q hp)] at this
      exact this
    · rw [if_neg hp] at hlen ⊢
      rw [List.map_cons, List.sum_cons, mul_up] at hlen
      have hpl : 0 < (part bits level l i).length := List.length_pos_iff.2 hp
      have hpm : (part bits level l i).length ≤ l.length := part_len _ _ _ _
      have ok : MkOK f h (part bits level l i) := ⟨hm, fun p hp => hb p (part_sub hp), part_srt hS i, by omega, by omega⟩
      have T := trieN_ok bits f h (part bits level l i) hm ok.txt ok.srt ok.len
      obtain ⟨new, en, ln, _⟩ := T.pre
      rw [if_pos (by omega), add1 level (by omega), ih h _ ok, bnd_some, walkN_cons]
      dsimp only
      simp only [fitL_d, appL_d, br_if]
      rw [if_pos (by rw [List.length_append]; simp only [List.length_cons, List.length_nil]; omega)]
      have := ihd (i + 1) (trieN bits f h (part bits level l i)).1 (ks ++ [(trieN bits f h (part bits level l i)).2]) (by omega) (by omega) (by rw [List.length_append]; simp only [List.length_cons, List.length_nil]; omega) T.may (by rw [en, List.length_append]; omega)
      rw [brX_add _ _ _ _ (mask_step _ i hi ((usedI_mem hi).2 hp))]
      rw [List.append_assoc] at this
      exact this
theorem m1_l0 (d : Nat) : ∀ (i : Nat) (h : List NodeV), i ≤ 32 → 32 - i = d → mayH h = true → h.length + ((usedFrom bits (lev bits - (f + 1)) l i).map fun j => (part bits (lev bits - (f + 1)) l j).length).sum * (f + 1) + 1 ≤ 40000000 →
    ref20_make1.l0 bits l ((lev bits - (f + 1) : Nat) : Int) ((2 ^ i % 4294967296 : Nat) : Int) (i : Int) h (brX (makeL (usedI bits (lev bits - (f + 1)) l) i) l.length) =
      some (((), (((walkN (fun g i => trieN bits f g (part bits (lev bits - (f + 1)) l i)) h (usedFrom bits (lev bits - (f + 1)) l i)).1.length : Int) + 1, ())), ((walkN (fun g i => trieN bits f g (part bits (lev bits - (f + 1)) l i)) h (usedFrom bits (lev bits - (f + 1)) l i)).1 ++ [bN (maskC bits (lev bits - (f + 1)) l) (walkN (fun g i => trieN bits f g (part bits (lev bits - (f + 1)) l i)) h (usedFrom bits (lev bits - (f + 1)) l i)).2 l.length 0], ())) := by
  have hlev := lev_le bits
  induction d with
  | zero =>
    intro i h h1 h2 hm hlen
    have : i = 32 := by omega
    subst this
    rw [usedFrom_end] at hlen ⊢
    rw [ref20_make1.l0.eq]
    simp only [ltI_d, fitL_d, appL_d, ofN_d, lenL_d, br_if]
    rw [if_neg (by omega), if_pos (by rw [List.length_append]; simp only [List.length_cons, List.length_nil]; simp only [List.map_nil, List.sum_nil] at hlen; omega)]
    show some (((), ((((h ++ [_]).length : Nat) : Int), ())), (h ++ [_], ())) = some (((), ((h.length : Int) + 1, ())), (h ++ [bN _ [] _ _], ()))
    rw [List.length_append]
    rfl
  | succ d ihd =>
    intro i h h1 h2 hm hlen
    have hi : i < 32 := by omega
    have L2 := m1_l2 bits f l hf hb hS hl ih d
    generalize hlv : lev bits - (f + 1) = level at hlen ihd L2 ⊢
    have hlf : lev bits - f = level + 1 := by omega
    rw [hlf] at ih
    rw [ref20_make1.l0.eq]
    simp only [ltI_d, br_if]
    rw [if_pos (by omega)]
    have e3 := m1_l1 bits l (by omega) (fun p hp => (hb p hp).ok) level (by omega) ((2 ^ i % 4294967296 : Nat) : Int) i h (brX (makeL (usedI bits level l) i) l.length) l.length 0 [] (by omega) (by omega) (by simp)
    rw [List.nil_append, List.drop_zero] at e3
    rw [show ((0 : Nat) : Int) = 0 from rfl] at e3
    rw [e3, ref20_make1.l1.eq]
    simp only [ltI_d, lenL_d, ofN_d, br_if]
    rw [if_neg (by omega), one_step i hi, add1 i (by omega)]
    rw [usedFrom_step bits level l i hi] at hlen ⊢
    by_cases hp : part bits level l i = []
    · rw [if_pos hp] at hlen ⊢
      rw [if_neg (by rw [hp]; show ¬ (0 : Int) < ((0 : Nat) : Int); omega)]
      have := ihd (i + 1) h (by omega) (by omega) hm hlen
      rw [mask_same _ i (fun q => (usedI_mem hi).1 q hp)] at this
      exact this
    · rw [if_neg hp] at hlen ⊢
      rw [List.map_cons, List.sum_cons, mul_up] at hlen
      have hpl : 0 < (part bits level l i).length := List.length_pos_iff.2 hp
      have hpm : (part bits level l i).length ≤ l.length := part_len _ _ _ _
      have ok : MkOK f h (part bits level l i) := ⟨hm, fun p hp => hb p (part_sub hp), part_srt hS i, by omega, by omega⟩
      have T := trieN_ok bits f h (part bits level l i) hm ok.txt ok.srt ok.len
      obtain ⟨new, en, ln, _⟩ := T.pre
      rw [if_pos (by omega), add1 level (by omega), ih h _ ok, bnd_some, walkN_cons]
      dsimp only
      simp only [fitL_d, appL_d, br_if]
      rw [if_pos (by simp only [List.length_cons, List.length_nil]; omega)]
      have := L2 (i + 1) (trieN bits f h (part bits level l i)).1 [(trieN bits f h (part bits level l i)).2] (by omega) (by omega) (by simp only [List.length_cons, List.length_nil]; omega) T.may (by rw [en, List.length_append]; omega)
      rw [brX_add _ _ _ _ (mask_step _ i hi ((usedI_mem hi).2 hp))]
      exact this
end
theorem make1_any (bits : Int) : ∀ (f : Nat) (h : List NodeV) (l : List PairV), f ≤ lev bits → MkOK f h l → ref20_make1 bits l ((lev bits - f : Nat) : Int) h = some (((), ((trieN bits f h l).2, ())), ((trieN bits f h l).1, ())) := by
  have hlev := lev_le bits
  have one : ∀ (f : Nat) (h : List NodeV) (p : PairV), MkOK f h [p] → ref20_make1 bits [p] ((lev bits - f : Nat) : Int) h = some (((), ((trieN bits f h [p]).2, ())), ((trieN bits f h [p]).1, ())) := fun f h p ok => by
    have := ok.fits
    simp only [List.length_cons, List.length_nil] at this
    rw [trieN_one, ref20_make1.eq]
    simp only [ltI_d, leI_d, eqI_d, andB_d, fitL_d, appL_d, lenL_d, ofN_d, br_if, both_self]
    have e : ixL tapiPair [p] (0 : Int) = p := rfl
    rw [if_neg (by simp), if_pos (by simp), if_pos (by simp), if_pos (by simp), e, if_pos (by rw [List.length_append]; simp only [List.length_cons, List.length_nil]; omega), List.length_append]
    rfl
  intro f
  induction f with
  | zero =>
    intro h l hf ok
    rcases len_cases l with rfl | ⟨p, rfl⟩ | h2
    · rw [trieN_nil, ref20_make1.eq]; rfl
    · exact one 0 h p ok
    · have := ok.fits
      rw [trieN_buck bits h h2, ref20_make1.eq]
      simp only [leI_d, eqI_d, fitL_d, appL_d, lenL_d, ofN_d, br_if]
      rw [if_neg (by omega), if_neg (by omega), reflevels_any, bnd_some, if_pos (by omega), if_pos (by rw [List.length_append]; simp only [List.length_cons, List.length_nil]; omega), List.length_append]
      rfl
  | succ f ih =>
    intro h l hf ok
    rcases len_cases l with rfl | ⟨p, rfl⟩ | h2
    · rw [trieN_nil, ref20_make1.eq]; rfl
    · exact one (f + 1) h p ok
    · have hfit := ok.fits
      rw [Nat.mul_succ] at hfit
      rw [trieN_br bits f h h2, ref20_make1.eq]
      simp only [leI_d, eqI_d, fitL_d, appL_d, lenL_d, ofN_d, br_if]
      rw [if_neg (by omega), if_neg (by omega), reflevels_any, bnd_some, if_neg (by omega)]
      have := m1_l0 bits f l hf ok.txt ok.srt ok.len (fun h q o => ih h q (by omega) o) 32 0 h (by omega) (by omega) ok.may (by rw [usedFrom_0, parts_sum]; omega)
      rw [usedFrom_0] at this
      exact this
noncomputable def trieH (bits : Int) (l : List PairV) : List NodeV := (trieN bits (lev bits) [] (makeS l)).1
noncomputable def trieR (bits : Int) (l : List PairV) : Int := (trieN bits (lev bits) [] (makeS l)).2
theorem make_trie (bits : Int) (l : List PairV) (hl : l.length ≤ 40000000) (hm : (makeS l).length ≤ 1000000) (hb : ∀ p ∈ l, okP p) (ht : ∀ p ∈ makeS l, okT p) : ref20_Make bits l = some (trieH bits l, (trieR bits l, ())) ∧ TrieOK bits (lev bits) [] (makeS l) (trieH bits l) (trieR bits l) ∧ okH (trieH bits l) := by
  have hlev := lev_le bits
  have hfit : (makeS l).length * (lev bits + 1) ≤ 1000000 * 14 := Nat.mul_le_mul hm (by omega)
  have T := trieN_ok bits (lev bits) [] (makeS l) rfl ht (makeS_Srt l) hm
  obtain ⟨new, e, h1, h2⟩ := T.pre
  rw [List.nil_append] at e
  refine ⟨?_, T, ⟨by show (trieN bits (lev bits) [] (makeS l)).1.length ≤ _; rw [e]; omega, fun n hn => h2 n (e ▸ hn), kids_rng T.may (by show (trieN bits (lev bits) [] (makeS l)).1.length ≤ _; rw [e]; omega)⟩⟩
  rw [ref20_Make.eq, refmake_any l hl hb, bnd_some]
  have := make1_any bits (lev bits) [] (makeS l) (Nat.le_refl _) ⟨rfl, ht, makeS_Srt l, hm, by show 0 + _ ≤ _; omega⟩
  rw [Nat.sub_self] at this
  rw [show (0 : Int) = ((0 : Nat) : Int) from rfl, this, bnd_some]
  rfl
def longL (l : List PairV) : Bool := (makeS l).any fun p => decide (16 < p.1.size) || decide (16 < p.2.1.size)
theorem rlong20_loop (l : List PairV) (hl : l.length ≤ 50000000) (d : Nat) : ∀ (k : Nat), k ≤ l.length → l.length - k = d → ref20_Long.l0 l (k : Int) = some ((l.drop k).any fun p => decide (16 < p.1.size) || decide (16 < p.2.1.size)) := by
  induction d with
  | zero =>
    intro k h1 h2
    rw [ref20_Long.l0.eq]
    simp only [ltI_d, lenL_d, ofN_d, br_if]
    rw [if_neg (by omega), List.drop_eq_nil_of_le (by omega)]
    rfl
  | succ d ih =>
    intro k h1 h2
    have hk : k < l.length := by omega
    rw [ref20_Long.l0.eq]
    simp only [ltI_d, leI_d, andB_d, lenL_d, lenS_d, ofN_d, br_if]
    have hb : (0 : Int) ≤ (k : Int) ∧ (k : Int) < (l.length : Int) := by omega
    simp only [if_pos hb]
    rw [if_pos (by omega), ixP l k hk, List.drop_eq_getElem_cons hk, List.any_cons, add1 k (by omega), ih (k + 1) (by omega) (by omega)]
    by_cases e1 : 16 < l[k].1.size
    · rw [if_pos (by omega), decide_eq_true e1]; rfl
    · rw [if_neg (by omega), decide_eq_false e1]
      by_cases e2 : 16 < l[k].2.1.size
      · rw [if_pos (by omega), decide_eq_true e2]; rfl
      · rw [if_neg (by omega), decide_eq_false e2]; rfl
theorem rlong20_any (l : List PairV) (hl : l.length ≤ 40000000) (hm : (makeS l).length ≤ 50000000) (hb : ∀ p ∈ l, okP p) : ref20_Long l = some (longL l) := by
  rw [ref20_Long.eq, refmake_any l hl hb, bnd_some]
  have := rlong20_loop (makeS l) hm (makeS l).length 0 (by omega) (by omega)
  rw [List.drop_zero] at this
  exact this
theorem longL_not {l : List PairV} (h : longL l = false) : ∀ p ∈ makeS l, okT p := by
  intro p hp
  unfold longL at h
  rw [List.any_eq_false] at h
  have := h p hp
  simp only [Bool.or_eq_true, decide_eq_true_eq] at this
  exact ⟨by omega, by omega⟩
end Go.Proofs.YtjekopgcpikkiaaGreatDoor.AM
set_option linter.unusedVariables false
set_option linter.unusedSimpArgs false
namespace Go.Proofs.YtjekopgcpikkiaaGreatDoor.AM
open Go.Abs
theorem withC_m (m : Nat) (hm : m < 4294967296) (i : Int) : mask_With m i = some (withM m i : Int) := by
  rw [mask_With.eq, in_any, bnd_some]
  simp only [leI_d, notB_d, br_if]
  unfold withM
  by_cases h : 0 ≤ i ∧ i < 32
  · rw [if_neg (by omega), if_pos h.1, if_pos h]
    have hi : i = ((i.toNat : Nat) : Int) := by omega
    have hlt : i.toNat < 32 := by omega
    generalize i.toNat = k at hi hlt
    subst hi
    rw [shl_one k hlt, or_u32 _ _ hm (pow_lt32 hlt)]
  · rw [if_pos h, if_neg h]
def nextV : List Int → Int × Bool × Unit
  | [] => (0, (false, ()))
  | c :: _ => (c, (true, ()))
theorem next_m (m : Nat) (hm : m < 4294967296) (i : Int) (h1 : -1 ≤ i) (h2 : i ≤ 1000) : mask_Next m i = some (nextV ((allI m).filter (fun x => decide (i < x)))) := by
  rw [mask_Next.eq]
  simp only [leI_d, br_if]
  by_cases h : 31 ≤ i
  · have e : (allI m).filter (fun x => decide (i < x)) = [] := List.filter_eq_nil_iff.2 fun x hx => by
      obtain ⟨j, hj, _, rfl⟩ := allI_mem.1 hx
      simp only [decide_eq_true_eq]
      omega
    rw [if_pos h, e]
    rfl
  · have hadd : addI .i64 i 1 = i + 1 := wrap_i64_id (by omega) (by omega)
    rw [if_neg h, hadd, below_any, bnd_some, andNot_u32 m (low (i + 1)) hm (low_lt _)]
    have hx : m &&& (4294967295 - low (i + 1)) < 4294967296 := Nat.lt_of_le_of_lt Nat.and_le_left hm
    have hcl : cl (i + 1) = (i + 1).toNat := by unfold cl; omega
    have hbit : ∀ j, (m &&& (4294967295 - low (i + 1))).testBit j = (m.testBit j && (decide (j < 32) && !decide (j < (i + 1).toNat))) := by
      intro j
      rw [Nat.testBit_and, not_bit _ (low_lt _), low_bit, hcl]
    revert hx hbit
    generalize m &&& (4294967295 - low (i + 1)) = x
    intro hx hbit
    simp only [eqI_d, br_if]
    by_cases h0 : x = 0
    · have e : (allI m).filter (fun x => decide (i < x)) = [] := List.filter_eq_nil_iff.2 fun y hy => by
        obtain ⟨j, hj, hb, rfl⟩ := allI_mem.1 hy
        have := hbit j
        rw [h0, Nat.zero_testBit, hb, decide_eq_true hj, Bool.true_and, Bool.true_and] at this
        simp only [decide_eq_true_eq]
        have : j < (i + 1).toNat := by simpa using this.symm
        omega
      rw [if_pos (by omega), e]
      rfl
    · rw [if_neg (by omega), math_bits_TrailingZeros32.eq]
      simp only [leI_d, ltI_d, andB_d, br_if]
      rw [if_pos ⟨by omega, by omega⟩, bnd_some]
      obtain ⟨b1, b2, b3⟩ := ctz_bit h0 hx
      have hb := hbit (Lib.ctz 32 x)
      rw [b1] at hb
      have hb := hb.symm
      simp only [Bool.and_eq_true, decide_eq_true_eq, Bool.not_eq_true', decide_eq_false_iff_not] at hb
      obtain ⟨rest, e⟩ := filter_first (allI_sorted m) (p := fun x => decide (i < x)) (c := ((Lib.ctz 32 x : Nat) : Int)) (allI_mem.2 ⟨_, b2, hb.1, rfl⟩) (by simp only [decide_eq_true_eq]; omega) (fun y hy hlt => by
        obtain ⟨j, hj, hm', rfl⟩ := allI_mem.1 hy
        have h3 := b3 j (by omega)
        rw [hbit j, hm', decide_eq_true hj, Bool.true_and, Bool.true_and] at h3
        have : j < (i + 1).toNat := by simpa using h3
        simp only [decide_eq_false_iff_not]
        omega)
      rw [e]
      rfl
theorem all_loop (m : Nat) (hm : m < 4294967296) : ∀ (rest : List Int) (i : Int) (acc : List Int), -1 ≤ i → i ≤ 1000 → (allI m).filter (fun x => decide (i < x)) = rest → acc.length + rest.length ≤ 1000 → mask_All.l0 m i acc = some (acc ++ rest)
  | [], i, acc, h1, h2, hr, hl => by
    rw [mask_All.l0.eq, next_m m hm i h1 h2, hr, bnd_some]
    show some acc = some (acc ++ [])
    rw [List.append_nil]
  | c :: rest, i, acc, h1, h2, hr, hl => by
    have hc : c ∈ allI m := (List.mem_filter.1 (hr ▸ List.mem_cons_self : c ∈ (allI m).filter (fun x => decide (i < x)))).1
    obtain ⟨j, hj, _, e⟩ := allI_mem.1 hc
    simp only [List.length_cons] at hl
    rw [mask_All.l0.eq, next_m m hm i h1 h2, hr, bnd_some]
    show br (fitL (.int .i64) (acc ++ [c])) (mask_All.l0 m c (acc ++ [c])) none = _
    rw [fitL_d, br_if, if_pos (by simp; omega), all_loop m hm rest c (acc ++ [c]) (by omega) (by omega) (sorted_tail (allI_sorted m) hr) (by simp; omega), List.append_assoc]
    rfl
theorem all_m (m : Nat) (hm : m < 4294967296) : mask_All m = some (allI m) := by
  have hl : (allI m).length ≤ 32 := by rw [allI_len]; exact cnt_le 32 m
  have e : (allI m).filter (fun x => decide (-1 < x)) = allI m := List.filter_eq_self.2 fun x hx => by
    obtain ⟨j, _, _, rfl⟩ := allI_mem.1 hx
    simp only [decide_eq_true_eq]
    omega
  rw [mask_All.eq, all_loop m hm (allI m) (-1) [] (by omega) (by omega) e (by simp; omega)]
  rfl
noncomputable def partF (bits : Int) (level : Nat) (l : List PairV) : Int → List PairV := fun i => l.filter fun p => decide (((ck bits level p.1 : Nat) : Int) = i)
noncomputable def maskF (bits : Int) (level : Nat) : List PairV → Nat → Nat
  | [], s => s
  | p :: l, s => maskF bits level l (withM s ((ck bits level p.1 : Nat) : Int))
theorem go_any (bits : Int) (level : Nat) (hv : level ≤ 50000000) : ∀ (l : List PairV) (m : Int → List PairV) (s : Nat), (∀ p ∈ l, okP p) → s < 4294967296 →
    tM_parted.go (level : Int) bits l m (s : Int) = some (fun i => m i ++ partF bits level l i, ((maskF bits level l s : Nat) : Int))
  | [], m, s, _, _ => by
    rw [tM_parted.fin]
    have : (fun i => m i ++ partF bits level [] i) = m := by funext i; exact List.append_nil _
    rw [this]
    rfl
  | p :: l, m, s, ho, hs => by
    have h1 := ho p List.mem_cons_self
    rw [tM_parted.step, hashof_any p.1 bits (by have := h1.1; omega), bnd_some, chunk_any _ (hash_lt64 _ _) _ _ (by omega), bnd_some, if_neg (by omega), Int.toNat_natCast]
    rw [withC_m s hs, bnd_some, go_any bits level hv l _ _ (fun q hq => ho q (List.mem_cons_of_mem _ hq)) (withM_lt hs _)]
    have : (fun i => putM tapiPair m ((chunkS (hashS p.1 bits) level bits : Nat) : Int) p i ++ partF bits level l i) = fun i => m i ++ partF bits level (p :: l) i := by
      funext i
      unfold putM partF
      by_cases e : i = ((chunkS (hashS p.1 bits) level bits : Nat) : Int)
      · rw [if_pos e, List.filter_cons, if_pos (by rw [decide_eq_true_eq]; exact e.symm), List.append_assoc]
        rfl
      · rw [if_neg e, List.filter_cons, if_neg (by rw [decide_eq_true_eq]; exact fun q => e q.symm)]
    rw [this]
    rfl
theorem maskF_bit (bits : Int) (level : Nat) (j : Nat) : ∀ (l : List PairV) (s : Nat), (maskF bits level l s).testBit j = true ↔ s.testBit j = true ∨ ∃ p ∈ l, ck bits level p.1 = j
  | [], s => by simp [maskF]
  | p :: l, s => by
    have hlt := ck_lt bits level p.1
    show (maskF bits level l (withM s _)).testBit j = true ↔ _
    rw [maskF_bit bits level j l, withM_bit, Bool.or_eq_true, decide_eq_true_eq]
    constructor
    · rintro ((h | ⟨_, _, h⟩) | ⟨q, hq, h⟩)
      · exact .inl h
      · exact .inr ⟨p, List.mem_cons_self, by omega⟩
      · exact .inr ⟨q, List.mem_cons_of_mem _ hq, h⟩
    · rintro (h | ⟨q, hq, h⟩)
      · exact .inl (.inl h)
      · rcases List.mem_cons.1 hq with rfl | hq
        · exact .inl (.inr ⟨by omega, by omega, by omega⟩)
        · exact .inr ⟨q, hq, h⟩
theorem maskF_eq (bits : Int) (level : Nat) (l : List PairV) : maskF bits level l 0 = maskC bits level l := by
  apply Nat.eq_of_testBit_eq
  intro j
  rw [Bool.eq_iff_iff, maskF_bit, maskC_bit, usedC_mem, Nat.zero_testBit]
  constructor
  · rintro (h | ⟨p, hp, h⟩)
    · cases h
    · have hlt := ck_lt bits level p.1
      refine ⟨by omega, fun e => ?_⟩
      have : p ∈ part bits level l j := List.mem_filter.2 ⟨hp, by simpa using h⟩
      rw [e] at this
      cases this
  · rintro ⟨_, h⟩
    obtain ⟨p, hp⟩ := List.exists_mem_of_ne_nil _ h
    exact .inr ⟨p, (List.mem_filter.1 hp).1, by simpa using (List.mem_filter.1 hp).2⟩
theorem partF_nat (bits : Int) (level : Nat) (l : List PairV) (j : Nat) : partF bits level l (j : Int) = part bits level l j := by
  unfold partF part
  refine List.filter_congr fun p _ => ?_
  rw [decide_eq_decide]
  omega
theorem parted_any (bits : Int) (level : Nat) (hv : level ≤ 50000000) (l : List PairV) (hl : l.length ≤ 1000000) (ho : ∀ p ∈ l, okP p) (h : List NodeV) :
    tM_parted l (level : Int) (bits, ((), ())) h = some ((partF bits level l, (((maskC bits level l : Nat) : Int), ())), ((bits, ((), ())), (h, ()))) := by
  rw [tM_parted.eq, fitL_d, br_if, if_pos (by omega)]
  have := go_any bits level hv l (fun _ => []) 0 ho (by omega)
  dsimp only
  rw [show (0 : Int) = ((0 : Nat) : Int) from rfl, this, bnd_some, maskF_eq]
  have : (fun i => [] ++ partF bits level l i) = partF bits level l := by funext i; rfl
  rw [this]
theorem mkadd_any (n : NodeV) (bits : Int) (h : List NodeV) (hl : h.length + 1 ≤ 1073741824) : tM_add n (bits, ((), ())) h = some ((h.length : Int) + 1, ((bits, ((), ())), (h ++ [n], ()))) := by
  rw [tM_add.eq]
  simp only [fitL_d, appL_d, lenL_d, ofN_d, br_if]
  rw [if_pos (by rw [List.length_append]; exact hl), List.length_append]
  rfl
theorem branchM_any (m : Nat) (ks : List Int) (sz : Int) (hk : ks.length ≤ 50000000) : node_Branch (m : Int) ks sz = some (bN m ks sz 0) := by
  rw [node_Branch.eq, cloneR_any ks hk, bnd_some]
  rfl
section
variable (bits : Int) (f : Nat) (l : List PairV) (hf : f + 1 ≤ lev bits) (hb : ∀ p ∈ l, okT p) (hS : Srt l) (hl : l.length ≤ 1000000)
  (ih : ∀ (h : List NodeV) (q : List PairV), MkOK f h q → tM_trie q ((lev bits - f : Nat) : Int) (bits, ((), ())) h = some ((trieN bits f h q).2, ((bits, ((), ())), ((trieN bits f h q).1, ()))))
include hf hb hS hl ih
theorem t_l1 (d : Nat) : ∀ (k : Nat) (h : List NodeV) (ks : List Int), k ≤ (usedC bits (lev bits - (f + 1)) l).length → (usedC bits (lev bits - (f + 1)) l).length - k = d → ks.length ≤ k → mayH h = true → h.length + (((usedC bits (lev bits - (f + 1)) l).drop k).map fun j => (part bits (lev bits - (f + 1)) l j).length).sum * (f + 1) + 1 ≤ 40000000 →
    tM_trie.l1 l ((lev bits - (f + 1) : Nat) : Int) (partF bits (lev bits - (f + 1)) l) ((maskC bits (lev bits - (f + 1)) l : Nat) : Int) (usedI bits (lev bits - (f + 1)) l) (((usedC bits (lev bits - (f + 1)) l).length : Nat) : Int) (k : Int) (bits, ((), ())) h ks =
      some (((walkN (fun g i => trieN bits f g (part bits (lev bits - (f + 1)) l i)) h ((usedC bits (lev bits - (f + 1)) l).drop k)).1.length : Int) + 1, ((bits, ((), ())), ((walkN (fun g i => trieN bits f g (part bits (lev bits - (f + 1)) l i)) h ((usedC bits (lev bits - (f + 1)) l).drop k)).1 ++ [bN (maskC bits (lev bits - (f + 1)) l) (ks ++ (walkN (fun g i => trieN bits f g (part bits (lev bits - (f + 1)) l i)) h ((usedC bits (lev bits - (f + 1)) l).drop k)).2) l.length 0], ()))) := by
  have hlev := lev_le bits
  have hu : (usedC bits (lev bits - (f + 1)) l).length ≤ 32 := by
    have := List.length_filter_le (fun i => !(part bits (lev bits - (f + 1)) l i).isEmpty) (List.range 32)
    rw [List.length_range] at this
    exact this
  induction d with
  | zero =>
    intro k h ks h1 h2 h3 hm hlen
    have hd : (usedC bits (lev bits - (f + 1)) l).drop k = [] := List.drop_of_length_le (by omega)
    rw [hd] at hlen ⊢
    simp only [List.map_nil, List.sum_nil] at hlen
    rw [tM_trie.l1.eq]
    simp only [ltI_d, lenL_d, ofN_d, br_if]
    rw [if_neg (by omega), branchM_any _ _ _ (by omega), bnd_some, mkadd_any _ _ _ (by omega), bnd_some]
    show some ((h.length : Int) + 1, ((bits, ((), ())), (h ++ [bN _ ks _ _], ()))) = some ((h.length : Int) + 1, ((bits, ((), ())), (h ++ [bN _ (ks ++ []) _ _], ())))
    rw [List.append_nil]
  | succ d ihd =>
    intro k h ks h1 h2 h3 hm hlen
    have hk : k < (usedC bits (lev bits - (f + 1)) l).length := by omega
    generalize hlv : lev bits - (f + 1) = level at hlen ihd hu h1 h2 hk ⊢
    have hlf : lev bits - f = level + 1 := by omega
    rw [hlf] at ih
    have hil : (usedI bits level l).length = (usedC bits level l).length := List.length_map _
    have hix : ixL (.int .i64) (usedI bits level l) (k : Int) = (((usedC bits level l)[k] : Nat) : Int) := by
      rw [ixL_d (.int .i64) (usedI bits level l) k (by rw [hil]; exact hk)]
      simp
    have hdr : (usedC bits level l).drop k = (usedC bits level l)[k] :: (usedC bits level l).drop (k + 1) := List.drop_eq_getElem_cons hk
    rw [hdr] at hlen ⊢
    generalize hi : (usedC bits level l)[k] = i at hlen hix ⊢
    have hmem : i ∈ usedC bits level l := by rw [← hi]; exact List.getElem_mem hk
    have hp := (usedC_mem.1 hmem).2
    rw [List.map_cons, List.sum_cons, mul_up] at hlen
    have hpl : 0 < (part bits level l i).length := List.length_pos_iff.2 hp
    have hpm : (part bits level l i).length ≤ l.length := part_len _ _ _ _
    have ok : MkOK f h (part bits level l i) := ⟨hm, fun p hp => hb p (part_sub hp), part_srt hS i, by omega, by omega⟩
    have T := trieN_ok bits f h (part bits level l i) hm ok.txt ok.srt ok.len
    obtain ⟨new, en, ln, _⟩ := T.pre
    rw [tM_trie.l1.eq, hix]
    simp only [ltI_d, leI_d, andB_d, lenL_d, ofN_d, br_if]
    rw [if_pos (by omega), if_pos ⟨by omega, by rw [hil]; omega⟩, show getM tapiPair (partF bits level l) (i : Int) = part bits level l i from partF_nat bits level l i, add1 level (by omega), ih h _ ok, bnd_some, walkN_cons]
    dsimp only
    simp only [fitL_d, appL_d, br_if]
    rw [if_pos (by rw [List.length_append]; simp only [List.length_cons, List.length_nil]; omega), add1 k (by omega)]
    have := ihd (k + 1) (trieN bits f h (part bits level l i)).1 (ks ++ [(trieN bits f h (part bits level l i)).2]) (by omega) (by omega) (by rw [List.length_append]; simp only [List.length_cons, List.length_nil]; omega) T.may (by rw [en, List.length_append]; omega)
    rw [List.append_assoc] at this
    exact this
end
theorem t_l0 (bits : Int) (f : Nat) (l : List PairV) (h : List NodeV) :
    tM_trie.l0 l ((lev bits - (f + 1) : Nat) : Int) (partF bits (lev bits - (f + 1)) l) ((maskC bits (lev bits - (f + 1)) l : Nat) : Int) (usedI bits (lev bits - (f + 1)) l) (((usedC bits (lev bits - (f + 1)) l).length : Nat) : Int) (0 : Int) (bits, ((), ())) h [] =
      tM_trie.l1 l ((lev bits - (f + 1) : Nat) : Int) (partF bits (lev bits - (f + 1)) l) ((maskC bits (lev bits - (f + 1)) l : Nat) : Int) (usedI bits (lev bits - (f + 1)) l) (((usedC bits (lev bits - (f + 1)) l).length : Nat) : Int) (0 : Int) (bits, ((), ())) h [] := by
  rw [tM_trie.l0.eq, tM_trie.l1.eq]
theorem mtrie_any (bits : Int) : ∀ (f : Nat) (h : List NodeV) (l : List PairV), f ≤ lev bits → MkOK f h l → tM_trie l ((lev bits - f : Nat) : Int) (bits, ((), ())) h = some ((trieN bits f h l).2, ((bits, ((), ())), ((trieN bits f h l).1, ()))) := by
  have hlev := lev_le bits
  have one : ∀ (f : Nat) (h : List NodeV) (p : PairV), MkOK f h [p] → tM_trie [p] ((lev bits - f : Nat) : Int) (bits, ((), ())) h = some ((trieN bits f h [p]).2, ((bits, ((), ())), ((trieN bits f h [p]).1, ()))) := fun f h p ok => by
    have := ok.fits
    simp only [List.length_cons, List.length_nil] at this
    rw [trieN_one, tM_trie.eq]
    simp only [ltI_d, leI_d, eqI_d, andB_d, lenL_d, ofN_d, br_if]
    have e : ixL tapiPair [p] (0 : Int) = p := rfl
    rw [if_neg (by simp), if_pos (by simp), if_pos (by simp), if_pos (by simp), e, node_Leaf.eq, bnd_some]
    show bnd (tM_add (lfN p) (bits, ((), ())) h) _ = _
    rw [mkadd_any _ _ _ (by omega), bnd_some]
  intro f
  induction f with
  | zero =>
    intro h l hf ok
    rcases len_cases l with rfl | ⟨p, rfl⟩ | h2
    · rw [trieN_nil, tM_trie.eq]; rfl
    · exact one 0 h p ok
    · have := ok.fits
      have hln := ok.len
      rw [trieN_buck bits h h2, tM_trie.eq]
      simp only [leI_d, eqI_d, lenL_d, ofN_d, br_if]
      rw [if_neg (by omega), if_neg (by omega), levels_any, bnd_some, if_pos (by omega), node_Bucket.eq, make_any l (by omega) (fun p hp => (ok.txt p hp).ok), bnd_some, makeS_srt ok.srt, bnd_some]
      show bnd (tM_add (buckN l) (bits, ((), ())) h) _ = _
      rw [mkadd_any _ _ _ (by omega), bnd_some]
  | succ f ih =>
    intro h l hf ok
    rcases len_cases l with rfl | ⟨p, rfl⟩ | h2
    · rw [trieN_nil, tM_trie.eq]; rfl
    · exact one (f + 1) h p ok
    · have hfit := ok.fits
      have hln := ok.len
      rw [Nat.mul_succ] at hfit
      rw [trieN_br bits f h h2, tM_trie.eq]
      simp only [leI_d, eqI_d, lenL_d, ofN_d, br_if]
      rw [if_neg (by omega), if_neg (by omega), levels_any, bnd_some, if_neg (by omega), parted_any bits _ (by omega) l hln (fun p hp => (ok.txt p hp).ok) h, bnd_some]
      dsimp only
      rw [all_m _ (maskC_lt _ _ _), bnd_some]
      have eI : allI (maskC bits (lev bits - (f + 1)) l) = usedI bits (lev bits - (f + 1)) l := by
        unfold allI
        rw [allL_maskC]
      have hil : (usedI bits (lev bits - (f + 1)) l).length = (usedC bits (lev bits - (f + 1)) l).length := List.length_map _
      rw [eI, hil]
      have hs : h.length + ((usedC bits (lev bits - (f + 1)) l).map fun j => (part bits (lev bits - (f + 1)) l j).length).sum * (f + 1) + 1 ≤ 40000000 := by rw [parts_sum]; omega
      rw [t_l0 bits f l h]
      have := t_l1 bits f l hf ok.txt ok.srt ok.len (fun h q o => ih h q (by omega) o) _ 0 h [] (by omega) rfl (by simp) ok.may (by rw [List.drop_zero]; exact hs)
      rw [List.drop_zero] at this
      exact this
end Go.Proofs.YtjekopgcpikkiaaGreatDoor.AM
set_option linter.unusedVariables false
set_option linter.unusedSimpArgs false
namespace Go.Proofs.YtjekopgcpikkiaaGreatDoor.AM
open Go.Abs
end Go.Proofs.YtjekopgcpikkiaaGreatDoor.AM
set_option linter.unusedVariables false
set_option linter.unusedSimpArgs false
namespace Go.Proofs.YtjekopgcpikkiaaGreatDoor.AM
open Go.Abs
end Go.Proofs.YtjekopgcpikkiaaGreatDoor.AM
set_option linter.unusedVariables false
set_option linter.unusedSimpArgs false
namespace Go.Proofs.YtjekopgcpikkiaaGreatDoor.AM
open Go.Abs
end Go.Proofs.YtjekopgcpikkiaaGreatDoor.AM
set_option linter.unusedVariables false
set_option linter.unusedSimpArgs false
namespace Go.Proofs.YtjekopgcpikkiaaGreatDoor.AM
open Go.Abs
end Go.Proofs.YtjekopgcpikkiaaGreatDoor.AM
set_option linter.unusedVariables false
set_option linter.unusedSimpArgs false
namespace Go.Proofs.YtjekopgcpikkiaaGreatDoor.AM
open Go.Abs
end Go.Proofs.YtjekopgcpikkiaaGreatDoor.AM
set_option linter.unusedVariables false
set_option linter.unusedSimpArgs false
namespace Go.Proofs.YtjekopgcpikkiaaGreatDoor.AM
open Go.Abs
theorem srt_eq {l m : List PairV} (h1 : Srt l) (h2 : Srt m) (hp : l.Perm m) : l = m :=
  List.Perm.eq_of_pairwise (le := fun a b : PairV => lt a.1 b.1 = true) (fun a b _ _ hab hba => by rw [lt_asymm hab] at hba; cases hba) h1 h2 hp
theorem putS_perm (p : PairV) : ∀ l : List PairV, (∀ q ∈ l, q.1 ≠ p.1) → (putS l p).Perm (p :: l)
  | [], _ => List.Perm.refl _
  | q :: l, h => by
    unfold putS
    split
    · exact (List.Perm.cons q (putS_perm p l fun x hx => h x (List.mem_cons_of_mem _ hx))).trans (List.Perm.swap p q l)
    · rw [if_neg (h q List.mem_cons_self)]
theorem foldS_perm : ∀ (l acc : List PairV), (l.map (·.1)).Nodup → (∀ p ∈ l, ∀ q ∈ acc, q.1 ≠ p.1) → (l.foldl putS acc).Perm (acc ++ l)
  | [], acc, _, _ => by rw [List.append_nil]; exact List.Perm.refl _
  | p :: l, acc, hn, h => by
    rw [List.map_cons, List.nodup_cons] at hn
    have h1 := putS_perm p acc (h p List.mem_cons_self)
    have h2 := foldS_perm l (putS acc p) hn.2 (fun x hx q hq => by
      rcases List.mem_cons.1 (h1.mem_iff.1 hq) with rfl | hq
      · exact fun e => hn.1 (e ▸ List.mem_map_of_mem hx)
      · exact h x (List.mem_cons_of_mem _ hx) q hq)
    refine h2.trans ?_
    refine (List.Perm.append_right l h1).trans ?_
    show (p :: (acc ++ l)).Perm (acc ++ p :: l)
    exact List.perm_middle.symm
theorem srt_keys {l : List PairV} (h : Srt l) : (l.map (·.1)).Nodup := by
  rw [List.Nodup, List.pairwise_map]
  refine List.Pairwise.imp ?_ (show l.Pairwise (fun a b => lt a.1 b.1 = true) from h)
  intro a b hab e
  rw [e, lt_irrefl] at hab
  cases hab
theorem makeS_of_perm {l m : List PairV} (h : Srt l) (hp : m.Perm l) : makeS m = l := by
  have hn : (m.map (·.1)).Nodup := ((hp.map (·.1)).nodup_iff).2 (srt_keys h)
  have := foldS_perm m [] hn (fun p _ q hq => by cases hq)
  rw [List.nil_append] at this
  exact srt_eq (makeS_Srt m) h (this.trans hp)
theorem perm_flat (g q : Nat → List PairV) : ∀ is : List Nat, (∀ i ∈ is, (g i).Perm (q i)) → ((is.map g).flatten).Perm ((is.map q).flatten)
  | [], _ => List.Perm.refl _
  | i :: is, h => by
    rw [List.map_cons, List.map_cons, List.flatten_cons, List.flatten_cons]
    exact (h i List.mem_cons_self).append (perm_flat g q is fun j hj => h j (List.mem_cons_of_mem _ hj))
theorem trieT_binds (bits : Int) : ∀ (f : Nat) (l : List PairV), (bindsT (trieT bits f l)).Perm l := by
  have one : ∀ (f : Nat) (p : PairV), (bindsT (trieT bits f [p])).Perm [p] := fun f p => by
    rw [trieT_one, bindsT_node, if_neg (show ¬ (stripV (lfN p)).1 = 4 by show ¬ (1 : Int) = 4; omega)]
    have : bindsS (stripV (lfN p)) ++ ([Shp.nil].map bindsT).flatten = [p] := by
      rw [bindsS_strip, List.map_cons, List.map_nil, bindsT_nil]
      rfl
    rw [this]
  intro f
  induction f with
  | zero =>
    intro l
    rcases len_cases l with rfl | ⟨p, rfl⟩ | h2
    · rw [trieT_nil, bindsT_nil]
    · exact one 0 p
    · rw [trieT_buck bits h2, bindsT_node, if_neg (show ¬ (stripV (buckN l)).1 = 4 by show ¬ (3 : Int) = 4; omega)]
      have : bindsS (stripV (buckN l)) ++ ([Shp.nil].map bindsT).flatten = l := by
        rw [bindsS_strip, List.map_cons, List.map_nil, bindsT_nil]
        show l ++ [] = l
        exact List.append_nil _
      rw [this]
  | succ f ih =>
    intro l
    rcases len_cases l with rfl | ⟨p, rfl⟩ | h2
    · rw [trieT_nil, bindsT_nil]
    · exact one (f + 1) p
    · rw [trieT_br bits f h2, bindsT_node, if_neg (show ¬ (stripV (bN (maskC bits (lev bits - (f + 1)) l) [] l.length 0)).1 = 4 by show ¬ (2 : Int) = 4; omega), List.map_append, List.map_map, List.flatten_append]
      have : bindsS (stripV (bN (maskC bits (lev bits - (f + 1)) l) [] l.length 0)) = [] := rfl
      rw [this, List.nil_append, List.map_cons, List.map_nil, bindsT_nil]
      show ((List.map _ _).flatten ++ []).Perm l
      rw [List.append_nil]
      refine (perm_flat (bindsT ∘ fun i => trieT bits f (part bits (lev bits - (f + 1)) l i)) (part bits (lev bits - (f + 1)) l) _ fun i _ => ih _).trans (parts_perm bits _ l)
theorem binds_mem {h : List NodeV} (hm : mayH h = true) : ∀ (n : Nat) (r : Int), 0 ≤ r → r ≤ n → r ≤ h.length → ∀ p ∈ bindsT (U h r), ∃ x ∈ h, mayS x = 0 ∧ p ∈ bindsS x := by
  have own : ∀ r : Int, 1 ≤ r → r ≤ h.length → ∀ p ∈ bindsS (getN h r), ∃ x ∈ h, mayS x = 0 ∧ p ∈ bindsS x := fun r h1 h2 p hp => ⟨_, getN_mem h r h1 h2, (may_node hm h1 h2).1, hp⟩
  intro n
  induction n with
  | zero =>
    intro r h0 h1 h2 p hp
    have : r = 0 := by omega
    subst this
    rw [U_zero, bindsT_nil] at hp
    cases hp
  | succ n ih =>
    intro r h0 h1 h2 p hp
    by_cases e : r = 0
    · subst e; rw [U_zero, bindsT_nil] at hp; cases hp
    by_cases h4 : (getN h r).1 = 4
    · obtain ⟨a, b, _, _, k3, k4, k5⟩ := bindsU_tree hm (by omega) h2 h4
      rw [k5] at hp
      rcases List.mem_append.1 hp with hp | hp
      · rcases List.mem_append.1 hp with hp | hp
        · exact ih a (by omega) (by omega) (by omega) p hp
        · exact own r (by omega) h2 p hp
      · exact ih b (by omega) (by omega) (by omega) p hp
    · rw [bindsU_refs hm (by omega) h2 h4] at hp
      rcases List.mem_append.1 hp with hp | hp
      · exact own r (by omega) h2 p hp
      · obtain ⟨l, hl, hp⟩ := List.mem_flatten.1 hp
        obtain ⟨x, hx, rfl⟩ := List.mem_map.1 hl
        rw [refsS_all] at hx
        have hk := (may_node hm (by omega) h2).2 x (List.mem_filter.1 hx).1
        exact ih x (by omega) (by omega) (by omega) p hp
theorem longP_iff {p : PairV} : longP p = false ↔ okT p := by
  unfold longP okT
  rw [Bool.or_eq_false_iff, decide_eq_false_iff_not, decide_eq_false_iff_not]
  constructor <;> rintro ⟨h1, h2⟩ <;> exact ⟨by omega, by omega⟩
theorem may_short {x : NodeV} (hm : mayS x = 0) {p : PairV} (hp : p ∈ bindsS x) : okT p := by
  obtain ⟨_, _, hl, _⟩ := mayS_zero hm
  unfold longN at hl
  rw [Bool.or_eq_false_iff] at hl
  unfold bindsS at hp
  split at hp
  · rw [List.mem_singleton] at hp
    subst hp
    exact longP_iff.1 hl.1
  · split at hp
    · have := hl.2
      rw [List.any_eq_false] at this
      exact longP_iff.1 (Bool.eq_false_iff.2 (this p hp))
    · cases hp
theorem lfN_long {p : PairV} (h : longP p = true) : mayS (lfN p) = 6 := by
  unfold mayS
  have hl : longN (lfN p) = true := by
    show (longP p || false) = true
    rw [h]; rfl
  rw [if_neg (by show ¬ (1 : Int) < 1; omega), if_neg (by show ¬ (6 : Int) < 1; omega), hl, if_pos rfl]
theorem tmake_l0 (bits : Int) (l : List PairV) (hl : l.length ≤ 40000000) (hb : ∀ p ∈ l, okP p) (d : Nat) : ∀ k : Nat, k ≤ l.length → l.length - k = d →
    trie_Make.l0 bits l l ((l.length : Nat) : Int) (k : Int) = if (l.drop k).any longP = true then some ([], ((0 : Int), ((6 : Int), ()))) else bnd (tM_trie l (0 : Int) (bits, ((), ())) []) fun r2 => some (r2.2.2.1, (r2.1, ((0 : Int), ()))) := by
  induction d with
  | zero =>
    intro k h1 h2
    rw [trie_Make.l0.eq, List.drop_of_length_le (by omega)]
    simp only [ltI_d, br_if]
    rw [if_neg (by omega)]
    rfl
  | succ d ih =>
    intro k h1 h2
    have hk : k < l.length := by omega
    have ho := hb l[k] (List.getElem_mem hk)
    rw [trie_Make.l0.eq, List.drop_eq_getElem_cons hk]
    simp only [ltI_d, leI_d, andB_d, lenL_d, ofN_d, br_if]
    rw [if_pos (by omega), if_pos ⟨by omega, by omega⟩, ixL_d tapiPair l k hk, node_Leaf.eq, bnd_some]
    show bnd (node_May (lfN l[k])) _ = _
    rw [may_any _ (lfN_ok ho), bnd_some, List.any_cons]
    cases e : longP l[k] with
    | true =>
      rw [lfN_long e, Bool.true_or, if_pos rfl]
      rfl
    | false =>
      rw [lfN_may (longP_iff.1 e), Bool.false_or, add1 k (by omega)]
      exact ih (k + 1) (by omega) (by omega)
theorem tmake_any (bits : Int) (l : List PairV) (hl : l.length ≤ 40000000) (hm : (makeS l).length ≤ 1000000) (hb : ∀ p ∈ l, okP p) :
    trie_Make bits l = if (makeS l).any longP = true then some ([], ((0 : Int), ((6 : Int), ()))) else some (trieH bits l, (trieR bits l, ((0 : Int), ()))) := by
  have hlev := lev_le bits
  rw [trie_Make.eq, make_any l hl hb, bnd_some]
  have e := tmake_l0 bits (makeS l) (by omega) (fun p hp => hb p (makeS_mem hp)) _ 0 (by omega) rfl
  rw [List.drop_zero] at e
  refine (show trie_Make.l0 bits (makeS l) (makeS l) (((makeS l).length : Nat) : Int) ((0 : Nat) : Int) = _ from e).trans ?_
  cases hg : (makeS l).any longP with
  | true => rw [if_pos rfl, if_pos rfl]
  | false =>
    have ht : ∀ p ∈ makeS l, okT p := fun p hp => by
      rw [List.any_eq_false] at hg
      exact longP_iff.1 (Bool.eq_false_iff.2 (hg p hp))
    have hfit : (makeS l).length * (lev bits + 1) ≤ 1000000 * 14 := Nat.mul_le_mul hm (by omega)
    have := mtrie_any bits (lev bits) [] (makeS l) (Nat.le_refl _) ⟨rfl, ht, makeS_Srt l, hm, by show 0 + _ ≤ _; omega⟩
    rw [Nat.sub_self] at this
    rw [if_neg (by simp), if_neg (by simp), show (0 : Int) = ((0 : Nat) : Int) from rfl, this, bnd_some]
    rfl
noncomputable def isT (h : List NodeV) (r bits : Int) : Bool := fitH h r && eqSh (U h r) (U (trieH bits (bindsT (U h r))) (trieR bits (bindsT (U h r))))
end Go.Proofs.YtjekopgcpikkiaaGreatDoor.AM
set_option linter.unusedVariables false
set_option linter.unusedSimpArgs false
namespace Go.Proofs.YtjekopgcpikkiaaGreatDoor.AM
open Go.Abs
theorem trie_branch {h : List NodeV} (ho : okH h) (hm : mayH h = true) {r : Int} (h0 : 0 ≤ r) (h1 : r ≤ h.length) {bits : Int} {f : Nat} {l : List PairV} (h2 : 2 ≤ l.length) (hs : U h r = trieT bits (f + 1) l) :
    1 ≤ r ∧ ∃ ks bi, okB (maskC bits (lev bits - (f + 1)) l) ks l.length bi ∧ getN h r = bN (maskC bits (lev bits - (f + 1)) l) ks l.length bi ∧
      ks.map (U h) = (usedC bits (lev bits - (f + 1)) l).map (fun i => trieT bits f (part bits (lev bits - (f + 1)) l i)) ∧ (∀ k ∈ ks, 1 ≤ k ∧ k ≤ r - 1) ∧
      ∀ j : Nat, j < 32 → U h (chI (maskC bits (lev bits - (f + 1)) l) ks (j : Int)) = trieT bits f (part bits (lev bits - (f + 1)) l j) ∧ 0 ≤ chI (maskC bits (lev bits - (f + 1)) l) ks (j : Int) ∧ chI (maskC bits (lev bits - (f + 1)) l) ks (j : Int) ≤ r - 1 := by
  have hr : 1 ≤ r := by
    rcases Int.lt_or_le 0 r with q | q
    · omega
    · have : r = 0 := by omega
      rw [this, U_zero] at hs
      exact absurd hs.symm (trieT_ne bits (f + 1) (by rintro rfl; cases h2))
  have o := ho.node _ (getN_mem h r hr h1)
  obtain ⟨hmn, hkids⟩ := may_node hm hr h1
  rw [U_node hm hr h1, trieT_br bits f h2] at hs
  generalize lev bits - (f + 1) = level at hs ⊢
  obtain ⟨e1, e2⟩ := Shp.node.inj hs
  have k2 : (getN h r).1 = 2 := congrArg (·.1) e1
  obtain ⟨m, ks, sz, bi, hB, hN⟩ := branch_form o k2 hmn
  rw [hN] at e1 e2 hkids
  rw [hN]
  have em : (m : Int) = (maskC bits level l : Int) := congrArg (·.2.2.2.1) e1
  have em : m = maskC bits level l := by omega
  have es : sz = (l.length : Int) := congrArg (·.2.2.2.2.2.2.2.1) e1
  subst em; subst es
  rw [allK_b, List.map_append] at e2
  have ek : ks.map (U h) = (usedC bits level l).map (fun i => trieT bits f (part bits level l i)) := (List.append_inj' e2 rfl).1
  have hk : ∀ k ∈ ks, 1 ≤ k ∧ k ≤ r - 1 := fun k hk => by
    rcases hkids k (by rw [allK_b]; exact List.mem_append_left _ hk) with q | q
    · exact absurd q (hB.nz k hk)
    · exact q
  refine ⟨hr, ks, bi, hB, rfl, ek, hk, fun j hj => ?_⟩
  unfold chI
  rw [if_pos (by omega), Int.toNat_natCast]
  unfold chAt
  by_cases hb : (maskC bits level l).testBit j = true
  · rw [if_pos hb]
    have hall := kids_of (maskC bits level l) ks 32 (by have := hB.len; omega)
    rw [show ks.take (cnt 32 (maskC bits level l)) = ks from List.take_of_length_le (by have := hB.len; omega)] at hall
    have hju := (maskC_bit bits level l j).1 hb
    have hall2 : (usedC bits level l).map (fun j => ks.getD (cnt j (maskC bits level l)) 0) = ks := by
      rw [← allL_maskC]
      exact hall
    have hc : (usedC bits level l).map (fun j => U h (ks.getD (cnt j (maskC bits level l)) 0)) = (usedC bits level l).map (fun i => trieT bits f (part bits level l i)) := by
      rw [← ek]
      conv => rhs; rw [← hall2]
      rw [List.map_map]
      rfl
    have hc := List.map_inj_left.1 hc j hju
    refine ⟨hc, ?_⟩
    have hl := cnt_less (show j < 32 by omega) hb
    have hlen := hB.len
    rw [List.getD_eq_getElem?_getD, List.getElem?_eq_getElem (show cnt j (maskC bits level l) < ks.length by omega)]
    have := hk _ (List.getElem_mem (show cnt j (maskC bits level l) < ks.length by omega))
    exact ⟨Int.le_trans (show (0 : Int) ≤ 1 by decide) this.1, this.2⟩
  · rw [if_neg hb]
    have : part bits level l j = [] := by
      by_cases q : part bits level l j = []
      · exact q
      · exact absurd ((maskC_bit bits level l j).2 (usedC_mem.2 ⟨hj, q⟩)) hb
    rw [this, trieT_nil, U_zero]
    exact ⟨rfl, Int.le_refl _, by omega⟩
theorem trie_leaf {h : List NodeV} (hm : mayH h = true) {r : Int} (h0 : 0 ≤ r) (h1 : r ≤ h.length) {bits : Int} {f : Nat} {p : PairV} (hs : U h r = trieT bits f [p]) : 1 ≤ r ∧ stripV (getN h r) = lfN p ∧ allK (getN h r) = [0] := by
  have hr : 1 ≤ r := by
    rcases Int.lt_or_le 0 r with q | q
    · omega
    · have : r = 0 := by omega
      rw [this, U_zero] at hs
      exact absurd hs.symm (trieT_ne bits f (by simp))
  rw [U_node hm hr h1, trieT_one] at hs
  obtain ⟨e1, e2⟩ := Shp.node.inj hs
  refine ⟨hr, e1, ?_⟩
  have hl := congrArg List.length e2
  rw [List.length_map] at hl
  match hq : allK (getN h r), hl with
  | [k], _ =>
    rw [hq] at e2
    have : U h k = .nil := (List.cons.inj e2).1
    have hk := (may_node hm hr h1).2 k (by rw [hq]; exact List.mem_cons_self)
    rw [(U_nil hm (by omega) (by omega)).1 this]
theorem trie_buck {h : List NodeV} (hm : mayH h = true) {r : Int} (h0 : 0 ≤ r) (h1 : r ≤ h.length) {bits : Int} {l : List PairV} (h2 : 2 ≤ l.length) (hs : U h r = trieT bits 0 l) : 1 ≤ r ∧ stripV (getN h r) = buckN l ∧ allK (getN h r) = [0] := by
  have hr : 1 ≤ r := by
    rcases Int.lt_or_le 0 r with q | q
    · omega
    · have : r = 0 := by omega
      rw [this, U_zero] at hs
      exact absurd hs.symm (trieT_ne bits 0 (by rintro rfl; cases h2))
  rw [U_node hm hr h1, trieT_buck bits h2] at hs
  obtain ⟨e1, e2⟩ := Shp.node.inj hs
  refine ⟨hr, e1, ?_⟩
  have hl := congrArg List.length e2
  rw [List.length_map] at hl
  match hq : allK (getN h r), hl with
  | [k], _ =>
    rw [hq] at e2
    have : U h k = .nil := (List.cons.inj e2).1
    have hk := (may_node hm hr h1).2 k (by rw [hq]; exact List.mem_cons_self)
    rw [(U_nil hm (by omega) (by omega)).1 this]
end Go.Proofs.YtjekopgcpikkiaaGreatDoor.AM
set_option linter.unusedVariables false
set_option linter.unusedSimpArgs false
namespace Go.Proofs.YtjekopgcpikkiaaGreatDoor.AM
open Go.Abs
theorem pget_any (l : List PairV) (k : ByteArray) (hl : l.length ≤ 40000000) (hs : ∀ p ∈ l, okP p) (hS : isS l = true) : pair_Get l k = some (valF (l.find? (fun q => decide (q.1 = k)))) := by
  have hsr := isS_srt hS
  obtain ⟨pos, h1, h2, h3, h4⟩ := place_any l k (by omega) hs hsr
  rw [pair_Get.eq, pair_ordered.eq, is_any l (by omega) hs, bnd_some, hS, br_t, bnd_some, h1, bnd_some]
  have hlt : ∀ x : ByteArray, lt x x = false := fun x => by
    rcases tri x x with ⟨_, _, e⟩ | ⟨_, e, _⟩ | ⟨_, _, e⟩
    · exact absurd rfl e
    · exact e
    · exact absurd rfl e
  have hpre : (l.take pos).find? (fun q => decide (q.1 = k)) = none := by
    rw [List.find?_eq_none]
    intro q hq
    obtain ⟨a, ha, rfl⟩ := List.mem_iff_getElem.1 hq
    rw [List.length_take] at ha
    rw [List.getElem_take]
    have := h3 a (by omega) (by omega)
    simp only [decide_eq_true_eq]
    intro e
    rw [e, hlt] at this
    cases this
  by_cases hp : ∃ h : pos < l.length, l[pos].1 = k
  · obtain ⟨hpl, hpk⟩ := hp
    rw [decide_eq_true ⟨hpl, hpk⟩, show notB true = false from rfl, br_f, ixP l pos hpl]
    simp only [ltI_d, leI_d, ofN_d, lenL_d, andB_d, br_if]
    rw [if_pos (by omega)]
    have e : l = l.take pos ++ l[pos] :: l.drop (pos + 1) := by
      rw [← List.drop_eq_getElem_cons hpl, List.take_append_drop]
    have ef : l.find? (fun q => decide (q.1 = k)) = some l[pos] := by
      conv => lhs; rw [e]
      rw [List.find?_append, hpre, Option.none_or, List.find?_cons, decide_eq_true hpk]
    rw [ef]
    rfl
  · rw [decide_eq_false hp, show notB false = true from rfl, br_t]
    have ef : l.find? (fun q => decide (q.1 = k)) = none := by
      rw [List.find?_eq_none]
      intro q hq
      obtain ⟨a, ha, rfl⟩ := List.mem_iff_getElem.1 hq
      simp only [decide_eq_true_eq]
      intro e
      by_cases hap : a < pos
      · have := h3 a ha hap
        rw [e, hlt] at this
        cases this
      · by_cases hae : a = pos
        · subst hae; exact hp ⟨ha, e⟩
        · have hpl : pos < l.length := by omega
          have h5 := h4 pos hpl (Nat.le_refl _)
          have h6 := srt_get hsr ha (show pos < a by omega)
          rw [e, h5] at h6
          cases h6
    rw [ef]
    rfl
end Go.Proofs.YtjekopgcpikkiaaGreatDoor.AM
set_option linter.unusedVariables false
set_option linter.unusedSimpArgs false
namespace Go.Proofs.YtjekopgcpikkiaaGreatDoor.AM
open Go.Abs
theorem cloneN_any (l : List NodeV) (hl : l.length ≤ 50000000) : slices_CloneNN l = some ((), (l, ())) := by
  rw [slices_CloneNN.eq]
  simp only [ofN_d, lenL_d, eqI_d, br_if, fitL_d, appL_d, List.nil_append]
  by_cases h : l.length = 0
  · rw [if_pos (by omega), if_pos (by omega), List.eq_nil_of_length_eq_zero h, both_self]
  · rw [if_neg (by omega), if_pos (by omega)]
theorem refnew_any (k : Nat) (h : k ≤ 100000000) : ref_New (k : Int) = some (-(k : Int) - 1) := by
  rw [ref_New.eq, ltI_d, br_if, if_neg (by omega), subI_d (by omega) (by omega)]
  exact some_int (by omega)
theorem plAdd (x : Int) {n : NodeV} (o : okN n) (news : List NodeV) (hl : news.length ≤ 1000000) (old : List Int) : plan_Add ((), (x, ((), ()))) n news old = some ((((), (x, ((), ()))), (-(news.length : Int) - 1, ())), ((), (old, (news ++ [n], ())))) := by
  rw [plan_Add.eq, cloneN_any news (by omega), bnd_some, copy_any n o, bnd_some]
  show br (fitL tapiNode (news ++ [n])) (bnd (ref_New (subI .i64 (((news ++ [n]).length : Nat) : Int) 1)) fun r2 => some ((((), (x, ((), ()))), (r2, ())), ((), (old, (news ++ [n], ()))))) none = _
  have e : (news ++ [n]).length = news.length + 1 := by rw [List.length_append]; rfl
  rw [fitL_d, decide_eq_true (by omega), br_t, e, show subI .i64 ((news.length + 1 : Nat) : Int) 1 = (news.length : Int) by rw [subI_d (by omega) (by omega)]; omega, refnew_any _ (by omega), bnd_some]
end Go.Proofs.YtjekopgcpikkiaaGreatDoor.AM
set_option linter.unusedVariables false
set_option linter.unusedSimpArgs false
namespace Go.Proofs.YtjekopgcpikkiaaGreatDoor.AM
open Go.Abs
theorem putS_front (x : PairV) : ∀ m : List PairV, (∀ y ∈ m, lt x.1 y.1 = true) → putS m x = x :: m
  | [], _ => rfl
  | y :: ys, h => by
    have h1 := h y List.mem_cons_self
    unfold putS
    rw [lt_asymm h1, if_neg (by simp), if_neg (fun e => by rw [e, lt_irrefl] at h1; cases h1)]
theorem putS_ne (x : PairV) : ∀ m : List PairV, putS m x ≠ []
  | [] => by simp [putS]
  | y :: ys => by unfold putS; split <;> (try split) <;> simp
theorem part_put (bits : Int) (level : Nat) (x : PairV) (j : Nat) : ∀ l : List PairV, Srt l → part bits level (putS l x) j = if ck bits level x.1 = j then putS (part bits level l j) x else part bits level l j
  | [], _ => by
    show List.filter _ [x] = _
    by_cases h : ck bits level x.1 = j
    · rw [if_pos h, List.filter_cons, if_pos (by rw [decide_eq_true_eq]; exact h)]; rfl
    · rw [if_neg h, List.filter_cons, if_neg (by rw [decide_eq_true_eq]; exact h)]; rfl
  | q :: qs, hS => by
    obtain ⟨hq, hS'⟩ := List.pairwise_cons.1 hS
    have ih := part_put bits level x j qs hS'
    unfold part at ih ⊢
    rcases tri q.1 x.1 with ⟨h, _, hne⟩ | ⟨h, _⟩ | ⟨h, h', hne⟩
    · rw [putS_lt h, List.filter_cons, List.filter_cons, ih]
      by_cases hc : ck bits level x.1 = j
      · rw [if_pos hc, if_pos hc]
        by_cases hk : ck bits level q.1 = j
        · rw [if_pos (by rw [decide_eq_true_eq]; exact hk), if_pos (by rw [decide_eq_true_eq]; exact hk), putS_lt h]
        · rw [if_neg (by rw [decide_eq_true_eq]; exact hk), if_neg (by rw [decide_eq_true_eq]; exact hk)]
      · rw [if_neg hc, if_neg hc]
    · rw [putS_eq h, List.filter_cons, List.filter_cons, h]
      by_cases hc : ck bits level x.1 = j
      · rw [if_pos hc, if_pos (by rw [decide_eq_true_eq]; exact hc), if_pos (by rw [decide_eq_true_eq]; exact hc), putS_eq h]
      · rw [if_neg hc, if_neg (by rw [decide_eq_true_eq]; exact hc), if_neg (by rw [decide_eq_true_eq]; exact hc)]
    · rw [putS_gt h, List.filter_cons]
      by_cases hc : ck bits level x.1 = j
      · rw [if_pos hc, if_pos (by rw [decide_eq_true_eq]; exact hc), putS_front]
        intro y hy
        rcases List.mem_cons.1 (List.mem_filter.1 hy).1 with rfl | hy
        · exact h
        · exact lt_trans h (hq y hy)
      · rw [if_neg hc, if_neg (by rw [decide_eq_true_eq]; exact hc)]
theorem maskC_put (bits : Int) (level : Nat) (x : PairV) (l : List PairV) (hS : Srt l) : maskC bits level (putS l x) = withM (maskC bits level l) ((ck bits level x.1 : Nat) : Int) := by
  have hlt := ck_lt bits level x.1
  apply Nat.eq_of_testBit_eq
  intro j
  rw [Bool.eq_iff_iff, maskC_bit, usedC_mem, withM_bit, Bool.or_eq_true, maskC_bit, usedC_mem, decide_eq_true_eq, part_put bits level x j l hS]
  by_cases h : ck bits level x.1 = j
  · rw [if_pos h]
    exact ⟨fun _ => .inr ⟨by omega, by omega, by omega⟩, fun _ => ⟨by omega, putS_ne x _⟩⟩
  · rw [if_neg h]
    exact ⟨fun q => .inl q, fun q => q.elim id fun q => absurd (by omega) h⟩
theorem putS_length (x : PairV) : ∀ l : List PairV, Srt l → (putS l x).length = l.length + if (l.find? (fun q => decide (q.1 = x.1))).isSome = true then 0 else 1
  | [], _ => rfl
  | q :: qs, hS => by
    obtain ⟨hq, hS'⟩ := List.pairwise_cons.1 hS
    rcases tri q.1 x.1 with ⟨h, _, hne⟩ | ⟨h, _⟩ | ⟨h, h', hne⟩
    · rw [putS_lt h, List.length_cons, putS_length x qs hS', List.find?_cons, decide_eq_false hne, List.length_cons]
      dsimp only
      omega
    · rw [putS_eq h, List.find?_cons, decide_eq_true h]
      rfl
    · have : (q :: qs).find? (fun q => decide (q.1 = x.1)) = none := by
        rw [List.find?_eq_none]
        intro y hy
        rw [decide_eq_true_eq]
        intro e
        have hxy : lt x.1 y.1 = true := by
          rcases List.mem_cons.1 hy with rfl | hy
          · exact h
          · exact lt_trans h (hq y hy)
        rw [e, lt_irrefl] at hxy
        cases hxy
      rw [putS_gt h, this]
      rfl
theorem putS_okT {x : PairV} {l : List PairV} (hx : okT x) (hl : ∀ p ∈ l, okT p) : ∀ p ∈ putS l x, okT p := fun p hp => by
  rcases putS_mem hp with rfl | hp
  · exact hx
  · exact hl p hp
theorem withM_idem (m : Nat) (i : Int) : withM (withM m i) i = withM m i := by
  apply Nat.eq_of_testBit_eq
  intro j
  rw [withM_bit, withM_bit, Bool.or_assoc, Bool.or_self]
theorem withM_comm (m : Nat) (i k : Int) : withM (withM m i) k = withM (withM m k) i := by
  apply Nat.eq_of_testBit_eq
  intro j
  rw [withM_bit, withM_bit, withM_bit, withM_bit, Bool.or_assoc, Bool.or_assoc, Bool.or_comm (decide _)]
theorem Has.ne {h news : List NodeV} {r : Int} {s : Shp} (H : Has h news r s) (hs : s ≠ .nil) : r ≠ 0 := by
  intro e
  have := H.shp
  rw [e, fillQ_0, U_zero] at this
  exact hs this.symm
theorem leaf_has {h news : List NodeV} (P : PlanOK h news) {p : PairV} (hp : okT p) : PlanOK h (news ++ [lfN p]) ∧ ∀ (bits : Int) (f : Nat), Has h (news ++ [lfN p]) (-(news.length : Int) - 1) (trieT bits f [p]) := by
  have P' := P.add (lfN_ok hp.ok) (show ([] : List Int).length ≤ 40 by simp) (lfN_may hp) (fun r hr => by
    have hr : r ∈ [(0 : Int)] := hr
    rw [List.mem_singleton] at hr
    omega)
  refine ⟨P', fun bits f => ?_⟩
  have H := Has.new P P'
  rw [trieT_one]
  have e : ((allK (lfN p)).map fun r => U (PS h news) (fillQ h.length r)) = [Shp.nil] := by
    show [U (PS h news) (fillQ h.length 0)] = _
    rw [fillQ_0, U_zero]
  rw [e] at H
  exact H
theorem buck_has {h news : List NodeV} (P : PlanOK h news) {L : List PairV} (h2 : 2 ≤ L.length) (hl : L.length ≤ 1000000) (hS : Srt L) (hp : ∀ p ∈ L, okT p) : PlanOK h (news ++ [buckN L]) ∧ ∀ bits : Int, Has h (news ++ [buckN L]) (-(news.length : Int) - 1) (trieT bits 0 L) := by
  have P' := P.add (buckN_ok hl fun p h => (hp p h).ok) (show ([] : List Int).length ≤ 40 by simp) (buckN_may h2 hS hp) (fun r hr => by
    have hr : r ∈ [(0 : Int)] := hr
    rw [List.mem_singleton] at hr
    omega)
  refine ⟨P', fun bits => ?_⟩
  have H := Has.new P P'
  rw [trieT_buck bits h2]
  have e : ((allK (buckN L)).map fun r => U (PS h news) (fillQ h.length r)) = [Shp.nil] := by
    show [U (PS h news) (fillQ h.length 0)] = _
    rw [fillQ_0, U_zero]
  rw [e] at H
  exact H
theorem kids_all {m : Nat} {ks : List Int} {sz bi : Int} (hB : okB m ks sz bi) : (allL m).map (chAt m ks) = ks := by
  have hall := kids_of m ks 32 (by have := hB.len; omega)
  rw [show ks.take (cnt 32 m) = ks from List.take_of_length_le (by have := hB.len; omega)] at hall
  refine Eq.trans (List.map_congr_left fun j hj => ?_) hall
  unfold chAt
  rw [if_pos (List.mem_filter.1 hj).2]
theorem branch_has {h news : List NodeV} (P : PlanOK h news) {bits : Int} {f : Nat} {L : List PairV} (h2 : 2 ≤ L.length) {ks : List Int} {bi : Int} {m : Nat} (hm : m = maskC bits (lev bits - (f + 1)) L) (hB : okB m ks (L.length : Int) bi)
    (hH : ∀ j, j < 32 → Has h news (chAt m ks j) (trieT bits f (part bits (lev bits - (f + 1)) L j))) :
    PlanOK h (news ++ [bN m ks (L.length : Int) bi]) ∧ Has h (news ++ [bN m ks (L.length : Int) bi]) (-(news.length : Int) - 1) (trieT bits (f + 1) L) := by
  have hk := kids_all hB
  have hkm : ∀ r ∈ ks, ∃ j, j < 32 ∧ r = chAt m ks j := fun r hr => by
    rw [← hk] at hr
    obtain ⟨j, hj, rfl⟩ := List.mem_map.1 hr
    exact ⟨j, List.mem_range.1 (List.mem_filter.1 hj).1, rfl⟩
  have hc := cnt_le 32 m
  have P' := P.add hB.node (show ks.length ≤ 40 by have := hB.len; omega) hB.may (fun r hr => by
    rw [allK_b] at hr
    rcases List.mem_append.1 hr with hr | hr
    · obtain ⟨j, hj, rfl⟩ := hkm r hr
      exact ⟨(hH j hj).lo, (hH j hj).hi⟩
    · rw [List.mem_singleton] at hr
      omega)
  refine ⟨P', ?_⟩
  have H := Has.new P P'
  rw [trieT_br bits f h2]
  rw [allK_b, List.map_append] at H
  have e1 : ks.map (fun r => U (PS h news) (fillQ h.length r)) = (usedC bits (lev bits - (f + 1)) L).map (fun i => trieT bits f (part bits (lev bits - (f + 1)) L i)) := by
    conv => lhs; rw [← hk]
    rw [List.map_map, hm, allL_maskC, ← hm]
    refine List.map_congr_left fun j hj => ?_
    exact (hH j (usedC_mem.1 hj).1).shp
  have e2 : [(0 : Int)].map (fun r => U (PS h news) (fillQ h.length r)) = [Shp.nil] := by
    show [U (PS h news) (fillQ h.length 0)] = _
    rw [fillQ_0, U_zero]
  rw [e1, e2] at H
  rw [hm] at H
  rw [hm]
  exact H
theorem sized_any {m : Nat} {ks : List Int} {sz bi : Int} (hB : okB m ks sz bi) {s : Int} (hs : 0 ≤ s) : branch_Sized (bN m ks sz bi) s = some (bN m ks s bi) ∧ okB m ks s bi := by
  refine ⟨?_, ⟨hB.lt, hB.len, hB.nz, hs, hB.bi0⟩⟩
  rw [branch_Sized.eq, branch_self hB, bnd_some, leI_d, br_if, if_pos hs]
  rfl
theorem sized_zero : branch_Sized ((0 : Int), (ByteArray.empty, (ByteArray.empty, ((0 : Int), ([], ((0 : Int), ([], ((0 : Int), ((0 : Int), ()))))))))) (2 : Int) = some (bN 0 [] 2 0) := by
  rw [branch_Sized.eq, branch_branch.eq, node_Branch_o.eq, cloneR_any [] (by simp), bnd_some]
  rfl
theorem okB_two : okB 0 [] 2 0 := ⟨by omega, rfl, fun k hk => (by cases hk), by omega, by omega⟩
end Go.Proofs.YtjekopgcpikkiaaGreatDoor.AM
