/- Texts of one proof, laid together: how the interpreter's words stand for the program's code and what the functions do. No conditions but those that each lemma names. -/
import Derived.Test.YtmopkbmcilolgaaGreatM4
set_option linter.unusedSimpArgs false
set_option linter.unusedVariables false
set_option linter.unusedSimpArgs false
namespace Go.Proofs.YtmopkbmcilolgaaGreat.AI
open Go.Abs
def rng (x : Int) : Prop := -9223372036854775808 ≤ x ∧ x ≤ 9223372036854775807
theorem wf_rng {a : Int} (h : (Lit.int .i64 a).wf = true) : rng a := by
  simp [Lit.wf, IntKind.min, IntKind.max, IntKind.bits, IntKind.signed] at h
  unfold rng
  omega
/-- A node's references are numbers of the program. -/
def rngN (n : NodeV) : Prop := (∀ k ∈ n.2.2.2.2.1, rng k) ∧ rng n.2.2.2.2.2.1
theorem few_rng {n : NodeV} (h : wfD tapiNode n) : rngN (few n) := by
  obtain ⟨_, _, _, _, hk, hmain, _⟩ := h
  exact ⟨fun k hk' => wf_rng (hk.2 k (List.mem_of_mem_take hk')), wf_rng hmain⟩
theorem refs_rng {n : NodeV} (h : rngN n) : ∀ r ∈ refsS n, rng r := by
  intro r hr
  unfold refsS at hr
  rcases List.mem_append.1 hr with hr | hr
  · exact h.1 r (List.mem_filter.1 hr).1
  · split at hr
    · rw [List.mem_singleton.1 hr]; exact h.2
    · cases hr
theorem ixN (l : List NodeV) (i : Nat) (h : i < l.length) : ixL tapiNode l (i : Int) = l[i] := ixL_d tapiNode l i h
/-! ### Not too many nodes -/
def fewW : Nat → List NodeV → List NodeV
  | _, [] => []
  | w, n :: l => if 3000 < w * max (refsS (few n)).length 1 then [] else few n :: fewW (w * max (refsS (few n)).length 1) l
def fewH (h : List NodeV) : List NodeV := fewW 1 (h.take 12)
theorem fewW_len : ∀ (l : List NodeV) (w : Nat), (fewW w l).length ≤ l.length
  | [], _ => Nat.le_refl _
  | n :: l, w => by
    unfold fewW
    split
    · exact Nat.zero_le _
    · have := fewW_len l (w * max (refsS (few n)).length 1)
      simp only [List.length_cons]
      omega
theorem fewW_mem : ∀ (l : List NodeV) (w : Nat), ∀ x ∈ fewW w l, ∃ n ∈ l, x = few n
  | [], _, x, h => by cases h
  | n :: l, w, x, h => by
    unfold fewW at h
    split at h
    · cases h
    · rcases List.mem_cons.1 h with h | h
      · exact ⟨n, by simp, h⟩
      · obtain ⟨m, h1, h2⟩ := fewW_mem l _ x h
        exact ⟨m, by simp [h1], h2⟩
theorem fewW_cons (w : Nat) (n : NodeV) (l : List NodeV) : fewW w (n :: l) = if 3000 < w * max (refsS (few n)).length 1 then [] else few n :: fewW (w * max (refsS (few n)).length 1) l := rfl
theorem fewW_fewW : ∀ (l : List NodeV) (w : Nat), fewW w (fewW w l) = fewW w l
  | [], _ => rfl
  | n :: l, w => by
    rw [fewW_cons]
    by_cases h : 3000 < w * max (refsS (few n)).length 1
    · rw [if_pos h]
      rfl
    · rw [if_neg h, fewW_cons, few_few, if_neg h, fewW_fewW]
theorem fewH_len (h : List NodeV) : (fewH h).length ≤ 12 := by
  have := fewW_len (h.take 12) 1
  rw [List.length_take] at this
  unfold fewH
  omega
theorem fewH_mem {h : List NodeV} : ∀ x ∈ fewH h, ∃ n ∈ h, x = few n := fun x hx => by
  obtain ⟨n, h1, h2⟩ := fewW_mem _ _ x hx
  exact ⟨n, List.mem_of_mem_take h1, h2⟩
theorem fewH_fewH (h : List NodeV) : fewH (fewH h) = fewH h := by
  have := fewH_len h
  show fewW 1 ((fewH h).take 12) = fewH h
  rw [List.take_of_length_le this]
  exact fewW_fewW _ _
/-- A heap of not too many nodes. -/
structure okH (h : List NodeV) : Prop where
  len : h.length ≤ 40000000
  node : ∀ n ∈ h, okN n
  rng : ∀ n ∈ h, rngN n
theorem okH.of {h : List NodeV} (hw : wfD (.list tapiNode) h) : okH (fewH h) :=
  ⟨Nat.le_trans (fewH_len h) (by omega), fun x hx => by obtain ⟨n, h1, rfl⟩ := fewH_mem x hx; exact few_okN (hw.2 n h1), fun x hx => by obtain ⟨n, h1, rfl⟩ := fewH_mem x hx; exact few_rng (hw.2 n h1)⟩
theorem refsS_few (n : NodeV) : (refsS (few n)).length ≤ 41 := by
  have h := refsS_len (few n)
  have : (few n).2.2.2.2.1.length ≤ 40 := by show (List.take 40 _).length ≤ 40; rw [List.length_take]; omega
  omega
/-- Nodes that Few is asked of. -/
def wideN (n : NodeV) : Prop := n.2.2.2.2.1.length ≤ 9223372036854775807 ∧ n.2.2.2.2.2.2.1.length ≤ 9223372036854775807 ∧ okN (few n)
/-! ### Whether a heap may be -/
def mayHL : Nat → List NodeV → Bool
  | _, [] => true
  | i, n :: l => (decide (mayS n = 0) && (refsS n).all fun r => decide (1 ≤ r ∧ r ≤ (i : Int))) && mayHL (i + 1) l
def mayH (h : List NodeV) : Bool := mayHL 0 h
theorem drop_all {p : Int → Bool} (l : List Int) (k : Nat) (h : k < l.length) : (l.drop k).all p = (p l[k] && (l.drop (k + 1)).all p) := by
  rw [List.drop_eq_getElem_cons h, List.all_cons]
theorem maych_l1 (h : List NodeV) (n i : Nat) (refs : List Int) (hr : refs.length ≤ 50000000) (d : Nat) : ∀ (k : Nat), k ≤ refs.length → refs.length - k = d →
    heap_May.l1 i h n i refs refs.length k = if ((refs.drop k).all fun r => decide (1 ≤ r ∧ r ≤ (i : Int))) = true then heap_May.l0 h n (addI .i64 i 1) else some 4 := by
  induction d with
  | zero =>
    intro k hk hd
    rw [heap_May.l1.eq]
    simp only [ltI_d, br_if]
    rw [if_neg (by omega), List.drop_eq_nil_of_le (by omega)]
    rfl
  | succ d ih =>
    intro k hk hd
    have hkl : k < refs.length := by omega
    rw [heap_May.l1.eq, ixR refs k hkl]
    simp only [ltI_d, leI_d, ofN_d, lenL_d, andB_d, br_if]
    rw [if_pos (by omega), if_pos (by omega), add1 k (by omega), ih (k + 1) (by omega) (by omega), drop_all refs k hkl]
    by_cases h1 : refs[k] < 1
    · rw [if_pos h1, decide_eq_false (by omega), Bool.false_and, if_neg (by simp)]
    · rw [if_neg h1]
      by_cases h2 : (i : Int) < refs[k]
      · rw [if_pos h2, decide_eq_false (by omega), Bool.false_and, if_neg (by simp)]
      · rw [if_neg h2, decide_eq_true (by omega), Bool.true_and]
theorem mayh_loop (h : List NodeV) (hl : h.length ≤ 50000000) (ho : ∀ n ∈ h, okN n) (d : Nat) : ∀ (i : Nat), i ≤ h.length → h.length - i = d → heap_May.l0 h h.length i = some (if mayHL i (h.drop i) = true then 0 else 4) := by
  induction d with
  | zero =>
    intro i hi hd
    rw [heap_May.l0.eq]
    simp only [ltI_d, br_if]
    rw [if_neg (by omega), List.drop_eq_nil_of_le (by omega)]
    rfl
  | succ d ih =>
    intro i hi hd
    have hil : i < h.length := by omega
    have o := ho _ (List.getElem_mem hil)
    have hrl := refsS_len h[i]
    have hkl := o.kids
    rw [heap_May.l0.eq, ixN h i hil, may_any _ o, bnd_some, refs_any _ o, bnd_some]
    simp only [ltI_d, leI_d, eqI_d, notB_d, ofN_d, lenL_d, andB_d, br_if]
    rw [if_pos (by omega), if_pos (by omega), List.drop_eq_getElem_cons hil]
    unfold mayHL
    by_cases hm : mayS h[i] = 0
    · rw [if_neg (fun q => q hm), decide_eq_true hm, Bool.true_and]
      have := maych_l1 h h.length i (refsS h[i]) (by omega) (refsS h[i]).length 0 (by omega) (by omega)
      rw [show ((0 : Nat) : Int) = 0 from rfl] at this
      rw [this, add1 i (by omega), ih (i + 1) (by omega) (by omega), List.drop_zero]
      cases (refsS h[i]).all fun r => decide (1 ≤ r ∧ r ≤ (i : Int)) with
      | true => rw [if_pos rfl, Bool.true_and]
      | false => rw [if_neg (by simp), Bool.false_and, if_neg (by simp)]
    · rw [if_pos hm, decide_eq_false hm, Bool.false_and, Bool.false_and, if_neg (by simp)]
theorem mayh_any (h : List NodeV) (ho : okH h) : heap_May h = some (if mayH h = true then 0 else 4) := by
  have hl := ho.len
  rw [heap_May.eq]
  exact mayh_loop h (by omega) ho.node h.length 0 (by omega) (by omega)
theorem refmaych_l1 (h : List NodeV) (i : Nat) (hi : i < h.length) (o : okN h[i]) (refs : List Int) (hr : refs.length ≤ 50000000) (d : Nat) : ∀ (k : Nat), k ≤ refs.length → refs.length - k = d →
    ref17_May.l1 h i refs k = if ((refs.drop k).all fun r => decide (1 ≤ r ∧ r ≤ (i : Int))) = true then (if mayS h[i] = 0 then ref17_May.l0 h (addI .i64 i 1) else some false) else some false := by
  induction d with
  | zero =>
    intro k hk hd
    rw [ref17_May.l1.eq, ixN h i hi, refmay_any _ o, bnd_some]
    simp only [ltI_d, leI_d, eqI_d, notB_d, ofN_d, lenL_d, andB_d, br_if]
    rw [if_neg (by omega), if_pos (by omega), List.drop_eq_nil_of_le (by omega), List.all_nil, if_pos rfl]
    by_cases hm : mayS h[i] = 0
    · rw [if_neg (fun q => q hm), if_pos hm]
    · rw [if_pos hm, if_neg hm]
  | succ d ih =>
    intro k hk hd
    have hkl : k < refs.length := by omega
    rw [ref17_May.l1.eq, ixR refs k hkl]
    simp only [ltI_d, leI_d, ofN_d, lenL_d, andB_d, br_if]
    rw [if_pos (by omega), if_pos (by omega), add1 k (by omega), ih (k + 1) (by omega) (by omega), drop_all refs k hkl]
    by_cases h1 : refs[k] < 1
    · rw [if_pos h1, decide_eq_false (by omega), Bool.false_and, if_neg (by simp)]
    · rw [if_neg h1, if_pos (by omega)]
      by_cases h2 : (i : Int) < refs[k]
      · rw [if_pos h2, decide_eq_false (by omega), Bool.false_and, if_neg (by simp)]
      · rw [if_neg h2, decide_eq_true (by omega), Bool.true_and]
theorem refmayh_loop (h : List NodeV) (hl : h.length ≤ 50000000) (ho : ∀ n ∈ h, okN n) (d : Nat) : ∀ (i : Nat), i ≤ h.length → h.length - i = d → ref17_May.l0 h i = some (mayHL i (h.drop i)) := by
  induction d with
  | zero =>
    intro i hi hd
    rw [ref17_May.l0.eq]
    simp only [ltI_d, ofN_d, lenL_d, br_if]
    rw [if_neg (by omega), List.drop_eq_nil_of_le (by omega)]
    rfl
  | succ d ih =>
    intro i hi hd
    have hil : i < h.length := by omega
    have o := ho _ (List.getElem_mem hil)
    have hrl := refsS_len h[i]
    have hkl := o.kids
    rw [ref17_May.l0.eq, ixN h i hil, refrefs_any _ o, bnd_some]
    simp only [ltI_d, leI_d, ofN_d, lenL_d, andB_d, br_if]
    have := refmaych_l1 h i hil o (refsS h[i]) (by omega) (refsS h[i]).length 0 (by omega) (by omega)
    rw [show ((0 : Nat) : Int) = 0 from rfl] at this
    rw [if_pos (by omega), if_pos (by omega), this, add1 i (by omega), ih (i + 1) (by omega) (by omega), List.drop_zero, List.drop_eq_getElem_cons hil]
    rw [show mayHL i (h[i] :: h.drop (i + 1)) = ((decide (mayS h[i] = 0) && (refsS h[i]).all fun r => decide (1 ≤ r ∧ r ≤ (i : Int))) && mayHL (i + 1) (h.drop (i + 1))) from rfl]
    cases (refsS h[i]).all fun r => decide (1 ≤ r ∧ r ≤ (i : Int)) with
    | true =>
      rw [if_pos rfl, Bool.and_true]
      by_cases hm : mayS h[i] = 0
      · rw [if_pos hm, decide_eq_true hm, Bool.true_and]
      · rw [if_neg hm, decide_eq_false hm, Bool.false_and]
    | false => rw [if_neg (by simp), Bool.and_false, Bool.false_and]
theorem refmayh_any (h : List NodeV) (ho : okH h) : ref17_May h = some (mayH h) := by
  have hl := ho.len
  rw [ref17_May.eq]
  exact refmayh_loop h (by omega) ho.node h.length 0 (by omega) (by omega)
end Go.Proofs.YtmopkbmcilolgaaGreat.AI
set_option linter.unusedVariables false
set_option linter.unusedSimpArgs false
namespace Go.Proofs.YtmopkbmcilolgaaGreat.AI
open Go.Abs
def bindsS (n : NodeV) : List PairV := if n.1 = 1 ∨ n.1 = 4 ∨ n.1 = 6 then [(n.2.1, (n.2.2.1, ()))] else if n.1 = 3 then n.2.2.2.2.2.2.1 else []
theorem binds_any (n : NodeV) (h : okN n) : node_Binds n = some ((), (bindsS n, ())) := by
  have hl := h.list
  rw [node_Binds.eq]
  unfold bindsS
  simp only [eqI_d, br_if]
  by_cases h1 : n.1 = 1
  · rw [if_pos h1, if_pos (.inl h1)]
  rw [if_neg h1]
  by_cases h6 : n.1 = 6
  · rw [if_pos h6, if_pos (.inr (.inr h6))]
  rw [if_neg h6]
  by_cases h4 : n.1 = 4
  · rw [if_pos h4, if_pos (.inr (.inl h4))]
  rw [if_neg h4, if_neg (show ¬ (n.1 = 1 ∨ n.1 = 4 ∨ n.1 = 6) by omega)]
  by_cases h3 : n.1 = 3
  · rw [if_pos h3, if_pos h3, cloneP_any _ (by omega), bnd_some]
  · rw [if_neg h3, if_neg h3]
end Go.Proofs.YtmopkbmcilolgaaGreat.AI
set_option linter.unusedVariables false
set_option linter.unusedSimpArgs false
namespace Go.Proofs.YtmopkbmcilolgaaGreat.AI
open Go.Abs
/-! ### Nodes that may be -/
theorem mayS_zero {n : NodeV} (h : mayS n = 0) : 1 ≤ n.1 ∧ n.1 ≤ 6 ∧ longN n = false ∧ formP n := by
  unfold mayS at h
  by_cases h1 : n.1 < 1
  · rw [if_pos h1] at h; cases h
  rw [if_neg h1] at h
  by_cases h2 : 6 < n.1
  · rw [if_pos h2] at h; cases h
  rw [if_neg h2] at h
  by_cases h3 : longN n = true
  · rw [if_pos h3] at h; cases h
  rw [if_neg h3] at h
  by_cases h4 : formP n
  · exact ⟨by omega, by omega, by simpa using h3, h4⟩
  · rw [if_neg h4] at h; cases h
theorem form_tree {n : NodeV} (h : formP n) (h4 : n.1 = 4) : n.2.2.2.1 = 0 ∧ n.2.2.2.2.1.length = 2 ∧ 1 ≤ n.2.2.2.2.2.2.2.1 ∧ n.2.2.2.2.2.1 = 0 ∧ n.2.2.2.2.2.2.1 = [] := by
  unfold formP at h
  obtain ⟨_, h⟩ := h
  rw [if_neg (by omega), if_neg (by omega), if_neg (by omega), if_pos h4] at h
  obtain ⟨h1, h2, h3, hb⟩ := h
  unfold bareP at hb
  exact ⟨h1, h2, h3, hb.2.2.1 rfl, hb.2.2.2 rfl⟩
/-! ### All references of a node, none among them -/
def stripV (n : NodeV) : NodeV := (n.1, (n.2.1, (n.2.2.1, (n.2.2.2.1, ([], (0, (n.2.2.2.2.2.2.1, (n.2.2.2.2.2.2.2.1, (0, ())))))))))
def allK (n : NodeV) : List Int := n.2.2.2.2.1 ++ [n.2.2.2.2.2.1]
theorem refsS_all (n : NodeV) : refsS n = (allK n).filter (fun r => decide (r ≠ 0)) := by
  unfold refsS allK
  rw [List.filter_append]
  by_cases h : n.2.2.2.2.2.1 = 0
  · rw [if_neg (by intro q; exact q h), List.filter_cons_of_neg (by simp [h])]; rfl
  · rw [if_pos h, List.filter_cons_of_pos (by simp [h])]; rfl
theorem allK_len (n : NodeV) : (allK n).length = n.2.2.2.2.1.length + 1 := by unfold allK; simp
/-- A shape: what is below a reference. -/
inductive Shp where
  | nil
  | node (b : NodeV) (l : List Shp)
def getN (h : List NodeV) (r : Int) : NodeV := h.getD (r - 1).toNat zeroN
theorem getN_ix (h : List NodeV) (i : Nat) (hi : i < h.length) : getN h ((i : Int) + 1) = h[i] := by
  unfold getN
  rw [show ((i : Int) + 1 - 1).toNat = i by omega, List.getD_eq_getElem?_getD, List.getElem?_eq_getElem hi]; rfl
theorem getN_mem (h : List NodeV) (r : Int) (h1 : 1 ≤ r) (h2 : r ≤ h.length) : getN h r ∈ h := by
  obtain ⟨i, rfl⟩ : ∃ i : Nat, r = (i : Int) + 1 := ⟨(r - 1).toNat, by omega⟩
  rw [getN_ix h i (by omega)]
  exact List.getElem_mem _
theorem sub1I (r : Int) (h1 : 1 ≤ r) (h2 : r ≤ 1000000000) : subI .i64 r 1 = r - 1 := subI_d (by omega) (by omega)
theorem ixG (h : List NodeV) (r : Int) (h1 : 1 ≤ r) (h2 : r ≤ h.length) (h3 : h.length ≤ 50000000) : ixL tapiNode h (subI .i64 r 1) = getN h r := by
  obtain ⟨i, rfl⟩ : ∃ i : Nat, r = (i : Int) + 1 := ⟨(r - 1).toNat, by omega⟩
  rw [sub1I _ h1 (by omega), getN_ix h i (by omega), show ((i : Int) + 1 - 1) = (i : Int) by omega]
  exact ixN h i (by omega)
theorem inG (h : List NodeV) (r : Int) (h1 : 1 ≤ r) (h2 : r ≤ h.length) (h3 : h.length ≤ 50000000) : andB (leI 0 (subI .i64 r 1)) (ltI (subI .i64 r 1) (ofN (lenL tapiNode h))) = true := by
  rw [sub1I r h1 (by omega), leI_d, ltI_d, andB_d]
  refine decide_eq_true ⟨by omega, ?_⟩
  show r - 1 < (h.length : Int)
  omega
def unf (h : List NodeV) : Nat → Int → Shp
  | 0, _ => .nil
  | k + 1, r => if r = 0 then .nil else .node (stripV (getN h r)) ((allK (getN h r)).map (unf h k))
def U (h : List NodeV) (r : Int) : Shp := unf h r.toNat r
theorem mayHL_at : ∀ (l : List NodeV) (i : Nat), mayHL i l = true → ∀ (j : Nat) (hj : j < l.length), mayS l[j] = 0 ∧ ∀ r ∈ refsS l[j], 1 ≤ r ∧ r ≤ ((i + j : Nat) : Int)
  | n :: l, i, h, j, hj => by
    unfold mayHL at h
    simp only [Bool.and_eq_true, decide_eq_true_eq, List.all_eq_true] at h
    obtain ⟨⟨h1, h2⟩, h3⟩ := h
    cases j with
    | zero => exact ⟨h1, h2⟩
    | succ j =>
      have := mayHL_at l (i + 1) h3 j (by simpa using hj)
      rw [show i + 1 + j = i + (j + 1) by omega] at this
      exact this
theorem mayHL_of : ∀ (l : List NodeV) (i : Nat), (∀ (j : Nat) (hj : j < l.length), mayS l[j] = 0 ∧ ∀ r ∈ refsS l[j], 1 ≤ r ∧ r ≤ ((i + j : Nat) : Int)) → mayHL i l = true
  | [], _, _ => rfl
  | n :: l, i, h => by
    unfold mayHL
    simp only [Bool.and_eq_true, decide_eq_true_eq, List.all_eq_true]
    refine ⟨h 0 (by simp), mayHL_of l (i + 1) fun j hj => ?_⟩
    have := h (j + 1) (by simpa using hj)
    rw [show i + (j + 1) = i + 1 + j by omega] at this
    exact this
theorem may_node {h : List NodeV} (hm : mayH h = true) {r : Int} (h1 : 1 ≤ r) (h2 : r ≤ h.length) : mayS (getN h r) = 0 ∧ ∀ k ∈ allK (getN h r), k = 0 ∨ (1 ≤ k ∧ k ≤ r - 1) := by
  obtain ⟨i, rfl⟩ : ∃ i : Nat, r = (i : Int) + 1 := ⟨(r - 1).toNat, by omega⟩
  rw [getN_ix h i (by omega)]
  obtain ⟨a, b⟩ := mayHL_at h 0 hm i (by omega)
  refine ⟨a, fun k hk => ?_⟩
  by_cases e : k = 0
  · exact .inl e
  · have := b k (by rw [refsS_all]; exact List.mem_filter.2 ⟨hk, by simp [e]⟩)
    exact .inr ⟨this.1, by omega⟩
theorem unf_zero (h : List NodeV) (k : Nat) : unf h k 0 = .nil := by
  cases k with
  | zero => rfl
  | succ k => unfold unf; exact if_pos rfl
theorem unf_fuel {h : List NodeV} (hm : mayH h = true) : ∀ (n : Nat) (r : Int) (k k' : Nat), 0 ≤ r → r ≤ n → r ≤ h.length → r.toNat ≤ k → r.toNat ≤ k' → unf h k r = unf h k' r := by
  intro n
  induction n with
  | zero =>
    intro r k k' h0 h1 h2 h3 h4
    have : r = 0 := by omega
    subst this
    rw [unf_zero, unf_zero]
  | succ n ih =>
    intro r k k' h0 h1 h2 h3 h4
    by_cases e : r = 0
    · subst e; rw [unf_zero, unf_zero]
    obtain ⟨k, rfl⟩ : ∃ j, k = j + 1 := ⟨k - 1, by omega⟩
    obtain ⟨k', rfl⟩ : ∃ j, k' = j + 1 := ⟨k' - 1, by omega⟩
    unfold unf
    rw [if_neg e, if_neg e]
    congr 1
    refine List.map_congr_left fun x hx => ?_
    rcases (may_node hm (by omega) h2).2 x hx with rfl | ⟨g1, g2⟩
    · rw [unf_zero, unf_zero]
    · exact ih x k k' (by omega) (by omega) (by omega) (by omega) (by omega)
theorem U_zero (h : List NodeV) : U h 0 = .nil := unf_zero h _
theorem U_node {h : List NodeV} (hm : mayH h = true) {r : Int} (h1 : 1 ≤ r) (h2 : r ≤ h.length) : U h r = .node (stripV (getN h r)) ((allK (getN h r)).map (U h)) := by
  unfold U
  obtain ⟨k, hk⟩ : ∃ j, r.toNat = j + 1 := ⟨r.toNat - 1, by omega⟩
  rw [hk, unf, if_neg (by omega)]
  congr 1
  refine List.map_congr_left fun x hx => ?_
  rcases (may_node hm h1 h2).2 x hx with rfl | ⟨g1, g2⟩
  · rw [unf_zero, unf_zero]
  · exact unf_fuel hm x.toNat x k x.toNat (by omega) (by omega) (by omega) (by omega) (by omega)
theorem U_nil {h : List NodeV} (hm : mayH h = true) {r : Int} (h1 : 0 ≤ r) (h2 : r ≤ h.length) : U h r = .nil ↔ r = 0 := by
  constructor
  · intro e
    by_cases q : r = 0
    · exact q
    · rw [U_node hm (by omega) h2] at e; cases e
  · rintro rfl; exact U_zero h
/-! ### Whether heaps may be, and references fit -/
def fitH (h : List NodeV) (r : Int) : Bool := decide (0 ≤ r ∧ r ≤ h.length) && mayH h
theorem hmay_any (h : List NodeV) (ho : okH h) (r : Int) : heap_may h r = some (if fitH h r = true then 0 else 4) := by
  rw [heap_may.eq, mayh_any h ho, bnd_some]
  unfold fitH
  simp only [ltI_d, leI_d, ofN_d, lenL_d, br_if]
  by_cases h1 : r < 0
  · rw [if_pos h1, decide_eq_false (by omega), Bool.false_and, if_neg (by simp)]
  rw [if_neg h1]
  by_cases h2 : (h.length : Int) < r
  · rw [if_pos h2, decide_eq_false (by omega), Bool.false_and, if_neg (by simp)]
  rw [if_neg h2, decide_eq_true (by omega), Bool.true_and]
theorem fits_any (h : List NodeV) (ho : okH h) (r : Int) : ref17_Fits h r = some (fitH h r) := by
  rw [ref17_Fits.eq, refmayh_any h ho, bnd_some]
  unfold fitH
  simp only [ltI_d, leI_d, ofN_d, lenL_d, br_if]
  by_cases h1 : 0 ≤ r
  · rw [if_pos h1]
    by_cases h2 : r ≤ (h.length : Int)
    · rw [if_pos h2, decide_eq_true ⟨h1, h2⟩, Bool.true_and]
    · rw [if_neg h2, decide_eq_false (fun q => h2 q.2), Bool.false_and]
  · rw [if_neg h1, decide_eq_false (fun q => h1 q.1), Bool.false_and]
theorem fitH_iff {h : List NodeV} {r : Int} : fitH h r = true ↔ (0 ≤ r ∧ r ≤ h.length) ∧ mayH h = true := by
  unfold fitH; simp
/-! ### The bindings below a shape -/
mutual
def bindsT : Shp → List PairV
  | .nil => []
  | .node b l => if b.1 = 4 then (bindsL l).getD 0 [] ++ bindsS b ++ (bindsL l).getD 1 [] else bindsS b ++ (bindsL l).flatten
def bindsL : List Shp → List (List PairV)
  | [] => []
  | s :: l => bindsT s :: bindsL l
end
theorem bindsL_map : ∀ l, bindsL l = l.map bindsT
  | [] => by rw [bindsL]; rfl
  | s :: l => by rw [bindsL, bindsL_map l]; rfl
theorem bindsT_nil : bindsT .nil = [] := by rw [bindsT]
theorem bindsT_node (b : NodeV) (l : List Shp) : bindsT (.node b l) = if b.1 = 4 then ((l.map bindsT).getD 0 []) ++ bindsS b ++ ((l.map bindsT).getD 1 []) else bindsS b ++ (l.map bindsT).flatten := by
  rw [bindsT, bindsL_map]
theorem bindsS_strip (n : NodeV) : bindsS (stripV n) = bindsS n := rfl
theorem flat_refs (f : Int → List PairV) (hf : f 0 = []) : ∀ l : List Int, (l.map f).flatten = ((l.filter (fun r => decide (r ≠ 0))).map f).flatten
  | [] => rfl
  | r :: l => by
    by_cases h : r = 0
    · rw [List.filter_cons_of_neg (by simp [h]), List.map_cons, List.flatten_cons, h, hf, List.nil_append, flat_refs f hf l]
    · rw [List.filter_cons_of_pos (by simp [h]), List.map_cons, List.map_cons, List.flatten_cons, List.flatten_cons, flat_refs f hf l]
theorem bindsU_refs {h : List NodeV} (hm : mayH h = true) {r : Int} (h1 : 1 ≤ r) (h2 : r ≤ h.length) (h4 : (getN h r).1 ≠ 4) : bindsT (U h r) = bindsS (getN h r) ++ ((refsS (getN h r)).map fun x => bindsT (U h x)).flatten := by
  rw [U_node hm h1 h2, bindsT_node, if_neg (show ¬ (stripV (getN h r)).1 = 4 from h4), bindsS_strip, List.map_map, refsS_all]
  congr 1
  exact flat_refs (fun x => bindsT (U h x)) (by rw [U_zero, bindsT_nil]) _
theorem bindsU_tree {h : List NodeV} (hm : mayH h = true) {r : Int} (h1 : 1 ≤ r) (h2 : r ≤ h.length) (h4 : (getN h r).1 = 4) :
    ∃ a b : Int, (getN h r).2.2.2.2.1 = [a, b] ∧ (getN h r).2.2.2.2.2.1 = 0 ∧ (a = 0 ∨ (1 ≤ a ∧ a ≤ r - 1)) ∧ (b = 0 ∨ (1 ≤ b ∧ b ≤ r - 1)) ∧ bindsT (U h r) = bindsT (U h a) ++ bindsS (getN h r) ++ bindsT (U h b) := by
  obtain ⟨g1, g2⟩ := may_node hm h1 h2
  obtain ⟨_, k2, _, k4, _⟩ := form_tree (mayS_zero g1).2.2.2 h4
  obtain ⟨a, b, e⟩ : ∃ a b, (getN h r).2.2.2.2.1 = [a, b] := by
    match hk : (getN h r).2.2.2.2.1, k2 with
    | [a, b], _ => exact ⟨a, b, rfl⟩
  have ea : allK (getN h r) = [a, b, 0] := by unfold allK; rw [e, k4]; rfl
  refine ⟨a, b, e, k4, g2 a (by rw [ea]; simp), g2 b (by rw [ea]; simp), ?_⟩
  rw [U_node hm h1 h2, bindsT_node, if_pos (show (stripV (getN h r)).1 = 4 from h4), bindsS_strip, ea]
  rfl
theorem ix0 (l : List Int) (a b : Int) (h : l = [a, b]) : ixL (.int .i64) l 0 = a ∧ ixL (.int .i64) l 1 = b := by subst h; exact ⟨rfl, rfl⟩
theorem in01 (l : List Int) (a b : Int) (h : l = [a, b]) : andB (leI 0 0) (ltI 0 (ofN (lenL (.int .i64) l))) = true ∧ andB (leI 0 1) (ltI 1 (ofN (lenL (.int .i64) l))) = true := by
  subst h; exact ⟨rfl, rfl⟩
theorem flat_sub {l : List (List PairV)} {x : List PairV} (h : x ∈ l) : x.length ≤ l.flatten.length := by
  induction l with
  | nil => cases h
  | cons y l ih =>
    rw [List.flatten_cons, List.length_append]
    rcases List.mem_cons.1 h with rfl | h
    · omega
    · have := ih h; omega
/-- What the loops over references do. -/
theorem hbinds_loop {h : List NodeV} (ho : okH h) (refs : List Int) (hr : refs.length ≤ 50000000) (hb : ∀ x ∈ refs, heap_binds h x = some ((), (bindsT (U h x), ()))) (d : Nat) : ∀ (i : Nat) (acc : List PairV), i ≤ refs.length → refs.length - i = d →
    (acc ++ ((refs.drop i).map fun x => bindsT (U h x)).flatten).length ≤ 1000000000 → heap_binds.l0 h refs refs.length i acc = some ((), (acc ++ ((refs.drop i).map fun x => bindsT (U h x)).flatten, ())) := by
  induction d with
  | zero =>
    intro i acc h1 h2 h3
    rw [heap_binds.l0.eq]
    simp only [ltI_d, br_if]
    rw [if_neg (by omega), List.drop_eq_nil_of_le (by omega)]
    simp
  | succ d ih =>
    intro i acc h1 h2 h3
    have hi : i < refs.length := by omega
    rw [List.drop_eq_getElem_cons hi, List.map_cons, List.flatten_cons, ← List.append_assoc] at h3
    rw [heap_binds.l0.eq]
    simp only [ltI_d, leI_d, ofN_d, lenL_d, andB_d, br_if]
    rw [if_pos (by omega), if_pos (by omega), ixR refs i hi, hb _ (List.getElem_mem hi), bnd_some]
    simp only [fitL_d, appL_d, br_if]
    rw [if_pos (by rw [List.length_append] at h3; omega), add1 i (by omega), ih (i + 1) _ (by omega) (by omega) h3, List.drop_eq_getElem_cons hi, List.map_cons, List.flatten_cons, List.append_assoc]
theorem hbinds_any {h : List NodeV} (ho : okH h) (hm : mayH h = true) : ∀ (n : Nat) (r : Int), 0 ≤ r → r ≤ n → r ≤ h.length → (bindsT (U h r)).length ≤ 1000000000 → heap_binds h r = some ((), (bindsT (U h r), ())) := by
  have hlen := ho.len
  intro n
  induction n with
  | zero =>
    intro r h0 h1 h2 h3
    have : r = 0 := by omega
    subst this
    rw [heap_binds.eq, eqI_d, br_if, if_pos rfl, U_zero, bindsT_nil]
  | succ n ih =>
    intro r h0 h1 h2 h3
    by_cases e : r = 0
    · subst e
      rw [heap_binds.eq, eqI_d, br_if, if_pos rfl, U_zero, bindsT_nil]
    have hr1 : 1 ≤ r := by omega
    have o := ho.node _ (getN_mem h r hr1 h2)
    rw [heap_binds.eq, eqI_d, br_if, if_neg e, inG h r hr1 h2 (by omega), br_t, ixG h r hr1 h2 (by omega), eqI_d, br_if]
    by_cases h4 : (getN h r).1 = 4
    · obtain ⟨a, b, k1, k2, k3, k4, k5⟩ := bindsU_tree hm hr1 h2 h4
      rw [k5, List.length_append, List.length_append] at h3
      rw [if_pos h4, (in01 _ a b k1).1, br_t, (in01 _ a b k1).2, br_t, (ix0 _ a b k1).1, (ix0 _ a b k1).2, ih a (by omega) (by omega) (by omega) (by omega), bnd_some, binds_any _ o, bnd_some]
      simp only [fitL_d, appL_d, br_if]
      rw [if_pos (by rw [List.length_append]; omega), ih b (by omega) (by omega) (by omega) (by omega), bnd_some]
      simp only [fitL_d, appL_d, br_if]
      rw [if_pos (by rw [List.length_append, List.length_append]; omega), k5]
    · have k5 := bindsU_refs hm hr1 h2 h4
      have hrl := refsS_len (getN h r)
      have hkl := o.kids
      rw [k5] at h3
      have hx := (may_node hm hr1 h2).2
      have hb : ∀ x ∈ refsS (getN h r), heap_binds h x = some ((), (bindsT (U h x), ())) := by
        intro x hx'
        have hq := hx'
        rw [refsS_all] at hq
        have := hx x (List.mem_filter.1 hq).1
        refine ih x (by omega) (by omega) (by omega) ?_
        have := flat_sub (List.mem_map.2 ⟨x, hx', rfl⟩ : bindsT (U h x) ∈ (refsS (getN h r)).map fun x => bindsT (U h x))
        rw [List.length_append] at h3
        omega
      rw [if_neg h4, binds_any _ o, bnd_some, refs_any _ o, bnd_some]
      have := hbinds_loop ho (refsS (getN h r)) (by omega) hb (refsS (getN h r)).length 0 (bindsS (getN h r)) (by omega) (by omega) (by rw [List.drop_zero]; exact h3)
      rw [List.drop_zero, show ((0 : Nat) : Int) = 0 from rfl] at this
      rw [k5]
      exact this
end Go.Proofs.YtmopkbmcilolgaaGreat.AI
set_option linter.unusedVariables false
set_option linter.unusedSimpArgs false
namespace Go.Proofs.YtmopkbmcilolgaaGreat.AI
open Go.Abs
noncomputable instance shpDec : DecidableEq Shp := fun _ _ => Classical.propDecidable _
noncomputable def eqSh (a b : Shp) : Bool := decide (a = b)
theorem eqSh_iff {a b : Shp} : eqSh a b = true ↔ a = b := by unfold eqSh; exact decide_eq_true_iff
theorem eqSh_not {a b : Shp} (h : a ≠ b) : eqSh a b = false := by unfold eqSh; exact decide_eq_false h
theorem eqSh_of {a b c d : Shp} (h : (a = b) ↔ (c = d)) : eqSh a b = eqSh c d := by unfold eqSh; exact decide_eq_decide.2 h
noncomputable def eqShL (a b : List Shp) : Bool := decide (a = b)
theorem eqShL_cons (a b : Shp) (l m : List Shp) : eqShL (a :: l) (b :: m) = (eqSh a b && eqShL l m) := by
  unfold eqShL eqSh
  rw [← Bool.decide_and]
  exact decide_eq_decide.2 (by simp)
theorem eqShL_nil : eqShL [] [] = true := by unfold eqShL; exact decide_eq_true rfl
theorem eqShL_iff {a b : List Shp} : eqShL a b = true ↔ a = b := by unfold eqShL; exact decide_eq_true_iff
/-- A node without references, and birth; but whether they are there. -/
def bareV (n : NodeV) : NodeV := (n.1, (n.2.1, (n.2.2.1, (n.2.2.2.1, (n.2.2.2.2.1.map (min · 1), (min n.2.2.2.2.2.1 1, (n.2.2.2.2.2.2.1, (n.2.2.2.2.2.2.2.1, (0, ())))))))))
theorem hbare_loop (m : Nat) (d : Nat) : ∀ (i : Nat) (ks : List Int) (x2 x3) (x5 : List PairV) (x6 : List Int) (x7 : List PairV), ks.length = m → m ≤ 50000000 → i ≤ m → m - i = d →
    heap_bare.l0 (m : Int) i x2 x3 ks x5 x6 x7 = some (x2.1, (x2.2.1, (x2.2.2.1, (x2.2.2.2.1, (ks.take i ++ (ks.drop i).map (min · 1), ((min x2.2.2.2.2.2.1 1), (x5, (x2.2.2.2.2.2.2.2.1, ((0 : Int), ()))))))))) := by
  induction d with
  | zero =>
    intro i ks x2 x3 x5 x6 x7 h1 h2 h3 h4
    rw [heap_bare.l0.eq]
    simp only [ltI_d, minI_d, br_if]
    rw [if_neg (by omega), List.drop_eq_nil_of_le (by omega), List.take_of_length_le (by omega), List.map_nil, List.append_nil]
  | succ d ih =>
    intro i ks x2 x3 x5 x6 x7 h1 h2 h3 h4
    have hi : i < ks.length := by omega
    rw [heap_bare.l0.eq]
    simp only [ltI_d, leI_d, ofN_d, lenL_d, andB_d, minI_d, br_if]
    rw [if_pos (by omega), if_pos (by omega), if_pos (by omega), ixR ks i hi, add1 i (by omega)]
    have e : setL (.int .i64) ks (i : Int) (min ks[i] 1) = ks.set i (min ks[i] 1) := by unfold setL; rw [Int.toNat_natCast]
    rw [e, ih (i + 1) _ _ _ _ _ _ (by rw [List.length_set]; omega) h2 (by omega) (by omega)]
    have e1 : (ks.set i (min ks[i] 1)).take (i + 1) = ks.take i ++ [min ks[i] 1] := by
      rw [List.take_succ_eq_append_getElem (by rw [List.length_set]; exact hi), List.getElem_set_self, List.take_set_of_le (by omega)]
    have e2 : (ks.set i (min ks[i] 1)).drop (i + 1) = ks.drop (i + 1) := List.drop_set_of_lt (by omega)
    rw [e1, e2, List.drop_eq_getElem_cons hi, List.map_cons, List.append_assoc]
    rfl
theorem hbare_any (n : NodeV) (h : okN n) : heap_bare n = some (bareV n) := by
  have hk := h.kids
  rw [heap_bare.eq, copy_any n h, bnd_some]
  have := hbare_loop n.2.2.2.2.1.length n.2.2.2.2.1.length 0 n.2.2.2.2.1 (n.1, (n.2.1, (n.2.2.1, (n.2.2.2.1, ((), (n.2.2.2.2.2.1, ((), n.2.2.2.2.2.2.2))))))) ((0 : Int), (ByteArray.empty, (ByteArray.empty, ((0 : Int), ((), ((0 : Int), ((), ((0 : Int), ((0 : Int), ()))))))))) n.2.2.2.2.2.2.1 [] [] rfl (by omega) (by omega) (by omega)
  rw [List.take_zero, List.drop_zero, List.nil_append, show ((0 : Nat) : Int) = 0 from rfl] at this
  exact this
theorem bare_okN {n : NodeV} (h : okN n) : okN (bareV n) := ⟨h.key, h.val, h.map0, h.map1, by show (n.2.2.2.2.1.map (min · 1)).length ≤ _; rw [List.length_map]; exact h.kids, h.list, h.binds⟩
theorem bare_iff (a b : NodeV) : bareV a = bareV b ↔ stripV a = stripV b ∧ (allK a).map (min · 1) = (allK b).map (min · 1) := by
  rw [node_ext, node_ext]
  unfold bareV stripV allK
  dsimp only
  rw [List.map_append, List.map_append, List.map_singleton, List.map_singleton]
  constructor
  · rintro ⟨h1, h2, h3, h4, h5, h6, h7, h8, _⟩
    exact ⟨⟨h1, h2, h3, h4, rfl, rfl, h7, h8, rfl⟩, by rw [h5, h6]⟩
  · rintro ⟨⟨h1, h2, h3, h4, _, _, h7, h8, _⟩, h5⟩
    obtain ⟨h5, h6⟩ := List.append_inj' h5 rfl
    injection h6 with h6
    exact ⟨h1, h2, h3, h4, h5, h6, h7, h8, rfl⟩
/-- References, none among them, against what is below them. -/
theorem kids_iff {h g : List NodeV} (hz : ∀ k ∈ ([] : List Int), True) : ∀ (l m : List Int), (∀ k ∈ l, 0 ≤ k ∧ (U h k = .nil ↔ k = 0)) → (∀ k ∈ m, 0 ≤ k ∧ (U g k = .nil ↔ k = 0)) →
    ((l.map (min · 1) = m.map (min · 1) ∧ (l.filter (fun r => decide (r ≠ 0))).map (U h) = (m.filter (fun r => decide (r ≠ 0))).map (U g)) ↔ l.map (U h) = m.map (U g))
  | [], [], _, _ => by simp
  | [], b :: m, _, _ => by simp
  | a :: l, [], _, _ => by simp
  | a :: l, b :: m, ha, hb => by
    have ih := kids_iff hz l m (fun k hk => ha k (List.mem_cons_of_mem _ hk)) (fun k hk => hb k (List.mem_cons_of_mem _ hk))
    obtain ⟨a0, a1⟩ := ha a List.mem_cons_self
    obtain ⟨b0, b1⟩ := hb b List.mem_cons_self
    rw [List.map_cons, List.map_cons, List.map_cons, List.map_cons, List.cons.injEq, List.cons.injEq, ← ih]
    by_cases ea : a = 0
    · by_cases eb : b = 0
      · have ua := a1.2 ea
        have ub := b1.2 eb
        rw [List.filter_cons_of_neg (by simp [ea]), List.filter_cons_of_neg (by simp [eb]), ua, ub]
        constructor
        · rintro ⟨⟨_, h1⟩, h2⟩; exact ⟨rfl, h1, h2⟩
        · rintro ⟨_, h1, h2⟩; exact ⟨⟨by omega, h1⟩, h2⟩
      · constructor
        · rintro ⟨⟨h1, _⟩, _⟩; omega
        · rintro ⟨h1, _⟩
          exact absurd (b1.1 (h1.symm.trans (a1.2 ea))) eb
    · by_cases eb : b = 0
      · constructor
        · rintro ⟨⟨h1, _⟩, _⟩; omega
        · rintro ⟨h1, _⟩
          exact absurd (a1.1 (h1.trans (b1.2 eb))) ea
      · rw [List.filter_cons_of_pos (by simp [ea]), List.filter_cons_of_pos (by simp [eb]), List.map_cons, List.map_cons, List.cons.injEq]
        constructor
        · rintro ⟨⟨_, h1⟩, h2, h3⟩; exact ⟨h2, h1, h3⟩
        · rintro ⟨h2, h1, h3⟩; exact ⟨⟨by omega, h1⟩, h2, h3⟩
theorem shape_iff {h g : List NodeV} (hm : mayH h = true) (gm : mayH g = true) {r s : Int} (h1 : 1 ≤ r) (h2 : r ≤ h.length) (g1 : 1 ≤ s) (g2 : s ≤ g.length) :
    U h r = U g s ↔ bareV (getN h r) = bareV (getN g s) ∧ (refsS (getN h r)).map (U h) = (refsS (getN g s)).map (U g) := by
  rw [U_node hm h1 h2, U_node gm g1 g2, bare_iff, refsS_all, refsS_all, Shp.node.injEq, and_assoc]
  refine and_congr_right fun _ => (kids_iff (fun _ hk => by cases hk) _ _ (fun k hk => ?_) (fun k hk => ?_)).symm
  · have := (may_node hm h1 h2).2 k hk
    exact ⟨by omega, U_nil hm (by omega) (by omega)⟩
  · have := (may_node gm g1 g2).2 k hk
    exact ⟨by omega, U_nil gm (by omega) (by omega)⟩
theorem min_filter : ∀ (l m : List Int), l.map (min · 1) = m.map (min · 1) → (∀ k ∈ l, 0 ≤ k) → (∀ k ∈ m, 0 ≤ k) → (l.filter (fun r => decide (r ≠ 0))).length = (m.filter (fun r => decide (r ≠ 0))).length
  | [], [], _, _, _ => rfl
  | [], _ :: _, h, _, _ => by cases h
  | _ :: _, [], h, _, _ => by cases h
  | a :: l, b :: m, h, ha, hb => by
    rw [List.map_cons, List.map_cons, List.cons.injEq] at h
    have ih := min_filter l m h.2 (fun k hk => ha k (List.mem_cons_of_mem _ hk)) (fun k hk => hb k (List.mem_cons_of_mem _ hk))
    have a0 := ha a List.mem_cons_self
    have b0 := hb b List.mem_cons_self
    by_cases ea : a = 0
    · have eb : b = 0 := by have := h.1; omega
      rw [List.filter_cons_of_neg (by simp [ea]), List.filter_cons_of_neg (by simp [eb])]; exact ih
    · have eb : b ≠ 0 := by have := h.1; omega
      rw [List.filter_cons_of_pos (by simp [ea]), List.filter_cons_of_pos (by simp [eb]), List.length_cons, List.length_cons, ih]
theorem hsame_loop {h g : List NodeV} (x y : List Int) (hx : x.length ≤ 50000000) (hxy : x.length = y.length) (hb : ∀ (a b : Int), a ∈ x → b ∈ y → heap_same h a g b = some (eqSh (U h a) (U g b))) (d : Nat) : ∀ (i : Nat), i ≤ x.length → x.length - i = d →
    heap_same.l1 h g x y x.length i = some (eqShL ((x.drop i).map (U h)) ((y.drop i).map (U g))) := by
  induction d with
  | zero =>
    intro i h1 h2
    rw [heap_same.l1.eq]
    simp only [ltI_d, br_if]
    rw [if_neg (by omega), List.drop_eq_nil_of_le (by omega), List.drop_eq_nil_of_le (by omega), List.map_nil, List.map_nil, eqShL_nil]
  | succ d ih =>
    intro i h1 h2
    have hi : i < x.length := by omega
    have hj : i < y.length := by omega
    rw [heap_same.l1.eq]
    simp only [ltI_d, leI_d, ofN_d, lenL_d, andB_d, br_if]
    rw [if_pos (by omega), if_pos (by omega), if_pos (by omega), ixR x i hi, ixR y i hj, hb _ _ (List.getElem_mem hi) (List.getElem_mem hj), bnd_some, add1 i (by omega), ih (i + 1) (by omega) (by omega), List.drop_eq_getElem_cons hi, List.drop_eq_getElem_cons hj, List.map_cons, List.map_cons, eqShL_cons]
    cases eqSh (U h x[i]) (U g y[i]) with
    | true => rw [show notB true = false from rfl, br_f, Bool.true_and]
    | false => rw [show notB false = true from rfl, br_t, Bool.false_and]
theorem hsame_any {h g : List NodeV} (ho : okH h) (hm : mayH h = true) (go : okH g) (gm : mayH g = true) : ∀ (n : Nat) (r s : Int), 0 ≤ r → r ≤ n → r ≤ h.length → 0 ≤ s → s ≤ g.length → heap_same h r g s = some (eqSh (U h r) (U g s)) := by
  have hlen := ho.len
  have glen := go.len
  have zero : ∀ r s : Int, 0 ≤ r → r ≤ h.length → 0 ≤ s → s ≤ g.length → (r = 0 ∨ s = 0) → heap_same h r g s = some (eqSh (U h r) (U g s)) := by
    intro r s h0 h1 g0 g1 hz
    have hj : heap_same.j0 h r g s true = some (eqSh (U h r) (U g s)) := by
      rw [heap_same.j0.eq, br_t, eqI_d]
      refine some_bool ?_
      by_cases e : r = s
      · have e1 : r = 0 := by omega
        have e2 : s = 0 := by omega
        subst e1; subst e2
        rw [U_zero, U_zero, decide_eq_true rfl, eqSh_iff.2 rfl]
      · rw [decide_eq_false e, eqSh_not]
        intro q
        rcases hz with rfl | rfl
        · rw [U_zero] at q; exact e ((U_nil gm g0 g1).1 q.symm).symm
        · rw [U_zero] at q; exact e ((U_nil hm h0 h1).1 q)
    rw [heap_same.eq]
    simp only [eqI_d, br_if]
    by_cases e : r = 0
    · rw [if_pos e]; exact hj
    · rw [if_neg e, decide_eq_true (hz.resolve_left e)]; exact hj
  intro n
  induction n with
  | zero =>
    intro r s h0 h1 h2 g0 g1
    exact zero r s h0 h2 g0 g1 (.inl (by omega))
  | succ n ih =>
    intro r s h0 h1 h2 g0 g1
    by_cases er : r = 0
    · exact zero r s h0 h2 g0 g1 (.inl er)
    by_cases es : s = 0
    · exact zero r s h0 h2 g0 g1 (.inr es)
    have hr1 : 1 ≤ r := by omega
    have hs1 : 1 ≤ s := by omega
    have o := ho.node _ (getN_mem h r hr1 h2)
    have p := go.node _ (getN_mem g s hs1 g1)
    have hx := (may_node hm hr1 h2).2
    have hy := (may_node gm hs1 g1).2
    have hrl := refsS_len (getN h r)
    have hkl := o.kids
    rw [heap_same.eq, eqI_d, br_if, if_neg er, eqI_d, decide_eq_false es, heap_same.j0.eq, br_f, inG h r hr1 h2 (by omega), br_t, inG g s hs1 g1 (by omega), br_t, ixG h r hr1 h2 (by omega), ixG g s hs1 g1 (by omega)]
    simp only [both_self]
    rw [hbare_any _ o, bnd_some, hbare_any _ p, bnd_some, same_any _ _ (bare_okN o), bnd_some, notB_d, br_if, refs_any _ o, bnd_some, refs_any _ p, bnd_some]
    by_cases hb : bareV (getN h r) = bareV (getN g s)
    · rw [if_neg (by intro q; exact q hb)]
      have hl : (refsS (getN h r)).length = (refsS (getN g s)).length := by
        rw [refsS_all, refsS_all]
        refine min_filter _ _ ((bare_iff _ _).1 hb).2 (fun k hk => ?_) (fun k hk => ?_)
        · have := hx k hk; omega
        · have := hy k hk; omega
      have := hsame_loop (h := h) (g := g) (refsS (getN h r)) (refsS (getN g s)) (by omega) hl (fun a b ha hb' => by
        rw [refsS_all] at ha hb'
        have k1 := hx a (List.mem_filter.1 ha).1
        have k2 := hy b (List.mem_filter.1 hb').1
        exact ih a b (by omega) (by omega) (by omega) (by omega) (by omega)) (refsS (getN h r)).length 0 (by omega) (by omega)
      rw [List.drop_zero, List.drop_zero, show ((0 : Nat) : Int) = 0 from rfl] at this
      refine this.trans (some_bool ?_)
      rw [Bool.eq_iff_iff, eqShL_iff, eqSh_iff, shape_iff hm gm hr1 h2 hs1 g1]
      exact ⟨fun q => ⟨hb, q⟩, fun q => q.2⟩
    · rw [if_pos hb]
      refine some_bool (eqSh_not ?_).symm
      intro q
      exact hb ((shape_iff hm gm hr1 h2 hs1 g1).1 q).1
theorem hSame_any (h g : List NodeV) (ho : okH h) (go : okH g) (r s : Int) : heap_Same h r g s = some (fitH h r && (fitH g s && eqSh (U h r) (U g s))) := by
  rw [heap_Same.eq, hmay_any h ho, bnd_some, eqI_d, br_if]
  cases h1 : fitH h r with
  | false => rw [if_neg (by simp), Bool.false_and]
  | true =>
    rw [if_pos (by simp), hmay_any g go, bnd_some, eqI_d, br_if]
    cases h2 : fitH g s with
    | false => rw [if_neg (by simp)]; rfl
    | true =>
      obtain ⟨⟨a, b⟩, c⟩ := fitH_iff.1 h1
      obtain ⟨⟨a', b'⟩, c'⟩ := fitH_iff.1 h2
      rw [if_pos (by simp), hsame_any ho c go c' r.toNat r s a (by omega) b a' b', bnd_some]
      rfl
/-! ### The document's -/
theorem shp_loop {h g : List NodeV} (a b : NodeV) (oa : okN a) (ob : okN b) (hl : a.2.2.2.2.1.length = b.2.2.2.2.1.length) (hb : ∀ (x y : Int), x ∈ allK a → y ∈ allK b → ref17_shape h x g y = some (eqSh (U h x) (U g y))) (d : Nat) : ∀ (i : Nat), i ≤ a.2.2.2.2.1.length → a.2.2.2.2.1.length - i = d →
    ref17_shape.l1 h g i a b = some (eqShL ((a.2.2.2.2.1.drop i).map (U h)) ((b.2.2.2.2.1.drop i).map (U g)) && (eqSh (U h a.2.2.2.2.2.1) (U g b.2.2.2.2.2.1) && decide (stripV a = stripV b))) := by
  have ka := oa.kids
  have la := oa.list
  induction d with
  | zero =>
    intro i h1 h2
    rw [ref17_shape.l1.eq]
    simp only [ltI_d, ofN_d, lenL_d, br_if]
    rw [if_neg (by omega), hb a.2.2.2.2.2.1 b.2.2.2.2.2.1 (by unfold allK; simp) (by unfold allK; simp), bnd_some, refsame_any _ _ (by show 0 ≤ _; omega) (by show a.2.2.2.2.2.2.1.length ≤ _; omega), bnd_some, List.drop_eq_nil_of_le (by omega), List.drop_eq_nil_of_le (by omega), List.map_nil, List.map_nil, eqShL_nil, Bool.true_and]
    cases eqSh (U h a.2.2.2.2.2.1) (U g b.2.2.2.2.2.1) with
    | true => rw [show notB true = false from rfl, br_f, Bool.true_and]; rfl
    | false => rw [show notB false = true from rfl, br_t, Bool.false_and]
  | succ d ih =>
    intro i h1 h2
    have hi : i < a.2.2.2.2.1.length := by omega
    have hj : i < b.2.2.2.2.1.length := by omega
    rw [ref17_shape.l1.eq]
    simp only [ltI_d, leI_d, ofN_d, lenL_d, andB_d, br_if]
    rw [if_pos (by omega), if_pos (by omega), if_pos (by omega), ixR _ i hi, ixR _ i hj, hb _ _ (by unfold allK; exact List.mem_append_left _ (List.getElem_mem hi)) (by unfold allK; exact List.mem_append_left _ (List.getElem_mem hj)), bnd_some, add1 i (by omega), ih (i + 1) (by omega) (by omega), List.drop_eq_getElem_cons hi, List.drop_eq_getElem_cons hj, List.map_cons, List.map_cons, eqShL_cons]
    cases eqSh (U h a.2.2.2.2.1[i]) (U g b.2.2.2.2.1[i]) with
    | true => rw [show notB true = false from rfl, br_f, Bool.true_and]
    | false => rw [show notB false = true from rfl, br_t, Bool.false_and, Bool.false_and]
theorem shape_any {h g : List NodeV} (ho : okH h) (hm : mayH h = true) (go : okH g) (gm : mayH g = true) : ∀ (n : Nat) (r s : Int), 0 ≤ r → r ≤ n → r ≤ h.length → 0 ≤ s → s ≤ g.length → ref17_shape h r g s = some (eqSh (U h r) (U g s)) := by
  have hlen := ho.len
  have glen := go.len
  have zero : ∀ r s : Int, 0 ≤ r → r ≤ h.length → 0 ≤ s → s ≤ g.length → (r = 0 ∨ s = 0) → ref17_shape h r g s = some (eqSh (U h r) (U g s)) := by
    intro r s h0 h1 g0 g1 hz
    have hj : ref17_shape.j0 h r g s true = some (eqSh (U h r) (U g s)) := by
      rw [ref17_shape.j0.eq, br_t]
      simp only [eqI_d, br_if]
      by_cases e : r = 0
      · rw [if_pos e]
        subst e
        refine some_bool ?_
        rw [U_zero]
        by_cases e2 : s = 0
        · subst e2; rw [U_zero, decide_eq_true rfl, eqSh_iff.2 rfl]
        · rw [decide_eq_false e2, eqSh_not (fun q => e2 ((U_nil gm g0 g1).1 q.symm))]
      · rw [if_neg e]
        have e2 := hz.resolve_left e
        subst e2
        rw [U_zero, eqSh_not (fun q => e ((U_nil hm h0 h1).1 q))]
    rw [ref17_shape.eq]
    simp only [eqI_d, br_if]
    by_cases e : r = 0
    · rw [if_pos e]; exact hj
    · rw [if_neg e, decide_eq_true (hz.resolve_left e)]; exact hj
  intro n
  induction n with
  | zero =>
    intro r s h0 h1 h2 g0 g1
    exact zero r s h0 h2 g0 g1 (.inl (by omega))
  | succ n ih =>
    intro r s h0 h1 h2 g0 g1
    by_cases er : r = 0
    · exact zero r s h0 h2 g0 g1 (.inl er)
    by_cases es : s = 0
    · exact zero r s h0 h2 g0 g1 (.inr es)
    have hr1 : 1 ≤ r := by omega
    have hs1 : 1 ≤ s := by omega
    have o := ho.node _ (getN_mem h r hr1 h2)
    have p := go.node _ (getN_mem g s hs1 g1)
    have hx := (may_node hm hr1 h2).2
    have hy := (may_node gm hs1 g1).2
    have hkl := o.kids
    rw [ref17_shape.eq, eqI_d, br_if, if_neg er, eqI_d, decide_eq_false es, ref17_shape.j0.eq, br_f, inG h r hr1 h2 (by omega), br_t, inG g s hs1 g1 (by omega), br_t, ixG h r hr1 h2 (by omega), ixG g s hs1 g1 (by omega)]
    simp only [both_self, eqI_d, ofN_d, lenL_d, notB_d, br_if]
    by_cases hb : (getN h r).2.2.2.2.1.length = (getN g s).2.2.2.2.1.length
    · rw [if_neg (by omega)]
      have := shp_loop (h := h) (g := g) (getN h r) (getN g s) o p hb (fun a b ha hb' => by
        have k1 := hx a ha
        have k2 := hy b hb'
        exact ih a b (by omega) (by omega) (by omega) (by omega) (by omega)) (getN h r).2.2.2.2.1.length 0 (by omega) (by omega)
      rw [List.drop_zero, List.drop_zero, show ((0 : Nat) : Int) = 0 from rfl] at this
      refine this.trans (some_bool ?_)
      rw [Bool.eq_iff_iff, Bool.and_eq_true, Bool.and_eq_true, eqShL_iff, eqSh_iff, eqSh_iff, decide_eq_true_iff, U_node hm hr1 h2, U_node gm hs1 g1, Shp.node.injEq]
      unfold allK
      rw [List.map_append, List.map_append]
      constructor
      · rintro ⟨q1, q2, q3⟩
        exact ⟨q3, by rw [q1, List.map_singleton, List.map_singleton, q2]⟩
      · rintro ⟨q3, q1⟩
        obtain ⟨q1, q2⟩ := List.append_inj' q1 rfl
        injection q2 with q2
        exact ⟨q1, q2, q3⟩
    · rw [if_pos (by omega)]
      refine some_bool (eqSh_not ?_).symm
      intro q
      rw [U_node hm hr1 h2, U_node gm hs1 g1, Shp.node.injEq] at q
      have := congrArg List.length q.2
      rw [List.length_map, List.length_map, allK_len, allK_len] at this
      omega
theorem refSame_any (h g : List NodeV) (ho : okH h) (go : okH g) (r s : Int) : ref17_Same h r g s = some (fitH h r && (fitH g s && eqSh (U h r) (U g s))) := by
  rw [ref17_Same.eq, fits_any h ho, bnd_some]
  cases h1 : fitH h r with
  | false => rw [br_f, Bool.false_and]
  | true =>
    rw [br_t, fits_any g go, bnd_some]
    cases h2 : fitH g s with
    | false => rw [br_f]; rfl
    | true =>
      obtain ⟨⟨a, b⟩, c⟩ := fitH_iff.1 h1
      obtain ⟨⟨a', b'⟩, c'⟩ := fitH_iff.1 h2
      rw [br_t, shape_any ho c go c' r.toNat r s a (by omega) b a' b', bnd_some]
      rfl
end Go.Proofs.YtmopkbmcilolgaaGreat.AI
set_option linter.unusedVariables false
set_option linter.unusedSimpArgs false
namespace Go.Proofs.YtmopkbmcilolgaaGreat.AI
open Go.Abs
theorem tri (a b : ByteArray) : (lt a b = true ∧ lt b a = false ∧ a ≠ b) ∨ (a = b ∧ lt a b = false ∧ lt b a = false) ∨ (lt b a = true ∧ lt a b = false ∧ a ≠ b) := by
  by_cases h : a = b
  · subst h; exact .inr (.inl ⟨rfl, lt_irrefl _, lt_irrefl _⟩)
  · rcases lt_total h with k | k
    · exact .inl ⟨k, lt_asymm k, h⟩
    · exact .inr (.inr ⟨k, lt_asymm k, h⟩)
theorem putS_lt {q p : PairV} {qs : List PairV} (h : lt q.1 p.1 = true) : putS (q :: qs) p = q :: putS qs p := by
  rw [putS, if_pos h]
theorem putS_eq {q p : PairV} {qs : List PairV} (h : q.1 = p.1) : putS (q :: qs) p = p :: qs := by
  rw [putS, if_neg (by rw [h, lt_irrefl]; simp), if_pos h]
theorem putS_gt {q p : PairV} {qs : List PairV} (h : lt p.1 q.1 = true) : putS (q :: qs) p = p :: q :: qs := by
  rw [putS, if_neg (by rw [lt_asymm h]; simp), if_neg (fun e => by rw [e, lt_irrefl] at h; cases h)]
theorem putS_nil (p : PairV) : putS [] p = [p] := rfl
theorem putS_same {p x : PairV} (h : p.1 = x.1) : ∀ l, putS (putS l p) x = putS l x
  | [] => by rw [putS_nil, putS_eq h, putS_nil]
  | q :: qs => by
    rcases tri q.1 p.1 with ⟨a, _⟩ | ⟨a, _⟩ | ⟨a, _⟩
    · have a' : lt q.1 x.1 = true := by rw [← h]; exact a
      rw [putS_lt a, putS_lt a', putS_lt a', putS_same h qs]
    · rw [putS_eq a, putS_eq h, putS_eq (a.trans h)]
    · have a' : lt x.1 q.1 = true := by rw [← h]; exact a
      rw [putS_gt a, putS_eq h, putS_gt a']
theorem putS_comm {p x : PairV} (h : p.1 ≠ x.1) : ∀ l, putS (putS l p) x = putS (putS l x) p
  | [] => by
    rw [putS_nil, putS_nil]
    rcases tri p.1 x.1 with ⟨c, _⟩ | ⟨c, _⟩ | ⟨c, _⟩
    · rw [putS_lt c, putS_gt c, putS_nil]
    · exact absurd c h
    · rw [putS_gt c, putS_lt c, putS_nil]
  | q :: qs => by
    rcases tri q.1 p.1 with ⟨a, _⟩ | ⟨a, _⟩ | ⟨a, _⟩
    · rcases tri q.1 x.1 with ⟨b, _⟩ | ⟨b, _⟩ | ⟨b, _⟩
      · rw [putS_lt a, putS_lt b, putS_lt b, putS_lt a, putS_comm h qs]
      · have c : lt x.1 p.1 = true := by rw [← b]; exact a
        rw [putS_lt a, putS_eq b, putS_eq b, putS_lt c]
      · rw [putS_lt a, putS_gt b, putS_gt b, putS_lt (lt_trans b a), putS_lt a]
    · rcases tri q.1 x.1 with ⟨b, _⟩ | ⟨b, _⟩ | ⟨b, _⟩
      · have c : lt p.1 x.1 = true := by rw [← a]; exact b
        rw [putS_eq a, putS_lt c, putS_lt b, putS_eq a]
      · exact absurd (a.symm.trans b) h
      · have c : lt x.1 p.1 = true := by rw [← a]; exact b
        rw [putS_eq a, putS_gt c, putS_gt b, putS_lt c, putS_eq a]
    · rcases tri q.1 x.1 with ⟨b, _⟩ | ⟨b, _⟩ | ⟨b, _⟩
      · rw [putS_gt a, putS_lt (lt_trans a b), putS_lt b, putS_gt a]
      · have c : lt p.1 x.1 = true := by rw [← b]; exact a
        rw [putS_gt a, putS_lt c, putS_eq b, putS_gt c]
      · rcases tri p.1 x.1 with ⟨c, _⟩ | ⟨c, _⟩ | ⟨c, _⟩
        · rw [putS_gt a, putS_lt c, putS_gt b, putS_gt c]
        · exact absurd c h
        · rw [putS_gt a, putS_gt c, putS_gt b, putS_lt c, putS_gt a]
theorem fold_skip {p : PairV} : ∀ (r acc : List PairV), (∃ q ∈ r, q.1 = p.1) → r.foldl putS (putS acc p) = r.foldl putS acc
  | [], _, ⟨_, h, _⟩ => by cases h
  | x :: r, acc, ⟨q, hq, e⟩ => by
    rw [List.foldl_cons, List.foldl_cons]
    by_cases hx : p.1 = x.1
    · rw [putS_same hx]
    · rw [putS_comm hx]
      refine fold_skip r _ ⟨q, ?_, e⟩
      rcases List.mem_cons.1 hq with rfl | hq
      · exact absurd e.symm hx
      · exact hq
/-! ### The document's way -/
theorem last_loop (l : List PairV) (hl : l.length ≤ 50000000) (i : Nat) (hi : i < l.length) (d : Nat) : ∀ (k : Nat), k ≤ l.length → l.length - k = d → ref07_last.l0 l i k = some ((l.drop k).all fun q => !decide (q.1 = l[i].1)) := by
  induction d with
  | zero =>
    intro k h1 h2
    rw [ref07_last.l0.eq]
    simp only [ltI_d, ofN_d, lenL_d, br_if]
    rw [if_neg (by omega), List.drop_eq_nil_of_le (by omega)]
    rfl
  | succ d ih =>
    intro k h1 h2
    have hk : k < l.length := by omega
    rw [ref07_last.l0.eq]
    simp only [ltI_d, leI_d, eqS_d, ofN_d, lenL_d, andB_d, br_if]
    rw [if_pos (by omega), if_pos (by omega), if_pos (by omega), ixP l k hk, ixP l i hi, add1 k (by omega), ih (k + 1) (by omega) (by omega), List.drop_eq_getElem_cons hk]
    rw [List.all_cons]
    by_cases e : l[k].1 = l[i].1
    · rw [if_pos e, decide_eq_true e]; rfl
    · rw [if_neg e, decide_eq_false e]; rfl
theorem last_any (l : List PairV) (hl : l.length ≤ 50000000) (i : Nat) (hi : i < l.length) : ref07_last l i = some ((l.drop (i + 1)).all fun q => !decide (q.1 = l[i].1)) := by
  rw [ref07_last.eq, add1 i (by omega)]
  exact last_loop l hl i hi _ (i + 1) (by omega) rfl
theorem insert_any (l out : List PairV) (i at_ : Nat) (hi : i < l.length) (hl : l.length ≤ 50000000) (ha : at_ ≤ out.length) (ho : out.length ≤ 50000000) :
    ref07_Make.j2 l i at_ false out = ref07_Make.l0 l ((i + 1 : Nat) : Int) (out.take at_ ++ l[i] :: out.drop at_) := by
  rw [ref07_Make.j2.eq, br_f]
  have e0 : toN 0 = 0 := rfl
  have s1 : subL tapiPair out 0 at_ = out.take at_ := subL0 _ _ _
  have s2 : subL tapiPair out at_ out.length = out.drop at_ := by
    unfold subL
    exact List.take_of_length_le (by rw [List.length_drop]; omega)
  have hx := ixP l i hi
  simp only [e0, toN_d, ofN_d, lenL_d, s1, s2, hx, appL_d, List.nil_append, add1 i (by omega)]
  have c1 : andB (leI 0 (i : Int)) (ltI (i : Int) (l.length : Int)) = true := by
    rw [leI_d, ltI_d, andB_d]; exact decide_eq_true ⟨by omega, by omega⟩
  have c2 : andB (leI 0 0) (andB (leI 0 (at_ : Int)) (leI (at_ : Int) (out.length : Int))) = true := by
    rw [leI_d, leI_d, leI_d, andB_d, andB_d]; exact decide_eq_true ⟨by omega, by omega, by omega⟩
  have c3 : fitL tapiPair (out.take at_) = true := by rw [fitL_d]; exact decide_eq_true (by rw [List.length_take]; omega)
  have c4 : fitL tapiPair (out.take at_ ++ [l[i]]) = true := by rw [fitL_d]; exact decide_eq_true (by rw [List.length_append, List.length_take]; show _ + 1 ≤ _; omega)
  have c5 : andB (leI 0 (at_ : Int)) (andB (leI (at_ : Int) (out.length : Int)) (leI (out.length : Int) (out.length : Int))) = true := by
    rw [leI_d, leI_d, leI_d, andB_d, andB_d]; exact decide_eq_true ⟨by omega, by omega, by omega⟩
  have c6 : fitL tapiPair (out.take at_ ++ [l[i]] ++ out.drop at_) = true := by rw [fitL_d]; exact decide_eq_true (by rw [List.length_append, List.length_append, List.length_take, List.length_drop]; show _ + 1 + _ ≤ _; omega)
  simp only [c1, c2, c3, c4, c5, c6, br_t, both_self]
  rw [List.append_assoc]
  rfl
theorem find_loop (l out : List PairV) (i : Nat) (hi : i < l.length) (hl : l.length ≤ 50000000) (ho : out.length ≤ 50000000) (hs : ∀ p ∈ out, okP p) (hS : Srt out) (hne : ∀ q ∈ out, q.1 ≠ l[i].1) (d : Nat) : ∀ (a : Nat), a ≤ out.length → out.length - a = d → (∀ (b : Nat) (h : b < out.length), b < a → lt out[b].1 l[i].1 = true) →
    ref07_Make.l1 l i a out = ref07_Make.l0 l ((i + 1 : Nat) : Int) (putS out l[i]) := by
  have fin : ∀ (a : Nat), a ≤ out.length → (∀ (b : Nat) (h : b < out.length), b < a → lt out[b].1 l[i].1 = true) → (∀ (h : a < out.length), lt out[a].1 l[i].1 = false) → ref07_Make.j2 l i a false out = ref07_Make.l0 l ((i + 1 : Nat) : Int) (putS out l[i]) := by
    intro a h1 h2 h3
    rw [insert_any l out i a hi hl h1 ho, putS_at l[i] out a h1 h2 h3, if_neg (by rintro ⟨h, e⟩; exact hne _ (List.getElem_mem h) e)]
  induction d with
  | zero =>
    intro a h1 h2 h3
    rw [ref07_Make.l1.eq]
    simp only [ltI_d, ofN_d, lenL_d, br_if]
    rw [if_neg (by omega)]
    exact fin a h1 h3 (fun h => by omega)
  | succ d ih =>
    intro a h1 h2 h3
    have ha : a < out.length := by omega
    rw [ref07_Make.l1.eq]
    simp only [ltI_d, leI_d, ofN_d, lenL_d, andB_d, br_if]
    rw [if_pos (by omega), if_pos (by omega), if_pos (by omega), ixP out a ha, ixP l i hi, less_any _ _ (by have := (hs _ (List.getElem_mem ha)).1; omega), bnd_some]
    cases hc : lt out[a].1 l[i].1 with
    | true =>
      rw [ref07_Make.j2.eq, br_t, add1 a (by omega)]
      refine ih (a + 1) (by omega) (by omega) (fun b h hb => ?_)
      by_cases e : b = a
      · subst e; exact hc
      · exact h3 b h (by omega)
    | false => exact fin a h1 h3 (fun _ => hc)
theorem refmake_loop (l : List PairV) (hl : l.length ≤ 40000000) (hs : ∀ p ∈ l, okP p) (d : Nat) : ∀ (i : Nat) (acc : List PairV), i ≤ l.length → l.length - i = d → acc.length ≤ i → (∀ q ∈ acc, okP q) → Srt acc → (∀ q ∈ acc, ∀ x ∈ l.drop i, q.1 ≠ x.1) →
    ref07_Make.l0 l i acc = some ((l.drop i).foldl putS acc) := by
  induction d with
  | zero =>
    intro i acc h1 h2 h3 h4 h5 h6
    rw [ref07_Make.l0.eq]
    simp only [ltI_d, ofN_d, lenL_d, br_if]
    rw [if_neg (by omega), List.drop_eq_nil_of_le (by omega)]
    rfl
  | succ d ih =>
    intro i acc h1 h2 h3 h4 h5 h6
    have hi : i < l.length := by omega
    have hd := List.drop_eq_getElem_cons hi
    rw [hd] at h6
    rw [ref07_Make.l0.eq]
    simp only [ltI_d, ofN_d, lenL_d, br_if]
    rw [if_pos (by omega), last_any l (by omega) i hi, bnd_some, hd, List.foldl_cons]
    by_cases e' : ((l.drop (i + 1)).all fun q => !decide (q.1 = l[i].1)) = true
    · have e : ∀ q ∈ l.drop (i + 1), q.1 ≠ l[i].1 := fun q hq => by simpa using List.all_eq_true.1 e' q hq
      rw [e', show notB true = false from rfl, br_f]
      have := find_loop l acc i hi (by omega) (by omega) h4 h5 (fun q hq => h6 q hq _ List.mem_cons_self) acc.length 0 (by omega) (by omega) (fun b h hb => by omega)
      rw [show ((0 : Nat) : Int) = 0 from rfl] at this
      rw [this]
      have hlen := putS_len l[i] acc
      refine ih (i + 1) _ (by omega) (by omega) (by omega) (putS_ok h4 (hs _ (List.getElem_mem hi))) (putS_srt _ h5) (fun q hq x hx => ?_)
      rcases putS_mem hq with rfl | hq
      · exact fun h => e x hx h.symm
      · exact h6 q hq x (List.mem_cons_of_mem _ hx)
    · have e : ¬ ∀ q ∈ l.drop (i + 1), q.1 ≠ l[i].1 := fun h => e' (List.all_eq_true.2 fun q hq => by simpa using h q hq)
      have e2 : ((l.drop (i + 1)).all fun q => !decide (q.1 = l[i].1)) = false := by simpa using e'
      rw [e2, show notB false = true from rfl, br_t, add1 i (by omega), ih (i + 1) acc (by omega) (by omega) (by omega) h4 h5 (fun q hq x hx => h6 q hq x (List.mem_cons_of_mem _ hx))]
      have hex : ∃ q ∈ l.drop (i + 1), q.1 = l[i].1 := by
        refine Classical.byContradiction fun h => e fun q hq he => h ⟨q, hq, he⟩
      rw [fold_skip _ _ hex]
theorem refmake_any (l : List PairV) (hl : l.length ≤ 40000000) (hs : ∀ p ∈ l, okP p) : ref07_Make l = some (makeS l) := by
  rw [ref07_Make.eq]
  have := refmake_loop l hl hs l.length 0 [] (by omega) (by omega) (by simp) (by simp) List.Pairwise.nil (by simp)
  rw [List.drop_zero, show ((0 : Nat) : Int) = 0 from rfl] at this
  exact this
end Go.Proofs.YtmopkbmcilolgaaGreat.AI
set_option linter.unusedVariables false
set_option linter.unusedSimpArgs false
namespace Go.Proofs.YtmopkbmcilolgaaGreat.AI
open Go.Abs
theorem srt_isS : ∀ {l : List PairV}, Srt l → isS l = true
  | [], _ => rfl
  | [_], _ => rfl
  | a :: b :: r, h => by
    have h1 := (List.pairwise_cons.1 h).1 b List.mem_cons_self
    have h2 := srt_isS (List.pairwise_cons.1 h).2
    show (lt a.1 b.1 && isS (b :: r)) = true
    rw [h1, h2]; rfl
theorem foldl_putS_srt : ∀ (l acc : List PairV), Srt acc → Srt (l.foldl putS acc)
  | [], _, h => h
  | p :: l, acc, h => foldl_putS_srt l (putS acc p) (putS_srt p h)
theorem makeS_Srt (l : List PairV) : Srt (makeS l) := foldl_putS_srt l [] List.Pairwise.nil
theorem foldl_putS_mem : ∀ (l acc : List PairV), ∀ x ∈ l.foldl putS acc, x ∈ acc ∨ x ∈ l
  | [], _, x, h => .inl h
  | p :: l, acc, x, h => by
    rcases foldl_putS_mem l (putS acc p) x h with h | h
    · rcases putS_mem h with rfl | h
      · exact .inr List.mem_cons_self
      · exact .inl h
    · exact .inr (List.mem_cons_of_mem _ h)
theorem makeS_mem {l : List PairV} {x : PairV} (h : x ∈ makeS l) : x ∈ l := (foldl_putS_mem l [] x h).resolve_left (by simp)
def pairAt (l : List PairV) (i : Nat) : PairV := l.getD i (ByteArray.empty, (ByteArray.empty, ()))
theorem pairAt_get (l : List PairV) (i : Nat) (h : i < l.length) : pairAt l i = l[i] := by
  unfold pairAt
  rw [List.getD_eq_getElem?_getD, List.getElem?_eq_getElem h]; rfl
theorem split_at (l : List PairV) (i : Nat) (h : i < l.length) : l.take i ++ [pairAt l i] ++ l.drop (i + 1) = l := by
  rw [pairAt_get l i h, List.append_assoc]
  conv => rhs; rw [← List.take_append_drop i l, List.drop_eq_getElem_cons h]
  rfl
theorem pairAt_mem (l : List PairV) (i : Nat) (h : i < l.length) : pairAt l i ∈ l := by rw [pairAt_get l i h]; exact List.getElem_mem h
/-! ### Heaps that go on -/
theorem mayHL_app : ∀ (a b : List NodeV) (i : Nat), mayHL i (a ++ b) = (mayHL i a && mayHL (i + a.length) b)
  | [], b, i => by rw [List.nil_append]; show _ = (true && mayHL i b); rw [Bool.true_and]
  | n :: a, b, i => by
    rw [List.cons_append, mayHL, mayHL, mayHL_app a b (i + 1), List.length_cons, show i + 1 + a.length = i + (a.length + 1) by omega, ← Bool.and_assoc]
theorem mayH_left {a b : List NodeV} (h : mayH (a ++ b) = true) : mayH a = true := by
  unfold mayH at *
  rw [mayHL_app, Bool.and_eq_true] at h
  exact h.1
theorem getN_app (a b : List NodeV) (r : Int) (h1 : 1 ≤ r) (h2 : r ≤ a.length) : getN (a ++ b) r = getN a r := by
  unfold getN
  rw [List.getD_eq_getElem?_getD, List.getD_eq_getElem?_getD, List.getElem?_append_left (by omega)]
theorem getN_last (a : List NodeV) (n : NodeV) : getN (a ++ [n]) ((a.length : Int) + 1) = n := by
  unfold getN
  rw [show ((a.length : Int) + 1 - 1).toNat = a.length by omega, List.getD_eq_getElem?_getD, List.getElem?_append_right (by omega), Nat.sub_self]
  rfl
theorem unf_app {a b : List NodeV} (hm : mayH a = true) : ∀ (k : Nat) (r : Int), 0 ≤ r → r ≤ a.length → unf (a ++ b) k r = unf a k r
  | 0, r, _, _ => rfl
  | k + 1, r, h0, h1 => by
    unfold unf
    by_cases e : r = 0
    · rw [if_pos e, if_pos e]
    · rw [if_neg e, if_neg e, getN_app a b r (by omega) h1]
      congr 1
      refine List.map_congr_left fun x hx => ?_
      have := (may_node hm (by omega) h1).2 x hx
      exact unf_app hm k x (by omega) (by omega)
theorem U_app {a b : List NodeV} (hm : mayH a = true) {r : Int} (h0 : 0 ≤ r) (h1 : r ≤ a.length) : U (a ++ b) r = U a r := unf_app hm _ r h0 h1
def okT (p : PairV) : Prop := p.1.size ≤ 16 ∧ p.2.1.size ≤ 16
theorem okT.ok {p : PairV} (h : okT p) : okP p := ⟨by have := h.1; omega, by have := h.2; omega⟩
theorem may_more {h : List NodeV} {n : NodeV} (hm : mayH h = true) (hn : mayS n = 0) (hr : ∀ r ∈ refsS n, 1 ≤ r ∧ r ≤ h.length) : mayH (h ++ [n]) = true := by
  unfold mayH
  rw [mayHL_app, Bool.and_eq_true]
  refine ⟨hm, mayHL_of _ _ fun j hj => ?_⟩
  have : j = 0 := by simpa using hj
  subst this
  refine ⟨hn, fun r hr' => ?_⟩
  have := hr r hr'
  exact ⟨this.1, by omega⟩
theorem kids_rng {h : List NodeV} (hm : mayH h = true) (hl : h.length ≤ 50000000) : ∀ n ∈ h, rngN n := by
  intro n hn
  obtain ⟨j, hj, ej⟩ := List.getElem_of_mem hn
  have hk := (may_node hm (r := (j : Int) + 1) (by omega) (by omega)).2
  rw [getN_ix _ j hj, ej] at hk
  refine ⟨fun k hk' => ?_, ?_⟩
  · have := hk k (List.mem_append_left _ hk')
    unfold rng; omega
  · have := hk n.2.2.2.2.2.1 (List.mem_append_right _ List.mem_cons_self)
    unfold rng; omega
end Go.Proofs.YtmopkbmcilolgaaGreat.AI
set_option autoImplicit false
set_option linter.unusedVariables false
namespace Go.Abs
theorem wf_i64 {a : Int} (h : (Lit.int .i64 a).wf = true) : -9223372036854775808 ≤ a ∧ a ≤ 9223372036854775807 := by
  simp [Lit.wf, IntKind.min, IntKind.max, IntKind.bits, IntKind.signed] at h
  omega
theorem wf_u64 {a : Int} (h : (Lit.int .u64 a).wf = true) : 0 ≤ a ∧ a < 18446744073709551616 := by
  simp [Lit.wf, IntKind.min, IntKind.max, IntKind.bits, IntKind.signed] at h
  omega
theorem wrap_u64 (n : Int) : IntKind.u64.wrap n = n % 18446744073709551616 := by simp [IntKind.wrap, IntKind.bits, IntKind.signed]
theorem wrap_u64_id {n : Int} (h0 : 0 ≤ n) (h1 : n < 18446744073709551616) : IntKind.u64.wrap n = n := by rw [wrap_u64]; omega
theorem wrap_u64_range (n : Int) : 0 ≤ IntKind.u64.wrap n ∧ IntKind.u64.wrap n < 18446744073709551616 := by rw [wrap_u64]; omega
theorem wraps_u64 (n : Int) (h0 : 0 ≤ n) (h1 : n < 2 ^ 64) : IntKind.u64.wrap n = n := by rw [wrap_u64]; omega
theorem and_u64 (a w : Nat) (ha : a < 18446744073709551616) (hw : w ≤ 64) : andI .u64 (a : Int) ((2 ^ w - 1 : Nat) : Int) = ((a % 2 ^ w : Nat) : Int) := by
  have hp : 2 ^ w ≤ 18446744073709551616 := by
    have := Nat.pow_le_pow_right (n := 2) (by omega) hw
    omega
  have hq : 0 < 2 ^ w := Nat.two_pow_pos w
  have e : ∀ x : Nat, x < 18446744073709551616 → (BitVec.ofInt 64 (x : Int)).toNat = x := by
    intro x hx
    simp only [BitVec.toNat_ofInt]
    omega
  unfold andI
  rw [show IntKind.u64.bits = 64 from rfl, BitVec.toNat_and, e a ha, e _ (by omega), Nat.and_two_pow_sub_one_eq_mod]
  have := Nat.mod_le a (2 ^ w)
  exact wrap_u64_id (by omega) (by omega)
/-- How many bits may be. -/
def wid (bits : Int) : Nat := (min (max bits 0) 64).toNat
theorem wid_le (bits : Int) : wid bits ≤ 64 := by unfold wid; omega
def lev (bits : Int) : Nat := (wid bits + 4) / 5
theorem lev_le (bits : Int) : lev bits ≤ 13 := by have := wid_le bits; unfold lev; omega
/-- A hash's chunkS at a level. -/
def chunkS (h : Nat) (level : Nat) (bits : Int) : Nat := if level < lev bits then (h % 2 ^ wid bits) / 2 ^ (5 * level) % 32 else 0
/-- One step of a hash. -/
def hstep (h b : Int) : Int := IntKind.u64.wrap ((xorI .u64 h (IntKind.u64.wrap b)) * 1099511628211)
def fnv : List UInt8 → Int → Int
  | [], h => h
  | x :: xs, h => fnv xs (hstep h (x.toNat : Int))
theorem hstep_range (h b : Int) : 0 ≤ hstep h b ∧ hstep h b < 18446744073709551616 := wrap_u64_range _
theorem fnv_cons (x : UInt8) (xs : List UInt8) (h : Int) : fnv (x :: xs) h = fnv xs (hstep h (x.toNat : Int)) := rfl
theorem fnv_range : ∀ (l : List UInt8) (h : Int), 0 ≤ h → h < 18446744073709551616 → 0 ≤ fnv l h ∧ fnv l h < 18446744073709551616
  | [], _, h0, h1 => ⟨h0, h1⟩
  | _ :: xs, h, _, _ => fnv_range xs _ (hstep_range h _).1 (hstep_range h _).2
/-- A text's hash. -/
theorem hashN_ex : ∃ f : ByteArray → Nat, ∀ s, f s = (fnv (bl s) 14695981039346656037).toNat := ⟨_, fun _ => rfl⟩
noncomputable def hashN : ByteArray → Nat := Classical.choose hashN_ex
theorem hashN_eq (s : ByteArray) : hashN s = (fnv (bl s) 14695981039346656037).toNat := Classical.choose_spec hashN_ex s
theorem hashN_int (s : ByteArray) : (hashN s : Int) = fnv (bl s) 14695981039346656037 := by
  have := fnv_range (bl s) 14695981039346656037 (by omega) (by omega)
  rw [hashN_eq]; omega
theorem hashN_lt (s : ByteArray) : hashN s < 18446744073709551616 := by
  have := fnv_range (bl s) 14695981039346656037 (by omega) (by omega)
  rw [hashN_eq]; omega
noncomputable def hashS (s : ByteArray) (bits : Int) : Nat := hashN s % 2 ^ wid bits
theorem hash_lt (s : ByteArray) (bits : Int) : hashS s bits < 2 ^ wid bits := Nat.mod_lt _ (Nat.two_pow_pos _)
theorem pow_le64 {w : Nat} (h : w ≤ 64) : 2 ^ w ≤ 18446744073709551616 := by
  have := Nat.pow_le_pow_right (n := 2) (by omega) h
  omega
theorem hash_lt64 (s : ByteArray) (bits : Int) : hashS s bits < 18446744073709551616 := by
  have := hash_lt s bits
  have := pow_le64 (wid_le bits)
  omega

/-- Which of two lists of chunks is ahead, from a level on. -/
def befC (x y : Nat → Nat) : Nat → Nat → Bool
  | 0, _ => false
  | n + 1, l => if x l = y l then befC x y n (l + 1) else decide (x l < y l)
def befS (a b : Nat) (bits : Int) : Bool := befC (fun l => chunkS a l bits) (fun l => chunkS b l bits) (lev bits) 0

theorem befC_same (x y : Nat → Nat) : ∀ n l, (∀ i, l ≤ i → i < l + n → x i = y i) → befC x y n l = false
  | 0, _, _ => rfl
  | n + 1, l, h => by
    unfold befC
    rw [if_pos (h l (by omega) (by omega))]
    exact befC_same x y n (l + 1) (fun i h1 h2 => h i (by omega) (by omega))
theorem befC_total (x y : Nat → Nat) : ∀ n l, (¬ ∀ i, l ≤ i → i < l + n → x i = y i) → (befC x y n l = !befC y x n l)
  | 0, l, h => absurd (fun i h1 h2 => by omega) h
  | n + 1, l, h => by
    unfold befC
    by_cases e : x l = y l
    · rw [if_pos e, if_pos e.symm]
      refine befC_total x y n (l + 1) (fun k => h (fun i h1 h2 => ?_))
      by_cases q : i = l
      · rw [q]; exact e
      · exact k i (by omega) (by omega)
    · rw [if_neg e, if_neg (fun q => e q.symm)]
      by_cases q : x l < y l
      · have : ¬ y l < x l := by omega
        simp [q, this]
      · have : y l < x l := by omega
        simp [q, this]

theorem digits_eq : ∀ (n a b : Nat), a < 32 ^ n → b < 32 ^ n → (∀ i, i < n → a / 32 ^ i % 32 = b / 32 ^ i % 32) → a = b
  | 0, a, b, ha, hb, _ => by simp at ha hb; omega
  | n + 1, a, b, ha, hb, h => by
    have h0 := h 0 (by omega)
    simp at h0
    have := digits_eq n (a / 32) (b / 32) (by rw [Nat.pow_succ] at ha; omega) (by rw [Nat.pow_succ] at hb; omega) (fun i hi => by
      have := h (i + 1) (by omega)
      rw [Nat.pow_succ, Nat.mul_comm, ← Nat.div_div_eq_div_mul, ← Nat.div_div_eq_div_mul] at this
      exact this)
    omega
theorem chunk_small (a level : Nat) (bits : Int) (ha : a < 2 ^ wid bits) (hl : level < lev bits) : chunkS a level bits = a / 32 ^ level % 32 := by
  unfold chunkS
  rw [if_pos hl, Nat.mod_eq_of_lt ha, Nat.pow_mul]
theorem chunks_same {a b : Nat} {bits : Int} (ha : a < 2 ^ wid bits) (hb : b < 2 ^ wid bits) (h : ∀ l, l < lev bits → chunkS a l bits = chunkS b l bits) : a = b := by
  have hp : 2 ^ wid bits ≤ 32 ^ lev bits := by
    rw [show (32 : Nat) = 2 ^ 5 by rfl, ← Nat.pow_mul]
    exact Nat.pow_le_pow_right (by omega) (by unfold lev; omega)
  refine digits_eq (lev bits) a b (by omega) (by omega) (fun i hi => ?_)
  have := h i hi
  rw [chunk_small a i bits ha hi, chunk_small b i bits hb hi] at this
  exact this
theorem before_self (a : Nat) (bits : Int) : befS a a bits = false := befC_same _ _ _ _ (fun _ _ _ => rfl)
theorem before_self' {a b : Nat} {bits : Int} (h : a = b) : befS a b bits = false := by rw [h]; exact before_self b bits
theorem before_total {a b : Nat} {bits : Int} (ha : a < 2 ^ wid bits) (hb : b < 2 ^ wid bits) (h : a ≠ b) : befS a b bits = !befS b a bits :=
  befC_total _ _ _ _ (fun k => h (chunks_same ha hb (fun l hl => k l (by omega) (by omega))))
theorem befC_trans (x y z : Nat → Nat) : ∀ n l, befC x y n l = true → befC y z n l = true → befC x z n l = true
  | 0, _, h, _ => by cases h
  | n + 1, l, h1, h2 => by
    unfold befC at h1 h2 ⊢
    by_cases e1 : x l = y l
    · by_cases e2 : y l = z l
      · rw [if_pos e1] at h1
        rw [if_pos e2] at h2
        rw [if_pos (e1.trans e2)]
        exact befC_trans x y z n (l + 1) h1 h2
      · rw [if_neg e2] at h2
        rw [if_neg (by omega)]
        simp only [decide_eq_true_eq] at h2 ⊢
        omega
    · rw [if_neg e1] at h1
      simp only [decide_eq_true_eq] at h1
      by_cases e2 : y l = z l
      · rw [if_neg (by omega)]
        simp only [decide_eq_true_eq]
        omega
      · rw [if_neg e2] at h2
        simp only [decide_eq_true_eq] at h2
        rw [if_neg (by omega)]
        simp only [decide_eq_true_eq]
        omega
theorem before_trans {a b c : Nat} {bits : Int} (h1 : befS a b bits = true) (h2 : befS b c bits = true) : befS a c bits = true := befC_trans _ _ _ _ _ h1 h2

/-- What lies between two bits. -/
theorem mod_div_pow (h w a : Nat) (ha : a ≤ w) : h % 2 ^ w / 2 ^ a = h / 2 ^ a % 2 ^ (w - a) := by
  have : 2 ^ w = 2 ^ a * 2 ^ (w - a) := by rw [← Nat.pow_add]; congr 1; omega
  rw [this, Nat.mod_mul_right_div_self]
theorem mod_mod_pow (x p q : Nat) : x % 2 ^ p % 2 ^ q = x % 2 ^ min p q := by
  by_cases h : q ≤ p
  · rw [Nat.min_eq_right h, Nat.mod_mod_of_dvd _ (Nat.pow_dvd_pow 2 h)]
  · rw [Nat.min_eq_left (by omega), Nat.mod_eq_of_lt]
    have h1 := Nat.mod_lt x (Nat.two_pow_pos p)
    have h2 := Nat.pow_le_pow_right (n := 2) (by omega) (show p ≤ q by omega)
    omega
theorem mod_pow_succ (x p : Nat) : x % 2 ^ (p + 1) = x % 2 ^ p + 2 ^ p * (x / 2 ^ p % 2) := by
  rw [Nat.pow_succ, Nat.mod_mul]
theorem lowstep (A A' B B' P : Nat) (q2 : A / 2 = A') (m1 : B' = B + P * (A % 2)) (hB : B' < 18446744073709551616) (hA : A < 18446744073709551616) (hP : P ≤ 9223372036854775808) :
    IntKind.u64.wrap ((A : Int) / 2) = (A' : Int) ∧ IntKind.u64.wrap ((B : Int) + IntKind.u64.wrap ((P : Int) * ((A : Int) % 2))) = (B' : Int) := by
  have e : ((A : Int) % 2) = ((A % 2 : Nat) : Int) := by omega
  have hb : A % 2 = 0 ∨ A % 2 = 1 := by omega
  constructor
  · rw [wrap_u64_id (by omega) (by omega)]; omega
  · rw [e]
    rcases hb with hb | hb
    · rw [hb] at m1 ⊢
      rw [wrap_u64_id (n := (P : Int) * ((0 : Nat) : Int)) (by omega) (by omega), wrap_u64_id (by omega) (by omega)]
      omega
    · rw [hb] at m1 ⊢
      rw [wrap_u64_id (n := (P : Int) * ((1 : Nat) : Int)) (by omega) (by omega), wrap_u64_id (by omega) (by omega)]
      omega
theorem chunkstep (b B B' P : Nat) (m1 : B' = B + P * b) (hb : b < 2) (hB : B < 64) (hP : P ≤ 64) : IntKind.i64.wrap ((B : Int) + IntKind.i64.wrap ((P : Int) * (b : Int))) = (B' : Int) := by
  have hb : b = 0 ∨ b = 1 := by omega
  rcases hb with hb | hb
  · rw [hb] at m1 ⊢
    rw [wrap_i64_id (x := (P : Int) * ((0 : Nat) : Int)) (by omega) (by omega), wrap_i64_id (by omega) (by omega)]
    omega
  · rw [hb] at m1 ⊢
    rw [wrap_i64_id (x := (P : Int) * ((1 : Nat) : Int)) (by omega) (by omega), wrap_i64_id (by omega) (by omega)]
    omega
/-- How a hash is mixed to a priority. -/
def m1 (h : Int) : Int := IntKind.u64.wrap ((xorI .u64 h (h / 1073741824)) * 13787848793156543929)
def m2 (h : Int) : Int := IntKind.u64.wrap ((xorI .u64 h (h / 134217728)) * 10723151780598845931)
def m3 (h : Int) : Int := xorI .u64 h (h / 2147483648)
/-- A text's priority. -/
theorem pri_ex : ∃ f : ByteArray → Int, ∀ s, f s = m3 (m2 (m1 ((hashS s 64 : Nat) : Int))) := ⟨_, fun _ => rfl⟩
noncomputable def pri : ByteArray → Int := Classical.choose pri_ex
theorem pri_eq (s : ByteArray) : pri s = m3 (m2 (m1 ((hashS s 64 : Nat) : Int))) := Classical.choose_spec pri_ex s
/-- Which of two texts is above. -/
noncomputable def above (a b : ByteArray) : Bool := if pri a = pri b then lt a b else decide (pri a > pri b)
theorem above_irrefl (a : ByteArray) : above a a = false := by
  unfold above
  rw [if_pos rfl, lt_irrefl]
theorem above_total {a b : ByteArray} (h : a ≠ b) : above a b = true ∨ above b a = true := by
  unfold above
  by_cases e : pri a = pri b
  · rw [if_pos e, if_pos e.symm]; exact lt_total h
  · rw [if_neg e, if_neg (fun q => e q.symm)]
    simp only [decide_eq_true_eq]
    omega
theorem above_trans {a b c : ByteArray} (h1 : above a b = true) (h2 : above b c = true) : above a c = true := by
  unfold above at *
  by_cases e1 : pri a = pri b
  · by_cases e2 : pri b = pri c
    · rw [if_pos e1] at h1
      rw [if_pos e2] at h2
      rw [if_pos (by omega)]
      exact lt_trans h1 h2
    · rw [if_neg e2] at h2
      simp only [decide_eq_true_eq] at h2
      rw [if_neg (by omega)]
      simp only [decide_eq_true_eq]
      omega
  · rw [if_neg e1] at h1
    simp only [decide_eq_true_eq] at h1
    by_cases e2 : pri b = pri c
    · rw [if_neg (by omega)]
      simp only [decide_eq_true_eq]
      omega
    · rw [if_neg e2] at h2
      simp only [decide_eq_true_eq] at h2
      rw [if_neg (by omega)]
      simp only [decide_eq_true_eq]
      omega
theorem above_asymm {a b : ByteArray} (h : above a b = true) : above b a = false := by
  cases k : above b a with
  | false => rfl
  | true => have := above_trans h k; rw [above_irrefl] at this; cases this
/-- The one that none of some texts is above. -/
noncomputable def best : List ByteArray → ByteArray → ByteArray
  | [], o => o
  | x :: xs, o => best xs (if above x o = true then x else o)
noncomputable def topT : List ByteArray → ByteArray × Bool
  | [] => (⟨#[]⟩, false)
  | x :: xs => (best xs x, true)
theorem best_mem : ∀ xs o, best xs o = o ∨ best xs o ∈ xs
  | [], _ => .inl rfl
  | x :: xs, o => by
    unfold best
    by_cases h : above x o = true
    · rw [if_pos h]
      rcases best_mem xs x with e | e
      · rw [e]; exact .inr (by simp)
      · exact .inr (List.mem_cons_of_mem _ e)
    · rw [if_neg h]
      rcases best_mem xs o with e | e
      · exact .inl e
      · exact .inr (List.mem_cons_of_mem _ e)
theorem above_not_trans {a b c : ByteArray} (h1 : above a b = false) (h2 : above b c = false) : above a c = false := by
  cases h : above a c with
  | false => rfl
  | true =>
    by_cases e : a = b
    · subst e; rw [h2] at h; cases h
    · rcases above_total e with q | q
      · rw [h1] at q; cases q
      · have := above_trans q h; rw [h2] at this; cases this
theorem best_top : ∀ xs o, above o (best xs o) = false ∧ ∀ y ∈ xs, above y (best xs o) = false
  | [], o => ⟨above_irrefl o, by simp⟩
  | x :: xs, o => by
    unfold best
    by_cases h : above x o = true
    · rw [if_pos h]
      obtain ⟨h1, h2⟩ := best_top xs x
      refine ⟨above_not_trans (above_asymm h) h1, fun y hy => ?_⟩
      rcases List.mem_cons.1 hy with e | e
      · rw [e]; exact h1
      · exact h2 y e
    · rw [if_neg h]
      obtain ⟨h1, h2⟩ := best_top xs o
      refine ⟨h1, fun y hy => ?_⟩
      rcases List.mem_cons.1 hy with e | e
      · rw [e]; exact above_not_trans (Bool.eq_false_iff.2 h) h1
      · exact h2 y e
theorem top_mem {l : List ByteArray} (h : 0 < l.length) : (topT l).1 ∈ l := by
  cases l with
  | nil => simp at h
  | cons x xs =>
    show best xs x ∈ _
    rcases best_mem xs x with e | e
    · rw [e]; simp
    · exact List.mem_cons_of_mem _ e
theorem top_top {l : List ByteArray} {y : ByteArray} (h : y ∈ l) : above y (topT l).1 = false := by
  cases l with
  | nil => simp at h
  | cons x xs =>
    show above y (best xs x) = false
    obtain ⟨h1, h2⟩ := best_top xs x
    rcases List.mem_cons.1 h with e | e
    · rw [e]; exact h1
    · exact h2 y e
theorem top_only {l : List ByteArray} {y : ByteArray} (h : y ∈ l) (hy : ∀ z ∈ l, above z y = false) : y = (topT l).1 := by
  by_cases e : y = (topT l).1
  · exact e
  · have hp : 0 < l.length := List.length_pos_of_mem h
    rcases above_total e with q | q
    · rw [top_top h] at q; cases q
    · rw [hy _ (top_mem hp)] at q; cases q
end Go.Abs
set_option linter.unusedVariables false
set_option linter.unusedSimpArgs false
namespace Go.Proofs.YtmopkbmcilolgaaGreat.AI
open Go.Abs
theorem clamp_any (bits : Int) : ref04_clamp bits = some (wid bits : Int) := by
  rw [ref04_clamp.eq]
  simp only [ltI_d, br_if]
  unfold wid
  by_cases h : bits < 0
  · rw [if_pos h]; exact some_int (by omega)
  · rw [if_neg h]
    by_cases h' : 64 < bits
    · rw [if_pos h']; exact some_int (by omega)
    · rw [if_neg h']; exact some_int (by omega)
theorem reflow_loop (bits : Int) (n : Nat) (hn : n < 18446744073709551616) (d : Nat) : ∀ (i : Nat) (one : Int), i ≤ wid bits → (i < 64 → one = 2 ^ i) → wid bits - i = d →
    ref04_Of.l1 bits ((n / 2 ^ i : Nat) : Int) ((n % 2 ^ i : Nat) : Int) one i = some ((n % 2 ^ wid bits : Nat) : Int) := by
  have hw := wid_le bits
  induction d with
  | zero =>
    intro i one hi h1 hd
    rw [ref04_Of.l1.eq, clamp_any, bnd_some]
    simp only [ltI_d, br_if]
    rw [if_neg (by omega), show i = wid bits by omega]
  | succ d ih =>
    intro i one hi h1 hd
    rw [ref04_Of.l1.eq, clamp_any, bnd_some]
    simp only [ltI_d, br_if, eqI_d, notB_d]
    have hone := h1 (by omega)
    subst hone
    have c : ((2 : Int) ^ i) = ((2 ^ i : Nat) : Int) := by simp
    have p : 2 ^ i ≤ 2 ^ 63 := Nat.pow_le_pow_right (by omega) (by omega)
    have q : n / 2 ^ i ≤ n := Nat.div_le_self _ _
    have q2 : n / 2 ^ i / 2 = n / 2 ^ (i + 1) := by rw [Nat.div_div_eq_div_mul, Nat.pow_succ]
    have m1 := mod_pow_succ n i
    have m2 : n % 2 ^ (i + 1) < 18446744073709551616 := by have := Nat.mod_le n (2 ^ (i + 1)); omega
    rw [if_pos (by omega), if_pos (by omega), if_pos (by omega), add1 i (by omega)]
    unfold quoI remI addI mulI
    rw [Int.tdiv_eq_ediv_of_nonneg (Int.natCast_nonneg _), Int.tmod_eq_emod_of_nonneg (Int.natCast_nonneg _)]
    have e := lowstep (n / 2 ^ i) _ (n % 2 ^ i) _ (2 ^ i) q2 m1 m2 (by omega) p
    rw [← c] at e
    rw [e.1, e.2]
    refine ih (i + 1) _ (by omega) (fun h => ?_) (by omega)
    have p2 : 2 ^ (i + 1) ≤ 2 ^ 63 := Nat.pow_le_pow_right (by omega) (by omega)
    have c2 : ((2 : Int) ^ (i + 1)) = ((2 ^ (i + 1) : Nat) : Int) := by simp
    rw [c, c2, wrap_u64, Nat.pow_succ]
    rw [Nat.pow_succ] at p2
    omega
theorem byte_u64 (s : ByteArray) (i : Nat) (hi : i < s.size) : ∃ x : UInt8, (bl s).drop i = x :: (bl s).drop (i + 1) ∧ wrapI .u64 (getS s (toN (i : Int))) = IntKind.u64.wrap (x.toNat : Int) := by
  obtain ⟨x, e, hx⟩ := drop_cons s i hi
  refine ⟨x, e, ?_⟩
  rw [getS_bt, hx]; rfl
theorem refof_loop (s : ByteArray) (bits : Int) (hs : s.size ≤ 140737488351232) (d : Nat) : ∀ (i : Nat) (h : Int), 0 ≤ h → h < 18446744073709551616 → i ≤ s.size → s.size - i = d →
    ref04_Of.l0 s bits h i = some ((((fnv ((bl s).drop i) h).toNat % 2 ^ wid bits : Nat)) : Int) := by
  have hw := wid_le bits
  induction d with
  | zero =>
    intro i h h0 h1 hi hd
    rw [ref04_Of.l0.eq]
    simp only [ltI_d, leI_d, ofN_d, lenS_d, andB_d, br_if]
    obtain ⟨n, rfl⟩ : ∃ n : Nat, h = n := ⟨h.toNat, by omega⟩
    rw [if_neg (by omega), List.drop_eq_nil_of_le (by rw [bl_len]; omega)]
    have := reflow_loop bits n (by omega) (wid bits) 0 1 (by omega) (fun _ => by simp) (by omega)
    simp only [Nat.pow_zero, Nat.div_one, Nat.mod_one, Int.cast_ofNat_Int] at this
    rw [this]
    rfl
  | succ d ih =>
    intro i h h0 h1 hi hd
    rw [ref04_Of.l0.eq]
    simp only [ltI_d, leI_d, ofN_d, lenS_d, andB_d, br_if]
    obtain ⟨x, e, hx⟩ := byte_u64 s i (by omega)
    rw [if_pos (by omega), if_pos (by omega), e, add1 i (by omega), hx]
    have hr := hstep_range h (x.toNat : Int)
    have := ih (i + 1) (hstep h (x.toNat : Int)) hr.1 hr.2 (by omega) (by omega)
    unfold hstep at this
    unfold mulI
    rw [this, fnv_cons]
    rfl
theorem refof_any (s : ByteArray) (bits : Int) (hs : s.size ≤ 140737488351232) : ref04_Of s bits = some ((hashS s bits : Nat) : Int) := by
  rw [ref04_Of.eq]
  have := refof_loop s bits hs s.size 0 14695981039346656037 (by omega) (by omega) (by omega) (by omega)
  simp only [List.drop_zero, Int.cast_ofNat_Int] at this
  unfold hashS
  rw [hashN_eq]
  exact this
theorem within_any (bits : Int) : hash_within bits = some (wid bits : Int) := by
  rw [hash_within.eq]
  simp only [minI_d, maxI_d]
  unfold wid
  exact some_int (by omega)
theorem cutb_any (h : Nat) (hh : h < 18446744073709551616) (bits : Int) : hash_cut h bits = some ((h % 2 ^ wid bits : Nat) : Int) := by
  have hw := wid_le bits
  rw [hash_cut.eq, within_any, bnd_some]
  simp only [eqI_d, leI_d, br_if]
  by_cases e : wid bits = 64
  · rw [if_pos (by omega), e, Nat.mod_eq_of_lt (by omega)]
  · rw [if_neg (by omega), bnd_some, if_pos (by omega)]
    have hpos : 0 < 2 ^ wid bits := Nat.two_pow_pos _
    have hle : 2 ^ wid bits ≤ 2 ^ 63 := Nat.pow_le_pow_right (by omega) (by omega)
    have e1 : shlI .u64 1 ((wid bits : Nat) : Int) = ((2 ^ wid bits : Nat) : Int) := by
      unfold shlI
      rw [Int.toNat_natCast, show IntKind.u64.bits = 64 from rfl, Nat.min_eq_left hw, Int.one_mul, wrap_u64]
      have c : ((2 : Int) ^ wid bits) = ((2 ^ wid bits : Nat) : Int) := by simp
      rw [c]
      generalize 2 ^ wid bits = P at hle ⊢
      omega
    have e2 : subI .u64 ((2 ^ wid bits : Nat) : Int) 1 = ((2 ^ wid bits - 1 : Nat) : Int) := by
      unfold subI
      rw [wrap_u64]
      generalize 2 ^ wid bits = P at hle hpos ⊢
      omega
    rw [e1, e2, and_u64 _ _ hh hw]
theorem hashof_loop (s : ByteArray) (bits : Int) (hs : s.size ≤ 140737488351232) (d : Nat) : ∀ (i : Nat) (h : Int), 0 ≤ h → h < 18446744073709551616 → i ≤ s.size → s.size - i = d →
    hash_Of.l0 s bits h s.size i = some ((((fnv ((bl s).drop i) h).toNat % 2 ^ wid bits : Nat)) : Int) := by
  induction d with
  | zero =>
    intro i h h0 h1 hi hd
    rw [hash_Of.l0.eq]
    simp only [ltI_d, leI_d, ofN_d, lenS_d, andB_d, br_if]
    obtain ⟨n, rfl⟩ : ∃ n : Nat, h = n := ⟨h.toNat, by omega⟩
    rw [if_neg (by omega), List.drop_eq_nil_of_le (by rw [bl_len]; omega), cutb_any n (by omega), bnd_some]
    rfl
  | succ d ih =>
    intro i h h0 h1 hi hd
    rw [hash_Of.l0.eq]
    simp only [ltI_d, leI_d, ofN_d, lenS_d, andB_d, br_if]
    obtain ⟨x, e, hx⟩ := byte_u64 s i (by omega)
    rw [if_pos (by omega), if_pos (by omega), e, add1 i (by omega), hx]
    have hr := hstep_range h (x.toNat : Int)
    have := ih (i + 1) (hstep h (x.toNat : Int)) hr.1 hr.2 (by omega) (by omega)
    unfold hstep at this
    unfold mulI
    rw [this, fnv_cons]
    rfl
theorem hashof_any (s : ByteArray) (bits : Int) (hs : s.size ≤ 140737488351232) : hash_Of s bits = some ((hashS s bits : Nat) : Int) := by
  rw [hash_Of.eq]
  have := hashof_loop s bits hs s.size 0 14695981039346656037 (by omega) (by omega) (by omega) (by omega)
  simp only [List.drop_zero, Int.cast_ofNat_Int] at this
  unfold hashS
  rw [hashN_eq]
  exact this
end Go.Proofs.YtmopkbmcilolgaaGreat.AI
set_option linter.unusedVariables false
set_option linter.unusedSimpArgs false
namespace Go.Proofs.YtmopkbmcilolgaaGreat.AI
open Go.Abs
theorem down_loop (a : Nat) (d : Nat) : ∀ (h i : Nat), h < 18446744073709551616 → i ≤ a → a ≤ 64 → a - i = d → ref05_down.l0 h a i = some ((h / 2 ^ d : Nat) : Int) := by
  induction d with
  | zero =>
    intro h i hh hi ha hd
    rw [ref05_down.l0.eq]
    simp only [ltI_d, br_if]
    rw [if_neg (by omega)]
    simp
  | succ d ih =>
    intro h i hh hi ha hd
    rw [ref05_down.l0.eq]
    simp only [ltI_d, eqI_d, notB_d, br_if]
    unfold quoI
    rw [if_pos (by omega), if_pos (by omega), Int.tdiv_eq_ediv_of_nonneg (by omega), Go.Abs.wrap_u64_id (by omega) (by omega), add1 i (by omega), show ((h : Int) / 2) = ((h / 2 : Nat) : Int) by omega]
    rw [ih (h / 2) (i + 1) (by omega) (by omega) (by omega) (by omega), Nat.div_div_eq_div_mul, Nat.pow_succ, Nat.mul_comm 2]
theorem down_any (h : Int) (h0 : 0 ≤ h) (h1 : h < 18446744073709551616) (a : Nat) (ha : a ≤ 64) : ref05_down h a = some (h / ((2 ^ a : Nat) : Int)) := by
  obtain ⟨n, rfl⟩ : ∃ n : Nat, h = n := ⟨h.toNat, by omega⟩
  rw [ref05_down.eq, show (0 : Int) = ((0 : Nat) : Int) by rfl, down_loop a a n 0 (by omega) (by omega) ha (by omega)]
  simp
theorem refpriof_any (s : ByteArray) (hs : s.size ≤ 140737488351232) : ref05_Of s = some (pri s) := by
  rw [pri_eq]
  have h64 := hash_lt64 s 64
  rw [ref05_Of.eq, refof_any s 64 hs, bnd_some]
  obtain ⟨h, hh⟩ : ∃ h : Int, ((hashS s 64 : Nat) : Int) = h := ⟨_, rfl⟩
  rw [hh]
  have d1 : ref05_down h 30 = some (h / 1073741824) := down_any h (by omega) (by omega) 30 (by omega)
  rw [d1, bnd_some]
  have r1 : 0 ≤ m1 h ∧ m1 h < 18446744073709551616 := wrap_u64_range _
  obtain ⟨x, hx⟩ : ∃ x : Int, m1 h = x := ⟨_, rfl⟩
  rw [show mulI .u64 (xorI .u64 h (h / 1073741824)) 13787848793156543929 = x from hx, hx]
  rw [hx] at r1
  have d2 : ref05_down x 27 = some (x / 134217728) := down_any x r1.1 r1.2 27 (by omega)
  rw [d2, bnd_some]
  have r2 : 0 ≤ m2 x ∧ m2 x < 18446744073709551616 := wrap_u64_range _
  obtain ⟨y, hy⟩ : ∃ y : Int, m2 x = y := ⟨_, rfl⟩
  rw [show mulI .u64 (xorI .u64 x (x / 134217728)) 10723151780598845931 = y from hy, hy]
  rw [hy] at r2
  have d3 : ref05_down y 31 = some (y / 2147483648) := down_any y r2.1 r2.2 31 (by omega)
  rw [d3, bnd_some]
  rfl
theorem shr_nat (h : Int) (n : Nat) (hn : n ≤ 64) : shrI .u64 h (n : Int) = h / ((2 ^ n : Nat) : Int) := by
  unfold shrI
  rw [Int.toNat_natCast, show IntKind.u64.bits = 64 from rfl, Nat.min_eq_left hn, Int.fdiv_eq_ediv_of_nonneg _ (Int.pow_nonneg (by omega))]
  simp
theorem priof_any (s : ByteArray) (hs : s.size ≤ 140737488351232) : pri_Of s = some (pri s) := by
  rw [pri_eq, pri_Of.eq, hashof_any s 64 hs, bnd_some]
  have s1 : ∀ h : Int, shrI .u64 h 30 = h / 1073741824 := fun h => shr_nat h 30 (by omega)
  have s2 : ∀ h : Int, shrI .u64 h 27 = h / 134217728 := fun h => shr_nat h 27 (by omega)
  have s3 : ∀ h : Int, shrI .u64 h 31 = h / 2147483648 := fun h => shr_nat h 31 (by omega)
  simp only [leI_d, br_if, s1, s2, s3]
  rw [if_pos (by omega), if_pos (by omega), if_pos (by omega)]
  rfl
theorem above_any (a b : ByteArray) (ha : a.size ≤ 140737488351232) (hb : b.size ≤ 140737488351232) : pri_Above a b = some (above a b) := by
  rw [pri_Above.eq, priof_any a ha, bnd_some, priof_any b hb, bnd_some, compare_any a b (by omega), bnd_some]
  simp only [ltI_d, eqI_d, br_if]
  unfold above
  by_cases e : pri a = pri b
  · rw [if_neg (by omega), if_pos e, if_pos e]
    refine some_bool ?_
    by_cases q : lt a b = true
    · rw [q]; exact decide_eq_true (cmp_neg.2 q)
    · rw [Bool.eq_false_iff.2 q]; exact decide_eq_false (fun z => q (cmp_neg.1 z))
  · by_cases g : pri b < pri a
    · rw [if_pos g, if_neg e]; exact some_bool (decide_eq_true g).symm
    · rw [if_neg g, if_neg e, if_neg e]; exact some_bool (decide_eq_false g).symm
theorem refabove_any (a b : ByteArray) (ha : a.size ≤ 140737488351232) (hb : b.size ≤ 140737488351232) : ref05_Above a b = some (above a b) := by
  rw [ref05_Above.eq, refpriof_any a ha, bnd_some, refpriof_any b hb, bnd_some, bnd_some, bnd_some, less_any a b (by omega), bnd_some]
  simp only [ltI_d, eqI_d, notB_d, br_if]
  unfold above
  by_cases e : pri a = pri b
  · rw [if_neg (by intro q; exact q e), if_pos e]
  · rw [if_pos e, if_neg e]
end Go.Proofs.YtmopkbmcilolgaaGreat.AI
set_option linter.unusedVariables false
set_option linter.unusedSimpArgs false
namespace Go.Proofs.YtmopkbmcilolgaaGreat.AI
open Go.Abs
/-! ### The binding that is above all others -/
def keyAt (l : List PairV) (i : Nat) : ByteArray := (l.getD i (ByteArray.empty, (ByteArray.empty, ()))).1
theorem keyAt_get (l : List PairV) (i : Nat) (h : i < l.length) : keyAt l i = l[i].1 := by
  unfold keyAt
  rw [List.getD_eq_getElem?_getD, List.getElem?_eq_getElem h]; rfl
noncomputable def topA (l : List PairV) : Nat → Nat → Nat → Nat
  | 0, _, t => t
  | d + 1, i, t => topA l d (i + 1) (if above (keyAt l i) (keyAt l t) = true then i else t)
noncomputable def topI (l : List PairV) : Nat := topA l (l.length - 1) 1 0
theorem topA_spec (l : List PairV) : ∀ (d i t : Nat), t < i → i + d = l.length → (∀ j, j < i → above (keyAt l j) (keyAt l t) = false) → (∀ j, j < t → keyAt l j ≠ keyAt l t) →
    topA l d i t < l.length ∧ (∀ j, j < l.length → above (keyAt l j) (keyAt l (topA l d i t)) = false) ∧ ∀ j, j < topA l d i t → keyAt l j ≠ keyAt l (topA l d i t)
  | 0, i, t, h1, h2, h3, h4 => ⟨by unfold topA; omega, by unfold topA; intro j hj; exact h3 j (by omega), by unfold topA; exact h4⟩
  | d + 1, i, t, h1, h2, h3, h4 => by
    unfold topA
    by_cases h : above (keyAt l i) (keyAt l t) = true
    · rw [if_pos h]
      refine topA_spec l d (i + 1) i (by omega) (by omega) (fun j hj => ?_) (fun j hj e => ?_)
      · by_cases e : j = i
        · subst e; exact above_irrefl _
        · exact above_not_trans (h3 j (by omega)) (above_asymm h)
      · rw [← e, h3 j hj] at h; cases h
    · rw [if_neg h]
      refine topA_spec l d (i + 1) t (by omega) (by omega) (fun j hj => ?_) h4
      by_cases e : j = i
      · subst e; exact Bool.eq_false_iff.2 h
      · exact h3 j (by omega)
theorem topI_spec (l : List PairV) (h : l ≠ []) : topI l < l.length ∧ (∀ j, j < l.length → above (keyAt l j) (keyAt l (topI l)) = false) ∧ ∀ j, j < topI l → keyAt l j ≠ keyAt l (topI l) := by
  have hp : 0 < l.length := List.length_pos_iff.2 h
  exact topA_spec l (l.length - 1) 1 0 (by omega) (by omega) (fun j hj => by rw [show j = 0 by omega]; exact above_irrefl _) (fun j hj => by omega)
theorem topI_lt {l : List PairV} (h : l ≠ []) : topI l < l.length := (topI_spec l h).1
def treeN (p : PairV) (a b : Int) (n : Nat) : NodeV := (4, (p.1, (p.2.1, (0, ([a, b], (0, ([], ((n : Int), (0, ())))))))))
/-- The nodes of a tree, behind those that are there; and its reference. -/
noncomputable def nodesS (h : List NodeV) (l : List PairV) : List NodeV × Int :=
  if hl : l = [] then (h, 0) else
    have := topI_lt hl
    let a := nodesS h (l.take (topI l))
    let b := nodesS a.1 (l.drop (topI l + 1))
    (b.1 ++ [treeN (pairAt l (topI l)) a.2 b.2 l.length], (b.1.length : Int) + 1)
termination_by l.length
decreasing_by
  · rw [List.length_take]; omega
  · rw [List.length_drop]; omega
theorem nodesS_nil (h : List NodeV) : nodesS h [] = (h, 0) := by rw [nodesS, dif_pos rfl]
theorem nodesS_cons (h : List NodeV) {l : List PairV} (hl : l ≠ []) : nodesS h l = ((nodesS (nodesS h (l.take (topI l))).1 (l.drop (topI l + 1))).1 ++ [treeN (pairAt l (topI l)) (nodesS h (l.take (topI l))).2 (nodesS (nodesS h (l.take (topI l))).1 (l.drop (topI l + 1))).2 l.length], ((nodesS (nodesS h (l.take (topI l))).1 (l.drop (topI l + 1))).1.length : Int) + 1) := by
  rw [nodesS, dif_neg hl]
theorem nodesS_len : ∀ (n : Nat) (h : List NodeV) (l : List PairV), l.length ≤ n → (nodesS h l).1.length = h.length + l.length
  | n, h, l, hn => by
    by_cases hl : l = []
    · subst hl; rw [nodesS_nil]; rfl
    have ht := topI_lt hl
    cases n with
    | zero => exact absurd (List.eq_nil_of_length_eq_zero (by omega)) hl
    | succ n =>
      rw [nodesS_cons h hl]
      dsimp only
      rw [List.length_append, nodesS_len n _ _ (by rw [List.length_drop]; omega), nodesS_len n _ _ (by rw [List.length_take]; omega), List.length_take, List.length_drop]
      simp only [List.length_cons, List.length_nil]
      omega
/-- The shape of a tree. -/
noncomputable def treeT (l : List PairV) : Shp :=
  if hl : l = [] then .nil else
    have := topI_lt hl
    .node (stripV (treeN (pairAt l (topI l)) 0 0 l.length)) [treeT (l.take (topI l)), treeT (l.drop (topI l + 1)), .nil]
termination_by l.length
decreasing_by
  · rw [List.length_take]; omega
  · rw [List.length_drop]; omega
theorem treeT_nil : treeT [] = .nil := by rw [treeT, dif_pos rfl]
theorem treeT_cons {l : List PairV} (hl : l ≠ []) : treeT l = .node (stripV (treeN (pairAt l (topI l)) 0 0 l.length)) [treeT (l.take (topI l)), treeT (l.drop (topI l + 1)), .nil] := by
  rw [treeT, dif_neg hl]
theorem bindsT_tree : ∀ (n : Nat) (l : List PairV), l.length ≤ n → bindsT (treeT l) = l
  | n, l, hn => by
    by_cases hl : l = []
    · subst hl; rw [treeT_nil, bindsT_nil]
    have ht := topI_lt hl
    cases n with
    | zero => exact absurd (List.eq_nil_of_length_eq_zero (by omega)) hl
    | succ n =>
      rw [treeT_cons hl, bindsT_node, if_pos (show (stripV (treeN (pairAt l (topI l)) 0 0 l.length)).1 = 4 from rfl)]
      show bindsT (treeT (l.take (topI l))) ++ [pairAt l (topI l)] ++ bindsT (treeT (l.drop (topI l + 1))) = l
      rw [bindsT_tree n _ (by rw [List.length_take]; omega), bindsT_tree n _ (by rw [List.length_drop]; omega)]
      exact split_at l _ ht
theorem bindsT_treeT (l : List PairV) : bindsT (treeT l) = l := bindsT_tree _ l (Nat.le_refl _)
theorem treeN_may {p : PairV} (hp : okT p) (a b : Int) (n : Nat) (hn : 1 ≤ n) : mayS (treeN p a b n) = 0 := by
  unfold mayS
  rw [if_neg (by show ¬ (4 : Int) < 1; omega), if_neg (by show ¬ (6 : Int) < 4; omega)]
  have hl : longN (treeN p a b n) = false := by
    show ((decide (16 < p.1.size) || decide (16 < p.2.1.size)) || false) = false
    rw [decide_eq_false (by have := hp.1; omega), decide_eq_false (by have := hp.2; omega)]
    rfl
  rw [hl, if_neg (by simp), if_pos]
  refine ⟨Int.le_refl _, ?_⟩
  rw [if_neg (by show ¬ ((4 : Int) = 1 ∨ (4 : Int) = 6); omega), if_neg (by show ¬ (4 : Int) = 2; omega), if_neg (by show ¬ (4 : Int) = 3; omega), if_pos (show (treeN p a b n).1 = 4 from rfl)]
  exact ⟨rfl, rfl, by show (1 : Int) ≤ (n : Int); omega, fun q => (by cases q), fun q => (by cases q), fun _ => rfl, fun _ => rfl⟩
theorem treeN_ok {p : PairV} (hp : okP p) (a b : Int) (n : Nat) : okN (treeN p a b n) := ⟨hp.1, hp.2, by show (0 : Int) ≤ 0; omega, by show (0 : Int) < 4294967296; omega, by show 2 ≤ _; omega, by show 0 ≤ _; omega, fun q hq => (by cases hq)⟩
theorem refsS_tree (p : PairV) (a b : Int) (n : Nat) : refsS (treeN p a b n) = [a, b].filter (fun r => decide (r ≠ 0)) := by
  rw [refsS_all]
  show ([a, b] ++ [0]).filter _ = _
  rw [List.filter_append]
  show _ ++ [] = _
  rw [List.append_nil]
/-- What the nodes of a tree are. -/
structure NodesOK (h : List NodeV) (l : List PairV) (g : List NodeV) (r : Int) : Prop where
  pre : ∃ new : List NodeV, g = h ++ new ∧ new.length = l.length ∧ ∀ n ∈ new, ∃ p ∈ l, ∃ a b m, n = treeN p a b m
  may : mayH g = true
  r0 : 0 ≤ r
  r1 : r ≤ g.length
  shp : U g r = treeT l
theorem nodesS_ok : ∀ (n : Nat) (h : List NodeV) (l : List PairV), l.length ≤ n → mayH h = true → (∀ p ∈ l, okT p) → NodesOK h l (nodesS h l).1 (nodesS h l).2
  | n, h, l, hn, hm, hb => by
    by_cases hl : l = []
    · subst hl
      rw [nodesS_nil]
      exact ⟨⟨[], by simp, rfl, by simp⟩, hm, Int.le_refl _, by show (0 : Int) ≤ _; omega, by rw [U_zero, treeT_nil]⟩
    have ht := topI_lt hl
    cases n with
    | zero => exact absurd (List.eq_nil_of_length_eq_zero (by omega)) hl
    | succ n =>
      have ia := nodesS_ok n h (l.take (topI l)) (by rw [List.length_take]; omega) hm (fun p hp => hb p (List.mem_of_mem_take hp))
      have ib := nodesS_ok n (nodesS h (l.take (topI l))).1 (l.drop (topI l + 1)) (by rw [List.length_drop]; omega) ia.may (fun p hp => hb p (List.mem_of_mem_drop hp))
      rw [nodesS_cons h hl]
      generalize hga : (nodesS h (l.take (topI l))).1 = ga at ia ib ⊢
      generalize hra : (nodesS h (l.take (topI l))).2 = ra at ia ⊢
      generalize hgb : (nodesS ga (l.drop (topI l + 1))).1 = gb at ib ⊢
      generalize hrb : (nodesS ga (l.drop (topI l + 1))).2 = rb at ib ⊢
      obtain ⟨na, ea, la, ma⟩ := ia.pre
      obtain ⟨nb, eb, lb, mb⟩ := ib.pre
      have hpm := pairAt_mem l _ ht
      have hp := hb _ hpm
      have hlab : ga.length ≤ gb.length := by rw [eb, List.length_append]; omega
      have hra := ia.r1
      have hpos : 1 ≤ l.length := by omega
      have hmay : mayH (gb ++ [treeN (pairAt l (topI l)) ra rb l.length]) = true := by
        unfold mayH
        rw [mayHL_app, Bool.and_eq_true]
        refine ⟨ib.may, mayHL_of _ _ fun j hj => ?_⟩
        have : j = 0 := by simpa using hj
        subst this
        refine ⟨treeN_may hp _ _ _ hpos, fun r hr => ?_⟩
        rw [show ([treeN (pairAt l (topI l)) ra rb l.length] : List NodeV)[0] = treeN (pairAt l (topI l)) ra rb l.length from rfl, refsS_tree] at hr
        obtain ⟨hr1, hr2⟩ := List.mem_filter.1 hr
        have a0 := ia.r0
        have b0 := ib.r0
        have b1 := ib.r1
        simp only [decide_eq_true_eq, ne_eq] at hr2
        rcases List.mem_cons.1 hr1 with rfl | hr1
        · exact ⟨by omega, by omega⟩
        · rw [List.mem_singleton] at hr1
          subst hr1
          exact ⟨by omega, by omega⟩
      refine ⟨⟨na ++ nb ++ [treeN (pairAt l (topI l)) ra rb l.length], ?_, ?_, ?_⟩, hmay, by omega, ?_, ?_⟩
      · rw [eb, ea]; simp
      · rw [List.length_append, List.length_append, la, lb, List.length_take, List.length_drop]
        simp only [List.length_cons, List.length_nil]
        omega
      · intro m hm'
        rcases List.mem_append.1 hm' with hm' | hm'
        · rcases List.mem_append.1 hm' with hm' | hm'
          · obtain ⟨p, hp, q⟩ := ma m hm'
            exact ⟨p, List.mem_of_mem_take hp, q⟩
          · obtain ⟨p, hp, q⟩ := mb m hm'
            exact ⟨p, List.mem_of_mem_drop hp, q⟩
        · rw [List.mem_singleton] at hm'
          exact ⟨_, hpm, _, _, _, hm'⟩
      · show ((gb.length : Int) + 1) ≤ ((gb ++ [treeN (pairAt l (topI l)) ra rb l.length]).length : Int)
        rw [List.length_append]; simp only [List.length_cons, List.length_nil]; omega
      · show U (gb ++ [treeN (pairAt l (topI l)) ra rb l.length]) ((gb.length : Int) + 1) = treeT l
        rw [U_node hmay (by omega) (by rw [List.length_append]; simp only [List.length_cons, List.length_nil]; omega), getN_last, treeT_cons hl]
        have e1 : U (gb ++ [treeN (pairAt l (topI l)) ra rb l.length]) ra = treeT (l.take (topI l)) := by
          rw [U_app ib.may ia.r0 (by omega), eb, U_app ia.may ia.r0 ia.r1]
          exact ia.shp
        have e2 : U (gb ++ [treeN (pairAt l (topI l)) ra rb l.length]) rb = treeT (l.drop (topI l + 1)) := by
          rw [U_app ib.may ib.r0 ib.r1]
          exact ib.shp
        show Shp.node _ [U _ ra, U _ rb, U _ 0] = _
        rw [e1, e2, U_zero]
        rfl
theorem nodes_okH {l : List PairV} (hl : l.length ≤ 40000000) (hb : ∀ p ∈ l, okT p) : okH (nodesS [] l).1 := by
  have h := nodesS_ok _ [] l (Nat.le_refl _) rfl hb
  obtain ⟨new, e, h1, h2⟩ := h.pre
  rw [List.nil_append] at e
  refine ⟨by rw [e]; omega, fun n hn => ?_, fun n hn => ?_⟩
  · rw [e] at hn
    obtain ⟨p, hp, a, b, m, rfl⟩ := h2 n hn
    exact treeN_ok (hb p hp).ok a b m
  · obtain ⟨j, hj, ej⟩ := List.getElem_of_mem hn
    rw [e] at hn
    obtain ⟨p, hp, a, b, m, rfl⟩ := h2 n hn
    have hk := (may_node h.may (r := (j : Int) + 1) (by omega) (by omega)).2
    rw [getN_ix _ j hj, ej] at hk
    have hl' : (nodesS [] l).1.length ≤ 40000000 := by rw [e]; omega
    refine ⟨fun k hk' => ?_, ?_⟩
    · have := hk k (by show k ∈ [a, b] ++ [0]; exact List.mem_append_left _ hk')
      unfold rng; omega
    · show rng 0
      unfold rng; omega
end Go.Proofs.YtmopkbmcilolgaaGreat.AI
set_option linter.unusedVariables false
set_option linter.unusedSimpArgs false
namespace Go.Proofs.YtmopkbmcilolgaaGreat.AI
open Go.Abs
theorem top_eq {l : List PairV} (hS : Srt l) {i : Nat} (hi : i < l.length) (h : ∀ j, j < l.length → above (keyAt l j) (keyAt l i) = false) : topI l = i := by
  have hl : l ≠ [] := by rintro rfl; cases hi
  obtain ⟨h1, h2, _⟩ := topI_spec l hl
  have hk : keyAt l (topI l) = keyAt l i := by
    by_cases e : keyAt l (topI l) = keyAt l i
    · exact e
    · rcases above_total e with q | q
      · rw [h _ h1] at q; cases q
      · rw [h2 _ hi] at q; cases q
  rw [keyAt_get l _ h1, keyAt_get l _ hi] at hk
  rcases Nat.lt_trichotomy (topI l) i with q | q | q
  · have := srt_get hS hi q
    rw [hk, lt_irrefl] at this; cases this
  · exact q
  · have := srt_get hS h1 q
    rw [hk, lt_irrefl] at this; cases this
theorem keyAt_mem {l : List PairV} {j : Nat} (h : j < l.length) : ∃ q ∈ l, keyAt l j = q.1 := ⟨l[j], List.getElem_mem h, keyAt_get l j h⟩
/-- No key of a list is above another one. -/
def Under (l : List PairV) (k : ByteArray) : Prop := ∀ q ∈ l, above q.1 k = false
theorem treeT_mid {L R : List PairV} {p : PairV} (hS : Srt (L ++ p :: R)) (hu : Under (L ++ R) p.1) : treeT (L ++ p :: R) = .node (stripV (treeN p 0 0 (L.length + 1 + R.length))) [treeT L, treeT R, .nil] := by
  have hlen : L.length < (L ++ p :: R).length := by rw [List.length_append, List.length_cons]; omega
  have hk : keyAt (L ++ p :: R) L.length = p.1 := by
    rw [keyAt_get _ _ hlen, List.getElem_append_right (Nat.le_refl _)]
    simp
  have ht : topI (L ++ p :: R) = L.length := top_eq hS hlen fun j hj => by
    rw [hk]
    obtain ⟨q, hq, e⟩ := keyAt_mem hj
    rw [e]
    rcases List.mem_append.1 hq with hq | hq
    · exact hu q (List.mem_append_left _ hq)
    · rcases List.mem_cons.1 hq with rfl | hq
      · exact above_irrefl _
      · exact hu q (List.mem_append_right _ hq)
  rw [treeT_cons (by simp), ht]
  have hp : pairAt (L ++ p :: R) L.length = p := by
    rw [pairAt_get _ _ hlen, List.getElem_append_right (Nat.le_refl _)]
    simp
  rw [hp, List.take_left' rfl, List.drop_append, List.drop_eq_nil_of_le (by omega), List.nil_append, show L.length + 1 - L.length = 1 by omega, List.drop_one, List.tail_cons, List.length_append, List.length_cons, show L.length + (R.length + 1) = L.length + 1 + R.length by omega]
theorem tree_mid {l : List PairV} (hS : Srt l) (hl : l ≠ []) : ∃ L p R, l = L ++ p :: R ∧ Under (L ++ R) p.1 := by
  have ht := topI_lt hl
  obtain ⟨_, h2, _⟩ := topI_spec l hl
  refine ⟨l.take (topI l), l[topI l], l.drop (topI l + 1), ?_, ?_⟩
  · rw [← List.drop_eq_getElem_cons ht, List.take_append_drop]
  · intro q hq
    have hm : q ∈ l := by
      rcases List.mem_append.1 hq with hq | hq
      · exact List.mem_of_mem_take hq
      · exact List.mem_of_mem_drop hq
    obtain ⟨j, hj, e⟩ := List.getElem_of_mem hm
    have := h2 j hj
    rw [keyAt_get l j hj, keyAt_get l _ ht, e] at this
    exact this
/-- What is ahead of a key, and what is behind it. -/
def ltS (k : ByteArray) (l : List PairV) : List PairV := l.filter fun q => lt q.1 k
def gtS (k : ByteArray) (l : List PairV) : List PairV := l.filter fun q => lt k q.1
theorem ltS_srt {l : List PairV} (h : Srt l) (k : ByteArray) : Srt (ltS k l) := List.Pairwise.filter _ h
theorem gtS_srt {l : List PairV} (h : Srt l) (k : ByteArray) : Srt (gtS k l) := List.Pairwise.filter _ h
theorem ltS_mem {k : ByteArray} {l : List PairV} {q : PairV} : q ∈ ltS k l ↔ q ∈ l ∧ lt q.1 k = true := List.mem_filter
theorem gtS_mem {k : ByteArray} {l : List PairV} {q : PairV} : q ∈ gtS k l ↔ q ∈ l ∧ lt k q.1 = true := List.mem_filter
theorem ltS_all {k : ByteArray} {l : List PairV} (h : ∀ q ∈ l, lt q.1 k = true) : ltS k l = l ∧ gtS k l = [] :=
  ⟨List.filter_eq_self.2 h, List.filter_eq_nil_iff.2 fun q hq => by rw [lt_asymm (h q hq)]; simp⟩
theorem gtS_all {k : ByteArray} {l : List PairV} (h : ∀ q ∈ l, lt k q.1 = true) : ltS k l = [] ∧ gtS k l = l :=
  ⟨List.filter_eq_nil_iff.2 fun q hq => by rw [lt_asymm (h q hq)]; simp, List.filter_eq_self.2 h⟩
theorem ltS_app (k : ByteArray) (a b : List PairV) : ltS k (a ++ b) = ltS k a ++ ltS k b := List.filter_append ..
theorem gtS_app (k : ByteArray) (a b : List PairV) : gtS k (a ++ b) = gtS k a ++ gtS k b := List.filter_append ..
theorem srt_cons {q : PairV} {l : List PairV} (h : Srt (q :: l)) : (∀ x ∈ l, lt q.1 x.1 = true) ∧ Srt l := List.pairwise_cons.1 h
theorem srt_three {L R : List PairV} {p : PairV} (h : Srt (L ++ p :: R)) : Srt L ∧ Srt R ∧ (∀ q ∈ L, lt q.1 p.1 = true) ∧ (∀ q ∈ R, lt p.1 q.1 = true) ∧ ∀ a ∈ L, ∀ b ∈ R, lt a.1 b.1 = true := by
  obtain ⟨h1, h2, h3⟩ := List.pairwise_append.1 h
  obtain ⟨h4, h5⟩ := srt_cons h2
  exact ⟨h1, h5, fun q hq => h3 q hq p List.mem_cons_self, h4, fun a ha b hb => h3 a ha b (List.mem_cons_of_mem _ hb)⟩
theorem srt_join {L R : List PairV} {p : PairV} (h1 : Srt L) (h2 : Srt R) (h3 : ∀ q ∈ L, lt q.1 p.1 = true) (h4 : ∀ q ∈ R, lt p.1 q.1 = true) : Srt (L ++ p :: R) := by
  refine List.pairwise_append.2 ⟨h1, List.pairwise_cons.2 ⟨h4, h2⟩, fun a ha b hb => ?_⟩
  rcases List.mem_cons.1 hb with rfl | hb
  · exact h3 a ha
  · exact lt_trans (h3 a ha) (h4 b hb)
theorem putS_parts (x : PairV) : ∀ {l : List PairV}, Srt l → putS l x = ltS x.1 l ++ x :: gtS x.1 l
  | [], _ => rfl
  | q :: qs, h => by
    obtain ⟨h1, h2⟩ := srt_cons h
    rcases tri q.1 x.1 with ⟨a, b, _⟩ | ⟨a, b, c⟩ | ⟨a, b, _⟩
    · rw [putS_lt a, putS_parts x h2]
      unfold ltS gtS
      rw [List.filter_cons_of_pos (by exact a), List.filter_cons_of_neg (by rw [b]; simp), List.cons_append]
    · have hg := gtS_all (k := x.1) (l := qs) fun z hz => by rw [← a]; exact h1 z hz
      rw [putS_eq a]
      unfold ltS gtS at *
      rw [List.filter_cons_of_neg (by rw [b]; simp), List.filter_cons_of_neg (by rw [c]; simp), hg.1, hg.2]
      rfl
    · have hg := gtS_all (k := x.1) (l := q :: qs) fun z hz => by
        rcases List.mem_cons.1 hz with rfl | hz
        · exact a
        · exact lt_trans a (h1 z hz)
      rw [putS_gt a, hg.1, hg.2]
      rfl
/-- A binding that is above all: it is the root. -/
theorem ins_top {l : List PairV} (hS : Srt l) {x : PairV} (hu : Under l x.1) : treeT (putS l x) = .node (stripV (treeN x 0 0 ((ltS x.1 l).length + 1 + (gtS x.1 l).length))) [treeT (ltS x.1 l), treeT (gtS x.1 l), .nil] := by
  have := putS_srt x hS
  rw [putS_parts x hS] at this ⊢
  refine treeT_mid this fun q hq => ?_
  rcases List.mem_append.1 hq with hq | hq
  · exact hu q (ltS_mem.1 hq).1
  · exact hu q (gtS_mem.1 hq).1
theorem putS_left {L R : List PairV} {p x : PairV} (hS : Srt (L ++ p :: R)) (h : lt x.1 p.1 = true) : putS (L ++ p :: R) x = putS L x ++ p :: R := by
  obtain ⟨s1, s2, s3, s4, _⟩ := srt_three hS
  have hg := gtS_all (k := x.1) (l := p :: R) fun z hz => by
    rcases List.mem_cons.1 hz with rfl | hz
    · exact h
    · exact lt_trans h (s4 z hz)
  rw [putS_parts x hS, putS_parts x s1, ltS_app, gtS_app, hg.1, hg.2, List.append_nil, List.append_assoc, List.cons_append]
theorem putS_right {L R : List PairV} {p x : PairV} (hS : Srt (L ++ p :: R)) (h : lt p.1 x.1 = true) : putS (L ++ p :: R) x = L ++ p :: putS R x := by
  obtain ⟨s1, s2, s3, s4, _⟩ := srt_three hS
  have hg := ltS_all (k := x.1) (l := L ++ [p]) fun z hz => by
    rcases List.mem_append.1 hz with hz | hz
    · exact lt_trans (s3 z hz) h
    · rw [List.mem_singleton.1 hz]; exact h
  have e : L ++ p :: R = (L ++ [p]) ++ R := by rw [List.append_assoc]; rfl
  rw [putS_parts x hS, putS_parts x s2, e, ltS_app, gtS_app, hg.1, hg.2, List.nil_append, List.append_assoc, List.append_assoc]
  rfl
theorem putS_here {L R : List PairV} {p x : PairV} (hS : Srt (L ++ p :: R)) (h : x.1 = p.1) : putS (L ++ p :: R) x = L ++ x :: R := by
  obtain ⟨s1, s2, s3, s4, _⟩ := srt_three hS
  have hl := ltS_all (k := x.1) (l := L) fun z hz => by rw [h]; exact s3 z hz
  have hg := gtS_all (k := x.1) (l := R) fun z hz => by rw [h]; exact s4 z hz
  have e : L ++ p :: R = L ++ ([p] ++ R) := rfl
  have h0 : ltS x.1 [p] = [] ∧ gtS x.1 [p] = [] := by
    unfold ltS gtS
    rw [List.filter_cons_of_neg (by rw [h, lt_irrefl]; simp), List.filter_cons_of_neg (by rw [h, lt_irrefl]; simp)]
    exact ⟨rfl, rfl⟩
  rw [putS_parts x hS, e, ltS_app, ltS_app, gtS_app, gtS_app, hl.1, hl.2, hg.1, hg.2, h0.1, h0.2]
  simp
theorem Under.left {L R : List PairV} {k : ByteArray} (h : Under (L ++ R) k) : Under L k := fun q hq => h q (List.mem_append_left _ hq)
theorem Under.right {L R : List PairV} {k : ByteArray} (h : Under (L ++ R) k) : Under R k := fun q hq => h q (List.mem_append_right _ hq)
theorem Under.app {L R : List PairV} {k : ByteArray} (h1 : Under L k) (h2 : Under R k) : Under (L ++ R) k := fun q hq => (List.mem_append.1 hq).elim (h1 q) (h2 q)
theorem Under.put {l : List PairV} {x : PairV} {k : ByteArray} (h : Under l k) (hx : above x.1 k = false) : Under (putS l x) k := fun q hq => by
  rcases putS_mem hq with rfl | hq
  · exact hx
  · exact h q hq
theorem ins_left {L R : List PairV} {p x : PairV} (hS : Srt (L ++ p :: R)) (hu : Under (L ++ R) p.1) (h : lt x.1 p.1 = true) (ha : above x.1 p.1 = false) : treeT (putS (L ++ p :: R) x) = .node (stripV (treeN p 0 0 ((putS L x).length + 1 + R.length))) [treeT (putS L x), treeT R, .nil] := by
  have := putS_srt x hS
  rw [putS_left hS h] at this ⊢
  exact treeT_mid this ((hu.left.put ha).app hu.right)
theorem ins_right {L R : List PairV} {p x : PairV} (hS : Srt (L ++ p :: R)) (hu : Under (L ++ R) p.1) (h : lt p.1 x.1 = true) (ha : above x.1 p.1 = false) : treeT (putS (L ++ p :: R) x) = .node (stripV (treeN p 0 0 (L.length + 1 + (putS R x).length))) [treeT L, treeT (putS R x), .nil] := by
  have := putS_srt x hS
  rw [putS_right hS h] at this ⊢
  exact treeT_mid this (hu.left.app (hu.right.put ha))
theorem ins_here {L R : List PairV} {p x : PairV} (hS : Srt (L ++ p :: R)) (hu : Under (L ++ R) p.1) (h : x.1 = p.1) : treeT (putS (L ++ p :: R) x) = .node (stripV (treeN x 0 0 (L.length + 1 + R.length))) [treeT L, treeT R, .nil] := by
  have := putS_srt x hS
  rw [putS_here hS h] at this ⊢
  exact treeT_mid this (by rw [h]; exact hu)
/-! ### A tree, cut by a key -/
theorem cut_lt {L R : List PairV} {p : PairV} {k : ByteArray} (hS : Srt (L ++ p :: R)) (h : lt p.1 k = true) : ltS k (L ++ p :: R) = L ++ p :: ltS k R ∧ gtS k (L ++ p :: R) = gtS k R := by
  obtain ⟨s1, s2, s3, s4, _⟩ := srt_three hS
  have hg := ltS_all (k := k) (l := L ++ [p]) fun z hz => by
    rcases List.mem_append.1 hz with hz | hz
    · exact lt_trans (s3 z hz) h
    · rw [List.mem_singleton.1 hz]; exact h
  have e : L ++ p :: R = (L ++ [p]) ++ R := by rw [List.append_assoc]; rfl
  rw [e, ltS_app, gtS_app, hg.1, hg.2, List.nil_append, List.append_assoc]
  exact ⟨rfl, rfl⟩
theorem cut_gt {L R : List PairV} {p : PairV} {k : ByteArray} (hS : Srt (L ++ p :: R)) (h : lt k p.1 = true) : ltS k (L ++ p :: R) = ltS k L ∧ gtS k (L ++ p :: R) = gtS k L ++ p :: R := by
  obtain ⟨s1, s2, s3, s4, _⟩ := srt_three hS
  have hg := gtS_all (k := k) (l := p :: R) fun z hz => by
    rcases List.mem_cons.1 hz with rfl | hz
    · exact h
    · exact lt_trans h (s4 z hz)
  rw [ltS_app, gtS_app, hg.1, hg.2, List.append_nil]
  exact ⟨rfl, rfl⟩
theorem Under.sub {l m : List PairV} {k : ByteArray} (h : Under l k) (hm : ∀ q ∈ m, q ∈ l) : Under m k := fun q hq => h q (hm q hq)
theorem cut_ltT {L R : List PairV} {p : PairV} {k : ByteArray} (hS : Srt (L ++ p :: R)) (hu : Under (L ++ R) p.1) (h : lt p.1 k = true) : treeT (ltS k (L ++ p :: R)) = .node (stripV (treeN p 0 0 (L.length + 1 + (ltS k R).length))) [treeT L, treeT (ltS k R), .nil] := by
  have := ltS_srt hS k
  rw [(cut_lt hS h).1] at this ⊢
  exact treeT_mid this (hu.left.app (hu.right.sub fun q hq => (ltS_mem.1 hq).1))
theorem cut_gtT {L R : List PairV} {p : PairV} {k : ByteArray} (hS : Srt (L ++ p :: R)) (hu : Under (L ++ R) p.1) (h : lt k p.1 = true) : treeT (gtS k (L ++ p :: R)) = .node (stripV (treeN p 0 0 ((gtS k L).length + 1 + R.length))) [treeT (gtS k L), treeT R, .nil] := by
  have := gtS_srt hS k
  rw [(cut_gt hS h).2] at this ⊢
  exact treeT_mid this ((hu.left.sub fun q hq => (gtS_mem.1 hq).1).app hu.right)
/-! ### Two trees made one -/
theorem merge_left {L R B : List PairV} {p : PairV} (hS : Srt ((L ++ p :: R) ++ B)) (hu : Under (L ++ R) p.1) (hb : Under B p.1) : treeT ((L ++ p :: R) ++ B) = .node (stripV (treeN p 0 0 (L.length + 1 + (R ++ B).length))) [treeT L, treeT (R ++ B), .nil] := by
  have e : (L ++ p :: R) ++ B = L ++ p :: (R ++ B) := by rw [List.append_assoc, List.cons_append]
  rw [e] at hS ⊢
  exact treeT_mid hS (hu.left.app (hu.right.app hb))
theorem merge_right {A L R : List PairV} {p : PairV} (hS : Srt (A ++ (L ++ p :: R))) (hu : Under (L ++ R) p.1) (ha : Under A p.1) : treeT (A ++ (L ++ p :: R)) = .node (stripV (treeN p 0 0 ((A ++ L).length + 1 + R.length))) [treeT (A ++ L), treeT R, .nil] := by
  have e : A ++ (L ++ p :: R) = (A ++ L) ++ p :: R := by rw [List.append_assoc]
  rw [e] at hS ⊢
  exact treeT_mid hS ((ha.app hu.left).app hu.right)
/-- Bindings without a key. -/
def dropS (k : ByteArray) (l : List PairV) : List PairV := l.filter fun q => decide (q.1 ≠ k)
theorem dropS_srt {l : List PairV} (h : Srt l) (k : ByteArray) : Srt (dropS k l) := List.Pairwise.filter _ h
theorem dropS_mem {k : ByteArray} {l : List PairV} {q : PairV} : q ∈ dropS k l ↔ q ∈ l ∧ q.1 ≠ k := by unfold dropS; rw [List.mem_filter, decide_eq_true_iff]
theorem dropS_app (k : ByteArray) (a b : List PairV) : dropS k (a ++ b) = dropS k a ++ dropS k b := List.filter_append ..
theorem dropS_none {k : ByteArray} {l : List PairV} (h : ∀ q ∈ l, q.1 ≠ k) : dropS k l = l := List.filter_eq_self.2 fun q hq => decide_eq_true (h q hq)
theorem ne_of_lt {a b : ByteArray} (h : lt a b = true) : a ≠ b := fun e => by rw [e, lt_irrefl] at h; cases h
theorem drop_left {L R : List PairV} {p : PairV} {k : ByteArray} (hS : Srt (L ++ p :: R)) (h : lt k p.1 = true) : dropS k (L ++ p :: R) = dropS k L ++ p :: R := by
  obtain ⟨s1, s2, s3, s4, _⟩ := srt_three hS
  rw [dropS_app, dropS_none (l := p :: R) fun z hz => by
    rcases List.mem_cons.1 hz with rfl | hz
    · exact (ne_of_lt h).symm
    · exact (ne_of_lt (lt_trans h (s4 z hz))).symm]
theorem drop_right {L R : List PairV} {p : PairV} {k : ByteArray} (hS : Srt (L ++ p :: R)) (h : lt p.1 k = true) : dropS k (L ++ p :: R) = L ++ p :: dropS k R := by
  obtain ⟨s1, s2, s3, s4, _⟩ := srt_three hS
  have e : L ++ p :: R = (L ++ [p]) ++ R := by rw [List.append_assoc]; rfl
  rw [e, dropS_app, dropS_none (l := L ++ [p]) fun z hz => by
    rcases List.mem_append.1 hz with hz | hz
    · exact ne_of_lt (lt_trans (s3 z hz) h)
    · rw [List.mem_singleton.1 hz]; exact ne_of_lt h, List.append_assoc]
  rfl
theorem drop_here {L R : List PairV} {p : PairV} (hS : Srt (L ++ p :: R)) : dropS p.1 (L ++ p :: R) = L ++ R := by
  obtain ⟨s1, s2, s3, s4, _⟩ := srt_three hS
  have e : L ++ p :: R = L ++ ([p] ++ R) := rfl
  have h0 : dropS p.1 [p] = [] := List.filter_cons_of_neg (by simp)
  rw [e, dropS_app, dropS_app, h0, dropS_none fun z hz => ne_of_lt (s3 z hz), dropS_none fun z hz => (ne_of_lt (s4 z hz)).symm]
  rfl
theorem drop_leftT {L R : List PairV} {p : PairV} {k : ByteArray} (hS : Srt (L ++ p :: R)) (hu : Under (L ++ R) p.1) (h : lt k p.1 = true) : treeT (dropS k (L ++ p :: R)) = .node (stripV (treeN p 0 0 ((dropS k L).length + 1 + R.length))) [treeT (dropS k L), treeT R, .nil] := by
  have := dropS_srt hS k
  rw [drop_left hS h] at this ⊢
  exact treeT_mid this ((hu.left.sub fun q hq => (dropS_mem.1 hq).1).app hu.right)
theorem drop_rightT {L R : List PairV} {p : PairV} {k : ByteArray} (hS : Srt (L ++ p :: R)) (hu : Under (L ++ R) p.1) (h : lt p.1 k = true) : treeT (dropS k (L ++ p :: R)) = .node (stripV (treeN p 0 0 (L.length + 1 + (dropS k R).length))) [treeT L, treeT (dropS k R), .nil] := by
  have := dropS_srt hS k
  rw [drop_right hS h] at this ⊢
  exact treeT_mid this (hu.left.app (hu.right.sub fun q hq => (dropS_mem.1 hq).1))
end Go.Proofs.YtmopkbmcilolgaaGreat.AI
set_option linter.unusedVariables false
set_option linter.unusedSimpArgs false
namespace Go.Proofs.YtmopkbmcilolgaaGreat.AI
open Go.Abs
abbrev PlanV : Type := List NodeV × Int × List Int × Unit
structure okPl (p : PlanV) : Prop where
  len : p.1.length ≤ 1000
  node : ∀ n ∈ p.1, okN n
  rngs : ∀ n ∈ p.1, rngN n
  few : ∀ n ∈ p.1, n.2.2.2.2.1.length ≤ 40
  root : rng p.2.1
  old : p.2.2.1.length ≤ 1000
  olds : ∀ r ∈ p.2.2.1, rng r
/-! ### References -/
/-- A reference, where new ones become others. -/
def refR (to : List Int) (r : Int) : Option Int := if 0 ≤ r then some r else if -1 - r < (to.length : Int) then some (to.getD (-1 - r).toNat 0) else none
def refD (to : List Int) (r : Int) : Int := (refR to r).getD 0
theorem make_some (a b : Int) : ∃ x y, ref_Make a b = some (x, (y, ())) := by
  rw [ref_Make.eq]
  simp only [ltI_d, br_if]
  split
  · exact ⟨_, _, rfl⟩
  split
  · exact ⟨_, _, rfl⟩
  split
  · exact ⟨_, _, rfl⟩
  split
  · exact ⟨_, _, rfl⟩
  exact ⟨_, _, rfl⟩
theorem which_any (r : Int) (h : rng r) : ref_Which r = some (if r < 0 then (-1 - r, (true, ())) else (0, (false, ()))) := by
  unfold rng at h
  rw [ref_Which.eq, ref_Kind.eq]
  obtain ⟨x, y, hm⟩ := make_some (remI r 1024) (quoI .i64 r 1024)
  rw [hm, bnd_some]
  have hn : notB (eqI 1024 0) = true := rfl
  rw [hn, br_t, br_t]
  simp only [ltI_d, eqI_d, notB_d, br_if]
  by_cases h0 : r = 0
  · rw [if_pos h0, bnd_some, if_pos (by omega), if_neg (by omega)]
  rw [if_neg h0]
  by_cases h1 : r < 0
  · rw [if_pos h1, bnd_some, if_neg (by omega), if_pos h1]
    have : subI .i64 (-1) r = -1 - r := subI_d (by omega) (by omega)
    rw [this]
  · rw [if_neg h1, if_neg h1]
    by_cases hy : y = 0
    · rw [if_neg (fun q => q hy), bnd_some, if_pos (by omega)]
    · rw [if_pos hy, bnd_some, if_pos (by omega)]
theorem planref_any (r : Int) (h : rng r) (to : List Int) : plan_Ref r to = some (refD to r, ((if (refR to r).isSome = true then 0 else 4), ())) := by
  rw [plan_Ref.eq, which_any r h, bnd_some]
  unfold refD refR
  by_cases h1 : r < 0
  · rw [if_pos h1, if_neg (by omega), show notB true = false from rfl, br_f]
    simp only [ltI_d, leI_d, ofN_d, lenL_d, andB_d, br_if]
    by_cases h2 : -1 - r < (to.length : Int)
    · rw [if_neg (by omega), if_pos (by omega), if_pos h2]
      have hi : -1 - r = ((-1 - r).toNat : Int) := by omega
      have hlt : (-1 - r).toNat < to.length := by omega
      have e : ixL (.int .i64) to (-1 - r) = to[(-1 - r).toNat] := by
        conv => lhs; rw [hi]
        exact ixR to _ hlt
      rw [e, List.getD_eq_getElem?_getD, List.getElem?_eq_getElem hlt]
      rfl
    · rw [if_pos (by omega), if_neg h2]
      rfl
  · rw [if_neg h1, if_pos (by omega), show notB false = true from rfl, br_t]
    rfl
/-! ### Nodes filled -/
def fillB (to : List Int) (n : NodeV) : Bool := (refR to n.2.2.2.2.2.1).isSome && n.2.2.2.2.1.all fun k => (refR to k).isSome
def fillS (to : List Int) (n : NodeV) : NodeV := if fillB to n = true then (n.1, (n.2.1, (n.2.2.1, (n.2.2.2.1, (n.2.2.2.2.1.map (refD to), (refD to n.2.2.2.2.2.1, n.2.2.2.2.2.2)))))) else zeroN
theorem take_all_succ {p : Int → Bool} (l : List Int) (i : Nat) (h : i < l.length) : (l.take (i + 1)).all p = ((l.take i).all p && p l[i]) := by
  rw [List.take_succ_eq_append_getElem h, List.all_append]
  simp
theorem fill_l0 (to : List Int) (n : NodeV) (hn : okN n) (hr : rngN n) (x5 x8 x9) (L : List PairV) (hL : L = n.2.2.2.2.2.2.1) (d : Nat) : ∀ (i : Nat), i ≤ n.2.2.2.2.1.length → n.2.2.2.2.1.length - i = d →
    plan_Fill_o.l0 (if ((refR to n.2.2.2.2.2.1).isSome && (n.2.2.2.2.1.take i).all fun k => (refR to k).isSome) = true then 0 else 4) n.2.2.2.2.1.length i to
      (n.1, (n.2.1, (n.2.2.1, (n.2.2.2.1, ((), (refD to n.2.2.2.2.2.1, ((), n.2.2.2.2.2.2.2))))))) x5 ((n.2.2.2.2.1.take i).map (refD to) ++ n.2.2.2.2.1.drop i) L x8 x9 =
    some ((fillS to n, ((if fillB to n = true then 0 else 4), ())), (to, ())) := by
  subst hL
  have hk := hn.kids
  induction d with
  | zero =>
    intro i hi hd
    have e : i = n.2.2.2.2.1.length := by omega
    subst e
    rw [plan_Fill_o.l0.eq]
    simp only [ltI_d, br_if]
    rw [if_neg (by omega), List.take_length, List.drop_length, List.append_nil]
    rw [show ((refR to n.2.2.2.2.2.1).isSome && n.2.2.2.2.1.all fun k => (refR to k).isSome) = fillB to n from rfl]
    unfold fillS
    by_cases hb : fillB to n = true
    · rw [if_pos hb, if_pos hb]
      rfl
    · rw [if_neg hb, if_neg hb]
      rfl
  | succ d ih =>
    intro i hi hd
    have hil : i < n.2.2.2.2.1.length := by omega
    have hpl : ((n.2.2.2.2.1.take i).map (refD to)).length = i := by rw [List.length_map, List.length_take]; omega
    have hlen : ((n.2.2.2.2.1.take i).map (refD to) ++ n.2.2.2.2.1.drop i).length = n.2.2.2.2.1.length := by rw [List.length_append, hpl, List.length_drop]; omega
    have hget : ixL (.int .i64) ((n.2.2.2.2.1.take i).map (refD to) ++ n.2.2.2.2.1.drop i) (i : Int) = n.2.2.2.2.1[i] := by
      rw [ixR _ i (by omega), List.getElem_append_right (by omega), List.getElem_drop]
      congr 1
      omega
    have hset : setL (.int .i64) ((n.2.2.2.2.1.take i).map (refD to) ++ n.2.2.2.2.1.drop i) (i : Int) (refD to n.2.2.2.2.1[i]) = (n.2.2.2.2.1.take (i + 1)).map (refD to) ++ n.2.2.2.2.1.drop (i + 1) := by
      unfold setL
      rw [Int.toNat_natCast, List.set_append_right _ _ (by omega), hpl, Nat.sub_self, List.drop_eq_getElem_cons hil, List.set_cons_zero, List.take_succ_eq_append_getElem hil, List.map_append, List.append_assoc]
      rfl
    rw [plan_Fill_o.l0.eq, hget, planref_any _ (hr.1 _ (List.getElem_mem hil)) to, bnd_some, hset]
    have ih := ih (i + 1) (by omega) (by omega)
    rw [take_all_succ _ i hil] at ih
    simp only [ltI_d, leI_d, eqI_d, notB_d, ofN_d, lenL_d, andB_d, br_if]
    rw [if_pos (by omega), if_pos (by omega), add1 i (by omega)]
    cases hs : (refR to n.2.2.2.2.1[i]).isSome with
    | true =>
      rw [hs, Bool.and_true] at ih
      rw [if_pos rfl, if_neg (fun q => q rfl), if_pos (by omega)]
      exact ih
    | false =>
      rw [hs, Bool.and_false, Bool.and_false, if_neg (by simp)] at ih
      rw [if_neg (show ¬ (false = true) by simp), if_pos (show ¬ (4 : Int) = 0 by omega), if_pos (by omega)]
      exact ih
theorem fill_any (to : List Int) (n : NodeV) (hn : okN n) (hr : rngN n) : plan_Fill_o n to = some ((fillS to n, ((if fillB to n = true then 0 else 4), ())), (to, ())) := by
  rw [plan_Fill_o.eq, copy_any n hn, bnd_some, planref_any _ hr.2 to, bnd_some]
  have := fill_l0 to n hn hr (0, (ByteArray.empty, (ByteArray.empty, (0, ((), (0, ((), (0, (0, ()))))))))) [] [] _ rfl n.2.2.2.2.1.length 0 (by omega) (by omega)
  rw [List.take_zero, List.all_nil, Bool.and_true] at this
  exact this
/-! ### The same heaps -/
def small (n : NodeV) : Prop := n.2.2.2.2.1.length ≤ 1000000 ∧ n.2.2.2.2.2.2.1.length ≤ 1000000
theorem okN.small {n : NodeV} (h : okN n) : small n := ⟨by have := h.kids; omega, by have := h.list; omega⟩
theorem fillS_small {to : List Int} {n : NodeV} (h : small n) : small (fillS to n) := by
  unfold fillS
  split
  · exact ⟨by show (List.map _ _).length ≤ _; rw [List.length_map]; exact h.1, h.2⟩
  · exact ⟨by show 0 ≤ _; omega, by show 0 ≤ _; omega⟩
end Go.Proofs.YtmopkbmcilolgaaGreat.AI
set_option linter.unusedVariables false
set_option linter.unusedSimpArgs false
namespace Go.Proofs.YtmopkbmcilolgaaGreat.AI
open Go.Abs
/-! ### Whether a plan may be -/
theorem ahead_any (r : Int) (h : rng r) (i : Nat) (hi : i ≤ 1000000) : plan_ahead r i = some (decide (-(i : Int) ≤ r)) := by
  unfold rng at h
  rw [plan_ahead.eq, which_any r h, bnd_some]
  by_cases h1 : r < 0
  · rw [if_pos h1, show notB true = false from rfl, br_f, ltI_d]
    exact some_bool (decide_eq_decide.2 (by omega))
  · rw [if_neg h1, show notB false = true from rfl, br_t]
    exact some_bool (decide_eq_true (by omega)).symm
theorem any_drop {p : Int → Bool} (l : List Int) (i : Nat) (h : i < l.length) : (l.drop i).any p = (p l[i] || (l.drop (i + 1)).any p) := by
  rw [List.drop_eq_getElem_cons h, List.any_cons]
theorem index0 (l : List Int) (hl : l.length ≤ 1000000) (hr : ∀ r ∈ l, rng r) (b : Nat) (hb : b ≤ 1000000) (d : Nat) : ∀ (i : Nat), i ≤ l.length → l.length - i = d → ∃ x : Int, slices_IndexFuncapi_Ref_api_Ref.l0 l ((), ()) l.length i b = some (x, ((b : Int), ())) ∧ (0 ≤ x ↔ (l.drop i).any (fun r => !decide (-(b : Int) ≤ r)) = true) := by
  induction d with
  | zero =>
    intro i hi hd
    rw [slices_IndexFuncapi_Ref_api_Ref.l0.eq]
    simp only [ltI_d, br_if]
    rw [if_neg (by omega), List.drop_eq_nil_of_le (by omega)]
    exact ⟨-1, rfl, by simp⟩
  | succ d ih =>
    intro i hi hd
    have hil : i < l.length := by omega
    rw [slices_IndexFuncapi_Ref_api_Ref.l0.eq, ixR l i hil, plan_May_1.eq, ahead_any _ (hr _ (List.getElem_mem hil)) b hb, bnd_some, bnd_some]
    simp only [ltI_d, leI_d, notB_d, ofN_d, lenL_d, andB_d, br_if]
    rw [if_pos (by omega), if_pos (by omega), add1 i (by omega), any_drop l i hil]
    by_cases h1 : -(b : Int) ≤ l[i]
    · rw [if_neg (fun q => q h1), decide_eq_true h1, Bool.not_true, Bool.false_or]
      exact ih (i + 1) (by omega) (by omega)
    · rw [if_pos h1, decide_eq_false h1, Bool.not_false, Bool.true_or]
      exact ⟨i, rfl, fun _ => rfl, fun _ => by omega⟩
theorem contains0 (l : List Int) (hl : l.length ≤ 1000000) (hr : ∀ r ∈ l, rng r) (b : Nat) (hb : b ≤ 1000000) : slices_ContainsFuncapi_Ref_api_Ref l ((), ()) b = some (l.any (fun r => !decide (-(b : Int) ≤ r)), ((b : Int), ())) := by
  obtain ⟨x, h1, h2⟩ := index0 l hl hr b hb l.length 0 (by omega) (by omega)
  rw [slices_ContainsFuncapi_Ref_api_Ref.eq, slices_IndexFuncapi_Ref_api_Ref.eq]
  have h1 : slices_IndexFuncapi_Ref_api_Ref.l0 l ((), ()) (ofN (lenL (.int .i64) l)) 0 b = some (x, ((b : Int), ())) := h1
  rw [h1, bnd_some, leI_d]
  rw [List.drop_zero] at h2
  have : decide ((0 : Int) ≤ x) = l.any (fun r => !decide (-(b : Int) ≤ r)) := by rw [Bool.eq_iff_iff, decide_eq_true_iff]; exact h2
  rw [this]
theorem index1 (l : List Int) (hl : l.length ≤ 1000000) (d : Nat) : ∀ (i : Nat), i ≤ l.length → l.length - i = d → ∃ x : Int, slices_IndexFuncapi_Ref_api_Ref_v1.l0 l l.length i = some x ∧ (0 ≤ x ↔ (l.drop i).any (fun r => decide (r ≤ 0)) = true) := by
  induction d with
  | zero =>
    intro i hi hd
    rw [slices_IndexFuncapi_Ref_api_Ref_v1.l0.eq]
    simp only [ltI_d, br_if]
    rw [if_neg (by omega), List.drop_eq_nil_of_le (by omega)]
    exact ⟨-1, rfl, by simp⟩
  | succ d ih =>
    intro i hi hd
    have hil : i < l.length := by omega
    rw [slices_IndexFuncapi_Ref_api_Ref_v1.l0.eq, ixR l i hil, plan_May_2.eq, bnd_some]
    simp only [ltI_d, leI_d, notB_d, ofN_d, lenL_d, andB_d, br_if]
    rw [if_pos (by omega), if_pos (by omega), add1 i (by omega), any_drop l i hil]
    by_cases h1 : l[i] ≤ 0
    · rw [if_pos h1, decide_eq_true h1, Bool.true_or]
      exact ⟨i, rfl, fun _ => rfl, fun _ => by omega⟩
    · rw [if_neg h1, decide_eq_false h1, Bool.false_or]
      exact ih (i + 1) (by omega) (by omega)
theorem contains1 (l : List Int) (hl : l.length ≤ 1000000) : slices_ContainsFuncapi_Ref_api_Ref_v1 l = some (l.any (fun r => decide (r ≤ 0))) := by
  obtain ⟨x, h1, h2⟩ := index1 l hl l.length 0 (by omega) (by omega)
  rw [slices_ContainsFuncapi_Ref_api_Ref_v1.eq, slices_IndexFuncapi_Ref_api_Ref_v1.eq]
  have h1 : slices_IndexFuncapi_Ref_api_Ref_v1.l0 l (ofN (lenL (.int .i64) l)) 0 = some x := h1
  rw [h1, bnd_some, leI_d]
  rw [List.drop_zero] at h2
  exact some_bool (by rw [Bool.eq_iff_iff, decide_eq_true_iff]; exact h2)
theorem index2 (h : List NodeV) (l : List Int) (hl : l.length ≤ 1000000) (d : Nat) : ∀ (i : Nat), i ≤ l.length → l.length - i = d → ∃ x : Int, slices_IndexFuncapi_Ref_api_Ref_v2.l0 l ((), ()) l.length i h = some (x, (h, ())) ∧ (0 ≤ x ↔ (l.drop i).any (fun r => !decide (r ≤ (h.length : Int))) = true) := by
  induction d with
  | zero =>
    intro i hi hd
    rw [slices_IndexFuncapi_Ref_api_Ref_v2.l0.eq]
    simp only [ltI_d, br_if]
    rw [if_neg (by omega), List.drop_eq_nil_of_le (by omega)]
    exact ⟨-1, rfl, by simp⟩
  | succ d ih =>
    intro i hi hd
    have hil : i < l.length := by omega
    rw [slices_IndexFuncapi_Ref_api_Ref_v2.l0.eq, ixR l i hil, plan_fits_1.eq, plan_has.eq, bnd_some, bnd_some]
    simp only [ltI_d, leI_d, notB_d, ofN_d, lenL_d, andB_d, br_if]
    rw [if_pos (by omega), if_pos (by omega), add1 i (by omega), any_drop l i hil]
    by_cases h1 : l[i] ≤ (h.length : Int)
    · rw [if_neg (fun q => q h1), decide_eq_true h1, Bool.not_true, Bool.false_or]
      exact ih (i + 1) (by omega) (by omega)
    · rw [if_pos h1, decide_eq_false h1, Bool.not_false, Bool.true_or]
      exact ⟨i, rfl, fun _ => rfl, fun _ => by omega⟩
theorem contains2 (h : List NodeV) (l : List Int) (hl : l.length ≤ 1000000) : slices_ContainsFuncapi_Ref_api_Ref_v2 l ((), ()) h = some (l.any (fun r => !decide (r ≤ (h.length : Int))), (h, ())) := by
  obtain ⟨x, h1, h2⟩ := index2 h l hl l.length 0 (by omega) (by omega)
  rw [slices_ContainsFuncapi_Ref_api_Ref_v2.eq, slices_IndexFuncapi_Ref_api_Ref_v2.eq]
  have h1 : slices_IndexFuncapi_Ref_api_Ref_v2.l0 l ((), ()) (ofN (lenL (.int .i64) l)) 0 h = some (x, (h, ())) := h1
  rw [h1, bnd_some, leI_d]
  rw [List.drop_zero] at h2
  have : decide ((0 : Int) ≤ x) = l.any (fun r => !decide (r ≤ (h.length : Int))) := by rw [Bool.eq_iff_iff, decide_eq_true_iff]; exact h2
  rw [this]
def mayPL : Nat → List NodeV → Bool
  | _, [] => true
  | i, n :: l => (decide (mayS n = 0) && (refsS n).all fun r => decide (-(i : Int) ≤ r)) && mayPL (i + 1) l
def mayP (p : PlanV) : Bool := mayPL 0 p.1 && (p.2.2.1.all (fun r => decide (1 ≤ r)) && decide (-(p.1.length : Int) ≤ p.2.1))
theorem any_not_all (l : List Int) (p : Int → Bool) : l.any (fun r => !p r) = !l.all p := by
  induction l with
  | nil => rfl
  | cons a l ih => rw [List.any_cons, List.all_cons, ih, Bool.not_and]
theorem mayp_loop (p : PlanV) (h : okPl p) (d : Nat) : ∀ (i : Nat), i ≤ p.1.length → p.1.length - i = d → plan_May.l0 p.1 p.1.length i p = some (if (mayPL i (p.1.drop i) && (p.2.2.1.all (fun r => decide (1 ≤ r)) && decide (-(p.1.length : Int) ≤ p.2.1))) = true then 0 else 4) := by
  have hl := h.len
  have hold := h.old
  induction d with
  | zero =>
    intro i hi hd
    rw [plan_May.l0.eq]
    simp only [ltI_d, ofN_d, lenL_d, br_if]
    rw [if_neg (by omega), ahead_any _ h.root _ (by omega), bnd_some, contains1 _ (by omega), bnd_some, List.drop_eq_nil_of_le (by omega), notB_d, br_if, br_b]
    rw [show mayPL i [] = true from rfl, Bool.true_and]
    have e : p.2.2.1.any (fun r => decide (r ≤ 0)) = !p.2.2.1.all (fun r => decide (1 ≤ r)) := by
      rw [← any_not_all]
      congr 1
      funext r
      rw [Bool.eq_iff_iff, Bool.not_eq_true', decide_eq_true_iff, decide_eq_false_iff_not]
      omega
    rw [e]
    by_cases h1 : -(p.1.length : Int) ≤ p.2.1
    · rw [if_neg (fun q => q h1), decide_eq_true h1, Bool.and_true]
      cases p.2.2.1.all (fun r => decide (1 ≤ r)) <;> rfl
    · rw [if_pos h1, decide_eq_false h1, Bool.and_false, if_neg (by simp)]
  | succ d ih =>
    intro i hi hd
    have hil : i < p.1.length := by omega
    have hm := List.getElem_mem hil
    have o := h.node _ hm
    have hrl := refsS_len p.1[i]
    have hkl := h.few _ hm
    rw [plan_May.l0.eq, ixN p.1 i hil, may_any _ o, bnd_some, refs_any _ o, bnd_some, contains0 _ (by omega) (refs_rng (h.rngs _ hm)) i (by omega), bnd_some]
    simp only [ltI_d, leI_d, eqI_d, notB_d, ofN_d, lenL_d, andB_d, br_if]
    simp only [br_b]
    rw [if_pos (by omega), if_pos (by omega), add1 i (by omega), ih (i + 1) (by omega) (by omega), List.drop_eq_getElem_cons hil, any_not_all]
    rw [show mayPL i (p.1[i] :: p.1.drop (i + 1)) = ((decide (mayS p.1[i] = 0) && (refsS p.1[i]).all fun r => decide (-(i : Int) ≤ r)) && mayPL (i + 1) (p.1.drop (i + 1))) from rfl]
    by_cases hz : mayS p.1[i] = 0
    · rw [if_neg (fun q => q hz), decide_eq_true hz, Bool.true_and]
      cases (refsS p.1[i]).all fun r => decide (-(i : Int) ≤ r) with
      | true => rw [if_neg (by simp), Bool.true_and]
      | false => rw [if_pos (show (!false) = true from rfl), Bool.false_and, Bool.false_and, if_neg (by simp)]
    · rw [if_pos hz, decide_eq_false hz, Bool.false_and, Bool.false_and, Bool.false_and, if_neg (by simp)]
theorem mayp_any (p : PlanV) (h : okPl p) : plan_May p = some (if mayP p = true then 0 else 4) := by
  rw [plan_May.eq]
  exact mayp_loop p h p.1.length 0 (by omega) (by omega)
/-! ### Whether a heap has what a plan refers to -/
def refsL (l : List NodeV) : List Int := l.flatMap refsS
def fitsL (h : List NodeV) (l : List Int) : Bool := l.all fun r => decide (r ≤ (h.length : Int))
def fitsP (h : List NodeV) (p : PlanV) : Bool := fitsL h ((p.2.2.1 ++ [p.2.1]) ++ refsL p.1)
theorem refsL_len : ∀ (l : List NodeV), (∀ n ∈ l, n.2.2.2.2.1.length ≤ 40) → (refsL l).length ≤ 41 * l.length
  | [], _ => by simp [refsL]
  | n :: l, h => by
    have := refsL_len l (fun m hm => h m (by simp [hm]))
    have h1 := refsS_len n
    have h2 := h n (by simp)
    unfold refsL at this ⊢
    rw [List.flatMap_cons, List.length_append, List.length_cons]
    omega
theorem fits_loop (h : List NodeV) (ns : List NodeV) (hn : ns.length ≤ 1000) (ho : ∀ n ∈ ns, okN n) (hf : ∀ n ∈ ns, n.2.2.2.2.1.length ≤ 40) (d : Nat) : ∀ (i : Nat) (acc : List Int), acc.length ≤ 2000 + 41 * i → i ≤ ns.length → ns.length - i = d →
    plan_fits.l0 ns ns.length i h acc = some (fitsL h (acc ++ refsL (ns.drop i))) := by
  induction d with
  | zero =>
    intro i acc ha hi hd
    rw [plan_fits.l0.eq]
    simp only [ltI_d, br_if]
    rw [if_neg (by omega), contains2 h acc (by omega), bnd_some, any_not_all, List.drop_eq_nil_of_le (by omega)]
    rw [show refsL [] = [] from rfl, List.append_nil]
    unfold fitsL
    cases acc.all fun r => decide (r ≤ (h.length : Int)) <;> rfl
  | succ d ih =>
    intro i acc ha hi hd
    have hil : i < ns.length := by omega
    have o := ho _ (List.getElem_mem hil)
    have hrl := refsS_len ns[i]
    have hkl := hf _ (List.getElem_mem hil)
    have hal : (acc ++ refsS ns[i]).length ≤ 2000 + 41 * (i + 1) := by rw [List.length_append]; omega
    rw [plan_fits.l0.eq, ixN ns i hil, refs_any _ o, bnd_some]
    simp only [ltI_d, leI_d, ofN_d, lenL_d, andB_d, br_if, fitL_d, appL_d]
    rw [if_pos (by omega), if_pos (by omega), if_pos (by omega), add1 i (by omega), ih (i + 1) _ hal (by omega) (by omega), List.drop_eq_getElem_cons hil]
    unfold refsL
    rw [List.flatMap_cons, List.append_assoc]
theorem pfits_any (h : List NodeV) (p : PlanV) (hp : okPl p) : plan_fits h p = some (fitsP h p) := by
  have hold := hp.old
  have hal : (p.2.2.1 ++ [p.2.1]).length ≤ 2000 := by rw [List.length_append]; show _ + 1 ≤ _; omega
  rw [plan_fits.eq, both_self, cloneR_any _ (by omega), bnd_some]
  simp only [fitL_d, appL_d, br_if]
  rw [if_pos (by omega)]
  exact fits_loop h p.1 hp.len hp.node hp.few p.1.length 0 _ (by omega) (by omega) (by omega)
/-! ### A plan done -/
def doL (out : List NodeV) (to : List Int) : List NodeV → List NodeV × List Int
  | [] => (out, to)
  | n :: l => doL (out ++ [fillS to n]) (to ++ [((out.length + 1 : Nat) : Int)]) l
theorem doL_to : ∀ (l out : List NodeV) (to : List Int), (doL out to l).2.length = to.length + l.length
  | [], _, _ => rfl
  | n :: l, out, to => by
    unfold doL
    rw [doL_to l]
    simp only [List.length_append, List.length_cons, List.length_nil]
    omega
theorem doL_out : ∀ (l out : List NodeV) (to : List Int), ∃ r, (doL out to l).1 = out ++ r ∧ r.length = l.length ∧ ((∀ n ∈ l, small n) → ∀ n ∈ r, small n)
  | [], out, _ => ⟨[], (List.append_nil out).symm, rfl, fun _ n hn => by cases hn⟩
  | n :: l, out, to => by
    obtain ⟨r, h1, h2, h3⟩ := doL_out l (out ++ [fillS to n]) (to ++ [((out.length + 1 : Nat) : Int)])
    refine ⟨fillS to n :: r, ?_, by rw [List.length_cons, List.length_cons, h2], fun hs m hm => ?_⟩
    · unfold doL
      rw [h1, List.append_assoc]
      rfl
    · rcases List.mem_cons.1 hm with rfl | hm
      · exact fillS_small (hs n (by simp))
      · exact h3 (fun a ha => hs a (by simp [ha])) m hm
theorem do_l1 (p : PlanV) (hp : okPl p) (d : Nat) : ∀ (i : Nat) (out : List NodeV) (to : List Int), out.length ≤ 40000000 + i → to.length = i → i ≤ p.1.length → p.1.length - i = d →
    plan_Do.l1 p.1 p.1.length i p out to = some ((doL out to (p.1.drop i)).1, (refD (doL out to (p.1.drop i)).2 p.2.1, ((if (refR (doL out to (p.1.drop i)).2 p.2.1).isSome = true then 0 else 4), ()))) := by
  have hl := hp.len
  induction d with
  | zero =>
    intro i out to h1 h2 hi hd
    rw [plan_Do.l1.eq]
    simp only [ltI_d, br_if]
    rw [if_neg (by omega), planref_any _ hp.root to, bnd_some, List.drop_eq_nil_of_le (by omega)]
    rfl
  | succ d ih =>
    intro i out to h1 h2 hi hd
    have hil : i < p.1.length := by omega
    have hm := List.getElem_mem hil
    have o1 : (out ++ [fillS to p.1[i]]).length = out.length + 1 := by rw [List.length_append]; rfl
    have o2 : (to ++ [((out.length + 1 : Nat) : Int)]).length = to.length + 1 := by rw [List.length_append]; rfl
    rw [plan_Do.l1.eq, ixN p.1 i hil, fill_any to _ (hp.node _ hm) (hp.rngs _ hm), bnd_some]
    simp only [ltI_d, leI_d, ofN_d, lenL_d, andB_d, br_if, fitL_d, appL_d]
    rw [o1, o2, if_pos (by omega), if_pos (by omega), if_pos (by omega), if_pos (by omega), add1 i (by omega), ih (i + 1) _ _ (by omega) (by omega) (by omega) (by omega), List.drop_eq_getElem_cons hil]
    rfl
theorem do_l0 (h : List NodeV) (hh : okH h) (p : PlanV) (hp : okPl p) (d : Nat) : ∀ (i : Nat), i ≤ h.length → h.length - i = d →
    plan_Do.l0 h h.length i p (h.take i) = plan_Do.l1 p.1 p.1.length 0 p h [] := by
  have hl := hh.len
  induction d with
  | zero =>
    intro i hi hd
    rw [plan_Do.l0.eq]
    simp only [ltI_d, br_if]
    rw [if_neg (by omega), List.take_of_length_le (by omega)]
    rfl
  | succ d ih =>
    intro i hi hd
    have hil : i < h.length := by omega
    rw [plan_Do.l0.eq, ixN h i hil, copy_any _ (hh.node _ (List.getElem_mem hil)), bnd_some]
    simp only [ltI_d, leI_d, ofN_d, lenL_d, andB_d, br_if, fitL_d, appL_d]
    have e : h.take i ++ [h[i]] = h.take (i + 1) := by rw [List.take_succ_eq_append_getElem hil]
    have e' : h.take i ++ [((h[i].1, (h[i].2.1, (h[i].2.2.1, (h[i].2.2.2.1, (h[i].2.2.2.2.1, (h[i].2.2.2.2.2.1, (h[i].2.2.2.2.2.2.1, h[i].2.2.2.2.2.2.2))))))) : NodeV)] = h.take (i + 1) := e
    rw [if_pos (by omega), if_pos (by omega), e', if_pos (by rw [List.length_take]; omega), add1 i (by omega)]
    exact ih (i + 1) (by omega) (by omega)
def doS (h : List NodeV) (p : PlanV) : List NodeV × List Int := doL h [] p.1
theorem root_in {p : PlanV} (h : mayP p = true) (out : List NodeV) : (refR (doL out [] p.1).2 p.2.1).isSome = true := by
  have hlen := doL_to p.1 out []
  unfold mayP at h
  simp only [Bool.and_eq_true, decide_eq_true_eq] at h
  have h3 := h.2.2
  unfold refR
  by_cases h1 : 0 ≤ p.2.1
  · rw [if_pos h1]; rfl
  · have : -1 - p.2.1 < (((doL out [] p.1).2.length : Nat) : Int) := by
      rw [hlen]
      show _ < ((([] : List Int).length + p.1.length : Nat) : Int)
      simp only [List.length_nil]
      omega
    rw [if_neg h1, if_pos this]
    rfl
theorem do_any (h : List NodeV) (hh : okH h) (p : PlanV) (hp : okPl p) : plan_Do h p = some (if (mayP p && (mayH h && fitsP h p)) = true then ((doS h p).1, (refD (doS h p).2 p.2.1, (0, ()))) else ([], (0, (4, ())))) := by
  rw [plan_Do.eq, mayp_any p hp, bnd_some, mayh_any h hh, bnd_some, pfits_any h p hp, bnd_some]
  simp only [eqI_d, notB_d, br_if]
  cases h1 : mayP p with
  | false => rw [if_neg (show ¬ (false = true) by simp), if_pos (show ¬ (4 : Int) = 0 by omega), Bool.false_and, if_neg (show ¬ (false = true) by simp)]
  | true =>
    rw [if_pos rfl, if_neg (by omega), Bool.true_and]
    cases h2 : mayH h with
    | false => rw [if_neg (show ¬ (false = true) by simp), if_pos (show ¬ (4 : Int) = 0 by omega), Bool.false_and, if_neg (show ¬ (false = true) by simp)]
    | true =>
      rw [if_pos rfl, if_neg (by omega), Bool.true_and]
      cases h3 : fitsP h p with
      | false => rw [show notB false = true from rfl, br_t, if_neg (by simp)]
      | true =>
        rw [show notB true = false from rfl, br_f, if_pos rfl]
        have e0 := do_l0 h hh p hp h.length 0 (by omega) (by omega)
        have e1 := do_l1 p hp p.1.length 0 h [] (by have := hh.len; omega) rfl (by omega) (by omega)
        rw [show ((0 : Nat) : Int) = 0 from rfl] at e0 e1
        rw [List.take_zero] at e0
        show plan_Do.l0 h ((h.length : Nat) : Int) 0 p [] = _
        rw [e0]
        refine e1.trans ?_
        rw [List.drop_zero, if_pos (root_in h1 h)]
        rfl
end Go.Proofs.YtmopkbmcilolgaaGreat.AI
set_option linter.unusedVariables false
set_option linter.unusedSimpArgs false
namespace Go.Proofs.YtmopkbmcilolgaaGreat.AI
open Go.Abs
/-- A reference, where new nodes stand behind so many. -/
def fillQ (n : Nat) (r : Int) : Int := if 0 ≤ r then r else (n : Int) - r
def fillNd (n : Nat) (x : NodeV) : NodeV := (x.1, (x.2.1, (x.2.2.1, (x.2.2.2.1, (x.2.2.2.2.1.map (fillQ n), (fillQ n x.2.2.2.2.2.1, x.2.2.2.2.2.2))))))
/-- A heap behind a plan's new nodes. -/
def PS (h news : List NodeV) : List NodeV := h ++ news.map (fillNd h.length)
theorem fillQ_zero (n : Nat) (r : Int) : fillQ n r = 0 ↔ r = 0 := by unfold fillQ; split <;> omega
theorem fillQ_pos (n : Nat) {r : Int} (h : 0 ≤ r) : fillQ n r = r := if_pos h
theorem fillQ_neg (n : Nat) {r : Int} (h : r < 0) : fillQ n r = (n : Int) - r := if_neg (by omega)
theorem fillQ_0 (n : Nat) : fillQ n 0 = 0 := if_pos (Int.le_refl _)
theorem zero_mem_fill (n : Nat) (l : List Int) : (0 : Int) ∈ l.map (fillQ n) ↔ (0 : Int) ∈ l := by
  rw [List.mem_map]
  constructor
  · rintro ⟨a, ha, e⟩
    rw [fillQ_zero] at e
    exact e ▸ ha
  · intro h; exact ⟨0, h, fillQ_0 n⟩
theorem formP_fill (n : Nat) (x : NodeV) : formP (fillNd n x) ↔ formP x := by
  unfold formP bareP fillNd
  simp only [List.length_map, List.map_eq_nil_iff, fillQ_zero, zero_mem_fill, ne_eq]
theorem mayS_fill (n : Nat) (x : NodeV) : mayS (fillNd n x) = mayS x := by
  unfold mayS
  rw [show longN (fillNd n x) = longN x from rfl, show (fillNd n x).1 = x.1 from rfl]
  by_cases h : formP x
  · rw [if_pos h, if_pos ((formP_fill n x).2 h)]
  · rw [if_neg h, if_neg (fun q => h ((formP_fill n x).1 q))]
theorem allK_fill (n : Nat) (x : NodeV) : allK (fillNd n x) = (allK x).map (fillQ n) := by
  unfold allK fillNd
  rw [List.map_append]
  rfl
theorem stripV_fill (n : Nat) (x : NodeV) : stripV (fillNd n x) = stripV x := rfl
theorem okN_fill (n : Nat) {x : NodeV} (h : okN x) : okN (fillNd n x) := ⟨h.key, h.val, h.map0, h.map1, by show (x.2.2.2.2.1.map (fillQ n)).length ≤ _; rw [List.length_map]; exact h.kids, h.list, h.binds⟩
theorem PS_len (h news : List NodeV) : (PS h news).length = h.length + news.length := by unfold PS; rw [List.length_append, List.length_map]
theorem PS_nil (h : List NodeV) : PS h [] = h := by unfold PS; simp
theorem PS_add (h news : List NodeV) (n : NodeV) : PS h (news ++ [n]) = PS h news ++ [fillNd h.length n] := by unfold PS; rw [List.map_append, List.append_assoc]; rfl
structure PlanOK (h news : List NodeV) : Prop where
  may : mayH (PS h news) = true
  node : ∀ n ∈ news, okN n ∧ n.2.2.2.2.1.length ≤ 40
  ref : ∀ (i : Nat) (hi : i < news.length), mayS news[i] = 0 ∧ ∀ r ∈ allK news[i], -(i : Int) ≤ r ∧ r ≤ h.length
theorem PlanOK.nil {h : List NodeV} (hm : mayH h = true) : PlanOK h [] := ⟨by rw [PS_nil]; exact hm, fun n hn => (by cases hn), fun i hi => (by cases hi)⟩
theorem fill_in {h news : List NodeV} {r : Int} (lo : -(news.length : Int) ≤ r) (hi : r ≤ h.length) : 0 ≤ fillQ h.length r ∧ fillQ h.length r ≤ (PS h news).length := by
  rw [PS_len]
  unfold fillQ
  split <;> omega
theorem PlanOK.add {h news : List NodeV} (P : PlanOK h news) {n : NodeV} (ho : okN n) (hk : n.2.2.2.2.1.length ≤ 40) (hm : mayS n = 0) (hr : ∀ r ∈ allK n, -(news.length : Int) ≤ r ∧ r ≤ h.length) : PlanOK h (news ++ [n]) := by
  refine ⟨?_, ?_, ?_⟩
  · rw [PS_add]
    refine may_more P.may (by rw [mayS_fill]; exact hm) fun r hr' => ?_
    rw [refsS_all, allK_fill] at hr'
    obtain ⟨h1, h2⟩ := List.mem_filter.1 hr'
    obtain ⟨a, ha, rfl⟩ := List.mem_map.1 h1
    have := hr a ha
    have := fill_in (h := h) (news := news) this.1 this.2
    simp only [decide_eq_true_eq] at h2
    exact ⟨by omega, this.2⟩
  · intro m hm'
    rcases List.mem_append.1 hm' with hm' | hm'
    · exact P.node m hm'
    · rw [List.mem_singleton.1 hm']; exact ⟨ho, hk⟩
  · intro i hi
    rw [List.length_append] at hi
    simp only [List.length_cons, List.length_nil] at hi
    by_cases q : i < news.length
    · rw [List.getElem_append_left q]; exact P.ref i q
    · have : i = news.length := by omega
      subst this
      rw [List.getElem_append_right (Nat.le_refl _)]
      simp only [Nat.sub_self, List.getElem_cons_zero]
      exact ⟨hm, hr⟩
/-- What is below a reference of a plan. -/
structure Has (h news : List NodeV) (r : Int) (s : Shp) : Prop where
  lo : -(news.length : Int) ≤ r
  hi : r ≤ h.length
  shp : U (PS h news) (fillQ h.length r) = s
theorem Has.more {h news : List NodeV} {r : Int} {s : Shp} (P : PlanOK h news) (H : Has h news r s) (n : NodeV) : Has h (news ++ [n]) r s := by
  have := fill_in H.lo H.hi
  refine ⟨by have := H.lo; rw [List.length_append]; simp only [List.length_cons, List.length_nil]; omega, H.hi, ?_⟩
  rw [PS_add, U_app P.may this.1 this.2]
  exact H.shp
theorem Has.heap {h news : List NodeV} {r : Int} (hm : mayH h = true) (h0 : 0 ≤ r) (h1 : r ≤ h.length) : Has h news r (U h r) := by
  refine ⟨by omega, h1, ?_⟩
  rw [fillQ_pos _ h0]
  exact U_app hm h0 h1
theorem Has.zero {h news : List NodeV} : Has h news 0 .nil := ⟨by omega, by omega, by rw [fillQ_0, U_zero]⟩
theorem Has.new {h news : List NodeV} {n : NodeV} (P : PlanOK h news) (P' : PlanOK h (news ++ [n])) : Has h (news ++ [n]) (-(news.length : Int) - 1) (.node (stripV n) ((allK n).map fun r => U (PS h news) (fillQ h.length r))) := by
  refine ⟨by rw [List.length_append]; simp only [List.length_cons, List.length_nil]; omega, by omega, ?_⟩
  have hp := PS_len h news
  have e : fillQ h.length (-(news.length : Int) - 1) = ((PS h news).length : Int) + 1 := by rw [fillQ_neg _ (by omega), hp]; omega
  have hm := P'.may
  rw [PS_add] at hm
  rw [e, PS_add, U_node hm (by omega) (by rw [List.length_append]; simp only [List.length_cons, List.length_nil]; omega), getN_last, stripV_fill, allK_fill, List.map_map]
  congr 1
  refine List.map_congr_left fun r hr => ?_
  have hi : news.length < (news ++ [n]).length := by rw [List.length_append]; simp
  have := (P'.ref news.length hi).2 r (by rw [List.getElem_append_right (Nat.le_refl _)]; simpa using hr)
  have := fill_in (h := h) (news := news) this.1 this.2
  exact U_app P.may this.1 this.2
theorem Has.tree {h news : List NodeV} (P : PlanOK h news) {p : PairV} (hp : okT p) {a b : Int} {s t : Shp} (A : Has h news a s) (B : Has h news b t) {n : Nat} (hn : 1 ≤ n) :
    PlanOK h (news ++ [treeN p a b n]) ∧ Has h (news ++ [treeN p a b n]) (-(news.length : Int) - 1) (.node (stripV (treeN p 0 0 n)) [s, t, .nil]) := by
  have hk : ∀ r ∈ allK (treeN p a b n), -(news.length : Int) ≤ r ∧ r ≤ h.length := fun r hr => by
    have hr : r ∈ [a, b, 0] := hr
    rcases List.mem_cons.1 hr with rfl | hr
    · exact ⟨A.lo, A.hi⟩
    rcases List.mem_cons.1 hr with rfl | hr
    · exact ⟨B.lo, B.hi⟩
    · rw [List.mem_singleton.1 hr]; omega
  have P' := P.add (treeN_ok hp.ok a b n) (by show 2 ≤ 40; omega) (treeN_may hp a b n hn) hk
  refine ⟨P', ?_⟩
  have H := Has.new P P'
  have e : ((allK (treeN p a b n)).map fun r => U (PS h news) (fillQ h.length r)) = [s, t, .nil] := by
    show [U _ (fillQ _ a), U _ (fillQ _ b), U _ (fillQ _ 0)] = _
    rw [A.shp, B.shp, fillQ_0, U_zero]
  rw [e] at H
  exact H
theorem PlanOK.okH {h news : List NodeV} (P : PlanOK h news) (ho : okH h) (hl : h.length + news.length ≤ 40000000) : okH (PS h news) := by
  refine ⟨by rw [PS_len]; exact hl, fun n hn => ?_, kids_rng P.may (by rw [PS_len]; omega)⟩
  rcases List.mem_append.1 hn with hn | hn
  · exact ho.node n hn
  · obtain ⟨m, hm, rfl⟩ := List.mem_map.1 hn
    exact okN_fill _ (P.node m hm).1
/-! ### A plan done -/
def toL (n k : Nat) : List Int := (List.range k).map fun i => ((n + 1 + i : Nat) : Int)
theorem toL_len (n k : Nat) : (toL n k).length = k := by unfold toL; simp
theorem toL_succ (n k : Nat) : toL n (k + 1) = toL n k ++ [((n + k + 1 : Nat) : Int)] := by
  unfold toL
  rw [List.range_succ, List.map_append, List.map_cons, List.map_nil, show n + 1 + k = n + k + 1 by omega]
theorem refR_fill (n k : Nat) {r : Int} (h : -(k : Int) ≤ r) : refR (toL n k) r = some (fillQ n r) := by
  unfold refR fillQ
  by_cases h0 : 0 ≤ r
  · rw [if_pos h0, if_pos h0]
  · rw [if_neg h0, if_neg h0, toL_len, if_pos (by omega)]
    have hlt : (-1 - r).toNat < k := by omega
    have e : (toL n k).getD (-1 - r).toNat 0 = ((n + 1 + (-1 - r).toNat : Nat) : Int) := by
      unfold toL
      rw [List.getD_eq_getElem?_getD, List.getElem?_map, List.getElem?_range hlt]
      rfl
    rw [e]
    exact congrArg some (by omega)
theorem fillS_fill (n k : Nat) {x : NodeV} (hr : ∀ r ∈ allK x, -(k : Int) ≤ r) : fillS (toL n k) x = fillNd n x := by
  have hmain := hr x.2.2.2.2.2.1 (List.mem_append_right _ List.mem_cons_self)
  have hkid : ∀ r ∈ x.2.2.2.2.1, -(k : Int) ≤ r := fun r hk => hr r (List.mem_append_left _ hk)
  have hB : fillB (toL n k) x = true := by
    unfold fillB
    rw [refR_fill n k hmain, Bool.and_eq_true, List.all_eq_true]
    exact ⟨rfl, fun r hk => by rw [refR_fill n k (hkid r hk)]; rfl⟩
  unfold fillS
  rw [if_pos hB]
  unfold fillNd
  have e1 : x.2.2.2.2.1.map (refD (toL n k)) = x.2.2.2.2.1.map (fillQ n) := List.map_congr_left fun r hk => by unfold refD; rw [refR_fill n k (hkid r hk)]; rfl
  have e2 : refD (toL n k) x.2.2.2.2.2.1 = fillQ n x.2.2.2.2.2.1 := by unfold refD; rw [refR_fill n k hmain]; rfl
  rw [e1, e2]
theorem doL_eq (h : List NodeV) : ∀ (l pre : List NodeV), (∀ (i : Nat) (hi : i < l.length), ∀ r ∈ allK l[i], -((pre.length + i : Nat) : Int) ≤ r) → doL (PS h pre) (toL h.length pre.length) l = (PS h (pre ++ l), toL h.length (pre.length + l.length))
  | [], pre, _ => by rw [List.append_nil]; rfl
  | n :: l, pre, hr => by
    unfold doL
    have h0 := hr 0 (by simp)
    have e1 : fillS (toL h.length pre.length) n = fillNd h.length n := fillS_fill _ _ (by simpa using h0)
    have e2 : PS h pre ++ [fillNd h.length n] = PS h (pre ++ [n]) := (PS_add h pre n).symm
    have e3 : toL h.length pre.length ++ [(((PS h pre).length + 1 : Nat) : Int)] = toL h.length (pre ++ [n]).length := by
      rw [PS_len, List.length_append]
      exact (toL_succ _ _).symm
    rw [e1, e2, e3, doL_eq h l (pre ++ [n]) fun i hi r hr' => ?_]
    · rw [List.append_assoc, List.length_append, List.length_cons, List.length_cons, List.length_nil, show pre.length + (0 + 1) + l.length = pre.length + (l.length + 1) by omega]
      rfl
    · have := hr (i + 1) (by simpa using hi) r (by simpa using hr')
      rw [List.length_append]
      simp only [List.length_cons, List.length_nil]
      omega
theorem mayPL_of : ∀ (l : List NodeV) (i : Nat), (∀ (j : Nat) (hj : j < l.length), mayS l[j] = 0 ∧ ∀ r ∈ refsS l[j], -((i + j : Nat) : Int) ≤ r) → mayPL i l = true
  | [], _, _ => rfl
  | n :: l, i, h => by
    unfold mayPL
    simp only [Bool.and_eq_true, decide_eq_true_eq, List.all_eq_true]
    refine ⟨h 0 (by simp), mayPL_of l (i + 1) fun j hj => ?_⟩
    have := h (j + 1) (by simpa using hj)
    rw [show i + (j + 1) = i + 1 + j by omega] at this
    exact this
theorem refsS_sub {n : NodeV} {r : Int} (h : r ∈ refsS n) : r ∈ allK n := by
  rw [refsS_all] at h
  exact (List.mem_filter.1 h).1
theorem do_pre {h news : List NodeV} (ho : okH h) (hm : mayH h = true) (P : PlanOK h news) (hn : news.length ≤ 1000) {root : Int} (lo : -(news.length : Int) ≤ root) (hi : root ≤ h.length) {old : List Int} (hol : old.length ≤ 1000) (hold : ∀ r ∈ old, 1 ≤ r ∧ r ≤ h.length) :
    okPl (news, (root, (old, ()))) ∧ (mayP (news, (root, (old, ()))) && (mayH h && fitsP h (news, (root, (old, ()))))) = true ∧ doS h (news, (root, (old, ()))) = (PS h news, toL h.length news.length) ∧ refD (toL h.length news.length) root = fillQ h.length root := by
  have hlen := ho.len
  have ok : okPl (news, (root, (old, ()))) := by
    refine ⟨hn, fun n hn' => (P.node n hn').1, fun n hn' => ?_, fun n hn' => (P.node n hn').2, by show rng root; unfold rng; omega, hol, fun r hr => by have := hold r hr; unfold rng; omega⟩
    obtain ⟨i, hi', rfl⟩ := List.getElem_of_mem hn'
    have hr := (P.ref i hi').2
    have hi' : i < news.length := hi'
    refine ⟨fun k hk => ?_, ?_⟩
    · have := hr k (List.mem_append_left _ hk)
      unfold rng; omega
    · show rng news[i].2.2.2.2.2.1
      have := hr news[i].2.2.2.2.2.1 (List.mem_append_right _ List.mem_cons_self)
      unfold rng; omega
  have c1 : mayP (news, (root, (old, ()))) = true := by
    unfold mayP
    simp only [Bool.and_eq_true, decide_eq_true_eq, List.all_eq_true]
    refine ⟨mayPL_of news 0 fun j hj => ⟨(P.ref j hj).1, fun r hr => ?_⟩, fun r hr => (hold r hr).1, lo⟩
    have := ((P.ref j hj).2 r (refsS_sub hr)).1
    omega
  have c3 : fitsP h (news, (root, (old, ()))) = true := by
    unfold fitsP fitsL
    rw [List.all_eq_true]
    intro r hr
    rw [decide_eq_true_eq]
    rcases List.mem_append.1 hr with hr | hr
    · rcases List.mem_append.1 hr with hr | hr
      · exact (hold r hr).2
      · rw [List.mem_singleton.1 hr]; exact hi
    · unfold refsL at hr
      obtain ⟨n, hn', hr⟩ := List.mem_flatMap.1 hr
      obtain ⟨i, hi', rfl⟩ := List.getElem_of_mem hn'
      exact ((P.ref i hi').2 r (refsS_sub hr)).2
  have hd := doL_eq h news [] fun i hi' r hr => by have := ((P.ref i hi').2 r hr).1; simp only [List.length_nil]; omega
  rw [PS_nil] at hd
  have hd : doS h (news, (root, (old, ()))) = (PS h news, toL h.length news.length) := by
    unfold doS
    rw [List.nil_append, List.length_nil, Nat.zero_add] at hd
    exact hd
  have hroot : refD (toL h.length news.length) root = fillQ h.length root := by unfold refD; rw [refR_fill _ _ lo]; rfl
  exact ⟨ok, by rw [c1, hm, c3]; rfl, hd, hroot⟩
theorem do_plan {h news : List NodeV} (ho : okH h) (hm : mayH h = true) (P : PlanOK h news) (hn : news.length ≤ 1000) {root : Int} (lo : -(news.length : Int) ≤ root) (hi : root ≤ h.length) {old : List Int} (hol : old.length ≤ 1000) (hold : ∀ r ∈ old, 1 ≤ r ∧ r ≤ h.length) :
    plan_Do h (news, (root, (old, ()))) = some (PS h news, (fillQ h.length root, (0, ()))) := by
  obtain ⟨ok, c, hd, hroot⟩ := do_pre ho hm P hn lo hi hol hold
  rw [do_any h ho _ ok, if_pos c, hd, hroot]
end Go.Proofs.YtmopkbmcilolgaaGreat.AI
set_option linter.unusedVariables false
set_option linter.unusedSimpArgs false
namespace Go.Proofs.YtmopkbmcilolgaaGreat.AI
open Go.Abs
theorem ixS (l : List ByteArray) (i : Nat) (h : i < l.length) : ixL .str l (i : Int) = l[i] := ixL_d .str l i h
def shortS (l : List ByteArray) : Prop := ∀ s ∈ l, s.size ≤ 40
theorem best_short : ∀ (l : List ByteArray) (o : ByteArray), shortS l → o.size ≤ 40 → (best l o).size ≤ 40
  | [], _, _, h => h
  | x :: xs, o, hl, ho => by
    unfold best
    split
    · exact best_short xs x (fun s hs => hl s (List.mem_cons_of_mem _ hs)) (hl x List.mem_cons_self)
    · exact best_short xs o (fun s hs => hl s (List.mem_cons_of_mem _ hs)) ho
theorem ptop_loop (x0 l : List ByteArray) (hl : l.length ≤ 50000000) (hs : shortS l) (d : Nat) : ∀ (i : Nat) (o : ByteArray), 1 ≤ i → i ≤ l.length → l.length - i = d → o.size ≤ 40 → pri_Top.l0 x0 o l l.length i = some (best (l.drop i) o, (decide (0 < (x0.length : Int)), ())) := by
  induction d with
  | zero =>
    intro i o h0 h1 h2 h3
    rw [pri_Top.l0.eq]
    simp only [ltI_d, br_if, ofN_d, lenL_d]
    rw [if_neg (by omega), List.drop_eq_nil_of_le (by omega)]
    rfl
  | succ d ih =>
    intro i o h0 h1 h2 h3
    have hi : i < l.length := by omega
    have hx := hs _ (List.getElem_mem hi)
    rw [pri_Top.l0.eq]
    simp only [ltI_d, leI_d, eqI_d, br_if, ofN_d, lenL_d, andB_d]
    rw [if_pos (by omega), if_pos (by omega), if_neg (by omega), ixS l i hi, above_any _ _ (by omega) (by omega), bnd_some, add1 i (by omega), br_b, ih (i + 1) _ (by omega) (by omega) (by omega) hx, ih (i + 1) _ (by omega) (by omega) (by omega) h3, List.drop_eq_getElem_cons hi, best]
    split <;> rfl
theorem ptop_any (l : List ByteArray) (hl : l.length ≤ 50000000) (h0 : 0 < l.length) (hs : shortS l) : pri_Top l = some ((topT l).1, (true, ())) := by
  rw [pri_Top.eq, pri_Top.l0.eq]
  simp only [ltI_d, leI_d, eqI_d, br_if, ofN_d, lenL_d, andB_d]
  have i0 := ixS l 0 h0
  have hx := hs _ (List.getElem_mem h0)
  rw [show ((0 : Nat) : Int) = 0 from rfl] at i0
  have := ptop_loop l l hl hs (l.length - 1) 1 l[0] (by omega) (by omega) rfl hx
  rw [if_pos (by omega), if_pos (by omega), if_pos trivial, i0, show addI .i64 0 1 = ((1 : Nat) : Int) from add1 0 (by omega), this, decide_eq_true (by omega)]
  cases l with
  | nil => simp at h0
  | cons x xs => rfl
theorem sidx_loop (l : List ByteArray) (x : ByteArray) (p : Nat) (hp : p < l.length) (hx : l[p] = x) (hn : ∀ j (h : j < l.length), j < p → l[j] ≠ x) (hl : l.length ≤ 50000000) (d : Nat) : ∀ (i : Nat), i ≤ p → p - i = d → slices_Indexstring_string.l0 l x l.length i = some (p : Int) := by
  induction d with
  | zero =>
    intro i h1 h2
    have : i = p := by omega
    subst this
    rw [slices_Indexstring_string.l0.eq]
    simp only [ltI_d, leI_d, eqI_d, eqS_d, br_if, ofN_d, lenL_d, andB_d]
    rw [if_pos (by omega), if_pos (by omega), ixS l i hp, hx, if_pos rfl]
  | succ d ih =>
    intro i h1 h2
    have hi : i < l.length := by omega
    rw [slices_Indexstring_string.l0.eq]
    simp only [ltI_d, leI_d, eqI_d, eqS_d, br_if, ofN_d, lenL_d, andB_d]
    rw [if_pos (by omega), if_pos (by omega), ixS l i hi, if_neg (fun e => hn i hi (by omega) e.symm), add1 i (by omega)]
    exact ih (i + 1) (by omega) (by omega)
theorem ttop_fin (l : List PairV) (hl : l.length ≤ 40000000) (h0 : l ≠ []) (hs : ∀ p ∈ l, okP p) : (bnd (pri_Top (l.map (·.1))) fun r0 => bnd (slices_Indexstring_string (l.map (·.1)) r0.1) fun r1 => some r1) = some ((topI l : Nat) : Int) := by
  obtain ⟨t1, t2, t3⟩ := topI_spec l h0
  have hk : (l.map (·.1)).length = l.length := List.length_map ..
  have hp : 0 < l.length := List.length_pos_iff.2 h0
  have hss : shortS (l.map (·.1)) := by
    intro s hs'
    obtain ⟨p, hp, rfl⟩ := List.mem_map.1 hs'
    exact (hs p hp).1
  have hkey : ∀ (j : Nat) (h : j < (l.map (·.1)).length), (l.map (·.1))[j] = keyAt l j := by
    intro j h
    rw [List.getElem_map, keyAt_get l j (by omega)]
  have he : keyAt l (topI l) = (topT (l.map (·.1))).1 := by
    refine top_only ?_ (fun z hz => ?_)
    · rw [← hkey (topI l) (by omega)]; exact List.getElem_mem _
    · obtain ⟨j, hj, rfl⟩ := List.getElem_of_mem hz
      rw [hkey j hj]
      exact t2 j (by omega)
  rw [ptop_any _ (by omega) (by omega) hss, bnd_some, slices_Indexstring_string.eq]
  have := sidx_loop (l.map (·.1)) (topT (l.map (·.1))).1 (topI l) (by omega) (by rw [hkey _ (by omega), he]) (fun j h hj => by rw [hkey j h, ← he]; exact t3 j hj) (by omega) (topI l) 0 (by omega) (by omega)
  rw [show ((0 : Nat) : Int) = 0 from rfl] at this
  simp only [ofN_d, lenL_d]
  rw [this, bnd_some]
theorem ttop_loop (l : List PairV) (hl : l.length ≤ 40000000) (d : Nat) : ∀ (i : Nat), i ≤ l.length → l.length - i = d → tree_top.l0 l l.length i ((l.take i).map (·.1)) = bnd (pri_Top (l.map (·.1))) fun r0 => bnd (slices_Indexstring_string (l.map (·.1)) r0.1) fun r1 => some r1 := by
  induction d with
  | zero =>
    intro i h1 h2
    rw [tree_top.l0.eq]
    simp only [ltI_d, br_if]
    rw [if_neg (by omega), List.take_of_length_le (by omega)]
  | succ d ih =>
    intro i h1 h2
    have hi : i < l.length := by omega
    rw [tree_top.l0.eq]
    simp only [ltI_d, leI_d, br_if, ofN_d, lenL_d, andB_d, fitL_d, appL_d]
    rw [if_pos (by omega), if_pos (by omega), ixP l i hi, add1 i (by omega)]
    have e : (l.take i).map (·.1) ++ [l[i].1] = (l.take (i + 1)).map (·.1) := by
      rw [List.take_succ_eq_append_getElem hi, List.map_append, List.map_singleton]
    rw [e, if_pos (by rw [List.length_map, List.length_take]; omega)]
    exact ih (i + 1) (by omega) (by omega)
theorem ttop_any (l : List PairV) (hl : l.length ≤ 40000000) (h0 : l ≠ []) (hs : ∀ p ∈ l, okP p) : tree_top l = some ((topI l : Nat) : Int) := by
  rw [tree_top.eq]
  have := ttop_loop l hl l.length 0 (by omega) (by omega)
  rw [List.take_zero, List.map_nil, show ((0 : Nat) : Int) = 0 from rfl] at this
  simp only [ofN_d, lenL_d]
  rw [this]
  exact ttop_fin l hl h0 hs
theorem subL_pre (l : List PairV) (i : Nat) : subL tapiPair l (toN 0) (toN (i : Int)) = l.take i := by
  rw [toN_d, show toN 0 = 0 from rfl]; exact subL0 _ _ _
theorem subL_suf (l : List PairV) (i : Nat) : subL tapiPair l (toN (i : Int)) (toN (ofN (lenL tapiPair l))) = l.drop i := by
  rw [toN_d, ofN_d, toN_d]
  unfold subL lenL
  exact List.take_of_length_le (by rw [List.length_drop]; omega)
theorem app1_len {A : Type} (l : List A) (x : A) : (l ++ [x]).length = l.length + 1 := by simp
theorem tnodes_any : ∀ (n : Nat) (h : List NodeV) (l : List PairV), l.length ≤ n → h.length + l.length ≤ 40000000 → (∀ p ∈ l, okP p) → tree_nodes_1 l ((), ((), ())) h = some ((nodesS h l).2, (((), ((), ())), ((), ((nodesS h l).1, ())))) := by
  intro n
  induction n with
  | zero =>
    intro h l hn hb hs
    have : l = [] := List.eq_nil_of_length_eq_zero (by omega)
    subst this
    rw [tree_nodes_1.eq, nodesS_nil]
    rfl
  | succ n ih =>
    intro h l hn hb hs
    by_cases hl : l = []
    · subst hl
      rw [tree_nodes_1.eq, nodesS_nil]
      rfl
    have ht := topI_lt hl
    have hlen : (l.take (topI l)).length = topI l := by rw [List.length_take]; omega
    have ia := ih h (l.take (topI l)) (by omega) (by omega) (fun p hp => hs p (List.mem_of_mem_take hp))
    have la := nodesS_len _ h (l.take (topI l)) (Nat.le_refl _)
    have hlen2 : (l.drop (topI l + 1)).length = l.length - (topI l + 1) := List.length_drop ..
    have ib := ih (nodesS h (l.take (topI l))).1 (l.drop (topI l + 1)) (by omega) (by omega) (fun p hp => hs p (List.mem_of_mem_drop hp))
    have lb := nodesS_len _ (nodesS h (l.take (topI l))).1 (l.drop (topI l + 1)) (Nat.le_refl _)
    rw [tree_nodes_1.eq, ttop_any l (by omega) hl hs, bnd_some]
    simp only [both_self]
    rw [add1 (topI l) (by omega), subL_pre, subL_suf, ia, bnd_some, ib, bnd_some]
    have hpos : 0 < l.length := List.length_pos_iff.2 hl
    simp only [ltI_d, leI_d, eqI_d, br_if, ofN_d, lenL_d, andB_d]
    rw [if_neg (by omega), if_pos (by omega), if_pos (by omega), tree_nodes_1.j0.eq]
    simp only [ltI_d, leI_d, eqI_d, br_if, ofN_d, lenL_d, andB_d]
    rw [if_pos (by omega), if_pos (by omega), ixP l _ ht, node_Tree.eq, bnd_some, nodesS_cons h hl, pairAt_get l _ ht]
    simp only [fitL_d, appL_d, br_if]
    have e : ∀ (A : List NodeV) (x : NodeV), ((A ++ [x]).length : Int) = (A.length : Int) + 1 := fun A x => by rw [app1_len]; omega
    rw [if_pos (by rw [app1_len]; omega)]
    show some ((((nodesS (nodesS h (l.take (topI l))).1 (l.drop (topI l + 1))).1 ++ [_]).length : Int), _) = _
    rw [e]
    rfl
theorem Nodes_any (l : List PairV) (hb : l.length ≤ 40000000) (hs : ∀ p ∈ l, okP p) : tree_nodes l = some ((nodesS [] l).1, ((nodesS [] l).2, ())) := by
  rw [tree_nodes.eq, tnodes_any _ [] l (Nat.le_refl _) (by show 0 + _ ≤ _; omega) hs, bnd_some]
theorem rtop_loop (l : List PairV) (h : List NodeV) (hl : l.length ≤ 40000000) (hs : ∀ p ∈ l, okP p) (d : Nat) : ∀ (i t : Nat), t < i → i + d = l.length → ref25_make1.l0 l t i h = ref25_make1.l0 l (topA l d i t : Nat) (l.length : Int) h := by
  induction d with
  | zero =>
    intro i t h1 h2
    rw [topA, show i = l.length by omega]
  | succ d ih =>
    intro i t h1 h2
    have hi : i < l.length := by omega
    have htl : t < l.length := by omega
    have hx := hs _ (List.getElem_mem hi)
    have hy := hs _ (List.getElem_mem htl)
    rw [ref25_make1.l0.eq]
    simp only [ltI_d, leI_d, eqI_d, br_if, ofN_d, lenL_d, andB_d]
    rw [if_pos (by omega), if_pos (by omega), if_pos (by omega), ixP l i hi, ixP l t htl, refabove_any _ _ (by have := hx.1; omega) (by have := hy.1; omega), bnd_some, add1 i (by omega), br_b, topA, keyAt_get l i hi, keyAt_get l t htl]
    by_cases hc : above l[i].1 l[t].1 = true
    · rw [if_pos hc, if_pos hc]
      exact ih (i + 1) i (by omega) (by omega)
    · rw [if_neg hc, if_neg hc]
      exact ih (i + 1) t (by omega) (by omega)
theorem rnodes_any : ∀ (n : Nat) (h : List NodeV) (l : List PairV), l.length ≤ n → h.length + l.length ≤ 40000000 → (∀ p ∈ l, okP p) → ref25_make1 l h = some (((), ((nodesS h l).2, ())), ((nodesS h l).1, ())) := by
  intro n
  induction n with
  | zero =>
    intro h l hn hb hs
    have : l = [] := List.eq_nil_of_length_eq_zero (by omega)
    subst this
    rw [ref25_make1.eq, nodesS_nil]
    rfl
  | succ n ih =>
    intro h l hn hb hs
    by_cases hl : l = []
    · subst hl
      rw [ref25_make1.eq, nodesS_nil]
      rfl
    have ht := topI_lt hl
    have hlen : (l.take (topI l)).length = topI l := by rw [List.length_take]; omega
    have ia := ih h (l.take (topI l)) (by omega) (by omega) (fun p hp => hs p (List.mem_of_mem_take hp))
    have la := nodesS_len _ h (l.take (topI l)) (Nat.le_refl _)
    have hlen2 : (l.drop (topI l + 1)).length = l.length - (topI l + 1) := List.length_drop ..
    have ib := ih (nodesS h (l.take (topI l))).1 (l.drop (topI l + 1)) (by omega) (by omega) (fun p hp => hs p (List.mem_of_mem_drop hp))
    have lb := nodesS_len _ (nodesS h (l.take (topI l))).1 (l.drop (topI l + 1)) (Nat.le_refl _)
    have hpos : 0 < l.length := List.length_pos_iff.2 hl
    have hloop := rtop_loop l h (by omega) hs (l.length - 1) 1 0 (by omega) (by omega)
    rw [ref25_make1.eq]
    simp only [eqI_d, br_if, ofN_d, lenL_d]
    rw [if_neg (by omega)]
    refine hloop.trans ?_
    show ref25_make1.l0 l ((topI l : Nat) : Int) (l.length : Int) h = _
    rw [ref25_make1.l0.eq]
    simp only [ltI_d, leI_d, eqI_d, br_if, ofN_d, lenL_d, andB_d]
    have e1 := subL_pre l (topI l)
    have e2 := subL_suf l (topI l + 1)
    simp only [ofN_d, lenL_d] at e2
    rw [if_neg (by omega), if_pos (by omega), add1 (topI l) (by omega), e1, ia, bnd_some, if_pos (by omega), e2, ib, bnd_some, if_pos (by omega), if_pos (by omega), ixP l _ ht, nodesS_cons h hl, pairAt_get l _ ht]
    simp only [fitL_d, appL_d, br_if]
    have e : ∀ (A : List NodeV) (x : NodeV), ((A ++ [x]).length : Int) = (A.length : Int) + 1 := fun A x => by rw [app1_len]; omega
    rw [if_pos (by rw [app1_len]; omega), e]
    rfl
theorem refMake_any (l : List PairV) (hb : l.length ≤ 40000000) (hs : ∀ p ∈ l, okP p) : ref25_Make l = some ((nodesS [] (makeS l)).1, ((nodesS [] (makeS l)).2, ())) := by
  have := makeS_len l
  rw [ref25_Make.eq, refmake_any l hb hs, bnd_some, rnodes_any _ [] (makeS l) (Nat.le_refl _) (by show 0 + _ ≤ _; omega) (fun p hp => hs p (makeS_mem hp)), bnd_some]
/-! ### Texts that are short enough -/
def isShort (p : PairV) : Bool := !longP p
theorem longP_ok {p : PairV} : longP p = false ↔ okT p := by
  unfold longP okT
  simp only [Bool.or_eq_false_iff, decide_eq_false_iff_not]
  omega
theorem long_loop (l : List PairV) (hl : l.length ≤ 40000000) (d : Nat) : ∀ (i : Nat), i ≤ l.length → l.length - i = d → ref20_Long.l0 l i = some ((l.drop i).any longP) := by
  induction d with
  | zero =>
    intro i h1 h2
    rw [ref20_Long.l0.eq]
    simp only [ltI_d, ofN_d, lenL_d, br_if]
    rw [if_neg (by omega), List.drop_eq_nil_of_le (by omega)]
    rfl
  | succ d ih =>
    intro i h1 h2
    have hi : i < l.length := by omega
    rw [ref20_Long.l0.eq]
    simp only [ltI_d, leI_d, ofN_d, lenL_d, lenS_d, andB_d, br_if]
    have hin : 0 ≤ (i : Int) ∧ (i : Int) < (l.length : Int) := ⟨by omega, by omega⟩
    rw [if_pos (by omega), if_pos hin, ixP l i hi, add1 i (by omega), ih (i + 1) (by omega) (by omega), List.drop_eq_getElem_cons hi, List.any_cons]
    have el : longP l[i] = (decide (16 < l[i].1.size) || decide (16 < l[i].2.1.size)) := rfl
    rw [el]
    by_cases c1 : 16 < l[i].1.size
    · rw [if_pos (by omega), decide_eq_true c1, Bool.true_or, Bool.true_or]
    · rw [if_neg (by omega), if_pos hin, decide_eq_false c1, Bool.false_or]
      by_cases c2 : 16 < l[i].2.1.size
      · rw [if_pos (by omega), decide_eq_true c2, Bool.true_or]
      · rw [if_neg (by omega), decide_eq_false c2, Bool.false_or]
def longAny (l : List PairV) : Bool := (makeS l).any longP
theorem Long_any (l : List PairV) (hb : l.length ≤ 40000000) (hs : ∀ p ∈ l, okP p) : ref20_Long l = some (longAny l) := by
  have := makeS_len l
  rw [ref20_Long.eq, refmake_any l hb hs, bnd_some]
  have := long_loop (makeS l) (by omega) (makeS l).length 0 (by omega) (by omega)
  rw [List.drop_zero, show ((0 : Nat) : Int) = 0 from rfl] at this
  exact this
theorem longAny_false {l : List PairV} (h : longAny l = false) : ∀ p ∈ makeS l, okT p := by
  intro p hp
  refine longP_ok.1 ?_
  unfold longAny at h
  rw [List.any_eq_false] at h
  exact Bool.eq_false_iff.2 (h p hp)
theorem binds_short {h : List NodeV} (hm : mayH h = true) : ∀ (n : Nat) (r : Int), 0 ≤ r → r ≤ n → r ≤ h.length → ∀ p ∈ bindsT (U h r), okT p := by
  have own : ∀ r : Int, 1 ≤ r → r ≤ h.length → ∀ p ∈ bindsS (getN h r), okT p := by
    intro r h1 h2 p hp
    obtain ⟨_, _, hl, _⟩ := mayS_zero (may_node hm h1 h2).1
    unfold longN at hl
    rw [Bool.or_eq_false_iff] at hl
    unfold bindsS at hp
    split at hp
    · rw [List.mem_singleton] at hp
      subst hp
      exact longP_ok.1 hl.1
    · split at hp
      · have := hl.2
        rw [List.any_eq_false] at this
        exact longP_ok.1 (Bool.eq_false_iff.2 (this p hp))
      · cases hp
  intro n
  induction n with
  | zero =>
    intro r h0 h1 h2 p hp
    have : r = 0 := by omega
    subst this
    rw [U_zero, bindsT_nil] at hp
    cases hp
  | succ n ih =>
    intro r h0 h1 h2 p hp
    by_cases e : r = 0
    · subst e; rw [U_zero, bindsT_nil] at hp; cases hp
    by_cases h4 : (getN h r).1 = 4
    · obtain ⟨a, b, _, _, k3, k4, k5⟩ := bindsU_tree hm (by omega) h2 h4
      rw [k5] at hp
      rcases List.mem_append.1 hp with hp | hp
      · rcases List.mem_append.1 hp with hp | hp
        · exact ih a (by omega) (by omega) (by omega) p hp
        · exact own r (by omega) h2 p hp
      · exact ih b (by omega) (by omega) (by omega) p hp
    · rw [bindsU_refs hm (by omega) h2 h4] at hp
      rcases List.mem_append.1 hp with hp | hp
      · exact own r (by omega) h2 p hp
      · obtain ⟨l, hl, hp⟩ := List.mem_flatten.1 hp
        obtain ⟨x, hx, rfl⟩ := List.mem_map.1 hl
        rw [refsS_all] at hx
        have := (may_node hm (by omega) h2).2 x (List.mem_filter.1 hx).1
        exact ih x (by omega) (by omega) (by omega) p hp
noncomputable def isTreeS (h : List NodeV) (r : Int) : Bool := fitH h r && (isS (bindsT (U h r)) && eqSh (U h r) (treeT (bindsT (U h r))))
theorem hBinds_any {h : List NodeV} (ho : okH h) (r : Int) (hb : fitH h r = true → (bindsT (U h r)).length ≤ 1000000000) : heap_Binds h r = some (if fitH h r = true then (bindsT (U h r), (0, ())) else ([], (4, ()))) := by
  rw [heap_Binds.eq, hmay_any h ho, bnd_some]
  simp only [eqI_d, notB_d, br_if]
  by_cases hf : fitH h r = true
  · obtain ⟨⟨a, b⟩, c⟩ := fitH_iff.1 hf
    rw [if_pos hf, if_pos hf, if_neg (by omega), hbinds_any ho c r.toNat r a (by omega) b (hb hf), bnd_some]
  · rw [if_neg hf, if_neg hf, if_pos (by omega)]
theorem Is_any {h : List NodeV} (ho : okH h) (r : Int) (hb : fitH h r = true → (bindsT (U h r)).length ≤ 40000000) : tree_Is h r = some (isTreeS h r) := by
  rw [tree_Is.eq, hBinds_any ho r (fun hf => by have := hb hf; omega), bnd_some]
  unfold isTreeS
  by_cases hf : fitH h r = true
  · obtain ⟨⟨a, b⟩, c⟩ := fitH_iff.1 hf
    have hl := hb hf
    have hs := binds_short c r.toNat r a (by omega) b
    have ht := nodesS_ok _ [] (bindsT (U h r)) (Nat.le_refl _) rfl hs
    have hg := nodes_okH hl hs
    have hfg : fitH (nodesS [] (bindsT (U h r))).1 (nodesS [] (bindsT (U h r))).2 = true := fitH_iff.2 ⟨⟨ht.r0, ht.r1⟩, ht.may⟩
    rw [if_pos hf, eqI_d, decide_eq_true rfl, show notB true = false from rfl, br_f, is_any _ (by omega) (fun p hp => (hs p hp).ok), bnd_some, hf, Bool.true_and]
    cases hi : isS (bindsT (U h r)) with
    | false => rw [show notB false = true from rfl, br_t, Bool.false_and]
    | true => rw [show notB true = false from rfl, br_f, Bool.true_and, Nodes_any _ hl (fun p hp => (hs p hp).ok), bnd_some, hSame_any _ _ ho hg, bnd_some, hf, hfg, Bool.true_and, Bool.true_and, ht.shp]
  · rw [if_neg hf, eqI_d, decide_eq_false (by show ¬ (4 : Int) = 0; omega), show notB false = true from rfl, br_t, Bool.eq_false_iff.2 hf, Bool.false_and]
theorem isTree_make (l : List PairV) (s : Shp) (hs : bindsT s = l) : (isS l && eqSh s (treeT l)) = eqSh s (treeT (makeS l)) := by
  cases hi : isS l with
  | true => rw [Bool.true_and, makeS_srt (isS_srt hi)]
  | false =>
    rw [Bool.false_and]
    refine (eqSh_not ?_).symm
    intro e
    rw [e, bindsT_treeT] at hs
    rw [← hs, srt_isS (makeS_Srt l)] at hi
    cases hi
end Go.Proofs.YtmopkbmcilolgaaGreat.AI
set_option linter.unusedVariables false
set_option linter.unusedSimpArgs false
namespace Go.Proofs.YtmopkbmcilolgaaGreat.AI
open Go.Abs
abbrev StepV : Type := Int × Int × ByteArray × ByteArray × Int × List Int × Int × List PairV × Int × Int × Int × Unit
def stV (r : Int) (n : NodeV) (side : Int) : StepV := (r, (n.1, (n.2.1, (n.2.2.1, (n.2.2.2.1, (n.2.2.2.2.1, (n.2.2.2.2.2.1, (n.2.2.2.2.2.2.1, (n.2.2.2.2.2.2.2.1, (n.2.2.2.2.2.2.2.2.1, (side, ())))))))))))
def StepV.node (s : StepV) : NodeV := (s.2.1, (s.2.2.1, (s.2.2.2.1, (s.2.2.2.2.1, (s.2.2.2.2.2.1, (s.2.2.2.2.2.2.1, (s.2.2.2.2.2.2.2.1, (s.2.2.2.2.2.2.2.2.1, (s.2.2.2.2.2.2.2.2.2.1, ())))))))))
def StepV.side (s : StepV) : Int := s.2.2.2.2.2.2.2.2.2.2.1
theorem stV_node (r : Int) (n : NodeV) (side : Int) : (stV r n side).node = n := rfl
theorem stV_side (r : Int) (n : NodeV) (side : Int) : (stV r n side).side = side := rfl
/-- A node of a tree, its size a number. -/
def treeI (k v : ByteArray) (a b : Int) (z : Int) : NodeV := (4, (k, (v, (0, ([a, b], (0, ([], (z, (0, ())))))))))
theorem treeI_tree (p : PairV) (a b : Int) (n : Nat) : treeI p.1 p.2.1 a b (n : Int) = treeN p a b n := rfl
theorem treeI_ok {k v : ByteArray} (hk : k.size ≤ 40) (hv : v.size ≤ 40) (a b z : Int) : okN (treeI k v a b z) := ⟨hk, hv, by show (0 : Int) ≤ 0; omega, by show (0 : Int) < 4294967296; omega, by show 2 ≤ _; omega, by show 0 ≤ _; omega, fun q hq => (by cases hq)⟩
/-- A node with another child on a side, and another size. -/
def sideN (n : NodeV) (side r z : Int) : NodeV := treeI n.2.1 n.2.2.1 (if side = 0 then r else n.2.2.2.2.1.getD 0 0) (if side = 0 then n.2.2.2.2.1.getD 1 0 else r) z
theorem sideN_ok {n : NodeV} (hk : n.2.1.size ≤ 40) (hv : n.2.2.1.size ≤ 40) (side r z : Int) : okN (sideN n side r z) := treeI_ok hk hv _ _ _
/-! ### What stands on a way, made anew -/
structure okSt (x : StepV) : Prop where
  kids : ∃ a b, x.node.2.2.2.2.1 = [a, b]
  side : x.side = 0 ∨ x.side = 1
  key : x.node.2.1.size ≤ 40
  val : x.node.2.2.1.size ≤ 40
  sz : 0 ≤ x.node.2.2.2.2.2.2.2.1 ∧ x.node.2.2.2.2.2.2.2.1 ≤ 2000000
/-- The plan's new nodes, its old references, and its root, so far. -/
abbrev PlanS : Type := List NodeV × List Int × Int
/-- A node of a tree, where it stands. -/
structure NodeAt (h : List NodeV) (r : Int) (p : PairV) (L R : List PairV) (a b : Int) : Prop where
  r1 : 1 ≤ r
  r2 : r ≤ h.length
  kind : (getN h r).1 = 4
  key : (getN h r).2.1 = p.1
  val : (getN h r).2.2.1 = p.2.1
  kids : (getN h r).2.2.2.2.1 = [a, b]
  size : (getN h r).2.2.2.2.2.2.2.1 = ((L.length + 1 + R.length : Nat) : Int)
  a0 : 0 ≤ a
  a1 : a ≤ r - 1
  b0 : 0 ≤ b
  b1 : b ≤ r - 1
  left : U h a = treeT L
  right : U h b = treeT R
  srt : Srt (L ++ p :: R)
  under : Under (L ++ R) p.1
  txt : ∀ q ∈ L ++ p :: R, okT q
theorem treeT_ne {l : List PairV} (h : l ≠ []) : treeT l ≠ .nil := by rw [treeT_cons h]; intro e; cases e
theorem treeT_nil_iff {h : List NodeV} (hm : mayH h = true) {r : Int} (h0 : 0 ≤ r) (h1 : r ≤ h.length) {l : List PairV} (hu : U h r = treeT l) : r = 0 ↔ l = [] := by
  constructor
  · rintro rfl
    by_cases q : l = []
    · exact q
    · rw [U_zero] at hu; exact absurd hu.symm (treeT_ne q)
  · rintro rfl
    rw [treeT_nil] at hu
    exact (U_nil hm h0 h1).1 hu
theorem node_at {h : List NodeV} (hm : mayH h = true) {r : Int} (h0 : 0 ≤ r) (h1 : r ≤ h.length) {l : List PairV} (hl : l ≠ []) (hS : Srt l) (ht : ∀ p ∈ l, okT p) (hu : U h r = treeT l) : ∃ L p R a b, l = L ++ p :: R ∧ NodeAt h r p L R a b := by
  have hr : r ≠ 0 := fun e => hl ((treeT_nil_iff hm h0 h1 hu).1 e)
  obtain ⟨L, p, R, rfl, hun⟩ := tree_mid hS hl
  rw [treeT_mid hS hun, U_node hm (by omega) h1] at hu
  obtain ⟨e1, e2⟩ := Shp.node.inj hu
  have k1 : (getN h r).1 = 4 := congrArg (·.1) e1
  have k2 : (getN h r).2.1 = p.1 := congrArg (·.2.1) e1
  have k3 : (getN h r).2.2.1 = p.2.1 := congrArg (·.2.2.1) e1
  have k4 : (getN h r).2.2.2.2.2.2.2.1 = ((L.length + 1 + R.length : Nat) : Int) := congrArg (·.2.2.2.2.2.2.2.1) e1
  obtain ⟨g1, g2⟩ := may_node hm (by omega) h1
  obtain ⟨_, f2, _, f4, _⟩ := form_tree (mayS_zero g1).2.2.2 k1
  obtain ⟨a, b, e⟩ : ∃ a b, (getN h r).2.2.2.2.1 = [a, b] := by
    match hk : (getN h r).2.2.2.2.1, f2 with
    | [a, b], _ => exact ⟨a, b, rfl⟩
  have ea : allK (getN h r) = [a, b, 0] := by unfold allK; rw [e, f4]; rfl
  rw [ea] at e2
  have e3 : U h a = treeT L := (List.cons.inj e2).1
  have e4 : U h b = treeT R := (List.cons.inj (List.cons.inj e2).2).1
  have ga := g2 a (by rw [ea]; simp)
  have gb := g2 b (by rw [ea]; simp)
  exact ⟨L, p, R, a, b, rfl, ⟨by omega, h1, k1, k2, k3, e, k4, by omega, by omega, by omega, by omega, e3, e4, hS, hun, ht⟩⟩
/-- A way in a tree, from a reference on; where it ends. -/
inductive WayT (h : List NodeV) (k : ByteArray) : Int → List PairV → List StepV → Int → List PairV → Prop
  | done (r : Int) (l : List PairV) : WayT h k r l [] r l
  | left {r : Int} {p : PairV} {L R : List PairV} {a b : Int} {way : List StepV} {e : Int} {m : List PairV} : NodeAt h r p L R a b → lt k p.1 = true → WayT h k a L way e m → WayT h k r (L ++ p :: R) (stV r (getN h r) 0 :: way) e m
  | right {r : Int} {p : PairV} {L R : List PairV} {a b : Int} {way : List StepV} {e : Int} {m : List PairV} : NodeAt h r p L R a b → lt p.1 k = true → WayT h k b R way e m → WayT h k r (L ++ p :: R) (stV r (getN h r) 1 :: way) e m
theorem mid_len (L R : List PairV) (p : PairV) : (L ++ p :: R).length = L.length + 1 + R.length := by rw [List.length_append, List.length_cons]; omega
theorem NodeAt.okSt {h : List NodeV} {r : Int} {p : PairV} {L R : List PairV} {a b : Int} (N : NodeAt h r p L R a b) (hl : (L ++ p :: R).length ≤ 2000000) {side : Int} (hs : side = 0 ∨ side = 1) : okSt (stV r (getN h r) side) := by
  have hp := N.txt p (by simp)
  have hsz := N.size
  rw [mid_len] at hl
  refine ⟨⟨a, b, N.kids⟩, hs, ?_, ?_, ?_⟩
  · show (getN h r).2.1.size ≤ 40
    rw [N.key]; have := hp.1; omega
  · show (getN h r).2.2.1.size ≤ 40
    rw [N.val]; have := hp.2; omega
  · show 0 ≤ (getN h r).2.2.2.2.2.2.2.1 ∧ (getN h r).2.2.2.2.2.2.2.1 ≤ 2000000
    rw [hsz]; omega
theorem WayT.ok {h : List NodeV} {k : ByteArray} {r : Int} {l : List PairV} {way : List StepV} {e : Int} {m : List PairV} (w : WayT h k r l way e m) : l.length ≤ 2000000 → (∀ x ∈ way, okSt x) ∧ (∀ x ∈ way, 1 ≤ x.1 ∧ x.1 ≤ h.length) ∧ way.length + m.length ≤ l.length ∧ (∀ q ∈ m, q ∈ l) := by
  induction w with
  | done r l => exact fun hl => ⟨fun x hx => (by cases hx), fun x hx => (by cases hx), by simp, fun q hq => hq⟩
  | left N hlt _ ih =>
    intro hl
    have hml := mid_len
    obtain ⟨i1, i2, i3, i4⟩ := ih (by rw [mid_len] at hl; omega)
    refine ⟨fun x hx => ?_, fun x hx => ?_, by rw [mid_len, List.length_cons]; omega, fun q hq => List.mem_append_left _ (i4 q hq)⟩
    · rcases List.mem_cons.1 hx with rfl | hx
      · exact N.okSt hl (.inl rfl)
      · exact i1 x hx
    · rcases List.mem_cons.1 hx with rfl | hx
      · exact ⟨N.r1, N.r2⟩
      · exact i2 x hx
  | right N hlt _ ih =>
    intro hl
    obtain ⟨i1, i2, i3, i4⟩ := ih (by rw [mid_len] at hl; omega)
    refine ⟨fun x hx => ?_, fun x hx => ?_, by rw [mid_len, List.length_cons]; omega, fun q hq => List.mem_append_right _ (List.mem_cons_of_mem _ (i4 q hq))⟩
    · rcases List.mem_cons.1 hx with rfl | hx
      · exact N.okSt hl (.inr rfl)
      · exact i1 x hx
    · rcases List.mem_cons.1 hx with rfl | hx
      · exact ⟨N.r1, N.r2⟩
      · exact i2 x hx
/-- Bindings with a key are at the end of its way. -/
theorem WayT.find {h : List NodeV} {k : ByteArray} {r : Int} {l : List PairV} {way : List StepV} {e : Int} {m : List PairV} (w : WayT h k r l way e m) : l.find? (fun q => decide (q.1 = k)) = m.find? (fun q => decide (q.1 = k)) := by
  induction w with
  | done r l => rfl
  | @left r p L R a b way e m N hlt _ ih =>
    obtain ⟨s1, s2, s3, s4, s5⟩ := srt_three N.srt
    rw [List.find?_append, ih]
    have : (p :: R).find? (fun q => decide (q.1 = k)) = none := List.find?_eq_none.2 fun q hq => by
      have : lt k q.1 = true := by
        rcases List.mem_cons.1 hq with rfl | hq
        · exact hlt
        · exact lt_trans hlt (s4 q hq)
      simpa using (ne_of_lt this).symm
    rw [this, Option.or_none]
  | @right r p L R a b way e m N hlt _ ih =>
    obtain ⟨s1, s2, s3, s4, s5⟩ := srt_three N.srt
    have h1 : L.find? (fun q => decide (q.1 = k)) = none := List.find?_eq_none.2 fun q hq => by simpa using ne_of_lt (lt_trans (s3 q hq) hlt)
    rw [List.find?_append, h1, Option.none_or, List.find?_cons, decide_eq_false (ne_of_lt hlt), ih]
theorem WayT.split {h : List NodeV} {k : ByteArray} : ∀ (w1 : List StepV) {w2 : List StepV} {r : Int} {l : List PairV} {e : Int} {m : List PairV}, WayT h k r l (w1 ++ w2) e m → ∃ r1 l1, WayT h k r l w1 r1 l1 ∧ WayT h k r1 l1 w2 e m
  | [], _, r, l, _, _, w => ⟨r, l, .done r l, w⟩
  | x :: w1, w2, r, l, e, m, w => by
    cases w with
    | left N hlt w =>
      obtain ⟨r1, l1, a1, a2⟩ := WayT.split w1 w
      exact ⟨r1, l1, .left N hlt a1, a2⟩
    | right N hlt w =>
      obtain ⟨r1, l1, a1, a2⟩ := WayT.split w1 w
      exact ⟨r1, l1, .right N hlt a1, a2⟩
/-- Nothing on the way to a binding is below it. -/
theorem WayT.above {h : List NodeV} {k : ByteArray} {r : Int} {l : List PairV} {way : List StepV} {e : Int} {m : List PairV} (w : WayT h k r l way e m) (hl : l.length ≤ 2000000) (hb : ∃ q ∈ m, q.1 = k) : ∀ x ∈ way, Go.Abs.above k x.node.2.1 = false := by
  induction w with
  | done r l => exact fun x hx => (by cases hx)
  | left N hlt w ih =>
    rw [mid_len] at hl
    obtain ⟨_, _, _, i4⟩ := w.ok (by omega)
    obtain ⟨q, hq, e⟩ := hb
    intro x hx
    rcases List.mem_cons.1 hx with rfl | hx
    · rw [stV_node, N.key, ← e]
      exact N.under q (List.mem_append_left _ (i4 q hq))
    · exact ih (by omega) ⟨q, hq, e⟩ x hx
  | right N hlt w ih =>
    rw [mid_len] at hl
    obtain ⟨_, _, _, i4⟩ := w.ok (by omega)
    obtain ⟨q, hq, e⟩ := hb
    intro x hx
    rcases List.mem_cons.1 hx with rfl | hx
    · rw [stV_node, N.key, ← e]
      exact N.under q (List.mem_append_right _ (i4 q hq))
    · exact ih (by omega) ⟨q, hq, e⟩ x hx
theorem WayT.refs {h : List NodeV} {k : ByteArray} {r : Int} {l : List PairV} {way : List StepV} {e : Int} {m : List PairV} (w : WayT h k r l way e m) : 0 ≤ r → (way.length : Int) ≤ r := by
  induction w with
  | done r l => exact fun h => h
  | left N hlt w ih =>
    intro h0
    have := ih N.a0
    have := N.a1
    rw [List.length_cons]; omega
  | right N hlt w ih =>
    intro h0
    have := ih N.b0
    have := N.b1
    rw [List.length_cons]; omega
theorem find_mid {L R : List PairV} {p : PairV} (hS : Srt (L ++ p :: R)) : (L ++ p :: R).find? (fun q => decide (q.1 = p.1)) = some p := by
  obtain ⟨s1, s2, s3, s4, _⟩ := srt_three hS
  rw [List.find?_append, List.find?_eq_none.2 (fun q hq => by simpa using ne_of_lt (s3 q hq)), Option.none_or, List.find?_cons, decide_eq_true rfl]
theorem isTree_iff2 {h : List NodeV} {r : Int} : isTreeS h r = true ↔ fitH h r = true ∧ isS (bindsT (U h r)) = true ∧ U h r = treeT (bindsT (U h r)) := by
  unfold isTreeS
  rw [Bool.and_eq_true, Bool.and_eq_true, eqSh_iff]
theorem tree_plan {h news : List NodeV} {s : Int} {l : List PairV} (ho : okH h) (P : PlanOK h news) (H : Has h news s (treeT l)) (hn : h.length + news.length ≤ 40000000) (hS : Srt l) : okH (PS h news) ∧ fitH (PS h news) (fillQ h.length s) = true ∧ bindsT (U (PS h news) (fillQ h.length s)) = l ∧ isTreeS (PS h news) (fillQ h.length s) = true := by
  have hf := fill_in H.lo H.hi
  have hfit : fitH (PS h news) (fillQ h.length s) = true := fitH_iff.2 ⟨hf, P.may⟩
  have hbt : bindsT (U (PS h news) (fillQ h.length s)) = l := by rw [H.shp, bindsT_treeT]
  refine ⟨P.okH ho hn, hfit, hbt, isTree_iff2.2 ⟨hfit, ?_, ?_⟩⟩
  · rw [hbt]; exact srt_isS hS
  · rw [hbt]; exact H.shp
end Go.Proofs.YtmopkbmcilolgaaGreat.AI
set_option linter.unusedVariables false
set_option linter.unusedSimpArgs false
namespace Go.Proofs.YtmopkbmcilolgaaGreat.AI
open Go.Abs
theorem cloneN_any (l : List NodeV) (hl : l.length ≤ 50000000) : slices_Cloneapi_Node_api_Node l = some ((), (l, ())) := by
  rw [slices_Cloneapi_Node_api_Node.eq]
  simp only [ofN_d, lenL_d, eqI_d, br_if, fitL_d, appL_d, List.nil_append]
  by_cases h : l.length = 0
  · rw [if_pos (by omega), if_pos (by omega), List.eq_nil_of_length_eq_zero h, both_self]
  · rw [if_neg (by omega), if_pos (by omega)]
theorem refnew_any (k : Nat) (h : k ≤ 100000000) : ref_New (k : Int) = some (-(k : Int) - 1) := by
  rw [ref_New.eq, ltI_d, br_if, if_neg (by omega), subI_d (by omega) (by omega)]
  exact some_int (by omega)
theorem plAdd (x : Int) {n : NodeV} (o : okN n) (news : List NodeV) (hl : news.length ≤ 1000000) (old : List Int) : plan_Add ((), (x, ((), ()))) n news old = some ((((), (x, ((), ()))), (-(news.length : Int) - 1, ())), ((), (old, (news ++ [n], ())))) := by
  rw [plan_Add.eq, cloneN_any news (by omega), bnd_some, copy_any n o, bnd_some]
  show br (fitL tapiNode (news ++ [n])) (bnd (ref_New (subI .i64 (((news ++ [n]).length : Nat) : Int) 1)) fun r2 => some ((((), (x, ((), ()))), (r2, ())), ((), (old, (news ++ [n], ()))))) none = _
  have e : (news ++ [n]).length = news.length + 1 := by rw [List.length_append]; rfl
  rw [fitL_d, decide_eq_true (by omega), br_t, e, show subI .i64 ((news.length + 1 : Nat) : Int) 1 = (news.length : Int) by rw [subI_d (by omega) (by omega)]; omega, refnew_any _ (by omega), bnd_some]
end Go.Proofs.YtmopkbmcilolgaaGreat.AI
set_option linter.unusedVariables false
set_option linter.unusedSimpArgs false
namespace Go.Proofs.YtmopkbmcilolgaaGreat.AI
open Go.Abs
abbrev StepM : Type := Int × Int × ByteArray × ByteArray × Int × List Int × Int × List PairV × Int × Int × Int × Int × Unit
def stM (r : Int) (n : NodeV) (side sz : Int) : StepM := (r, (n.1, (n.2.1, (n.2.2.1, (n.2.2.2.1, (n.2.2.2.2.1, (n.2.2.2.2.2.1, (n.2.2.2.2.2.2.1, (n.2.2.2.2.2.2.2.1, (n.2.2.2.2.2.2.2.2.1, (side, (sz, ()))))))))))))
def StepM.node (s : StepM) : NodeV := (s.2.1, (s.2.2.1, (s.2.2.2.1, (s.2.2.2.2.1, (s.2.2.2.2.2.1, (s.2.2.2.2.2.2.1, (s.2.2.2.2.2.2.2.1, (s.2.2.2.2.2.2.2.2.1, (s.2.2.2.2.2.2.2.2.2.1, ())))))))))
def StepM.side (s : StepM) : Int := s.2.2.2.2.2.2.2.2.2.2.1
def StepM.sz (s : StepM) : Int := s.2.2.2.2.2.2.2.2.2.2.2.1
abbrev ArmV : Type := Int × Int × ByteArray × ByteArray × Int × List Int × Int × List PairV × Int × Int × Bool × Unit
def arM (r : Int) (n : NodeV) (fed : Bool) : ArmV := (r, (n.1, (n.2.1, (n.2.2.1, (n.2.2.2.1, (n.2.2.2.2.1, (n.2.2.2.2.2.1, (n.2.2.2.2.2.2.1, (n.2.2.2.2.2.2.2.1, (n.2.2.2.2.2.2.2.2.1, (fed, ())))))))))))
def noArm (r : Int) : ArmV := arM r zeroN false
abbrev MergeO : Type := ByteArray × Int × Unit × Int × Int × ByteArray × ByteArray × Int × List Int × Int × List PairV × Int × Int × Int × Int × Bool × Bool × List ArmV × Unit × Unit
abbrev MergeF : Type := ByteArray × Int × List StepM × Int × Int × ByteArray × ByteArray × Int × List Int × Int × List PairV × Int × Int × Int × Int × Bool × Bool × List ArmV × List StepM × Unit
def mgO (key : ByteArray) (want : Int) (e : StepM) (found : Bool) (arms : List ArmV) : MergeO := (key, (want, ((), (e.1, (e.2.1, (e.2.2.1, (e.2.2.2.1, (e.2.2.2.2.1, (e.2.2.2.2.2.1, (e.2.2.2.2.2.2.1, (e.2.2.2.2.2.2.2.1, (e.2.2.2.2.2.2.2.2.1, (e.2.2.2.2.2.2.2.2.2.1, (e.2.2.2.2.2.2.2.2.2.2.1, (e.2.2.2.2.2.2.2.2.2.2.2.1, (found, (false, (arms, ((), ())))))))))))))))))))
def mgF (key : ByteArray) (want : Int) (way : List StepM) (e : StepM) (found : Bool) (arms : List ArmV) (spine : List StepM) : MergeF := (key, (want, (way, (e.1, (e.2.1, (e.2.2.1, (e.2.2.2.1, (e.2.2.2.2.1, (e.2.2.2.2.2.1, (e.2.2.2.2.2.2.1, (e.2.2.2.2.2.2.2.1, (e.2.2.2.2.2.2.2.2.1, (e.2.2.2.2.2.2.2.2.2.1, (e.2.2.2.2.2.2.2.2.2.2.1, (e.2.2.2.2.2.2.2.2.2.2.2.1, (found, (false, (arms, (spine, ())))))))))))))))))))
def noM : StepM := stM 0 zeroN 0 0
theorem mnew_any (root : Int) (key : ByteArray) : merge_New root key = some ((), (mgO key root noM false [noArm 0, noArm 0], ([], ([], ())))) := merge_New.eq _ _
theorem mwant_any (key : ByteArray) (want : Int) (e : StepM) (found : Bool) (arms : List ArmV) (W S : List StepM) : merge_Merge_Want (mgO key want e found arms) W S = some (want, (mgO key want e found arms, (W, (S, ())))) := merge_Merge_Want.eq _ _ _
theorem fitM (W : List StepM) (x : StepM) (h : W.length ≤ 2000000) : fitL tmergestep (appL tmergestep W [x]) = true := by
  rw [fitL_d, appL_d]
  exact decide_eq_true (by rw [List.length_append]; simp only [List.length_cons, List.length_nil]; omega)
/-! ### What is wanted next of two trees -/
section
variable (key : ByteArray) (want : Int) (e : StepM) (found : Bool) (A B : ArmV) (W S : List StepM)
theorem nx_l0 : merge_Merge_next (mgO key want e found [A, B]) W S = br (notB (eqI A.1 0)) (merge_Merge_next.j1 0 1 (notB (eqI B.1 0)) (mgO key want e found [A, B]) W S) (merge_Merge_next.j1 0 1 false (mgO key want e found [A, B]) W S) := by
  rw [merge_Merge_next.eq]
  show br true (br true (merge_Merge_next.l0 0 1 (mgO key want e found [A, B]) W S) none) none = _
  rw [br_t, br_t, merge_Merge_next.l0.eq]
  rfl
theorem nx_j1 : merge_Merge_next.j1 0 1 true (mgO key want e found [A, B]) W S = br (notB A.2.2.2.2.2.2.2.2.2.2.1) (some (A.1, (mgO key want e found [A, B], (W, (S, ()))))) (br (notB B.2.2.2.2.2.2.2.2.2.2.1) (some (B.1, (mgO key want e found [A, B], (W, (S, ()))))) (bnd (pri_Above B.2.2.1 A.2.2.1) fun r0 => br r0 (merge_Merge_next.j2 0 1 1 0 (mgO key want e found [A, B]) W S) (merge_Merge_next.j2 0 1 0 1 (mgO key want e found [A, B]) W S))) := by
  rw [merge_Merge_next.j1.eq, br_t]
  rfl
theorem nx_j1f : merge_Merge_next.j1 0 1 false (mgO key want e found [A, B]) W S = some (0, (mgO key want e found [A, B], (W, (S, ())))) := by
  rw [merge_Merge_next.j1.eq, br_f]
theorem nx_l4 : merge_Merge_next.l4 0 1 (mgO key want e found [A, B]) W S = br (notB (eqI A.1 0)) (merge_Merge_next.j5 0 1 (notB (eqI B.1 0)) (mgO key want e found [A, B]) W S) (merge_Merge_next.j5 0 1 false (mgO key want e found [A, B]) W S) := by
  rw [merge_Merge_next.l4.eq]
  rfl
theorem nx_j5f : merge_Merge_next.j5 0 1 false (mgO key want e found [A, B]) W S = some (0, (mgO key want e found [A, B], (W, (S, ())))) := by
  rw [merge_Merge_next.j5.eq, br_f]
theorem nx_j5 : merge_Merge_next.j5 0 1 true (mgO key want e found [A, B]) W S = br (notB A.2.2.2.2.2.2.2.2.2.2.1) (some (A.1, (mgO key want e found [A, B], (W, (S, ()))))) (br (notB B.2.2.2.2.2.2.2.2.2.2.1) (some (B.1, (mgO key want e found [A, B], (W, (S, ()))))) (bnd (pri_Above B.2.2.1 A.2.2.1) fun r0 => br r0 (merge_Merge_next.j6 0 1 1 0 (mgO key want e found [A, B]) W S) (merge_Merge_next.j6 0 1 0 1 (mgO key want e found [A, B]) W S))) := by
  rw [merge_Merge_next.j5.eq, br_t]
  rfl
/-- What a tree that was fed is, and one that was not. -/
theorem nx_zero (h : A.1 = 0 ∨ B.1 = 0) : merge_Merge_next (mgO key want e found [A, B]) W S = some (0, (mgO key want e found [A, B], (W, (S, ())))) := by
  rw [nx_l0, nx_j1f]
  by_cases ha : A.1 = 0
  · rw [eqI_d, decide_eq_true ha, show notB true = false from rfl, br_f]
  · have hb : B.1 = 0 := h.resolve_left ha
    rw [eqI_d, decide_eq_false ha, eqI_d, decide_eq_true hb, show notB false = true from rfl, show notB true = false from rfl, br_t, nx_j1f]
theorem nx_a (ha : A.1 ≠ 0) (hb : B.1 ≠ 0) (hf : A.2.2.2.2.2.2.2.2.2.2.1 = false) : merge_Merge_next (mgO key want e found [A, B]) W S = some (A.1, (mgO key want e found [A, B], (W, (S, ())))) := by
  rw [nx_l0, eqI_d, decide_eq_false ha, eqI_d, decide_eq_false hb, show notB false = true from rfl, br_t, nx_j1, hf, show notB false = true from rfl, br_t]
theorem nx_b (ha : A.1 ≠ 0) (hb : B.1 ≠ 0) (hf : A.2.2.2.2.2.2.2.2.2.2.1 = true) (hg : B.2.2.2.2.2.2.2.2.2.2.1 = false) : merge_Merge_next (mgO key want e found [A, B]) W S = some (B.1, (mgO key want e found [A, B], (W, (S, ())))) := by
  rw [nx_l0, eqI_d, decide_eq_false ha, eqI_d, decide_eq_false hb, show notB false = true from rfl, br_t, nx_j1, hf, hg, show notB true = false from rfl, show notB false = true from rfl, br_f, br_t]
end
/-- Both were fed: the one that is above stays. -/
theorem nx_step (key : ByteArray) (want : Int) (e : StepM) (found : Bool) {ra rb : Int} (ha : ra ≠ 0) (hb : rb ≠ 0) {m n : NodeV} {a b c d : Int} (hm : m.2.2.2.2.1 = [a, b]) (hn : n.2.2.2.2.1 = [c, d]) (hmk : m.2.1.size ≤ 40) (hnk : n.2.1.size ≤ 40) (hms : 0 ≤ m.2.2.2.2.2.2.2.1 ∧ m.2.2.2.2.2.2.2.1 ≤ 2000000) (hns : 0 ≤ n.2.2.2.2.2.2.2.1 ∧ n.2.2.2.2.2.2.2.1 ≤ 2000000) (W S : List StepM) (hS : S.length ≤ 2000000) :
    merge_Merge_next (mgO key want e found [arM ra m true, arM rb n true]) W S = if above n.2.1 m.2.1 = true then some (c, (mgO key want e found [arM ra m true, noArm c], (W, (S ++ [stM rb n 0 (m.2.2.2.2.2.2.2.1 + n.2.2.2.2.2.2.2.1)], ())))) else some (b, (mgO key want e found [noArm b, arM rb n true], (W, (S ++ [stM ra m 1 (m.2.2.2.2.2.2.2.1 + n.2.2.2.2.2.2.2.1)], ())))) := by
  have esz : addI .i64 m.2.2.2.2.2.2.2.1 n.2.2.2.2.2.2.2.1 = m.2.2.2.2.2.2.2.1 + n.2.2.2.2.2.2.2.1 := addI_d (by omega) (by omega)
  rw [nx_l0]
  show br (notB (eqI ra 0)) (merge_Merge_next.j1 0 1 (notB (eqI rb 0)) _ W S) _ = _
  rw [eqI_d, decide_eq_false ha, eqI_d, decide_eq_false hb, show notB false = true from rfl, br_t, nx_j1]
  show br (notB true) _ (br (notB true) _ (bnd (pri_Above n.2.1 m.2.1) _)) = _
  rw [show notB true = false from rfl, br_f, br_f, above_any _ _ (by omega) (by omega), bnd_some]
  cases above n.2.1 m.2.1 with
  | true =>
    rw [br_t, if_pos rfl, merge_Merge_next.j2.eq]
    have hf := fitM S (stM rb n 0 (m.2.2.2.2.2.2.2.1 + n.2.2.2.2.2.2.2.1)) hS
    show br (fitL tmergestep (appL tmergestep S [stM rb n 0 (addI .i64 m.2.2.2.2.2.2.2.1 n.2.2.2.2.2.2.2.1)])) (merge_Merge_next.j3 0 1 1 0 (mgO key want e found [arM ra m true, arM rb n true]) W (S ++ [stM rb n 0 (addI .i64 m.2.2.2.2.2.2.2.1 n.2.2.2.2.2.2.2.1)])) none = _
    rw [esz, hf, br_t, merge_Merge_next.j3.eq]
    show br (andB (leI 0 0) (ltI 0 (ofN (lenL (.int .i64) n.2.2.2.2.1)))) (merge_Merge_next.l4 0 1 (mgO key want e found [arM ra m true, noArm (ixL (.int .i64) n.2.2.2.2.1 0)]) W _) none = _
    rw [hn]
    show br true (merge_Merge_next.l4 0 1 (mgO key want e found [arM ra m true, noArm c]) W _) none = _
    rw [br_t, nx_l4]
    show br (notB (eqI ra 0)) (merge_Merge_next.j5 0 1 (notB (eqI c 0)) _ W _) _ = _
    rw [eqI_d, decide_eq_false ha, show notB false = true from rfl, br_t, eqI_d]
    by_cases hc : c = 0
    · rw [decide_eq_true hc, show notB true = false from rfl, nx_j5f, hc]
    · rw [decide_eq_false hc, show notB false = true from rfl, nx_j5]
      show br (notB true) _ (br (notB false) _ _) = _
      rw [show notB true = false from rfl, br_f, show notB false = true from rfl, br_t]
      rfl
  | false =>
    rw [br_f, if_neg (by simp), merge_Merge_next.j2.eq]
    have hf := fitM S (stM ra m 1 (m.2.2.2.2.2.2.2.1 + n.2.2.2.2.2.2.2.1)) hS
    show br (fitL tmergestep (appL tmergestep S [stM ra m 1 (addI .i64 m.2.2.2.2.2.2.2.1 n.2.2.2.2.2.2.2.1)])) (merge_Merge_next.j3 0 1 0 1 (mgO key want e found [arM ra m true, arM rb n true]) W (S ++ [stM ra m 1 (addI .i64 m.2.2.2.2.2.2.2.1 n.2.2.2.2.2.2.2.1)])) none = _
    rw [esz, hf, br_t, merge_Merge_next.j3.eq]
    show br (andB (leI 0 1) (ltI 1 (ofN (lenL (.int .i64) m.2.2.2.2.1)))) (merge_Merge_next.l4 0 1 (mgO key want e found [noArm (ixL (.int .i64) m.2.2.2.2.1 1), arM rb n true]) W _) none = _
    rw [hm]
    show br true (merge_Merge_next.l4 0 1 (mgO key want e found [noArm b, arM rb n true]) W _) none = _
    rw [br_t, nx_l4]
    show br (notB (eqI b 0)) (merge_Merge_next.j5 0 1 (notB (eqI rb 0)) _ W _) _ = _
    rw [nx_j5f]
    by_cases hc : b = 0
    · rw [eqI_d, decide_eq_true hc, show notB true = false from rfl, br_f, hc]
    · rw [eqI_d, decide_eq_false hc, show notB false = true from rfl, br_t, eqI_d, decide_eq_false hb, show notB false = true from rfl, nx_j5]
      show br (notB false) _ _ = _
      rw [show notB false = true from rfl, br_t]
      rfl
end Go.Proofs.YtmopkbmcilolgaaGreat.AI
set_option linter.unusedVariables false
set_option linter.unusedSimpArgs false
namespace Go.Proofs.YtmopkbmcilolgaaGreat.AI
open Go.Abs
def setWant (x : MergeO) (w : Int) : MergeO := (x.1, (w, x.2.2))
/-- What was answered of what is wanted next. -/
def fedM (z : Option (Int × MergeO × List StepM × List StepM × Unit)) : Option (Unit × MergeO × List StepM × List StepM × Unit) := bnd z fun r => some ((), (setWant r.2.1 r.1, (r.2.2.1, (r.2.2.2.1, ()))))
theorem fedM_some (w : Int) (key : ByteArray) (want : Int) (e : StepM) (found : Bool) (arms : List ArmV) (W S : List StepM) : fedM (some (w, (mgO key want e found arms, (W, (S, ()))))) = some ((), (mgO key w e found arms, (W, (S, ())))) := rfl
/-- A node of a tree is fed, on the way to the key. -/
theorem mfeed_way {key : ByteArray} (hkey : key.size ≤ 1000000) {r : Int} (hr : r ≠ 0) (e : StepM) (arms : List ArmV) (W S : List StepM) (hW : W.length ≤ 2000000) {n : NodeV} (h4 : n.1 = 4) {a b : Int} (hk : n.2.2.2.2.1 = [a, b]) (hz : 0 ≤ n.2.2.2.2.2.2.2.1 ∧ n.2.2.2.2.2.2.2.1 ≤ 2000000) :
    merge_Merge_Feed n (mgO key r e false arms) W S = if key = n.2.1 then fedM (merge_Merge_next (mgO key 0 (stM r n 0 0) true [noArm a, noArm b]) W S) else if lt key n.2.1 = true then some ((), (mgO key a e false arms, (W ++ [stM r n 0 (n.2.2.2.2.2.2.2.1 - 1)], (S, ())))) else some ((), (mgO key b e false arms, (W ++ [stM r n 1 (n.2.2.2.2.2.2.2.1 - 1)], (S, ())))) := by
  have hl : ofN (lenL (.int .i64) n.2.2.2.2.1) = 2 := by rw [hk]; rfl
  have i0 : andB (leI 0 0) (ltI 0 (ofN (lenL (.int .i64) n.2.2.2.2.1))) = true := by rw [hk]; rfl
  have i1 : andB (leI 0 1) (ltI 1 (ofN (lenL (.int .i64) n.2.2.2.2.1))) = true := by rw [hk]; rfl
  have x0 : ixL (.int .i64) n.2.2.2.2.1 0 = a := by rw [hk]; rfl
  have x1 : ixL (.int .i64) n.2.2.2.2.1 1 = b := by rw [hk]; rfl
  have es : subI .i64 n.2.2.2.2.2.2.2.1 1 = n.2.2.2.2.2.2.2.1 - 1 := subI_d (by omega) (by omega)
  have hfd : merge_Merge_Feed n (mgO key r e false arms) W S = merge_Merge_Feed.j0 r false (mgO key 0 e false arms) W S n := by
    rw [merge_Merge_Feed.eq]
    show bnd (merge_Merge_Want (mgO key r e false arms) W S) _ = _
    rw [mwant_any, bnd_some]
    dsimp only
    rw [eqI_d, decide_eq_false hr, br_f, eqI_d, decide_eq_true h4, show notB true = false from rfl, br_f, hl, show notB (eqI 2 2) = false from rfl]
    rfl
  have hj0 : merge_Merge_Feed.j0 r false (mgO key 0 e false arms) W S n = bnd (merge_Merge_into r n (mgO key 0 e false arms) W S) fun r0 => some ((), (r0.2.1, (r0.2.2.1, (r0.2.2.2.1, ())))) := by
    rw [merge_Merge_Feed.j0.eq, br_f]
    show br true (bnd (merge_Merge_into r n (mgO key 0 e false arms) W S) _) _ = _
    rw [br_t]
  have hc : order_Compare (mgO key 0 e false arms).1 n.2.1 = some (cmp key n.2.1) := compare_any key n.2.1 (by omega)
  rw [hfd, hj0, merge_Merge_into.eq, hc, bnd_some, eqI_d, br_if]
  by_cases c0 : key = n.2.1
  · rw [if_pos c0, if_pos (cmp_eq.2 c0), i0, br_t, i1, br_t, x0, x1]
    show bnd (bnd (merge_Merge_next (mgO key 0 (stM r n 0 0) true [noArm a, noArm b]) W S) _) _ = fedM (merge_Merge_next (mgO key 0 (stM r n 0 0) true [noArm a, noArm b]) W S)
    cases merge_Merge_next (mgO key 0 (stM r n 0 0) true [noArm a, noArm b]) W S with
    | none => rfl
    | some z => rfl
  · rw [if_neg c0, if_neg (fun q => c0 (cmp_eq.1 q)), ltI_d, br_if]
    by_cases c1 : lt key n.2.1 = true
    · rw [if_pos c1, if_neg (fun q => by have := cmp_pos.1 q; rw [lt_asymm c1] at this; cases this), merge_Merge_into.j0.eq, i0, br_t, x0, es]
      have hf := fitM W (stM r n 0 (n.2.2.2.2.2.2.2.1 - 1)) hW
      show bnd (br (fitL tmergestep (appL tmergestep W [stM r n 0 (n.2.2.2.2.2.2.2.1 - 1)])) _ none) _ = _
      rw [hf, br_t, bnd_some]
      rfl
    · have c2 : lt n.2.1 key = true := by
        rcases tri key n.2.1 with ⟨q, _⟩ | ⟨q, _⟩ | ⟨q, _⟩
        · exact absurd q c1
        · exact absurd q c0
        · exact q
      rw [if_neg c1, if_pos (cmp_pos.2 c2), merge_Merge_into.j0.eq, i1, br_t, x1, es]
      have hf := fitM W (stM r n 1 (n.2.2.2.2.2.2.2.1 - 1)) hW
      show bnd (br (fitL tmergestep (appL tmergestep W [stM r n 1 (n.2.2.2.2.2.2.2.1 - 1)])) _ none) _ = _
      rw [hf, br_t, bnd_some]
      rfl
/-- A node of one of the two trees is fed. -/
theorem mfeed_arm (key : ByteArray) {r : Int} (hr : r ≠ 0) (e : StepM) (A B : ArmV) (W S : List StepM) {n : NodeV} (h4 : n.1 = 4) {a b : Int} (hk : n.2.2.2.2.1 = [a, b]) :
    merge_Merge_Feed n (mgO key r e true [A, B]) W S = if A.2.2.2.2.2.2.2.2.2.2.1 = true then fedM (merge_Merge_next (mgO key 0 e true [A, arM r n true]) W S) else fedM (merge_Merge_next (mgO key 0 e true [arM r n true, B]) W S) := by
  have hl : ofN (lenL (.int .i64) n.2.2.2.2.1) = 2 := by rw [hk]; rfl
  have hfd : merge_Merge_Feed n (mgO key r e true [A, B]) W S = merge_Merge_Feed.j0 r false (mgO key 0 e true [A, B]) W S n := by
    rw [merge_Merge_Feed.eq]
    show bnd (merge_Merge_Want (mgO key r e true [A, B]) W S) _ = _
    rw [mwant_any, bnd_some]
    dsimp only
    rw [eqI_d, decide_eq_false hr, br_f, eqI_d, decide_eq_true h4, show notB true = false from rfl, br_f, hl, show notB (eqI 2 2) = false from rfl]
    rfl
  have hj0 : merge_Merge_Feed.j0 r false (mgO key 0 e true [A, B]) W S n = br A.2.2.2.2.2.2.2.2.2.2.1 (merge_Merge_Feed.j1 r 1 (mgO key 0 e true [A, B]) W S n) (merge_Merge_Feed.j1 r 0 (mgO key 0 e true [A, B]) W S n) := by
    rw [merge_Merge_Feed.j0.eq, br_f]
    show br false _ (br true (br A.2.2.2.2.2.2.2.2.2.2.1 (merge_Merge_Feed.j1 r 1 (mgO key 0 e true [A, B]) W S n) (merge_Merge_Feed.j1 r 0 (mgO key 0 e true [A, B]) W S n)) none) = _
    rw [br_f, br_t]
  rw [hfd, hj0]
  cases A.2.2.2.2.2.2.2.2.2.2.1 with
  | true =>
    rw [br_t, if_pos rfl, merge_Merge_Feed.j1.eq]
    show br true (bnd (merge_Merge_next (mgO key 0 e true [A, arM r n true]) W S) _) none = _
    rw [br_t]
    cases merge_Merge_next (mgO key 0 e true [A, arM r n true]) W S with
    | none => rfl
    | some z => rfl
  | false =>
    rw [br_f, if_neg (by simp), merge_Merge_Feed.j1.eq]
    show br true (bnd (merge_Merge_next (mgO key 0 e true [arM r n true, B]) W S) _) none = _
    rw [br_t]
    cases merge_Merge_next (mgO key 0 e true [arM r n true, B]) W S with
    | none => rfl
    | some z => rfl
/-! ### Backwards -/
theorem mback_loop (l : List StepM) (hl : l.length ≤ 50000000) : ∀ (n : Nat), n ≤ l.length → ∃ ys : List (Int × StepM × Unit), slices_Backwardmerge_step_merge_step_1.l0 l ((n : Int) - 1) = some ys ∧ ys.map (fun y => y.2.1) = (l.take n).reverse
  | 0, _ => by
    refine ⟨[], ?_, rfl⟩
    rw [slices_Backwardmerge_step_merge_step_1.l0.eq]
    rfl
  | n + 1, h => by
    obtain ⟨ys, e, m⟩ := mback_loop l hl n (by omega)
    have hi : n < l.length := by omega
    have ex : ixL tmergestep l (((n + 1 : Nat) : Int) - 1) = l[n] := by
      rw [show ((n + 1 : Nat) : Int) - 1 = (n : Int) by omega]
      exact ixL_d tmergestep l n hi
    have es : subI .i64 (((n + 1 : Nat) : Int) - 1) 1 = (n : Int) - 1 := by rw [subI_d (by omega) (by omega)]; omega
    refine ⟨(((n + 1 : Nat) : Int) - 1, (l[n], ())) :: ys, ?_, ?_⟩
    · rw [slices_Backwardmerge_step_merge_step_1.l0.eq, yieldW_eq, ex, es, e, show notB true = false from rfl, show notB false = true from rfl, br_f, br_t]
      simp only [leI_d, ltI_d, andB_d, ofN_d, lenL_d, br_if]
      rw [if_pos (by omega), if_pos (by omega)]
      exact yieldL_iff.2 ⟨rfl, ys, rfl, rfl⟩
    · rw [List.map_cons, m, List.take_succ_eq_append_getElem hi, List.reverse_append]
      rfl
theorem mback_any (l : List StepM) (hl : l.length ≤ 50000000) : ∃ ys : List (Int × StepM × Unit), slices_Backwardmerge_step_merge_step_1 l = some ys ∧ ys.map (fun y => y.2.1) = l.reverse := by
  obtain ⟨ys, e, m⟩ := mback_loop l hl l.length (Nat.le_refl _)
  rw [List.take_length] at m
  refine ⟨ys, ?_, m⟩
  rw [slices_Backwardmerge_step_merge_step_1.eq, show subI .i64 (ofN (lenL tmergestep l)) 1 = (l.length : Int) - 1 from subI_d (by show _ ≤ ((l.length : Nat) : Int) - 1; omega) (by show ((l.length : Nat) : Int) - 1 ≤ _; omega)]
  exact e
/-! ### What stands on a way, made anew -/
structure okM (x : StepM) : Prop where
  kids : ∃ a b, x.node.2.2.2.2.1 = [a, b]
  side : x.side = 0 ∨ x.side = 1
  key : x.node.2.1.size ≤ 40
  val : x.node.2.2.1.size ≤ 40
def upM : List StepM → PlanS → PlanS
  | [], s => s
  | x :: xs, s => upM xs (s.1 ++ [sideN x.node x.side s.2.2 (max x.sz 1)], (s.2.1 ++ [x.1], -(s.1.length : Int) - 1))
theorem mwith_any {x : StepM} (o : okM x) (r : Int) : merge_with x r = some (sideN x.node x.side r (max x.sz 1)) := by
  obtain ⟨a, b, hk⟩ := o.kids
  have hk' : x.2.2.2.2.2.1 = [a, b] := hk
  have hmx : maxI x.2.2.2.2.2.2.2.2.2.2.2.1 1 = max x.sz 1 := maxI_d _ _
  rw [merge_with.eq, hk', cloneR_any _ (by show 2 ≤ _; omega), bnd_some, hmx]
  unfold sideN
  rw [hk]
  rcases o.side with hs | hs
  · have hs' : x.2.2.2.2.2.2.2.2.2.2.1 = 0 := hs
    rw [hs', hs]
    show br true (br true (br true (both (both _ _) (both (both _ _) (both _ _))) none) none) none = _
    simp only [br_t, both_self]
    rw [node_Tree.eq, bnd_some]
    rfl
  · have hs' : x.2.2.2.2.2.2.2.2.2.2.1 = 1 := hs
    rw [hs', hs]
    show br true (br true (br true (both (both _ _) (both (both _ _) (both _ _))) none) none) none = _
    simp only [br_t, both_self]
    rw [node_Tree.eq, bnd_some]
    rfl
theorem mup_e1 (x3 x5 x6) : ∀ (ys : List (Int × StepM × Unit)) (xs : List StepM) (x1) (news : List NodeV) (old : List Int) (r : Int), ys.map (fun y => y.2.1) = xs → (∀ x ∈ xs, okM x) → news.length + xs.length ≤ 10000 → old.length + xs.length ≤ 10000 →
    merge_up.e1 ys old x1 r x3 news x5 x6 = some ((((), (x1.2.1, ((), ()))), ((upM xs (news, (old, r))).2.2, ())), ((upM xs (news, (old, r))).2.1, ((upM xs (news, (old, r))).1, ())))
  | [], xs, x1, news, old, r, e, _, _, _ => by
    cases e
    rw [merge_up.e1.nil, both_self]
    rfl
  | y :: ys, xs, x1, news, old, r, e, ho, h1, h2 => by
    cases e
    simp only [List.map_cons, List.length_cons] at h1 h2
    have o := ho y.2.1 (by simp)
    have hfit : fitL (.int .i64) (appL (.int .i64) old (y.2.1.1 :: [])) = true := by
      rw [fitL_d, appL_d]
      exact decide_eq_true (by rw [List.length_append]; simp only [List.length_cons, List.length_nil]; omega)
    rw [merge_up.e1.cons, hfit, br_t, mwith_any o, bnd_some, plAdd _ (sideN_ok o.key o.val _ _ _) news (by omega), bnd_some]
    exact mup_e1 ((), (x3.2.1, ((), ()))) x5 x6 ys (ys.map fun y => y.2.1) ((), (x1.2.1, ((), ()))) (news ++ [sideN y.2.1.node y.2.1.side r (max y.2.1.sz 1)]) (old ++ [y.2.1.1]) (-(news.length : Int) - 1) rfl (fun x hx => ho x (List.mem_cons_of_mem _ hx)) (by rw [List.length_append]; simp only [List.length_cons, List.length_nil]; omega) (by rw [List.length_append]; simp only [List.length_cons, List.length_nil]; omega)
theorem mup_e0 (ys : List (Int × StepM × Unit)) (x0 x1 x2 x3 x4 x5 x6) : merge_up.e0 ys x0 x1 x2 x3 x4 x5 x6 = merge_up.e1 ys x0 x1 x2 x3 x4 x5 x6 := by
  cases ys with
  | nil => exact (merge_up.e0.nil ..).trans (merge_up.e1.nil ..).symm
  | cons y ys => exact (merge_up.e0.cons ..).trans (merge_up.e1.cons ..).symm
theorem mup2_e1 (x3 x5 x6) : ∀ (ys : List (Int × StepM × Unit)) (xs : List StepM) (x1) (news : List NodeV) (old : List Int) (r : Int), ys.map (fun y => y.2.1) = xs → (∀ x ∈ xs, okM x) → news.length + xs.length ≤ 10000 → old.length + xs.length ≤ 10000 →
    merge_up_v1.e1 ys old x1 r x3 news x5 x6 = some ((((), (x1.2.1, ((), ()))), ((upM xs (news, (old, r))).2.2, ())), ((upM xs (news, (old, r))).1, ((upM xs (news, (old, r))).2.1, ())))
  | [], xs, x1, news, old, r, e, _, _, _ => by
    cases e
    rw [merge_up_v1.e1.nil, both_self]
    rfl
  | y :: ys, xs, x1, news, old, r, e, ho, h1, h2 => by
    cases e
    simp only [List.map_cons, List.length_cons] at h1 h2
    have o := ho y.2.1 (by simp)
    have hfit : fitL (.int .i64) (appL (.int .i64) old (y.2.1.1 :: [])) = true := by
      rw [fitL_d, appL_d]
      exact decide_eq_true (by rw [List.length_append]; simp only [List.length_cons, List.length_nil]; omega)
    rw [merge_up_v1.e1.cons, hfit, br_t, mwith_any o, bnd_some, plAdd _ (sideN_ok o.key o.val _ _ _) news (by omega), bnd_some]
    exact mup2_e1 ((), (x3.2.1, ((), ()))) x5 x6 ys (ys.map fun y => y.2.1) ((), (x1.2.1, ((), ()))) (news ++ [sideN y.2.1.node y.2.1.side r (max y.2.1.sz 1)]) (old ++ [y.2.1.1]) (-(news.length : Int) - 1) rfl (fun x hx => ho x (List.mem_cons_of_mem _ hx)) (by rw [List.length_append]; simp only [List.length_cons, List.length_nil]; omega) (by rw [List.length_append]; simp only [List.length_cons, List.length_nil]; omega)
theorem mup2_e0 (ys : List (Int × StepM × Unit)) (x0 x1 x2 x3 x4 x5 x6) : merge_up_v1.e0 ys x0 x1 x2 x3 x4 x5 x6 = merge_up_v1.e1 ys x1 x2 x3 x4 x0 x5 x6 := by
  cases ys with
  | nil => exact (merge_up_v1.e0.nil ..).trans (merge_up_v1.e1.nil ..).symm
  | cons y ys => exact (merge_up_v1.e0.cons ..).trans (merge_up_v1.e1.cons ..).symm
theorem upM_len : ∀ (xs : List StepM) (s : PlanS), (upM xs s).1.length = s.1.length + xs.length ∧ (upM xs s).2.1.length = s.2.1.length + xs.length
  | [], s => ⟨rfl, rfl⟩
  | x :: xs, s => by
    obtain ⟨h1, h2⟩ := upM_len xs (s.1 ++ [sideN x.node x.side s.2.2 (max x.sz 1)], (s.2.1 ++ [x.1], -(s.1.length : Int) - 1))
    rw [upM, h1, h2, List.length_append, List.length_append]
    simp only [List.length_cons, List.length_nil]
    omega
theorem upM_app : ∀ (a b : List StepM) (s : PlanS), upM (a ++ b) s = upM b (upM a s)
  | [], b, s => rfl
  | x :: a, b, s => upM_app a b _
theorem upM_old : ∀ (xs : List StepM) (s : PlanS), (upM xs s).2.1 = s.2.1 ++ xs.map (·.1)
  | [], s => by simp [upM]
  | x :: xs, s => by rw [upM, upM_old xs]; simp
/-- What a merge makes. -/
def mergeP (e : StepM) (rest : Int) (W S : List StepM) : PlanS := upM W.reverse (upM S.reverse ([], ([e.1], rest)))
def planM (key : ByteArray) (W : List StepM) (e : StepM) (found : Bool) (arms : List ArmV) (S : List StepM) (s : PlanS) (is : Bool) : (((Unit × Int × Unit × Unit) × Bool × Unit) × MergeF × Unit × Unit × List NodeV × List Int × Unit) := ((((), (s.2.2, ((), ()))), (is, ())), (mgF key 0 W e found arms S, ((), ((), (s.1, (s.2.1, ()))))))
theorem mplan_some (key : ByteArray) (e : StepM) (A B : ArmV) (W S : List StepM) (hW : W.length ≤ 2000) (hS : S.length ≤ 2000) (oW : ∀ x ∈ W, okM x) (oS : ∀ x ∈ S, okM x) :
    merge_Merge_Plan_v1 (mgO key 0 e true [A, B]) W S = some (planM key W e true [A, B] S (mergeP e (if A.1 = 0 then B.1 else A.1) W S) true) := by
  have ha : merge_Merge_Answer_o (mgF key 0 W e true [A, B] S) = some ((e.2.2.2.1, (true, ())), (mgF key 0 W e true [A, B] S, ())) := by
    rw [merge_Merge_Answer_o.eq]
    show br (notB (eqI 0 0)) _ (br (notB true) _ (merge_Merge_Answer_o.j0 false (mgF key 0 W e true [A, B] S))) = _
    rw [show notB (eqI 0 0) = false from rfl, br_f, show notB true = false from rfl, br_f, merge_Merge_Answer_o.j0.eq, br_f]
    rfl
  have hj : ∀ rest : Int, merge_Merge_Plan_v1.j0 rest (mgF key 0 W e true [A, B] S) ((), ((0 : Int), ((), ()))) [] [] = some (planM key W e true [A, B] S (mergeP e rest W S) true) := by
    intro rest
    obtain ⟨ys, e1, e2⟩ := mback_any S (by omega)
    obtain ⟨zs, f1, f2⟩ := mback_any W (by omega)
    obtain ⟨u1, u2⟩ := upM_len S.reverse ([], ([e.1], rest))
    rw [List.length_reverse] at u1 u2
    dsimp only [List.length_nil, List.length_cons] at u1 u2
    have hu1 : merge_up ((), ((0 : Int), ((), ()))) rest S [e.1] = some ((((), ((0 : Int), ((), ()))), ((upM S.reverse ([], ([e.1], rest))).2.2, ())), ((upM S.reverse ([], ([e.1], rest))).2.1, ((upM S.reverse ([], ([e.1], rest))).1, ()))) := by
      rw [merge_up.eq, slices_Backwardmerge_step_merge_step.eq, bnd_some]
      dsimp only
      rw [e1, bnd_some, mup_e0]
      exact mup_e1 _ _ _ ys S.reverse ((), ((0 : Int), ((), ()))) [] [e.1] rest e2 (fun x hx => oS x (List.mem_reverse.1 hx)) (by rw [List.length_reverse]; show 0 + _ ≤ _; omega) (by rw [List.length_reverse]; show 1 + _ ≤ _; omega)
    have hu2 : ∀ s : PlanS, s.1.length ≤ 5000 → s.2.1.length ≤ 5000 → merge_up_v1 ((), ((0 : Int), ((), ()))) s.2.2 W s.1 s.2.1 = some ((((), ((0 : Int), ((), ()))), ((upM W.reverse s).2.2, ())), ((upM W.reverse s).1, ((upM W.reverse s).2.1, ()))) := fun s n1 n2 => by
      rw [merge_up_v1.eq, slices_Backwardmerge_step_merge_step.eq, bnd_some]
      dsimp only
      rw [f1, bnd_some, mup2_e0]
      exact mup2_e1 _ _ _ zs W.reverse ((), ((0 : Int), ((), ()))) s.1 s.2.1 s.2.2 f2 (fun x hx => oW x (List.mem_reverse.1 hx)) (by rw [List.length_reverse]; omega) (by rw [List.length_reverse]; omega)
    rw [merge_Merge_Plan_v1.j0.eq]
    show both (both (bnd (merge_up ((), ((0 : Int), ((), ()))) rest S [e.1]) _) (bnd (merge_up ((), ((0 : Int), ((), ()))) rest S [e.1]) _)) (bnd (merge_up ((), ((0 : Int), ((), ()))) rest S [e.1]) _) = _
    rw [hu1]
    simp only [bnd_some, both_self]
    show bnd (merge_up_v1 ((), ((0 : Int), ((), ()))) (upM S.reverse ([], ([e.1], rest))).2.2 W (upM S.reverse ([], ([e.1], rest))).1 (upM S.reverse ([], ([e.1], rest))).2.1) _ = _
    rw [hu2 _ (by omega) (by omega), bnd_some]
    rfl
  rw [merge_Merge_Plan_v1.eq]
  show bnd (merge_Merge_Answer_o (mgF key 0 W e true [A, B] S)) _ = _
  rw [ha, bnd_some]
  show br (notB true) _ (br true (br (eqI A.1 0) (br true (merge_Merge_Plan_v1.j0 B.1 (mgF key 0 W e true [A, B] S) ((), ((0 : Int), ((), ()))) [] []) none) (merge_Merge_Plan_v1.j0 A.1 (mgF key 0 W e true [A, B] S) ((), ((0 : Int), ((), ()))) [] [])) none) = _
  rw [show notB true = false from rfl, br_f, br_t, br_t, hj, hj, eqI_d, br_if]
  split <;> rfl
theorem mplan_none (key : ByteArray) (e : StepM) (arms : List ArmV) (W S : List StepM) : merge_Merge_Plan_v1 (mgO key 0 e false arms) W S = some (planM key W e false arms S ([], ([], 0)) false) := by
  have ha : merge_Merge_Answer_o (mgF key 0 W e false arms S) = some ((ByteArray.empty, (false, ())), (mgF key 0 W e false arms S, ())) := by
    rw [merge_Merge_Answer_o.eq]
    show br (notB (eqI 0 0)) _ (br (notB false) (merge_Merge_Answer_o.j0 true (mgF key 0 W e false arms S)) _) = _
    rw [show notB (eqI 0 0) = false from rfl, br_f, show notB false = true from rfl, br_t, merge_Merge_Answer_o.j0.eq, br_t]
  rw [merge_Merge_Plan_v1.eq]
  show bnd (merge_Merge_Answer_o (mgF key 0 W e false arms S)) _ = _
  rw [ha, bnd_some]
  rfl
end Go.Proofs.YtmopkbmcilolgaaGreat.AI
