/- Plans: whether they may be, and what is done: what the functions do, plainly. No conditions but those that each names. -/
import Derived.Test.YtobfcaejpcpboaaP18V
set_option linter.unusedVariables false
set_option linter.unusedSimpArgs false
namespace Go.Proofs.Ytobfcaejpcpboaa.AV
open Go.Abs
/-! ### Whether a plan may be -/
theorem ahead_any (r : Int) (h : rng r) (i : Nat) (hi : i ≤ 1000000) : plan_ahead r i = some (decide (-(i : Int) ≤ r)) := by
  unfold rng at h
  rw [plan_ahead.eq, which_any r h, bnd_some]
  by_cases h1 : r < 0
  · rw [if_pos h1, show notB true = false from rfl, br_f, ltI_d]
    exact some_bool (decide_eq_decide.2 (by omega))
  · rw [if_neg h1, show notB false = true from rfl, br_t]
    exact some_bool (decide_eq_true (by omega)).symm
theorem any_drop {p : Int → Bool} (l : List Int) (i : Nat) (h : i < l.length) : (l.drop i).any p = (p l[i] || (l.drop (i + 1)).any p) := by
  rw [List.drop_eq_getElem_cons h, List.any_cons]
theorem index0 (l : List Int) (hl : l.length ≤ 1000000) (hr : ∀ r ∈ l, rng r) (b : Nat) (hb : b ≤ 1000000) (d : Nat) : ∀ (i : Nat), i ≤ l.length → l.length - i = d → ∃ x : Int, slices_IndexFuncapi_Ref_api_Ref.l0 l ((), ()) l.length i b = some (x, ((b : Int), ())) ∧ (0 ≤ x ↔ (l.drop i).any (fun r => !decide (-(b : Int) ≤ r)) = true) := by
  induction d with
  | zero =>
    intro i hi hd
    rw [slices_IndexFuncapi_Ref_api_Ref.l0.eq]
    simp only [ltI_d, br_if]
    rw [if_neg (by omega), List.drop_eq_nil_of_le (by omega)]
    exact ⟨-1, rfl, by simp⟩
  | succ d ih =>
    intro i hi hd
    have hil : i < l.length := by omega
    rw [slices_IndexFuncapi_Ref_api_Ref.l0.eq, ixR l i hil, plan_May_1.eq, ahead_any _ (hr _ (List.getElem_mem hil)) b hb, bnd_some, bnd_some]
    simp only [ltI_d, leI_d, notB_d, ofN_d, lenL_d, andB_d, br_if]
    rw [if_pos (by omega), if_pos (by omega), add1 i (by omega), any_drop l i hil]
    by_cases h1 : -(b : Int) ≤ l[i]
    · rw [if_neg (fun q => q h1), decide_eq_true h1, Bool.not_true, Bool.false_or]
      exact ih (i + 1) (by omega) (by omega)
    · rw [if_pos h1, decide_eq_false h1, Bool.not_false, Bool.true_or]
      exact ⟨i, rfl, fun _ => rfl, fun _ => by omega⟩
theorem contains0 (l : List Int) (hl : l.length ≤ 1000000) (hr : ∀ r ∈ l, rng r) (b : Nat) (hb : b ≤ 1000000) : slices_ContainsFuncapi_Ref_api_Ref l ((), ()) b = some (l.any (fun r => !decide (-(b : Int) ≤ r)), ((b : Int), ())) := by
  obtain ⟨x, h1, h2⟩ := index0 l hl hr b hb l.length 0 (by omega) (by omega)
  rw [slices_ContainsFuncapi_Ref_api_Ref.eq, slices_IndexFuncapi_Ref_api_Ref.eq]
  have h1 : slices_IndexFuncapi_Ref_api_Ref.l0 l ((), ()) (ofN (lenL (.int .i64) l)) 0 b = some (x, ((b : Int), ())) := h1
  rw [h1, bnd_some, leI_d]
  rw [List.drop_zero] at h2
  have : decide ((0 : Int) ≤ x) = l.any (fun r => !decide (-(b : Int) ≤ r)) := by rw [Bool.eq_iff_iff, decide_eq_true_iff]; exact h2
  rw [this]
theorem index1 (l : List Int) (hl : l.length ≤ 1000000) (d : Nat) : ∀ (i : Nat), i ≤ l.length → l.length - i = d → ∃ x : Int, slices_IndexFuncapi_Ref_api_Ref_v1.l0 l l.length i = some x ∧ (0 ≤ x ↔ (l.drop i).any (fun r => decide (r ≤ 0)) = true) := by
  induction d with
  | zero =>
    intro i hi hd
    rw [slices_IndexFuncapi_Ref_api_Ref_v1.l0.eq]
    simp only [ltI_d, br_if]
    rw [if_neg (by omega), List.drop_eq_nil_of_le (by omega)]
    exact ⟨-1, rfl, by simp⟩
  | succ d ih =>
    intro i hi hd
    have hil : i < l.length := by omega
    rw [slices_IndexFuncapi_Ref_api_Ref_v1.l0.eq, ixR l i hil, plan_May_2.eq, bnd_some]
    simp only [ltI_d, leI_d, notB_d, ofN_d, lenL_d, andB_d, br_if]
    rw [if_pos (by omega), if_pos (by omega), add1 i (by omega), any_drop l i hil]
    by_cases h1 : l[i] ≤ 0
    · rw [if_pos h1, decide_eq_true h1, Bool.true_or]
      exact ⟨i, rfl, fun _ => rfl, fun _ => by omega⟩
    · rw [if_neg h1, decide_eq_false h1, Bool.false_or]
      exact ih (i + 1) (by omega) (by omega)
theorem contains1 (l : List Int) (hl : l.length ≤ 1000000) : slices_ContainsFuncapi_Ref_api_Ref_v1 l = some (l.any (fun r => decide (r ≤ 0))) := by
  obtain ⟨x, h1, h2⟩ := index1 l hl l.length 0 (by omega) (by omega)
  rw [slices_ContainsFuncapi_Ref_api_Ref_v1.eq, slices_IndexFuncapi_Ref_api_Ref_v1.eq]
  have h1 : slices_IndexFuncapi_Ref_api_Ref_v1.l0 l (ofN (lenL (.int .i64) l)) 0 = some x := h1
  rw [h1, bnd_some, leI_d]
  rw [List.drop_zero] at h2
  exact some_bool (by rw [Bool.eq_iff_iff, decide_eq_true_iff]; exact h2)
theorem index2 (h : List NodeV) (l : List Int) (hl : l.length ≤ 1000000) (d : Nat) : ∀ (i : Nat), i ≤ l.length → l.length - i = d → ∃ x : Int, slices_IndexFuncapi_Ref_api_Ref_v2.l0 l ((), ()) l.length i h = some (x, (h, ())) ∧ (0 ≤ x ↔ (l.drop i).any (fun r => !decide (r ≤ (h.length : Int))) = true) := by
  induction d with
  | zero =>
    intro i hi hd
    rw [slices_IndexFuncapi_Ref_api_Ref_v2.l0.eq]
    simp only [ltI_d, br_if]
    rw [if_neg (by omega), List.drop_eq_nil_of_le (by omega)]
    exact ⟨-1, rfl, by simp⟩
  | succ d ih =>
    intro i hi hd
    have hil : i < l.length := by omega
    rw [slices_IndexFuncapi_Ref_api_Ref_v2.l0.eq, ixR l i hil, plan_fits_1.eq, plan_has.eq, bnd_some, bnd_some]
    simp only [ltI_d, leI_d, notB_d, ofN_d, lenL_d, andB_d, br_if]
    rw [if_pos (by omega), if_pos (by omega), add1 i (by omega), any_drop l i hil]
    by_cases h1 : l[i] ≤ (h.length : Int)
    · rw [if_neg (fun q => q h1), decide_eq_true h1, Bool.not_true, Bool.false_or]
      exact ih (i + 1) (by omega) (by omega)
    · rw [if_pos h1, decide_eq_false h1, Bool.not_false, Bool.true_or]
      exact ⟨i, rfl, fun _ => rfl, fun _ => by omega⟩
theorem contains2 (h : List NodeV) (l : List Int) (hl : l.length ≤ 1000000) : slices_ContainsFuncapi_Ref_api_Ref_v2 l ((), ()) h = some (l.any (fun r => !decide (r ≤ (h.length : Int))), (h, ())) := by
  obtain ⟨x, h1, h2⟩ := index2 h l hl l.length 0 (by omega) (by omega)
  rw [slices_ContainsFuncapi_Ref_api_Ref_v2.eq, slices_IndexFuncapi_Ref_api_Ref_v2.eq]
  have h1 : slices_IndexFuncapi_Ref_api_Ref_v2.l0 l ((), ()) (ofN (lenL (.int .i64) l)) 0 h = some (x, (h, ())) := h1
  rw [h1, bnd_some, leI_d]
  rw [List.drop_zero] at h2
  have : decide ((0 : Int) ≤ x) = l.any (fun r => !decide (r ≤ (h.length : Int))) := by rw [Bool.eq_iff_iff, decide_eq_true_iff]; exact h2
  rw [this]
def mayPL : Nat → List NodeV → Bool
  | _, [] => true
  | i, n :: l => (decide (mayS n = 0) && (refsS n).all fun r => decide (-(i : Int) ≤ r)) && mayPL (i + 1) l
def mayP (p : PlanV) : Bool := mayPL 0 p.1 && (p.2.2.1.all (fun r => decide (1 ≤ r)) && decide (-(p.1.length : Int) ≤ p.2.1))
theorem any_not_all (l : List Int) (p : Int → Bool) : l.any (fun r => !p r) = !l.all p := by
  induction l with
  | nil => rfl
  | cons a l ih => rw [List.any_cons, List.all_cons, ih, Bool.not_and]
theorem mayp_loop (p : PlanV) (h : okPl p) (d : Nat) : ∀ (i : Nat), i ≤ p.1.length → p.1.length - i = d → plan_May.l0 p.1 p.1.length i p = some (if (mayPL i (p.1.drop i) && (p.2.2.1.all (fun r => decide (1 ≤ r)) && decide (-(p.1.length : Int) ≤ p.2.1))) = true then 0 else 4) := by
  have hl := h.len
  have hold := h.old
  induction d with
  | zero =>
    intro i hi hd
    rw [plan_May.l0.eq]
    simp only [ltI_d, ofN_d, lenL_d, br_if]
    rw [if_neg (by omega), ahead_any _ h.root _ (by omega), bnd_some, contains1 _ (by omega), bnd_some, List.drop_eq_nil_of_le (by omega), notB_d, br_if, br_b]
    rw [show mayPL i [] = true from rfl, Bool.true_and]
    have e : p.2.2.1.any (fun r => decide (r ≤ 0)) = !p.2.2.1.all (fun r => decide (1 ≤ r)) := by
      rw [← any_not_all]
      congr 1
      funext r
      rw [Bool.eq_iff_iff, Bool.not_eq_true', decide_eq_true_iff, decide_eq_false_iff_not]
      omega
    rw [e]
    by_cases h1 : -(p.1.length : Int) ≤ p.2.1
    · rw [if_neg (fun q => q h1), decide_eq_true h1, Bool.and_true]
      cases p.2.2.1.all (fun r => decide (1 ≤ r)) <;> rfl
    · rw [if_pos h1, decide_eq_false h1, Bool.and_false, if_neg (by simp)]
  | succ d ih =>
    intro i hi hd
    have hil : i < p.1.length := by omega
    have hm := List.getElem_mem hil
    have o := h.node _ hm
    have hrl := refsS_len p.1[i]
    have hkl := o.kids
    rw [plan_May.l0.eq, ixN p.1 i hil, may_any _ o, bnd_some, refs_any _ o, bnd_some, contains0 _ (by omega) (refs_rng (h.rngs _ hm)) i (by omega), bnd_some]
    simp only [ltI_d, leI_d, eqI_d, notB_d, ofN_d, lenL_d, andB_d, br_if]
    simp only [br_b]
    rw [if_pos (by omega), if_pos (by omega), add1 i (by omega), ih (i + 1) (by omega) (by omega), List.drop_eq_getElem_cons hil, any_not_all]
    rw [show mayPL i (p.1[i] :: p.1.drop (i + 1)) = ((decide (mayS p.1[i] = 0) && (refsS p.1[i]).all fun r => decide (-(i : Int) ≤ r)) && mayPL (i + 1) (p.1.drop (i + 1))) from rfl]
    by_cases hz : mayS p.1[i] = 0
    · rw [if_neg (fun q => q hz), decide_eq_true hz, Bool.true_and]
      cases (refsS p.1[i]).all fun r => decide (-(i : Int) ≤ r) with
      | true => rw [if_neg (by simp), Bool.true_and]
      | false => rw [if_pos (show (!false) = true from rfl), Bool.false_and, Bool.false_and, if_neg (by simp)]
    · rw [if_pos hz, decide_eq_false hz, Bool.false_and, Bool.false_and, Bool.false_and, if_neg (by simp)]
theorem mayp_any (p : PlanV) (h : okPl p) : plan_May p = some (if mayP p = true then 0 else 4) := by
  rw [plan_May.eq]
  exact mayp_loop p h p.1.length 0 (by omega) (by omega)
theorem refmayp_l2 (p : PlanV) (h : okPl p) (d : Nat) : ∀ (i : Nat), i ≤ p.2.2.1.length → p.2.2.1.length - i = d → ref18_May.l2 i p = some ((p.2.2.1.drop i).all (fun r => decide (1 ≤ r)) && decide (-(p.1.length : Int) ≤ p.2.1)) := by
  have hl := h.len
  have hold := h.old
  induction d with
  | zero =>
    intro i hi hd
    rw [ref18_May.l2.eq]
    simp only [ltI_d, leI_d, ofN_d, lenL_d, br_if]
    rw [if_neg (by omega), List.drop_eq_nil_of_le (by omega), List.all_nil, Bool.true_and]
    have : subI .i64 0 (p.1.length : Int) = -(p.1.length : Int) := by rw [subI_d (by omega) (by omega)]; omega
    rw [this]
  | succ d ih =>
    intro i hi hd
    have hil : i < p.2.2.1.length := by omega
    rw [ref18_May.l2.eq, ixR _ i hil]
    simp only [ltI_d, leI_d, ofN_d, lenL_d, andB_d, br_if]
    rw [if_pos (by omega), if_pos (by omega), add1 i (by omega), ih (i + 1) (by omega) (by omega), drop_all _ i hil]
    by_cases h1 : p.2.2.1[i] < 1
    · rw [if_pos h1, decide_eq_false (show ¬ 1 ≤ p.2.2.1[i] by omega), Bool.false_and, Bool.false_and]
    · rw [if_neg h1, decide_eq_true (show 1 ≤ p.2.2.1[i] by omega), Bool.true_and]
theorem refmayp_l1 (p : PlanV) (i : Nat) (hi : i < p.1.length) (hl : p.1.length ≤ 12) (o : okN p.1[i]) (refs : List Int) (hr : refs.length ≤ 1000000) (d : Nat) : ∀ (k : Nat), k ≤ refs.length → refs.length - k = d →
    ref18_May.l1 i refs k p = if ((refs.drop k).all fun r => decide (-(i : Int) ≤ r)) = true then (if mayS p.1[i] = 0 then ref18_May.l0 (addI .i64 i 1) p else some false) else some false := by
  have es : subI .i64 0 (i : Int) = -(i : Int) := by rw [subI_d (by omega) (by omega)]; omega
  induction d with
  | zero =>
    intro k hk hd
    rw [ref18_May.l1.eq, ixN p.1 i hi, refmay_any _ o, bnd_some]
    simp only [ltI_d, leI_d, eqI_d, notB_d, ofN_d, lenL_d, andB_d, br_if]
    rw [if_neg (by omega), if_pos (by omega), List.drop_eq_nil_of_le (by omega), List.all_nil, if_pos rfl]
    by_cases hm : mayS p.1[i] = 0
    · rw [if_neg (fun q => q hm), if_pos hm]
    · rw [if_pos hm, if_neg hm]
  | succ d ih =>
    intro k hk hd
    have hkl : k < refs.length := by omega
    rw [ref18_May.l1.eq, ixR refs k hkl, es]
    simp only [ltI_d, leI_d, ofN_d, lenL_d, andB_d, br_if]
    rw [if_pos (by omega), if_pos (by omega), add1 k (by omega), ih (k + 1) (by omega) (by omega), drop_all refs k hkl]
    by_cases h1 : refs[k] < -(i : Int)
    · rw [if_pos h1, decide_eq_false (by omega), Bool.false_and, if_neg (by simp)]
    · rw [if_neg h1, decide_eq_true (by omega), Bool.true_and]
theorem refmayp_loop (p : PlanV) (h : okPl p) (d : Nat) : ∀ (i : Nat), i ≤ p.1.length → p.1.length - i = d → ref18_May.l0 i p = some (mayPL i (p.1.drop i) && (p.2.2.1.all (fun r => decide (1 ≤ r)) && decide (-(p.1.length : Int) ≤ p.2.1))) := by
  have hl := h.len
  induction d with
  | zero =>
    intro i hi hd
    rw [ref18_May.l0.eq]
    simp only [ltI_d, ofN_d, lenL_d, br_if]
    have := refmayp_l2 p h p.2.2.1.length 0 (by omega) (by omega)
    rw [show ((0 : Nat) : Int) = 0 from rfl, List.drop_zero] at this
    rw [if_neg (by omega), this, List.drop_eq_nil_of_le (by omega)]
    rfl
  | succ d ih =>
    intro i hi hd
    have hil : i < p.1.length := by omega
    have hm := List.getElem_mem hil
    have o := h.node _ hm
    have hrl := refsS_len p.1[i]
    have hkl := o.kids
    rw [ref18_May.l0.eq, ixN p.1 i hil, refrefs_any _ o, bnd_some]
    simp only [ltI_d, leI_d, ofN_d, lenL_d, andB_d, br_if]
    have := refmayp_l1 p i hil h.len o (refsS p.1[i]) (by omega) (refsS p.1[i]).length 0 (by omega) (by omega)
    rw [show ((0 : Nat) : Int) = 0 from rfl] at this
    rw [if_pos (by omega), if_pos (by omega), this, add1 i (by omega), ih (i + 1) (by omega) (by omega), List.drop_zero, List.drop_eq_getElem_cons hil]
    rw [show mayPL i (p.1[i] :: p.1.drop (i + 1)) = ((decide (mayS p.1[i] = 0) && (refsS p.1[i]).all fun r => decide (-(i : Int) ≤ r)) && mayPL (i + 1) (p.1.drop (i + 1))) from rfl]
    cases (refsS p.1[i]).all fun r => decide (-(i : Int) ≤ r) with
    | true =>
      rw [if_pos rfl, Bool.and_true]
      by_cases hm : mayS p.1[i] = 0
      · rw [if_pos hm, decide_eq_true hm, Bool.true_and]
      · rw [if_neg hm, decide_eq_false hm, Bool.false_and, Bool.false_and]
    | false => rw [if_neg (by simp), Bool.and_false, Bool.false_and, Bool.false_and]
theorem refmayp_any (p : PlanV) (h : okPl p) : ref18_May p = some (mayP p) := by
  rw [ref18_May.eq]
  exact refmayp_loop p h p.1.length 0 (by omega) (by omega)
/-! ### Whether a heap has what a plan refers to -/
def refsL (l : List NodeV) : List Int := l.flatMap refsS
def fitsL (h : List NodeV) (l : List Int) : Bool := l.all fun r => decide (r ≤ (h.length : Int))
def fitsP (h : List NodeV) (p : PlanV) : Bool := fitsL h ((p.2.2.1 ++ [p.2.1]) ++ refsL p.1)
theorem refsL_len : ∀ (l : List NodeV), (∀ n ∈ l, okN n) → (refsL l).length ≤ 41 * l.length
  | [], _ => by simp [refsL]
  | n :: l, h => by
    have := refsL_len l (fun m hm => h m (by simp [hm]))
    have h1 := refsS_len n
    have h2 := (h n (by simp)).kids
    unfold refsL at this ⊢
    rw [List.flatMap_cons, List.length_append, List.length_cons]
    omega
theorem fits_loop (h : List NodeV) (ns : List NodeV) (hn : ns.length ≤ 12) (ho : ∀ n ∈ ns, okN n) (d : Nat) : ∀ (i : Nat) (acc : List Int), acc.length ≤ 100 + 41 * i → i ≤ ns.length → ns.length - i = d →
    plan_fits.l0 ns ns.length i h acc = some (fitsL h (acc ++ refsL (ns.drop i))) := by
  induction d with
  | zero =>
    intro i acc ha hi hd
    rw [plan_fits.l0.eq]
    simp only [ltI_d, br_if]
    rw [if_neg (by omega), contains2 h acc (by omega), bnd_some, any_not_all, List.drop_eq_nil_of_le (by omega)]
    rw [show refsL [] = [] from rfl, List.append_nil]
    unfold fitsL
    cases acc.all fun r => decide (r ≤ (h.length : Int)) <;> rfl
  | succ d ih =>
    intro i acc ha hi hd
    have hil : i < ns.length := by omega
    have o := ho _ (List.getElem_mem hil)
    have hrl := refsS_len ns[i]
    have hkl := o.kids
    have hal : (acc ++ refsS ns[i]).length ≤ 100 + 41 * (i + 1) := by rw [List.length_append]; omega
    rw [plan_fits.l0.eq, ixN ns i hil, refs_any _ o, bnd_some]
    simp only [ltI_d, leI_d, ofN_d, lenL_d, andB_d, br_if, fitL_d, appL_d]
    rw [if_pos (by omega), if_pos (by omega), if_pos (by omega), add1 i (by omega), ih (i + 1) _ hal (by omega) (by omega), List.drop_eq_getElem_cons hil]
    unfold refsL
    rw [List.flatMap_cons, List.append_assoc]
theorem fits_any (h : List NodeV) (p : PlanV) (hp : okPl p) : plan_fits h p = some (fitsP h p) := by
  have hold := hp.old
  have hal : (p.2.2.1 ++ [p.2.1]).length ≤ 100 := by rw [List.length_append]; show _ + 1 ≤ _; omega
  rw [plan_fits.eq, both_self, cloneR_any _ (by omega), bnd_some]
  simp only [fitL_d, appL_d, br_if]
  rw [if_pos (by omega)]
  exact fits_loop h p.1 hp.len hp.node p.1.length 0 _ (by omega) (by omega) (by omega)
/-! ### A plan done -/
def doL (out : List NodeV) (to : List Int) : List NodeV → List NodeV × List Int
  | [] => (out, to)
  | n :: l => doL (out ++ [fillS to n]) (to ++ [((out.length + 1 : Nat) : Int)]) l
theorem doL_to : ∀ (l out : List NodeV) (to : List Int), (doL out to l).2.length = to.length + l.length
  | [], _, _ => rfl
  | n :: l, out, to => by
    unfold doL
    rw [doL_to l]
    simp only [List.length_append, List.length_cons, List.length_nil]
    omega
theorem doL_out : ∀ (l out : List NodeV) (to : List Int), ∃ r, (doL out to l).1 = out ++ r ∧ r.length = l.length ∧ ((∀ n ∈ l, small n) → ∀ n ∈ r, small n)
  | [], out, _ => ⟨[], (List.append_nil out).symm, rfl, fun _ n hn => by cases hn⟩
  | n :: l, out, to => by
    obtain ⟨r, h1, h2, h3⟩ := doL_out l (out ++ [fillS to n]) (to ++ [((out.length + 1 : Nat) : Int)])
    refine ⟨fillS to n :: r, ?_, by rw [List.length_cons, List.length_cons, h2], fun hs m hm => ?_⟩
    · unfold doL
      rw [h1, List.append_assoc]
      rfl
    · rcases List.mem_cons.1 hm with rfl | hm
      · exact fillS_small (hs n (by simp))
      · exact h3 (fun a ha => hs a (by simp [ha])) m hm
theorem do_l1 (p : PlanV) (hp : okPl p) (d : Nat) : ∀ (i : Nat) (out : List NodeV) (to : List Int), out.length ≤ 100 + i → to.length = i → i ≤ p.1.length → p.1.length - i = d →
    plan_Do.l1 p.1 p.1.length i p out to = some ((doL out to (p.1.drop i)).1, (refD (doL out to (p.1.drop i)).2 p.2.1, ((if (refR (doL out to (p.1.drop i)).2 p.2.1).isSome = true then 0 else 4), ()))) := by
  have hl := hp.len
  induction d with
  | zero =>
    intro i out to h1 h2 hi hd
    rw [plan_Do.l1.eq]
    simp only [ltI_d, br_if]
    rw [if_neg (by omega), planref_any _ hp.root to, bnd_some, List.drop_eq_nil_of_le (by omega)]
    rfl
  | succ d ih =>
    intro i out to h1 h2 hi hd
    have hil : i < p.1.length := by omega
    have hm := List.getElem_mem hil
    have o1 : (out ++ [fillS to p.1[i]]).length = out.length + 1 := by rw [List.length_append]; rfl
    have o2 : (to ++ [((out.length + 1 : Nat) : Int)]).length = to.length + 1 := by rw [List.length_append]; rfl
    rw [plan_Do.l1.eq, ixN p.1 i hil, fill_any to _ (hp.node _ hm) (hp.rngs _ hm), bnd_some]
    simp only [ltI_d, leI_d, ofN_d, lenL_d, andB_d, br_if, fitL_d, appL_d]
    rw [o1, o2, if_pos (by omega), if_pos (by omega), if_pos (by omega), if_pos (by omega), add1 i (by omega), ih (i + 1) _ _ (by omega) (by omega) (by omega) (by omega), List.drop_eq_getElem_cons hil]
    rfl
theorem do_l0 (h : List NodeV) (hh : okH h) (p : PlanV) (hp : okPl p) (d : Nat) : ∀ (i : Nat), i ≤ h.length → h.length - i = d →
    plan_Do.l0 h h.length i p (h.take i) = plan_Do.l1 p.1 p.1.length 0 p h [] := by
  have hl := hh.len
  induction d with
  | zero =>
    intro i hi hd
    rw [plan_Do.l0.eq]
    simp only [ltI_d, br_if]
    rw [if_neg (by omega), List.take_of_length_le (by omega)]
    rfl
  | succ d ih =>
    intro i hi hd
    have hil : i < h.length := by omega
    rw [plan_Do.l0.eq, ixN h i hil, copy_any _ (hh.node _ (List.getElem_mem hil)), bnd_some]
    simp only [ltI_d, leI_d, ofN_d, lenL_d, andB_d, br_if, fitL_d, appL_d]
    have e : h.take i ++ [h[i]] = h.take (i + 1) := by rw [List.take_succ_eq_append_getElem hil]
    have e' : h.take i ++ [((h[i].1, (h[i].2.1, (h[i].2.2.1, (h[i].2.2.2.1, (h[i].2.2.2.2.1, (h[i].2.2.2.2.2.1, (h[i].2.2.2.2.2.2.1, h[i].2.2.2.2.2.2.2))))))) : NodeV)] = h.take (i + 1) := e
    rw [if_pos (by omega), if_pos (by omega), e', if_pos (by rw [List.length_take]; omega), add1 i (by omega)]
    exact ih (i + 1) (by omega) (by omega)
def doS (h : List NodeV) (p : PlanV) : List NodeV × List Int := doL h [] p.1
theorem root_in {p : PlanV} (h : mayP p = true) (out : List NodeV) : (refR (doL out [] p.1).2 p.2.1).isSome = true := by
  have hlen := doL_to p.1 out []
  unfold mayP at h
  simp only [Bool.and_eq_true, decide_eq_true_eq] at h
  have h3 := h.2.2
  unfold refR
  by_cases h1 : 0 ≤ p.2.1
  · rw [if_pos h1]; rfl
  · have : -1 - p.2.1 < (((doL out [] p.1).2.length : Nat) : Int) := by
      rw [hlen]
      show _ < ((([] : List Int).length + p.1.length : Nat) : Int)
      simp only [List.length_nil]
      omega
    rw [if_neg h1, if_pos this]
    rfl
theorem do_any (h : List NodeV) (hh : okH h) (p : PlanV) (hp : okPl p) : plan_Do h p = some (if (mayP p && (mayH h && fitsP h p)) = true then ((doS h p).1, (refD (doS h p).2 p.2.1, (0, ()))) else ([], (0, (4, ())))) := by
  rw [plan_Do.eq, mayp_any p hp, bnd_some, mayh_any h hh, bnd_some, fits_any h p hp, bnd_some]
  simp only [eqI_d, notB_d, br_if]
  cases h1 : mayP p with
  | false => rw [if_neg (show ¬ (false = true) by simp), if_pos (show ¬ (4 : Int) = 0 by omega), Bool.false_and, if_neg (show ¬ (false = true) by simp)]
  | true =>
    rw [if_pos rfl, if_neg (by omega), Bool.true_and]
    cases h2 : mayH h with
    | false => rw [if_neg (show ¬ (false = true) by simp), if_pos (show ¬ (4 : Int) = 0 by omega), Bool.false_and, if_neg (show ¬ (false = true) by simp)]
    | true =>
      rw [if_pos rfl, if_neg (by omega), Bool.true_and]
      cases h3 : fitsP h p with
      | false => rw [show notB false = true from rfl, br_t, if_neg (by simp)]
      | true =>
        rw [show notB true = false from rfl, br_f, if_pos rfl]
        have e0 := do_l0 h hh p hp h.length 0 (by omega) (by omega)
        have e1 := do_l1 p hp p.1.length 0 h [] (by have := hh.len; omega) rfl (by omega) (by omega)
        rw [show ((0 : Nat) : Int) = 0 from rfl] at e0 e1
        rw [List.take_zero] at e0
        show plan_Do.l0 h ((h.length : Nat) : Int) 0 p [] = _
        rw [e0]
        refine e1.trans ?_
        rw [List.drop_zero, if_pos (root_in h1 h)]
        rfl
theorem refdo_l0 (h : List NodeV) (p : PlanV) (hp : okPl p) (d : Nat) : ∀ (i : Nat) (acc : List Int), acc.length ≤ 100 + 41 * i → i ≤ p.1.length → p.1.length - i = d →
    ref18_Do.l0 h i p acc = ref18_Do.l1 h 0 p (acc ++ refsL (p.1.drop i)) := by
  have hl := hp.len
  induction d with
  | zero =>
    intro i acc ha hi hd
    rw [ref18_Do.l0.eq]
    simp only [ltI_d, ofN_d, lenL_d, br_if]
    rw [if_neg (by omega), List.drop_eq_nil_of_le (by omega)]
    rw [show refsL [] = [] from rfl, List.append_nil]
  | succ d ih =>
    intro i acc ha hi hd
    have hil : i < p.1.length := by omega
    have o := hp.node _ (List.getElem_mem hil)
    have hrl := refsS_len p.1[i]
    have hkl := o.kids
    have hal : (acc ++ refsS p.1[i]).length ≤ 100 + 41 * (i + 1) := by rw [List.length_append]; omega
    rw [ref18_Do.l0.eq, ixN p.1 i hil, refrefs_any _ o, bnd_some]
    simp only [ltI_d, leI_d, ofN_d, lenL_d, andB_d, br_if, fitL_d, appL_d]
    rw [if_pos (by omega), if_pos (by omega), if_pos (by omega), add1 i (by omega), ih (i + 1) _ hal (by omega) (by omega), List.drop_eq_getElem_cons hil]
    unfold refsL
    rw [List.flatMap_cons, List.append_assoc]
theorem refdo_l1 (h : List NodeV) (hh : h.length ≤ 12) (p : PlanV) (l : List Int) (hl : l.length ≤ 1000000) (d : Nat) : ∀ (i : Nat), i ≤ l.length → l.length - i = d →
    ref18_Do.l1 h i p l = if fitsL h (l.drop i) = true then ref18_Do.l2 0 p h [] else some ([], (0, (false, ()))) := by
  induction d with
  | zero =>
    intro i hi hd
    rw [ref18_Do.l1.eq]
    simp only [ltI_d, ofN_d, lenL_d, br_if, fitL_d, appL_d, List.nil_append]
    rw [if_neg (by omega), if_pos (by omega), List.drop_eq_nil_of_le (by omega)]
    rfl
  | succ d ih =>
    intro i hi hd
    have hil : i < l.length := by omega
    rw [ref18_Do.l1.eq, ixR l i hil]
    simp only [ltI_d, leI_d, ofN_d, lenL_d, andB_d, br_if]
    have e : fitsL h (l.drop i) = (decide (l[i] ≤ (h.length : Int)) && fitsL h (l.drop (i + 1))) := drop_all l i hil
    rw [if_pos (by omega), if_pos (by omega), add1 i (by omega), ih (i + 1) (by omega) (by omega), e]
    by_cases h1 : (h.length : Int) < l[i]
    · rw [if_pos h1, decide_eq_false (by omega), Bool.false_and, if_neg (by simp)]
    · rw [if_neg h1, decide_eq_true (by omega), Bool.true_and]
theorem refdo_l2 (p : PlanV) (hp : okPl p) (d : Nat) : ∀ (i : Nat) (out : List NodeV) (to : List Int), out.length ≤ 100 + i → to.length = i → i ≤ p.1.length → p.1.length - i = d →
    ref18_Do.l2 i p out to = some ((doL out to (p.1.drop i)).1, (refD (doL out to (p.1.drop i)).2 p.2.1, (true, ()))) := by
  have hl := hp.len
  induction d with
  | zero =>
    intro i out to h1 h2 hi hd
    rw [ref18_Do.l2.eq]
    simp only [ltI_d, ofN_d, lenL_d, br_if]
    rw [if_neg (by omega), refref_any _ hp.root to (by omega), bnd_some, List.drop_eq_nil_of_le (by omega)]
    rfl
  | succ d ih =>
    intro i out to h1 h2 hi hd
    have hil : i < p.1.length := by omega
    have hm := List.getElem_mem hil
    have o1 : (out ++ [fillS to p.1[i]]).length = out.length + 1 := by rw [List.length_append]; rfl
    have o2 : (to ++ [((out.length + 1 : Nat) : Int)]).length = to.length + 1 := by rw [List.length_append]; rfl
    rw [ref18_Do.l2.eq, ixN p.1 i hil, reffill_any to (by omega) _ (hp.node _ hm) (hp.rngs _ hm), bnd_some]
    simp only [ltI_d, leI_d, ofN_d, lenL_d, andB_d, br_if, fitL_d, appL_d]
    rw [o1, o2, if_pos (by omega), if_pos (by omega), if_pos (by omega), if_pos (by omega), add1 i (by omega), ih (i + 1) _ _ (by omega) (by omega) (by omega) (by omega), List.drop_eq_getElem_cons hil]
    rfl
theorem refdo_any (h : List NodeV) (hh : okH h) (p : PlanV) (hp : okPl p) : ref18_Do h p = some (if (mayP p && (mayH h && fitsP h p)) = true then ((doS h p).1, (refD (doS h p).2 p.2.1, (true, ()))) else ([], (0, (false, ())))) := by
  have hl := hh.len
  have hold := hp.old
  have hal : ([p.2.1] ++ p.2.2.1).length ≤ 100 := by rw [List.length_append]; show 1 + _ ≤ _; omega
  have hrl := refsL_len p.1 hp.node
  have hpl := hp.len
  rw [ref18_Do.eq, refmayp_any p hp, bnd_some, refmayh_any h hh, bnd_some]
  cases h1 : mayP p with
  | false => rw [show notB false = true from rfl, br_t, Bool.false_and, if_neg (by simp)]
  | true =>
    rw [show notB true = false from rfl, br_f, Bool.true_and]
    cases h2 : mayH h with
    | false => rw [show notB false = true from rfl, br_t, Bool.false_and, if_neg (by simp)]
    | true =>
      rw [show notB true = false from rfl, br_f, Bool.true_and]
      simp only [fitL_d, appL_d, br_if]
      have e0 := refdo_l0 h p hp p.1.length 0 ([p.2.1] ++ p.2.2.1) (by omega) (by omega) (by omega)
      have e1 := refdo_l1 h hl p (([p.2.1] ++ p.2.2.1) ++ refsL p.1) (by rw [List.length_append]; omega) _ 0 (by omega) rfl
      have e2 := refdo_l2 p hp p.1.length 0 h [] (by omega) rfl (by omega) (by omega)
      rw [show ((0 : Nat) : Int) = 0 from rfl] at e0 e1 e2
      rw [List.drop_zero] at e0 e1 e2
      rw [if_pos (by show ([p.2.1] ++ p.2.2.1).length ≤ _; omega)]
      refine e0.trans (e1.trans ?_)
      have ef : fitsL h (([p.2.1] ++ p.2.2.1) ++ refsL p.1) = fitsP h p := by
        unfold fitsP fitsL
        rw [List.all_append, List.all_append, List.all_append, List.all_append]
        rw [Bool.and_comm ([p.2.1].all _)]
      rw [ef]
      cases fitsP h p with
      | false => rw [if_neg (by simp), if_neg (by simp)]
      | true => rw [if_pos rfl, if_pos rfl]; exact e2
end Go.Proofs.Ytobfcaejpcpboaa.AV
