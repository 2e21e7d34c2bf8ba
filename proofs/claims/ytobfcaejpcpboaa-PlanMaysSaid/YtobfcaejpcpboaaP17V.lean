/- Heaps: of not too many nodes, and whether they may be: what the functions do, plainly. No conditions but those that each names. -/
import Derived.Test.YtobfcaejpcpboaaP13tV
set_option linter.unusedVariables false
set_option linter.unusedSimpArgs false
namespace Go.Proofs.Ytobfcaejpcpboaa.AV
open Go.Abs
def rng (x : Int) : Prop := -9223372036854775808 ≤ x ∧ x ≤ 9223372036854775807
theorem wf_rng {a : Int} (h : (Lit.int .i64 a).wf = true) : rng a := by
  simp [Lit.wf, IntKind.min, IntKind.max, IntKind.bits, IntKind.signed] at h
  unfold rng
  omega
/-- A node's references are numbers of the program. -/
def rngN (n : NodeV) : Prop := (∀ k ∈ n.2.2.2.2.1, rng k) ∧ rng n.2.2.2.2.2.1
theorem few_rng {n : NodeV} (h : wfD tapiNode n) : rngN (few n) := by
  obtain ⟨_, _, _, _, hk, hmain, _⟩ := h
  exact ⟨fun k hk' => wf_rng (hk.2 k (List.mem_of_mem_take hk')), wf_rng hmain⟩
theorem refs_rng {n : NodeV} (h : rngN n) : ∀ r ∈ refsS n, rng r := by
  intro r hr
  unfold refsS at hr
  rcases List.mem_append.1 hr with hr | hr
  · exact h.1 r (List.mem_filter.1 hr).1
  · split at hr
    · rw [List.mem_singleton.1 hr]; exact h.2
    · cases hr
theorem ixN (l : List NodeV) (i : Nat) (h : i < l.length) : ixL tapiNode l (i : Int) = l[i] := ixL_d tapiNode l i h
/-! ### Not too many nodes -/
def fewW : Nat → List NodeV → List NodeV
  | _, [] => []
  | w, n :: l => if 3000 < w * max (refsS (few n)).length 1 then [] else few n :: fewW (w * max (refsS (few n)).length 1) l
def fewH (h : List NodeV) : List NodeV := fewW 1 (h.take 12)
theorem fewW_len : ∀ (l : List NodeV) (w : Nat), (fewW w l).length ≤ l.length
  | [], _ => Nat.le_refl _
  | n :: l, w => by
    unfold fewW
    split
    · exact Nat.zero_le _
    · have := fewW_len l (w * max (refsS (few n)).length 1)
      simp only [List.length_cons]
      omega
theorem fewW_mem : ∀ (l : List NodeV) (w : Nat), ∀ x ∈ fewW w l, ∃ n ∈ l, x = few n
  | [], _, x, h => by cases h
  | n :: l, w, x, h => by
    unfold fewW at h
    split at h
    · cases h
    · rcases List.mem_cons.1 h with h | h
      · exact ⟨n, by simp, h⟩
      · obtain ⟨m, h1, h2⟩ := fewW_mem l _ x h
        exact ⟨m, by simp [h1], h2⟩
theorem fewW_cons (w : Nat) (n : NodeV) (l : List NodeV) : fewW w (n :: l) = if 3000 < w * max (refsS (few n)).length 1 then [] else few n :: fewW (w * max (refsS (few n)).length 1) l := rfl
theorem fewW_fewW : ∀ (l : List NodeV) (w : Nat), fewW w (fewW w l) = fewW w l
  | [], _ => rfl
  | n :: l, w => by
    rw [fewW_cons]
    by_cases h : 3000 < w * max (refsS (few n)).length 1
    · rw [if_pos h]
      rfl
    · rw [if_neg h, fewW_cons, few_few, if_neg h, fewW_fewW]
theorem fewH_len (h : List NodeV) : (fewH h).length ≤ 12 := by
  have := fewW_len (h.take 12) 1
  rw [List.length_take] at this
  unfold fewH
  omega
theorem fewH_mem {h : List NodeV} : ∀ x ∈ fewH h, ∃ n ∈ h, x = few n := fun x hx => by
  obtain ⟨n, h1, h2⟩ := fewW_mem _ _ x hx
  exact ⟨n, List.mem_of_mem_take h1, h2⟩
theorem fewH_fewH (h : List NodeV) : fewH (fewH h) = fewH h := by
  have := fewH_len h
  show fewW 1 ((fewH h).take 12) = fewH h
  rw [List.take_of_length_le this]
  exact fewW_fewW _ _
/-- A heap of not too many nodes. -/
structure okH (h : List NodeV) : Prop where
  len : h.length ≤ 12
  node : ∀ n ∈ h, okN n
  rng : ∀ n ∈ h, rngN n
theorem okH.of {h : List NodeV} (hw : wfD (.list tapiNode) h) : okH (fewH h) :=
  ⟨fewH_len h, fun x hx => by obtain ⟨n, h1, rfl⟩ := fewH_mem x hx; exact few_okN (hw.2 n h1), fun x hx => by obtain ⟨n, h1, rfl⟩ := fewH_mem x hx; exact few_rng (hw.2 n h1)⟩
theorem refsS_few (n : NodeV) : (refsS (few n)).length ≤ 41 := by
  have h := refsS_len (few n)
  have : (few n).2.2.2.2.1.length ≤ 40 := by show (List.take 40 _).length ≤ 40; rw [List.length_take]; omega
  omega
/-- Nodes that Few is asked of. -/
def wideN (n : NodeV) : Prop := n.2.2.2.2.1.length ≤ 9223372036854775807 ∧ n.2.2.2.2.2.2.1.length ≤ 9223372036854775807 ∧ okN (few n)
theorem fewH_loop (h : List NodeV) (hl : h.length ≤ 9223372036854775807) (hw : ∀ n ∈ h, wideN n) (d : Nat) : ∀ (i w : Nat) (acc : List NodeV), i ≤ h.length → i ≤ 12 → 1 ≤ w → w ≤ 3000 → acc.length ≤ i → 12 - i = d →
    law17_Few.l0 h w i acc = some (acc ++ fewW w ((h.take 12).drop i)) := by
  induction d with
  | zero =>
    intro i w acc hi h12 w1 w2 ha hd
    have e : (h.take 12).drop i = [] := List.drop_eq_nil_of_le (by rw [List.length_take]; omega)
    rw [law17_Few.l0.eq, law17_Few.j1.eq, law17_Few.j1.eq, e]
    simp only [ltI_d, ofN_d, lenL_d, br_if, br_f]
    have e' : acc ++ fewW w [] = acc := by unfold fewW; exact List.append_nil _
    rw [e']
    split
    · rw [if_neg (by omega)]
    · rfl
  | succ d ih =>
    intro i w acc hi h12 w1 w2 ha hd
    by_cases hil : i < h.length
    · have hin : i < (h.take 12).length := by rw [List.length_take]; omega
      have hm : h[i] ∈ h := List.getElem_mem hil
      obtain ⟨k1, k2, ho⟩ := hw _ hm
      have hr := refsS_few h[i]
      rw [law17_Few.l0.eq, law17_Few.j1.eq, ixN h i hil, Few_any _ k1 k2, bnd_some, refrefs_any _ ho, bnd_some]
      simp only [ltI_d, leI_d, ofN_d, lenL_d, andB_d, br_if, maxI_d, fitL_d, appL_d]
      have em : mulI .i64 (w : Int) (max ((refsS (few h[i])).length : Int) 1) = ((w * max (refsS (few h[i])).length 1 : Nat) : Int) := by
        have e : max ((refsS (few h[i])).length : Int) 1 = ((max (refsS (few h[i])).length 1 : Nat) : Int) := by omega
        have hle : max (refsS (few h[i])).length 1 ≤ 41 := by omega
        have hp : w * max (refsS (few h[i])).length 1 ≤ 3000 * 41 := Nat.mul_le_mul w2 hle
        unfold mulI
        rw [e, ← Int.natCast_mul]
        exact wrap_i64_id (by omega) (by omega)
      rw [if_pos (by omega), if_pos (by omega), if_pos (by omega), em, List.drop_eq_getElem_cons hin, List.getElem_take]
      by_cases hg : 3000 < w * max (refsS (few h[i])).length 1
      · rw [if_pos (by omega)]
        unfold fewW
        rw [if_pos hg, List.append_nil]
      · have hpos : 1 ≤ w * max (refsS (few h[i])).length 1 := Nat.mul_pos w1 (by omega)
        rw [if_neg (by omega), if_pos (by rw [List.length_append]; show _ + 1 ≤ _; omega), add1 i (by omega)]
        rw [ih (i + 1) _ _ (by omega) (by omega) hpos (by omega) (by rw [List.length_append]; show _ + 1 ≤ _; omega) (by omega)]
        rw [show fewW w (h[i] :: (h.take 12).drop (i + 1)) = few h[i] :: fewW (w * max (refsS (few h[i])).length 1) ((h.take 12).drop (i + 1)) by rw [fewW, if_neg hg]]
        rw [List.append_assoc]
        rfl
    · have e : (h.take 12).drop i = [] := List.drop_eq_nil_of_le (by rw [List.length_take]; omega)
      rw [law17_Few.l0.eq, law17_Few.j1.eq, law17_Few.j1.eq, e]
      simp only [ltI_d, ofN_d, lenL_d, br_if, br_f]
      rw [if_neg (by omega)]
      have e' : acc ++ fewW w [] = acc := by unfold fewW; exact List.append_nil _
      rw [e']
theorem fewH_wf {h : List NodeV} (hw : wfD (.list tapiNode) h) : law17_Few h = some (fewH h) := by
  rw [law17_Few.eq]
  have := fewH_loop h hw.1 (fun n hn => by
    obtain ⟨_, _, _, _, hk, _, hl, _⟩ := hw.2 n hn
    exact ⟨hk.1, hl.1, few_okN (hw.2 n hn)⟩) 12 0 1 [] (by omega) (by omega) (by omega) (by omega) (by simp) (by omega)
  exact this
theorem fewH_ok {h : List NodeV} (ho : okH h) : law17_Few h = some (fewH h) := by
  rw [law17_Few.eq]
  have hl := ho.len
  have := fewH_loop h (by omega) (fun n hn => by
    have o := ho.node n hn
    have h1 := o.kids
    have h2 := o.list
    refine ⟨by omega, by omega, ⟨?_, ?_, o.map0, o.map1, ?_, fewL_len _, fewL_ok _⟩⟩
    · show (cut 40 _).size ≤ 40; rw [cut_size]; omega
    · show (cut 40 _).size ≤ 40; rw [cut_size]; omega
    · show (List.take 40 _).length ≤ 40; rw [List.length_take]; omega) 12 0 1 [] (by omega) (by omega) (by omega) (by omega) (by simp) (by omega)
  exact this
/-! ### Whether a heap may be -/
def mayHL : Nat → List NodeV → Bool
  | _, [] => true
  | i, n :: l => (decide (mayS n = 0) && (refsS n).all fun r => decide (1 ≤ r ∧ r ≤ (i : Int))) && mayHL (i + 1) l
def mayH (h : List NodeV) : Bool := mayHL 0 h
theorem drop_all {p : Int → Bool} (l : List Int) (k : Nat) (h : k < l.length) : (l.drop k).all p = (p l[k] && (l.drop (k + 1)).all p) := by
  rw [List.drop_eq_getElem_cons h, List.all_cons]
theorem maych_l1 (h : List NodeV) (n i : Nat) (refs : List Int) (hr : refs.length ≤ 1000000) (d : Nat) : ∀ (k : Nat), k ≤ refs.length → refs.length - k = d →
    heap_May.l1 i h n i refs refs.length k = if ((refs.drop k).all fun r => decide (1 ≤ r ∧ r ≤ (i : Int))) = true then heap_May.l0 h n (addI .i64 i 1) else some 4 := by
  induction d with
  | zero =>
    intro k hk hd
    rw [heap_May.l1.eq]
    simp only [ltI_d, br_if]
    rw [if_neg (by omega), List.drop_eq_nil_of_le (by omega)]
    rfl
  | succ d ih =>
    intro k hk hd
    have hkl : k < refs.length := by omega
    rw [heap_May.l1.eq, ixR refs k hkl]
    simp only [ltI_d, leI_d, ofN_d, lenL_d, andB_d, br_if]
    rw [if_pos (by omega), if_pos (by omega), add1 k (by omega), ih (k + 1) (by omega) (by omega), drop_all refs k hkl]
    by_cases h1 : refs[k] < 1
    · rw [if_pos h1, decide_eq_false (by omega), Bool.false_and, if_neg (by simp)]
    · rw [if_neg h1]
      by_cases h2 : (i : Int) < refs[k]
      · rw [if_pos h2, decide_eq_false (by omega), Bool.false_and, if_neg (by simp)]
      · rw [if_neg h2, decide_eq_true (by omega), Bool.true_and]
theorem mayh_loop (h : List NodeV) (hl : h.length ≤ 1000000) (ho : ∀ n ∈ h, okN n) (d : Nat) : ∀ (i : Nat), i ≤ h.length → h.length - i = d → heap_May.l0 h h.length i = some (if mayHL i (h.drop i) = true then 0 else 4) := by
  induction d with
  | zero =>
    intro i hi hd
    rw [heap_May.l0.eq]
    simp only [ltI_d, br_if]
    rw [if_neg (by omega), List.drop_eq_nil_of_le (by omega)]
    rfl
  | succ d ih =>
    intro i hi hd
    have hil : i < h.length := by omega
    have o := ho _ (List.getElem_mem hil)
    have hrl := refsS_len h[i]
    have hkl := o.kids
    rw [heap_May.l0.eq, ixN h i hil, may_any _ o, bnd_some, refs_any _ o, bnd_some]
    simp only [ltI_d, leI_d, eqI_d, notB_d, ofN_d, lenL_d, andB_d, br_if]
    rw [if_pos (by omega), if_pos (by omega), List.drop_eq_getElem_cons hil]
    unfold mayHL
    by_cases hm : mayS h[i] = 0
    · rw [if_neg (fun q => q hm), decide_eq_true hm, Bool.true_and]
      have := maych_l1 h h.length i (refsS h[i]) (by omega) (refsS h[i]).length 0 (by omega) (by omega)
      rw [show ((0 : Nat) : Int) = 0 from rfl] at this
      rw [this, add1 i (by omega), ih (i + 1) (by omega) (by omega), List.drop_zero]
      cases (refsS h[i]).all fun r => decide (1 ≤ r ∧ r ≤ (i : Int)) with
      | true => rw [if_pos rfl, Bool.true_and]
      | false => rw [if_neg (by simp), Bool.false_and, if_neg (by simp)]
    · rw [if_pos hm, decide_eq_false hm, Bool.false_and, Bool.false_and, if_neg (by simp)]
theorem mayh_any (h : List NodeV) (ho : okH h) : heap_May h = some (if mayH h = true then 0 else 4) := by
  have hl := ho.len
  rw [heap_May.eq]
  exact mayh_loop h (by omega) ho.node h.length 0 (by omega) (by omega)
theorem refmaych_l1 (h : List NodeV) (i : Nat) (hi : i < h.length) (o : okN h[i]) (refs : List Int) (hr : refs.length ≤ 1000000) (d : Nat) : ∀ (k : Nat), k ≤ refs.length → refs.length - k = d →
    ref17_May.l1 h i refs k = if ((refs.drop k).all fun r => decide (1 ≤ r ∧ r ≤ (i : Int))) = true then (if mayS h[i] = 0 then ref17_May.l0 h (addI .i64 i 1) else some false) else some false := by
  induction d with
  | zero =>
    intro k hk hd
    rw [ref17_May.l1.eq, ixN h i hi, refmay_any _ o, bnd_some]
    simp only [ltI_d, leI_d, eqI_d, notB_d, ofN_d, lenL_d, andB_d, br_if]
    rw [if_neg (by omega), if_pos (by omega), List.drop_eq_nil_of_le (by omega), List.all_nil, if_pos rfl]
    by_cases hm : mayS h[i] = 0
    · rw [if_neg (fun q => q hm), if_pos hm]
    · rw [if_pos hm, if_neg hm]
  | succ d ih =>
    intro k hk hd
    have hkl : k < refs.length := by omega
    rw [ref17_May.l1.eq, ixR refs k hkl]
    simp only [ltI_d, leI_d, ofN_d, lenL_d, andB_d, br_if]
    rw [if_pos (by omega), if_pos (by omega), add1 k (by omega), ih (k + 1) (by omega) (by omega), drop_all refs k hkl]
    by_cases h1 : refs[k] < 1
    · rw [if_pos h1, decide_eq_false (by omega), Bool.false_and, if_neg (by simp)]
    · rw [if_neg h1, if_pos (by omega)]
      by_cases h2 : (i : Int) < refs[k]
      · rw [if_pos h2, decide_eq_false (by omega), Bool.false_and, if_neg (by simp)]
      · rw [if_neg h2, decide_eq_true (by omega), Bool.true_and]
theorem refmayh_loop (h : List NodeV) (hl : h.length ≤ 1000000) (ho : ∀ n ∈ h, okN n) (d : Nat) : ∀ (i : Nat), i ≤ h.length → h.length - i = d → ref17_May.l0 h i = some (mayHL i (h.drop i)) := by
  induction d with
  | zero =>
    intro i hi hd
    rw [ref17_May.l0.eq]
    simp only [ltI_d, ofN_d, lenL_d, br_if]
    rw [if_neg (by omega), List.drop_eq_nil_of_le (by omega)]
    rfl
  | succ d ih =>
    intro i hi hd
    have hil : i < h.length := by omega
    have o := ho _ (List.getElem_mem hil)
    have hrl := refsS_len h[i]
    have hkl := o.kids
    rw [ref17_May.l0.eq, ixN h i hil, refrefs_any _ o, bnd_some]
    simp only [ltI_d, leI_d, ofN_d, lenL_d, andB_d, br_if]
    have := refmaych_l1 h i hil o (refsS h[i]) (by omega) (refsS h[i]).length 0 (by omega) (by omega)
    rw [show ((0 : Nat) : Int) = 0 from rfl] at this
    rw [if_pos (by omega), if_pos (by omega), this, add1 i (by omega), ih (i + 1) (by omega) (by omega), List.drop_zero, List.drop_eq_getElem_cons hil]
    rw [show mayHL i (h[i] :: h.drop (i + 1)) = ((decide (mayS h[i] = 0) && (refsS h[i]).all fun r => decide (1 ≤ r ∧ r ≤ (i : Int))) && mayHL (i + 1) (h.drop (i + 1))) from rfl]
    cases (refsS h[i]).all fun r => decide (1 ≤ r ∧ r ≤ (i : Int)) with
    | true =>
      rw [if_pos rfl, Bool.and_true]
      by_cases hm : mayS h[i] = 0
      · rw [if_pos hm, decide_eq_true hm, Bool.true_and]
      · rw [if_neg hm, decide_eq_false hm, Bool.false_and]
    | false => rw [if_neg (by simp), Bool.and_false, Bool.false_and]
theorem refmayh_any (h : List NodeV) (ho : okH h) : ref17_May h = some (mayH h) := by
  have hl := ho.len
  rw [ref17_May.eq]
  exact refmayh_loop h (by omega) ho.node h.length 0 (by omega) (by omega)
end Go.Proofs.Ytobfcaejpcpboaa.AV
