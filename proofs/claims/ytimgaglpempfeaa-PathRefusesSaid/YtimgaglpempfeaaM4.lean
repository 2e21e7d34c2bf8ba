/- Texts of one proof, laid together: how the interpreter's words stand for the program's code and what the functions do. No conditions but those that each lemma names. -/
import Derived.Test.YtimgaglpempfeaaM3
set_option linter.unusedSimpArgs false
set_option linter.unusedVariables false
set_option linter.unusedSimpArgs false
namespace Go.Proofs.Ytimgaglpempfeaa.AA
open Go.Abs
abbrev NodeV : Type := Int × ByteArray × ByteArray × Int × List Int × Int × List PairV × Int × Int × Unit
def few (n : NodeV) : NodeV := (n.1, (cut 40 n.2.1, (cut 40 n.2.2.1, (n.2.2.2.1, (n.2.2.2.2.1.take 40, (n.2.2.2.2.2.1, (fewL n.2.2.2.2.2.2.1, n.2.2.2.2.2.2.2)))))))
/-- A node of not too many parts. -/
structure okN (n : NodeV) : Prop where
  key : n.2.1.size ≤ 40
  val : n.2.2.1.size ≤ 40
  map0 : 0 ≤ n.2.2.2.1
  map1 : n.2.2.2.1 < 4294967296
  kids : n.2.2.2.2.1.length ≤ 1000000
  list : n.2.2.2.2.2.2.1.length ≤ 1000000
  binds : ∀ p ∈ n.2.2.2.2.2.2.1, okP p
theorem wf_u32 {a : Int} (h : (Lit.int .u32 a).wf = true) : 0 ≤ a ∧ a < 4294967296 := by
  simp [Lit.wf, IntKind.min, IntKind.max, IntKind.bits, IntKind.signed] at h
  omega
theorem few_okN {n : NodeV} (h : wfD tapiNode n) : okN (few n) := by
  obtain ⟨_, _, _, hm, _⟩ := h
  obtain ⟨h0, h1⟩ := wf_u32 hm
  refine ⟨?_, ?_, h0, h1, ?_, Nat.le_trans (fewL_len _) (by omega), fewL_ok _⟩
  · show (cut 40 _).size ≤ 40; rw [cut_size]; omega
  · show (cut 40 _).size ≤ 40; rw [cut_size]; omega
  · show (List.take 40 _).length ≤ 1000000; rw [List.length_take]; omega
theorem few_few (n : NodeV) : few (few n) = few n := by
  unfold few
  dsimp only
  rw [cut_cut, cut_cut, fewL_fewL, List.take_take, Nat.min_self]
theorem Few_any (n : NodeV) (h1 : n.2.2.2.2.1.length ≤ 9223372036854775807) (h2 : n.2.2.2.2.2.2.1.length ≤ 9223372036854775807) : law13_Few n = some (few n) := by
  rw [law13_Few.eq, base_Cut_40, bnd_some, base_Cut_40, bnd_some]
  simp only [ltI_d, leI_d, ofN_d, lenL_d, andB_d, br_if, fitL_d, appL_d, minI_d, List.nil_append]
  have e : toN (min (n.2.2.2.2.1.length : Int) 40) = min n.2.2.2.2.1.length 40 := by unfold toN; omega
  have e0 : toN 0 = 0 := rfl
  rw [if_pos (by omega), e, e0, subL0]
  have e2 : n.2.2.2.2.1.take (min n.2.2.2.2.1.length 40) = n.2.2.2.2.1.take 40 := by
    by_cases h : n.2.2.2.2.1.length ≤ 40
    · rw [Nat.min_eq_left h, List.take_of_length_le (Nat.le_refl _), List.take_of_length_le h]
    · rw [Nat.min_eq_right (by omega)]
  rw [e2, if_pos (by rw [List.length_take]; omega), few_any _ h2, bnd_some]
  rfl
theorem Few_ok {n : NodeV} (h : okN n) : law13_Few n = some (few n) := Few_any n (by have := h.kids; omega) (by have := h.list; omega)
theorem Few_wf {n : NodeV} (h : wfD tapiNode n) : law13_Few n = some (few n) := by
  obtain ⟨_, _, _, _, hk, _, hl, _⟩ := h
  exact Few_any n hk.1 hl.1
/-! ### Alike -/
theorem node_ext {a b : NodeV} : a = b ↔ a.1 = b.1 ∧ a.2.1 = b.2.1 ∧ a.2.2.1 = b.2.2.1 ∧ a.2.2.2.1 = b.2.2.2.1 ∧ a.2.2.2.2.1 = b.2.2.2.2.1 ∧ a.2.2.2.2.2.1 = b.2.2.2.2.2.1 ∧ a.2.2.2.2.2.2.1 = b.2.2.2.2.2.2.1 ∧ a.2.2.2.2.2.2.2.1 = b.2.2.2.2.2.2.2.1 ∧ a.2.2.2.2.2.2.2.2.1 = b.2.2.2.2.2.2.2.2.1 := by
  refine ⟨fun h => by subst h; exact ⟨rfl, rfl, rfl, rfl, rfl, rfl, rfl, rfl, rfl⟩, fun ⟨h1, h2, h3, h4, h5, h6, h7, h8, h9⟩ => ?_⟩
  obtain ⟨a1, a2, a3, a4, a5, a6, a7, a8, a9, _⟩ := a
  obtain ⟨b1, b2, b3, b4, b5, b6, b7, b8, b9, _⟩ := b
  dsimp only at h1 h2 h3 h4 h5 h6 h7 h8 h9
  subst h1; subst h2; subst h3; subst h4; subst h5; subst h6; subst h7; subst h8; subst h9
  rfl
instance nodeDec : DecidableEq NodeV := fun a b => decidable_of_iff _ node_ext.symm
theorem same_j0 (c : Bool) (a b : NodeV) (h : okN a) : node_Same.j0 c a b = some (c && decide (a.2.2.2.2.2.1 = b.2.2.2.2.2.1 ∧ a.2.2.2.2.2.2.2.1 = b.2.2.2.2.2.2.2.1 ∧ a.2.2.2.2.2.2.2.2.1 = b.2.2.2.2.2.2.2.2.1 ∧ a.2.2.2.2.1 = b.2.2.2.2.1 ∧ a.2.2.2.2.2.2.1 = b.2.2.2.2.2.2.1)) := by
  have hk := h.kids
  have hl := h.list
  rw [node_Same.j0.eq]
  cases c with
  | false => rw [br_f, Bool.false_and]
  | true =>
    rw [br_t, Bool.true_and]
    simp only [eqI_d, br_if]
    by_cases h1 : a.2.2.2.2.2.1 = b.2.2.2.2.2.1
    · rw [if_pos h1]
      by_cases h2 : a.2.2.2.2.2.2.2.1 = b.2.2.2.2.2.2.2.1
      · rw [if_pos h2]
        by_cases h3 : a.2.2.2.2.2.2.2.2.1 = b.2.2.2.2.2.2.2.2.1
        · rw [if_pos h3, equalR_any _ _ (by omega), bnd_some, br_if]
          by_cases h4 : a.2.2.2.2.1 = b.2.2.2.2.1
          · rw [if_pos h4, equalP_any _ _ (by omega), bnd_some]
            exact some_bool (decide_eq_decide.2 ⟨fun h5 => ⟨h1, h2, h3, h4, h5⟩, fun h => h.2.2.2.2⟩)
          · rw [if_neg h4]; exact some_bool (decide_eq_false (fun h => h4 h.2.2.2.1)).symm
        · rw [if_neg h3]; exact some_bool (decide_eq_false (fun h => h3 h.2.2.1)).symm
      · rw [if_neg h2]; exact some_bool (decide_eq_false (fun h => h2 h.2.1)).symm
    · rw [if_neg h1]; exact some_bool (decide_eq_false (fun h => h1 h.1)).symm
theorem same_any (a b : NodeV) (h : okN a) : node_Same a b = some (decide (a = b)) := by
  rw [node_Same.eq]
  simp only [same_j0 _ a b h, eqI_d, eqS_d, br_if, Bool.false_and]
  by_cases h1 : a.1 = b.1
  · rw [if_pos h1]
    by_cases h2 : a.2.1 = b.2.1
    · rw [if_pos h2]
      by_cases h3 : a.2.2.1 = b.2.2.1
      · rw [if_pos h3]
        by_cases h4 : a.2.2.2.1 = b.2.2.2.1
        · rw [decide_eq_true h4, Bool.true_and]
          exact some_bool (decide_eq_decide.2 ⟨fun ⟨g1, g2, g3, g4, g5⟩ => node_ext.2 ⟨h1, h2, h3, h4, g4, g1, g5, g2, g3⟩, fun e => by subst e; exact ⟨rfl, rfl, rfl, rfl, rfl⟩⟩)
        · rw [decide_eq_false h4, Bool.false_and]; exact some_bool (decide_eq_false (fun e => h4 (by rw [e]))).symm
      · rw [if_neg h3]; exact some_bool (decide_eq_false (fun e => h3 (by rw [e]))).symm
    · rw [if_neg h2]; exact some_bool (decide_eq_false (fun e => h2 (by rw [e]))).symm
  · rw [if_neg h1]; exact some_bool (decide_eq_false (fun e => h1 (by rw [e]))).symm
/-! ### Too long -/
def longN (n : NodeV) : Bool := longP (n.2.1, (n.2.2.1, ())) || n.2.2.2.2.2.2.1.any longP
theorem long_any (n : NodeV) (h : okN n) : node_long n = some (longN n) := by
  rw [node_long.eq, long1_any, bnd_some, br_b]
  unfold longN
  by_cases e : longP (n.2.1, (n.2.2.1, ())) = true
  · rw [if_pos e, e]; rfl
  · have e' : longP (n.2.1, (n.2.2.1, ())) = false := by simpa using e
    rw [if_neg e, longL_any _ (by have := h.list; omega), bnd_some, e', Bool.false_or]
theorem reflong_loop (n : NodeV) (h : okN n) (d : Nat) : ∀ (i : Nat) (c : Bool), i ≤ n.2.2.2.2.2.2.1.length → n.2.2.2.2.2.2.1.length - i = d → ref13_long.l0 c i n = some (c || (n.2.2.2.2.2.2.1.drop i).any longP) := by
  have hl := h.list
  induction d with
  | zero =>
    intro i c h1 h2
    rw [ref13_long.l0.eq]
    simp only [ltI_d, ofN_d, lenL_d, br_if]
    rw [if_neg (by omega), List.drop_eq_nil_of_le (by omega)]
    simp
  | succ d ih =>
    intro i c h1 h2
    have hi : i < n.2.2.2.2.2.2.1.length := by omega
    rw [ref13_long.l0.eq]
    simp only [ltI_d, leI_d, ofN_d, lenL_d, lenS_d, andB_d, br_if]
    rw [if_pos (by omega), add1 i (by omega)]
    cases c with
    | true => rw [br_t, ih (i + 1) true (by omega) (by omega)]; simp
    | false =>
      rw [br_f, if_pos (by omega), ixP _ i hi, List.drop_eq_getElem_cons hi, List.any_cons, Bool.false_or]
      rw [show longP n.2.2.2.2.2.2.1[i] = (decide (16 < n.2.2.2.2.2.2.1[i].1.size) || decide (16 < n.2.2.2.2.2.2.1[i].2.1.size)) from rfl]
      by_cases e : 16 < n.2.2.2.2.2.2.1[i].1.size
      · rw [if_pos (by omega), ih (i + 1) true (by omega) (by omega), decide_eq_true e]
        simp
      · rw [if_neg (by omega), if_pos (by omega), ih (i + 1) _ (by omega) (by omega), decide_eq_false e, Bool.false_or]
        refine some_bool ?_
        congr 1
        exact decide_eq_decide.2 (by omega)
theorem reflong_any (n : NodeV) (h : okN n) : ref13_long n = some (longN n) := by
  rw [ref13_long.eq]
  simp only [ltI_d, ofN_d, lenS_d, br_if]
  have key : ∀ c : Bool, ref13_long.l0 c 0 n = some (c || n.2.2.2.2.2.2.1.any longP) := fun c => by
    have := reflong_loop n h n.2.2.2.2.2.2.1.length 0 c (by omega) (by omega)
    rw [List.drop_zero, show ((0 : Nat) : Int) = 0 from rfl] at this
    exact this
  unfold longN
  rw [key, key, show longP (n.2.1, (n.2.2.1, ())) = (decide (16 < n.2.1.size) || decide (16 < n.2.2.1.size)) from rfl]
  by_cases e : 16 < n.2.1.size
  · rw [if_pos (by omega), decide_eq_true e]; simp
  · rw [if_neg (by omega), decide_eq_false e, Bool.false_or]
    refine some_bool ?_
    congr 1
    exact decide_eq_decide.2 (by omega)
/-! ### Of its kind's form -/
def bareP (n : NodeV) (binding branch main list : Bool) : Prop :=
  (binding = true → n.2.1 = ByteArray.empty ∧ n.2.2.1 = ByteArray.empty) ∧ (branch = true → n.2.2.2.1 = 0 ∧ n.2.2.2.2.1 = []) ∧ (main = true → n.2.2.2.2.2.1 = 0) ∧ (list = true → n.2.2.2.2.2.2.1 = [])
instance (n : NodeV) (a b c d : Bool) : Decidable (bareP n a b c d) := by unfold bareP; infer_instance
theorem len0 {A : Type} {l : List A} : (l.length : Int) = 0 ↔ l = [] := by
  constructor
  · intro h; exact List.eq_nil_of_length_eq_zero (by omega)
  · intro h; rw [h]; rfl
theorem bare_any (n : NodeV) (a b c d : Bool) : ref13_bare n a b c d = some (decide (bareP n a b c d)) := by
  rw [ref13_bare.eq]
  unfold bareP
  simp only [eqI_d, eqS_d, ltI_d, leI_d, ofN_d, lenL_d, notB_d, br_if, br_b]
  have hk : (0 : Int) < (n.2.2.2.2.1.length : Int) ↔ ¬ n.2.2.2.2.1 = [] := by
    rw [← len0]; omega
  simp only [hk, len0]
  by_cases e1 : n.2.1 = ByteArray.empty <;> by_cases e2 : n.2.2.1 = ByteArray.empty <;> by_cases e3 : n.2.2.2.1 = 0 <;> by_cases e4 : n.2.2.2.2.1 = [] <;> by_cases e5 : n.2.2.2.2.2.1 = 0 <;> cases a <;> cases b <;> cases c <;> cases d <;> simp [e1, e2, e3, e4, e5, notB]
/-- Is a node of its kind's form? -/
def formP (n : NodeV) : Prop := 0 ≤ n.2.2.2.2.2.2.2.2.1 ∧
  if n.1 = 1 ∨ n.1 = 6 then n.2.2.2.2.2.2.2.1 = 1 ∧ bareP n false true true true
  else if n.1 = 2 then (0 : Int) ∉ n.2.2.2.2.1 ∧ n.2.2.2.2.1.length = (allI n.2.2.2.1.toNat).length ∧ 0 ≤ n.2.2.2.2.2.2.2.1 ∧ bareP n true false true true
  else if n.1 = 3 then 2 ≤ n.2.2.2.2.2.2.1.length ∧ isS n.2.2.2.2.2.2.1 = true ∧ n.2.2.2.2.2.2.2.1 = (n.2.2.2.2.2.2.1.length : Int) ∧ bareP n true true true false
  else if n.1 = 4 then n.2.2.2.1 = 0 ∧ n.2.2.2.2.1.length = 2 ∧ 1 ≤ n.2.2.2.2.2.2.2.1 ∧ bareP n false false true true
  else n.2.2.2.2.2.1 ≠ 0 ∧ n.2.2.2.2.2.2.2.1 = 0 ∧ bareP n true true false true
instance (n : NodeV) : Decidable (formP n) := by unfold formP; infer_instance
theorem kid_loop (n : NodeV) (h : okN n) (d : Nat) : ∀ (i : Nat), i ≤ n.2.2.2.2.1.length → n.2.2.2.2.1.length - i = d →
    ref13_form.l1 i n = some (decide ((0 : Int) ∉ n.2.2.2.2.1.drop i ∧ n.2.2.2.2.1.length = (allI n.2.2.2.1.toNat).length ∧ 0 ≤ n.2.2.2.2.2.2.2.1 ∧ bareP n true false true true)) := by
  have hk := h.kids
  have hm0 := h.map0
  have hm1 := h.map1
  induction d with
  | zero =>
    intro i h1 h2
    rw [ref13_form.l1.eq]
    simp only [ltI_d, leI_d, eqI_d, ofN_d, lenL_d, br_if]
    have hm : n.2.2.2.1 = ((n.2.2.2.1.toNat : Nat) : Int) := (Int.toNat_of_nonneg hm0).symm
    rw [if_neg (by omega), hm, refall_any _ (by omega), bnd_some, Int.toNat_natCast, List.drop_eq_nil_of_le (by omega), bare_any]
    by_cases e1 : n.2.2.2.2.1.length = (allI n.2.2.2.1.toNat).length
    · rw [if_pos (by omega)]
      by_cases e2 : 0 ≤ n.2.2.2.2.2.2.2.1
      · rw [if_pos e2, bnd_some]
        exact some_bool (decide_eq_decide.2 ⟨fun e3 => ⟨by simp, e1, e2, e3⟩, fun e => e.2.2.2⟩)
      · rw [if_neg e2]; exact some_bool (decide_eq_false (fun e => e2 e.2.2.1)).symm
    · rw [if_neg (by omega)]; exact some_bool (decide_eq_false (fun e => e1 e.2.1)).symm
  | succ d ih =>
    intro i h1 h2
    have hi : i < n.2.2.2.2.1.length := by omega
    rw [ref13_form.l1.eq]
    simp only [ltI_d, leI_d, eqI_d, ofN_d, lenL_d, andB_d, br_if]
    rw [if_pos (by omega), if_pos (by omega), ixR _ i hi, add1 i (by omega), ih (i + 1) (by omega) (by omega), List.drop_eq_getElem_cons hi]
    by_cases e : n.2.2.2.2.1[i] = 0
    · rw [if_pos e]
      exact some_bool (decide_eq_false (fun q => q.1 (by rw [e]; exact List.mem_cons_self))).symm
    · rw [if_neg e]
      exact some_bool (decide_eq_decide.2 ⟨fun q => ⟨fun q' => (List.mem_cons.1 q').elim (fun q2 => e q2.symm) q.1, q.2⟩, fun q => ⟨fun q' => q.1 (List.mem_cons_of_mem _ q'), q.2⟩⟩)
theorem form_any (n : NodeV) (h : okN n) (h1 : 1 ≤ n.1) (h2 : n.1 ≤ 6) : ref13_form n = some (decide (formP n)) := by
  have hl := h.list
  have hk := h.kids
  rw [ref13_form.eq]
  unfold formP
  simp only [ltI_d, eqI_d, br_if]
  by_cases hb : n.2.2.2.2.2.2.2.2.1 < 0
  · rw [if_pos hb]
    exact some_bool (decide_eq_false (fun q => absurd q.1 (by omega))).symm
  rw [if_neg hb]
  have hj : ref13_form.j0 n.1 (decide (n.1 = 1 ∨ n.1 = 6)) n = some (decide (0 ≤ n.2.2.2.2.2.2.2.2.1 ∧
      if n.1 = 1 ∨ n.1 = 6 then n.2.2.2.2.2.2.2.1 = 1 ∧ bareP n false true true true
      else if n.1 = 2 then (0 : Int) ∉ n.2.2.2.2.1 ∧ n.2.2.2.2.1.length = (allI n.2.2.2.1.toNat).length ∧ 0 ≤ n.2.2.2.2.2.2.2.1 ∧ bareP n true false true true
      else if n.1 = 3 then 2 ≤ n.2.2.2.2.2.2.1.length ∧ isS n.2.2.2.2.2.2.1 = true ∧ n.2.2.2.2.2.2.2.1 = (n.2.2.2.2.2.2.1.length : Int) ∧ bareP n true true true false
      else if n.1 = 4 then n.2.2.2.1 = 0 ∧ n.2.2.2.2.1.length = 2 ∧ 1 ≤ n.2.2.2.2.2.2.2.1 ∧ bareP n false false true true
      else n.2.2.2.2.2.1 ≠ 0 ∧ n.2.2.2.2.2.2.2.1 = 0 ∧ bareP n true true false true)) := by
    rw [ref13_form.j0.eq]
    simp only [ltI_d, leI_d, eqI_d, ofN_d, lenL_d, notB_d, br_if, bare_any, bnd_some]
    have hbb : 0 ≤ n.2.2.2.2.2.2.2.2.1 := by omega
    by_cases k1 : n.1 = 1 ∨ n.1 = 6
    · simp only [if_pos k1]
      by_cases e : n.2.2.2.2.2.2.2.1 = 1
      · rw [if_pos e]; exact some_bool (decide_eq_decide.2 ⟨fun q => ⟨hbb, e, q⟩, fun q => q.2.2⟩)
      · rw [if_neg e]; exact some_bool (decide_eq_false (fun q => e q.2.1)).symm
    simp only [if_neg k1]
    by_cases k2 : n.1 = 2
    · simp only [if_pos k2]
      have := kid_loop n h n.2.2.2.2.1.length 0 (by omega) (by omega)
      rw [List.drop_zero, show ((0 : Nat) : Int) = 0 from rfl] at this
      rw [this]
      exact some_bool (decide_eq_decide.2 ⟨fun q => ⟨hbb, q⟩, fun q => q.2⟩)
    simp only [if_neg k2]
    by_cases k3 : n.1 = 3
    · simp only [if_pos k3]
      by_cases e1 : (2 : Int) ≤ (n.2.2.2.2.2.2.1.length : Int)
      · rw [if_pos e1, refis_any _ (by omega) h.binds, bnd_some, br_b]
        by_cases e2 : isS n.2.2.2.2.2.2.1 = true
        · rw [if_pos e2]
          by_cases e3 : n.2.2.2.2.2.2.2.1 = (n.2.2.2.2.2.2.1.length : Int)
          · rw [if_pos e3]; exact some_bool (decide_eq_decide.2 ⟨fun q => ⟨hbb, by omega, e2, e3, q⟩, fun q => q.2.2.2.2⟩)
          · rw [if_neg e3]; exact some_bool (decide_eq_false (fun q => e3 q.2.2.2.1)).symm
        · rw [if_neg e2]; exact some_bool (decide_eq_false (fun q => e2 q.2.2.1)).symm
      · rw [if_neg e1]; exact some_bool (decide_eq_false (fun q => e1 (by have := q.2.1; omega))).symm
    simp only [if_neg k3]
    by_cases k4 : n.1 = 4
    · simp only [if_pos k4]
      by_cases e1 : n.2.2.2.1 = 0
      · rw [if_pos e1]
        by_cases e2 : (n.2.2.2.2.1.length : Int) = 2
        · rw [if_pos e2]
          by_cases e3 : 1 ≤ n.2.2.2.2.2.2.2.1
          · rw [if_pos e3]; exact some_bool (decide_eq_decide.2 ⟨fun q => ⟨hbb, e1, by omega, e3, q⟩, fun q => q.2.2.2.2⟩)
          · rw [if_neg e3]; exact some_bool (decide_eq_false (fun q => e3 q.2.2.2.1)).symm
        · rw [if_neg e2]; exact some_bool (decide_eq_false (fun q => e2 (by have := q.2.2.1; omega))).symm
      · rw [if_neg e1]; exact some_bool (decide_eq_false (fun q => e1 q.2.1)).symm
    simp only [if_neg k4]
    by_cases e1 : n.2.2.2.2.2.1 = 0
    · rw [if_neg (by intro q; exact q e1)]; exact some_bool (decide_eq_false (fun q => q.2.1 e1)).symm
    · rw [if_pos e1]
      by_cases e2 : n.2.2.2.2.2.2.2.1 = 0
      · rw [if_pos e2]; exact some_bool (decide_eq_decide.2 ⟨fun q => ⟨hbb, e1, e2, q⟩, fun q => q.2.2.2⟩)
      · rw [if_neg e2]; exact some_bool (decide_eq_false (fun q => e2 q.2.2.1)).symm
  by_cases k1 : n.1 = 1
  · rw [if_pos k1]
    have e : decide (n.1 = 1 ∨ n.1 = 6) = true := decide_eq_true (.inl k1)
    rw [e] at hj
    exact hj
  · rw [if_neg k1]
    have e : decide (n.1 = 1 ∨ n.1 = 6) = decide (n.1 = 6) := decide_eq_decide.2 ⟨fun q => q.resolve_left k1, .inr⟩
    rw [e] at hj
    exact hj
/-- What is wrong with a node. -/
def mayS (n : NodeV) : Int := if n.1 < 1 then 11 else if 6 < n.1 then 11 else if longN n = true then 6 else if formP n then 0 else 4
theorem refmay_any (n : NodeV) (h : okN n) : ref13_May n = some (mayS n) := by
  rw [ref13_May.eq]
  unfold mayS
  simp only [ltI_d, eqI_d, br_if]
  by_cases h1 : n.1 < 1
  · rw [if_pos h1, if_pos h1]
  · rw [if_neg h1, if_neg h1]
    by_cases h2 : 6 < n.1
    · rw [if_pos h2, if_pos h2]
    · rw [if_neg h2, if_neg h2, reflong_any n h, bnd_some, br_b]
      by_cases h3 : longN n = true
      · rw [if_pos h3, if_pos h3]
      · rw [if_neg h3, if_neg h3, form_any n h (by omega) (by omega), bnd_some, notB_d, br_if]
        by_cases h4 : formP n
        · rw [if_neg (by intro q; exact q h4), if_pos h4]
        · rw [if_pos h4, if_neg h4]
end Go.Proofs.Ytimgaglpempfeaa.AA
set_option linter.unusedVariables false
set_option linter.unusedSimpArgs false
namespace Go.Proofs.Ytimgaglpempfeaa.AA
open Go.Abs
def zeroN : NodeV := (0, (ByteArray.empty, (ByteArray.empty, (0, ([], (0, ([], (0, (0, ())))))))))
/-- What a node of its kind has at most. -/
def formedV (n : NodeV) : NodeV :=
  if n.1 = 1 then (1, (n.2.1, (n.2.2.1, (0, ([], (0, ([], (1, (0, ()))))))))) else
  if n.1 = 6 then (6, (n.2.1, (n.2.2.1, (0, ([], (0, ([], (1, (0, ()))))))))) else
  if n.1 = 2 then (2, (ByteArray.empty, (ByteArray.empty, (n.2.2.2.1, (n.2.2.2.2.1, (0, ([], (max n.2.2.2.2.2.2.2.1 0, (0, ()))))))))) else
  if n.1 = 3 then (3, (ByteArray.empty, (ByteArray.empty, (0, ([], (0, (makeS n.2.2.2.2.2.2.1, (((makeS n.2.2.2.2.2.2.1).length : Int), (0, ()))))))))) else
  if n.1 = 4 then (if n.2.2.2.2.1.length = 2 then (4, (n.2.1, (n.2.2.1, (0, (n.2.2.2.2.1, (0, ([], (max n.2.2.2.2.2.2.2.1 1, (0, ()))))))))) else zeroN) else
  if n.1 = 5 then (5, (ByteArray.empty, (ByteArray.empty, (0, ([], (n.2.2.2.2.2.1, ([], (0, (0, ()))))))))) else zeroN
theorem two {l : List Int} (h : l.length = 2) : [l[0], l[1]] = l := by
  match l, h with
  | [a, b], _ => rfl
theorem formed_any (n : NodeV) (h : okN n) : node_formed n = some (formedV n) := by
  have hl := h.list
  have hk := h.kids
  rw [node_formed.eq]
  unfold formedV
  simp only [ltI_d, leI_d, eqI_d, ofN_d, lenL_d, andB_d, maxI_d, br_if]
  by_cases k1 : n.1 = 1
  · rw [if_pos k1, if_pos k1, node_Leaf.eq, bnd_some]
  rw [if_neg k1, if_neg k1]
  by_cases k6 : n.1 = 6
  · rw [if_pos k6, if_pos k6, node_Tomb.eq, bnd_some]
  rw [if_neg k6, if_neg k6]
  by_cases k2 : n.1 = 2
  · rw [if_pos k2, if_pos k2, node_Branch.eq, cloneR_any _ (by omega), bnd_some, bnd_some]
  rw [if_neg k2, if_neg k2]
  by_cases k3 : n.1 = 3
  · rw [if_pos k3, if_pos k3, node_Bucket.eq, make_any _ (by omega) h.binds, bnd_some, bnd_some]
    rfl
  rw [if_neg k3, if_neg k3]
  by_cases k4 : n.1 = 4
  · rw [if_pos k4, if_pos k4]
    by_cases e : n.2.2.2.2.1.length = 2
    · rw [if_pos e, if_pos (by omega), if_pos (by omega), if_pos (by omega)]
      have i0 := ixR n.2.2.2.2.1 0 (by omega)
      have i1 := ixR n.2.2.2.2.1 1 (by omega)
      rw [show ((0 : Nat) : Int) = 0 from rfl] at i0
      rw [show ((1 : Nat) : Int) = 1 from rfl] at i1
      rw [i0, i1, node_Tree.eq, bnd_some, two e]
    · rw [if_neg e, if_neg (by omega)]
      rfl
  rw [if_neg k4, if_neg k4]
  by_cases k5 : n.1 = 5
  · rw [if_pos k5, if_pos k5, node_Inner.eq, bnd_some]
  rw [if_neg k5, if_neg k5]
  rfl
/-- Is what a node must have there? -/
def wholeP (n : NodeV) : Prop :=
  if n.1 = 2 then n.2.2.2.2.1.length = (allI n.2.2.2.1.toNat).length ∧ (0 : Int) ∉ n.2.2.2.2.1
  else if n.1 = 3 then 2 ≤ n.2.2.2.2.2.2.1.length ∧ isS n.2.2.2.2.2.2.1 = true
  else if n.1 = 5 then n.2.2.2.2.2.1 ≠ 0 else True
instance (n : NodeV) : Decidable (wholeP n) := by unfold wholeP; infer_instance
theorem whole_any (n : NodeV) (h : okN n) : node_whole n = some (decide (wholeP n)) := by
  have hl := h.list
  have hk := h.kids
  have hm0 := h.map0
  have hm1 := h.map1
  rw [node_whole.eq]
  unfold wholeP
  simp only [ltI_d, leI_d, eqI_d, ofN_d, lenL_d, andB_d, notB_d, br_if]
  by_cases k2 : n.1 = 2
  · simp only [if_pos k2]
    have hm : n.2.2.2.1 = ((n.2.2.2.1.toNat : Nat) : Int) := (Int.toNat_of_nonneg hm0).symm
    rw [hm, count_any _ (by omega), bnd_some, Int.toNat_natCast]
    by_cases e : n.2.2.2.2.1.length = (allI n.2.2.2.1.toNat).length
    · rw [if_pos (by omega), containsR_any _ _ (by omega), bnd_some, notB_d]
      exact some_bool (decide_eq_decide.2 ⟨fun q => ⟨e, q⟩, fun q => q.2⟩)
    · rw [if_neg (by omega)]; exact some_bool (decide_eq_false (fun q => e q.1)).symm
  simp only [if_neg k2]
  by_cases k3 : n.1 = 3
  · simp only [if_pos k3]
    by_cases e : 2 ≤ n.2.2.2.2.2.2.1.length
    · rw [if_pos (by omega), is_any _ (by omega) h.binds, bnd_some]
      refine some_bool ?_
      cases hs : isS n.2.2.2.2.2.2.1 with
      | true => exact (decide_eq_true ⟨e, rfl⟩).symm
      | false => exact (decide_eq_false (fun q => by cases q.2)).symm
    · rw [if_neg (by omega)]; exact some_bool (decide_eq_false (fun q => e q.1)).symm
  simp only [if_neg k3]
  by_cases k5 : n.1 = 5
  · simp only [if_pos k5]
  simp only [if_neg k5]
  exact some_bool (decide_eq_true trivial).symm
/-- With its birth, no less than nought. -/
def bornV (n : NodeV) : NodeV :=
  let f := formedV n
  (f.1, (f.2.1, (f.2.2.1, (f.2.2.2.1, (f.2.2.2.2.1, (f.2.2.2.2.2.1, (f.2.2.2.2.2.2.1, (f.2.2.2.2.2.2.2.1, (max n.2.2.2.2.2.2.2.2.1 0, ())))))))))
theorem max0 {a b : Int} : a = max a b ↔ b ≤ a := by omega
theorem form_iff (n : NodeV) (h1 : 1 ≤ n.1) (h2 : n.1 ≤ 6) : (n = bornV n ∧ wholeP n) ↔ formP n := by
  obtain ⟨k, key, val, m, ks, mn, L, sz, bi, u⟩ := n
  rw [node_ext]
  unfold bornV formedV wholeP formP bareP
  dsimp only at h1 h2 ⊢
  by_cases k1 : k = 1
  · subst k1
    simp [max0]
    constructor
    · rintro ⟨rfl, rfl, rfl, rfl, rfl, h⟩; simp [h]
    · rintro ⟨h, rfl, ⟨rfl, rfl⟩, rfl, rfl⟩; simp [h]
  by_cases k6 : k = 6
  · subst k6
    simp [max0]
    constructor
    · rintro ⟨rfl, rfl, rfl, rfl, rfl, h⟩; simp [h]
    · rintro ⟨h, rfl, ⟨rfl, rfl⟩, rfl, rfl⟩; simp [h]
  by_cases k2 : k = 2
  · subst k2
    simp [max0]
    constructor
    · rintro ⟨⟨h1, h2, h3, h4, h5, h6⟩, h7, h8⟩; exact ⟨h6, h8, h7, h5, ⟨h1, h2⟩, h3, h4⟩
    · rintro ⟨h6, h8, h7, h5, ⟨h1, h2⟩, h3, h4⟩; exact ⟨⟨h1, h2, h3, h4, h5, h6⟩, h7, h8⟩
  by_cases k3 : k = 3
  · subst k3
    simp [max0]
    constructor
    · rintro ⟨⟨h1, h2, h3, h4, h5, h6, h7, h8⟩, h9, h10⟩
      refine ⟨h8, h9, h10, ?_, ⟨h1, h2⟩, ⟨h3, h4⟩, h5⟩
      rw [h7, ← h6]
    · rintro ⟨h8, h9, h10, h7, ⟨h1, h2⟩, ⟨h3, h4⟩, h5⟩
      have := makeS_srt (isS_srt h10)
      refine ⟨⟨h1, h2, h3, h4, h5, this.symm, ?_, h8⟩, h9, h10⟩
      rw [this]; exact h7
  by_cases k4 : k = 4
  · subst k4
    by_cases e : ks.length = 2
    · simp [max0, e]
      constructor
      · rintro ⟨rfl, rfl, rfl, h, h'⟩; simp [h, h']
      · rintro ⟨h', rfl, h, rfl, rfl⟩; simp [h, h']
    · simp [max0, e, zeroN]
  have k5 : k = 5 := by omega
  subst k5
  simp [max0]
  constructor
  · rintro ⟨⟨h1, h2, h3, h4, h5, h6, h7⟩, h8⟩; exact ⟨h7, h8, h6, ⟨h1, h2⟩, ⟨h3, h4⟩, h5⟩
  · rintro ⟨h7, h8, h6, ⟨h1, h2⟩, ⟨h3, h4⟩, h5⟩; exact ⟨⟨h1, h2, h3, h4, h5, h6, h7⟩, h8⟩
theorem may_any (n : NodeV) (h : okN n) : node_May n = some (mayS n) := by
  rw [node_May.eq, formed_any n h, bnd_some]
  unfold mayS
  simp only [ltI_d, eqI_d, maxI_d, br_if]
  by_cases h1 : n.1 < 1
  · rw [if_pos h1, if_pos h1]
  rw [if_neg h1, if_neg h1]
  by_cases h2 : 6 < n.1
  · rw [if_pos h2, if_pos h2]
  rw [if_neg h2, if_neg h2, long_any n h, bnd_some, br_b]
  by_cases h3 : longN n = true
  · rw [if_pos h3, if_pos h3]
  rw [if_neg h3, if_neg h3, same_any n _ h, bnd_some, notB_d, br_if, whole_any n h, bnd_some, notB_d, br_if]
  have := form_iff n (by omega) (by omega)
  show (if ¬ n = bornV n then some (4 : Int) else if ¬ wholeP n then some 4 else some 0) = _
  by_cases h4 : n = bornV n
  · rw [if_neg (by intro q; exact q h4)]
    by_cases h5 : wholeP n
    · rw [if_neg (by intro q; exact q h5), if_pos (this.1 ⟨h4, h5⟩)]
    · rw [if_pos h5, if_neg (fun q => h5 (this.2 q).2)]
  · rw [if_pos h4, if_neg (fun q => h4 (this.2 q).1)]
def textOf (l : Array UInt8) : ByteArray := ByteArray.mk l
end Go.Proofs.Ytimgaglpempfeaa.AA
set_option linter.unusedVariables false
set_option linter.unusedSimpArgs false
namespace Go.Proofs.Ytimgaglpempfeaa.AA
open Go.Abs
theorem refsameP_loop (l m : List PairV) (hl : l.length ≤ 50000000) (hm : l.length = m.length) (d : Nat) : ∀ (i : Nat), i ≤ l.length → l.length - i = d → ref07_Same.l0 l m i = some (decide (l.drop i = m.drop i)) := by
  induction d with
  | zero =>
    intro i h1 h2
    rw [ref07_Same.l0.eq]
    simp only [ltI_d, ofN_d, lenL_d, br_if]
    rw [if_neg (by omega), List.drop_eq_nil_of_le (by omega), List.drop_eq_nil_of_le (by omega), decide_eq_true rfl]
  | succ d ih =>
    intro i h1 h2
    rw [ref07_Same.l0.eq]
    simp only [ltI_d, leI_d, ofN_d, lenL_d, andB_d, eq_pair, notB_d, br_if]
    rw [if_pos (by omega), if_pos (by omega), if_pos (by omega), ixP l i (by omega), ixP m i (by omega), add1 i (by omega), ih (i + 1) (by omega) (by omega)]
    by_cases e : l[i] = m[i]
    · rw [if_neg (by intro h; exact h e)]
      exact some_bool (decide_eq_decide.2 (by rw [drop_eq_iff (show i < l.length by omega) (show i < m.length by omega)]; simp [e]))
    · rw [if_pos e]
      exact some_bool (decide_eq_false (by rw [drop_eq_iff (show i < l.length by omega) (show i < m.length by omega)]; exact fun h => e h.1)).symm
theorem refsameP_any (l m : List PairV) (hl : l.length ≤ 50000000) : ref07_Same l m = some (decide (l = m)) := by
  rw [ref07_Same.eq]
  simp only [ofN_d, lenL_d, eqI_d, notB_d, br_if]
  by_cases h : l.length = m.length
  · rw [if_neg (by omega)]
    exact refsameP_loop l m hl h l.length 0 (by omega) (by omega)
  · rw [if_pos (by omega)]
    exact some_bool (decide_eq_false (fun e => h (by rw [e]))).symm
/-! ### Putting, twice -/
end Go.Proofs.Ytimgaglpempfeaa.AA
set_option linter.unusedVariables false
set_option linter.unusedSimpArgs false
namespace Go.Proofs.Ytimgaglpempfeaa.AA
open Go.Abs
theorem sameR_loop (l m : List Int) (hl : l.length ≤ 50000000) (hm : l.length = m.length) (d : Nat) : ∀ (i : Nat), i ≤ l.length → l.length - i = d → ref13_SameRefs.l0 l m i = some (decide (l.drop i = m.drop i)) := by
  induction d with
  | zero =>
    intro i h1 h2
    rw [ref13_SameRefs.l0.eq]
    simp only [ltI_d, ofN_d, lenL_d, br_if]
    rw [if_neg (by omega), List.drop_eq_nil_of_le (by omega), List.drop_eq_nil_of_le (by omega), decide_eq_true rfl]
  | succ d ih =>
    intro i h1 h2
    rw [ref13_SameRefs.l0.eq]
    simp only [ltI_d, leI_d, ofN_d, lenL_d, andB_d, eqI_d, notB_d, br_if]
    rw [if_pos (by omega), if_pos (by omega), if_pos (by omega), ixR l i (by omega), ixR m i (by omega), add1 i (by omega), ih (i + 1) (by omega) (by omega)]
    by_cases e : l[i] = m[i]
    · rw [if_neg (by intro h; exact h e)]
      exact some_bool (decide_eq_decide.2 (by rw [drop_eq_iff (show i < l.length by omega) (show i < m.length by omega)]; simp [e]))
    · rw [if_pos e]
      exact some_bool (decide_eq_false (by rw [drop_eq_iff (show i < l.length by omega) (show i < m.length by omega)]; exact fun h => e h.1)).symm
theorem sameR_any (l m : List Int) (hl : l.length ≤ 50000000) : ref13_SameRefs l m = some (decide (l = m)) := by
  rw [ref13_SameRefs.eq]
  simp only [ofN_d, lenL_d, eqI_d, notB_d, br_if]
  by_cases h : l.length = m.length
  · rw [if_neg (by omega)]
    exact sameR_loop l m hl h l.length 0 (by omega) (by omega)
  · rw [if_pos (by omega)]
    exact some_bool (decide_eq_false (fun e => h (by rw [e]))).symm
theorem refsame_any (a b : NodeV) (hk : a.2.2.2.2.1.length ≤ 50000000) (hl : a.2.2.2.2.2.2.1.length ≤ 50000000) : ref13_Same a b = some (decide (a = b)) := by
  rw [ref13_Same.eq]
  simp only [eqI_d, eqS_d, notB_d, br_if]
  have no : ∀ {p : Prop}, (a = b → p) → ¬ p → (some false : Option Bool) = some (decide (a = b)) := fun h n => (some_bool (decide_eq_false (fun e => n (h e)))).symm
  by_cases h1 : a.1 = b.1
  · rw [if_neg (by intro q; exact q h1)]
    by_cases h2 : a.2.1 = b.2.1
    · rw [if_neg (by intro q; exact q h2)]
      by_cases h3 : a.2.2.1 = b.2.2.1
      · rw [if_neg (by intro q; exact q h3)]
        by_cases h4 : a.2.2.2.1 = b.2.2.2.1
        · rw [if_neg (by intro q; exact q h4)]
          by_cases h5 : a.2.2.2.2.2.1 = b.2.2.2.2.2.1
          · rw [if_neg (by intro q; exact q h5)]
            by_cases h6 : a.2.2.2.2.2.2.2.1 = b.2.2.2.2.2.2.2.1
            · rw [if_neg (by intro q; exact q h6)]
              by_cases h7 : a.2.2.2.2.2.2.2.2.1 = b.2.2.2.2.2.2.2.2.1
              · rw [if_neg (by intro q; exact q h7), sameR_any _ _ hk, bnd_some, br_if]
                by_cases h8 : a.2.2.2.2.1 = b.2.2.2.2.1
                · rw [if_pos h8, refsameP_any _ _ hl, bnd_some]
                  exact some_bool (decide_eq_decide.2 ⟨fun h9 => node_ext.2 ⟨h1, h2, h3, h4, h8, h5, h9, h6, h7⟩, fun e => by rw [e]⟩)
                · rw [if_neg h8]; exact no (fun e => by rw [e]) h8
              · rw [if_pos h7]; exact no (fun e => by rw [e]) h7
            · rw [if_pos h6]; exact no (fun e => by rw [e]) h6
          · rw [if_pos h5]; exact no (fun e => by rw [e]) h5
        · rw [if_pos h4]; exact no (fun e => by rw [e]) h4
      · rw [if_pos h3]; exact no (fun e => by rw [e]) h3
    · rw [if_pos h2]; exact no (fun e => by rw [e]) h2
  · rw [if_pos h1]; exact no (fun e => by rw [e]) h1
theorem copy_any (n : NodeV) (h : okN n) : node_Copy n = some ((n.1, (n.2.1, (n.2.2.1, (n.2.2.2.1, ((), (n.2.2.2.2.2.1, ((), n.2.2.2.2.2.2.2))))))), (n.2.2.2.2.1, (n.2.2.2.2.2.2.1, ()))) := by
  have hl := h.list
  have hk := h.kids
  rw [node_Copy.eq, cloneR_any _ (by omega), bnd_some, cloneP_any _ (by omega), bnd_some]
/-! ### References, bindings -/
end Go.Proofs.Ytimgaglpempfeaa.AA
set_option linter.unusedVariables false
set_option linter.unusedSimpArgs false
namespace Go.Proofs.Ytimgaglpempfeaa.AA
open Go.Abs
def refsS (n : NodeV) : List Int := n.2.2.2.2.1.filter (fun r => decide (r ≠ 0)) ++ (if n.2.2.2.2.2.1 ≠ 0 then [n.2.2.2.2.2.1] else [])
theorem refsS_len (n : NodeV) : (refsS n).length ≤ n.2.2.2.2.1.length + 1 := by
  unfold refsS
  have := List.length_filter_le (fun r : Int => decide (r ≠ 0)) n.2.2.2.2.1
  rw [List.length_append]
  split <;> simp only [List.length_cons, List.length_nil] <;> omega
theorem refs_loop (l : List Int) (hl : l.length ≤ 50000000) (d : Nat) : ∀ (i : Nat) (acc : List Int), i ≤ l.length → l.length - i = d → acc.length ≤ i → node_Refs.l0 l.length i acc l = some (acc ++ (l.drop i).filter (fun r => decide (r ≠ 0))) := by
  induction d with
  | zero =>
    intro i acc h1 h2 h3
    rw [node_Refs.l0.eq]
    simp only [ltI_d, br_if]
    rw [if_neg (by omega), List.drop_eq_nil_of_le (by omega)]
    simp
  | succ d ih =>
    intro i acc h1 h2 h3
    have hi : i < l.length := by omega
    rw [node_Refs.l0.eq]
    simp only [ltI_d, leI_d, ofN_d, lenL_d, andB_d, eqI_d, notB_d, br_if, fitL_d, appL_d]
    rw [if_pos (by omega), if_pos (by omega), ixR l i hi, add1 i (by omega), List.drop_eq_getElem_cons hi]
    by_cases e : l[i] = 0
    · rw [if_neg (by intro q; exact q e), ih (i + 1) acc (by omega) (by omega) (by omega), List.filter_cons_of_neg (by simp [e])]
    · rw [if_pos e, if_pos (by rw [List.length_append]; show _ + 1 ≤ _; omega), ih (i + 1) _ (by omega) (by omega) (by rw [List.length_append]; show _ + 1 ≤ _; omega), List.filter_cons_of_pos (by simp [e]), List.append_assoc]
      rfl
theorem refs_any (n : NodeV) (h : okN n) : node_Refs n = some (refsS n) := by
  have hk := h.kids
  rw [node_Refs.eq, cloneR_any _ (by omega), bnd_some]
  simp only [ofN_d, lenL_d, fitL_d, appL_d, br_if]
  have hlen : (n.2.2.2.2.1 ++ [n.2.2.2.2.2.1]).length = n.2.2.2.2.1.length + 1 := by simp
  rw [if_pos (by rw [hlen]; omega), both_self]
  have := refs_loop (n.2.2.2.2.1 ++ [n.2.2.2.2.2.1]) (by omega) _ 0 [] (by omega) rfl (by simp)
  rw [List.drop_zero, show ((0 : Nat) : Int) = 0 from rfl, List.nil_append, List.filter_append] at this
  rw [this]
  unfold refsS
  by_cases e : n.2.2.2.2.2.1 = 0
  · rw [List.filter_cons_of_neg (by simp [e]), if_neg (by intro q; exact q e)]; rfl
  · rw [List.filter_cons_of_pos (by simp [e]), if_pos e]; rfl
theorem refrefs_loop (n : NodeV) (h : okN n) (d : Nat) : ∀ (i : Nat) (acc : List Int), i ≤ n.2.2.2.2.1.length → n.2.2.2.2.1.length - i = d → acc.length ≤ i → ref13_Refs.l0 i n acc = some (acc ++ (n.2.2.2.2.1.drop i).filter (fun r => decide (r ≠ 0)) ++ (if n.2.2.2.2.2.1 ≠ 0 then [n.2.2.2.2.2.1] else [])) := by
  have hk := h.kids
  induction d with
  | zero =>
    intro i acc h1 h2 h3
    rw [ref13_Refs.l0.eq]
    simp only [ltI_d, leI_d, ofN_d, lenL_d, andB_d, eqI_d, notB_d, br_if, fitL_d, appL_d]
    rw [if_neg (by omega), List.drop_eq_nil_of_le (by omega), List.filter_nil, List.append_nil]
    by_cases e : n.2.2.2.2.2.1 = 0
    · rw [if_neg (by intro q; exact q e), if_neg (by intro q; exact q e), List.append_nil]
    · rw [if_pos e, if_pos e, if_pos (by rw [List.length_append]; show _ + 1 ≤ _; omega)]
  | succ d ih =>
    intro i acc h1 h2 h3
    have hi : i < n.2.2.2.2.1.length := by omega
    rw [ref13_Refs.l0.eq]
    simp only [ltI_d, leI_d, ofN_d, lenL_d, andB_d, eqI_d, notB_d, br_if, fitL_d, appL_d]
    rw [if_pos (by omega), if_pos (by omega), ixR _ i hi, add1 i (by omega), List.drop_eq_getElem_cons hi]
    by_cases e : n.2.2.2.2.1[i] = 0
    · rw [if_neg (by intro q; exact q e), ih (i + 1) acc (by omega) (by omega) (by omega), List.filter_cons_of_neg (by simp [e])]
    · rw [if_pos e, if_pos (by omega), if_pos (by rw [List.length_append]; show _ + 1 ≤ _; omega), ih (i + 1) _ (by omega) (by omega) (by rw [List.length_append]; show _ + 1 ≤ _; omega), List.filter_cons_of_pos (by simp [e])]
      simp
theorem refrefs_any (n : NodeV) (h : okN n) : ref13_Refs n = some (refsS n) := by
  rw [ref13_Refs.eq]
  have := refrefs_loop n h _ 0 [] (by omega) rfl (by simp)
  rw [List.drop_zero, show ((0 : Nat) : Int) = 0 from rfl, List.nil_append] at this
  exact this
end Go.Proofs.Ytimgaglpempfeaa.AA
set_option linter.unusedVariables false
set_option linter.unusedSimpArgs false
namespace Go.Proofs.Ytimgaglpempfeaa.AA
open Go.Abs
def rng (x : Int) : Prop := -9223372036854775808 ≤ x ∧ x ≤ 9223372036854775807
theorem wf_rng {a : Int} (h : (Lit.int .i64 a).wf = true) : rng a := by
  simp [Lit.wf, IntKind.min, IntKind.max, IntKind.bits, IntKind.signed] at h
  unfold rng
  omega
/-- A node's references are numbers of the program. -/
def rngN (n : NodeV) : Prop := (∀ k ∈ n.2.2.2.2.1, rng k) ∧ rng n.2.2.2.2.2.1
theorem few_rng {n : NodeV} (h : wfD tapiNode n) : rngN (few n) := by
  obtain ⟨_, _, _, _, hk, hmain, _⟩ := h
  exact ⟨fun k hk' => wf_rng (hk.2 k (List.mem_of_mem_take hk')), wf_rng hmain⟩
theorem refs_rng {n : NodeV} (h : rngN n) : ∀ r ∈ refsS n, rng r := by
  intro r hr
  unfold refsS at hr
  rcases List.mem_append.1 hr with hr | hr
  · exact h.1 r (List.mem_filter.1 hr).1
  · split at hr
    · rw [List.mem_singleton.1 hr]; exact h.2
    · cases hr
theorem ixN (l : List NodeV) (i : Nat) (h : i < l.length) : ixL tapiNode l (i : Int) = l[i] := ixL_d tapiNode l i h
/-! ### Not too many nodes -/
def fewW : Nat → List NodeV → List NodeV
  | _, [] => []
  | w, n :: l => if 3000 < w * max (refsS (few n)).length 1 then [] else few n :: fewW (w * max (refsS (few n)).length 1) l
def fewH (h : List NodeV) : List NodeV := fewW 1 (h.take 12)
theorem fewW_len : ∀ (l : List NodeV) (w : Nat), (fewW w l).length ≤ l.length
  | [], _ => Nat.le_refl _
  | n :: l, w => by
    unfold fewW
    split
    · exact Nat.zero_le _
    · have := fewW_len l (w * max (refsS (few n)).length 1)
      simp only [List.length_cons]
      omega
theorem fewW_mem : ∀ (l : List NodeV) (w : Nat), ∀ x ∈ fewW w l, ∃ n ∈ l, x = few n
  | [], _, x, h => by cases h
  | n :: l, w, x, h => by
    unfold fewW at h
    split at h
    · cases h
    · rcases List.mem_cons.1 h with h | h
      · exact ⟨n, by simp, h⟩
      · obtain ⟨m, h1, h2⟩ := fewW_mem l _ x h
        exact ⟨m, by simp [h1], h2⟩
theorem fewW_cons (w : Nat) (n : NodeV) (l : List NodeV) : fewW w (n :: l) = if 3000 < w * max (refsS (few n)).length 1 then [] else few n :: fewW (w * max (refsS (few n)).length 1) l := rfl
theorem fewW_fewW : ∀ (l : List NodeV) (w : Nat), fewW w (fewW w l) = fewW w l
  | [], _ => rfl
  | n :: l, w => by
    rw [fewW_cons]
    by_cases h : 3000 < w * max (refsS (few n)).length 1
    · rw [if_pos h]
      rfl
    · rw [if_neg h, fewW_cons, few_few, if_neg h, fewW_fewW]
theorem fewH_len (h : List NodeV) : (fewH h).length ≤ 12 := by
  have := fewW_len (h.take 12) 1
  rw [List.length_take] at this
  unfold fewH
  omega
theorem fewH_mem {h : List NodeV} : ∀ x ∈ fewH h, ∃ n ∈ h, x = few n := fun x hx => by
  obtain ⟨n, h1, h2⟩ := fewW_mem _ _ x hx
  exact ⟨n, List.mem_of_mem_take h1, h2⟩
theorem fewH_fewH (h : List NodeV) : fewH (fewH h) = fewH h := by
  have := fewH_len h
  show fewW 1 ((fewH h).take 12) = fewH h
  rw [List.take_of_length_le this]
  exact fewW_fewW _ _
/-- A heap of not too many nodes. -/
structure okH (h : List NodeV) : Prop where
  len : h.length ≤ 40000000
  node : ∀ n ∈ h, okN n
  rng : ∀ n ∈ h, rngN n
theorem okH.of {h : List NodeV} (hw : wfD (.list tapiNode) h) : okH (fewH h) :=
  ⟨Nat.le_trans (fewH_len h) (by omega), fun x hx => by obtain ⟨n, h1, rfl⟩ := fewH_mem x hx; exact few_okN (hw.2 n h1), fun x hx => by obtain ⟨n, h1, rfl⟩ := fewH_mem x hx; exact few_rng (hw.2 n h1)⟩
theorem refsS_few (n : NodeV) : (refsS (few n)).length ≤ 41 := by
  have h := refsS_len (few n)
  have : (few n).2.2.2.2.1.length ≤ 40 := by show (List.take 40 _).length ≤ 40; rw [List.length_take]; omega
  omega
/-- Nodes that Few is asked of. -/
def wideN (n : NodeV) : Prop := n.2.2.2.2.1.length ≤ 9223372036854775807 ∧ n.2.2.2.2.2.2.1.length ≤ 9223372036854775807 ∧ okN (few n)
theorem fewH_loop (h : List NodeV) (hl : h.length ≤ 9223372036854775807) (hw : ∀ n ∈ h, wideN n) (d : Nat) : ∀ (i w : Nat) (acc : List NodeV), i ≤ h.length → i ≤ 12 → 1 ≤ w → w ≤ 3000 → acc.length ≤ i → 12 - i = d →
    law17_Few.l0 h w i acc = some (acc ++ fewW w ((h.take 12).drop i)) := by
  induction d with
  | zero =>
    intro i w acc hi h12 w1 w2 ha hd
    have e : (h.take 12).drop i = [] := List.drop_eq_nil_of_le (by rw [List.length_take]; omega)
    rw [law17_Few.l0.eq, law17_Few.j1.eq, law17_Few.j1.eq, e]
    simp only [ltI_d, ofN_d, lenL_d, br_if, br_f]
    have e' : acc ++ fewW w [] = acc := by unfold fewW; exact List.append_nil _
    rw [e']
    split
    · rw [if_neg (by omega)]
    · rfl
  | succ d ih =>
    intro i w acc hi h12 w1 w2 ha hd
    by_cases hil : i < h.length
    · have hin : i < (h.take 12).length := by rw [List.length_take]; omega
      have hm : h[i] ∈ h := List.getElem_mem hil
      obtain ⟨k1, k2, ho⟩ := hw _ hm
      have hr := refsS_few h[i]
      rw [law17_Few.l0.eq, law17_Few.j1.eq, ixN h i hil, Few_any _ k1 k2, bnd_some, refrefs_any _ ho, bnd_some]
      simp only [ltI_d, leI_d, ofN_d, lenL_d, andB_d, br_if, maxI_d, fitL_d, appL_d]
      have em : mulI .i64 (w : Int) (max ((refsS (few h[i])).length : Int) 1) = ((w * max (refsS (few h[i])).length 1 : Nat) : Int) := by
        have e : max ((refsS (few h[i])).length : Int) 1 = ((max (refsS (few h[i])).length 1 : Nat) : Int) := by omega
        have hle : max (refsS (few h[i])).length 1 ≤ 41 := by omega
        have hp : w * max (refsS (few h[i])).length 1 ≤ 3000 * 41 := Nat.mul_le_mul w2 hle
        unfold mulI
        rw [e, ← Int.natCast_mul]
        exact wrap_i64_id (by omega) (by omega)
      rw [if_pos (by omega), if_pos (by omega), if_pos (by omega), em, List.drop_eq_getElem_cons hin, List.getElem_take]
      by_cases hg : 3000 < w * max (refsS (few h[i])).length 1
      · rw [if_pos (by omega)]
        unfold fewW
        rw [if_pos hg, List.append_nil]
      · have hpos : 1 ≤ w * max (refsS (few h[i])).length 1 := Nat.mul_pos w1 (by omega)
        rw [if_neg (by omega), if_pos (by rw [List.length_append]; show _ + 1 ≤ _; omega), add1 i (by omega)]
        rw [ih (i + 1) _ _ (by omega) (by omega) hpos (by omega) (by rw [List.length_append]; show _ + 1 ≤ _; omega) (by omega)]
        rw [show fewW w (h[i] :: (h.take 12).drop (i + 1)) = few h[i] :: fewW (w * max (refsS (few h[i])).length 1) ((h.take 12).drop (i + 1)) by rw [fewW, if_neg hg]]
        rw [List.append_assoc]
        rfl
    · have e : (h.take 12).drop i = [] := List.drop_eq_nil_of_le (by rw [List.length_take]; omega)
      rw [law17_Few.l0.eq, law17_Few.j1.eq, law17_Few.j1.eq, e]
      simp only [ltI_d, ofN_d, lenL_d, br_if, br_f]
      rw [if_neg (by omega)]
      have e' : acc ++ fewW w [] = acc := by unfold fewW; exact List.append_nil _
      rw [e']
theorem fewH_wf {h : List NodeV} (hw : wfD (.list tapiNode) h) : law17_Few h = some (fewH h) := by
  rw [law17_Few.eq]
  have := fewH_loop h hw.1 (fun n hn => by
    obtain ⟨_, _, _, _, hk, _, hl, _⟩ := hw.2 n hn
    exact ⟨hk.1, hl.1, few_okN (hw.2 n hn)⟩) 12 0 1 [] (by omega) (by omega) (by omega) (by omega) (by simp) (by omega)
  exact this
theorem fewH_ok {h : List NodeV} (ho : okH h) : law17_Few h = some (fewH h) := by
  rw [law17_Few.eq]
  have hl := ho.len
  have := fewH_loop h (by omega) (fun n hn => by
    have o := ho.node n hn
    have h1 := o.kids
    have h2 := o.list
    refine ⟨by omega, by omega, ⟨?_, ?_, o.map0, o.map1, ?_, Nat.le_trans (fewL_len _) (by omega), fewL_ok _⟩⟩
    · show (cut 40 _).size ≤ 40; rw [cut_size]; omega
    · show (cut 40 _).size ≤ 40; rw [cut_size]; omega
    · show (List.take 40 _).length ≤ 1000000; rw [List.length_take]; omega) 12 0 1 [] (by omega) (by omega) (by omega) (by omega) (by simp) (by omega)
  exact this
/-! ### Whether a heap may be -/
def mayHL : Nat → List NodeV → Bool
  | _, [] => true
  | i, n :: l => (decide (mayS n = 0) && (refsS n).all fun r => decide (1 ≤ r ∧ r ≤ (i : Int))) && mayHL (i + 1) l
def mayH (h : List NodeV) : Bool := mayHL 0 h
theorem drop_all {p : Int → Bool} (l : List Int) (k : Nat) (h : k < l.length) : (l.drop k).all p = (p l[k] && (l.drop (k + 1)).all p) := by
  rw [List.drop_eq_getElem_cons h, List.all_cons]
theorem maych_l1 (h : List NodeV) (n i : Nat) (refs : List Int) (hr : refs.length ≤ 50000000) (d : Nat) : ∀ (k : Nat), k ≤ refs.length → refs.length - k = d →
    heap_May.l1 i h n i refs refs.length k = if ((refs.drop k).all fun r => decide (1 ≤ r ∧ r ≤ (i : Int))) = true then heap_May.l0 h n (addI .i64 i 1) else some 4 := by
  induction d with
  | zero =>
    intro k hk hd
    rw [heap_May.l1.eq]
    simp only [ltI_d, br_if]
    rw [if_neg (by omega), List.drop_eq_nil_of_le (by omega)]
    rfl
  | succ d ih =>
    intro k hk hd
    have hkl : k < refs.length := by omega
    rw [heap_May.l1.eq, ixR refs k hkl]
    simp only [ltI_d, leI_d, ofN_d, lenL_d, andB_d, br_if]
    rw [if_pos (by omega), if_pos (by omega), add1 k (by omega), ih (k + 1) (by omega) (by omega), drop_all refs k hkl]
    by_cases h1 : refs[k] < 1
    · rw [if_pos h1, decide_eq_false (by omega), Bool.false_and, if_neg (by simp)]
    · rw [if_neg h1]
      by_cases h2 : (i : Int) < refs[k]
      · rw [if_pos h2, decide_eq_false (by omega), Bool.false_and, if_neg (by simp)]
      · rw [if_neg h2, decide_eq_true (by omega), Bool.true_and]
theorem mayh_loop (h : List NodeV) (hl : h.length ≤ 50000000) (ho : ∀ n ∈ h, okN n) (d : Nat) : ∀ (i : Nat), i ≤ h.length → h.length - i = d → heap_May.l0 h h.length i = some (if mayHL i (h.drop i) = true then 0 else 4) := by
  induction d with
  | zero =>
    intro i hi hd
    rw [heap_May.l0.eq]
    simp only [ltI_d, br_if]
    rw [if_neg (by omega), List.drop_eq_nil_of_le (by omega)]
    rfl
  | succ d ih =>
    intro i hi hd
    have hil : i < h.length := by omega
    have o := ho _ (List.getElem_mem hil)
    have hrl := refsS_len h[i]
    have hkl := o.kids
    rw [heap_May.l0.eq, ixN h i hil, may_any _ o, bnd_some, refs_any _ o, bnd_some]
    simp only [ltI_d, leI_d, eqI_d, notB_d, ofN_d, lenL_d, andB_d, br_if]
    rw [if_pos (by omega), if_pos (by omega), List.drop_eq_getElem_cons hil]
    unfold mayHL
    by_cases hm : mayS h[i] = 0
    · rw [if_neg (fun q => q hm), decide_eq_true hm, Bool.true_and]
      have := maych_l1 h h.length i (refsS h[i]) (by omega) (refsS h[i]).length 0 (by omega) (by omega)
      rw [show ((0 : Nat) : Int) = 0 from rfl] at this
      rw [this, add1 i (by omega), ih (i + 1) (by omega) (by omega), List.drop_zero]
      cases (refsS h[i]).all fun r => decide (1 ≤ r ∧ r ≤ (i : Int)) with
      | true => rw [if_pos rfl, Bool.true_and]
      | false => rw [if_neg (by simp), Bool.false_and, if_neg (by simp)]
    · rw [if_pos hm, decide_eq_false hm, Bool.false_and, Bool.false_and, if_neg (by simp)]
theorem mayh_any (h : List NodeV) (ho : okH h) : heap_May h = some (if mayH h = true then 0 else 4) := by
  have hl := ho.len
  rw [heap_May.eq]
  exact mayh_loop h (by omega) ho.node h.length 0 (by omega) (by omega)
theorem refmaych_l1 (h : List NodeV) (i : Nat) (hi : i < h.length) (o : okN h[i]) (refs : List Int) (hr : refs.length ≤ 50000000) (d : Nat) : ∀ (k : Nat), k ≤ refs.length → refs.length - k = d →
    ref17_May.l1 h i refs k = if ((refs.drop k).all fun r => decide (1 ≤ r ∧ r ≤ (i : Int))) = true then (if mayS h[i] = 0 then ref17_May.l0 h (addI .i64 i 1) else some false) else some false := by
  induction d with
  | zero =>
    intro k hk hd
    rw [ref17_May.l1.eq, ixN h i hi, refmay_any _ o, bnd_some]
    simp only [ltI_d, leI_d, eqI_d, notB_d, ofN_d, lenL_d, andB_d, br_if]
    rw [if_neg (by omega), if_pos (by omega), List.drop_eq_nil_of_le (by omega), List.all_nil, if_pos rfl]
    by_cases hm : mayS h[i] = 0
    · rw [if_neg (fun q => q hm), if_pos hm]
    · rw [if_pos hm, if_neg hm]
  | succ d ih =>
    intro k hk hd
    have hkl : k < refs.length := by omega
    rw [ref17_May.l1.eq, ixR refs k hkl]
    simp only [ltI_d, leI_d, ofN_d, lenL_d, andB_d, br_if]
    rw [if_pos (by omega), if_pos (by omega), add1 k (by omega), ih (k + 1) (by omega) (by omega), drop_all refs k hkl]
    by_cases h1 : refs[k] < 1
    · rw [if_pos h1, decide_eq_false (by omega), Bool.false_and, if_neg (by simp)]
    · rw [if_neg h1, if_pos (by omega)]
      by_cases h2 : (i : Int) < refs[k]
      · rw [if_pos h2, decide_eq_false (by omega), Bool.false_and, if_neg (by simp)]
      · rw [if_neg h2, decide_eq_true (by omega), Bool.true_and]
theorem refmayh_loop (h : List NodeV) (hl : h.length ≤ 50000000) (ho : ∀ n ∈ h, okN n) (d : Nat) : ∀ (i : Nat), i ≤ h.length → h.length - i = d → ref17_May.l0 h i = some (mayHL i (h.drop i)) := by
  induction d with
  | zero =>
    intro i hi hd
    rw [ref17_May.l0.eq]
    simp only [ltI_d, ofN_d, lenL_d, br_if]
    rw [if_neg (by omega), List.drop_eq_nil_of_le (by omega)]
    rfl
  | succ d ih =>
    intro i hi hd
    have hil : i < h.length := by omega
    have o := ho _ (List.getElem_mem hil)
    have hrl := refsS_len h[i]
    have hkl := o.kids
    rw [ref17_May.l0.eq, ixN h i hil, refrefs_any _ o, bnd_some]
    simp only [ltI_d, leI_d, ofN_d, lenL_d, andB_d, br_if]
    have := refmaych_l1 h i hil o (refsS h[i]) (by omega) (refsS h[i]).length 0 (by omega) (by omega)
    rw [show ((0 : Nat) : Int) = 0 from rfl] at this
    rw [if_pos (by omega), if_pos (by omega), this, add1 i (by omega), ih (i + 1) (by omega) (by omega), List.drop_zero, List.drop_eq_getElem_cons hil]
    rw [show mayHL i (h[i] :: h.drop (i + 1)) = ((decide (mayS h[i] = 0) && (refsS h[i]).all fun r => decide (1 ≤ r ∧ r ≤ (i : Int))) && mayHL (i + 1) (h.drop (i + 1))) from rfl]
    cases (refsS h[i]).all fun r => decide (1 ≤ r ∧ r ≤ (i : Int)) with
    | true =>
      rw [if_pos rfl, Bool.and_true]
      by_cases hm : mayS h[i] = 0
      · rw [if_pos hm, decide_eq_true hm, Bool.true_and]
      · rw [if_neg hm, decide_eq_false hm, Bool.false_and]
    | false => rw [if_neg (by simp), Bool.and_false, Bool.false_and]
theorem refmayh_any (h : List NodeV) (ho : okH h) : ref17_May h = some (mayH h) := by
  have hl := ho.len
  rw [ref17_May.eq]
  exact refmayh_loop h (by omega) ho.node h.length 0 (by omega) (by omega)
end Go.Proofs.Ytimgaglpempfeaa.AA
set_option linter.unusedVariables false
set_option linter.unusedSimpArgs false
namespace Go.Proofs.Ytimgaglpempfeaa.AA
open Go.Abs
def bindsS (n : NodeV) : List PairV := if n.1 = 1 ∨ n.1 = 4 ∨ n.1 = 6 then [(n.2.1, (n.2.2.1, ()))] else if n.1 = 3 then n.2.2.2.2.2.2.1 else []
theorem binds_any (n : NodeV) (h : okN n) : node_Binds n = some ((), (bindsS n, ())) := by
  have hl := h.list
  rw [node_Binds.eq]
  unfold bindsS
  simp only [eqI_d, br_if]
  by_cases h1 : n.1 = 1
  · rw [if_pos h1, if_pos (.inl h1)]
  rw [if_neg h1]
  by_cases h6 : n.1 = 6
  · rw [if_pos h6, if_pos (.inr (.inr h6))]
  rw [if_neg h6]
  by_cases h4 : n.1 = 4
  · rw [if_pos h4, if_pos (.inr (.inl h4))]
  rw [if_neg h4, if_neg (show ¬ (n.1 = 1 ∨ n.1 = 4 ∨ n.1 = 6) by omega)]
  by_cases h3 : n.1 = 3
  · rw [if_pos h3, if_pos h3, cloneP_any _ (by omega), bnd_some]
  · rw [if_neg h3, if_neg h3]
theorem refbinds_any (n : NodeV) : ref13_Binds n = some (bindsS n) := by
  rw [ref13_Binds.eq]
  unfold bindsS
  simp only [eqI_d, br_if]
  by_cases h1 : n.1 = 1
  · rw [if_pos h1, if_pos (.inl h1)]
  by_cases h4 : n.1 = 4
  · rw [if_neg h1, if_pos h4, if_pos (.inr (.inl h4))]
  by_cases h6 : n.1 = 6
  · rw [if_neg h1, if_neg h4, if_pos h6, if_pos (.inr (.inr h6))]
  rw [if_neg h1, if_neg h4, if_neg h6, if_neg (show ¬ (n.1 = 1 ∨ n.1 = 4 ∨ n.1 = 6) by omega)]
  by_cases h3 : n.1 = 3
  · rw [if_pos h3, if_pos h3]
  · rw [if_neg h3, if_neg h3]
end Go.Proofs.Ytimgaglpempfeaa.AA
set_option linter.unusedVariables false
set_option linter.unusedSimpArgs false
namespace Go.Proofs.Ytimgaglpempfeaa.AA
open Go.Abs
/-! ### Nodes that may be -/
theorem mayS_zero {n : NodeV} (h : mayS n = 0) : 1 ≤ n.1 ∧ n.1 ≤ 6 ∧ longN n = false ∧ formP n := by
  unfold mayS at h
  by_cases h1 : n.1 < 1
  · rw [if_pos h1] at h; cases h
  rw [if_neg h1] at h
  by_cases h2 : 6 < n.1
  · rw [if_pos h2] at h; cases h
  rw [if_neg h2] at h
  by_cases h3 : longN n = true
  · rw [if_pos h3] at h; cases h
  rw [if_neg h3] at h
  by_cases h4 : formP n
  · exact ⟨by omega, by omega, by simpa using h3, h4⟩
  · rw [if_neg h4] at h; cases h
theorem form_tree {n : NodeV} (h : formP n) (h4 : n.1 = 4) : n.2.2.2.1 = 0 ∧ n.2.2.2.2.1.length = 2 ∧ 1 ≤ n.2.2.2.2.2.2.2.1 ∧ n.2.2.2.2.2.1 = 0 ∧ n.2.2.2.2.2.2.1 = [] := by
  unfold formP at h
  obtain ⟨_, h⟩ := h
  rw [if_neg (by omega), if_neg (by omega), if_neg (by omega), if_pos h4] at h
  obtain ⟨h1, h2, h3, hb⟩ := h
  unfold bareP at hb
  exact ⟨h1, h2, h3, hb.2.2.1 rfl, hb.2.2.2 rfl⟩
/-! ### All references of a node, none among them -/
def stripV (n : NodeV) : NodeV := (n.1, (n.2.1, (n.2.2.1, (n.2.2.2.1, ([], (0, (n.2.2.2.2.2.2.1, (n.2.2.2.2.2.2.2.1, (0, ())))))))))
def allK (n : NodeV) : List Int := n.2.2.2.2.1 ++ [n.2.2.2.2.2.1]
theorem refsS_all (n : NodeV) : refsS n = (allK n).filter (fun r => decide (r ≠ 0)) := by
  unfold refsS allK
  rw [List.filter_append]
  by_cases h : n.2.2.2.2.2.1 = 0
  · rw [if_neg (by intro q; exact q h), List.filter_cons_of_neg (by simp [h])]; rfl
  · rw [if_pos h, List.filter_cons_of_pos (by simp [h])]; rfl
theorem allK_len (n : NodeV) : (allK n).length = n.2.2.2.2.1.length + 1 := by unfold allK; simp
/-- A shape: what is below a reference. -/
inductive Shp where
  | nil
  | node (b : NodeV) (l : List Shp)
def getN (h : List NodeV) (r : Int) : NodeV := h.getD (r - 1).toNat zeroN
theorem getN_ix (h : List NodeV) (i : Nat) (hi : i < h.length) : getN h ((i : Int) + 1) = h[i] := by
  unfold getN
  rw [show ((i : Int) + 1 - 1).toNat = i by omega, List.getD_eq_getElem?_getD, List.getElem?_eq_getElem hi]; rfl
theorem getN_mem (h : List NodeV) (r : Int) (h1 : 1 ≤ r) (h2 : r ≤ h.length) : getN h r ∈ h := by
  obtain ⟨i, rfl⟩ : ∃ i : Nat, r = (i : Int) + 1 := ⟨(r - 1).toNat, by omega⟩
  rw [getN_ix h i (by omega)]
  exact List.getElem_mem _
theorem sub1I (r : Int) (h1 : 1 ≤ r) (h2 : r ≤ 1000000000) : subI .i64 r 1 = r - 1 := subI_d (by omega) (by omega)
theorem ixG (h : List NodeV) (r : Int) (h1 : 1 ≤ r) (h2 : r ≤ h.length) (h3 : h.length ≤ 50000000) : ixL tapiNode h (subI .i64 r 1) = getN h r := by
  obtain ⟨i, rfl⟩ : ∃ i : Nat, r = (i : Int) + 1 := ⟨(r - 1).toNat, by omega⟩
  rw [sub1I _ h1 (by omega), getN_ix h i (by omega), show ((i : Int) + 1 - 1) = (i : Int) by omega]
  exact ixN h i (by omega)
theorem inG (h : List NodeV) (r : Int) (h1 : 1 ≤ r) (h2 : r ≤ h.length) (h3 : h.length ≤ 50000000) : andB (leI 0 (subI .i64 r 1)) (ltI (subI .i64 r 1) (ofN (lenL tapiNode h))) = true := by
  rw [sub1I r h1 (by omega), leI_d, ltI_d, andB_d]
  refine decide_eq_true ⟨by omega, ?_⟩
  show r - 1 < (h.length : Int)
  omega
def unf (h : List NodeV) : Nat → Int → Shp
  | 0, _ => .nil
  | k + 1, r => if r = 0 then .nil else .node (stripV (getN h r)) ((allK (getN h r)).map (unf h k))
def U (h : List NodeV) (r : Int) : Shp := unf h r.toNat r
theorem mayHL_at : ∀ (l : List NodeV) (i : Nat), mayHL i l = true → ∀ (j : Nat) (hj : j < l.length), mayS l[j] = 0 ∧ ∀ r ∈ refsS l[j], 1 ≤ r ∧ r ≤ ((i + j : Nat) : Int)
  | n :: l, i, h, j, hj => by
    unfold mayHL at h
    simp only [Bool.and_eq_true, decide_eq_true_eq, List.all_eq_true] at h
    obtain ⟨⟨h1, h2⟩, h3⟩ := h
    cases j with
    | zero => exact ⟨h1, h2⟩
    | succ j =>
      have := mayHL_at l (i + 1) h3 j (by simpa using hj)
      rw [show i + 1 + j = i + (j + 1) by omega] at this
      exact this
theorem mayHL_of : ∀ (l : List NodeV) (i : Nat), (∀ (j : Nat) (hj : j < l.length), mayS l[j] = 0 ∧ ∀ r ∈ refsS l[j], 1 ≤ r ∧ r ≤ ((i + j : Nat) : Int)) → mayHL i l = true
  | [], _, _ => rfl
  | n :: l, i, h => by
    unfold mayHL
    simp only [Bool.and_eq_true, decide_eq_true_eq, List.all_eq_true]
    refine ⟨h 0 (by simp), mayHL_of l (i + 1) fun j hj => ?_⟩
    have := h (j + 1) (by simpa using hj)
    rw [show i + (j + 1) = i + 1 + j by omega] at this
    exact this
theorem may_node {h : List NodeV} (hm : mayH h = true) {r : Int} (h1 : 1 ≤ r) (h2 : r ≤ h.length) : mayS (getN h r) = 0 ∧ ∀ k ∈ allK (getN h r), k = 0 ∨ (1 ≤ k ∧ k ≤ r - 1) := by
  obtain ⟨i, rfl⟩ : ∃ i : Nat, r = (i : Int) + 1 := ⟨(r - 1).toNat, by omega⟩
  rw [getN_ix h i (by omega)]
  obtain ⟨a, b⟩ := mayHL_at h 0 hm i (by omega)
  refine ⟨a, fun k hk => ?_⟩
  by_cases e : k = 0
  · exact .inl e
  · have := b k (by rw [refsS_all]; exact List.mem_filter.2 ⟨hk, by simp [e]⟩)
    exact .inr ⟨this.1, by omega⟩
theorem unf_zero (h : List NodeV) (k : Nat) : unf h k 0 = .nil := by
  cases k with
  | zero => rfl
  | succ k => unfold unf; exact if_pos rfl
theorem unf_fuel {h : List NodeV} (hm : mayH h = true) : ∀ (n : Nat) (r : Int) (k k' : Nat), 0 ≤ r → r ≤ n → r ≤ h.length → r.toNat ≤ k → r.toNat ≤ k' → unf h k r = unf h k' r := by
  intro n
  induction n with
  | zero =>
    intro r k k' h0 h1 h2 h3 h4
    have : r = 0 := by omega
    subst this
    rw [unf_zero, unf_zero]
  | succ n ih =>
    intro r k k' h0 h1 h2 h3 h4
    by_cases e : r = 0
    · subst e; rw [unf_zero, unf_zero]
    obtain ⟨k, rfl⟩ : ∃ j, k = j + 1 := ⟨k - 1, by omega⟩
    obtain ⟨k', rfl⟩ : ∃ j, k' = j + 1 := ⟨k' - 1, by omega⟩
    unfold unf
    rw [if_neg e, if_neg e]
    congr 1
    refine List.map_congr_left fun x hx => ?_
    rcases (may_node hm (by omega) h2).2 x hx with rfl | ⟨g1, g2⟩
    · rw [unf_zero, unf_zero]
    · exact ih x k k' (by omega) (by omega) (by omega) (by omega) (by omega)
theorem U_zero (h : List NodeV) : U h 0 = .nil := unf_zero h _
theorem U_node {h : List NodeV} (hm : mayH h = true) {r : Int} (h1 : 1 ≤ r) (h2 : r ≤ h.length) : U h r = .node (stripV (getN h r)) ((allK (getN h r)).map (U h)) := by
  unfold U
  obtain ⟨k, hk⟩ : ∃ j, r.toNat = j + 1 := ⟨r.toNat - 1, by omega⟩
  rw [hk, unf, if_neg (by omega)]
  congr 1
  refine List.map_congr_left fun x hx => ?_
  rcases (may_node hm h1 h2).2 x hx with rfl | ⟨g1, g2⟩
  · rw [unf_zero, unf_zero]
  · exact unf_fuel hm x.toNat x k x.toNat (by omega) (by omega) (by omega) (by omega) (by omega)
theorem U_nil {h : List NodeV} (hm : mayH h = true) {r : Int} (h1 : 0 ≤ r) (h2 : r ≤ h.length) : U h r = .nil ↔ r = 0 := by
  constructor
  · intro e
    by_cases q : r = 0
    · exact q
    · rw [U_node hm (by omega) h2] at e; cases e
  · rintro rfl; exact U_zero h
/-! ### Whether heaps may be, and references fit -/
def fitH (h : List NodeV) (r : Int) : Bool := decide (0 ≤ r ∧ r ≤ h.length) && mayH h
theorem hmay_any (h : List NodeV) (ho : okH h) (r : Int) : heap_may h r = some (if fitH h r = true then 0 else 4) := by
  rw [heap_may.eq, mayh_any h ho, bnd_some]
  unfold fitH
  simp only [ltI_d, leI_d, ofN_d, lenL_d, br_if]
  by_cases h1 : r < 0
  · rw [if_pos h1, decide_eq_false (by omega), Bool.false_and, if_neg (by simp)]
  rw [if_neg h1]
  by_cases h2 : (h.length : Int) < r
  · rw [if_pos h2, decide_eq_false (by omega), Bool.false_and, if_neg (by simp)]
  rw [if_neg h2, decide_eq_true (by omega), Bool.true_and]
theorem fits_any (h : List NodeV) (ho : okH h) (r : Int) : ref17_Fits h r = some (fitH h r) := by
  rw [ref17_Fits.eq, refmayh_any h ho, bnd_some]
  unfold fitH
  simp only [ltI_d, leI_d, ofN_d, lenL_d, br_if]
  by_cases h1 : 0 ≤ r
  · rw [if_pos h1]
    by_cases h2 : r ≤ (h.length : Int)
    · rw [if_pos h2, decide_eq_true ⟨h1, h2⟩, Bool.true_and]
    · rw [if_neg h2, decide_eq_false (fun q => h2 q.2), Bool.false_and]
  · rw [if_neg h1, decide_eq_false (fun q => h1 q.1), Bool.false_and]
theorem fitH_iff {h : List NodeV} {r : Int} : fitH h r = true ↔ (0 ≤ r ∧ r ≤ h.length) ∧ mayH h = true := by
  unfold fitH; simp
/-! ### The bindings below a shape -/
mutual
def bindsT : Shp → List PairV
  | .nil => []
  | .node b l => if b.1 = 4 then (bindsL l).getD 0 [] ++ bindsS b ++ (bindsL l).getD 1 [] else bindsS b ++ (bindsL l).flatten
def bindsL : List Shp → List (List PairV)
  | [] => []
  | s :: l => bindsT s :: bindsL l
end
theorem bindsL_map : ∀ l, bindsL l = l.map bindsT
  | [] => by rw [bindsL]; rfl
  | s :: l => by rw [bindsL, bindsL_map l]; rfl
theorem bindsT_nil : bindsT .nil = [] := by rw [bindsT]
theorem bindsT_node (b : NodeV) (l : List Shp) : bindsT (.node b l) = if b.1 = 4 then ((l.map bindsT).getD 0 []) ++ bindsS b ++ ((l.map bindsT).getD 1 []) else bindsS b ++ (l.map bindsT).flatten := by
  rw [bindsT, bindsL_map]
theorem bindsS_strip (n : NodeV) : bindsS (stripV n) = bindsS n := rfl
theorem flat_refs (f : Int → List PairV) (hf : f 0 = []) : ∀ l : List Int, (l.map f).flatten = ((l.filter (fun r => decide (r ≠ 0))).map f).flatten
  | [] => rfl
  | r :: l => by
    by_cases h : r = 0
    · rw [List.filter_cons_of_neg (by simp [h]), List.map_cons, List.flatten_cons, h, hf, List.nil_append, flat_refs f hf l]
    · rw [List.filter_cons_of_pos (by simp [h]), List.map_cons, List.map_cons, List.flatten_cons, List.flatten_cons, flat_refs f hf l]
theorem bindsU_refs {h : List NodeV} (hm : mayH h = true) {r : Int} (h1 : 1 ≤ r) (h2 : r ≤ h.length) (h4 : (getN h r).1 ≠ 4) : bindsT (U h r) = bindsS (getN h r) ++ ((refsS (getN h r)).map fun x => bindsT (U h x)).flatten := by
  rw [U_node hm h1 h2, bindsT_node, if_neg (show ¬ (stripV (getN h r)).1 = 4 from h4), bindsS_strip, List.map_map, refsS_all]
  congr 1
  exact flat_refs (fun x => bindsT (U h x)) (by rw [U_zero, bindsT_nil]) _
theorem bindsU_tree {h : List NodeV} (hm : mayH h = true) {r : Int} (h1 : 1 ≤ r) (h2 : r ≤ h.length) (h4 : (getN h r).1 = 4) :
    ∃ a b : Int, (getN h r).2.2.2.2.1 = [a, b] ∧ (getN h r).2.2.2.2.2.1 = 0 ∧ (a = 0 ∨ (1 ≤ a ∧ a ≤ r - 1)) ∧ (b = 0 ∨ (1 ≤ b ∧ b ≤ r - 1)) ∧ bindsT (U h r) = bindsT (U h a) ++ bindsS (getN h r) ++ bindsT (U h b) := by
  obtain ⟨g1, g2⟩ := may_node hm h1 h2
  obtain ⟨_, k2, _, k4, _⟩ := form_tree (mayS_zero g1).2.2.2 h4
  obtain ⟨a, b, e⟩ : ∃ a b, (getN h r).2.2.2.2.1 = [a, b] := by
    match hk : (getN h r).2.2.2.2.1, k2 with
    | [a, b], _ => exact ⟨a, b, rfl⟩
  have ea : allK (getN h r) = [a, b, 0] := by unfold allK; rw [e, k4]; rfl
  refine ⟨a, b, e, k4, g2 a (by rw [ea]; simp), g2 b (by rw [ea]; simp), ?_⟩
  rw [U_node hm h1 h2, bindsT_node, if_pos (show (stripV (getN h r)).1 = 4 from h4), bindsS_strip, ea]
  rfl
theorem ix0 (l : List Int) (a b : Int) (h : l = [a, b]) : ixL (.int .i64) l 0 = a ∧ ixL (.int .i64) l 1 = b := by subst h; exact ⟨rfl, rfl⟩
theorem in01 (l : List Int) (a b : Int) (h : l = [a, b]) : andB (leI 0 0) (ltI 0 (ofN (lenL (.int .i64) l))) = true ∧ andB (leI 0 1) (ltI 1 (ofN (lenL (.int .i64) l))) = true := by
  subst h; exact ⟨rfl, rfl⟩
theorem flat_sub {l : List (List PairV)} {x : List PairV} (h : x ∈ l) : x.length ≤ l.flatten.length := by
  induction l with
  | nil => cases h
  | cons y l ih =>
    rw [List.flatten_cons, List.length_append]
    rcases List.mem_cons.1 h with rfl | h
    · omega
    · have := ih h; omega
/-- What the loops over references do. -/
theorem hbinds_loop {h : List NodeV} (ho : okH h) (refs : List Int) (hr : refs.length ≤ 50000000) (hb : ∀ x ∈ refs, heap_binds h x = some ((), (bindsT (U h x), ()))) (d : Nat) : ∀ (i : Nat) (acc : List PairV), i ≤ refs.length → refs.length - i = d →
    (acc ++ ((refs.drop i).map fun x => bindsT (U h x)).flatten).length ≤ 1000000000 → heap_binds.l0 h refs refs.length i acc = some ((), (acc ++ ((refs.drop i).map fun x => bindsT (U h x)).flatten, ())) := by
  induction d with
  | zero =>
    intro i acc h1 h2 h3
    rw [heap_binds.l0.eq]
    simp only [ltI_d, br_if]
    rw [if_neg (by omega), List.drop_eq_nil_of_le (by omega)]
    simp
  | succ d ih =>
    intro i acc h1 h2 h3
    have hi : i < refs.length := by omega
    rw [List.drop_eq_getElem_cons hi, List.map_cons, List.flatten_cons, ← List.append_assoc] at h3
    rw [heap_binds.l0.eq]
    simp only [ltI_d, leI_d, ofN_d, lenL_d, andB_d, br_if]
    rw [if_pos (by omega), if_pos (by omega), ixR refs i hi, hb _ (List.getElem_mem hi), bnd_some]
    simp only [fitL_d, appL_d, br_if]
    rw [if_pos (by rw [List.length_append] at h3; omega), add1 i (by omega), ih (i + 1) _ (by omega) (by omega) h3, List.drop_eq_getElem_cons hi, List.map_cons, List.flatten_cons, List.append_assoc]
theorem hbinds_any {h : List NodeV} (ho : okH h) (hm : mayH h = true) : ∀ (n : Nat) (r : Int), 0 ≤ r → r ≤ n → r ≤ h.length → (bindsT (U h r)).length ≤ 1000000000 → heap_binds h r = some ((), (bindsT (U h r), ())) := by
  have hlen := ho.len
  intro n
  induction n with
  | zero =>
    intro r h0 h1 h2 h3
    have : r = 0 := by omega
    subst this
    rw [heap_binds.eq, eqI_d, br_if, if_pos rfl, U_zero, bindsT_nil]
  | succ n ih =>
    intro r h0 h1 h2 h3
    by_cases e : r = 0
    · subst e
      rw [heap_binds.eq, eqI_d, br_if, if_pos rfl, U_zero, bindsT_nil]
    have hr1 : 1 ≤ r := by omega
    have o := ho.node _ (getN_mem h r hr1 h2)
    rw [heap_binds.eq, eqI_d, br_if, if_neg e, inG h r hr1 h2 (by omega), br_t, ixG h r hr1 h2 (by omega), eqI_d, br_if]
    by_cases h4 : (getN h r).1 = 4
    · obtain ⟨a, b, k1, k2, k3, k4, k5⟩ := bindsU_tree hm hr1 h2 h4
      rw [k5, List.length_append, List.length_append] at h3
      rw [if_pos h4, (in01 _ a b k1).1, br_t, (in01 _ a b k1).2, br_t, (ix0 _ a b k1).1, (ix0 _ a b k1).2, ih a (by omega) (by omega) (by omega) (by omega), bnd_some, binds_any _ o, bnd_some]
      simp only [fitL_d, appL_d, br_if]
      rw [if_pos (by rw [List.length_append]; omega), ih b (by omega) (by omega) (by omega) (by omega), bnd_some]
      simp only [fitL_d, appL_d, br_if]
      rw [if_pos (by rw [List.length_append, List.length_append]; omega), k5]
    · have k5 := bindsU_refs hm hr1 h2 h4
      have hrl := refsS_len (getN h r)
      have hkl := o.kids
      rw [k5] at h3
      have hx := (may_node hm hr1 h2).2
      have hb : ∀ x ∈ refsS (getN h r), heap_binds h x = some ((), (bindsT (U h x), ())) := by
        intro x hx'
        have hq := hx'
        rw [refsS_all] at hq
        have := hx x (List.mem_filter.1 hq).1
        refine ih x (by omega) (by omega) (by omega) ?_
        have := flat_sub (List.mem_map.2 ⟨x, hx', rfl⟩ : bindsT (U h x) ∈ (refsS (getN h r)).map fun x => bindsT (U h x))
        rw [List.length_append] at h3
        omega
      rw [if_neg h4, binds_any _ o, bnd_some, refs_any _ o, bnd_some]
      have := hbinds_loop ho (refsS (getN h r)) (by omega) hb (refsS (getN h r)).length 0 (bindsS (getN h r)) (by omega) (by omega) (by rw [List.drop_zero]; exact h3)
      rw [List.drop_zero, show ((0 : Nat) : Int) = 0 from rfl] at this
      rw [k5]
      exact this
theorem refhbinds_loop {h : List NodeV} (ho : okH h) (refs : List Int) (hr : refs.length ≤ 50000000) (hb : ∀ x ∈ refs, ref17_Binds h x = some (bindsT (U h x))) (d : Nat) : ∀ (i : Nat) (acc : List PairV), i ≤ refs.length → refs.length - i = d →
    (acc ++ ((refs.drop i).map fun x => bindsT (U h x)).flatten).length ≤ 1000000000 → ref17_Binds.l0 h refs i acc = some (acc ++ ((refs.drop i).map fun x => bindsT (U h x)).flatten) := by
  induction d with
  | zero =>
    intro i acc h1 h2 h3
    rw [ref17_Binds.l0.eq]
    simp only [ltI_d, ofN_d, lenL_d, br_if]
    rw [if_neg (by omega), List.drop_eq_nil_of_le (by omega)]
    simp
  | succ d ih =>
    intro i acc h1 h2 h3
    have hi : i < refs.length := by omega
    rw [List.drop_eq_getElem_cons hi, List.map_cons, List.flatten_cons, ← List.append_assoc] at h3
    rw [ref17_Binds.l0.eq]
    simp only [ltI_d, leI_d, ofN_d, lenL_d, andB_d, br_if]
    rw [if_pos (by omega), if_pos (by omega), ixR refs i hi, hb _ (List.getElem_mem hi), bnd_some]
    simp only [fitL_d, appL_d, br_if]
    rw [if_pos (by rw [List.length_append] at h3; omega), add1 i (by omega), ih (i + 1) _ (by omega) (by omega) h3, List.drop_eq_getElem_cons hi, List.map_cons, List.flatten_cons, List.append_assoc]
theorem refhbinds_any {h : List NodeV} (ho : okH h) (hm : mayH h = true) : ∀ (n : Nat) (r : Int), 0 ≤ r → r ≤ n → r ≤ h.length → (bindsT (U h r)).length ≤ 1000000000 → ref17_Binds h r = some (bindsT (U h r)) := by
  have hlen := ho.len
  intro n
  induction n with
  | zero =>
    intro r h0 h1 h2 h3
    have : r = 0 := by omega
    subst this
    rw [ref17_Binds.eq, eqI_d, br_if, if_pos rfl, U_zero, bindsT_nil]
  | succ n ih =>
    intro r h0 h1 h2 h3
    by_cases e : r = 0
    · subst e
      rw [ref17_Binds.eq, eqI_d, br_if, if_pos rfl, U_zero, bindsT_nil]
    have hr1 : 1 ≤ r := by omega
    have o := ho.node _ (getN_mem h r hr1 h2)
    rw [ref17_Binds.eq, eqI_d, br_if, if_neg e, inG h r hr1 h2 (by omega), br_t, ixG h r hr1 h2 (by omega), eqI_d, br_if]
    by_cases h4 : (getN h r).1 = 4
    · obtain ⟨a, b, k1, k2, k3, k4, k5⟩ := bindsU_tree hm hr1 h2 h4
      rw [k5, List.length_append, List.length_append] at h3
      rw [if_pos h4, (in01 _ a b k1).1, br_t, (in01 _ a b k1).2, (ix0 _ a b k1).1, (ix0 _ a b k1).2, ih a (by omega) (by omega) (by omega) (by omega), bnd_some]
      simp only [fitL_d, appL_d, br_if, List.nil_append]
      rw [if_pos (by omega), refbinds_any, bnd_some]
      try simp only [fitL_d, appL_d, br_if]
      rw [if_pos (by rw [List.length_append]; omega), br_t, ih b (by omega) (by omega) (by omega) (by omega), bnd_some]
      try simp only [fitL_d, appL_d, br_if]
      rw [if_pos (by rw [List.length_append, List.length_append]; omega), k5]
    · have k5 := bindsU_refs hm hr1 h2 h4
      have hrl := refsS_len (getN h r)
      have hkl := o.kids
      rw [k5] at h3
      have hx := (may_node hm hr1 h2).2
      have hb : ∀ x ∈ refsS (getN h r), ref17_Binds h x = some (bindsT (U h x)) := by
        intro x hx'
        have hq := hx'
        rw [refsS_all] at hq
        have := hx x (List.mem_filter.1 hq).1
        refine ih x (by omega) (by omega) (by omega) ?_
        have := flat_sub (List.mem_map.2 ⟨x, hx', rfl⟩ : bindsT (U h x) ∈ (refsS (getN h r)).map fun x => bindsT (U h x))
        rw [List.length_append] at h3
        omega
      rw [if_neg h4, refbinds_any, bnd_some]
      simp only [fitL_d, appL_d, br_if, List.nil_append]
      rw [if_pos (by rw [List.length_append] at h3; omega), refrefs_any _ o, bnd_some]
      have := refhbinds_loop ho (refsS (getN h r)) (by omega) hb (refsS (getN h r)).length 0 (bindsS (getN h r)) (by omega) (by omega) (by rw [List.drop_zero]; exact h3)
      rw [List.drop_zero, show ((0 : Nat) : Int) = 0 from rfl] at this
      rw [k5]
      exact this
end Go.Proofs.Ytimgaglpempfeaa.AA
set_option linter.unusedVariables false
set_option linter.unusedSimpArgs false
namespace Go.Proofs.Ytimgaglpempfeaa.AA
open Go.Abs
noncomputable instance shpDec : DecidableEq Shp := fun _ _ => Classical.propDecidable _
noncomputable def eqSh (a b : Shp) : Bool := decide (a = b)
theorem eqSh_iff {a b : Shp} : eqSh a b = true ↔ a = b := by unfold eqSh; exact decide_eq_true_iff
theorem eqSh_not {a b : Shp} (h : a ≠ b) : eqSh a b = false := by unfold eqSh; exact decide_eq_false h
theorem eqSh_of {a b c d : Shp} (h : (a = b) ↔ (c = d)) : eqSh a b = eqSh c d := by unfold eqSh; exact decide_eq_decide.2 h
noncomputable def eqShL (a b : List Shp) : Bool := decide (a = b)
theorem eqShL_cons (a b : Shp) (l m : List Shp) : eqShL (a :: l) (b :: m) = (eqSh a b && eqShL l m) := by
  unfold eqShL eqSh
  rw [← Bool.decide_and]
  exact decide_eq_decide.2 (by simp)
theorem eqShL_nil : eqShL [] [] = true := by unfold eqShL; exact decide_eq_true rfl
theorem eqShL_iff {a b : List Shp} : eqShL a b = true ↔ a = b := by unfold eqShL; exact decide_eq_true_iff
/-- A node without references, and birth; but whether they are there. -/
def bareV (n : NodeV) : NodeV := (n.1, (n.2.1, (n.2.2.1, (n.2.2.2.1, (n.2.2.2.2.1.map (min · 1), (min n.2.2.2.2.2.1 1, (n.2.2.2.2.2.2.1, (n.2.2.2.2.2.2.2.1, (0, ())))))))))
theorem hbare_loop (m : Nat) (d : Nat) : ∀ (i : Nat) (ks : List Int) (x2 x3) (x5 : List PairV) (x6 : List Int) (x7 : List PairV), ks.length = m → m ≤ 50000000 → i ≤ m → m - i = d →
    heap_bare.l0 (m : Int) i x2 x3 ks x5 x6 x7 = some (x2.1, (x2.2.1, (x2.2.2.1, (x2.2.2.2.1, (ks.take i ++ (ks.drop i).map (min · 1), ((min x2.2.2.2.2.2.1 1), (x5, (x2.2.2.2.2.2.2.2.1, ((0 : Int), ()))))))))) := by
  induction d with
  | zero =>
    intro i ks x2 x3 x5 x6 x7 h1 h2 h3 h4
    rw [heap_bare.l0.eq]
    simp only [ltI_d, minI_d, br_if]
    rw [if_neg (by omega), List.drop_eq_nil_of_le (by omega), List.take_of_length_le (by omega), List.map_nil, List.append_nil]
  | succ d ih =>
    intro i ks x2 x3 x5 x6 x7 h1 h2 h3 h4
    have hi : i < ks.length := by omega
    rw [heap_bare.l0.eq]
    simp only [ltI_d, leI_d, ofN_d, lenL_d, andB_d, minI_d, br_if]
    rw [if_pos (by omega), if_pos (by omega), if_pos (by omega), ixR ks i hi, add1 i (by omega)]
    have e : setL (.int .i64) ks (i : Int) (min ks[i] 1) = ks.set i (min ks[i] 1) := by unfold setL; rw [Int.toNat_natCast]
    rw [e, ih (i + 1) _ _ _ _ _ _ (by rw [List.length_set]; omega) h2 (by omega) (by omega)]
    have e1 : (ks.set i (min ks[i] 1)).take (i + 1) = ks.take i ++ [min ks[i] 1] := by
      rw [List.take_succ_eq_append_getElem (by rw [List.length_set]; exact hi), List.getElem_set_self, List.take_set_of_le (by omega)]
    have e2 : (ks.set i (min ks[i] 1)).drop (i + 1) = ks.drop (i + 1) := List.drop_set_of_lt (by omega)
    rw [e1, e2, List.drop_eq_getElem_cons hi, List.map_cons, List.append_assoc]
    rfl
theorem hbare_any (n : NodeV) (h : okN n) : heap_bare n = some (bareV n) := by
  have hk := h.kids
  rw [heap_bare.eq, copy_any n h, bnd_some]
  have := hbare_loop n.2.2.2.2.1.length n.2.2.2.2.1.length 0 n.2.2.2.2.1 (n.1, (n.2.1, (n.2.2.1, (n.2.2.2.1, ((), (n.2.2.2.2.2.1, ((), n.2.2.2.2.2.2.2))))))) ((0 : Int), (ByteArray.empty, (ByteArray.empty, ((0 : Int), ((), ((0 : Int), ((), ((0 : Int), ((0 : Int), ()))))))))) n.2.2.2.2.2.2.1 [] [] rfl (by omega) (by omega) (by omega)
  rw [List.take_zero, List.drop_zero, List.nil_append, show ((0 : Nat) : Int) = 0 from rfl] at this
  exact this
theorem bare_okN {n : NodeV} (h : okN n) : okN (bareV n) := ⟨h.key, h.val, h.map0, h.map1, by show (n.2.2.2.2.1.map (min · 1)).length ≤ _; rw [List.length_map]; exact h.kids, h.list, h.binds⟩
theorem bare_iff (a b : NodeV) : bareV a = bareV b ↔ stripV a = stripV b ∧ (allK a).map (min · 1) = (allK b).map (min · 1) := by
  rw [node_ext, node_ext]
  unfold bareV stripV allK
  dsimp only
  rw [List.map_append, List.map_append, List.map_singleton, List.map_singleton]
  constructor
  · rintro ⟨h1, h2, h3, h4, h5, h6, h7, h8, _⟩
    exact ⟨⟨h1, h2, h3, h4, rfl, rfl, h7, h8, rfl⟩, by rw [h5, h6]⟩
  · rintro ⟨⟨h1, h2, h3, h4, _, _, h7, h8, _⟩, h5⟩
    obtain ⟨h5, h6⟩ := List.append_inj' h5 rfl
    injection h6 with h6
    exact ⟨h1, h2, h3, h4, h5, h6, h7, h8, rfl⟩
/-- References, none among them, against what is below them. -/
theorem kids_iff {h g : List NodeV} (hz : ∀ k ∈ ([] : List Int), True) : ∀ (l m : List Int), (∀ k ∈ l, 0 ≤ k ∧ (U h k = .nil ↔ k = 0)) → (∀ k ∈ m, 0 ≤ k ∧ (U g k = .nil ↔ k = 0)) →
    ((l.map (min · 1) = m.map (min · 1) ∧ (l.filter (fun r => decide (r ≠ 0))).map (U h) = (m.filter (fun r => decide (r ≠ 0))).map (U g)) ↔ l.map (U h) = m.map (U g))
  | [], [], _, _ => by simp
  | [], b :: m, _, _ => by simp
  | a :: l, [], _, _ => by simp
  | a :: l, b :: m, ha, hb => by
    have ih := kids_iff hz l m (fun k hk => ha k (List.mem_cons_of_mem _ hk)) (fun k hk => hb k (List.mem_cons_of_mem _ hk))
    obtain ⟨a0, a1⟩ := ha a List.mem_cons_self
    obtain ⟨b0, b1⟩ := hb b List.mem_cons_self
    rw [List.map_cons, List.map_cons, List.map_cons, List.map_cons, List.cons.injEq, List.cons.injEq, ← ih]
    by_cases ea : a = 0
    · by_cases eb : b = 0
      · have ua := a1.2 ea
        have ub := b1.2 eb
        rw [List.filter_cons_of_neg (by simp [ea]), List.filter_cons_of_neg (by simp [eb]), ua, ub]
        constructor
        · rintro ⟨⟨_, h1⟩, h2⟩; exact ⟨rfl, h1, h2⟩
        · rintro ⟨_, h1, h2⟩; exact ⟨⟨by omega, h1⟩, h2⟩
      · constructor
        · rintro ⟨⟨h1, _⟩, _⟩; omega
        · rintro ⟨h1, _⟩
          exact absurd (b1.1 (h1.symm.trans (a1.2 ea))) eb
    · by_cases eb : b = 0
      · constructor
        · rintro ⟨⟨h1, _⟩, _⟩; omega
        · rintro ⟨h1, _⟩
          exact absurd (a1.1 (h1.trans (b1.2 eb))) ea
      · rw [List.filter_cons_of_pos (by simp [ea]), List.filter_cons_of_pos (by simp [eb]), List.map_cons, List.map_cons, List.cons.injEq]
        constructor
        · rintro ⟨⟨_, h1⟩, h2, h3⟩; exact ⟨h2, h1, h3⟩
        · rintro ⟨h2, h1, h3⟩; exact ⟨⟨by omega, h1⟩, h2, h3⟩
theorem shape_iff {h g : List NodeV} (hm : mayH h = true) (gm : mayH g = true) {r s : Int} (h1 : 1 ≤ r) (h2 : r ≤ h.length) (g1 : 1 ≤ s) (g2 : s ≤ g.length) :
    U h r = U g s ↔ bareV (getN h r) = bareV (getN g s) ∧ (refsS (getN h r)).map (U h) = (refsS (getN g s)).map (U g) := by
  rw [U_node hm h1 h2, U_node gm g1 g2, bare_iff, refsS_all, refsS_all, Shp.node.injEq, and_assoc]
  refine and_congr_right fun _ => (kids_iff (fun _ hk => by cases hk) _ _ (fun k hk => ?_) (fun k hk => ?_)).symm
  · have := (may_node hm h1 h2).2 k hk
    exact ⟨by omega, U_nil hm (by omega) (by omega)⟩
  · have := (may_node gm g1 g2).2 k hk
    exact ⟨by omega, U_nil gm (by omega) (by omega)⟩
theorem min_filter : ∀ (l m : List Int), l.map (min · 1) = m.map (min · 1) → (∀ k ∈ l, 0 ≤ k) → (∀ k ∈ m, 0 ≤ k) → (l.filter (fun r => decide (r ≠ 0))).length = (m.filter (fun r => decide (r ≠ 0))).length
  | [], [], _, _, _ => rfl
  | [], _ :: _, h, _, _ => by cases h
  | _ :: _, [], h, _, _ => by cases h
  | a :: l, b :: m, h, ha, hb => by
    rw [List.map_cons, List.map_cons, List.cons.injEq] at h
    have ih := min_filter l m h.2 (fun k hk => ha k (List.mem_cons_of_mem _ hk)) (fun k hk => hb k (List.mem_cons_of_mem _ hk))
    have a0 := ha a List.mem_cons_self
    have b0 := hb b List.mem_cons_self
    by_cases ea : a = 0
    · have eb : b = 0 := by have := h.1; omega
      rw [List.filter_cons_of_neg (by simp [ea]), List.filter_cons_of_neg (by simp [eb])]; exact ih
    · have eb : b ≠ 0 := by have := h.1; omega
      rw [List.filter_cons_of_pos (by simp [ea]), List.filter_cons_of_pos (by simp [eb]), List.length_cons, List.length_cons, ih]
theorem hsame_loop {h g : List NodeV} (x y : List Int) (hx : x.length ≤ 50000000) (hxy : x.length = y.length) (hb : ∀ (a b : Int), a ∈ x → b ∈ y → heap_same h a g b = some (eqSh (U h a) (U g b))) (d : Nat) : ∀ (i : Nat), i ≤ x.length → x.length - i = d →
    heap_same.l1 h g x y x.length i = some (eqShL ((x.drop i).map (U h)) ((y.drop i).map (U g))) := by
  induction d with
  | zero =>
    intro i h1 h2
    rw [heap_same.l1.eq]
    simp only [ltI_d, br_if]
    rw [if_neg (by omega), List.drop_eq_nil_of_le (by omega), List.drop_eq_nil_of_le (by omega), List.map_nil, List.map_nil, eqShL_nil]
  | succ d ih =>
    intro i h1 h2
    have hi : i < x.length := by omega
    have hj : i < y.length := by omega
    rw [heap_same.l1.eq]
    simp only [ltI_d, leI_d, ofN_d, lenL_d, andB_d, br_if]
    rw [if_pos (by omega), if_pos (by omega), if_pos (by omega), ixR x i hi, ixR y i hj, hb _ _ (List.getElem_mem hi) (List.getElem_mem hj), bnd_some, add1 i (by omega), ih (i + 1) (by omega) (by omega), List.drop_eq_getElem_cons hi, List.drop_eq_getElem_cons hj, List.map_cons, List.map_cons, eqShL_cons]
    cases eqSh (U h x[i]) (U g y[i]) with
    | true => rw [show notB true = false from rfl, br_f, Bool.true_and]
    | false => rw [show notB false = true from rfl, br_t, Bool.false_and]
theorem hsame_any {h g : List NodeV} (ho : okH h) (hm : mayH h = true) (go : okH g) (gm : mayH g = true) : ∀ (n : Nat) (r s : Int), 0 ≤ r → r ≤ n → r ≤ h.length → 0 ≤ s → s ≤ g.length → heap_same h r g s = some (eqSh (U h r) (U g s)) := by
  have hlen := ho.len
  have glen := go.len
  have zero : ∀ r s : Int, 0 ≤ r → r ≤ h.length → 0 ≤ s → s ≤ g.length → (r = 0 ∨ s = 0) → heap_same h r g s = some (eqSh (U h r) (U g s)) := by
    intro r s h0 h1 g0 g1 hz
    have hj : heap_same.j0 h r g s true = some (eqSh (U h r) (U g s)) := by
      rw [heap_same.j0.eq, br_t, eqI_d]
      refine some_bool ?_
      by_cases e : r = s
      · have e1 : r = 0 := by omega
        have e2 : s = 0 := by omega
        subst e1; subst e2
        rw [U_zero, U_zero, decide_eq_true rfl, eqSh_iff.2 rfl]
      · rw [decide_eq_false e, eqSh_not]
        intro q
        rcases hz with rfl | rfl
        · rw [U_zero] at q; exact e ((U_nil gm g0 g1).1 q.symm).symm
        · rw [U_zero] at q; exact e ((U_nil hm h0 h1).1 q)
    rw [heap_same.eq]
    simp only [eqI_d, br_if]
    by_cases e : r = 0
    · rw [if_pos e]; exact hj
    · rw [if_neg e, decide_eq_true (hz.resolve_left e)]; exact hj
  intro n
  induction n with
  | zero =>
    intro r s h0 h1 h2 g0 g1
    exact zero r s h0 h2 g0 g1 (.inl (by omega))
  | succ n ih =>
    intro r s h0 h1 h2 g0 g1
    by_cases er : r = 0
    · exact zero r s h0 h2 g0 g1 (.inl er)
    by_cases es : s = 0
    · exact zero r s h0 h2 g0 g1 (.inr es)
    have hr1 : 1 ≤ r := by omega
    have hs1 : 1 ≤ s := by omega
    have o := ho.node _ (getN_mem h r hr1 h2)
    have p := go.node _ (getN_mem g s hs1 g1)
    have hx := (may_node hm hr1 h2).2
    have hy := (may_node gm hs1 g1).2
    have hrl := refsS_len (getN h r)
    have hkl := o.kids
    rw [heap_same.eq, eqI_d, br_if, if_neg er, eqI_d, decide_eq_false es, heap_same.j0.eq, br_f, inG h r hr1 h2 (by omega), br_t, inG g s hs1 g1 (by omega), br_t, ixG h r hr1 h2 (by omega), ixG g s hs1 g1 (by omega)]
    simp only [both_self]
    rw [hbare_any _ o, bnd_some, hbare_any _ p, bnd_some, same_any _ _ (bare_okN o), bnd_some, notB_d, br_if, refs_any _ o, bnd_some, refs_any _ p, bnd_some]
    by_cases hb : bareV (getN h r) = bareV (getN g s)
    · rw [if_neg (by intro q; exact q hb)]
      have hl : (refsS (getN h r)).length = (refsS (getN g s)).length := by
        rw [refsS_all, refsS_all]
        refine min_filter _ _ ((bare_iff _ _).1 hb).2 (fun k hk => ?_) (fun k hk => ?_)
        · have := hx k hk; omega
        · have := hy k hk; omega
      have := hsame_loop (h := h) (g := g) (refsS (getN h r)) (refsS (getN g s)) (by omega) hl (fun a b ha hb' => by
        rw [refsS_all] at ha hb'
        have k1 := hx a (List.mem_filter.1 ha).1
        have k2 := hy b (List.mem_filter.1 hb').1
        exact ih a b (by omega) (by omega) (by omega) (by omega) (by omega)) (refsS (getN h r)).length 0 (by omega) (by omega)
      rw [List.drop_zero, List.drop_zero, show ((0 : Nat) : Int) = 0 from rfl] at this
      refine this.trans (some_bool ?_)
      rw [Bool.eq_iff_iff, eqShL_iff, eqSh_iff, shape_iff hm gm hr1 h2 hs1 g1]
      exact ⟨fun q => ⟨hb, q⟩, fun q => q.2⟩
    · rw [if_pos hb]
      refine some_bool (eqSh_not ?_).symm
      intro q
      exact hb ((shape_iff hm gm hr1 h2 hs1 g1).1 q).1
theorem hSame_any (h g : List NodeV) (ho : okH h) (go : okH g) (r s : Int) : heap_Same h r g s = some (fitH h r && (fitH g s && eqSh (U h r) (U g s))) := by
  rw [heap_Same.eq, hmay_any h ho, bnd_some, eqI_d, br_if]
  cases h1 : fitH h r with
  | false => rw [if_neg (by simp), Bool.false_and]
  | true =>
    rw [if_pos (by simp), hmay_any g go, bnd_some, eqI_d, br_if]
    cases h2 : fitH g s with
    | false => rw [if_neg (by simp)]; rfl
    | true =>
      obtain ⟨⟨a, b⟩, c⟩ := fitH_iff.1 h1
      obtain ⟨⟨a', b'⟩, c'⟩ := fitH_iff.1 h2
      rw [if_pos (by simp), hsame_any ho c go c' r.toNat r s a (by omega) b a' b', bnd_some]
      rfl
/-! ### The document's -/
theorem shp_loop {h g : List NodeV} (a b : NodeV) (oa : okN a) (ob : okN b) (hl : a.2.2.2.2.1.length = b.2.2.2.2.1.length) (hb : ∀ (x y : Int), x ∈ allK a → y ∈ allK b → ref17_shape h x g y = some (eqSh (U h x) (U g y))) (d : Nat) : ∀ (i : Nat), i ≤ a.2.2.2.2.1.length → a.2.2.2.2.1.length - i = d →
    ref17_shape.l1 h g i a b = some (eqShL ((a.2.2.2.2.1.drop i).map (U h)) ((b.2.2.2.2.1.drop i).map (U g)) && (eqSh (U h a.2.2.2.2.2.1) (U g b.2.2.2.2.2.1) && decide (stripV a = stripV b))) := by
  have ka := oa.kids
  have la := oa.list
  induction d with
  | zero =>
    intro i h1 h2
    rw [ref17_shape.l1.eq]
    simp only [ltI_d, ofN_d, lenL_d, br_if]
    rw [if_neg (by omega), hb a.2.2.2.2.2.1 b.2.2.2.2.2.1 (by unfold allK; simp) (by unfold allK; simp), bnd_some, refsame_any _ _ (by show 0 ≤ _; omega) (by show a.2.2.2.2.2.2.1.length ≤ _; omega), bnd_some, List.drop_eq_nil_of_le (by omega), List.drop_eq_nil_of_le (by omega), List.map_nil, List.map_nil, eqShL_nil, Bool.true_and]
    cases eqSh (U h a.2.2.2.2.2.1) (U g b.2.2.2.2.2.1) with
    | true => rw [show notB true = false from rfl, br_f, Bool.true_and]; rfl
    | false => rw [show notB false = true from rfl, br_t, Bool.false_and]
  | succ d ih =>
    intro i h1 h2
    have hi : i < a.2.2.2.2.1.length := by omega
    have hj : i < b.2.2.2.2.1.length := by omega
    rw [ref17_shape.l1.eq]
    simp only [ltI_d, leI_d, ofN_d, lenL_d, andB_d, br_if]
    rw [if_pos (by omega), if_pos (by omega), if_pos (by omega), ixR _ i hi, ixR _ i hj, hb _ _ (by unfold allK; exact List.mem_append_left _ (List.getElem_mem hi)) (by unfold allK; exact List.mem_append_left _ (List.getElem_mem hj)), bnd_some, add1 i (by omega), ih (i + 1) (by omega) (by omega), List.drop_eq_getElem_cons hi, List.drop_eq_getElem_cons hj, List.map_cons, List.map_cons, eqShL_cons]
    cases eqSh (U h a.2.2.2.2.1[i]) (U g b.2.2.2.2.1[i]) with
    | true => rw [show notB true = false from rfl, br_f, Bool.true_and]
    | false => rw [show notB false = true from rfl, br_t, Bool.false_and, Bool.false_and]
theorem shape_any {h g : List NodeV} (ho : okH h) (hm : mayH h = true) (go : okH g) (gm : mayH g = true) : ∀ (n : Nat) (r s : Int), 0 ≤ r → r ≤ n → r ≤ h.length → 0 ≤ s → s ≤ g.length → ref17_shape h r g s = some (eqSh (U h r) (U g s)) := by
  have hlen := ho.len
  have glen := go.len
  have zero : ∀ r s : Int, 0 ≤ r → r ≤ h.length → 0 ≤ s → s ≤ g.length → (r = 0 ∨ s = 0) → ref17_shape h r g s = some (eqSh (U h r) (U g s)) := by
    intro r s h0 h1 g0 g1 hz
    have hj : ref17_shape.j0 h r g s true = some (eqSh (U h r) (U g s)) := by
      rw [ref17_shape.j0.eq, br_t]
      simp only [eqI_d, br_if]
      by_cases e : r = 0
      · rw [if_pos e]
        subst e
        refine some_bool ?_
        rw [U_zero]
        by_cases e2 : s = 0
        · subst e2; rw [U_zero, decide_eq_true rfl, eqSh_iff.2 rfl]
        · rw [decide_eq_false e2, eqSh_not (fun q => e2 ((U_nil gm g0 g1).1 q.symm))]
      · rw [if_neg e]
        have e2 := hz.resolve_left e
        subst e2
        rw [U_zero, eqSh_not (fun q => e ((U_nil hm h0 h1).1 q))]
    rw [ref17_shape.eq]
    simp only [eqI_d, br_if]
    by_cases e : r = 0
    · rw [if_pos e]; exact hj
    · rw [if_neg e, decide_eq_true (hz.resolve_left e)]; exact hj
  intro n
  induction n with
  | zero =>
    intro r s h0 h1 h2 g0 g1
    exact zero r s h0 h2 g0 g1 (.inl (by omega))
  | succ n ih =>
    intro r s h0 h1 h2 g0 g1
    by_cases er : r = 0
    · exact zero r s h0 h2 g0 g1 (.inl er)
    by_cases es : s = 0
    · exact zero r s h0 h2 g0 g1 (.inr es)
    have hr1 : 1 ≤ r := by omega
    have hs1 : 1 ≤ s := by omega
    have o := ho.node _ (getN_mem h r hr1 h2)
    have p := go.node _ (getN_mem g s hs1 g1)
    have hx := (may_node hm hr1 h2).2
    have hy := (may_node gm hs1 g1).2
    have hkl := o.kids
    rw [ref17_shape.eq, eqI_d, br_if, if_neg er, eqI_d, decide_eq_false es, ref17_shape.j0.eq, br_f, inG h r hr1 h2 (by omega), br_t, inG g s hs1 g1 (by omega), br_t, ixG h r hr1 h2 (by omega), ixG g s hs1 g1 (by omega)]
    simp only [both_self, eqI_d, ofN_d, lenL_d, notB_d, br_if]
    by_cases hb : (getN h r).2.2.2.2.1.length = (getN g s).2.2.2.2.1.length
    · rw [if_neg (by omega)]
      have := shp_loop (h := h) (g := g) (getN h r) (getN g s) o p hb (fun a b ha hb' => by
        have k1 := hx a ha
        have k2 := hy b hb'
        exact ih a b (by omega) (by omega) (by omega) (by omega) (by omega)) (getN h r).2.2.2.2.1.length 0 (by omega) (by omega)
      rw [List.drop_zero, List.drop_zero, show ((0 : Nat) : Int) = 0 from rfl] at this
      refine this.trans (some_bool ?_)
      rw [Bool.eq_iff_iff, Bool.and_eq_true, Bool.and_eq_true, eqShL_iff, eqSh_iff, eqSh_iff, decide_eq_true_iff, U_node hm hr1 h2, U_node gm hs1 g1, Shp.node.injEq]
      unfold allK
      rw [List.map_append, List.map_append]
      constructor
      · rintro ⟨q1, q2, q3⟩
        exact ⟨q3, by rw [q1, List.map_singleton, List.map_singleton, q2]⟩
      · rintro ⟨q3, q1⟩
        obtain ⟨q1, q2⟩ := List.append_inj' q1 rfl
        injection q2 with q2
        exact ⟨q1, q2, q3⟩
    · rw [if_pos (by omega)]
      refine some_bool (eqSh_not ?_).symm
      intro q
      rw [U_node hm hr1 h2, U_node gm hs1 g1, Shp.node.injEq] at q
      have := congrArg List.length q.2
      rw [List.length_map, List.length_map, allK_len, allK_len] at this
      omega
theorem refSame_any (h g : List NodeV) (ho : okH h) (go : okH g) (r s : Int) : ref17_Same h r g s = some (fitH h r && (fitH g s && eqSh (U h r) (U g s))) := by
  rw [ref17_Same.eq, fits_any h ho, bnd_some]
  cases h1 : fitH h r with
  | false => rw [br_f, Bool.false_and]
  | true =>
    rw [br_t, fits_any g go, bnd_some]
    cases h2 : fitH g s with
    | false => rw [br_f]; rfl
    | true =>
      obtain ⟨⟨a, b⟩, c⟩ := fitH_iff.1 h1
      obtain ⟨⟨a', b'⟩, c'⟩ := fitH_iff.1 h2
      rw [br_t, shape_any ho c go c' r.toNat r s a (by omega) b a' b', bnd_some]
      rfl
end Go.Proofs.Ytimgaglpempfeaa.AA
set_option linter.unusedVariables false
set_option linter.unusedSimpArgs false
namespace Go.Proofs.Ytimgaglpempfeaa.AA
open Go.Abs
theorem tri (a b : ByteArray) : (lt a b = true ∧ lt b a = false ∧ a ≠ b) ∨ (a = b ∧ lt a b = false ∧ lt b a = false) ∨ (lt b a = true ∧ lt a b = false ∧ a ≠ b) := by
  by_cases h : a = b
  · subst h; exact .inr (.inl ⟨rfl, lt_irrefl _, lt_irrefl _⟩)
  · rcases lt_total h with k | k
    · exact .inl ⟨k, lt_asymm k, h⟩
    · exact .inr (.inr ⟨k, lt_asymm k, h⟩)
theorem putS_lt {q p : PairV} {qs : List PairV} (h : lt q.1 p.1 = true) : putS (q :: qs) p = q :: putS qs p := by
  rw [putS, if_pos h]
theorem putS_eq {q p : PairV} {qs : List PairV} (h : q.1 = p.1) : putS (q :: qs) p = p :: qs := by
  rw [putS, if_neg (by rw [h, lt_irrefl]; simp), if_pos h]
theorem putS_gt {q p : PairV} {qs : List PairV} (h : lt p.1 q.1 = true) : putS (q :: qs) p = p :: q :: qs := by
  rw [putS, if_neg (by rw [lt_asymm h]; simp), if_neg (fun e => by rw [e, lt_irrefl] at h; cases h)]
theorem putS_nil (p : PairV) : putS [] p = [p] := rfl
theorem putS_same {p x : PairV} (h : p.1 = x.1) : ∀ l, putS (putS l p) x = putS l x
  | [] => by rw [putS_nil, putS_eq h, putS_nil]
  | q :: qs => by
    rcases tri q.1 p.1 with ⟨a, _⟩ | ⟨a, _⟩ | ⟨a, _⟩
    · have a' : lt q.1 x.1 = true := by rw [← h]; exact a
      rw [putS_lt a, putS_lt a', putS_lt a', putS_same h qs]
    · rw [putS_eq a, putS_eq h, putS_eq (a.trans h)]
    · have a' : lt x.1 q.1 = true := by rw [← h]; exact a
      rw [putS_gt a, putS_eq h, putS_gt a']
theorem putS_comm {p x : PairV} (h : p.1 ≠ x.1) : ∀ l, putS (putS l p) x = putS (putS l x) p
  | [] => by
    rw [putS_nil, putS_nil]
    rcases tri p.1 x.1 with ⟨c, _⟩ | ⟨c, _⟩ | ⟨c, _⟩
    · rw [putS_lt c, putS_gt c, putS_nil]
    · exact absurd c h
    · rw [putS_gt c, putS_lt c, putS_nil]
  | q :: qs => by
    rcases tri q.1 p.1 with ⟨a, _⟩ | ⟨a, _⟩ | ⟨a, _⟩
    · rcases tri q.1 x.1 with ⟨b, _⟩ | ⟨b, _⟩ | ⟨b, _⟩
      · rw [putS_lt a, putS_lt b, putS_lt b, putS_lt a, putS_comm h qs]
      · have c : lt x.1 p.1 = true := by rw [← b]; exact a
        rw [putS_lt a, putS_eq b, putS_eq b, putS_lt c]
      · rw [putS_lt a, putS_gt b, putS_gt b, putS_lt (lt_trans b a), putS_lt a]
    · rcases tri q.1 x.1 with ⟨b, _⟩ | ⟨b, _⟩ | ⟨b, _⟩
      · have c : lt p.1 x.1 = true := by rw [← a]; exact b
        rw [putS_eq a, putS_lt c, putS_lt b, putS_eq a]
      · exact absurd (a.symm.trans b) h
      · have c : lt x.1 p.1 = true := by rw [← a]; exact b
        rw [putS_eq a, putS_gt c, putS_gt b, putS_lt c, putS_eq a]
    · rcases tri q.1 x.1 with ⟨b, _⟩ | ⟨b, _⟩ | ⟨b, _⟩
      · rw [putS_gt a, putS_lt (lt_trans a b), putS_lt b, putS_gt a]
      · have c : lt p.1 x.1 = true := by rw [← b]; exact a
        rw [putS_gt a, putS_lt c, putS_eq b, putS_gt c]
      · rcases tri p.1 x.1 with ⟨c, _⟩ | ⟨c, _⟩ | ⟨c, _⟩
        · rw [putS_gt a, putS_lt c, putS_gt b, putS_gt c]
        · exact absurd c h
        · rw [putS_gt a, putS_gt c, putS_gt b, putS_lt c, putS_gt a]
theorem fold_skip {p : PairV} : ∀ (r acc : List PairV), (∃ q ∈ r, q.1 = p.1) → r.foldl putS (putS acc p) = r.foldl putS acc
  | [], _, ⟨_, h, _⟩ => by cases h
  | x :: r, acc, ⟨q, hq, e⟩ => by
    rw [List.foldl_cons, List.foldl_cons]
    by_cases hx : p.1 = x.1
    · rw [putS_same hx]
    · rw [putS_comm hx]
      refine fold_skip r _ ⟨q, ?_, e⟩
      rcases List.mem_cons.1 hq with rfl | hq
      · exact absurd e.symm hx
      · exact hq
/-! ### The document's way -/
theorem last_loop (l : List PairV) (hl : l.length ≤ 50000000) (i : Nat) (hi : i < l.length) (d : Nat) : ∀ (k : Nat), k ≤ l.length → l.length - k = d → ref07_last.l0 l i k = some ((l.drop k).all fun q => !decide (q.1 = l[i].1)) := by
  induction d with
  | zero =>
    intro k h1 h2
    rw [ref07_last.l0.eq]
    simp only [ltI_d, ofN_d, lenL_d, br_if]
    rw [if_neg (by omega), List.drop_eq_nil_of_le (by omega)]
    rfl
  | succ d ih =>
    intro k h1 h2
    have hk : k < l.length := by omega
    rw [ref07_last.l0.eq]
    simp only [ltI_d, leI_d, eqS_d, ofN_d, lenL_d, andB_d, br_if]
    rw [if_pos (by omega), if_pos (by omega), if_pos (by omega), ixP l k hk, ixP l i hi, add1 k (by omega), ih (k + 1) (by omega) (by omega), List.drop_eq_getElem_cons hk]
    rw [List.all_cons]
    by_cases e : l[k].1 = l[i].1
    · rw [if_pos e, decide_eq_true e]; rfl
    · rw [if_neg e, decide_eq_false e]; rfl
theorem last_any (l : List PairV) (hl : l.length ≤ 50000000) (i : Nat) (hi : i < l.length) : ref07_last l i = some ((l.drop (i + 1)).all fun q => !decide (q.1 = l[i].1)) := by
  rw [ref07_last.eq, add1 i (by omega)]
  exact last_loop l hl i hi _ (i + 1) (by omega) rfl
theorem insert_any (l out : List PairV) (i at_ : Nat) (hi : i < l.length) (hl : l.length ≤ 50000000) (ha : at_ ≤ out.length) (ho : out.length ≤ 50000000) :
    ref07_Make.j2 l i at_ false out = ref07_Make.l0 l ((i + 1 : Nat) : Int) (out.take at_ ++ l[i] :: out.drop at_) := by
  rw [ref07_Make.j2.eq, br_f]
  have e0 : toN 0 = 0 := rfl
  have s1 : subL tapiPair out 0 at_ = out.take at_ := subL0 _ _ _
  have s2 : subL tapiPair out at_ out.length = out.drop at_ := by
    unfold subL
    exact List.take_of_length_le (by rw [List.length_drop]; omega)
  have hx := ixP l i hi
  simp only [e0, toN_d, ofN_d, lenL_d, s1, s2, hx, appL_d, List.nil_append, add1 i (by omega)]
  have c1 : andB (leI 0 (i : Int)) (ltI (i : Int) (l.length : Int)) = true := by
    rw [leI_d, ltI_d, andB_d]; exact decide_eq_true ⟨by omega, by omega⟩
  have c2 : andB (leI 0 0) (andB (leI 0 (at_ : Int)) (leI (at_ : Int) (out.length : Int))) = true := by
    rw [leI_d, leI_d, leI_d, andB_d, andB_d]; exact decide_eq_true ⟨by omega, by omega, by omega⟩
  have c3 : fitL tapiPair (out.take at_) = true := by rw [fitL_d]; exact decide_eq_true (by rw [List.length_take]; omega)
  have c4 : fitL tapiPair (out.take at_ ++ [l[i]]) = true := by rw [fitL_d]; exact decide_eq_true (by rw [List.length_append, List.length_take]; show _ + 1 ≤ _; omega)
  have c5 : andB (leI 0 (at_ : Int)) (andB (leI (at_ : Int) (out.length : Int)) (leI (out.length : Int) (out.length : Int))) = true := by
    rw [leI_d, leI_d, leI_d, andB_d, andB_d]; exact decide_eq_true ⟨by omega, by omega, by omega⟩
  have c6 : fitL tapiPair (out.take at_ ++ [l[i]] ++ out.drop at_) = true := by rw [fitL_d]; exact decide_eq_true (by rw [List.length_append, List.length_append, List.length_take, List.length_drop]; show _ + 1 + _ ≤ _; omega)
  simp only [c1, c2, c3, c4, c5, c6, br_t, both_self]
  rw [List.append_assoc]
  rfl
theorem find_loop (l out : List PairV) (i : Nat) (hi : i < l.length) (hl : l.length ≤ 50000000) (ho : out.length ≤ 50000000) (hs : ∀ p ∈ out, okP p) (hS : Srt out) (hne : ∀ q ∈ out, q.1 ≠ l[i].1) (d : Nat) : ∀ (a : Nat), a ≤ out.length → out.length - a = d → (∀ (b : Nat) (h : b < out.length), b < a → lt out[b].1 l[i].1 = true) →
    ref07_Make.l1 l i a out = ref07_Make.l0 l ((i + 1 : Nat) : Int) (putS out l[i]) := by
  have fin : ∀ (a : Nat), a ≤ out.length → (∀ (b : Nat) (h : b < out.length), b < a → lt out[b].1 l[i].1 = true) → (∀ (h : a < out.length), lt out[a].1 l[i].1 = false) → ref07_Make.j2 l i a false out = ref07_Make.l0 l ((i + 1 : Nat) : Int) (putS out l[i]) := by
    intro a h1 h2 h3
    rw [insert_any l out i a hi hl h1 ho, putS_at l[i] out a h1 h2 h3, if_neg (by rintro ⟨h, e⟩; exact hne _ (List.getElem_mem h) e)]
  induction d with
  | zero =>
    intro a h1 h2 h3
    rw [ref07_Make.l1.eq]
    simp only [ltI_d, ofN_d, lenL_d, br_if]
    rw [if_neg (by omega)]
    exact fin a h1 h3 (fun h => by omega)
  | succ d ih =>
    intro a h1 h2 h3
    have ha : a < out.length := by omega
    rw [ref07_Make.l1.eq]
    simp only [ltI_d, leI_d, ofN_d, lenL_d, andB_d, br_if]
    rw [if_pos (by omega), if_pos (by omega), if_pos (by omega), ixP out a ha, ixP l i hi, less_any _ _ (by have := (hs _ (List.getElem_mem ha)).1; omega), bnd_some]
    cases hc : lt out[a].1 l[i].1 with
    | true =>
      rw [ref07_Make.j2.eq, br_t, add1 a (by omega)]
      refine ih (a + 1) (by omega) (by omega) (fun b h hb => ?_)
      by_cases e : b = a
      · subst e; exact hc
      · exact h3 b h (by omega)
    | false => exact fin a h1 h3 (fun _ => hc)
theorem refmake_loop (l : List PairV) (hl : l.length ≤ 40000000) (hs : ∀ p ∈ l, okP p) (d : Nat) : ∀ (i : Nat) (acc : List PairV), i ≤ l.length → l.length - i = d → acc.length ≤ i → (∀ q ∈ acc, okP q) → Srt acc → (∀ q ∈ acc, ∀ x ∈ l.drop i, q.1 ≠ x.1) →
    ref07_Make.l0 l i acc = some ((l.drop i).foldl putS acc) := by
  induction d with
  | zero =>
    intro i acc h1 h2 h3 h4 h5 h6
    rw [ref07_Make.l0.eq]
    simp only [ltI_d, ofN_d, lenL_d, br_if]
    rw [if_neg (by omega), List.drop_eq_nil_of_le (by omega)]
    rfl
  | succ d ih =>
    intro i acc h1 h2 h3 h4 h5 h6
    have hi : i < l.length := by omega
    have hd := List.drop_eq_getElem_cons hi
    rw [hd] at h6
    rw [ref07_Make.l0.eq]
    simp only [ltI_d, ofN_d, lenL_d, br_if]
    rw [if_pos (by omega), last_any l (by omega) i hi, bnd_some, hd, List.foldl_cons]
    by_cases e' : ((l.drop (i + 1)).all fun q => !decide (q.1 = l[i].1)) = true
    · have e : ∀ q ∈ l.drop (i + 1), q.1 ≠ l[i].1 := fun q hq => by simpa using List.all_eq_true.1 e' q hq
      rw [e', show notB true = false from rfl, br_f]
      have := find_loop l acc i hi (by omega) (by omega) h4 h5 (fun q hq => h6 q hq _ List.mem_cons_self) acc.length 0 (by omega) (by omega) (fun b h hb => by omega)
      rw [show ((0 : Nat) : Int) = 0 from rfl] at this
      rw [this]
      have hlen := putS_len l[i] acc
      refine ih (i + 1) _ (by omega) (by omega) (by omega) (putS_ok h4 (hs _ (List.getElem_mem hi))) (putS_srt _ h5) (fun q hq x hx => ?_)
      rcases putS_mem hq with rfl | hq
      · exact fun h => e x hx h.symm
      · exact h6 q hq x (List.mem_cons_of_mem _ hx)
    · have e : ¬ ∀ q ∈ l.drop (i + 1), q.1 ≠ l[i].1 := fun h => e' (List.all_eq_true.2 fun q hq => by simpa using h q hq)
      have e2 : ((l.drop (i + 1)).all fun q => !decide (q.1 = l[i].1)) = false := by simpa using e'
      rw [e2, show notB false = true from rfl, br_t, add1 i (by omega), ih (i + 1) acc (by omega) (by omega) (by omega) h4 h5 (fun q hq x hx => h6 q hq x (List.mem_cons_of_mem _ hx))]
      have hex : ∃ q ∈ l.drop (i + 1), q.1 = l[i].1 := by
        refine Classical.byContradiction fun h => e fun q hq he => h ⟨q, hq, he⟩
      rw [fold_skip _ _ hex]
theorem refmake_any (l : List PairV) (hl : l.length ≤ 40000000) (hs : ∀ p ∈ l, okP p) : ref07_Make l = some (makeS l) := by
  rw [ref07_Make.eq]
  have := refmake_loop l hl hs l.length 0 [] (by omega) (by omega) (by simp) (by simp) List.Pairwise.nil (by simp)
  rw [List.drop_zero, show ((0 : Nat) : Int) = 0 from rfl] at this
  exact this
end Go.Proofs.Ytimgaglpempfeaa.AA
set_option autoImplicit false
set_option linter.unusedVariables false
namespace Go.Abs
theorem wf_i64 {a : Int} (h : (Lit.int .i64 a).wf = true) : -9223372036854775808 ≤ a ∧ a ≤ 9223372036854775807 := by
  simp [Lit.wf, IntKind.min, IntKind.max, IntKind.bits, IntKind.signed] at h
  omega
theorem wf_u64 {a : Int} (h : (Lit.int .u64 a).wf = true) : 0 ≤ a ∧ a < 18446744073709551616 := by
  simp [Lit.wf, IntKind.min, IntKind.max, IntKind.bits, IntKind.signed] at h
  omega
theorem wrap_u64 (n : Int) : IntKind.u64.wrap n = n % 18446744073709551616 := by simp [IntKind.wrap, IntKind.bits, IntKind.signed]
theorem wrap_u64_id {n : Int} (h0 : 0 ≤ n) (h1 : n < 18446744073709551616) : IntKind.u64.wrap n = n := by rw [wrap_u64]; omega
theorem wrap_u64_range (n : Int) : 0 ≤ IntKind.u64.wrap n ∧ IntKind.u64.wrap n < 18446744073709551616 := by rw [wrap_u64]; omega
theorem wraps_u64 (n : Int) (h0 : 0 ≤ n) (h1 : n < 2 ^ 64) : IntKind.u64.wrap n = n := by rw [wrap_u64]; omega
theorem and_u64 (a w : Nat) (ha : a < 18446744073709551616) (hw : w ≤ 64) : andI .u64 (a : Int) ((2 ^ w - 1 : Nat) : Int) = ((a % 2 ^ w : Nat) : Int) := by
  have hp : 2 ^ w ≤ 18446744073709551616 := by
    have := Nat.pow_le_pow_right (n := 2) (by omega) hw
    omega
  have hq : 0 < 2 ^ w := Nat.two_pow_pos w
  have e : ∀ x : Nat, x < 18446744073709551616 → (BitVec.ofInt 64 (x : Int)).toNat = x := by
    intro x hx
    simp only [BitVec.toNat_ofInt]
    omega
  unfold andI
  rw [show IntKind.u64.bits = 64 from rfl, BitVec.toNat_and, e a ha, e _ (by omega), Nat.and_two_pow_sub_one_eq_mod]
  have := Nat.mod_le a (2 ^ w)
  exact wrap_u64_id (by omega) (by omega)
/-- How many bits may be. -/
def wid (bits : Int) : Nat := (min (max bits 0) 64).toNat
theorem wid_le (bits : Int) : wid bits ≤ 64 := by unfold wid; omega
def lev (bits : Int) : Nat := (wid bits + 4) / 5
theorem lev_le (bits : Int) : lev bits ≤ 13 := by have := wid_le bits; unfold lev; omega
/-- A hash's chunkS at a level. -/
def chunkS (h : Nat) (level : Nat) (bits : Int) : Nat := if level < lev bits then (h % 2 ^ wid bits) / 2 ^ (5 * level) % 32 else 0
/-- One step of a hash. -/
def hstep (h b : Int) : Int := IntKind.u64.wrap ((xorI .u64 h (IntKind.u64.wrap b)) * 1099511628211)
def fnv : List UInt8 → Int → Int
  | [], h => h
  | x :: xs, h => fnv xs (hstep h (x.toNat : Int))
theorem hstep_range (h b : Int) : 0 ≤ hstep h b ∧ hstep h b < 18446744073709551616 := wrap_u64_range _
theorem fnv_cons (x : UInt8) (xs : List UInt8) (h : Int) : fnv (x :: xs) h = fnv xs (hstep h (x.toNat : Int)) := rfl
theorem fnv_range : ∀ (l : List UInt8) (h : Int), 0 ≤ h → h < 18446744073709551616 → 0 ≤ fnv l h ∧ fnv l h < 18446744073709551616
  | [], _, h0, h1 => ⟨h0, h1⟩
  | _ :: xs, h, _, _ => fnv_range xs _ (hstep_range h _).1 (hstep_range h _).2
/-- A text's hash. -/
theorem hashN_ex : ∃ f : ByteArray → Nat, ∀ s, f s = (fnv (bl s) 14695981039346656037).toNat := ⟨_, fun _ => rfl⟩
noncomputable def hashN : ByteArray → Nat := Classical.choose hashN_ex
theorem hashN_eq (s : ByteArray) : hashN s = (fnv (bl s) 14695981039346656037).toNat := Classical.choose_spec hashN_ex s
theorem hashN_int (s : ByteArray) : (hashN s : Int) = fnv (bl s) 14695981039346656037 := by
  have := fnv_range (bl s) 14695981039346656037 (by omega) (by omega)
  rw [hashN_eq]; omega
theorem hashN_lt (s : ByteArray) : hashN s < 18446744073709551616 := by
  have := fnv_range (bl s) 14695981039346656037 (by omega) (by omega)
  rw [hashN_eq]; omega
noncomputable def hashS (s : ByteArray) (bits : Int) : Nat := hashN s % 2 ^ wid bits
theorem hash_lt (s : ByteArray) (bits : Int) : hashS s bits < 2 ^ wid bits := Nat.mod_lt _ (Nat.two_pow_pos _)
theorem pow_le64 {w : Nat} (h : w ≤ 64) : 2 ^ w ≤ 18446744073709551616 := by
  have := Nat.pow_le_pow_right (n := 2) (by omega) h
  omega
theorem hash_lt64 (s : ByteArray) (bits : Int) : hashS s bits < 18446744073709551616 := by
  have := hash_lt s bits
  have := pow_le64 (wid_le bits)
  omega

/-- Which of two lists of chunks is ahead, from a level on. -/
def befC (x y : Nat → Nat) : Nat → Nat → Bool
  | 0, _ => false
  | n + 1, l => if x l = y l then befC x y n (l + 1) else decide (x l < y l)
def befS (a b : Nat) (bits : Int) : Bool := befC (fun l => chunkS a l bits) (fun l => chunkS b l bits) (lev bits) 0

theorem befC_same (x y : Nat → Nat) : ∀ n l, (∀ i, l ≤ i → i < l + n → x i = y i) → befC x y n l = false
  | 0, _, _ => rfl
  | n + 1, l, h => by
    unfold befC
    rw [if_pos (h l (by omega) (by omega))]
    exact befC_same x y n (l + 1) (fun i h1 h2 => h i (by omega) (by omega))
theorem befC_total (x y : Nat → Nat) : ∀ n l, (¬ ∀ i, l ≤ i → i < l + n → x i = y i) → (befC x y n l = !befC y x n l)
  | 0, l, h => absurd (fun i h1 h2 => by omega) h
  | n + 1, l, h => by
    unfold befC
    by_cases e : x l = y l
    · rw [if_pos e, if_pos e.symm]
      refine befC_total x y n (l + 1) (fun k => h (fun i h1 h2 => ?_))
      by_cases q : i = l
      · rw [q]; exact e
      · exact k i (by omega) (by omega)
    · rw [if_neg e, if_neg (fun q => e q.symm)]
      by_cases q : x l < y l
      · have : ¬ y l < x l := by omega
        simp [q, this]
      · have : y l < x l := by omega
        simp [q, this]

theorem digits_eq : ∀ (n a b : Nat), a < 32 ^ n → b < 32 ^ n → (∀ i, i < n → a / 32 ^ i % 32 = b / 32 ^ i % 32) → a = b
  | 0, a, b, ha, hb, _ => by simp at ha hb; omega
  | n + 1, a, b, ha, hb, h => by
    have h0 := h 0 (by omega)
    simp at h0
    have := digits_eq n (a / 32) (b / 32) (by rw [Nat.pow_succ] at ha; omega) (by rw [Nat.pow_succ] at hb; omega) (fun i hi => by
      have := h (i + 1) (by omega)
      rw [Nat.pow_succ, Nat.mul_comm, ← Nat.div_div_eq_div_mul, ← Nat.div_div_eq_div_mul] at this
      exact this)
    omega
theorem chunk_small (a level : Nat) (bits : Int) (ha : a < 2 ^ wid bits) (hl : level < lev bits) : chunkS a level bits = a / 32 ^ level % 32 := by
  unfold chunkS
  rw [if_pos hl, Nat.mod_eq_of_lt ha, Nat.pow_mul]
theorem chunks_same {a b : Nat} {bits : Int} (ha : a < 2 ^ wid bits) (hb : b < 2 ^ wid bits) (h : ∀ l, l < lev bits → chunkS a l bits = chunkS b l bits) : a = b := by
  have hp : 2 ^ wid bits ≤ 32 ^ lev bits := by
    rw [show (32 : Nat) = 2 ^ 5 by rfl, ← Nat.pow_mul]
    exact Nat.pow_le_pow_right (by omega) (by unfold lev; omega)
  refine digits_eq (lev bits) a b (by omega) (by omega) (fun i hi => ?_)
  have := h i hi
  rw [chunk_small a i bits ha hi, chunk_small b i bits hb hi] at this
  exact this
theorem before_self (a : Nat) (bits : Int) : befS a a bits = false := befC_same _ _ _ _ (fun _ _ _ => rfl)
theorem before_self' {a b : Nat} {bits : Int} (h : a = b) : befS a b bits = false := by rw [h]; exact before_self b bits
theorem before_total {a b : Nat} {bits : Int} (ha : a < 2 ^ wid bits) (hb : b < 2 ^ wid bits) (h : a ≠ b) : befS a b bits = !befS b a bits :=
  befC_total _ _ _ _ (fun k => h (chunks_same ha hb (fun l hl => k l (by omega) (by omega))))
theorem befC_trans (x y z : Nat → Nat) : ∀ n l, befC x y n l = true → befC y z n l = true → befC x z n l = true
  | 0, _, h, _ => by cases h
  | n + 1, l, h1, h2 => by
    unfold befC at h1 h2 ⊢
    by_cases e1 : x l = y l
    · by_cases e2 : y l = z l
      · rw [if_pos e1] at h1
        rw [if_pos e2] at h2
        rw [if_pos (e1.trans e2)]
        exact befC_trans x y z n (l + 1) h1 h2
      · rw [if_neg e2] at h2
        rw [if_neg (by omega)]
        simp only [decide_eq_true_eq] at h2 ⊢
        omega
    · rw [if_neg e1] at h1
      simp only [decide_eq_true_eq] at h1
      by_cases e2 : y l = z l
      · rw [if_neg (by omega)]
        simp only [decide_eq_true_eq]
        omega
      · rw [if_neg e2] at h2
        simp only [decide_eq_true_eq] at h2
        rw [if_neg (by omega)]
        simp only [decide_eq_true_eq]
        omega
theorem before_trans {a b c : Nat} {bits : Int} (h1 : befS a b bits = true) (h2 : befS b c bits = true) : befS a c bits = true := befC_trans _ _ _ _ _ h1 h2

/-- What lies between two bits. -/
theorem mod_div_pow (h w a : Nat) (ha : a ≤ w) : h % 2 ^ w / 2 ^ a = h / 2 ^ a % 2 ^ (w - a) := by
  have : 2 ^ w = 2 ^ a * 2 ^ (w - a) := by rw [← Nat.pow_add]; congr 1; omega
  rw [this, Nat.mod_mul_right_div_self]
theorem mod_mod_pow (x p q : Nat) : x % 2 ^ p % 2 ^ q = x % 2 ^ min p q := by
  by_cases h : q ≤ p
  · rw [Nat.min_eq_right h, Nat.mod_mod_of_dvd _ (Nat.pow_dvd_pow 2 h)]
  · rw [Nat.min_eq_left (by omega), Nat.mod_eq_of_lt]
    have h1 := Nat.mod_lt x (Nat.two_pow_pos p)
    have h2 := Nat.pow_le_pow_right (n := 2) (by omega) (show p ≤ q by omega)
    omega
theorem mod_pow_succ (x p : Nat) : x % 2 ^ (p + 1) = x % 2 ^ p + 2 ^ p * (x / 2 ^ p % 2) := by
  rw [Nat.pow_succ, Nat.mod_mul]
theorem lowstep (A A' B B' P : Nat) (q2 : A / 2 = A') (m1 : B' = B + P * (A % 2)) (hB : B' < 18446744073709551616) (hA : A < 18446744073709551616) (hP : P ≤ 9223372036854775808) :
    IntKind.u64.wrap ((A : Int) / 2) = (A' : Int) ∧ IntKind.u64.wrap ((B : Int) + IntKind.u64.wrap ((P : Int) * ((A : Int) % 2))) = (B' : Int) := by
  have e : ((A : Int) % 2) = ((A % 2 : Nat) : Int) := by omega
  have hb : A % 2 = 0 ∨ A % 2 = 1 := by omega
  constructor
  · rw [wrap_u64_id (by omega) (by omega)]; omega
  · rw [e]
    rcases hb with hb | hb
    · rw [hb] at m1 ⊢
      rw [wrap_u64_id (n := (P : Int) * ((0 : Nat) : Int)) (by omega) (by omega), wrap_u64_id (by omega) (by omega)]
      omega
    · rw [hb] at m1 ⊢
      rw [wrap_u64_id (n := (P : Int) * ((1 : Nat) : Int)) (by omega) (by omega), wrap_u64_id (by omega) (by omega)]
      omega
theorem chunkstep (b B B' P : Nat) (m1 : B' = B + P * b) (hb : b < 2) (hB : B < 64) (hP : P ≤ 64) : IntKind.i64.wrap ((B : Int) + IntKind.i64.wrap ((P : Int) * (b : Int))) = (B' : Int) := by
  have hb : b = 0 ∨ b = 1 := by omega
  rcases hb with hb | hb
  · rw [hb] at m1 ⊢
    rw [wrap_i64_id (x := (P : Int) * ((0 : Nat) : Int)) (by omega) (by omega), wrap_i64_id (by omega) (by omega)]
    omega
  · rw [hb] at m1 ⊢
    rw [wrap_i64_id (x := (P : Int) * ((1 : Nat) : Int)) (by omega) (by omega), wrap_i64_id (by omega) (by omega)]
    omega
/-- How a hash is mixed to a priority. -/
def m1 (h : Int) : Int := IntKind.u64.wrap ((xorI .u64 h (h / 1073741824)) * 13787848793156543929)
def m2 (h : Int) : Int := IntKind.u64.wrap ((xorI .u64 h (h / 134217728)) * 10723151780598845931)
def m3 (h : Int) : Int := xorI .u64 h (h / 2147483648)
/-- A text's priority. -/
theorem pri_ex : ∃ f : ByteArray → Int, ∀ s, f s = m3 (m2 (m1 ((hashS s 64 : Nat) : Int))) := ⟨_, fun _ => rfl⟩
noncomputable def pri : ByteArray → Int := Classical.choose pri_ex
theorem pri_eq (s : ByteArray) : pri s = m3 (m2 (m1 ((hashS s 64 : Nat) : Int))) := Classical.choose_spec pri_ex s
/-- Which of two texts is above. -/
noncomputable def above (a b : ByteArray) : Bool := if pri a = pri b then lt a b else decide (pri a > pri b)
theorem above_irrefl (a : ByteArray) : above a a = false := by
  unfold above
  rw [if_pos rfl, lt_irrefl]
theorem above_total {a b : ByteArray} (h : a ≠ b) : above a b = true ∨ above b a = true := by
  unfold above
  by_cases e : pri a = pri b
  · rw [if_pos e, if_pos e.symm]; exact lt_total h
  · rw [if_neg e, if_neg (fun q => e q.symm)]
    simp only [decide_eq_true_eq]
    omega
theorem above_trans {a b c : ByteArray} (h1 : above a b = true) (h2 : above b c = true) : above a c = true := by
  unfold above at *
  by_cases e1 : pri a = pri b
  · by_cases e2 : pri b = pri c
    · rw [if_pos e1] at h1
      rw [if_pos e2] at h2
      rw [if_pos (by omega)]
      exact lt_trans h1 h2
    · rw [if_neg e2] at h2
      simp only [decide_eq_true_eq] at h2
      rw [if_neg (by omega)]
      simp only [decide_eq_true_eq]
      omega
  · rw [if_neg e1] at h1
    simp only [decide_eq_true_eq] at h1
    by_cases e2 : pri b = pri c
    · rw [if_neg (by omega)]
      simp only [decide_eq_true_eq]
      omega
    · rw [if_neg e2] at h2
      simp only [decide_eq_true_eq] at h2
      rw [if_neg (by omega)]
      simp only [decide_eq_true_eq]
      omega
theorem above_asymm {a b : ByteArray} (h : above a b = true) : above b a = false := by
  cases k : above b a with
  | false => rfl
  | true => have := above_trans h k; rw [above_irrefl] at this; cases this
/-- The one that none of some texts is above. -/
noncomputable def best : List ByteArray → ByteArray → ByteArray
  | [], o => o
  | x :: xs, o => best xs (if above x o = true then x else o)
noncomputable def topT : List ByteArray → ByteArray × Bool
  | [] => (⟨#[]⟩, false)
  | x :: xs => (best xs x, true)
theorem best_mem : ∀ xs o, best xs o = o ∨ best xs o ∈ xs
  | [], _ => .inl rfl
  | x :: xs, o => by
    unfold best
    by_cases h : above x o = true
    · rw [if_pos h]
      rcases best_mem xs x with e | e
      · rw [e]; exact .inr (by simp)
      · exact .inr (List.mem_cons_of_mem _ e)
    · rw [if_neg h]
      rcases best_mem xs o with e | e
      · exact .inl e
      · exact .inr (List.mem_cons_of_mem _ e)
theorem above_not_trans {a b c : ByteArray} (h1 : above a b = false) (h2 : above b c = false) : above a c = false := by
  cases h : above a c with
  | false => rfl
  | true =>
    by_cases e : a = b
    · subst e; rw [h2] at h; cases h
    · rcases above_total e with q | q
      · rw [h1] at q; cases q
      · have := above_trans q h; rw [h2] at this; cases this
theorem best_top : ∀ xs o, above o (best xs o) = false ∧ ∀ y ∈ xs, above y (best xs o) = false
  | [], o => ⟨above_irrefl o, by simp⟩
  | x :: xs, o => by
    unfold best
    by_cases h : above x o = true
    · rw [if_pos h]
      obtain ⟨h1, h2⟩ := best_top xs x
      refine ⟨above_not_trans (above_asymm h) h1, fun y hy => ?_⟩
      rcases List.mem_cons.1 hy with e | e
      · rw [e]; exact h1
      · exact h2 y e
    · rw [if_neg h]
      obtain ⟨h1, h2⟩ := best_top xs o
      refine ⟨h1, fun y hy => ?_⟩
      rcases List.mem_cons.1 hy with e | e
      · rw [e]; exact above_not_trans (Bool.eq_false_iff.2 h) h1
      · exact h2 y e
theorem top_mem {l : List ByteArray} (h : 0 < l.length) : (topT l).1 ∈ l := by
  cases l with
  | nil => simp at h
  | cons x xs =>
    show best xs x ∈ _
    rcases best_mem xs x with e | e
    · rw [e]; simp
    · exact List.mem_cons_of_mem _ e
theorem top_top {l : List ByteArray} {y : ByteArray} (h : y ∈ l) : above y (topT l).1 = false := by
  cases l with
  | nil => simp at h
  | cons x xs =>
    show above y (best xs x) = false
    obtain ⟨h1, h2⟩ := best_top xs x
    rcases List.mem_cons.1 h with e | e
    · rw [e]; exact h1
    · exact h2 y e
theorem top_only {l : List ByteArray} {y : ByteArray} (h : y ∈ l) (hy : ∀ z ∈ l, above z y = false) : y = (topT l).1 := by
  by_cases e : y = (topT l).1
  · exact e
  · have hp : 0 < l.length := List.length_pos_of_mem h
    rcases above_total e with q | q
    · rw [top_top h] at q; cases q
    · rw [hy _ (top_mem hp)] at q; cases q
end Go.Abs
set_option linter.unusedVariables false
set_option linter.unusedSimpArgs false
namespace Go.Proofs.Ytimgaglpempfeaa.AA
open Go.Abs
theorem clamp_any (bits : Int) : ref04_clamp bits = some (wid bits : Int) := by
  rw [ref04_clamp.eq]
  simp only [ltI_d, br_if]
  unfold wid
  by_cases h : bits < 0
  · rw [if_pos h]; exact some_int (by omega)
  · rw [if_neg h]
    by_cases h' : 64 < bits
    · rw [if_pos h']; exact some_int (by omega)
    · rw [if_neg h']; exact some_int (by omega)
theorem reflow_loop (bits : Int) (n : Nat) (hn : n < 18446744073709551616) (d : Nat) : ∀ (i : Nat) (one : Int), i ≤ wid bits → (i < 64 → one = 2 ^ i) → wid bits - i = d →
    ref04_Of.l1 bits ((n / 2 ^ i : Nat) : Int) ((n % 2 ^ i : Nat) : Int) one i = some ((n % 2 ^ wid bits : Nat) : Int) := by
  have hw := wid_le bits
  induction d with
  | zero =>
    intro i one hi h1 hd
    rw [ref04_Of.l1.eq, clamp_any, bnd_some]
    simp only [ltI_d, br_if]
    rw [if_neg (by omega), show i = wid bits by omega]
  | succ d ih =>
    intro i one hi h1 hd
    rw [ref04_Of.l1.eq, clamp_any, bnd_some]
    simp only [ltI_d, br_if, eqI_d, notB_d]
    have hone := h1 (by omega)
    subst hone
    have c : ((2 : Int) ^ i) = ((2 ^ i : Nat) : Int) := by simp
    have p : 2 ^ i ≤ 2 ^ 63 := Nat.pow_le_pow_right (by omega) (by omega)
    have q : n / 2 ^ i ≤ n := Nat.div_le_self _ _
    have q2 : n / 2 ^ i / 2 = n / 2 ^ (i + 1) := by rw [Nat.div_div_eq_div_mul, Nat.pow_succ]
    have m1 := mod_pow_succ n i
    have m2 : n % 2 ^ (i + 1) < 18446744073709551616 := by have := Nat.mod_le n (2 ^ (i + 1)); omega
    rw [if_pos (by omega), if_pos (by omega), if_pos (by omega), add1 i (by omega)]
    unfold quoI remI addI mulI
    rw [Int.tdiv_eq_ediv_of_nonneg (Int.natCast_nonneg _), Int.tmod_eq_emod_of_nonneg (Int.natCast_nonneg _)]
    have e := lowstep (n / 2 ^ i) _ (n % 2 ^ i) _ (2 ^ i) q2 m1 m2 (by omega) p
    rw [← c] at e
    rw [e.1, e.2]
    refine ih (i + 1) _ (by omega) (fun h => ?_) (by omega)
    have p2 : 2 ^ (i + 1) ≤ 2 ^ 63 := Nat.pow_le_pow_right (by omega) (by omega)
    have c2 : ((2 : Int) ^ (i + 1)) = ((2 ^ (i + 1) : Nat) : Int) := by simp
    rw [c, c2, wrap_u64, Nat.pow_succ]
    rw [Nat.pow_succ] at p2
    omega
theorem byte_u64 (s : ByteArray) (i : Nat) (hi : i < s.size) : ∃ x : UInt8, (bl s).drop i = x :: (bl s).drop (i + 1) ∧ wrapI .u64 (getS s (toN (i : Int))) = IntKind.u64.wrap (x.toNat : Int) := by
  obtain ⟨x, e, hx⟩ := drop_cons s i hi
  refine ⟨x, e, ?_⟩
  rw [getS_bt, hx]; rfl
theorem refof_loop (s : ByteArray) (bits : Int) (hs : s.size ≤ 140737488351232) (d : Nat) : ∀ (i : Nat) (h : Int), 0 ≤ h → h < 18446744073709551616 → i ≤ s.size → s.size - i = d →
    ref04_Of.l0 s bits h i = some ((((fnv ((bl s).drop i) h).toNat % 2 ^ wid bits : Nat)) : Int) := by
  have hw := wid_le bits
  induction d with
  | zero =>
    intro i h h0 h1 hi hd
    rw [ref04_Of.l0.eq]
    simp only [ltI_d, leI_d, ofN_d, lenS_d, andB_d, br_if]
    obtain ⟨n, rfl⟩ : ∃ n : Nat, h = n := ⟨h.toNat, by omega⟩
    rw [if_neg (by omega), List.drop_eq_nil_of_le (by rw [bl_len]; omega)]
    have := reflow_loop bits n (by omega) (wid bits) 0 1 (by omega) (fun _ => by simp) (by omega)
    simp only [Nat.pow_zero, Nat.div_one, Nat.mod_one, Int.cast_ofNat_Int] at this
    rw [this]
    rfl
  | succ d ih =>
    intro i h h0 h1 hi hd
    rw [ref04_Of.l0.eq]
    simp only [ltI_d, leI_d, ofN_d, lenS_d, andB_d, br_if]
    obtain ⟨x, e, hx⟩ := byte_u64 s i (by omega)
    rw [if_pos (by omega), if_pos (by omega), e, add1 i (by omega), hx]
    have hr := hstep_range h (x.toNat : Int)
    have := ih (i + 1) (hstep h (x.toNat : Int)) hr.1 hr.2 (by omega) (by omega)
    unfold hstep at this
    unfold mulI
    rw [this, fnv_cons]
    rfl
theorem refof_any (s : ByteArray) (bits : Int) (hs : s.size ≤ 140737488351232) : ref04_Of s bits = some ((hashS s bits : Nat) : Int) := by
  rw [ref04_Of.eq]
  have := refof_loop s bits hs s.size 0 14695981039346656037 (by omega) (by omega) (by omega) (by omega)
  simp only [List.drop_zero, Int.cast_ofNat_Int] at this
  unfold hashS
  rw [hashN_eq]
  exact this
theorem within_any (bits : Int) : hash_within bits = some (wid bits : Int) := by
  rw [hash_within.eq]
  simp only [minI_d, maxI_d]
  unfold wid
  exact some_int (by omega)
theorem cutb_any (h : Nat) (hh : h < 18446744073709551616) (bits : Int) : hash_cut h bits = some ((h % 2 ^ wid bits : Nat) : Int) := by
  have hw := wid_le bits
  rw [hash_cut.eq, within_any, bnd_some]
  simp only [eqI_d, leI_d, br_if]
  by_cases e : wid bits = 64
  · rw [if_pos (by omega), e, Nat.mod_eq_of_lt (by omega)]
  · rw [if_neg (by omega), bnd_some, if_pos (by omega)]
    have hpos : 0 < 2 ^ wid bits := Nat.two_pow_pos _
    have hle : 2 ^ wid bits ≤ 2 ^ 63 := Nat.pow_le_pow_right (by omega) (by omega)
    have e1 : shlI .u64 1 ((wid bits : Nat) : Int) = ((2 ^ wid bits : Nat) : Int) := by
      unfold shlI
      rw [Int.toNat_natCast, show IntKind.u64.bits = 64 from rfl, Nat.min_eq_left hw, Int.one_mul, wrap_u64]
      have c : ((2 : Int) ^ wid bits) = ((2 ^ wid bits : Nat) : Int) := by simp
      rw [c]
      generalize 2 ^ wid bits = P at hle ⊢
      omega
    have e2 : subI .u64 ((2 ^ wid bits : Nat) : Int) 1 = ((2 ^ wid bits - 1 : Nat) : Int) := by
      unfold subI
      rw [wrap_u64]
      generalize 2 ^ wid bits = P at hle hpos ⊢
      omega
    rw [e1, e2, and_u64 _ _ hh hw]
theorem hashof_loop (s : ByteArray) (bits : Int) (hs : s.size ≤ 140737488351232) (d : Nat) : ∀ (i : Nat) (h : Int), 0 ≤ h → h < 18446744073709551616 → i ≤ s.size → s.size - i = d →
    hash_Of.l0 s bits h s.size i = some ((((fnv ((bl s).drop i) h).toNat % 2 ^ wid bits : Nat)) : Int) := by
  induction d with
  | zero =>
    intro i h h0 h1 hi hd
    rw [hash_Of.l0.eq]
    simp only [ltI_d, leI_d, ofN_d, lenS_d, andB_d, br_if]
    obtain ⟨n, rfl⟩ : ∃ n : Nat, h = n := ⟨h.toNat, by omega⟩
    rw [if_neg (by omega), List.drop_eq_nil_of_le (by rw [bl_len]; omega), cutb_any n (by omega), bnd_some]
    rfl
  | succ d ih =>
    intro i h h0 h1 hi hd
    rw [hash_Of.l0.eq]
    simp only [ltI_d, leI_d, ofN_d, lenS_d, andB_d, br_if]
    obtain ⟨x, e, hx⟩ := byte_u64 s i (by omega)
    rw [if_pos (by omega), if_pos (by omega), e, add1 i (by omega), hx]
    have hr := hstep_range h (x.toNat : Int)
    have := ih (i + 1) (hstep h (x.toNat : Int)) hr.1 hr.2 (by omega) (by omega)
    unfold hstep at this
    unfold mulI
    rw [this, fnv_cons]
    rfl
theorem hashof_any (s : ByteArray) (bits : Int) (hs : s.size ≤ 140737488351232) : hash_Of s bits = some ((hashS s bits : Nat) : Int) := by
  rw [hash_Of.eq]
  have := hashof_loop s bits hs s.size 0 14695981039346656037 (by omega) (by omega) (by omega) (by omega)
  simp only [List.drop_zero, Int.cast_ofNat_Int] at this
  unfold hashS
  rw [hashN_eq]
  exact this
end Go.Proofs.Ytimgaglpempfeaa.AA
set_option linter.unusedVariables false
set_option linter.unusedSimpArgs false
namespace Go.Proofs.Ytimgaglpempfeaa.AA
open Go.Abs
theorem down_loop (a : Nat) (d : Nat) : ∀ (h i : Nat), h < 18446744073709551616 → i ≤ a → a ≤ 64 → a - i = d → ref05_down.l0 h a i = some ((h / 2 ^ d : Nat) : Int) := by
  induction d with
  | zero =>
    intro h i hh hi ha hd
    rw [ref05_down.l0.eq]
    simp only [ltI_d, br_if]
    rw [if_neg (by omega)]
    simp
  | succ d ih =>
    intro h i hh hi ha hd
    rw [ref05_down.l0.eq]
    simp only [ltI_d, eqI_d, notB_d, br_if]
    unfold quoI
    rw [if_pos (by omega), if_pos (by omega), Int.tdiv_eq_ediv_of_nonneg (by omega), Go.Abs.wrap_u64_id (by omega) (by omega), add1 i (by omega), show ((h : Int) / 2) = ((h / 2 : Nat) : Int) by omega]
    rw [ih (h / 2) (i + 1) (by omega) (by omega) (by omega) (by omega), Nat.div_div_eq_div_mul, Nat.pow_succ, Nat.mul_comm 2]
theorem down_any (h : Int) (h0 : 0 ≤ h) (h1 : h < 18446744073709551616) (a : Nat) (ha : a ≤ 64) : ref05_down h a = some (h / ((2 ^ a : Nat) : Int)) := by
  obtain ⟨n, rfl⟩ : ∃ n : Nat, h = n := ⟨h.toNat, by omega⟩
  rw [ref05_down.eq, show (0 : Int) = ((0 : Nat) : Int) by rfl, down_loop a a n 0 (by omega) (by omega) ha (by omega)]
  simp
theorem refpriof_any (s : ByteArray) (hs : s.size ≤ 140737488351232) : ref05_Of s = some (pri s) := by
  rw [pri_eq]
  have h64 := hash_lt64 s 64
  rw [ref05_Of.eq, refof_any s 64 hs, bnd_some]
  obtain ⟨h, hh⟩ : ∃ h : Int, ((hashS s 64 : Nat) : Int) = h := ⟨_, rfl⟩
  rw [hh]
  have d1 : ref05_down h 30 = some (h / 1073741824) := down_any h (by omega) (by omega) 30 (by omega)
  rw [d1, bnd_some]
  have r1 : 0 ≤ m1 h ∧ m1 h < 18446744073709551616 := wrap_u64_range _
  obtain ⟨x, hx⟩ : ∃ x : Int, m1 h = x := ⟨_, rfl⟩
  rw [show mulI .u64 (xorI .u64 h (h / 1073741824)) 13787848793156543929 = x from hx, hx]
  rw [hx] at r1
  have d2 : ref05_down x 27 = some (x / 134217728) := down_any x r1.1 r1.2 27 (by omega)
  rw [d2, bnd_some]
  have r2 : 0 ≤ m2 x ∧ m2 x < 18446744073709551616 := wrap_u64_range _
  obtain ⟨y, hy⟩ : ∃ y : Int, m2 x = y := ⟨_, rfl⟩
  rw [show mulI .u64 (xorI .u64 x (x / 134217728)) 10723151780598845931 = y from hy, hy]
  rw [hy] at r2
  have d3 : ref05_down y 31 = some (y / 2147483648) := down_any y r2.1 r2.2 31 (by omega)
  rw [d3, bnd_some]
  rfl
theorem shr_nat (h : Int) (n : Nat) (hn : n ≤ 64) : shrI .u64 h (n : Int) = h / ((2 ^ n : Nat) : Int) := by
  unfold shrI
  rw [Int.toNat_natCast, show IntKind.u64.bits = 64 from rfl, Nat.min_eq_left hn, Int.fdiv_eq_ediv_of_nonneg _ (Int.pow_nonneg (by omega))]
  simp
theorem priof_any (s : ByteArray) (hs : s.size ≤ 140737488351232) : pri_Of s = some (pri s) := by
  rw [pri_eq, pri_Of.eq, hashof_any s 64 hs, bnd_some]
  have s1 : ∀ h : Int, shrI .u64 h 30 = h / 1073741824 := fun h => shr_nat h 30 (by omega)
  have s2 : ∀ h : Int, shrI .u64 h 27 = h / 134217728 := fun h => shr_nat h 27 (by omega)
  have s3 : ∀ h : Int, shrI .u64 h 31 = h / 2147483648 := fun h => shr_nat h 31 (by omega)
  simp only [leI_d, br_if, s1, s2, s3]
  rw [if_pos (by omega), if_pos (by omega), if_pos (by omega)]
  rfl
theorem above_any (a b : ByteArray) (ha : a.size ≤ 140737488351232) (hb : b.size ≤ 140737488351232) : pri_Above a b = some (above a b) := by
  rw [pri_Above.eq, priof_any a ha, bnd_some, priof_any b hb, bnd_some, compare_any a b (by omega), bnd_some]
  simp only [ltI_d, eqI_d, br_if]
  unfold above
  by_cases e : pri a = pri b
  · rw [if_neg (by omega), if_pos e, if_pos e]
    refine some_bool ?_
    by_cases q : lt a b = true
    · rw [q]; exact decide_eq_true (cmp_neg.2 q)
    · rw [Bool.eq_false_iff.2 q]; exact decide_eq_false (fun z => q (cmp_neg.1 z))
  · by_cases g : pri b < pri a
    · rw [if_pos g, if_neg e]; exact some_bool (decide_eq_true g).symm
    · rw [if_neg g, if_neg e, if_neg e]; exact some_bool (decide_eq_false g).symm
theorem refabove_any (a b : ByteArray) (ha : a.size ≤ 140737488351232) (hb : b.size ≤ 140737488351232) : ref05_Above a b = some (above a b) := by
  rw [ref05_Above.eq, refpriof_any a ha, bnd_some, refpriof_any b hb, bnd_some, bnd_some, bnd_some, less_any a b (by omega), bnd_some]
  simp only [ltI_d, eqI_d, notB_d, br_if]
  unfold above
  by_cases e : pri a = pri b
  · rw [if_neg (by intro q; exact q e), if_pos e]
  · rw [if_pos e, if_neg e]
end Go.Proofs.Ytimgaglpempfeaa.AA
set_option linter.unusedVariables false
set_option linter.unusedSimpArgs false
namespace Go.Proofs.Ytimgaglpempfeaa.AA
open Go.Abs
theorem srt_isS : ∀ {l : List PairV}, Srt l → isS l = true
  | [], _ => rfl
  | [_], _ => rfl
  | a :: b :: r, h => by
    have h1 := (List.pairwise_cons.1 h).1 b List.mem_cons_self
    have h2 := srt_isS (List.pairwise_cons.1 h).2
    show (lt a.1 b.1 && isS (b :: r)) = true
    rw [h1, h2]; rfl
theorem foldl_putS_srt : ∀ (l acc : List PairV), Srt acc → Srt (l.foldl putS acc)
  | [], _, h => h
  | p :: l, acc, h => foldl_putS_srt l (putS acc p) (putS_srt p h)
theorem makeS_Srt (l : List PairV) : Srt (makeS l) := foldl_putS_srt l [] List.Pairwise.nil
theorem foldl_putS_mem : ∀ (l acc : List PairV), ∀ x ∈ l.foldl putS acc, x ∈ acc ∨ x ∈ l
  | [], _, x, h => .inl h
  | p :: l, acc, x, h => by
    rcases foldl_putS_mem l (putS acc p) x h with h | h
    · rcases putS_mem h with rfl | h
      · exact .inr List.mem_cons_self
      · exact .inl h
    · exact .inr (List.mem_cons_of_mem _ h)
theorem makeS_mem {l : List PairV} {x : PairV} (h : x ∈ makeS l) : x ∈ l := (foldl_putS_mem l [] x h).resolve_left (by simp)
/-! ### The binding that is above all others -/
def keyAt (l : List PairV) (i : Nat) : ByteArray := (l.getD i (ByteArray.empty, (ByteArray.empty, ()))).1
theorem keyAt_get (l : List PairV) (i : Nat) (h : i < l.length) : keyAt l i = l[i].1 := by
  unfold keyAt
  rw [List.getD_eq_getElem?_getD, List.getElem?_eq_getElem h]; rfl
noncomputable def topA (l : List PairV) : Nat → Nat → Nat → Nat
  | 0, _, t => t
  | d + 1, i, t => topA l d (i + 1) (if above (keyAt l i) (keyAt l t) = true then i else t)
noncomputable def topI (l : List PairV) : Nat := topA l (l.length - 1) 1 0
theorem topA_spec (l : List PairV) : ∀ (d i t : Nat), t < i → i + d = l.length → (∀ j, j < i → above (keyAt l j) (keyAt l t) = false) → (∀ j, j < t → keyAt l j ≠ keyAt l t) →
    topA l d i t < l.length ∧ (∀ j, j < l.length → above (keyAt l j) (keyAt l (topA l d i t)) = false) ∧ ∀ j, j < topA l d i t → keyAt l j ≠ keyAt l (topA l d i t)
  | 0, i, t, h1, h2, h3, h4 => ⟨by unfold topA; omega, by unfold topA; intro j hj; exact h3 j (by omega), by unfold topA; exact h4⟩
  | d + 1, i, t, h1, h2, h3, h4 => by
    unfold topA
    by_cases h : above (keyAt l i) (keyAt l t) = true
    · rw [if_pos h]
      refine topA_spec l d (i + 1) i (by omega) (by omega) (fun j hj => ?_) (fun j hj e => ?_)
      · by_cases e : j = i
        · subst e; exact above_irrefl _
        · exact above_not_trans (h3 j (by omega)) (above_asymm h)
      · rw [← e, h3 j hj] at h; cases h
    · rw [if_neg h]
      refine topA_spec l d (i + 1) t (by omega) (by omega) (fun j hj => ?_) h4
      by_cases e : j = i
      · subst e; exact Bool.eq_false_iff.2 h
      · exact h3 j (by omega)
theorem topI_spec (l : List PairV) (h : l ≠ []) : topI l < l.length ∧ (∀ j, j < l.length → above (keyAt l j) (keyAt l (topI l)) = false) ∧ ∀ j, j < topI l → keyAt l j ≠ keyAt l (topI l) := by
  have hp : 0 < l.length := List.length_pos_iff.2 h
  exact topA_spec l (l.length - 1) 1 0 (by omega) (by omega) (fun j hj => by rw [show j = 0 by omega]; exact above_irrefl _) (fun j hj => by omega)
theorem topI_lt {l : List PairV} (h : l ≠ []) : topI l < l.length := (topI_spec l h).1
def treeN (p : PairV) (a b : Int) (n : Nat) : NodeV := (4, (p.1, (p.2.1, (0, ([a, b], (0, ([], ((n : Int), (0, ())))))))))
def pairAt (l : List PairV) (i : Nat) : PairV := l.getD i (ByteArray.empty, (ByteArray.empty, ()))
theorem pairAt_get (l : List PairV) (i : Nat) (h : i < l.length) : pairAt l i = l[i] := by
  unfold pairAt
  rw [List.getD_eq_getElem?_getD, List.getElem?_eq_getElem h]; rfl
/-- The nodes of a tree, behind those that are there; and its reference. -/
noncomputable def nodesS (h : List NodeV) (l : List PairV) : List NodeV × Int :=
  if hl : l = [] then (h, 0) else
    have := topI_lt hl
    let a := nodesS h (l.take (topI l))
    let b := nodesS a.1 (l.drop (topI l + 1))
    (b.1 ++ [treeN (pairAt l (topI l)) a.2 b.2 l.length], (b.1.length : Int) + 1)
termination_by l.length
decreasing_by
  · rw [List.length_take]; omega
  · rw [List.length_drop]; omega
theorem nodesS_nil (h : List NodeV) : nodesS h [] = (h, 0) := by rw [nodesS, dif_pos rfl]
theorem nodesS_cons (h : List NodeV) {l : List PairV} (hl : l ≠ []) : nodesS h l = ((nodesS (nodesS h (l.take (topI l))).1 (l.drop (topI l + 1))).1 ++ [treeN (pairAt l (topI l)) (nodesS h (l.take (topI l))).2 (nodesS (nodesS h (l.take (topI l))).1 (l.drop (topI l + 1))).2 l.length], ((nodesS (nodesS h (l.take (topI l))).1 (l.drop (topI l + 1))).1.length : Int) + 1) := by
  rw [nodesS, dif_neg hl]
theorem nodesS_len : ∀ (n : Nat) (h : List NodeV) (l : List PairV), l.length ≤ n → (nodesS h l).1.length = h.length + l.length
  | n, h, l, hn => by
    by_cases hl : l = []
    · subst hl; rw [nodesS_nil]; rfl
    have ht := topI_lt hl
    cases n with
    | zero => exact absurd (List.eq_nil_of_length_eq_zero (by omega)) hl
    | succ n =>
      rw [nodesS_cons h hl]
      dsimp only
      rw [List.length_append, nodesS_len n _ _ (by rw [List.length_drop]; omega), nodesS_len n _ _ (by rw [List.length_take]; omega), List.length_take, List.length_drop]
      simp only [List.length_cons, List.length_nil]
      omega
/-- The shape of a tree. -/
noncomputable def treeT (l : List PairV) : Shp :=
  if hl : l = [] then .nil else
    have := topI_lt hl
    .node (stripV (treeN (pairAt l (topI l)) 0 0 l.length)) [treeT (l.take (topI l)), treeT (l.drop (topI l + 1)), .nil]
termination_by l.length
decreasing_by
  · rw [List.length_take]; omega
  · rw [List.length_drop]; omega
theorem treeT_nil : treeT [] = .nil := by rw [treeT, dif_pos rfl]
theorem treeT_cons {l : List PairV} (hl : l ≠ []) : treeT l = .node (stripV (treeN (pairAt l (topI l)) 0 0 l.length)) [treeT (l.take (topI l)), treeT (l.drop (topI l + 1)), .nil] := by
  rw [treeT, dif_neg hl]
theorem split_at (l : List PairV) (i : Nat) (h : i < l.length) : l.take i ++ [pairAt l i] ++ l.drop (i + 1) = l := by
  rw [pairAt_get l i h, List.append_assoc]
  conv => rhs; rw [← List.take_append_drop i l, List.drop_eq_getElem_cons h]
  rfl
theorem bindsT_tree : ∀ (n : Nat) (l : List PairV), l.length ≤ n → bindsT (treeT l) = l
  | n, l, hn => by
    by_cases hl : l = []
    · subst hl; rw [treeT_nil, bindsT_nil]
    have ht := topI_lt hl
    cases n with
    | zero => exact absurd (List.eq_nil_of_length_eq_zero (by omega)) hl
    | succ n =>
      rw [treeT_cons hl, bindsT_node, if_pos (show (stripV (treeN (pairAt l (topI l)) 0 0 l.length)).1 = 4 from rfl)]
      show bindsT (treeT (l.take (topI l))) ++ [pairAt l (topI l)] ++ bindsT (treeT (l.drop (topI l + 1))) = l
      rw [bindsT_tree n _ (by rw [List.length_take]; omega), bindsT_tree n _ (by rw [List.length_drop]; omega)]
      exact split_at l _ ht
theorem bindsT_treeT (l : List PairV) : bindsT (treeT l) = l := bindsT_tree _ l (Nat.le_refl _)
/-! ### Heaps that go on -/
theorem mayHL_app : ∀ (a b : List NodeV) (i : Nat), mayHL i (a ++ b) = (mayHL i a && mayHL (i + a.length) b)
  | [], b, i => by rw [List.nil_append]; show _ = (true && mayHL i b); rw [Bool.true_and]
  | n :: a, b, i => by
    rw [List.cons_append, mayHL, mayHL, mayHL_app a b (i + 1), List.length_cons, show i + 1 + a.length = i + (a.length + 1) by omega, ← Bool.and_assoc]
theorem mayH_left {a b : List NodeV} (h : mayH (a ++ b) = true) : mayH a = true := by
  unfold mayH at *
  rw [mayHL_app, Bool.and_eq_true] at h
  exact h.1
theorem getN_app (a b : List NodeV) (r : Int) (h1 : 1 ≤ r) (h2 : r ≤ a.length) : getN (a ++ b) r = getN a r := by
  unfold getN
  rw [List.getD_eq_getElem?_getD, List.getD_eq_getElem?_getD, List.getElem?_append_left (by omega)]
theorem getN_last (a : List NodeV) (n : NodeV) : getN (a ++ [n]) ((a.length : Int) + 1) = n := by
  unfold getN
  rw [show ((a.length : Int) + 1 - 1).toNat = a.length by omega, List.getD_eq_getElem?_getD, List.getElem?_append_right (by omega), Nat.sub_self]
  rfl
theorem unf_app {a b : List NodeV} (hm : mayH a = true) : ∀ (k : Nat) (r : Int), 0 ≤ r → r ≤ a.length → unf (a ++ b) k r = unf a k r
  | 0, r, _, _ => rfl
  | k + 1, r, h0, h1 => by
    unfold unf
    by_cases e : r = 0
    · rw [if_pos e, if_pos e]
    · rw [if_neg e, if_neg e, getN_app a b r (by omega) h1]
      congr 1
      refine List.map_congr_left fun x hx => ?_
      have := (may_node hm (by omega) h1).2 x hx
      exact unf_app hm k x (by omega) (by omega)
theorem U_app {a b : List NodeV} (hm : mayH a = true) {r : Int} (h0 : 0 ≤ r) (h1 : r ≤ a.length) : U (a ++ b) r = U a r := unf_app hm _ r h0 h1
def okB (p : PairV) : Prop := p.1.size ≤ 16 ∧ p.2.1.size ≤ 16
theorem okB.ok {p : PairV} (h : okB p) : okP p := ⟨by have := h.1; omega, by have := h.2; omega⟩
theorem treeN_may {p : PairV} (hp : okB p) (a b : Int) (n : Nat) (hn : 1 ≤ n) : mayS (treeN p a b n) = 0 := by
  unfold mayS
  rw [if_neg (by show ¬ (4 : Int) < 1; omega), if_neg (by show ¬ (6 : Int) < 4; omega)]
  have hl : longN (treeN p a b n) = false := by
    show ((decide (16 < p.1.size) || decide (16 < p.2.1.size)) || false) = false
    rw [decide_eq_false (by have := hp.1; omega), decide_eq_false (by have := hp.2; omega)]
    rfl
  rw [hl, if_neg (by simp), if_pos]
  refine ⟨Int.le_refl _, ?_⟩
  rw [if_neg (by show ¬ ((4 : Int) = 1 ∨ (4 : Int) = 6); omega), if_neg (by show ¬ (4 : Int) = 2; omega), if_neg (by show ¬ (4 : Int) = 3; omega), if_pos (show (treeN p a b n).1 = 4 from rfl)]
  exact ⟨rfl, rfl, by show (1 : Int) ≤ (n : Int); omega, fun q => (by cases q), fun q => (by cases q), fun _ => rfl, fun _ => rfl⟩
theorem treeN_ok {p : PairV} (hp : okP p) (a b : Int) (n : Nat) : okN (treeN p a b n) := ⟨hp.1, hp.2, by show (0 : Int) ≤ 0; omega, by show (0 : Int) < 4294967296; omega, by show 2 ≤ _; omega, by show 0 ≤ _; omega, fun q hq => (by cases hq)⟩
theorem refsS_tree (p : PairV) (a b : Int) (n : Nat) : refsS (treeN p a b n) = [a, b].filter (fun r => decide (r ≠ 0)) := by
  rw [refsS_all]
  show ([a, b] ++ [0]).filter _ = _
  rw [List.filter_append]
  show _ ++ [] = _
  rw [List.append_nil]
/-- What the nodes of a tree are. -/
structure NodesOK (h : List NodeV) (l : List PairV) (g : List NodeV) (r : Int) : Prop where
  pre : ∃ new : List NodeV, g = h ++ new ∧ new.length = l.length ∧ ∀ n ∈ new, ∃ p ∈ l, ∃ a b m, n = treeN p a b m
  may : mayH g = true
  r0 : 0 ≤ r
  r1 : r ≤ g.length
  shp : U g r = treeT l
theorem pairAt_mem (l : List PairV) (i : Nat) (h : i < l.length) : pairAt l i ∈ l := by rw [pairAt_get l i h]; exact List.getElem_mem h
theorem nodesS_ok : ∀ (n : Nat) (h : List NodeV) (l : List PairV), l.length ≤ n → mayH h = true → (∀ p ∈ l, okB p) → NodesOK h l (nodesS h l).1 (nodesS h l).2
  | n, h, l, hn, hm, hb => by
    by_cases hl : l = []
    · subst hl
      rw [nodesS_nil]
      exact ⟨⟨[], by simp, rfl, by simp⟩, hm, Int.le_refl _, by show (0 : Int) ≤ _; omega, by rw [U_zero, treeT_nil]⟩
    have ht := topI_lt hl
    cases n with
    | zero => exact absurd (List.eq_nil_of_length_eq_zero (by omega)) hl
    | succ n =>
      have ia := nodesS_ok n h (l.take (topI l)) (by rw [List.length_take]; omega) hm (fun p hp => hb p (List.mem_of_mem_take hp))
      have ib := nodesS_ok n (nodesS h (l.take (topI l))).1 (l.drop (topI l + 1)) (by rw [List.length_drop]; omega) ia.may (fun p hp => hb p (List.mem_of_mem_drop hp))
      rw [nodesS_cons h hl]
      generalize hga : (nodesS h (l.take (topI l))).1 = ga at ia ib ⊢
      generalize hra : (nodesS h (l.take (topI l))).2 = ra at ia ⊢
      generalize hgb : (nodesS ga (l.drop (topI l + 1))).1 = gb at ib ⊢
      generalize hrb : (nodesS ga (l.drop (topI l + 1))).2 = rb at ib ⊢
      obtain ⟨na, ea, la, ma⟩ := ia.pre
      obtain ⟨nb, eb, lb, mb⟩ := ib.pre
      have hpm := pairAt_mem l _ ht
      have hp := hb _ hpm
      have hlab : ga.length ≤ gb.length := by rw [eb, List.length_append]; omega
      have hra := ia.r1
      have hpos : 1 ≤ l.length := by omega
      have hmay : mayH (gb ++ [treeN (pairAt l (topI l)) ra rb l.length]) = true := by
        unfold mayH
        rw [mayHL_app, Bool.and_eq_true]
        refine ⟨ib.may, mayHL_of _ _ fun j hj => ?_⟩
        have : j = 0 := by simpa using hj
        subst this
        refine ⟨treeN_may hp _ _ _ hpos, fun r hr => ?_⟩
        rw [show ([treeN (pairAt l (topI l)) ra rb l.length] : List NodeV)[0] = treeN (pairAt l (topI l)) ra rb l.length from rfl, refsS_tree] at hr
        obtain ⟨hr1, hr2⟩ := List.mem_filter.1 hr
        have a0 := ia.r0
        have b0 := ib.r0
        have b1 := ib.r1
        simp only [decide_eq_true_eq, ne_eq] at hr2
        rcases List.mem_cons.1 hr1 with rfl | hr1
        · exact ⟨by omega, by omega⟩
        · rw [List.mem_singleton] at hr1
          subst hr1
          exact ⟨by omega, by omega⟩
      refine ⟨⟨na ++ nb ++ [treeN (pairAt l (topI l)) ra rb l.length], ?_, ?_, ?_⟩, hmay, by omega, ?_, ?_⟩
      · rw [eb, ea]; simp
      · rw [List.length_append, List.length_append, la, lb, List.length_take, List.length_drop]
        simp only [List.length_cons, List.length_nil]
        omega
      · intro m hm'
        rcases List.mem_append.1 hm' with hm' | hm'
        · rcases List.mem_append.1 hm' with hm' | hm'
          · obtain ⟨p, hp, q⟩ := ma m hm'
            exact ⟨p, List.mem_of_mem_take hp, q⟩
          · obtain ⟨p, hp, q⟩ := mb m hm'
            exact ⟨p, List.mem_of_mem_drop hp, q⟩
        · rw [List.mem_singleton] at hm'
          exact ⟨_, hpm, _, _, _, hm'⟩
      · show ((gb.length : Int) + 1) ≤ ((gb ++ [treeN (pairAt l (topI l)) ra rb l.length]).length : Int)
        rw [List.length_append]; simp only [List.length_cons, List.length_nil]; omega
      · show U (gb ++ [treeN (pairAt l (topI l)) ra rb l.length]) ((gb.length : Int) + 1) = treeT l
        rw [U_node hmay (by omega) (by rw [List.length_append]; simp only [List.length_cons, List.length_nil]; omega), getN_last, treeT_cons hl]
        have e1 : U (gb ++ [treeN (pairAt l (topI l)) ra rb l.length]) ra = treeT (l.take (topI l)) := by
          rw [U_app ib.may ia.r0 (by omega), eb, U_app ia.may ia.r0 ia.r1]
          exact ia.shp
        have e2 : U (gb ++ [treeN (pairAt l (topI l)) ra rb l.length]) rb = treeT (l.drop (topI l + 1)) := by
          rw [U_app ib.may ib.r0 ib.r1]
          exact ib.shp
        show Shp.node _ [U _ ra, U _ rb, U _ 0] = _
        rw [e1, e2, U_zero]
        rfl
theorem nodes_okH {l : List PairV} (hl : l.length ≤ 40000000) (hb : ∀ p ∈ l, okB p) : okH (nodesS [] l).1 := by
  have h := nodesS_ok _ [] l (Nat.le_refl _) rfl hb
  obtain ⟨new, e, h1, h2⟩ := h.pre
  rw [List.nil_append] at e
  refine ⟨by rw [e]; omega, fun n hn => ?_, fun n hn => ?_⟩
  · rw [e] at hn
    obtain ⟨p, hp, a, b, m, rfl⟩ := h2 n hn
    exact treeN_ok (hb p hp).ok a b m
  · obtain ⟨j, hj, ej⟩ := List.getElem_of_mem hn
    rw [e] at hn
    obtain ⟨p, hp, a, b, m, rfl⟩ := h2 n hn
    have hk := (may_node h.may (r := (j : Int) + 1) (by omega) (by omega)).2
    rw [getN_ix _ j hj, ej] at hk
    have hl' : (nodesS [] l).1.length ≤ 40000000 := by rw [e]; omega
    refine ⟨fun k hk' => ?_, ?_⟩
    · have := hk k (by show k ∈ [a, b] ++ [0]; exact List.mem_append_left _ hk')
      unfold rng; omega
    · show rng 0
      unfold rng; omega
end Go.Proofs.Ytimgaglpempfeaa.AA
set_option linter.unusedVariables false
set_option linter.unusedSimpArgs false
namespace Go.Proofs.Ytimgaglpempfeaa.AA
open Go.Abs
theorem ixS (l : List ByteArray) (i : Nat) (h : i < l.length) : ixL .str l (i : Int) = l[i] := ixL_d .str l i h
def shortS (l : List ByteArray) : Prop := ∀ s ∈ l, s.size ≤ 40
theorem best_short : ∀ (l : List ByteArray) (o : ByteArray), shortS l → o.size ≤ 40 → (best l o).size ≤ 40
  | [], _, _, h => h
  | x :: xs, o, hl, ho => by
    unfold best
    split
    · exact best_short xs x (fun s hs => hl s (List.mem_cons_of_mem _ hs)) (hl x List.mem_cons_self)
    · exact best_short xs o (fun s hs => hl s (List.mem_cons_of_mem _ hs)) ho
theorem ptop_loop (x0 l : List ByteArray) (hl : l.length ≤ 50000000) (hs : shortS l) (d : Nat) : ∀ (i : Nat) (o : ByteArray), 1 ≤ i → i ≤ l.length → l.length - i = d → o.size ≤ 40 → pri_Top.l0 x0 o l l.length i = some (best (l.drop i) o, (decide (0 < (x0.length : Int)), ())) := by
  induction d with
  | zero =>
    intro i o h0 h1 h2 h3
    rw [pri_Top.l0.eq]
    simp only [ltI_d, br_if, ofN_d, lenL_d]
    rw [if_neg (by omega), List.drop_eq_nil_of_le (by omega)]
    rfl
  | succ d ih =>
    intro i o h0 h1 h2 h3
    have hi : i < l.length := by omega
    have hx := hs _ (List.getElem_mem hi)
    rw [pri_Top.l0.eq]
    simp only [ltI_d, leI_d, eqI_d, br_if, ofN_d, lenL_d, andB_d]
    rw [if_pos (by omega), if_pos (by omega), if_neg (by omega), ixS l i hi, above_any _ _ (by omega) (by omega), bnd_some, add1 i (by omega), br_b, ih (i + 1) _ (by omega) (by omega) (by omega) hx, ih (i + 1) _ (by omega) (by omega) (by omega) h3, List.drop_eq_getElem_cons hi, best]
    split <;> rfl
theorem ptop_any (l : List ByteArray) (hl : l.length ≤ 50000000) (h0 : 0 < l.length) (hs : shortS l) : pri_Top l = some ((topT l).1, (true, ())) := by
  rw [pri_Top.eq, pri_Top.l0.eq]
  simp only [ltI_d, leI_d, eqI_d, br_if, ofN_d, lenL_d, andB_d]
  have i0 := ixS l 0 h0
  have hx := hs _ (List.getElem_mem h0)
  rw [show ((0 : Nat) : Int) = 0 from rfl] at i0
  have := ptop_loop l l hl hs (l.length - 1) 1 l[0] (by omega) (by omega) rfl hx
  rw [if_pos (by omega), if_pos (by omega), if_pos trivial, i0, show addI .i64 0 1 = ((1 : Nat) : Int) from add1 0 (by omega), this, decide_eq_true (by omega)]
  cases l with
  | nil => simp at h0
  | cons x xs => rfl
theorem sidx_loop (l : List ByteArray) (x : ByteArray) (p : Nat) (hp : p < l.length) (hx : l[p] = x) (hn : ∀ j (h : j < l.length), j < p → l[j] ≠ x) (hl : l.length ≤ 50000000) (d : Nat) : ∀ (i : Nat), i ≤ p → p - i = d → slices_Indexstring_string.l0 l x l.length i = some (p : Int) := by
  induction d with
  | zero =>
    intro i h1 h2
    have : i = p := by omega
    subst this
    rw [slices_Indexstring_string.l0.eq]
    simp only [ltI_d, leI_d, eqI_d, eqS_d, br_if, ofN_d, lenL_d, andB_d]
    rw [if_pos (by omega), if_pos (by omega), ixS l i hp, hx, if_pos rfl]
  | succ d ih =>
    intro i h1 h2
    have hi : i < l.length := by omega
    rw [slices_Indexstring_string.l0.eq]
    simp only [ltI_d, leI_d, eqI_d, eqS_d, br_if, ofN_d, lenL_d, andB_d]
    rw [if_pos (by omega), if_pos (by omega), ixS l i hi, if_neg (fun e => hn i hi (by omega) e.symm), add1 i (by omega)]
    exact ih (i + 1) (by omega) (by omega)
theorem ttop_fin (l : List PairV) (hl : l.length ≤ 40000000) (h0 : l ≠ []) (hs : ∀ p ∈ l, okP p) : (bnd (pri_Top (l.map (·.1))) fun r0 => bnd (slices_Indexstring_string (l.map (·.1)) r0.1) fun r1 => some r1) = some ((topI l : Nat) : Int) := by
  obtain ⟨t1, t2, t3⟩ := topI_spec l h0
  have hk : (l.map (·.1)).length = l.length := List.length_map ..
  have hp : 0 < l.length := List.length_pos_iff.2 h0
  have hss : shortS (l.map (·.1)) := by
    intro s hs'
    obtain ⟨p, hp, rfl⟩ := List.mem_map.1 hs'
    exact (hs p hp).1
  have hkey : ∀ (j : Nat) (h : j < (l.map (·.1)).length), (l.map (·.1))[j] = keyAt l j := by
    intro j h
    rw [List.getElem_map, keyAt_get l j (by omega)]
  have he : keyAt l (topI l) = (topT (l.map (·.1))).1 := by
    refine top_only ?_ (fun z hz => ?_)
    · rw [← hkey (topI l) (by omega)]; exact List.getElem_mem _
    · obtain ⟨j, hj, rfl⟩ := List.getElem_of_mem hz
      rw [hkey j hj]
      exact t2 j (by omega)
  rw [ptop_any _ (by omega) (by omega) hss, bnd_some, slices_Indexstring_string.eq]
  have := sidx_loop (l.map (·.1)) (topT (l.map (·.1))).1 (topI l) (by omega) (by rw [hkey _ (by omega), he]) (fun j h hj => by rw [hkey j h, ← he]; exact t3 j hj) (by omega) (topI l) 0 (by omega) (by omega)
  rw [show ((0 : Nat) : Int) = 0 from rfl] at this
  simp only [ofN_d, lenL_d]
  rw [this, bnd_some]
theorem ttop_loop (l : List PairV) (hl : l.length ≤ 40000000) (d : Nat) : ∀ (i : Nat), i ≤ l.length → l.length - i = d → tree_top.l0 l l.length i ((l.take i).map (·.1)) = bnd (pri_Top (l.map (·.1))) fun r0 => bnd (slices_Indexstring_string (l.map (·.1)) r0.1) fun r1 => some r1 := by
  induction d with
  | zero =>
    intro i h1 h2
    rw [tree_top.l0.eq]
    simp only [ltI_d, br_if]
    rw [if_neg (by omega), List.take_of_length_le (by omega)]
  | succ d ih =>
    intro i h1 h2
    have hi : i < l.length := by omega
    rw [tree_top.l0.eq]
    simp only [ltI_d, leI_d, br_if, ofN_d, lenL_d, andB_d, fitL_d, appL_d]
    rw [if_pos (by omega), if_pos (by omega), ixP l i hi, add1 i (by omega)]
    have e : (l.take i).map (·.1) ++ [l[i].1] = (l.take (i + 1)).map (·.1) := by
      rw [List.take_succ_eq_append_getElem hi, List.map_append, List.map_singleton]
    rw [e, if_pos (by rw [List.length_map, List.length_take]; omega)]
    exact ih (i + 1) (by omega) (by omega)
theorem ttop_any (l : List PairV) (hl : l.length ≤ 40000000) (h0 : l ≠ []) (hs : ∀ p ∈ l, okP p) : tree_top l = some ((topI l : Nat) : Int) := by
  rw [tree_top.eq]
  have := ttop_loop l hl l.length 0 (by omega) (by omega)
  rw [List.take_zero, List.map_nil, show ((0 : Nat) : Int) = 0 from rfl] at this
  simp only [ofN_d, lenL_d]
  rw [this]
  exact ttop_fin l hl h0 hs
theorem subL_pre (l : List PairV) (i : Nat) : subL tapiPair l (toN 0) (toN (i : Int)) = l.take i := by
  rw [toN_d, show toN 0 = 0 from rfl]; exact subL0 _ _ _
theorem subL_suf (l : List PairV) (i : Nat) : subL tapiPair l (toN (i : Int)) (toN (ofN (lenL tapiPair l))) = l.drop i := by
  rw [toN_d, ofN_d, toN_d]
  unfold subL lenL
  exact List.take_of_length_le (by rw [List.length_drop]; omega)
theorem app1_len {A : Type} (l : List A) (x : A) : (l ++ [x]).length = l.length + 1 := by simp
theorem tnodes_any : ∀ (n : Nat) (h : List NodeV) (l : List PairV), l.length ≤ n → h.length + l.length ≤ 40000000 → (∀ p ∈ l, okP p) → tree_nodes_1 l ((), ((), ())) h = some ((nodesS h l).2, (((), ((), ())), ((), ((nodesS h l).1, ())))) := by
  intro n
  induction n with
  | zero =>
    intro h l hn hb hs
    have : l = [] := List.eq_nil_of_length_eq_zero (by omega)
    subst this
    rw [tree_nodes_1.eq, nodesS_nil]
    rfl
  | succ n ih =>
    intro h l hn hb hs
    by_cases hl : l = []
    · subst hl
      rw [tree_nodes_1.eq, nodesS_nil]
      rfl
    have ht := topI_lt hl
    have hlen : (l.take (topI l)).length = topI l := by rw [List.length_take]; omega
    have ia := ih h (l.take (topI l)) (by omega) (by omega) (fun p hp => hs p (List.mem_of_mem_take hp))
    have la := nodesS_len _ h (l.take (topI l)) (Nat.le_refl _)
    have hlen2 : (l.drop (topI l + 1)).length = l.length - (topI l + 1) := List.length_drop ..
    have ib := ih (nodesS h (l.take (topI l))).1 (l.drop (topI l + 1)) (by omega) (by omega) (fun p hp => hs p (List.mem_of_mem_drop hp))
    have lb := nodesS_len _ (nodesS h (l.take (topI l))).1 (l.drop (topI l + 1)) (Nat.le_refl _)
    rw [tree_nodes_1.eq, ttop_any l (by omega) hl hs, bnd_some]
    simp only [both_self]
    rw [add1 (topI l) (by omega), subL_pre, subL_suf, ia, bnd_some, ib, bnd_some]
    have hpos : 0 < l.length := List.length_pos_iff.2 hl
    simp only [ltI_d, leI_d, eqI_d, br_if, ofN_d, lenL_d, andB_d]
    rw [if_neg (by omega), if_pos (by omega), if_pos (by omega), tree_nodes_1.j0.eq]
    simp only [ltI_d, leI_d, eqI_d, br_if, ofN_d, lenL_d, andB_d]
    rw [if_pos (by omega), if_pos (by omega), ixP l _ ht, node_Tree.eq, bnd_some, nodesS_cons h hl, pairAt_get l _ ht]
    simp only [fitL_d, appL_d, br_if]
    have e : ∀ (A : List NodeV) (x : NodeV), ((A ++ [x]).length : Int) = (A.length : Int) + 1 := fun A x => by rw [app1_len]; omega
    rw [if_pos (by rw [app1_len]; omega)]
    show some ((((nodesS (nodesS h (l.take (topI l))).1 (l.drop (topI l + 1))).1 ++ [_]).length : Int), _) = _
    rw [e]
    rfl
theorem Nodes_any (l : List PairV) (hb : l.length ≤ 40000000) (hs : ∀ p ∈ l, okP p) : tree_nodes l = some ((nodesS [] l).1, ((nodesS [] l).2, ())) := by
  rw [tree_nodes.eq, tnodes_any _ [] l (Nat.le_refl _) (by show 0 + _ ≤ _; omega) hs, bnd_some]
theorem rtop_loop (l : List PairV) (h : List NodeV) (hl : l.length ≤ 40000000) (hs : ∀ p ∈ l, okP p) (d : Nat) : ∀ (i t : Nat), t < i → i + d = l.length → ref25_make1.l0 l t i h = ref25_make1.l0 l (topA l d i t : Nat) (l.length : Int) h := by
  induction d with
  | zero =>
    intro i t h1 h2
    rw [topA, show i = l.length by omega]
  | succ d ih =>
    intro i t h1 h2
    have hi : i < l.length := by omega
    have htl : t < l.length := by omega
    have hx := hs _ (List.getElem_mem hi)
    have hy := hs _ (List.getElem_mem htl)
    rw [ref25_make1.l0.eq]
    simp only [ltI_d, leI_d, eqI_d, br_if, ofN_d, lenL_d, andB_d]
    rw [if_pos (by omega), if_pos (by omega), if_pos (by omega), ixP l i hi, ixP l t htl, refabove_any _ _ (by have := hx.1; omega) (by have := hy.1; omega), bnd_some, add1 i (by omega), br_b, topA, keyAt_get l i hi, keyAt_get l t htl]
    by_cases hc : above l[i].1 l[t].1 = true
    · rw [if_pos hc, if_pos hc]
      exact ih (i + 1) i (by omega) (by omega)
    · rw [if_neg hc, if_neg hc]
      exact ih (i + 1) t (by omega) (by omega)
theorem rnodes_any : ∀ (n : Nat) (h : List NodeV) (l : List PairV), l.length ≤ n → h.length + l.length ≤ 40000000 → (∀ p ∈ l, okP p) → ref25_make1 l h = some (((), ((nodesS h l).2, ())), ((nodesS h l).1, ())) := by
  intro n
  induction n with
  | zero =>
    intro h l hn hb hs
    have : l = [] := List.eq_nil_of_length_eq_zero (by omega)
    subst this
    rw [ref25_make1.eq, nodesS_nil]
    rfl
  | succ n ih =>
    intro h l hn hb hs
    by_cases hl : l = []
    · subst hl
      rw [ref25_make1.eq, nodesS_nil]
      rfl
    have ht := topI_lt hl
    have hlen : (l.take (topI l)).length = topI l := by rw [List.length_take]; omega
    have ia := ih h (l.take (topI l)) (by omega) (by omega) (fun p hp => hs p (List.mem_of_mem_take hp))
    have la := nodesS_len _ h (l.take (topI l)) (Nat.le_refl _)
    have hlen2 : (l.drop (topI l + 1)).length = l.length - (topI l + 1) := List.length_drop ..
    have ib := ih (nodesS h (l.take (topI l))).1 (l.drop (topI l + 1)) (by omega) (by omega) (fun p hp => hs p (List.mem_of_mem_drop hp))
    have lb := nodesS_len _ (nodesS h (l.take (topI l))).1 (l.drop (topI l + 1)) (Nat.le_refl _)
    have hpos : 0 < l.length := List.length_pos_iff.2 hl
    have hloop := rtop_loop l h (by omega) hs (l.length - 1) 1 0 (by omega) (by omega)
    rw [ref25_make1.eq]
    simp only [eqI_d, br_if, ofN_d, lenL_d]
    rw [if_neg (by omega)]
    refine hloop.trans ?_
    show ref25_make1.l0 l ((topI l : Nat) : Int) (l.length : Int) h = _
    rw [ref25_make1.l0.eq]
    simp only [ltI_d, leI_d, eqI_d, br_if, ofN_d, lenL_d, andB_d]
    have e1 := subL_pre l (topI l)
    have e2 := subL_suf l (topI l + 1)
    simp only [ofN_d, lenL_d] at e2
    rw [if_neg (by omega), if_pos (by omega), add1 (topI l) (by omega), e1, ia, bnd_some, if_pos (by omega), e2, ib, bnd_some, if_pos (by omega), if_pos (by omega), ixP l _ ht, nodesS_cons h hl, pairAt_get l _ ht]
    simp only [fitL_d, appL_d, br_if]
    have e : ∀ (A : List NodeV) (x : NodeV), ((A ++ [x]).length : Int) = (A.length : Int) + 1 := fun A x => by rw [app1_len]; omega
    rw [if_pos (by rw [app1_len]; omega), e]
    rfl
theorem refMake_any (l : List PairV) (hb : l.length ≤ 40000000) (hs : ∀ p ∈ l, okP p) : ref25_Make l = some ((nodesS [] (makeS l)).1, ((nodesS [] (makeS l)).2, ())) := by
  have := makeS_len l
  rw [ref25_Make.eq, refmake_any l hb hs, bnd_some, rnodes_any _ [] (makeS l) (Nat.le_refl _) (by show 0 + _ ≤ _; omega) (fun p hp => hs p (makeS_mem hp)), bnd_some]
/-! ### Texts that are short enough -/
def isShort (p : PairV) : Bool := !longP p
theorem longP_ok {p : PairV} : longP p = false ↔ okB p := by
  unfold longP okB
  simp only [Bool.or_eq_false_iff, decide_eq_false_iff_not]
  omega
theorem long_loop (l : List PairV) (hl : l.length ≤ 40000000) (d : Nat) : ∀ (i : Nat), i ≤ l.length → l.length - i = d → ref20_Long.l0 l i = some ((l.drop i).any longP) := by
  induction d with
  | zero =>
    intro i h1 h2
    rw [ref20_Long.l0.eq]
    simp only [ltI_d, ofN_d, lenL_d, br_if]
    rw [if_neg (by omega), List.drop_eq_nil_of_le (by omega)]
    rfl
  | succ d ih =>
    intro i h1 h2
    have hi : i < l.length := by omega
    rw [ref20_Long.l0.eq]
    simp only [ltI_d, leI_d, ofN_d, lenL_d, lenS_d, andB_d, br_if]
    have hin : 0 ≤ (i : Int) ∧ (i : Int) < (l.length : Int) := ⟨by omega, by omega⟩
    rw [if_pos (by omega), if_pos hin, ixP l i hi, add1 i (by omega), ih (i + 1) (by omega) (by omega), List.drop_eq_getElem_cons hi, List.any_cons]
    have el : longP l[i] = (decide (16 < l[i].1.size) || decide (16 < l[i].2.1.size)) := rfl
    rw [el]
    by_cases c1 : 16 < l[i].1.size
    · rw [if_pos (by omega), decide_eq_true c1, Bool.true_or, Bool.true_or]
    · rw [if_neg (by omega), if_pos hin, decide_eq_false c1, Bool.false_or]
      by_cases c2 : 16 < l[i].2.1.size
      · rw [if_pos (by omega), decide_eq_true c2, Bool.true_or]
      · rw [if_neg (by omega), decide_eq_false c2, Bool.false_or]
def longAny (l : List PairV) : Bool := (makeS l).any longP
theorem Long_any (l : List PairV) (hb : l.length ≤ 40000000) (hs : ∀ p ∈ l, okP p) : ref20_Long l = some (longAny l) := by
  have := makeS_len l
  rw [ref20_Long.eq, refmake_any l hb hs, bnd_some]
  have := long_loop (makeS l) (by omega) (makeS l).length 0 (by omega) (by omega)
  rw [List.drop_zero, show ((0 : Nat) : Int) = 0 from rfl] at this
  exact this
theorem longAny_false {l : List PairV} (h : longAny l = false) : ∀ p ∈ makeS l, okB p := by
  intro p hp
  refine longP_ok.1 ?_
  unfold longAny at h
  rw [List.any_eq_false] at h
  exact Bool.eq_false_iff.2 (h p hp)
def leafN (p : PairV) : NodeV := (1, (p.1, (p.2.1, (0, ([], (0, ([], (1, (0, ())))))))))
theorem leaf_may {p : PairV} (hp : okP p) : mayS (leafN p) = if longP p = true then 6 else 0 := by
  unfold mayS
  rw [if_neg (by show ¬ (1 : Int) < 1; omega), if_neg (by show ¬ (6 : Int) < 1; omega)]
  have hl : longN (leafN p) = longP p := by
    show (longP p || false) = _
    rw [Bool.or_false]
  rw [hl]
  by_cases h : longP p = true
  · rw [if_pos h, if_pos h]
  · rw [if_neg h, if_neg h, if_pos]
    refine ⟨Int.le_refl _, ?_⟩
    rw [if_pos (show (leafN p).1 = 1 ∨ (leafN p).1 = 6 from .inl rfl)]
    exact ⟨rfl, fun q => (by cases q), fun _ => ⟨rfl, rfl⟩, fun _ => rfl, fun _ => rfl⟩
theorem leaf_okN {p : PairV} (hp : okP p) : okN (leafN p) := ⟨hp.1, hp.2, by show (0 : Int) ≤ 0; omega, by show (0 : Int) < 4294967296; omega, by show 0 ≤ _; omega, by show 0 ≤ _; omega, fun q hq => (by cases hq)⟩
theorem tmake_loop (l : List PairV) (hl : l.length ≤ 40000000) (hs : ∀ p ∈ l, okP p) (d : Nat) : ∀ (i : Nat), i ≤ l.length → l.length - i = d → tree_Make.l0 l l l.length i = if (l.drop i).any longP = true then some ([], (0, (6, ()))) else some ((nodesS [] l).1, ((nodesS [] l).2, (0, ()))) := by
  induction d with
  | zero =>
    intro i h1 h2
    rw [tree_Make.l0.eq, Nodes_any l hl hs, bnd_some]
    simp only [ltI_d, ofN_d, lenL_d, br_if]
    rw [if_neg (by omega), List.drop_eq_nil_of_le (by omega), List.any_nil, if_neg (by simp)]
  | succ d ih =>
    intro i h1 h2
    have hi : i < l.length := by omega
    have hp := hs _ (List.getElem_mem hi)
    rw [tree_Make.l0.eq]
    simp only [ltI_d, leI_d, ofN_d, lenL_d, eqI_d, notB_d, andB_d, br_if]
    rw [if_pos (by omega), if_pos (by omega), ixP l i hi, node_Leaf.eq, bnd_some]
    have hmay := may_any (leafN l[i]) (leaf_okN hp)
    rw [leaf_may hp] at hmay
    rw [show node_May (1, l[i].1, l[i].2.1, 0, [], 0, [], 1, 0, ()) = _ from hmay, bnd_some, add1 i (by omega), ih (i + 1) (by omega) (by omega), List.drop_eq_getElem_cons hi, List.any_cons]
    by_cases c : longP l[i] = true
    · rw [if_pos c, if_pos (by omega), c, Bool.true_or, if_pos rfl]
    · rw [if_neg c, if_neg (by omega), Bool.eq_false_iff.2 c, Bool.false_or]
theorem tMake_any (l : List PairV) (hb : l.length ≤ 40000000) (hs : ∀ p ∈ l, okP p) : tree_Make l = if longAny l = true then some ([], (0, (6, ()))) else some ((nodesS [] (makeS l)).1, ((nodesS [] (makeS l)).2, (0, ()))) := by
  have := makeS_len l
  rw [tree_Make.eq, make_any l hb hs, bnd_some]
  have := tmake_loop (makeS l) (by omega) (fun p hp => hs p (makeS_mem hp)) (makeS l).length 0 (by omega) (by omega)
  rw [List.drop_zero, show ((0 : Nat) : Int) = 0 from rfl] at this
  exact this
/-! ### Whether a reference is a tree's -/
theorem binds_short {h : List NodeV} (hm : mayH h = true) : ∀ (n : Nat) (r : Int), 0 ≤ r → r ≤ n → r ≤ h.length → ∀ p ∈ bindsT (U h r), okB p := by
  have own : ∀ r : Int, 1 ≤ r → r ≤ h.length → ∀ p ∈ bindsS (getN h r), okB p := by
    intro r h1 h2 p hp
    obtain ⟨_, _, hl, _⟩ := mayS_zero (may_node hm h1 h2).1
    unfold longN at hl
    rw [Bool.or_eq_false_iff] at hl
    unfold bindsS at hp
    split at hp
    · rw [List.mem_singleton] at hp
      subst hp
      exact longP_ok.1 hl.1
    · split at hp
      · have := hl.2
        rw [List.any_eq_false] at this
        exact longP_ok.1 (Bool.eq_false_iff.2 (this p hp))
      · cases hp
  intro n
  induction n with
  | zero =>
    intro r h0 h1 h2 p hp
    have : r = 0 := by omega
    subst this
    rw [U_zero, bindsT_nil] at hp
    cases hp
  | succ n ih =>
    intro r h0 h1 h2 p hp
    by_cases e : r = 0
    · subst e; rw [U_zero, bindsT_nil] at hp; cases hp
    by_cases h4 : (getN h r).1 = 4
    · obtain ⟨a, b, _, _, k3, k4, k5⟩ := bindsU_tree hm (by omega) h2 h4
      rw [k5] at hp
      rcases List.mem_append.1 hp with hp | hp
      · rcases List.mem_append.1 hp with hp | hp
        · exact ih a (by omega) (by omega) (by omega) p hp
        · exact own r (by omega) h2 p hp
      · exact ih b (by omega) (by omega) (by omega) p hp
    · rw [bindsU_refs hm (by omega) h2 h4] at hp
      rcases List.mem_append.1 hp with hp | hp
      · exact own r (by omega) h2 p hp
      · obtain ⟨l, hl, hp⟩ := List.mem_flatten.1 hp
        obtain ⟨x, hx, rfl⟩ := List.mem_map.1 hl
        rw [refsS_all] at hx
        have := (may_node hm (by omega) h2).2 x (List.mem_filter.1 hx).1
        exact ih x (by omega) (by omega) (by omega) p hp
noncomputable def isTreeS (h : List NodeV) (r : Int) : Bool := fitH h r && (isS (bindsT (U h r)) && eqSh (U h r) (treeT (bindsT (U h r))))
theorem hBinds_any {h : List NodeV} (ho : okH h) (r : Int) (hb : fitH h r = true → (bindsT (U h r)).length ≤ 1000000000) : heap_Binds h r = some (if fitH h r = true then (bindsT (U h r), (0, ())) else ([], (4, ()))) := by
  rw [heap_Binds.eq, hmay_any h ho, bnd_some]
  simp only [eqI_d, notB_d, br_if]
  by_cases hf : fitH h r = true
  · obtain ⟨⟨a, b⟩, c⟩ := fitH_iff.1 hf
    rw [if_pos hf, if_pos hf, if_neg (by omega), hbinds_any ho c r.toNat r a (by omega) b (hb hf), bnd_some]
  · rw [if_neg hf, if_neg hf, if_pos (by omega)]
theorem Is_any {h : List NodeV} (ho : okH h) (r : Int) (hb : fitH h r = true → (bindsT (U h r)).length ≤ 40000000) : tree_Is h r = some (isTreeS h r) := by
  rw [tree_Is.eq, hBinds_any ho r (fun hf => by have := hb hf; omega), bnd_some]
  unfold isTreeS
  by_cases hf : fitH h r = true
  · obtain ⟨⟨a, b⟩, c⟩ := fitH_iff.1 hf
    have hl := hb hf
    have hs := binds_short c r.toNat r a (by omega) b
    have ht := nodesS_ok _ [] (bindsT (U h r)) (Nat.le_refl _) rfl hs
    have hg := nodes_okH hl hs
    have hfg : fitH (nodesS [] (bindsT (U h r))).1 (nodesS [] (bindsT (U h r))).2 = true := fitH_iff.2 ⟨⟨ht.r0, ht.r1⟩, ht.may⟩
    rw [if_pos hf, eqI_d, decide_eq_true rfl, show notB true = false from rfl, br_f, is_any _ (by omega) (fun p hp => (hs p hp).ok), bnd_some, hf, Bool.true_and]
    cases hi : isS (bindsT (U h r)) with
    | false => rw [show notB false = true from rfl, br_t, Bool.false_and]
    | true => rw [show notB true = false from rfl, br_f, Bool.true_and, Nodes_any _ hl (fun p hp => (hs p hp).ok), bnd_some, hSame_any _ _ ho hg, bnd_some, hf, hfg, Bool.true_and, Bool.true_and, ht.shp]
  · rw [if_neg hf, eqI_d, decide_eq_false (by show ¬ (4 : Int) = 0; omega), show notB false = true from rfl, br_t, Bool.eq_false_iff.2 hf, Bool.false_and]
theorem isTree_make (l : List PairV) (s : Shp) (hs : bindsT s = l) : (isS l && eqSh s (treeT l)) = eqSh s (treeT (makeS l)) := by
  cases hi : isS l with
  | true => rw [Bool.true_and, makeS_srt (isS_srt hi)]
  | false =>
    rw [Bool.false_and]
    refine (eqSh_not ?_).symm
    intro e
    rw [e, bindsT_treeT] at hs
    rw [← hs, srt_isS (makeS_Srt l)] at hi
    cases hi
theorem refIs_any {h : List NodeV} (ho : okH h) (r : Int) (hb : fitH h r = true → (bindsT (U h r)).length ≤ 40000000) : ref25_Is h r = some (isTreeS h r) := by
  rw [ref25_Is.eq, fits_any h ho, bnd_some]
  unfold isTreeS
  cases hf : fitH h r with
  | false => rw [show notB false = true from rfl, br_t, Bool.false_and]
  | true =>
    obtain ⟨⟨a, b⟩, c⟩ := fitH_iff.1 hf
    have hl := hb hf
    have hs := binds_short c r.toNat r a (by omega) b
    have hm := makeS_len (bindsT (U h r))
    have hs' : ∀ p ∈ makeS (bindsT (U h r)), okB p := fun p hp => hs p (makeS_mem hp)
    have ht := nodesS_ok _ [] (makeS (bindsT (U h r))) (Nat.le_refl _) rfl hs'
    have hg := nodes_okH (by omega) hs'
    have hfg : fitH (nodesS [] (makeS (bindsT (U h r)))).1 (nodesS [] (makeS (bindsT (U h r)))).2 = true := fitH_iff.2 ⟨⟨ht.r0, ht.r1⟩, ht.may⟩
    rw [show notB true = false from rfl, br_f, Bool.true_and, refhbinds_any ho c r.toNat r a (by omega) b (by omega), bnd_some, refMake_any _ hl (fun p hp => (hs p hp).ok), bnd_some, refSame_any _ _ ho hg, bnd_some, hf, hfg, Bool.true_and, Bool.true_and, ht.shp, isTree_make _ _ rfl]
end Go.Proofs.Ytimgaglpempfeaa.AA
set_option linter.unusedVariables false
set_option linter.unusedSimpArgs false
namespace Go.Proofs.Ytimgaglpempfeaa.AA
open Go.Abs
noncomputable def depS (l : List PairV) : Nat :=
  if hl : l = [] then 0 else
    have := topI_lt hl
    1 + max (depS (l.take (topI l))) (depS (l.drop (topI l + 1)))
termination_by l.length
decreasing_by
  · rw [List.length_take]; omega
  · rw [List.length_drop]; omega
theorem depS_nil : depS [] = 0 := by rw [depS, dif_pos rfl]
theorem depS_cons {l : List PairV} (hl : l ≠ []) : depS l = 1 + max (depS (l.take (topI l))) (depS (l.drop (topI l + 1))) := by rw [depS, dif_neg hl]
theorem depS_le : ∀ (n : Nat) (l : List PairV), l.length ≤ n → depS l ≤ l.length
  | n, l, hn => by
    by_cases hl : l = []
    · subst hl; rw [depS_nil]; exact Nat.zero_le _
    have ht := topI_lt hl
    cases n with
    | zero => exact absurd (List.eq_nil_of_length_eq_zero (by omega)) hl
    | succ n =>
      have h1 := depS_le n (l.take (topI l)) (by rw [List.length_take]; omega)
      have h2 := depS_le n (l.drop (topI l + 1)) (by rw [List.length_drop]; omega)
      rw [List.length_take] at h1
      rw [List.length_drop] at h2
      rw [depS_cons hl]
      omega
theorem Srt_take {l : List PairV} (h : Srt l) (i : Nat) : Srt (l.take i) := List.Pairwise.sublist (List.take_sublist i l) h
theorem Srt_drop {l : List PairV} (h : Srt l) (i : Nat) : Srt (l.drop i) := List.Pairwise.sublist (List.drop_sublist i l) h
theorem tdep_any : ∀ (n : Nat) (l : List PairV), l.length ≤ n → l.length ≤ 40000000 → Srt l → (∀ p ∈ l, okP p) → tree_Depth l = some ((depS l : Nat) : Int) := by
  intro n
  induction n with
  | zero =>
    intro l hn hb hS hs
    have : l = [] := List.eq_nil_of_length_eq_zero (by omega)
    subst this
    rw [tree_Depth.eq, make_any [] hb hs, bnd_some, depS_nil]
    rfl
  | succ n ih =>
    intro l hn hb hS hs
    rw [tree_Depth.eq, make_any l hb hs, bnd_some, makeS_srt hS]
    by_cases hl : l = []
    · subst hl; rw [depS_nil]; rfl
    have ht := topI_lt hl
    have hpos : 0 < l.length := List.length_pos_iff.2 hl
    have h1 : (l.take (topI l)).length = topI l := by rw [List.length_take]; omega
    have h2 : (l.drop (topI l + 1)).length = l.length - (topI l + 1) := List.length_drop ..
    have d1 := depS_le _ (l.take (topI l)) (Nat.le_refl _)
    have d2 := depS_le _ (l.drop (topI l + 1)) (Nat.le_refl _)
    rw [ttop_any l hb hl hs, bnd_some, add1 (topI l) (by omega), subL_pre, subL_suf, ih _ (by omega) (by omega) (Srt_take hS _) (fun p hp => hs p (List.mem_of_mem_take hp)), bnd_some, ih _ (by omega) (by omega) (Srt_drop hS _) (fun p hp => hs p (List.mem_of_mem_drop hp)), bnd_some]
    simp only [ltI_d, leI_d, eqI_d, br_if, ofN_d, lenL_d, andB_d, maxI_d]
    rw [if_neg (by omega), if_pos (by omega), if_pos (by omega), depS_cons hl, addI_d (by omega) (by omega)]
    exact some_int (by omega)
theorem tDepth_any (l : List PairV) (hb : l.length ≤ 40000000) (hs : ∀ p ∈ l, okP p) : tree_Depth l = some ((depS (makeS l) : Nat) : Int) := by
  have hm := makeS_len l
  have h1 := tdep_any _ (makeS l) (Nat.le_refl _) (by omega) (makeS_Srt l) (fun p hp => hs p (makeS_mem hp))
  rw [← h1, tree_Depth.eq, make_any l hb hs, bnd_some, tree_Depth.eq, make_any (makeS l) (by omega) (fun p hp => hs p (makeS_mem hp)), bnd_some, makeS_srt (makeS_Srt l)]
theorem isTree_nodes {l : List PairV} (hb : l.length ≤ 40000000) (hS : Srt l) (hs : ∀ p ∈ l, okB p) : isTreeS (nodesS [] l).1 (nodesS [] l).2 = true := by
  have ht := nodesS_ok _ [] l (Nat.le_refl _) rfl hs
  have hfg : fitH (nodesS [] l).1 (nodesS [] l).2 = true := fitH_iff.2 ⟨⟨ht.r0, ht.r1⟩, ht.may⟩
  unfold isTreeS
  rw [hfg, ht.shp, bindsT_treeT, srt_isS hS, Bool.true_and, Bool.true_and]
  exact eqSh_iff.2 rfl
theorem nodes_one (p : PairV) : nodesS [] [p] = ([treeN p 0 0 1], 1) := by
  have e : topI [p] = 0 := by have := topI_lt (l := [p]) (by simp); simpa using this
  have e1 : ([p] : List PairV).take 0 = [] := rfl
  have e2 : ([p] : List PairV).drop (0 + 1) = [] := rfl
  rw [nodesS_cons [] (by simp), e, e1, e2, nodesS_nil]
  dsimp only
  rw [nodesS_nil]
  rfl
theorem works25 : law25_works = some true := by
  have hp : okP (ByteArray.mk #[97], (ByteArray.mk #[49], ())) := ⟨by show 1 ≤ 40; omega, by show 1 ≤ 40; omega⟩
  have hb : okB (ByteArray.mk #[97], (ByteArray.mk #[49], ())) := ⟨by show 1 ≤ 16; omega, by show 1 ≤ 16; omega⟩
  have hl : ∀ p ∈ ([(ByteArray.mk #[97], (ByteArray.mk #[49], ()))] : List PairV), okP p := fun p h => by rw [List.mem_singleton.1 h]; exact hp
  have hlb : ∀ p ∈ ([(ByteArray.mk #[97], (ByteArray.mk #[49], ()))] : List PairV), okB p := fun p h => by rw [List.mem_singleton.1 h]; exact hb
  have hl2 : ∀ p ∈ ([(ByteArray.mk #[97], (ByteArray.empty, ()))] : List PairV), okP p := fun p h => by rw [List.mem_singleton.1 h]; exact ⟨by show 1 ≤ 40; omega, by show 0 ≤ 40; omega⟩
  have hs1 : Srt ([(ByteArray.mk #[97], (ByteArray.mk #[49], ()))] : List PairV) := List.pairwise_singleton _ _
  have hs2 : Srt ([(ByteArray.mk #[97], (ByteArray.empty, ()))] : List PairV) := List.pairwise_singleton _ _
  have m1 := makeS_srt hs1
  have m2 := makeS_srt hs2
  have lg : longAny [(ByteArray.mk #[97], (ByteArray.mk #[49], ()))] = false := by
    unfold longAny
    rw [m1, List.any_cons, List.any_nil, longP_ok.2 hb]; rfl
  have hmk := tMake_any _ (by show 1 ≤ _; omega) hl
  rw [lg, if_neg (by simp), m1] at hmk
  have hgo := nodes_okH (l := [(ByteArray.mk #[97], (ByteArray.mk #[49], ()))]) (by show 1 ≤ _; omega) hlb
  have hi := isTree_nodes (l := [(ByteArray.mk #[97], (ByteArray.mk #[49], ()))]) (by show 1 ≤ _; omega) hs1 hlb
  have hIs := Is_any hgo (nodesS [] [(ByteArray.mk #[97], (ByteArray.mk #[49], ()))]).2 (fun hf => by
    have ht := nodesS_ok _ [] [(ByteArray.mk #[97], (ByteArray.mk #[49], ()))] (Nat.le_refl _) rfl hlb
    rw [ht.shp, bindsT_treeT]; show 1 ≤ _; omega)
  rw [hi] at hIs
  have hd := tDepth_any _ (by show 1 ≤ _; omega) hl2
  rw [m2] at hd
  have e : topI ([(ByteArray.mk #[97], (ByteArray.empty, ()))] : List PairV) = 0 := by
    have := topI_lt (l := ([(ByteArray.mk #[97], (ByteArray.empty, ()))] : List PairV)) (by simp)
    simpa using this
  have ed : depS ([(ByteArray.mk #[97], (ByteArray.empty, ()))] : List PairV) = 1 := by
    rw [depS_cons (by simp), e]
    show 1 + max (depS []) (depS []) = 1
    rw [depS_nil]; rfl
  rw [ed] at hd
  rw [nodes_one] at hIs hmk
  rw [law25_works.eq, hmk, bnd_some]
  show br true (br true (br true (br true (br true (br true (br true (bnd (tree_Is [treeN (ByteArray.mk #[97], (ByteArray.mk #[49], ())) 0 0 1] 1) fun r1 => br r1 (bnd (tree_Depth [(ByteArray.mk #[97], (ByteArray.empty, ()))]) fun r2 => some (eqI r2 1)) (some false)) (some false)) none) (some false)) none) (some false)) (some false)) (some false) = some true
  rw [br_t, br_t, br_t, br_t, br_t, br_t, br_t, hIs, bnd_some, br_t, hd, bnd_some]
  rfl
end Go.Proofs.Ytimgaglpempfeaa.AA
set_option linter.unusedVariables false
set_option linter.unusedSimpArgs false
namespace Go.Proofs.Ytimgaglpempfeaa.AA
open Go.Abs
abbrev PathV : Type := Int × ByteArray × Int × ByteArray × ByteArray × Bool × Unit
abbrev FoundV : Type := PairV × Bool
def noP : PairV := (ByteArray.empty, (ByteArray.empty, ()))
/-- What a search is answered among bindings in order. -/
def ansS (m : Int) (k : ByteArray) (l : List PairV) : Option PairV :=
  if m = 1 then l.find? (fun p => decide (p.1 = k)) else if m = 2 then l.reverse.find? (fun p => !lt k p.1) else if m = 3 then l.find? (fun p => lt k p.1) else l.head?
def orF (o : Option PairV) (f : FoundV) : FoundV := match o with
  | some p => (p, true)
  | none => f
/-- A search: what is found, and by how many nodes. -/
noncomputable def srchS (m : Int) (k : ByteArray) (l : List PairV) (f : FoundV) : FoundV × Nat :=
  if hl : l = [] then (f, 0) else
    have := topI_lt hl
    let p := pairAt l (topI l)
    let a := fun f => let r := srchS m k (l.take (topI l)) f; (r.1, r.2 + 1)
    let b := fun f => let r := srchS m k (l.drop (topI l + 1)) f; (r.1, r.2 + 1)
    if m = 1 then (if cmp k p.1 = 0 then ((p, true), 1) else if cmp k p.1 < 0 then a f else b f)
    else if m = 2 then (if cmp k p.1 < 0 then a f else b (p, true))
    else if m = 3 then (if 0 ≤ cmp k p.1 then b f else a (p, true))
    else a (p, true)
termination_by l.length
decreasing_by
  · rw [List.length_take]; omega
  · rw [List.length_drop]; omega
theorem srch_nil (m : Int) (k : ByteArray) (f : FoundV) : srchS m k [] f = (f, 0) := by rw [srchS, dif_pos rfl]
theorem srch_cons (m : Int) (k : ByteArray) {l : List PairV} (hl : l ≠ []) (f : FoundV) : srchS m k l f =
    if m = 1 then (if cmp k (pairAt l (topI l)).1 = 0 then ((pairAt l (topI l), true), 1) else if cmp k (pairAt l (topI l)).1 < 0 then ((srchS m k (l.take (topI l)) f).1, (srchS m k (l.take (topI l)) f).2 + 1) else ((srchS m k (l.drop (topI l + 1)) f).1, (srchS m k (l.drop (topI l + 1)) f).2 + 1))
    else if m = 2 then (if cmp k (pairAt l (topI l)).1 < 0 then ((srchS m k (l.take (topI l)) f).1, (srchS m k (l.take (topI l)) f).2 + 1) else ((srchS m k (l.drop (topI l + 1)) (pairAt l (topI l), true)).1, (srchS m k (l.drop (topI l + 1)) (pairAt l (topI l), true)).2 + 1))
    else if m = 3 then (if 0 ≤ cmp k (pairAt l (topI l)).1 then ((srchS m k (l.drop (topI l + 1)) f).1, (srchS m k (l.drop (topI l + 1)) f).2 + 1) else ((srchS m k (l.take (topI l)) (pairAt l (topI l), true)).1, (srchS m k (l.take (topI l)) (pairAt l (topI l), true)).2 + 1))
    else ((srchS m k (l.take (topI l)) (pairAt l (topI l), true)).1, (srchS m k (l.take (topI l)) (pairAt l (topI l), true)).2 + 1) := by
  rw [srchS, dif_neg hl]
theorem srt_mid {A B : List PairV} {p : PairV} (h : Srt (A ++ [p] ++ B)) : (∀ a ∈ A, lt a.1 p.1 = true) ∧ (∀ b ∈ B, lt p.1 b.1 = true) ∧ Srt A ∧ Srt B := by
  obtain ⟨h1, h2, h3⟩ := List.pairwise_append.1 h
  obtain ⟨h4, h5, h6⟩ := List.pairwise_append.1 h1
  exact ⟨fun a ha => h6 a ha p (by simp), fun b hb => h3 p (by simp) b hb, h4, h2⟩
theorem find_none {A : Type} {p : A → Bool} {l : List A} (h : ∀ x ∈ l, p x = false) : l.find? p = none := List.find?_eq_none.2 fun x hx => by rw [h x hx]; simp
theorem cmp_zero {a b : ByteArray} : cmp a b = 0 ↔ a = b := cmp_eq
theorem lt_of_nlt {a b : ByteArray} (h : lt a b = false) (h2 : a ≠ b) : lt b a = true := by
  rcases lt_total h2 with q | q
  · rw [h] at q; cases q
  · exact q
theorem nlt_trans {a b k : ByteArray} (h : lt a b = true) (h2 : lt k b = false) : lt k a = false := by
  cases q : lt k a with
  | false => rfl
  | true => rw [lt_trans q h] at h2; cases h2
theorem srch_ok (m : Int) (k : ByteArray) : ∀ (n : Nat) (l : List PairV) (f : FoundV), l.length ≤ n → Srt l → (srchS m k l f).1 = orF (ansS m k l) f ∧ (srchS m k l f).2 ≤ depS l
  | n, l, f, hn, hS => by
    by_cases hl : l = []
    · subst hl
      rw [srch_nil]
      refine ⟨?_, Nat.zero_le _⟩
      unfold ansS
      split
      · rfl
      · split
        · rfl
        · split <;> rfl
    have ht := topI_lt hl
    cases n with
    | zero => exact absurd (List.eq_nil_of_length_eq_zero (by omega)) hl
    | succ n =>
      have hsp := split_at l _ ht
      have hS' := hS
      rw [← hsp] at hS'
      obtain ⟨ha, hb, SA, SB⟩ := srt_mid hS'
      have IA := fun f => srch_ok m k n (l.take (topI l)) f (by rw [List.length_take]; omega) SA
      have IB := fun f => srch_ok m k n (l.drop (topI l + 1)) f (by rw [List.length_drop]; omega) SB
      have hd := depS_cons hl
      rw [srch_cons m k hl]
      conv => lhs; rhs; rw [← hsp]
      generalize l.take (topI l) = A at *
      generalize l.drop (topI l + 1) = B at *
      generalize pairAt l (topI l) = p at *
      have e1 : A ++ [p] ++ B = A ++ p :: B := by rw [List.append_assoc]; rfl
      by_cases m1 : m = 1
      · rw [if_pos m1]
        have ea : ∀ l, ansS m k l = l.find? (fun p => decide (p.1 = k)) := fun l => by unfold ansS; rw [if_pos m1]
        rw [ea, e1, List.find?_append, List.find?_cons]
        by_cases c0 : cmp k p.1 = 0
        · have ek := cmp_zero.1 c0
          have nA : A.find? (fun p => decide (p.1 = k)) = none := find_none fun x hx => decide_eq_false fun e => by
            have := lt_ne (ha x hx)
            rw [e, ek] at this
            exact this rfl
          rw [if_pos c0, nA, decide_eq_true ek.symm]
          exact ⟨rfl, by omega⟩
        rw [if_neg c0]
        have ne : ¬ p.1 = k := fun e => c0 (cmp_zero.2 e.symm)
        rw [decide_eq_false ne]
        by_cases c1 : cmp k p.1 < 0
        · have hlt := cmp_neg.1 c1
          have nB : B.find? (fun p => decide (p.1 = k)) = none := find_none fun x hx => decide_eq_false fun e => by
            have := lt_trans hlt (hb x hx)
            rw [e, lt_irrefl] at this; cases this
          rw [if_pos c1, nB]
          obtain ⟨i1, i2⟩ := IA f
          refine ⟨?_, by dsimp only; omega⟩
          dsimp only
          rw [i1, ea, Option.or_none]
        · have hlt : lt p.1 k = true := lt_of_nlt (Bool.eq_false_iff.2 fun q => c1 (cmp_neg.2 q)) (fun e => ne e.symm)
          have nA : A.find? (fun p => decide (p.1 = k)) = none := find_none fun x hx => decide_eq_false fun e => by
            have := lt_trans (ha x hx) hlt
            rw [e, lt_irrefl] at this; cases this
          rw [if_neg c1, nA]
          obtain ⟨i1, i2⟩ := IB f
          refine ⟨?_, by dsimp only; omega⟩
          dsimp only
          rw [i1, ea]
          rfl
      rw [if_neg m1]
      by_cases m2 : m = 2
      · rw [if_pos m2]
        have ea : ∀ l, ansS m k l = l.reverse.find? (fun p => !lt k p.1) := fun l => by unfold ansS; rw [if_neg m1, if_pos m2]
        rw [ea, e1, List.reverse_append, List.reverse_cons, List.append_assoc, List.find?_append]
        show (_ = orF ((List.find? _ B.reverse).or (List.find? _ (p :: A.reverse))) f) ∧ _
        rw [List.find?_cons]
        by_cases c1 : cmp k p.1 < 0
        · have hlt := cmp_neg.1 c1
          have nB : B.reverse.find? (fun p => !lt k p.1) = none := find_none fun x hx => by
            have := lt_trans hlt (hb x (List.mem_reverse.1 hx))
            rw [this]; rfl
          rw [if_pos c1, nB, hlt]
          obtain ⟨i1, i2⟩ := IA f
          refine ⟨?_, by dsimp only; omega⟩
          dsimp only
          rw [i1, ea]
          rfl
        · have hlt : lt k p.1 = false := Bool.eq_false_iff.2 fun q => c1 (cmp_neg.2 q)
          rw [if_neg c1, hlt]
          obtain ⟨i1, i2⟩ := IB (p, true)
          refine ⟨?_, by dsimp only; omega⟩
          dsimp only
          rw [i1, ea]
          cases List.find? (fun p => !lt k p.1) B.reverse <;> rfl
      rw [if_neg m2]
      by_cases m3 : m = 3
      · rw [if_pos m3]
        have ea : ∀ l, ansS m k l = l.find? (fun p => lt k p.1) := fun l => by unfold ansS; rw [if_neg m1, if_neg m2, if_pos m3]
        rw [ea, e1, List.find?_append, List.find?_cons]
        by_cases c1 : 0 ≤ cmp k p.1
        · have hlt : lt k p.1 = false := Bool.eq_false_iff.2 fun q => by have := cmp_neg.2 q; omega
          have nA : A.find? (fun p => lt k p.1) = none := find_none fun x hx => nlt_trans (ha x hx) hlt
          rw [if_pos c1, nA, hlt]
          obtain ⟨i1, i2⟩ := IB f
          refine ⟨?_, by dsimp only; omega⟩
          dsimp only
          rw [i1, ea]
          rfl
        · have hlt := cmp_neg.1 (show cmp k p.1 < 0 by omega)
          rw [if_neg c1, hlt]
          obtain ⟨i1, i2⟩ := IA (p, true)
          refine ⟨?_, by dsimp only; omega⟩
          dsimp only
          rw [i1, ea]
          cases List.find? (fun p => lt k p.1) A <;> rfl
      · rw [if_neg m3]
        have ea : ∀ l, ansS m k l = l.head? := fun l => by unfold ansS; rw [if_neg m1, if_neg m2, if_neg m3]
        rw [ea, e1]
        obtain ⟨i1, i2⟩ := IA (p, true)
        refine ⟨?_, by dsimp only; omega⟩
        dsimp only
        rw [i1, ea]
        cases A <;> rfl
/-- A tree's node, in a heap. -/
theorem tree_at {h : List NodeV} (hm : mayH h = true) {r : Int} (h0 : 0 ≤ r) (h2 : r ≤ h.length) {l : List PairV} (hl : l ≠ []) (hu : U h r = treeT l) :
    1 ≤ r ∧ (getN h r).1 = 4 ∧ (getN h r).2.1 = (pairAt l (topI l)).1 ∧ (getN h r).2.2.1 = (pairAt l (topI l)).2.1 ∧ (getN h r).2.2.2.2.2.2.2.1 = (l.length : Int) ∧
    ∃ a b : Int, (getN h r).2.2.2.2.1 = [a, b] ∧ (getN h r).2.2.2.2.2.1 = 0 ∧ 0 ≤ a ∧ a ≤ r - 1 ∧ 0 ≤ b ∧ b ≤ r - 1 ∧ U h a = treeT (l.take (topI l)) ∧ U h b = treeT (l.drop (topI l + 1)) := by
  have h1 : 1 ≤ r := by
    by_cases e : r = 0
    · subst e; rw [U_zero, treeT_cons hl] at hu; cases hu
    · omega
  have hk := may_node hm h1 h2
  rw [U_node hm h1 h2, treeT_cons hl, Shp.node.injEq] at hu
  obtain ⟨e1, e2⟩ := hu
  rw [node_ext] at e1
  obtain ⟨q1, q2, q3, _, _, _, _, q8, _⟩ := e1
  have h4 : (getN h r).1 = 4 := q1
  obtain ⟨_, k2, _, k4, _⟩ := form_tree (mayS_zero hk.1).2.2.2 h4
  refine ⟨h1, h4, q2, q3, q8, ?_⟩
  obtain ⟨a, b, e⟩ : ∃ a b, (getN h r).2.2.2.2.1 = [a, b] := by
    match hk' : (getN h r).2.2.2.2.1, k2 with
    | [a, b], _ => exact ⟨a, b, rfl⟩
  have ea : allK (getN h r) = [a, b, 0] := by unfold allK; rw [e, k4]; rfl
  rw [ea] at e2 hk
  have ka := hk.2 a (by simp)
  have kb := hk.2 b (by simp)
  injection e2 with e3 e4
  injection e4 with e5 _
  exact ⟨a, b, e, k4, by omega, by omega, by omega, by omega, e3, e5⟩
/-- One step of a search. -/
def stepV (m : Int) (k : ByteArray) (x : NodeV) (a b : Int) (f : FoundV) : Int × FoundV :=
  if m = 1 then (if cmp k x.2.1 = 0 then (0, ((x.2.1, (x.2.2.1, ())), true)) else if cmp k x.2.1 < 0 then (a, f) else (b, f))
  else if m = 2 then (if cmp k x.2.1 < 0 then (a, f) else (b, ((x.2.1, (x.2.2.1, ())), true)))
  else if m = 3 then (if 0 ≤ cmp k x.2.1 then (b, f) else (a, ((x.2.1, (x.2.2.1, ())), true)))
  else (a, ((x.2.1, (x.2.2.1, ())), true))
def pv (m : Int) (k : ByteArray) (w : Int) (f : FoundV) : PathV := (m, (k, (w, (f.1.1, (f.1.2.1, (f.2, ()))))))
theorem feed_any (m : Int) (hm : 1 ≤ m ∧ m ≤ 4) (k : ByteArray) (hk : k.size ≤ 1000000) (w : Int) (hw : w ≠ 0) (f : FoundV) (x : NodeV) (h4 : x.1 = 4) (a b : Int) (hab : x.2.2.2.2.1 = [a, b]) :
    path_Path_Feed x (pv m k w f) = some ((), (pv m k (stepV m k x a b f).1 (stepV m k x a b f).2, ())) := by
  rw [path_Path_Feed.eq, path_Path_Want.eq, bnd_some]
  unfold pv stepV
  simp only [eqI_d, notB_d, br_if]
  rw [if_neg hw, if_neg (fun q => q h4), hab]
  have hl : ofN (lenL (.int .i64) [a, b]) = 2 := rfl
  rw [hl, show decide (¬ (2 : Int) = 2) = false from rfl, path_Path_Feed.j0.eq, br_f, hab, (in01 [a, b] a b rfl).1, br_t, (in01 [a, b] a b rfl).2, br_t, (ix0 [a, b] a b rfl).1, (ix0 [a, b] a b rfl).2, compare_any k x.2.1 (by omega), bnd_some, path_Path_note.eq]
  simp only [eqI_d, ltI_d, leI_d, br_if, bnd_some]
  by_cases m1 : m = 1
  · rw [if_pos m1, if_pos m1]
    by_cases c0 : cmp k x.2.1 = 0
    · rw [if_pos c0, if_pos c0]
    rw [if_neg c0, if_neg c0]
    by_cases c1 : cmp k x.2.1 < 0
    · rw [if_pos c1, if_pos c1]
    · rw [if_neg c1, if_neg c1]
  rw [if_neg m1, if_neg m1]
  by_cases m2 : m = 2
  · rw [if_pos m2, if_pos m2]
    by_cases c1 : cmp k x.2.1 < 0
    · rw [if_pos c1, if_pos c1]
    · rw [if_neg c1, if_neg c1]
  rw [if_neg m2, if_neg m2]
  by_cases m3 : m = 3
  · rw [if_pos m3, if_pos m3]
    by_cases c1 : 0 ≤ cmp k x.2.1
    · rw [if_pos c1, if_pos c1]
    · rw [if_neg c1, if_neg c1]
  rw [if_neg m3, if_neg m3, if_pos (show m = 4 by omega)]
theorem feed_none (m : Int) (k : ByteArray) (f : FoundV) (x : NodeV) : path_Path_Feed x (pv m k 0 f) = some ((), (pv m k 0 f, ())) := by
  rw [path_Path_Feed.eq, path_Path_Want.eq, bnd_some]
  unfold pv
  simp only [eqI_d, br_if]
  rw [if_pos trivial]
theorem answer_any (m : Int) (k : ByteArray) (f : FoundV) : path_Path_Answer (pv m k 0 f) = some ((f.1, (f.2, ())), (pv m k 0 f, ())) := by
  rw [path_Path_Answer.eq]
  unfold pv
  simp only [eqI_d, notB_d, br_if, both_self]
  rw [if_neg (by simp)]
theorem answer_none (m : Int) (k : ByteArray) (w : Int) (hw : w ≠ 0) (f : FoundV) : path_Path_Answer (pv m k w f) = some ((noP, (false, ())), (pv m k w f, ())) := by
  rw [path_Path_Answer.eq]
  unfold pv
  simp only [eqI_d, notB_d, br_if, both_self]
  rw [if_pos hw]
  rfl
/-- A step of a search in a tree's node goes on with a tree. -/
theorem step_tree {h : List NodeV} (hm : mayH h = true) {r : Int} (h0 : 0 ≤ r) (h2 : r ≤ h.length) {l : List PairV} (hl : l ≠ []) (hu : U h r = treeT l) (m : Int) (k : ByteArray) (f : FoundV) :
    1 ≤ r ∧ (getN h r).1 = 4 ∧ ∃ a b : Int, (getN h r).2.2.2.2.1 = [a, b] ∧ ∃ l', U h (stepV m k (getN h r) a b f).1 = treeT l' ∧ 0 ≤ (stepV m k (getN h r) a b f).1 ∧ (stepV m k (getN h r) a b f).1 ≤ r - 1 ∧ l'.length < l.length ∧ depS l' + 1 ≤ depS l ∧
      srchS m k l f = ((srchS m k l' (stepV m k (getN h r) a b f).2).1, (srchS m k l' (stepV m k (getN h r) a b f).2).2 + 1) := by
  obtain ⟨h1, h4, e1, e2, _, a, b, hab, _, a0, a1, b0, b1, ua, ub⟩ := tree_at hm h0 h2 hl hu
  refine ⟨h1, h4, a, b, hab, ?_⟩
  have ht := topI_lt hl
  have hA : (l.take (topI l)).length < l.length := by rw [List.length_take]; omega
  have hB : (l.drop (topI l + 1)).length < l.length := by rw [List.length_drop]; omega
  have hd := depS_cons hl
  have hdA : depS (l.take (topI l)) + 1 ≤ depS l := by omega
  have hdB : depS (l.drop (topI l + 1)) + 1 ≤ depS l := by omega
  have hpos : 0 < l.length := List.length_pos_iff.2 hl
  have ep : ((getN h r).2.1, ((getN h r).2.2.1, ())) = pairAt l (topI l) := by rw [e1, e2]
  rw [srch_cons m k hl]
  unfold stepV
  rw [ep, e1]
  by_cases m1 : m = 1
  · simp only [if_pos m1]
    by_cases c0 : cmp k (pairAt l (topI l)).1 = 0
    · simp only [if_pos c0]
      exact ⟨[], by rw [U_zero, treeT_nil], by omega, by omega, by show 0 < _; omega, by rw [depS_nil]; omega, by rw [srch_nil]⟩
    simp only [if_neg c0]
    by_cases c1 : cmp k (pairAt l (topI l)).1 < 0
    · simp only [if_pos c1]
      exact ⟨_, ua, a0, a1, hA, hdA, rfl⟩
    · simp only [if_neg c1]
      exact ⟨_, ub, b0, b1, hB, hdB, rfl⟩
  simp only [if_neg m1]
  by_cases m2 : m = 2
  · simp only [if_pos m2]
    by_cases c1 : cmp k (pairAt l (topI l)).1 < 0
    · simp only [if_pos c1]
      exact ⟨_, ua, a0, a1, hA, hdA, rfl⟩
    · simp only [if_neg c1]
      exact ⟨_, ub, b0, b1, hB, hdB, rfl⟩
  simp only [if_neg m2]
  by_cases m3 : m = 3
  · simp only [if_pos m3]
    by_cases c1 : 0 ≤ cmp k (pairAt l (topI l)).1
    · simp only [if_pos c1]
      exact ⟨_, ub, b0, b1, hB, hdB, rfl⟩
    · simp only [if_neg c1]
      exact ⟨_, ua, a0, a1, hA, hdA, rfl⟩
  · simp only [if_neg m3]
    exact ⟨_, ua, a0, a1, hA, hdA, rfl⟩
theorem prun_loop {h : List NodeV} (ho : okH h) (hm : mayH h = true) (m : Int) (hmm : 1 ≤ m ∧ m ≤ 4) (k : ByteArray) (hk : k.size ≤ 1000000) (x2 : PairV) : ∀ (d : Nat) (r : Int) (l : List PairV) (n : Nat) (f : FoundV), l.length ≤ d → 0 ≤ r → r ≤ h.length → U h r = treeT l → n + l.length ≤ 100000000 →
    path_Run.l0 h (n : Int) x2 (pv m k r f) = some ((srchS m k l f).1.1, ((srchS m k l f).1.2, (((n + (srchS m k l f).2 : Nat) : Int), ((0 : Int), ())))) := by
  have hlen := ho.len
  intro d
  induction d with
  | zero =>
    intro r l n f hd h0 h2 hu hb
    have : l = [] := List.eq_nil_of_length_eq_zero (by omega)
    subst this
    rw [treeT_nil] at hu
    have := (U_nil hm h0 h2).1 hu
    subst this
    rw [path_Run.l0.eq, path_Path_Want.eq, bnd_some]
    show br (notB (eqI 0 0)) _ _ = _
    rw [show notB (eqI 0 0) = false from rfl, br_f, answer_any, bnd_some, srch_nil]
    rfl
  | succ d ih =>
    intro r l n f hd h0 h2 hu hb
    by_cases hl : l = []
    · subst hl
      rw [treeT_nil] at hu
      have := (U_nil hm h0 h2).1 hu
      subst this
      rw [path_Run.l0.eq, path_Path_Want.eq, bnd_some]
      show br (notB (eqI 0 0)) _ _ = _
      rw [show notB (eqI 0 0) = false from rfl, br_f, answer_any, bnd_some, srch_nil]
      rfl
    obtain ⟨h1, h4, a, b, hab, l', u', s0, s1, hlt, _, hs⟩ := step_tree hm h0 h2 hl hu m k f
    rw [path_Run.l0.eq, path_Path_Want.eq, bnd_some]
    show br (notB (eqI r 0)) (bnd (path_Path_Want (pv m k r f)) _) _ = _
    rw [path_Path_Want.eq, bnd_some, eqI_d, notB_d, br_if, if_pos (by omega)]
    show br (andB (leI 0 (subI .i64 r 1)) (ltI (subI .i64 r 1) (ofN (lenL tapiNode h)))) (bnd (path_Path_Feed (ixL tapiNode h (subI .i64 r 1)) (pv m k r f)) _) _ = _
    rw [inG h r h1 h2 (by omega), br_t, ixG h r h1 h2 (by omega), feed_any m hmm k hk r (by omega) f _ h4 a b hab, bnd_some, add1 n (by omega), ih _ l' (n + 1) _ (by omega) s0 (by omega) u' (by omega), hs]
    dsimp only
    rw [show n + 1 + (srchS m k l' (stepV m k (getN h r) a b f).2).2 = n + ((srchS m k l' (stepV m k (getN h r) a b f).2).2 + 1) by omega]
theorem isTree_iff {h : List NodeV} {r : Int} : isTreeS h r = true ↔ fitH h r = true ∧ isS (bindsT (U h r)) = true ∧ U h r = treeT (bindsT (U h r)) := by
  unfold isTreeS
  rw [Bool.and_eq_true, Bool.and_eq_true, eqSh_iff]
/-- A search in a heap. -/
theorem prun_any {h : List NodeV} (ho : okH h) (r m : Int) (hmm : 1 ≤ m ∧ m ≤ 4) (k : ByteArray) (hk : k.size ≤ 1000000) (hb : fitH h r = true → (bindsT (U h r)).length ≤ 40000000) :
    path_Run h r m k = if isTreeS h r = true then some ((orF (ansS m k (bindsT (U h r))) (noP, false)).1, ((orF (ansS m k (bindsT (U h r))) (noP, false)).2, (((srchS m k (bindsT (U h r)) (noP, false)).2 : Int), ((0 : Int), ())))) else some (noP, (false, ((0 : Int), ((4 : Int), ())))) := by
  rw [path_Run.eq, Is_any ho r hb, bnd_some, ltI_d, ltI_d, br_if, br_if, if_neg (by omega), if_neg (by omega)]
  by_cases ht : isTreeS h r = true
  · obtain ⟨hf, hs, hu⟩ := isTree_iff.1 ht
    obtain ⟨⟨a, b⟩, c⟩ := fitH_iff.1 hf
    have hl := hb hf
    rw [if_pos ht, ht, show notB true = false from rfl, br_f, path_New.eq, bnd_some]
    have hok := srch_ok m k _ (bindsT (U h r)) (noP, false) (Nat.le_refl _) (isS_srt hs)
    have := prun_loop ho c m hmm k hk noP _ r (bindsT (U h r)) 0 (noP, false) (Nat.le_refl _) a b hu (by omega)
    rw [hok.1, Nat.zero_add] at this
    exact this
  · rw [if_neg ht, Bool.eq_false_iff.2 ht, show notB false = true from rfl, br_t]
    rfl
theorem prun_arg (h : List NodeV) (r m : Int) (hmm : ¬ (1 ≤ m ∧ m ≤ 4)) (k : ByteArray) : path_Run h r m k = some (noP, (false, ((0 : Int), ((2 : Int), ())))) := by
  rw [path_Run.eq, ltI_d, ltI_d, br_if, br_if]
  by_cases h1 : m < 1
  · rw [if_pos h1]; rfl
  · rw [if_neg h1, if_pos (by omega)]; rfl
/-! ### The document's -/
theorem find_put (p : PairV) (k : ByteArray) : ∀ l : List PairV, (putS l p).find? (fun q => decide (q.1 = k)) = if p.1 = k then some p else l.find? (fun q => decide (q.1 = k))
  | [] => by
    show List.find? _ [p] = _
    rw [List.find?_cons]
    by_cases h : p.1 = k
    · rw [if_pos h, decide_eq_true h]
    · rw [if_neg h, decide_eq_false h]
  | q :: qs => by
    rcases tri q.1 p.1 with ⟨h, _, hne⟩ | ⟨h, _⟩ | ⟨h, _, hne⟩
    · rw [putS_lt h, List.find?_cons, find_put p k qs, List.find?_cons]
      by_cases hq : q.1 = k
      · have hp : ¬ p.1 = k := fun e => hne (hq.trans e.symm)
        rw [decide_eq_true hq]
        show (some q : Option PairV) = if p.1 = k then some p else some q
        rw [if_neg hp]
      · rw [decide_eq_false hq]
    · rw [putS_eq h, List.find?_cons, List.find?_cons]
      by_cases hp : p.1 = k
      · rw [if_pos hp, decide_eq_true hp]
      · rw [if_neg hp, decide_eq_false hp, decide_eq_false (fun e => hp (h.symm.trans e))]
    · rw [putS_gt h, List.find?_cons]
      by_cases hp : p.1 = k
      · rw [if_pos hp, decide_eq_true hp]
      · rw [if_neg hp, decide_eq_false hp]
theorem find_fold (k : ByteArray) : ∀ (l acc : List PairV), (l.foldl putS acc).find? (fun q => decide (q.1 = k)) = (l.reverse.find? (fun q => decide (q.1 = k))).or (acc.find? (fun q => decide (q.1 = k)))
  | [], _ => rfl
  | p :: l, acc => by
    rw [List.foldl_cons, find_fold k l, find_put, List.reverse_cons, List.find?_append, Option.or_assoc]
    congr 1
    rw [List.find?_cons]
    by_cases h : p.1 = k
    · rw [if_pos h, decide_eq_true h]; rfl
    · rw [if_neg h, decide_eq_false h]; rfl
theorem find_make (k : ByteArray) (l : List PairV) : (makeS l).find? (fun q => decide (q.1 = k)) = l.reverse.find? (fun q => decide (q.1 = k)) := by
  have := find_fold k l []
  rw [List.find?_nil, Option.or_none] at this
  exact this
def valF (o : Option PairV) : ByteArray × Bool × Unit := match o with
  | some p => (p.2.1, (true, ()))
  | none => (ByteArray.empty, (false, ()))
theorem subI_nat (n : Nat) (h : n ≤ 1000000000) : subI .i64 (n : Int) 1 = (n : Int) - 1 := subI_d (by omega) (by omega)
theorem rget_loop (l : List PairV) (k : ByteArray) (hl : l.length ≤ 50000000) : ∀ (n : Nat), n ≤ l.length → ref07_Get.l0 l k ((n : Int) - 1) = some (valF ((l.take n).reverse.find? (fun q => decide (q.1 = k)))) := by
  intro n
  induction n with
  | zero =>
    intro h
    rw [ref07_Get.l0.eq, leI_d, br_if, if_neg (by omega), List.take_zero]
    rfl
  | succ n ih =>
    intro h
    have hi : n < l.length := by omega
    rw [show (((n + 1 : Nat) : Int) - 1) = (n : Int) by omega, ref07_Get.l0.eq]
    simp only [leI_d, ltI_d, ofN_d, lenL_d, andB_d, eqS_d, br_if]
    have hin : 0 ≤ (n : Int) ∧ (n : Int) < (l.length : Int) := ⟨by omega, by omega⟩
    rw [if_pos hin.1, if_pos hin, ixP l n hi, if_pos hin, subI_nat n (by omega), ih (by omega), List.take_succ_eq_append_getElem hi, List.reverse_append, List.reverse_singleton]
    show _ = some (valF (List.find? _ (l[n] :: (l.take n).reverse)))
    rw [List.find?_cons]
    by_cases e : l[n].1 = k
    · rw [if_pos e, decide_eq_true e]; rfl
    · rw [if_neg e, decide_eq_false e]
theorem rget_any (l : List PairV) (k : ByteArray) (hl : l.length ≤ 50000000) : ref07_Get l k = some (valF ((makeS l).find? (fun q => decide (q.1 = k)))) := by
  rw [ref07_Get.eq, find_make]
  simp only [ofN_d, lenL_d]
  rw [subI_nat _ (by omega), rget_loop l k hl l.length (Nat.le_refl _), List.take_length]
def pairF (o : Option PairV) : PairV × Bool × Unit := match o with
  | some p => (p, (true, ()))
  | none => (noP, (false, ()))
theorem rfloor_loop (l : List PairV) (k : ByteArray) (hk : k.size ≤ 1000000) (hl : l.length ≤ 50000000) (x3 : PairV) : ∀ (n : Nat), n ≤ l.length → ref07_Floor.l0 k l ((n : Int) - 1) x3 = some (pairF ((l.take n).reverse.find? (fun q => !lt k q.1))) := by
  intro n
  induction n with
  | zero =>
    intro h
    rw [ref07_Floor.l0.eq, leI_d, br_if, if_neg (by omega), List.take_zero]
    rfl
  | succ n ih =>
    intro h
    have hi : n < l.length := by omega
    rw [show (((n + 1 : Nat) : Int) - 1) = (n : Int) by omega, ref07_Floor.l0.eq]
    simp only [leI_d, ltI_d, ofN_d, lenL_d, andB_d, eqS_d, br_if]
    have hin : 0 ≤ (n : Int) ∧ (n : Int) < (l.length : Int) := ⟨by omega, by omega⟩
    rw [if_pos hin.1, if_pos hin, ixP l n hi, if_pos hin, subI_nat n (by omega), ih (by omega), less_any _ _ (by omega), bnd_some, List.take_succ_eq_append_getElem hi, List.reverse_append, List.reverse_singleton]
    show _ = some (pairF (List.find? _ (l[n] :: (l.take n).reverse)))
    rw [List.find?_cons]
    cases lt k l[n].1 with
    | true => rw [show notB true = false from rfl, br_f]; rfl
    | false => rw [show notB false = true from rfl, br_t]; rfl
theorem rafter_loop (l : List PairV) (k : ByteArray) (hk : k.size ≤ 1000000) (hl : l.length ≤ 50000000) (x3 : PairV) (d : Nat) : ∀ (i : Nat), i ≤ l.length → l.length - i = d → ref07_After.l0 k l i x3 = some (pairF ((l.drop i).find? (fun q => lt k q.1))) := by
  induction d with
  | zero =>
    intro i h1 h2
    rw [ref07_After.l0.eq]
    simp only [ltI_d, ofN_d, lenL_d, br_if]
    rw [if_neg (by omega), List.drop_eq_nil_of_le (by omega)]
    rfl
  | succ d ih =>
    intro i h1 h2
    have hi : i < l.length := by omega
    rw [ref07_After.l0.eq]
    simp only [ltI_d, leI_d, ofN_d, lenL_d, andB_d, br_if]
    rw [if_pos (by omega), if_pos (by omega), ixP l i hi, if_pos (by omega), less_any _ _ (by omega), bnd_some, add1 i (by omega), ih (i + 1) (by omega) (by omega), List.drop_eq_getElem_cons hi, List.find?_cons]
    cases lt k l[i].1 with
    | true => rw [br_t]; rfl
    | false => rw [br_f]
theorem ans_any (l : List PairV) (m : Int) (hm : 1 ≤ m ∧ m ≤ 4) (k : ByteArray) (hk : k.size ≤ 1000000) (hl : l.length ≤ 40000000) (hs : ∀ p ∈ l, okP p) : ref26_Answer l m k = some (pairF (ansS m k (makeS l))) := by
  have hml := makeS_len l
  rw [ref26_Answer.eq, rget_any l k (by omega), bnd_some, ref07_Floor.eq, ref07_After.eq, refmake_any l hl hs, bnd_some, bnd_some, bnd_some]
  unfold ansS
  simp only [eqI_d, ofN_d, lenL_d, br_if]
  by_cases m1 : m = 1
  · rw [if_pos m1, if_pos m1]
    cases hf : (makeS l).find? (fun q => decide (q.1 = k)) with
    | none =>
      show br (notB false) _ _ = _
      rw [show notB false = true from rfl, br_t]; rfl
    | some p =>
      have := List.find?_some hf
      have e : p.1 = k := by simpa using this
      show br (notB true) _ _ = _
      rw [show notB true = false from rfl, br_f]
      show some ((k, (p.2.1, ())), (true, ())) = some (p, (true, ()))
      rw [← e]
  rw [if_neg m1, if_neg m1]
  by_cases m2 : m = 2
  · rw [if_pos m2, if_pos m2, subI_nat _ (by omega), rfloor_loop (makeS l) k hk (by omega) _ _ (Nat.le_refl _), List.take_length, bnd_some]
  rw [if_neg m2, if_neg m2]
  by_cases m3 : m = 3
  · have := rafter_loop (makeS l) k hk (by omega) (ByteArray.empty, (ByteArray.empty, ())) (makeS l).length 0 (by omega) (by omega)
    rw [List.drop_zero, show ((0 : Nat) : Int) = 0 from rfl] at this
    rw [if_pos m3, if_pos m3, this, bnd_some]
  rw [if_neg m3, if_neg m3]
  by_cases e : l = []
  · subst e
    rw [if_pos (show ((([] : List PairV).length : Nat) : Int) = 0 from rfl)]; rfl
  · have hne : (l.length : Int) ≠ 0 := fun q => e (List.eq_nil_of_length_eq_zero (by omega))
    rw [if_neg hne]
    have hmk : makeS l ≠ [] := by
      intro q
      obtain ⟨p, l', rfl⟩ := List.exists_cons_of_ne_nil e
      have := find_make p.1 (p :: l')
      rw [q, List.find?_nil, List.reverse_cons, List.find?_append, List.find?_cons, decide_eq_true rfl] at this
      cases h : List.find? (fun q => decide (q.1 = p.1)) l'.reverse with
      | none => rw [h] at this; cases this
      | some x => rw [h] at this; cases this
    obtain ⟨p, l', e2⟩ := List.exists_cons_of_ne_nil hmk
    rw [e2]
    simp only [leI_d, ltI_d, andB_d, br_if]
    rw [if_pos (by show (0 : Int) ≤ 0 ∧ (0 : Int) < ((l'.length + 1 : Nat) : Int); omega)]
    rfl
theorem orF_pairF (o : Option PairV) : pairF o = ((orF o (noP, false)).1, ((orF o (noP, false)).2, ())) := by cases o <;> rfl
end Go.Proofs.Ytimgaglpempfeaa.AA
set_option linter.unusedVariables false
set_option linter.unusedSimpArgs false
namespace Go.Proofs.Ytimgaglpempfeaa.AA
open Go.Abs
def bP : PairV := (ByteArray.mk #[98], (ByteArray.mk #[49], ()))
theorem cmpb : cmp (ByteArray.mk #[99]) (ByteArray.mk #[98]) = 1 ∧ cmp (ByteArray.mk #[97]) (ByteArray.mk #[98]) = -1 := by
  constructor
  · unfold cmp
    rw [if_neg (by decide), if_neg (by decide)]
  · unfold cmp
    rw [if_neg (by decide), if_pos (by decide)]
theorem works26 : law26_works = some true := by
  have hb : okB bP := ⟨by show 1 ≤ 16; omega, by show 1 ≤ 16; omega⟩
  have hlb : ∀ p ∈ ([bP] : List PairV), okB p := fun p h => by rw [List.mem_singleton.1 h]; exact hb
  have hs1 : Srt ([bP] : List PairV) := List.pairwise_singleton _ _
  have hgo := nodes_okH (l := [bP]) (by show 1 ≤ _; omega) hlb
  have hi := isTree_nodes (l := [bP]) (by show 1 ≤ _; omega) hs1 hlb
  have ht := nodesS_ok _ [] [bP] (Nat.le_refl _) rfl hlb
  have hbd : fitH (nodesS [] [bP]).1 (nodesS [] [bP]).2 = true → (bindsT (U (nodesS [] [bP]).1 (nodesS [] [bP]).2)).length ≤ 40000000 := fun _ => by
    rw [ht.shp, bindsT_treeT]; show 1 ≤ _; omega
  have hu : bindsT (U (nodesS [] [bP]).1 (nodesS [] [bP]).2) = [bP] := by rw [ht.shp, bindsT_treeT]
  have run : ∀ (m : Int) (k : ByteArray), 1 ≤ m ∧ m ≤ 4 → k.size ≤ 1000000 → path_Run (nodesS [] [bP]).1 (nodesS [] [bP]).2 m k = some ((orF (ansS m k [bP]) (noP, false)).1, ((orF (ansS m k [bP]) (noP, false)).2, (((srchS m k [bP] (noP, false)).2 : Int), ((0 : Int), ())))) := by
    intro m k hm hk
    have := prun_any hgo (nodesS [] [bP]).2 m hm k hk hbd
    rw [if_pos hi, hu] at this
    exact this
  have r1 := run 2 (ByteArray.mk #[99]) ⟨by omega, by omega⟩ (by show 1 ≤ _; omega)
  have r2 := run 3 (ByteArray.mk #[97]) ⟨by omega, by omega⟩ (by show 1 ≤ _; omega)
  have r3 := run 1 (ByteArray.mk #[97]) ⟨by omega, by omega⟩ (by show 1 ≤ _; omega)
  have l1 : lt (ByteArray.mk #[99]) bP.1 = false := by decide
  have l2 : lt (ByteArray.mk #[97]) bP.1 = true := by decide
  have a1 : ansS 2 (ByteArray.mk #[99]) [bP] = some bP := by
    unfold ansS
    rw [if_neg (by omega), if_pos rfl]
    show List.find? _ [bP] = _
    rw [List.find?_cons, l1]; rfl
  have a2 : ansS 3 (ByteArray.mk #[97]) [bP] = some bP := by
    unfold ansS
    rw [if_neg (by omega), if_neg (by omega), if_pos rfl]
    show List.find? _ [bP] = _
    rw [List.find?_cons, l2]
  have a3 : ansS 1 (ByteArray.mk #[97]) [bP] = none := by
    unfold ansS
    rw [if_pos rfl]
    show List.find? _ [bP] = _
    rw [List.find?_cons, decide_eq_false (by decide)]; rfl
  have e0 : topI [bP] = 0 := by have := topI_lt (l := [bP]) (by simp); simpa using this
  have n1 : (srchS 2 (ByteArray.mk #[99]) [bP] (noP, false)).2 = 1 := by
    have e2 : ([bP] : List PairV).drop (0 + 1) = [] := rfl
    have ep : pairAt [bP] 0 = bP := rfl
    rw [srch_cons 2 _ (by simp), if_neg (by omega), if_pos rfl, e0, ep, show cmp (ByteArray.mk #[99]) bP.1 = 1 from cmpb.1, if_neg (by omega), e2, srch_nil]
  rw [a1, n1] at r1
  rw [a2] at r2
  rw [a3] at r3
  rw [nodes_one] at r1 r2 r3
  rw [law26_works.eq, node_Tree.eq, bnd_some]
  show bnd (path_Run [treeN bP 0 0 1] 1 2 (ByteArray.mk #[99])) _ = _
  rw [r1, bnd_some]
  show bnd (path_Run [treeN bP 0 0 1] 1 3 (ByteArray.mk #[97])) _ = _
  rw [r2, bnd_some]
  show bnd (path_Run [treeN bP 0 0 1] 1 1 (ByteArray.mk #[97])) _ = _
  rw [r3, bnd_some]
  have es : ∀ s : ByteArray, eqS s s = true := fun s => by rw [eqS_d]; exact decide_eq_true rfl
  have ee : ∀ z : Int, eqI z z = true := fun z => decide_eq_true rfl
  show br (eqS (ByteArray.mk #[98]) (ByteArray.mk #[98])) (br true (br (eqI 1 1) (br (eqI 0 0) (br (andB (eqS bP.1 bP.1) (andB (eqS bP.2.1 bP.2.1) true)) (br true (br true (some true) (some false)) (some false)) (some false)) (some false)) (some false)) (some false)) (some false) = some true
  rw [es, es, es, ee, ee, br_t, br_t, br_t, br_t, show andB true (andB true true) = true from rfl, br_t, br_t, br_t]
/-- A heap with the tree of bindings. -/
theorem made_ok {l : List PairV} (hl : l.length ≤ 40000000) (hb : ∀ p ∈ makeS l, okB p) :
    okH (nodesS [] (makeS l)).1 ∧ mayH (nodesS [] (makeS l)).1 = true ∧ 0 ≤ (nodesS [] (makeS l)).2 ∧ (nodesS [] (makeS l)).2 ≤ (nodesS [] (makeS l)).1.length ∧ U (nodesS [] (makeS l)).1 (nodesS [] (makeS l)).2 = treeT (makeS l) ∧
    isTreeS (nodesS [] (makeS l)).1 (nodesS [] (makeS l)).2 = true ∧ bindsT (U (nodesS [] (makeS l)).1 (nodesS [] (makeS l)).2) = makeS l := by
  have hm := makeS_len l
  have ht := nodesS_ok _ [] (makeS l) (Nat.le_refl _) rfl hb
  exact ⟨nodes_okH (by omega) hb, ht.may, ht.r0, ht.r1, ht.shp, isTree_nodes (by omega) (makeS_Srt l) hb, by rw [ht.shp, bindsT_treeT]⟩
theorem prun_made {l : List PairV} (hl : l.length ≤ 40000000) (hb : ∀ p ∈ makeS l, okB p) (m : Int) (hm : 1 ≤ m ∧ m ≤ 4) (k : ByteArray) (hk : k.size ≤ 1000000) :
    path_Run (nodesS [] (makeS l)).1 (nodesS [] (makeS l)).2 m k = some ((orF (ansS m k (makeS l)) (noP, false)).1, ((orF (ansS m k (makeS l)) (noP, false)).2, (((srchS m k (makeS l) (noP, false)).2 : Int), ((0 : Int), ())))) := by
  have hml := makeS_len l
  obtain ⟨h1, h2, h3, h4, h5, h6, h7⟩ := made_ok hl hb
  have := prun_any h1 (nodesS [] (makeS l)).2 m hm k hk (fun _ => by rw [h7]; omega)
  rw [if_pos h6, h7] at this
  exact this
theorem eqP_self (p : PairV) : andB (eqS p.1 p.1) (andB (eqS p.2.1 p.2.1) true) = true := by rw [eq_pair]; exact decide_eq_true rfl
theorem eqB_self (b : Bool) : eqB b b = true := by cases b <;> rfl
/-! ### The document's depth of a tree -/
theorem rdep_loop {h : List NodeV} (refs : List Int) (hr : refs.length ≤ 50000000) (v : Int → Nat) (hb : ∀ x ∈ refs, ref17_Depth h x = some ((v x : Nat) : Int)) (hv : ∀ x ∈ refs, v x ≤ 100000000) (d : Nat) : ∀ (i m : Nat), i ≤ refs.length → refs.length - i = d → m ≤ 100000000 →
    ref17_Depth.l0 h (m : Int) refs i = some (((((refs.drop i).map v).foldl max m) + 1 : Nat) : Int) := by
  induction d with
  | zero =>
    intro i m h1 h2 h3
    rw [ref17_Depth.l0.eq]
    simp only [ltI_d, ofN_d, lenL_d, br_if]
    rw [if_neg (by omega), List.drop_eq_nil_of_le (by omega), add1 m (by omega)]
    rfl
  | succ d ih =>
    intro i m h1 h2 h3
    have hi : i < refs.length := by omega
    have hm := List.getElem_mem hi
    have := hv _ hm
    rw [ref17_Depth.l0.eq]
    simp only [ltI_d, leI_d, ofN_d, lenL_d, andB_d, br_if, maxI_d]
    rw [if_pos (by omega), if_pos (by omega), ixR refs i hi, hb _ hm, bnd_some, add1 i (by omega), show max (m : Int) ((v refs[i] : Nat) : Int) = ((max m (v refs[i]) : Nat) : Int) by omega, ih (i + 1) _ (by omega) (by omega) (by omega), List.drop_eq_getElem_cons hi, List.map_cons, List.foldl_cons]
theorem rdep_tree {h : List NodeV} (ho : okH h) (hm : mayH h = true) : ∀ (n : Nat) (r : Int) (l : List PairV), l.length ≤ n → l.length ≤ 40000000 → 0 ≤ r → r ≤ h.length → U h r = treeT l → ref17_Depth h r = some ((depS l : Nat) : Int) := by
  have hlen := ho.len
  have zero : ∀ r : Int, 0 ≤ r → r ≤ h.length → U h r = treeT [] → ref17_Depth h r = some ((depS [] : Nat) : Int) := by
    intro r h0 h1 hu
    rw [treeT_nil] at hu
    have := (U_nil hm h0 h1).1 hu
    subst this
    rw [ref17_Depth.eq, eqI_d, br_if, if_pos rfl, depS_nil]
    rfl
  intro n
  induction n with
  | zero =>
    intro r l hn hb h0 h1 hu
    have : l = [] := List.eq_nil_of_length_eq_zero (by omega)
    subst this
    exact zero r h0 h1 hu
  | succ n ih =>
    intro r l hn hb h0 h2 hu
    by_cases hl : l = []
    · subst hl; exact zero r h0 h2 hu
    obtain ⟨h1, h4, _, _, _, a, b, hab, hmain, a0, a1, b0, b1, ua, ub⟩ := tree_at hm h0 h2 hl hu
    have ht := topI_lt hl
    have o := ho.node _ (getN_mem h r h1 h2)
    have hA : (l.take (topI l)).length = topI l := by rw [List.length_take]; omega
    have hB : (l.drop (topI l + 1)).length = l.length - (topI l + 1) := List.length_drop ..
    have ia := ih a _ (by omega) (by omega) a0 (by omega) ua
    have ib := ih b _ (by omega) (by omega) b0 (by omega) ub
    have da := depS_le _ (l.take (topI l)) (Nat.le_refl _)
    have db := depS_le _ (l.drop (topI l + 1)) (Nat.le_refl _)
    rw [ref17_Depth.eq, eqI_d, br_if, if_neg (by omega), inG h r h1 h2 (by omega), br_t, ixG h r h1 h2 (by omega), refrefs_any _ o, bnd_some]
    have er : refsS (getN h r) = [a, b].filter (fun r => decide (r ≠ 0)) := by
      rw [refsS_all]
      unfold allK
      rw [hab, hmain, List.filter_append]
      show _ ++ [] = _
      rw [List.append_nil]
    have hrl : (refsS (getN h r)).length ≤ 2 := by rw [er]; exact Nat.le_trans (List.length_filter_le _ _) (Nat.le_refl _)
    have zA : a = 0 → depS (l.take (topI l)) = 0 := by
      rintro rfl
      by_cases e : l.take (topI l) = []
      · rw [e, depS_nil]
      · rw [U_zero, treeT_cons e] at ua; cases ua
    have zB : b = 0 → depS (l.drop (topI l + 1)) = 0 := by
      rintro rfl
      by_cases e : l.drop (topI l + 1) = []
      · rw [e, depS_nil]
      · rw [U_zero, treeT_cons e] at ub; cases ub
    have key : ∀ (v : Int → Nat), (a ≠ 0 → v a = depS (l.take (topI l))) → (b ≠ 0 → v b = depS (l.drop (topI l + 1))) → ((refsS (getN h r)).map v).foldl max 0 + 1 = depS l := by
      intro v va vb
      rw [er, depS_cons hl]
      by_cases ea : a = 0
      · by_cases eb : b = 0
        · rw [List.filter_cons_of_neg (by simp [ea]), List.filter_cons_of_neg (by simp [eb]), zA ea, zB eb]; rfl
        · rw [List.filter_cons_of_neg (by simp [ea]), List.filter_cons_of_pos (by simp [eb]), zA ea]
          show max 0 (v b) + 1 = _
          rw [vb eb]; omega
      · by_cases eb : b = 0
        · rw [List.filter_cons_of_pos (by simp [ea]), List.filter_cons_of_neg (by simp [eb]), zB eb]
          show max 0 (v a) + 1 = _
          rw [va ea]; omega
        · rw [List.filter_cons_of_pos (by simp [ea]), List.filter_cons_of_pos (by simp [eb])]
          show max (max 0 (v a)) (v b) + 1 = _
          rw [va ea, vb eb]; omega
    -- which of the two a reference is
    by_cases hv : a = b ∧ a ≠ 0
    · obtain ⟨rfl, hne⟩ := hv
      have e : depS (l.take (topI l)) = depS (l.drop (topI l + 1)) := by
        have := ia.symm.trans ib
        injection this with this
        omega
      have := rdep_loop (h := h) (refsS (getN h r)) (by omega) (fun _ => depS (l.take (topI l))) (fun x hx => by
        rw [er] at hx
        have := (List.mem_filter.1 hx).1
        have hx' : x = a := by simpa using this
        rw [hx']; exact ia) (fun x _ => by show depS (l.take (topI l)) ≤ _; omega) (refsS (getN h r)).length 0 0 (by omega) (by omega) (by omega)
      rw [List.drop_zero, show ((0 : Nat) : Int) = 0 from rfl] at this
      rw [this, key _ (fun _ => rfl) (fun _ => e)]
    · have := rdep_loop (h := h) (refsS (getN h r)) (by omega) (fun x => if x = a then depS (l.take (topI l)) else depS (l.drop (topI l + 1))) (fun x hx => by
        rw [er] at hx
        have hx' := (List.mem_filter.1 hx).1
        try dsimp only
        rcases List.mem_cons.1 hx' with rfl | hx'
        · rw [if_pos rfl]; exact ia
        · rw [List.mem_singleton] at hx'
          subst hx'
          by_cases q : x = a
          · rw [if_pos q, q]; exact ia
          · rw [if_neg q]; exact ib) (fun x _ => by split <;> omega) (refsS (getN h r)).length 0 0 (by omega) (by omega) (by omega)
      rw [List.drop_zero, show ((0 : Nat) : Int) = 0 from rfl] at this
      rw [this, key _ (fun _ => if_pos rfl) (fun hb0 => by
        try dsimp only
        rw [if_neg]
        intro q
        exact hv ⟨q.symm, fun q2 => hb0 (q.trans q2)⟩)]
theorem refDepth_any (l : List PairV) (hl : l.length ≤ 40000000) (hs : ∀ p ∈ l, okP p) (hb : ∀ p ∈ makeS l, okB p) : ref25_Depth l = some ((depS (makeS l) : Nat) : Int) := by
  have hml := makeS_len l
  obtain ⟨h1, h2, h3, h4, h5, h6, h7⟩ := made_ok hl hb
  rw [ref25_Depth.eq, refMake_any l hl hs, bnd_some, rdep_tree h1 h2 _ _ _ (Nat.le_refl _) (by omega) h3 h4 h5, bnd_some]
end Go.Proofs.Ytimgaglpempfeaa.AA
set_option linter.unusedVariables false
set_option linter.unusedSimpArgs false
namespace Go.Proofs.Ytimgaglpempfeaa.AA
open Go.Abs
def waysN (n : NodeV) : Nat := max (refsS n).length 1
def prodW : List NodeV → Nat
  | [] => 1
  | n :: l => waysN n * prodW l
theorem prodW_app : ∀ a b : List NodeV, prodW (a ++ b) = prodW a * prodW b
  | [], b => by show prodW b = 1 * prodW b; omega
  | n :: a, b => by
    show waysN n * prodW (a ++ b) = waysN n * prodW a * prodW b
    rw [prodW_app a b, Nat.mul_assoc]
theorem prodW_pos : ∀ a : List NodeV, 1 ≤ prodW a
  | [] => Nat.le_refl _
  | n :: a => by
    have h := prodW_pos a
    have : 1 ≤ waysN n := by unfold waysN; omega
    exact Nat.mul_pos this h
theorem fewW_prod : ∀ (l : List NodeV) (w : Nat), w ≤ 3000 → w * prodW (fewW w l) ≤ 3000
  | [], w, h => by
    show w * 1 ≤ 3000
    omega
  | n :: l, w, h => by
    rw [fewW_cons]
    split
    · show w * 1 ≤ 3000
      omega
    · rename_i hg
      have := fewW_prod l (w * max (refsS (few n)).length 1) (by omega)
      show w * (waysN (few n) * _) ≤ 3000
      rw [← Nat.mul_assoc]
      exact this
theorem fewH_prod (h : List NodeV) : prodW (fewH h) ≤ 3000 := by
  have := fewW_prod (h.take 12) 1 (by omega)
  rw [Nat.one_mul] at this
  exact this
theorem sum_le {A : Type} (f : A → Nat) (M : Nat) : ∀ l : List A, (∀ x ∈ l, f x ≤ M) → (l.map f).sum ≤ l.length * M
  | [], _ => by simp
  | x :: l, h => by
    have ih := sum_le f M l (fun y hy => h y (List.mem_cons_of_mem _ hy))
    have hx := h x List.mem_cons_self
    rw [List.map_cons, List.sum_cons, List.length_cons, Nat.succ_mul]
    omega
theorem flat_len {A : Type} (f : A → List PairV) : ∀ l : List A, ((l.map f).flatten).length = (l.map fun x => (f x).length).sum
  | [] => rfl
  | x :: l => by rw [List.map_cons, List.flatten_cons, List.length_append, flat_len f l, List.map_cons, List.sum_cons]
theorem binds_sum {h : List NodeV} (hm : mayH h = true) {r : Int} (h1 : 1 ≤ r) (h2 : r ≤ h.length) : (bindsT (U h r)).length = (bindsS (getN h r)).length + ((refsS (getN h r)).map fun x => (bindsT (U h x)).length).sum := by
  by_cases h4 : (getN h r).1 = 4
  · obtain ⟨a, b, k1, k2, k3, k4, k5⟩ := bindsU_tree hm h1 h2 h4
    have er : refsS (getN h r) = [a, b].filter (fun r => decide (r ≠ 0)) := by
      rw [refsS_all]
      unfold allK
      rw [k1, k2, List.filter_append]
      show _ ++ [] = _
      rw [List.append_nil]
    have z : (bindsT (U h 0)).length = 0 := by rw [U_zero, bindsT_nil]; rfl
    rw [k5, er, List.length_append, List.length_append]
    by_cases ea : a = 0
    · by_cases eb : b = 0
      · subst ea; subst eb; rw [z]; simp
      · subst ea; rw [z, List.filter_cons_of_neg (by simp), List.filter_cons_of_pos (by simp [eb]), List.filter_nil]
        simp
    · by_cases eb : b = 0
      · subst eb; rw [z, List.filter_cons_of_pos (by simp [ea]), List.filter_cons_of_neg (by simp), List.filter_nil]
        simp; omega
      · rw [List.filter_cons_of_pos (by simp [ea]), List.filter_cons_of_pos (by simp [eb]), List.filter_nil]
        simp; omega
  · rw [bindsU_refs hm h1 h2 h4, List.length_append, flat_len]
theorem bound_step (k P r m : Nat) (hP : 1 ≤ P) (hk : m ≤ k) (hk1 : 1 ≤ k) (hr : 1 ≤ r) : 40 + m * (40 * (r - 1) * P) ≤ 40 * r * (P * k) := by
  obtain ⟨q, rfl⟩ : ∃ q, r = q + 1 := ⟨r - 1, by omega⟩
  rw [Nat.add_sub_cancel]
  have h1 : m * (40 * q * P) ≤ k * (40 * q * P) := Nat.mul_le_mul_right _ hk
  have h2 : 40 * (q + 1) * (P * k) = 40 * q * (P * k) + 40 * (P * k) := by rw [Nat.mul_add, Nat.add_mul]
  have h3 : k * (40 * q * P) = 40 * q * (P * k) := by rw [Nat.mul_comm k, Nat.mul_assoc]
  have h4 : 1 ≤ P * k := Nat.mul_pos hP hk1
  omega
theorem binds_bound {h : List NodeV} (hm : mayH h = true) (hs : ∀ n ∈ h, (bindsS n).length ≤ 40) : ∀ (n : Nat) (r : Int), 0 ≤ r → r ≤ n → r ≤ h.length → (bindsT (U h r)).length ≤ 40 * r.toNat * prodW (h.take r.toNat) := by
  intro n
  induction n with
  | zero =>
    intro r h0 h1 h2
    have : r = 0 := by omega
    subst this
    rw [U_zero, bindsT_nil]
    exact Nat.zero_le _
  | succ n ih =>
    intro r h0 h1 h2
    by_cases e : r = 0
    · subst e
      rw [U_zero, bindsT_nil]
      exact Nat.zero_le _
    obtain ⟨i, hi⟩ : ∃ i : Nat, r = (i : Int) + 1 := ⟨(r - 1).toNat, by omega⟩
    have hil : i < h.length := by omega
    have eg : getN h r = h[i] := by rw [hi]; exact getN_ix h i hil
    rw [binds_sum hm (by omega) h2]
    have hb := hs _ (getN_mem h r (by omega) h2)
    have hsum := sum_le (fun x => (bindsT (U h x)).length) (40 * i * prodW (h.take i)) (refsS (getN h r)) (fun x hx => by
      rw [refsS_all] at hx
      have hk := (may_node hm (by omega) h2).2 x (List.mem_filter.1 hx).1
      refine Nat.le_trans (ih x (by omega) (by omega) (by omega)) ?_
      have hxi : x.toNat ≤ i := by omega
      have hp : prodW (h.take x.toNat) ≤ prodW (h.take i) := by
        have e : h.take i = h.take x.toNat ++ (h.drop x.toNat).take (i - x.toNat) := by
          rw [← List.take_add]
          congr 1
          omega
        rw [e, prodW_app]
        exact Nat.le_mul_of_pos_right _ (prodW_pos _)
      exact Nat.mul_le_mul (Nat.mul_le_mul_left _ hxi) hp)
    have et : r.toNat = i + 1 := by omega
    have ep : prodW (h.take (i + 1)) = prodW (h.take i) * waysN (getN h r) := by
      rw [List.take_succ_eq_append_getElem hil, prodW_app, eg]
      congr 1
      show waysN h[i] * 1 = _
      omega
    rw [et, ep]
    have hstep := bound_step (waysN (getN h r)) (prodW (h.take i)) (i + 1) (refsS (getN h r)).length (prodW_pos _) (by unfold waysN; omega) (by unfold waysN; omega) (by omega)
    rw [Nat.add_sub_cancel] at hstep
    omega
theorem few_binds (n : NodeV) : (bindsS (few n)).length ≤ 40 := by
  unfold bindsS
  split
  · show 1 ≤ 40; omega
  · split
    · exact fewL_len _
    · show 0 ≤ 40; omega
theorem few_bound (h : List NodeV) (r : Int) (hf : fitH (fewH h) r = true) : (bindsT (U (fewH h) r)).length ≤ 1440000 := by
  obtain ⟨⟨a, b⟩, c⟩ := fitH_iff.1 hf
  have h1 := binds_bound c (fun n hn => by obtain ⟨m, _, rfl⟩ := fewH_mem n hn; exact few_binds m) r.toNat r a (by omega) b
  have h2 := fewH_prod h
  have h3 := fewH_len h
  have hp : prodW ((fewH h).take r.toNat) ≤ 3000 := by
    refine Nat.le_trans ?_ h2
    conv => rhs; rw [← List.take_append_drop r.toNat (fewH h), prodW_app]
    exact Nat.le_mul_of_pos_right _ (prodW_pos _)
  have h4 : 40 * r.toNat * prodW ((fewH h).take r.toNat) ≤ 480 * 3000 := Nat.mul_le_mul (by omega) hp
  omega
end Go.Proofs.Ytimgaglpempfeaa.AA
set_option linter.unusedVariables false
set_option linter.unusedSimpArgs false
namespace Go.Proofs.Ytimgaglpempfeaa.Pure
open Go.Abs Go.Proofs.Ytimgaglpempfeaa.AA
theorem PathRefuses (a0 : den (.list tapiNode)) (a1 : den (.int .i64)) (a2 : den .str) (h0 : wfD (.list tapiNode) a0) (h1 : wfD (.int .i64) a1) (h2 : wfD .str a2) : law26_PathRefuses a0 a1 a2 = some true := by
  change Int at a1
  have hh := okH.of h0
  have hb : fitH (fewH a0) a1 = true → (bindsT (U (fewH a0) a1)).length ≤ 40000000 := fun hf => by have := few_bound a0 a1 hf; omega
  have hk : (cut 40 a2).size ≤ 1000000 := by rw [cut_size]; omega
  have ee : ∀ z : Int, eqI z z = true := fun z => decide_eq_true rfl
  have es : ∀ s : ByteArray, eqS s s = true := fun s => by rw [eqS_d]; exact decide_eq_true rfl
  rw [law26_PathRefuses.eq, fewH_wf h0, bnd_some, base_Cut_40, bnd_some, fewH_ok hh, bnd_some, fewH_fewH, prun_any hh a1 2 ⟨by omega, by omega⟩ _ hk hb, refIs_any hh a1 hb, works26]
  by_cases ht : isTreeS (fewH a0) a1 = true
  · obtain ⟨hf, hs, hu⟩ := isTree_iff.1 ht
    obtain ⟨⟨a, b⟩, c⟩ := fitH_iff.1 hf
    have hl := hb hf
    have hok := binds_short c a1.toNat a1 a (by omega) b
    rw [if_pos ht, bnd_some, bnd_some, ht, show notB true = false from rfl, br_f, refhbinds_any hh c a1.toNat a1 a (by omega) b (by omega), bnd_some, ans_any _ 2 ⟨by omega, by omega⟩ _ hk hl (fun p hp => (hok p hp).ok), bnd_some, makeS_srt (isS_srt hs), orF_pairF]
    dsimp only
    rw [eqP_self, br_t, eqB_self, br_t, ee, br_t, bnd_some]
  · rw [if_neg ht, bnd_some, bnd_some, Bool.eq_false_iff.2 ht, show notB false = true from rfl, br_t]
    show br (andB (eqS ByteArray.empty ByteArray.empty) (andB (eqS ByteArray.empty ByteArray.empty) true)) (br true (br (eqI 0 0) (br (eqI 4 4) _ _) _) _) _ = _
    rw [es, ee, ee, show andB true (andB true true) = true from rfl, br_t, br_t, br_t, br_t, bnd_some]
end Go.Proofs.Ytimgaglpempfeaa.Pure
