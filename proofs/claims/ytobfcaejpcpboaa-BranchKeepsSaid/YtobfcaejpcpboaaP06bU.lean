/- Masks: whether a number is there, how many are below it, with it and without it: what the functions do, plainly. No conditions but those that each names. -/
import Derived.Test.YtobfcaejpcpboaaP06U
set_option linter.unusedVariables false
set_option linter.unusedSimpArgs false
namespace Go.Proofs.Ytobfcaejpcpboaa.AU
open Go.Abs
theorem shl_one (i : Nat) (h : i < 32) : shlI .u32 1 (i : Int) = ((2 ^ i : Nat) : Int) := by
  unfold shlI
  have h1 := pow_lt32 h
  rw [Int.toNat_natCast, show IntKind.u32.bits = 32 from rfl, Nat.min_eq_left (by omega), Int.one_mul]
  have : ((2 : Int) ^ i) = ((2 ^ i : Nat) : Int) := by simp
  rw [this]
  generalize 2 ^ i = q at h1 ⊢
  exact wraps_u32 _ (by omega) (by omega)
theorem below_any (i : Int) : mask_below i = some (low i : Int) := by
  rw [mask_below.eq]
  simp only [leI_d, br_if]
  unfold low cl
  by_cases h1 : i ≤ 0
  · rw [if_pos h1, show (min (max i 0) 32).toNat = 0 by omega]
    rfl
  rw [if_neg h1]
  by_cases h2 : 32 ≤ i
  · rw [if_pos h2, show (min (max i 0) 32).toNat = 32 by omega]
    rfl
  rw [if_neg h2, if_pos (by omega), show (min (max i 0) 32).toNat = i.toNat by omega]
  have hi : i = ((i.toNat : Nat) : Int) := by omega
  have hlt : i.toNat < 32 := by omega
  generalize i.toNat = k at hi hlt
  subst hi
  rw [shl_one k hlt]
  have h3 := pow_lt32 hlt
  have h4 : 0 < 2 ^ k := Nat.two_pow_pos _
  refine some_int ?_
  generalize 2 ^ k = q at h3 h4 ⊢
  unfold subI
  rw [wraps_u32 _ (by omega) (by omega)]
  omega
theorem place_m (m : Nat) (hm : m < 4294967296) (i : Int) : mask_Place m i = some (cnt (cl i) m : Int) := by
  rw [mask_Place.eq, below_any, bnd_some, and_u32 _ _ hm (low_lt i), ones_any _ (Nat.lt_of_le_of_lt Nat.and_le_left hm), bnd_some, cnt_low m i 32 (by omega), Nat.min_eq_right (cl_le i)]
theorem in_any (i : Int) : mask_in i = some (decide (0 ≤ i ∧ i < 32)) := by
  rw [mask_in.eq]
  simp only [leI_d, ltI_d, br_if]
  by_cases h : 0 ≤ i
  · rw [if_pos h]; exact some_bool (decide_eq_decide.2 (by omega))
  · rw [if_neg h]; exact some_bool (decide_eq_false (by omega)).symm
theorem has_m (m : Nat) (hm : m < 4294967296) (i : Int) : mask_Has m i = some (hasM m i) := by
  rw [mask_Has.eq, in_any, bnd_some]
  simp only [leI_d, eqI_d, br_if]
  unfold hasM
  by_cases h : 0 ≤ i ∧ i < 32
  · rw [if_pos h, if_pos h.1, decide_eq_true h, Bool.true_and]
    have hi : i = ((i.toNat : Nat) : Int) := by omega
    have hlt : i.toNat < 32 := by omega
    generalize i.toNat = k at hi hlt
    subst hi
    rw [shr_div m k .u32 (show k ≤ 32 by omega)]
    have hd : m / 2 ^ k ≤ m := Nat.div_le_self _ _
    rw [show (1 : Int) = ((1 : Nat) : Int) from rfl, and_u32 _ _ (by omega) (by omega), Nat.and_one_is_mod]
    rw [show m.testBit k = decide (m / 2 ^ k % 2 = 1) from Nat.testBit_eq_decide_div_mod_eq]
    exact some_bool (decide_eq_decide.2 (by omega))
  · rw [if_neg h, decide_eq_false h]; rfl
theorem with_m (m : Nat) (hm : m < 4294967296) (i : Int) : mask_With m i = some (withM m i : Int) := by
  rw [mask_With.eq, in_any, bnd_some]
  simp only [leI_d, notB_d, br_if]
  unfold withM
  by_cases h : 0 ≤ i ∧ i < 32
  · rw [if_neg (by omega), if_pos h.1, if_pos h]
    have hi : i = ((i.toNat : Nat) : Int) := by omega
    have hlt : i.toNat < 32 := by omega
    generalize i.toNat = k at hi hlt
    subst hi
    rw [shl_one k hlt, or_u32 _ _ hm (pow_lt32 hlt)]
  · rw [if_pos h, if_neg h]
theorem without_m (m : Nat) (hm : m < 4294967296) (i : Int) : mask_Without m i = some (withoutM m i : Int) := by
  rw [mask_Without.eq, in_any, bnd_some]
  simp only [leI_d, notB_d, br_if]
  unfold withoutM
  by_cases h : 0 ≤ i ∧ i < 32
  · rw [if_neg (by omega), if_pos h.1, if_pos h]
    have hi : i = ((i.toNat : Nat) : Int) := by omega
    have hlt : i.toNat < 32 := by omega
    generalize i.toNat = k at hi hlt
    subst hi
    rw [shl_one k hlt, andNot_u32 _ _ hm (pow_lt32 hlt)]
  · rw [if_pos h, if_neg h]
/-! ### A mask made of numbers -/
theorem make_l1 (l : List Int) (hl : l.length ≤ 1000000) (x1 x2 x3 : Int) (d : Nat) : ∀ (k : Nat) (c : Bool), k ≤ l.length → l.length - k = d →
    ref06_Make.l1 l x1 x2 x3 c k = if (c || decide (x3 ∈ l.drop k)) = true then ref06_Make.l0 l (addI .u32 x1 x2) (mulI .u32 2 x2) (addI .i64 x3 1) else ref06_Make.l0 l x1 (mulI .u32 2 x2) (addI .i64 x3 1) := by
  induction d with
  | zero =>
    intro k c hk hd
    rw [ref06_Make.l1.eq]
    simp only [ltI_d, leI_d, ofN_d, lenL_d, br_if]
    simp only [br_b]
    rw [if_neg (by omega), show k = l.length by omega, List.drop_length]
    simp
  | succ d ih =>
    intro k c hk hd
    have hi : k < l.length := by omega
    rw [ref06_Make.l1.eq]
    simp only [ltI_d, leI_d, ofN_d, lenL_d, andB_d, eqI_d, br_if]
    simp only [br_b]
    rw [if_pos (by omega), add1 k (by omega), ih (k + 1) _ (by omega) (by omega)]
    cases c with
    | true => rw [if_pos rfl, Bool.true_or, Bool.true_or]
    | false =>
      rw [if_neg (by simp), if_pos (by omega), ih (k + 1) _ (by omega) (by omega)]
      have e : ixL (.int .i64) l (k : Int) = l[k] := ixL_d (.int .i64) l k hi
      rw [e, List.drop_eq_getElem_cons hi]
      have : (decide (l[k] = x3) || decide (x3 ∈ l.drop (k + 1))) = (false || decide (x3 ∈ l[k] :: l.drop (k + 1))) := by
        rw [Bool.false_or, Bool.eq_iff_iff, Bool.or_eq_true, decide_eq_true_iff, decide_eq_true_iff, decide_eq_true_iff, List.mem_cons]
        exact ⟨fun h => h.elim (fun h => .inl h.symm) .inr, fun h => h.elim (fun h => .inl h.symm) .inr⟩
      rw [this]
theorem make_l0 (l : List Int) (hl : l.length ≤ 1000000) (d : Nat) : ∀ (j : Nat), j ≤ 32 → 32 - j = d → ref06_Make.l0 l (makeL l j : Int) ((2 ^ j % 4294967296 : Nat) : Int) j = some (makeL l 32 : Int) := by
  induction d with
  | zero =>
    intro j hj hd
    rw [ref06_Make.l0.eq]
    simp only [ltI_d, br_if]
    rw [if_neg (by omega), show j = 32 by omega]
  | succ d ih =>
    intro j hj hd
    rw [ref06_Make.l0.eq]
    simp only [ltI_d, br_if]
    have hp := pow_lt32 (show j < 32 by omega)
    have e1 : mulI .u32 2 ((2 ^ j % 4294967296 : Nat) : Int) = ((2 ^ (j + 1) % 4294967296 : Nat) : Int) := by
      unfold mulI
      rw [Nat.pow_succ, IntKind.wrap_u32]
      generalize 2 ^ j = q at hp ⊢
      omega
    have e2 : addI .u32 (makeL l j : Int) ((2 ^ j % 4294967296 : Nat) : Int) = ((makeL l j + 2 ^ j : Nat) : Int) := by
      have h1 := makeL_lt l j
      have h2 : 2 ^ j * 2 ≤ 4294967296 := by
        have := Nat.pow_le_pow_right (n := 2) (by omega) (show j + 1 ≤ 32 by omega)
        rw [Nat.pow_succ] at this
        exact this
      unfold addI
      rw [IntKind.wrap_u32]
      generalize 2 ^ j = q at hp h1 h2 ⊢
      omega
    have := make_l1 l hl (makeL l j) ((2 ^ j % 4294967296 : Nat) : Int) j l.length 0 false (by omega) (by omega)
    rw [show ((0 : Nat) : Int) = 0 from rfl] at this
    rw [if_pos (by omega), this, e1, e2, add1 j (by omega), List.drop_zero, Bool.false_or]
    have ih := ih (j + 1) (by omega) (by omega)
    unfold makeL at ih
    by_cases h : (j : Int) ∈ l
    · rw [if_pos h] at ih
      rw [decide_eq_true h, if_pos rfl]
      exact ih
    · rw [if_neg h, Nat.add_zero] at ih
      rw [decide_eq_false h, if_neg (by simp)]
      exact ih
theorem make_m (l : List Int) (hl : l.length ≤ 1000000) : ref06_Make l = some (makeL l 32 : Int) := by
  rw [ref06_Make.eq]
  have := make_l0 l hl 32 0 (by omega) (by omega)
  exact this
end Go.Proofs.Ytobfcaejpcpboaa.AU
