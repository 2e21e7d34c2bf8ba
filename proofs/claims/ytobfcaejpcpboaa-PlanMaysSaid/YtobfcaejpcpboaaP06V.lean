/- Masks: how many numbers they have, and which: what the functions do, plainly. No conditions but those that each names. -/
import Derived.Test.YtobfcaejpcpboaaP01V
import Derived.Test.YtobfcaejpcpboaaMsk
set_option linter.unusedVariables false
set_option linter.unusedSimpArgs false
namespace Go.Proofs.Ytobfcaejpcpboaa.AV
open Go.Abs
theorem shr_div (a n : Nat) (k : IntKind) (hn : n ≤ k.bits) : shrI k (a : Int) (n : Int) = ((a / 2 ^ n : Nat) : Int) := by
  unfold shrI
  rw [Int.toNat_natCast, Nat.min_eq_left hn]
  rw [Int.fdiv_eq_ediv_of_nonneg _ (by exact Int.pow_nonneg (by omega))]
  have : ((2 : Int) ^ n) = ((2 ^ n : Nat) : Int) := by simp
  rw [this]
  rfl
theorem ones_any (m : Nat) (hm : m < 4294967296) : math_bits_OnesCount32 m = some (cnt 32 m : Int) := by
  have key : math_bits_OnesCount32 (m : Int) = br (leI 0 (24 : Int)) (br (andB (leI 0 (shrI .u32 (m : Int) (24 : Int))) (ltI (shrI .u32 (m : Int) (24 : Int)) (ofN (lenS ones)))) (br (leI 0 (16 : Int)) (br (andB (leI 0 (andI .u32 (shrI .u32 (m : Int) (16 : Int)) (255 : Int))) (ltI (andI .u32 (shrI .u32 (m : Int) (16 : Int)) (255 : Int)) (ofN (lenS ones)))) (br (leI 0 (8 : Int)) (br (andB (leI 0 (andI .u32 (shrI .u32 (m : Int) (8 : Int)) (255 : Int))) (ltI (andI .u32 (shrI .u32 (m : Int) (8 : Int)) (255 : Int)) (ofN (lenS ones)))) (br (andB (leI 0 (andI .u32 (m : Int) (255 : Int))) (ltI (andI .u32 (m : Int) (255 : Int)) (ofN (lenS ones)))) (some (wrapI .i64 (addI .u8 (addI .u8 (addI .u8 (getS ones (toN (shrI .u32 (m : Int) (24 : Int)))) (getS ones (toN (andI .u32 (shrI .u32 (m : Int) (16 : Int)) (255 : Int))))) (getS ones (toN (andI .u32 (shrI .u32 (m : Int) (8 : Int)) (255 : Int))))) (getS ones (toN (andI .u32 (m : Int) (255 : Int))))))) none) none) none) none) none) none) none := math_bits_OnesCount32.eq (m : Int)
  rw [key]
  clear key
  have s24 : shrI .u32 (m : Int) (24 : Int) = ((m / 16777216 : Nat) : Int) := shr_div m 24 .u32 (by decide)
  have s16 : shrI .u32 (m : Int) (16 : Int) = ((m / 65536 : Nat) : Int) := shr_div m 16 .u32 (by decide)
  have s8 : shrI .u32 (m : Int) (8 : Int) = ((m / 256 : Nat) : Int) := shr_div m 8 .u32 (by decide)
  have e255 : (255 : Int) = ((255 : Nat) : Int) := rfl
  rw [s24, s16, s8]
  have a1 : andI .u32 ((m / 65536 : Nat) : Int) (255 : Int) = ((m / 65536 % 256 : Nat) : Int) := by
    rw [e255, and_u32 _ _ (by omega) (by omega), show (255 : Nat) = 2 ^ 8 - 1 by rfl, Nat.and_two_pow_sub_one_eq_mod]
  have a2 : andI .u32 ((m / 256 : Nat) : Int) (255 : Int) = ((m / 256 % 256 : Nat) : Int) := by
    rw [e255, and_u32 _ _ (by omega) (by omega), show (255 : Nat) = 2 ^ 8 - 1 by rfl, Nat.and_two_pow_sub_one_eq_mod]
  have a3 : andI .u32 (m : Int) (255 : Int) = ((m % 256 : Nat) : Int) := by
    rw [e255, and_u32 _ _ (by omega) (by omega), show (255 : Nat) = 2 ^ 8 - 1 by rfl, Nat.and_two_pow_sub_one_eq_mod]
  rw [a1, a2, a3]
  simp only [getS_bt]
  rw [cnt_tab _ (show m / 16777216 < 256 by omega), cnt_tab _ (show m / 65536 % 256 < 256 by omega), cnt_tab _ (show m / 256 % 256 < 256 by omega), cnt_tab _ (show m % 256 < 256 by omega)]
  simp only [ones_len, ofN_d, ltI_d, leI_d, andB_d, br_if]
  have l0 := cnt_le 8 (m / 16777216)
  have l1 := cnt_le 8 (m / 65536 % 256)
  have l2 := cnt_le 8 (m / 256 % 256)
  have l3 := cnt_le 8 (m % 256)
  have w : ∀ n : Nat, n < 256 → IntKind.u8.wrap (n : Int) = n := fun n hn => by simp [IntKind.wrap, IntKind.bits, IntKind.signed]; omega
  rw [if_pos (by omega), if_pos (by omega), if_pos (by omega), if_pos (by omega), if_pos (by omega), if_pos (by omega), if_pos (by omega)]
  refine some_int ?_
  rw [cnt_four m]
  have d1 : addI .u8 (cnt 8 (m / 16777216) : Int) (cnt 8 (m / 65536 % 256) : Int) = ((cnt 8 (m / 16777216) + cnt 8 (m / 65536 % 256) : Nat) : Int) := by
    unfold addI; rw [← Int.natCast_add, w _ (by omega)]
  rw [d1]
  have d2 : addI .u8 ((cnt 8 (m / 16777216) + cnt 8 (m / 65536 % 256) : Nat) : Int) (cnt 8 (m / 256 % 256) : Int) = ((cnt 8 (m / 16777216) + cnt 8 (m / 65536 % 256) + cnt 8 (m / 256 % 256) : Nat) : Int) := by
    unfold addI; rw [← Int.natCast_add, w _ (by omega)]
  rw [d2]
  have d3 : addI .u8 ((cnt 8 (m / 16777216) + cnt 8 (m / 65536 % 256) + cnt 8 (m / 256 % 256) : Nat) : Int) (cnt 8 (m % 256) : Int) = ((cnt 8 (m / 16777216) + cnt 8 (m / 65536 % 256) + cnt 8 (m / 256 % 256) + cnt 8 (m % 256) : Nat) : Int) := by
    unfold addI; rw [← Int.natCast_add, w _ (by omega)]
  rw [d3]
  exact wrap_i64_id (by omega) (by omega)
theorem count_any (m : Nat) (hm : m < 4294967296) : mask_Count m = some ((allI m).length : Int) := by
  rw [mask_Count.eq, ones_any m hm, bnd_some, allI_len]
theorem refhas_loop (m : Nat) (hm : m < 4294967296) (i : Int) (d : Nat) : ∀ (j : Nat), j ≤ 32 → 32 - j = d → ref06_Has.l0 ((m / 2 ^ j : Nat) : Int) i j = some (decide ((j : Int) ≤ i ∧ i < 32) && m.testBit i.toNat) := by
  induction d with
  | zero =>
    intro j hj hd
    rw [ref06_Has.l0.eq]
    simp only [ltI_d, br_if]
    rw [if_neg (by omega)]
    have : ¬ ((j : Int) ≤ i ∧ i < 32) := by omega
    simp [this]
  | succ d ih =>
    intro j hj hd
    rw [ref06_Has.l0.eq]
    simp only [ltI_d, eqI_d, notB_d, br_if]
    have hdiv : m / 2 ^ j ≤ m := Nat.div_le_self _ _
    have e1 : remI ((m / 2 ^ j : Nat) : Int) 2 = ((m / 2 ^ j % 2 : Nat) : Int) := by unfold remI; rw [Int.tmod_eq_emod_of_nonneg (Int.natCast_nonneg _)]; rfl
    have e2 : quoI .u32 ((m / 2 ^ j : Nat) : Int) 2 = ((m / 2 ^ (j + 1) : Nat) : Int) := by
      unfold quoI
      rw [Int.tdiv_eq_ediv_of_nonneg (Int.natCast_nonneg _), Nat.pow_succ, ← Nat.div_div_eq_div_mul, IntKind.wrap_u32]
      generalize m / 2 ^ j = q at hdiv ⊢
      omega
    have hb : m.testBit j = decide (m / 2 ^ j % 2 = 1) := Nat.testBit_eq_decide_div_mod_eq
    rw [if_pos (by omega), if_pos (by omega), e1, e2, add1 j (by omega), ih (j + 1) (by omega) (by omega)]
    simp only [if_pos (show ¬ (2 : Int) = 0 by omega)]
    by_cases g : m / 2 ^ j % 2 = 1
    · rw [if_pos (by omega)]
      by_cases q : (j : Int) = i
      · rw [if_pos q, ← q, Int.toNat_natCast, hb, decide_eq_true g, decide_eq_true (by omega)]
        rfl
      · rw [if_neg q]
        refine some_bool ?_
        congr 1
        exact decide_eq_decide.2 (by omega)
    · rw [if_neg (by omega)]
      by_cases q : (j : Int) = i
      · rw [← q, Int.toNat_natCast, hb, decide_eq_false g]
        simp
      · refine some_bool ?_
        congr 1
        exact decide_eq_decide.2 (by omega)
theorem refhas_any (m : Nat) (hm : m < 4294967296) (i : Int) : ref06_Has m i = some (hasM m i) := by
  rw [ref06_Has.eq]
  unfold hasM
  have := refhas_loop m hm i 32 0 (by omega) (by omega)
  simp only [Nat.pow_zero, Nat.div_one, Int.cast_ofNat_Int] at this
  exact this
theorem refall_loop (m : Nat) (hm : m < 4294967296) (d : Nat) : ∀ (j : Nat), j ≤ 32 → 32 - j = d →
    ref06_All.l0 m j (((List.range j).filter fun x => m.testBit x).map fun x : Nat => (x : Int)) = some (allI m) := by
  induction d with
  | zero =>
    intro j hj hd
    rw [ref06_All.l0.eq]
    simp only [ltI_d, br_if]
    rw [if_neg (by omega), show j = 32 by omega]
    rfl
  | succ d ih =>
    intro j hj hd
    rw [ref06_All.l0.eq]
    simp only [ltI_d, br_if]
    rw [if_pos (by omega), refhas_any m hm j, bnd_some, br_b, add1 j (by omega)]
    have := ih (j + 1) (by omega) (by omega)
    rw [List.range_succ, List.filter_append, List.map_append] at this
    have hl : (((List.range j).filter fun x => m.testBit x).map fun x : Nat => (x : Int)).length ≤ 32 := by
      rw [List.length_map]
      have := List.length_filter_le (fun x => m.testBit x) (List.range j)
      simp at this
      omega
    have hh : hasM m (j : Int) = m.testBit j := by
      unfold hasM
      rw [Int.toNat_natCast, decide_eq_true (by omega)]
      rfl
    rw [hh]
    by_cases g : m.testBit j = true
    · rw [if_pos g]
      simp only [fitL_d, appL_d, br_if]
      rw [if_pos (by rw [List.length_append]; show _ + 1 ≤ _; omega)]
      have e : [j].filter (fun x => m.testBit x) = [j] := by simp [g]
      rw [e] at this
      exact this
    · rw [if_neg g]
      have e : [j].filter (fun x => m.testBit x) = [] := by simp [g]
      rw [e] at this
      simpa using this
theorem refall_any (m : Nat) (hm : m < 4294967296) : ref06_All m = some (allI m) := by
  rw [ref06_All.eq]
  have := refall_loop m hm 32 0 (by omega) (by omega)
  simpa using this
end Go.Proofs.Ytobfcaejpcpboaa.AV
