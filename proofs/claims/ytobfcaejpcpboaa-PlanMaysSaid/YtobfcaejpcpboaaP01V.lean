/- Texts: their order, their beginnings: what the functions do, plainly. No conditions but those that each names. -/
import Derived.Test.YtobfcaejpcpboaaEqV
import Derived.Test.YtobfcaejpcpboaaPl
set_option linter.unusedVariables false
set_option linter.unusedSimpArgs false
namespace Go.Proofs.Ytobfcaejpcpboaa.AV
open Go.Abs
theorem common_loop (a b : ByteArray) (m : Nat) (hm : m = min a.size b.size) (hs : a.size ≤ 9223372036854775806) (d : Nat) : ∀ (i : Nat), i ≤ m → m - i = d →
    order_Common.l0 a b m m i = some ((i + comL ((bl a).drop i) ((bl b).drop i) : Nat) : Int) := by
  induction d with
  | zero =>
    intro i h1 h2
    rw [order_Common.l0.eq]
    simp only [ltI_d, leI_d, ofN_d, lenS_d, andB_d, eqI_d, notB_d, br_if, getS_bt]
    rw [if_neg (by omega), comL_end a b i (by omega)]
    exact some_int (by omega)
  | succ d ih =>
    intro i h1 h2
    rw [order_Common.l0.eq]
    simp only [ltI_d, leI_d, ofN_d, lenS_d, andB_d, eqI_d, notB_d, br_if, getS_bt]
    rw [if_pos (by omega), if_pos (by omega), if_pos (by omega), comL_step a b i (by omega) (by omega)]
    by_cases e : bt a i = bt b i
    · rw [if_neg (by intro h; exact h e), if_pos e, add1 i (by omega), ih (i + 1) (by omega) (by omega)]
      exact some_int (by omega)
    · rw [if_pos e, if_neg e]
      exact some_int (by omega)
theorem common_any (a b : ByteArray) (hs : a.size ≤ 9223372036854775806) : order_Common a b = some (com a b : Int) := by
  rw [order_Common.eq]
  simp only [ofN_d, lenS_d, minI_d]
  have e : min (a.size : Int) (b.size : Int) = ((min a.size b.size : Nat) : Int) := by omega
  rw [e]
  have := common_loop a b (min a.size b.size) rfl hs (min a.size b.size) 0 (by omega) (by omega)
  simp only [List.drop_zero, Nat.zero_add, Int.ofNat_zero, Int.cast_ofNat_Int] at this
  exact this
theorem compare_any (a b : ByteArray) (hs : a.size ≤ 9223372036854775806) : order_Compare a b = some (cmp a b) := by
  have hle := com_le a b
  rw [order_Compare.eq, common_any a b hs, bnd_some]
  simp only [ofN_d, lenS_d, eqI_d, br_if]
  rw [cmp_com]
  by_cases h1 : com a b = a.size
  · rw [if_pos h1, if_pos (by omega), order_Compare.j0.eq]
    simp only [ltI_d, leI_d, ofN_d, lenS_d, andB_d, eqI_d, notB_d, br_if, getS_bt]
    by_cases h2 : com a b = b.size
    · rw [if_pos (by omega), if_pos h2]
    · rw [if_neg (by omega), if_neg h2, if_pos (by omega)]
  · rw [if_neg h1, if_neg (by omega), order_Compare.j0.eq, br_f]
    simp only [ltI_d, leI_d, ofN_d, lenS_d, andB_d, eqI_d, notB_d, br_if, getS_bt]
    rw [if_neg (by omega)]
    by_cases h2 : com a b = b.size
    · rw [if_pos (by omega), if_pos h2]
    · rw [if_neg (by omega), if_neg h2, if_pos (by omega), if_pos (by omega)]
      show (if bt b (com a b) < bt a (com a b) then _ else _) = _
      by_cases h3 : bt b (com a b) < bt a (com a b)
      · rw [if_pos h3, if_pos h3]
      · rw [if_neg h3, if_neg h3]
theorem less_loop (a b : ByteArray) (hs : a.size ≤ 9223372036854775806) (d : Nat) : ∀ (i : Nat), i ≤ a.size → i ≤ b.size → a.size - i = d →
    ref01_Less.l0 a b i = some (ltL ((bl a).drop i) ((bl b).drop i)) := by
  have stop : ∀ (i : Nat), i ≤ a.size → i ≤ b.size → (a.size ≤ i ∨ b.size ≤ i) → ref01_Less.j1 a b i false = some (ltL ((bl a).drop i) ((bl b).drop i)) := by
    intro i h1 h2 h3
    rw [ref01_Less.j1.eq, br_f, ltL_end a b i h1 h2 h3]
    simp only [ltI_d, ofN_d, lenS_d]
    exact some_bool (decide_eq_decide.2 (by omega))
  induction d with
  | zero =>
    intro i h1 h1' h2
    rw [ref01_Less.l0.eq]
    simp only [ltI_d, ofN_d, lenS_d, br_if]
    rw [if_neg (by omega)]
    exact stop i h1 h1' (.inl (by omega))
  | succ d ih =>
    intro i h1 h1' h2
    rw [ref01_Less.l0.eq]
    simp only [ltI_d, ofN_d, lenS_d, br_if]
    rw [if_pos (by omega)]
    by_cases hb : i < b.size
    · rw [show decide ((i : Int) < (b.size : Int)) = true from decide_eq_true (by omega), ref01_Less.j1.eq, br_t]
      simp only [ltI_d, leI_d, ofN_d, lenS_d, andB_d, eqI_d, notB_d, br_if, getS_bt]
      rw [if_pos (by omega), if_pos (by omega), ltL_step a b i (by omega) hb]
      by_cases e : bt a i = bt b i
      · rw [if_neg (by intro h; exact h e), if_pos e, add1 i (by omega)]
        exact ih (i + 1) (by omega) (by omega) (by omega)
      · rw [if_pos e, if_neg e, if_pos (by omega), if_pos (by omega)]
    · rw [show decide ((i : Int) < (b.size : Int)) = false from decide_eq_false (by omega)]
      exact stop i h1 h1' (.inr (by omega))
theorem less_any (a b : ByteArray) (hs : a.size ≤ 9223372036854775806) : ref01_Less a b = some (lt a b) := by
  rw [ref01_Less.eq]
  have := less_loop a b hs a.size 0 (by omega) (by omega) (by omega)
  simp only [List.drop_zero, Int.ofNat_zero, Int.cast_ofNat_Int] at this
  exact this
/-- The first bytes of a text. -/
def cut (k : Nat) (s : ByteArray) : ByteArray := s.extract 0 k
theorem cut_size (k : Nat) (s : ByteArray) : (cut k s).size = min k s.size := by
  unfold cut
  rw [ByteArray.size_extract]
  omega
theorem cut_cut (k : Nat) (s : ByteArray) : cut k (cut k s) = cut k s := by
  have h : (cut k s).size ≤ k := by rw [cut_size]; omega
  exact take_all _ _ h
theorem base_Cut_any (s : ByteArray) (k : Nat) : base_Cut s (k : Int) = some (cut k s) := by
  rw [base_Cut.eq]
  simp only [ltI_d, leI_d, ofN_d, lenS_d, andB_d, minI_d, br_if, subS_d]
  have hk : (0 : Int) ≤ (k : Int) := by omega
  rw [if_pos (by omega)]
  have e : toN (min (s.size : Int) (k : Int)) = min s.size k := by unfold toN; omega
  rw [e]
  show some (s.extract 0 (min s.size k)) = some (cut k s)
  congr 1
  by_cases h : s.size ≤ k
  · rw [show min s.size k = s.size by omega]
    unfold cut
    rw [take_all s s.size (Nat.le_refl _), take_all s k h]
  · rw [show min s.size k = k by omega]; rfl
theorem base_Cut_40 (s : ByteArray) : base_Cut s (40 : Int) = some (cut 40 s) := base_Cut_any s 40
end Go.Proofs.Ytobfcaejpcpboaa.AV
