/- Plain lemmas on the words in which the interpreter tells what a function does. No conditions but those that each names. -/
import Derived.Test.YtobfcaejpcpboaaStr
set_option autoImplicit false
set_option linter.unusedVariables false
namespace Go.Abs
section
variable {A R : Type}
/-- (No proofs by computing: so that the kernel doesn't unfold what stands in them.) -/
theorem bnd_some (a : A) (K : A → Option R) : bnd (some a) K = K a := by
  have h : ∀ o, o = K a → bnd (some a) K = o := fun o h => h ▸ rfl
  exact h _ rfl
theorem br_t (x y : Option R) : br true x y = x := by
  have h : ∀ o, o = x → br true x y = o := fun o h => h ▸ rfl
  exact h _ rfl
theorem br_f (x y : Option R) : br false x y = y := by
  have h : ∀ o, o = y → br false x y = o := fun o h => h ▸ rfl
  exact h _ rfl
theorem br_if (p : Prop) [Decidable p] (x y : Option R) : br (decide p) x y = if p then x else y := by
  by_cases h : p
  · rw [if_pos h, decide_eq_true h, br_t]
  · rw [if_neg h, decide_eq_false h, br_f]
theorem br_b (b : Bool) (x y : Option R) : br b x y = if b = true then x else y := by
  cases b
  · rw [br_f, if_neg (by simp)]
  · rw [br_t, if_pos rfl]
theorem both_self (x : Option R) : both x x = x := by
  unfold both
  rw [if_pos rfl]
theorem eqI_d (a b : Int) : eqI a b = decide (a = b) := rfl
theorem ltI_d (a b : Int) : ltI a b = decide (a < b) := rfl
theorem leI_d (a b : Int) : leI a b = decide (a ≤ b) := rfl
theorem notB_d (p : Prop) [Decidable p] : notB (decide p) = decide (¬ p) := by by_cases h : p <;> simp [notB, h]
theorem andB_d (p q : Prop) [Decidable p] [Decidable q] : andB (decide p) (decide q) = decide (p ∧ q) := by by_cases h : p <;> by_cases k : q <;> simp [andB, h, k]
theorem eqS_d (a b : ByteArray) : eqS a b = decide (a = b) := toList_beq a b
theorem ofN_d (n : Nat) : ofN n = (n : Int) := rfl
theorem toN_d (n : Nat) : toN (n : Int) = n := Int.toNat_natCast n
theorem lenL_d (t : Ty) (l : List (den t)) : lenL t l = l.length := rfl
theorem lenS_d (s : ByteArray) : lenS s = s.size := rfl
theorem appL_d (t : Ty) (a b : List (den t)) : appL t a b = a ++ b := rfl
theorem fitL_d (t : Ty) (l : List (den t)) : fitL t l = decide (l.length ≤ 1073741824) := rfl
theorem ixL_d (t : Ty) (l : List (den t)) (i : Nat) (h : i < l.length) : ixL t l (i : Int) = l[i] := by
  unfold ixL
  rw [Int.toNat_natCast, List.getD_eq_getElem?_getD, List.getElem?_eq_getElem h]
  rfl
theorem wrap_i64_id {x : Int} (h0 : -9223372036854775808 ≤ x) (h1 : x ≤ 9223372036854775807) : IntKind.i64.wrap x = x := by
  rw [IntKind.wrap_i64]; omega
theorem addI_d {a b : Int} (h0 : -9223372036854775808 ≤ a + b) (h1 : a + b ≤ 9223372036854775807) : addI .i64 a b = a + b := wrap_i64_id h0 h1
theorem subI_d {a b : Int} (h0 : -9223372036854775808 ≤ a - b) (h1 : a - b ≤ 9223372036854775807) : subI .i64 a b = a - b := wrap_i64_id h0 h1
theorem add1 (n : Nat) (h : n < 9223372036854775807) : addI .i64 (n : Int) 1 = ((n + 1 : Nat) : Int) := by
  rw [addI_d (by omega) (by omega)]; omega
theorem sub1 (n : Nat) (h : 0 < n) (h' : n < 9223372036854775807) : subI .i64 (n : Int) 1 = ((n - 1 : Nat) : Int) := by
  rw [subI_d (by omega) (by omega)]; omega
theorem maxI_d (a b : Int) : maxI a b = max a b := by unfold maxI; rw [Int.max_def]; split <;> split <;> omega
theorem minI_d (a b : Int) : minI a b = min a b := by unfold minI; rw [Int.min_def]; split <;> split <;> omega
theorem subL0 (t : Ty) (l : List (den t)) (j : Nat) : subL t l 0 j = l.take j := by
  unfold subL
  rw [List.drop_zero, Nat.sub_zero]
theorem getS_bt (a : ByteArray) (i : Int) : getS a (toN i) = bt a i := rfl
theorem some_int {a b : Int} (h : a = b) : (some a : Option Int) = some b := by rw [h]
theorem some_bool {a b : Bool} (h : a = b) : (some a : Option Bool) = some b := by rw [h]
theorem subS_d (a : ByteArray) (i j : Nat) : subS a i j = a.extract i j := rfl
end
end Go.Abs
