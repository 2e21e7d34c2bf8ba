/- Plain lemmas on masks of 32 bits: which numbers are there, how many, which is next; without conditions but those that each lemma names. -/
import Derived.Test.YtobfcaejpcpboaaPl
import Derived.Laws.BitsLemmas
import Derived.Lib.TrailingZeros
set_option linter.unusedVariables false
set_option linter.unusedSimpArgs false
namespace Go.Abs

theorem wf_u32 {a : Int} (h : (Lit.int .u32 a).wf = true) : 0 ≤ a ∧ a < 4294967296 := by
  simp [Lit.wf, IntKind.min, IntKind.max, IntKind.bits, IntKind.signed] at h
  omega
theorem wf_u8 {a : Int} (h : (Lit.int .u8 a).wf = true) : 0 ≤ a ∧ a < 256 := by
  simp [Lit.wf, IntKind.min, IntKind.max, IntKind.bits, IntKind.signed] at h
  omega
theorem wraps_u32 (n : Int) (h0 : 0 ≤ n) (h1 : n < 2 ^ 32) : IntKind.u32.wrap n = n := by rw [IntKind.wrap_u32]; omega
theorem bv32 (a : Nat) (ha : a < 4294967296) : (BitVec.ofInt 32 (a : Int)).toNat = a := by
  rw [BitVec.ofInt_natCast, BitVec.toNat_ofNat]; exact Nat.mod_eq_of_lt (by omega)
theorem and_u32 (a b : Nat) (ha : a < 4294967296) (hb : b < 4294967296) : andI .u32 a b = ((a &&& b : Nat) : Int) := by
  have hx : a &&& b < 2 ^ 32 := Nat.and_lt_two_pow _ (by omega)
  show IntKind.u32.wrap ((BitVec.ofInt 32 (a : Int) &&& BitVec.ofInt 32 (b : Int)).toNat : Int) = _
  rw [BitVec.toNat_and, bv32 a ha, bv32 b hb, IntKind.wrap_u32]
  omega
theorem or_u32 (a b : Nat) (ha : a < 4294967296) (hb : b < 4294967296) : orI .u32 a b = ((a ||| b : Nat) : Int) := by
  have hx : a ||| b < 2 ^ 32 := Nat.or_lt_two_pow (by omega) (by omega)
  show IntKind.u32.wrap ((BitVec.ofInt 32 (a : Int) ||| BitVec.ofInt 32 (b : Int)).toNat : Int) = _
  rw [BitVec.toNat_or, bv32 a ha, bv32 b hb, IntKind.wrap_u32]
  omega
theorem andNot_u32 (a b : Nat) (ha : a < 4294967296) (hb : b < 4294967296) : andNotI .u32 a b = ((a &&& (4294967295 - b) : Nat) : Int) := by
  have hx : a &&& (4294967295 - b) < 2 ^ 32 := Nat.and_lt_two_pow _ (by omega)
  show IntKind.u32.wrap ((BitVec.ofInt 32 (a : Int) &&& ~~~(BitVec.ofInt 32 (b : Int))).toNat : Int) = _
  rw [BitVec.toNat_and, BitVec.toNat_not, bv32 a ha, bv32 b hb, IntKind.wrap_u32]
  have e : 2 ^ 32 - 1 - b = 4294967295 - b := by omega
  rw [e]
  omega
theorem not_bit (b : Nat) (hb : b < 4294967296) (i : Nat) : (4294967295 - b).testBit i = (decide (i < 32) && !b.testBit i) := by
  have := Nat.testBit_two_pow_sub_succ (n := 32) (x := b) (by omega) i
  rw [← this]
  congr 1
  omega

/-- Which numbers are in a mask. -/
def allL (m : Nat) : List Nat := (List.range 32).filter fun j => m.testBit j
def allI (m : Nat) : List Int := (allL m).map fun j : Nat => (j : Int)
/-- How many of the first n numbers are there. -/
def cnt (n m : Nat) : Nat := ((List.range n).filter fun j => m.testBit j).length
theorem cnt_succ (n m : Nat) : cnt (n + 1) m = cnt n m + if m.testBit n = true then 1 else 0 := by
  unfold cnt
  rw [List.range_succ, List.filter_append, List.length_append]
  congr 1
  by_cases h : m.testBit n = true <;> simp [h]
theorem cnt_le (n m : Nat) : cnt n m ≤ n := by
  unfold cnt
  have := List.length_filter_le (fun j => m.testBit j) (List.range n)
  simpa using this
theorem cnt_all (m : Nat) : cnt 32 m = (allL m).length := rfl
theorem cnt_add (a : Nat) (m : Nat) : ∀ b, cnt (a + b) m = cnt a m + cnt b (m / 2 ^ a)
  | 0 => by simp [cnt]
  | b + 1 => by
    rw [show a + (b + 1) = (a + b) + 1 by omega, cnt_succ, cnt_succ, cnt_add a m b, Nat.testBit_div_two_pow, Nat.add_comm b a]
    omega
theorem cnt_mod (m : Nat) : ∀ b, ∀ c, b ≤ c → cnt b (m % 2 ^ c) = cnt b m
  | 0, _, _ => rfl
  | b + 1, c, h => by
    rw [cnt_succ, cnt_succ, cnt_mod m b c (by omega), Nat.testBit_mod_two_pow]
    have : decide (b < c) = true := decide_eq_true (by omega)
    rw [this, Bool.true_and]
theorem cnt_four (m : Nat) : cnt 32 m = cnt 8 (m / 16777216) + cnt 8 (m / 65536 % 256) + cnt 8 (m / 256 % 256) + cnt 8 (m % 256) := by
  have h1 := cnt_add 8 m 24
  have h2 := cnt_add 8 (m / 2 ^ 8) 16
  have h3 := cnt_add 8 (m / 2 ^ 8 / 2 ^ 8) 8
  have e1 := cnt_mod m 8 8 (by omega)
  have e2 := cnt_mod (m / 2 ^ 8) 8 8 (by omega)
  have e3 := cnt_mod (m / 2 ^ 8 / 2 ^ 8) 8 8 (by omega)
  rw [Nat.div_div_eq_div_mul] at h2 h3 e3
  rw [Nat.div_div_eq_div_mul] at h3
  simp only [Nat.reducePow, Nat.reduceMul, Nat.reduceAdd] at h1 h2 h3 e1 e2 e3
  omega
/-- The library's table: how many bits a byte has. -/
def ones : ByteArray := ByteArray.mk #[0, 1, 1, 2, 1, 2, 2, 3, 1, 2, 2, 3, 2, 3, 3, 4, 1, 2, 2, 3, 2, 3, 3, 4, 2, 3, 3, 4, 3, 4, 4, 5, 1, 2, 2, 3, 2, 3, 3, 4, 2, 3, 3, 4, 3, 4, 4, 5, 2, 3, 3, 4, 3, 4, 4, 5, 3, 4, 4, 5, 4, 5, 5, 6, 1, 2, 2, 3, 2, 3, 3, 4, 2, 3, 3, 4, 3, 4, 4, 5, 2, 3, 3, 4, 3, 4, 4, 5, 3, 4, 4, 5, 4, 5, 5, 6, 2, 3, 3, 4, 3, 4, 4, 5, 3, 4, 4, 5, 4, 5, 5, 6, 3, 4, 4, 5, 4, 5, 5, 6, 4, 5, 5, 6, 5, 6, 6, 7, 1, 2, 2, 3, 2, 3, 3, 4, 2, 3, 3, 4, 3, 4, 4, 5, 2, 3, 3, 4, 3, 4, 4, 5, 3, 4, 4, 5, 4, 5, 5, 6, 2, 3, 3, 4, 3, 4, 4, 5, 3, 4, 4, 5, 4, 5, 5, 6, 3, 4, 4, 5, 4, 5, 5, 6, 4, 5, 5, 6, 5, 6, 6, 7, 2, 3, 3, 4, 3, 4, 4, 5, 3, 4, 4, 5, 4, 5, 5, 6, 3, 4, 4, 5, 4, 5, 5, 6, 4, 5, 5, 6, 5, 6, 6, 7, 3, 4, 4, 5, 4, 5, 5, 6, 4, 5, 5, 6, 5, 6, 6, 7, 4, 5, 5, 6, 5, 6, 6, 7, 5, 6, 6, 7, 6, 7, 7, 8]
theorem ones_len : lenS ones = 256 := by decide +kernel
theorem cnt_table : ∀ i : Fin 256, bt ones ((i.val : Nat) : Int) = ((cnt 8 i.val : Nat) : Int) := by
  decide +kernel
theorem cnt_tab (i : Nat) (h : i < 256) : bt ones (i : Int) = ((cnt 8 i : Nat) : Int) := cnt_table ⟨i, h⟩

/-- How many numbers of a mask are below one. -/
def cl (i : Int) : Nat := (min (max i 0) 32).toNat
theorem cl_le (i : Int) : cl i ≤ 32 := by unfold cl; omega
def low (i : Int) : Nat := 2 ^ cl i - 1
theorem low_lt (i : Int) : low i < 4294967296 := by
  have := Nat.pow_le_pow_right (n := 2) (by omega) (cl_le i)
  unfold low
  omega
theorem low_bit (i : Int) (j : Nat) : (low i).testBit j = decide (j < cl i) := by
  unfold low
  exact Nat.testBit_two_pow_sub_one _ _
theorem cnt_low (m : Nat) (i : Int) : ∀ n, n ≤ 32 → cnt n (m &&& low i) = cnt (min n (cl i)) m
  | 0, _ => by simp [cnt]
  | n + 1, h => by
    have ih := cnt_low m i n (by omega)
    rw [cnt_succ, ih, Nat.testBit_and, low_bit]
    by_cases q : n < cl i
    · rw [Nat.min_eq_left (by omega), Nat.min_eq_left (by omega), cnt_succ]
      simp [q]
    · rw [Nat.min_eq_right (by omega), Nat.min_eq_right (by omega)]
      simp [q]
theorem filter_lt (p : Nat → Bool) (c : Nat) : ∀ n, (((List.range n).filter p).filter fun j => decide (j < c)).length = ((List.range (min n c)).filter p).length
  | 0 => by simp
  | n + 1 => by
    rw [List.range_succ, List.filter_append, List.filter_append, List.length_append, filter_lt p c n]
    by_cases q : n < c
    · rw [Nat.min_eq_left (by omega), Nat.min_eq_left (by omega), List.range_succ, List.filter_append, List.length_append]
      congr 1
      by_cases h : p n = true <;> simp [h, q]
    · rw [Nat.min_eq_right (by omega), Nat.min_eq_right (by omega)]
      by_cases h : p n = true <;> simp [h, q]
/-- How many numbers of a mask are below one, counted in the list. -/
theorem place_list (m : Nat) (i : Int) : cnt (cl i) m = ((allI m).filter fun j => decide (j < i)).length := by
  have h1 := filter_lt (fun j => m.testBit j) (cl i) 32
  have h2 : min 32 (cl i) = cl i := Nat.min_eq_right (cl_le i)
  rw [h2] at h1
  unfold cnt
  rw [← h1]
  unfold allI allL
  rw [List.filter_map, List.length_map]
  congr 1
  apply List.filter_congr
  intro j hj
  have hj' : j < 32 := by
    have := (List.mem_filter.1 hj).1
    simpa using this
  simp only [Function.comp]
  exact decide_eq_decide.2 (by unfold cl; omega)

theorem allI_mem {m : Nat} {x : Int} : x ∈ allI m ↔ ∃ j : Nat, j < 32 ∧ m.testBit j = true ∧ x = j := by
  unfold allI allL
  simp only [List.mem_map, List.mem_filter, List.mem_range]
  constructor
  · rintro ⟨j, ⟨h1, h2⟩, rfl⟩; exact ⟨j, h1, h2, rfl⟩
  · rintro ⟨j, h1, h2, rfl⟩; exact ⟨j, ⟨h1, h2⟩, rfl⟩
theorem allI_len (m : Nat) : (allI m).length = cnt 32 m := by unfold allI; rw [List.length_map]; rfl
theorem allI_sorted (m : Nat) : (allI m).Pairwise (· < ·) := by
  unfold allI allL
  rw [List.pairwise_map]
  exact (List.pairwise_lt_range.imp (fun h => by omega)).filter _
theorem sorted_tail {l : List Int} (hs : l.Pairwise (· < ·)) {i j : Int} {rest : List Int} (h : l.filter (fun x => decide (i < x)) = j :: rest) : l.filter (fun x => decide (j < x)) = rest := by
  induction l with
  | nil => simp at h
  | cons a l ih =>
    obtain ⟨h1, h2⟩ := List.pairwise_cons.1 hs
    by_cases q : i < a
    · have hall : l.filter (fun x => decide (i < x)) = l := List.filter_eq_self.2 (fun x hx => decide_eq_true (by have := h1 x hx; omega))
      rw [List.filter_cons_of_pos (by simpa using q), hall] at h
      injection h with e1 e2
      subst e1; subst e2
      rw [List.filter_cons_of_neg (by simp)]
      exact List.filter_eq_self.2 (fun x hx => decide_eq_true (h1 x hx))
    · rw [List.filter_cons_of_neg (by simpa using q)] at h
      have hj : i < j := by
        have := List.mem_filter.1 (show j ∈ l.filter (fun x => decide (i < x)) by rw [h]; simp)
        simpa using this.2
      rw [List.filter_cons_of_neg (by simp; omega)]
      exact ih h2 h
/-- The next number above one. -/
def next (m : Nat) (i : Int) : Int × Bool := match (allI m).filter (fun x => decide (i < x)) with
  | [] => (0, false)
  | j :: _ => (j, true)
theorem ctz_bit {x : Nat} (h0 : x ≠ 0) (h : x < 4294967296) : x.testBit (Lib.ctz 32 x) = true ∧ Lib.ctz 32 x < 32 ∧ ∀ j, j < Lib.ctz 32 x → x.testBit j = false := by
  obtain ⟨m, hm, hk⟩ := Lib.ctzFrom_spec 32 x (by omega) (by omega)
  have e : Lib.ctz 32 x = Lib.ctzFrom 32 x := by simp [Lib.ctz, h0]
  rw [e]
  generalize Lib.ctzFrom 32 x = c at *
  subst hm
  refine ⟨?_, hk, fun j hj => ?_⟩
  · rw [Nat.testBit_two_pow_mul]
    simp [Nat.testBit_zero]
  · rw [Nat.testBit_two_pow_mul]
    have : ¬ c ≤ j := by omega
    simp [this]
theorem filter_first {l : List Int} (hs : l.Pairwise (· < ·)) {p : Int → Bool} {c : Int} (hc : c ∈ l) (hp : p c = true) (hn : ∀ x ∈ l, x < c → p x = false) : ∃ rest, l.filter p = c :: rest := by
  induction l with
  | nil => simp at hc
  | cons a l ih =>
    obtain ⟨h1, h2⟩ := List.pairwise_cons.1 hs
    rcases List.mem_cons.1 hc with e | e
    · subst e
      exact ⟨l.filter p, List.filter_cons_of_pos hp⟩
    · rw [List.filter_cons_of_neg (by rw [hn a (by simp) (h1 c e)]; simp)]
      exact ih h2 e (fun x hx => hn x (List.mem_cons_of_mem _ hx))
/-- With and without a number. -/
def withM (m : Nat) (i : Int) : Nat := if 0 ≤ i ∧ i < 32 then m ||| 2 ^ i.toNat else m
def withoutM (m : Nat) (i : Int) : Nat := if 0 ≤ i ∧ i < 32 then m &&& (4294967295 - 2 ^ i.toNat) else m
def hasM (m : Nat) (i : Int) : Bool := decide (0 ≤ i ∧ i < 32) && m.testBit i.toNat
theorem pow_lt32 {i : Nat} (h : i < 32) : 2 ^ i < 4294967296 := by
  have := Nat.pow_le_pow_right (n := 2) (by omega) (show i ≤ 31 by omega)
  omega
theorem withM_lt {m : Nat} (hm : m < 4294967296) (i : Int) : withM m i < 4294967296 := by
  unfold withM
  split
  · exact Nat.or_lt_two_pow (n := 32) hm (pow_lt32 (by omega))
  · exact hm
theorem withoutM_lt {m : Nat} (hm : m < 4294967296) (i : Int) : withoutM m i < 4294967296 := by
  unfold withoutM
  split
  · exact Nat.lt_of_le_of_lt Nat.and_le_left hm
  · exact hm
theorem withM_bit (m : Nat) (i : Int) (j : Nat) : (withM m i).testBit j = (m.testBit j || decide (0 ≤ i ∧ i < 32 ∧ i = j)) := by
  unfold withM
  by_cases h : 0 ≤ i ∧ i < 32
  · rw [if_pos h, Nat.testBit_or, Nat.testBit_two_pow]
    congr 1
    exact decide_eq_decide.2 (by omega)
  · rw [if_neg h]
    have : ¬ (0 ≤ i ∧ i < 32 ∧ i = j) := by omega
    simp [this]
theorem withoutM_bit {m : Nat} (hm : m < 4294967296) (i : Int) (j : Nat) : (withoutM m i).testBit j = (m.testBit j && !decide (0 ≤ i ∧ i < 32 ∧ i = j)) := by
  unfold withoutM
  by_cases h : 0 ≤ i ∧ i < 32
  · rw [if_pos h, Nat.testBit_and, not_bit _ (pow_lt32 (by omega)), Nat.testBit_two_pow]
    by_cases q : j < 32
    · rw [decide_eq_true q, Bool.true_and]
      congr 2
      exact decide_eq_decide.2 (by omega)
    · have : m.testBit j = false := Nat.testBit_lt_two_pow (Nat.lt_of_lt_of_le hm (Nat.pow_le_pow_right (n := 2) (i := 32) (by omega) (by omega)))
      simp [this]
  · rw [if_neg h]
    have : ¬ (0 ≤ i ∧ i < 32 ∧ i = j) := by omega
    simp [this]
/-- The mask of some numbers. -/
def makeL (l : List Int) : Nat → Nat
  | 0 => 0
  | n + 1 => makeL l n + if (n : Int) ∈ l then 2 ^ n else 0
theorem makeL_lt (l : List Int) : ∀ n, makeL l n < 2 ^ n
  | 0 => by simp [makeL]
  | n + 1 => by
    have := makeL_lt l n
    unfold makeL
    rw [Nat.pow_succ]
    split <;> omega
theorem makeL_bit (l : List Int) (j : Nat) : ∀ n, (makeL l n).testBit j = (decide (j < n) && decide ((j : Int) ∈ l))
  | 0 => by simp [makeL]
  | n + 1 => by
    have hlt := makeL_lt l n
    have ih := makeL_bit l j n
    unfold makeL
    by_cases h : (n : Int) ∈ l
    · rw [if_pos h, Nat.add_comm]
      by_cases e : j = n
      · subst e
        rw [Nat.testBit_two_pow_add_eq, Nat.testBit_lt_two_pow hlt]
        simp [h]
      · rcases Nat.lt_or_ge j n with q | q
        · rw [Nat.testBit_two_pow_add_gt q, ih]
          have : decide (j < n + 1) = decide (j < n) := decide_eq_decide.2 (by omega)
          rw [this]
        · have hb : 2 ^ n + makeL l n < 2 ^ j := by
            have h2 := Nat.pow_le_pow_right (n := 2) (by omega) (show n + 1 ≤ j by omega)
            rw [Nat.pow_succ] at h2
            omega
          rw [Nat.testBit_lt_two_pow hb]
          have : ¬ j < n + 1 := by omega
          simp [this]
    · rw [if_neg h, Nat.add_zero, ih]
      by_cases e : j = n
      · subst e; simp [h]
      · have : decide (j < n + 1) = decide (j < n) := decide_eq_decide.2 (by omega)
        rw [this]
theorem high_bit {m : Nat} (hm : m < 4294967296) {j : Nat} (h : ¬ j < 32) : m.testBit j = false :=
  Nat.testBit_lt_two_pow (Nat.lt_of_lt_of_le hm (Nat.pow_le_pow_right (n := 2) (i := 32) (by omega) (by omega)))
theorem make_with {m : Nat} (hm : m < 4294967296) (i : Int) : makeL (allI m ++ [i]) 32 = withM m i := by
  apply Nat.eq_of_testBit_eq
  intro j
  rw [makeL_bit, withM_bit]
  by_cases q : j < 32
  · rw [decide_eq_true q, Bool.true_and]
    have : ((j : Int) ∈ allI m ++ [i]) ↔ (m.testBit j = true ∨ (0 ≤ i ∧ i < 32 ∧ i = j)) := by
      rw [List.mem_append, allI_mem, List.mem_singleton]
      constructor
      · rintro (⟨k, h1, h2, h3⟩ | h)
        · left; rw [show j = k by omega]; exact h2
        · right; omega
      · rintro (h | h)
        · left; exact ⟨j, q, h, rfl⟩
        · right; omega
    by_cases g : m.testBit j = true
    · rw [g, Bool.true_or]; exact decide_eq_true (this.2 (.inl g))
    · rw [Bool.eq_false_iff.2 g, Bool.false_or]
      exact decide_eq_decide.2 ⟨fun z => (this.1 z).resolve_left g, fun z => this.2 (.inr z)⟩
  · have : ¬ (0 ≤ i ∧ i < 32 ∧ i = j) := by omega
    rw [high_bit hm q]
    simp [q, this]
theorem make_without {m : Nat} (hm : m < 4294967296) (i : Int) : makeL ((allI m).filter fun x => !decide (x = i)) 32 = withoutM m i := by
  apply Nat.eq_of_testBit_eq
  intro j
  rw [makeL_bit, withoutM_bit hm]
  by_cases q : j < 32
  · rw [decide_eq_true q, Bool.true_and]
    have : ((j : Int) ∈ (allI m).filter fun x => !decide (x = i)) ↔ (m.testBit j = true ∧ ¬ (0 ≤ i ∧ i < 32 ∧ i = j)) := by
      rw [List.mem_filter, allI_mem]
      simp only [Bool.not_eq_true', decide_eq_false_iff_not]
      constructor
      · rintro ⟨⟨k, h1, h2, h3⟩, h4⟩
        have e : j = k := by omega
        subst e
        exact ⟨h2, by omega⟩
      · rintro ⟨h1, h2⟩
        exact ⟨⟨j, q, h1, rfl⟩, by omega⟩
    by_cases g : m.testBit j = true
    · rw [g, Bool.true_and]
      by_cases z : 0 ≤ i ∧ i < 32 ∧ i = j
      · rw [decide_eq_true z]; exact decide_eq_false (fun y => (this.1 y).2 z)
      · rw [decide_eq_false z]; exact decide_eq_true (this.2 ⟨g, z⟩)
    · rw [Bool.eq_false_iff.2 g, Bool.false_and]
      exact decide_eq_false (fun y => g (this.1 y).1)
  · rw [high_bit hm q]
    simp [q]
def rd (l : List Int) (i : Int) : Int := l.getD i.toNat 0
theorem rd_nat (l : List Int) (i : Nat) : rd l (i : Int) = l.getD i 0 := by unfold rd; rw [Int.toNat_natCast]
theorem drop_rd (l : List Int) (i : Nat) (h : i < l.length) : l.drop i = rd l (i : Int) :: l.drop (i + 1) := by
  rw [List.drop_eq_getElem_cons h, rd_nat, List.getD_eq_getElem?_getD, List.getElem?_eq_getElem h]
  rfl
theorem rd_mem (l : List Int) (i : Nat) (h : i < l.length) : rd l (i : Int) ∈ l := by
  rw [rd_nat, List.getD_eq_getElem?_getD, List.getElem?_eq_getElem h]
  simp
theorem hasM_mem {m : Nat} {x : Int} (h : x ∈ allI m) : hasM m x = true := by
  obtain ⟨j, h1, h2, rfl⟩ := allI_mem.1 h
  unfold hasM
  rw [Int.toNat_natCast, h2, decide_eq_true (by omega)]
  rfl
/-- Each number has its place in the list. -/
theorem place_at {l : List Int} (hs : l.Pairwise (· < ·)) : ∀ (i : Nat), i < l.length → (l.filter fun j => decide (j < rd l (i : Int))).length = i := by
  induction l with
  | nil => intro i h; simp at h
  | cons a l ih =>
    intro i h
    obtain ⟨h1, h2⟩ := List.pairwise_cons.1 hs
    cases i with
    | zero =>
      have e : rd (a :: l) ((0 : Nat) : Int) = a := rfl
      rw [e, List.filter_cons_of_neg (by simp)]
      rw [List.filter_eq_nil_iff.2 (fun x hx => by have := h1 x hx; simp; omega)]
      rfl
    | succ i =>
      have hi : i < l.length := by simpa using h
      have e : rd (a :: l) ((i + 1 : Nat) : Int) = rd l (i : Int) := by rw [rd_nat, rd_nat]; rfl
      rw [e, List.filter_cons_of_pos (by simpa using h1 _ (rd_mem l i hi)), List.length_cons, ih h2 i hi]
end Go.Abs
