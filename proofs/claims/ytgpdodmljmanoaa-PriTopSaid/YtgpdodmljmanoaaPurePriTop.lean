/- The statement PriTop, over numbers and lists: Top is the text that none of the others is above; for all lists of texts. -/
import Derived.Test.YtgpdodmljmanoaaPPrix3
import Derived.Test.YtgpdodmljmanoaaBase
import Derived.Test.YtgpdodmljmanoaaBits
namespace Go.Proofs.Ytgpdodmljmanoaa.PurePriTop
open Go.RowKit Go.Proofs.Ytgpdodmljmanoaa.PPri Go.Proofs.YtgpdodmljmanoaaW.PrintWords Go.Proofs.YtgpdodmljmanoaaW.PrintLast Go.Proofs.YtgpdodmljmanoaaW.PrintMore Go.Proofs.Ytgpdodmljmanoaa.Base Go.Proofs.Ytgpdodmljmanoaa.Bits
set_option linter.unusedSimpArgs false
set_option linter.unusedVariables false

theorem cut_any (a : ByteArray) (n : Int) (h0 : 0 ≤ n) : boscagebase_Cut.f a n = some (a.extract 0 n.toNat) := by
  unfold boscagebase_Cut.f mn
  by_cases h : n < (a.size : Int)
  · simp only [h, if_true]
    rw [if_pos h0, if_pos (by omega)]
  · simp only [h, if_false]
    rw [if_pos (by omega), if_pos (by omega), take_all a n.toNat (by omega), take_all a _ (by omega)]
theorem cut_size (a : ByteArray) (n : Nat) : (a.extract 0 n).size ≤ n := by
  rw [← bl_len, bl_take, List.length_take]; omega

theorem common_loop (a b : ByteArray) (m : Nat) (hm : m = min a.size b.size) (hs : a.size ≤ 140737488351232) (d : Nat) : ∀ (k i : Nat), i ≤ m → m - i = d → d < k →
    order_Common.l0 k a b m m i = some ((i + comL ((bl a).drop i) ((bl b).drop i) : Nat) : Int) := by
  induction d with
  | zero =>
    intro k i h1 h2 h3
    obtain ⟨k, rfl⟩ : ∃ m, k = m + 1 := ⟨k - 1, by omega⟩
    simp only [order_Common.l0]
    rw [if_neg (by omega), comL_end a b i (by omega)]
    congr 1
    omega
  | succ d ih =>
    intro k i h1 h2 h3
    obtain ⟨k, rfl⟩ : ∃ m, k = m + 1 := ⟨k - 1, by omega⟩
    simp only [order_Common.l0]
    rw [if_pos (by omega), if_pos (by omega), if_pos (by omega), if_pos (by omega), comL_step a b i (by omega) (by omega)]
    by_cases e : bt a i = bt b i
    · rw [if_pos e, if_pos e, wrap_id (by omega) (by omega)]
      rw [show ((i : Int) + 1) = ((i + 1 : Nat) : Int) by omega, ih k (i + 1) (by omega) (by omega) (by omega)]
      congr 1
      omega
    · rw [if_neg e, if_neg e]
      congr 1
theorem common_any (a b : ByteArray) (hs : a.size ≤ 140737488351232) (k : Nat) (hk : a.size < k) : order_Common.f k a b = some (com a b : Int) := by
  unfold order_Common.f
  have e : mn (a.size : Int) (b.size : Int) = ((min a.size b.size : Nat) : Int) := by unfold mn; split <;> omega
  rw [e]
  have := common_loop a b (min a.size b.size) rfl hs (min a.size b.size) k 0 (by omega) (by omega) (by omega)
  simp at this
  rw [com]
  exact this
theorem compare_any (a b : ByteArray) (hs : a.size ≤ 140737488351232) (k : Nat) (hk : a.size < k) : order_Compare.f k a b = some (cmp a b) := by
  obtain ⟨k, rfl⟩ : ∃ m, k = m + 1 := ⟨k - 1, by omega⟩
  have hle := com_le a b
  unfold order_Compare.f
  rw [common_any a b hs (k + 1) hk]
  simp only [bsome]
  rw [cmp_com]
  by_cases h1 : com a b = a.size
  · have h1' : ((com a b : Nat) : Int) = (a.size : Int) := by omega
    rw [if_pos h1, if_pos h1']
    by_cases h2 : com a b = b.size
    · have h2' : ((com a b : Nat) : Int) = (b.size : Int) := by omega
      simp only [order_Compare.j0]
      simp [h2, h2']
    · have h2' : ¬ ((com a b : Nat) : Int) = (b.size : Int) := by omega
      simp only [order_Compare.j0]
      rw [if_neg (by simpa using h2'), if_pos h1', if_neg h2]
  · have h1' : ¬ ((com a b : Nat) : Int) = (a.size : Int) := by omega
    rw [if_neg h1, if_neg h1']
    simp only [order_Compare.j0]
    rw [if_neg (by simp), if_neg h1']
    by_cases h2 : com a b = b.size
    · rw [if_pos (by omega), if_pos h2]
    · rw [if_neg (by omega), if_neg h2, if_pos (by omega), if_pos (by omega), if_pos (by omega)]
      split <;> rfl

theorem less_loop (a b : ByteArray) (hs : a.size ≤ 140737488351232) (d : Nat) : ∀ (k i : Nat), i ≤ a.size → i ≤ b.size → a.size - i = d → 2 * d + 1 < k →
    boscageref01_Less.l0 k a b i = some (ltL ((bl a).drop i) ((bl b).drop i)) := by
  induction d with
  | zero =>
    intro k i h1 h1' h2 h3
    obtain ⟨k, rfl⟩ : ∃ m, k = m + 2 := ⟨k - 2, by omega⟩
    simp only [boscageref01_Less.l0]
    rw [if_neg (by omega)]
    simp only [boscageref01_Less.j1]
    rw [if_neg (by simp), ltL_end a b i h1 h1' (.inl (by omega))]
    congr 1
    exact decide_eq_decide.2 (by omega)
  | succ d ih =>
    intro k i h1 h1' h2 h3
    obtain ⟨k, rfl⟩ : ∃ m, k = m + 2 := ⟨k - 2, by omega⟩
    simp only [boscageref01_Less.l0]
    rw [if_pos (by omega)]
    simp only [boscageref01_Less.j1]
    by_cases hb : i < b.size
    · rw [if_pos (by simpa using hb), if_pos (by omega), if_pos (by omega), if_pos (by omega), ltL_step a b i (by omega) hb]
      by_cases e : bt a i = bt b i
      · rw [if_pos e, if_pos e, wrap_id (by omega) (by omega)]
        rw [show ((i : Int) + 1) = ((i + 1 : Nat) : Int) by omega]
        exact ih k (i + 1) (by omega) (by omega) (by omega) (by omega)
      · rw [if_neg e, if_neg e]
    · rw [if_neg (by simpa using hb), ltL_end a b i h1 h1' (.inr (by omega))]
      congr 1
      exact decide_eq_decide.2 (by omega)
theorem less_any (a b : ByteArray) (hs : a.size ≤ 140737488351232) (k : Nat) (hk : 2 * a.size + 1 < k) : boscageref01_Less.f k a b = some (lt a b) := by
  unfold boscageref01_Less.f
  have := less_loop a b hs a.size k 0 (by omega) (by omega) (by omega) (by omega)
  simp only [List.drop_zero, Int.ofNat_zero, Int.cast_ofNat_Int] at this
  exact this

theorem within_any (bits : Int) : hash_within.f bits = some (wid bits : Int) := by
  unfold hash_within.f mn mx wid
  congr 1
  split <;> split <;> omega
theorem cutb_any (h : Nat) (hh : h < 18446744073709551616) (bits : Int) : hash_cut.f h bits = some ((h % 2 ^ wid bits : Nat) : Int) := by
  have hw := wid_le bits
  unfold hash_cut.f
  rw [within_any]
  simp only [bsome]
  by_cases e : wid bits = 64
  · rw [if_pos (by omega), e, Nat.mod_eq_of_lt (by omega)]
  · rw [if_neg (by omega), if_pos (by omega)]
    have hpos : 0 < 2 ^ wid bits := Nat.two_pow_pos _
    have e1 : shl .u64 1 ((wid bits : Nat) : Int) = 2 ^ wid bits := by
      unfold shl
      rw [Int.toNat_natCast, show IntKind.u64.bits = 64 from rfl, Nat.min_eq_left hw, Int.one_mul, wrap_u64]
      have : 2 ^ wid bits ≤ 2 ^ 63 := Nat.pow_le_pow_right (by omega) (by omega)
      have c : ((2 : Int) ^ wid bits) = ((2 ^ wid bits : Nat) : Int) := by simp
      rw [c]
      generalize 2 ^ wid bits = P at this ⊢
      omega
    have e2 : IntKind.u64.wrap ((2 : Int) ^ wid bits - 1) = 2 ^ wid bits - 1 := by
      have h1 : 2 ^ wid bits ≤ 2 ^ 63 := Nat.pow_le_pow_right (by omega) (by omega)
      have c : ((2 : Int) ^ wid bits) = ((2 ^ wid bits : Nat) : Int) := by simp
      rw [c, wrap_u64]
      generalize 2 ^ wid bits = P at h1 hpos ⊢
      omega
    rw [e1, e2, and_u64 _ (by omega) (by omega) _ hw]
    congr 1
theorem hashof_loop (s : ByteArray) (bits : Int) (hs : s.size ≤ 140737488351232) (d : Nat) : ∀ (k i : Nat) (h : Int), 0 ≤ h → h < 18446744073709551616 → i ≤ s.size → s.size - i = d → d < k →
    hash_Of.l0 k s bits h s.size i = some ((((fnv ((bl s).drop i) h).toNat % 2 ^ wid bits : Nat)) : Int) := by
  induction d with
  | zero =>
    intro k i h h0 h1 hi hd hk
    obtain ⟨k, rfl⟩ : ∃ m, k = m + 1 := ⟨k - 1, by omega⟩
    simp only [hash_Of.l0]
    obtain ⟨n, rfl⟩ : ∃ n : Nat, h = n := ⟨h.toNat, by omega⟩
    rw [if_neg (by omega), List.drop_eq_nil_of_le (by rw [bl_len]; omega), cutb_any n (by omega)]
    rfl
  | succ d ih =>
    intro k i h h0 h1 hi hd hk
    obtain ⟨k, rfl⟩ : ∃ m, k = m + 1 := ⟨k - 1, by omega⟩
    simp only [hash_Of.l0]
    obtain ⟨x, e, hx⟩ := drop_cons s i (by omega)
    rw [if_pos (by omega), if_pos (by omega), if_pos (by omega), e, wrap_id (by omega) (by omega)]
    have hr := hstep_range h (bt s i)
    rw [show ((i : Int) + 1) = ((i + 1 : Nat) : Int) by omega]
    have := ih k (i + 1) (hstep h (bt s i)) hr.1 hr.2 (by omega) (by omega) (by omega)
    unfold hstep at this
    rw [this, fnv_cons, hx]
    rfl
theorem hashof_any (s : ByteArray) (bits : Int) (hs : s.size ≤ 140737488351232) (k : Nat) (hk : s.size < k) : hash_Of.f k s bits = some ((hashS s bits : Nat) : Int) := by
  unfold hash_Of.f
  have := hashof_loop s bits hs s.size k 0 14695981039346656037 (by omega) (by omega) (by omega) (by omega) hk
  simp only [List.drop_zero, Int.cast_ofNat_Int] at this
  exact this
theorem clamp_any (bits : Int) : boscageref04_clamp.f bits = some (wid bits : Int) := by
  unfold boscageref04_clamp.f wid
  split
  · congr 1; omega
  · split
    · congr 1; omega
    · congr 1; omega
theorem reflow_loop (bits : Int) (n : Nat) (hn : n < 18446744073709551616) (d : Nat) : ∀ (k i : Nat) (one : Int), i ≤ wid bits → (i < 64 → one = 2 ^ i) → wid bits - i = d → d < k →
    boscageref04_Of.l1 k bits ((n / 2 ^ i : Nat) : Int) ((n % 2 ^ i : Nat) : Int) one i = some ((n % 2 ^ wid bits : Nat) : Int) := by
  have hw := wid_le bits
  induction d with
  | zero =>
    intro k i one hi h1 hd hk
    obtain ⟨k, rfl⟩ : ∃ m, k = m + 1 := ⟨k - 1, by omega⟩
    simp only [boscageref04_Of.l1]
    rw [clamp_any]
    simp only [bsome]
    rw [if_neg (by omega), show i = wid bits by omega]
  | succ d ih =>
    intro k i one hi h1 hd hk
    obtain ⟨k, rfl⟩ : ∃ m, k = m + 1 := ⟨k - 1, by omega⟩
    simp only [boscageref04_Of.l1]
    rw [clamp_any]
    simp only [bsome]
    have hone := h1 (by omega)
    subst hone
    have c : ((2 : Int) ^ i) = ((2 ^ i : Nat) : Int) := by simp
    have p : 2 ^ i ≤ 2 ^ 63 := Nat.pow_le_pow_right (by omega) (by omega)
    have q : n / 2 ^ i ≤ n := Nat.div_le_self _ _
    have q2 : n / 2 ^ i / 2 = n / 2 ^ (i + 1) := by rw [Nat.div_div_eq_div_mul, Nat.pow_succ]
    have m1 := mod_pow_succ n i
    have m2 : n % 2 ^ (i + 1) < 18446744073709551616 := by have := Nat.mod_le n (2 ^ (i + 1)); omega
    rw [if_pos (by omega), wrap_id (x := (i : Int) + 1) (by omega) (by omega), show ((i : Int) + 1) = ((i + 1 : Nat) : Int) by omega]
    rw [Int.tdiv_eq_ediv_of_nonneg (Int.natCast_nonneg _), Int.tmod_eq_emod_of_nonneg (Int.natCast_nonneg _)]
    have e := lowstep (n / 2 ^ i) _ (n % 2 ^ i) _ (2 ^ i) q2 m1 m2 (by omega) p
    rw [← c] at e
    rw [e.1, e.2]
    refine ih k (i + 1) _ (by omega) (fun h => ?_) (by omega) (by omega)
    have p2 : 2 ^ (i + 1) ≤ 2 ^ 63 := Nat.pow_le_pow_right (by omega) (by omega)
    have c2 : ((2 : Int) ^ (i + 1)) = ((2 ^ (i + 1) : Nat) : Int) := by simp
    rw [c, c2, wrap_u64, Nat.pow_succ]
    rw [Nat.pow_succ] at p2
    omega
theorem refof_loop (s : ByteArray) (bits : Int) (hs : s.size ≤ 140737488351232) (d : Nat) : ∀ (k i : Nat) (h : Int), 0 ≤ h → h < 18446744073709551616 → i ≤ s.size → s.size - i = d → d + 65 < k →
    boscageref04_Of.l0 k s bits h i = some ((((fnv ((bl s).drop i) h).toNat % 2 ^ wid bits : Nat)) : Int) := by
  have hw := wid_le bits
  induction d with
  | zero =>
    intro k i h h0 h1 hi hd hk
    obtain ⟨k, rfl⟩ : ∃ m, k = m + 1 := ⟨k - 1, by omega⟩
    simp only [boscageref04_Of.l0]
    obtain ⟨n, rfl⟩ : ∃ n : Nat, h = n := ⟨h.toNat, by omega⟩
    rw [if_neg (by omega), List.drop_eq_nil_of_le (by rw [bl_len]; omega)]
    have := reflow_loop bits n (by omega) (wid bits) k 0 1 (by omega) (fun _ => by simp) (by omega) (by omega)
    simp only [Nat.pow_zero, Nat.div_one, Nat.mod_one, Int.cast_ofNat_Int] at this
    rw [this]
    rfl
  | succ d ih =>
    intro k i h h0 h1 hi hd hk
    obtain ⟨k, rfl⟩ : ∃ m, k = m + 1 := ⟨k - 1, by omega⟩
    simp only [boscageref04_Of.l0]
    obtain ⟨x, e, hx⟩ := drop_cons s i (by omega)
    rw [if_pos (by omega), if_pos (by omega), e, wrap_id (by omega) (by omega)]
    have hr := hstep_range h (bt s i)
    rw [show ((i : Int) + 1) = ((i + 1 : Nat) : Int) by omega]
    have := ih k (i + 1) (hstep h (bt s i)) hr.1 hr.2 (by omega) (by omega) (by omega)
    unfold hstep at this
    rw [this, fnv_cons, hx]
    rfl
theorem refof_any (s : ByteArray) (bits : Int) (hs : s.size ≤ 140737488351232) (k : Nat) (hk : s.size + 65 < k) : boscageref04_Of.f k s bits = some ((hashS s bits : Nat) : Int) := by
  unfold boscageref04_Of.f
  have := refof_loop s bits hs s.size k 0 14695981039346656037 (by omega) (by omega) (by omega) (by omega) hk
  simp only [List.drop_zero, Int.cast_ofNat_Int] at this
  exact this
theorem priof_any (s : ByteArray) (hs : s.size ≤ 140737488351232) (k : Nat) (hk : s.size < k) : pri_Of.f k s = some (pri s) := by
  unfold pri_Of.f
  rw [hashof_any s 64 hs k hk]
  simp only [bsome]
  rfl
theorem above_any (a b : ByteArray) (ha : a.size ≤ 140737488351232) (hb : b.size ≤ 140737488351232) (k : Nat) (h1 : a.size < k) (h2 : b.size < k) : pri_Above.f k a b = some (above a b) := by
  unfold pri_Above.f
  rw [priof_any a ha k h1, priof_any b hb k h2, compare_any a b ha k h1]
  simp only [bsome]
  unfold above
  by_cases e : pri a = pri b
  · rw [if_neg (by omega), if_pos e, if_pos e]
    congr 1
    by_cases q : lt a b = true
    · rw [q]; exact decide_eq_true (cmp_neg.2 q)
    · rw [Bool.eq_false_iff.2 q]; exact decide_eq_false (fun z => q (cmp_neg.1 z))
  · by_cases g : pri a > pri b
    · rw [if_pos g, if_neg e, decide_eq_true g]
    · rw [if_neg g, if_neg e, if_neg e, decide_eq_false g]

theorem down_loop (a : Nat) (d : Nat) : ∀ (k h i : Nat), h < 18446744073709551616 → i ≤ a → a ≤ 64 → a - i = d → d < k → boscageref05_down.l0 k h a i = some ((h / 2 ^ d : Nat) : Int) := by
  induction d with
  | zero =>
    intro k h i hh hi ha hd hk
    obtain ⟨k, rfl⟩ : ∃ m, k = m + 1 := ⟨k - 1, by omega⟩
    simp only [boscageref05_down.l0]
    rw [if_neg (by omega)]
    simp
  | succ d ih =>
    intro k h i hh hi ha hd hk
    obtain ⟨k, rfl⟩ : ∃ m, k = m + 1 := ⟨k - 1, by omega⟩
    simp only [boscageref05_down.l0]
    rw [if_pos (by omega), Int.tdiv_eq_ediv_of_nonneg (by omega), wrap_u64_id (by omega) (by omega), wrap_id (by omega) (by omega), show ((i : Int) + 1) = ((i + 1 : Nat) : Int) by omega, show ((h : Int) / 2) = ((h / 2 : Nat) : Int) by omega]
    rw [ih k (h / 2) (i + 1) (by omega) (by omega) (by omega) (by omega) (by omega), Nat.div_div_eq_div_mul, Nat.pow_succ, Nat.mul_comm 2]
theorem down_any (h : Int) (h0 : 0 ≤ h) (h1 : h < 18446744073709551616) (a : Nat) (ha : a ≤ 64) (k : Nat) (hk : 64 < k) : boscageref05_down.f k h a = some (h / ((2 ^ a : Nat) : Int)) := by
  obtain ⟨n, rfl⟩ : ∃ n : Nat, h = n := ⟨h.toNat, by omega⟩
  unfold boscageref05_down.f
  rw [show (0 : Int) = ((0 : Nat) : Int) by rfl, down_loop a a k n 0 (by omega) (by omega) ha (by omega) (by omega)]
  simp
theorem refpriof_any (s : ByteArray) (hs : s.size ≤ 140737488351232) (k : Nat) (hk : s.size + 65 < k) : boscageref05_Of.f k s = some (pri s) := by
  unfold boscageref05_Of.f pri
  have h64 := hash_lt64 s 64
  rw [refof_any s 64 hs k hk]
  simp only [bsome]
  obtain ⟨h, hh⟩ : ∃ h : Int, ((hashS s 64 : Nat) : Int) = h := ⟨_, rfl⟩
  rw [hh]
  have d1 : boscageref05_down.f k h 30 = some (h / 1073741824) := down_any h (by omega) (by omega) 30 (by omega) k (by omega)
  rw [d1]
  simp only [bsome]
  have r1 : 0 ≤ m1 h ∧ m1 h < 18446744073709551616 := wrap_u64_range _
  obtain ⟨x, hx⟩ : ∃ x : Int, m1 h = x := ⟨_, rfl⟩
  rw [show IntKind.u64.wrap ((Go.bits .xor .u64 h (h / 1073741824)) * 13787848793156543929) = x from hx, hx]
  rw [hx] at r1
  have d2 : boscageref05_down.f k x 27 = some (x / 134217728) := down_any x r1.1 r1.2 27 (by omega) k (by omega)
  rw [d2]
  simp only [bsome]
  have r2 : 0 ≤ m2 x ∧ m2 x < 18446744073709551616 := wrap_u64_range _
  obtain ⟨y, hy⟩ : ∃ y : Int, m2 x = y := ⟨_, rfl⟩
  rw [show IntKind.u64.wrap ((Go.bits .xor .u64 x (x / 134217728)) * 10723151780598845931) = y from hy, hy]
  rw [hy] at r2
  have d3 : boscageref05_down.f k y 31 = some (y / 2147483648) := down_any y r2.1 r2.2 31 (by omega) k (by omega)
  rw [d3]
  simp only [bsome]
  rfl
theorem refabove_any (a b : ByteArray) (ha : a.size ≤ 140737488351232) (hb : b.size ≤ 140737488351232) (k : Nat) (h1 : 2 * a.size + 65 < k) (h2 : b.size + 65 < k) : boscageref05_Above.f k a b = some (above a b) := by
  unfold boscageref05_Above.f
  rw [refpriof_any a ha k (by omega), refpriof_any b hb k (by omega), less_any a b ha k (by omega)]
  simp only [bsome]
  unfold above
  by_cases e : pri a = pri b
  · rw [if_pos e, if_pos e]
  · rw [if_neg e, if_neg e]

theorem top_two (k : Nat) (a b : ByteArray) (ha : a.size ≤ 100) (hb : b.size ≤ 100) (hk : 200 < k) : pri_Top.f k [a, b] = some (if above b a = true then b else a, true) := by
  obtain ⟨k, rfl⟩ : ∃ m, k = m + 3 := ⟨k - 3, by omega⟩
  unfold pri_Top.f
  have e0 : rdOf ByteArray.empty [a, b] 0 = a := rfl
  have e1 : rdOf ByteArray.empty [a, b] 1 = b := rfl
  have w1 : wrap64 (0 + 1) = 1 := by unfold wrap64; omega
  have w2 : wrap64 (1 + 1) = 2 := by unfold wrap64; omega
  have L : (([a, b] : List ByteArray).length : Int) = 2 := rfl
  have l2 : ∀ t, pri_Top.l0 (k + 1) [a, b] t [a, b] 2 2 = some (t, true) := fun t => by
    simp only [pri_Top.l0]
    rw [if_neg (by decide), L]
    rfl
  have l1 : pri_Top.l0 (k + 2) [a, b] a [a, b] 2 1 = some (if above b a = true then b else a, true) := by
    unfold pri_Top.l0
    rw [if_pos (by decide), if_pos (by decide), if_pos (by rw [L]; decide), if_neg (by decide), e1, above_any b a (by omega) (by omega) (k + 1) (by omega) (by omega)]
    simp only [bsome]
    rw [w2, l2, l2]
    by_cases h : above b a = true
    · rw [if_pos h, if_pos h]
    · rw [if_neg h, if_neg h]
  unfold pri_Top.l0
  rw [L, if_pos (by decide), if_pos (by decide), if_pos (by decide), if_pos rfl, w1, e0, l1]
theorem works05_any (k : Nat) (hk : 300 < k) : boscagelaw05_works.f k = some true := by
  unfold boscagelaw05_works.f
  have sa : (⟨#[97]⟩ : ByteArray).size ≤ 100 := by decide
  have sb : (⟨#[98]⟩ : ByteArray).size ≤ 100 := by decide
  have hab : (⟨#[97]⟩ : ByteArray) ≠ ⟨#[98]⟩ := by decide
  have la : (⟨#[97]⟩ : ByteArray).toList = [97] := by rw [toList_eq]
  have lb : (⟨#[98]⟩ : ByteArray).toList = [98] := by rw [toList_eq]
  generalize (⟨#[97]⟩ : ByteArray) = a at *
  generalize (⟨#[98]⟩ : ByteArray) = b at *
  rw [top_two k a b sa sb (by omega), above_any a a (by omega) (by omega) k (by omega) (by omega), above_any a b (by omega) (by omega) k (by omega) (by omega), above_any b a (by omega) (by omega) k (by omega) (by omega), above_irrefl]
  simp only [bsome]
  rcases above_total hab with h | h
  · have h' := above_asymm h
    simp [h, h', la]
  · have h' := above_asymm h
    simp [h, h', lb]

theorem top_loop (l : List ByteArray) (hl : l.length ≤ 1000) (hs : ∀ x ∈ l, x.size ≤ 100) (d : Nat) : ∀ (k i : Nat) (o : ByteArray), o.size ≤ 100 → 0 < i → i ≤ l.length → l.length - i = d → d + 200 < k →
    pri_Top.l0 k l o l l.length i = some (best (l.drop i) o, decide (0 < l.length)) := by
  induction d with
  | zero =>
    intro k i o ho hi0 hi hd hk
    obtain ⟨k, rfl⟩ : ∃ m, k = m + 1 := ⟨k - 1, by omega⟩
    simp only [pri_Top.l0]
    rw [if_neg (by omega), List.drop_eq_nil_of_le (by omega)]
    congr 2
    exact decide_eq_decide.2 (by omega)
  | succ d ih =>
    intro k i o ho hi0 hi hd hk
    obtain ⟨k, rfl⟩ : ∃ m, k = m + 1 := ⟨k - 1, by omega⟩
    simp only [pri_Top.l0]
    have hm := rdOf_mem ByteArray.empty l i (by omega)
    have hx := hs _ hm
    rw [if_pos (by omega), if_pos (by omega), if_pos (by omega), if_neg (by omega), above_any _ o (by omega) (by omega) k (by omega) (by omega), wrap_id (by omega) (by omega), show ((i : Int) + 1) = ((i + 1 : Nat) : Int) by omega, drop_rdOf ByteArray.empty l i (by omega)]
    simp only [bsome]
    unfold best
    by_cases h : above (rdOf ByteArray.empty l (i : Int)) o = true
    · rw [if_pos h, if_pos h]
      exact ih k (i + 1) _ hx (by omega) (by omega) (by omega) (by omega)
    · rw [if_neg h, if_neg h]
      exact ih k (i + 1) _ ho (by omega) (by omega) (by omega) (by omega)
theorem pritop_any (l : List ByteArray) (hl : l.length ≤ 1000) (hs : ∀ x ∈ l, x.size ≤ 100) (k : Nat) (hk : 1400 < k) : pri_Top.f k l = some (topS l) := by
  obtain ⟨k, rfl⟩ : ∃ m, k = m + 1 := ⟨k - 1, by omega⟩
  unfold pri_Top.f
  cases l with
  | nil => simp only [pri_Top.l0]; rw [if_neg (by decide)]; rfl
  | cons x xs =>
    simp only [pri_Top.l0]
    have hx : x.size ≤ 100 := hs x (by simp)
    have e0 : rdOf ByteArray.empty (x :: xs) 0 = x := rfl
    have L : ((x :: xs).length : Int) = xs.length + 1 := by simp
    simp only [List.length_cons] at hl
    rw [if_pos (by omega), if_pos (by omega), if_pos (by omega), if_pos trivial, e0, wrap_id (by omega) (by omega)]
    have := top_loop (x :: xs) (by simp; omega) hs xs.length k 1 x hx (by omega) (by simp) (by simp) (by omega)
    simp only [Int.cast_ofNat_Int] at this
    rw [show (0 : Int) + 1 = 1 by omega, this]
    simp [topS]

theorem reftop_inner (l : List ByteArray) (hl : l.length ≤ 30) (hs : ∀ x ∈ l, x.size ≤ 100) (i : Nat) (hi : i < l.length) (d : Nat) : ∀ (k j : Nat) (top : Bool), j ≤ l.length → l.length - j = d → d + 400 < k →
    boscageref05_Top.l1 k l i top j = (if (top && (l.drop j).all fun x => !above x (rdOf ByteArray.empty l (i : Int))) = true then some (rdOf ByteArray.empty l (i : Int), true) else boscageref05_Top.l0 (k - d - 1) l ((i + 1 : Nat) : Int)) := by
  induction d with
  | zero =>
    intro k j top hj hd hk
    obtain ⟨k, rfl⟩ : ∃ m, k = m + 1 := ⟨k - 1, by omega⟩
    simp only [boscageref05_Top.l1]
    rw [if_neg (by omega), List.drop_eq_nil_of_le (by omega), wrap_id (by omega) (by omega), if_pos (show (0 : Int) ≤ (i : Int) by omega), if_pos (show (i : Int) < (l.length : Int) by omega), show ((i : Int) + 1) = ((i + 1 : Nat) : Int) by omega]
    cases top <;> simp
  | succ d ih =>
    intro k j top hj hd hk
    obtain ⟨k, rfl⟩ : ∃ m, k = m + 1 := ⟨k - 1, by omega⟩
    simp only [boscageref05_Top.l1]
    have hx := hs _ (rdOf_mem ByteArray.empty l i hi)
    have hy := hs _ (rdOf_mem ByteArray.empty l j (by omega))
    rw [if_pos (show (j : Int) < (l.length : Int) by omega), wrap_id (by omega) (by omega), if_pos (show (0 : Int) ≤ (j : Int) by omega), if_pos (show (0 : Int) ≤ (i : Int) by omega), if_pos (show (i : Int) < (l.length : Int) by omega), show ((j : Int) + 1) = ((j + 1 : Nat) : Int) by omega,
      refabove_any _ _ (by omega) (by omega) k (by omega) (by omega), drop_rdOf ByteArray.empty l j (by omega)]
    simp only [bsome, List.all_cons]
    rw [show k + 1 - (d + 1) - 1 = k - d - 1 by omega]
    cases top with
    | true =>
      rw [if_pos rfl, ih k (j + 1) _ (by omega) (by omega) (by omega)]
      simp only [Bool.true_and]
    | false =>
      rw [if_neg (by simp), ih k (j + 1) _ (by omega) (by omega) (by omega)]
      simp only [Bool.false_and]
theorem reftop_loop (l : List ByteArray) (hl : l.length ≤ 30) (hs : ∀ x ∈ l, x.size ≤ 100) (d : Nat) : ∀ (k i : Nat), i ≤ l.length → l.length - i = d → 40 * d + 500 < k → (0 < l.length → ∃ j, i ≤ j ∧ j < l.length ∧ rdOf ByteArray.empty l (j : Int) = (topS l).1) →
    boscageref05_Top.l0 k l i = some (topS l) := by
  induction d with
  | zero =>
    intro k i hi hd hk h
    obtain ⟨k, rfl⟩ : ∃ m, k = m + 1 := ⟨k - 1, by omega⟩
    simp only [boscageref05_Top.l0]
    rw [if_neg (by omega)]
    by_cases q : 0 < l.length
    · obtain ⟨j, h1, h2, _⟩ := h q
      omega
    · obtain rfl : l = [] := List.length_eq_zero_iff.1 (by omega)
      rfl
  | succ d ih =>
    intro k i hi hd hk h
    obtain ⟨k, rfl⟩ : ∃ m, k = m + 1 := ⟨k - 1, by omega⟩
    simp only [boscageref05_Top.l0]
    have hm := rdOf_mem ByteArray.empty l i (by omega)
    have hin := reftop_inner l hl hs i (by omega) l.length k 0 true (by omega) (by omega) (by omega)
    simp only [Int.cast_ofNat_Int, Bool.true_and, List.drop_zero] at hin
    rw [if_pos (by omega), hin]
    by_cases e : rdOf ByteArray.empty l (i : Int) = (topS l).1
    · rw [if_pos (by
        rw [List.all_eq_true]
        intro x hx
        rw [e, top_top hx]
        rfl), e]
      have : (topS l).2 = true := by
        cases l with
        | nil => simp at hm
        | cons x xs => rfl
      rw [← this]
    · rw [if_neg (by
        rw [List.all_eq_true]
        intro q
        exact e (top_only hm (fun z hz => by simpa using q z hz)))]
      refine ih (k - l.length - 1) (i + 1) (by clear h; omega) (by clear h; omega) (by clear h; omega) (fun q => ?_)
      obtain ⟨j, h1, h2, h3⟩ := h q
      refine ⟨j, ?_, h2, h3⟩
      rcases Nat.lt_or_ge i j with g | g
      · omega
      · exact absurd (by rw [show i = j by omega]; exact h3) e
theorem reftop_any (l : List ByteArray) (hl : l.length ≤ 30) (hs : ∀ x ∈ l, x.size ≤ 100) (k : Nat) (hk : 2000 < k) : boscageref05_Top.f k l = some (topS l) := by
  unfold boscageref05_Top.f
  refine reftop_loop l hl hs l.length k 0 (by omega) (by omega) (by omega) (fun q => ?_)
  obtain ⟨j, hj, e⟩ := List.getElem_of_mem (top_mem q)
  exact ⟨j, by omega, hj, by rw [rdOf_nat, List.getD_eq_getElem?_getD, List.getElem?_eq_getElem hj]; exact e⟩
theorem texts_any (l : List ByteArray) (hl : l.length ≤ 1000) : boscagebase_Texts.f l = some l := by
  unfold boscagebase_Texts.f
  simp only [bsome]
  rw [if_pos (by simp; omega)]
  simp

theorem pritop_end (m : List ByteArray) (hm : m.length ≤ 30) (hs : ∀ x ∈ m, x.size ≤ 100) (k : Nat) (hk : 3000 < k) : boscagelaw05_PriTop.j1 k m = some true := by
  obtain ⟨k, rfl⟩ : ∃ n, k = n + 1 := ⟨k - 1, by omega⟩
  simp only [boscagelaw05_PriTop.j1]
  rw [texts_any m (by omega)]
  simp only [bsome]
  rw [pritop_any m (by omega) hs k (by omega), reftop_any m hm hs k (by omega), works05_any k (by omega)]
  simp only [bsome, if_true, beq_self_eq_true]
theorem pritop_fill (l : List ByteArray) (d : Nat) : ∀ (k i : Nat) (m : List ByteArray), m.length = i → i ≤ 30 → 30 - i = d → (∀ x ∈ m, x.size ≤ 100) → d + 4000 < k → boscagelaw05_PriTop.l0 k l m i = some true := by
  induction d with
  | zero =>
    intro k i m hm hi hd hs hk
    obtain ⟨k, rfl⟩ : ∃ n, k = n + 1 := ⟨k - 1, by omega⟩
    simp only [boscagelaw05_PriTop.l0]
    rw [if_neg (show ¬ (i : Int) < 30 by omega), pritop_end m (by omega) hs k (by omega)]
    split <;> rfl
  | succ d ih =>
    intro k i m hm hi hd hs hk
    obtain ⟨k, rfl⟩ : ∃ n, k = n + 1 := ⟨k - 1, by omega⟩
    simp only [boscagelaw05_PriTop.l0]
    rw [if_pos (show (i : Int) < 30 by omega), if_pos (show (0 : Int) ≤ (i : Int) by omega), cut_any _ 100 (by decide), pritop_end m (by omega) hs k (by omega), wrap_id (by omega) (by omega), show ((i : Int) + 1) = ((i + 1 : Nat) : Int) by omega]
    simp only [bsome]
    rw [if_pos (show m.length < 8796093022208 by omega)]
    by_cases q : (i : Int) < (l.length : Int)
    · rw [if_pos q]
      refine ih k (i + 1) _ (by simp [hm]) (by omega) (by omega) (fun x hx => ?_) (by omega)
      rcases List.mem_append.1 hx with h | h
      · exact hs x h
      · rw [List.mem_singleton.1 h]
        exact cut_size _ _
    · rw [if_neg q]
theorem PriTop : boscagelaw05_PriTop.Pure := by
  intro l _
  refine ⟨5000, ?_⟩
  unfold boscagelaw05_PriTop.f
  exact pritop_fill l 30 5000 0 [] rfl (by omega) (by omega) (by simp) (by omega)

end Go.Proofs.Ytgpdodmljmanoaa.PurePriTop
namespace Go.Proofs.Ytgpdodmljmanoaa.Pure
theorem PriTop : Go.Proofs.Ytgpdodmljmanoaa.PPri.boscagelaw05_PriTop.Pure := PurePriTop.PriTop
end Go.Proofs.Ytgpdodmljmanoaa.Pure
