/- The statement OrderCompares, over numbers and lists: Compare, Common and Between tell what the document says, for all texts. -/
import Derived.Test.YtgpdodmljmanoaaPOrdx2
import Derived.Test.YtgpdodmljmanoaaBase
namespace Go.Proofs.Ytgpdodmljmanoaa.Pure
open Go.RowKit Go.Proofs.Ytgpdodmljmanoaa.POrd Go.Proofs.YtgpdodmljmanoaaW.PrintWords Go.Proofs.YtgpdodmljmanoaaW.PrintLast Go.Proofs.Ytgpdodmljmanoaa.Base
set_option linter.unusedSimpArgs false

theorem cut_any (a : ByteArray) (n : Int) (h0 : 0 ≤ n) : boscagebase_Cut.f a n = some (a.extract 0 n.toNat) := by
  unfold boscagebase_Cut.f mn
  by_cases h : n < (a.size : Int)
  · simp only [h, if_true]
    rw [if_pos h0, if_pos (by omega)]
  · simp only [h, if_false]
    rw [if_pos (by omega), if_pos (by omega), take_all a n.toNat (by omega), take_all a _ (by omega)]
theorem cut_size (a : ByteArray) (n : Nat) : (a.extract 0 n).size ≤ n := by
  rw [← bl_len, bl_take, List.length_take]; omega

theorem common_loop (a b : ByteArray) (m : Nat) (hm : m = min a.size b.size) (hs : a.size ≤ 140737488351232) (d : Nat) : ∀ (k i : Nat), i ≤ m → m - i = d → d < k →
    order_Common.l0 k a b m m i = some ((i + comL ((bl a).drop i) ((bl b).drop i) : Nat) : Int) := by
  induction d with
  | zero =>
    intro k i h1 h2 h3
    obtain ⟨k, rfl⟩ : ∃ m, k = m + 1 := ⟨k - 1, by omega⟩
    simp only [order_Common.l0]
    rw [if_neg (by omega), comL_end a b i (by omega)]
    congr 1
    omega
  | succ d ih =>
    intro k i h1 h2 h3
    obtain ⟨k, rfl⟩ : ∃ m, k = m + 1 := ⟨k - 1, by omega⟩
    simp only [order_Common.l0]
    rw [if_pos (by omega), if_pos (by omega), if_pos (by omega), if_pos (by omega), comL_step a b i (by omega) (by omega)]
    by_cases e : bt a i = bt b i
    · rw [if_pos e, if_pos e, wrap_id (by omega) (by omega)]
      rw [show ((i : Int) + 1) = ((i + 1 : Nat) : Int) by omega, ih k (i + 1) (by omega) (by omega) (by omega)]
      congr 1
      omega
    · rw [if_neg e, if_neg e]
      congr 1
theorem common_any (a b : ByteArray) (hs : a.size ≤ 140737488351232) (k : Nat) (hk : a.size < k) : order_Common.f k a b = some (com a b : Int) := by
  unfold order_Common.f
  have e : mn (a.size : Int) (b.size : Int) = ((min a.size b.size : Nat) : Int) := by unfold mn; split <;> omega
  rw [e]
  have := common_loop a b (min a.size b.size) rfl hs (min a.size b.size) k 0 (by omega) (by omega) (by omega)
  simp at this
  rw [com]
  exact this
theorem compare_any (a b : ByteArray) (hs : a.size ≤ 140737488351232) (k : Nat) (hk : a.size < k) : order_Compare.f k a b = some (cmp a b) := by
  obtain ⟨k, rfl⟩ : ∃ m, k = m + 1 := ⟨k - 1, by omega⟩
  have hle := com_le a b
  unfold order_Compare.f
  rw [common_any a b hs (k + 1) hk]
  simp only [bsome]
  rw [cmp_com]
  by_cases h1 : com a b = a.size
  · have h1' : ((com a b : Nat) : Int) = (a.size : Int) := by omega
    rw [if_pos h1, if_pos h1']
    by_cases h2 : com a b = b.size
    · have h2' : ((com a b : Nat) : Int) = (b.size : Int) := by omega
      simp only [order_Compare.j0]
      simp [h2, h2']
    · have h2' : ¬ ((com a b : Nat) : Int) = (b.size : Int) := by omega
      simp only [order_Compare.j0]
      rw [if_neg (by simpa using h2'), if_pos h1', if_neg h2]
  · have h1' : ¬ ((com a b : Nat) : Int) = (a.size : Int) := by omega
    rw [if_neg h1, if_neg h1']
    simp only [order_Compare.j0]
    rw [if_neg (by simp), if_neg h1']
    by_cases h2 : com a b = b.size
    · rw [if_pos (by omega), if_pos h2]
    · rw [if_neg (by omega), if_neg h2, if_pos (by omega), if_pos (by omega), if_pos (by omega)]
      split <;> rfl

theorem middle_any (a b : ByteArray) (hs : a.size ≤ 140737488351232) (k : Nat) (hk : a.size < k) :
    order_Middle.f k a b = some (if lt a b = true then (b.extract 0 (com a b + 1), true) else (⟨#[]⟩, false)) := by
  have hle := com_le a b
  unfold order_Middle.f
  rw [compare_any a b hs k hk]
  simp only [bsome]
  by_cases h : lt a b = true
  · have h1 := cmp_neg.2 h
    have h2 := lt_com_lt h
    rw [if_neg (by omega), common_any a b hs k hk]
    simp only [bsome]
    rw [wrap_id (by omega) (by omega), if_pos (by omega), if_pos (by omega), if_pos h, show ((com a b : Int) + 1).toNat = com a b + 1 by omega]
  · have h1 : ¬ cmp a b < 0 := fun e => h (cmp_neg.1 e)
    rw [if_pos (by omega), if_neg h]

theorem between_any (lo hi s : ByteArray) (h1 : lo.size ≤ 140737488351232) (h2 : s.size ≤ 140737488351232) (k : Nat) (k1 : lo.size < k) (k2 : s.size < k) :
    order_Between.f k lo hi s = some (!lt s lo && lt s hi) := by
  unfold order_Between.f
  rw [compare_any lo s h1 k k1, compare_any s hi h2 k k2]
  simp only [bsome]
  by_cases h : lt s lo = true
  · have := cmp_pos.2 h
    rw [if_neg (by omega)]
    simp [h]
  · have h' : ¬ 0 < cmp lo s := fun e => h (cmp_pos.1 e)
    rw [if_pos (by omega)]
    simp only [h, Bool.not_false, Bool.true_and]
    congr 1
    by_cases e : lt s hi = true
    · rw [e]; exact decide_eq_true (cmp_neg.2 e)
    · rw [Bool.eq_false_iff.2 e]; exact decide_eq_false (fun q => e (cmp_neg.1 q))

theorem less_loop (a b : ByteArray) (hs : a.size ≤ 140737488351232) (d : Nat) : ∀ (k i : Nat), i ≤ a.size → i ≤ b.size → a.size - i = d → 2 * d + 1 < k →
    boscageref01_Less.l0 k a b i = some (ltL ((bl a).drop i) ((bl b).drop i)) := by
  induction d with
  | zero =>
    intro k i h1 h1' h2 h3
    obtain ⟨k, rfl⟩ : ∃ m, k = m + 2 := ⟨k - 2, by omega⟩
    simp only [boscageref01_Less.l0]
    rw [if_neg (by omega)]
    simp only [boscageref01_Less.j1]
    rw [if_neg (by simp), ltL_end a b i h1 h1' (.inl (by omega))]
    congr 1
    exact decide_eq_decide.2 (by omega)
  | succ d ih =>
    intro k i h1 h1' h2 h3
    obtain ⟨k, rfl⟩ : ∃ m, k = m + 2 := ⟨k - 2, by omega⟩
    simp only [boscageref01_Less.l0]
    rw [if_pos (by omega)]
    simp only [boscageref01_Less.j1]
    by_cases hb : i < b.size
    · rw [if_pos (by simpa using hb), if_pos (by omega), if_pos (by omega), if_pos (by omega), ltL_step a b i (by omega) hb]
      by_cases e : bt a i = bt b i
      · rw [if_pos e, if_pos e, wrap_id (by omega) (by omega)]
        rw [show ((i : Int) + 1) = ((i + 1 : Nat) : Int) by omega]
        exact ih k (i + 1) (by omega) (by omega) (by omega) (by omega)
      · rw [if_neg e, if_neg e]
    · rw [if_neg (by simpa using hb), ltL_end a b i h1 h1' (.inr (by omega))]
      congr 1
      exact decide_eq_decide.2 (by omega)
theorem less_any (a b : ByteArray) (hs : a.size ≤ 140737488351232) (k : Nat) (hk : 2 * a.size + 1 < k) : boscageref01_Less.f k a b = some (lt a b) := by
  unfold boscageref01_Less.f
  have := less_loop a b hs a.size k 0 (by omega) (by omega) (by omega) (by omega)
  simp only [List.drop_zero, Int.ofNat_zero, Int.cast_ofNat_Int] at this
  exact this

theorem refcommon_loop (a b : ByteArray) (hs : a.size ≤ 140737488351232) (d : Nat) : ∀ (k i : Nat), i ≤ a.size → i ≤ b.size → a.size - i = d → d < k →
    boscageref01_Common.l0 k a b i = some ((i + comL ((bl a).drop i) ((bl b).drop i) : Nat) : Int) := by
  induction d with
  | zero =>
    intro k i h1 h1' h2 h3
    obtain ⟨k, rfl⟩ : ∃ m, k = m + 1 := ⟨k - 1, by omega⟩
    simp only [boscageref01_Common.l0]
    rw [if_neg (by omega), comL_end a b i (by omega)]
    congr 1
  | succ d ih =>
    intro k i h1 h1' h2 h3
    obtain ⟨k, rfl⟩ : ∃ m, k = m + 1 := ⟨k - 1, by omega⟩
    simp only [boscageref01_Common.l0]
    rw [if_pos (by omega)]
    by_cases hb : i < b.size
    · rw [if_pos (by omega), if_pos (by omega), comL_step a b i (by omega) hb]
      by_cases e : bt a i = bt b i
      · rw [if_pos e, if_pos e, wrap_id (by omega) (by omega)]
        rw [show ((i : Int) + 1) = ((i + 1 : Nat) : Int) by omega, ih k (i + 1) (by omega) (by omega) (by omega) (by omega)]
        congr 1
        omega
      · rw [if_neg e, if_neg e]
        congr 1
    · rw [if_neg (by omega), comL_end a b i (by omega)]
      congr 1
theorem refcommon_any (a b : ByteArray) (hs : a.size ≤ 140737488351232) (k : Nat) (hk : a.size < k) : boscageref01_Common.f k a b = some (com a b : Int) := by
  unfold boscageref01_Common.f
  have := refcommon_loop a b hs a.size k 0 (by omega) (by omega) (by omega) (by omega)
  simp at this
  rw [com]
  exact this

theorem refcompare_any (a b : ByteArray) (hs : a.size ≤ 140737488351232) (hs' : b.size ≤ 140737488351232) (k : Nat) (hk : 2 * a.size + 1 < k) (hk' : 2 * b.size + 1 < k) : boscageref01_Compare.f k a b = some (cmp a b) := by
  unfold boscageref01_Compare.f
  rw [less_any a b hs k hk, less_any b a hs' k hk']
  simp only [bsome]
  by_cases h : lt a b = true
  · have hn := lt_ne h
    rw [if_pos h]
    unfold cmp
    rw [if_neg hn, if_pos h]
  · rw [if_neg h]
    by_cases h' : lt b a = true
    · have hn : a ≠ b := fun e => lt_ne h' e.symm
      rw [if_pos h']
      unfold cmp
      rw [if_neg hn, if_neg h]
    · rw [if_neg h']
      have : a = b := by
        by_cases e : a = b
        · exact e
        · rcases lt_total e with q | q
          · exact absurd q h
          · exact absurd q h'
      unfold cmp
      rw [if_pos this]

theorem works01_any (k : Nat) (hk : 10 < k) : boscagelaw01_works.f k = some true := by
  unfold boscagelaw01_works.f
  rw [middle_any _ _ (by decide) k (by show 3 < k; omega), middle_any _ _ (by decide) k (by show 1 < k; omega), compare_any _ _ (by decide) k (by show 1 < k; omega)]
  simp only [bsome]
  have e1 : lt (⟨#[97, 98, 99]⟩ : ByteArray) (⟨#[98]⟩ : ByteArray) = true := by decide
  have e2 : lt (⟨#[97]⟩ : ByteArray) (⟨#[97, 98, 99]⟩ : ByteArray) = true := by decide
  have e3 : cmp (⟨#[97]⟩ : ByteArray) (⟨#[98]⟩ : ByteArray) = -1 := by decide
  have c1 : com (⟨#[97, 98, 99]⟩ : ByteArray) (⟨#[98]⟩ : ByteArray) = 0 := by decide
  have c2 : com (⟨#[97]⟩ : ByteArray) (⟨#[97, 98, 99]⟩ : ByteArray) = 1 := by decide
  rw [e1, e2, e3, c1, c2]
  simp [toList_eq, bl_take, bl]

theorem OrderCompares : boscagelaw01_OrderCompares.Pure := by
  intro a b c _ _ _
  refine ⟨20000, ?_⟩
  unfold boscagelaw01_OrderCompares.f
  rw [works01_any 20000 (by omega), cut_any a 2000 (by decide), cut_any b 2000 (by decide), cut_any c 2000 (by decide)]
  have h1 := cut_size a (2000 : Int).toNat
  have h2 := cut_size b (2000 : Int).toNat
  have h3 := cut_size c (2000 : Int).toNat
  have e : (2000 : Int).toNat = 2000 := rfl
  simp only [bsome]
  generalize a.extract 0 (2000 : Int).toNat = a at *
  generalize b.extract 0 (2000 : Int).toNat = b at *
  generalize c.extract 0 (2000 : Int).toNat = c at *
  rw [compare_any a b (by omega) 20000 (by omega), refcompare_any a b (by omega) (by omega) 20000 (by omega) (by omega), common_any a b (by omega) 20000 (by omega), refcommon_any a b (by omega) 20000 (by omega),
    between_any a b c (by omega) (by omega) 20000 (by omega) (by omega), less_any c a (by omega) 20000 (by omega), less_any c b (by omega) 20000 (by omega)]
  simp only [bsome, if_true]
  by_cases g : lt c a = true
  · simp [g]
  · simp [g]

end Go.Proofs.Ytgpdodmljmanoaa.Pure
