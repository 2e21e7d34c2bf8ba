/- The statement OrderMiddle, over numbers and lists: what the program's Middle tells is what the document says, for all texts. -/
import Derived.Test.YtgpdodmljmanoaaPOrdx2
import Derived.Test.YtgpdodmljmanoaaBase
namespace Go.Proofs.Ytgpdodmljmanoaa.Pure
open Go.RowKit Go.Proofs.Ytgpdodmljmanoaa.POrd Go.Proofs.YtgpdodmljmanoaaW.PrintWords Go.Proofs.YtgpdodmljmanoaaW.PrintLast Go.Proofs.Ytgpdodmljmanoaa.Base
set_option linter.unusedSimpArgs false

theorem cut_any (a : ByteArray) (n : Int) (h0 : 0 ≤ n) : boscagebase_Cut.f a n = some (a.extract 0 n.toNat) := by
  unfold boscagebase_Cut.f mn
  by_cases h : n < (a.size : Int)
  · simp only [h, if_true]
    rw [if_pos h0, if_pos (by omega)]
  · simp only [h, if_false]
    rw [if_pos (by omega), if_pos (by omega), take_all a n.toNat (by omega), take_all a _ (by omega)]
theorem cut_size (a : ByteArray) (n : Nat) : (a.extract 0 n).size ≤ n := by
  rw [← bl_len, bl_take, List.length_take]; omega

theorem common_loop (a b : ByteArray) (m : Nat) (hm : m = min a.size b.size) (hs : a.size ≤ 140737488351232) (d : Nat) : ∀ (k i : Nat), i ≤ m → m - i = d → d < k →
    order_Common.l0 k a b m m i = some ((i + comL ((bl a).drop i) ((bl b).drop i) : Nat) : Int) := by
  induction d with
  | zero =>
    intro k i h1 h2 h3
    obtain ⟨k, rfl⟩ : ∃ m, k = m + 1 := ⟨k - 1, by omega⟩
    simp only [order_Common.l0]
    rw [if_neg (by omega), comL_end a b i (by omega)]
    congr 1
    omega
  | succ d ih =>
    intro k i h1 h2 h3
    obtain ⟨k, rfl⟩ : ∃ m, k = m + 1 := ⟨k - 1, by omega⟩
    simp only [order_Common.l0]
    rw [if_pos (by omega), if_pos (by omega), if_pos (by omega), if_pos (by omega), comL_step a b i (by omega) (by omega)]
    by_cases e : bt a i = bt b i
    · rw [if_pos e, if_pos e, wrap_id (by omega) (by omega)]
      rw [show ((i : Int) + 1) = ((i + 1 : Nat) : Int) by omega, ih k (i + 1) (by omega) (by omega) (by omega)]
      congr 1
      omega
    · rw [if_neg e, if_neg e]
      congr 1
theorem common_any (a b : ByteArray) (hs : a.size ≤ 140737488351232) (k : Nat) (hk : a.size < k) : order_Common.f k a b = some (com a b : Int) := by
  unfold order_Common.f
  have e : mn (a.size : Int) (b.size : Int) = ((min a.size b.size : Nat) : Int) := by unfold mn; split <;> omega
  rw [e]
  have := common_loop a b (min a.size b.size) rfl hs (min a.size b.size) k 0 (by omega) (by omega) (by omega)
  simp at this
  rw [com]
  exact this
theorem compare_any (a b : ByteArray) (hs : a.size ≤ 140737488351232) (k : Nat) (hk : a.size < k) : order_Compare.f k a b = some (cmp a b) := by
  obtain ⟨k, rfl⟩ : ∃ m, k = m + 1 := ⟨k - 1, by omega⟩
  have hle := com_le a b
  unfold order_Compare.f
  rw [common_any a b hs (k + 1) hk]
  simp only [bsome]
  rw [cmp_com]
  by_cases h1 : com a b = a.size
  · have h1' : ((com a b : Nat) : Int) = (a.size : Int) := by omega
    rw [if_pos h1, if_pos h1']
    by_cases h2 : com a b = b.size
    · have h2' : ((com a b : Nat) : Int) = (b.size : Int) := by omega
      simp only [order_Compare.j0]
      simp [h2, h2']
    · have h2' : ¬ ((com a b : Nat) : Int) = (b.size : Int) := by omega
      simp only [order_Compare.j0]
      rw [if_neg (by simpa using h2'), if_pos h1', if_neg h2]
  · have h1' : ¬ ((com a b : Nat) : Int) = (a.size : Int) := by omega
    rw [if_neg h1, if_neg h1']
    simp only [order_Compare.j0]
    rw [if_neg (by simp), if_neg h1']
    by_cases h2 : com a b = b.size
    · rw [if_pos (by omega), if_pos h2]
    · rw [if_neg (by omega), if_neg h2, if_pos (by omega), if_pos (by omega), if_pos (by omega)]
      split <;> rfl

theorem middle_any (a b : ByteArray) (hs : a.size ≤ 140737488351232) (k : Nat) (hk : a.size < k) :
    order_Middle.f k a b = some (if lt a b = true then (b.extract 0 (com a b + 1), true) else (⟨#[]⟩, false)) := by
  have hle := com_le a b
  unfold order_Middle.f
  rw [compare_any a b hs k hk]
  simp only [bsome]
  by_cases h : lt a b = true
  · have h1 := cmp_neg.2 h
    have h2 := lt_com_lt h
    rw [if_neg (by omega), common_any a b hs k hk]
    simp only [bsome]
    rw [wrap_id (by omega) (by omega), if_pos (by omega), if_pos (by omega), if_pos h, show ((com a b : Int) + 1).toNat = com a b + 1 by omega]
  · have h1 : ¬ cmp a b < 0 := fun e => h (cmp_neg.1 e)
    rw [if_pos (by omega), if_neg h]

theorem less_loop (a b : ByteArray) (hs : a.size ≤ 140737488351232) (d : Nat) : ∀ (k i : Nat), i ≤ a.size → i ≤ b.size → a.size - i = d → 2 * d + 1 < k →
    boscageref01_Less.l0 k a b i = some (ltL ((bl a).drop i) ((bl b).drop i)) := by
  induction d with
  | zero =>
    intro k i h1 h1' h2 h3
    obtain ⟨k, rfl⟩ : ∃ m, k = m + 2 := ⟨k - 2, by omega⟩
    simp only [boscageref01_Less.l0]
    rw [if_neg (by omega)]
    simp only [boscageref01_Less.j1]
    rw [if_neg (by simp), ltL_end a b i h1 h1' (.inl (by omega))]
    congr 1
    exact decide_eq_decide.2 (by omega)
  | succ d ih =>
    intro k i h1 h1' h2 h3
    obtain ⟨k, rfl⟩ : ∃ m, k = m + 2 := ⟨k - 2, by omega⟩
    simp only [boscageref01_Less.l0]
    rw [if_pos (by omega)]
    simp only [boscageref01_Less.j1]
    by_cases hb : i < b.size
    · rw [if_pos (by simpa using hb), if_pos (by omega), if_pos (by omega), if_pos (by omega), ltL_step a b i (by omega) hb]
      by_cases e : bt a i = bt b i
      · rw [if_pos e, if_pos e, wrap_id (by omega) (by omega)]
        rw [show ((i : Int) + 1) = ((i + 1 : Nat) : Int) by omega]
        exact ih k (i + 1) (by omega) (by omega) (by omega) (by omega)
      · rw [if_neg e, if_neg e]
    · rw [if_neg (by simpa using hb), ltL_end a b i h1 h1' (.inr (by omega))]
      congr 1
      exact decide_eq_decide.2 (by omega)
theorem less_any (a b : ByteArray) (hs : a.size ≤ 140737488351232) (k : Nat) (hk : 2 * a.size + 1 < k) : boscageref01_Less.f k a b = some (lt a b) := by
  unfold boscageref01_Less.f
  have := less_loop a b hs a.size k 0 (by omega) (by omega) (by omega) (by omega)
  simp only [List.drop_zero, Int.ofNat_zero, Int.cast_ofNat_Int] at this
  exact this

theorem refmiddle_loop (a b : ByteArray) (ha : a.size ≤ 140737488351232) (hb : b.size ≤ 140737488351232) (d : Nat) : ∀ (k i : Nat), i ≤ b.size + 1 → b.size + 1 - i = d → d + (2 * a.size + 1) < k → (lt a b = true → i ≤ com a b + 1) →
    boscageref01_Middle.l0 k a b i = some (if lt a b = true then (b.extract 0 (com a b + 1), true) else (⟨#[]⟩, false)) := by
  induction d with
  | zero =>
    intro k i h1 h2 h3 h4
    obtain ⟨k, rfl⟩ : ∃ m, k = m + 1 := ⟨k - 1, by omega⟩
    simp only [boscageref01_Middle.l0]
    rw [if_neg (by omega)]
    by_cases h : lt a b = true
    · have := lt_com_lt h
      have := h4 h
      omega
    · rw [if_neg h]
  | succ d ih =>
    intro k i h1 h2 h3 h4
    obtain ⟨k, rfl⟩ : ∃ m, k = m + 1 := ⟨k - 1, by omega⟩
    simp only [boscageref01_Middle.l0]
    rw [if_pos (by omega), if_pos (by omega), less_any a _ ha k (by omega)]
    simp only [bsome, Int.toNat_natCast]
    have hx : wrap64 ((i : Int) + 1) = ((i + 1 : Nat) : Int) := by rw [wrap_id (by omega) (by omega)]; omega
    by_cases h : lt a b = true
    · by_cases e : com a b < i
      · have hi : i = com a b + 1 := by have := h4 h; omega
        rw [if_pos ((lt_take h i).2 e), if_pos h, hi]
      · rw [if_neg (fun q => e ((lt_take h i).1 q)), hx, ih k (i + 1) (by omega) (by omega) (by omega) (by intro; omega)]
    · rw [if_neg (by rw [lt_take_not (Bool.eq_false_iff.2 h) i]; simp), hx, ih k (i + 1) (by omega) (by omega) (by omega) (fun q => absurd q h)]
theorem refmiddle_any (a b : ByteArray) (ha : a.size ≤ 140737488351232) (hb : b.size ≤ 140737488351232) (k : Nat) (hk : b.size + 2 * a.size + 2 < k) :
    boscageref01_Middle.f k a b = some (if lt a b = true then (b.extract 0 (com a b + 1), true) else (⟨#[]⟩, false)) := by
  unfold boscageref01_Middle.f
  exact refmiddle_loop a b ha hb (b.size + 1) k 0 (by omega) (by omega) (by omega) (by intro; omega)

theorem works01_any (k : Nat) (hk : 10 < k) : boscagelaw01_works.f k = some true := by
  unfold boscagelaw01_works.f
  rw [middle_any _ _ (by decide) k (by show 3 < k; omega), middle_any _ _ (by decide) k (by show 1 < k; omega), compare_any _ _ (by decide) k (by show 1 < k; omega)]
  simp only [bsome]
  have e1 : lt (⟨#[97, 98, 99]⟩ : ByteArray) (⟨#[98]⟩ : ByteArray) = true := by decide
  have e2 : lt (⟨#[97]⟩ : ByteArray) (⟨#[97, 98, 99]⟩ : ByteArray) = true := by decide
  have e3 : cmp (⟨#[97]⟩ : ByteArray) (⟨#[98]⟩ : ByteArray) = -1 := by decide
  have c1 : com (⟨#[97, 98, 99]⟩ : ByteArray) (⟨#[98]⟩ : ByteArray) = 0 := by decide
  have c2 : com (⟨#[97]⟩ : ByteArray) (⟨#[97, 98, 99]⟩ : ByteArray) = 1 := by decide
  rw [e1, e2, e3, c1, c2]
  simp [toList_eq, bl_take, bl]

theorem OrderMiddle : boscagelaw01_OrderMiddle.Pure := by
  intro a b _ _
  refine ⟨2000, ?_⟩
  unfold boscagelaw01_OrderMiddle.f
  rw [cut_any a 300 (by decide), cut_any b 300 (by decide)]
  have h1 := cut_size a (300 : Int).toNat
  have h2 := cut_size b (300 : Int).toNat
  have e : (300 : Int).toNat = 300 := rfl
  simp only [bsome]
  rw [middle_any _ _ (by omega) 2000 (by omega), refmiddle_any _ _ (by omega) (by omega) 2000 (by omega), works01_any 2000 (by omega)]
  simp

end Go.Proofs.Ytgpdodmljmanoaa.Pure
