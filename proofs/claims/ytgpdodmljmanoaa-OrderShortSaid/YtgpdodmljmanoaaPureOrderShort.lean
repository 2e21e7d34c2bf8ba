/- The statement OrderShort, over numbers and lists: Middle lies between the two texts, and no shorter text does; for all texts. -/
import Derived.Test.YtgpdodmljmanoaaPOrdx2
import Derived.Test.YtgpdodmljmanoaaBase
namespace Go.Proofs.Ytgpdodmljmanoaa.Pure
open Go.RowKit Go.Proofs.Ytgpdodmljmanoaa.POrd Go.Proofs.YtgpdodmljmanoaaW.PrintWords Go.Proofs.YtgpdodmljmanoaaW.PrintLast Go.Proofs.Ytgpdodmljmanoaa.Base
set_option linter.unusedSimpArgs false

theorem cut_any (a : ByteArray) (n : Int) (h0 : 0 ≤ n) : boscagebase_Cut.f a n = some (a.extract 0 n.toNat) := by
  unfold boscagebase_Cut.f mn
  by_cases h : n < (a.size : Int)
  · simp only [h, if_true]
    rw [if_pos h0, if_pos (by omega)]
  · simp only [h, if_false]
    rw [if_pos (by omega), if_pos (by omega), take_all a n.toNat (by omega), take_all a _ (by omega)]
theorem cut_size (a : ByteArray) (n : Nat) : (a.extract 0 n).size ≤ n := by
  rw [← bl_len, bl_take, List.length_take]; omega

theorem common_loop (a b : ByteArray) (m : Nat) (hm : m = min a.size b.size) (hs : a.size ≤ 140737488351232) (d : Nat) : ∀ (k i : Nat), i ≤ m → m - i = d → d < k →
    order_Common.l0 k a b m m i = some ((i + comL ((bl a).drop i) ((bl b).drop i) : Nat) : Int) := by
  induction d with
  | zero =>
    intro k i h1 h2 h3
    obtain ⟨k, rfl⟩ : ∃ m, k = m + 1 := ⟨k - 1, by omega⟩
    simp only [order_Common.l0]
    rw [if_neg (by omega), comL_end a b i (by omega)]
    congr 1
    omega
  | succ d ih =>
    intro k i h1 h2 h3
    obtain ⟨k, rfl⟩ : ∃ m, k = m + 1 := ⟨k - 1, by omega⟩
    simp only [order_Common.l0]
    rw [if_pos (by omega), if_pos (by omega), if_pos (by omega), if_pos (by omega), comL_step a b i (by omega) (by omega)]
    by_cases e : bt a i = bt b i
    · rw [if_pos e, if_pos e, wrap_id (by omega) (by omega)]
      rw [show ((i : Int) + 1) = ((i + 1 : Nat) : Int) by omega, ih k (i + 1) (by omega) (by omega) (by omega)]
      congr 1
      omega
    · rw [if_neg e, if_neg e]
      congr 1
theorem common_any (a b : ByteArray) (hs : a.size ≤ 140737488351232) (k : Nat) (hk : a.size < k) : order_Common.f k a b = some (com a b : Int) := by
  unfold order_Common.f
  have e : mn (a.size : Int) (b.size : Int) = ((min a.size b.size : Nat) : Int) := by unfold mn; split <;> omega
  rw [e]
  have := common_loop a b (min a.size b.size) rfl hs (min a.size b.size) k 0 (by omega) (by omega) (by omega)
  simp at this
  rw [com]
  exact this
theorem compare_any (a b : ByteArray) (hs : a.size ≤ 140737488351232) (k : Nat) (hk : a.size < k) : order_Compare.f k a b = some (cmp a b) := by
  obtain ⟨k, rfl⟩ : ∃ m, k = m + 1 := ⟨k - 1, by omega⟩
  have hle := com_le a b
  unfold order_Compare.f
  rw [common_any a b hs (k + 1) hk]
  simp only [bsome]
  rw [cmp_com]
  by_cases h1 : com a b = a.size
  · have h1' : ((com a b : Nat) : Int) = (a.size : Int) := by omega
    rw [if_pos h1, if_pos h1']
    by_cases h2 : com a b = b.size
    · have h2' : ((com a b : Nat) : Int) = (b.size : Int) := by omega
      simp only [order_Compare.j0]
      simp [h2, h2']
    · have h2' : ¬ ((com a b : Nat) : Int) = (b.size : Int) := by omega
      simp only [order_Compare.j0]
      rw [if_neg (by simpa using h2'), if_pos h1', if_neg h2]
  · have h1' : ¬ ((com a b : Nat) : Int) = (a.size : Int) := by omega
    rw [if_neg h1, if_neg h1']
    simp only [order_Compare.j0]
    rw [if_neg (by simp), if_neg h1']
    by_cases h2 : com a b = b.size
    · rw [if_pos (by omega), if_pos h2]
    · rw [if_neg (by omega), if_neg h2, if_pos (by omega), if_pos (by omega), if_pos (by omega)]
      split <;> rfl

theorem middle_any (a b : ByteArray) (hs : a.size ≤ 140737488351232) (k : Nat) (hk : a.size < k) :
    order_Middle.f k a b = some (if lt a b = true then (b.extract 0 (com a b + 1), true) else (⟨#[]⟩, false)) := by
  have hle := com_le a b
  unfold order_Middle.f
  rw [compare_any a b hs k hk]
  simp only [bsome]
  by_cases h : lt a b = true
  · have h1 := cmp_neg.2 h
    have h2 := lt_com_lt h
    rw [if_neg (by omega), common_any a b hs k hk]
    simp only [bsome]
    rw [wrap_id (by omega) (by omega), if_pos (by omega), if_pos (by omega), if_pos h, show ((com a b : Int) + 1).toNat = com a b + 1 by omega]
  · have h1 : ¬ cmp a b < 0 := fun e => h (cmp_neg.1 e)
    rw [if_pos (by omega), if_neg h]

theorem works01_any (k : Nat) (hk : 10 < k) : boscagelaw01_works.f k = some true := by
  unfold boscagelaw01_works.f
  rw [middle_any _ _ (by decide) k (by show 3 < k; omega), middle_any _ _ (by decide) k (by show 1 < k; omega), compare_any _ _ (by decide) k (by show 1 < k; omega)]
  simp only [bsome]
  have e1 : lt (⟨#[97, 98, 99]⟩ : ByteArray) (⟨#[98]⟩ : ByteArray) = true := by decide
  have e2 : lt (⟨#[97]⟩ : ByteArray) (⟨#[97, 98, 99]⟩ : ByteArray) = true := by decide
  have e3 : cmp (⟨#[97]⟩ : ByteArray) (⟨#[98]⟩ : ByteArray) = -1 := by decide
  have c1 : com (⟨#[97, 98, 99]⟩ : ByteArray) (⟨#[98]⟩ : ByteArray) = 0 := by decide
  have c2 : com (⟨#[97]⟩ : ByteArray) (⟨#[97, 98, 99]⟩ : ByteArray) = 1 := by decide
  rw [e1, e2, e3, c1, c2]
  simp [toList_eq, bl_take, bl]

theorem OrderShort : boscagelaw01_OrderShort.Pure := by
  intro a b c _ _ _
  refine ⟨2000, ?_⟩
  unfold boscagelaw01_OrderShort.f
  rw [works01_any 2000 (by omega), cut_any a 300 (by decide), cut_any b 300 (by decide), cut_any c 300 (by decide)]
  have h1 := cut_size a (300 : Int).toNat
  have h2 := cut_size b (300 : Int).toNat
  have h3 := cut_size c (300 : Int).toNat
  have e : (300 : Int).toNat = 300 := rfl
  simp only [bsome, if_true]
  generalize a.extract 0 (300 : Int).toNat = a at *
  generalize b.extract 0 (300 : Int).toNat = b at *
  generalize c.extract 0 (300 : Int).toNat = c at *
  rw [middle_any a b (by omega) 2000 (by omega)]
  by_cases h : lt a b = true
  · have hle := com_le a b
    have hl := lt_com_lt h
    have hm1 : lt a (b.extract 0 (com a b + 1)) = true := (lt_take h _).2 (by omega)
    have hm2 : lt b (b.extract 0 (com a b + 1)) = false := by
      cases q : lt b (b.extract 0 (com a b + 1)) with
      | false => rfl
      | true =>
        have := lt_take_not (lt_irrefl b) (com a b + 1)
        rw [q] at this
        cases this
    have hsz : (b.extract 0 (com a b + 1)).size = com a b + 1 := by rw [← bl_len, bl_take, List.length_take, bl_len]; omega
    have hc1 : cmp a (b.extract 0 (com a b + 1)) < 0 := cmp_neg.2 hm1
    have hc2 : cmp (b.extract 0 (com a b + 1)) b ≤ 0 := by
      have : ¬ 0 < cmp (b.extract 0 (com a b + 1)) b := fun q => by rw [cmp_pos.1 q] at hm2; cases hm2
      omega
    simp only [bsome, h, if_true]
    rw [compare_any a c (by omega) 2000 (by omega), compare_any a (b.extract 0 (com a b + 1)) (by omega) 2000 (by omega), compare_any (b.extract 0 (com a b + 1)) b (by omega) 2000 (by omega), compare_any c b (by omega) 2000 (by omega)]
    simp only [bsome]
    by_cases g : cmp a c < 0
    · rw [if_pos g, if_pos hc1, if_pos hc2]
      by_cases g2 : cmp c b ≤ 0
      · rw [if_pos g2]
        have : lt b c = false := by
          cases q : lt b c with
          | false => rfl
          | true => have := cmp_pos.2 q; omega
        have := lt_short (cmp_neg.1 g) this h
        rw [hsz]
        congr 1
        exact decide_eq_true (by omega)
      · rw [if_neg g2]
    · rw [if_neg g, if_pos hc1, if_pos hc2]
  · have : ¬ cmp a b < 0 := fun q => h (cmp_neg.1 q)
    rw [compare_any a b (by omega) 2000 (by omega)]
    simp [h]
    omega

end Go.Proofs.Ytgpdodmljmanoaa.Pure
