/- The statement HashOrder, over numbers and lists: two hashes with the same chunks are the same, and of two unlike ones just one is ahead; for all texts and bits. -/
import Derived.Test.YtgpdodmljmanoaaPHshx2
import Derived.Test.YtgpdodmljmanoaaBase
import Derived.Test.YtgpdodmljmanoaaBits
namespace Go.Proofs.Ytgpdodmljmanoaa.PureHashOrder
open Go.RowKit Go.Proofs.Ytgpdodmljmanoaa.PHsh Go.Proofs.YtgpdodmljmanoaaW.PrintWords Go.Proofs.YtgpdodmljmanoaaW.PrintLast Go.Proofs.YtgpdodmljmanoaaW.PrintMore Go.Proofs.Ytgpdodmljmanoaa.Base Go.Proofs.Ytgpdodmljmanoaa.Bits
set_option linter.unusedSimpArgs false
set_option linter.unusedVariables false

theorem cut_any (a : ByteArray) (n : Int) (h0 : 0 ≤ n) : boscagebase_Cut.f a n = some (a.extract 0 n.toNat) := by
  unfold boscagebase_Cut.f mn
  by_cases h : n < (a.size : Int)
  · simp only [h, if_true]
    rw [if_pos h0, if_pos (by omega)]
  · simp only [h, if_false]
    rw [if_pos (by omega), if_pos (by omega), take_all a n.toNat (by omega), take_all a _ (by omega)]
theorem cut_size (a : ByteArray) (n : Nat) : (a.extract 0 n).size ≤ n := by
  rw [← bl_len, bl_take, List.length_take]; omega

theorem within_any (bits : Int) : hash_within.f bits = some (wid bits : Int) := by
  unfold hash_within.f mn mx wid
  congr 1
  split <;> split <;> omega
theorem cutb_any (h : Nat) (hh : h < 18446744073709551616) (bits : Int) : hash_cut.f h bits = some ((h % 2 ^ wid bits : Nat) : Int) := by
  have hw := wid_le bits
  unfold hash_cut.f
  rw [within_any]
  simp only [bsome]
  by_cases e : wid bits = 64
  · rw [if_pos (by omega), e, Nat.mod_eq_of_lt (by omega)]
  · rw [if_neg (by omega), if_pos (by omega)]
    have hpos : 0 < 2 ^ wid bits := Nat.two_pow_pos _
    have e1 : shl .u64 1 ((wid bits : Nat) : Int) = 2 ^ wid bits := by
      unfold shl
      rw [Int.toNat_natCast, show IntKind.u64.bits = 64 from rfl, Nat.min_eq_left hw, Int.one_mul, wrap_u64]
      have : 2 ^ wid bits ≤ 2 ^ 63 := Nat.pow_le_pow_right (by omega) (by omega)
      have c : ((2 : Int) ^ wid bits) = ((2 ^ wid bits : Nat) : Int) := by simp
      rw [c]
      generalize 2 ^ wid bits = P at this ⊢
      omega
    have e2 : IntKind.u64.wrap ((2 : Int) ^ wid bits - 1) = 2 ^ wid bits - 1 := by
      have h1 : 2 ^ wid bits ≤ 2 ^ 63 := Nat.pow_le_pow_right (by omega) (by omega)
      have c : ((2 : Int) ^ wid bits) = ((2 ^ wid bits : Nat) : Int) := by simp
      rw [c, wrap_u64]
      generalize 2 ^ wid bits = P at h1 hpos ⊢
      omega
    rw [e1, e2, and_u64 _ (by omega) (by omega) _ hw]
    congr 1
theorem hashof_loop (s : ByteArray) (bits : Int) (hs : s.size ≤ 140737488351232) (d : Nat) : ∀ (k i : Nat) (h : Int), 0 ≤ h → h < 18446744073709551616 → i ≤ s.size → s.size - i = d → d < k →
    hash_Of.l0 k s bits h s.size i = some ((((fnv ((bl s).drop i) h).toNat % 2 ^ wid bits : Nat)) : Int) := by
  induction d with
  | zero =>
    intro k i h h0 h1 hi hd hk
    obtain ⟨k, rfl⟩ : ∃ m, k = m + 1 := ⟨k - 1, by omega⟩
    simp only [hash_Of.l0]
    obtain ⟨n, rfl⟩ : ∃ n : Nat, h = n := ⟨h.toNat, by omega⟩
    rw [if_neg (by omega), List.drop_eq_nil_of_le (by rw [bl_len]; omega), cutb_any n (by omega)]
    rfl
  | succ d ih =>
    intro k i h h0 h1 hi hd hk
    obtain ⟨k, rfl⟩ : ∃ m, k = m + 1 := ⟨k - 1, by omega⟩
    simp only [hash_Of.l0]
    obtain ⟨x, e, hx⟩ := drop_cons s i (by omega)
    rw [if_pos (by omega), if_pos (by omega), if_pos (by omega), e, wrap_id (by omega) (by omega)]
    have hr := hstep_range h (bt s i)
    rw [show ((i : Int) + 1) = ((i + 1 : Nat) : Int) by omega]
    have := ih k (i + 1) (hstep h (bt s i)) hr.1 hr.2 (by omega) (by omega) (by omega)
    unfold hstep at this
    rw [this, fnv_cons, hx]
    rfl
theorem hashof_any (s : ByteArray) (bits : Int) (hs : s.size ≤ 140737488351232) (k : Nat) (hk : s.size < k) : hash_Of.f k s bits = some ((hashS s bits : Nat) : Int) := by
  unfold hash_Of.f
  have := hashof_loop s bits hs s.size k 0 14695981039346656037 (by omega) (by omega) (by omega) (by omega) hk
  simp only [List.drop_zero, Int.cast_ofNat_Int] at this
  exact this
theorem levels_any (bits : Int) : hash_Levels.f bits = some ((lev bits : Nat) : Int) := by
  have hw := wid_le bits
  unfold hash_Levels.f
  rw [within_any]
  simp only [bsome]
  congr 1
  unfold lev
  rw [wrap_id (x := (wid bits : Int) + 5) (by omega) (by omega), wrap_id (x := (wid bits : Int) + 5 - 1) (by omega) (by omega), Int.tdiv_eq_ediv_of_nonneg (by omega), wrap_id (by omega) (by omega)]
  omega
theorem chunk_any (h : Nat) (hh : h < 18446744073709551616) (level bits : Int) (hl : level ≤ 9223372036854775807) :
    hash_Chunk.f h level bits = some (((if level < 0 then 0 else chunkS h level.toNat bits) : Nat) : Int) := by
  have hv := lev_le bits
  have hw := wid_le bits
  unfold hash_Chunk.f
  by_cases h0 : level < 0
  · rw [if_pos h0, if_pos h0]; rfl
  · rw [if_neg h0, if_neg h0, levels_any]
    simp only [bsome]
    unfold chunkS
    by_cases h1 : level ≥ ((lev bits : Nat) : Int)
    · rw [if_pos h1, if_neg (by omega)]; rfl
    · rw [if_neg h1, if_pos (by omega), cutb_any h hh]
      simp only [bsome]
      obtain ⟨l, rfl⟩ : ∃ l : Nat, level = l := ⟨level.toNat, by omega⟩
      rw [Int.toNat_natCast]
      have hlt : h % 2 ^ wid bits < 18446744073709551616 := by have := Nat.mod_le h (2 ^ wid bits); omega
      generalize h % 2 ^ wid bits = c at hlt ⊢
      rw [wrap_id (x := 5 * (l : Int)) (by omega) (by omega), if_pos (by omega)]
      have e1 : shr .u64 (c : Int) (5 * (l : Int)) = ((c / 2 ^ (5 * l) : Nat) : Int) := by
        unfold shr
        rw [show IntKind.u64.bits = 64 from rfl, show (5 * (l : Int)).toNat = 5 * l by omega]
        have hl' : l < lev bits := by omega
        have : 5 * l ≤ 64 := by unfold lev at hl'; omega
        rw [Nat.min_eq_left this]
        simp
      have hle : c / 2 ^ (5 * l) ≤ c := Nat.div_le_self _ _
      generalize c / 2 ^ (5 * l) = q at hle e1 ⊢
      rw [e1, show (31 : Int) = 2 ^ 5 - 1 by decide, and_u64 _ (by omega) (by omega) 5 (by decide), wrap_id (by omega) (by omega)]
      congr 1
theorem before_loop (a b : Nat) (ha : a < 18446744073709551616) (hb : b < 18446744073709551616) (bits : Int) (d : Nat) : ∀ (k l : Nat), l ≤ lev bits → lev bits - l = d → d < k →
    hash_Before.l0 k a b bits (lev bits) l = some (bef (fun l => chunkS a l bits) (fun l => chunkS b l bits) d l) := by
  have hv := lev_le bits
  induction d with
  | zero =>
    intro k l hl hd hk
    obtain ⟨k, rfl⟩ : ∃ m, k = m + 1 := ⟨k - 1, by omega⟩
    simp only [hash_Before.l0]
    rw [if_neg (by omega)]
    rfl
  | succ d ih =>
    intro k l hl hd hk
    obtain ⟨k, rfl⟩ : ∃ m, k = m + 1 := ⟨k - 1, by omega⟩
    simp only [hash_Before.l0]
    rw [if_pos (by omega), chunk_any a ha _ _ (by omega), chunk_any b hb _ _ (by omega)]
    simp only [bsome]
    have hn : ¬ (l : Int) < 0 := by omega
    rw [if_neg hn, if_neg hn, Int.toNat_natCast]
    unfold bef
    by_cases e : chunkS a l bits = chunkS b l bits
    · rw [if_pos (by omega), if_pos e, wrap_id (by omega) (by omega), show ((l : Int) + 1) = ((l + 1 : Nat) : Int) by omega]
      exact ih k (l + 1) (by omega) (by omega) (by omega)
    · rw [if_neg (by omega), if_neg e]
      congr 1
      exact decide_eq_decide.2 (by omega)
theorem before_any (a b : Nat) (ha : a < 18446744073709551616) (hb : b < 18446744073709551616) (bits : Int) (k : Nat) (hk : 13 < k) : hash_Before.f k a b bits = some (befS a b bits) := by
  have hv := lev_le bits
  unfold hash_Before.f
  rw [levels_any]
  simp only [bsome]
  exact before_loop a b ha hb bits (lev bits) k 0 (by omega) (by omega) (by omega)

theorem works04_any (k : Nat) (hk : 100 < k) : boscagelaw04_works.f k = some true := by
  unfold boscagelaw04_works.f
  have e1 : hashS (⟨#[]⟩ : ByteArray) 64 = 14695981039346656037 := by
    unfold hashS hashN
    have : fnv (bl (⟨#[]⟩ : ByteArray)) 14695981039346656037 = 14695981039346656037 := rfl
    rw [this, show wid 64 = 64 by decide]
    rfl
  have e2 : lev 64 = 13 := by decide
  have e3 := chunk_any 32 (by decide) 1 64 (by decide)
  have e4 := before_any 1 2 (by decide) (by decide) 8 k (by omega)
  have c3 : (if (1 : Int) < 0 then 0 else chunkS 32 (1 : Int).toNat 64) = 1 := by
    unfold chunkS
    rw [e2, show wid 64 = 64 by decide]
    decide
  have c4 : befS 1 2 8 = true := by decide
  rw [c3] at e3
  rw [c4] at e4
  rw [hashof_any _ _ (by decide) k (by show 0 < k; omega), levels_any, e1, e2]
  simp only [bsome]
  rw [if_pos (by rfl), if_pos (by rfl)]
  have e3' : hash_Chunk.f 32 1 64 = some 1 := e3
  have e4' : hash_Before.f k 1 2 8 = some true := e4
  rw [e3', e4']
  rfl

theorem order_end (a b : Nat) (bits : Int) (ha : a < 2 ^ wid bits) (hb : b < 2 ^ wid bits) (k l : Nat) (hk : 13 < k) (c : Bool) (same : Bool) (hs : same = decide (a = b)) (hc : c = false) :
    boscagelaw04_HashOrder.j1 (k + 1) bits a b same l c = some true := by
  have hp := pow_le64 (wid_le bits)
  simp only [boscagelaw04_HashOrder.j1]
  rw [hc, if_neg (by simp), before_any a b (by omega) (by omega) bits k hk, before_any b a (by omega) (by omega) bits k hk]
  simp only [bsome]
  by_cases e : a = b
  · have e' : (a : Int) = (b : Int) := by omega
    subst hs
    rw [before_self' e, before_self' e.symm]
    simp [e]
  · have e' : ¬ (a : Int) = (b : Int) := by omega
    subst hs
    have t := before_total ha hb e
    cases h : befS b a bits with
    | true => rw [h] at t; simp [t, e, e']
    | false => rw [h] at t; simp [t, e, e']
theorem order_loop (a b : Nat) (bits : Int) (ha : a < 2 ^ wid bits) (hb : b < 2 ^ wid bits) (d : Nat) : ∀ (k l : Nat) (same : Bool), l ≤ lev bits → lev bits - l = d → 2 * d + 20 < k →
    (same = true ↔ ∀ i, i < l → chunkS a i bits = chunkS b i bits) → boscagelaw04_HashOrder.l0 k bits a b same l = some true := by
  have hp := pow_le64 (wid_le bits)
  have hv := lev_le bits
  induction d with
  | zero =>
    intro k l same hl hd hk hs
    obtain ⟨k, rfl⟩ : ∃ m, k = m + 2 := ⟨k - 2, by omega⟩
    simp only [boscagelaw04_HashOrder.l0]
    rw [levels_any]
    simp only [bsome]
    rw [if_neg (by omega)]
    refine order_end a b bits ha hb k l (by omega) _ same ?_ rfl
    by_cases e : a = b
    · rw [decide_eq_true e]; exact hs.2 (fun i _ => by rw [e])
    · rw [decide_eq_false e]
      cases same with
      | false => rfl
      | true => exact absurd (chunks_same ha hb (fun i hi => hs.1 rfl i (by omega))) e
  | succ d ih =>
    intro k l same hl hd hk hs
    obtain ⟨k, rfl⟩ : ∃ m, k = m + 2 := ⟨k - 2, by omega⟩
    simp only [boscagelaw04_HashOrder.l0]
    rw [levels_any]
    simp only [bsome]
    rw [if_pos (by omega)]
    simp only [boscagelaw04_HashOrder.j1]
    rw [if_pos (by simp; omega), wrap_id (by omega) (by omega), show ((l : Int) + 1) = ((l + 1 : Nat) : Int) by omega]
    cases same with
    | true =>
      rw [if_pos rfl, chunk_any a (by omega) _ _ (by omega), chunk_any b (by omega) _ _ (by omega)]
      simp only [bsome]
      have hn : ¬ (l : Int) < 0 := by omega
      rw [if_neg hn, if_neg hn, Int.toNat_natCast]
      refine ih k (l + 1) _ (by omega) (by omega) (by omega) ⟨fun h i hi => ?_, fun h => ?_⟩
      · by_cases q : i = l
        · have h' : (chunkS a l bits : Int) = (chunkS b l bits : Int) := by simpa using h
          rw [q]; omega
        · exact hs.1 rfl i (by omega)
      · have := h l (by omega)
        rw [this]; simp
    | false =>
      rw [if_neg (by simp)]
      refine ih k (l + 1) _ (by omega) (by omega) (by omega) ⟨(fun h => by cases h), fun h => ?_⟩
      exact hs.2 (fun i hi => h i (by omega))
theorem HashOrder : boscagelaw04_HashOrder.Pure := by
  intro a b bits _ _ _
  refine ⟨10000, ?_⟩
  unfold boscagelaw04_HashOrder.f
  rw [works04_any 10000 (by omega), cut_any a 3000 (by decide), cut_any b 3000 (by decide)]
  have h1 := cut_size a (3000 : Int).toNat
  have h2 := cut_size b (3000 : Int).toNat
  have e : (3000 : Int).toNat = 3000 := rfl
  simp only [bsome, if_true]
  rw [hashof_any _ _ (by omega) 10000 (by omega), hashof_any _ _ (by omega) 10000 (by omega)]
  simp only [bsome]
  have hv := lev_le bits
  exact order_loop _ _ bits (hash_lt _ _) (hash_lt _ _) (lev bits) 10000 0 true (by omega) (by omega) (by omega) ⟨fun _ i hi => by omega, fun _ => rfl⟩

end Go.Proofs.Ytgpdodmljmanoaa.PureHashOrder
namespace Go.Proofs.Ytgpdodmljmanoaa.Pure
theorem HashOrder : Go.Proofs.Ytgpdodmljmanoaa.PHsh.boscagelaw04_HashOrder.Pure := PureHashOrder.HashOrder
end Go.Proofs.Ytgpdodmljmanoaa.Pure
