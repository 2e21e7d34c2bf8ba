/- The statement HashChunks, over numbers and lists: a hash's chunkS at any level, and which of two is ahead, is what the document says, for all numbers. -/
import Derived.Test.YtgpdodmljmanoaaPHshx2
import Derived.Test.YtgpdodmljmanoaaBase
import Derived.Test.YtgpdodmljmanoaaBits
namespace Go.Proofs.Ytgpdodmljmanoaa.PureHashChunks
open Go.RowKit Go.Proofs.Ytgpdodmljmanoaa.PHsh Go.Proofs.YtgpdodmljmanoaaW.PrintWords Go.Proofs.YtgpdodmljmanoaaW.PrintLast Go.Proofs.YtgpdodmljmanoaaW.PrintMore Go.Proofs.Ytgpdodmljmanoaa.Base Go.Proofs.Ytgpdodmljmanoaa.Bits
set_option linter.unusedSimpArgs false
set_option linter.unusedVariables false

theorem within_any (bits : Int) : hash_within.f bits = some (wid bits : Int) := by
  unfold hash_within.f mn mx wid
  congr 1
  split <;> split <;> omega
theorem cutb_any (h : Nat) (hh : h < 18446744073709551616) (bits : Int) : hash_cut.f h bits = some ((h % 2 ^ wid bits : Nat) : Int) := by
  have hw := wid_le bits
  unfold hash_cut.f
  rw [within_any]
  simp only [bsome]
  by_cases e : wid bits = 64
  · rw [if_pos (by omega), e, Nat.mod_eq_of_lt (by omega)]
  · rw [if_neg (by omega), if_pos (by omega)]
    have hpos : 0 < 2 ^ wid bits := Nat.two_pow_pos _
    have e1 : shl .u64 1 ((wid bits : Nat) : Int) = 2 ^ wid bits := by
      unfold shl
      rw [Int.toNat_natCast, show IntKind.u64.bits = 64 from rfl, Nat.min_eq_left hw, Int.one_mul, wrap_u64]
      have : 2 ^ wid bits ≤ 2 ^ 63 := Nat.pow_le_pow_right (by omega) (by omega)
      have c : ((2 : Int) ^ wid bits) = ((2 ^ wid bits : Nat) : Int) := by simp
      rw [c]
      generalize 2 ^ wid bits = P at this ⊢
      omega
    have e2 : IntKind.u64.wrap ((2 : Int) ^ wid bits - 1) = 2 ^ wid bits - 1 := by
      have h1 : 2 ^ wid bits ≤ 2 ^ 63 := Nat.pow_le_pow_right (by omega) (by omega)
      have c : ((2 : Int) ^ wid bits) = ((2 ^ wid bits : Nat) : Int) := by simp
      rw [c, wrap_u64]
      generalize 2 ^ wid bits = P at h1 hpos ⊢
      omega
    rw [e1, e2, and_u64 _ (by omega) (by omega) _ hw]
    congr 1
theorem hashof_loop (s : ByteArray) (bits : Int) (hs : s.size ≤ 140737488351232) (d : Nat) : ∀ (k i : Nat) (h : Int), 0 ≤ h → h < 18446744073709551616 → i ≤ s.size → s.size - i = d → d < k →
    hash_Of.l0 k s bits h s.size i = some ((((fnv ((bl s).drop i) h).toNat % 2 ^ wid bits : Nat)) : Int) := by
  induction d with
  | zero =>
    intro k i h h0 h1 hi hd hk
    obtain ⟨k, rfl⟩ : ∃ m, k = m + 1 := ⟨k - 1, by omega⟩
    simp only [hash_Of.l0]
    obtain ⟨n, rfl⟩ : ∃ n : Nat, h = n := ⟨h.toNat, by omega⟩
    rw [if_neg (by omega), List.drop_eq_nil_of_le (by rw [bl_len]; omega), cutb_any n (by omega)]
    rfl
  | succ d ih =>
    intro k i h h0 h1 hi hd hk
    obtain ⟨k, rfl⟩ : ∃ m, k = m + 1 := ⟨k - 1, by omega⟩
    simp only [hash_Of.l0]
    obtain ⟨x, e, hx⟩ := drop_cons s i (by omega)
    rw [if_pos (by omega), if_pos (by omega), if_pos (by omega), e, wrap_id (by omega) (by omega)]
    have hr := hstep_range h (bt s i)
    rw [show ((i : Int) + 1) = ((i + 1 : Nat) : Int) by omega]
    have := ih k (i + 1) (hstep h (bt s i)) hr.1 hr.2 (by omega) (by omega) (by omega)
    unfold hstep at this
    rw [this, fnv_cons, hx]
    rfl
theorem hashof_any (s : ByteArray) (bits : Int) (hs : s.size ≤ 140737488351232) (k : Nat) (hk : s.size < k) : hash_Of.f k s bits = some ((hashS s bits : Nat) : Int) := by
  unfold hash_Of.f
  have := hashof_loop s bits hs s.size k 0 14695981039346656037 (by omega) (by omega) (by omega) (by omega) hk
  simp only [List.drop_zero, Int.cast_ofNat_Int] at this
  exact this
theorem levels_any (bits : Int) : hash_Levels.f bits = some ((lev bits : Nat) : Int) := by
  have hw := wid_le bits
  unfold hash_Levels.f
  rw [within_any]
  simp only [bsome]
  congr 1
  unfold lev
  rw [wrap_id (x := (wid bits : Int) + 5) (by omega) (by omega), wrap_id (x := (wid bits : Int) + 5 - 1) (by omega) (by omega), Int.tdiv_eq_ediv_of_nonneg (by omega), wrap_id (by omega) (by omega)]
  omega
theorem chunk_any (h : Nat) (hh : h < 18446744073709551616) (level bits : Int) (hl : level ≤ 9223372036854775807) :
    hash_Chunk.f h level bits = some (((if level < 0 then 0 else chunkS h level.toNat bits) : Nat) : Int) := by
  have hv := lev_le bits
  have hw := wid_le bits
  unfold hash_Chunk.f
  by_cases h0 : level < 0
  · rw [if_pos h0, if_pos h0]; rfl
  · rw [if_neg h0, if_neg h0, levels_any]
    simp only [bsome]
    unfold chunkS
    by_cases h1 : level ≥ ((lev bits : Nat) : Int)
    · rw [if_pos h1, if_neg (by omega)]; rfl
    · rw [if_neg h1, if_pos (by omega), cutb_any h hh]
      simp only [bsome]
      obtain ⟨l, rfl⟩ : ∃ l : Nat, level = l := ⟨level.toNat, by omega⟩
      rw [Int.toNat_natCast]
      have hlt : h % 2 ^ wid bits < 18446744073709551616 := by have := Nat.mod_le h (2 ^ wid bits); omega
      generalize h % 2 ^ wid bits = c at hlt ⊢
      rw [wrap_id (x := 5 * (l : Int)) (by omega) (by omega), if_pos (by omega)]
      have e1 : shr .u64 (c : Int) (5 * (l : Int)) = ((c / 2 ^ (5 * l) : Nat) : Int) := by
        unfold shr
        rw [show IntKind.u64.bits = 64 from rfl, show (5 * (l : Int)).toNat = 5 * l by omega]
        have hl' : l < lev bits := by omega
        have : 5 * l ≤ 64 := by unfold lev at hl'; omega
        rw [Nat.min_eq_left this]
        simp
      have hle : c / 2 ^ (5 * l) ≤ c := Nat.div_le_self _ _
      generalize c / 2 ^ (5 * l) = q at hle e1 ⊢
      rw [e1, show (31 : Int) = 2 ^ 5 - 1 by decide, and_u64 _ (by omega) (by omega) 5 (by decide), wrap_id (by omega) (by omega)]
      congr 1
theorem before_loop (a b : Nat) (ha : a < 18446744073709551616) (hb : b < 18446744073709551616) (bits : Int) (d : Nat) : ∀ (k l : Nat), l ≤ lev bits → lev bits - l = d → d < k →
    hash_Before.l0 k a b bits (lev bits) l = some (bef (fun l => chunkS a l bits) (fun l => chunkS b l bits) d l) := by
  have hv := lev_le bits
  induction d with
  | zero =>
    intro k l hl hd hk
    obtain ⟨k, rfl⟩ : ∃ m, k = m + 1 := ⟨k - 1, by omega⟩
    simp only [hash_Before.l0]
    rw [if_neg (by omega)]
    rfl
  | succ d ih =>
    intro k l hl hd hk
    obtain ⟨k, rfl⟩ : ∃ m, k = m + 1 := ⟨k - 1, by omega⟩
    simp only [hash_Before.l0]
    rw [if_pos (by omega), chunk_any a ha _ _ (by omega), chunk_any b hb _ _ (by omega)]
    simp only [bsome]
    have hn : ¬ (l : Int) < 0 := by omega
    rw [if_neg hn, if_neg hn, Int.toNat_natCast]
    unfold bef
    by_cases e : chunkS a l bits = chunkS b l bits
    · rw [if_pos (by omega), if_pos e, wrap_id (by omega) (by omega), show ((l : Int) + 1) = ((l + 1 : Nat) : Int) by omega]
      exact ih k (l + 1) (by omega) (by omega) (by omega)
    · rw [if_neg (by omega), if_neg e]
      congr 1
      exact decide_eq_decide.2 (by omega)
theorem before_any (a b : Nat) (ha : a < 18446744073709551616) (hb : b < 18446744073709551616) (bits : Int) (k : Nat) (hk : 13 < k) : hash_Before.f k a b bits = some (befS a b bits) := by
  have hv := lev_le bits
  unfold hash_Before.f
  rw [levels_any]
  simp only [bsome]
  exact before_loop a b ha hb bits (lev bits) k 0 (by omega) (by omega) (by omega)

theorem clamp_any (bits : Int) : boscageref04_clamp.f bits = some (wid bits : Int) := by
  unfold boscageref04_clamp.f wid
  split
  · congr 1; omega
  · split
    · congr 1; omega
    · congr 1; omega
theorem reflevels_loop (bits : Int) (d : Nat) : ∀ (k l : Nat), l ≤ lev bits → lev bits - l = d → d < k → boscageref04_Levels.l0 k bits l = some ((lev bits : Nat) : Int) := by
  have hw := wid_le bits
  induction d with
  | zero =>
    intro k l hl hd hk
    obtain ⟨k, rfl⟩ : ∃ m, k = m + 1 := ⟨k - 1, by omega⟩
    simp only [boscageref04_Levels.l0]
    rw [clamp_any]
    simp only [bsome]
    unfold lev at hl hd
    rw [wrap_id (by omega) (by omega), if_neg (by omega)]
    congr 1
    unfold lev
    omega
  | succ d ih =>
    intro k l hl hd hk
    obtain ⟨k, rfl⟩ : ∃ m, k = m + 1 := ⟨k - 1, by omega⟩
    simp only [boscageref04_Levels.l0]
    rw [clamp_any]
    simp only [bsome]
    have hl2 := hl
    have hd2 := hd
    unfold lev at hl hd
    rw [wrap_id (x := 5 * (l : Int)) (by omega) (by omega), if_pos (by omega), wrap_id (by omega) (by omega), show ((l : Int) + 1) = ((l + 1 : Nat) : Int) by omega]
    exact ih k (l + 1) (by omega) (by omega) (by omega)
theorem reflevels_any (bits : Int) (k : Nat) (hk : 13 < k) : boscageref04_Levels.f k bits = some ((lev bits : Nat) : Int) := by
  have hv := lev_le bits
  unfold boscageref04_Levels.f
  exact reflevels_loop bits (lev bits) k 0 (by omega) (by omega) (by omega)

theorem bit_loop (a : Nat) (d : Nat) : ∀ (k h i : Nat), h < 18446744073709551616 → i ≤ a → a ≤ 64 → a - i = d → d < k → boscageref04_bit.l0 k h a i = some ((h / 2 ^ d % 2 : Nat) : Int) := by
  induction d with
  | zero =>
    intro k h i hh hi ha hd hk
    obtain ⟨k, rfl⟩ : ∃ m, k = m + 1 := ⟨k - 1, by omega⟩
    simp only [boscageref04_bit.l0]
    rw [if_neg (by omega), Int.tmod_eq_emod_of_nonneg (by omega), wrap_id (by omega) (by omega)]
    congr 1
    simp
  | succ d ih =>
    intro k h i hh hi ha hd hk
    obtain ⟨k, rfl⟩ : ∃ m, k = m + 1 := ⟨k - 1, by omega⟩
    simp only [boscageref04_bit.l0]
    rw [if_pos (by omega), Int.tdiv_eq_ediv_of_nonneg (by omega), wrap_u64_id (by omega) (by omega), wrap_id (by omega) (by omega), show ((i : Int) + 1) = ((i + 1 : Nat) : Int) by omega, show ((h : Int) / 2) = ((h / 2 : Nat) : Int) by omega]
    rw [ih k (h / 2) (i + 1) (by omega) (by omega) (by omega) (by omega) (by omega), Nat.div_div_eq_div_mul, Nat.pow_succ, Nat.mul_comm 2]
theorem bit_any (h a : Nat) (hh : h < 18446744073709551616) (ha : a ≤ 64) (k : Nat) (hk : 64 < k) : boscageref04_bit.f k h a = some ((h / 2 ^ a % 2 : Nat) : Int) := by
  unfold boscageref04_bit.f
  exact bit_loop a a k h 0 hh (by omega) ha (by omega) (by omega)
theorem refchunk_loop (h : Nat) (hh : h < 18446744073709551616) (l : Nat) (bits : Int) (hl : l < lev bits) (d : Nat) : ∀ (k j : Nat), j ≤ min 5 (wid bits - 5 * l) → min 5 (wid bits - 5 * l) - j = d → d + 64 < k →
    boscageref04_Chunk.l0 k h l bits ((h / 2 ^ (5 * l) % 2 ^ j : Nat) : Int) (2 ^ j) ((5 * l + j : Nat) : Int) = some ((h / 2 ^ (5 * l) % 2 ^ min 5 (wid bits - 5 * l) : Nat) : Int) := by
  have hw := wid_le bits
  have hlw : 5 * l < wid bits := by unfold lev at hl; omega
  induction d with
  | zero =>
    intro k j hj hd hk
    obtain ⟨k, rfl⟩ : ∃ m, k = m + 1 := ⟨k - 1, by omega⟩
    simp only [boscageref04_Chunk.l0]
    rw [wrap_id (x := 5 * (l : Int)) (by omega) (by omega), wrap_id (x := 5 * (l : Int) + 5) (by omega) (by omega)]
    have hj' : j = min 5 (wid bits - 5 * l) := by omega
    by_cases e : ((5 * l + j : Nat) : Int) < 5 * (l : Int) + 5
    · rw [if_pos e, clamp_any]
      simp only [bsome]
      rw [if_neg (by omega), hj']
    · rw [if_neg e, hj']
  | succ d ih =>
    intro k j hj hd hk
    obtain ⟨k, rfl⟩ : ∃ m, k = m + 1 := ⟨k - 1, by omega⟩
    simp only [boscageref04_Chunk.l0]
    rw [wrap_id (x := 5 * (l : Int)) (by omega) (by omega), wrap_id (x := 5 * (l : Int) + 5) (by omega) (by omega), if_pos (by omega), clamp_any]
    simp only [bsome]
    rw [if_pos (by omega), bit_any h (5 * l + j) hh (by omega) k (by omega)]
    simp only [bsome]
    have c : ((2 : Int) ^ j) = ((2 ^ j : Nat) : Int) := by simp
    have c2 : ((2 : Int) ^ (j + 1)) = ((2 ^ (j + 1) : Nat) : Int) := by simp
    have p : 2 ^ j ≤ 32 := Nat.pow_le_pow_right (n := 2) (j := 5) (by omega) (by omega)
    have m1 := mod_pow_succ (h / 2 ^ (5 * l)) j
    have q : h / 2 ^ (5 * l) / 2 ^ j = h / 2 ^ (5 * l + j) := by rw [Nat.div_div_eq_div_mul, Nat.pow_add]
    rw [q] at m1
    have m3 : h / 2 ^ (5 * l) % 2 ^ j < 2 ^ j := Nat.mod_lt _ (Nat.two_pow_pos _)
    have := ih k (j + 1) (by omega) (by omega) (by omega)
    rw [c2, Nat.pow_succ] at this
    have e1 := chunkstep (h / 2 ^ (5 * l + j) % 2) (h / 2 ^ (5 * l) % 2 ^ j) _ (2 ^ j) m1 (Nat.mod_lt _ (by omega)) (by omega) (by omega)
    rw [← c] at e1
    have w2 : wrap64 (2 * ((2 ^ j : Nat) : Int)) = ((2 ^ j * 2 : Nat) : Int) := by
      generalize 2 ^ j = P at p ⊢
      rw [wrap_id (by omega) (by omega)]
      omega
    have w3 : wrap64 (((5 * l + j : Nat) : Int) + 1) = ((5 * l + (j + 1) : Nat) : Int) := by
      rw [wrap_id (by omega) (by omega)]
      omega
    rw [e1, c, w2, w3]
    exact this
theorem refchunk_any (h : Nat) (hh : h < 18446744073709551616) (level bits : Int) (hl : level ≤ 9223372036854775807) (k : Nat) (hk : 80 < k) :
    boscageref04_Chunk.f k h level bits = some (((if level < 0 then 0 else chunkS h level.toNat bits) : Nat) : Int) := by
  have hv := lev_le bits
  have hw := wid_le bits
  obtain ⟨k, rfl⟩ : ∃ m, k = m + 1 := ⟨k - 1, by omega⟩
  unfold boscageref04_Chunk.f
  by_cases h0 : level < 0
  · rw [if_pos h0, if_pos h0]
    simp only [boscageref04_Chunk.j0]
    simp
  · rw [if_neg h0, if_neg h0, reflevels_any bits (k + 1) (by omega)]
    simp only [bsome]
    simp only [boscageref04_Chunk.j0]
    unfold chunkS
    by_cases h1 : level ≥ ((lev bits : Nat) : Int)
    · rw [if_pos (by simpa using h1), if_neg (by omega)]; rfl
    · rw [if_neg (by simpa using h1), if_pos (by omega)]
      obtain ⟨l, rfl⟩ : ∃ l : Nat, level = l := ⟨level.toNat, by omega⟩
      have hl' : l < lev bits := by omega
      have hlw : 5 * l < wid bits := by unfold lev at hl'; omega
      have := refchunk_loop h hh l bits hl' (min 5 (wid bits - 5 * l)) k 0 (by omega) (by omega) (by omega)
      simp only [Nat.pow_zero, Nat.mod_one, Nat.add_zero, Int.pow_zero, Int.cast_ofNat_Int] at this
      rw [wrap_id (by omega) (by omega), show 5 * (l : Int) = ((5 * l : Nat) : Int) by omega, this, Int.toNat_natCast, mod_div_pow _ _ _ (by omega), show (32 : Nat) = 2 ^ 5 by rfl, mod_mod_pow, Nat.min_comm]
theorem refbefore_loop (a b : Nat) (ha : a < 18446744073709551616) (hb : b < 18446744073709551616) (bits : Int) (d : Nat) : ∀ (k l : Nat), l ≤ lev bits → lev bits - l = d → d + 80 < k →
    boscageref04_Before.l0 k a b bits l = some (bef (fun l => chunkS a l bits) (fun l => chunkS b l bits) d l) := by
  have hv := lev_le bits
  induction d with
  | zero =>
    intro k l hl hd hk
    obtain ⟨k, rfl⟩ : ∃ m, k = m + 1 := ⟨k - 1, by omega⟩
    simp only [boscageref04_Before.l0]
    rw [reflevels_any bits k (by omega)]
    simp only [bsome]
    rw [if_neg (by omega)]
    rfl
  | succ d ih =>
    intro k l hl hd hk
    obtain ⟨k, rfl⟩ : ∃ m, k = m + 1 := ⟨k - 1, by omega⟩
    simp only [boscageref04_Before.l0]
    rw [reflevels_any bits k (by omega)]
    simp only [bsome]
    rw [if_pos (by omega), refchunk_any a ha _ _ (by omega) k (by omega), refchunk_any b hb _ _ (by omega) k (by omega)]
    simp only [bsome]
    have hn : ¬ (l : Int) < 0 := by omega
    rw [if_neg hn, if_neg hn, Int.toNat_natCast]
    unfold bef
    by_cases e : chunkS a l bits = chunkS b l bits
    · rw [if_pos (by omega), if_pos e, wrap_id (by omega) (by omega), show ((l : Int) + 1) = ((l + 1 : Nat) : Int) by omega]
      exact ih k (l + 1) (by omega) (by omega) (by omega)
    · rw [if_neg (by omega), if_neg e]
      congr 1
      exact decide_eq_decide.2 (by omega)
theorem refbefore_any (a b : Nat) (ha : a < 18446744073709551616) (hb : b < 18446744073709551616) (bits : Int) (k : Nat) (hk : 100 < k) : boscageref04_Before.f k a b bits = some (befS a b bits) := by
  have hv := lev_le bits
  unfold boscageref04_Before.f
  exact refbefore_loop a b ha hb bits (lev bits) k 0 (by omega) (by omega) (by omega)

theorem works04_any (k : Nat) (hk : 100 < k) : boscagelaw04_works.f k = some true := by
  unfold boscagelaw04_works.f
  have e1 : hashS (⟨#[]⟩ : ByteArray) 64 = 14695981039346656037 := by
    unfold hashS hashN
    have : fnv (bl (⟨#[]⟩ : ByteArray)) 14695981039346656037 = 14695981039346656037 := rfl
    rw [this, show wid 64 = 64 by decide]
    rfl
  have e2 : lev 64 = 13 := by decide
  have e3 := chunk_any 32 (by decide) 1 64 (by decide)
  have e4 := before_any 1 2 (by decide) (by decide) 8 k (by omega)
  have c3 : (if (1 : Int) < 0 then 0 else chunkS 32 (1 : Int).toNat 64) = 1 := by
    unfold chunkS
    rw [e2, show wid 64 = 64 by decide]
    decide
  have c4 : befS 1 2 8 = true := by decide
  rw [c3] at e3
  rw [c4] at e4
  rw [hashof_any _ _ (by decide) k (by show 0 < k; omega), levels_any, e1, e2]
  simp only [bsome]
  rw [if_pos (by rfl), if_pos (by rfl)]
  have e3' : hash_Chunk.f 32 1 64 = some 1 := e3
  have e4' : hash_Before.f k 1 2 8 = some true := e4
  rw [e3', e4']
  rfl

theorem HashChunks : boscagelaw04_HashChunks.Pure := by
  intro a b level bits ha hb hl _
  have ha := wf_u64 ha
  have hb := wf_u64 hb
  have hl := wf_i64 hl
  obtain ⟨a, rfl⟩ : ∃ n : Nat, a = n := ⟨a.toNat, by omega⟩
  obtain ⟨b, rfl⟩ : ∃ n : Nat, b = n := ⟨b.toNat, by omega⟩
  refine ⟨10000, ?_⟩
  unfold boscagelaw04_HashChunks.f
  rw [chunk_any a (by omega) _ _ (by omega), refchunk_any a (by omega) _ _ (by omega) 10000 (by omega), before_any a b (by omega) (by omega) _ 10000 (by omega), refbefore_any a b (by omega) (by omega) _ 10000 (by omega), works04_any 10000 (by omega)]
  simp only [bsome, if_true, beq_self_eq_true]

end Go.Proofs.Ytgpdodmljmanoaa.PureHashChunks
namespace Go.Proofs.Ytgpdodmljmanoaa.Pure
theorem HashChunks : Go.Proofs.Ytgpdodmljmanoaa.PHsh.boscagelaw04_HashChunks.Pure := PureHashChunks.HashChunks
end Go.Proofs.Ytgpdodmljmanoaa.Pure
