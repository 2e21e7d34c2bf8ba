/- The statement MaskGoes, over numbers and lists: how many a mask has, which they are, and the next one above any number, is what the document says; for all masks and numbers. -/
import Derived.Test.YtgpdodmljmanoaaDoorPMskx2
import Derived.Test.YtgpdodmljmanoaaDoorBase
import Derived.Test.YtgpdodmljmanoaaDoorMask
import Derived.Test.YtgpdodmljmanoaaDoorOpen
namespace Go.Proofs.YtgpdodmljmanoaaDoor.PureMaskGoes
open Go.RowKit Go.Proofs.YtgpdodmljmanoaaDoor.PMsk Go.Proofs.YtgpdodmljmanoaaDoorW.PrintWords Go.Proofs.YtgpdodmljmanoaaDoorW.PrintLast Go.Proofs.YtgpdodmljmanoaaDoorW.PrintMore Go.Proofs.YtgpdodmljmanoaaDoor.Base Go.Proofs.YtgpdodmljmanoaaDoor.Mask Go.Proofs.YtgpdodmljmanoaaDoor.Open
set_option linter.unusedSimpArgs false
set_option linter.unusedVariables false

theorem below_any (i : Int) : mask_below.f i = some (low i : Int) := by
  unfold mask_below.f low cl
  by_cases h0 : i ≤ 0
  · rw [if_pos h0]
    have : (min (max i 0) 32).toNat = 0 := by omega
    rw [this]
    rfl
  · rw [if_neg h0]
    by_cases h1 : i ≥ 32
    · rw [if_pos h1]
      have : (min (max i 0) 32).toNat = 32 := by omega
      rw [this]
      rfl
    · rw [if_neg h1, if_pos (by omega)]
      obtain ⟨n, rfl⟩ : ∃ n : Nat, i = n := ⟨i.toNat, by omega⟩
      have : (min (max (n : Int) 0) 32).toNat = n := by omega
      rw [this]
      have hp : 2 ^ n ≤ 2 ^ 31 := Nat.pow_le_pow_right (by omega) (by omega)
      have hq : 0 < 2 ^ n := Nat.two_pow_pos _
      have e : shl .u32 1 (n : Int) = ((2 ^ n : Nat) : Int) := by
        unfold shl
        rw [Int.toNat_natCast, show IntKind.u32.bits = 32 from rfl, Nat.min_eq_left (by omega), Int.one_mul, IntKind.wrap_u32]
        have c : ((2 : Int) ^ n) = ((2 ^ n : Nat) : Int) := by simp
        rw [c]
        generalize 2 ^ n = P at hp ⊢
        omega
      rw [e]
      generalize 2 ^ n = P at hp hq ⊢
      congr 1
      omega
theorem ones_any (m : Nat) (hm : m < 4294967296) : bits_OnesCount32.f m = some (cnt 32 m : Int) := by
  unfold bits_OnesCount32.f
  have a1 : Go.bits .and .u32 ((m : Int) / 65536) 255 = ((m / 65536 % 256 : Nat) : Int) := by
    rw [show ((m : Int) / 65536) = ((m / 65536 : Nat) : Int) by omega, show (255 : Int) = ((255 : Nat) : Int) by rfl, and_u32 _ _ (by omega) (by omega), show (255 : Nat) = 2 ^ 8 - 1 by rfl, Nat.and_two_pow_sub_one_eq_mod]
  have a2 : Go.bits .and .u32 ((m : Int) / 256) 255 = ((m / 256 % 256 : Nat) : Int) := by
    rw [show ((m : Int) / 256) = ((m / 256 : Nat) : Int) by omega, show (255 : Int) = ((255 : Nat) : Int) by rfl, and_u32 _ _ (by omega) (by omega), show (255 : Nat) = 2 ^ 8 - 1 by rfl, Nat.and_two_pow_sub_one_eq_mod]
  have a3 : Go.bits .and .u32 (m : Int) 255 = ((m % 256 : Nat) : Int) := by
    rw [show (255 : Int) = ((255 : Nat) : Int) by rfl, and_u32 _ _ (by omega) (by omega), show (255 : Nat) = 2 ^ 8 - 1 by rfl, Nat.and_two_pow_sub_one_eq_mod]
  have a0 : ((m : Int) / 16777216) = ((m / 16777216 : Nat) : Int) := by omega
  rw [a0, a1, a2, a3]
  rw [if_pos (by omega), if_pos (by omega), if_pos (by omega), if_pos (by omega), if_pos (by omega), if_pos (by omega), if_pos (by omega), if_pos (by omega)]
  rw [cnt_tab _ (show m / 16777216 < 256 by omega), cnt_tab _ (show m / 65536 % 256 < 256 by omega), cnt_tab _ (show m / 256 % 256 < 256 by omega), cnt_tab _ (show m % 256 < 256 by omega), cnt_four m]
  have l0 := cnt_le 8 (m / 16777216)
  have l1 := cnt_le 8 (m / 65536 % 256)
  have l2 := cnt_le 8 (m / 256 % 256)
  have l3 := cnt_le 8 (m % 256)
  congr 1
  omega
theorem count_any (m : Nat) (hm : m < 4294967296) : mask_Count.f m = some ((allI m).length : Int) := by
  unfold mask_Count.f
  rw [ones_any m hm]
  simp only [bsome]
  rw [allI_len]
theorem place_any (m : Nat) (hm : m < 4294967296) (i : Int) : mask_Place.f m i = some (((allI m).filter fun j => decide (j < i)).length : Int) := by
  unfold mask_Place.f
  rw [below_any]
  simp only [bsome]
  have hlt : m &&& low i < 4294967296 := Nat.lt_of_le_of_lt Nat.and_le_left hm
  rw [and_u32 m (low i) hm (low_lt i), ones_any _ hlt]
  simp only [bsome]
  rw [cnt_low m i 32 (by omega), Nat.min_eq_right (cl_le i), place_list]
theorem next_mask (m : Nat) (hm : m < 4294967296) (i : Int) (h0 : -9223372036854775808 ≤ i) (h1 : i ≤ 9223372036854775807) : mask_Next.f m i = some (next m i) := by
  unfold mask_Next.f next
  by_cases h : i ≥ 31
  · rw [if_pos h]
    have : (allI m).filter (fun x => decide (i < x)) = [] := List.filter_eq_nil_iff.2 (fun x hx => by
      obtain ⟨j, hj, _, rfl⟩ := allI_mem.1 hx
      simp
      omega)
    rw [this]
  · rw [if_neg h, wrap_id (by omega) (by omega), below_any]
    simp only [bsome]
    rw [andNot_u32 _ _ hm (low_lt _)]
    have hlt : m &&& (4294967295 - low (i + 1)) < 4294967296 := Nat.lt_of_le_of_lt Nat.and_le_left hm
    have hbit : ∀ j, (m &&& (4294967295 - low (i + 1))).testBit j = (m.testBit j && (decide (j < 32) && decide (i < (j : Int)))) := by
      intro j
      rw [Nat.testBit_and, not_bit _ (low_lt _), low_bit]
      by_cases q : j < 32
      · rw [decide_eq_true q, Bool.true_and, Bool.true_and]
        congr 1
        by_cases g : i < (j : Int)
        · rw [decide_eq_true g, decide_eq_false (show ¬ j < cl (i + 1) by unfold cl; omega)]; rfl
        · rw [decide_eq_false g, decide_eq_true (show j < cl (i + 1) by unfold cl; omega)]; rfl
      · rw [decide_eq_false q, Bool.false_and, Bool.false_and]
    generalize m &&& (4294967295 - low (i + 1)) = x at hlt hbit ⊢
    by_cases e : x = 0
    · subst e
      rw [if_pos (by rfl)]
      have : (allI m).filter (fun x => decide (i < x)) = [] := List.filter_eq_nil_iff.2 (fun y hy => by
        obtain ⟨j, hj, hb, rfl⟩ := allI_mem.1 hy
        have := hbit j
        rw [hb, Nat.zero_testBit, decide_eq_true hj] at this
        simpa using this.symm)
      rw [this]
    · rw [if_neg (by omega)]
      unfold bits_TrailingZeros32.f
      rw [if_pos (by omega), if_pos (by omega), Int.toNat_natCast]
      simp only [bsome]
      obtain ⟨c1, c2, c3⟩ := ctz_bit e hlt
      have hb := hbit (Lib.ctz 32 x)
      rw [c1] at hb
      have hb' := hb.symm
      simp only [Bool.and_eq_true, decide_eq_true_eq] at hb'
      obtain ⟨rest, hr⟩ := filter_first (allI_sorted m) (p := fun y => decide (i < y)) (c := (Lib.ctz 32 x : Int)) (allI_mem.2 ⟨_, c2, hb'.1, rfl⟩) (decide_eq_true hb'.2.2) (fun y hy hlt' => by
        obtain ⟨j, hj, hbj, rfl⟩ := allI_mem.1 hy
        have := hbit j
        rw [c3 j (by omega), hbj, decide_eq_true hj] at this
        simpa using this.symm)
      rw [hr]
theorem all_loop (m : Nat) (hm : m < 4294967296) (d : Nat) : ∀ (k : Nat) (acc : List Int) (i : Int), -1 ≤ i → i < 32 → acc.length + d ≤ 64 → ((allI m).filter fun x => decide (i < x)).length = d → d < k →
    mask_All.l0 k m acc i = some (acc ++ (allI m).filter fun x => decide (i < x)) := by
  induction d with
  | zero =>
    intro k acc i h0 h1 ha hd hk
    obtain ⟨k, rfl⟩ : ∃ n, k = n + 1 := ⟨k - 1, by omega⟩
    simp only [mask_All.l0]
    rw [next_mask m hm i (by omega) (by omega)]
    simp only [bsome]
    have hnil := List.length_eq_zero_iff.1 hd
    unfold next
    rw [hnil]
    simp
  | succ d ih =>
    intro k acc i h0 h1 ha hd hk
    obtain ⟨k, rfl⟩ : ∃ n, k = n + 1 := ⟨k - 1, by omega⟩
    simp only [mask_All.l0]
    rw [next_mask m hm i (by omega) (by omega)]
    simp only [bsome]
    unfold next
    cases hf : (allI m).filter (fun x => decide (i < x)) with
    | nil => rw [hf] at hd; simp at hd
    | cons j rest =>
      have hj : j ∈ (allI m).filter (fun x => decide (i < x)) := by rw [hf]; simp
      obtain ⟨hj1, hj2⟩ := List.mem_filter.1 hj
      obtain ⟨n, hn, _, rfl⟩ := allI_mem.1 hj1
      have ht := sorted_tail (allI_sorted m) hf
      rw [hf] at hd
      simp only [List.length_cons] at hd
      have := ih k (acc ++ [(n : Int)]) n (by omega) (by omega) (by simp; omega) (by rw [ht]; omega) (by omega)
      simp only [if_true]
      rw [if_pos (by omega), this, ht]
      simp
theorem all_any (m : Nat) (hm : m < 4294967296) (k : Nat) (hk : 32 < k) : mask_All.f k m = some (allI m) := by
  unfold mask_All.f
  have hall : (allI m).filter (fun x => decide ((-1 : Int) < x)) = allI m := List.filter_eq_self.2 (fun x hx => by
    obtain ⟨j, _, _, rfl⟩ := allI_mem.1 hx
    simp
    omega)
  have hl := allI_len m
  have hc := cnt_le 32 m
  have := all_loop m hm (allI m).length k [] (-1) (by omega) (by omega) (by simp; omega) (by rw [hall]) (by omega)
  rw [this, hall]
  rfl
theorem first_any (m : Nat) (hm : m < 4294967296) : mask_First.f m = some (next m (-1)) := by
  unfold mask_First.f
  rw [next_mask m hm (-1) (by omega) (by omega)]
  rfl

theorem refhas_loop (m : Nat) (hm : m < 4294967296) (i : Int) (d : Nat) : ∀ (k j : Nat), j ≤ 32 → 32 - j = d → d < k → boscageref06_Has.l0 k ((m / 2 ^ j : Nat) : Int) i j = some (decide ((j : Int) ≤ i ∧ i < 32) && m.testBit i.toNat) := by
  induction d with
  | zero =>
    intro k j hj hd hk
    obtain ⟨k, rfl⟩ : ∃ n, k = n + 1 := ⟨k - 1, by omega⟩
    simp only [boscageref06_Has.l0]
    rw [if_neg (by omega)]
    have : ¬ ((j : Int) ≤ i ∧ i < 32) := by omega
    simp [this]
  | succ d ih =>
    intro k j hj hd hk
    obtain ⟨k, rfl⟩ : ∃ n, k = n + 1 := ⟨k - 1, by omega⟩
    simp only [boscageref06_Has.l0]
    have hdiv : m / 2 ^ j ≤ m := Nat.div_le_self _ _
    have e1 : Int.tmod ((m / 2 ^ j : Nat) : Int) 2 = ((m / 2 ^ j % 2 : Nat) : Int) := by rw [Int.tmod_eq_emod_of_nonneg (Int.natCast_nonneg _)]; rfl
    have e2 : Int.tdiv ((m / 2 ^ j : Nat) : Int) 2 % 4294967296 = ((m / 2 ^ (j + 1) : Nat) : Int) := by
      rw [Int.tdiv_eq_ediv_of_nonneg (Int.natCast_nonneg _), Nat.pow_succ, ← Nat.div_div_eq_div_mul]
      generalize m / 2 ^ j = q at hdiv ⊢
      omega
    have hb : m.testBit j = decide (m / 2 ^ j % 2 = 1) := Nat.testBit_eq_decide_div_mod_eq
    rw [if_pos (by omega), e1, e2, wrap_id (by omega) (by omega), show ((j : Int) + 1) = ((j + 1 : Nat) : Int) by omega, ih k (j + 1) (by omega) (by omega) (by omega)]
    by_cases g : m / 2 ^ j % 2 = 1
    · rw [if_pos (by omega)]
      by_cases q : (j : Int) = i
      · rw [if_pos q, ← q, Int.toNat_natCast, hb, decide_eq_true g, decide_eq_true (by omega)]
        rfl
      · rw [if_neg q]
        congr 2
        exact decide_eq_decide.2 (by omega)
    · rw [if_neg (by omega)]
      by_cases q : (j : Int) = i
      · rw [← q, Int.toNat_natCast, hb, decide_eq_false g]
        simp
      · congr 2
        exact decide_eq_decide.2 (by omega)
theorem refhas_any (m : Nat) (hm : m < 4294967296) (i : Int) (k : Nat) (hk : 32 < k) : boscageref06_Has.f k m i = some (hasM m i) := by
  unfold boscageref06_Has.f hasM
  have := refhas_loop m hm i 32 k 0 (by omega) (by omega) hk
  simp only [Nat.pow_zero, Nat.div_one, Int.cast_ofNat_Int] at this
  exact this
theorem refall_loop (m : Nat) (hm : m < 4294967296) (d : Nat) : ∀ (k j : Nat), j ≤ 32 → 32 - j = d → d + 40 < k →
    boscageref06_All.l0 k m (((List.range j).filter fun x => m.testBit x).map fun x : Nat => (x : Int)) j = some (allI m) := by
  induction d with
  | zero =>
    intro k j hj hd hk
    obtain ⟨k, rfl⟩ : ∃ n, k = n + 1 := ⟨k - 1, by omega⟩
    simp only [boscageref06_All.l0]
    rw [if_neg (by omega), show j = 32 by omega]
    rfl
  | succ d ih =>
    intro k j hj hd hk
    obtain ⟨k, rfl⟩ : ∃ n, k = n + 1 := ⟨k - 1, by omega⟩
    simp only [boscageref06_All.l0]
    rw [if_pos (by omega), refhas_any m hm j k (by omega), wrap_id (by omega) (by omega), show ((j : Int) + 1) = ((j + 1 : Nat) : Int) by omega]
    simp only [bsome]
    have := ih k (j + 1) (by omega) (by omega) (by omega)
    rw [List.range_succ, List.filter_append, List.map_append] at this
    have hl : (((List.range j).filter fun x => m.testBit x).map fun x : Nat => (x : Int)).length ≤ 32 := by
      rw [List.length_map]
      have := List.length_filter_le (fun x => m.testBit x) (List.range j)
      simp at this
      omega
    have hh : hasM m (j : Int) = m.testBit j := by
      unfold hasM
      rw [Int.toNat_natCast, decide_eq_true (by omega)]
      rfl
    rw [hh]
    by_cases g : m.testBit j = true
    · rw [if_pos g, if_pos (by omega)]
      have e : [j].filter (fun x => m.testBit x) = [j] := by simp [g]
      rw [e] at this
      exact this
    · rw [if_neg g]
      have e : [j].filter (fun x => m.testBit x) = [] := by simp [g]
      rw [e] at this
      simpa using this
theorem refall_any (m : Nat) (hm : m < 4294967296) (k : Nat) (hk : 80 < k) : boscageref06_All.f k m = some (allI m) := by
  unfold boscageref06_All.f
  have := refall_loop m hm 32 k 0 (by omega) (by omega) (by omega)
  simpa using this
theorem refnext_loop (l : List Int) (hl : l.length ≤ 1000) (i : Int) (d : Nat) : ∀ (k j : Nat), j ≤ l.length → l.length - j = d → d < k → boscageref06_Next.l0 k i l j = some (match (l.drop j).filter (fun x => decide (i < x)) with
    | [] => (0, false)
    | x :: _ => (x, true)) := by
  induction d with
  | zero =>
    intro k j hj hd hk
    obtain ⟨k, rfl⟩ : ∃ n, k = n + 1 := ⟨k - 1, by omega⟩
    simp only [boscageref06_Next.l0]
    rw [if_neg (by omega), List.drop_eq_nil_of_le (by omega)]
    rfl
  | succ d ih =>
    intro k j hj hd hk
    obtain ⟨k, rfl⟩ : ∃ n, k = n + 1 := ⟨k - 1, by omega⟩
    simp only [boscageref06_Next.l0]
    rw [if_pos (by omega), if_pos (by omega), drop_rd l j (by omega)]
    by_cases g : rd l (j : Int) > i
    · rw [if_pos g, List.filter_cons_of_pos (by simpa using g)]
    · rw [if_neg g, List.filter_cons_of_neg (by simpa using g), wrap_id (by omega) (by omega), show ((j : Int) + 1) = ((j + 1 : Nat) : Int) by omega]
      exact ih k (j + 1) (by omega) (by omega) (by omega)
theorem refnext_any (m : Nat) (hm : m < 4294967296) (i : Int) (k : Nat) (hk : 100 < k) : boscageref06_Next.f k m i = some (next m i) := by
  have hl := allI_len m
  have hc := cnt_le 32 m
  unfold boscageref06_Next.f
  rw [refall_any m hm k (by omega)]
  simp only [bsome]
  have := refnext_loop (allI m) (by omega) i (allI m).length k 0 (by omega) (by omega) (by omega)
  simp only [List.drop_zero, Int.cast_ofNat_Int] at this
  exact this
theorem sameints_loop (l : List Int) (hl : l.length ≤ 1000) (d : Nat) : ∀ (k j : Nat), j ≤ l.length → l.length - j = d → d < k → boscagebase_SameInts.l0 k l l j = some true := by
  induction d with
  | zero =>
    intro k j hj hd hk
    obtain ⟨k, rfl⟩ : ∃ n, k = n + 1 := ⟨k - 1, by omega⟩
    simp only [boscagebase_SameInts.l0]
    rw [if_neg (by omega)]
  | succ d ih =>
    intro k j hj hd hk
    obtain ⟨k, rfl⟩ : ∃ n, k = n + 1 := ⟨k - 1, by omega⟩
    simp only [boscagebase_SameInts.l0]
    rw [if_pos (show (j : Int) < (l.length : Int) by omega), if_pos (show (0 : Int) ≤ (j : Int) by omega), if_pos (show (j : Int) < (l.length : Int) by omega), if_pos trivial, wrap_id (by omega) (by omega), show ((j : Int) + 1) = ((j + 1 : Nat) : Int) by omega, ih k (j + 1) (by omega) (by omega) (by omega)]
theorem sameints_self (l : List Int) (hl : l.length ≤ 1000) (k : Nat) (hk : 1000 < k) : boscagebase_SameInts.f k l l = some true := by
  unfold boscagebase_SameInts.f
  rw [if_pos rfl]
  exact sameints_loop l hl l.length k 0 (by omega) (by omega) (by omega)
theorem works06_any (k : Nat) (hk : 2000 < k) : boscagelaw06_works.f k = some true := by
  unfold boscagelaw06_works.f
  have e1 := next_mask 9 (by decide) 0 (by decide) (by decide)
  have e2 := place_any 9 (by decide) 3
  have e3 := all_any 9 (by decide) k (by omega)
  have c1 : next 9 0 = (3, true) := by decide
  have c2 : ((allI 9).filter fun j => decide (j < 3)).length = 1 := by decide
  have c3 : allI 9 = [0, 3] := by decide
  rw [c1] at e1
  rw [c2] at e2
  rw [c3] at e3
  have e1' : mask_Next.f 9 0 = some (3, true) := e1
  have e2' : mask_Place.f 9 3 = some 1 := e2
  have e3' : mask_All.f k 9 = some [0, 3] := e3
  rw [e1', e2', e3']
  simp only [bsome, if_true]
  rw [sameints_self [0, 3] (by decide) k (by omega)]
  rfl

theorem MaskGoes : boscagelaw06_MaskGoes.Pure := by
  intro m i hm hi
  have hm := wf_u32 hm
  have hi := wf_i64' hi
  obtain ⟨m, rfl⟩ : ∃ n : Nat, m = n := ⟨m.toNat, by omega⟩
  have hm' : m < 4294967296 := by omega
  have hl := allI_len m
  have hc := cnt_le 32 m
  refine ⟨20000, ?_⟩
  have fin : ∀ b, b = false → boscagelaw06_MaskGoes.j0 20000 m (allI m) b = some true := by
    rintro b rfl
    simp only [boscagelaw06_MaskGoes.j0]
    rw [if_neg (by simp), count_any m hm', all_any m hm' 19999 (by omega)]
    simp only [bsome, if_true]
    rw [sameints_self _ (by omega) 19999 (by omega), works06_any 19999 (by omega)]
    rfl
  unfold boscagelaw06_MaskGoes.f
  rw [next_mask m hm' i hi.1 hi.2, refnext_any m hm' i 20000 (by omega), first_any m hm', refall_any m hm' 20000 (by omega)]
  simp only [bsome, if_true, bne_self_eq_false]
  rw [if_neg (by simp)]
  have hall : (allI m).filter (fun x => decide ((-1 : Int) < x)) = allI m := List.filter_eq_self.2 (fun x hx => by
    obtain ⟨j, _, _, rfl⟩ := allI_mem.1 hx
    simp
    omega)
  unfold next
  rw [hall]
  cases h : allI m with
  | nil =>
    rw [h] at fin
    simp [fin]
  | cons x xs =>
    rw [h] at fin
    have e : rd (x :: xs) 0 = x := rfl
    have hp : (0 : Int) < (xs.length : Int) + 1 := by omega
    simp [fin, e, hp]

end Go.Proofs.YtgpdodmljmanoaaDoor.PureMaskGoes
namespace Go.Proofs.YtgpdodmljmanoaaDoor.Pure
theorem MaskGoes : Go.Proofs.YtgpdodmljmanoaaDoor.PMsk.boscagelaw06_MaskGoes.Pure := PureMaskGoes.MaskGoes
end Go.Proofs.YtgpdodmljmanoaaDoor.Pure
