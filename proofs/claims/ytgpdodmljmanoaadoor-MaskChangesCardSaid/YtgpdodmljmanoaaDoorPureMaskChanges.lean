/- The statement MaskChanges, over numbers and lists: All has each at its Place, and what is put in or taken out changes nothing else; for all masks and numbers. -/
import Derived.Test.YtgpdodmljmanoaaDoorPMskx3
import Derived.Test.YtgpdodmljmanoaaDoorBase
import Derived.Test.YtgpdodmljmanoaaDoorMask
namespace Go.Proofs.YtgpdodmljmanoaaDoor.PureMaskChanges
open Go.RowKit Go.Proofs.YtgpdodmljmanoaaDoor.PMsk Go.Proofs.YtgpdodmljmanoaaDoorW.PrintWords Go.Proofs.YtgpdodmljmanoaaDoorW.PrintLast Go.Proofs.YtgpdodmljmanoaaDoorW.PrintMore Go.Proofs.YtgpdodmljmanoaaDoor.Base Go.Proofs.YtgpdodmljmanoaaDoor.Mask
set_option linter.unusedSimpArgs false
set_option linter.unusedVariables false

theorem below_any (i : Int) : mask_below.f i = some (low i : Int) := by
  unfold mask_below.f low cl
  by_cases h0 : i ≤ 0
  · rw [if_pos h0]
    have : (min (max i 0) 32).toNat = 0 := by omega
    rw [this]
    rfl
  · rw [if_neg h0]
    by_cases h1 : i ≥ 32
    · rw [if_pos h1]
      have : (min (max i 0) 32).toNat = 32 := by omega
      rw [this]
      rfl
    · rw [if_neg h1, if_pos (by omega)]
      obtain ⟨n, rfl⟩ : ∃ n : Nat, i = n := ⟨i.toNat, by omega⟩
      have : (min (max (n : Int) 0) 32).toNat = n := by omega
      rw [this]
      have hp : 2 ^ n ≤ 2 ^ 31 := Nat.pow_le_pow_right (by omega) (by omega)
      have hq : 0 < 2 ^ n := Nat.two_pow_pos _
      have e : shl .u32 1 (n : Int) = ((2 ^ n : Nat) : Int) := by
        unfold shl
        rw [Int.toNat_natCast, show IntKind.u32.bits = 32 from rfl, Nat.min_eq_left (by omega), Int.one_mul, IntKind.wrap_u32]
        have c : ((2 : Int) ^ n) = ((2 ^ n : Nat) : Int) := by simp
        rw [c]
        generalize 2 ^ n = P at hp ⊢
        omega
      rw [e]
      generalize 2 ^ n = P at hp hq ⊢
      congr 1
      omega
theorem ones_any (m : Nat) (hm : m < 4294967296) : bits_OnesCount32.f m = some (cnt 32 m : Int) := by
  unfold bits_OnesCount32.f
  have a1 : Go.bits .and .u32 ((m : Int) / 65536) 255 = ((m / 65536 % 256 : Nat) : Int) := by
    rw [show ((m : Int) / 65536) = ((m / 65536 : Nat) : Int) by omega, show (255 : Int) = ((255 : Nat) : Int) by rfl, and_u32 _ _ (by omega) (by omega), show (255 : Nat) = 2 ^ 8 - 1 by rfl, Nat.and_two_pow_sub_one_eq_mod]
  have a2 : Go.bits .and .u32 ((m : Int) / 256) 255 = ((m / 256 % 256 : Nat) : Int) := by
    rw [show ((m : Int) / 256) = ((m / 256 : Nat) : Int) by omega, show (255 : Int) = ((255 : Nat) : Int) by rfl, and_u32 _ _ (by omega) (by omega), show (255 : Nat) = 2 ^ 8 - 1 by rfl, Nat.and_two_pow_sub_one_eq_mod]
  have a3 : Go.bits .and .u32 (m : Int) 255 = ((m % 256 : Nat) : Int) := by
    rw [show (255 : Int) = ((255 : Nat) : Int) by rfl, and_u32 _ _ (by omega) (by omega), show (255 : Nat) = 2 ^ 8 - 1 by rfl, Nat.and_two_pow_sub_one_eq_mod]
  have a0 : ((m : Int) / 16777216) = ((m / 16777216 : Nat) : Int) := by omega
  rw [a0, a1, a2, a3]
  rw [if_pos (by omega), if_pos (by omega), if_pos (by omega), if_pos (by omega), if_pos (by omega), if_pos (by omega), if_pos (by omega), if_pos (by omega)]
  rw [cnt_tab _ (show m / 16777216 < 256 by omega), cnt_tab _ (show m / 65536 % 256 < 256 by omega), cnt_tab _ (show m / 256 % 256 < 256 by omega), cnt_tab _ (show m % 256 < 256 by omega), cnt_four m]
  have l0 := cnt_le 8 (m / 16777216)
  have l1 := cnt_le 8 (m / 65536 % 256)
  have l2 := cnt_le 8 (m / 256 % 256)
  have l3 := cnt_le 8 (m % 256)
  congr 1
  omega
theorem count_any (m : Nat) (hm : m < 4294967296) : mask_Count.f m = some ((allI m).length : Int) := by
  unfold mask_Count.f
  rw [ones_any m hm]
  simp only [bsome]
  rw [allI_len]
theorem place_any (m : Nat) (hm : m < 4294967296) (i : Int) : mask_Place.f m i = some (((allI m).filter fun j => decide (j < i)).length : Int) := by
  unfold mask_Place.f
  rw [below_any]
  simp only [bsome]
  have hlt : m &&& low i < 4294967296 := Nat.lt_of_le_of_lt Nat.and_le_left hm
  rw [and_u32 m (low i) hm (low_lt i), ones_any _ hlt]
  simp only [bsome]
  rw [cnt_low m i 32 (by omega), Nat.min_eq_right (cl_le i), place_list]
theorem in_any (i : Int) : mask_in.f i = some (decide (0 ≤ i ∧ i < 32)) := by
  unfold mask_in.f
  by_cases h : i ≥ 0
  · rw [if_pos h]
    congr 1
    exact decide_eq_decide.2 (by omega)
  · rw [if_neg h]
    congr 1
    exact (decide_eq_false (by omega)).symm
theorem has_any (m : Nat) (hm : m < 4294967296) (i : Int) : mask_Has.f m i = some (hasM m i) := by
  unfold mask_Has.f hasM
  rw [in_any]
  simp only [bsome]
  by_cases h : 0 ≤ i ∧ i < 32
  · rw [decide_eq_true h, if_pos rfl, if_pos h.1]
    obtain ⟨n, rfl⟩ : ∃ n : Nat, i = n := ⟨i.toNat, by omega⟩
    have e : shr .u32 (m : Int) (n : Int) = ((m / 2 ^ n : Nat) : Int) := by
      unfold shr
      rw [Int.toNat_natCast, show IntKind.u32.bits = 32 from rfl, Nat.min_eq_left (by omega)]
      simp
    have hle : m / 2 ^ n ≤ m := Nat.div_le_self _ _
    rw [e, Int.toNat_natCast, show (1 : Int) = ((1 : Nat) : Int) by rfl, and_u32 _ _ (by omega) (by omega), Nat.and_one_is_mod, Bool.true_and]
    have hb : m.testBit n = decide (m / 2 ^ n % 2 = 1) := Nat.testBit_eq_decide_div_mod_eq
    rw [hb]
    congr 1
    by_cases q : m / 2 ^ n % 2 = 1
    · rw [q]; rfl
    · have q' : m / 2 ^ n % 2 = 0 := by omega
      rw [q']; rfl
  · rw [decide_eq_false h, if_neg (by simp), Bool.false_and]
theorem shl_one {n : Nat} (h : n < 32) : shl .u32 1 (n : Int) = ((2 ^ n : Nat) : Int) := by
  unfold shl
  rw [Int.toNat_natCast, show IntKind.u32.bits = 32 from rfl, Nat.min_eq_left (by omega), Int.one_mul, IntKind.wrap_u32]
  have c : ((2 : Int) ^ n) = ((2 ^ n : Nat) : Int) := by simp
  have hp := pow_lt32 h
  rw [c]
  generalize 2 ^ n = P at hp ⊢
  omega
theorem with_any (m : Nat) (hm : m < 4294967296) (i : Int) : mask_With.f m i = some (withM m i : Int) := by
  unfold mask_With.f withM
  rw [in_any]
  simp only [bsome]
  by_cases h : 0 ≤ i ∧ i < 32
  · rw [decide_eq_true h, if_pos rfl, if_pos h.1, if_pos h]
    obtain ⟨n, rfl⟩ : ∃ n : Nat, i = n := ⟨i.toNat, by omega⟩
    rw [shl_one (by omega), Int.toNat_natCast, or_u32 _ _ hm (pow_lt32 (by omega))]
  · rw [decide_eq_false h, if_neg (by simp), if_neg h]
theorem without_any (m : Nat) (hm : m < 4294967296) (i : Int) : mask_Without.f m i = some (withoutM m i : Int) := by
  unfold mask_Without.f withoutM
  rw [in_any]
  simp only [bsome]
  by_cases h : 0 ≤ i ∧ i < 32
  · rw [decide_eq_true h, if_pos rfl, if_pos h.1, if_pos h]
    obtain ⟨n, rfl⟩ : ∃ n : Nat, i = n := ⟨i.toNat, by omega⟩
    rw [shl_one (by omega), Int.toNat_natCast, andNot_u32 _ _ hm (pow_lt32 (by omega))]
  · rw [decide_eq_false h, if_neg (by simp), if_neg h]
theorem next_mask (m : Nat) (hm : m < 4294967296) (i : Int) (h0 : -9223372036854775808 ≤ i) (h1 : i ≤ 9223372036854775807) : mask_Next.f m i = some (next m i) := by
  unfold mask_Next.f next
  by_cases h : i ≥ 31
  · rw [if_pos h]
    have : (allI m).filter (fun x => decide (i < x)) = [] := List.filter_eq_nil_iff.2 (fun x hx => by
      obtain ⟨j, hj, _, rfl⟩ := allI_mem.1 hx
      simp
      omega)
    rw [this]
  · rw [if_neg h, wrap_id (by omega) (by omega), below_any]
    simp only [bsome]
    rw [andNot_u32 _ _ hm (low_lt _)]
    have hlt : m &&& (4294967295 - low (i + 1)) < 4294967296 := Nat.lt_of_le_of_lt Nat.and_le_left hm
    have hbit : ∀ j, (m &&& (4294967295 - low (i + 1))).testBit j = (m.testBit j && (decide (j < 32) && decide (i < (j : Int)))) := by
      intro j
      rw [Nat.testBit_and, not_bit _ (low_lt _), low_bit]
      by_cases q : j < 32
      · rw [decide_eq_true q, Bool.true_and, Bool.true_and]
        congr 1
        by_cases g : i < (j : Int)
        · rw [decide_eq_true g, decide_eq_false (show ¬ j < cl (i + 1) by unfold cl; omega)]; rfl
        · rw [decide_eq_false g, decide_eq_true (show j < cl (i + 1) by unfold cl; omega)]; rfl
      · rw [decide_eq_false q, Bool.false_and, Bool.false_and]
    generalize m &&& (4294967295 - low (i + 1)) = x at hlt hbit ⊢
    by_cases e : x = 0
    · subst e
      rw [if_pos (by rfl)]
      have : (allI m).filter (fun x => decide (i < x)) = [] := List.filter_eq_nil_iff.2 (fun y hy => by
        obtain ⟨j, hj, hb, rfl⟩ := allI_mem.1 hy
        have := hbit j
        rw [hb, Nat.zero_testBit, decide_eq_true hj] at this
        simpa using this.symm)
      rw [this]
    · rw [if_neg (by omega)]
      unfold bits_TrailingZeros32.f
      rw [if_pos (by omega), if_pos (by omega), Int.toNat_natCast]
      simp only [bsome]
      obtain ⟨c1, c2, c3⟩ := ctz_bit e hlt
      have hb := hbit (Lib.ctz 32 x)
      rw [c1] at hb
      have hb' := hb.symm
      simp only [Bool.and_eq_true, decide_eq_true_eq] at hb'
      obtain ⟨rest, hr⟩ := filter_first (allI_sorted m) (p := fun y => decide (i < y)) (c := (Lib.ctz 32 x : Int)) (allI_mem.2 ⟨_, c2, hb'.1, rfl⟩) (decide_eq_true hb'.2.2) (fun y hy hlt' => by
        obtain ⟨j, hj, hbj, rfl⟩ := allI_mem.1 hy
        have := hbit j
        rw [c3 j (by omega), hbj, decide_eq_true hj] at this
        simpa using this.symm)
      rw [hr]
theorem all_loop (m : Nat) (hm : m < 4294967296) (d : Nat) : ∀ (k : Nat) (acc : List Int) (i : Int), -1 ≤ i → i < 32 → acc.length + d ≤ 64 → ((allI m).filter fun x => decide (i < x)).length = d → d < k →
    mask_All.l0 k m acc i = some (acc ++ (allI m).filter fun x => decide (i < x)) := by
  induction d with
  | zero =>
    intro k acc i h0 h1 ha hd hk
    obtain ⟨k, rfl⟩ : ∃ n, k = n + 1 := ⟨k - 1, by omega⟩
    simp only [mask_All.l0]
    rw [next_mask m hm i (by omega) (by omega)]
    simp only [bsome]
    have hnil := List.length_eq_zero_iff.1 hd
    unfold next
    rw [hnil]
    simp
  | succ d ih =>
    intro k acc i h0 h1 ha hd hk
    obtain ⟨k, rfl⟩ : ∃ n, k = n + 1 := ⟨k - 1, by omega⟩
    simp only [mask_All.l0]
    rw [next_mask m hm i (by omega) (by omega)]
    simp only [bsome]
    unfold next
    cases hf : (allI m).filter (fun x => decide (i < x)) with
    | nil => rw [hf] at hd; simp at hd
    | cons j rest =>
      have hj : j ∈ (allI m).filter (fun x => decide (i < x)) := by rw [hf]; simp
      obtain ⟨hj1, hj2⟩ := List.mem_filter.1 hj
      obtain ⟨n, hn, _, rfl⟩ := allI_mem.1 hj1
      have ht := sorted_tail (allI_sorted m) hf
      rw [hf] at hd
      simp only [List.length_cons] at hd
      have := ih k (acc ++ [(n : Int)]) n (by omega) (by omega) (by simp; omega) (by rw [ht]; omega) (by omega)
      simp only [if_true]
      rw [if_pos (by omega), this, ht]
      simp
theorem all_any (m : Nat) (hm : m < 4294967296) (k : Nat) (hk : 32 < k) : mask_All.f k m = some (allI m) := by
  unfold mask_All.f
  have hall : (allI m).filter (fun x => decide ((-1 : Int) < x)) = allI m := List.filter_eq_self.2 (fun x hx => by
    obtain ⟨j, _, _, rfl⟩ := allI_mem.1 hx
    simp
    omega)
  have hl := allI_len m
  have hc := cnt_le 32 m
  have := all_loop m hm (allI m).length k [] (-1) (by omega) (by omega) (by simp; omega) (by rw [hall]) (by omega)
  rw [this, hall]
  rfl
theorem sameints_loop (l : List Int) (hl : l.length ≤ 1000) (d : Nat) : ∀ (k j : Nat), j ≤ l.length → l.length - j = d → d < k → boscagebase_SameInts.l0 k l l j = some true := by
  induction d with
  | zero =>
    intro k j hj hd hk
    obtain ⟨k, rfl⟩ : ∃ n, k = n + 1 := ⟨k - 1, by omega⟩
    simp only [boscagebase_SameInts.l0]
    rw [if_neg (by omega)]
  | succ d ih =>
    intro k j hj hd hk
    obtain ⟨k, rfl⟩ : ∃ n, k = n + 1 := ⟨k - 1, by omega⟩
    simp only [boscagebase_SameInts.l0]
    rw [if_pos (show (j : Int) < (l.length : Int) by omega), if_pos (show (0 : Int) ≤ (j : Int) by omega), if_pos (show (j : Int) < (l.length : Int) by omega), if_pos trivial, wrap_id (by omega) (by omega), show ((j : Int) + 1) = ((j + 1 : Nat) : Int) by omega, ih k (j + 1) (by omega) (by omega) (by omega)]
theorem sameints_self (l : List Int) (hl : l.length ≤ 1000) (k : Nat) (hk : 1000 < k) : boscagebase_SameInts.f k l l = some true := by
  unfold boscagebase_SameInts.f
  rw [if_pos rfl]
  exact sameints_loop l hl l.length k 0 (by omega) (by omega) (by omega)
theorem works06_any (k : Nat) (hk : 2000 < k) : boscagelaw06_works.f k = some true := by
  unfold boscagelaw06_works.f
  have e1 := next_mask 9 (by decide) 0 (by decide) (by decide)
  have e2 := place_any 9 (by decide) 3
  have e3 := all_any 9 (by decide) k (by omega)
  have c1 : next 9 0 = (3, true) := by decide
  have c2 : ((allI 9).filter fun j => decide (j < 3)).length = 1 := by decide
  have c3 : allI 9 = [0, 3] := by decide
  rw [c1] at e1
  rw [c2] at e2
  rw [c3] at e3
  have e1' : mask_Next.f 9 0 = some (3, true) := e1
  have e2' : mask_Place.f 9 3 = some 1 := e2
  have e3' : mask_All.f k 9 = some [0, 3] := e3
  rw [e1', e2', e3']
  simp only [bsome, if_true]
  rw [sameints_self [0, 3] (by decide) k (by omega)]
  rfl

theorem changes_loop (m : Nat) (hm : m < 4294967296) (d : Nat) : ∀ (k j : Nat), j ≤ (allI m).length → (allI m).length - j = d → d < k → boscagelaw06_MaskChanges.l0 k m (allI m) j = some true := by
  have hl := allI_len m
  have hc := cnt_le 32 m
  induction d with
  | zero =>
    intro k j hj hd hk
    obtain ⟨k, rfl⟩ : ∃ n, k = n + 1 := ⟨k - 1, by omega⟩
    simp only [boscagelaw06_MaskChanges.l0]
    rw [if_neg (by omega), count_any m hm]
    simp
  | succ d ih =>
    intro k j hj hd hk
    obtain ⟨k, rfl⟩ : ∃ n, k = n + 1 := ⟨k - 1, by omega⟩
    simp only [boscagelaw06_MaskChanges.l0]
    have hp := place_at (allI_sorted m) j (by omega)
    rw [if_pos (by omega), if_pos (by omega), place_any m hm, has_any m hm, hp, hasM_mem (rd_mem _ j (by omega))]
    simp only [bsome, if_true]
    rw [wrap_id (by omega) (by omega), show ((j : Int) + 1) = ((j + 1 : Nat) : Int) by omega]
    exact ih k (j + 1) (by omega) (by omega) (by omega)
theorem MaskChanges : boscagelaw06_MaskChanges.Pure := by
  intro m i j hm hi hj
  have hm := wf_u32 hm
  have hi := wf_u8 hi
  have hj := wf_u8 hj
  obtain ⟨m, rfl⟩ : ∃ n : Nat, m = n := ⟨m.toNat, by omega⟩
  have hm' : m < 4294967296 := by omega
  have hl := allI_len m
  have hc := cnt_le 32 m
  have ei : wrap64 (Int.tmod i 32) = i % 32 := by rw [Int.tmod_eq_emod_of_nonneg hi.1, wrap_id (by omega) (by omega)]
  have ej : wrap64 (Int.tmod j 32) = j % 32 := by rw [Int.tmod_eq_emod_of_nonneg hj.1, wrap_id (by omega) (by omega)]
  refine ⟨20000, ?_⟩
  have fin : ∀ b, b = false → boscagelaw06_MaskChanges.j0 20000 m b = some true := by
    rintro b rfl
    simp only [boscagelaw06_MaskChanges.j0]
    rw [if_neg (by simp), all_any m hm' 19999 (by omega)]
    simp only [bsome]
    have := changes_loop m hm' (allI m).length 19999 0 (by omega) (by omega) (by omega)
    simpa using this
  unfold boscagelaw06_MaskChanges.f
  rw [ei, ej, works06_any 20000 (by omega)]
  obtain ⟨x, hx⟩ : ∃ x, i % 32 = x := ⟨_, rfl⟩
  obtain ⟨y, hy⟩ : ∃ y, j % 32 = y := ⟨_, rfl⟩
  have rx : 0 ≤ x ∧ x < 32 := by omega
  have ry : 0 ≤ y ∧ y < 32 := by omega
  rw [hx, hy]
  simp only [bsome, if_true]
  rw [with_any m hm' x, without_any m hm' x]
  simp only [bsome]
  have wl := withM_lt hm' x
  have vl := withoutM_lt hm' x
  rw [has_any _ wl x, has_any _ vl x, has_any _ wl y, has_any m hm' y, has_any _ vl y]
  simp only [bsome]
  have e1 : hasM (withM m x) x = true := by
    unfold hasM
    rw [withM_bit, decide_eq_true rx, decide_eq_true (by omega)]
    simp
  have e2 : hasM (withoutM m x) x = false := by
    unfold hasM
    rw [withoutM_bit hm', decide_eq_true (show 0 ≤ x ∧ x < 32 ∧ x = (x.toNat : Int) by omega)]
    simp
  rw [e1, e2, if_pos rfl, if_neg (by simp)]
  by_cases q : x = y
  · rw [if_pos q, fin _ rfl]
  · rw [if_neg q]
    have e3 : hasM (withM m x) y = hasM m y := by
      unfold hasM
      rw [withM_bit, decide_eq_false (show ¬ (0 ≤ x ∧ x < 32 ∧ x = (y.toNat : Int)) by omega)]
      simp
    have e4 : hasM (withoutM m x) y = hasM m y := by
      unfold hasM
      rw [withoutM_bit hm', decide_eq_false (show ¬ (0 ≤ x ∧ x < 32 ∧ x = (y.toNat : Int)) by omega)]
      simp
    rw [e3, e4]
    simp [fin]

end Go.Proofs.YtgpdodmljmanoaaDoor.PureMaskChanges
namespace Go.Proofs.YtgpdodmljmanoaaDoor.Pure
theorem MaskChanges : Go.Proofs.YtgpdodmljmanoaaDoor.PMsk.boscagelaw06_MaskChanges.Pure := PureMaskChanges.MaskChanges
end Go.Proofs.YtgpdodmljmanoaaDoor.Pure
