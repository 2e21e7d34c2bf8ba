/- Texts of one proof, laid together: how the interpreter's words stand for the program's code and what the functions do. No conditions but those that each lemma names. -/
import Derived.Test.YtjekopgcpikkiaaDoorM4
set_option linter.unusedSimpArgs false
set_option linter.unusedVariables false
set_option linter.unusedSimpArgs false
namespace Go.Proofs.YtjekopgcpikkiaaDoor.AA
open Go.Abs
theorem withC_m (m : Nat) (hm : m < 4294967296) (i : Int) : mask_With m i = some (withM m i : Int) := by
  rw [mask_With.eq, in_any, bnd_some]
  simp only [leI_d, notB_d, br_if]
  unfold withM
  by_cases h : 0 ≤ i ∧ i < 32
  · rw [if_neg (by omega), if_pos h.1, if_pos h]
    have hi : i = ((i.toNat : Nat) : Int) := by omega
    have hlt : i.toNat < 32 := by omega
    generalize i.toNat = k at hi hlt
    subst hi
    rw [shl_one k hlt, or_u32 _ _ hm (pow_lt32 hlt)]
  · rw [if_pos h, if_neg h]
/-- The first of a list, and whether there is one. -/
def nextV : List Int → Int × Bool × Unit
  | [] => (0, (false, ()))
  | c :: _ => (c, (true, ()))
theorem next_m (m : Nat) (hm : m < 4294967296) (i : Int) (h1 : -1 ≤ i) (h2 : i ≤ 1000) : mask_Next m i = some (nextV ((allI m).filter (fun x => decide (i < x)))) := by
  rw [mask_Next.eq]
  simp only [leI_d, br_if]
  by_cases h : 31 ≤ i
  · have e : (allI m).filter (fun x => decide (i < x)) = [] := List.filter_eq_nil_iff.2 fun x hx => by
      obtain ⟨j, hj, _, rfl⟩ := allI_mem.1 hx
      simp only [decide_eq_true_eq]
      omega
    rw [if_pos h, e]
    rfl
  · have hadd : addI .i64 i 1 = i + 1 := wrap_i64_id (by omega) (by omega)
    rw [if_neg h, hadd, below_any, bnd_some, andNot_u32 m (low (i + 1)) hm (low_lt _)]
    have hx : m &&& (4294967295 - low (i + 1)) < 4294967296 := Nat.lt_of_le_of_lt Nat.and_le_left hm
    have hcl : cl (i + 1) = (i + 1).toNat := by unfold cl; omega
    have hbit : ∀ j, (m &&& (4294967295 - low (i + 1))).testBit j = (m.testBit j && (decide (j < 32) && !decide (j < (i + 1).toNat))) := by
      intro j
      rw [Nat.testBit_and, not_bit _ (low_lt _), low_bit, hcl]
    revert hx hbit
    generalize m &&& (4294967295 - low (i + 1)) = x
    intro hx hbit
    simp only [eqI_d, br_if]
    by_cases h0 : x = 0
    · have e : (allI m).filter (fun x => decide (i < x)) = [] := List.filter_eq_nil_iff.2 fun y hy => by
        obtain ⟨j, hj, hb, rfl⟩ := allI_mem.1 hy
        have := hbit j
        rw [h0, Nat.zero_testBit, hb, decide_eq_true hj, Bool.true_and, Bool.true_and] at this
        simp only [decide_eq_true_eq]
        have : j < (i + 1).toNat := by simpa using this.symm
        omega
      rw [if_pos (by omega), e]
      rfl
    · rw [if_neg (by omega), math_bits_TrailingZeros32.eq]
      simp only [leI_d, ltI_d, andB_d, br_if]
      rw [if_pos ⟨by omega, by omega⟩, bnd_some]
      obtain ⟨b1, b2, b3⟩ := ctz_bit h0 hx
      have hb := hbit (Lib.ctz 32 x)
      rw [b1] at hb
      have hb := hb.symm
      simp only [Bool.and_eq_true, decide_eq_true_eq, Bool.not_eq_true', decide_eq_false_iff_not] at hb
      obtain ⟨rest, e⟩ := filter_first (allI_sorted m) (p := fun x => decide (i < x)) (c := ((Lib.ctz 32 x : Nat) : Int)) (allI_mem.2 ⟨_, b2, hb.1, rfl⟩) (by simp only [decide_eq_true_eq]; omega) (fun y hy hlt => by
        obtain ⟨j, hj, hm', rfl⟩ := allI_mem.1 hy
        have h3 := b3 j (by omega)
        rw [hbit j, hm', decide_eq_true hj, Bool.true_and, Bool.true_and] at h3
        have : j < (i + 1).toNat := by simpa using h3
        simp only [decide_eq_false_iff_not]
        omega)
      rw [e]
      rfl
theorem all_loop (m : Nat) (hm : m < 4294967296) : ∀ (rest : List Int) (i : Int) (acc : List Int), -1 ≤ i → i ≤ 1000 → (allI m).filter (fun x => decide (i < x)) = rest → acc.length + rest.length ≤ 1000 → mask_All.l0 m i acc = some (acc ++ rest)
  | [], i, acc, h1, h2, hr, hl => by
    rw [mask_All.l0.eq, next_m m hm i h1 h2, hr, bnd_some]
    show some acc = some (acc ++ [])
    rw [List.append_nil]
  | c :: rest, i, acc, h1, h2, hr, hl => by
    have hc : c ∈ allI m := (List.mem_filter.1 (hr ▸ List.mem_cons_self : c ∈ (allI m).filter (fun x => decide (i < x)))).1
    obtain ⟨j, hj, _, e⟩ := allI_mem.1 hc
    simp only [List.length_cons] at hl
    rw [mask_All.l0.eq, next_m m hm i h1 h2, hr, bnd_some]
    show br (fitL (.int .i64) (acc ++ [c])) (mask_All.l0 m c (acc ++ [c])) none = _
    rw [fitL_d, br_if, if_pos (by simp; omega), all_loop m hm rest c (acc ++ [c]) (by omega) (by omega) (sorted_tail (allI_sorted m) hr) (by simp; omega), List.append_assoc]
    rfl
theorem all_m (m : Nat) (hm : m < 4294967296) : mask_All m = some (allI m) := by
  have hl : (allI m).length ≤ 32 := by rw [allI_len]; exact cnt_le 32 m
  have e : (allI m).filter (fun x => decide (-1 < x)) = allI m := List.filter_eq_self.2 fun x hx => by
    obtain ⟨j, _, _, rfl⟩ := allI_mem.1 hx
    simp only [decide_eq_true_eq]
    omega
  rw [mask_All.eq, all_loop m hm (allI m) (-1) [] (by omega) (by omega) e (by simp; omega)]
  rfl
/-! ### Bindings parted -/
noncomputable def partF (bits : Int) (level : Nat) (l : List PairV) : Int → List PairV := fun i => l.filter fun p => decide (((ck bits level p.1 : Nat) : Int) = i)
noncomputable def maskF (bits : Int) (level : Nat) : List PairV → Nat → Nat
  | [], s => s
  | p :: l, s => maskF bits level l (withM s ((ck bits level p.1 : Nat) : Int))
theorem go_any (bits : Int) (level : Nat) (hv : level ≤ 50000000) : ∀ (l : List PairV) (m : Int → List PairV) (s : Nat), (∀ p ∈ l, okP p) → s < 4294967296 →
    trie_maker_parted.go (level : Int) bits l m (s : Int) = some (fun i => m i ++ partF bits level l i, ((maskF bits level l s : Nat) : Int))
  | [], m, s, _, _ => by
    rw [trie_maker_parted.fin]
    have : (fun i => m i ++ partF bits level [] i) = m := by funext i; exact List.append_nil _
    rw [this]
    rfl
  | p :: l, m, s, ho, hs => by
    have h1 := ho p List.mem_cons_self
    rw [trie_maker_parted.step, hashof_any p.1 bits (by have := h1.1; omega), bnd_some, chunk_any _ (hash_lt64 _ _) _ _ (by omega), bnd_some, if_neg (by omega), Int.toNat_natCast]
    rw [withC_m s hs, bnd_some, go_any bits level hv l _ _ (fun q hq => ho q (List.mem_cons_of_mem _ hq)) (withM_lt hs _)]
    have : (fun i => putM tapiPair m ((chunkS (hashS p.1 bits) level bits : Nat) : Int) p i ++ partF bits level l i) = fun i => m i ++ partF bits level (p :: l) i := by
      funext i
      unfold putM partF
      by_cases e : i = ((chunkS (hashS p.1 bits) level bits : Nat) : Int)
      · rw [if_pos e, List.filter_cons, if_pos (by rw [decide_eq_true_eq]; exact e.symm), List.append_assoc]
        rfl
      · rw [if_neg e, List.filter_cons, if_neg (by rw [decide_eq_true_eq]; exact fun q => e q.symm)]
    rw [this]
    rfl
theorem maskF_bit (bits : Int) (level : Nat) (j : Nat) : ∀ (l : List PairV) (s : Nat), (maskF bits level l s).testBit j = true ↔ s.testBit j = true ∨ ∃ p ∈ l, ck bits level p.1 = j
  | [], s => by simp [maskF]
  | p :: l, s => by
    have hlt := ck_lt bits level p.1
    show (maskF bits level l (withM s _)).testBit j = true ↔ _
    rw [maskF_bit bits level j l, withM_bit, Bool.or_eq_true, decide_eq_true_eq]
    constructor
    · rintro ((h | ⟨_, _, h⟩) | ⟨q, hq, h⟩)
      · exact .inl h
      · exact .inr ⟨p, List.mem_cons_self, by omega⟩
      · exact .inr ⟨q, List.mem_cons_of_mem _ hq, h⟩
    · rintro (h | ⟨q, hq, h⟩)
      · exact .inl (.inl h)
      · rcases List.mem_cons.1 hq with rfl | hq
        · exact .inl (.inr ⟨by omega, by omega, by omega⟩)
        · exact .inr ⟨q, hq, h⟩
theorem maskF_eq (bits : Int) (level : Nat) (l : List PairV) : maskF bits level l 0 = maskC bits level l := by
  apply Nat.eq_of_testBit_eq
  intro j
  rw [Bool.eq_iff_iff, maskF_bit, maskC_bit, usedC_mem, Nat.zero_testBit]
  constructor
  · rintro (h | ⟨p, hp, h⟩)
    · cases h
    · have hlt := ck_lt bits level p.1
      refine ⟨by omega, fun e => ?_⟩
      have : p ∈ part bits level l j := List.mem_filter.2 ⟨hp, by simpa using h⟩
      rw [e] at this
      cases this
  · rintro ⟨_, h⟩
    obtain ⟨p, hp⟩ := List.exists_mem_of_ne_nil _ h
    exact .inr ⟨p, (List.mem_filter.1 hp).1, by simpa using (List.mem_filter.1 hp).2⟩
theorem partF_nat (bits : Int) (level : Nat) (l : List PairV) (j : Nat) : partF bits level l (j : Int) = part bits level l j := by
  unfold partF part
  refine List.filter_congr fun p _ => ?_
  rw [decide_eq_decide]
  omega
theorem parted_any (bits : Int) (level : Nat) (hv : level ≤ 50000000) (l : List PairV) (hl : l.length ≤ 1000000) (ho : ∀ p ∈ l, okP p) (h : List NodeV) :
    trie_maker_parted l (level : Int) (bits, ((), ())) h = some ((partF bits level l, (((maskC bits level l : Nat) : Int), ())), ((bits, ((), ())), (h, ()))) := by
  rw [trie_maker_parted.eq, fitL_d, br_if, if_pos (by omega)]
  have := go_any bits level hv l (fun _ => []) 0 ho (by omega)
  dsimp only
  rw [show (0 : Int) = ((0 : Nat) : Int) from rfl, this, bnd_some, maskF_eq]
  have : (fun i => [] ++ partF bits level l i) = partF bits level l := by funext i; rfl
  rw [this]
/-! ### The maker -/
theorem mkadd_any (n : NodeV) (bits : Int) (h : List NodeV) (hl : h.length + 1 ≤ 1073741824) : trie_maker_add n (bits, ((), ())) h = some ((h.length : Int) + 1, ((bits, ((), ())), (h ++ [n], ()))) := by
  rw [trie_maker_add.eq]
  simp only [fitL_d, appL_d, lenL_d, ofN_d, br_if]
  rw [if_pos (by rw [List.length_append]; exact hl), List.length_append]
  rfl
theorem branchM_any (m : Nat) (ks : List Int) (sz : Int) (hk : ks.length ≤ 50000000) : node_Branch (m : Int) ks sz = some (bN m ks sz 0) := by
  rw [node_Branch.eq, cloneR_any ks hk, bnd_some]
  rfl
section
variable (bits : Int) (f : Nat) (l : List PairV) (hf : f + 1 ≤ lev bits) (hb : ∀ p ∈ l, okT p) (hS : Srt l) (hl : l.length ≤ 1000000)
  (ih : ∀ (h : List NodeV) (q : List PairV), MkOK f h q → trie_maker_trie q ((lev bits - f : Nat) : Int) (bits, ((), ())) h = some ((trieN bits f h q).2, ((bits, ((), ())), ((trieN bits f h q).1, ()))))
include hf hb hS hl ih
theorem t_l1 (d : Nat) : ∀ (k : Nat) (h : List NodeV) (ks : List Int), k ≤ (usedC bits (lev bits - (f + 1)) l).length → (usedC bits (lev bits - (f + 1)) l).length - k = d → ks.length ≤ k → mayH h = true → h.length + (((usedC bits (lev bits - (f + 1)) l).drop k).map fun j => (part bits (lev bits - (f + 1)) l j).length).sum * (f + 1) + 1 ≤ 40000000 →
    trie_maker_trie.l1 l ((lev bits - (f + 1) : Nat) : Int) (partF bits (lev bits - (f + 1)) l) ((maskC bits (lev bits - (f + 1)) l : Nat) : Int) (usedI bits (lev bits - (f + 1)) l) (((usedC bits (lev bits - (f + 1)) l).length : Nat) : Int) (k : Int) (bits, ((), ())) h ks =
      some (((walkN (fun g i => trieN bits f g (part bits (lev bits - (f + 1)) l i)) h ((usedC bits (lev bits - (f + 1)) l).drop k)).1.length : Int) + 1, ((bits, ((), ())), ((walkN (fun g i => trieN bits f g (part bits (lev bits - (f + 1)) l i)) h ((usedC bits (lev bits - (f + 1)) l).drop k)).1 ++ [bN (maskC bits (lev bits - (f + 1)) l) (ks ++ (walkN (fun g i => trieN bits f g (part bits (lev bits - (f + 1)) l i)) h ((usedC bits (lev bits - (f + 1)) l).drop k)).2) l.length 0], ()))) := by
  have hlev := lev_le bits
  have hu : (usedC bits (lev bits - (f + 1)) l).length ≤ 32 := by
    have := List.length_filter_le (fun i => !(part bits (lev bits - (f + 1)) l i).isEmpty) (List.range 32)
    rw [List.length_range] at this
    exact this
  induction d with
  | zero =>
    intro k h ks h1 h2 h3 hm hlen
    have hd : (usedC bits (lev bits - (f + 1)) l).drop k = [] := List.drop_of_length_le (by omega)
    rw [hd] at hlen ⊢
    simp only [List.map_nil, List.sum_nil] at hlen
    rw [trie_maker_trie.l1.eq]
    simp only [ltI_d, lenL_d, ofN_d, br_if]
    rw [if_neg (by omega), branchM_any _ _ _ (by omega), bnd_some, mkadd_any _ _ _ (by omega), bnd_some]
    show some ((h.length : Int) + 1, ((bits, ((), ())), (h ++ [bN _ ks _ _], ()))) = some ((h.length : Int) + 1, ((bits, ((), ())), (h ++ [bN _ (ks ++ []) _ _], ())))
    rw [List.append_nil]
  | succ d ihd =>
    intro k h ks h1 h2 h3 hm hlen
    have hk : k < (usedC bits (lev bits - (f + 1)) l).length := by omega
    generalize hlv : lev bits - (f + 1) = level at hlen ihd hu h1 h2 hk ⊢
    have hlf : lev bits - f = level + 1 := by omega
    rw [hlf] at ih
    have hil : (usedI bits level l).length = (usedC bits level l).length := List.length_map _
    have hix : ixL (.int .i64) (usedI bits level l) (k : Int) = (((usedC bits level l)[k] : Nat) : Int) := by
      rw [ixL_d (.int .i64) (usedI bits level l) k (by rw [hil]; exact hk)]
      simp
    have hdr : (usedC bits level l).drop k = (usedC bits level l)[k] :: (usedC bits level l).drop (k + 1) := List.drop_eq_getElem_cons hk
    rw [hdr] at hlen ⊢
    generalize hi : (usedC bits level l)[k] = i at hlen hix ⊢
    have hmem : i ∈ usedC bits level l := by rw [← hi]; exact List.getElem_mem hk
    have hp := (usedC_mem.1 hmem).2
    rw [List.map_cons, List.sum_cons, mul_up] at hlen
    have hpl : 0 < (part bits level l i).length := List.length_pos_iff.2 hp
    have hpm : (part bits level l i).length ≤ l.length := part_len _ _ _ _
    have ok : MkOK f h (part bits level l i) := ⟨hm, fun p hp => hb p (part_sub hp), part_srt hS i, by omega, by omega⟩
    have T := trieN_ok bits f h (part bits level l i) hm ok.txt ok.srt ok.len
    obtain ⟨new, en, ln, _⟩ := T.pre
    rw [trie_maker_trie.l1.eq, hix]
    simp only [ltI_d, leI_d, andB_d, lenL_d, ofN_d, br_if]
    rw [if_pos (by omega), if_pos ⟨by omega, by rw [hil]; omega⟩, show getM tapiPair (partF bits level l) (i : Int) = part bits level l i from partF_nat bits level l i, add1 level (by omega), ih h _ ok, bnd_some, walkN_cons]
    dsimp only
    simp only [fitL_d, appL_d, br_if]
    rw [if_pos (by rw [List.length_append]; simp only [List.length_cons, List.length_nil]; omega), add1 k (by omega)]
    have := ihd (k + 1) (trieN bits f h (part bits level l i)).1 (ks ++ [(trieN bits f h (part bits level l i)).2]) (by omega) (by omega) (by rw [List.length_append]; simp only [List.length_cons, List.length_nil]; omega) T.may (by rw [en, List.length_append]; omega)
    rw [List.append_assoc] at this
    exact this
end
theorem t_l0 (bits : Int) (f : Nat) (l : List PairV) (h : List NodeV) :
    trie_maker_trie.l0 l ((lev bits - (f + 1) : Nat) : Int) (partF bits (lev bits - (f + 1)) l) ((maskC bits (lev bits - (f + 1)) l : Nat) : Int) (usedI bits (lev bits - (f + 1)) l) (((usedC bits (lev bits - (f + 1)) l).length : Nat) : Int) (0 : Int) (bits, ((), ())) h [] =
      trie_maker_trie.l1 l ((lev bits - (f + 1) : Nat) : Int) (partF bits (lev bits - (f + 1)) l) ((maskC bits (lev bits - (f + 1)) l : Nat) : Int) (usedI bits (lev bits - (f + 1)) l) (((usedC bits (lev bits - (f + 1)) l).length : Nat) : Int) (0 : Int) (bits, ((), ())) h [] := by
  rw [trie_maker_trie.l0.eq, trie_maker_trie.l1.eq]
theorem mtrie_any (bits : Int) : ∀ (f : Nat) (h : List NodeV) (l : List PairV), f ≤ lev bits → MkOK f h l → trie_maker_trie l ((lev bits - f : Nat) : Int) (bits, ((), ())) h = some ((trieN bits f h l).2, ((bits, ((), ())), ((trieN bits f h l).1, ()))) := by
  have hlev := lev_le bits
  have one : ∀ (f : Nat) (h : List NodeV) (p : PairV), MkOK f h [p] → trie_maker_trie [p] ((lev bits - f : Nat) : Int) (bits, ((), ())) h = some ((trieN bits f h [p]).2, ((bits, ((), ())), ((trieN bits f h [p]).1, ()))) := fun f h p ok => by
    have := ok.fits
    simp only [List.length_cons, List.length_nil] at this
    rw [trieN_one, trie_maker_trie.eq]
    simp only [ltI_d, leI_d, eqI_d, andB_d, lenL_d, ofN_d, br_if]
    have e : ixL tapiPair [p] (0 : Int) = p := rfl
    rw [if_neg (by simp), if_pos (by simp), if_pos (by simp), if_pos (by simp), e, node_Leaf.eq, bnd_some]
    show bnd (trie_maker_add (lfN p) (bits, ((), ())) h) _ = _
    rw [mkadd_any _ _ _ (by omega), bnd_some]
  intro f
  induction f with
  | zero =>
    intro h l hf ok
    rcases len_cases l with rfl | ⟨p, rfl⟩ | h2
    · rw [trieN_nil, trie_maker_trie.eq]; rfl
    · exact one 0 h p ok
    · have := ok.fits
      have hln := ok.len
      rw [trieN_buck bits h h2, trie_maker_trie.eq]
      simp only [leI_d, eqI_d, lenL_d, ofN_d, br_if]
      rw [if_neg (by omega), if_neg (by omega), levels_any, bnd_some, if_pos (by omega), node_Bucket.eq, make_any l (by omega) (fun p hp => (ok.txt p hp).ok), bnd_some, makeS_srt ok.srt, bnd_some]
      show bnd (trie_maker_add (buckN l) (bits, ((), ())) h) _ = _
      rw [mkadd_any _ _ _ (by omega), bnd_some]
  | succ f ih =>
    intro h l hf ok
    rcases len_cases l with rfl | ⟨p, rfl⟩ | h2
    · rw [trieN_nil, trie_maker_trie.eq]; rfl
    · exact one (f + 1) h p ok
    · have hfit := ok.fits
      have hln := ok.len
      rw [Nat.mul_succ] at hfit
      rw [trieN_br bits f h h2, trie_maker_trie.eq]
      simp only [leI_d, eqI_d, lenL_d, ofN_d, br_if]
      rw [if_neg (by omega), if_neg (by omega), levels_any, bnd_some, if_neg (by omega), parted_any bits _ (by omega) l hln (fun p hp => (ok.txt p hp).ok) h, bnd_some]
      dsimp only
      rw [all_m _ (maskC_lt _ _ _), bnd_some]
      have eI : allI (maskC bits (lev bits - (f + 1)) l) = usedI bits (lev bits - (f + 1)) l := by
        unfold allI
        rw [allL_maskC]
      have hil : (usedI bits (lev bits - (f + 1)) l).length = (usedC bits (lev bits - (f + 1)) l).length := List.length_map _
      rw [eI, hil]
      have hs : h.length + ((usedC bits (lev bits - (f + 1)) l).map fun j => (part bits (lev bits - (f + 1)) l j).length).sum * (f + 1) + 1 ≤ 40000000 := by rw [parts_sum]; omega
      rw [t_l0 bits f l h]
      have := t_l1 bits f l hf ok.txt ok.srt ok.len (fun h q o => ih h q (by omega) o) _ 0 h [] (by omega) rfl (by simp) ok.may (by rw [List.drop_zero]; exact hs)
      rw [List.drop_zero] at this
      exact this
end Go.Proofs.YtjekopgcpikkiaaDoor.AA
set_option linter.unusedVariables false
set_option linter.unusedSimpArgs false
namespace Go.Proofs.YtjekopgcpikkiaaDoor.AA
open Go.Abs
theorem refbinds_any (n : NodeV) : ref13_Binds n = some (bindsS n) := by
  rw [ref13_Binds.eq]
  unfold bindsS
  simp only [eqI_d, br_if]
  by_cases h1 : n.1 = 1
  · rw [if_pos h1, if_pos (.inl h1)]
  by_cases h4 : n.1 = 4
  · rw [if_neg h1, if_pos h4, if_pos (.inr (.inl h4))]
  by_cases h6 : n.1 = 6
  · rw [if_neg h1, if_neg h4, if_pos h6, if_pos (.inr (.inr h6))]
  rw [if_neg h1, if_neg h4, if_neg h6, if_neg (show ¬ (n.1 = 1 ∨ n.1 = 4 ∨ n.1 = 6) by omega)]
  by_cases h3 : n.1 = 3
  · rw [if_pos h3, if_pos h3]
  · rw [if_neg h3, if_neg h3]
end Go.Proofs.YtjekopgcpikkiaaDoor.AA
set_option linter.unusedVariables false
set_option linter.unusedSimpArgs false
namespace Go.Proofs.YtjekopgcpikkiaaDoor.AA
open Go.Abs
theorem refhbinds_loop {h : List NodeV} (ho : okH h) (refs : List Int) (hr : refs.length ≤ 50000000) (hb : ∀ x ∈ refs, ref17_Binds h x = some (bindsT (U h x))) (d : Nat) : ∀ (i : Nat) (acc : List PairV), i ≤ refs.length → refs.length - i = d →
    (acc ++ ((refs.drop i).map fun x => bindsT (U h x)).flatten).length ≤ 1000000000 → ref17_Binds.l0 h refs i acc = some (acc ++ ((refs.drop i).map fun x => bindsT (U h x)).flatten) := by
  induction d with
  | zero =>
    intro i acc h1 h2 h3
    rw [ref17_Binds.l0.eq]
    simp only [ltI_d, ofN_d, lenL_d, br_if]
    rw [if_neg (by omega), List.drop_eq_nil_of_le (by omega)]
    simp
  | succ d ih =>
    intro i acc h1 h2 h3
    have hi : i < refs.length := by omega
    rw [List.drop_eq_getElem_cons hi, List.map_cons, List.flatten_cons, ← List.append_assoc] at h3
    rw [ref17_Binds.l0.eq]
    simp only [ltI_d, leI_d, ofN_d, lenL_d, andB_d, br_if]
    rw [if_pos (by omega), if_pos (by omega), ixR refs i hi, hb _ (List.getElem_mem hi), bnd_some]
    simp only [fitL_d, appL_d, br_if]
    rw [if_pos (by rw [List.length_append] at h3; omega), add1 i (by omega), ih (i + 1) _ (by omega) (by omega) h3, List.drop_eq_getElem_cons hi, List.map_cons, List.flatten_cons, List.append_assoc]
theorem refhbinds_any {h : List NodeV} (ho : okH h) (hm : mayH h = true) : ∀ (n : Nat) (r : Int), 0 ≤ r → r ≤ n → r ≤ h.length → (bindsT (U h r)).length ≤ 1000000000 → ref17_Binds h r = some (bindsT (U h r)) := by
  have hlen := ho.len
  intro n
  induction n with
  | zero =>
    intro r h0 h1 h2 h3
    have : r = 0 := by omega
    subst this
    rw [ref17_Binds.eq, eqI_d, br_if, if_pos rfl, U_zero, bindsT_nil]
  | succ n ih =>
    intro r h0 h1 h2 h3
    by_cases e : r = 0
    · subst e
      rw [ref17_Binds.eq, eqI_d, br_if, if_pos rfl, U_zero, bindsT_nil]
    have hr1 : 1 ≤ r := by omega
    have o := ho.node _ (getN_mem h r hr1 h2)
    rw [ref17_Binds.eq, eqI_d, br_if, if_neg e, inG h r hr1 h2 (by omega), br_t, ixG h r hr1 h2 (by omega), eqI_d, br_if]
    by_cases h4 : (getN h r).1 = 4
    · obtain ⟨a, b, k1, k2, k3, k4, k5⟩ := bindsU_tree hm hr1 h2 h4
      rw [k5, List.length_append, List.length_append] at h3
      rw [if_pos h4, (in01 _ a b k1).1, br_t, (in01 _ a b k1).2, (ix0 _ a b k1).1, (ix0 _ a b k1).2, ih a (by omega) (by omega) (by omega) (by omega), bnd_some]
      simp only [fitL_d, appL_d, br_if, List.nil_append]
      rw [if_pos (by omega), refbinds_any, bnd_some]
      try simp only [fitL_d, appL_d, br_if]
      rw [if_pos (by rw [List.length_append]; omega), br_t, ih b (by omega) (by omega) (by omega) (by omega), bnd_some]
      try simp only [fitL_d, appL_d, br_if]
      rw [if_pos (by rw [List.length_append, List.length_append]; omega), k5]
    · have k5 := bindsU_refs hm hr1 h2 h4
      have hrl := refsS_len (getN h r)
      have hkl := o.kids
      rw [k5] at h3
      have hx := (may_node hm hr1 h2).2
      have hb : ∀ x ∈ refsS (getN h r), ref17_Binds h x = some (bindsT (U h x)) := by
        intro x hx'
        have hq := hx'
        rw [refsS_all] at hq
        have := hx x (List.mem_filter.1 hq).1
        refine ih x (by omega) (by omega) (by omega) ?_
        have := flat_sub (List.mem_map.2 ⟨x, hx', rfl⟩ : bindsT (U h x) ∈ (refsS (getN h r)).map fun x => bindsT (U h x))
        rw [List.length_append] at h3
        omega
      rw [if_neg h4, refbinds_any, bnd_some]
      simp only [fitL_d, appL_d, br_if, List.nil_append]
      rw [if_pos (by rw [List.length_append] at h3; omega), refrefs_any _ o, bnd_some]
      have := refhbinds_loop ho (refsS (getN h r)) (by omega) hb (refsS (getN h r)).length 0 (bindsS (getN h r)) (by omega) (by omega) (by rw [List.drop_zero]; exact h3)
      rw [List.drop_zero, show ((0 : Nat) : Int) = 0 from rfl] at this
      rw [k5]
      exact this
end Go.Proofs.YtjekopgcpikkiaaDoor.AA
set_option linter.unusedVariables false
set_option linter.unusedSimpArgs false
namespace Go.Proofs.YtjekopgcpikkiaaDoor.AA
open Go.Abs
def waysN (n : NodeV) : Nat := max (refsS n).length 1
def prodW : List NodeV → Nat
  | [] => 1
  | n :: l => waysN n * prodW l
theorem prodW_app : ∀ a b : List NodeV, prodW (a ++ b) = prodW a * prodW b
  | [], b => by show prodW b = 1 * prodW b; omega
  | n :: a, b => by
    show waysN n * prodW (a ++ b) = waysN n * prodW a * prodW b
    rw [prodW_app a b, Nat.mul_assoc]
theorem prodW_pos : ∀ a : List NodeV, 1 ≤ prodW a
  | [] => Nat.le_refl _
  | n :: a => by
    have h := prodW_pos a
    have : 1 ≤ waysN n := by unfold waysN; omega
    exact Nat.mul_pos this h
theorem fewW_prod : ∀ (l : List NodeV) (w : Nat), w ≤ 3000 → w * prodW (fewW w l) ≤ 3000
  | [], w, h => by
    show w * 1 ≤ 3000
    omega
  | n :: l, w, h => by
    rw [fewW_cons]
    split
    · show w * 1 ≤ 3000
      omega
    · rename_i hg
      have := fewW_prod l (w * max (refsS (few n)).length 1) (by omega)
      show w * (waysN (few n) * _) ≤ 3000
      rw [← Nat.mul_assoc]
      exact this
theorem fewH_prod (h : List NodeV) : prodW (fewH h) ≤ 3000 := by
  have := fewW_prod (h.take 12) 1 (by omega)
  rw [Nat.one_mul] at this
  exact this
theorem sum_le {A : Type} (f : A → Nat) (M : Nat) : ∀ l : List A, (∀ x ∈ l, f x ≤ M) → (l.map f).sum ≤ l.length * M
  | [], _ => by simp
  | x :: l, h => by
    have ih := sum_le f M l (fun y hy => h y (List.mem_cons_of_mem _ hy))
    have hx := h x List.mem_cons_self
    rw [List.map_cons, List.sum_cons, List.length_cons, Nat.succ_mul]
    omega
theorem flat_len {A : Type} (f : A → List PairV) : ∀ l : List A, ((l.map f).flatten).length = (l.map fun x => (f x).length).sum
  | [] => rfl
  | x :: l => by rw [List.map_cons, List.flatten_cons, List.length_append, flat_len f l, List.map_cons, List.sum_cons]
theorem binds_sum {h : List NodeV} (hm : mayH h = true) {r : Int} (h1 : 1 ≤ r) (h2 : r ≤ h.length) : (bindsT (U h r)).length = (bindsS (getN h r)).length + ((refsS (getN h r)).map fun x => (bindsT (U h x)).length).sum := by
  by_cases h4 : (getN h r).1 = 4
  · obtain ⟨a, b, k1, k2, k3, k4, k5⟩ := bindsU_tree hm h1 h2 h4
    have er : refsS (getN h r) = [a, b].filter (fun r => decide (r ≠ 0)) := by
      rw [refsS_all]
      unfold allK
      rw [k1, k2, List.filter_append]
      show _ ++ [] = _
      rw [List.append_nil]
    have z : (bindsT (U h 0)).length = 0 := by rw [U_zero, bindsT_nil]; rfl
    rw [k5, er, List.length_append, List.length_append]
    by_cases ea : a = 0
    · by_cases eb : b = 0
      · subst ea; subst eb; rw [z]; simp
      · subst ea; rw [z, List.filter_cons_of_neg (by simp), List.filter_cons_of_pos (by simp [eb]), List.filter_nil]
        simp
    · by_cases eb : b = 0
      · subst eb; rw [z, List.filter_cons_of_pos (by simp [ea]), List.filter_cons_of_neg (by simp), List.filter_nil]
        simp; omega
      · rw [List.filter_cons_of_pos (by simp [ea]), List.filter_cons_of_pos (by simp [eb]), List.filter_nil]
        simp; omega
  · rw [bindsU_refs hm h1 h2 h4, List.length_append, flat_len]
theorem bound_step (k P r m : Nat) (hP : 1 ≤ P) (hk : m ≤ k) (hk1 : 1 ≤ k) (hr : 1 ≤ r) : 40 + m * (40 * (r - 1) * P) ≤ 40 * r * (P * k) := by
  obtain ⟨q, rfl⟩ : ∃ q, r = q + 1 := ⟨r - 1, by omega⟩
  rw [Nat.add_sub_cancel]
  have h1 : m * (40 * q * P) ≤ k * (40 * q * P) := Nat.mul_le_mul_right _ hk
  have h2 : 40 * (q + 1) * (P * k) = 40 * q * (P * k) + 40 * (P * k) := by rw [Nat.mul_add, Nat.add_mul]
  have h3 : k * (40 * q * P) = 40 * q * (P * k) := by rw [Nat.mul_comm k, Nat.mul_assoc]
  have h4 : 1 ≤ P * k := Nat.mul_pos hP hk1
  omega
theorem binds_bound {h : List NodeV} (hm : mayH h = true) (hs : ∀ n ∈ h, (bindsS n).length ≤ 40) : ∀ (n : Nat) (r : Int), 0 ≤ r → r ≤ n → r ≤ h.length → (bindsT (U h r)).length ≤ 40 * r.toNat * prodW (h.take r.toNat) := by
  intro n
  induction n with
  | zero =>
    intro r h0 h1 h2
    have : r = 0 := by omega
    subst this
    rw [U_zero, bindsT_nil]
    exact Nat.zero_le _
  | succ n ih =>
    intro r h0 h1 h2
    by_cases e : r = 0
    · subst e
      rw [U_zero, bindsT_nil]
      exact Nat.zero_le _
    obtain ⟨i, hi⟩ : ∃ i : Nat, r = (i : Int) + 1 := ⟨(r - 1).toNat, by omega⟩
    have hil : i < h.length := by omega
    have eg : getN h r = h[i] := by rw [hi]; exact getN_ix h i hil
    rw [binds_sum hm (by omega) h2]
    have hb := hs _ (getN_mem h r (by omega) h2)
    have hsum := sum_le (fun x => (bindsT (U h x)).length) (40 * i * prodW (h.take i)) (refsS (getN h r)) (fun x hx => by
      rw [refsS_all] at hx
      have hk := (may_node hm (by omega) h2).2 x (List.mem_filter.1 hx).1
      refine Nat.le_trans (ih x (by omega) (by omega) (by omega)) ?_
      have hxi : x.toNat ≤ i := by omega
      have hp : prodW (h.take x.toNat) ≤ prodW (h.take i) := by
        have e : h.take i = h.take x.toNat ++ (h.drop x.toNat).take (i - x.toNat) := by
          rw [← List.take_add]
          congr 1
          omega
        rw [e, prodW_app]
        exact Nat.le_mul_of_pos_right _ (prodW_pos _)
      exact Nat.mul_le_mul (Nat.mul_le_mul_left _ hxi) hp)
    have et : r.toNat = i + 1 := by omega
    have ep : prodW (h.take (i + 1)) = prodW (h.take i) * waysN (getN h r) := by
      rw [List.take_succ_eq_append_getElem hil, prodW_app, eg]
      congr 1
      show waysN h[i] * 1 = _
      omega
    rw [et, ep]
    have hstep := bound_step (waysN (getN h r)) (prodW (h.take i)) (i + 1) (refsS (getN h r)).length (prodW_pos _) (by unfold waysN; omega) (by unfold waysN; omega) (by omega)
    rw [Nat.add_sub_cancel] at hstep
    omega
theorem few_binds (n : NodeV) : (bindsS (few n)).length ≤ 40 := by
  unfold bindsS
  split
  · show 1 ≤ 40; omega
  · split
    · exact fewL_len _
    · show 0 ≤ 40; omega
theorem few_bound (h : List NodeV) (r : Int) (hf : fitH (fewH h) r = true) : (bindsT (U (fewH h) r)).length ≤ 1440000 := by
  obtain ⟨⟨a, b⟩, c⟩ := fitH_iff.1 hf
  have h1 := binds_bound c (fun n hn => by obtain ⟨m, _, rfl⟩ := fewH_mem n hn; exact few_binds m) r.toNat r a (by omega) b
  have h2 := fewH_prod h
  have h3 := fewH_len h
  have hp : prodW ((fewH h).take r.toNat) ≤ 3000 := by
    refine Nat.le_trans ?_ h2
    conv => rhs; rw [← List.take_append_drop r.toNat (fewH h), prodW_app]
    exact Nat.le_mul_of_pos_right _ (prodW_pos _)
  have h4 : 40 * r.toNat * prodW ((fewH h).take r.toNat) ≤ 480 * 3000 := Nat.mul_le_mul (by omega) hp
  omega
end Go.Proofs.YtjekopgcpikkiaaDoor.AA
set_option linter.unusedVariables false
set_option linter.unusedSimpArgs false
namespace Go.Proofs.YtjekopgcpikkiaaDoor.AA
open Go.Abs
theorem Few_any (n : NodeV) (h1 : n.2.2.2.2.1.length ≤ 9223372036854775807) (h2 : n.2.2.2.2.2.2.1.length ≤ 9223372036854775807) : law13_Few n = some (few n) := by
  rw [law13_Few.eq, base_Cut_40, bnd_some, base_Cut_40, bnd_some]
  simp only [ltI_d, leI_d, ofN_d, lenL_d, andB_d, br_if, fitL_d, appL_d, minI_d, List.nil_append]
  have e : toN (min (n.2.2.2.2.1.length : Int) 40) = min n.2.2.2.2.1.length 40 := by unfold toN; omega
  have e0 : toN 0 = 0 := rfl
  rw [if_pos (by omega), e, e0, subL0]
  have e2 : n.2.2.2.2.1.take (min n.2.2.2.2.1.length 40) = n.2.2.2.2.1.take 40 := by
    by_cases h : n.2.2.2.2.1.length ≤ 40
    · rw [Nat.min_eq_left h, List.take_of_length_le (Nat.le_refl _), List.take_of_length_le h]
    · rw [Nat.min_eq_right (by omega)]
  rw [e2, if_pos (by rw [List.length_take]; omega), few_any _ h2, bnd_some]
  rfl
theorem Few_ok {n : NodeV} (h : okN n) : law13_Few n = some (few n) := Few_any n (by have := h.kids; omega) (by have := h.list; omega)
theorem Few_wf {n : NodeV} (h : wfD tapiNode n) : law13_Few n = some (few n) := by
  obtain ⟨_, _, _, _, hk, _, hl, _⟩ := h
  exact Few_any n hk.1 hl.1
end Go.Proofs.YtjekopgcpikkiaaDoor.AA
set_option linter.unusedVariables false
set_option linter.unusedSimpArgs false
namespace Go.Proofs.YtjekopgcpikkiaaDoor.AA
open Go.Abs
theorem fewH_loop (h : List NodeV) (hl : h.length ≤ 9223372036854775807) (hw : ∀ n ∈ h, wideN n) (d : Nat) : ∀ (i w : Nat) (acc : List NodeV), i ≤ h.length → i ≤ 12 → 1 ≤ w → w ≤ 3000 → acc.length ≤ i → 12 - i = d →
    law17_Few.l0 h w i acc = some (acc ++ fewW w ((h.take 12).drop i)) := by
  induction d with
  | zero =>
    intro i w acc hi h12 w1 w2 ha hd
    have e : (h.take 12).drop i = [] := List.drop_eq_nil_of_le (by rw [List.length_take]; omega)
    rw [law17_Few.l0.eq, law17_Few.j1.eq, law17_Few.j1.eq, e]
    simp only [ltI_d, ofN_d, lenL_d, br_if, br_f]
    have e' : acc ++ fewW w [] = acc := by unfold fewW; exact List.append_nil _
    rw [e']
    split
    · rw [if_neg (by omega)]
    · rfl
  | succ d ih =>
    intro i w acc hi h12 w1 w2 ha hd
    by_cases hil : i < h.length
    · have hin : i < (h.take 12).length := by rw [List.length_take]; omega
      have hm : h[i] ∈ h := List.getElem_mem hil
      obtain ⟨k1, k2, ho⟩ := hw _ hm
      have hr := refsS_few h[i]
      rw [law17_Few.l0.eq, law17_Few.j1.eq, ixN h i hil, Few_any _ k1 k2, bnd_some, refrefs_any _ ho, bnd_some]
      simp only [ltI_d, leI_d, ofN_d, lenL_d, andB_d, br_if, maxI_d, fitL_d, appL_d]
      have em : mulI .i64 (w : Int) (max ((refsS (few h[i])).length : Int) 1) = ((w * max (refsS (few h[i])).length 1 : Nat) : Int) := by
        have e : max ((refsS (few h[i])).length : Int) 1 = ((max (refsS (few h[i])).length 1 : Nat) : Int) := by omega
        have hle : max (refsS (few h[i])).length 1 ≤ 41 := by omega
        have hp : w * max (refsS (few h[i])).length 1 ≤ 3000 * 41 := Nat.mul_le_mul w2 hle
        unfold mulI
        rw [e, ← Int.natCast_mul]
        exact wrap_i64_id (by omega) (by omega)
      rw [if_pos (by omega), if_pos (by omega), if_pos (by omega), em, List.drop_eq_getElem_cons hin, List.getElem_take]
      by_cases hg : 3000 < w * max (refsS (few h[i])).length 1
      · rw [if_pos (by omega)]
        unfold fewW
        rw [if_pos hg, List.append_nil]
      · have hpos : 1 ≤ w * max (refsS (few h[i])).length 1 := Nat.mul_pos w1 (by omega)
        rw [if_neg (by omega), if_pos (by rw [List.length_append]; show _ + 1 ≤ _; omega), add1 i (by omega)]
        rw [ih (i + 1) _ _ (by omega) (by omega) hpos (by omega) (by rw [List.length_append]; show _ + 1 ≤ _; omega) (by omega)]
        rw [show fewW w (h[i] :: (h.take 12).drop (i + 1)) = few h[i] :: fewW (w * max (refsS (few h[i])).length 1) ((h.take 12).drop (i + 1)) by rw [fewW, if_neg hg]]
        rw [List.append_assoc]
        rfl
    · have e : (h.take 12).drop i = [] := List.drop_eq_nil_of_le (by rw [List.length_take]; omega)
      rw [law17_Few.l0.eq, law17_Few.j1.eq, law17_Few.j1.eq, e]
      simp only [ltI_d, ofN_d, lenL_d, br_if, br_f]
      rw [if_neg (by omega)]
      have e' : acc ++ fewW w [] = acc := by unfold fewW; exact List.append_nil _
      rw [e']
theorem fewH_wf {h : List NodeV} (hw : wfD (.list tapiNode) h) : law17_Few h = some (fewH h) := by
  rw [law17_Few.eq]
  have := fewH_loop h hw.1 (fun n hn => by
    obtain ⟨_, _, _, _, hk, _, hl, _⟩ := hw.2 n hn
    exact ⟨hk.1, hl.1, few_okN (hw.2 n hn)⟩) 12 0 1 [] (by omega) (by omega) (by omega) (by omega) (by simp) (by omega)
  exact this
theorem fewH_ok {h : List NodeV} (ho : okH h) : law17_Few h = some (fewH h) := by
  rw [law17_Few.eq]
  have hl := ho.len
  have := fewH_loop h (by omega) (fun n hn => by
    have o := ho.node n hn
    have h1 := o.kids
    have h2 := o.list
    refine ⟨by omega, by omega, ⟨?_, ?_, o.map0, o.map1, ?_, Nat.le_trans (fewL_len _) (by omega), fewL_ok _⟩⟩
    · show (cut 40 _).size ≤ 40; rw [cut_size]; omega
    · show (cut 40 _).size ≤ 40; rw [cut_size]; omega
    · show (List.take 40 _).length ≤ 1000000; rw [List.length_take]; omega) 12 0 1 [] (by omega) (by omega) (by omega) (by omega) (by simp) (by omega)
  exact this
end Go.Proofs.YtjekopgcpikkiaaDoor.AA
set_option linter.unusedVariables false
set_option linter.unusedSimpArgs false
namespace Go.Proofs.YtjekopgcpikkiaaDoor.AA
open Go.Abs
/-! ### Lists in order -/
theorem srt_nodup {l : List PairV} (h : Srt l) : l.Nodup := by
  refine List.Pairwise.imp ?_ (show l.Pairwise (fun a b => lt a.1 b.1 = true) from h)
  intro a b hab e
  rw [e, lt_irrefl] at hab
  cases hab
theorem srt_eq {l m : List PairV} (h1 : Srt l) (h2 : Srt m) (hp : l.Perm m) : l = m :=
  List.Perm.eq_of_pairwise (le := fun a b : PairV => lt a.1 b.1 = true) (fun a b _ _ hab hba => by rw [lt_asymm hab] at hba; cases hba) h1 h2 hp
theorem putS_perm (p : PairV) : ∀ l : List PairV, (∀ q ∈ l, q.1 ≠ p.1) → (putS l p).Perm (p :: l)
  | [], _ => List.Perm.refl _
  | q :: l, h => by
    unfold putS
    split
    · exact (List.Perm.cons q (putS_perm p l fun x hx => h x (List.mem_cons_of_mem _ hx))).trans (List.Perm.swap p q l)
    · rw [if_neg (h q List.mem_cons_self)]
theorem foldS_perm : ∀ (l acc : List PairV), (l.map (·.1)).Nodup → (∀ p ∈ l, ∀ q ∈ acc, q.1 ≠ p.1) → (l.foldl putS acc).Perm (acc ++ l)
  | [], acc, _, _ => by rw [List.append_nil]; exact List.Perm.refl _
  | p :: l, acc, hn, h => by
    rw [List.map_cons, List.nodup_cons] at hn
    have h1 := putS_perm p acc (h p List.mem_cons_self)
    have h2 := foldS_perm l (putS acc p) hn.2 (fun x hx q hq => by
      rcases List.mem_cons.1 (h1.mem_iff.1 hq) with rfl | hq
      · exact fun e => hn.1 (e ▸ List.mem_map_of_mem hx)
      · exact h x (List.mem_cons_of_mem _ hx) q hq)
    refine h2.trans ?_
    refine (List.Perm.append_right l h1).trans ?_
    show (p :: (acc ++ l)).Perm (acc ++ p :: l)
    exact List.perm_middle.symm
theorem srt_keys {l : List PairV} (h : Srt l) : (l.map (·.1)).Nodup := by
  rw [List.Nodup, List.pairwise_map]
  refine List.Pairwise.imp ?_ (show l.Pairwise (fun a b => lt a.1 b.1 = true) from h)
  intro a b hab e
  rw [e, lt_irrefl] at hab
  cases hab
/-- A list of bindings in some order, put in order. -/
theorem makeS_of_perm {l m : List PairV} (h : Srt l) (hp : m.Perm l) : makeS m = l := by
  have hn : (m.map (·.1)).Nodup := ((hp.map (·.1)).nodup_iff).2 (srt_keys h)
  have := foldS_perm m [] hn (fun p _ q hq => by cases hq)
  rw [List.nil_append] at this
  exact srt_eq (makeS_Srt m) h (this.trans hp)
/-! ### What is bound in a trie -/
theorem perm_flat (g q : Nat → List PairV) : ∀ is : List Nat, (∀ i ∈ is, (g i).Perm (q i)) → ((is.map g).flatten).Perm ((is.map q).flatten)
  | [], _ => List.Perm.refl _
  | i :: is, h => by
    rw [List.map_cons, List.map_cons, List.flatten_cons, List.flatten_cons]
    exact (h i List.mem_cons_self).append (perm_flat g q is fun j hj => h j (List.mem_cons_of_mem _ hj))
theorem trieT_binds (bits : Int) : ∀ (f : Nat) (l : List PairV), (bindsT (trieT bits f l)).Perm l := by
  have one : ∀ (f : Nat) (p : PairV), (bindsT (trieT bits f [p])).Perm [p] := fun f p => by
    rw [trieT_one, bindsT_node, if_neg (show ¬ (stripV (lfN p)).1 = 4 by show ¬ (1 : Int) = 4; omega)]
    have : bindsS (stripV (lfN p)) ++ ([Shp.nil].map bindsT).flatten = [p] := by
      rw [bindsS_strip, List.map_cons, List.map_nil, bindsT_nil]
      rfl
    rw [this]
  intro f
  induction f with
  | zero =>
    intro l
    rcases len_cases l with rfl | ⟨p, rfl⟩ | h2
    · rw [trieT_nil, bindsT_nil]
    · exact one 0 p
    · rw [trieT_buck bits h2, bindsT_node, if_neg (show ¬ (stripV (buckN l)).1 = 4 by show ¬ (3 : Int) = 4; omega)]
      have : bindsS (stripV (buckN l)) ++ ([Shp.nil].map bindsT).flatten = l := by
        rw [bindsS_strip, List.map_cons, List.map_nil, bindsT_nil]
        show l ++ [] = l
        exact List.append_nil _
      rw [this]
  | succ f ih =>
    intro l
    rcases len_cases l with rfl | ⟨p, rfl⟩ | h2
    · rw [trieT_nil, bindsT_nil]
    · exact one (f + 1) p
    · rw [trieT_br bits f h2, bindsT_node, if_neg (show ¬ (stripV (bN (maskC bits (lev bits - (f + 1)) l) [] l.length 0)).1 = 4 by show ¬ (2 : Int) = 4; omega), List.map_append, List.map_map, List.flatten_append]
      have : bindsS (stripV (bN (maskC bits (lev bits - (f + 1)) l) [] l.length 0)) = [] := rfl
      rw [this, List.nil_append, List.map_cons, List.map_nil, bindsT_nil]
      show ((List.map _ _).flatten ++ []).Perm l
      rw [List.append_nil]
      refine (perm_flat (bindsT ∘ fun i => trieT bits f (part bits (lev bits - (f + 1)) l i)) (part bits (lev bits - (f + 1)) l) _ fun i _ => ih _).trans (parts_perm bits _ l)
/-! ### What is bound below a reference -/
theorem binds_mem {h : List NodeV} (hm : mayH h = true) : ∀ (n : Nat) (r : Int), 0 ≤ r → r ≤ n → r ≤ h.length → ∀ p ∈ bindsT (U h r), ∃ x ∈ h, mayS x = 0 ∧ p ∈ bindsS x := by
  have own : ∀ r : Int, 1 ≤ r → r ≤ h.length → ∀ p ∈ bindsS (getN h r), ∃ x ∈ h, mayS x = 0 ∧ p ∈ bindsS x := fun r h1 h2 p hp => ⟨_, getN_mem h r h1 h2, (may_node hm h1 h2).1, hp⟩
  intro n
  induction n with
  | zero =>
    intro r h0 h1 h2 p hp
    have : r = 0 := by omega
    subst this
    rw [U_zero, bindsT_nil] at hp
    cases hp
  | succ n ih =>
    intro r h0 h1 h2 p hp
    by_cases e : r = 0
    · subst e; rw [U_zero, bindsT_nil] at hp; cases hp
    by_cases h4 : (getN h r).1 = 4
    · obtain ⟨a, b, _, _, k3, k4, k5⟩ := bindsU_tree hm (by omega) h2 h4
      rw [k5] at hp
      rcases List.mem_append.1 hp with hp | hp
      · rcases List.mem_append.1 hp with hp | hp
        · exact ih a (by omega) (by omega) (by omega) p hp
        · exact own r (by omega) h2 p hp
      · exact ih b (by omega) (by omega) (by omega) p hp
    · rw [bindsU_refs hm (by omega) h2 h4] at hp
      rcases List.mem_append.1 hp with hp | hp
      · exact own r (by omega) h2 p hp
      · obtain ⟨l, hl, hp⟩ := List.mem_flatten.1 hp
        obtain ⟨x, hx, rfl⟩ := List.mem_map.1 hl
        rw [refsS_all] at hx
        have hk := (may_node hm (by omega) h2).2 x (List.mem_filter.1 hx).1
        exact ih x (by omega) (by omega) (by omega) p hp
theorem longP_iff {p : PairV} : longP p = false ↔ okT p := by
  unfold longP okT
  rw [Bool.or_eq_false_iff, decide_eq_false_iff_not, decide_eq_false_iff_not]
  constructor <;> rintro ⟨h1, h2⟩ <;> exact ⟨by omega, by omega⟩
theorem may_short {x : NodeV} (hm : mayS x = 0) {p : PairV} (hp : p ∈ bindsS x) : okT p := by
  obtain ⟨_, _, hl, _⟩ := mayS_zero hm
  unfold longN at hl
  rw [Bool.or_eq_false_iff] at hl
  unfold bindsS at hp
  split at hp
  · rw [List.mem_singleton] at hp
    subst hp
    exact longP_iff.1 hl.1
  · split at hp
    · have := hl.2
      rw [List.any_eq_false] at this
      exact longP_iff.1 (Bool.eq_false_iff.2 (this p hp))
    · cases hp
theorem flat_le {h : List NodeV} (hs : ∀ n ∈ h, (bindsS n).length ≤ 40) : ((h.map bindsS).flatten).length ≤ 40 * h.length := by
  induction h with
  | nil => exact Nat.zero_le _
  | cons n h ih =>
    rw [List.map_cons, List.flatten_cons, List.length_append, List.length_cons]
    have h1 := hs n List.mem_cons_self
    have h2 := ih fun x hx => hs x (List.mem_cons_of_mem _ hx)
    omega
theorem few_made (h : List NodeV) (r : Int) (hf : fitH (fewH h) r = true) : (makeS (bindsT (U (fewH h) r))).length ≤ 480 := by
  obtain ⟨⟨a, b⟩, c⟩ := fitH_iff.1 hf
  have hn := srt_nodup (makeS_Srt (bindsT (U (fewH h) r)))
  have hsub : makeS (bindsT (U (fewH h) r)) ⊆ ((fewH h).map bindsS).flatten := fun p hp => by
    obtain ⟨x, hx, _, hpx⟩ := binds_mem c r.toNat r a (by omega) b p (makeS_mem hp)
    exact List.mem_flatten.2 ⟨_, List.mem_map_of_mem hx, hpx⟩
  have h1 := List.Nodup.length_le_of_subset hn hsub
  have h2 := flat_le (h := fewH h) fun n hn => by obtain ⟨m, _, rfl⟩ := fewH_mem n hn; exact few_binds m
  have h3 := fewH_len h
  omega
/-! ### The program's own trie -/
theorem lfN_long {p : PairV} (h : longP p = true) : mayS (lfN p) = 6 := by
  unfold mayS
  have hl : longN (lfN p) = true := by
    show (longP p || false) = true
    rw [h]; rfl
  rw [if_neg (by show ¬ (1 : Int) < 1; omega), if_neg (by show ¬ (6 : Int) < 1; omega), hl, if_pos rfl]
theorem tmake_l0 (bits : Int) (l : List PairV) (hl : l.length ≤ 40000000) (hb : ∀ p ∈ l, okP p) (d : Nat) : ∀ k : Nat, k ≤ l.length → l.length - k = d →
    trie_Make.l0 bits l l ((l.length : Nat) : Int) (k : Int) = if (l.drop k).any longP = true then some ([], ((0 : Int), ((6 : Int), ()))) else bnd (trie_maker_trie l (0 : Int) (bits, ((), ())) []) fun r2 => some (r2.2.2.1, (r2.1, ((0 : Int), ()))) := by
  induction d with
  | zero =>
    intro k h1 h2
    rw [trie_Make.l0.eq, List.drop_of_length_le (by omega)]
    simp only [ltI_d, br_if]
    rw [if_neg (by omega)]
    rfl
  | succ d ih =>
    intro k h1 h2
    have hk : k < l.length := by omega
    have ho := hb l[k] (List.getElem_mem hk)
    rw [trie_Make.l0.eq, List.drop_eq_getElem_cons hk]
    simp only [ltI_d, leI_d, andB_d, lenL_d, ofN_d, br_if]
    rw [if_pos (by omega), if_pos ⟨by omega, by omega⟩, ixL_d tapiPair l k hk, node_Leaf.eq, bnd_some]
    show bnd (node_May (lfN l[k])) _ = _
    rw [may_any _ (lfN_ok ho), bnd_some, List.any_cons]
    cases e : longP l[k] with
    | true =>
      rw [lfN_long e, Bool.true_or, if_pos rfl]
      rfl
    | false =>
      rw [lfN_may (longP_iff.1 e), Bool.false_or, add1 k (by omega)]
      exact ih (k + 1) (by omega) (by omega)
theorem tmake_any (bits : Int) (l : List PairV) (hl : l.length ≤ 40000000) (hm : (makeS l).length ≤ 1000000) (hb : ∀ p ∈ l, okP p) :
    trie_Make bits l = if (makeS l).any longP = true then some ([], ((0 : Int), ((6 : Int), ()))) else some (trieH bits l, (trieR bits l, ((0 : Int), ()))) := by
  have hlev := lev_le bits
  rw [trie_Make.eq, make_any l hl hb, bnd_some]
  have e := tmake_l0 bits (makeS l) (by omega) (fun p hp => hb p (makeS_mem hp)) _ 0 (by omega) rfl
  rw [List.drop_zero] at e
  refine (show trie_Make.l0 bits (makeS l) (makeS l) (((makeS l).length : Nat) : Int) ((0 : Nat) : Int) = _ from e).trans ?_
  cases hg : (makeS l).any longP with
  | true => rw [if_pos rfl, if_pos rfl]
  | false =>
    have ht : ∀ p ∈ makeS l, okT p := fun p hp => by
      rw [List.any_eq_false] at hg
      exact longP_iff.1 (Bool.eq_false_iff.2 (hg p hp))
    have hfit : (makeS l).length * (lev bits + 1) ≤ 1000000 * 14 := Nat.mul_le_mul hm (by omega)
    have := mtrie_any bits (lev bits) [] (makeS l) (Nat.le_refl _) ⟨rfl, ht, makeS_Srt l, hm, by show 0 + _ ≤ _; omega⟩
    rw [Nat.sub_self] at this
    rw [if_neg (by simp), if_neg (by simp), show (0 : Int) = ((0 : Nat) : Int) from rfl, this, bnd_some]
    rfl
/-- Is a heap the trie of what is bound in it? -/
noncomputable def isT (h : List NodeV) (r bits : Int) : Bool := fitH h r && eqSh (U h r) (U (trieH bits (bindsT (U h r))) (trieR bits (bindsT (U h r))))
theorem isT_any (h : List NodeV) (ho : okH h) (r bits : Int) (hL : fitH h r = true → (bindsT (U h r)).length ≤ 40000000 ∧ (makeS (bindsT (U h r))).length ≤ 1000000) :
    trie_Is h r bits = some (isT h r bits) ∧ ref20_Is h r bits = some (isT h r bits) := by
  rw [trie_Is.eq, heap_Binds.eq, hmay_any h ho, bnd_some, ref20_Is.eq, fits_any h ho, bnd_some]
  unfold isT
  cases hf : fitH h r with
  | false => exact ⟨rfl, rfl⟩
  | true =>
    obtain ⟨⟨a, b⟩, c⟩ := fitH_iff.1 hf
    obtain ⟨h1, h2⟩ := hL hf
    have hT : ∀ p ∈ bindsT (U h r), okT p := fun p hp => by
      obtain ⟨x, _, hx, hpx⟩ := binds_mem c r.toNat r a (by omega) b p hp
      exact may_short hx hpx
    have hg : (makeS (bindsT (U h r))).any longP = false := by
      rw [List.any_eq_false]
      exact fun p hp => Bool.eq_false_iff.1 (longP_iff.2 (hT p (makeS_mem hp)))
    obtain ⟨e1, T, go⟩ := make_trie bits (bindsT (U h r)) h1 h2 (fun p hp => (hT p hp).ok) (fun p hp => hT p (makeS_mem hp))
    have hfit : fitH (trieH bits (bindsT (U h r))) (trieR bits (bindsT (U h r))) = true := fitH_iff.2 ⟨⟨T.r0, T.r1⟩, T.may⟩
    have e2 := tmake_any bits (bindsT (U h r)) h1 h2 (fun p hp => (hT p hp).ok)
    rw [hg, if_neg (by simp)] at e2
    constructor
    · rw [if_pos rfl, show notB (eqI (0 : Int) (0 : Int)) = false from rfl, br_f, hbinds_any ho c r.toNat r a (by omega) b (by omega), bnd_some, bnd_some]
      show bnd (trie_Make bits (bindsT (U h r))) _ = _
      rw [e2, bnd_some]
      show bnd (heap_Same h r (trieH bits (bindsT (U h r))) (trieR bits (bindsT (U h r)))) _ = _
      rw [hSame_any h _ ho go, bnd_some, hf, hfit]
      rfl
    · rw [show notB true = false from rfl, br_f, refhbinds_any ho c r.toNat r a (by omega) b (by omega), bnd_some, e1, bnd_some, refSame_any h _ ho go, bnd_some, hf, hfit]
      rfl
/-- A trie that is made is one. -/
theorem isT_made (bits : Int) (l : List PairV) (hl : l.length ≤ 40000000) (hm : (makeS l).length ≤ 1000000) (hb : ∀ p ∈ l, okP p) (ht : ∀ p ∈ makeS l, okT p) :
    (bindsT (U (trieH bits l) (trieR bits l))).Perm (makeS l) ∧ isT (trieH bits l) (trieR bits l) bits = true := by
  obtain ⟨_, T, go⟩ := make_trie bits l hl hm hb ht
  have hfit : fitH (trieH bits l) (trieR bits l) = true := fitH_iff.2 ⟨⟨T.r0, T.r1⟩, T.may⟩
  have hp : (bindsT (U (trieH bits l) (trieR bits l))).Perm (makeS l) := by
    rw [show U (trieH bits l) (trieR bits l) = trieT bits (lev bits) (makeS l) from T.shp]
    exact trieT_binds bits _ _
  refine ⟨hp, ?_⟩
  have em := makeS_of_perm (makeS_Srt l) hp
  have e1 : trieH bits (bindsT (U (trieH bits l) (trieR bits l))) = trieH bits l := by
    unfold trieH
    rw [show makeS (bindsT (U (trieN bits (lev bits) [] (makeS l)).1 (trieR bits l))) = makeS l from em]
  have e2 : trieR bits (bindsT (U (trieH bits l) (trieR bits l))) = trieR bits l := by
    show (trieN bits (lev bits) [] (makeS (bindsT (U (trieH bits l) (trieR bits l))))).2 = _
    rw [em]
    rfl
  unfold isT
  rw [hfit, e1, e2, Bool.true_and, eqSh_iff]
end Go.Proofs.YtjekopgcpikkiaaDoor.AA
set_option linter.unusedVariables false
set_option linter.unusedSimpArgs false
namespace Go.Proofs.YtjekopgcpikkiaaDoor.AA
open Go.Abs
def wA : PairV := ((ByteArray.mk #[97]), ((ByteArray.mk #[49]), ()))
def wB : List PairV := [((ByteArray.mk #[97]), (ByteArray.empty, ())), ((ByteArray.mk #[98]), (ByteArray.empty, ()))]
theorem wB_srt : Srt wB := by
  unfold Srt wB
  refine List.pairwise_cons.2 ⟨fun x hx => ?_, List.pairwise_singleton _ _⟩
  rw [List.mem_singleton] at hx
  subst hx
  decide +kernel
theorem wB_ok : ∀ p ∈ wB, okT p := by
  intro p hp
  simp only [wB, List.mem_cons, List.not_mem_nil, or_false] at hp
  rcases hp with rfl | rfl <;> exact ⟨by decide +kernel, by decide +kernel⟩
theorem wA_ok : okT wA := ⟨by decide +kernel, by decide +kernel⟩
theorem no_long {l : List PairV} (h : ∀ p ∈ l, okT p) : l.any longP = false := by
  rw [List.any_eq_false]
  exact fun p hp => Bool.eq_false_iff.1 (longP_iff.2 (h p hp))
theorem works20 : law20_works = some true := by
  have a1 : makeS [wA] = [wA] := rfl
  have b1 : makeS wB = wB := makeS_srt wB_srt
  have okA : ∀ p ∈ makeS [wA], okT p := fun p hp => by
    rw [a1, List.mem_singleton] at hp
    exact hp ▸ wA_ok
  have okB : ∀ p ∈ makeS wB, okT p := fun p hp => wB_ok p (b1 ▸ hp)
  have pA : ∀ p ∈ [wA], okP p := fun p hp => by
    rw [List.mem_singleton] at hp
    exact (hp ▸ wA_ok : okT p).ok
  have m1 := tmake_any 64 [wA] (by decide) (by rw [a1]; decide) pA
  have m2 := tmake_any 0 wB (by decide) (by rw [b1]; decide) (fun p hp => (wB_ok p hp).ok)
  rw [no_long okA, if_neg (by simp)] at m1
  rw [no_long okB, if_neg (by simp)] at m2
  have hA : trieH 64 [wA] = [lfN wA] ∧ trieR 64 [wA] = 1 := by
    unfold trieH trieR
    rw [a1, trieN_one]
    exact ⟨rfl, rfl⟩
  have hB : trieH 0 wB = [buckN wB] ∧ trieR 0 wB = 1 := by
    unfold trieH trieR
    rw [b1, show lev 0 = 0 by decide +kernel, trieN_buck 0 [] (by decide)]
    exact ⟨rfl, rfl⟩
  obtain ⟨_, i1⟩ := isT_made 64 [wA] (by decide) (by rw [a1]; decide) pA okA
  obtain ⟨_, _, go⟩ := make_trie 64 [wA] (by decide) (by rw [a1]; decide) pA okA
  obtain ⟨j1, j2⟩ := isT_made 64 [wA] (by decide) (by rw [a1]; decide) pA okA
  obtain ⟨e1, _⟩ := isT_any (trieH 64 [wA]) go (trieR 64 [wA]) 64 (fun _ => by
    have hl := j1.length_eq
    rw [a1] at hl
    have hl : (bindsT (U (trieH 64 [wA]) (trieR 64 [wA]))).length = 1 := hl
    have := makeS_len (bindsT (U (trieH 64 [wA]) (trieR 64 [wA])))
    exact ⟨by omega, by omega⟩)
  rw [law20_works.eq]
  show bnd (trie_Make 64 [wA]) (fun r0 => bnd (trie_Make 0 wB) _) = _
  rw [m1, bnd_some, m2, bnd_some, hA.1, hA.2, hB.1, hB.2]
  rw [hA.1, hA.2] at e1 i1
  show bnd (trie_Is [lfN wA] 1 64) _ = _
  rw [e1, bnd_some, i1]
theorem most_any (bits n : Int) : trie_Most bits n = some (if n < 0 then 0 else if 1000000 < n then 0 else n * ((lev bits : Nat) + 1)) := by
  have hlev := lev_le bits
  rw [trie_Most.eq]
  simp only [ltI_d, br_if]
  by_cases h1 : n < 0
  · rw [if_pos h1, if_pos h1]
  · rw [if_neg h1, if_neg h1]
    by_cases h2 : 1000000 < n
    · rw [if_pos h2, if_pos h2]
    · rw [if_neg h2, if_neg h2, levels_any, bnd_some, add1 _ (by omega)]
      refine some_int ?_
      unfold mulI
      have : n * (((lev bits + 1 : Nat)) : Int) ≤ 1000000 * 14 := Int.mul_le_mul (by omega) (by omega) (by omega) (by omega)
      have h0 : 0 ≤ n * (((lev bits + 1 : Nat)) : Int) := Int.mul_nonneg (by omega) (by omega)
      rw [wrap_i64_id (by omega) (by omega)]
      rw [Int.natCast_add]
      rfl
end Go.Proofs.YtjekopgcpikkiaaDoor.AA
set_option linter.unusedVariables false
set_option linter.unusedSimpArgs false
namespace Go.Proofs.YtjekopgcpikkiaaDoor.Pure
open Go.Abs Go.Proofs.YtjekopgcpikkiaaDoor.AA
theorem j1_any (bits : Int) (L : List PairV) (hl : L.length ≤ 40) (hb : ∀ p ∈ L, okP p) (n x3 : Int) (hx : trie_Most bits n = some x3) : law20_TrieHas.j1 bits L n x3 = some true := by
  have hm := makeS_len L
  have hlev := lev_le bits
  rw [law20_TrieHas.j1.eq, tmake_any bits L (by omega) (by omega) hb]
  have hself : eqI x3 x3 = true := by rw [eqI_d]; exact decide_eq_true rfl
  cases hg : (makeS L).any longP with
  | true =>
    rw [if_pos rfl, bnd_some]
    show br (notB (eqI (6 : Int) 0)) (bnd (trie_Most bits n) _) _ = _
    rw [show notB (eqI (6 : Int) 0) = true from rfl, br_t, hx, bnd_some, hself]
  | false =>
    have ht : ∀ p ∈ makeS L, okT p := fun p hp => by
      rw [List.any_eq_false] at hg
      exact longP_iff.1 (Bool.eq_false_iff.2 (hg p hp))
    obtain ⟨_, T, go⟩ := make_trie bits L (by omega) (by omega) hb ht
    obtain ⟨hp, hi⟩ := isT_made bits L (by omega) (by omega) hb ht
    have hbl := hp.length_eq
    have hbm := makeS_len (bindsT (U (trieH bits L) (trieR bits L)))
    have hr1 : trieR bits L ≤ ((trieH bits L).length : Int) := T.r1
    have hbind : ref17_Binds (trieH bits L) (trieR bits L) = some (bindsT (U (trieH bits L) (trieR bits L))) := refhbinds_any go T.may (trieR bits L).toNat _ T.r0 (by have := T.r0; omega) hr1 (by omega)
    obtain ⟨e1, _⟩ := isT_any (trieH bits L) go (trieR bits L) bits (fun _ => ⟨by omega, by omega⟩)
    obtain ⟨new, en, ln, _⟩ := T.pre
    have hnl : (trieH bits L).length ≤ (makeS L).length * (lev bits + 1) := by
      rw [show trieH bits L = [] ++ new from en, List.nil_append]
      exact ln
    have hmk : ref07_Make (bindsT (U (trieH bits L) (trieR bits L))) = some (makeS L) := by
      rw [refmake_any _ (by omega) (fun p hpm => (ht p (hp.mem_iff.1 hpm)).ok), makeS_of_perm (makeS_Srt L) hp]
    have hmost : trie_Most bits (((makeS L).length : Nat) : Int) = some ((((makeS L).length * (lev bits + 1) : Nat)) : Int) := by
      rw [most_any, if_neg (by omega), if_neg (by omega), Int.natCast_mul, Int.natCast_add]
      rfl
    rw [if_neg (by simp), bnd_some]
    show br (notB (eqI (0 : Int) 0)) _ (bnd (ref07_Make L) fun r2 => bnd (ref17_Binds (trieH bits L) (trieR bits L)) _) = _
    rw [show notB (eqI (0 : Int) 0) = false from rfl, br_f, refmake_any L (by omega) hb, bnd_some, hbind, bnd_some, hmk, bnd_some, refsameP_any _ _ (by omega), bnd_some, br_if, if_pos rfl, bnd_some]
    simp only [eqI_d, lenL_d, ofN_d, br_if, leI_d]
    rw [if_pos (by omega), e1, bnd_some, hi, br_t, hmost, bnd_some, if_pos (by omega), hx, bnd_some, decide_eq_true rfl]
theorem TrieHas (a0 : den (.int .i64)) (a1 : den (.list tapiPair)) (a2 : den (.int .i64)) (h0 : wfD (.int .i64) a0) (h1 : wfD (.list tapiPair) a1) (h2 : wfD (.int .i64) a2) : law20_TrieHas a0 a1 a2 = some true := by
  change Int at a0
  change Int at a2
  have hl := fewL_len a1
  have hs := fewL_ok a1
  have hlev := lev_le a0
  rw [law20_TrieHas.eq, works20, bnd_some, show notB true = false from rfl, br_f, few_any a1 h1.1, bnd_some]
  simp only [leI_d, br_if]
  have zero : ∀ h : ¬ (0 ≤ a2 ∧ a2 ≤ 1000000), law20_TrieHas.j0 a0 (fewL a1) a2 (0 : Int) false = some true := fun h => by
    rw [law20_TrieHas.j0.eq, br_f]
    refine j1_any a0 _ hl hs a2 0 ?_
    rw [most_any]
    by_cases h3 : a2 < 0
    · rw [if_pos h3]
    · rw [if_neg h3, if_pos (by omega)]
  by_cases h3 : 0 ≤ a2
  · rw [if_pos h3]
    by_cases h4 : a2 ≤ 1000000
    · rw [decide_eq_true h4, law20_TrieHas.j0.eq, br_t, reflevels_any, bnd_some]
      refine j1_any a0 _ hl hs a2 _ ?_
      rw [most_any, if_neg (by omega), if_neg (by omega), add1 _ (by omega)]
      refine some_int ?_
      unfold mulI
      have : a2 * (((lev a0 + 1 : Nat)) : Int) ≤ 1000000 * 14 := Int.mul_le_mul (by omega) (by omega) (by omega) (by omega)
      have h5 : 0 ≤ a2 * (((lev a0 + 1 : Nat)) : Int) := Int.mul_nonneg (by omega) (by omega)
      rw [wrap_i64_id (by omega) (by omega)]
      rw [Int.natCast_add]
      rfl
    · rw [decide_eq_false h4]
      exact zero fun h => h4 h.2
  · rw [if_neg h3]
    exact zero fun h => h3 h.1
end Go.Proofs.YtjekopgcpikkiaaDoor.Pure
