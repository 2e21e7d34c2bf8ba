/- Texts of one proof, laid together: how the interpreter's words stand for the program's code and what the functions do. No conditions but those that each lemma names. -/
import Derived.Test.YtjekopgcpikkiaaGreatDoorM5
set_option linter.unusedSimpArgs false
set_option linter.unusedVariables false
set_option linter.unusedSimpArgs false
namespace Go.Proofs.YtjekopgcpikkiaaGreatDoor.AK
open Go.Abs
theorem chunk20_any (k : ByteArray) (hk : k.size ≤ 40) (level : Nat) (hl : level ≤ 50000000) (bits : Int) : ref20_chunk k (level : Int) bits = some ((ck bits level k : Nat) : Int) := by
  rw [ref20_chunk.eq, refof_any k bits (by omega), bnd_some, refchunk_any _ (hash_lt64 k bits) _ _ (by omega), bnd_some, if_neg (by omega), Int.toNat_natCast]
  rfl
theorem part_drop (bits : Int) (level : Nat) (l : List PairV) (i k : Nat) (h : k < l.length) : part bits level (l.drop k) i = if ck bits level l[k].1 = i then l[k] :: part bits level (l.drop (k + 1)) i else part bits level (l.drop (k + 1)) i := by
  unfold part
  rw [List.drop_eq_getElem_cons h]
  by_cases e : ck bits level l[k].1 = i
  · rw [if_pos e, List.filter_cons_of_pos (by simpa using e)]
  · rw [if_neg e, List.filter_cons_of_neg (by simpa using e)]
theorem m1_l1 (bits : Int) (l : List PairV) (hl : l.length ≤ 50000000) (hb : ∀ p ∈ l, okP p) (level : Nat) (hv : level ≤ 50000000) (one : Int) (i : Nat) (h : List NodeV) (x7) (d : Nat) : ∀ (k : Nat) (acc : List PairV), k ≤ l.length → l.length - k = d → acc.length ≤ k →
    ref20_make1.l1 bits l (level : Int) one (i : Int) (k : Int) h x7 acc = ref20_make1.l1 bits l (level : Int) one (i : Int) (l.length : Int) h x7 (acc ++ part bits level (l.drop k) i) := by
  induction d with
  | zero =>
    intro k acc h1 h2 h3
    rw [show k = l.length by omega, List.drop_length]
    show _ = ref20_make1.l1 _ _ _ _ _ _ _ _ (acc ++ [])
    rw [List.append_nil]
  | succ d ih =>
    intro k acc h1 h2 h3
    have hk : k < l.length := by omega
    conv => lhs; rw [ref20_make1.l1.eq]
    simp only [ltI_d, leI_d, ofN_d, lenL_d, andB_d, br_if]
    rw [if_pos (by omega), if_pos (by omega), ixP l k hk, chunk20_any _ (hb _ (List.getElem_mem hk)).1 level hv bits, bnd_some, part_drop bits level l i k hk]
    simp only [eqI_d, fitL_d, appL_d, br_if]
    rw [add1 k (by omega)]
    by_cases e : ck bits level l[k].1 = i
    · rw [if_pos (by omega), if_pos (by omega), if_pos (by rw [List.length_append]; simp only [List.length_cons, List.length_nil]; omega), if_pos e, ih (k + 1) _ (by omega) (by omega) (by rw [List.length_append]; simp only [List.length_cons, List.length_nil]; omega), List.append_assoc]
      rfl
    · rw [if_neg (by omega), if_neg e, ih (k + 1) _ (by omega) (by omega) (by omega)]
theorem m1_l3 (bits : Int) (l : List PairV) (hl : l.length ≤ 50000000) (hb : ∀ p ∈ l, okP p) (level : Nat) (hv : level ≤ 50000000) (one : Int) (i : Nat) (h : List NodeV) (x7) (ks : List Int) (d : Nat) : ∀ (k : Nat) (acc : List PairV), k ≤ l.length → l.length - k = d → acc.length ≤ k →
    ref20_make1.l3 bits l (level : Int) one (i : Int) (k : Int) h x7 acc ks = ref20_make1.l3 bits l (level : Int) one (i : Int) (l.length : Int) h x7 (acc ++ part bits level (l.drop k) i) ks := by
  induction d with
  | zero =>
    intro k acc h1 h2 h3
    rw [show k = l.length by omega, List.drop_length]
    show _ = ref20_make1.l3 _ _ _ _ _ _ _ _ (acc ++ []) _
    rw [List.append_nil]
  | succ d ih =>
    intro k acc h1 h2 h3
    have hk : k < l.length := by omega
    conv => lhs; rw [ref20_make1.l3.eq]
    simp only [ltI_d, leI_d, ofN_d, lenL_d, andB_d, br_if]
    rw [if_pos (by omega), if_pos (by omega), ixP l k hk, chunk20_any _ (hb _ (List.getElem_mem hk)).1 level hv bits, bnd_some, part_drop bits level l i k hk]
    simp only [eqI_d, fitL_d, appL_d, br_if]
    rw [add1 k (by omega)]
    by_cases e : ck bits level l[k].1 = i
    · rw [if_pos (by omega), if_pos (by omega), if_pos (by rw [List.length_append]; simp only [List.length_cons, List.length_nil]; omega), if_pos e, ih (k + 1) _ (by omega) (by omega) (by rw [List.length_append]; simp only [List.length_cons, List.length_nil]; omega), List.append_assoc]
      rfl
    · rw [if_neg (by omega), if_neg e, ih (k + 1) _ (by omega) (by omega) (by omega)]
noncomputable def usedFrom (bits : Int) (level : Nat) (l : List PairV) (i : Nat) : List Nat := (List.range' i (32 - i)).filter fun j => !(part bits level l j).isEmpty
theorem usedFrom_0 (bits : Int) (level : Nat) (l : List PairV) : usedFrom bits level l 0 = usedC bits level l := by
  unfold usedFrom usedC
  rw [List.range_eq_range']
theorem usedFrom_end (bits : Int) (level : Nat) (l : List PairV) : usedFrom bits level l 32 = [] := rfl
theorem usedFrom_step (bits : Int) (level : Nat) (l : List PairV) (i : Nat) (h : i < 32) : usedFrom bits level l i = if part bits level l i = [] then usedFrom bits level l (i + 1) else i :: usedFrom bits level l (i + 1) := by
  unfold usedFrom
  rw [show 32 - i = (32 - (i + 1)) + 1 by omega, List.range'_succ]
  cases hp : part bits level l i with
  | nil => rw [if_pos rfl, List.filter_cons_of_neg (by simp [hp])]
  | cons a b => rw [if_neg (by simp), List.filter_cons_of_pos (by simp [hp])]
theorem walkN_cons (rec : List NodeV → Nat → List NodeV × Int) (h : List NodeV) (i : Nat) (is : List Nat) : walkN rec h (i :: is) = ((walkN rec (rec h i).1 is).1, (rec h i).2 :: (walkN rec (rec h i).1 is).2) := rfl
def brX (m : Nat) (size : Int) : Int × ByteArray × ByteArray × Int × Unit × Int × Unit × Int × Int × Unit := (2, (ByteArray.empty, (ByteArray.empty, ((m : Int), ((), (0, ((), (size, (0, ())))))))))
theorem one_step (j : Nat) (hj : j < 32) : mulI .u32 2 ((2 ^ j % 4294967296 : Nat) : Int) = ((2 ^ (j + 1) % 4294967296 : Nat) : Int) := by
  have hp := pow_lt32 hj
  unfold mulI
  rw [Nat.pow_succ, IntKind.wrap_u32]
  generalize 2 ^ j = q at hp ⊢
  omega
theorem mask_step (u : List Int) (j : Nat) (hj : j < 32) (hu : (j : Int) ∈ u) : addI .u32 (makeL u j : Int) ((2 ^ j % 4294967296 : Nat) : Int) = ((makeL u (j + 1) : Nat) : Int) := by
  have hp := pow_lt32 hj
  have h1 := makeL_lt u j
  have h2 : 2 ^ j * 2 ≤ 4294967296 := by
    have := Nat.pow_le_pow_right (n := 2) (by omega) (show j + 1 ≤ 32 by omega)
    rw [Nat.pow_succ] at this
    exact this
  have h3 : makeL u (j + 1) = makeL u j + 2 ^ j := by
    rw [makeL, if_pos hu]
  rw [h3]
  unfold addI
  rw [IntKind.wrap_u32]
  generalize 2 ^ j = q at hp h1 h2 ⊢
  omega
theorem mask_same (u : List Int) (j : Nat) (hu : (j : Int) ∉ u) : makeL u (j + 1) = makeL u j := by
  rw [makeL, if_neg hu, Nat.add_zero]
structure MkOK (f : Nat) (h : List NodeV) (l : List PairV) : Prop where
  may : mayH h = true
  txt : ∀ p ∈ l, okT p
  srt : Srt l
  len : l.length ≤ 1000000
  fits : h.length + l.length * (f + 1) ≤ 40000000
noncomputable abbrev usedI (bits : Int) (level : Nat) (l : List PairV) : List Int := (usedC bits level l).map fun i : Nat => (i : Int)
theorem usedI_mem {bits : Int} {level : Nat} {l : List PairV} {i : Nat} (hi : i < 32) : (i : Int) ∈ usedI bits level l ↔ part bits level l i ≠ [] := by
  rw [List.mem_map]
  constructor
  · rintro ⟨a, ha, e⟩
    have : a = i := by omega
    exact this ▸ (usedC_mem.1 ha).2
  · intro h
    exact ⟨i, usedC_mem.2 ⟨hi, h⟩, rfl⟩
theorem brX_add (m m' : Nat) (one : Int) (sz : Int) (h : addI .u32 (m : Int) one = (m' : Int)) : ((brX m sz).1, ((brX m sz).2.1, ((brX m sz).2.2.1, (addI .u32 (brX m sz).2.2.2.1 one, (brX m sz).2.2.2.2)))) = brX m' sz := by
  unfold brX
  dsimp only
  rw [h]
section
variable (bits : Int) (f : Nat) (l : List PairV) (hf : f + 1 ≤ lev bits) (hb : ∀ p ∈ l, okT p) (hS : Srt l) (hl : l.length ≤ 1000000)
  (ih : ∀ (h : List NodeV) (q : List PairV), MkOK f h q → ref20_make1 bits q ((lev bits - f : Nat) : Int) h = some (((), ((trieN bits f h q).2, ())), ((trieN bits f h q).1, ())))
include hf hb hS hl ih
theorem m1_l2 (d : Nat) : ∀ (i : Nat) (h : List NodeV) (ks : List Int), i ≤ 32 → 32 - i = d → ks.length ≤ i → mayH h = true → h.length + ((usedFrom bits (lev bits - (f + 1)) l i).map fun j => (part bits (lev bits - (f + 1)) l j).length).sum * (f + 1) + 1 ≤ 40000000 →
    ref20_make1.l2 bits l ((lev bits - (f + 1) : Nat) : Int) ((2 ^ i % 4294967296 : Nat) : Int) (i : Int) h (brX (makeL (usedI bits (lev bits - (f + 1)) l) i) l.length) ks =
      some (((), (((walkN (fun g i => trieN bits f g (part bits (lev bits - (f + 1)) l i)) h (usedFrom bits (lev bits - (f + 1)) l i)).1.length : Int) + 1, ())), ((walkN (fun g i => trieN bits f g (part bits (lev bits - (f + 1)) l i)) h (usedFrom bits (lev bits - (f + 1)) l i)).1 ++ [bN (maskC bits (lev bits - (f + 1)) l) (ks ++ (walkN (fun g i => trieN bits f g (part bits (lev bits - (f + 1)) l i)) h (usedFrom bits (lev bits - (f + 1)) l i)).2) l.length 0], ())) := by
  have hlev := lev_le bits
  induction d with
  | zero =>
    intro i h ks h1 h2 h3 hm hlen
    have : i = 32 := by omega
    subst this
    rw [usedFrom_end] at hlen ⊢
    rw [ref20_make1.l2.eq]
    simp only [ltI_d, fitL_d, appL_d, ofN_d, lenL_d, br_if]
    rw [if_neg (by omega), if_pos (by rw [List.length_append]; simp only [List.length_cons, List.length_nil]; simp only [List.map_nil, List.sum_nil] at hlen; omega)]
    show some (((), ((((h ++ [_]).length : Nat) : Int), ())), (h ++ [_], ())) = some (((), ((h.length : Int) + 1, ())), (h ++ [bN _ (ks ++ []) _ _], ()))
    rw [List.append_nil, List.length_append]
    rfl
  | succ d ihd =>
    intro i h ks h1 h2 h3 hm hlen
    have hi : i < 32 := by omega
    generalize hlv : lev bits - (f + 1) = level at hlen ihd ⊢
    have hlf : lev bits - f = level + 1 := by omega
    rw [hlf] at ih
    rw [ref20_make1.l2.eq]
    simp only [ltI_d, br_if]
    rw [if_pos (by omega)]
    have e3 := m1_l3 bits l (by omega) (fun p hp => (hb p hp).ok) level (by omega) ((2 ^ i % 4294967296 : Nat) : Int) i h (brX (makeL (usedI bits level l) i) l.length) ks l.length 0 [] (by omega) (by omega) (by simp)
    rw [List.nil_append, List.drop_zero] at e3
    rw [show ((0 : Nat) : Int) = 0 from rfl] at e3
    rw [e3, ref20_make1.l3.eq]
    simp only [ltI_d, lenL_d, ofN_d, br_if]
    rw [if_neg (by omega), one_step i hi, add1 i (by omega)]
    rw [usedFrom_step bits level l i hi] at hlen ⊢
    by_cases hp : part bits level l i = []
    · rw [if_pos hp] at hlen ⊢
      rw [if_neg (by rw [hp]; show ¬ (0 : Int) < ((0 : Nat) : Int); omega)]
      have := ihd (i + 1) h ks (by omega) (by omega) (by omega) hm hlen
      rw [mask_same _ i (fun q => (usedI_mem hi).1 q hp)] at this
      exact this
    · rw [if_neg hp] at hlen ⊢
      rw [List.map_cons, List.sum_cons, mul_up] at hlen
      have hpl : 0 < (part bits level l i).length := List.length_pos_iff.2 hp
      have hpm : (part bits level l i).length ≤ l.length := part_len _ _ _ _
      have ok : MkOK f h (part bits level l i) := ⟨hm, fun p hp => hb p (part_sub hp), part_srt hS i, by omega, by omega⟩
      have T := trieN_ok bits f h (part bits level l i) hm ok.txt ok.srt ok.len
      obtain ⟨new, en, ln, _⟩ := T.pre
      rw [if_pos (by omega), add1 level (by omega), ih h _ ok, bnd_some, walkN_cons]
      dsimp only
      simp only [fitL_d, appL_d, br_if]
      rw [if_pos (by rw [List.length_append]; simp only [List.length_cons, List.length_nil]; omega)]
      have := ihd (i + 1) (trieN bits f h (part bits level l i)).1 (ks ++ [(trieN bits f h (part bits level l i)).2]) (by omega) (by omega) (by rw [List.length_append]; simp only [List.length_cons, List.length_nil]; omega) T.may (by rw [en, List.length_append]; omega)
      rw [brX_add _ _ _ _ (mask_step _ i hi ((usedI_mem hi).2 hp))]
      rw [List.append_assoc] at this
      exact this
theorem m1_l0 (d : Nat) : ∀ (i : Nat) (h : List NodeV), i ≤ 32 → 32 - i = d → mayH h = true → h.length + ((usedFrom bits (lev bits - (f + 1)) l i).map fun j => (part bits (lev bits - (f + 1)) l j).length).sum * (f + 1) + 1 ≤ 40000000 →
    ref20_make1.l0 bits l ((lev bits - (f + 1) : Nat) : Int) ((2 ^ i % 4294967296 : Nat) : Int) (i : Int) h (brX (makeL (usedI bits (lev bits - (f + 1)) l) i) l.length) =
      some (((), (((walkN (fun g i => trieN bits f g (part bits (lev bits - (f + 1)) l i)) h (usedFrom bits (lev bits - (f + 1)) l i)).1.length : Int) + 1, ())), ((walkN (fun g i => trieN bits f g (part bits (lev bits - (f + 1)) l i)) h (usedFrom bits (lev bits - (f + 1)) l i)).1 ++ [bN (maskC bits (lev bits - (f + 1)) l) (walkN (fun g i => trieN bits f g (part bits (lev bits - (f + 1)) l i)) h (usedFrom bits (lev bits - (f + 1)) l i)).2 l.length 0], ())) := by
  have hlev := lev_le bits
  induction d with
  | zero =>
    intro i h h1 h2 hm hlen
    have : i = 32 := by omega
    subst this
    rw [usedFrom_end] at hlen ⊢
    rw [ref20_make1.l0.eq]
    simp only [ltI_d, fitL_d, appL_d, ofN_d, lenL_d, br_if]
    rw [if_neg (by omega), if_pos (by rw [List.length_append]; simp only [List.length_cons, List.length_nil]; simp only [List.map_nil, List.sum_nil] at hlen; omega)]
    show some (((), ((((h ++ [_]).length : Nat) : Int), ())), (h ++ [_], ())) = some (((), ((h.length : Int) + 1, ())), (h ++ [bN _ [] _ _], ()))
    rw [List.length_append]
    rfl
  | succ d ihd =>
    intro i h h1 h2 hm hlen
    have hi : i < 32 := by omega
    have L2 := m1_l2 bits f l hf hb hS hl ih d
    generalize hlv : lev bits - (f + 1) = level at hlen ihd L2 ⊢
    have hlf : lev bits - f = level + 1 := by omega
    rw [hlf] at ih
    rw [ref20_make1.l0.eq]
    simp only [ltI_d, br_if]
    rw [if_pos (by omega)]
    have e3 := m1_l1 bits l (by omega) (fun p hp => (hb p hp).ok) level (by omega) ((2 ^ i % 4294967296 : Nat) : Int) i h (brX (makeL (usedI bits level l) i) l.length) l.length 0 [] (by omega) (by omega) (by simp)
    rw [List.nil_append, List.drop_zero] at e3
    rw [show ((0 : Nat) : Int) = 0 from rfl] at e3
    rw [e3, ref20_make1.l1.eq]
    simp only [ltI_d, lenL_d, ofN_d, br_if]
    rw [if_neg (by omega), one_step i hi, add1 i (by omega)]
    rw [usedFrom_step bits level l i hi] at hlen ⊢
    by_cases hp : part bits level l i = []
    · rw [if_pos hp] at hlen ⊢
      rw [if_neg (by rw [hp]; show ¬ (0 : Int) < ((0 : Nat) : Int); omega)]
      have := ihd (i + 1) h (by omega) (by omega) hm hlen
      rw [mask_same _ i (fun q => (usedI_mem hi).1 q hp)] at this
      exact this
    · rw [if_neg hp] at hlen ⊢
      rw [List.map_cons, List.sum_cons, mul_up] at hlen
      have hpl : 0 < (part bits level l i).length := List.length_pos_iff.2 hp
      have hpm : (part bits level l i).length ≤ l.length := part_len _ _ _ _
      have ok : MkOK f h (part bits level l i) := ⟨hm, fun p hp => hb p (part_sub hp), part_srt hS i, by omega, by omega⟩
      have T := trieN_ok bits f h (part bits level l i) hm ok.txt ok.srt ok.len
      obtain ⟨new, en, ln, _⟩ := T.pre
      rw [if_pos (by omega), add1 level (by omega), ih h _ ok, bnd_some, walkN_cons]
      dsimp only
      simp only [fitL_d, appL_d, br_if]
      rw [if_pos (by simp only [List.length_cons, List.length_nil]; omega)]
      have := L2 (i + 1) (trieN bits f h (part bits level l i)).1 [(trieN bits f h (part bits level l i)).2] (by omega) (by omega) (by simp only [List.length_cons, List.length_nil]; omega) T.may (by rw [en, List.length_append]; omega)
      rw [brX_add _ _ _ _ (mask_step _ i hi ((usedI_mem hi).2 hp))]
      exact this
end
theorem make1_any (bits : Int) : ∀ (f : Nat) (h : List NodeV) (l : List PairV), f ≤ lev bits → MkOK f h l → ref20_make1 bits l ((lev bits - f : Nat) : Int) h = some (((), ((trieN bits f h l).2, ())), ((trieN bits f h l).1, ())) := by
  have hlev := lev_le bits
  have one : ∀ (f : Nat) (h : List NodeV) (p : PairV), MkOK f h [p] → ref20_make1 bits [p] ((lev bits - f : Nat) : Int) h = some (((), ((trieN bits f h [p]).2, ())), ((trieN bits f h [p]).1, ())) := fun f h p ok => by
    have := ok.fits
    simp only [List.length_cons, List.length_nil] at this
    rw [trieN_one, ref20_make1.eq]
    simp only [ltI_d, leI_d, eqI_d, andB_d, fitL_d, appL_d, lenL_d, ofN_d, br_if, both_self]
    have e : ixL tapiPair [p] (0 : Int) = p := rfl
    rw [if_neg (by simp), if_pos (by simp), if_pos (by simp), if_pos (by simp), e, if_pos (by rw [List.length_append]; simp only [List.length_cons, List.length_nil]; omega), List.length_append]
    rfl
  intro f
  induction f with
  | zero =>
    intro h l hf ok
    rcases len_cases l with rfl | ⟨p, rfl⟩ | h2
    · rw [trieN_nil, ref20_make1.eq]; rfl
    · exact one 0 h p ok
    · have := ok.fits
      rw [trieN_buck bits h h2, ref20_make1.eq]
      simp only [leI_d, eqI_d, fitL_d, appL_d, lenL_d, ofN_d, br_if]
      rw [if_neg (by omega), if_neg (by omega), reflevels_any, bnd_some, if_pos (by omega), if_pos (by rw [List.length_append]; simp only [List.length_cons, List.length_nil]; omega), List.length_append]
      rfl
  | succ f ih =>
    intro h l hf ok
    rcases len_cases l with rfl | ⟨p, rfl⟩ | h2
    · rw [trieN_nil, ref20_make1.eq]; rfl
    · exact one (f + 1) h p ok
    · have hfit := ok.fits
      rw [Nat.mul_succ] at hfit
      rw [trieN_br bits f h h2, ref20_make1.eq]
      simp only [leI_d, eqI_d, fitL_d, appL_d, lenL_d, ofN_d, br_if]
      rw [if_neg (by omega), if_neg (by omega), reflevels_any, bnd_some, if_neg (by omega)]
      have := m1_l0 bits f l hf ok.txt ok.srt ok.len (fun h q o => ih h q (by omega) o) 32 0 h (by omega) (by omega) ok.may (by rw [usedFrom_0, parts_sum]; omega)
      rw [usedFrom_0] at this
      exact this
noncomputable def trieH (bits : Int) (l : List PairV) : List NodeV := (trieN bits (lev bits) [] (makeS l)).1
noncomputable def trieR (bits : Int) (l : List PairV) : Int := (trieN bits (lev bits) [] (makeS l)).2
theorem make_trie (bits : Int) (l : List PairV) (hl : l.length ≤ 40000000) (hm : (makeS l).length ≤ 1000000) (hb : ∀ p ∈ l, okP p) (ht : ∀ p ∈ makeS l, okT p) : ref20_Make bits l = some (trieH bits l, (trieR bits l, ())) ∧ TrieOK bits (lev bits) [] (makeS l) (trieH bits l) (trieR bits l) ∧ okH (trieH bits l) := by
  have hlev := lev_le bits
  have hfit : (makeS l).length * (lev bits + 1) ≤ 1000000 * 14 := Nat.mul_le_mul hm (by omega)
  have T := trieN_ok bits (lev bits) [] (makeS l) rfl ht (makeS_Srt l) hm
  obtain ⟨new, e, h1, h2⟩ := T.pre
  rw [List.nil_append] at e
  refine ⟨?_, T, ⟨by show (trieN bits (lev bits) [] (makeS l)).1.length ≤ _; rw [e]; omega, fun n hn => h2 n (e ▸ hn), kids_rng T.may (by show (trieN bits (lev bits) [] (makeS l)).1.length ≤ _; rw [e]; omega)⟩⟩
  rw [ref20_Make.eq, refmake_any l hl hb, bnd_some]
  have := make1_any bits (lev bits) [] (makeS l) (Nat.le_refl _) ⟨rfl, ht, makeS_Srt l, hm, by show 0 + _ ≤ _; omega⟩
  rw [Nat.sub_self] at this
  rw [show (0 : Int) = ((0 : Nat) : Int) from rfl, this, bnd_some]
  rfl
def longL (l : List PairV) : Bool := (makeS l).any fun p => decide (16 < p.1.size) || decide (16 < p.2.1.size)
theorem rlong20_loop (l : List PairV) (hl : l.length ≤ 50000000) (d : Nat) : ∀ (k : Nat), k ≤ l.length → l.length - k = d → ref20_Long.l0 l (k : Int) = some ((l.drop k).any fun p => decide (16 < p.1.size) || decide (16 < p.2.1.size)) := by
  induction d with
  | zero =>
    intro k h1 h2
    rw [ref20_Long.l0.eq]
    simp only [ltI_d, lenL_d, ofN_d, br_if]
    rw [if_neg (by omega), List.drop_eq_nil_of_le (by omega)]
    rfl
  | succ d ih =>
    intro k h1 h2
    have hk : k < l.length := by omega
    rw [ref20_Long.l0.eq]
    simp only [ltI_d, leI_d, andB_d, lenL_d, lenS_d, ofN_d, br_if]
    have hb : (0 : Int) ≤ (k : Int) ∧ (k : Int) < (l.length : Int) := by omega
    simp only [if_pos hb]
    rw [if_pos (by omega), ixP l k hk, List.drop_eq_getElem_cons hk, List.any_cons, add1 k (by omega), ih (k + 1) (by omega) (by omega)]
    by_cases e1 : 16 < l[k].1.size
    · rw [if_pos (by omega), decide_eq_true e1]; rfl
    · rw [if_neg (by omega), decide_eq_false e1]
      by_cases e2 : 16 < l[k].2.1.size
      · rw [if_pos (by omega), decide_eq_true e2]; rfl
      · rw [if_neg (by omega), decide_eq_false e2]; rfl
theorem rlong20_any (l : List PairV) (hl : l.length ≤ 40000000) (hm : (makeS l).length ≤ 50000000) (hb : ∀ p ∈ l, okP p) : ref20_Long l = some (longL l) := by
  rw [ref20_Long.eq, refmake_any l hl hb, bnd_some]
  have := rlong20_loop (makeS l) hm (makeS l).length 0 (by omega) (by omega)
  rw [List.drop_zero] at this
  exact this
theorem longL_not {l : List PairV} (h : longL l = false) : ∀ p ∈ makeS l, okT p := by
  intro p hp
  unfold longL at h
  rw [List.any_eq_false] at h
  have := h p hp
  simp only [Bool.or_eq_true, decide_eq_true_eq] at this
  exact ⟨by omega, by omega⟩
end Go.Proofs.YtjekopgcpikkiaaGreatDoor.AK
set_option linter.unusedVariables false
set_option linter.unusedSimpArgs false
namespace Go.Proofs.YtjekopgcpikkiaaGreatDoor.AK
open Go.Abs
theorem withC_m (m : Nat) (hm : m < 4294967296) (i : Int) : mask_With m i = some (withM m i : Int) := by
  rw [mask_With.eq, in_any, bnd_some]
  simp only [leI_d, notB_d, br_if]
  unfold withM
  by_cases h : 0 ≤ i ∧ i < 32
  · rw [if_neg (by omega), if_pos h.1, if_pos h]
    have hi : i = ((i.toNat : Nat) : Int) := by omega
    have hlt : i.toNat < 32 := by omega
    generalize i.toNat = k at hi hlt
    subst hi
    rw [shl_one k hlt, or_u32 _ _ hm (pow_lt32 hlt)]
  · rw [if_pos h, if_neg h]
def nextV : List Int → Int × Bool × Unit
  | [] => (0, (false, ()))
  | c :: _ => (c, (true, ()))
theorem next_m (m : Nat) (hm : m < 4294967296) (i : Int) (h1 : -1 ≤ i) (h2 : i ≤ 1000) : mask_Next m i = some (nextV ((allI m).filter (fun x => decide (i < x)))) := by
  rw [mask_Next.eq]
  simp only [leI_d, br_if]
  by_cases h : 31 ≤ i
  · have e : (allI m).filter (fun x => decide (i < x)) = [] := List.filter_eq_nil_iff.2 fun x hx => by
      obtain ⟨j, hj, _, rfl⟩ := allI_mem.1 hx
      simp only [decide_eq_true_eq]
      omega
    rw [if_pos h, e]
    rfl
  · have hadd : addI .i64 i 1 = i + 1 := wrap_i64_id (by omega) (by omega)
    rw [if_neg h, hadd, below_any, bnd_some, andNot_u32 m (low (i + 1)) hm (low_lt _)]
    have hx : m &&& (4294967295 - low (i + 1)) < 4294967296 := Nat.lt_of_le_of_lt Nat.and_le_left hm
    have hcl : cl (i + 1) = (i + 1).toNat := by unfold cl; omega
    have hbit : ∀ j, (m &&& (4294967295 - low (i + 1))).testBit j = (m.testBit j && (decide (j < 32) && !decide (j < (i + 1).toNat))) := by
      intro j
      rw [Nat.testBit_and, not_bit _ (low_lt _), low_bit, hcl]
    revert hx hbit
    generalize m &&& (4294967295 - low (i + 1)) = x
    intro hx hbit
    simp only [eqI_d, br_if]
    by_cases h0 : x = 0
    · have e : (allI m).filter (fun x => decide (i < x)) = [] := List.filter_eq_nil_iff.2 fun y hy => by
        obtain ⟨j, hj, hb, rfl⟩ := allI_mem.1 hy
        have := hbit j
        rw [h0, Nat.zero_testBit, hb, decide_eq_true hj, Bool.true_and, Bool.true_and] at this
        simp only [decide_eq_true_eq]
        have : j < (i + 1).toNat := by simpa using this.symm
        omega
      rw [if_pos (by omega), e]
      rfl
    · rw [if_neg (by omega), math_bits_TrailingZeros32.eq]
      simp only [leI_d, ltI_d, andB_d, br_if]
      rw [if_pos ⟨by omega, by omega⟩, bnd_some]
      obtain ⟨b1, b2, b3⟩ := ctz_bit h0 hx
      have hb := hbit (Lib.ctz 32 x)
      rw [b1] at hb
      have hb := hb.symm
      simp only [Bool.and_eq_true, decide_eq_true_eq, Bool.not_eq_true', decide_eq_false_iff_not] at hb
      obtain ⟨rest, e⟩ := filter_first (allI_sorted m) (p := fun x => decide (i < x)) (c := ((Lib.ctz 32 x : Nat) : Int)) (allI_mem.2 ⟨_, b2, hb.1, rfl⟩) (by simp only [decide_eq_true_eq]; omega) (fun y hy hlt => by
        obtain ⟨j, hj, hm', rfl⟩ := allI_mem.1 hy
        have h3 := b3 j (by omega)
        rw [hbit j, hm', decide_eq_true hj, Bool.true_and, Bool.true_and] at h3
        have : j < (i + 1).toNat := by simpa using h3
        simp only [decide_eq_false_iff_not]
        omega)
      rw [e]
      rfl
theorem all_loop (m : Nat) (hm : m < 4294967296) : ∀ (rest : List Int) (i : Int) (acc : List Int), -1 ≤ i → i ≤ 1000 → (allI m).filter (fun x => decide (i < x)) = rest → acc.length + rest.length ≤ 1000 → mask_All.l0 m i acc = some (acc ++ rest)
  | [], i, acc, h1, h2, hr, hl => by
    rw [mask_All.l0.eq, next_m m hm i h1 h2, hr, bnd_some]
    show some acc = some (acc ++ [])
    rw [List.append_nil]
  | c :: rest, i, acc, h1, h2, hr, hl => by
    have hc : c ∈ allI m := (List.mem_filter.1 (hr ▸ List.mem_cons_self : c ∈ (allI m).filter (fun x => decide (i < x)))).1
    obtain ⟨j, hj, _, e⟩ := allI_mem.1 hc
    simp only [List.length_cons] at hl
    rw [mask_All.l0.eq, next_m m hm i h1 h2, hr, bnd_some]
    show br (fitL (.int .i64) (acc ++ [c])) (mask_All.l0 m c (acc ++ [c])) none = _
    rw [fitL_d, br_if, if_pos (by simp; omega), all_loop m hm rest c (acc ++ [c]) (by omega) (by omega) (sorted_tail (allI_sorted m) hr) (by simp; omega), List.append_assoc]
    rfl
theorem all_m (m : Nat) (hm : m < 4294967296) : mask_All m = some (allI m) := by
  have hl : (allI m).length ≤ 32 := by rw [allI_len]; exact cnt_le 32 m
  have e : (allI m).filter (fun x => decide (-1 < x)) = allI m := List.filter_eq_self.2 fun x hx => by
    obtain ⟨j, _, _, rfl⟩ := allI_mem.1 hx
    simp only [decide_eq_true_eq]
    omega
  rw [mask_All.eq, all_loop m hm (allI m) (-1) [] (by omega) (by omega) e (by simp; omega)]
  rfl
/-! ### Bindings parted -/
noncomputable def partF (bits : Int) (level : Nat) (l : List PairV) : Int → List PairV := fun i => l.filter fun p => decide (((ck bits level p.1 : Nat) : Int) = i)
noncomputable def maskF (bits : Int) (level : Nat) : List PairV → Nat → Nat
  | [], s => s
  | p :: l, s => maskF bits level l (withM s ((ck bits level p.1 : Nat) : Int))
theorem go_any (bits : Int) (level : Nat) (hv : level ≤ 50000000) : ∀ (l : List PairV) (m : Int → List PairV) (s : Nat), (∀ p ∈ l, okP p) → s < 4294967296 →
    trie_maker_parted.go (level : Int) bits l m (s : Int) = some (fun i => m i ++ partF bits level l i, ((maskF bits level l s : Nat) : Int))
  | [], m, s, _, _ => by
    rw [trie_maker_parted.fin]
    have : (fun i => m i ++ partF bits level [] i) = m := by funext i; exact List.append_nil _
    rw [this]
    rfl
  | p :: l, m, s, ho, hs => by
    have h1 := ho p List.mem_cons_self
    rw [trie_maker_parted.step, hashof_any p.1 bits (by have := h1.1; omega), bnd_some, chunk_any _ (hash_lt64 _ _) _ _ (by omega), bnd_some, if_neg (by omega), Int.toNat_natCast]
    rw [withC_m s hs, bnd_some, go_any bits level hv l _ _ (fun q hq => ho q (List.mem_cons_of_mem _ hq)) (withM_lt hs _)]
    have : (fun i => putM tapiPair m ((chunkS (hashS p.1 bits) level bits : Nat) : Int) p i ++ partF bits level l i) = fun i => m i ++ partF bits level (p :: l) i := by
      funext i
      unfold putM partF
      by_cases e : i = ((chunkS (hashS p.1 bits) level bits : Nat) : Int)
      · rw [if_pos e, List.filter_cons, if_pos (by rw [decide_eq_true_eq]; exact e.symm), List.append_assoc]
        rfl
      · rw [if_neg e, List.filter_cons, if_neg (by rw [decide_eq_true_eq]; exact fun q => e q.symm)]
    rw [this]
    rfl
theorem maskF_bit (bits : Int) (level : Nat) (j : Nat) : ∀ (l : List PairV) (s : Nat), (maskF bits level l s).testBit j = true ↔ s.testBit j = true ∨ ∃ p ∈ l, ck bits level p.1 = j
  | [], s => by simp [maskF]
  | p :: l, s => by
    have hlt := ck_lt bits level p.1
    show (maskF bits level l (withM s _)).testBit j = true ↔ _
    rw [maskF_bit bits level j l, withM_bit, Bool.or_eq_true, decide_eq_true_eq]
    constructor
    · rintro ((h | ⟨_, _, h⟩) | ⟨q, hq, h⟩)
      · exact .inl h
      · exact .inr ⟨p, List.mem_cons_self, by omega⟩
      · exact .inr ⟨q, List.mem_cons_of_mem _ hq, h⟩
    · rintro (h | ⟨q, hq, h⟩)
      · exact .inl (.inl h)
      · rcases List.mem_cons.1 hq with rfl | hq
        · exact .inl (.inr ⟨by omega, by omega, by omega⟩)
        · exact .inr ⟨q, hq, h⟩
theorem maskF_eq (bits : Int) (level : Nat) (l : List PairV) : maskF bits level l 0 = maskC bits level l := by
  apply Nat.eq_of_testBit_eq
  intro j
  rw [Bool.eq_iff_iff, maskF_bit, maskC_bit, usedC_mem, Nat.zero_testBit]
  constructor
  · rintro (h | ⟨p, hp, h⟩)
    · cases h
    · have hlt := ck_lt bits level p.1
      refine ⟨by omega, fun e => ?_⟩
      have : p ∈ part bits level l j := List.mem_filter.2 ⟨hp, by simpa using h⟩
      rw [e] at this
      cases this
  · rintro ⟨_, h⟩
    obtain ⟨p, hp⟩ := List.exists_mem_of_ne_nil _ h
    exact .inr ⟨p, (List.mem_filter.1 hp).1, by simpa using (List.mem_filter.1 hp).2⟩
theorem partF_nat (bits : Int) (level : Nat) (l : List PairV) (j : Nat) : partF bits level l (j : Int) = part bits level l j := by
  unfold partF part
  refine List.filter_congr fun p _ => ?_
  rw [decide_eq_decide]
  omega
theorem parted_any (bits : Int) (level : Nat) (hv : level ≤ 50000000) (l : List PairV) (hl : l.length ≤ 1000000) (ho : ∀ p ∈ l, okP p) (h : List NodeV) :
    trie_maker_parted l (level : Int) (bits, ((), ())) h = some ((partF bits level l, (((maskC bits level l : Nat) : Int), ())), ((bits, ((), ())), (h, ()))) := by
  rw [trie_maker_parted.eq, fitL_d, br_if, if_pos (by omega)]
  have := go_any bits level hv l (fun _ => []) 0 ho (by omega)
  dsimp only
  rw [show (0 : Int) = ((0 : Nat) : Int) from rfl, this, bnd_some, maskF_eq]
  have : (fun i => [] ++ partF bits level l i) = partF bits level l := by funext i; rfl
  rw [this]
/-! ### The maker -/
theorem mkadd_any (n : NodeV) (bits : Int) (h : List NodeV) (hl : h.length + 1 ≤ 1073741824) : trie_maker_add n (bits, ((), ())) h = some ((h.length : Int) + 1, ((bits, ((), ())), (h ++ [n], ()))) := by
  rw [trie_maker_add.eq]
  simp only [fitL_d, appL_d, lenL_d, ofN_d, br_if]
  rw [if_pos (by rw [List.length_append]; exact hl), List.length_append]
  rfl
theorem branchM_any (m : Nat) (ks : List Int) (sz : Int) (hk : ks.length ≤ 50000000) : node_Branch (m : Int) ks sz = some (bN m ks sz 0) := by
  rw [node_Branch.eq, cloneR_any ks hk, bnd_some]
  rfl
section
variable (bits : Int) (f : Nat) (l : List PairV) (hf : f + 1 ≤ lev bits) (hb : ∀ p ∈ l, okT p) (hS : Srt l) (hl : l.length ≤ 1000000)
  (ih : ∀ (h : List NodeV) (q : List PairV), MkOK f h q → trie_maker_trie q ((lev bits - f : Nat) : Int) (bits, ((), ())) h = some ((trieN bits f h q).2, ((bits, ((), ())), ((trieN bits f h q).1, ()))))
include hf hb hS hl ih
theorem t_l1 (d : Nat) : ∀ (k : Nat) (h : List NodeV) (ks : List Int), k ≤ (usedC bits (lev bits - (f + 1)) l).length → (usedC bits (lev bits - (f + 1)) l).length - k = d → ks.length ≤ k → mayH h = true → h.length + (((usedC bits (lev bits - (f + 1)) l).drop k).map fun j => (part bits (lev bits - (f + 1)) l j).length).sum * (f + 1) + 1 ≤ 40000000 →
    trie_maker_trie.l1 l ((lev bits - (f + 1) : Nat) : Int) (partF bits (lev bits - (f + 1)) l) ((maskC bits (lev bits - (f + 1)) l : Nat) : Int) (usedI bits (lev bits - (f + 1)) l) (((usedC bits (lev bits - (f + 1)) l).length : Nat) : Int) (k : Int) (bits, ((), ())) h ks =
      some (((walkN (fun g i => trieN bits f g (part bits (lev bits - (f + 1)) l i)) h ((usedC bits (lev bits - (f + 1)) l).drop k)).1.length : Int) + 1, ((bits, ((), ())), ((walkN (fun g i => trieN bits f g (part bits (lev bits - (f + 1)) l i)) h ((usedC bits (lev bits - (f + 1)) l).drop k)).1 ++ [bN (maskC bits (lev bits - (f + 1)) l) (ks ++ (walkN (fun g i => trieN bits f g (part bits (lev bits - (f + 1)) l i)) h ((usedC bits (lev bits - (f + 1)) l).drop k)).2) l.length 0], ()))) := by
  have hlev := lev_le bits
  have hu : (usedC bits (lev bits - (f + 1)) l).length ≤ 32 := by
    have := List.length_filter_le (fun i => !(part bits (lev bits - (f + 1)) l i).isEmpty) (List.range 32)
    rw [List.length_range] at this
    exact this
  induction d with
  | zero =>
    intro k h ks h1 h2 h3 hm hlen
    have hd : (usedC bits (lev bits - (f + 1)) l).drop k = [] := List.drop_of_length_le (by omega)
    rw [hd] at hlen ⊢
    simp only [List.map_nil, List.sum_nil] at hlen
    rw [trie_maker_trie.l1.eq]
    simp only [ltI_d, lenL_d, ofN_d, br_if]
    rw [if_neg (by omega), branchM_any _ _ _ (by omega), bnd_some, mkadd_any _ _ _ (by omega), bnd_some]
    show some ((h.length : Int) + 1, ((bits, ((), ())), (h ++ [bN _ ks _ _], ()))) = some ((h.length : Int) + 1, ((bits, ((), ())), (h ++ [bN _ (ks ++ []) _ _], ())))
    rw [List.append_nil]
  | succ d ihd =>
    intro k h ks h1 h2 h3 hm hlen
    have hk : k < (usedC bits (lev bits - (f + 1)) l).length := by omega
    generalize hlv : lev bits - (f + 1) = level at hlen ihd hu h1 h2 hk ⊢
    have hlf : lev bits - f = level + 1 := by omega
    rw [hlf] at ih
    have hil : (usedI bits level l).length = (usedC bits level l).length := List.length_map _
    have hix : ixL (.int .i64) (usedI bits level l) (k : Int) = (((usedC bits level l)[k] : Nat) : Int) := by
      rw [ixL_d (.int .i64) (usedI bits level l) k (by rw [hil]; exact hk)]
      simp
    have hdr : (usedC bits level l).drop k = (usedC bits level l)[k] :: (usedC bits level l).drop (k + 1) := List.drop_eq_getElem_cons hk
    rw [hdr] at hlen ⊢
    generalize hi : (usedC bits level l)[k] = i at hlen hix ⊢
    have hmem : i ∈ usedC bits level l := by rw [← hi]; exact List.getElem_mem hk
    have hp := (usedC_mem.1 hmem).2
    rw [List.map_cons, List.sum_cons, mul_up] at hlen
    have hpl : 0 < (part bits level l i).length := List.length_pos_iff.2 hp
    have hpm : (part bits level l i).length ≤ l.length := part_len _ _ _ _
    have ok : MkOK f h (part bits level l i) := ⟨hm, fun p hp => hb p (part_sub hp), part_srt hS i, by omega, by omega⟩
    have T := trieN_ok bits f h (part bits level l i) hm ok.txt ok.srt ok.len
    obtain ⟨new, en, ln, _⟩ := T.pre
    rw [trie_maker_trie.l1.eq, hix]
    simp only [ltI_d, leI_d, andB_d, lenL_d, ofN_d, br_if]
    rw [if_pos (by omega), if_pos ⟨by omega, by rw [hil]; omega⟩, show getM tapiPair (partF bits level l) (i : Int) = part bits level l i from partF_nat bits level l i, add1 level (by omega), ih h _ ok, bnd_some, walkN_cons]
    dsimp only
    simp only [fitL_d, appL_d, br_if]
    rw [if_pos (by rw [List.length_append]; simp only [List.length_cons, List.length_nil]; omega), add1 k (by omega)]
    have := ihd (k + 1) (trieN bits f h (part bits level l i)).1 (ks ++ [(trieN bits f h (part bits level l i)).2]) (by omega) (by omega) (by rw [List.length_append]; simp only [List.length_cons, List.length_nil]; omega) T.may (by rw [en, List.length_append]; omega)
    rw [List.append_assoc] at this
    exact this
end
theorem t_l0 (bits : Int) (f : Nat) (l : List PairV) (h : List NodeV) :
    trie_maker_trie.l0 l ((lev bits - (f + 1) : Nat) : Int) (partF bits (lev bits - (f + 1)) l) ((maskC bits (lev bits - (f + 1)) l : Nat) : Int) (usedI bits (lev bits - (f + 1)) l) (((usedC bits (lev bits - (f + 1)) l).length : Nat) : Int) (0 : Int) (bits, ((), ())) h [] =
      trie_maker_trie.l1 l ((lev bits - (f + 1) : Nat) : Int) (partF bits (lev bits - (f + 1)) l) ((maskC bits (lev bits - (f + 1)) l : Nat) : Int) (usedI bits (lev bits - (f + 1)) l) (((usedC bits (lev bits - (f + 1)) l).length : Nat) : Int) (0 : Int) (bits, ((), ())) h [] := by
  rw [trie_maker_trie.l0.eq, trie_maker_trie.l1.eq]
theorem mtrie_any (bits : Int) : ∀ (f : Nat) (h : List NodeV) (l : List PairV), f ≤ lev bits → MkOK f h l → trie_maker_trie l ((lev bits - f : Nat) : Int) (bits, ((), ())) h = some ((trieN bits f h l).2, ((bits, ((), ())), ((trieN bits f h l).1, ()))) := by
  have hlev := lev_le bits
  have one : ∀ (f : Nat) (h : List NodeV) (p : PairV), MkOK f h [p] → trie_maker_trie [p] ((lev bits - f : Nat) : Int) (bits, ((), ())) h = some ((trieN bits f h [p]).2, ((bits, ((), ())), ((trieN bits f h [p]).1, ()))) := fun f h p ok => by
    have := ok.fits
    simp only [List.length_cons, List.length_nil] at this
    rw [trieN_one, trie_maker_trie.eq]
    simp only [ltI_d, leI_d, eqI_d, andB_d, lenL_d, ofN_d, br_if]
    have e : ixL tapiPair [p] (0 : Int) = p := rfl
    rw [if_neg (by simp), if_pos (by simp), if_pos (by simp), if_pos (by simp), e, node_Leaf.eq, bnd_some]
    show bnd (trie_maker_add (lfN p) (bits, ((), ())) h) _ = _
    rw [mkadd_any _ _ _ (by omega), bnd_some]
  intro f
  induction f with
  | zero =>
    intro h l hf ok
    rcases len_cases l with rfl | ⟨p, rfl⟩ | h2
    · rw [trieN_nil, trie_maker_trie.eq]; rfl
    · exact one 0 h p ok
    · have := ok.fits
      have hln := ok.len
      rw [trieN_buck bits h h2, trie_maker_trie.eq]
      simp only [leI_d, eqI_d, lenL_d, ofN_d, br_if]
      rw [if_neg (by omega), if_neg (by omega), levels_any, bnd_some, if_pos (by omega), node_Bucket.eq, make_any l (by omega) (fun p hp => (ok.txt p hp).ok), bnd_some, makeS_srt ok.srt, bnd_some]
      show bnd (trie_maker_add (buckN l) (bits, ((), ())) h) _ = _
      rw [mkadd_any _ _ _ (by omega), bnd_some]
  | succ f ih =>
    intro h l hf ok
    rcases len_cases l with rfl | ⟨p, rfl⟩ | h2
    · rw [trieN_nil, trie_maker_trie.eq]; rfl
    · exact one (f + 1) h p ok
    · have hfit := ok.fits
      have hln := ok.len
      rw [Nat.mul_succ] at hfit
      rw [trieN_br bits f h h2, trie_maker_trie.eq]
      simp only [leI_d, eqI_d, lenL_d, ofN_d, br_if]
      rw [if_neg (by omega), if_neg (by omega), levels_any, bnd_some, if_neg (by omega), parted_any bits _ (by omega) l hln (fun p hp => (ok.txt p hp).ok) h, bnd_some]
      dsimp only
      rw [all_m _ (maskC_lt _ _ _), bnd_some]
      have eI : allI (maskC bits (lev bits - (f + 1)) l) = usedI bits (lev bits - (f + 1)) l := by
        unfold allI
        rw [allL_maskC]
      have hil : (usedI bits (lev bits - (f + 1)) l).length = (usedC bits (lev bits - (f + 1)) l).length := List.length_map _
      rw [eI, hil]
      have hs : h.length + ((usedC bits (lev bits - (f + 1)) l).map fun j => (part bits (lev bits - (f + 1)) l j).length).sum * (f + 1) + 1 ≤ 40000000 := by rw [parts_sum]; omega
      rw [t_l0 bits f l h]
      have := t_l1 bits f l hf ok.txt ok.srt ok.len (fun h q o => ih h q (by omega) o) _ 0 h [] (by omega) rfl (by simp) ok.may (by rw [List.drop_zero]; exact hs)
      rw [List.drop_zero] at this
      exact this
end Go.Proofs.YtjekopgcpikkiaaGreatDoor.AK
set_option linter.unusedVariables false
set_option linter.unusedSimpArgs false
namespace Go.Proofs.YtjekopgcpikkiaaGreatDoor.AK
open Go.Abs
theorem refbinds_any (n : NodeV) : ref13_Binds n = some (bindsS n) := by
  rw [ref13_Binds.eq]
  unfold bindsS
  simp only [eqI_d, br_if]
  by_cases h1 : n.1 = 1
  · rw [if_pos h1, if_pos (.inl h1)]
  by_cases h4 : n.1 = 4
  · rw [if_neg h1, if_pos h4, if_pos (.inr (.inl h4))]
  by_cases h6 : n.1 = 6
  · rw [if_neg h1, if_neg h4, if_pos h6, if_pos (.inr (.inr h6))]
  rw [if_neg h1, if_neg h4, if_neg h6, if_neg (show ¬ (n.1 = 1 ∨ n.1 = 4 ∨ n.1 = 6) by omega)]
  by_cases h3 : n.1 = 3
  · rw [if_pos h3, if_pos h3]
  · rw [if_neg h3, if_neg h3]
end Go.Proofs.YtjekopgcpikkiaaGreatDoor.AK
set_option linter.unusedVariables false
set_option linter.unusedSimpArgs false
namespace Go.Proofs.YtjekopgcpikkiaaGreatDoor.AK
open Go.Abs
theorem refhbinds_loop {h : List NodeV} (ho : okH h) (refs : List Int) (hr : refs.length ≤ 50000000) (hb : ∀ x ∈ refs, ref17_Binds h x = some (bindsT (U h x))) (d : Nat) : ∀ (i : Nat) (acc : List PairV), i ≤ refs.length → refs.length - i = d →
    (acc ++ ((refs.drop i).map fun x => bindsT (U h x)).flatten).length ≤ 1000000000 → ref17_Binds.l0 h refs i acc = some (acc ++ ((refs.drop i).map fun x => bindsT (U h x)).flatten) := by
  induction d with
  | zero =>
    intro i acc h1 h2 h3
    rw [ref17_Binds.l0.eq]
    simp only [ltI_d, ofN_d, lenL_d, br_if]
    rw [if_neg (by omega), List.drop_eq_nil_of_le (by omega)]
    simp
  | succ d ih =>
    intro i acc h1 h2 h3
    have hi : i < refs.length := by omega
    rw [List.drop_eq_getElem_cons hi, List.map_cons, List.flatten_cons, ← List.append_assoc] at h3
    rw [ref17_Binds.l0.eq]
    simp only [ltI_d, leI_d, ofN_d, lenL_d, andB_d, br_if]
    rw [if_pos (by omega), if_pos (by omega), ixR refs i hi, hb _ (List.getElem_mem hi), bnd_some]
    simp only [fitL_d, appL_d, br_if]
    rw [if_pos (by rw [List.length_append] at h3; omega), add1 i (by omega), ih (i + 1) _ (by omega) (by omega) h3, List.drop_eq_getElem_cons hi, List.map_cons, List.flatten_cons, List.append_assoc]
theorem refhbinds_any {h : List NodeV} (ho : okH h) (hm : mayH h = true) : ∀ (n : Nat) (r : Int), 0 ≤ r → r ≤ n → r ≤ h.length → (bindsT (U h r)).length ≤ 1000000000 → ref17_Binds h r = some (bindsT (U h r)) := by
  have hlen := ho.len
  intro n
  induction n with
  | zero =>
    intro r h0 h1 h2 h3
    have : r = 0 := by omega
    subst this
    rw [ref17_Binds.eq, eqI_d, br_if, if_pos rfl, U_zero, bindsT_nil]
  | succ n ih =>
    intro r h0 h1 h2 h3
    by_cases e : r = 0
    · subst e
      rw [ref17_Binds.eq, eqI_d, br_if, if_pos rfl, U_zero, bindsT_nil]
    have hr1 : 1 ≤ r := by omega
    have o := ho.node _ (getN_mem h r hr1 h2)
    rw [ref17_Binds.eq, eqI_d, br_if, if_neg e, inG h r hr1 h2 (by omega), br_t, ixG h r hr1 h2 (by omega), eqI_d, br_if]
    by_cases h4 : (getN h r).1 = 4
    · obtain ⟨a, b, k1, k2, k3, k4, k5⟩ := bindsU_tree hm hr1 h2 h4
      rw [k5, List.length_append, List.length_append] at h3
      rw [if_pos h4, (in01 _ a b k1).1, br_t, (in01 _ a b k1).2, (ix0 _ a b k1).1, (ix0 _ a b k1).2, ih a (by omega) (by omega) (by omega) (by omega), bnd_some]
      simp only [fitL_d, appL_d, br_if, List.nil_append]
      rw [if_pos (by omega), refbinds_any, bnd_some]
      try simp only [fitL_d, appL_d, br_if]
      rw [if_pos (by rw [List.length_append]; omega), br_t, ih b (by omega) (by omega) (by omega) (by omega), bnd_some]
      try simp only [fitL_d, appL_d, br_if]
      rw [if_pos (by rw [List.length_append, List.length_append]; omega), k5]
    · have k5 := bindsU_refs hm hr1 h2 h4
      have hrl := refsS_len (getN h r)
      have hkl := o.kids
      rw [k5] at h3
      have hx := (may_node hm hr1 h2).2
      have hb : ∀ x ∈ refsS (getN h r), ref17_Binds h x = some (bindsT (U h x)) := by
        intro x hx'
        have hq := hx'
        rw [refsS_all] at hq
        have := hx x (List.mem_filter.1 hq).1
        refine ih x (by omega) (by omega) (by omega) ?_
        have := flat_sub (List.mem_map.2 ⟨x, hx', rfl⟩ : bindsT (U h x) ∈ (refsS (getN h r)).map fun x => bindsT (U h x))
        rw [List.length_append] at h3
        omega
      rw [if_neg h4, refbinds_any, bnd_some]
      simp only [fitL_d, appL_d, br_if, List.nil_append]
      rw [if_pos (by rw [List.length_append] at h3; omega), refrefs_any _ o, bnd_some]
      have := refhbinds_loop ho (refsS (getN h r)) (by omega) hb (refsS (getN h r)).length 0 (bindsS (getN h r)) (by omega) (by omega) (by rw [List.drop_zero]; exact h3)
      rw [List.drop_zero, show ((0 : Nat) : Int) = 0 from rfl] at this
      rw [k5]
      exact this
end Go.Proofs.YtjekopgcpikkiaaGreatDoor.AK
set_option linter.unusedVariables false
set_option linter.unusedSimpArgs false
namespace Go.Proofs.YtjekopgcpikkiaaGreatDoor.AK
open Go.Abs
end Go.Proofs.YtjekopgcpikkiaaGreatDoor.AK
set_option linter.unusedVariables false
set_option linter.unusedSimpArgs false
namespace Go.Proofs.YtjekopgcpikkiaaGreatDoor.AK
open Go.Abs
end Go.Proofs.YtjekopgcpikkiaaGreatDoor.AK
set_option linter.unusedVariables false
set_option linter.unusedSimpArgs false
namespace Go.Proofs.YtjekopgcpikkiaaGreatDoor.AK
open Go.Abs
end Go.Proofs.YtjekopgcpikkiaaGreatDoor.AK
set_option linter.unusedVariables false
set_option linter.unusedSimpArgs false
namespace Go.Proofs.YtjekopgcpikkiaaGreatDoor.AK
open Go.Abs
/-! ### Lists in order -/
theorem srt_eq {l m : List PairV} (h1 : Srt l) (h2 : Srt m) (hp : l.Perm m) : l = m :=
  List.Perm.eq_of_pairwise (le := fun a b : PairV => lt a.1 b.1 = true) (fun a b _ _ hab hba => by rw [lt_asymm hab] at hba; cases hba) h1 h2 hp
theorem putS_perm (p : PairV) : ∀ l : List PairV, (∀ q ∈ l, q.1 ≠ p.1) → (putS l p).Perm (p :: l)
  | [], _ => List.Perm.refl _
  | q :: l, h => by
    unfold putS
    split
    · exact (List.Perm.cons q (putS_perm p l fun x hx => h x (List.mem_cons_of_mem _ hx))).trans (List.Perm.swap p q l)
    · rw [if_neg (h q List.mem_cons_self)]
theorem foldS_perm : ∀ (l acc : List PairV), (l.map (·.1)).Nodup → (∀ p ∈ l, ∀ q ∈ acc, q.1 ≠ p.1) → (l.foldl putS acc).Perm (acc ++ l)
  | [], acc, _, _ => by rw [List.append_nil]; exact List.Perm.refl _
  | p :: l, acc, hn, h => by
    rw [List.map_cons, List.nodup_cons] at hn
    have h1 := putS_perm p acc (h p List.mem_cons_self)
    have h2 := foldS_perm l (putS acc p) hn.2 (fun x hx q hq => by
      rcases List.mem_cons.1 (h1.mem_iff.1 hq) with rfl | hq
      · exact fun e => hn.1 (e ▸ List.mem_map_of_mem hx)
      · exact h x (List.mem_cons_of_mem _ hx) q hq)
    refine h2.trans ?_
    refine (List.Perm.append_right l h1).trans ?_
    show (p :: (acc ++ l)).Perm (acc ++ p :: l)
    exact List.perm_middle.symm
theorem srt_keys {l : List PairV} (h : Srt l) : (l.map (·.1)).Nodup := by
  rw [List.Nodup, List.pairwise_map]
  refine List.Pairwise.imp ?_ (show l.Pairwise (fun a b => lt a.1 b.1 = true) from h)
  intro a b hab e
  rw [e, lt_irrefl] at hab
  cases hab
theorem makeS_of_perm {l m : List PairV} (h : Srt l) (hp : m.Perm l) : makeS m = l := by
  have hn : (m.map (·.1)).Nodup := ((hp.map (·.1)).nodup_iff).2 (srt_keys h)
  have := foldS_perm m [] hn (fun p _ q hq => by cases hq)
  rw [List.nil_append] at this
  exact srt_eq (makeS_Srt m) h (this.trans hp)
/-! ### What is bound in a trie -/
theorem perm_flat (g q : Nat → List PairV) : ∀ is : List Nat, (∀ i ∈ is, (g i).Perm (q i)) → ((is.map g).flatten).Perm ((is.map q).flatten)
  | [], _ => List.Perm.refl _
  | i :: is, h => by
    rw [List.map_cons, List.map_cons, List.flatten_cons, List.flatten_cons]
    exact (h i List.mem_cons_self).append (perm_flat g q is fun j hj => h j (List.mem_cons_of_mem _ hj))
theorem trieT_binds (bits : Int) : ∀ (f : Nat) (l : List PairV), (bindsT (trieT bits f l)).Perm l := by
  have one : ∀ (f : Nat) (p : PairV), (bindsT (trieT bits f [p])).Perm [p] := fun f p => by
    rw [trieT_one, bindsT_node, if_neg (show ¬ (stripV (lfN p)).1 = 4 by show ¬ (1 : Int) = 4; omega)]
    have : bindsS (stripV (lfN p)) ++ ([Shp.nil].map bindsT).flatten = [p] := by
      rw [bindsS_strip, List.map_cons, List.map_nil, bindsT_nil]
      rfl
    rw [this]
  intro f
  induction f with
  | zero =>
    intro l
    rcases len_cases l with rfl | ⟨p, rfl⟩ | h2
    · rw [trieT_nil, bindsT_nil]
    · exact one 0 p
    · rw [trieT_buck bits h2, bindsT_node, if_neg (show ¬ (stripV (buckN l)).1 = 4 by show ¬ (3 : Int) = 4; omega)]
      have : bindsS (stripV (buckN l)) ++ ([Shp.nil].map bindsT).flatten = l := by
        rw [bindsS_strip, List.map_cons, List.map_nil, bindsT_nil]
        show l ++ [] = l
        exact List.append_nil _
      rw [this]
  | succ f ih =>
    intro l
    rcases len_cases l with rfl | ⟨p, rfl⟩ | h2
    · rw [trieT_nil, bindsT_nil]
    · exact one (f + 1) p
    · rw [trieT_br bits f h2, bindsT_node, if_neg (show ¬ (stripV (bN (maskC bits (lev bits - (f + 1)) l) [] l.length 0)).1 = 4 by show ¬ (2 : Int) = 4; omega), List.map_append, List.map_map, List.flatten_append]
      have : bindsS (stripV (bN (maskC bits (lev bits - (f + 1)) l) [] l.length 0)) = [] := rfl
      rw [this, List.nil_append, List.map_cons, List.map_nil, bindsT_nil]
      show ((List.map _ _).flatten ++ []).Perm l
      rw [List.append_nil]
      refine (perm_flat (bindsT ∘ fun i => trieT bits f (part bits (lev bits - (f + 1)) l i)) (part bits (lev bits - (f + 1)) l) _ fun i _ => ih _).trans (parts_perm bits _ l)
/-! ### What is bound below a reference -/
theorem binds_mem {h : List NodeV} (hm : mayH h = true) : ∀ (n : Nat) (r : Int), 0 ≤ r → r ≤ n → r ≤ h.length → ∀ p ∈ bindsT (U h r), ∃ x ∈ h, mayS x = 0 ∧ p ∈ bindsS x := by
  have own : ∀ r : Int, 1 ≤ r → r ≤ h.length → ∀ p ∈ bindsS (getN h r), ∃ x ∈ h, mayS x = 0 ∧ p ∈ bindsS x := fun r h1 h2 p hp => ⟨_, getN_mem h r h1 h2, (may_node hm h1 h2).1, hp⟩
  intro n
  induction n with
  | zero =>
    intro r h0 h1 h2 p hp
    have : r = 0 := by omega
    subst this
    rw [U_zero, bindsT_nil] at hp
    cases hp
  | succ n ih =>
    intro r h0 h1 h2 p hp
    by_cases e : r = 0
    · subst e; rw [U_zero, bindsT_nil] at hp; cases hp
    by_cases h4 : (getN h r).1 = 4
    · obtain ⟨a, b, _, _, k3, k4, k5⟩ := bindsU_tree hm (by omega) h2 h4
      rw [k5] at hp
      rcases List.mem_append.1 hp with hp | hp
      · rcases List.mem_append.1 hp with hp | hp
        · exact ih a (by omega) (by omega) (by omega) p hp
        · exact own r (by omega) h2 p hp
      · exact ih b (by omega) (by omega) (by omega) p hp
    · rw [bindsU_refs hm (by omega) h2 h4] at hp
      rcases List.mem_append.1 hp with hp | hp
      · exact own r (by omega) h2 p hp
      · obtain ⟨l, hl, hp⟩ := List.mem_flatten.1 hp
        obtain ⟨x, hx, rfl⟩ := List.mem_map.1 hl
        rw [refsS_all] at hx
        have hk := (may_node hm (by omega) h2).2 x (List.mem_filter.1 hx).1
        exact ih x (by omega) (by omega) (by omega) p hp
theorem longP_iff {p : PairV} : longP p = false ↔ okT p := by
  unfold longP okT
  rw [Bool.or_eq_false_iff, decide_eq_false_iff_not, decide_eq_false_iff_not]
  constructor <;> rintro ⟨h1, h2⟩ <;> exact ⟨by omega, by omega⟩
theorem may_short {x : NodeV} (hm : mayS x = 0) {p : PairV} (hp : p ∈ bindsS x) : okT p := by
  obtain ⟨_, _, hl, _⟩ := mayS_zero hm
  unfold longN at hl
  rw [Bool.or_eq_false_iff] at hl
  unfold bindsS at hp
  split at hp
  · rw [List.mem_singleton] at hp
    subst hp
    exact longP_iff.1 hl.1
  · split at hp
    · have := hl.2
      rw [List.any_eq_false] at this
      exact longP_iff.1 (Bool.eq_false_iff.2 (this p hp))
    · cases hp
/-! ### The program's own trie -/
theorem lfN_long {p : PairV} (h : longP p = true) : mayS (lfN p) = 6 := by
  unfold mayS
  have hl : longN (lfN p) = true := by
    show (longP p || false) = true
    rw [h]; rfl
  rw [if_neg (by show ¬ (1 : Int) < 1; omega), if_neg (by show ¬ (6 : Int) < 1; omega), hl, if_pos rfl]
theorem tmake_l0 (bits : Int) (l : List PairV) (hl : l.length ≤ 40000000) (hb : ∀ p ∈ l, okP p) (d : Nat) : ∀ k : Nat, k ≤ l.length → l.length - k = d →
    trie_Make.l0 bits l l ((l.length : Nat) : Int) (k : Int) = if (l.drop k).any longP = true then some ([], ((0 : Int), ((6 : Int), ()))) else bnd (trie_maker_trie l (0 : Int) (bits, ((), ())) []) fun r2 => some (r2.2.2.1, (r2.1, ((0 : Int), ()))) := by
  induction d with
  | zero =>
    intro k h1 h2
    rw [trie_Make.l0.eq, List.drop_of_length_le (by omega)]
    simp only [ltI_d, br_if]
    rw [if_neg (by omega)]
    rfl
  | succ d ih =>
    intro k h1 h2
    have hk : k < l.length := by omega
    have ho := hb l[k] (List.getElem_mem hk)
    rw [trie_Make.l0.eq, List.drop_eq_getElem_cons hk]
    simp only [ltI_d, leI_d, andB_d, lenL_d, ofN_d, br_if]
    rw [if_pos (by omega), if_pos ⟨by omega, by omega⟩, ixL_d tapiPair l k hk, node_Leaf.eq, bnd_some]
    show bnd (node_May (lfN l[k])) _ = _
    rw [may_any _ (lfN_ok ho), bnd_some, List.any_cons]
    cases e : longP l[k] with
    | true =>
      rw [lfN_long e, Bool.true_or, if_pos rfl]
      rfl
    | false =>
      rw [lfN_may (longP_iff.1 e), Bool.false_or, add1 k (by omega)]
      exact ih (k + 1) (by omega) (by omega)
theorem tmake_any (bits : Int) (l : List PairV) (hl : l.length ≤ 40000000) (hm : (makeS l).length ≤ 1000000) (hb : ∀ p ∈ l, okP p) :
    trie_Make bits l = if (makeS l).any longP = true then some ([], ((0 : Int), ((6 : Int), ()))) else some (trieH bits l, (trieR bits l, ((0 : Int), ()))) := by
  have hlev := lev_le bits
  rw [trie_Make.eq, make_any l hl hb, bnd_some]
  have e := tmake_l0 bits (makeS l) (by omega) (fun p hp => hb p (makeS_mem hp)) _ 0 (by omega) rfl
  rw [List.drop_zero] at e
  refine (show trie_Make.l0 bits (makeS l) (makeS l) (((makeS l).length : Nat) : Int) ((0 : Nat) : Int) = _ from e).trans ?_
  cases hg : (makeS l).any longP with
  | true => rw [if_pos rfl, if_pos rfl]
  | false =>
    have ht : ∀ p ∈ makeS l, okT p := fun p hp => by
      rw [List.any_eq_false] at hg
      exact longP_iff.1 (Bool.eq_false_iff.2 (hg p hp))
    have hfit : (makeS l).length * (lev bits + 1) ≤ 1000000 * 14 := Nat.mul_le_mul hm (by omega)
    have := mtrie_any bits (lev bits) [] (makeS l) (Nat.le_refl _) ⟨rfl, ht, makeS_Srt l, hm, by show 0 + _ ≤ _; omega⟩
    rw [Nat.sub_self] at this
    rw [if_neg (by simp), if_neg (by simp), show (0 : Int) = ((0 : Nat) : Int) from rfl, this, bnd_some]
    rfl
noncomputable def isT (h : List NodeV) (r bits : Int) : Bool := fitH h r && eqSh (U h r) (U (trieH bits (bindsT (U h r))) (trieR bits (bindsT (U h r))))
theorem isT_any (h : List NodeV) (ho : okH h) (r bits : Int) (hL : fitH h r = true → (bindsT (U h r)).length ≤ 40000000 ∧ (makeS (bindsT (U h r))).length ≤ 1000000) :
    trie_Is h r bits = some (isT h r bits) ∧ ref20_Is h r bits = some (isT h r bits) := by
  rw [trie_Is.eq, heap_Binds.eq, hmay_any h ho, bnd_some, ref20_Is.eq, fits_any h ho, bnd_some]
  unfold isT
  cases hf : fitH h r with
  | false => exact ⟨rfl, rfl⟩
  | true =>
    obtain ⟨⟨a, b⟩, c⟩ := fitH_iff.1 hf
    obtain ⟨h1, h2⟩ := hL hf
    have hT : ∀ p ∈ bindsT (U h r), okT p := fun p hp => by
      obtain ⟨x, _, hx, hpx⟩ := binds_mem c r.toNat r a (by omega) b p hp
      exact may_short hx hpx
    have hg : (makeS (bindsT (U h r))).any longP = false := by
      rw [List.any_eq_false]
      exact fun p hp => Bool.eq_false_iff.1 (longP_iff.2 (hT p (makeS_mem hp)))
    obtain ⟨e1, T, go⟩ := make_trie bits (bindsT (U h r)) h1 h2 (fun p hp => (hT p hp).ok) (fun p hp => hT p (makeS_mem hp))
    have hfit : fitH (trieH bits (bindsT (U h r))) (trieR bits (bindsT (U h r))) = true := fitH_iff.2 ⟨⟨T.r0, T.r1⟩, T.may⟩
    have e2 := tmake_any bits (bindsT (U h r)) h1 h2 (fun p hp => (hT p hp).ok)
    rw [hg, if_neg (by simp)] at e2
    constructor
    · rw [if_pos rfl, show notB (eqI (0 : Int) (0 : Int)) = false from rfl, br_f, hbinds_any ho c r.toNat r a (by omega) b (by omega), bnd_some, bnd_some]
      show bnd (trie_Make bits (bindsT (U h r))) _ = _
      rw [e2, bnd_some]
      show bnd (heap_Same h r (trieH bits (bindsT (U h r))) (trieR bits (bindsT (U h r)))) _ = _
      rw [hSame_any h _ ho go, bnd_some, hf, hfit]
      rfl
    · rw [show notB true = false from rfl, br_f, refhbinds_any ho c r.toNat r a (by omega) b (by omega), bnd_some, e1, bnd_some, refSame_any h _ ho go, bnd_some, hf, hfit]
      rfl
end Go.Proofs.YtjekopgcpikkiaaGreatDoor.AK
set_option linter.unusedVariables false
set_option linter.unusedSimpArgs false
namespace Go.Proofs.YtjekopgcpikkiaaGreatDoor.AK
open Go.Abs
theorem trie_branch {h : List NodeV} (ho : okH h) (hm : mayH h = true) {r : Int} (h0 : 0 ≤ r) (h1 : r ≤ h.length) {bits : Int} {f : Nat} {l : List PairV} (h2 : 2 ≤ l.length) (hs : U h r = trieT bits (f + 1) l) :
    1 ≤ r ∧ ∃ ks bi, okB (maskC bits (lev bits - (f + 1)) l) ks l.length bi ∧ getN h r = bN (maskC bits (lev bits - (f + 1)) l) ks l.length bi ∧
      ks.map (U h) = (usedC bits (lev bits - (f + 1)) l).map (fun i => trieT bits f (part bits (lev bits - (f + 1)) l i)) ∧ (∀ k ∈ ks, 1 ≤ k ∧ k ≤ r - 1) ∧
      ∀ j : Nat, j < 32 → U h (chI (maskC bits (lev bits - (f + 1)) l) ks (j : Int)) = trieT bits f (part bits (lev bits - (f + 1)) l j) ∧ 0 ≤ chI (maskC bits (lev bits - (f + 1)) l) ks (j : Int) ∧ chI (maskC bits (lev bits - (f + 1)) l) ks (j : Int) ≤ r - 1 := by
  have hr : 1 ≤ r := by
    rcases Int.lt_or_le 0 r with q | q
    · omega
    · have : r = 0 := by omega
      rw [this, U_zero] at hs
      exact absurd hs.symm (trieT_ne bits (f + 1) (by rintro rfl; cases h2))
  have o := ho.node _ (getN_mem h r hr h1)
  obtain ⟨hmn, hkids⟩ := may_node hm hr h1
  rw [U_node hm hr h1, trieT_br bits f h2] at hs
  generalize lev bits - (f + 1) = level at hs ⊢
  obtain ⟨e1, e2⟩ := Shp.node.inj hs
  have k2 : (getN h r).1 = 2 := congrArg (·.1) e1
  obtain ⟨m, ks, sz, bi, hB, hN⟩ := branch_form o k2 hmn
  rw [hN] at e1 e2 hkids
  rw [hN]
  have em : (m : Int) = (maskC bits level l : Int) := congrArg (·.2.2.2.1) e1
  have em : m = maskC bits level l := by omega
  have es : sz = (l.length : Int) := congrArg (·.2.2.2.2.2.2.2.1) e1
  subst em; subst es
  rw [allK_b, List.map_append] at e2
  have ek : ks.map (U h) = (usedC bits level l).map (fun i => trieT bits f (part bits level l i)) := (List.append_inj' e2 rfl).1
  have hk : ∀ k ∈ ks, 1 ≤ k ∧ k ≤ r - 1 := fun k hk => by
    rcases hkids k (by rw [allK_b]; exact List.mem_append_left _ hk) with q | q
    · exact absurd q (hB.nz k hk)
    · exact q
  refine ⟨hr, ks, bi, hB, rfl, ek, hk, fun j hj => ?_⟩
  unfold chI
  rw [if_pos (by omega), Int.toNat_natCast]
  unfold chAt
  by_cases hb : (maskC bits level l).testBit j = true
  · rw [if_pos hb]
    have hall := kids_of (maskC bits level l) ks 32 (by have := hB.len; omega)
    rw [show ks.take (cnt 32 (maskC bits level l)) = ks from List.take_of_length_le (by have := hB.len; omega)] at hall
    have hju := (maskC_bit bits level l j).1 hb
    have hall2 : (usedC bits level l).map (fun j => ks.getD (cnt j (maskC bits level l)) 0) = ks := by
      rw [← allL_maskC]
      exact hall
    have hc : (usedC bits level l).map (fun j => U h (ks.getD (cnt j (maskC bits level l)) 0)) = (usedC bits level l).map (fun i => trieT bits f (part bits level l i)) := by
      rw [← ek]
      conv => rhs; rw [← hall2]
      rw [List.map_map]
      rfl
    have hc := List.map_inj_left.1 hc j hju
    refine ⟨hc, ?_⟩
    have hl := cnt_less (show j < 32 by omega) hb
    have hlen := hB.len
    rw [List.getD_eq_getElem?_getD, List.getElem?_eq_getElem (show cnt j (maskC bits level l) < ks.length by omega)]
    have := hk _ (List.getElem_mem (show cnt j (maskC bits level l) < ks.length by omega))
    exact ⟨Int.le_trans (show (0 : Int) ≤ 1 by decide) this.1, this.2⟩
  · rw [if_neg hb]
    have : part bits level l j = [] := by
      by_cases q : part bits level l j = []
      · exact q
      · exact absurd ((maskC_bit bits level l j).2 (usedC_mem.2 ⟨hj, q⟩)) hb
    rw [this, trieT_nil, U_zero]
    exact ⟨rfl, Int.le_refl _, by omega⟩
theorem trie_leaf {h : List NodeV} (hm : mayH h = true) {r : Int} (h0 : 0 ≤ r) (h1 : r ≤ h.length) {bits : Int} {f : Nat} {p : PairV} (hs : U h r = trieT bits f [p]) : 1 ≤ r ∧ stripV (getN h r) = lfN p ∧ allK (getN h r) = [0] := by
  have hr : 1 ≤ r := by
    rcases Int.lt_or_le 0 r with q | q
    · omega
    · have : r = 0 := by omega
      rw [this, U_zero] at hs
      exact absurd hs.symm (trieT_ne bits f (by simp))
  rw [U_node hm hr h1, trieT_one] at hs
  obtain ⟨e1, e2⟩ := Shp.node.inj hs
  refine ⟨hr, e1, ?_⟩
  have hl := congrArg List.length e2
  rw [List.length_map] at hl
  match hq : allK (getN h r), hl with
  | [k], _ =>
    rw [hq] at e2
    have : U h k = .nil := (List.cons.inj e2).1
    have hk := (may_node hm hr h1).2 k (by rw [hq]; exact List.mem_cons_self)
    rw [(U_nil hm (by omega) (by omega)).1 this]
theorem trie_buck {h : List NodeV} (hm : mayH h = true) {r : Int} (h0 : 0 ≤ r) (h1 : r ≤ h.length) {bits : Int} {l : List PairV} (h2 : 2 ≤ l.length) (hs : U h r = trieT bits 0 l) : 1 ≤ r ∧ stripV (getN h r) = buckN l ∧ allK (getN h r) = [0] := by
  have hr : 1 ≤ r := by
    rcases Int.lt_or_le 0 r with q | q
    · omega
    · have : r = 0 := by omega
      rw [this, U_zero] at hs
      exact absurd hs.symm (trieT_ne bits 0 (by rintro rfl; cases h2))
  rw [U_node hm hr h1, trieT_buck bits h2] at hs
  obtain ⟨e1, e2⟩ := Shp.node.inj hs
  refine ⟨hr, e1, ?_⟩
  have hl := congrArg List.length e2
  rw [List.length_map] at hl
  match hq : allK (getN h r), hl with
  | [k], _ =>
    rw [hq] at e2
    have : U h k = .nil := (List.cons.inj e2).1
    have hk := (may_node hm hr h1).2 k (by rw [hq]; exact List.mem_cons_self)
    rw [(U_nil hm (by omega) (by omega)).1 this]
end Go.Proofs.YtjekopgcpikkiaaGreatDoor.AK
set_option linter.unusedVariables false
set_option linter.unusedSimpArgs false
namespace Go.Proofs.YtjekopgcpikkiaaGreatDoor.AK
open Go.Abs
theorem pget_any (l : List PairV) (k : ByteArray) (hl : l.length ≤ 40000000) (hs : ∀ p ∈ l, okP p) (hS : isS l = true) : pair_Get l k = some (valF (l.find? (fun q => decide (q.1 = k)))) := by
  have hsr := isS_srt hS
  obtain ⟨pos, h1, h2, h3, h4⟩ := place_any l k (by omega) hs hsr
  rw [pair_Get.eq, pair_ordered.eq, is_any l (by omega) hs, bnd_some, hS, br_t, bnd_some, h1, bnd_some]
  have hlt : ∀ x : ByteArray, lt x x = false := fun x => by
    rcases tri x x with ⟨_, _, e⟩ | ⟨_, e, _⟩ | ⟨_, _, e⟩
    · exact absurd rfl e
    · exact e
    · exact absurd rfl e
  have hpre : (l.take pos).find? (fun q => decide (q.1 = k)) = none := by
    rw [List.find?_eq_none]
    intro q hq
    obtain ⟨a, ha, rfl⟩ := List.mem_iff_getElem.1 hq
    rw [List.length_take] at ha
    rw [List.getElem_take]
    have := h3 a (by omega) (by omega)
    simp only [decide_eq_true_eq]
    intro e
    rw [e, hlt] at this
    cases this
  by_cases hp : ∃ h : pos < l.length, l[pos].1 = k
  · obtain ⟨hpl, hpk⟩ := hp
    rw [decide_eq_true ⟨hpl, hpk⟩, show notB true = false from rfl, br_f, ixP l pos hpl]
    simp only [ltI_d, leI_d, ofN_d, lenL_d, andB_d, br_if]
    rw [if_pos (by omega)]
    have e : l = l.take pos ++ l[pos] :: l.drop (pos + 1) := by
      rw [← List.drop_eq_getElem_cons hpl, List.take_append_drop]
    have ef : l.find? (fun q => decide (q.1 = k)) = some l[pos] := by
      conv => lhs; rw [e]
      rw [List.find?_append, hpre, Option.none_or, List.find?_cons, decide_eq_true hpk]
    rw [ef]
    rfl
  · rw [decide_eq_false hp, show notB false = true from rfl, br_t]
    have ef : l.find? (fun q => decide (q.1 = k)) = none := by
      rw [List.find?_eq_none]
      intro q hq
      obtain ⟨a, ha, rfl⟩ := List.mem_iff_getElem.1 hq
      simp only [decide_eq_true_eq]
      intro e
      by_cases hap : a < pos
      · have := h3 a ha hap
        rw [e, hlt] at this
        cases this
      · by_cases hae : a = pos
        · subst hae; exact hp ⟨ha, e⟩
        · have hpl : pos < l.length := by omega
          have h5 := h4 pos hpl (Nat.le_refl _)
          have h6 := srt_get hsr ha (show pos < a by omega)
          rw [e, h5] at h6
          cases h6
    rw [ef]
    rfl
end Go.Proofs.YtjekopgcpikkiaaGreatDoor.AK
set_option linter.unusedVariables false
set_option linter.unusedSimpArgs false
namespace Go.Proofs.YtjekopgcpikkiaaGreatDoor.AK
open Go.Abs
theorem cloneN_any (l : List NodeV) (hl : l.length ≤ 50000000) : slices_Cloneapi_Node_api_Node l = some ((), (l, ())) := by
  rw [slices_Cloneapi_Node_api_Node.eq]
  simp only [ofN_d, lenL_d, eqI_d, br_if, fitL_d, appL_d, List.nil_append]
  by_cases h : l.length = 0
  · rw [if_pos (by omega), if_pos (by omega), List.eq_nil_of_length_eq_zero h, both_self]
  · rw [if_neg (by omega), if_pos (by omega)]
theorem refnew_any (k : Nat) (h : k ≤ 100000000) : ref_New (k : Int) = some (-(k : Int) - 1) := by
  rw [ref_New.eq, ltI_d, br_if, if_neg (by omega), subI_d (by omega) (by omega)]
  exact some_int (by omega)
theorem plAdd (x : Int) {n : NodeV} (o : okN n) (news : List NodeV) (hl : news.length ≤ 1000000) (old : List Int) : plan_Add ((), (x, ((), ()))) n news old = some ((((), (x, ((), ()))), (-(news.length : Int) - 1, ())), ((), (old, (news ++ [n], ())))) := by
  rw [plan_Add.eq, cloneN_any news (by omega), bnd_some, copy_any n o, bnd_some]
  show br (fitL tapiNode (news ++ [n])) (bnd (ref_New (subI .i64 (((news ++ [n]).length : Nat) : Int) 1)) fun r2 => some ((((), (x, ((), ()))), (r2, ())), ((), (old, (news ++ [n], ()))))) none = _
  have e : (news ++ [n]).length = news.length + 1 := by rw [List.length_append]; rfl
  rw [fitL_d, decide_eq_true (by omega), br_t, e, show subI .i64 ((news.length + 1 : Nat) : Int) 1 = (news.length : Int) by rw [subI_d (by omega) (by omega)]; omega, refnew_any _ (by omega), bnd_some]
end Go.Proofs.YtjekopgcpikkiaaGreatDoor.AK
set_option linter.unusedVariables false
set_option linter.unusedSimpArgs false
namespace Go.Proofs.YtjekopgcpikkiaaGreatDoor.AK
open Go.Abs
/-! ### Parts of bindings with one more -/
theorem putS_front (x : PairV) : ∀ m : List PairV, (∀ y ∈ m, lt x.1 y.1 = true) → putS m x = x :: m
  | [], _ => rfl
  | y :: ys, h => by
    have h1 := h y List.mem_cons_self
    unfold putS
    rw [lt_asymm h1, if_neg (by simp), if_neg (fun e => by rw [e, lt_irrefl] at h1; cases h1)]
theorem putS_ne (x : PairV) : ∀ m : List PairV, putS m x ≠ []
  | [] => by simp [putS]
  | y :: ys => by unfold putS; split <;> (try split) <;> simp
theorem part_put (bits : Int) (level : Nat) (x : PairV) (j : Nat) : ∀ l : List PairV, Srt l → part bits level (putS l x) j = if ck bits level x.1 = j then putS (part bits level l j) x else part bits level l j
  | [], _ => by
    show List.filter _ [x] = _
    by_cases h : ck bits level x.1 = j
    · rw [if_pos h, List.filter_cons, if_pos (by rw [decide_eq_true_eq]; exact h)]; rfl
    · rw [if_neg h, List.filter_cons, if_neg (by rw [decide_eq_true_eq]; exact h)]; rfl
  | q :: qs, hS => by
    obtain ⟨hq, hS'⟩ := List.pairwise_cons.1 hS
    have ih := part_put bits level x j qs hS'
    unfold part at ih ⊢
    rcases tri q.1 x.1 with ⟨h, _, hne⟩ | ⟨h, _⟩ | ⟨h, h', hne⟩
    · rw [putS_lt h, List.filter_cons, List.filter_cons, ih]
      by_cases hc : ck bits level x.1 = j
      · rw [if_pos hc, if_pos hc]
        by_cases hk : ck bits level q.1 = j
        · rw [if_pos (by rw [decide_eq_true_eq]; exact hk), if_pos (by rw [decide_eq_true_eq]; exact hk), putS_lt h]
        · rw [if_neg (by rw [decide_eq_true_eq]; exact hk), if_neg (by rw [decide_eq_true_eq]; exact hk)]
      · rw [if_neg hc, if_neg hc]
    · rw [putS_eq h, List.filter_cons, List.filter_cons, h]
      by_cases hc : ck bits level x.1 = j
      · rw [if_pos hc, if_pos (by rw [decide_eq_true_eq]; exact hc), if_pos (by rw [decide_eq_true_eq]; exact hc), putS_eq h]
      · rw [if_neg hc, if_neg (by rw [decide_eq_true_eq]; exact hc), if_neg (by rw [decide_eq_true_eq]; exact hc)]
    · rw [putS_gt h, List.filter_cons]
      by_cases hc : ck bits level x.1 = j
      · rw [if_pos hc, if_pos (by rw [decide_eq_true_eq]; exact hc), putS_front]
        intro y hy
        rcases List.mem_cons.1 (List.mem_filter.1 hy).1 with rfl | hy
        · exact h
        · exact lt_trans h (hq y hy)
      · rw [if_neg hc, if_neg (by rw [decide_eq_true_eq]; exact hc)]
theorem maskC_put (bits : Int) (level : Nat) (x : PairV) (l : List PairV) (hS : Srt l) : maskC bits level (putS l x) = withM (maskC bits level l) ((ck bits level x.1 : Nat) : Int) := by
  have hlt := ck_lt bits level x.1
  apply Nat.eq_of_testBit_eq
  intro j
  rw [Bool.eq_iff_iff, maskC_bit, usedC_mem, withM_bit, Bool.or_eq_true, maskC_bit, usedC_mem, decide_eq_true_eq, part_put bits level x j l hS]
  by_cases h : ck bits level x.1 = j
  · rw [if_pos h]
    exact ⟨fun _ => .inr ⟨by omega, by omega, by omega⟩, fun _ => ⟨by omega, putS_ne x _⟩⟩
  · rw [if_neg h]
    exact ⟨fun q => .inl q, fun q => q.elim id fun q => absurd (by omega) h⟩
theorem putS_length (x : PairV) : ∀ l : List PairV, Srt l → (putS l x).length = l.length + if (l.find? (fun q => decide (q.1 = x.1))).isSome = true then 0 else 1
  | [], _ => rfl
  | q :: qs, hS => by
    obtain ⟨hq, hS'⟩ := List.pairwise_cons.1 hS
    rcases tri q.1 x.1 with ⟨h, _, hne⟩ | ⟨h, _⟩ | ⟨h, h', hne⟩
    · rw [putS_lt h, List.length_cons, putS_length x qs hS', List.find?_cons, decide_eq_false hne, List.length_cons]
      dsimp only
      omega
    · rw [putS_eq h, List.find?_cons, decide_eq_true h]
      rfl
    · have : (q :: qs).find? (fun q => decide (q.1 = x.1)) = none := by
        rw [List.find?_eq_none]
        intro y hy
        rw [decide_eq_true_eq]
        intro e
        have hxy : lt x.1 y.1 = true := by
          rcases List.mem_cons.1 hy with rfl | hy
          · exact h
          · exact lt_trans h (hq y hy)
        rw [e, lt_irrefl] at hxy
        cases hxy
      rw [putS_gt h, this]
      rfl
theorem putS_okT {x : PairV} {l : List PairV} (hx : okT x) (hl : ∀ p ∈ l, okT p) : ∀ p ∈ putS l x, okT p := fun p hp => by
  rcases putS_mem hp with rfl | hp
  · exact hx
  · exact hl p hp
theorem withM_idem (m : Nat) (i : Int) : withM (withM m i) i = withM m i := by
  apply Nat.eq_of_testBit_eq
  intro j
  rw [withM_bit, withM_bit, Bool.or_assoc, Bool.or_self]
theorem withM_comm (m : Nat) (i k : Int) : withM (withM m i) k = withM (withM m k) i := by
  apply Nat.eq_of_testBit_eq
  intro j
  rw [withM_bit, withM_bit, withM_bit, withM_bit, Bool.or_assoc, Bool.or_assoc, Bool.or_comm (decide _)]
/-! ### Nodes of a plan -/
theorem Has.ne {h news : List NodeV} {r : Int} {s : Shp} (H : Has h news r s) (hs : s ≠ .nil) : r ≠ 0 := by
  intro e
  have := H.shp
  rw [e, fillQ_0, U_zero] at this
  exact hs this.symm
theorem leaf_has {h news : List NodeV} (P : PlanOK h news) {p : PairV} (hp : okT p) : PlanOK h (news ++ [lfN p]) ∧ ∀ (bits : Int) (f : Nat), Has h (news ++ [lfN p]) (-(news.length : Int) - 1) (trieT bits f [p]) := by
  have P' := P.add (lfN_ok hp.ok) (show ([] : List Int).length ≤ 40 by simp) (lfN_may hp) (fun r hr => by
    have hr : r ∈ [(0 : Int)] := hr
    rw [List.mem_singleton] at hr
    omega)
  refine ⟨P', fun bits f => ?_⟩
  have H := Has.new P P'
  rw [trieT_one]
  have e : ((allK (lfN p)).map fun r => U (PS h news) (fillQ h.length r)) = [Shp.nil] := by
    show [U (PS h news) (fillQ h.length 0)] = _
    rw [fillQ_0, U_zero]
  rw [e] at H
  exact H
theorem buck_has {h news : List NodeV} (P : PlanOK h news) {L : List PairV} (h2 : 2 ≤ L.length) (hl : L.length ≤ 1000000) (hS : Srt L) (hp : ∀ p ∈ L, okT p) : PlanOK h (news ++ [buckN L]) ∧ ∀ bits : Int, Has h (news ++ [buckN L]) (-(news.length : Int) - 1) (trieT bits 0 L) := by
  have P' := P.add (buckN_ok hl fun p h => (hp p h).ok) (show ([] : List Int).length ≤ 40 by simp) (buckN_may h2 hS hp) (fun r hr => by
    have hr : r ∈ [(0 : Int)] := hr
    rw [List.mem_singleton] at hr
    omega)
  refine ⟨P', fun bits => ?_⟩
  have H := Has.new P P'
  rw [trieT_buck bits h2]
  have e : ((allK (buckN L)).map fun r => U (PS h news) (fillQ h.length r)) = [Shp.nil] := by
    show [U (PS h news) (fillQ h.length 0)] = _
    rw [fillQ_0, U_zero]
  rw [e] at H
  exact H
theorem kids_all {m : Nat} {ks : List Int} {sz bi : Int} (hB : okB m ks sz bi) : (allL m).map (chAt m ks) = ks := by
  have hall := kids_of m ks 32 (by have := hB.len; omega)
  rw [show ks.take (cnt 32 m) = ks from List.take_of_length_le (by have := hB.len; omega)] at hall
  refine Eq.trans (List.map_congr_left fun j hj => ?_) hall
  unfold chAt
  rw [if_pos (List.mem_filter.1 hj).2]
theorem branch_has {h news : List NodeV} (P : PlanOK h news) {bits : Int} {f : Nat} {L : List PairV} (h2 : 2 ≤ L.length) {ks : List Int} {bi : Int} {m : Nat} (hm : m = maskC bits (lev bits - (f + 1)) L) (hB : okB m ks (L.length : Int) bi)
    (hH : ∀ j, j < 32 → Has h news (chAt m ks j) (trieT bits f (part bits (lev bits - (f + 1)) L j))) :
    PlanOK h (news ++ [bN m ks (L.length : Int) bi]) ∧ Has h (news ++ [bN m ks (L.length : Int) bi]) (-(news.length : Int) - 1) (trieT bits (f + 1) L) := by
  have hk := kids_all hB
  have hkm : ∀ r ∈ ks, ∃ j, j < 32 ∧ r = chAt m ks j := fun r hr => by
    rw [← hk] at hr
    obtain ⟨j, hj, rfl⟩ := List.mem_map.1 hr
    exact ⟨j, List.mem_range.1 (List.mem_filter.1 hj).1, rfl⟩
  have hc := cnt_le 32 m
  have P' := P.add hB.node (show ks.length ≤ 40 by have := hB.len; omega) hB.may (fun r hr => by
    rw [allK_b] at hr
    rcases List.mem_append.1 hr with hr | hr
    · obtain ⟨j, hj, rfl⟩ := hkm r hr
      exact ⟨(hH j hj).lo, (hH j hj).hi⟩
    · rw [List.mem_singleton] at hr
      omega)
  refine ⟨P', ?_⟩
  have H := Has.new P P'
  rw [trieT_br bits f h2]
  rw [allK_b, List.map_append] at H
  have e1 : ks.map (fun r => U (PS h news) (fillQ h.length r)) = (usedC bits (lev bits - (f + 1)) L).map (fun i => trieT bits f (part bits (lev bits - (f + 1)) L i)) := by
    conv => lhs; rw [← hk]
    rw [List.map_map, hm, allL_maskC, ← hm]
    refine List.map_congr_left fun j hj => ?_
    exact (hH j (usedC_mem.1 hj).1).shp
  have e2 : [(0 : Int)].map (fun r => U (PS h news) (fillQ h.length r)) = [Shp.nil] := by
    show [U (PS h news) (fillQ h.length 0)] = _
    rw [fillQ_0, U_zero]
  rw [e1, e2] at H
  rw [hm] at H
  rw [hm]
  exact H
/-! ### Branches made -/
theorem sized_any {m : Nat} {ks : List Int} {sz bi : Int} (hB : okB m ks sz bi) {s : Int} (hs : 0 ≤ s) : branch_Sized (bN m ks sz bi) s = some (bN m ks s bi) ∧ okB m ks s bi := by
  refine ⟨?_, ⟨hB.lt, hB.len, hB.nz, hs, hB.bi0⟩⟩
  rw [branch_Sized.eq, branch_self hB, bnd_some, leI_d, br_if, if_pos hs]
  rfl
theorem sized_zero : branch_Sized ((0 : Int), (ByteArray.empty, (ByteArray.empty, ((0 : Int), ([], ((0 : Int), ([], ((0 : Int), ((0 : Int), ()))))))))) (2 : Int) = some (bN 0 [] 2 0) := by
  rw [branch_Sized.eq, branch_branch.eq, node_Branch_o.eq, cloneR_any [] (by simp), bnd_some]
  rfl
theorem okB_two : okB 0 [] 2 0 := ⟨by omega, rfl, fun k hk => (by cases hk), by omega, by omega⟩
end Go.Proofs.YtjekopgcpikkiaaGreatDoor.AK
set_option linter.unusedVariables false
set_option linter.unusedSimpArgs false
namespace Go.Proofs.YtjekopgcpikkiaaGreatDoor.AK
open Go.Abs
abbrev StepV := Int × Int × ByteArray × ByteArray × Int × List Int × Int × List PairV × Int × Int × Int × Unit
def stepV (r : Int) (n : NodeV) (i : Int) : StepV := (r, (n.1, (n.2.1, (n.2.2.1, (n.2.2.2.1, (n.2.2.2.2.1, (n.2.2.2.2.2.1, (n.2.2.2.2.2.2.1, (n.2.2.2.2.2.2.2.1, (n.2.2.2.2.2.2.2.2.1, (i, ())))))))))))
abbrev GraftV := Int × ByteArray × ByteArray × ByteArray × Int × Int × Int × List StepV × Int × NodeV
noncomputable def gB (how : Int) (key val old : ByteArray) (bits want : Int) (way : List StepV) (e : Int) (n : NodeV) : GraftV := (how, (key, (val, (old, (bits, (((hashS key bits : Nat) : Int), (want, (way, (e, n)))))))))
def EndOK (h : List NodeV) (bits : Int) (fe : Nat) (e : Int) (n : NodeV) (le : List PairV) : Prop :=
  (e = 0 ∧ n = zeroN ∧ le = []) ∨ (∃ p, le = [p] ∧ 1 ≤ e ∧ e ≤ h.length ∧ okN n ∧ n.1 = 1 ∧ n.2.1 = p.1 ∧ bindsS n = [p] ∧ okT p ∧ (∀ f, U h e = trieT bits f [p]) ∧ getN h e = n) ∨
    (fe = 0 ∧ 2 ≤ le.length ∧ 1 ≤ e ∧ e ≤ h.length ∧ okN n ∧ n.1 = 3 ∧ bindsS n = le ∧ Srt le ∧ (∀ p ∈ le, okT p) ∧ le.length ≤ 100000 ∧ getN h e = n)
theorem EndOK.srt {h : List NodeV} {bits : Int} {fe : Nat} {e : Int} {n : NodeV} {le : List PairV} (E : EndOK h bits fe e n le) : Srt le := by
  rcases E with ⟨_, _, rfl⟩ | ⟨p, rfl, _⟩ | ⟨_, _, _, _, _, _, _, hs, _⟩
  · exact List.Pairwise.nil
  · exact List.pairwise_singleton _ _
  · exact hs
theorem chunk_m (k : ByteArray) (level : Nat) (bits : Int) (hv : level ≤ 50000000) : hash_Chunk ((hashS k bits : Nat) : Int) (level : Int) bits = some ((ck bits level k : Nat) : Int) := by
  rw [chunk_any _ (hash_lt64 _ _) _ _ (by omega), if_neg (by omega), Int.toNat_natCast]
  rfl
theorem part_one (bits : Int) (level : Nat) (p : PairV) (j : Nat) : part bits level [p] j = if ck bits level p.1 = j then [p] else [] := by
  unfold part
  by_cases h : ck bits level p.1 = j
  · rw [if_pos h, List.filter_cons, if_pos (by rw [decide_eq_true_eq]; exact h)]; rfl
  · rw [if_neg h, List.filter_cons, if_neg (by rw [decide_eq_true_eq]; exact h)]; rfl
theorem two_len {p x : PairV} (hne : p.1 ≠ x.1) : (putS [p] x).length = 2 := by
  have := putS_length x [p] (List.pairwise_singleton _ _)
  rw [List.find?_cons, decide_eq_false hne] at this
  exact this
theorem maskC_two (bits : Int) (level : Nat) (p x : PairV) : maskC bits level (putS [p] x) = withM (withM 0 ((ck bits level p.1 : Nat) : Int)) ((ck bits level x.1 : Nat) : Int) := by
  have h0 : maskC bits level [] = 0 := by
    apply Nat.eq_of_testBit_eq
    intro j
    rw [Nat.zero_testBit]
    cases hb : (maskC bits level []).testBit j with
    | false => rfl
    | true => exact absurd rfl (usedC_mem.1 ((maskC_bit bits level [] j).1 hb)).2
  rw [maskC_put _ _ _ _ (List.pairwise_singleton _ _), show [p] = putS [] p from rfl, maskC_put _ _ _ _ List.Pairwise.nil, h0]
theorem chAt_0 (j : Nat) : chAt 0 [] j = 0 := by unfold chAt; rw [Nat.zero_testBit, if_neg (by simp)]
section
variable {h : List NodeV} (hm : mayH h = true) (how : Int) (key val old : ByteArray) (bits want : Int) (way : List StepV) (e : Int) (n : NodeV) (p : PairV)
  (hx : okT (key, (val, ()))) (hp : okT p) (hne : p.1 ≠ key) (on : okN n) (hk : n.2.1 = p.1) (hb : bindsS n = [p]) (e1 : 1 ≤ e) (e2 : e ≤ h.length) (hu : ∀ f, U h e = trieT bits f [p])
include hm hx hp hne on hk hb e1 e2 hu
theorem two_any (z : Int) (olds : List Int) : ∀ (f : Nat) (news : List NodeV), f ≤ lev bits → PlanOK h news → news.length + 3 * f ≤ 500 →
    ∃ (root : Int) (there : Bool) (news' : List NodeV), graft_Graft_two ((), (z, ((), ()))) ((lev bits - f : Nat) : Int) (gB how key val old bits want way e n) news olds =
      some ((((), (z, ((), ()))), (root, (there, ()))), (gB how key val old bits want way e n, (news', (olds, ())))) ∧ PlanOK h news' ∧ Has h news' root (trieT bits f (putS [p] (key, (val, ())))) ∧ news'.length ≤ news.length + 3 * f + 3 := by
  have hlev := lev_le bits
  have hS : Srt (putS [p] (key, (val, ()))) := putS_srt _ (List.pairwise_singleton _ _)
  have hT : ∀ q ∈ putS [p] (key, (val, ())), okT q := putS_okT hx fun q hq => by rw [List.mem_singleton] at hq; exact hq ▸ hp
  have h2 : (putS [p] (key, (val, ()))).length = 2 := two_len hne
  intro f
  induction f with
  | zero =>
    intro news hf P hn
    have hmk : makeS ([p] ++ [(key, (val, ()))]) = putS [p] (key, (val, ())) := rfl
    have hbk : node_Bucket ([p] ++ [(key, (val, ()))]) = some (buckN (putS [p] (key, (val, ())))) := by
      rw [node_Bucket.eq, make_any _ (by simp) (fun q hq => by
        simp only [List.cons_append, List.nil_append, List.mem_cons, List.not_mem_nil, or_false] at hq
        rcases hq with rfl | rfl
        · exact hp.ok
        · exact hx.ok), bnd_some, hmk]
      rfl
    obtain ⟨P', H⟩ := buck_has P (by omega) (by omega) hS hT
    refine ⟨-(news.length : Int) - 1, false, news ++ [buckN (putS [p] (key, (val, ())))], ?_, P', H bits, by rw [List.length_append]; simp⟩
    rw [graft_Graft_two.eq]
    simp only [both_self]
    show bnd (hash_Levels bits) _ = _
    rw [levels_any, bnd_some, leI_d, br_if, if_pos (by omega)]
    show bnd (node_Binds n) _ = _
    rw [binds_any n on, bnd_some, hb]
    dsimp only
    simp only [fitL_d, appL_d, br_if]
    rw [if_pos (by simp)]
    show bnd (node_Bucket ([p] ++ [(key, (val, ()))])) _ = _
    rw [hbk, bnd_some, plAdd _ (buckN_ok (by omega) fun q hq => (hT q hq).ok) news (by omega) olds, bnd_some]
  | succ f ih =>
    intro news hf P hn
    have hlvl : lev bits - f = (lev bits - (f + 1)) + 1 := by omega
    rw [graft_Graft_two.eq]
    simp only [both_self]
    show ∃ root there news', bnd (hash_Levels bits) _ = _ ∧ _
    rw [levels_any, bnd_some, leI_d, br_if, if_neg (by omega)]
    generalize hlv : lev bits - (f + 1) = level at hlvl ⊢
    have hv : level ≤ 50000000 := by omega
    show ∃ root there news', bnd (hash_Chunk ((hashS key bits : Nat) : Int) (level : Int) bits) (fun r28 => bnd (hash_Of n.2.1 bits) _) = _ ∧ _
    rw [chunk_m key level bits hv, bnd_some, hk, hashof_any p.1 bits (by have := hp.1; omega), bnd_some]
    show ∃ root there news', bnd (hash_Chunk ((hashS p.1 bits : Nat) : Int) (level : Int) bits) _ = _ ∧ _
    rw [chunk_m p.1 level bits hv, bnd_some, sized_zero, bnd_some, eqI_d, br_if]
    have ci := ck_lt bits level key
    have cj := ck_lt bits level p.1
    have hmask := maskC_two bits level p (key, (val, ()))
    have hpart : ∀ j, part bits level (putS [p] (key, (val, ()))) j = if ck bits level key = j then putS (if ck bits level p.1 = j then [p] else []) (key, (val, ())) else if ck bits level p.1 = j then [p] else [] := fun j => by
      rw [part_put bits level _ j _ (List.pairwise_singleton _ _), part_one]
    by_cases hij : ck bits level key = ck bits level p.1
    · rw [if_pos (by rw [hij])]
      obtain ⟨root, there, news', g1, g2, g3, g4⟩ := ih news (by omega) P (by omega)
      rw [hlvl] at g1
      rw [add1 level (by omega), g1, bnd_some]
      have hr : root ≠ 0 := g3.ne (trieT_ne bits f (putS_ne _ _))
      obtain ⟨m', ks', hB, hw, em, hch⟩ := with_spec okB_two (branch_self okB_two) ((ck bits level key : Nat) : Int) root
      rw [if_neg hr] at em
      dsimp only
      rw [hw, bnd_some]
      have hB' : okB m' ks' (((putS [p] (key, (val, ()))).length : Nat) : Int) 0 := by rw [h2]; exact hB
      have hmm : m' = maskC bits level (putS [p] (key, (val, ()))) := by rw [hmask, em, ← hij, withM_idem]
      obtain ⟨P', H'⟩ := branch_has (bits := bits) (f := f) g2 (L := putS [p] (key, (val, ()))) (by omega) (by rw [hlv]; exact hmm) hB' (fun j hj => by
        rw [hlv, hch j hj, hpart j, hij]
        by_cases hjj : ck bits level p.1 = j
        · rw [if_pos ⟨by omega, hr⟩, if_pos hjj, if_pos hjj]
          exact g3
        · rw [if_neg (fun q => by have := q.1; omega), if_neg hjj, if_neg hjj, chAt_0, trieT_nil]
          exact Has.zero)
      rw [h2] at P' H'
      refine ⟨-(news'.length : Int) - 1, there, news' ++ [bN m' ks' 2 0], ?_, P', H', by rw [List.length_append]; simp only [List.length_cons, List.length_nil]; omega⟩
      rw [plAdd _ hB.node news' (by omega) olds, bnd_some]
    · rw [if_neg (by omega)]
      show ∃ root there news', bnd (node_Leaf key val) _ = _ ∧ _
      obtain ⟨P1, H1⟩ := leaf_has P hx
      have hl : node_Leaf key val = some (lfN (key, (val, ()))) := by rw [node_Leaf.eq]; rfl
      rw [hl, bnd_some, plAdd _ (lfN_ok hx.ok) news (by omega) olds, bnd_some]
      have hr : (-(news.length : Int) - 1) ≠ 0 := by omega
      obtain ⟨m1, k1, B1, w1, em1, c1⟩ := with_spec okB_two (branch_self okB_two) ((ck bits level key : Nat) : Int) (-(news.length : Int) - 1)
      rw [if_neg hr] at em1
      dsimp only
      rw [w1, bnd_some]
      obtain ⟨m2, k2, B2, w2, em2, c2⟩ := with_spec B1 (branch_self B1) ((ck bits level p.1 : Nat) : Int) e
      rw [if_neg (show ¬ e = 0 by omega)] at em2
      show ∃ root there news', bnd (branch_With (bN m1 k1 2 0) ((ck bits level p.1 : Nat) : Int) e) _ = _ ∧ _
      rw [w2, bnd_some]
      have hB' : okB m2 k2 (((putS [p] (key, (val, ()))).length : Nat) : Int) 0 := by rw [h2]; exact B2
      have hmm : m2 = maskC bits level (putS [p] (key, (val, ()))) := by rw [hmask, em2, em1, withM_comm]
      obtain ⟨P', H'⟩ := branch_has (bits := bits) (f := f) P1 (L := putS [p] (key, (val, ()))) (by omega) (by rw [hlv]; exact hmm) hB' (fun j hj => by
        rw [hlv, c2 j hj, c1 j hj, hpart j]
        by_cases hjp : ck bits level p.1 = j
        · rw [if_pos ⟨by omega, by omega⟩, if_neg (by omega), if_pos hjp, ← hu f]
          exact Has.heap hm (by omega) e2
        · rw [if_neg (fun q => by have := q.1; omega)]
          by_cases hjk : ck bits level key = j
          · rw [if_pos ⟨by omega, hr⟩, if_pos hjk, if_neg hjp]
            exact H1 bits f
          · rw [if_neg (fun q => by have := q.1; omega), if_neg hjk, if_neg hjp, chAt_0, trieT_nil]
            exact Has.zero)
      rw [h2] at P' H'
      refine ⟨-((news ++ [lfN (key, (val, ()))]).length : Int) - 1, true, (news ++ [lfN (key, (val, ()))]) ++ [bN m2 k2 2 0], ?_, P', H', by simp only [List.length_append, List.length_cons, List.length_nil]; omega⟩
      rw [plAdd _ B2.node _ (by simp only [List.length_append, List.length_cons, List.length_nil]; omega) olds, bnd_some]
end
end Go.Proofs.YtjekopgcpikkiaaGreatDoor.AK
set_option linter.unusedVariables false
set_option linter.unusedSimpArgs false
namespace Go.Proofs.YtjekopgcpikkiaaGreatDoor.AK
open Go.Abs
/-! ### Backwards -/
theorem back_loop (l : List StepV) (hl : l.length ≤ 50000000) : ∀ (n : Nat), n ≤ l.length → ∃ ys : List (Int × StepV × Unit), slices_Backwardgraft_step_graft_step_1.l0 l ((n : Int) - 1) = some ys ∧ ys.map (fun y => y.2.1) = (l.take n).reverse
  | 0, _ => by
    refine ⟨[], ?_, rfl⟩
    rw [slices_Backwardgraft_step_graft_step_1.l0.eq]
    rfl
  | n + 1, h => by
    obtain ⟨ys, e, m⟩ := back_loop l hl n (by omega)
    have hi : n < l.length := by omega
    have ex : ixL tgraftstep l (((n + 1 : Nat) : Int) - 1) = l[n] := by
      rw [show ((n + 1 : Nat) : Int) - 1 = (n : Int) by omega]
      exact ixL_d tgraftstep l n hi
    have es : subI .i64 (((n + 1 : Nat) : Int) - 1) 1 = (n : Int) - 1 := by rw [subI_d (by omega) (by omega)]; omega
    refine ⟨(((n + 1 : Nat) : Int) - 1, (l[n], ())) :: ys, ?_, ?_⟩
    · rw [slices_Backwardgraft_step_graft_step_1.l0.eq, yieldW_eq, ex, es, e, show notB true = false from rfl, show notB false = true from rfl, br_f, br_t]
      simp only [leI_d, ltI_d, andB_d, ofN_d, lenL_d, br_if]
      rw [if_pos (by omega), if_pos (by omega)]
      exact yieldL_iff.2 ⟨rfl, ys, rfl, rfl⟩
    · rw [List.map_cons, m, List.take_succ_eq_append_getElem hi, List.reverse_append]
      rfl
theorem back_any (l : List StepV) (hl : l.length ≤ 50000000) : ∃ ys : List (Int × StepV × Unit), slices_Backwardgraft_step_graft_step_1 l = some ys ∧ ys.map (fun y => y.2.1) = l.reverse := by
  obtain ⟨ys, e, m⟩ := back_loop l hl l.length (Nat.le_refl _)
  rw [List.take_length] at m
  refine ⟨ys, ?_, m⟩
  rw [slices_Backwardgraft_step_graft_step_1.eq, show subI .i64 (ofN (lenL tgraftstep l)) 1 = (l.length : Int) - 1 from subI_d (by show _ ≤ ((l.length : Nat) : Int) - 1; omega) (by show ((l.length : Nat) : Int) - 1 ≤ _; omega)]
  exact e
/-! ### Ways -/
inductive WayG (h : List NodeV) (bits : Int) (key : ByteArray) : Nat → List PairV → Int → List StepV → Int → NodeV → Nat → List PairV → Prop
  | stop {f : Nat} {l : List PairV} {r : Int} {n : NodeV} (E : EndOK h bits f r n l) : WayG h bits key f l r [] r n f l
  | step {f : Nat} {l : List PairV} {r : Int} {ks : List Int} {bi : Int} {way : List StepV} {e : Int} {n : NodeV} {fe : Nat} {le : List PairV} (hf : f + 1 ≤ lev bits) (h2 : 2 ≤ l.length) (hl : l.length ≤ 100000) (hS : Srt l) (r1 : 1 ≤ r) (r2 : r ≤ h.length)
      (hB : okB (maskC bits (lev bits - (f + 1)) l) ks l.length bi) (hn : getN h r = bN (maskC bits (lev bits - (f + 1)) l) ks l.length bi)
      (hk : ∀ j : Nat, j < 32 → U h (chI (maskC bits (lev bits - (f + 1)) l) ks (j : Int)) = trieT bits f (part bits (lev bits - (f + 1)) l j) ∧ 0 ≤ chI (maskC bits (lev bits - (f + 1)) l) ks (j : Int) ∧ chI (maskC bits (lev bits - (f + 1)) l) ks (j : Int) ≤ r - 1)
      (w : WayG h bits key f (part bits (lev bits - (f + 1)) l (ck bits (lev bits - (f + 1)) key)) (chI (maskC bits (lev bits - (f + 1)) l) ks ((ck bits (lev bits - (f + 1)) key : Nat) : Int)) way e n fe le) :
      WayG h bits key (f + 1) l r (stepV r (bN (maskC bits (lev bits - (f + 1)) l) ks l.length bi) ((ck bits (lev bits - (f + 1)) key : Nat) : Int) :: way) e n fe le
theorem way_ex {h : List NodeV} (ho : okH h) (hm : mayH h = true) (bits : Int) (key : ByteArray) : ∀ (f : Nat) (l : List PairV) (r : Int), f ≤ lev bits → 0 ≤ r → r ≤ h.length → U h r = trieT bits f l → Srt l → (∀ p ∈ l, okT p) → l.length ≤ 100000 →
    ∃ way e n fe le, WayG h bits key f l r way e n fe le := by
  have leaf : ∀ (f : Nat) (p : PairV) (r : Int), 0 ≤ r → r ≤ h.length → U h r = trieT bits f [p] → okT p → EndOK h bits f r (getN h r) [p] := fun f p r h0 h1 hs hp => by
    obtain ⟨a, b, _⟩ := trie_leaf hm h0 h1 hs
    refine .inr (.inl ⟨p, rfl, a, h1, ho.node _ (getN_mem h r a h1), congrArg (·.1) b, congrArg (·.2.1) b, ?_, hp, fun g => by rw [hs, trieT_one, trieT_one], rfl⟩)
    rw [← bindsS_strip, b]
    rfl
  have nil : ∀ (f : Nat) (r : Int), 0 ≤ r → r ≤ h.length → U h r = trieT bits f [] → EndOK h bits f r zeroN [] := fun f r h0 h1 hs => by
    rw [trieT_nil] at hs
    exact .inl ⟨(U_nil hm h0 h1).1 hs, rfl, rfl⟩
  intro f
  induction f with
  | zero =>
    intro l r hf h0 h1 hs hS hT hl
    rcases len_cases l with rfl | ⟨p, rfl⟩ | h2
    · exact ⟨_, _, _, _, _, .stop (nil 0 r h0 h1 hs)⟩
    · exact ⟨_, _, _, _, _, .stop (leaf 0 p r h0 h1 hs (hT p List.mem_cons_self))⟩
    · obtain ⟨a, b, _⟩ := trie_buck hm h0 h1 h2 hs
      refine ⟨[], r, getN h r, 0, l, .stop (.inr (.inr ⟨rfl, h2, a, h1, ho.node _ (getN_mem h r a h1), congrArg (·.1) b, ?_, hS, hT, hl, rfl⟩))⟩
      rw [← bindsS_strip, b]
      rfl
  | succ f ih =>
    intro l r hf h0 h1 hs hS hT hl
    rcases len_cases l with rfl | ⟨p, rfl⟩ | h2
    · exact ⟨_, _, _, _, _, .stop (nil _ r h0 h1 hs)⟩
    · exact ⟨_, _, _, _, _, .stop (leaf _ p r h0 h1 hs (hT p List.mem_cons_self))⟩
    · obtain ⟨a, ks, bi, hB, hn, _, _, hk⟩ := trie_branch ho hm h0 h1 h2 hs
      obtain ⟨k1, k2, k3⟩ := hk _ (ck_lt bits (lev bits - (f + 1)) key)
      have hpl := part_len bits (lev bits - (f + 1)) l (ck bits (lev bits - (f + 1)) key)
      obtain ⟨way, e, n, fe, le, w⟩ := ih _ _ (by omega) k2 (by omega) k1 (part_srt hS _) (fun p hp => hT p (part_sub hp)) (by omega)
      exact ⟨_, e, n, fe, le, .step hf h2 hl hS a h1 hB hn hk w⟩
section
variable {h : List NodeV} {bits : Int} {key : ByteArray}
theorem WayG.find {f : Nat} {l : List PairV} {r : Int} {way : List StepV} {e : Int} {n : NodeV} {fe : Nat} {le : List PairV} (w : WayG h bits key f l r way e n fe le) : le.find? (fun q => decide (q.1 = key)) = l.find? (fun q => decide (q.1 = key)) := by
  induction w with
  | stop E => rfl
  | step hf h2 hl hS r1 r2 hB hn hk w ih => rw [ih, part_find]
theorem WayG.end_ok {f : Nat} {l : List PairV} {r : Int} {way : List StepV} {e : Int} {n : NodeV} {fe : Nat} {le : List PairV} (w : WayG h bits key f l r way e n fe le) : EndOK h bits fe e n le ∧ way.length + fe = f := by
  induction w with
  | stop E => exact ⟨E, by simp⟩
  | step hf h2 hl hS r1 r2 hB hn hk w ih => exact ⟨ih.1, by rw [List.length_cons]; have := ih.2; omega⟩
/-! ### The way down -/
abbrev GraftO := Int × ByteArray × ByteArray × ByteArray × Int × Int × Int × Unit × Int × NodeV
noncomputable def gO (how : Int) (key val old : ByteArray) (bits want : Int) (e : Int) (n : NodeV) : GraftO := (how, (key, (val, (old, (bits, (((hashS key bits : Nat) : Int), (want, ((), (e, n)))))))))
theorem want_any (g : GraftO) (w : List StepV) : graft_Graft_Want g w = some (g.2.2.2.2.2.2.1, (g, (w, ()))) := graft_Graft_Want.eq g w
theorem feed_end (how : Int) (val old : ByteArray) {r : Int} (hr : r ≠ 0) (n0 : NodeV) (e0 : Int) {n : NodeV} (hn : n.1 ≠ 2) (w : List StepV) : graft_Graft_Feed n (gO how key val old bits r e0 n0) w = some ((), (gO how key val old bits 0 r n, (w, ()))) := by
  rw [graft_Graft_Feed.eq, want_any, bnd_some]
  show br (eqI r 0) _ (br (notB (eqI n.1 2)) _ _) = _
  rw [eqI_d, br_if, if_neg hr, eqI_d, decide_eq_false hn, show notB false = true from rfl, br_t, graft_Graft_Feed.j0.eq, br_t, both_self]
  rfl
theorem feed_step (how : Int) (val old : ByteArray) {r : Int} (hr : r ≠ 0) (n0 : NodeV) (e0 : Int) {m : Nat} {ks : List Int} {sz bi : Int} (hB : okB m ks sz bi) (w : List StepV) (hw : w.length < lev bits) :
    graft_Graft_Feed (bN m ks sz bi) (gO how key val old bits r e0 n0) w = some ((), (gO how key val old bits (chI m ks ((ck bits w.length key : Nat) : Int)) e0 n0, (w ++ [stepV r (bN m ks sz bi) ((ck bits w.length key : Nat) : Int)], ()))) := by
  have hlev := lev_le bits
  rw [graft_Graft_Feed.eq, want_any, bnd_some]
  show br (eqI r 0) _ (br (notB (eqI (2 : Int) 2)) _ (bnd (hash_Levels bits) _)) = _
  rw [eqI_d, br_if, if_neg hr, show notB (eqI (2 : Int) 2) = false from rfl, br_f, levels_any, bnd_some, leI_d, show ofN (lenL tgraftstep w) = ((w.length : Nat) : Int) from rfl, decide_eq_false (by omega), graft_Graft_Feed.j0.eq, br_f]
  show bnd (hash_Chunk ((hashS key bits : Nat) : Int) ((w.length : Nat) : Int) bits) _ = _
  rw [chunk_m key w.length bits (by omega), bnd_some, fitL_d, br_if, if_pos (by rw [appL_d, List.length_append]; simp only [List.length_cons, List.length_nil]; omega)]
  show bnd (branch_Child (bN m ks sz bi) ((ck bits w.length key : Nat) : Int)) _ = _
  rw [child_any hB (branch_self hB), bnd_some]
  rfl
/-! ### What is made -/
theorem boundo_any {fe : Nat} {e : Int} {n : NodeV} {le : List PairV} (E : EndOK h bits fe e n le) (how : Int) (val old : ByteArray) (way : List StepV) :
    graft_Graft_bound_o (gB how key val old bits 0 way e n) = some (valF (le.find? (fun q => decide (q.1 = key))), (gB how key val old bits 0 way e n, ())) := by
  rw [graft_Graft_bound_o.eq]
  show br (notB (eqI (0 : Int) 0)) _ (br (notB (eqI n.1 1)) (br (notB (eqI n.1 3)) _ (bnd (node_Binds n) fun r0 => bnd (pair_Get r0.2.1 key) _)) (bnd (node_Binds n) fun r2 => bnd (pair_Get r2.2.1 key) _)) = _
  rw [show notB (eqI (0 : Int) 0) = false from rfl, br_f]
  rcases E with ⟨rfl, rfl, rfl⟩ | ⟨p, rfl, _, _, on, k, _, hb, hp, _⟩ | ⟨_, _, _, _, on, k, hb, hS, hT, hl, _⟩
  · rfl
  · rw [k, show notB (eqI (1 : Int) 1) = false from rfl, br_f, binds_any n on, bnd_some, hb]
    dsimp only
    rw [pget_any [p] key (by simp) (fun q hq => by rw [List.mem_singleton] at hq; exact hq ▸ hp.ok) rfl, bnd_some]
  · rw [k, show notB (eqI (3 : Int) 1) = true from rfl, br_t, show notB (eqI (3 : Int) 3) = false from rfl, br_f, binds_any n on, bnd_some, hb]
    dsimp only
    rw [pget_any le key (by omega) (fun q hq => (hT q hq).ok) (srt_isS hS), bnd_some]
theorem bottom_any (hm : mayH h = true) {fe : Nat} {e : Int} {n : NodeV} {le : List PairV} (E : EndOK h bits fe e n le) (how : Int) {val : ByteArray} (old : ByteArray) (way : List StepV) (hway : way.length = lev bits - fe) (hfe : fe ≤ lev bits) (hx : okT (key, (val, ()))) :
    ∃ (root : Int) (news : List NodeV) (olds : List Int), graft_Graft_bottom ((), ((0 : Int), ((), ()))) (gB how key val old bits 0 way e n) = some ((((), ((0 : Int), ((), ()))), (root, ())), (gB how key val old bits 0 way e n, (news, (olds, ())))) ∧
      PlanOK h news ∧ Has h news root (trieT bits fe (putS le (key, (val, ())))) ∧ news.length ≤ 100 ∧ olds.length ≤ 1 ∧ ∀ r ∈ olds, 1 ≤ r ∧ r ≤ h.length := by
  have hlev := lev_le bits
  have P0 := PlanOK.nil hm
  have hleaf : node_Leaf key val = some (lfN (key, (val, ()))) := by rw [node_Leaf.eq]; rfl
  rw [graft_Graft_bottom.eq, boundo_any E, bnd_some]
  have E0 := E
  rcases E with ⟨rfl, rfl, rfl⟩ | ⟨p, rfl, a, b, on, k, hk, hb, hp, hu, _⟩ | ⟨rfl, h2, a, b, on, k, hb, hS, hT, hl, _⟩
  · obtain ⟨P1, H1⟩ := leaf_has P0 hx
    refine ⟨-(([] : List NodeV).length : Int) - 1, [] ++ [lfN (key, (val, ()))], [], ?_, P1, H1 bits fe, by simp, by simp, fun r hr => (by cases hr)⟩
    show br (eqI (0 : Int) 0) (graft_Graft_bottom.j0 false true _ _ _ [] [] [] []) _ = _
    rw [show eqI (0 : Int) 0 = true from rfl, br_t, graft_Graft_bottom.j0.eq, br_t]
    show bnd (node_Leaf key val) _ = _
    rw [hleaf, bnd_some, plAdd _ (lfN_ok hx.ok) [] (by simp) [], bnd_some]
    rfl
  · have ne : eqI e 0 = false := by rw [eqI_d]; exact decide_eq_false (by omega)
    by_cases hpk : p.1 = key
    · obtain ⟨P1, H1⟩ := leaf_has P0 hx
      have hput : putS [p] (key, (val, ())) = [(key, (val, ()))] := putS_eq hpk
      refine ⟨-(([] : List NodeV).length : Int) - 1, [] ++ [lfN (key, (val, ()))], [e], ?_, P1, by rw [hput]; exact H1 bits fe, by simp, by simp, fun r hr => by rw [List.mem_singleton] at hr; omega⟩
      have hf : ([p].find? (fun q => decide (q.1 = key))) = some p := by rw [List.find?_cons, decide_eq_true hpk]
      rw [hf]
      show br (eqI e 0) _ (br (eqI n.1 1) (graft_Graft_bottom.j0 false true _ _ _ [] [] [] []) _) = _
      rw [ne, br_f, k, show eqI (1 : Int) 1 = true from rfl, br_t, graft_Graft_bottom.j0.eq, br_t]
      show bnd (node_Leaf key val) _ = _
      rw [hleaf, bnd_some, plAdd _ (lfN_ok hx.ok) [] (by simp) [], bnd_some]
      show br (notB (eqI e 0)) _ _ = _
      rw [ne, show notB false = true from rfl, br_t]
      rfl
    · obtain ⟨root, there, news, g1, g2, g3, g4⟩ := two_any hm how key val old bits 0 way e n p hx hp hpk on hk hb a b hu 0 [] fe [] hfe P0 (by simp; omega)
      have hf : ([p].find? (fun q => decide (q.1 = key))) = none := by rw [List.find?_cons, decide_eq_false hpk]; rfl
      rw [hf]
      refine ⟨root, news, if there = true then [] else [e], ?_, g2, g3, by simp at g4; omega, by cases there <;> simp, fun r hr => ?_⟩
      · show br (eqI e 0) _ (br (eqI n.1 1) (graft_Graft_bottom.j0 false false _ _ _ [] [] [] []) _) = _
        rw [ne, br_f, k, show eqI (1 : Int) 1 = true from rfl, br_t, graft_Graft_bottom.j0.eq, br_f]
        show br (eqI n.1 1) (bnd (graft_Graft_two ((), ((0 : Int), ((), ()))) ((way.length : Nat) : Int) (gB how key val old bits 0 way e n) [] []) _) _ = _
        rw [k, show eqI (1 : Int) 1 = true from rfl, br_t, hway, g1, bnd_some]
        show br (notB (eqI e 0)) (br (notB there) _ _) _ = _
        rw [ne, show notB false = true from rfl, br_t]
        cases there <;> rfl
      · cases there with
        | true => cases hr
        | false =>
          rw [if_neg (by simp), List.mem_singleton] at hr
          omega
  · have ne : eqI e 0 = false := by rw [eqI_d]; exact decide_eq_false (by omega)
    have hln := putS_len (key, (val, ())) le
    have h3 : 2 ≤ (putS le (key, (val, ()))).length := by
      have := putS_length (key, (val, ())) le hS
      omega
    have hT' := putS_okT hx hT
    obtain ⟨P1, H1⟩ := buck_has P0 h3 (by omega) (putS_srt _ hS) hT'
    refine ⟨-(([] : List NodeV).length : Int) - 1, [] ++ [buckN (putS le (key, (val, ())))], [e], ?_, P1, H1 bits, by simp, by simp, fun r hr => by rw [List.mem_singleton] at hr; omega⟩
    show br (eqI e 0) _ (br (eqI n.1 1) _ (graft_Graft_bottom.j0 false false _ _ _ [] [] [] [])) = _
    rw [ne, br_f, k, show eqI (3 : Int) 1 = false from rfl, br_f, graft_Graft_bottom.j0.eq, br_f]
    show br (eqI n.1 1) _ (bnd (node_Binds n) fun r3 => bnd (pair_Put r3.2.1 key val) _) = _
    rw [k, show eqI (3 : Int) 1 = false from rfl, br_f, binds_any n on, bnd_some, hb]
    dsimp only
    rw [pair_Put.eq, pair_ordered.eq, is_any le (by omega) (fun q hq => (hT q hq).ok), bnd_some, srt_isS hS, br_t, bnd_some, put_any le _ (by omega) (fun q hq => (hT q hq).ok) hS, bnd_some, bnd_some, node_Bucket.eq, make_any _ (by omega) (fun q hq => (hT' q hq).ok), bnd_some, makeS_srt (putS_srt _ hS), bnd_some]
    show bnd (plan_Add ((), ((0 : Int), ((), ()))) (buckN (putS le (key, (val, ())))) [] []) _ = _
    rw [plAdd _ (buckN_ok (by omega) fun q hq => (hT' q hq).ok) [] (by simp) [], bnd_some]
    show br (notB (eqI e 0)) (br (notB false) _ _) _ = _
    rw [ne, show notB false = true from rfl, br_t, br_t]
    rfl
end
end Go.Proofs.YtjekopgcpikkiaaGreatDoor.AK
set_option linter.unusedVariables false
set_option linter.unusedSimpArgs false
namespace Go.Proofs.YtjekopgcpikkiaaGreatDoor.AK
open Go.Abs
def chgB (how : Int) (old : ByteArray) (v : ByteArray × Bool × Unit) : Bool := if how = 1 then true else if how = 2 then !v.2.1 else if how = 3 then v.2.1 && eqS v.1 old else false
theorem refchg_any (how : Int) (old : ByteArray) (v : ByteArray × Bool × Unit) : ref23_Changes how old v.1 v.2.1 = some (chgB how old v) := by
  obtain ⟨was, has, _⟩ := v
  rw [ref23_Changes.eq]
  unfold chgB
  simp only [eqI_d, br_if]
  by_cases h1 : how = 1
  · rw [if_pos h1, if_pos h1]
  · rw [if_neg h1, if_neg h1]
    by_cases h2 : how = 2
    · rw [if_pos h2, if_pos h2]; rfl
    · rw [if_neg h2, if_neg h2]
      by_cases h3 : how = 3
      · rw [if_pos h3, if_pos h3]
        cases has <;> rfl
      · rw [if_neg h3, if_neg h3]
section
variable {h : List NodeV} {bits : Int} {key : ByteArray}
theorem changeso_any {fe : Nat} {e : Int} {n : NodeV} {le : List PairV} (E : EndOK h bits fe e n le) (how : Int) (val old : ByteArray) (way : List StepV) :
    graft_Graft_changes_o (gB how key val old bits 0 way e n) = some (chgB how old (valF (le.find? (fun q => decide (q.1 = key)))), (gB how key val old bits 0 way e n, ())) := by
  rw [graft_Graft_changes_o.eq, boundo_any E, bnd_some]
  generalize valF (le.find? (fun q => decide (q.1 = key))) = v
  obtain ⟨was, has, _⟩ := v
  show br (notB (eqI (0 : Int) 0)) _ (br (eqI how 1) _ (br (eqI how 2) _ (br (eqI how 3) (br has _ _) _))) = _
  rw [show notB (eqI (0 : Int) 0) = false from rfl, br_f]
  unfold chgB
  simp only [eqI_d, br_if]
  by_cases h1 : how = 1
  · rw [if_pos h1, if_pos h1]
  · rw [if_neg h1, if_neg h1]
    by_cases h2 : how = 2
    · rw [if_pos h2, if_pos h2]; rfl
    · rw [if_neg h2, if_neg h2]
      by_cases h3 : how = 3
      · rw [if_pos h3, if_pos h3]
        cases has <;> rfl
      · rw [if_neg h3, if_neg h3]
theorem Has.range {news : List NodeV} {r : Int} {s : Shp} (H : Has h news r s) : -(news.length : Int) ≤ r ∧ r ≤ h.length := ⟨H.lo, H.hi⟩
theorem up_any (hm : mayH h = true) {val : ByteArray} (G : GraftV) (a b more : Int) (x5 : List NodeV) (x6 : List Int) {f : Nat} {l : List PairV} {r : Int} {way : List StepV} {e : Int} {n : NodeV} {fe : Nat} {le : List PairV} (w : WayG h bits key f l r way e n fe le)
    (hmore : more = if (le.find? (fun q => decide (q.1 = key))).isSome = true then 0 else 1) :
    ∀ (ys rest : List (Int × StepV × Unit)) (root : Int) (news : List NodeV) (olds : List Int), ys.map (fun y => y.2.1) = way.reverse → PlanOK h news → Has h news root (trieT bits fe (putS le (key, (val, ())))) → news.length + way.length ≤ 500 → olds.length + way.length ≤ 500 → (∀ r ∈ olds, 1 ≤ r ∧ r ≤ h.length) →
      ∃ (root' : Int) (news' : List NodeV) (olds' : List Int), graft_Graft_Plan.e1 (ys ++ rest) G ((), (a, ((), ()))) more ((), (b, ((), ()))) root x5 x6 news olds = graft_Graft_Plan.e1 rest G ((), (a, ((), ()))) more ((), (b, ((), ()))) root' x5 x6 news' olds' ∧
        PlanOK h news' ∧ Has h news' root' (trieT bits f (putS l (key, (val, ())))) ∧ news'.length = news.length + way.length ∧ olds'.length = olds.length + way.length ∧ ∀ r ∈ olds', 1 ≤ r ∧ r ≤ h.length := by
  have hlev := lev_le bits
  induction w with
  | stop E =>
    intro ys rest root news olds hys P H _ _ ho
    have : ys = [] := List.map_eq_nil_iff.1 hys
    subst this
    exact ⟨root, news, olds, rfl, P, H, rfl, rfl, ho⟩
  | @step f l r ks bi way e n fe le hf h2 hl hS r1 r2 hB hn hk w ih =>
    intro ys rest root news olds hys P H hn1 ho1 ho
    rw [List.reverse_cons] at hys
    obtain ⟨ys', ys2, rfl, hy1, hy2⟩ := List.map_eq_append_iff.1 hys
    obtain ⟨y, rfl, hy⟩ := List.map_eq_singleton_iff.1 hy2
    obtain ⟨ix, st, u⟩ := y
    have hy : st = _ := hy
    subst hy
    rw [List.length_cons] at hn1 ho1
    obtain ⟨root1, news1, olds1, g1, P1, H1, g2, g3, g4⟩ := ih hmore ys' ((ix, (_, u)) :: rest) root news olds hy1 P H (by omega) (by omega) ho
    rw [List.append_assoc]
    rw [show ([(ix, (stepV r (bN (maskC bits (lev bits - (f + 1)) l) ks (l.length : Int) bi) ((ck bits (lev bits - (f + 1)) key : Nat) : Int), u))] : List (Int × StepV × Unit)) ++ rest = (ix, (stepV r (bN (maskC bits (lev bits - (f + 1)) l) ks (l.length : Int) bi) ((ck bits (lev bits - (f + 1)) key : Nat) : Int), u)) :: rest from rfl, g1]
    have hr : root1 ≠ 0 := H1.ne (trieT_ne bits f (putS_ne _ _))
    obtain ⟨m', ks', hB', hw, em, hch⟩ := with_spec hB (branch_self hB) ((ck bits (lev bits - (f + 1)) key : Nat) : Int) root1
    rw [if_neg hr] at em
    have hci := ck_lt bits (lev bits - (f + 1)) key
    have hlen := putS_length (key, (val, ())) l hS
    rw [show l.find? (fun q => decide (q.1 = key)) = le.find? (fun q => decide (q.1 = key)) by rw [w.find, part_find]] at hlen
    have hadd : addI .i64 (l.length : Int) more = ((putS l (key, (val, ()))).length : Int) := by
      unfold addI
      rw [hlen, hmore]
      split <;> (rw [wrap_i64_id (by omega) (by omega)]; omega)
    obtain ⟨hz, hB2⟩ := sized_any hB' (s := ((putS l (key, (val, ()))).length : Int)) (by omega)
    have h3 : 2 ≤ (putS l (key, (val, ()))).length := by omega
    obtain ⟨P2, H2⟩ := branch_has (bits := bits) (f := f) P1 h3 (m := m') (by rw [em, maskC_put _ _ _ _ hS]) hB2 (fun j hj => by
      rw [hch j hj, part_put _ _ _ _ _ hS]
      by_cases hjk : ck bits (lev bits - (f + 1)) key = j
      · rw [if_pos ⟨by omega, hr⟩, if_pos hjk, ← hjk]
        exact H1
      · rw [if_neg (fun q => by have := q.1; omega), if_neg hjk]
        obtain ⟨k1, k2, k3⟩ := hk j hj
        have ec : chI (maskC bits (lev bits - (f + 1)) l) ks (j : Int) = chAt (maskC bits (lev bits - (f + 1)) l) ks j := by
          unfold chI
          rw [if_pos (by omega), Int.toNat_natCast]
        rw [ec] at k1 k2 k3
        rw [← k1]
        exact Has.heap hm k2 (by omega))
    refine ⟨-(news1.length : Int) - 1, news1 ++ [bN m' ks' ((putS l (key, (val, ()))).length : Int) bi], olds1 ++ [r], ?_, P2, H2, by simp only [List.length_append, List.length_cons, List.length_nil]; omega, by simp only [List.length_append, List.length_cons, List.length_nil]; omega, fun q hq => ?_⟩
    · rw [graft_Graft_Plan.e1.cons, fitL_d, br_if, if_pos (by rw [appL_d, List.length_append]; simp only [List.length_cons, List.length_nil]; omega)]
      show bnd (branch_With (bN (maskC bits (lev bits - (f + 1)) l) ks (l.length : Int) bi) ((ck bits (lev bits - (f + 1)) key : Nat) : Int) root1) (fun r0 => bnd (branch_Sized r0 (addI .i64 (l.length : Int) more)) _) = _
      rw [hw, bnd_some, hadd, hz, bnd_some]
      show bnd (plan_Add ((), (b, ((), ()))) (bN m' ks' ((putS l (key, (val, ()))).length : Int) bi) news1 (olds1 ++ [r])) _ = _
      rw [plAdd b hB2.node news1 (by omega) _, bnd_some]
    · rcases List.mem_append.1 hq with hq | hq
      · exact g4 q hq
      · rw [List.mem_singleton] at hq
        subst hq
        exact ⟨r1, r2⟩
theorem plan_any (hm : mayH h = true) {l : List PairV} {r : Int} {way : List StepV} {e : Int} {n : NodeV} {fe : Nat} {le : List PairV} (w : WayG h bits key (lev bits) l r way e n fe le) (how : Int) {val : ByteArray} (old : ByteArray) (hx : okT (key, (val, ()))) :
    (chgB how old (valF (l.find? (fun q => decide (q.1 = key)))) = false → graft_Graft_Plan (gO how key val old bits 0 e n) way = some ((((), ((0 : Int), ((), ()))), (false, ())), (gB how key val old bits 0 way e n, ((), ([], ([], ())))))) ∧
    (chgB how old (valF (l.find? (fun q => decide (q.1 = key)))) = true → ∃ (root : Int) (news : List NodeV) (olds : List Int), graft_Graft_Plan (gO how key val old bits 0 e n) way = some ((((), (root, ((), ()))), (true, ())), (gB how key val old bits 0 way e n, ((), (news, (olds, ()))))) ∧
      PlanOK h news ∧ Has h news root (trieT bits (lev bits) (putS l (key, (val, ())))) ∧ news.length ≤ 200 ∧ olds.length ≤ 200 ∧ ∀ r ∈ olds, 1 ≤ r ∧ r ≤ h.length) := by
  have hlev := lev_le bits
  obtain ⟨E, hwl⟩ := w.end_ok
  have hfind := w.find
  have e0 : graft_Graft_Plan (gO how key val old bits 0 e n) way = bnd (graft_Graft_changes_o (gB how key val old bits 0 way e n)) fun r0 => br (notB r0.1)
      (some ((((), ((0 : Int), ((), ()))), (false, ())), (r0.2.1, ((), ([], ([], ()))))))
      (bnd (graft_Graft_bound_o r0.2.1) fun r1 => br r1.1.2.1 (graft_Graft_Plan.j0 r1.2.1 ((), ((0 : Int), ((), ()))) (0 : Int) [] []) (graft_Graft_Plan.j0 r1.2.1 ((), ((0 : Int), ((), ()))) (1 : Int) [] [])) := graft_Graft_Plan.eq _ _
  rw [changeso_any E, bnd_some, hfind] at e0
  constructor
  · intro hc
    rw [e0]
    dsimp only
    rw [hc]
    rfl
  · intro hc
    rw [e0]
    dsimp only
    rw [hc, show notB true = false from rfl, br_f, boundo_any E, bnd_some]
    obtain ⟨root, news, olds, b1, b2, b3, b4, b5, b6⟩ := bottom_any hm E how (val := val) old way (by omega) (by omega) hx
    obtain ⟨ys, y1, y2⟩ := back_any way (by omega)
    have hj : ∀ more : Int, more = (if (le.find? (fun q => decide (q.1 = key))).isSome = true then 0 else 1) → ∃ (root : Int) (news : List NodeV) (olds : List Int), graft_Graft_Plan.j0 (gB how key val old bits 0 way e n) ((), ((0 : Int), ((), ()))) more [] [] = some ((((), (root, ((), ()))), (true, ())), (gB how key val old bits 0 way e n, ((), (news, (olds, ()))))) ∧
        PlanOK h news ∧ Has h news root (trieT bits (lev bits) (putS l (key, (val, ())))) ∧ news.length ≤ 200 ∧ olds.length ≤ 200 ∧ ∀ r ∈ olds, 1 ≤ r ∧ r ≤ h.length := by
      intro more hmore
      obtain ⟨root', news', olds', u1, u2, u3, u4, u5, u6⟩ := up_any (val := val) hm (gB how key val old bits 0 way e n) 0 0 more [] [] w hmore ys [] root news olds y2 b2 b3 (by omega) (by omega) b6
      refine ⟨root', news', olds', ?_, u2, u3, by omega, by omega, u6⟩
      rw [graft_Graft_Plan.j0.eq, b1, bnd_some]
      show bnd (slices_Backwardgraft_step_graft_step way) _ = _
      rw [slices_Backwardgraft_step_graft_step.eq, bnd_some]
      show bnd (slices_Backwardgraft_step_graft_step_1 way) _ = _
      rw [y1, bnd_some]
      show graft_Graft_Plan.e1 ys (gB how key val old bits 0 way e n) ((), ((0 : Int), ((), ()))) more ((), ((0 : Int), ((), ()))) root [] [] news olds = _
      rw [List.append_nil] at u1
      rw [u1, graft_Graft_Plan.e1.nil]
    dsimp only
    cases hf : le.find? (fun q => decide (q.1 = key)) with
    | none =>
      obtain ⟨root, news, olds, k⟩ := hj 1 (by rw [hf]; rfl)
      exact ⟨root, news, olds, by rw [show (valF none).2.1 = false from rfl, br_f]; exact k.1, k.2⟩
    | some p =>
      obtain ⟨root, news, olds, k⟩ := hj 0 (by rw [hf]; rfl)
      exact ⟨root, news, olds, by rw [show (valF (some p)).2.1 = true from rfl, br_t]; exact k.1, k.2⟩
end
/-! ### Tries again -/
theorem trie_again {g : List NodeV} (go : okH g) {s : Int} {bits : Int} {L : List PairV} (hf : fitH g s = true) (hs : U g s = trieT bits (lev bits) L) (hS : Srt L) (hT : ∀ p ∈ L, okT p) (hL : L.length ≤ 1000000) :
    (bindsT (U g s)).Perm L ∧ trie_Is g s bits = some true ∧ ref20_Is g s bits = some true := by
  have hp : (bindsT (U g s)).Perm L := by rw [hs]; exact trieT_binds bits _ _
  have em := makeS_of_perm hS hp
  have hlen := hp.length_eq
  have hT' : ∀ p ∈ bindsT (U g s), okT p := fun p h => hT p (hp.mem_iff.1 h)
  obtain ⟨e1, e2⟩ := isT_any g go s bits (fun _ => ⟨by omega, by rw [em]; omega⟩)
  have hi : isT g s bits = true := by
    obtain ⟨_, T, _⟩ := make_trie bits (bindsT (U g s)) (by omega) (by rw [em]; omega) (fun p h => (hT' p h).ok) (fun p h => hT' p (makeS_mem h))
    unfold isT
    rw [hf, Bool.true_and, eqSh_iff, hs, show U (trieH bits (bindsT (trieT bits (lev bits) L))) (trieR bits (bindsT (trieT bits (lev bits) L))) = trieT bits (lev bits) (makeS (bindsT (trieT bits (lev bits) L))) by
      have := T.shp
      rw [hs] at this
      exact this]
    rw [hs] at em
    rw [em]
  rw [hi] at e1 e2
  exact ⟨hp, e1, e2⟩
end Go.Proofs.YtjekopgcpikkiaaGreatDoor.AK
set_option linter.unusedVariables false
set_option linter.unusedSimpArgs false
namespace Go.Proofs.YtjekopgcpikkiaaGreatDoor.AK
open Go.Abs
end Go.Proofs.YtjekopgcpikkiaaGreatDoor.AK
set_option linter.unusedVariables false
set_option linter.unusedSimpArgs false
namespace Go.Proofs.YtjekopgcpikkiaaGreatDoor.AK
open Go.Abs
theorem bound_any {h : List NodeV} {bits : Int} {key : ByteArray} {fe : Nat} {e : Int} {n : NodeV} {le : List PairV} (E : EndOK h bits fe e n le) (how : Int) (val old : ByteArray) (way : List StepV) :
    graft_Graft_bound (gO how key val old bits 0 e n) way = some (valF (le.find? (fun q => decide (q.1 = key))), (gO how key val old bits 0 e n, (way, ()))) := by
  rw [graft_Graft_bound.eq]
  show br (notB (eqI (0 : Int) 0)) _ (br (notB (eqI n.1 1)) (br (notB (eqI n.1 3)) _ (bnd (node_Binds n) fun r0 => bnd (pair_Get r0.2.1 key) _)) (bnd (node_Binds n) fun r2 => bnd (pair_Get r2.2.1 key) _)) = _
  rw [show notB (eqI (0 : Int) 0) = false from rfl, br_f]
  rcases E with ⟨rfl, rfl, rfl⟩ | ⟨p, rfl, _, _, on, k, _, hb, hp, _⟩ | ⟨_, _, _, _, on, k, hb, hS, hT, hl, _⟩
  · rfl
  · rw [k, show notB (eqI (1 : Int) 1) = false from rfl, br_f, binds_any n on, bnd_some, hb]
    dsimp only
    rw [pget_any [p] key (by simp) (fun q hq => by rw [List.mem_singleton] at hq; exact hq ▸ hp.ok) rfl, bnd_some]
  · rw [k, show notB (eqI (3 : Int) 1) = true from rfl, br_t, show notB (eqI (3 : Int) 3) = false from rfl, br_f, binds_any n on, bnd_some, hb]
    dsimp only
    rw [pget_any le key (by omega) (fun q hq => (hT q hq).ok) (srt_isS hS), bnd_some]
theorem okH_nil : okH [] := ⟨by simp, fun n hn => (by cases hn), fun n hn => (by cases hn)⟩
abbrev k23 : ByteArray := ByteArray.mk #[97]
abbrev v23 : ByteArray := ByteArray.mk #[49]
def x23 : PairV := (k23, (v23, ()))
theorem x23_ok : okT x23 := ⟨by decide +kernel, by decide +kernel⟩
theorem grun_nil : graft_Run [] 0 1 k23 v23 ByteArray.empty 64 = some ([lfN x23], ((1 : Int), ((0 : Int), ()))) := by
  have hx := x23_ok
  have E : EndOK [] 64 (lev 64) 0 zeroN [] := .inl ⟨rfl, rfl, rfl⟩
  have w : WayG [] 64 k23 (lev 64) [] 0 [] 0 zeroN (lev 64) [] := .stop E
  obtain ⟨_, hi, _⟩ := trie_again okH_nil (s := 0) (bits := 64) (L := []) rfl (by rw [U_zero, trieT_nil]) List.Pairwise.nil (fun p hp => by cases hp) (by simp)
  have hleaf : node_Leaf k23 v23 = some (lfN x23) := by rw [node_Leaf.eq]; rfl
  have P0 := PlanOK.nil (h := []) rfl
  obtain ⟨P1, H1⟩ := leaf_has P0 hx
  have hd := do_plan okH_nil rfl P1 (by simp) (root := -1) (by simp) (by simp) (old := []) (by simp) (fun r hr => by cases hr)
  have hbot : graft_Graft_bottom ((), ((0 : Int), ((), ()))) (gB 1 k23 v23 ByteArray.empty 64 0 [] 0 zeroN) = some ((((), ((0 : Int), ((), ()))), (-1, ())), (gB 1 k23 v23 ByteArray.empty 64 0 [] 0 zeroN, ([lfN x23], ([], ())))) := by
    rw [graft_Graft_bottom.eq, boundo_any E, bnd_some]
    show br (eqI (0 : Int) 0) (graft_Graft_bottom.j0 false true _ _ _ [] [] [] []) _ = _
    rw [show eqI (0 : Int) 0 = true from rfl, br_t, graft_Graft_bottom.j0.eq, br_t]
    show bnd (node_Leaf k23 v23) _ = _
    rw [hleaf, bnd_some, plAdd _ (lfN_ok hx.ok) [] (by simp) [], bnd_some]
    rfl
  obtain ⟨ys, y1, y2⟩ := back_any [] (by simp)
  have : ys = [] := List.map_eq_nil_iff.1 y2
  subst this
  have hplan : graft_Graft_Plan (gO 1 k23 v23 ByteArray.empty 64 0 0 zeroN) [] = some ((((), (-1, ((), ()))), (true, ())), (gB 1 k23 v23 ByteArray.empty 64 0 [] 0 zeroN, ((), ([lfN x23], ([], ()))))) := by
    rw [graft_Graft_Plan.eq]
    show bnd (graft_Graft_changes_o (gB 1 k23 v23 ByteArray.empty 64 0 [] 0 zeroN)) _ = _
    rw [changeso_any E, bnd_some]
    show br (notB true) _ (bnd (graft_Graft_bound_o (gB 1 k23 v23 ByteArray.empty 64 0 [] 0 zeroN)) _) = _
    rw [show notB true = false from rfl, br_f, boundo_any E, bnd_some]
    show br false _ (graft_Graft_Plan.j0 (gB 1 k23 v23 ByteArray.empty 64 0 [] 0 zeroN) ((), ((0 : Int), ((), ()))) (1 : Int) [] []) = _
    rw [br_f, graft_Graft_Plan.j0.eq, hbot, bnd_some]
    show bnd (slices_Backwardgraft_step_graft_step []) _ = _
    rw [slices_Backwardgraft_step_graft_step.eq, bnd_some]
    show bnd (slices_Backwardgraft_step_graft_step_1 []) _ = _
    rw [y1, bnd_some, graft_Graft_Plan.e1.nil]
  rw [graft_Run.eq, hleaf, bnd_some, may_any _ (lfN_ok hx.ok), bnd_some, lfN_may hx]
  simp only [ltI_d, br_if]
  rw [if_neg (by omega), if_neg (by omega), show notB (eqI (0 : Int) 0) = false from rfl, br_f, hi, bnd_some, show notB true = false from rfl, br_f, graft_New.eq, hashof_any k23 64 (by have : k23.size ≤ 16 := hx.1; omega), bnd_some, bnd_some]
  show graft_Run.l0 [] 0 (gO 1 k23 v23 ByteArray.empty 64 0 0 zeroN) [] = _
  rw [graft_Run.l0.eq, want_any, bnd_some]
  show br (notB (eqI (0 : Int) 0)) _ (bnd (graft_Graft_Plan (gO 1 k23 v23 ByteArray.empty 64 0 0 zeroN) []) _) = _
  rw [show notB (eqI (0 : Int) 0) = false from rfl, br_f, hplan, bnd_some]
  show bnd (plan_Do [] ([lfN x23], (-1, ([], ())))) _ = _
  rw [show ([lfN x23] : List NodeV) = [] ++ [lfN x23] from rfl, hd, bnd_some]
  rfl
theorem works23 : law23_works = some true := by
  have hx := x23_ok
  have P0 := PlanOK.nil (h := []) rfl
  obtain ⟨P1, H1⟩ := leaf_has P0 hx
  have E : EndOK [lfN x23] 64 (lev 64) 1 (lfN x23) [x23] := .inr (.inl ⟨x23, rfl, by omega, by simp, lfN_ok hx.ok, rfl, rfl, rfl, hx, fun f => (H1 64 f).shp, rfl⟩)
  have w : WayG [lfN x23] 64 k23 (lev 64) [x23] 1 [] 1 (lfN x23) (lev 64) [x23] := .stop E
  have hm : mayH [lfN x23] = true := P1.may
  have hfd : ([x23].find? (fun q => decide (q.1 = k23))) = some x23 := by rw [List.find?_cons, decide_eq_true (show x23.1 = k23 from rfl)]
  have hx2 : okT (k23, ((ByteArray.mk #[50]), ())) := ⟨by decide +kernel, by decide +kernel⟩
  obtain ⟨p1, _⟩ := plan_any hm w 2 (val := ByteArray.mk #[50]) ByteArray.empty hx2
  have hb := bound_any (key := k23) E 2 (ByteArray.mk #[50]) ByteArray.empty []
  rw [hfd] at hb p1
  have p1 := p1 rfl
  rw [law23_works.eq, grun_nil, bnd_some]
  show law23_works.j0 [lfN x23] 1 false = _
  rw [law23_works.j0.eq, br_f, graft_New.eq, hashof_any k23 64 (by have : k23.size ≤ 16 := hx.1; omega), bnd_some, bnd_some]
  show bnd (graft_Graft_Feed (lfN x23) (gO 2 k23 (ByteArray.mk #[50]) ByteArray.empty 64 1 0 zeroN) []) _ = _
  rw [feed_end 2 _ _ (show (1 : Int) ≠ 0 by omega) zeroN 0 (show (lfN x23).1 ≠ 2 by show (1 : Int) ≠ 2; omega) [], bnd_some]
  show bnd (graft_Graft_Answer (gO 2 k23 (ByteArray.mk #[50]) ByteArray.empty 64 0 1 (lfN x23)) []) _ = _
  rw [graft_Graft_Answer.eq, hb, bnd_some, bnd_some]
  show bnd (graft_Graft_Plan (gO 2 k23 (ByteArray.mk #[50]) ByteArray.empty 64 0 1 (lfN x23)) []) _ = _
  rw [p1, bnd_some]
  have hs : ∀ a : ByteArray, eqS a a = true := fun a => by rw [eqS_d]; exact decide_eq_true rfl
  show br (eqS v23 v23) (br true (br (notB false) (br true (br (eqS k23 k23) (some true) (some false)) none) (some false)) (some false)) (some false) = _
  rw [hs, hs]
  rfl
end Go.Proofs.YtjekopgcpikkiaaGreatDoor.AK
set_option linter.unusedVariables false
set_option linter.unusedSimpArgs false
namespace Go.Proofs.YtjekopgcpikkiaaGreatDoor.AK
open Go.Abs
section
variable {h : List NodeV} {bits : Int} {key : ByteArray}
theorem planv_any (how : Int) (val old : ByteArray) {r : Int} (hr : r ≠ 0) (e0 : Int) (n0 : NodeV) (w : List StepV) :
    graft_Graft_Plan_v1 (gO how key val old bits r e0 n0) w = some ((((), ((0 : Int), ((), ()))), (false, ())), (gO how key val old bits r e0 n0, (w, ([], ([], ()))))) := by
  rw [graft_Graft_Plan_v1.eq, graft_Graft_changes.eq]
  show bnd (br (notB (eqI r 0)) _ _) _ = _
  rw [eqI_d, decide_eq_false hr, show notB false = true from rfl, br_t, bnd_some]
  rfl
theorem fed_round (h : List NodeV) (hl : h.length ≤ 40000000) (most : Nat) (hmost : most ≤ 1000) (k : Nat) (hk : k ≤ most) (how : Int) (val old : ByteArray) {r : Int} (r1 : 1 ≤ r) (r2 : r ≤ h.length) (e0 : Int) (n0 : NodeV) (w : List StepV) {g' : GraftO} {w' : List StepV}
    (hf : graft_Graft_Feed (getN h r) (gO how key val old bits r e0 n0) w = some ((), (g', (w', ())))) :
    law23_fed.l0 h (most : Int) (k : Int) (gO how key val old bits r e0 n0) w = law23_fed.l2 h (most : Int) ((k + 1 : Nat) : Int) g' w' ∧ law23_fed.l2 h (most : Int) (k : Int) (gO how key val old bits r e0 n0) w = law23_fed.l2 h (most : Int) ((k + 1 : Nat) : Int) g' w' := by
  obtain ⟨i, hi⟩ : ∃ i : Nat, r = (i : Int) + 1 := ⟨(r - 1).toNat, by omega⟩
  have hil : i < h.length := by omega
  have es : subI .i64 r 1 = (i : Int) := by rw [subI_d (by omega) (by omega)]; omega
  have eg : getN h r = h[i] := by rw [hi]; exact getN_ix h i hil
  have j1 : ∀ x, law23_fed.j1 h (most : Int) (k : Int) r x (gO how key val old bits r e0 n0) w = law23_fed.j3 h (most : Int) (k : Int) r x (gO how key val old bits r e0 n0) w := fun x => by
    rw [law23_fed.j1.eq, law23_fed.j3.eq]
  have j3 : law23_fed.j3 h (most : Int) (k : Int) r false (gO how key val old bits r e0 n0) w = law23_fed.l2 h (most : Int) ((k + 1 : Nat) : Int) g' w' := by
    rw [law23_fed.j3.eq, br_f, planv_any how val old (by omega), bnd_some]
    dsimp only
    rw [br_f, es]
    simp only [leI_d, ltI_d, andB_d, ofN_d, lenL_d, br_if]
    rw [if_pos (by omega), ixL_d tapiNode h i hil, ← eg, hf, bnd_some, add1 k (by omega)]
  have c1 : ltI r 1 = false := by rw [ltI_d]; exact decide_eq_false (by omega)
  have c2 : ltI (ofN (lenL tapiNode h)) r = false := by rw [ltI_d]; exact decide_eq_false (by show ¬ ((h.length : Nat) : Int) < r; omega)
  have c3 : ltI (most : Int) (k : Int) = false := by rw [ltI_d]; exact decide_eq_false (by omega)
  have c4 : notB (eqI r 0) = true := by rw [eqI_d, decide_eq_false (by omega)]; rfl
  constructor
  · rw [law23_fed.l0.eq, want_any, bnd_some]
    show br (notB (eqI r 0)) (bnd (graft_Graft_Want (gO how key val old bits r e0 n0) w) _) _ = _
    rw [c4, br_t, want_any, bnd_some]
    show br (ltI r 1) _ (br (ltI (ofN (lenL tapiNode h)) r) _ (law23_fed.j1 h (most : Int) (k : Int) r (ltI (most : Int) (k : Int)) (gO how key val old bits r e0 n0) w)) = _
    rw [c1, br_f, c2, br_f, c3, j1, j3]
  · rw [law23_fed.l2.eq, want_any, bnd_some]
    show br (notB (eqI r 0)) (bnd (graft_Graft_Want (gO how key val old bits r e0 n0) w) _) _ = _
    rw [c4, br_t, want_any, bnd_some]
    show br (ltI r 1) _ (br (ltI (ofN (lenL tapiNode h)) r) _ (law23_fed.j3 h (most : Int) (k : Int) r (ltI (most : Int) (k : Int)) (gO how key val old bits r e0 n0) w)) = _
    rw [c1, br_f, c2, br_f, c3, j3]
theorem fed_stop (h : List NodeV) (most x2 : Int) (how : Int) (val old : ByteArray) (e0 : Int) (n0 : NodeV) (w : List StepV) :
    law23_fed.l0 h most x2 (gO how key val old bits 0 e0 n0) w = some ((x2, (true, ())), (gO how key val old bits 0 e0 n0, (w, ()))) ∧ law23_fed.l2 h most x2 (gO how key val old bits 0 e0 n0) w = some ((x2, (true, ())), (gO how key val old bits 0 e0 n0, (w, ()))) := by
  constructor
  · rw [law23_fed.l0.eq, want_any, bnd_some]; rfl
  · rw [law23_fed.l2.eq, want_any, bnd_some]; rfl
theorem fed_loop {f : Nat} {l : List PairV} {r : Int} {way : List StepV} {e : Int} {n : NodeV} {fe : Nat} {le : List PairV} (w : WayG h bits key f l r way e n fe le) (hl : h.length ≤ 40000000) (how : Int) (val old : ByteArray) :
    ∀ w0 : List StepV, w0.length = lev bits - f → f ≤ lev bits → ∃ c : Int, law23_fed.l0 h ((lev bits : Nat) : Int) ((w0.length : Nat) : Int) (gO how key val old bits r 0 zeroN) w0 = some ((c, (true, ())), (gO how key val old bits 0 e n, (w0 ++ way, ()))) ∧
      law23_fed.l2 h ((lev bits : Nat) : Int) ((w0.length : Nat) : Int) (gO how key val old bits r 0 zeroN) w0 = some ((c, (true, ())), (gO how key val old bits 0 e n, (w0 ++ way, ()))) := by
  have hlev := lev_le bits
  induction w with
  | @stop f l r n E =>
    intro w0 hw0 hf
    rw [List.append_nil]
    have end_ : 1 ≤ r → r ≤ h.length → getN h r = n → n.1 ≠ 2 → ∃ c : Int, law23_fed.l0 h ((lev bits : Nat) : Int) ((w0.length : Nat) : Int) (gO how key val old bits r 0 zeroN) w0 = some ((c, (true, ())), (gO how key val old bits 0 r n, (w0, ()))) ∧
        law23_fed.l2 h ((lev bits : Nat) : Int) ((w0.length : Nat) : Int) (gO how key val old bits r 0 zeroN) w0 = some ((c, (true, ())), (gO how key val old bits 0 r n, (w0, ()))) := fun a b e c => by
      obtain ⟨f1, f2⟩ := fed_round (key := key) (bits := bits) h hl (lev bits) (by omega) w0.length (by omega) how val old a b 0 zeroN w0 (by rw [e]; exact feed_end how val old (by omega) zeroN 0 c w0)
      obtain ⟨_, s2⟩ := fed_stop (key := key) (bits := bits) h ((lev bits : Nat) : Int) ((w0.length + 1 : Nat) : Int) how val old r n w0
      exact ⟨_, f1.trans s2, f2.trans s2⟩
    rcases E with ⟨rfl, rfl, _⟩ | ⟨p, _, a, b, _, k, _, _, _, _, g⟩ | ⟨_, _, a, b, _, k, _, _, _, _, g⟩
    · obtain ⟨s1, s2⟩ := fed_stop (key := key) (bits := bits) h ((lev bits : Nat) : Int) ((w0.length : Nat) : Int) how val old 0 zeroN w0
      exact ⟨_, s1, s2⟩
    · exact end_ a b g (by rw [k]; decide)
    · exact end_ a b g (by rw [k]; decide)
  | @step f l r ks bi way e n fe le hf h2 hl' hS r1 r2 hB hn hk w ih =>
    intro w0 hw0 hf0
    have e1 := feed_step (key := key) (bits := bits) how val old (show r ≠ 0 by omega) zeroN 0 hB w0 (by omega)
    rw [hw0] at e1
    obtain ⟨f1, f2⟩ := fed_round (key := key) (bits := bits) h hl (lev bits) (by omega) w0.length (by omega) how val old r1 r2 0 zeroN w0 (by rw [hn]; exact e1)
    obtain ⟨c, _, i2⟩ := ih (w0 ++ [stepV r (bN (maskC bits (lev bits - (f + 1)) l) ks (l.length : Int) bi) ((ck bits (lev bits - (f + 1)) key : Nat) : Int)]) (by rw [List.length_append]; simp only [List.length_cons, List.length_nil]; omega) (by omega)
    rw [List.append_assoc] at i2
    have hlen : (w0 ++ [stepV r (bN (maskC bits (lev bits - (f + 1)) l) ks (l.length : Int) bi) ((ck bits (lev bits - (f + 1)) key : Nat) : Int)]).length = w0.length + 1 := by rw [List.length_append]; rfl
    rw [hlen] at i2
    exact ⟨c, f1.trans i2, f2.trans i2⟩
end
theorem made_any (a0 : Int) (a1 : List PairV) (hln : a1.length ≤ 9223372036854775807) : ∃ l : List PairV, l.length ≤ 12 ∧ (∀ p ∈ l, okP p) ∧
    law23_made a0 a1 = some (if longL l = true then ([], ([], ((0 : Int), (false, ())))) else (makeS l, (trieH a0 l, (trieR a0 l, (true, ()))))) := by
  refine ⟨fewL (a1.take (min a1.length 12)), ?_, fewL_ok _, ?_⟩
  · unfold fewL
    rw [List.length_map, List.length_take, List.length_take]
    omega
  generalize hl' : fewL (a1.take (min a1.length 12)) = l
  have hlen : l.length ≤ 12 := by
    rw [← hl']
    unfold fewL
    rw [List.length_map, List.length_take, List.length_take]
    omega
  have hs : ∀ p ∈ l, okP p := by rw [← hl']; exact fewL_ok _
  have hm := makeS_len l
  have hsub : subL tapiPair a1 (toN (0 : Int)) (toN (minI (ofN (lenL tapiPair a1)) (12 : Int))) = a1.take (min a1.length 12) := by
    show (a1.drop 0).take ((minI ((a1.length : Nat) : Int) 12).toNat - 0) = _
    have : (minI ((a1.length : Nat) : Int) 12).toNat = min a1.length 12 := by unfold minI; split <;> omega
    rw [List.drop_zero, this, Nat.sub_zero]
  rw [law23_made.eq, hsub, few_any _ (by rw [List.length_take]; omega), bnd_some, hl']
  have : andB (leI (0 : Int) (0 : Int)) (andB (leI (0 : Int) (minI (ofN (lenL tapiPair a1)) (12 : Int))) (leI (minI (ofN (lenL tapiPair a1)) (12 : Int)) (ofN (lenL tapiPair a1)))) = true := by
    show andB (leI (0 : Int) (0 : Int)) (andB (leI (0 : Int) (minI ((a1.length : Nat) : Int) (12 : Int))) (leI (minI ((a1.length : Nat) : Int) (12 : Int)) ((a1.length : Nat) : Int))) = true
    simp only [leI_d, andB_d, decide_eq_true_eq]
    unfold minI
    split <;> omega
  rw [this, br_t, rlong20_any l (by omega) (by omega) hs, bnd_some]
  cases hg : longL l with
  | true => rw [br_t, if_pos rfl]
  | false =>
    obtain ⟨e, T, ho⟩ := make_trie a0 l (by omega) (by omega) hs (longL_not hg)
    rw [br_f, e, bnd_some, refmake_any l (by omega) hs, bnd_some, if_neg (by simp)]
end Go.Proofs.YtjekopgcpikkiaaGreatDoor.AK
set_option linter.unusedVariables false
set_option linter.unusedSimpArgs false
namespace Go.Proofs.YtjekopgcpikkiaaGreatDoor.Pure
open Go.Abs Go.Proofs.YtjekopgcpikkiaaGreatDoor.AK
theorem nobody : graft_Graft_Feed_o ((1 : Int), (ByteArray.mk #[97], (ByteArray.empty, ((0 : Int), ([], ((0 : Int), ([], ((1 : Int), ((0 : Int), ()))))))))) = some () ∧ graft_Graft_Want_o = some 0 ∧ (∃ x, graft_Graft_Plan_o = some (x, (false, ()))) ∧ graft_Graft_Answer_o = some (ByteArray.empty, (false, ())) := by
  have hw : graft_Graft_Want_o = some 0 := by rw [graft_Graft_Want_o.eq]
  refine ⟨?_, hw, ?_, ?_⟩
  · rw [graft_Graft_Feed_o.eq, hw]; rfl
  · rw [graft_Graft_Plan_o.eq, graft_Graft_changes_o_v1.eq]; exact ⟨_, rfl⟩
  · rw [graft_Graft_Answer_o.eq, graft_Graft_bound_o_v1.eq]; rfl
theorem GraftPlans (a0 : den (.int .i64)) (a1 : den (.list tapiPair)) (a2 : den (.int .u8)) (a3 : den .str) (a4 : den .str) (a5 : den .str) (h0 : wfD (.int .i64) a0) (h1 : wfD (.list tapiPair) a1) (h2 : wfD (.int .u8) a2) (h3 : wfD .str a3) (h4 : wfD .str a4) (h5 : wfD .str a5) : law23_GraftPlans a0 a1 a2 a3 a4 a5 = some true := by
  change Int at a0
  change Int at a2
  change List PairV at a1
  obtain ⟨l, hlen, hs, hmade⟩ := made_any a0 a1 h1.1
  have hm := makeS_len l
  have hlev := lev_le a0
  rw [law23_GraftPlans.eq, works23, bnd_some, show notB true = false from rfl, br_f, hmade, bnd_some, show base_Cut a3 (16 : Int) = some (cut 16 a3) from base_Cut_any a3 16, bnd_some, show base_Cut a4 (16 : Int) = some (cut 16 a4) from base_Cut_any a4 16, bnd_some]
  cases hg : longL l with
  | true => rfl
  | false =>
    rw [if_neg (by simp)]
    have ht := longL_not hg
    obtain ⟨e, T, ho⟩ := make_trie a0 l (by omega) (by omega) hs ht
    obtain ⟨new, en, ln, _⟩ := T.pre
    have hhl : (trieH a0 l).length ≤ 168 := by
      rw [show trieH a0 l = [] ++ new from en, List.nil_append]
      have : (makeS l).length * (lev a0 + 1) ≤ 12 * 14 := Nat.mul_le_mul (by omega) (by omega)
      omega
    generalize hkey : cut 16 a3 = key
    generalize hval : cut 16 a4 = val
    have hx : okT (key, (val, ())) := ⟨by show key.size ≤ 16; rw [← hkey, cut_size]; omega, by show val.size ≤ 16; rw [← hval, cut_size]; omega⟩
    have hk16 : key.size ≤ 16 := hx.1
    generalize addI .i64 (1 : Int) (wrapI .i64 (remI a2 (3 : Int))) = how
    have hroot1 : trieR a0 l ≤ ((trieH a0 l).length : Int) := T.r1
    obtain ⟨way, en, n, fe, le, w⟩ := way_ex ho T.may a0 key (lev a0) (makeS l) (trieR a0 l) (Nat.le_refl _) T.r0 hroot1 T.shp (makeS_Srt l) ht (by omega)
    obtain ⟨E, hwl⟩ := w.end_ok
    obtain ⟨p1, p2⟩ := plan_any T.may w how (val := val) a5 hx
    obtain ⟨c, f1, _⟩ := fed_loop w (by omega) how val a5 [] (by simp) (Nat.le_refl _)
    obtain ⟨n1, n2, ⟨x, n3⟩, n4⟩ := nobody
    have hget : ref07_Get (makeS l) key = some (valF ((makeS l).find? (fun q => decide (q.1 = key)))) := by rw [rget_any _ _ (by omega), makeS_srt (makeS_Srt l)]
    have hb := bound_any (key := key) E how val a5 way
    rw [w.find] at hb
    generalize hv : valF ((makeS l).find? (fun q => decide (q.1 = key))) = v at p1 p2 hget hb
    obtain ⟨was, has, u⟩ := v
    show br (notB true) _ (br (notB (eqI (3 : Int) 0)) (bnd (graft_New (trieR a0 l) how key val a5 a0) _) none) = _
    rw [show notB true = false from rfl, br_f, show notB (eqI (3 : Int) 0) = true from rfl, br_t, graft_New.eq, hashof_any key a0 (by omega), bnd_some, bnd_some, reflevels_any, bnd_some]
    show bnd (law23_fed (trieH a0 l) ((lev a0 : Nat) : Int) (gO how key val a5 a0 (trieR a0 l) 0 zeroN) []) _ = _
    rw [law23_fed.eq]
    rw [show (law23_fed.l0 (trieH a0 l) ((lev a0 : Nat) : Int) (0 : Int) (gO how key val a5 a0 (trieR a0 l) 0 zeroN) []) = some ((c, (true, ())), (gO how key val a5 a0 0 en n, (way, ()))) from f1, bnd_some]
    show br (notB true) _ (bnd (graft_Graft_Answer (gO how key val a5 a0 0 en n) way) fun r7 => bnd (ref07_Get (makeS l) key) _) = _
    rw [show notB true = false from rfl, br_f, graft_Graft_Answer.eq, hb, bnd_some, bnd_some, hget, bnd_some]
    have hplan : ∃ y z, graft_Graft_Plan (gO how key val a5 a0 0 en n) way = some ((y, (chgB how a5 (was, (has, u)), ())), z) := by
      cases hc : chgB how a5 (was, (has, u)) with
      | true =>
        obtain ⟨root, news, olds, k, _⟩ := p2 hc
        exact ⟨_, _, k⟩
      | false => exact ⟨_, _, p1 hc⟩
    obtain ⟨y, z, hplan⟩ := hplan
    show bnd (graft_Graft_Plan (gO how key val a5 a0 0 en n) way) _ = _
    rw [hplan, bnd_some, node_Leaf.eq, bnd_some, n1, bnd_some, n3, bnd_some, n4, bnd_some]
    dsimp only
    have hss : ∀ a : ByteArray, eqS a a = true := fun a => by rw [eqS_d]; exact decide_eq_true rfl
    have hbb : ∀ b : Bool, eqB b b = true := fun b => by cases b <;> rfl
    have hch : ref23_Changes how a5 was has = some (chgB how a5 (was, (has, u))) := refchg_any how a5 (was, (has, u))
    rw [hss, br_t, hbb, br_t, hch, bnd_some, hbb, br_t, n2, bnd_some]
    rfl
end Go.Proofs.YtjekopgcpikkiaaGreatDoor.Pure
