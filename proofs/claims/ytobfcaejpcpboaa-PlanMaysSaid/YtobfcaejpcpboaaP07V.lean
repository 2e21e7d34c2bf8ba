/- Lists of bindings, and lists of numbers: what the functions do, plainly. No conditions but those that each names. -/
import Derived.Test.YtobfcaejpcpboaaP06V
import Derived.Test.YtobfcaejpcpboaaRow
set_option linter.unusedVariables false
set_option linter.unusedSimpArgs false
namespace Go.Proofs.Ytobfcaejpcpboaa.AV
open Go.Abs
/-- A binding, and one's texts cut short. -/
abbrev PairV : Type := ByteArray × ByteArray × Unit
theorem ixP (l : List PairV) (i : Nat) (h : i < l.length) : ixL tapiPair l (i : Int) = l[i] := ixL_d tapiPair l i h
theorem ixR (l : List Int) (i : Nat) (h : i < l.length) : ixL (.int .i64) l (i : Int) = l[i] := ixL_d (.int .i64) l i h
def cutP (p : PairV) : PairV := (cut 40 p.1, (cut 40 p.2.1, ()))
def fewL (l : List PairV) : List PairV := (l.take 40).map cutP
theorem few_loop (l : List PairV) (hl : l.length ≤ 9223372036854775807) (d : Nat) : ∀ (i : Nat), i ≤ l.length → i ≤ 40 → min l.length 40 - i = d → law07_Few.l0 l i ((l.take i).map cutP) = some (fewL l) := by
  have stop : ∀ i : Nat, i ≤ l.length → i ≤ 40 → min l.length 40 = i → some ((l.take i).map cutP) = some (fewL l) := by
    intro i h1 h2 h3
    unfold fewL
    by_cases h : l.length ≤ 40
    · rw [List.take_of_length_le (show l.length ≤ i by omega), List.take_of_length_le h]
    · rw [show i = 40 by omega]
  induction d with
  | zero =>
    intro i h1 h2 h3
    rw [law07_Few.l0.eq]
    simp only [ltI_d, ofN_d, lenL_d, br_if]
    have hs := stop i h1 h2 (by omega)
    by_cases hi : i < l.length
    · rw [if_pos (by omega), show decide ((i : Int) < 40) = false from decide_eq_false (by omega), law07_Few.j1.eq, br_f]
      exact hs
    · rw [if_neg (by omega), law07_Few.j1.eq, br_f]
      exact hs
  | succ d ih =>
    intro i h1 h2 h3
    have hi : i < l.length := by omega
    rw [law07_Few.l0.eq]
    simp only [ltI_d, ofN_d, lenL_d, br_if]
    rw [if_pos (by omega), show decide ((i : Int) < 40) = true from decide_eq_true (by omega), law07_Few.j1.eq, br_t]
    simp only [ltI_d, leI_d, ofN_d, lenL_d, andB_d, br_if, fitL_d, appL_d]
    rw [if_pos (by omega), if_pos (by omega), ixP l i hi, base_Cut_40, bnd_some, base_Cut_40, bnd_some]
    have hlen : ((l.take i).map cutP).length = i := by simp; omega
    rw [if_pos (by rw [List.length_append, hlen]; show i + 1 ≤ _; omega), add1 i (by omega)]
    have := ih (i + 1) (by omega) (by omega) (by omega)
    rw [List.take_succ_eq_append_getElem hi, List.map_append] at this
    exact this
theorem few_any (l : List PairV) (hl : l.length ≤ 9223372036854775807) : law07_Few l = some (fewL l) := by
  rw [law07_Few.eq]
  have := few_loop l hl (min l.length 40) 0 (by omega) (by omega) (by omega)
  rw [List.take_zero, List.map_nil, show ((0 : Nat) : Int) = 0 from rfl] at this
  exact this
theorem fewL_len (l : List PairV) : (fewL l).length ≤ 40 := by unfold fewL; simp; omega
theorem fewL_fewL (l : List PairV) : fewL (fewL l) = fewL l := by
  unfold fewL
  rw [List.take_of_length_le (by simp; omega), List.map_map]
  refine List.map_congr_left fun p _ => ?_
  show (cut 40 (cut 40 p.1), (cut 40 (cut 40 p.2.1), ())) = (cut 40 p.1, (cut 40 p.2.1, ()))
  rw [cut_cut, cut_cut]
/-- Texts that are short enough for all that is reckoned with them. -/
def okP (p : PairV) : Prop := p.1.size ≤ 40 ∧ p.2.1.size ≤ 40
theorem fewL_ok (l : List PairV) : ∀ p ∈ fewL l, okP p := by
  intro p hp
  unfold fewL at hp
  obtain ⟨q, _, rfl⟩ := List.mem_map.1 hp
  constructor <;> (show (cut 40 _).size ≤ 40; rw [cut_size]; omega)
/-! ### In order -/
def isS : List PairV → Bool
  | a :: b :: r => lt a.1 b.1 && isS (b :: r)
  | _ => true
theorem isS_drop (l : List PairV) (i : Nat) (h0 : 0 < i) (hi : i < l.length) : isS (l.drop (i - 1)) = (lt l[i-1].1 l[i].1 && isS (l.drop i)) := by
  rw [List.drop_eq_getElem_cons (show i - 1 < l.length by omega), show i - 1 + 1 = i by omega, List.drop_eq_getElem_cons hi]
  rfl
theorem isS_end (l : List PairV) (i : Nat) (hi : l.length ≤ i + 1) : isS (l.drop i) = true := by
  have : (l.drop i).length ≤ 1 := by rw [List.length_drop]; omega
  generalize l.drop i = r at this
  match r, this with
  | [], _ => rfl
  | [a], _ => rfl
  | _ :: _ :: _, h => exact absurd h (by simp)
theorem is_loop (l : List PairV) (hl : l.length ≤ 1000000) (hs : ∀ p ∈ l, okP p) (d : Nat) : ∀ (i : Nat), 0 < i → i ≤ l.length → l.length - i = d → pair_Is.l0 l l.length i = some (isS (l.drop (i - 1))) := by
  induction d with
  | zero =>
    intro i h0 h1 h2
    rw [pair_Is.l0.eq]
    simp only [ltI_d, br_if]
    rw [if_neg (by omega), isS_end l (i - 1) (by omega)]
  | succ d ih =>
    intro i h0 h1 h2
    have hi : i < l.length := by omega
    rw [pair_Is.l0.eq]
    simp only [ltI_d, leI_d, ofN_d, lenL_d, andB_d, br_if]
    have ha := (hs _ (List.getElem_mem (show i - 1 < l.length by omega))).1
    rw [if_pos (by omega), if_pos (by omega), sub1 i h0 (by omega), if_pos (by omega), if_pos (by omega), ixP l i hi, ixP l (i - 1) (by omega), compare_any _ _ (by omega), bnd_some, add1 i (by omega), isS_drop l i h0 hi]
    by_cases hc : lt l[i-1].1 l[i].1 = true
    · rw [if_neg (by have := cmp_neg.2 hc; omega), hc, Bool.true_and]
      have := ih (i + 1) (by omega) (by omega) (by omega)
      rw [show i + 1 - 1 = i by omega] at this
      exact this
    · have hc' : lt l[i-1].1 l[i].1 = false := by simpa using hc
      rw [if_pos (by have : ¬ cmp l[i-1].1 l[i].1 < 0 := fun h => hc (cmp_neg.1 h); omega), hc', Bool.false_and]
theorem is_any (l : List PairV) (hl : l.length ≤ 1000000) (hs : ∀ p ∈ l, okP p) : pair_Is l = some (isS l) := by
  rw [pair_Is.eq]
  simp only [ofN_d, lenL_d]
  by_cases h : l.length = 0
  · rw [pair_Is.l0.eq]
    simp only [ltI_d, br_if]
    rw [if_neg (by omega), List.eq_nil_of_length_eq_zero h]
    rfl
  · rw [pair_Is.l0.eq]
    simp only [ltI_d, br_if]
    rw [if_pos (by omega), if_neg (by omega)]
    have := is_loop l hl hs (l.length - 1) 1 (by omega) (by omega) rfl
    rw [show (1 : Nat) - 1 = 0 by omega, List.drop_zero] at this
    have e : addI .i64 0 1 = ((1 : Nat) : Int) := add1 0 (by omega)
    rw [e]
    exact this
theorem refis_loop (l : List PairV) (hl : l.length ≤ 1000000) (hs : ∀ p ∈ l, okP p) (d : Nat) : ∀ (i : Nat), 0 < i → l.length - i = d → ref07_Is.l0 l i = some (isS (l.drop (i - 1))) := by
  induction d with
  | zero =>
    intro i h0 h2
    rw [ref07_Is.l0.eq]
    simp only [ltI_d, ofN_d, lenL_d, br_if]
    rw [if_neg (by omega), isS_end l (i - 1) (by omega)]
  | succ d ih =>
    intro i h0 h2
    have hi : i < l.length := by omega
    rw [ref07_Is.l0.eq]
    simp only [ltI_d, leI_d, ofN_d, lenL_d, andB_d, br_if]
    have ha := (hs _ (List.getElem_mem (show i - 1 < l.length by omega))).1
    rw [if_pos (by omega), sub1 i h0 (by omega), if_pos (by omega), if_pos (by omega), ixP l i hi, ixP l (i - 1) (by omega), less_any _ _ (by omega), bnd_some, add1 i (by omega), isS_drop l i h0 hi]
    by_cases hc : lt l[i-1].1 l[i].1 = true
    · rw [hc, Bool.true_and]
      have := ih (i + 1) (by omega) (by omega)
      rw [show i + 1 - 1 = i by omega] at this
      rw [show notB true = false from rfl, br_f]
      exact this
    · have hc' : lt l[i-1].1 l[i].1 = false := by simpa using hc
      rw [hc', Bool.false_and, show notB false = true from rfl, br_t]
theorem refis_any (l : List PairV) (hl : l.length ≤ 1000000) (hs : ∀ p ∈ l, okP p) : ref07_Is l = some (isS l) := by
  rw [ref07_Is.eq]
  have := refis_loop l hl hs (l.length - 1) 1 (by omega) rfl
  rw [show (1 : Nat) - 1 = 0 by omega, List.drop_zero] at this
  exact this
/-! ### Alike -/
theorem eq_pair (p q : PairV) : andB (eqS p.1 q.1) (andB (eqS p.2.1 q.2.1) true) = decide (p = q) := by
  obtain ⟨a, b, _⟩ := p
  obtain ⟨c, d, _⟩ := q
  rw [eqS_d, eqS_d, show (true : Bool) = decide True from rfl, andB_d, andB_d]
  refine decide_eq_decide.2 ⟨fun ⟨h1, h2, _⟩ => ?_, fun h => ?_⟩
  · have h1 : a = c := h1
    have h2 : b = d := h2
    show (a, b, ()) = (c, d, ())
    rw [h1, h2]
  · injection h with h1 h2
    injection h2 with h2 h3
    exact ⟨h1, h2, trivial⟩
theorem drop_eq_iff {A : Type} {l m : List A} {i : Nat} (hl : i < l.length) (hm : i < m.length) : l.drop i = m.drop i ↔ l[i] = m[i] ∧ l.drop (i + 1) = m.drop (i + 1) := by
  rw [List.drop_eq_getElem_cons hl, List.drop_eq_getElem_cons hm, List.cons.injEq]
theorem equalP_loop (l m : List PairV) (hl : l.length ≤ 1000000) (hm : l.length = m.length) (d : Nat) : ∀ (i : Nat), i ≤ l.length → l.length - i = d → slices_Equalapi_Pair_api_Pair.l0 l m l.length i = some (decide (l.drop i = m.drop i)) := by
  induction d with
  | zero =>
    intro i h1 h2
    rw [slices_Equalapi_Pair_api_Pair.l0.eq]
    simp only [ltI_d, br_if]
    rw [if_neg (by omega), List.drop_eq_nil_of_le (by omega), List.drop_eq_nil_of_le (by omega), decide_eq_true rfl]
  | succ d ih =>
    intro i h1 h2
    rw [slices_Equalapi_Pair_api_Pair.l0.eq]
    simp only [ltI_d, leI_d, ofN_d, lenL_d, andB_d, eq_pair, notB_d, br_if]
    rw [if_pos (by omega), if_pos (by omega), if_pos (by omega), ixP l i (by omega), ixP m i (by omega), add1 i (by omega), ih (i + 1) (by omega) (by omega)]
    by_cases e : l[i] = m[i]
    · rw [if_neg (by intro h; exact h e)]
      exact some_bool (decide_eq_decide.2 (by rw [drop_eq_iff (show i < l.length by omega) (show i < m.length by omega)]; simp [e]))
    · rw [if_pos e]
      exact some_bool (decide_eq_false (by rw [drop_eq_iff (show i < l.length by omega) (show i < m.length by omega)]; exact fun h => e h.1)).symm
theorem equalP_any (l m : List PairV) (hl : l.length ≤ 1000000) : slices_Equalapi_Pair_api_Pair l m = some (decide (l = m)) := by
  rw [slices_Equalapi_Pair_api_Pair.eq]
  simp only [ofN_d, lenL_d, eqI_d, notB_d, br_if]
  by_cases h : l.length = m.length
  · rw [if_neg (by omega)]
    exact equalP_loop l m hl h l.length 0 (by omega) (by omega)
  · rw [if_pos (by omega)]
    exact some_bool (decide_eq_false (fun e => h (by rw [e]))).symm
theorem equalR_loop (l m : List Int) (hl : l.length ≤ 1000000) (hm : l.length = m.length) (d : Nat) : ∀ (i : Nat), i ≤ l.length → l.length - i = d → slices_Equalapi_Ref_api_Ref.l0 l m l.length i = some (decide (l.drop i = m.drop i)) := by
  induction d with
  | zero =>
    intro i h1 h2
    rw [slices_Equalapi_Ref_api_Ref.l0.eq]
    simp only [ltI_d, br_if]
    rw [if_neg (by omega), List.drop_eq_nil_of_le (by omega), List.drop_eq_nil_of_le (by omega), decide_eq_true rfl]
  | succ d ih =>
    intro i h1 h2
    rw [slices_Equalapi_Ref_api_Ref.l0.eq]
    simp only [ltI_d, leI_d, ofN_d, lenL_d, andB_d, eqI_d, notB_d, br_if]
    rw [if_pos (by omega), if_pos (by omega), if_pos (by omega), ixR l i (by omega), ixR m i (by omega), add1 i (by omega), ih (i + 1) (by omega) (by omega)]
    by_cases e : l[i] = m[i]
    · rw [if_neg (by intro h; exact h e)]
      exact some_bool (decide_eq_decide.2 (by rw [drop_eq_iff (show i < l.length by omega) (show i < m.length by omega)]; simp [e]))
    · rw [if_pos e]
      exact some_bool (decide_eq_false (by rw [drop_eq_iff (show i < l.length by omega) (show i < m.length by omega)]; exact fun h => e h.1)).symm
theorem equalR_any (l m : List Int) (hl : l.length ≤ 1000000) : slices_Equalapi_Ref_api_Ref l m = some (decide (l = m)) := by
  rw [slices_Equalapi_Ref_api_Ref.eq]
  simp only [ofN_d, lenL_d, eqI_d, notB_d, br_if]
  by_cases h : l.length = m.length
  · rw [if_neg (by omega)]
    exact equalR_loop l m hl h l.length 0 (by omega) (by omega)
  · rw [if_pos (by omega)]
    exact some_bool (decide_eq_false (fun e => h (by rw [e]))).symm
/-! ### Copies -/
theorem cloneP_any (l : List PairV) (hl : l.length ≤ 1000000) : slices_Cloneapi_Pair_api_Pair l = some ((), (l, ())) := by
  rw [slices_Cloneapi_Pair_api_Pair.eq]
  simp only [ofN_d, lenL_d, eqI_d, br_if, fitL_d, appL_d, List.nil_append]
  by_cases h : l.length = 0
  · rw [if_pos (by omega), if_pos (by omega), List.eq_nil_of_length_eq_zero h, both_self]
  · rw [if_neg (by omega), if_pos (by omega)]
theorem cloneR_any (l : List Int) (hl : l.length ≤ 1000000) : slices_Cloneapi_Ref_api_Ref l = some ((), (l, ())) := by
  rw [slices_Cloneapi_Ref_api_Ref.eq]
  simp only [ofN_d, lenL_d, eqI_d, br_if, fitL_d, appL_d, List.nil_append]
  by_cases h : l.length = 0
  · rw [if_pos (by omega), if_pos (by omega), List.eq_nil_of_length_eq_zero h, both_self]
  · rw [if_neg (by omega), if_pos (by omega)]
/-! ### Is one there? -/
theorem indexR_loop (l : List Int) (x : Int) (hl : l.length ≤ 1000000) (d : Nat) : ∀ (i : Nat), i ≤ l.length → l.length - i = d → ∃ r : Int, slices_Indexapi_Ref_api_Ref.l0 l x l.length i = some r ∧ (0 ≤ r ↔ x ∈ l.drop i) := by
  induction d with
  | zero =>
    intro i h1 h2
    rw [slices_Indexapi_Ref_api_Ref.l0.eq]
    simp only [ltI_d, br_if]
    rw [if_neg (by omega), List.drop_eq_nil_of_le (by omega)]
    exact ⟨_, rfl, by simp⟩
  | succ d ih =>
    intro i h1 h2
    rw [slices_Indexapi_Ref_api_Ref.l0.eq]
    simp only [ltI_d, leI_d, ofN_d, lenL_d, andB_d, eqI_d, br_if]
    rw [if_pos (by omega), if_pos (by omega), ixR l i (by omega), add1 i (by omega), List.drop_eq_getElem_cons (show i < l.length by omega)]
    by_cases e : x = l[i]
    · rw [if_pos e]
      exact ⟨_, rfl, fun _ => by rw [e]; exact List.mem_cons_self, fun _ => Int.natCast_nonneg i⟩
    · rw [if_neg e]
      obtain ⟨r, h3, h4⟩ := ih (i + 1) (by omega) (by omega)
      exact ⟨r, h3, by rw [h4, List.mem_cons]; exact ⟨Or.inr, fun h => h.resolve_left e⟩⟩
theorem containsR_any (l : List Int) (x : Int) (hl : l.length ≤ 1000000) : slices_Containsapi_Ref_api_Ref l x = some (decide (x ∈ l)) := by
  rw [slices_Containsapi_Ref_api_Ref.eq, slices_Indexapi_Ref_api_Ref.eq]
  simp only [ofN_d, lenL_d]
  obtain ⟨r, h1, h2⟩ := indexR_loop l x hl l.length 0 (by omega) (by omega)
  rw [show ((0 : Nat) : Int) = 0 from rfl] at h1
  rw [h1, bnd_some, leI_d]
  exact some_bool (decide_eq_decide.2 (by rw [h2, List.drop_zero]))
/-- Is a text of a binding too long? -/
def longP (p : PairV) : Bool := decide (16 < p.1.size) || decide (16 < p.2.1.size)
theorem long1_any (p : PairV) : node_long_1 p = some (longP p) := by
  rw [node_long_1.eq]
  simp only [ltI_d, ofN_d, lenS_d, br_if]
  unfold longP
  by_cases h : 16 < p.1.size
  · rw [if_pos (by omega), decide_eq_true h]; rfl
  · rw [if_neg (by omega), decide_eq_false h, Bool.false_or]
    exact some_bool (decide_eq_decide.2 (by omega))
theorem indexP_loop (l : List PairV) (hl : l.length ≤ 1000000) (d : Nat) : ∀ (i : Nat), i ≤ l.length → l.length - i = d → ∃ r : Int, slices_IndexFuncapi_Pair_api_Pair.l0 l l.length i = some r ∧ (0 ≤ r ↔ (l.drop i).any longP = true) := by
  induction d with
  | zero =>
    intro i h1 h2
    rw [slices_IndexFuncapi_Pair_api_Pair.l0.eq]
    simp only [ltI_d, br_if]
    rw [if_neg (by omega), List.drop_eq_nil_of_le (by omega)]
    exact ⟨_, rfl, by simp⟩
  | succ d ih =>
    intro i h1 h2
    rw [slices_IndexFuncapi_Pair_api_Pair.l0.eq]
    simp only [ltI_d, leI_d, ofN_d, lenL_d, andB_d, eqI_d, br_if]
    rw [if_pos (by omega), if_pos (by omega), ixP l i (by omega), add1 i (by omega), List.drop_eq_getElem_cons (show i < l.length by omega), long1_any, bnd_some, br_b]
    by_cases e : longP l[i] = true
    · rw [if_pos e]
      exact ⟨_, rfl, by rw [List.any_cons, e]; simp⟩
    · rw [if_neg e]
      obtain ⟨r, h3, h4⟩ := ih (i + 1) (by omega) (by omega)
      have e' : longP l[i] = false := by simpa using e
      exact ⟨r, h3, by rw [h4, List.any_cons, e', Bool.false_or]⟩
theorem longL_any (l : List PairV) (hl : l.length ≤ 1000000) : slices_ContainsFuncapi_Pair_api_Pair l = some (l.any longP) := by
  rw [slices_ContainsFuncapi_Pair_api_Pair.eq, slices_IndexFuncapi_Pair_api_Pair.eq]
  simp only [ofN_d, lenL_d]
  obtain ⟨r, h1, h2⟩ := indexP_loop l hl l.length 0 (by omega) (by omega)
  rw [show ((0 : Nat) : Int) = 0 from rfl] at h1
  rw [h1, bnd_some, leI_d]
  refine some_bool ?_
  rw [List.drop_zero] at h2
  cases h : l.any longP with
  | true => exact decide_eq_true (h2.2 h)
  | false => exact decide_eq_false (fun h3 => by rw [h2.1 h3] at h; cases h)
end Go.Proofs.Ytobfcaejpcpboaa.AV
