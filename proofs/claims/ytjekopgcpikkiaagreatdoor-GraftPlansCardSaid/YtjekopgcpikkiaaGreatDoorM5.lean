/- Texts of one proof, laid together: how the interpreter's words stand for the program's code and what the functions do. No conditions but those that each lemma names. -/
import Derived.Test.YtjekopgcpikkiaaGreatDoorM4
import Derived.Test.YtjekopgcpikkiaaGreatDoorM2
set_option linter.unusedSimpArgs false
set_option linter.unusedVariables false
set_option linter.unusedSimpArgs false
namespace Go.Proofs.YtjekopgcpikkiaaGreatDoor.AK
open Go.Abs
abbrev PairV : Type := ByteArray × ByteArray × Unit
theorem ixP (l : List PairV) (i : Nat) (h : i < l.length) : ixL tapiPair l (i : Int) = l[i] := ixL_d tapiPair l i h
theorem ixR (l : List Int) (i : Nat) (h : i < l.length) : ixL (.int .i64) l (i : Int) = l[i] := ixL_d (.int .i64) l i h
def cutP (p : PairV) : PairV := (cut 40 p.1, (cut 40 p.2.1, ()))
def fewL (l : List PairV) : List PairV := (l.take 40).map cutP
theorem few_loop (l : List PairV) (hl : l.length ≤ 9223372036854775807) (d : Nat) : ∀ (i : Nat), i ≤ l.length → i ≤ 40 → min l.length 40 - i = d → law07_Few.l0 l i ((l.take i).map cutP) = some (fewL l) := by
  have stop : ∀ i : Nat, i ≤ l.length → i ≤ 40 → min l.length 40 = i → some ((l.take i).map cutP) = some (fewL l) := by
    intro i h1 h2 h3
    unfold fewL
    by_cases h : l.length ≤ 40
    · rw [List.take_of_length_le (show l.length ≤ i by omega), List.take_of_length_le h]
    · rw [show i = 40 by omega]
  induction d with
  | zero =>
    intro i h1 h2 h3
    rw [law07_Few.l0.eq]
    simp only [ltI_d, ofN_d, lenL_d, br_if]
    have hs := stop i h1 h2 (by omega)
    by_cases hi : i < l.length
    · rw [if_pos (by omega), show decide ((i : Int) < 40) = false from decide_eq_false (by omega), law07_Few.j1.eq, br_f]
      exact hs
    · rw [if_neg (by omega), law07_Few.j1.eq, br_f]
      exact hs
  | succ d ih =>
    intro i h1 h2 h3
    have hi : i < l.length := by omega
    rw [law07_Few.l0.eq]
    simp only [ltI_d, ofN_d, lenL_d, br_if]
    rw [if_pos (by omega), show decide ((i : Int) < 40) = true from decide_eq_true (by omega), law07_Few.j1.eq, br_t]
    simp only [ltI_d, leI_d, ofN_d, lenL_d, andB_d, br_if, fitL_d, appL_d]
    rw [if_pos (by omega), if_pos (by omega), ixP l i hi, base_Cut_40, bnd_some, base_Cut_40, bnd_some]
    have hlen : ((l.take i).map cutP).length = i := by simp; omega
    rw [if_pos (by rw [List.length_append, hlen]; show i + 1 ≤ _; omega), add1 i (by omega)]
    have := ih (i + 1) (by omega) (by omega) (by omega)
    rw [List.take_succ_eq_append_getElem hi, List.map_append] at this
    exact this
theorem few_any (l : List PairV) (hl : l.length ≤ 9223372036854775807) : law07_Few l = some (fewL l) := by
  rw [law07_Few.eq]
  have := few_loop l hl (min l.length 40) 0 (by omega) (by omega) (by omega)
  rw [List.take_zero, List.map_nil, show ((0 : Nat) : Int) = 0 from rfl] at this
  exact this
theorem fewL_len (l : List PairV) : (fewL l).length ≤ 40 := by unfold fewL; simp; omega
def okP (p : PairV) : Prop := p.1.size ≤ 40 ∧ p.2.1.size ≤ 40
theorem fewL_ok (l : List PairV) : ∀ p ∈ fewL l, okP p := by
  intro p hp
  unfold fewL at hp
  obtain ⟨q, _, rfl⟩ := List.mem_map.1 hp
  constructor <;> (show (cut 40 _).size ≤ 40; rw [cut_size]; omega)
/-! ### In order -/
def isS : List PairV → Bool
  | a :: b :: r => lt a.1 b.1 && isS (b :: r)
  | _ => true
theorem isS_drop (l : List PairV) (i : Nat) (h0 : 0 < i) (hi : i < l.length) : isS (l.drop (i - 1)) = (lt l[i-1].1 l[i].1 && isS (l.drop i)) := by
  rw [List.drop_eq_getElem_cons (show i - 1 < l.length by omega), show i - 1 + 1 = i by omega, List.drop_eq_getElem_cons hi]
  rfl
theorem isS_end (l : List PairV) (i : Nat) (hi : l.length ≤ i + 1) : isS (l.drop i) = true := by
  have : (l.drop i).length ≤ 1 := by rw [List.length_drop]; omega
  generalize l.drop i = r at this
  match r, this with
  | [], _ => rfl
  | [a], _ => rfl
  | _ :: _ :: _, h => exact absurd h (by simp)
theorem is_loop (l : List PairV) (hl : l.length ≤ 50000000) (hs : ∀ p ∈ l, okP p) (d : Nat) : ∀ (i : Nat), 0 < i → i ≤ l.length → l.length - i = d → pair_Is.l0 l l.length i = some (isS (l.drop (i - 1))) := by
  induction d with
  | zero =>
    intro i h0 h1 h2
    rw [pair_Is.l0.eq]
    simp only [ltI_d, br_if]
    rw [if_neg (by omega), isS_end l (i - 1) (by omega)]
  | succ d ih =>
    intro i h0 h1 h2
    have hi : i < l.length := by omega
    rw [pair_Is.l0.eq]
    simp only [ltI_d, leI_d, ofN_d, lenL_d, andB_d, br_if]
    have ha := (hs _ (List.getElem_mem (show i - 1 < l.length by omega))).1
    rw [if_pos (by omega), if_pos (by omega), sub1 i h0 (by omega), if_pos (by omega), if_pos (by omega), ixP l i hi, ixP l (i - 1) (by omega), compare_any _ _ (by omega), bnd_some, add1 i (by omega), isS_drop l i h0 hi]
    by_cases hc : lt l[i-1].1 l[i].1 = true
    · rw [if_neg (by have := cmp_neg.2 hc; omega), hc, Bool.true_and]
      have := ih (i + 1) (by omega) (by omega) (by omega)
      rw [show i + 1 - 1 = i by omega] at this
      exact this
    · have hc' : lt l[i-1].1 l[i].1 = false := by simpa using hc
      rw [if_pos (by have : ¬ cmp l[i-1].1 l[i].1 < 0 := fun h => hc (cmp_neg.1 h); omega), hc', Bool.false_and]
theorem is_any (l : List PairV) (hl : l.length ≤ 50000000) (hs : ∀ p ∈ l, okP p) : pair_Is l = some (isS l) := by
  rw [pair_Is.eq]
  simp only [ofN_d, lenL_d]
  by_cases h : l.length = 0
  · rw [pair_Is.l0.eq]
    simp only [ltI_d, br_if]
    rw [if_neg (by omega), List.eq_nil_of_length_eq_zero h]
    rfl
  · rw [pair_Is.l0.eq]
    simp only [ltI_d, br_if]
    rw [if_pos (by omega), if_neg (by omega)]
    have := is_loop l hl hs (l.length - 1) 1 (by omega) (by omega) rfl
    rw [show (1 : Nat) - 1 = 0 by omega, List.drop_zero] at this
    have e : addI .i64 0 1 = ((1 : Nat) : Int) := add1 0 (by omega)
    rw [e]
    exact this
theorem refis_loop (l : List PairV) (hl : l.length ≤ 50000000) (hs : ∀ p ∈ l, okP p) (d : Nat) : ∀ (i : Nat), 0 < i → l.length - i = d → ref07_Is.l0 l i = some (isS (l.drop (i - 1))) := by
  induction d with
  | zero =>
    intro i h0 h2
    rw [ref07_Is.l0.eq]
    simp only [ltI_d, ofN_d, lenL_d, br_if]
    rw [if_neg (by omega), isS_end l (i - 1) (by omega)]
  | succ d ih =>
    intro i h0 h2
    have hi : i < l.length := by omega
    rw [ref07_Is.l0.eq]
    simp only [ltI_d, leI_d, ofN_d, lenL_d, andB_d, br_if]
    have ha := (hs _ (List.getElem_mem (show i - 1 < l.length by omega))).1
    rw [if_pos (by omega), sub1 i h0 (by omega), if_pos (by omega), if_pos (by omega), ixP l i hi, ixP l (i - 1) (by omega), less_any _ _ (by omega), bnd_some, add1 i (by omega), isS_drop l i h0 hi]
    by_cases hc : lt l[i-1].1 l[i].1 = true
    · rw [hc, Bool.true_and]
      have := ih (i + 1) (by omega) (by omega)
      rw [show i + 1 - 1 = i by omega] at this
      rw [show notB true = false from rfl, br_f]
      exact this
    · have hc' : lt l[i-1].1 l[i].1 = false := by simpa using hc
      rw [hc', Bool.false_and, show notB false = true from rfl, br_t]
theorem refis_any (l : List PairV) (hl : l.length ≤ 50000000) (hs : ∀ p ∈ l, okP p) : ref07_Is l = some (isS l) := by
  rw [ref07_Is.eq]
  have := refis_loop l hl hs (l.length - 1) 1 (by omega) rfl
  rw [show (1 : Nat) - 1 = 0 by omega, List.drop_zero] at this
  exact this
/-! ### Alike -/
theorem eq_pair (p q : PairV) : andB (eqS p.1 q.1) (andB (eqS p.2.1 q.2.1) true) = decide (p = q) := by
  obtain ⟨a, b, _⟩ := p
  obtain ⟨c, d, _⟩ := q
  rw [eqS_d, eqS_d, show (true : Bool) = decide True from rfl, andB_d, andB_d]
  refine decide_eq_decide.2 ⟨fun ⟨h1, h2, _⟩ => ?_, fun h => ?_⟩
  · have h1 : a = c := h1
    have h2 : b = d := h2
    show (a, b, ()) = (c, d, ())
    rw [h1, h2]
  · injection h with h1 h2
    injection h2 with h2 h3
    exact ⟨h1, h2, trivial⟩
theorem drop_eq_iff {A : Type} {l m : List A} {i : Nat} (hl : i < l.length) (hm : i < m.length) : l.drop i = m.drop i ↔ l[i] = m[i] ∧ l.drop (i + 1) = m.drop (i + 1) := by
  rw [List.drop_eq_getElem_cons hl, List.drop_eq_getElem_cons hm, List.cons.injEq]
theorem equalP_loop (l m : List PairV) (hl : l.length ≤ 50000000) (hm : l.length = m.length) (d : Nat) : ∀ (i : Nat), i ≤ l.length → l.length - i = d → slices_Equalapi_Pair_api_Pair.l0 l m l.length i = some (decide (l.drop i = m.drop i)) := by
  induction d with
  | zero =>
    intro i h1 h2
    rw [slices_Equalapi_Pair_api_Pair.l0.eq]
    simp only [ltI_d, br_if]
    rw [if_neg (by omega), List.drop_eq_nil_of_le (by omega), List.drop_eq_nil_of_le (by omega), decide_eq_true rfl]
  | succ d ih =>
    intro i h1 h2
    rw [slices_Equalapi_Pair_api_Pair.l0.eq]
    simp only [ltI_d, leI_d, ofN_d, lenL_d, andB_d, eq_pair, notB_d, br_if]
    rw [if_pos (by omega), if_pos (by omega), if_pos (by omega), ixP l i (by omega), ixP m i (by omega), add1 i (by omega), ih (i + 1) (by omega) (by omega)]
    by_cases e : l[i] = m[i]
    · rw [if_neg (by intro h; exact h e)]
      exact some_bool (decide_eq_decide.2 (by rw [drop_eq_iff (show i < l.length by omega) (show i < m.length by omega)]; simp [e]))
    · rw [if_pos e]
      exact some_bool (decide_eq_false (by rw [drop_eq_iff (show i < l.length by omega) (show i < m.length by omega)]; exact fun h => e h.1)).symm
theorem equalP_any (l m : List PairV) (hl : l.length ≤ 50000000) : slices_Equalapi_Pair_api_Pair l m = some (decide (l = m)) := by
  rw [slices_Equalapi_Pair_api_Pair.eq]
  simp only [ofN_d, lenL_d, eqI_d, notB_d, br_if]
  by_cases h : l.length = m.length
  · rw [if_neg (by omega)]
    exact equalP_loop l m hl h l.length 0 (by omega) (by omega)
  · rw [if_pos (by omega)]
    exact some_bool (decide_eq_false (fun e => h (by rw [e]))).symm
theorem equalR_loop (l m : List Int) (hl : l.length ≤ 50000000) (hm : l.length = m.length) (d : Nat) : ∀ (i : Nat), i ≤ l.length → l.length - i = d → slices_Equalapi_Ref_api_Ref.l0 l m l.length i = some (decide (l.drop i = m.drop i)) := by
  induction d with
  | zero =>
    intro i h1 h2
    rw [slices_Equalapi_Ref_api_Ref.l0.eq]
    simp only [ltI_d, br_if]
    rw [if_neg (by omega), List.drop_eq_nil_of_le (by omega), List.drop_eq_nil_of_le (by omega), decide_eq_true rfl]
  | succ d ih =>
    intro i h1 h2
    rw [slices_Equalapi_Ref_api_Ref.l0.eq]
    simp only [ltI_d, leI_d, ofN_d, lenL_d, andB_d, eqI_d, notB_d, br_if]
    rw [if_pos (by omega), if_pos (by omega), if_pos (by omega), ixR l i (by omega), ixR m i (by omega), add1 i (by omega), ih (i + 1) (by omega) (by omega)]
    by_cases e : l[i] = m[i]
    · rw [if_neg (by intro h; exact h e)]
      exact some_bool (decide_eq_decide.2 (by rw [drop_eq_iff (show i < l.length by omega) (show i < m.length by omega)]; simp [e]))
    · rw [if_pos e]
      exact some_bool (decide_eq_false (by rw [drop_eq_iff (show i < l.length by omega) (show i < m.length by omega)]; exact fun h => e h.1)).symm
theorem equalR_any (l m : List Int) (hl : l.length ≤ 50000000) : slices_Equalapi_Ref_api_Ref l m = some (decide (l = m)) := by
  rw [slices_Equalapi_Ref_api_Ref.eq]
  simp only [ofN_d, lenL_d, eqI_d, notB_d, br_if]
  by_cases h : l.length = m.length
  · rw [if_neg (by omega)]
    exact equalR_loop l m hl h l.length 0 (by omega) (by omega)
  · rw [if_pos (by omega)]
    exact some_bool (decide_eq_false (fun e => h (by rw [e]))).symm
/-! ### Copies -/
theorem cloneP_any (l : List PairV) (hl : l.length ≤ 50000000) : slices_Cloneapi_Pair_api_Pair l = some ((), (l, ())) := by
  rw [slices_Cloneapi_Pair_api_Pair.eq]
  simp only [ofN_d, lenL_d, eqI_d, br_if, fitL_d, appL_d, List.nil_append]
  by_cases h : l.length = 0
  · rw [if_pos (by omega), if_pos (by omega), List.eq_nil_of_length_eq_zero h, both_self]
  · rw [if_neg (by omega), if_pos (by omega)]
theorem cloneR_any (l : List Int) (hl : l.length ≤ 50000000) : slices_Cloneapi_Ref_api_Ref l = some ((), (l, ())) := by
  rw [slices_Cloneapi_Ref_api_Ref.eq]
  simp only [ofN_d, lenL_d, eqI_d, br_if, fitL_d, appL_d, List.nil_append]
  by_cases h : l.length = 0
  · rw [if_pos (by omega), if_pos (by omega), List.eq_nil_of_length_eq_zero h, both_self]
  · rw [if_neg (by omega), if_pos (by omega)]
/-! ### Is one there? -/
theorem indexR_loop (l : List Int) (x : Int) (hl : l.length ≤ 50000000) (d : Nat) : ∀ (i : Nat), i ≤ l.length → l.length - i = d → ∃ r : Int, slices_Indexapi_Ref_api_Ref.l0 l x l.length i = some r ∧ (0 ≤ r ↔ x ∈ l.drop i) := by
  induction d with
  | zero =>
    intro i h1 h2
    rw [slices_Indexapi_Ref_api_Ref.l0.eq]
    simp only [ltI_d, br_if]
    rw [if_neg (by omega), List.drop_eq_nil_of_le (by omega)]
    exact ⟨_, rfl, by simp⟩
  | succ d ih =>
    intro i h1 h2
    rw [slices_Indexapi_Ref_api_Ref.l0.eq]
    simp only [ltI_d, leI_d, ofN_d, lenL_d, andB_d, eqI_d, br_if]
    rw [if_pos (by omega), if_pos (by omega), ixR l i (by omega), add1 i (by omega), List.drop_eq_getElem_cons (show i < l.length by omega)]
    by_cases e : x = l[i]
    · rw [if_pos e]
      exact ⟨_, rfl, fun _ => by rw [e]; exact List.mem_cons_self, fun _ => Int.natCast_nonneg i⟩
    · rw [if_neg e]
      obtain ⟨r, h3, h4⟩ := ih (i + 1) (by omega) (by omega)
      exact ⟨r, h3, by rw [h4, List.mem_cons]; exact ⟨Or.inr, fun h => h.resolve_left e⟩⟩
theorem containsR_any (l : List Int) (x : Int) (hl : l.length ≤ 50000000) : slices_Containsapi_Ref_api_Ref l x = some (decide (x ∈ l)) := by
  rw [slices_Containsapi_Ref_api_Ref.eq, slices_Indexapi_Ref_api_Ref.eq]
  simp only [ofN_d, lenL_d]
  obtain ⟨r, h1, h2⟩ := indexR_loop l x hl l.length 0 (by omega) (by omega)
  rw [show ((0 : Nat) : Int) = 0 from rfl] at h1
  rw [h1, bnd_some, leI_d]
  exact some_bool (decide_eq_decide.2 (by rw [h2, List.drop_zero]))
def longP (p : PairV) : Bool := decide (16 < p.1.size) || decide (16 < p.2.1.size)
theorem long1_any (p : PairV) : node_long_1 p = some (longP p) := by
  rw [node_long_1.eq]
  simp only [ltI_d, ofN_d, lenS_d, br_if]
  unfold longP
  by_cases h : 16 < p.1.size
  · rw [if_pos (by omega), decide_eq_true h]; rfl
  · rw [if_neg (by omega), decide_eq_false h, Bool.false_or]
    exact some_bool (decide_eq_decide.2 (by omega))
theorem indexP_loop (l : List PairV) (hl : l.length ≤ 50000000) (d : Nat) : ∀ (i : Nat), i ≤ l.length → l.length - i = d → ∃ r : Int, slices_IndexFuncapi_Pair_api_Pair.l0 l l.length i = some r ∧ (0 ≤ r ↔ (l.drop i).any longP = true) := by
  induction d with
  | zero =>
    intro i h1 h2
    rw [slices_IndexFuncapi_Pair_api_Pair.l0.eq]
    simp only [ltI_d, br_if]
    rw [if_neg (by omega), List.drop_eq_nil_of_le (by omega)]
    exact ⟨_, rfl, by simp⟩
  | succ d ih =>
    intro i h1 h2
    rw [slices_IndexFuncapi_Pair_api_Pair.l0.eq]
    simp only [ltI_d, leI_d, ofN_d, lenL_d, andB_d, eqI_d, br_if]
    rw [if_pos (by omega), if_pos (by omega), ixP l i (by omega), add1 i (by omega), List.drop_eq_getElem_cons (show i < l.length by omega), long1_any, bnd_some, br_b]
    by_cases e : longP l[i] = true
    · rw [if_pos e]
      exact ⟨_, rfl, by rw [List.any_cons, e]; simp⟩
    · rw [if_neg e]
      obtain ⟨r, h3, h4⟩ := ih (i + 1) (by omega) (by omega)
      have e' : longP l[i] = false := by simpa using e
      exact ⟨r, h3, by rw [h4, List.any_cons, e', Bool.false_or]⟩
theorem longL_any (l : List PairV) (hl : l.length ≤ 50000000) : slices_ContainsFuncapi_Pair_api_Pair l = some (l.any longP) := by
  rw [slices_ContainsFuncapi_Pair_api_Pair.eq, slices_IndexFuncapi_Pair_api_Pair.eq]
  simp only [ofN_d, lenL_d]
  obtain ⟨r, h1, h2⟩ := indexP_loop l hl l.length 0 (by omega) (by omega)
  rw [show ((0 : Nat) : Int) = 0 from rfl] at h1
  rw [h1, bnd_some, leI_d]
  refine some_bool ?_
  rw [List.drop_zero] at h2
  cases h : l.any longP with
  | true => exact decide_eq_true (h2.2 h)
  | false => exact decide_eq_false (fun h3 => by rw [h2.1 h3] at h; cases h)
end Go.Proofs.YtjekopgcpikkiaaGreatDoor.AK
set_option linter.unusedVariables false
set_option linter.unusedSimpArgs false
namespace Go.Proofs.YtjekopgcpikkiaaGreatDoor.AK
open Go.Abs
def putS : List PairV → PairV → List PairV
  | [], p => [p]
  | q :: qs, p => if lt q.1 p.1 = true then q :: putS qs p else if q.1 = p.1 then p :: qs else p :: q :: qs
def makeS (l : List PairV) : List PairV := l.foldl putS []
def Srt (l : List PairV) : Prop := l.Pairwise fun a b => lt a.1 b.1 = true
theorem putS_len (p : PairV) : ∀ l, (putS l p).length ≤ l.length + 1
  | [] => by simp [putS]
  | q :: qs => by
    have := putS_len p qs
    unfold putS
    split
    · simp; omega
    · split <;> simp
theorem putS_mem {p x : PairV} : ∀ {l : List PairV}, x ∈ putS l p → x = p ∨ x ∈ l
  | [], h => by simp [putS] at h; exact .inl h
  | q :: qs, h => by
    unfold putS at h
    split at h
    · rcases List.mem_cons.1 h with h | h
      · exact .inr (h ▸ List.mem_cons_self)
      · exact (putS_mem h).imp id (List.mem_cons_of_mem _)
    · split at h
      · rcases List.mem_cons.1 h with h | h
        · exact .inl h
        · exact .inr (List.mem_cons_of_mem _ h)
      · rcases List.mem_cons.1 h with h | h
        · exact .inl h
        · exact .inr h
theorem putS_srt (p : PairV) : ∀ {l : List PairV}, Srt l → Srt (putS l p)
  | [], _ => List.pairwise_singleton _ _
  | q :: qs, h => by
    obtain ⟨h1, h2⟩ := List.pairwise_cons.1 h
    unfold putS
    split
    · rename_i hl
      refine List.pairwise_cons.2 ⟨fun x hx => ?_, putS_srt p h2⟩
      rcases putS_mem hx with rfl | hx
      · exact hl
      · exact h1 x hx
    · rename_i hl
      split
      · rename_i he
        exact List.pairwise_cons.2 ⟨fun x hx => he ▸ h1 x hx, h2⟩
      · rename_i he
        have hlt : lt p.1 q.1 = true := (lt_total (fun e => he e.symm)).resolve_right hl
        refine List.pairwise_cons.2 ⟨fun x hx => ?_, h⟩
        rcases List.mem_cons.1 hx with rfl | hx
        · exact hlt
        · exact lt_trans hlt (h1 x hx)
theorem putS_at (p : PairV) : ∀ (l : List PairV) (i : Nat), i ≤ l.length → (∀ (a : Nat) (h : a < l.length), a < i → lt l[a].1 p.1 = true) → (∀ (h : i < l.length), lt l[i].1 p.1 = false) →
    putS l p = if ∃ h : i < l.length, l[i].1 = p.1 then l.set i p else l.take i ++ p :: l.drop i
  | [], i, h0, _, _ => by
    have : i = 0 := by simpa using h0
    subst this
    rw [if_neg (by rintro ⟨h, _⟩; simp at h)]
    rfl
  | q :: qs, 0, _, _, h2 => by
    have hq : lt q.1 p.1 = false := h2 (by simp)
    unfold putS
    rw [if_neg (by rw [hq]; simp)]
    by_cases he : q.1 = p.1
    · rw [if_pos he, if_pos ⟨by simp, he⟩]; rfl
    · rw [if_neg he, if_neg (by rintro ⟨_, h⟩; exact he h)]; rfl
  | q :: qs, i + 1, h0, h1, h2 => by
    have hq : lt q.1 p.1 = true := h1 0 (by simp) (by omega)
    unfold putS
    rw [if_pos hq, putS_at p qs i (by simpa using h0) (fun a h ha => h1 (a + 1) (by simpa using h) (by omega)) (fun h => h2 (by simpa using h))]
    by_cases he : ∃ h : i < qs.length, qs[i].1 = p.1
    · rw [if_pos he, if_pos (by obtain ⟨h, e⟩ := he; exact ⟨by simpa using h, e⟩)]; rfl
    · rw [if_neg he, if_neg (by rintro ⟨h, e⟩; exact he ⟨by simpa using h, e⟩)]; rfl
theorem srt_get {l : List PairV} (h : Srt l) {a b : Nat} (hb : b < l.length) (hab : a < b) : lt l[a].1 l[b].1 = true := List.pairwise_iff_getElem.1 h a b (by omega) hb hab
theorem wrap_u64_id {x : Int} (h0 : 0 ≤ x) (h1 : x < 18446744073709551616) : IntKind.u64.wrap x = x := by
  have : IntKind.u64.wrap x = x % 18446744073709551616 := by simp [IntKind.wrap, IntKind.bits, IntKind.signed]
  rw [this]; omega
theorem mid (i j : Nat) (h : i + j ≤ 100000000) : wrapI .i64 (shrI .u64 (wrapI .u64 (addI .i64 (i : Int) (j : Int))) 1) = (((i + j) / 2 : Nat) : Int) := by
  rw [addI_d (by omega) (by omega)]
  unfold wrapI
  rw [wrap_u64_id (by omega) (by omega), show ((i : Int) + (j : Int)) = ((i + j : Nat) : Int) by omega]
  have := shr_div (i + j) 1 .u64 (by decide)
  rw [show ((1 : Nat) : Int) = 1 from rfl, Nat.pow_one] at this
  rw [this]
  exact wrap_i64_id (by omega) (by omega)
theorem place1_any (p : PairV) (k : ByteArray) (hp : okP p) : pair_place_1 p k = some (cmp p.1 k) := by
  rw [pair_place_1.eq, compare_any _ _ (by have := hp.1; omega), bnd_some]
theorem search_loop (l : List PairV) (k : ByteArray) (hl : l.length ≤ 50000000) (hs : ∀ p ∈ l, okP p) (hS : Srt l) : ∀ (d i j : Nat), j - i ≤ d → i ≤ j → j ≤ l.length → (∀ (a : Nat) (h : a < l.length), a < i → lt l[a].1 k = true) → (∀ (a : Nat) (h : a < l.length), j ≤ a → lt l[a].1 k = false) →
    ∃ pos : Nat, slices_BinarySearchFuncapi_Pair_api_Pair_string.l0 l k l.length i j = some ((pos : Int), (decide (∃ h : pos < l.length, l[pos].1 = k), ())) ∧ pos ≤ l.length ∧ (∀ (a : Nat) (h : a < l.length), a < pos → lt l[a].1 k = true) ∧ (∀ (a : Nat) (h : a < l.length), pos ≤ a → lt l[a].1 k = false) := by
  intro d
  induction d with
  | zero =>
    intro i j h0 h1 h2 h3 h4
    have hij : j = i := by omega
    subst hij
    rw [slices_BinarySearchFuncapi_Pair_api_Pair_string.l0.eq]
    simp only [ltI_d, leI_d, ofN_d, lenL_d, andB_d, eqI_d, br_if]
    rw [if_neg (by omega)]
    by_cases hn : j < l.length
    · rw [if_pos (by omega), if_pos (by omega), ixP l j hn, place1_any _ _ (hs _ (List.getElem_mem hn)), bnd_some]
      refine ⟨j, ?_, h2, h3, h4⟩
      have : decide (cmp l[j].1 k = 0) = decide (∃ h : j < l.length, l[j].1 = k) := decide_eq_decide.2 ⟨fun h => ⟨hn, cmp_eq.1 h⟩, fun ⟨_, h⟩ => cmp_eq.2 h⟩
      rw [this]
    · rw [if_neg (by omega)]
      refine ⟨j, ?_, h2, h3, h4⟩
      have : (false : Bool) = decide (∃ h : j < l.length, l[j].1 = k) := (decide_eq_false (fun ⟨h, _⟩ => hn h)).symm
      rw [← this]
  | succ d ih =>
    intro i j h0 h1 h2 h3 h4
    by_cases hij : i = j
    · exact ih i j (by omega) h1 h2 h3 h4
    have hm := mid i j (by omega)
    have hlt : (i + j) / 2 < l.length := by omega
    rw [slices_BinarySearchFuncapi_Pair_api_Pair_string.l0.eq, hm]
    simp only [ltI_d, leI_d, ofN_d, lenL_d, andB_d, eqI_d, br_if]
    rw [if_pos (by omega), if_pos (by omega), if_pos (by omega), ixP l _ hlt, place1_any _ _ (hs _ (List.getElem_mem hlt)), bnd_some, add1 _ (by omega)]
    by_cases hc : lt l[(i + j) / 2].1 k = true
    · rw [if_pos (cmp_neg.2 hc)]
      refine ih _ j (by omega) (by omega) h2 (fun a h ha => ?_) h4
      by_cases he : a = (i + j) / 2
      · subst he; exact hc
      · exact lt_trans (srt_get hS hlt (show a < (i + j) / 2 by omega)) hc
    · rw [if_neg (fun h => hc (cmp_neg.1 h))]
      refine ih i _ (by omega) (by omega) (by omega) h3 (fun a h ha => ?_)
      cases hk : lt l[a].1 k with
      | false => rfl
      | true =>
        exfalso
        by_cases he : (i + j) / 2 = a
        · subst he; exact hc hk
        · exact hc (lt_trans (srt_get hS h (show (i + j) / 2 < a by omega)) hk)
theorem place_any (l : List PairV) (k : ByteArray) (hl : l.length ≤ 50000000) (hs : ∀ p ∈ l, okP p) (hS : Srt l) :
    ∃ pos : Nat, pair_place l k = some ((pos : Int), (decide (∃ h : pos < l.length, l[pos].1 = k), ())) ∧ pos ≤ l.length ∧ (∀ (a : Nat) (h : a < l.length), a < pos → lt l[a].1 k = true) ∧ (∀ (a : Nat) (h : a < l.length), pos ≤ a → lt l[a].1 k = false) := by
  obtain ⟨pos, h1, h2⟩ := search_loop l k hl hs hS l.length 0 l.length (by omega) (by omega) (by omega) (fun a h h' => by omega) (fun a h h' => by omega)
  refine ⟨pos, ?_, h2⟩
  rw [pair_place.eq, slices_BinarySearchFuncapi_Pair_api_Pair_string.eq]
  simp only [ofN_d, lenL_d]
  rw [show ((0 : Nat) : Int) = 0 from rfl] at h1
  rw [h1, bnd_some]
theorem put_any (l : List PairV) (p : PairV) (hl : l.length ≤ 45000000) (hs : ∀ q ∈ l, okP q) (hS : Srt l) : pair_put l p = some ((), (putS l p, ())) := by
  obtain ⟨pos, h1, h2, h3, h4⟩ := place_any l p.1 (by omega) hs hS
  have hput := putS_at p l pos h2 h3 (fun h => h4 pos h (Nat.le_refl _))
  rw [pair_put.eq, h1, bnd_some]
  simp only [br_if]
  by_cases he : ∃ h : pos < l.length, l[pos].1 = p.1
  · rw [if_pos he, cloneP_any l (by omega), bnd_some]
    simp only [ltI_d, leI_d, ofN_d, lenL_d, andB_d, br_if]
    rw [if_pos (by obtain ⟨h, _⟩ := he; omega), hput, if_pos he]
    unfold setL
    rw [Int.toNat_natCast]
  · rw [if_neg he, cloneP_any l (by omega), bnd_some, slices_Insertapi_Pair_api_Pair.eq]
    have hg : insG tapiPair l (pos : Int) [p] = true := by
      unfold insG
      refine decide_eq_true ⟨by omega, ?_, ?_, ?_⟩
      · show pos ≤ l.length; exact h2
      · show 0 < 1; omega
      · show l.length + 1 ≤ _; omega
    rw [hg, br_t, bnd_some, both_self, hput, if_neg he]
    unfold insL
    rw [Int.toNat_natCast, List.append_assoc]
    rfl
theorem putS_ok {l : List PairV} {p : PairV} (hl : ∀ q ∈ l, okP q) (hp : okP p) : ∀ q ∈ putS l p, okP q := fun q hq => by
  rcases putS_mem hq with rfl | h
  · exact hp
  · exact hl q h
theorem make_loop (l : List PairV) (hl : l.length ≤ 40000000) (hs : ∀ p ∈ l, okP p) (d : Nat) : ∀ (i : Nat) (acc : List PairV), i ≤ l.length → l.length - i = d → acc.length ≤ i → (∀ q ∈ acc, okP q) → Srt acc → pair_Make.l0 l l.length i acc = some ((l.drop i).foldl putS acc) := by
  induction d with
  | zero =>
    intro i acc h1 h2 h3 h4 h5
    rw [pair_Make.l0.eq]
    simp only [ltI_d, br_if]
    rw [if_neg (by omega), List.drop_eq_nil_of_le (by omega)]
    rfl
  | succ d ih =>
    intro i acc h1 h2 h3 h4 h5
    have hi : i < l.length := by omega
    rw [pair_Make.l0.eq]
    simp only [ltI_d, leI_d, ofN_d, lenL_d, andB_d, br_if]
    rw [if_pos (by omega), if_pos (by omega), ixP l i hi, put_any acc _ (by omega) h4 h5, bnd_some, add1 i (by omega), List.drop_eq_getElem_cons hi]
    have := putS_len l[i] acc
    exact ih (i + 1) (putS acc l[i]) (by omega) (by omega) (by omega) (putS_ok h4 (hs _ (List.getElem_mem hi))) (putS_srt _ h5)
theorem make_any (l : List PairV) (hl : l.length ≤ 40000000) (hs : ∀ p ∈ l, okP p) : pair_Make l = some (makeS l) := by
  rw [pair_Make.eq]
  simp only [ofN_d, lenL_d]
  have := make_loop l hl hs l.length 0 [] (by omega) (by omega) (by simp) (by simp) List.Pairwise.nil
  rw [List.drop_zero, show ((0 : Nat) : Int) = 0 from rfl] at this
  exact this
theorem foldl_len : ∀ (l acc : List PairV), (l.foldl putS acc).length ≤ acc.length + l.length
  | [], acc => by simp
  | p :: l, acc => by
    have h1 := foldl_len l (putS acc p)
    have h2 := putS_len p acc
    simp only [List.foldl_cons, List.length_cons]
    omega
theorem makeS_len (l : List PairV) : (makeS l).length ≤ l.length := by have := foldl_len l []; unfold makeS; simpa using this
theorem putS_end (p : PairV) : ∀ (l : List PairV), (∀ q ∈ l, lt q.1 p.1 = true) → putS l p = l ++ [p]
  | [], _ => rfl
  | q :: qs, h => by
    unfold putS
    rw [if_pos (h q List.mem_cons_self), putS_end p qs fun x hx => h x (List.mem_cons_of_mem _ hx)]
    rfl
theorem foldl_srt : ∀ (l acc : List PairV), Srt (acc ++ l) → l.foldl putS acc = acc ++ l
  | [], acc, _ => by simp
  | p :: l, acc, h => by
    rw [List.foldl_cons, putS_end p acc (fun q hq => (List.pairwise_append.1 h).2.2 q hq p List.mem_cons_self), foldl_srt l (acc ++ [p]) (by simpa using h)]
    simp
theorem makeS_srt {l : List PairV} (h : Srt l) : makeS l = l := by
  have := foldl_srt l [] (by simpa using h)
  simpa [makeS] using this
theorem isS_srt : ∀ {l : List PairV}, isS l = true → Srt l
  | [], _ => List.Pairwise.nil
  | [a], _ => List.pairwise_singleton _ _
  | a :: b :: r, h => by
    have h' : (lt a.1 b.1 && isS (b :: r)) = true := h
    rw [Bool.and_eq_true] at h'
    have hr := isS_srt h'.2
    refine List.pairwise_cons.2 ⟨fun x hx => ?_, hr⟩
    rcases List.mem_cons.1 hx with rfl | hx
    · exact h'.1
    · exact lt_trans h'.1 ((List.pairwise_cons.1 hr).1 x hx)
end Go.Proofs.YtjekopgcpikkiaaGreatDoor.AK
set_option linter.unusedVariables false
set_option linter.unusedSimpArgs false
namespace Go.Proofs.YtjekopgcpikkiaaGreatDoor.AK
open Go.Abs
abbrev NodeV : Type := Int × ByteArray × ByteArray × Int × List Int × Int × List PairV × Int × Int × Unit
def few (n : NodeV) : NodeV := (n.1, (cut 40 n.2.1, (cut 40 n.2.2.1, (n.2.2.2.1, (n.2.2.2.2.1.take 40, (n.2.2.2.2.2.1, (fewL n.2.2.2.2.2.2.1, n.2.2.2.2.2.2.2)))))))
structure okN (n : NodeV) : Prop where
  key : n.2.1.size ≤ 40
  val : n.2.2.1.size ≤ 40
  map0 : 0 ≤ n.2.2.2.1
  map1 : n.2.2.2.1 < 4294967296
  kids : n.2.2.2.2.1.length ≤ 1000000
  list : n.2.2.2.2.2.2.1.length ≤ 1000000
  binds : ∀ p ∈ n.2.2.2.2.2.2.1, okP p
theorem wf_u32 {a : Int} (h : (Lit.int .u32 a).wf = true) : 0 ≤ a ∧ a < 4294967296 := by
  simp [Lit.wf, IntKind.min, IntKind.max, IntKind.bits, IntKind.signed] at h
  omega
theorem few_okN {n : NodeV} (h : wfD tapiNode n) : okN (few n) := by
  obtain ⟨_, _, _, hm, _⟩ := h
  obtain ⟨h0, h1⟩ := wf_u32 hm
  refine ⟨?_, ?_, h0, h1, ?_, Nat.le_trans (fewL_len _) (by omega), fewL_ok _⟩
  · show (cut 40 _).size ≤ 40; rw [cut_size]; omega
  · show (cut 40 _).size ≤ 40; rw [cut_size]; omega
  · show (List.take 40 _).length ≤ 1000000; rw [List.length_take]; omega
/-! ### Alike -/
theorem node_ext {a b : NodeV} : a = b ↔ a.1 = b.1 ∧ a.2.1 = b.2.1 ∧ a.2.2.1 = b.2.2.1 ∧ a.2.2.2.1 = b.2.2.2.1 ∧ a.2.2.2.2.1 = b.2.2.2.2.1 ∧ a.2.2.2.2.2.1 = b.2.2.2.2.2.1 ∧ a.2.2.2.2.2.2.1 = b.2.2.2.2.2.2.1 ∧ a.2.2.2.2.2.2.2.1 = b.2.2.2.2.2.2.2.1 ∧ a.2.2.2.2.2.2.2.2.1 = b.2.2.2.2.2.2.2.2.1 := by
  refine ⟨fun h => by subst h; exact ⟨rfl, rfl, rfl, rfl, rfl, rfl, rfl, rfl, rfl⟩, fun ⟨h1, h2, h3, h4, h5, h6, h7, h8, h9⟩ => ?_⟩
  obtain ⟨a1, a2, a3, a4, a5, a6, a7, a8, a9, _⟩ := a
  obtain ⟨b1, b2, b3, b4, b5, b6, b7, b8, b9, _⟩ := b
  dsimp only at h1 h2 h3 h4 h5 h6 h7 h8 h9
  subst h1; subst h2; subst h3; subst h4; subst h5; subst h6; subst h7; subst h8; subst h9
  rfl
instance nodeDec : DecidableEq NodeV := fun a b => decidable_of_iff _ node_ext.symm
theorem same_j0 (c : Bool) (a b : NodeV) (h : okN a) : node_Same.j0 c a b = some (c && decide (a.2.2.2.2.2.1 = b.2.2.2.2.2.1 ∧ a.2.2.2.2.2.2.2.1 = b.2.2.2.2.2.2.2.1 ∧ a.2.2.2.2.2.2.2.2.1 = b.2.2.2.2.2.2.2.2.1 ∧ a.2.2.2.2.1 = b.2.2.2.2.1 ∧ a.2.2.2.2.2.2.1 = b.2.2.2.2.2.2.1)) := by
  have hk := h.kids
  have hl := h.list
  rw [node_Same.j0.eq]
  cases c with
  | false => rw [br_f, Bool.false_and]
  | true =>
    rw [br_t, Bool.true_and]
    simp only [eqI_d, br_if]
    by_cases h1 : a.2.2.2.2.2.1 = b.2.2.2.2.2.1
    · rw [if_pos h1]
      by_cases h2 : a.2.2.2.2.2.2.2.1 = b.2.2.2.2.2.2.2.1
      · rw [if_pos h2]
        by_cases h3 : a.2.2.2.2.2.2.2.2.1 = b.2.2.2.2.2.2.2.2.1
        · rw [if_pos h3, equalR_any _ _ (by omega), bnd_some, br_if]
          by_cases h4 : a.2.2.2.2.1 = b.2.2.2.2.1
          · rw [if_pos h4, equalP_any _ _ (by omega), bnd_some]
            exact some_bool (decide_eq_decide.2 ⟨fun h5 => ⟨h1, h2, h3, h4, h5⟩, fun h => h.2.2.2.2⟩)
          · rw [if_neg h4]; exact some_bool (decide_eq_false (fun h => h4 h.2.2.2.1)).symm
        · rw [if_neg h3]; exact some_bool (decide_eq_false (fun h => h3 h.2.2.1)).symm
      · rw [if_neg h2]; exact some_bool (decide_eq_false (fun h => h2 h.2.1)).symm
    · rw [if_neg h1]; exact some_bool (decide_eq_false (fun h => h1 h.1)).symm
theorem same_any (a b : NodeV) (h : okN a) : node_Same a b = some (decide (a = b)) := by
  rw [node_Same.eq]
  simp only [same_j0 _ a b h, eqI_d, eqS_d, br_if, Bool.false_and]
  by_cases h1 : a.1 = b.1
  · rw [if_pos h1]
    by_cases h2 : a.2.1 = b.2.1
    · rw [if_pos h2]
      by_cases h3 : a.2.2.1 = b.2.2.1
      · rw [if_pos h3]
        by_cases h4 : a.2.2.2.1 = b.2.2.2.1
        · rw [decide_eq_true h4, Bool.true_and]
          exact some_bool (decide_eq_decide.2 ⟨fun ⟨g1, g2, g3, g4, g5⟩ => node_ext.2 ⟨h1, h2, h3, h4, g4, g1, g5, g2, g3⟩, fun e => by subst e; exact ⟨rfl, rfl, rfl, rfl, rfl⟩⟩)
        · rw [decide_eq_false h4, Bool.false_and]; exact some_bool (decide_eq_false (fun e => h4 (by rw [e]))).symm
      · rw [if_neg h3]; exact some_bool (decide_eq_false (fun e => h3 (by rw [e]))).symm
    · rw [if_neg h2]; exact some_bool (decide_eq_false (fun e => h2 (by rw [e]))).symm
  · rw [if_neg h1]; exact some_bool (decide_eq_false (fun e => h1 (by rw [e]))).symm
/-! ### Too long -/
def longN (n : NodeV) : Bool := longP (n.2.1, (n.2.2.1, ())) || n.2.2.2.2.2.2.1.any longP
theorem long_any (n : NodeV) (h : okN n) : node_long n = some (longN n) := by
  rw [node_long.eq, long1_any, bnd_some, br_b]
  unfold longN
  by_cases e : longP (n.2.1, (n.2.2.1, ())) = true
  · rw [if_pos e, e]; rfl
  · have e' : longP (n.2.1, (n.2.2.1, ())) = false := by simpa using e
    rw [if_neg e, longL_any _ (by have := h.list; omega), bnd_some, e', Bool.false_or]
theorem reflong_loop (n : NodeV) (h : okN n) (d : Nat) : ∀ (i : Nat) (c : Bool), i ≤ n.2.2.2.2.2.2.1.length → n.2.2.2.2.2.2.1.length - i = d → ref13_long.l0 c i n = some (c || (n.2.2.2.2.2.2.1.drop i).any longP) := by
  have hl := h.list
  induction d with
  | zero =>
    intro i c h1 h2
    rw [ref13_long.l0.eq]
    simp only [ltI_d, ofN_d, lenL_d, br_if]
    rw [if_neg (by omega), List.drop_eq_nil_of_le (by omega)]
    simp
  | succ d ih =>
    intro i c h1 h2
    have hi : i < n.2.2.2.2.2.2.1.length := by omega
    rw [ref13_long.l0.eq]
    simp only [ltI_d, leI_d, ofN_d, lenL_d, lenS_d, andB_d, br_if]
    rw [if_pos (by omega), add1 i (by omega)]
    cases c with
    | true => rw [br_t, ih (i + 1) true (by omega) (by omega)]; simp
    | false =>
      rw [br_f, if_pos (by omega), ixP _ i hi, List.drop_eq_getElem_cons hi, List.any_cons, Bool.false_or]
      rw [show longP n.2.2.2.2.2.2.1[i] = (decide (16 < n.2.2.2.2.2.2.1[i].1.size) || decide (16 < n.2.2.2.2.2.2.1[i].2.1.size)) from rfl]
      by_cases e : 16 < n.2.2.2.2.2.2.1[i].1.size
      · rw [if_pos (by omega), ih (i + 1) true (by omega) (by omega), decide_eq_true e]
        simp
      · rw [if_neg (by omega), if_pos (by omega), ih (i + 1) _ (by omega) (by omega), decide_eq_false e, Bool.false_or]
        refine some_bool ?_
        congr 1
        exact decide_eq_decide.2 (by omega)
theorem reflong_any (n : NodeV) (h : okN n) : ref13_long n = some (longN n) := by
  rw [ref13_long.eq]
  simp only [ltI_d, ofN_d, lenS_d, br_if]
  have key : ∀ c : Bool, ref13_long.l0 c 0 n = some (c || n.2.2.2.2.2.2.1.any longP) := fun c => by
    have := reflong_loop n h n.2.2.2.2.2.2.1.length 0 c (by omega) (by omega)
    rw [List.drop_zero, show ((0 : Nat) : Int) = 0 from rfl] at this
    exact this
  unfold longN
  rw [key, key, show longP (n.2.1, (n.2.2.1, ())) = (decide (16 < n.2.1.size) || decide (16 < n.2.2.1.size)) from rfl]
  by_cases e : 16 < n.2.1.size
  · rw [if_pos (by omega), decide_eq_true e]; simp
  · rw [if_neg (by omega), decide_eq_false e, Bool.false_or]
    refine some_bool ?_
    congr 1
    exact decide_eq_decide.2 (by omega)
/-! ### Of its kind's form -/
def bareP (n : NodeV) (binding branch main list : Bool) : Prop :=
  (binding = true → n.2.1 = ByteArray.empty ∧ n.2.2.1 = ByteArray.empty) ∧ (branch = true → n.2.2.2.1 = 0 ∧ n.2.2.2.2.1 = []) ∧ (main = true → n.2.2.2.2.2.1 = 0) ∧ (list = true → n.2.2.2.2.2.2.1 = [])
instance (n : NodeV) (a b c d : Bool) : Decidable (bareP n a b c d) := by unfold bareP; infer_instance
theorem len0 {A : Type} {l : List A} : (l.length : Int) = 0 ↔ l = [] := by
  constructor
  · intro h; exact List.eq_nil_of_length_eq_zero (by omega)
  · intro h; rw [h]; rfl
theorem bare_any (n : NodeV) (a b c d : Bool) : ref13_bare n a b c d = some (decide (bareP n a b c d)) := by
  rw [ref13_bare.eq]
  unfold bareP
  simp only [eqI_d, eqS_d, ltI_d, leI_d, ofN_d, lenL_d, notB_d, br_if, br_b]
  have hk : (0 : Int) < (n.2.2.2.2.1.length : Int) ↔ ¬ n.2.2.2.2.1 = [] := by
    rw [← len0]; omega
  simp only [hk, len0]
  by_cases e1 : n.2.1 = ByteArray.empty <;> by_cases e2 : n.2.2.1 = ByteArray.empty <;> by_cases e3 : n.2.2.2.1 = 0 <;> by_cases e4 : n.2.2.2.2.1 = [] <;> by_cases e5 : n.2.2.2.2.2.1 = 0 <;> cases a <;> cases b <;> cases c <;> cases d <;> simp [e1, e2, e3, e4, e5, notB]
def formP (n : NodeV) : Prop := 0 ≤ n.2.2.2.2.2.2.2.2.1 ∧
  if n.1 = 1 ∨ n.1 = 6 then n.2.2.2.2.2.2.2.1 = 1 ∧ bareP n false true true true
  else if n.1 = 2 then (0 : Int) ∉ n.2.2.2.2.1 ∧ n.2.2.2.2.1.length = (allI n.2.2.2.1.toNat).length ∧ 0 ≤ n.2.2.2.2.2.2.2.1 ∧ bareP n true false true true
  else if n.1 = 3 then 2 ≤ n.2.2.2.2.2.2.1.length ∧ isS n.2.2.2.2.2.2.1 = true ∧ n.2.2.2.2.2.2.2.1 = (n.2.2.2.2.2.2.1.length : Int) ∧ bareP n true true true false
  else if n.1 = 4 then n.2.2.2.1 = 0 ∧ n.2.2.2.2.1.length = 2 ∧ 1 ≤ n.2.2.2.2.2.2.2.1 ∧ bareP n false false true true
  else n.2.2.2.2.2.1 ≠ 0 ∧ n.2.2.2.2.2.2.2.1 = 0 ∧ bareP n true true false true
instance (n : NodeV) : Decidable (formP n) := by unfold formP; infer_instance
theorem kid_loop (n : NodeV) (h : okN n) (d : Nat) : ∀ (i : Nat), i ≤ n.2.2.2.2.1.length → n.2.2.2.2.1.length - i = d →
    ref13_form.l1 i n = some (decide ((0 : Int) ∉ n.2.2.2.2.1.drop i ∧ n.2.2.2.2.1.length = (allI n.2.2.2.1.toNat).length ∧ 0 ≤ n.2.2.2.2.2.2.2.1 ∧ bareP n true false true true)) := by
  have hk := h.kids
  have hm0 := h.map0
  have hm1 := h.map1
  induction d with
  | zero =>
    intro i h1 h2
    rw [ref13_form.l1.eq]
    simp only [ltI_d, leI_d, eqI_d, ofN_d, lenL_d, br_if]
    have hm : n.2.2.2.1 = ((n.2.2.2.1.toNat : Nat) : Int) := (Int.toNat_of_nonneg hm0).symm
    rw [if_neg (by omega), hm, refall_any _ (by omega), bnd_some, Int.toNat_natCast, List.drop_eq_nil_of_le (by omega), bare_any]
    by_cases e1 : n.2.2.2.2.1.length = (allI n.2.2.2.1.toNat).length
    · rw [if_pos (by omega)]
      by_cases e2 : 0 ≤ n.2.2.2.2.2.2.2.1
      · rw [if_pos e2, bnd_some]
        exact some_bool (decide_eq_decide.2 ⟨fun e3 => ⟨by simp, e1, e2, e3⟩, fun e => e.2.2.2⟩)
      · rw [if_neg e2]; exact some_bool (decide_eq_false (fun e => e2 e.2.2.1)).symm
    · rw [if_neg (by omega)]; exact some_bool (decide_eq_false (fun e => e1 e.2.1)).symm
  | succ d ih =>
    intro i h1 h2
    have hi : i < n.2.2.2.2.1.length := by omega
    rw [ref13_form.l1.eq]
    simp only [ltI_d, leI_d, eqI_d, ofN_d, lenL_d, andB_d, br_if]
    rw [if_pos (by omega), if_pos (by omega), ixR _ i hi, add1 i (by omega), ih (i + 1) (by omega) (by omega), List.drop_eq_getElem_cons hi]
    by_cases e : n.2.2.2.2.1[i] = 0
    · rw [if_pos e]
      exact some_bool (decide_eq_false (fun q => q.1 (by rw [e]; exact List.mem_cons_self))).symm
    · rw [if_neg e]
      exact some_bool (decide_eq_decide.2 ⟨fun q => ⟨fun q' => (List.mem_cons.1 q').elim (fun q2 => e q2.symm) q.1, q.2⟩, fun q => ⟨fun q' => q.1 (List.mem_cons_of_mem _ q'), q.2⟩⟩)
theorem form_any (n : NodeV) (h : okN n) (h1 : 1 ≤ n.1) (h2 : n.1 ≤ 6) : ref13_form n = some (decide (formP n)) := by
  have hl := h.list
  have hk := h.kids
  rw [ref13_form.eq]
  unfold formP
  simp only [ltI_d, eqI_d, br_if]
  by_cases hb : n.2.2.2.2.2.2.2.2.1 < 0
  · rw [if_pos hb]
    exact some_bool (decide_eq_false (fun q => absurd q.1 (by omega))).symm
  rw [if_neg hb]
  have hj : ref13_form.j0 n.1 (decide (n.1 = 1 ∨ n.1 = 6)) n = some (decide (0 ≤ n.2.2.2.2.2.2.2.2.1 ∧
      if n.1 = 1 ∨ n.1 = 6 then n.2.2.2.2.2.2.2.1 = 1 ∧ bareP n false true true true
      else if n.1 = 2 then (0 : Int) ∉ n.2.2.2.2.1 ∧ n.2.2.2.2.1.length = (allI n.2.2.2.1.toNat).length ∧ 0 ≤ n.2.2.2.2.2.2.2.1 ∧ bareP n true false true true
      else if n.1 = 3 then 2 ≤ n.2.2.2.2.2.2.1.length ∧ isS n.2.2.2.2.2.2.1 = true ∧ n.2.2.2.2.2.2.2.1 = (n.2.2.2.2.2.2.1.length : Int) ∧ bareP n true true true false
      else if n.1 = 4 then n.2.2.2.1 = 0 ∧ n.2.2.2.2.1.length = 2 ∧ 1 ≤ n.2.2.2.2.2.2.2.1 ∧ bareP n false false true true
      else n.2.2.2.2.2.1 ≠ 0 ∧ n.2.2.2.2.2.2.2.1 = 0 ∧ bareP n true true false true)) := by
    rw [ref13_form.j0.eq]
    simp only [ltI_d, leI_d, eqI_d, ofN_d, lenL_d, notB_d, br_if, bare_any, bnd_some]
    have hbb : 0 ≤ n.2.2.2.2.2.2.2.2.1 := by omega
    by_cases k1 : n.1 = 1 ∨ n.1 = 6
    · simp only [if_pos k1]
      by_cases e : n.2.2.2.2.2.2.2.1 = 1
      · rw [if_pos e]; exact some_bool (decide_eq_decide.2 ⟨fun q => ⟨hbb, e, q⟩, fun q => q.2.2⟩)
      · rw [if_neg e]; exact some_bool (decide_eq_false (fun q => e q.2.1)).symm
    simp only [if_neg k1]
    by_cases k2 : n.1 = 2
    · simp only [if_pos k2]
      have := kid_loop n h n.2.2.2.2.1.length 0 (by omega) (by omega)
      rw [List.drop_zero, show ((0 : Nat) : Int) = 0 from rfl] at this
      rw [this]
      exact some_bool (decide_eq_decide.2 ⟨fun q => ⟨hbb, q⟩, fun q => q.2⟩)
    simp only [if_neg k2]
    by_cases k3 : n.1 = 3
    · simp only [if_pos k3]
      by_cases e1 : (2 : Int) ≤ (n.2.2.2.2.2.2.1.length : Int)
      · rw [if_pos e1, refis_any _ (by omega) h.binds, bnd_some, br_b]
        by_cases e2 : isS n.2.2.2.2.2.2.1 = true
        · rw [if_pos e2]
          by_cases e3 : n.2.2.2.2.2.2.2.1 = (n.2.2.2.2.2.2.1.length : Int)
          · rw [if_pos e3]; exact some_bool (decide_eq_decide.2 ⟨fun q => ⟨hbb, by omega, e2, e3, q⟩, fun q => q.2.2.2.2⟩)
          · rw [if_neg e3]; exact some_bool (decide_eq_false (fun q => e3 q.2.2.2.1)).symm
        · rw [if_neg e2]; exact some_bool (decide_eq_false (fun q => e2 q.2.2.1)).symm
      · rw [if_neg e1]; exact some_bool (decide_eq_false (fun q => e1 (by have := q.2.1; omega))).symm
    simp only [if_neg k3]
    by_cases k4 : n.1 = 4
    · simp only [if_pos k4]
      by_cases e1 : n.2.2.2.1 = 0
      · rw [if_pos e1]
        by_cases e2 : (n.2.2.2.2.1.length : Int) = 2
        · rw [if_pos e2]
          by_cases e3 : 1 ≤ n.2.2.2.2.2.2.2.1
          · rw [if_pos e3]; exact some_bool (decide_eq_decide.2 ⟨fun q => ⟨hbb, e1, by omega, e3, q⟩, fun q => q.2.2.2.2⟩)
          · rw [if_neg e3]; exact some_bool (decide_eq_false (fun q => e3 q.2.2.2.1)).symm
        · rw [if_neg e2]; exact some_bool (decide_eq_false (fun q => e2 (by have := q.2.2.1; omega))).symm
      · rw [if_neg e1]; exact some_bool (decide_eq_false (fun q => e1 q.2.1)).symm
    simp only [if_neg k4]
    by_cases e1 : n.2.2.2.2.2.1 = 0
    · rw [if_neg (by intro q; exact q e1)]; exact some_bool (decide_eq_false (fun q => q.2.1 e1)).symm
    · rw [if_pos e1]
      by_cases e2 : n.2.2.2.2.2.2.2.1 = 0
      · rw [if_pos e2]; exact some_bool (decide_eq_decide.2 ⟨fun q => ⟨hbb, e1, e2, q⟩, fun q => q.2.2.2⟩)
      · rw [if_neg e2]; exact some_bool (decide_eq_false (fun q => e2 q.2.2.1)).symm
  by_cases k1 : n.1 = 1
  · rw [if_pos k1]
    have e : decide (n.1 = 1 ∨ n.1 = 6) = true := decide_eq_true (.inl k1)
    rw [e] at hj
    exact hj
  · rw [if_neg k1]
    have e : decide (n.1 = 1 ∨ n.1 = 6) = decide (n.1 = 6) := decide_eq_decide.2 ⟨fun q => q.resolve_left k1, .inr⟩
    rw [e] at hj
    exact hj
def mayS (n : NodeV) : Int := if n.1 < 1 then 11 else if 6 < n.1 then 11 else if longN n = true then 6 else if formP n then 0 else 4
theorem refmay_any (n : NodeV) (h : okN n) : ref13_May n = some (mayS n) := by
  rw [ref13_May.eq]
  unfold mayS
  simp only [ltI_d, eqI_d, br_if]
  by_cases h1 : n.1 < 1
  · rw [if_pos h1, if_pos h1]
  · rw [if_neg h1, if_neg h1]
    by_cases h2 : 6 < n.1
    · rw [if_pos h2, if_pos h2]
    · rw [if_neg h2, if_neg h2, reflong_any n h, bnd_some, br_b]
      by_cases h3 : longN n = true
      · rw [if_pos h3, if_pos h3]
      · rw [if_neg h3, if_neg h3, form_any n h (by omega) (by omega), bnd_some, notB_d, br_if]
        by_cases h4 : formP n
        · rw [if_neg (by intro q; exact q h4), if_pos h4]
        · rw [if_pos h4, if_neg h4]
end Go.Proofs.YtjekopgcpikkiaaGreatDoor.AK
set_option linter.unusedVariables false
set_option linter.unusedSimpArgs false
namespace Go.Proofs.YtjekopgcpikkiaaGreatDoor.AK
open Go.Abs
def zeroN : NodeV := (0, (ByteArray.empty, (ByteArray.empty, (0, ([], (0, ([], (0, (0, ())))))))))
def formedV (n : NodeV) : NodeV :=
  if n.1 = 1 then (1, (n.2.1, (n.2.2.1, (0, ([], (0, ([], (1, (0, ()))))))))) else
  if n.1 = 6 then (6, (n.2.1, (n.2.2.1, (0, ([], (0, ([], (1, (0, ()))))))))) else
  if n.1 = 2 then (2, (ByteArray.empty, (ByteArray.empty, (n.2.2.2.1, (n.2.2.2.2.1, (0, ([], (max n.2.2.2.2.2.2.2.1 0, (0, ()))))))))) else
  if n.1 = 3 then (3, (ByteArray.empty, (ByteArray.empty, (0, ([], (0, (makeS n.2.2.2.2.2.2.1, (((makeS n.2.2.2.2.2.2.1).length : Int), (0, ()))))))))) else
  if n.1 = 4 then (if n.2.2.2.2.1.length = 2 then (4, (n.2.1, (n.2.2.1, (0, (n.2.2.2.2.1, (0, ([], (max n.2.2.2.2.2.2.2.1 1, (0, ()))))))))) else zeroN) else
  if n.1 = 5 then (5, (ByteArray.empty, (ByteArray.empty, (0, ([], (n.2.2.2.2.2.1, ([], (0, (0, ()))))))))) else zeroN
theorem two {l : List Int} (h : l.length = 2) : [l[0], l[1]] = l := by
  match l, h with
  | [a, b], _ => rfl
theorem formed_any (n : NodeV) (h : okN n) : node_formed n = some (formedV n) := by
  have hl := h.list
  have hk := h.kids
  rw [node_formed.eq]
  unfold formedV
  simp only [ltI_d, leI_d, eqI_d, ofN_d, lenL_d, andB_d, maxI_d, br_if]
  by_cases k1 : n.1 = 1
  · rw [if_pos k1, if_pos k1, node_Leaf.eq, bnd_some]
  rw [if_neg k1, if_neg k1]
  by_cases k6 : n.1 = 6
  · rw [if_pos k6, if_pos k6, node_Tomb.eq, bnd_some]
  rw [if_neg k6, if_neg k6]
  by_cases k2 : n.1 = 2
  · rw [if_pos k2, if_pos k2, node_Branch.eq, cloneR_any _ (by omega), bnd_some, bnd_some]
  rw [if_neg k2, if_neg k2]
  by_cases k3 : n.1 = 3
  · rw [if_pos k3, if_pos k3, node_Bucket.eq, make_any _ (by omega) h.binds, bnd_some, bnd_some]
    rfl
  rw [if_neg k3, if_neg k3]
  by_cases k4 : n.1 = 4
  · rw [if_pos k4, if_pos k4]
    by_cases e : n.2.2.2.2.1.length = 2
    · rw [if_pos e, if_pos (by omega), if_pos (by omega), if_pos (by omega)]
      have i0 := ixR n.2.2.2.2.1 0 (by omega)
      have i1 := ixR n.2.2.2.2.1 1 (by omega)
      rw [show ((0 : Nat) : Int) = 0 from rfl] at i0
      rw [show ((1 : Nat) : Int) = 1 from rfl] at i1
      rw [i0, i1, node_Tree.eq, bnd_some, two e]
    · rw [if_neg e, if_neg (by omega)]
      rfl
  rw [if_neg k4, if_neg k4]
  by_cases k5 : n.1 = 5
  · rw [if_pos k5, if_pos k5, node_Inner.eq, bnd_some]
  rw [if_neg k5, if_neg k5]
  rfl
def wholeP (n : NodeV) : Prop :=
  if n.1 = 2 then n.2.2.2.2.1.length = (allI n.2.2.2.1.toNat).length ∧ (0 : Int) ∉ n.2.2.2.2.1
  else if n.1 = 3 then 2 ≤ n.2.2.2.2.2.2.1.length ∧ isS n.2.2.2.2.2.2.1 = true
  else if n.1 = 5 then n.2.2.2.2.2.1 ≠ 0 else True
instance (n : NodeV) : Decidable (wholeP n) := by unfold wholeP; infer_instance
theorem whole_any (n : NodeV) (h : okN n) : node_whole n = some (decide (wholeP n)) := by
  have hl := h.list
  have hk := h.kids
  have hm0 := h.map0
  have hm1 := h.map1
  rw [node_whole.eq]
  unfold wholeP
  simp only [ltI_d, leI_d, eqI_d, ofN_d, lenL_d, andB_d, notB_d, br_if]
  by_cases k2 : n.1 = 2
  · simp only [if_pos k2]
    have hm : n.2.2.2.1 = ((n.2.2.2.1.toNat : Nat) : Int) := (Int.toNat_of_nonneg hm0).symm
    rw [hm, count_any _ (by omega), bnd_some, Int.toNat_natCast]
    by_cases e : n.2.2.2.2.1.length = (allI n.2.2.2.1.toNat).length
    · rw [if_pos (by omega), containsR_any _ _ (by omega), bnd_some, notB_d]
      exact some_bool (decide_eq_decide.2 ⟨fun q => ⟨e, q⟩, fun q => q.2⟩)
    · rw [if_neg (by omega)]; exact some_bool (decide_eq_false (fun q => e q.1)).symm
  simp only [if_neg k2]
  by_cases k3 : n.1 = 3
  · simp only [if_pos k3]
    by_cases e : 2 ≤ n.2.2.2.2.2.2.1.length
    · rw [if_pos (by omega), is_any _ (by omega) h.binds, bnd_some]
      refine some_bool ?_
      cases hs : isS n.2.2.2.2.2.2.1 with
      | true => exact (decide_eq_true ⟨e, rfl⟩).symm
      | false => exact (decide_eq_false (fun q => by cases q.2)).symm
    · rw [if_neg (by omega)]; exact some_bool (decide_eq_false (fun q => e q.1)).symm
  simp only [if_neg k3]
  by_cases k5 : n.1 = 5
  · simp only [if_pos k5]
  simp only [if_neg k5]
  exact some_bool (decide_eq_true trivial).symm
def bornV (n : NodeV) : NodeV :=
  let f := formedV n
  (f.1, (f.2.1, (f.2.2.1, (f.2.2.2.1, (f.2.2.2.2.1, (f.2.2.2.2.2.1, (f.2.2.2.2.2.2.1, (f.2.2.2.2.2.2.2.1, (max n.2.2.2.2.2.2.2.2.1 0, ())))))))))
theorem max0 {a b : Int} : a = max a b ↔ b ≤ a := by omega
theorem form_iff (n : NodeV) (h1 : 1 ≤ n.1) (h2 : n.1 ≤ 6) : (n = bornV n ∧ wholeP n) ↔ formP n := by
  obtain ⟨k, key, val, m, ks, mn, L, sz, bi, u⟩ := n
  rw [node_ext]
  unfold bornV formedV wholeP formP bareP
  dsimp only at h1 h2 ⊢
  by_cases k1 : k = 1
  · subst k1
    simp [max0]
    constructor
    · rintro ⟨rfl, rfl, rfl, rfl, rfl, h⟩; simp [h]
    · rintro ⟨h, rfl, ⟨rfl, rfl⟩, rfl, rfl⟩; simp [h]
  by_cases k6 : k = 6
  · subst k6
    simp [max0]
    constructor
    · rintro ⟨rfl, rfl, rfl, rfl, rfl, h⟩; simp [h]
    · rintro ⟨h, rfl, ⟨rfl, rfl⟩, rfl, rfl⟩; simp [h]
  by_cases k2 : k = 2
  · subst k2
    simp [max0]
    constructor
    · rintro ⟨⟨h1, h2, h3, h4, h5, h6⟩, h7, h8⟩; exact ⟨h6, h8, h7, h5, ⟨h1, h2⟩, h3, h4⟩
    · rintro ⟨h6, h8, h7, h5, ⟨h1, h2⟩, h3, h4⟩; exact ⟨⟨h1, h2, h3, h4, h5, h6⟩, h7, h8⟩
  by_cases k3 : k = 3
  · subst k3
    simp [max0]
    constructor
    · rintro ⟨⟨h1, h2, h3, h4, h5, h6, h7, h8⟩, h9, h10⟩
      refine ⟨h8, h9, h10, ?_, ⟨h1, h2⟩, ⟨h3, h4⟩, h5⟩
      rw [h7, ← h6]
    · rintro ⟨h8, h9, h10, h7, ⟨h1, h2⟩, ⟨h3, h4⟩, h5⟩
      have := makeS_srt (isS_srt h10)
      refine ⟨⟨h1, h2, h3, h4, h5, this.symm, ?_, h8⟩, h9, h10⟩
      rw [this]; exact h7
  by_cases k4 : k = 4
  · subst k4
    by_cases e : ks.length = 2
    · simp [max0, e]
      constructor
      · rintro ⟨rfl, rfl, rfl, h, h'⟩; simp [h, h']
      · rintro ⟨h', rfl, h, rfl, rfl⟩; simp [h, h']
    · simp [max0, e, zeroN]
  have k5 : k = 5 := by omega
  subst k5
  simp [max0]
  constructor
  · rintro ⟨⟨h1, h2, h3, h4, h5, h6, h7⟩, h8⟩; exact ⟨h7, h8, h6, ⟨h1, h2⟩, ⟨h3, h4⟩, h5⟩
  · rintro ⟨h7, h8, h6, ⟨h1, h2⟩, ⟨h3, h4⟩, h5⟩; exact ⟨⟨h1, h2, h3, h4, h5, h6, h7⟩, h8⟩
theorem may_any (n : NodeV) (h : okN n) : node_May n = some (mayS n) := by
  rw [node_May.eq, formed_any n h, bnd_some]
  unfold mayS
  simp only [ltI_d, eqI_d, maxI_d, br_if]
  by_cases h1 : n.1 < 1
  · rw [if_pos h1, if_pos h1]
  rw [if_neg h1, if_neg h1]
  by_cases h2 : 6 < n.1
  · rw [if_pos h2, if_pos h2]
  rw [if_neg h2, if_neg h2, long_any n h, bnd_some, br_b]
  by_cases h3 : longN n = true
  · rw [if_pos h3, if_pos h3]
  rw [if_neg h3, if_neg h3, same_any n _ h, bnd_some, notB_d, br_if, whole_any n h, bnd_some, notB_d, br_if]
  have := form_iff n (by omega) (by omega)
  show (if ¬ n = bornV n then some (4 : Int) else if ¬ wholeP n then some 4 else some 0) = _
  by_cases h4 : n = bornV n
  · rw [if_neg (by intro q; exact q h4)]
    by_cases h5 : wholeP n
    · rw [if_neg (by intro q; exact q h5), if_pos (this.1 ⟨h4, h5⟩)]
    · rw [if_pos h5, if_neg (fun q => h5 (this.2 q).2)]
  · rw [if_pos h4, if_neg (fun q => h4 (this.2 q).1)]
end Go.Proofs.YtjekopgcpikkiaaGreatDoor.AK
set_option linter.unusedVariables false
set_option linter.unusedSimpArgs false
namespace Go.Proofs.YtjekopgcpikkiaaGreatDoor.AK
open Go.Abs
theorem refsameP_loop (l m : List PairV) (hl : l.length ≤ 50000000) (hm : l.length = m.length) (d : Nat) : ∀ (i : Nat), i ≤ l.length → l.length - i = d → ref07_Same.l0 l m i = some (decide (l.drop i = m.drop i)) := by
  induction d with
  | zero =>
    intro i h1 h2
    rw [ref07_Same.l0.eq]
    simp only [ltI_d, ofN_d, lenL_d, br_if]
    rw [if_neg (by omega), List.drop_eq_nil_of_le (by omega), List.drop_eq_nil_of_le (by omega), decide_eq_true rfl]
  | succ d ih =>
    intro i h1 h2
    rw [ref07_Same.l0.eq]
    simp only [ltI_d, leI_d, ofN_d, lenL_d, andB_d, eq_pair, notB_d, br_if]
    rw [if_pos (by omega), if_pos (by omega), if_pos (by omega), ixP l i (by omega), ixP m i (by omega), add1 i (by omega), ih (i + 1) (by omega) (by omega)]
    by_cases e : l[i] = m[i]
    · rw [if_neg (by intro h; exact h e)]
      exact some_bool (decide_eq_decide.2 (by rw [drop_eq_iff (show i < l.length by omega) (show i < m.length by omega)]; simp [e]))
    · rw [if_pos e]
      exact some_bool (decide_eq_false (by rw [drop_eq_iff (show i < l.length by omega) (show i < m.length by omega)]; exact fun h => e h.1)).symm
theorem refsameP_any (l m : List PairV) (hl : l.length ≤ 50000000) : ref07_Same l m = some (decide (l = m)) := by
  rw [ref07_Same.eq]
  simp only [ofN_d, lenL_d, eqI_d, notB_d, br_if]
  by_cases h : l.length = m.length
  · rw [if_neg (by omega)]
    exact refsameP_loop l m hl h l.length 0 (by omega) (by omega)
  · rw [if_pos (by omega)]
    exact some_bool (decide_eq_false (fun e => h (by rw [e]))).symm
/-! ### Putting, twice -/
end Go.Proofs.YtjekopgcpikkiaaGreatDoor.AK
set_option linter.unusedVariables false
set_option linter.unusedSimpArgs false
namespace Go.Proofs.YtjekopgcpikkiaaGreatDoor.AK
open Go.Abs
theorem sameR_loop (l m : List Int) (hl : l.length ≤ 50000000) (hm : l.length = m.length) (d : Nat) : ∀ (i : Nat), i ≤ l.length → l.length - i = d → ref13_SameRefs.l0 l m i = some (decide (l.drop i = m.drop i)) := by
  induction d with
  | zero =>
    intro i h1 h2
    rw [ref13_SameRefs.l0.eq]
    simp only [ltI_d, ofN_d, lenL_d, br_if]
    rw [if_neg (by omega), List.drop_eq_nil_of_le (by omega), List.drop_eq_nil_of_le (by omega), decide_eq_true rfl]
  | succ d ih =>
    intro i h1 h2
    rw [ref13_SameRefs.l0.eq]
    simp only [ltI_d, leI_d, ofN_d, lenL_d, andB_d, eqI_d, notB_d, br_if]
    rw [if_pos (by omega), if_pos (by omega), if_pos (by omega), ixR l i (by omega), ixR m i (by omega), add1 i (by omega), ih (i + 1) (by omega) (by omega)]
    by_cases e : l[i] = m[i]
    · rw [if_neg (by intro h; exact h e)]
      exact some_bool (decide_eq_decide.2 (by rw [drop_eq_iff (show i < l.length by omega) (show i < m.length by omega)]; simp [e]))
    · rw [if_pos e]
      exact some_bool (decide_eq_false (by rw [drop_eq_iff (show i < l.length by omega) (show i < m.length by omega)]; exact fun h => e h.1)).symm
theorem sameR_any (l m : List Int) (hl : l.length ≤ 50000000) : ref13_SameRefs l m = some (decide (l = m)) := by
  rw [ref13_SameRefs.eq]
  simp only [ofN_d, lenL_d, eqI_d, notB_d, br_if]
  by_cases h : l.length = m.length
  · rw [if_neg (by omega)]
    exact sameR_loop l m hl h l.length 0 (by omega) (by omega)
  · rw [if_pos (by omega)]
    exact some_bool (decide_eq_false (fun e => h (by rw [e]))).symm
theorem refsame_any (a b : NodeV) (hk : a.2.2.2.2.1.length ≤ 50000000) (hl : a.2.2.2.2.2.2.1.length ≤ 50000000) : ref13_Same a b = some (decide (a = b)) := by
  rw [ref13_Same.eq]
  simp only [eqI_d, eqS_d, notB_d, br_if]
  have no : ∀ {p : Prop}, (a = b → p) → ¬ p → (some false : Option Bool) = some (decide (a = b)) := fun h n => (some_bool (decide_eq_false (fun e => n (h e)))).symm
  by_cases h1 : a.1 = b.1
  · rw [if_neg (by intro q; exact q h1)]
    by_cases h2 : a.2.1 = b.2.1
    · rw [if_neg (by intro q; exact q h2)]
      by_cases h3 : a.2.2.1 = b.2.2.1
      · rw [if_neg (by intro q; exact q h3)]
        by_cases h4 : a.2.2.2.1 = b.2.2.2.1
        · rw [if_neg (by intro q; exact q h4)]
          by_cases h5 : a.2.2.2.2.2.1 = b.2.2.2.2.2.1
          · rw [if_neg (by intro q; exact q h5)]
            by_cases h6 : a.2.2.2.2.2.2.2.1 = b.2.2.2.2.2.2.2.1
            · rw [if_neg (by intro q; exact q h6)]
              by_cases h7 : a.2.2.2.2.2.2.2.2.1 = b.2.2.2.2.2.2.2.2.1
              · rw [if_neg (by intro q; exact q h7), sameR_any _ _ hk, bnd_some, br_if]
                by_cases h8 : a.2.2.2.2.1 = b.2.2.2.2.1
                · rw [if_pos h8, refsameP_any _ _ hl, bnd_some]
                  exact some_bool (decide_eq_decide.2 ⟨fun h9 => node_ext.2 ⟨h1, h2, h3, h4, h8, h5, h9, h6, h7⟩, fun e => by rw [e]⟩)
                · rw [if_neg h8]; exact no (fun e => by rw [e]) h8
              · rw [if_pos h7]; exact no (fun e => by rw [e]) h7
            · rw [if_pos h6]; exact no (fun e => by rw [e]) h6
          · rw [if_pos h5]; exact no (fun e => by rw [e]) h5
        · rw [if_pos h4]; exact no (fun e => by rw [e]) h4
      · rw [if_pos h3]; exact no (fun e => by rw [e]) h3
    · rw [if_pos h2]; exact no (fun e => by rw [e]) h2
  · rw [if_pos h1]; exact no (fun e => by rw [e]) h1
theorem copy_any (n : NodeV) (h : okN n) : node_Copy n = some ((n.1, (n.2.1, (n.2.2.1, (n.2.2.2.1, ((), (n.2.2.2.2.2.1, ((), n.2.2.2.2.2.2.2))))))), (n.2.2.2.2.1, (n.2.2.2.2.2.2.1, ()))) := by
  have hl := h.list
  have hk := h.kids
  rw [node_Copy.eq, cloneR_any _ (by omega), bnd_some, cloneP_any _ (by omega), bnd_some]
/-! ### References, bindings -/
end Go.Proofs.YtjekopgcpikkiaaGreatDoor.AK
set_option linter.unusedVariables false
set_option linter.unusedSimpArgs false
namespace Go.Proofs.YtjekopgcpikkiaaGreatDoor.AK
open Go.Abs
def refsS (n : NodeV) : List Int := n.2.2.2.2.1.filter (fun r => decide (r ≠ 0)) ++ (if n.2.2.2.2.2.1 ≠ 0 then [n.2.2.2.2.2.1] else [])
theorem refsS_len (n : NodeV) : (refsS n).length ≤ n.2.2.2.2.1.length + 1 := by
  unfold refsS
  have := List.length_filter_le (fun r : Int => decide (r ≠ 0)) n.2.2.2.2.1
  rw [List.length_append]
  split <;> simp only [List.length_cons, List.length_nil] <;> omega
theorem refs_loop (l : List Int) (hl : l.length ≤ 50000000) (d : Nat) : ∀ (i : Nat) (acc : List Int), i ≤ l.length → l.length - i = d → acc.length ≤ i → node_Refs.l0 l.length i acc l = some (acc ++ (l.drop i).filter (fun r => decide (r ≠ 0))) := by
  induction d with
  | zero =>
    intro i acc h1 h2 h3
    rw [node_Refs.l0.eq]
    simp only [ltI_d, br_if]
    rw [if_neg (by omega), List.drop_eq_nil_of_le (by omega)]
    simp
  | succ d ih =>
    intro i acc h1 h2 h3
    have hi : i < l.length := by omega
    rw [node_Refs.l0.eq]
    simp only [ltI_d, leI_d, ofN_d, lenL_d, andB_d, eqI_d, notB_d, br_if, fitL_d, appL_d]
    rw [if_pos (by omega), if_pos (by omega), ixR l i hi, add1 i (by omega), List.drop_eq_getElem_cons hi]
    by_cases e : l[i] = 0
    · rw [if_neg (by intro q; exact q e), ih (i + 1) acc (by omega) (by omega) (by omega), List.filter_cons_of_neg (by simp [e])]
    · rw [if_pos e, if_pos (by rw [List.length_append]; show _ + 1 ≤ _; omega), ih (i + 1) _ (by omega) (by omega) (by rw [List.length_append]; show _ + 1 ≤ _; omega), List.filter_cons_of_pos (by simp [e]), List.append_assoc]
      rfl
theorem refs_any (n : NodeV) (h : okN n) : node_Refs n = some (refsS n) := by
  have hk := h.kids
  rw [node_Refs.eq, cloneR_any _ (by omega), bnd_some]
  simp only [ofN_d, lenL_d, fitL_d, appL_d, br_if]
  have hlen : (n.2.2.2.2.1 ++ [n.2.2.2.2.2.1]).length = n.2.2.2.2.1.length + 1 := by simp
  rw [if_pos (by rw [hlen]; omega), both_self]
  have := refs_loop (n.2.2.2.2.1 ++ [n.2.2.2.2.2.1]) (by omega) _ 0 [] (by omega) rfl (by simp)
  rw [List.drop_zero, show ((0 : Nat) : Int) = 0 from rfl, List.nil_append, List.filter_append] at this
  rw [this]
  unfold refsS
  by_cases e : n.2.2.2.2.2.1 = 0
  · rw [List.filter_cons_of_neg (by simp [e]), if_neg (by intro q; exact q e)]; rfl
  · rw [List.filter_cons_of_pos (by simp [e]), if_pos e]; rfl
theorem refrefs_loop (n : NodeV) (h : okN n) (d : Nat) : ∀ (i : Nat) (acc : List Int), i ≤ n.2.2.2.2.1.length → n.2.2.2.2.1.length - i = d → acc.length ≤ i → ref13_Refs.l0 i n acc = some (acc ++ (n.2.2.2.2.1.drop i).filter (fun r => decide (r ≠ 0)) ++ (if n.2.2.2.2.2.1 ≠ 0 then [n.2.2.2.2.2.1] else [])) := by
  have hk := h.kids
  induction d with
  | zero =>
    intro i acc h1 h2 h3
    rw [ref13_Refs.l0.eq]
    simp only [ltI_d, leI_d, ofN_d, lenL_d, andB_d, eqI_d, notB_d, br_if, fitL_d, appL_d]
    rw [if_neg (by omega), List.drop_eq_nil_of_le (by omega), List.filter_nil, List.append_nil]
    by_cases e : n.2.2.2.2.2.1 = 0
    · rw [if_neg (by intro q; exact q e), if_neg (by intro q; exact q e), List.append_nil]
    · rw [if_pos e, if_pos e, if_pos (by rw [List.length_append]; show _ + 1 ≤ _; omega)]
  | succ d ih =>
    intro i acc h1 h2 h3
    have hi : i < n.2.2.2.2.1.length := by omega
    rw [ref13_Refs.l0.eq]
    simp only [ltI_d, leI_d, ofN_d, lenL_d, andB_d, eqI_d, notB_d, br_if, fitL_d, appL_d]
    rw [if_pos (by omega), if_pos (by omega), ixR _ i hi, add1 i (by omega), List.drop_eq_getElem_cons hi]
    by_cases e : n.2.2.2.2.1[i] = 0
    · rw [if_neg (by intro q; exact q e), ih (i + 1) acc (by omega) (by omega) (by omega), List.filter_cons_of_neg (by simp [e])]
    · rw [if_pos e, if_pos (by omega), if_pos (by rw [List.length_append]; show _ + 1 ≤ _; omega), ih (i + 1) _ (by omega) (by omega) (by rw [List.length_append]; show _ + 1 ≤ _; omega), List.filter_cons_of_pos (by simp [e])]
      simp
theorem refrefs_any (n : NodeV) (h : okN n) : ref13_Refs n = some (refsS n) := by
  rw [ref13_Refs.eq]
  have := refrefs_loop n h _ 0 [] (by omega) rfl (by simp)
  rw [List.drop_zero, show ((0 : Nat) : Int) = 0 from rfl, List.nil_append] at this
  exact this
end Go.Proofs.YtjekopgcpikkiaaGreatDoor.AK
set_option linter.unusedVariables false
set_option linter.unusedSimpArgs false
namespace Go.Proofs.YtjekopgcpikkiaaGreatDoor.AK
open Go.Abs
def rng (x : Int) : Prop := -9223372036854775808 ≤ x ∧ x ≤ 9223372036854775807
theorem wf_rng {a : Int} (h : (Lit.int .i64 a).wf = true) : rng a := by
  simp [Lit.wf, IntKind.min, IntKind.max, IntKind.bits, IntKind.signed] at h
  unfold rng
  omega
def rngN (n : NodeV) : Prop := (∀ k ∈ n.2.2.2.2.1, rng k) ∧ rng n.2.2.2.2.2.1
theorem few_rng {n : NodeV} (h : wfD tapiNode n) : rngN (few n) := by
  obtain ⟨_, _, _, _, hk, hmain, _⟩ := h
  exact ⟨fun k hk' => wf_rng (hk.2 k (List.mem_of_mem_take hk')), wf_rng hmain⟩
theorem refs_rng {n : NodeV} (h : rngN n) : ∀ r ∈ refsS n, rng r := by
  intro r hr
  unfold refsS at hr
  rcases List.mem_append.1 hr with hr | hr
  · exact h.1 r (List.mem_filter.1 hr).1
  · split at hr
    · rw [List.mem_singleton.1 hr]; exact h.2
    · cases hr
theorem ixN (l : List NodeV) (i : Nat) (h : i < l.length) : ixL tapiNode l (i : Int) = l[i] := ixL_d tapiNode l i h
/-! ### Not too many nodes -/
def fewW : Nat → List NodeV → List NodeV
  | _, [] => []
  | w, n :: l => if 3000 < w * max (refsS (few n)).length 1 then [] else few n :: fewW (w * max (refsS (few n)).length 1) l
def fewH (h : List NodeV) : List NodeV := fewW 1 (h.take 12)
theorem fewW_len : ∀ (l : List NodeV) (w : Nat), (fewW w l).length ≤ l.length
  | [], _ => Nat.le_refl _
  | n :: l, w => by
    unfold fewW
    split
    · exact Nat.zero_le _
    · have := fewW_len l (w * max (refsS (few n)).length 1)
      simp only [List.length_cons]
      omega
theorem fewW_mem : ∀ (l : List NodeV) (w : Nat), ∀ x ∈ fewW w l, ∃ n ∈ l, x = few n
  | [], _, x, h => by cases h
  | n :: l, w, x, h => by
    unfold fewW at h
    split at h
    · cases h
    · rcases List.mem_cons.1 h with h | h
      · exact ⟨n, by simp, h⟩
      · obtain ⟨m, h1, h2⟩ := fewW_mem l _ x h
        exact ⟨m, by simp [h1], h2⟩
theorem fewH_len (h : List NodeV) : (fewH h).length ≤ 12 := by
  have := fewW_len (h.take 12) 1
  rw [List.length_take] at this
  unfold fewH
  omega
theorem fewH_mem {h : List NodeV} : ∀ x ∈ fewH h, ∃ n ∈ h, x = few n := fun x hx => by
  obtain ⟨n, h1, h2⟩ := fewW_mem _ _ x hx
  exact ⟨n, List.mem_of_mem_take h1, h2⟩
structure okH (h : List NodeV) : Prop where
  len : h.length ≤ 40000000
  node : ∀ n ∈ h, okN n
  rng : ∀ n ∈ h, rngN n
theorem okH.of {h : List NodeV} (hw : wfD (.list tapiNode) h) : okH (fewH h) :=
  ⟨Nat.le_trans (fewH_len h) (by omega), fun x hx => by obtain ⟨n, h1, rfl⟩ := fewH_mem x hx; exact few_okN (hw.2 n h1), fun x hx => by obtain ⟨n, h1, rfl⟩ := fewH_mem x hx; exact few_rng (hw.2 n h1)⟩
/-! ### Whether a heap may be -/
def mayHL : Nat → List NodeV → Bool
  | _, [] => true
  | i, n :: l => (decide (mayS n = 0) && (refsS n).all fun r => decide (1 ≤ r ∧ r ≤ (i : Int))) && mayHL (i + 1) l
def mayH (h : List NodeV) : Bool := mayHL 0 h
theorem drop_all {p : Int → Bool} (l : List Int) (k : Nat) (h : k < l.length) : (l.drop k).all p = (p l[k] && (l.drop (k + 1)).all p) := by
  rw [List.drop_eq_getElem_cons h, List.all_cons]
theorem maych_l1 (h : List NodeV) (n i : Nat) (refs : List Int) (hr : refs.length ≤ 50000000) (d : Nat) : ∀ (k : Nat), k ≤ refs.length → refs.length - k = d →
    heap_May.l1 i h n i refs refs.length k = if ((refs.drop k).all fun r => decide (1 ≤ r ∧ r ≤ (i : Int))) = true then heap_May.l0 h n (addI .i64 i 1) else some 4 := by
  induction d with
  | zero =>
    intro k hk hd
    rw [heap_May.l1.eq]
    simp only [ltI_d, br_if]
    rw [if_neg (by omega), List.drop_eq_nil_of_le (by omega)]
    rfl
  | succ d ih =>
    intro k hk hd
    have hkl : k < refs.length := by omega
    rw [heap_May.l1.eq, ixR refs k hkl]
    simp only [ltI_d, leI_d, ofN_d, lenL_d, andB_d, br_if]
    rw [if_pos (by omega), if_pos (by omega), add1 k (by omega), ih (k + 1) (by omega) (by omega), drop_all refs k hkl]
    by_cases h1 : refs[k] < 1
    · rw [if_pos h1, decide_eq_false (by omega), Bool.false_and, if_neg (by simp)]
    · rw [if_neg h1]
      by_cases h2 : (i : Int) < refs[k]
      · rw [if_pos h2, decide_eq_false (by omega), Bool.false_and, if_neg (by simp)]
      · rw [if_neg h2, decide_eq_true (by omega), Bool.true_and]
theorem mayh_loop (h : List NodeV) (hl : h.length ≤ 50000000) (ho : ∀ n ∈ h, okN n) (d : Nat) : ∀ (i : Nat), i ≤ h.length → h.length - i = d → heap_May.l0 h h.length i = some (if mayHL i (h.drop i) = true then 0 else 4) := by
  induction d with
  | zero =>
    intro i hi hd
    rw [heap_May.l0.eq]
    simp only [ltI_d, br_if]
    rw [if_neg (by omega), List.drop_eq_nil_of_le (by omega)]
    rfl
  | succ d ih =>
    intro i hi hd
    have hil : i < h.length := by omega
    have o := ho _ (List.getElem_mem hil)
    have hrl := refsS_len h[i]
    have hkl := o.kids
    rw [heap_May.l0.eq, ixN h i hil, may_any _ o, bnd_some, refs_any _ o, bnd_some]
    simp only [ltI_d, leI_d, eqI_d, notB_d, ofN_d, lenL_d, andB_d, br_if]
    rw [if_pos (by omega), if_pos (by omega), List.drop_eq_getElem_cons hil]
    unfold mayHL
    by_cases hm : mayS h[i] = 0
    · rw [if_neg (fun q => q hm), decide_eq_true hm, Bool.true_and]
      have := maych_l1 h h.length i (refsS h[i]) (by omega) (refsS h[i]).length 0 (by omega) (by omega)
      rw [show ((0 : Nat) : Int) = 0 from rfl] at this
      rw [this, add1 i (by omega), ih (i + 1) (by omega) (by omega), List.drop_zero]
      cases (refsS h[i]).all fun r => decide (1 ≤ r ∧ r ≤ (i : Int)) with
      | true => rw [if_pos rfl, Bool.true_and]
      | false => rw [if_neg (by simp), Bool.false_and, if_neg (by simp)]
    · rw [if_pos hm, decide_eq_false hm, Bool.false_and, Bool.false_and, if_neg (by simp)]
theorem mayh_any (h : List NodeV) (ho : okH h) : heap_May h = some (if mayH h = true then 0 else 4) := by
  have hl := ho.len
  rw [heap_May.eq]
  exact mayh_loop h (by omega) ho.node h.length 0 (by omega) (by omega)
theorem refmaych_l1 (h : List NodeV) (i : Nat) (hi : i < h.length) (o : okN h[i]) (refs : List Int) (hr : refs.length ≤ 50000000) (d : Nat) : ∀ (k : Nat), k ≤ refs.length → refs.length - k = d →
    ref17_May.l1 h i refs k = if ((refs.drop k).all fun r => decide (1 ≤ r ∧ r ≤ (i : Int))) = true then (if mayS h[i] = 0 then ref17_May.l0 h (addI .i64 i 1) else some false) else some false := by
  induction d with
  | zero =>
    intro k hk hd
    rw [ref17_May.l1.eq, ixN h i hi, refmay_any _ o, bnd_some]
    simp only [ltI_d, leI_d, eqI_d, notB_d, ofN_d, lenL_d, andB_d, br_if]
    rw [if_neg (by omega), if_pos (by omega), List.drop_eq_nil_of_le (by omega), List.all_nil, if_pos rfl]
    by_cases hm : mayS h[i] = 0
    · rw [if_neg (fun q => q hm), if_pos hm]
    · rw [if_pos hm, if_neg hm]
  | succ d ih =>
    intro k hk hd
    have hkl : k < refs.length := by omega
    rw [ref17_May.l1.eq, ixR refs k hkl]
    simp only [ltI_d, leI_d, ofN_d, lenL_d, andB_d, br_if]
    rw [if_pos (by omega), if_pos (by omega), add1 k (by omega), ih (k + 1) (by omega) (by omega), drop_all refs k hkl]
    by_cases h1 : refs[k] < 1
    · rw [if_pos h1, decide_eq_false (by omega), Bool.false_and, if_neg (by simp)]
    · rw [if_neg h1, if_pos (by omega)]
      by_cases h2 : (i : Int) < refs[k]
      · rw [if_pos h2, decide_eq_false (by omega), Bool.false_and, if_neg (by simp)]
      · rw [if_neg h2, decide_eq_true (by omega), Bool.true_and]
theorem refmayh_loop (h : List NodeV) (hl : h.length ≤ 50000000) (ho : ∀ n ∈ h, okN n) (d : Nat) : ∀ (i : Nat), i ≤ h.length → h.length - i = d → ref17_May.l0 h i = some (mayHL i (h.drop i)) := by
  induction d with
  | zero =>
    intro i hi hd
    rw [ref17_May.l0.eq]
    simp only [ltI_d, ofN_d, lenL_d, br_if]
    rw [if_neg (by omega), List.drop_eq_nil_of_le (by omega)]
    rfl
  | succ d ih =>
    intro i hi hd
    have hil : i < h.length := by omega
    have o := ho _ (List.getElem_mem hil)
    have hrl := refsS_len h[i]
    have hkl := o.kids
    rw [ref17_May.l0.eq, ixN h i hil, refrefs_any _ o, bnd_some]
    simp only [ltI_d, leI_d, ofN_d, lenL_d, andB_d, br_if]
    have := refmaych_l1 h i hil o (refsS h[i]) (by omega) (refsS h[i]).length 0 (by omega) (by omega)
    rw [show ((0 : Nat) : Int) = 0 from rfl] at this
    rw [if_pos (by omega), if_pos (by omega), this, add1 i (by omega), ih (i + 1) (by omega) (by omega), List.drop_zero, List.drop_eq_getElem_cons hil]
    rw [show mayHL i (h[i] :: h.drop (i + 1)) = ((decide (mayS h[i] = 0) && (refsS h[i]).all fun r => decide (1 ≤ r ∧ r ≤ (i : Int))) && mayHL (i + 1) (h.drop (i + 1))) from rfl]
    cases (refsS h[i]).all fun r => decide (1 ≤ r ∧ r ≤ (i : Int)) with
    | true =>
      rw [if_pos rfl, Bool.and_true]
      by_cases hm : mayS h[i] = 0
      · rw [if_pos hm, decide_eq_true hm, Bool.true_and]
      · rw [if_neg hm, decide_eq_false hm, Bool.false_and]
    | false => rw [if_neg (by simp), Bool.and_false, Bool.false_and]
theorem refmayh_any (h : List NodeV) (ho : okH h) : ref17_May h = some (mayH h) := by
  have hl := ho.len
  rw [ref17_May.eq]
  exact refmayh_loop h (by omega) ho.node h.length 0 (by omega) (by omega)
end Go.Proofs.YtjekopgcpikkiaaGreatDoor.AK
set_option linter.unusedVariables false
set_option linter.unusedSimpArgs false
namespace Go.Proofs.YtjekopgcpikkiaaGreatDoor.AK
open Go.Abs
abbrev PlanV : Type := List NodeV × Int × List Int × Unit
structure okPl (p : PlanV) : Prop where
  len : p.1.length ≤ 1000
  node : ∀ n ∈ p.1, okN n
  rngs : ∀ n ∈ p.1, rngN n
  few : ∀ n ∈ p.1, n.2.2.2.2.1.length ≤ 40
  root : rng p.2.1
  old : p.2.2.1.length ≤ 1000
  olds : ∀ r ∈ p.2.2.1, rng r
/-! ### References -/
def refR (to : List Int) (r : Int) : Option Int := if 0 ≤ r then some r else if -1 - r < (to.length : Int) then some (to.getD (-1 - r).toNat 0) else none
def refD (to : List Int) (r : Int) : Int := (refR to r).getD 0
theorem make_some (a b : Int) : ∃ x y, ref_Make a b = some (x, (y, ())) := by
  rw [ref_Make.eq]
  simp only [ltI_d, br_if]
  split
  · exact ⟨_, _, rfl⟩
  split
  · exact ⟨_, _, rfl⟩
  split
  · exact ⟨_, _, rfl⟩
  split
  · exact ⟨_, _, rfl⟩
  exact ⟨_, _, rfl⟩
theorem which_any (r : Int) (h : rng r) : ref_Which r = some (if r < 0 then (-1 - r, (true, ())) else (0, (false, ()))) := by
  unfold rng at h
  rw [ref_Which.eq, ref_Kind.eq]
  obtain ⟨x, y, hm⟩ := make_some (remI r 1024) (quoI .i64 r 1024)
  rw [hm, bnd_some]
  have hn : notB (eqI 1024 0) = true := rfl
  rw [hn, br_t, br_t]
  simp only [ltI_d, eqI_d, notB_d, br_if]
  by_cases h0 : r = 0
  · rw [if_pos h0, bnd_some, if_pos (by omega), if_neg (by omega)]
  rw [if_neg h0]
  by_cases h1 : r < 0
  · rw [if_pos h1, bnd_some, if_neg (by omega), if_pos h1]
    have : subI .i64 (-1) r = -1 - r := subI_d (by omega) (by omega)
    rw [this]
  · rw [if_neg h1, if_neg h1]
    by_cases hy : y = 0
    · rw [if_neg (fun q => q hy), bnd_some, if_pos (by omega)]
    · rw [if_pos hy, bnd_some, if_pos (by omega)]
theorem planref_any (r : Int) (h : rng r) (to : List Int) : plan_Ref r to = some (refD to r, ((if (refR to r).isSome = true then 0 else 4), ())) := by
  rw [plan_Ref.eq, which_any r h, bnd_some]
  unfold refD refR
  by_cases h1 : r < 0
  · rw [if_pos h1, if_neg (by omega), show notB true = false from rfl, br_f]
    simp only [ltI_d, leI_d, ofN_d, lenL_d, andB_d, br_if]
    by_cases h2 : -1 - r < (to.length : Int)
    · rw [if_neg (by omega), if_pos (by omega), if_pos h2]
      have hi : -1 - r = ((-1 - r).toNat : Int) := by omega
      have hlt : (-1 - r).toNat < to.length := by omega
      have e : ixL (.int .i64) to (-1 - r) = to[(-1 - r).toNat] := by
        conv => lhs; rw [hi]
        exact ixR to _ hlt
      rw [e, List.getD_eq_getElem?_getD, List.getElem?_eq_getElem hlt]
      rfl
    · rw [if_pos (by omega), if_neg h2]
      rfl
  · rw [if_neg h1, if_pos (by omega), show notB false = true from rfl, br_t]
    rfl
/-! ### Nodes filled -/
def fillB (to : List Int) (n : NodeV) : Bool := (refR to n.2.2.2.2.2.1).isSome && n.2.2.2.2.1.all fun k => (refR to k).isSome
def fillS (to : List Int) (n : NodeV) : NodeV := if fillB to n = true then (n.1, (n.2.1, (n.2.2.1, (n.2.2.2.1, (n.2.2.2.2.1.map (refD to), (refD to n.2.2.2.2.2.1, n.2.2.2.2.2.2)))))) else zeroN
theorem take_all_succ {p : Int → Bool} (l : List Int) (i : Nat) (h : i < l.length) : (l.take (i + 1)).all p = ((l.take i).all p && p l[i]) := by
  rw [List.take_succ_eq_append_getElem h, List.all_append]
  simp
theorem fill_l0 (to : List Int) (n : NodeV) (hn : okN n) (hr : rngN n) (x5 x8 x9) (L : List PairV) (hL : L = n.2.2.2.2.2.2.1) (d : Nat) : ∀ (i : Nat), i ≤ n.2.2.2.2.1.length → n.2.2.2.2.1.length - i = d →
    plan_Fill_o.l0 (if ((refR to n.2.2.2.2.2.1).isSome && (n.2.2.2.2.1.take i).all fun k => (refR to k).isSome) = true then 0 else 4) n.2.2.2.2.1.length i to
      (n.1, (n.2.1, (n.2.2.1, (n.2.2.2.1, ((), (refD to n.2.2.2.2.2.1, ((), n.2.2.2.2.2.2.2))))))) x5 ((n.2.2.2.2.1.take i).map (refD to) ++ n.2.2.2.2.1.drop i) L x8 x9 =
    some ((fillS to n, ((if fillB to n = true then 0 else 4), ())), (to, ())) := by
  subst hL
  have hk := hn.kids
  induction d with
  | zero =>
    intro i hi hd
    have e : i = n.2.2.2.2.1.length := by omega
    subst e
    rw [plan_Fill_o.l0.eq]
    simp only [ltI_d, br_if]
    rw [if_neg (by omega), List.take_length, List.drop_length, List.append_nil]
    rw [show ((refR to n.2.2.2.2.2.1).isSome && n.2.2.2.2.1.all fun k => (refR to k).isSome) = fillB to n from rfl]
    unfold fillS
    by_cases hb : fillB to n = true
    · rw [if_pos hb, if_pos hb]
      rfl
    · rw [if_neg hb, if_neg hb]
      rfl
  | succ d ih =>
    intro i hi hd
    have hil : i < n.2.2.2.2.1.length := by omega
    have hpl : ((n.2.2.2.2.1.take i).map (refD to)).length = i := by rw [List.length_map, List.length_take]; omega
    have hlen : ((n.2.2.2.2.1.take i).map (refD to) ++ n.2.2.2.2.1.drop i).length = n.2.2.2.2.1.length := by rw [List.length_append, hpl, List.length_drop]; omega
    have hget : ixL (.int .i64) ((n.2.2.2.2.1.take i).map (refD to) ++ n.2.2.2.2.1.drop i) (i : Int) = n.2.2.2.2.1[i] := by
      rw [ixR _ i (by omega), List.getElem_append_right (by omega), List.getElem_drop]
      congr 1
      omega
    have hset : setL (.int .i64) ((n.2.2.2.2.1.take i).map (refD to) ++ n.2.2.2.2.1.drop i) (i : Int) (refD to n.2.2.2.2.1[i]) = (n.2.2.2.2.1.take (i + 1)).map (refD to) ++ n.2.2.2.2.1.drop (i + 1) := by
      unfold setL
      rw [Int.toNat_natCast, List.set_append_right _ _ (by omega), hpl, Nat.sub_self, List.drop_eq_getElem_cons hil, List.set_cons_zero, List.take_succ_eq_append_getElem hil, List.map_append, List.append_assoc]
      rfl
    rw [plan_Fill_o.l0.eq, hget, planref_any _ (hr.1 _ (List.getElem_mem hil)) to, bnd_some, hset]
    have ih := ih (i + 1) (by omega) (by omega)
    rw [take_all_succ _ i hil] at ih
    simp only [ltI_d, leI_d, eqI_d, notB_d, ofN_d, lenL_d, andB_d, br_if]
    rw [if_pos (by omega), if_pos (by omega), add1 i (by omega)]
    cases hs : (refR to n.2.2.2.2.1[i]).isSome with
    | true =>
      rw [hs, Bool.and_true] at ih
      rw [if_pos rfl, if_neg (fun q => q rfl), if_pos (by omega)]
      exact ih
    | false =>
      rw [hs, Bool.and_false, Bool.and_false, if_neg (by simp)] at ih
      rw [if_neg (show ¬ (false = true) by simp), if_pos (show ¬ (4 : Int) = 0 by omega), if_pos (by omega)]
      exact ih
theorem fill_any (to : List Int) (n : NodeV) (hn : okN n) (hr : rngN n) : plan_Fill_o n to = some ((fillS to n, ((if fillB to n = true then 0 else 4), ())), (to, ())) := by
  rw [plan_Fill_o.eq, copy_any n hn, bnd_some, planref_any _ hr.2 to, bnd_some]
  have := fill_l0 to n hn hr (0, (ByteArray.empty, (ByteArray.empty, (0, ((), (0, ((), (0, (0, ()))))))))) [] [] _ rfl n.2.2.2.2.1.length 0 (by omega) (by omega)
  rw [List.take_zero, List.all_nil, Bool.and_true] at this
  exact this
/-! ### The same heaps -/
end Go.Proofs.YtjekopgcpikkiaaGreatDoor.AK
set_option linter.unusedVariables false
set_option linter.unusedSimpArgs false
namespace Go.Proofs.YtjekopgcpikkiaaGreatDoor.AK
open Go.Abs
/-! ### Whether a plan may be -/
theorem ahead_any (r : Int) (h : rng r) (i : Nat) (hi : i ≤ 1000000) : plan_ahead r i = some (decide (-(i : Int) ≤ r)) := by
  unfold rng at h
  rw [plan_ahead.eq, which_any r h, bnd_some]
  by_cases h1 : r < 0
  · rw [if_pos h1, show notB true = false from rfl, br_f, ltI_d]
    exact some_bool (decide_eq_decide.2 (by omega))
  · rw [if_neg h1, show notB false = true from rfl, br_t]
    exact some_bool (decide_eq_true (by omega)).symm
theorem any_drop {p : Int → Bool} (l : List Int) (i : Nat) (h : i < l.length) : (l.drop i).any p = (p l[i] || (l.drop (i + 1)).any p) := by
  rw [List.drop_eq_getElem_cons h, List.any_cons]
theorem index0 (l : List Int) (hl : l.length ≤ 1000000) (hr : ∀ r ∈ l, rng r) (b : Nat) (hb : b ≤ 1000000) (d : Nat) : ∀ (i : Nat), i ≤ l.length → l.length - i = d → ∃ x : Int, slices_IndexFuncapi_Ref_api_Ref.l0 l ((), ()) l.length i b = some (x, ((b : Int), ())) ∧ (0 ≤ x ↔ (l.drop i).any (fun r => !decide (-(b : Int) ≤ r)) = true) := by
  induction d with
  | zero =>
    intro i hi hd
    rw [slices_IndexFuncapi_Ref_api_Ref.l0.eq]
    simp only [ltI_d, br_if]
    rw [if_neg (by omega), List.drop_eq_nil_of_le (by omega)]
    exact ⟨-1, rfl, by simp⟩
  | succ d ih =>
    intro i hi hd
    have hil : i < l.length := by omega
    rw [slices_IndexFuncapi_Ref_api_Ref.l0.eq, ixR l i hil, plan_May_1.eq, ahead_any _ (hr _ (List.getElem_mem hil)) b hb, bnd_some, bnd_some]
    simp only [ltI_d, leI_d, notB_d, ofN_d, lenL_d, andB_d, br_if]
    rw [if_pos (by omega), if_pos (by omega), add1 i (by omega), any_drop l i hil]
    by_cases h1 : -(b : Int) ≤ l[i]
    · rw [if_neg (fun q => q h1), decide_eq_true h1, Bool.not_true, Bool.false_or]
      exact ih (i + 1) (by omega) (by omega)
    · rw [if_pos h1, decide_eq_false h1, Bool.not_false, Bool.true_or]
      exact ⟨i, rfl, fun _ => rfl, fun _ => by omega⟩
theorem contains0 (l : List Int) (hl : l.length ≤ 1000000) (hr : ∀ r ∈ l, rng r) (b : Nat) (hb : b ≤ 1000000) : slices_ContainsFuncapi_Ref_api_Ref l ((), ()) b = some (l.any (fun r => !decide (-(b : Int) ≤ r)), ((b : Int), ())) := by
  obtain ⟨x, h1, h2⟩ := index0 l hl hr b hb l.length 0 (by omega) (by omega)
  rw [slices_ContainsFuncapi_Ref_api_Ref.eq, slices_IndexFuncapi_Ref_api_Ref.eq]
  have h1 : slices_IndexFuncapi_Ref_api_Ref.l0 l ((), ()) (ofN (lenL (.int .i64) l)) 0 b = some (x, ((b : Int), ())) := h1
  rw [h1, bnd_some, leI_d]
  rw [List.drop_zero] at h2
  have : decide ((0 : Int) ≤ x) = l.any (fun r => !decide (-(b : Int) ≤ r)) := by rw [Bool.eq_iff_iff, decide_eq_true_iff]; exact h2
  rw [this]
theorem index1 (l : List Int) (hl : l.length ≤ 1000000) (d : Nat) : ∀ (i : Nat), i ≤ l.length → l.length - i = d → ∃ x : Int, slices_IndexFuncapi_Ref_api_Ref_v1.l0 l l.length i = some x ∧ (0 ≤ x ↔ (l.drop i).any (fun r => decide (r ≤ 0)) = true) := by
  induction d with
  | zero =>
    intro i hi hd
    rw [slices_IndexFuncapi_Ref_api_Ref_v1.l0.eq]
    simp only [ltI_d, br_if]
    rw [if_neg (by omega), List.drop_eq_nil_of_le (by omega)]
    exact ⟨-1, rfl, by simp⟩
  | succ d ih =>
    intro i hi hd
    have hil : i < l.length := by omega
    rw [slices_IndexFuncapi_Ref_api_Ref_v1.l0.eq, ixR l i hil, plan_May_2.eq, bnd_some]
    simp only [ltI_d, leI_d, notB_d, ofN_d, lenL_d, andB_d, br_if]
    rw [if_pos (by omega), if_pos (by omega), add1 i (by omega), any_drop l i hil]
    by_cases h1 : l[i] ≤ 0
    · rw [if_pos h1, decide_eq_true h1, Bool.true_or]
      exact ⟨i, rfl, fun _ => rfl, fun _ => by omega⟩
    · rw [if_neg h1, decide_eq_false h1, Bool.false_or]
      exact ih (i + 1) (by omega) (by omega)
theorem contains1 (l : List Int) (hl : l.length ≤ 1000000) : slices_ContainsFuncapi_Ref_api_Ref_v1 l = some (l.any (fun r => decide (r ≤ 0))) := by
  obtain ⟨x, h1, h2⟩ := index1 l hl l.length 0 (by omega) (by omega)
  rw [slices_ContainsFuncapi_Ref_api_Ref_v1.eq, slices_IndexFuncapi_Ref_api_Ref_v1.eq]
  have h1 : slices_IndexFuncapi_Ref_api_Ref_v1.l0 l (ofN (lenL (.int .i64) l)) 0 = some x := h1
  rw [h1, bnd_some, leI_d]
  rw [List.drop_zero] at h2
  exact some_bool (by rw [Bool.eq_iff_iff, decide_eq_true_iff]; exact h2)
theorem index2 (h : List NodeV) (l : List Int) (hl : l.length ≤ 1000000) (d : Nat) : ∀ (i : Nat), i ≤ l.length → l.length - i = d → ∃ x : Int, slices_IndexFuncapi_Ref_api_Ref_v2.l0 l ((), ()) l.length i h = some (x, (h, ())) ∧ (0 ≤ x ↔ (l.drop i).any (fun r => !decide (r ≤ (h.length : Int))) = true) := by
  induction d with
  | zero =>
    intro i hi hd
    rw [slices_IndexFuncapi_Ref_api_Ref_v2.l0.eq]
    simp only [ltI_d, br_if]
    rw [if_neg (by omega), List.drop_eq_nil_of_le (by omega)]
    exact ⟨-1, rfl, by simp⟩
  | succ d ih =>
    intro i hi hd
    have hil : i < l.length := by omega
    rw [slices_IndexFuncapi_Ref_api_Ref_v2.l0.eq, ixR l i hil, plan_fits_1.eq, plan_has.eq, bnd_some, bnd_some]
    simp only [ltI_d, leI_d, notB_d, ofN_d, lenL_d, andB_d, br_if]
    rw [if_pos (by omega), if_pos (by omega), add1 i (by omega), any_drop l i hil]
    by_cases h1 : l[i] ≤ (h.length : Int)
    · rw [if_neg (fun q => q h1), decide_eq_true h1, Bool.not_true, Bool.false_or]
      exact ih (i + 1) (by omega) (by omega)
    · rw [if_pos h1, decide_eq_false h1, Bool.not_false, Bool.true_or]
      exact ⟨i, rfl, fun _ => rfl, fun _ => by omega⟩
theorem contains2 (h : List NodeV) (l : List Int) (hl : l.length ≤ 1000000) : slices_ContainsFuncapi_Ref_api_Ref_v2 l ((), ()) h = some (l.any (fun r => !decide (r ≤ (h.length : Int))), (h, ())) := by
  obtain ⟨x, h1, h2⟩ := index2 h l hl l.length 0 (by omega) (by omega)
  rw [slices_ContainsFuncapi_Ref_api_Ref_v2.eq, slices_IndexFuncapi_Ref_api_Ref_v2.eq]
  have h1 : slices_IndexFuncapi_Ref_api_Ref_v2.l0 l ((), ()) (ofN (lenL (.int .i64) l)) 0 h = some (x, (h, ())) := h1
  rw [h1, bnd_some, leI_d]
  rw [List.drop_zero] at h2
  have : decide ((0 : Int) ≤ x) = l.any (fun r => !decide (r ≤ (h.length : Int))) := by rw [Bool.eq_iff_iff, decide_eq_true_iff]; exact h2
  rw [this]
def mayPL : Nat → List NodeV → Bool
  | _, [] => true
  | i, n :: l => (decide (mayS n = 0) && (refsS n).all fun r => decide (-(i : Int) ≤ r)) && mayPL (i + 1) l
def mayP (p : PlanV) : Bool := mayPL 0 p.1 && (p.2.2.1.all (fun r => decide (1 ≤ r)) && decide (-(p.1.length : Int) ≤ p.2.1))
theorem any_not_all (l : List Int) (p : Int → Bool) : l.any (fun r => !p r) = !l.all p := by
  induction l with
  | nil => rfl
  | cons a l ih => rw [List.any_cons, List.all_cons, ih, Bool.not_and]
theorem mayp_loop (p : PlanV) (h : okPl p) (d : Nat) : ∀ (i : Nat), i ≤ p.1.length → p.1.length - i = d → plan_May.l0 p.1 p.1.length i p = some (if (mayPL i (p.1.drop i) && (p.2.2.1.all (fun r => decide (1 ≤ r)) && decide (-(p.1.length : Int) ≤ p.2.1))) = true then 0 else 4) := by
  have hl := h.len
  have hold := h.old
  induction d with
  | zero =>
    intro i hi hd
    rw [plan_May.l0.eq]
    simp only [ltI_d, ofN_d, lenL_d, br_if]
    rw [if_neg (by omega), ahead_any _ h.root _ (by omega), bnd_some, contains1 _ (by omega), bnd_some, List.drop_eq_nil_of_le (by omega), notB_d, br_if, br_b]
    rw [show mayPL i [] = true from rfl, Bool.true_and]
    have e : p.2.2.1.any (fun r => decide (r ≤ 0)) = !p.2.2.1.all (fun r => decide (1 ≤ r)) := by
      rw [← any_not_all]
      congr 1
      funext r
      rw [Bool.eq_iff_iff, Bool.not_eq_true', decide_eq_true_iff, decide_eq_false_iff_not]
      omega
    rw [e]
    by_cases h1 : -(p.1.length : Int) ≤ p.2.1
    · rw [if_neg (fun q => q h1), decide_eq_true h1, Bool.and_true]
      cases p.2.2.1.all (fun r => decide (1 ≤ r)) <;> rfl
    · rw [if_pos h1, decide_eq_false h1, Bool.and_false, if_neg (by simp)]
  | succ d ih =>
    intro i hi hd
    have hil : i < p.1.length := by omega
    have hm := List.getElem_mem hil
    have o := h.node _ hm
    have hrl := refsS_len p.1[i]
    have hkl := h.few _ hm
    rw [plan_May.l0.eq, ixN p.1 i hil, may_any _ o, bnd_some, refs_any _ o, bnd_some, contains0 _ (by omega) (refs_rng (h.rngs _ hm)) i (by omega), bnd_some]
    simp only [ltI_d, leI_d, eqI_d, notB_d, ofN_d, lenL_d, andB_d, br_if]
    simp only [br_b]
    rw [if_pos (by omega), if_pos (by omega), add1 i (by omega), ih (i + 1) (by omega) (by omega), List.drop_eq_getElem_cons hil, any_not_all]
    rw [show mayPL i (p.1[i] :: p.1.drop (i + 1)) = ((decide (mayS p.1[i] = 0) && (refsS p.1[i]).all fun r => decide (-(i : Int) ≤ r)) && mayPL (i + 1) (p.1.drop (i + 1))) from rfl]
    by_cases hz : mayS p.1[i] = 0
    · rw [if_neg (fun q => q hz), decide_eq_true hz, Bool.true_and]
      cases (refsS p.1[i]).all fun r => decide (-(i : Int) ≤ r) with
      | true => rw [if_neg (by simp), Bool.true_and]
      | false => rw [if_pos (show (!false) = true from rfl), Bool.false_and, Bool.false_and, if_neg (by simp)]
    · rw [if_pos hz, decide_eq_false hz, Bool.false_and, Bool.false_and, Bool.false_and, if_neg (by simp)]
theorem mayp_any (p : PlanV) (h : okPl p) : plan_May p = some (if mayP p = true then 0 else 4) := by
  rw [plan_May.eq]
  exact mayp_loop p h p.1.length 0 (by omega) (by omega)
/-! ### Whether a heap has what a plan refers to -/
def refsL (l : List NodeV) : List Int := l.flatMap refsS
def fitsL (h : List NodeV) (l : List Int) : Bool := l.all fun r => decide (r ≤ (h.length : Int))
def fitsP (h : List NodeV) (p : PlanV) : Bool := fitsL h ((p.2.2.1 ++ [p.2.1]) ++ refsL p.1)
theorem fits_loop (h : List NodeV) (ns : List NodeV) (hn : ns.length ≤ 1000) (ho : ∀ n ∈ ns, okN n) (hf : ∀ n ∈ ns, n.2.2.2.2.1.length ≤ 40) (d : Nat) : ∀ (i : Nat) (acc : List Int), acc.length ≤ 2000 + 41 * i → i ≤ ns.length → ns.length - i = d →
    plan_fits.l0 ns ns.length i h acc = some (fitsL h (acc ++ refsL (ns.drop i))) := by
  induction d with
  | zero =>
    intro i acc ha hi hd
    rw [plan_fits.l0.eq]
    simp only [ltI_d, br_if]
    rw [if_neg (by omega), contains2 h acc (by omega), bnd_some, any_not_all, List.drop_eq_nil_of_le (by omega)]
    rw [show refsL [] = [] from rfl, List.append_nil]
    unfold fitsL
    cases acc.all fun r => decide (r ≤ (h.length : Int)) <;> rfl
  | succ d ih =>
    intro i acc ha hi hd
    have hil : i < ns.length := by omega
    have o := ho _ (List.getElem_mem hil)
    have hrl := refsS_len ns[i]
    have hkl := hf _ (List.getElem_mem hil)
    have hal : (acc ++ refsS ns[i]).length ≤ 2000 + 41 * (i + 1) := by rw [List.length_append]; omega
    rw [plan_fits.l0.eq, ixN ns i hil, refs_any _ o, bnd_some]
    simp only [ltI_d, leI_d, ofN_d, lenL_d, andB_d, br_if, fitL_d, appL_d]
    rw [if_pos (by omega), if_pos (by omega), if_pos (by omega), add1 i (by omega), ih (i + 1) _ hal (by omega) (by omega), List.drop_eq_getElem_cons hil]
    unfold refsL
    rw [List.flatMap_cons, List.append_assoc]
theorem pfits_any (h : List NodeV) (p : PlanV) (hp : okPl p) : plan_fits h p = some (fitsP h p) := by
  have hold := hp.old
  have hal : (p.2.2.1 ++ [p.2.1]).length ≤ 2000 := by rw [List.length_append]; show _ + 1 ≤ _; omega
  rw [plan_fits.eq, both_self, cloneR_any _ (by omega), bnd_some]
  simp only [fitL_d, appL_d, br_if]
  rw [if_pos (by omega)]
  exact fits_loop h p.1 hp.len hp.node hp.few p.1.length 0 _ (by omega) (by omega) (by omega)
/-! ### A plan done -/
def doL (out : List NodeV) (to : List Int) : List NodeV → List NodeV × List Int
  | [] => (out, to)
  | n :: l => doL (out ++ [fillS to n]) (to ++ [((out.length + 1 : Nat) : Int)]) l
theorem doL_to : ∀ (l out : List NodeV) (to : List Int), (doL out to l).2.length = to.length + l.length
  | [], _, _ => rfl
  | n :: l, out, to => by
    unfold doL
    rw [doL_to l]
    simp only [List.length_append, List.length_cons, List.length_nil]
    omega
theorem do_l1 (p : PlanV) (hp : okPl p) (d : Nat) : ∀ (i : Nat) (out : List NodeV) (to : List Int), out.length ≤ 40000000 + i → to.length = i → i ≤ p.1.length → p.1.length - i = d →
    plan_Do.l1 p.1 p.1.length i p out to = some ((doL out to (p.1.drop i)).1, (refD (doL out to (p.1.drop i)).2 p.2.1, ((if (refR (doL out to (p.1.drop i)).2 p.2.1).isSome = true then 0 else 4), ()))) := by
  have hl := hp.len
  induction d with
  | zero =>
    intro i out to h1 h2 hi hd
    rw [plan_Do.l1.eq]
    simp only [ltI_d, br_if]
    rw [if_neg (by omega), planref_any _ hp.root to, bnd_some, List.drop_eq_nil_of_le (by omega)]
    rfl
  | succ d ih =>
    intro i out to h1 h2 hi hd
    have hil : i < p.1.length := by omega
    have hm := List.getElem_mem hil
    have o1 : (out ++ [fillS to p.1[i]]).length = out.length + 1 := by rw [List.length_append]; rfl
    have o2 : (to ++ [((out.length + 1 : Nat) : Int)]).length = to.length + 1 := by rw [List.length_append]; rfl
    rw [plan_Do.l1.eq, ixN p.1 i hil, fill_any to _ (hp.node _ hm) (hp.rngs _ hm), bnd_some]
    simp only [ltI_d, leI_d, ofN_d, lenL_d, andB_d, br_if, fitL_d, appL_d]
    rw [o1, o2, if_pos (by omega), if_pos (by omega), if_pos (by omega), if_pos (by omega), add1 i (by omega), ih (i + 1) _ _ (by omega) (by omega) (by omega) (by omega), List.drop_eq_getElem_cons hil]
    rfl
theorem do_l0 (h : List NodeV) (hh : okH h) (p : PlanV) (hp : okPl p) (d : Nat) : ∀ (i : Nat), i ≤ h.length → h.length - i = d →
    plan_Do.l0 h h.length i p (h.take i) = plan_Do.l1 p.1 p.1.length 0 p h [] := by
  have hl := hh.len
  induction d with
  | zero =>
    intro i hi hd
    rw [plan_Do.l0.eq]
    simp only [ltI_d, br_if]
    rw [if_neg (by omega), List.take_of_length_le (by omega)]
    rfl
  | succ d ih =>
    intro i hi hd
    have hil : i < h.length := by omega
    rw [plan_Do.l0.eq, ixN h i hil, copy_any _ (hh.node _ (List.getElem_mem hil)), bnd_some]
    simp only [ltI_d, leI_d, ofN_d, lenL_d, andB_d, br_if, fitL_d, appL_d]
    have e : h.take i ++ [h[i]] = h.take (i + 1) := by rw [List.take_succ_eq_append_getElem hil]
    have e' : h.take i ++ [((h[i].1, (h[i].2.1, (h[i].2.2.1, (h[i].2.2.2.1, (h[i].2.2.2.2.1, (h[i].2.2.2.2.2.1, (h[i].2.2.2.2.2.2.1, h[i].2.2.2.2.2.2.2))))))) : NodeV)] = h.take (i + 1) := e
    rw [if_pos (by omega), if_pos (by omega), e', if_pos (by rw [List.length_take]; omega), add1 i (by omega)]
    exact ih (i + 1) (by omega) (by omega)
def doS (h : List NodeV) (p : PlanV) : List NodeV × List Int := doL h [] p.1
theorem root_in {p : PlanV} (h : mayP p = true) (out : List NodeV) : (refR (doL out [] p.1).2 p.2.1).isSome = true := by
  have hlen := doL_to p.1 out []
  unfold mayP at h
  simp only [Bool.and_eq_true, decide_eq_true_eq] at h
  have h3 := h.2.2
  unfold refR
  by_cases h1 : 0 ≤ p.2.1
  · rw [if_pos h1]; rfl
  · have : -1 - p.2.1 < (((doL out [] p.1).2.length : Nat) : Int) := by
      rw [hlen]
      show _ < ((([] : List Int).length + p.1.length : Nat) : Int)
      simp only [List.length_nil]
      omega
    rw [if_neg h1, if_pos this]
    rfl
theorem do_any (h : List NodeV) (hh : okH h) (p : PlanV) (hp : okPl p) : plan_Do h p = some (if (mayP p && (mayH h && fitsP h p)) = true then ((doS h p).1, (refD (doS h p).2 p.2.1, (0, ()))) else ([], (0, (4, ())))) := by
  rw [plan_Do.eq, mayp_any p hp, bnd_some, mayh_any h hh, bnd_some, pfits_any h p hp, bnd_some]
  simp only [eqI_d, notB_d, br_if]
  cases h1 : mayP p with
  | false => rw [if_neg (show ¬ (false = true) by simp), if_pos (show ¬ (4 : Int) = 0 by omega), Bool.false_and, if_neg (show ¬ (false = true) by simp)]
  | true =>
    rw [if_pos rfl, if_neg (by omega), Bool.true_and]
    cases h2 : mayH h with
    | false => rw [if_neg (show ¬ (false = true) by simp), if_pos (show ¬ (4 : Int) = 0 by omega), Bool.false_and, if_neg (show ¬ (false = true) by simp)]
    | true =>
      rw [if_pos rfl, if_neg (by omega), Bool.true_and]
      cases h3 : fitsP h p with
      | false => rw [show notB false = true from rfl, br_t, if_neg (by simp)]
      | true =>
        rw [show notB true = false from rfl, br_f, if_pos rfl]
        have e0 := do_l0 h hh p hp h.length 0 (by omega) (by omega)
        have e1 := do_l1 p hp p.1.length 0 h [] (by have := hh.len; omega) rfl (by omega) (by omega)
        rw [show ((0 : Nat) : Int) = 0 from rfl] at e0 e1
        rw [List.take_zero] at e0
        show plan_Do.l0 h ((h.length : Nat) : Int) 0 p [] = _
        rw [e0]
        refine e1.trans ?_
        rw [List.drop_zero, if_pos (root_in h1 h)]
        rfl
end Go.Proofs.YtjekopgcpikkiaaGreatDoor.AK
set_option linter.unusedVariables false
set_option linter.unusedSimpArgs false
namespace Go.Proofs.YtjekopgcpikkiaaGreatDoor.AK
open Go.Abs
def bindsS (n : NodeV) : List PairV := if n.1 = 1 ∨ n.1 = 4 ∨ n.1 = 6 then [(n.2.1, (n.2.2.1, ()))] else if n.1 = 3 then n.2.2.2.2.2.2.1 else []
theorem binds_any (n : NodeV) (h : okN n) : node_Binds n = some ((), (bindsS n, ())) := by
  have hl := h.list
  rw [node_Binds.eq]
  unfold bindsS
  simp only [eqI_d, br_if]
  by_cases h1 : n.1 = 1
  · rw [if_pos h1, if_pos (.inl h1)]
  rw [if_neg h1]
  by_cases h6 : n.1 = 6
  · rw [if_pos h6, if_pos (.inr (.inr h6))]
  rw [if_neg h6]
  by_cases h4 : n.1 = 4
  · rw [if_pos h4, if_pos (.inr (.inl h4))]
  rw [if_neg h4, if_neg (show ¬ (n.1 = 1 ∨ n.1 = 4 ∨ n.1 = 6) by omega)]
  by_cases h3 : n.1 = 3
  · rw [if_pos h3, if_pos h3, cloneP_any _ (by omega), bnd_some]
  · rw [if_neg h3, if_neg h3]
end Go.Proofs.YtjekopgcpikkiaaGreatDoor.AK
set_option linter.unusedVariables false
set_option linter.unusedSimpArgs false
namespace Go.Proofs.YtjekopgcpikkiaaGreatDoor.AK
open Go.Abs
/-! ### Nodes that may be -/
theorem mayS_zero {n : NodeV} (h : mayS n = 0) : 1 ≤ n.1 ∧ n.1 ≤ 6 ∧ longN n = false ∧ formP n := by
  unfold mayS at h
  by_cases h1 : n.1 < 1
  · rw [if_pos h1] at h; cases h
  rw [if_neg h1] at h
  by_cases h2 : 6 < n.1
  · rw [if_pos h2] at h; cases h
  rw [if_neg h2] at h
  by_cases h3 : longN n = true
  · rw [if_pos h3] at h; cases h
  rw [if_neg h3] at h
  by_cases h4 : formP n
  · exact ⟨by omega, by omega, by simpa using h3, h4⟩
  · rw [if_neg h4] at h; cases h
theorem form_tree {n : NodeV} (h : formP n) (h4 : n.1 = 4) : n.2.2.2.1 = 0 ∧ n.2.2.2.2.1.length = 2 ∧ 1 ≤ n.2.2.2.2.2.2.2.1 ∧ n.2.2.2.2.2.1 = 0 ∧ n.2.2.2.2.2.2.1 = [] := by
  unfold formP at h
  obtain ⟨_, h⟩ := h
  rw [if_neg (by omega), if_neg (by omega), if_neg (by omega), if_pos h4] at h
  obtain ⟨h1, h2, h3, hb⟩ := h
  unfold bareP at hb
  exact ⟨h1, h2, h3, hb.2.2.1 rfl, hb.2.2.2 rfl⟩
/-! ### All references of a node, none among them -/
def stripV (n : NodeV) : NodeV := (n.1, (n.2.1, (n.2.2.1, (n.2.2.2.1, ([], (0, (n.2.2.2.2.2.2.1, (n.2.2.2.2.2.2.2.1, (0, ())))))))))
def allK (n : NodeV) : List Int := n.2.2.2.2.1 ++ [n.2.2.2.2.2.1]
theorem refsS_all (n : NodeV) : refsS n = (allK n).filter (fun r => decide (r ≠ 0)) := by
  unfold refsS allK
  rw [List.filter_append]
  by_cases h : n.2.2.2.2.2.1 = 0
  · rw [if_neg (by intro q; exact q h), List.filter_cons_of_neg (by simp [h])]; rfl
  · rw [if_pos h, List.filter_cons_of_pos (by simp [h])]; rfl
theorem allK_len (n : NodeV) : (allK n).length = n.2.2.2.2.1.length + 1 := by unfold allK; simp
inductive Shp where
  | nil
  | node (b : NodeV) (l : List Shp)
def getN (h : List NodeV) (r : Int) : NodeV := h.getD (r - 1).toNat zeroN
theorem getN_ix (h : List NodeV) (i : Nat) (hi : i < h.length) : getN h ((i : Int) + 1) = h[i] := by
  unfold getN
  rw [show ((i : Int) + 1 - 1).toNat = i by omega, List.getD_eq_getElem?_getD, List.getElem?_eq_getElem hi]; rfl
theorem getN_mem (h : List NodeV) (r : Int) (h1 : 1 ≤ r) (h2 : r ≤ h.length) : getN h r ∈ h := by
  obtain ⟨i, rfl⟩ : ∃ i : Nat, r = (i : Int) + 1 := ⟨(r - 1).toNat, by omega⟩
  rw [getN_ix h i (by omega)]
  exact List.getElem_mem _
theorem sub1I (r : Int) (h1 : 1 ≤ r) (h2 : r ≤ 1000000000) : subI .i64 r 1 = r - 1 := subI_d (by omega) (by omega)
theorem ixG (h : List NodeV) (r : Int) (h1 : 1 ≤ r) (h2 : r ≤ h.length) (h3 : h.length ≤ 50000000) : ixL tapiNode h (subI .i64 r 1) = getN h r := by
  obtain ⟨i, rfl⟩ : ∃ i : Nat, r = (i : Int) + 1 := ⟨(r - 1).toNat, by omega⟩
  rw [sub1I _ h1 (by omega), getN_ix h i (by omega), show ((i : Int) + 1 - 1) = (i : Int) by omega]
  exact ixN h i (by omega)
theorem inG (h : List NodeV) (r : Int) (h1 : 1 ≤ r) (h2 : r ≤ h.length) (h3 : h.length ≤ 50000000) : andB (leI 0 (subI .i64 r 1)) (ltI (subI .i64 r 1) (ofN (lenL tapiNode h))) = true := by
  rw [sub1I r h1 (by omega), leI_d, ltI_d, andB_d]
  refine decide_eq_true ⟨by omega, ?_⟩
  show r - 1 < (h.length : Int)
  omega
def unf (h : List NodeV) : Nat → Int → Shp
  | 0, _ => .nil
  | k + 1, r => if r = 0 then .nil else .node (stripV (getN h r)) ((allK (getN h r)).map (unf h k))
def U (h : List NodeV) (r : Int) : Shp := unf h r.toNat r
theorem mayHL_at : ∀ (l : List NodeV) (i : Nat), mayHL i l = true → ∀ (j : Nat) (hj : j < l.length), mayS l[j] = 0 ∧ ∀ r ∈ refsS l[j], 1 ≤ r ∧ r ≤ ((i + j : Nat) : Int)
  | n :: l, i, h, j, hj => by
    unfold mayHL at h
    simp only [Bool.and_eq_true, decide_eq_true_eq, List.all_eq_true] at h
    obtain ⟨⟨h1, h2⟩, h3⟩ := h
    cases j with
    | zero => exact ⟨h1, h2⟩
    | succ j =>
      have := mayHL_at l (i + 1) h3 j (by simpa using hj)
      rw [show i + 1 + j = i + (j + 1) by omega] at this
      exact this
theorem mayHL_of : ∀ (l : List NodeV) (i : Nat), (∀ (j : Nat) (hj : j < l.length), mayS l[j] = 0 ∧ ∀ r ∈ refsS l[j], 1 ≤ r ∧ r ≤ ((i + j : Nat) : Int)) → mayHL i l = true
  | [], _, _ => rfl
  | n :: l, i, h => by
    unfold mayHL
    simp only [Bool.and_eq_true, decide_eq_true_eq, List.all_eq_true]
    refine ⟨h 0 (by simp), mayHL_of l (i + 1) fun j hj => ?_⟩
    have := h (j + 1) (by simpa using hj)
    rw [show i + (j + 1) = i + 1 + j by omega] at this
    exact this
theorem may_node {h : List NodeV} (hm : mayH h = true) {r : Int} (h1 : 1 ≤ r) (h2 : r ≤ h.length) : mayS (getN h r) = 0 ∧ ∀ k ∈ allK (getN h r), k = 0 ∨ (1 ≤ k ∧ k ≤ r - 1) := by
  obtain ⟨i, rfl⟩ : ∃ i : Nat, r = (i : Int) + 1 := ⟨(r - 1).toNat, by omega⟩
  rw [getN_ix h i (by omega)]
  obtain ⟨a, b⟩ := mayHL_at h 0 hm i (by omega)
  refine ⟨a, fun k hk => ?_⟩
  by_cases e : k = 0
  · exact .inl e
  · have := b k (by rw [refsS_all]; exact List.mem_filter.2 ⟨hk, by simp [e]⟩)
    exact .inr ⟨this.1, by omega⟩
theorem unf_zero (h : List NodeV) (k : Nat) : unf h k 0 = .nil := by
  cases k with
  | zero => rfl
  | succ k => unfold unf; exact if_pos rfl
theorem unf_fuel {h : List NodeV} (hm : mayH h = true) : ∀ (n : Nat) (r : Int) (k k' : Nat), 0 ≤ r → r ≤ n → r ≤ h.length → r.toNat ≤ k → r.toNat ≤ k' → unf h k r = unf h k' r := by
  intro n
  induction n with
  | zero =>
    intro r k k' h0 h1 h2 h3 h4
    have : r = 0 := by omega
    subst this
    rw [unf_zero, unf_zero]
  | succ n ih =>
    intro r k k' h0 h1 h2 h3 h4
    by_cases e : r = 0
    · subst e; rw [unf_zero, unf_zero]
    obtain ⟨k, rfl⟩ : ∃ j, k = j + 1 := ⟨k - 1, by omega⟩
    obtain ⟨k', rfl⟩ : ∃ j, k' = j + 1 := ⟨k' - 1, by omega⟩
    unfold unf
    rw [if_neg e, if_neg e]
    congr 1
    refine List.map_congr_left fun x hx => ?_
    rcases (may_node hm (by omega) h2).2 x hx with rfl | ⟨g1, g2⟩
    · rw [unf_zero, unf_zero]
    · exact ih x k k' (by omega) (by omega) (by omega) (by omega) (by omega)
theorem U_zero (h : List NodeV) : U h 0 = .nil := unf_zero h _
theorem U_node {h : List NodeV} (hm : mayH h = true) {r : Int} (h1 : 1 ≤ r) (h2 : r ≤ h.length) : U h r = .node (stripV (getN h r)) ((allK (getN h r)).map (U h)) := by
  unfold U
  obtain ⟨k, hk⟩ : ∃ j, r.toNat = j + 1 := ⟨r.toNat - 1, by omega⟩
  rw [hk, unf, if_neg (by omega)]
  congr 1
  refine List.map_congr_left fun x hx => ?_
  rcases (may_node hm h1 h2).2 x hx with rfl | ⟨g1, g2⟩
  · rw [unf_zero, unf_zero]
  · exact unf_fuel hm x.toNat x k x.toNat (by omega) (by omega) (by omega) (by omega) (by omega)
theorem U_nil {h : List NodeV} (hm : mayH h = true) {r : Int} (h1 : 0 ≤ r) (h2 : r ≤ h.length) : U h r = .nil ↔ r = 0 := by
  constructor
  · intro e
    by_cases q : r = 0
    · exact q
    · rw [U_node hm (by omega) h2] at e; cases e
  · rintro rfl; exact U_zero h
/-! ### Whether heaps may be, and references fit -/
def fitH (h : List NodeV) (r : Int) : Bool := decide (0 ≤ r ∧ r ≤ h.length) && mayH h
theorem hmay_any (h : List NodeV) (ho : okH h) (r : Int) : heap_may h r = some (if fitH h r = true then 0 else 4) := by
  rw [heap_may.eq, mayh_any h ho, bnd_some]
  unfold fitH
  simp only [ltI_d, leI_d, ofN_d, lenL_d, br_if]
  by_cases h1 : r < 0
  · rw [if_pos h1, decide_eq_false (by omega), Bool.false_and, if_neg (by simp)]
  rw [if_neg h1]
  by_cases h2 : (h.length : Int) < r
  · rw [if_pos h2, decide_eq_false (by omega), Bool.false_and, if_neg (by simp)]
  rw [if_neg h2, decide_eq_true (by omega), Bool.true_and]
theorem fits_any (h : List NodeV) (ho : okH h) (r : Int) : ref17_Fits h r = some (fitH h r) := by
  rw [ref17_Fits.eq, refmayh_any h ho, bnd_some]
  unfold fitH
  simp only [ltI_d, leI_d, ofN_d, lenL_d, br_if]
  by_cases h1 : 0 ≤ r
  · rw [if_pos h1]
    by_cases h2 : r ≤ (h.length : Int)
    · rw [if_pos h2, decide_eq_true ⟨h1, h2⟩, Bool.true_and]
    · rw [if_neg h2, decide_eq_false (fun q => h2 q.2), Bool.false_and]
  · rw [if_neg h1, decide_eq_false (fun q => h1 q.1), Bool.false_and]
theorem fitH_iff {h : List NodeV} {r : Int} : fitH h r = true ↔ (0 ≤ r ∧ r ≤ h.length) ∧ mayH h = true := by
  unfold fitH; simp
/-! ### The bindings below a shape -/
mutual
def bindsT : Shp → List PairV
  | .nil => []
  | .node b l => if b.1 = 4 then (bindsL l).getD 0 [] ++ bindsS b ++ (bindsL l).getD 1 [] else bindsS b ++ (bindsL l).flatten
def bindsL : List Shp → List (List PairV)
  | [] => []
  | s :: l => bindsT s :: bindsL l
end
theorem bindsL_map : ∀ l, bindsL l = l.map bindsT
  | [] => by rw [bindsL]; rfl
  | s :: l => by rw [bindsL, bindsL_map l]; rfl
theorem bindsT_nil : bindsT .nil = [] := by rw [bindsT]
theorem bindsT_node (b : NodeV) (l : List Shp) : bindsT (.node b l) = if b.1 = 4 then ((l.map bindsT).getD 0 []) ++ bindsS b ++ ((l.map bindsT).getD 1 []) else bindsS b ++ (l.map bindsT).flatten := by
  rw [bindsT, bindsL_map]
theorem bindsS_strip (n : NodeV) : bindsS (stripV n) = bindsS n := rfl
theorem flat_refs (f : Int → List PairV) (hf : f 0 = []) : ∀ l : List Int, (l.map f).flatten = ((l.filter (fun r => decide (r ≠ 0))).map f).flatten
  | [] => rfl
  | r :: l => by
    by_cases h : r = 0
    · rw [List.filter_cons_of_neg (by simp [h]), List.map_cons, List.flatten_cons, h, hf, List.nil_append, flat_refs f hf l]
    · rw [List.filter_cons_of_pos (by simp [h]), List.map_cons, List.map_cons, List.flatten_cons, List.flatten_cons, flat_refs f hf l]
theorem bindsU_refs {h : List NodeV} (hm : mayH h = true) {r : Int} (h1 : 1 ≤ r) (h2 : r ≤ h.length) (h4 : (getN h r).1 ≠ 4) : bindsT (U h r) = bindsS (getN h r) ++ ((refsS (getN h r)).map fun x => bindsT (U h x)).flatten := by
  rw [U_node hm h1 h2, bindsT_node, if_neg (show ¬ (stripV (getN h r)).1 = 4 from h4), bindsS_strip, List.map_map, refsS_all]
  congr 1
  exact flat_refs (fun x => bindsT (U h x)) (by rw [U_zero, bindsT_nil]) _
theorem bindsU_tree {h : List NodeV} (hm : mayH h = true) {r : Int} (h1 : 1 ≤ r) (h2 : r ≤ h.length) (h4 : (getN h r).1 = 4) :
    ∃ a b : Int, (getN h r).2.2.2.2.1 = [a, b] ∧ (getN h r).2.2.2.2.2.1 = 0 ∧ (a = 0 ∨ (1 ≤ a ∧ a ≤ r - 1)) ∧ (b = 0 ∨ (1 ≤ b ∧ b ≤ r - 1)) ∧ bindsT (U h r) = bindsT (U h a) ++ bindsS (getN h r) ++ bindsT (U h b) := by
  obtain ⟨g1, g2⟩ := may_node hm h1 h2
  obtain ⟨_, k2, _, k4, _⟩ := form_tree (mayS_zero g1).2.2.2 h4
  obtain ⟨a, b, e⟩ : ∃ a b, (getN h r).2.2.2.2.1 = [a, b] := by
    match hk : (getN h r).2.2.2.2.1, k2 with
    | [a, b], _ => exact ⟨a, b, rfl⟩
  have ea : allK (getN h r) = [a, b, 0] := by unfold allK; rw [e, k4]; rfl
  refine ⟨a, b, e, k4, g2 a (by rw [ea]; simp), g2 b (by rw [ea]; simp), ?_⟩
  rw [U_node hm h1 h2, bindsT_node, if_pos (show (stripV (getN h r)).1 = 4 from h4), bindsS_strip, ea]
  rfl
theorem ix0 (l : List Int) (a b : Int) (h : l = [a, b]) : ixL (.int .i64) l 0 = a ∧ ixL (.int .i64) l 1 = b := by subst h; exact ⟨rfl, rfl⟩
theorem in01 (l : List Int) (a b : Int) (h : l = [a, b]) : andB (leI 0 0) (ltI 0 (ofN (lenL (.int .i64) l))) = true ∧ andB (leI 0 1) (ltI 1 (ofN (lenL (.int .i64) l))) = true := by
  subst h; exact ⟨rfl, rfl⟩
theorem flat_sub {l : List (List PairV)} {x : List PairV} (h : x ∈ l) : x.length ≤ l.flatten.length := by
  induction l with
  | nil => cases h
  | cons y l ih =>
    rw [List.flatten_cons, List.length_append]
    rcases List.mem_cons.1 h with rfl | h
    · omega
    · have := ih h; omega
theorem hbinds_loop {h : List NodeV} (ho : okH h) (refs : List Int) (hr : refs.length ≤ 50000000) (hb : ∀ x ∈ refs, heap_binds h x = some ((), (bindsT (U h x), ()))) (d : Nat) : ∀ (i : Nat) (acc : List PairV), i ≤ refs.length → refs.length - i = d →
    (acc ++ ((refs.drop i).map fun x => bindsT (U h x)).flatten).length ≤ 1000000000 → heap_binds.l0 h refs refs.length i acc = some ((), (acc ++ ((refs.drop i).map fun x => bindsT (U h x)).flatten, ())) := by
  induction d with
  | zero =>
    intro i acc h1 h2 h3
    rw [heap_binds.l0.eq]
    simp only [ltI_d, br_if]
    rw [if_neg (by omega), List.drop_eq_nil_of_le (by omega)]
    simp
  | succ d ih =>
    intro i acc h1 h2 h3
    have hi : i < refs.length := by omega
    rw [List.drop_eq_getElem_cons hi, List.map_cons, List.flatten_cons, ← List.append_assoc] at h3
    rw [heap_binds.l0.eq]
    simp only [ltI_d, leI_d, ofN_d, lenL_d, andB_d, br_if]
    rw [if_pos (by omega), if_pos (by omega), ixR refs i hi, hb _ (List.getElem_mem hi), bnd_some]
    simp only [fitL_d, appL_d, br_if]
    rw [if_pos (by rw [List.length_append] at h3; omega), add1 i (by omega), ih (i + 1) _ (by omega) (by omega) h3, List.drop_eq_getElem_cons hi, List.map_cons, List.flatten_cons, List.append_assoc]
theorem hbinds_any {h : List NodeV} (ho : okH h) (hm : mayH h = true) : ∀ (n : Nat) (r : Int), 0 ≤ r → r ≤ n → r ≤ h.length → (bindsT (U h r)).length ≤ 1000000000 → heap_binds h r = some ((), (bindsT (U h r), ())) := by
  have hlen := ho.len
  intro n
  induction n with
  | zero =>
    intro r h0 h1 h2 h3
    have : r = 0 := by omega
    subst this
    rw [heap_binds.eq, eqI_d, br_if, if_pos rfl, U_zero, bindsT_nil]
  | succ n ih =>
    intro r h0 h1 h2 h3
    by_cases e : r = 0
    · subst e
      rw [heap_binds.eq, eqI_d, br_if, if_pos rfl, U_zero, bindsT_nil]
    have hr1 : 1 ≤ r := by omega
    have o := ho.node _ (getN_mem h r hr1 h2)
    rw [heap_binds.eq, eqI_d, br_if, if_neg e, inG h r hr1 h2 (by omega), br_t, ixG h r hr1 h2 (by omega), eqI_d, br_if]
    by_cases h4 : (getN h r).1 = 4
    · obtain ⟨a, b, k1, k2, k3, k4, k5⟩ := bindsU_tree hm hr1 h2 h4
      rw [k5, List.length_append, List.length_append] at h3
      rw [if_pos h4, (in01 _ a b k1).1, br_t, (in01 _ a b k1).2, br_t, (ix0 _ a b k1).1, (ix0 _ a b k1).2, ih a (by omega) (by omega) (by omega) (by omega), bnd_some, binds_any _ o, bnd_some]
      simp only [fitL_d, appL_d, br_if]
      rw [if_pos (by rw [List.length_append]; omega), ih b (by omega) (by omega) (by omega) (by omega), bnd_some]
      simp only [fitL_d, appL_d, br_if]
      rw [if_pos (by rw [List.length_append, List.length_append]; omega), k5]
    · have k5 := bindsU_refs hm hr1 h2 h4
      have hrl := refsS_len (getN h r)
      have hkl := o.kids
      rw [k5] at h3
      have hx := (may_node hm hr1 h2).2
      have hb : ∀ x ∈ refsS (getN h r), heap_binds h x = some ((), (bindsT (U h x), ())) := by
        intro x hx'
        have hq := hx'
        rw [refsS_all] at hq
        have := hx x (List.mem_filter.1 hq).1
        refine ih x (by omega) (by omega) (by omega) ?_
        have := flat_sub (List.mem_map.2 ⟨x, hx', rfl⟩ : bindsT (U h x) ∈ (refsS (getN h r)).map fun x => bindsT (U h x))
        rw [List.length_append] at h3
        omega
      rw [if_neg h4, binds_any _ o, bnd_some, refs_any _ o, bnd_some]
      have := hbinds_loop ho (refsS (getN h r)) (by omega) hb (refsS (getN h r)).length 0 (bindsS (getN h r)) (by omega) (by omega) (by rw [List.drop_zero]; exact h3)
      rw [List.drop_zero, show ((0 : Nat) : Int) = 0 from rfl] at this
      rw [k5]
      exact this
end Go.Proofs.YtjekopgcpikkiaaGreatDoor.AK
set_option linter.unusedVariables false
set_option linter.unusedSimpArgs false
namespace Go.Proofs.YtjekopgcpikkiaaGreatDoor.AK
open Go.Abs
noncomputable instance shpDec : DecidableEq Shp := fun _ _ => Classical.propDecidable _
noncomputable def eqSh (a b : Shp) : Bool := decide (a = b)
theorem eqSh_iff {a b : Shp} : eqSh a b = true ↔ a = b := by unfold eqSh; exact decide_eq_true_iff
theorem eqSh_not {a b : Shp} (h : a ≠ b) : eqSh a b = false := by unfold eqSh; exact decide_eq_false h
noncomputable def eqShL (a b : List Shp) : Bool := decide (a = b)
theorem eqShL_cons (a b : Shp) (l m : List Shp) : eqShL (a :: l) (b :: m) = (eqSh a b && eqShL l m) := by
  unfold eqShL eqSh
  rw [← Bool.decide_and]
  exact decide_eq_decide.2 (by simp)
theorem eqShL_nil : eqShL [] [] = true := by unfold eqShL; exact decide_eq_true rfl
theorem eqShL_iff {a b : List Shp} : eqShL a b = true ↔ a = b := by unfold eqShL; exact decide_eq_true_iff
def bareV (n : NodeV) : NodeV := (n.1, (n.2.1, (n.2.2.1, (n.2.2.2.1, (n.2.2.2.2.1.map (min · 1), (min n.2.2.2.2.2.1 1, (n.2.2.2.2.2.2.1, (n.2.2.2.2.2.2.2.1, (0, ())))))))))
theorem hbare_loop (m : Nat) (d : Nat) : ∀ (i : Nat) (ks : List Int) (x2 x3) (x5 : List PairV) (x6 : List Int) (x7 : List PairV), ks.length = m → m ≤ 50000000 → i ≤ m → m - i = d →
    heap_bare.l0 (m : Int) i x2 x3 ks x5 x6 x7 = some (x2.1, (x2.2.1, (x2.2.2.1, (x2.2.2.2.1, (ks.take i ++ (ks.drop i).map (min · 1), ((min x2.2.2.2.2.2.1 1), (x5, (x2.2.2.2.2.2.2.2.1, ((0 : Int), ()))))))))) := by
  induction d with
  | zero =>
    intro i ks x2 x3 x5 x6 x7 h1 h2 h3 h4
    rw [heap_bare.l0.eq]
    simp only [ltI_d, minI_d, br_if]
    rw [if_neg (by omega), List.drop_eq_nil_of_le (by omega), List.take_of_length_le (by omega), List.map_nil, List.append_nil]
  | succ d ih =>
    intro i ks x2 x3 x5 x6 x7 h1 h2 h3 h4
    have hi : i < ks.length := by omega
    rw [heap_bare.l0.eq]
    simp only [ltI_d, leI_d, ofN_d, lenL_d, andB_d, minI_d, br_if]
    rw [if_pos (by omega), if_pos (by omega), if_pos (by omega), ixR ks i hi, add1 i (by omega)]
    have e : setL (.int .i64) ks (i : Int) (min ks[i] 1) = ks.set i (min ks[i] 1) := by unfold setL; rw [Int.toNat_natCast]
    rw [e, ih (i + 1) _ _ _ _ _ _ (by rw [List.length_set]; omega) h2 (by omega) (by omega)]
    have e1 : (ks.set i (min ks[i] 1)).take (i + 1) = ks.take i ++ [min ks[i] 1] := by
      rw [List.take_succ_eq_append_getElem (by rw [List.length_set]; exact hi), List.getElem_set_self, List.take_set_of_le (by omega)]
    have e2 : (ks.set i (min ks[i] 1)).drop (i + 1) = ks.drop (i + 1) := List.drop_set_of_lt (by omega)
    rw [e1, e2, List.drop_eq_getElem_cons hi, List.map_cons, List.append_assoc]
    rfl
theorem hbare_any (n : NodeV) (h : okN n) : heap_bare n = some (bareV n) := by
  have hk := h.kids
  rw [heap_bare.eq, copy_any n h, bnd_some]
  have := hbare_loop n.2.2.2.2.1.length n.2.2.2.2.1.length 0 n.2.2.2.2.1 (n.1, (n.2.1, (n.2.2.1, (n.2.2.2.1, ((), (n.2.2.2.2.2.1, ((), n.2.2.2.2.2.2.2))))))) ((0 : Int), (ByteArray.empty, (ByteArray.empty, ((0 : Int), ((), ((0 : Int), ((), ((0 : Int), ((0 : Int), ()))))))))) n.2.2.2.2.2.2.1 [] [] rfl (by omega) (by omega) (by omega)
  rw [List.take_zero, List.drop_zero, List.nil_append, show ((0 : Nat) : Int) = 0 from rfl] at this
  exact this
theorem bare_okN {n : NodeV} (h : okN n) : okN (bareV n) := ⟨h.key, h.val, h.map0, h.map1, by show (n.2.2.2.2.1.map (min · 1)).length ≤ _; rw [List.length_map]; exact h.kids, h.list, h.binds⟩
theorem bare_iff (a b : NodeV) : bareV a = bareV b ↔ stripV a = stripV b ∧ (allK a).map (min · 1) = (allK b).map (min · 1) := by
  rw [node_ext, node_ext]
  unfold bareV stripV allK
  dsimp only
  rw [List.map_append, List.map_append, List.map_singleton, List.map_singleton]
  constructor
  · rintro ⟨h1, h2, h3, h4, h5, h6, h7, h8, _⟩
    exact ⟨⟨h1, h2, h3, h4, rfl, rfl, h7, h8, rfl⟩, by rw [h5, h6]⟩
  · rintro ⟨⟨h1, h2, h3, h4, _, _, h7, h8, _⟩, h5⟩
    obtain ⟨h5, h6⟩ := List.append_inj' h5 rfl
    injection h6 with h6
    exact ⟨h1, h2, h3, h4, h5, h6, h7, h8, rfl⟩
theorem kids_iff {h g : List NodeV} (hz : ∀ k ∈ ([] : List Int), True) : ∀ (l m : List Int), (∀ k ∈ l, 0 ≤ k ∧ (U h k = .nil ↔ k = 0)) → (∀ k ∈ m, 0 ≤ k ∧ (U g k = .nil ↔ k = 0)) →
    ((l.map (min · 1) = m.map (min · 1) ∧ (l.filter (fun r => decide (r ≠ 0))).map (U h) = (m.filter (fun r => decide (r ≠ 0))).map (U g)) ↔ l.map (U h) = m.map (U g))
  | [], [], _, _ => by simp
  | [], b :: m, _, _ => by simp
  | a :: l, [], _, _ => by simp
  | a :: l, b :: m, ha, hb => by
    have ih := kids_iff hz l m (fun k hk => ha k (List.mem_cons_of_mem _ hk)) (fun k hk => hb k (List.mem_cons_of_mem _ hk))
    obtain ⟨a0, a1⟩ := ha a List.mem_cons_self
    obtain ⟨b0, b1⟩ := hb b List.mem_cons_self
    rw [List.map_cons, List.map_cons, List.map_cons, List.map_cons, List.cons.injEq, List.cons.injEq, ← ih]
    by_cases ea : a = 0
    · by_cases eb : b = 0
      · have ua := a1.2 ea
        have ub := b1.2 eb
        rw [List.filter_cons_of_neg (by simp [ea]), List.filter_cons_of_neg (by simp [eb]), ua, ub]
        constructor
        · rintro ⟨⟨_, h1⟩, h2⟩; exact ⟨rfl, h1, h2⟩
        · rintro ⟨_, h1, h2⟩; exact ⟨⟨by omega, h1⟩, h2⟩
      · constructor
        · rintro ⟨⟨h1, _⟩, _⟩; omega
        · rintro ⟨h1, _⟩
          exact absurd (b1.1 (h1.symm.trans (a1.2 ea))) eb
    · by_cases eb : b = 0
      · constructor
        · rintro ⟨⟨h1, _⟩, _⟩; omega
        · rintro ⟨h1, _⟩
          exact absurd (a1.1 (h1.trans (b1.2 eb))) ea
      · rw [List.filter_cons_of_pos (by simp [ea]), List.filter_cons_of_pos (by simp [eb]), List.map_cons, List.map_cons, List.cons.injEq]
        constructor
        · rintro ⟨⟨_, h1⟩, h2, h3⟩; exact ⟨h2, h1, h3⟩
        · rintro ⟨h2, h1, h3⟩; exact ⟨⟨by omega, h1⟩, h2, h3⟩
theorem shape_iff {h g : List NodeV} (hm : mayH h = true) (gm : mayH g = true) {r s : Int} (h1 : 1 ≤ r) (h2 : r ≤ h.length) (g1 : 1 ≤ s) (g2 : s ≤ g.length) :
    U h r = U g s ↔ bareV (getN h r) = bareV (getN g s) ∧ (refsS (getN h r)).map (U h) = (refsS (getN g s)).map (U g) := by
  rw [U_node hm h1 h2, U_node gm g1 g2, bare_iff, refsS_all, refsS_all, Shp.node.injEq, and_assoc]
  refine and_congr_right fun _ => (kids_iff (fun _ hk => by cases hk) _ _ (fun k hk => ?_) (fun k hk => ?_)).symm
  · have := (may_node hm h1 h2).2 k hk
    exact ⟨by omega, U_nil hm (by omega) (by omega)⟩
  · have := (may_node gm g1 g2).2 k hk
    exact ⟨by omega, U_nil gm (by omega) (by omega)⟩
theorem min_filter : ∀ (l m : List Int), l.map (min · 1) = m.map (min · 1) → (∀ k ∈ l, 0 ≤ k) → (∀ k ∈ m, 0 ≤ k) → (l.filter (fun r => decide (r ≠ 0))).length = (m.filter (fun r => decide (r ≠ 0))).length
  | [], [], _, _, _ => rfl
  | [], _ :: _, h, _, _ => by cases h
  | _ :: _, [], h, _, _ => by cases h
  | a :: l, b :: m, h, ha, hb => by
    rw [List.map_cons, List.map_cons, List.cons.injEq] at h
    have ih := min_filter l m h.2 (fun k hk => ha k (List.mem_cons_of_mem _ hk)) (fun k hk => hb k (List.mem_cons_of_mem _ hk))
    have a0 := ha a List.mem_cons_self
    have b0 := hb b List.mem_cons_self
    by_cases ea : a = 0
    · have eb : b = 0 := by have := h.1; omega
      rw [List.filter_cons_of_neg (by simp [ea]), List.filter_cons_of_neg (by simp [eb])]; exact ih
    · have eb : b ≠ 0 := by have := h.1; omega
      rw [List.filter_cons_of_pos (by simp [ea]), List.filter_cons_of_pos (by simp [eb]), List.length_cons, List.length_cons, ih]
theorem hsame_loop {h g : List NodeV} (x y : List Int) (hx : x.length ≤ 50000000) (hxy : x.length = y.length) (hb : ∀ (a b : Int), a ∈ x → b ∈ y → heap_same h a g b = some (eqSh (U h a) (U g b))) (d : Nat) : ∀ (i : Nat), i ≤ x.length → x.length - i = d →
    heap_same.l1 h g x y x.length i = some (eqShL ((x.drop i).map (U h)) ((y.drop i).map (U g))) := by
  induction d with
  | zero =>
    intro i h1 h2
    rw [heap_same.l1.eq]
    simp only [ltI_d, br_if]
    rw [if_neg (by omega), List.drop_eq_nil_of_le (by omega), List.drop_eq_nil_of_le (by omega), List.map_nil, List.map_nil, eqShL_nil]
  | succ d ih =>
    intro i h1 h2
    have hi : i < x.length := by omega
    have hj : i < y.length := by omega
    rw [heap_same.l1.eq]
    simp only [ltI_d, leI_d, ofN_d, lenL_d, andB_d, br_if]
    rw [if_pos (by omega), if_pos (by omega), if_pos (by omega), ixR x i hi, ixR y i hj, hb _ _ (List.getElem_mem hi) (List.getElem_mem hj), bnd_some, add1 i (by omega), ih (i + 1) (by omega) (by omega), List.drop_eq_getElem_cons hi, List.drop_eq_getElem_cons hj, List.map_cons, List.map_cons, eqShL_cons]
    cases eqSh (U h x[i]) (U g y[i]) with
    | true => rw [show notB true = false from rfl, br_f, Bool.true_and]
    | false => rw [show notB false = true from rfl, br_t, Bool.false_and]
theorem hsame_any {h g : List NodeV} (ho : okH h) (hm : mayH h = true) (go : okH g) (gm : mayH g = true) : ∀ (n : Nat) (r s : Int), 0 ≤ r → r ≤ n → r ≤ h.length → 0 ≤ s → s ≤ g.length → heap_same h r g s = some (eqSh (U h r) (U g s)) := by
  have hlen := ho.len
  have glen := go.len
  have zero : ∀ r s : Int, 0 ≤ r → r ≤ h.length → 0 ≤ s → s ≤ g.length → (r = 0 ∨ s = 0) → heap_same h r g s = some (eqSh (U h r) (U g s)) := by
    intro r s h0 h1 g0 g1 hz
    have hj : heap_same.j0 h r g s true = some (eqSh (U h r) (U g s)) := by
      rw [heap_same.j0.eq, br_t, eqI_d]
      refine some_bool ?_
      by_cases e : r = s
      · have e1 : r = 0 := by omega
        have e2 : s = 0 := by omega
        subst e1; subst e2
        rw [U_zero, U_zero, decide_eq_true rfl, eqSh_iff.2 rfl]
      · rw [decide_eq_false e, eqSh_not]
        intro q
        rcases hz with rfl | rfl
        · rw [U_zero] at q; exact e ((U_nil gm g0 g1).1 q.symm).symm
        · rw [U_zero] at q; exact e ((U_nil hm h0 h1).1 q)
    rw [heap_same.eq]
    simp only [eqI_d, br_if]
    by_cases e : r = 0
    · rw [if_pos e]; exact hj
    · rw [if_neg e, decide_eq_true (hz.resolve_left e)]; exact hj
  intro n
  induction n with
  | zero =>
    intro r s h0 h1 h2 g0 g1
    exact zero r s h0 h2 g0 g1 (.inl (by omega))
  | succ n ih =>
    intro r s h0 h1 h2 g0 g1
    by_cases er : r = 0
    · exact zero r s h0 h2 g0 g1 (.inl er)
    by_cases es : s = 0
    · exact zero r s h0 h2 g0 g1 (.inr es)
    have hr1 : 1 ≤ r := by omega
    have hs1 : 1 ≤ s := by omega
    have o := ho.node _ (getN_mem h r hr1 h2)
    have p := go.node _ (getN_mem g s hs1 g1)
    have hx := (may_node hm hr1 h2).2
    have hy := (may_node gm hs1 g1).2
    have hrl := refsS_len (getN h r)
    have hkl := o.kids
    rw [heap_same.eq, eqI_d, br_if, if_neg er, eqI_d, decide_eq_false es, heap_same.j0.eq, br_f, inG h r hr1 h2 (by omega), br_t, inG g s hs1 g1 (by omega), br_t, ixG h r hr1 h2 (by omega), ixG g s hs1 g1 (by omega)]
    simp only [both_self]
    rw [hbare_any _ o, bnd_some, hbare_any _ p, bnd_some, same_any _ _ (bare_okN o), bnd_some, notB_d, br_if, refs_any _ o, bnd_some, refs_any _ p, bnd_some]
    by_cases hb : bareV (getN h r) = bareV (getN g s)
    · rw [if_neg (by intro q; exact q hb)]
      have hl : (refsS (getN h r)).length = (refsS (getN g s)).length := by
        rw [refsS_all, refsS_all]
        refine min_filter _ _ ((bare_iff _ _).1 hb).2 (fun k hk => ?_) (fun k hk => ?_)
        · have := hx k hk; omega
        · have := hy k hk; omega
      have := hsame_loop (h := h) (g := g) (refsS (getN h r)) (refsS (getN g s)) (by omega) hl (fun a b ha hb' => by
        rw [refsS_all] at ha hb'
        have k1 := hx a (List.mem_filter.1 ha).1
        have k2 := hy b (List.mem_filter.1 hb').1
        exact ih a b (by omega) (by omega) (by omega) (by omega) (by omega)) (refsS (getN h r)).length 0 (by omega) (by omega)
      rw [List.drop_zero, List.drop_zero, show ((0 : Nat) : Int) = 0 from rfl] at this
      refine this.trans (some_bool ?_)
      rw [Bool.eq_iff_iff, eqShL_iff, eqSh_iff, shape_iff hm gm hr1 h2 hs1 g1]
      exact ⟨fun q => ⟨hb, q⟩, fun q => q.2⟩
    · rw [if_pos hb]
      refine some_bool (eqSh_not ?_).symm
      intro q
      exact hb ((shape_iff hm gm hr1 h2 hs1 g1).1 q).1
theorem hSame_any (h g : List NodeV) (ho : okH h) (go : okH g) (r s : Int) : heap_Same h r g s = some (fitH h r && (fitH g s && eqSh (U h r) (U g s))) := by
  rw [heap_Same.eq, hmay_any h ho, bnd_some, eqI_d, br_if]
  cases h1 : fitH h r with
  | false => rw [if_neg (by simp), Bool.false_and]
  | true =>
    rw [if_pos (by simp), hmay_any g go, bnd_some, eqI_d, br_if]
    cases h2 : fitH g s with
    | false => rw [if_neg (by simp)]; rfl
    | true =>
      obtain ⟨⟨a, b⟩, c⟩ := fitH_iff.1 h1
      obtain ⟨⟨a', b'⟩, c'⟩ := fitH_iff.1 h2
      rw [if_pos (by simp), hsame_any ho c go c' r.toNat r s a (by omega) b a' b', bnd_some]
      rfl
/-! ### The document's -/
theorem shp_loop {h g : List NodeV} (a b : NodeV) (oa : okN a) (ob : okN b) (hl : a.2.2.2.2.1.length = b.2.2.2.2.1.length) (hb : ∀ (x y : Int), x ∈ allK a → y ∈ allK b → ref17_shape h x g y = some (eqSh (U h x) (U g y))) (d : Nat) : ∀ (i : Nat), i ≤ a.2.2.2.2.1.length → a.2.2.2.2.1.length - i = d →
    ref17_shape.l1 h g i a b = some (eqShL ((a.2.2.2.2.1.drop i).map (U h)) ((b.2.2.2.2.1.drop i).map (U g)) && (eqSh (U h a.2.2.2.2.2.1) (U g b.2.2.2.2.2.1) && decide (stripV a = stripV b))) := by
  have ka := oa.kids
  have la := oa.list
  induction d with
  | zero =>
    intro i h1 h2
    rw [ref17_shape.l1.eq]
    simp only [ltI_d, ofN_d, lenL_d, br_if]
    rw [if_neg (by omega), hb a.2.2.2.2.2.1 b.2.2.2.2.2.1 (by unfold allK; simp) (by unfold allK; simp), bnd_some, refsame_any _ _ (by show 0 ≤ _; omega) (by show a.2.2.2.2.2.2.1.length ≤ _; omega), bnd_some, List.drop_eq_nil_of_le (by omega), List.drop_eq_nil_of_le (by omega), List.map_nil, List.map_nil, eqShL_nil, Bool.true_and]
    cases eqSh (U h a.2.2.2.2.2.1) (U g b.2.2.2.2.2.1) with
    | true => rw [show notB true = false from rfl, br_f, Bool.true_and]; rfl
    | false => rw [show notB false = true from rfl, br_t, Bool.false_and]
  | succ d ih =>
    intro i h1 h2
    have hi : i < a.2.2.2.2.1.length := by omega
    have hj : i < b.2.2.2.2.1.length := by omega
    rw [ref17_shape.l1.eq]
    simp only [ltI_d, leI_d, ofN_d, lenL_d, andB_d, br_if]
    rw [if_pos (by omega), if_pos (by omega), if_pos (by omega), ixR _ i hi, ixR _ i hj, hb _ _ (by unfold allK; exact List.mem_append_left _ (List.getElem_mem hi)) (by unfold allK; exact List.mem_append_left _ (List.getElem_mem hj)), bnd_some, add1 i (by omega), ih (i + 1) (by omega) (by omega), List.drop_eq_getElem_cons hi, List.drop_eq_getElem_cons hj, List.map_cons, List.map_cons, eqShL_cons]
    cases eqSh (U h a.2.2.2.2.1[i]) (U g b.2.2.2.2.1[i]) with
    | true => rw [show notB true = false from rfl, br_f, Bool.true_and]
    | false => rw [show notB false = true from rfl, br_t, Bool.false_and, Bool.false_and]
theorem shape_any {h g : List NodeV} (ho : okH h) (hm : mayH h = true) (go : okH g) (gm : mayH g = true) : ∀ (n : Nat) (r s : Int), 0 ≤ r → r ≤ n → r ≤ h.length → 0 ≤ s → s ≤ g.length → ref17_shape h r g s = some (eqSh (U h r) (U g s)) := by
  have hlen := ho.len
  have glen := go.len
  have zero : ∀ r s : Int, 0 ≤ r → r ≤ h.length → 0 ≤ s → s ≤ g.length → (r = 0 ∨ s = 0) → ref17_shape h r g s = some (eqSh (U h r) (U g s)) := by
    intro r s h0 h1 g0 g1 hz
    have hj : ref17_shape.j0 h r g s true = some (eqSh (U h r) (U g s)) := by
      rw [ref17_shape.j0.eq, br_t]
      simp only [eqI_d, br_if]
      by_cases e : r = 0
      · rw [if_pos e]
        subst e
        refine some_bool ?_
        rw [U_zero]
        by_cases e2 : s = 0
        · subst e2; rw [U_zero, decide_eq_true rfl, eqSh_iff.2 rfl]
        · rw [decide_eq_false e2, eqSh_not (fun q => e2 ((U_nil gm g0 g1).1 q.symm))]
      · rw [if_neg e]
        have e2 := hz.resolve_left e
        subst e2
        rw [U_zero, eqSh_not (fun q => e ((U_nil hm h0 h1).1 q))]
    rw [ref17_shape.eq]
    simp only [eqI_d, br_if]
    by_cases e : r = 0
    · rw [if_pos e]; exact hj
    · rw [if_neg e, decide_eq_true (hz.resolve_left e)]; exact hj
  intro n
  induction n with
  | zero =>
    intro r s h0 h1 h2 g0 g1
    exact zero r s h0 h2 g0 g1 (.inl (by omega))
  | succ n ih =>
    intro r s h0 h1 h2 g0 g1
    by_cases er : r = 0
    · exact zero r s h0 h2 g0 g1 (.inl er)
    by_cases es : s = 0
    · exact zero r s h0 h2 g0 g1 (.inr es)
    have hr1 : 1 ≤ r := by omega
    have hs1 : 1 ≤ s := by omega
    have o := ho.node _ (getN_mem h r hr1 h2)
    have p := go.node _ (getN_mem g s hs1 g1)
    have hx := (may_node hm hr1 h2).2
    have hy := (may_node gm hs1 g1).2
    have hkl := o.kids
    rw [ref17_shape.eq, eqI_d, br_if, if_neg er, eqI_d, decide_eq_false es, ref17_shape.j0.eq, br_f, inG h r hr1 h2 (by omega), br_t, inG g s hs1 g1 (by omega), br_t, ixG h r hr1 h2 (by omega), ixG g s hs1 g1 (by omega)]
    simp only [both_self, eqI_d, ofN_d, lenL_d, notB_d, br_if]
    by_cases hb : (getN h r).2.2.2.2.1.length = (getN g s).2.2.2.2.1.length
    · rw [if_neg (by omega)]
      have := shp_loop (h := h) (g := g) (getN h r) (getN g s) o p hb (fun a b ha hb' => by
        have k1 := hx a ha
        have k2 := hy b hb'
        exact ih a b (by omega) (by omega) (by omega) (by omega) (by omega)) (getN h r).2.2.2.2.1.length 0 (by omega) (by omega)
      rw [List.drop_zero, List.drop_zero, show ((0 : Nat) : Int) = 0 from rfl] at this
      refine this.trans (some_bool ?_)
      rw [Bool.eq_iff_iff, Bool.and_eq_true, Bool.and_eq_true, eqShL_iff, eqSh_iff, eqSh_iff, decide_eq_true_iff, U_node hm hr1 h2, U_node gm hs1 g1, Shp.node.injEq]
      unfold allK
      rw [List.map_append, List.map_append]
      constructor
      · rintro ⟨q1, q2, q3⟩
        exact ⟨q3, by rw [q1, List.map_singleton, List.map_singleton, q2]⟩
      · rintro ⟨q3, q1⟩
        obtain ⟨q1, q2⟩ := List.append_inj' q1 rfl
        injection q2 with q2
        exact ⟨q1, q2, q3⟩
    · rw [if_pos (by omega)]
      refine some_bool (eqSh_not ?_).symm
      intro q
      rw [U_node hm hr1 h2, U_node gm hs1 g1, Shp.node.injEq] at q
      have := congrArg List.length q.2
      rw [List.length_map, List.length_map, allK_len, allK_len] at this
      omega
theorem refSame_any (h g : List NodeV) (ho : okH h) (go : okH g) (r s : Int) : ref17_Same h r g s = some (fitH h r && (fitH g s && eqSh (U h r) (U g s))) := by
  rw [ref17_Same.eq, fits_any h ho, bnd_some]
  cases h1 : fitH h r with
  | false => rw [br_f, Bool.false_and]
  | true =>
    rw [br_t, fits_any g go, bnd_some]
    cases h2 : fitH g s with
    | false => rw [br_f]; rfl
    | true =>
      obtain ⟨⟨a, b⟩, c⟩ := fitH_iff.1 h1
      obtain ⟨⟨a', b'⟩, c'⟩ := fitH_iff.1 h2
      rw [br_t, shape_any ho c go c' r.toNat r s a (by omega) b a' b', bnd_some]
      rfl
end Go.Proofs.YtjekopgcpikkiaaGreatDoor.AK
set_option linter.unusedVariables false
set_option linter.unusedSimpArgs false
namespace Go.Proofs.YtjekopgcpikkiaaGreatDoor.AK
open Go.Abs
theorem mayHL_app : ∀ (a b : List NodeV) (i : Nat), mayHL i (a ++ b) = (mayHL i a && mayHL (i + a.length) b)
  | [], b, i => by rw [List.nil_append]; show _ = (true && mayHL i b); rw [Bool.true_and]
  | n :: a, b, i => by
    rw [List.cons_append, mayHL, mayHL, mayHL_app a b (i + 1), List.length_cons, show i + 1 + a.length = i + (a.length + 1) by omega, ← Bool.and_assoc]
theorem getN_app (a b : List NodeV) (r : Int) (h1 : 1 ≤ r) (h2 : r ≤ a.length) : getN (a ++ b) r = getN a r := by
  unfold getN
  rw [List.getD_eq_getElem?_getD, List.getD_eq_getElem?_getD, List.getElem?_append_left (by omega)]
theorem getN_last (a : List NodeV) (n : NodeV) : getN (a ++ [n]) ((a.length : Int) + 1) = n := by
  unfold getN
  rw [show ((a.length : Int) + 1 - 1).toNat = a.length by omega, List.getD_eq_getElem?_getD, List.getElem?_append_right (by omega), Nat.sub_self]
  rfl
theorem unf_app {a b : List NodeV} (hm : mayH a = true) : ∀ (k : Nat) (r : Int), 0 ≤ r → r ≤ a.length → unf (a ++ b) k r = unf a k r
  | 0, r, _, _ => rfl
  | k + 1, r, h0, h1 => by
    unfold unf
    by_cases e : r = 0
    · rw [if_pos e, if_pos e]
    · rw [if_neg e, if_neg e, getN_app a b r (by omega) h1]
      congr 1
      refine List.map_congr_left fun x hx => ?_
      have := (may_node hm (by omega) h1).2 x hx
      exact unf_app hm k x (by omega) (by omega)
theorem U_app {a b : List NodeV} (hm : mayH a = true) {r : Int} (h0 : 0 ≤ r) (h1 : r ≤ a.length) : U (a ++ b) r = U a r := unf_app hm _ r h0 h1
theorem may_more {h : List NodeV} {n : NodeV} (hm : mayH h = true) (hn : mayS n = 0) (hr : ∀ r ∈ refsS n, 1 ≤ r ∧ r ≤ h.length) : mayH (h ++ [n]) = true := by
  unfold mayH
  rw [mayHL_app, Bool.and_eq_true]
  refine ⟨hm, mayHL_of _ _ fun j hj => ?_⟩
  have : j = 0 := by simpa using hj
  subst this
  refine ⟨hn, fun r hr' => ?_⟩
  have := hr r hr'
  exact ⟨this.1, by omega⟩
theorem kids_rng {h : List NodeV} (hm : mayH h = true) (hl : h.length ≤ 50000000) : ∀ n ∈ h, rngN n := by
  intro n hn
  obtain ⟨j, hj, ej⟩ := List.getElem_of_mem hn
  have hk := (may_node hm (r := (j : Int) + 1) (by omega) (by omega)).2
  rw [getN_ix _ j hj, ej] at hk
  refine ⟨fun k hk' => ?_, ?_⟩
  · have := hk k (List.mem_append_left _ hk')
    unfold rng; omega
  · have := hk n.2.2.2.2.2.1 (List.mem_append_right _ List.mem_cons_self)
    unfold rng; omega
end Go.Proofs.YtjekopgcpikkiaaGreatDoor.AK
set_option linter.unusedVariables false
set_option linter.unusedSimpArgs false
namespace Go.Proofs.YtjekopgcpikkiaaGreatDoor.AK
open Go.Abs
theorem tri (a b : ByteArray) : (lt a b = true ∧ lt b a = false ∧ a ≠ b) ∨ (a = b ∧ lt a b = false ∧ lt b a = false) ∨ (lt b a = true ∧ lt a b = false ∧ a ≠ b) := by
  by_cases h : a = b
  · subst h; exact .inr (.inl ⟨rfl, lt_irrefl _, lt_irrefl _⟩)
  · rcases lt_total h with k | k
    · exact .inl ⟨k, lt_asymm k, h⟩
    · exact .inr (.inr ⟨k, lt_asymm k, h⟩)
theorem putS_lt {q p : PairV} {qs : List PairV} (h : lt q.1 p.1 = true) : putS (q :: qs) p = q :: putS qs p := by
  rw [putS, if_pos h]
theorem putS_eq {q p : PairV} {qs : List PairV} (h : q.1 = p.1) : putS (q :: qs) p = p :: qs := by
  rw [putS, if_neg (by rw [h, lt_irrefl]; simp), if_pos h]
theorem putS_gt {q p : PairV} {qs : List PairV} (h : lt p.1 q.1 = true) : putS (q :: qs) p = p :: q :: qs := by
  rw [putS, if_neg (by rw [lt_asymm h]; simp), if_neg (fun e => by rw [e, lt_irrefl] at h; cases h)]
theorem putS_nil (p : PairV) : putS [] p = [p] := rfl
theorem putS_same {p x : PairV} (h : p.1 = x.1) : ∀ l, putS (putS l p) x = putS l x
  | [] => by rw [putS_nil, putS_eq h, putS_nil]
  | q :: qs => by
    rcases tri q.1 p.1 with ⟨a, _⟩ | ⟨a, _⟩ | ⟨a, _⟩
    · have a' : lt q.1 x.1 = true := by rw [← h]; exact a
      rw [putS_lt a, putS_lt a', putS_lt a', putS_same h qs]
    · rw [putS_eq a, putS_eq h, putS_eq (a.trans h)]
    · have a' : lt x.1 q.1 = true := by rw [← h]; exact a
      rw [putS_gt a, putS_eq h, putS_gt a']
theorem putS_comm {p x : PairV} (h : p.1 ≠ x.1) : ∀ l, putS (putS l p) x = putS (putS l x) p
  | [] => by
    rw [putS_nil, putS_nil]
    rcases tri p.1 x.1 with ⟨c, _⟩ | ⟨c, _⟩ | ⟨c, _⟩
    · rw [putS_lt c, putS_gt c, putS_nil]
    · exact absurd c h
    · rw [putS_gt c, putS_lt c, putS_nil]
  | q :: qs => by
    rcases tri q.1 p.1 with ⟨a, _⟩ | ⟨a, _⟩ | ⟨a, _⟩
    · rcases tri q.1 x.1 with ⟨b, _⟩ | ⟨b, _⟩ | ⟨b, _⟩
      · rw [putS_lt a, putS_lt b, putS_lt b, putS_lt a, putS_comm h qs]
      · have c : lt x.1 p.1 = true := by rw [← b]; exact a
        rw [putS_lt a, putS_eq b, putS_eq b, putS_lt c]
      · rw [putS_lt a, putS_gt b, putS_gt b, putS_lt (lt_trans b a), putS_lt a]
    · rcases tri q.1 x.1 with ⟨b, _⟩ | ⟨b, _⟩ | ⟨b, _⟩
      · have c : lt p.1 x.1 = true := by rw [← a]; exact b
        rw [putS_eq a, putS_lt c, putS_lt b, putS_eq a]
      · exact absurd (a.symm.trans b) h
      · have c : lt x.1 p.1 = true := by rw [← a]; exact b
        rw [putS_eq a, putS_gt c, putS_gt b, putS_lt c, putS_eq a]
    · rcases tri q.1 x.1 with ⟨b, _⟩ | ⟨b, _⟩ | ⟨b, _⟩
      · rw [putS_gt a, putS_lt (lt_trans a b), putS_lt b, putS_gt a]
      · have c : lt p.1 x.1 = true := by rw [← b]; exact a
        rw [putS_gt a, putS_lt c, putS_eq b, putS_gt c]
      · rcases tri p.1 x.1 with ⟨c, _⟩ | ⟨c, _⟩ | ⟨c, _⟩
        · rw [putS_gt a, putS_lt c, putS_gt b, putS_gt c]
        · exact absurd c h
        · rw [putS_gt a, putS_gt c, putS_gt b, putS_lt c, putS_gt a]
theorem fold_skip {p : PairV} : ∀ (r acc : List PairV), (∃ q ∈ r, q.1 = p.1) → r.foldl putS (putS acc p) = r.foldl putS acc
  | [], _, ⟨_, h, _⟩ => by cases h
  | x :: r, acc, ⟨q, hq, e⟩ => by
    rw [List.foldl_cons, List.foldl_cons]
    by_cases hx : p.1 = x.1
    · rw [putS_same hx]
    · rw [putS_comm hx]
      refine fold_skip r _ ⟨q, ?_, e⟩
      rcases List.mem_cons.1 hq with rfl | hq
      · exact absurd e.symm hx
      · exact hq
/-! ### The document's way -/
theorem last_loop (l : List PairV) (hl : l.length ≤ 50000000) (i : Nat) (hi : i < l.length) (d : Nat) : ∀ (k : Nat), k ≤ l.length → l.length - k = d → ref07_last.l0 l i k = some ((l.drop k).all fun q => !decide (q.1 = l[i].1)) := by
  induction d with
  | zero =>
    intro k h1 h2
    rw [ref07_last.l0.eq]
    simp only [ltI_d, ofN_d, lenL_d, br_if]
    rw [if_neg (by omega), List.drop_eq_nil_of_le (by omega)]
    rfl
  | succ d ih =>
    intro k h1 h2
    have hk : k < l.length := by omega
    rw [ref07_last.l0.eq]
    simp only [ltI_d, leI_d, eqS_d, ofN_d, lenL_d, andB_d, br_if]
    rw [if_pos (by omega), if_pos (by omega), if_pos (by omega), ixP l k hk, ixP l i hi, add1 k (by omega), ih (k + 1) (by omega) (by omega), List.drop_eq_getElem_cons hk]
    rw [List.all_cons]
    by_cases e : l[k].1 = l[i].1
    · rw [if_pos e, decide_eq_true e]; rfl
    · rw [if_neg e, decide_eq_false e]; rfl
theorem last_any (l : List PairV) (hl : l.length ≤ 50000000) (i : Nat) (hi : i < l.length) : ref07_last l i = some ((l.drop (i + 1)).all fun q => !decide (q.1 = l[i].1)) := by
  rw [ref07_last.eq, add1 i (by omega)]
  exact last_loop l hl i hi _ (i + 1) (by omega) rfl
theorem insert_any (l out : List PairV) (i at_ : Nat) (hi : i < l.length) (hl : l.length ≤ 50000000) (ha : at_ ≤ out.length) (ho : out.length ≤ 50000000) :
    ref07_Make.j2 l i at_ false out = ref07_Make.l0 l ((i + 1 : Nat) : Int) (out.take at_ ++ l[i] :: out.drop at_) := by
  rw [ref07_Make.j2.eq, br_f]
  have e0 : toN 0 = 0 := rfl
  have s1 : subL tapiPair out 0 at_ = out.take at_ := subL0 _ _ _
  have s2 : subL tapiPair out at_ out.length = out.drop at_ := by
    unfold subL
    exact List.take_of_length_le (by rw [List.length_drop]; omega)
  have hx := ixP l i hi
  simp only [e0, toN_d, ofN_d, lenL_d, s1, s2, hx, appL_d, List.nil_append, add1 i (by omega)]
  have c1 : andB (leI 0 (i : Int)) (ltI (i : Int) (l.length : Int)) = true := by
    rw [leI_d, ltI_d, andB_d]; exact decide_eq_true ⟨by omega, by omega⟩
  have c2 : andB (leI 0 0) (andB (leI 0 (at_ : Int)) (leI (at_ : Int) (out.length : Int))) = true := by
    rw [leI_d, leI_d, leI_d, andB_d, andB_d]; exact decide_eq_true ⟨by omega, by omega, by omega⟩
  have c3 : fitL tapiPair (out.take at_) = true := by rw [fitL_d]; exact decide_eq_true (by rw [List.length_take]; omega)
  have c4 : fitL tapiPair (out.take at_ ++ [l[i]]) = true := by rw [fitL_d]; exact decide_eq_true (by rw [List.length_append, List.length_take]; show _ + 1 ≤ _; omega)
  have c5 : andB (leI 0 (at_ : Int)) (andB (leI (at_ : Int) (out.length : Int)) (leI (out.length : Int) (out.length : Int))) = true := by
    rw [leI_d, leI_d, leI_d, andB_d, andB_d]; exact decide_eq_true ⟨by omega, by omega, by omega⟩
  have c6 : fitL tapiPair (out.take at_ ++ [l[i]] ++ out.drop at_) = true := by rw [fitL_d]; exact decide_eq_true (by rw [List.length_append, List.length_append, List.length_take, List.length_drop]; show _ + 1 + _ ≤ _; omega)
  simp only [c1, c2, c3, c4, c5, c6, br_t, both_self]
  rw [List.append_assoc]
  rfl
theorem find_loop (l out : List PairV) (i : Nat) (hi : i < l.length) (hl : l.length ≤ 50000000) (ho : out.length ≤ 50000000) (hs : ∀ p ∈ out, okP p) (hS : Srt out) (hne : ∀ q ∈ out, q.1 ≠ l[i].1) (d : Nat) : ∀ (a : Nat), a ≤ out.length → out.length - a = d → (∀ (b : Nat) (h : b < out.length), b < a → lt out[b].1 l[i].1 = true) →
    ref07_Make.l1 l i a out = ref07_Make.l0 l ((i + 1 : Nat) : Int) (putS out l[i]) := by
  have fin : ∀ (a : Nat), a ≤ out.length → (∀ (b : Nat) (h : b < out.length), b < a → lt out[b].1 l[i].1 = true) → (∀ (h : a < out.length), lt out[a].1 l[i].1 = false) → ref07_Make.j2 l i a false out = ref07_Make.l0 l ((i + 1 : Nat) : Int) (putS out l[i]) := by
    intro a h1 h2 h3
    rw [insert_any l out i a hi hl h1 ho, putS_at l[i] out a h1 h2 h3, if_neg (by rintro ⟨h, e⟩; exact hne _ (List.getElem_mem h) e)]
  induction d with
  | zero =>
    intro a h1 h2 h3
    rw [ref07_Make.l1.eq]
    simp only [ltI_d, ofN_d, lenL_d, br_if]
    rw [if_neg (by omega)]
    exact fin a h1 h3 (fun h => by omega)
  | succ d ih =>
    intro a h1 h2 h3
    have ha : a < out.length := by omega
    rw [ref07_Make.l1.eq]
    simp only [ltI_d, leI_d, ofN_d, lenL_d, andB_d, br_if]
    rw [if_pos (by omega), if_pos (by omega), if_pos (by omega), ixP out a ha, ixP l i hi, less_any _ _ (by have := (hs _ (List.getElem_mem ha)).1; omega), bnd_some]
    cases hc : lt out[a].1 l[i].1 with
    | true =>
      rw [ref07_Make.j2.eq, br_t, add1 a (by omega)]
      refine ih (a + 1) (by omega) (by omega) (fun b h hb => ?_)
      by_cases e : b = a
      · subst e; exact hc
      · exact h3 b h (by omega)
    | false => exact fin a h1 h3 (fun _ => hc)
theorem refmake_loop (l : List PairV) (hl : l.length ≤ 40000000) (hs : ∀ p ∈ l, okP p) (d : Nat) : ∀ (i : Nat) (acc : List PairV), i ≤ l.length → l.length - i = d → acc.length ≤ i → (∀ q ∈ acc, okP q) → Srt acc → (∀ q ∈ acc, ∀ x ∈ l.drop i, q.1 ≠ x.1) →
    ref07_Make.l0 l i acc = some ((l.drop i).foldl putS acc) := by
  induction d with
  | zero =>
    intro i acc h1 h2 h3 h4 h5 h6
    rw [ref07_Make.l0.eq]
    simp only [ltI_d, ofN_d, lenL_d, br_if]
    rw [if_neg (by omega), List.drop_eq_nil_of_le (by omega)]
    rfl
  | succ d ih =>
    intro i acc h1 h2 h3 h4 h5 h6
    have hi : i < l.length := by omega
    have hd := List.drop_eq_getElem_cons hi
    rw [hd] at h6
    rw [ref07_Make.l0.eq]
    simp only [ltI_d, ofN_d, lenL_d, br_if]
    rw [if_pos (by omega), last_any l (by omega) i hi, bnd_some, hd, List.foldl_cons]
    by_cases e' : ((l.drop (i + 1)).all fun q => !decide (q.1 = l[i].1)) = true
    · have e : ∀ q ∈ l.drop (i + 1), q.1 ≠ l[i].1 := fun q hq => by simpa using List.all_eq_true.1 e' q hq
      rw [e', show notB true = false from rfl, br_f]
      have := find_loop l acc i hi (by omega) (by omega) h4 h5 (fun q hq => h6 q hq _ List.mem_cons_self) acc.length 0 (by omega) (by omega) (fun b h hb => by omega)
      rw [show ((0 : Nat) : Int) = 0 from rfl] at this
      rw [this]
      have hlen := putS_len l[i] acc
      refine ih (i + 1) _ (by omega) (by omega) (by omega) (putS_ok h4 (hs _ (List.getElem_mem hi))) (putS_srt _ h5) (fun q hq x hx => ?_)
      rcases putS_mem hq with rfl | hq
      · exact fun h => e x hx h.symm
      · exact h6 q hq x (List.mem_cons_of_mem _ hx)
    · have e : ¬ ∀ q ∈ l.drop (i + 1), q.1 ≠ l[i].1 := fun h => e' (List.all_eq_true.2 fun q hq => by simpa using h q hq)
      have e2 : ((l.drop (i + 1)).all fun q => !decide (q.1 = l[i].1)) = false := by simpa using e'
      rw [e2, show notB false = true from rfl, br_t, add1 i (by omega), ih (i + 1) acc (by omega) (by omega) (by omega) h4 h5 (fun q hq x hx => h6 q hq x (List.mem_cons_of_mem _ hx))]
      have hex : ∃ q ∈ l.drop (i + 1), q.1 = l[i].1 := by
        refine Classical.byContradiction fun h => e fun q hq he => h ⟨q, hq, he⟩
      rw [fold_skip _ _ hex]
theorem refmake_any (l : List PairV) (hl : l.length ≤ 40000000) (hs : ∀ p ∈ l, okP p) : ref07_Make l = some (makeS l) := by
  rw [ref07_Make.eq]
  have := refmake_loop l hl hs l.length 0 [] (by omega) (by omega) (by simp) (by simp) List.Pairwise.nil (by simp)
  rw [List.drop_zero, show ((0 : Nat) : Int) = 0 from rfl] at this
  exact this
end Go.Proofs.YtjekopgcpikkiaaGreatDoor.AK
set_option linter.unusedVariables false
set_option linter.unusedSimpArgs false
namespace Go.Proofs.YtjekopgcpikkiaaGreatDoor.AK
open Go.Abs
theorem srt_isS : ∀ {l : List PairV}, Srt l → isS l = true
  | [], _ => rfl
  | [_], _ => rfl
  | a :: b :: r, h => by
    have h1 := (List.pairwise_cons.1 h).1 b List.mem_cons_self
    have h2 := srt_isS (List.pairwise_cons.1 h).2
    show (lt a.1 b.1 && isS (b :: r)) = true
    rw [h1, h2]; rfl
theorem foldl_putS_srt : ∀ (l acc : List PairV), Srt acc → Srt (l.foldl putS acc)
  | [], _, h => h
  | p :: l, acc, h => foldl_putS_srt l (putS acc p) (putS_srt p h)
theorem makeS_Srt (l : List PairV) : Srt (makeS l) := foldl_putS_srt l [] List.Pairwise.nil
theorem foldl_putS_mem : ∀ (l acc : List PairV), ∀ x ∈ l.foldl putS acc, x ∈ acc ∨ x ∈ l
  | [], _, x, h => .inl h
  | p :: l, acc, x, h => by
    rcases foldl_putS_mem l (putS acc p) x h with h | h
    · rcases putS_mem h with rfl | h
      · exact .inr List.mem_cons_self
      · exact .inl h
    · exact .inr (List.mem_cons_of_mem _ h)
theorem makeS_mem {l : List PairV} {x : PairV} (h : x ∈ makeS l) : x ∈ l := (foldl_putS_mem l [] x h).resolve_left (by simp)
def pairAt (l : List PairV) (i : Nat) : PairV := l.getD i (ByteArray.empty, (ByteArray.empty, ()))
/-! ### Heaps that go on -/
def okT (p : PairV) : Prop := p.1.size ≤ 16 ∧ p.2.1.size ≤ 16
theorem okT.ok {p : PairV} (h : okT p) : okP p := ⟨by have := h.1; omega, by have := h.2; omega⟩
end Go.Proofs.YtjekopgcpikkiaaGreatDoor.AK
set_option linter.unusedVariables false
set_option linter.unusedSimpArgs false
namespace Go.Proofs.YtjekopgcpikkiaaGreatDoor.AK
open Go.Abs
def fillQ (n : Nat) (r : Int) : Int := if 0 ≤ r then r else (n : Int) - r
def fillNd (n : Nat) (x : NodeV) : NodeV := (x.1, (x.2.1, (x.2.2.1, (x.2.2.2.1, (x.2.2.2.2.1.map (fillQ n), (fillQ n x.2.2.2.2.2.1, x.2.2.2.2.2.2))))))
def PS (h news : List NodeV) : List NodeV := h ++ news.map (fillNd h.length)
theorem fillQ_zero (n : Nat) (r : Int) : fillQ n r = 0 ↔ r = 0 := by unfold fillQ; split <;> omega
theorem fillQ_pos (n : Nat) {r : Int} (h : 0 ≤ r) : fillQ n r = r := if_pos h
theorem fillQ_neg (n : Nat) {r : Int} (h : r < 0) : fillQ n r = (n : Int) - r := if_neg (by omega)
theorem fillQ_0 (n : Nat) : fillQ n 0 = 0 := if_pos (Int.le_refl _)
theorem zero_mem_fill (n : Nat) (l : List Int) : (0 : Int) ∈ l.map (fillQ n) ↔ (0 : Int) ∈ l := by
  rw [List.mem_map]
  constructor
  · rintro ⟨a, ha, e⟩
    rw [fillQ_zero] at e
    exact e ▸ ha
  · intro h; exact ⟨0, h, fillQ_0 n⟩
theorem formP_fill (n : Nat) (x : NodeV) : formP (fillNd n x) ↔ formP x := by
  unfold formP bareP fillNd
  simp only [List.length_map, List.map_eq_nil_iff, fillQ_zero, zero_mem_fill, ne_eq]
theorem mayS_fill (n : Nat) (x : NodeV) : mayS (fillNd n x) = mayS x := by
  unfold mayS
  rw [show longN (fillNd n x) = longN x from rfl, show (fillNd n x).1 = x.1 from rfl]
  by_cases h : formP x
  · rw [if_pos h, if_pos ((formP_fill n x).2 h)]
  · rw [if_neg h, if_neg (fun q => h ((formP_fill n x).1 q))]
theorem allK_fill (n : Nat) (x : NodeV) : allK (fillNd n x) = (allK x).map (fillQ n) := by
  unfold allK fillNd
  rw [List.map_append]
  rfl
theorem stripV_fill (n : Nat) (x : NodeV) : stripV (fillNd n x) = stripV x := rfl
theorem okN_fill (n : Nat) {x : NodeV} (h : okN x) : okN (fillNd n x) := ⟨h.key, h.val, h.map0, h.map1, by show (x.2.2.2.2.1.map (fillQ n)).length ≤ _; rw [List.length_map]; exact h.kids, h.list, h.binds⟩
theorem PS_len (h news : List NodeV) : (PS h news).length = h.length + news.length := by unfold PS; rw [List.length_append, List.length_map]
theorem PS_nil (h : List NodeV) : PS h [] = h := by unfold PS; simp
theorem PS_add (h news : List NodeV) (n : NodeV) : PS h (news ++ [n]) = PS h news ++ [fillNd h.length n] := by unfold PS; rw [List.map_append, List.append_assoc]; rfl
structure PlanOK (h news : List NodeV) : Prop where
  may : mayH (PS h news) = true
  node : ∀ n ∈ news, okN n ∧ n.2.2.2.2.1.length ≤ 40
  ref : ∀ (i : Nat) (hi : i < news.length), mayS news[i] = 0 ∧ ∀ r ∈ allK news[i], -(i : Int) ≤ r ∧ r ≤ h.length
theorem PlanOK.nil {h : List NodeV} (hm : mayH h = true) : PlanOK h [] := ⟨by rw [PS_nil]; exact hm, fun n hn => (by cases hn), fun i hi => (by cases hi)⟩
theorem fill_in {h news : List NodeV} {r : Int} (lo : -(news.length : Int) ≤ r) (hi : r ≤ h.length) : 0 ≤ fillQ h.length r ∧ fillQ h.length r ≤ (PS h news).length := by
  rw [PS_len]
  unfold fillQ
  split <;> omega
theorem PlanOK.add {h news : List NodeV} (P : PlanOK h news) {n : NodeV} (ho : okN n) (hk : n.2.2.2.2.1.length ≤ 40) (hm : mayS n = 0) (hr : ∀ r ∈ allK n, -(news.length : Int) ≤ r ∧ r ≤ h.length) : PlanOK h (news ++ [n]) := by
  refine ⟨?_, ?_, ?_⟩
  · rw [PS_add]
    refine may_more P.may (by rw [mayS_fill]; exact hm) fun r hr' => ?_
    rw [refsS_all, allK_fill] at hr'
    obtain ⟨h1, h2⟩ := List.mem_filter.1 hr'
    obtain ⟨a, ha, rfl⟩ := List.mem_map.1 h1
    have := hr a ha
    have := fill_in (h := h) (news := news) this.1 this.2
    simp only [decide_eq_true_eq] at h2
    exact ⟨by omega, this.2⟩
  · intro m hm'
    rcases List.mem_append.1 hm' with hm' | hm'
    · exact P.node m hm'
    · rw [List.mem_singleton.1 hm']; exact ⟨ho, hk⟩
  · intro i hi
    rw [List.length_append] at hi
    simp only [List.length_cons, List.length_nil] at hi
    by_cases q : i < news.length
    · rw [List.getElem_append_left q]; exact P.ref i q
    · have : i = news.length := by omega
      subst this
      rw [List.getElem_append_right (Nat.le_refl _)]
      simp only [Nat.sub_self, List.getElem_cons_zero]
      exact ⟨hm, hr⟩
structure Has (h news : List NodeV) (r : Int) (s : Shp) : Prop where
  lo : -(news.length : Int) ≤ r
  hi : r ≤ h.length
  shp : U (PS h news) (fillQ h.length r) = s
theorem Has.more {h news : List NodeV} {r : Int} {s : Shp} (P : PlanOK h news) (H : Has h news r s) (n : NodeV) : Has h (news ++ [n]) r s := by
  have := fill_in H.lo H.hi
  refine ⟨by have := H.lo; rw [List.length_append]; simp only [List.length_cons, List.length_nil]; omega, H.hi, ?_⟩
  rw [PS_add, U_app P.may this.1 this.2]
  exact H.shp
theorem Has.heap {h news : List NodeV} {r : Int} (hm : mayH h = true) (h0 : 0 ≤ r) (h1 : r ≤ h.length) : Has h news r (U h r) := by
  refine ⟨by omega, h1, ?_⟩
  rw [fillQ_pos _ h0]
  exact U_app hm h0 h1
theorem Has.zero {h news : List NodeV} : Has h news 0 .nil := ⟨by omega, by omega, by rw [fillQ_0, U_zero]⟩
theorem Has.new {h news : List NodeV} {n : NodeV} (P : PlanOK h news) (P' : PlanOK h (news ++ [n])) : Has h (news ++ [n]) (-(news.length : Int) - 1) (.node (stripV n) ((allK n).map fun r => U (PS h news) (fillQ h.length r))) := by
  refine ⟨by rw [List.length_append]; simp only [List.length_cons, List.length_nil]; omega, by omega, ?_⟩
  have hp := PS_len h news
  have e : fillQ h.length (-(news.length : Int) - 1) = ((PS h news).length : Int) + 1 := by rw [fillQ_neg _ (by omega), hp]; omega
  have hm := P'.may
  rw [PS_add] at hm
  rw [e, PS_add, U_node hm (by omega) (by rw [List.length_append]; simp only [List.length_cons, List.length_nil]; omega), getN_last, stripV_fill, allK_fill, List.map_map]
  congr 1
  refine List.map_congr_left fun r hr => ?_
  have hi : news.length < (news ++ [n]).length := by rw [List.length_append]; simp
  have := (P'.ref news.length hi).2 r (by rw [List.getElem_append_right (Nat.le_refl _)]; simpa using hr)
  have := fill_in (h := h) (news := news) this.1 this.2
  exact U_app P.may this.1 this.2
theorem PlanOK.okH {h news : List NodeV} (P : PlanOK h news) (ho : okH h) (hl : h.length + news.length ≤ 40000000) : okH (PS h news) := by
  refine ⟨by rw [PS_len]; exact hl, fun n hn => ?_, kids_rng P.may (by rw [PS_len]; omega)⟩
  rcases List.mem_append.1 hn with hn | hn
  · exact ho.node n hn
  · obtain ⟨m, hm, rfl⟩ := List.mem_map.1 hn
    exact okN_fill _ (P.node m hm).1
/-! ### A plan done -/
def toL (n k : Nat) : List Int := (List.range k).map fun i => ((n + 1 + i : Nat) : Int)
theorem toL_len (n k : Nat) : (toL n k).length = k := by unfold toL; simp
theorem toL_succ (n k : Nat) : toL n (k + 1) = toL n k ++ [((n + k + 1 : Nat) : Int)] := by
  unfold toL
  rw [List.range_succ, List.map_append, List.map_cons, List.map_nil, show n + 1 + k = n + k + 1 by omega]
theorem refR_fill (n k : Nat) {r : Int} (h : -(k : Int) ≤ r) : refR (toL n k) r = some (fillQ n r) := by
  unfold refR fillQ
  by_cases h0 : 0 ≤ r
  · rw [if_pos h0, if_pos h0]
  · rw [if_neg h0, if_neg h0, toL_len, if_pos (by omega)]
    have hlt : (-1 - r).toNat < k := by omega
    have e : (toL n k).getD (-1 - r).toNat 0 = ((n + 1 + (-1 - r).toNat : Nat) : Int) := by
      unfold toL
      rw [List.getD_eq_getElem?_getD, List.getElem?_map, List.getElem?_range hlt]
      rfl
    rw [e]
    exact congrArg some (by omega)
theorem fillS_fill (n k : Nat) {x : NodeV} (hr : ∀ r ∈ allK x, -(k : Int) ≤ r) : fillS (toL n k) x = fillNd n x := by
  have hmain := hr x.2.2.2.2.2.1 (List.mem_append_right _ List.mem_cons_self)
  have hkid : ∀ r ∈ x.2.2.2.2.1, -(k : Int) ≤ r := fun r hk => hr r (List.mem_append_left _ hk)
  have hB : fillB (toL n k) x = true := by
    unfold fillB
    rw [refR_fill n k hmain, Bool.and_eq_true, List.all_eq_true]
    exact ⟨rfl, fun r hk => by rw [refR_fill n k (hkid r hk)]; rfl⟩
  unfold fillS
  rw [if_pos hB]
  unfold fillNd
  have e1 : x.2.2.2.2.1.map (refD (toL n k)) = x.2.2.2.2.1.map (fillQ n) := List.map_congr_left fun r hk => by unfold refD; rw [refR_fill n k (hkid r hk)]; rfl
  have e2 : refD (toL n k) x.2.2.2.2.2.1 = fillQ n x.2.2.2.2.2.1 := by unfold refD; rw [refR_fill n k hmain]; rfl
  rw [e1, e2]
theorem doL_eq (h : List NodeV) : ∀ (l pre : List NodeV), (∀ (i : Nat) (hi : i < l.length), ∀ r ∈ allK l[i], -((pre.length + i : Nat) : Int) ≤ r) → doL (PS h pre) (toL h.length pre.length) l = (PS h (pre ++ l), toL h.length (pre.length + l.length))
  | [], pre, _ => by rw [List.append_nil]; rfl
  | n :: l, pre, hr => by
    unfold doL
    have h0 := hr 0 (by simp)
    have e1 : fillS (toL h.length pre.length) n = fillNd h.length n := fillS_fill _ _ (by simpa using h0)
    have e2 : PS h pre ++ [fillNd h.length n] = PS h (pre ++ [n]) := (PS_add h pre n).symm
    have e3 : toL h.length pre.length ++ [(((PS h pre).length + 1 : Nat) : Int)] = toL h.length (pre ++ [n]).length := by
      rw [PS_len, List.length_append]
      exact (toL_succ _ _).symm
    rw [e1, e2, e3, doL_eq h l (pre ++ [n]) fun i hi r hr' => ?_]
    · rw [List.append_assoc, List.length_append, List.length_cons, List.length_cons, List.length_nil, show pre.length + (0 + 1) + l.length = pre.length + (l.length + 1) by omega]
      rfl
    · have := hr (i + 1) (by simpa using hi) r (by simpa using hr')
      rw [List.length_append]
      simp only [List.length_cons, List.length_nil]
      omega
theorem mayPL_of : ∀ (l : List NodeV) (i : Nat), (∀ (j : Nat) (hj : j < l.length), mayS l[j] = 0 ∧ ∀ r ∈ refsS l[j], -((i + j : Nat) : Int) ≤ r) → mayPL i l = true
  | [], _, _ => rfl
  | n :: l, i, h => by
    unfold mayPL
    simp only [Bool.and_eq_true, decide_eq_true_eq, List.all_eq_true]
    refine ⟨h 0 (by simp), mayPL_of l (i + 1) fun j hj => ?_⟩
    have := h (j + 1) (by simpa using hj)
    rw [show i + (j + 1) = i + 1 + j by omega] at this
    exact this
theorem refsS_sub {n : NodeV} {r : Int} (h : r ∈ refsS n) : r ∈ allK n := by
  rw [refsS_all] at h
  exact (List.mem_filter.1 h).1
theorem do_pre {h news : List NodeV} (ho : okH h) (hm : mayH h = true) (P : PlanOK h news) (hn : news.length ≤ 1000) {root : Int} (lo : -(news.length : Int) ≤ root) (hi : root ≤ h.length) {old : List Int} (hol : old.length ≤ 1000) (hold : ∀ r ∈ old, 1 ≤ r ∧ r ≤ h.length) :
    okPl (news, (root, (old, ()))) ∧ (mayP (news, (root, (old, ()))) && (mayH h && fitsP h (news, (root, (old, ()))))) = true ∧ doS h (news, (root, (old, ()))) = (PS h news, toL h.length news.length) ∧ refD (toL h.length news.length) root = fillQ h.length root := by
  have hlen := ho.len
  have ok : okPl (news, (root, (old, ()))) := by
    refine ⟨hn, fun n hn' => (P.node n hn').1, fun n hn' => ?_, fun n hn' => (P.node n hn').2, by show rng root; unfold rng; omega, hol, fun r hr => by have := hold r hr; unfold rng; omega⟩
    obtain ⟨i, hi', rfl⟩ := List.getElem_of_mem hn'
    have hr := (P.ref i hi').2
    have hi' : i < news.length := hi'
    refine ⟨fun k hk => ?_, ?_⟩
    · have := hr k (List.mem_append_left _ hk)
      unfold rng; omega
    · show rng news[i].2.2.2.2.2.1
      have := hr news[i].2.2.2.2.2.1 (List.mem_append_right _ List.mem_cons_self)
      unfold rng; omega
  have c1 : mayP (news, (root, (old, ()))) = true := by
    unfold mayP
    simp only [Bool.and_eq_true, decide_eq_true_eq, List.all_eq_true]
    refine ⟨mayPL_of news 0 fun j hj => ⟨(P.ref j hj).1, fun r hr => ?_⟩, fun r hr => (hold r hr).1, lo⟩
    have := ((P.ref j hj).2 r (refsS_sub hr)).1
    omega
  have c3 : fitsP h (news, (root, (old, ()))) = true := by
    unfold fitsP fitsL
    rw [List.all_eq_true]
    intro r hr
    rw [decide_eq_true_eq]
    rcases List.mem_append.1 hr with hr | hr
    · rcases List.mem_append.1 hr with hr | hr
      · exact (hold r hr).2
      · rw [List.mem_singleton.1 hr]; exact hi
    · unfold refsL at hr
      obtain ⟨n, hn', hr⟩ := List.mem_flatMap.1 hr
      obtain ⟨i, hi', rfl⟩ := List.getElem_of_mem hn'
      exact ((P.ref i hi').2 r (refsS_sub hr)).2
  have hd := doL_eq h news [] fun i hi' r hr => by have := ((P.ref i hi').2 r hr).1; simp only [List.length_nil]; omega
  rw [PS_nil] at hd
  have hd : doS h (news, (root, (old, ()))) = (PS h news, toL h.length news.length) := by
    unfold doS
    rw [List.nil_append, List.length_nil, Nat.zero_add] at hd
    exact hd
  have hroot : refD (toL h.length news.length) root = fillQ h.length root := by unfold refD; rw [refR_fill _ _ lo]; rfl
  exact ⟨ok, by rw [c1, hm, c3]; rfl, hd, hroot⟩
theorem do_plan {h news : List NodeV} (ho : okH h) (hm : mayH h = true) (P : PlanOK h news) (hn : news.length ≤ 1000) {root : Int} (lo : -(news.length : Int) ≤ root) (hi : root ≤ h.length) {old : List Int} (hol : old.length ≤ 1000) (hold : ∀ r ∈ old, 1 ≤ r ∧ r ≤ h.length) :
    plan_Do h (news, (root, (old, ()))) = some (PS h news, (fillQ h.length root, (0, ()))) := by
  obtain ⟨ok, c, hd, hroot⟩ := do_pre ho hm P hn lo hi hol hold
  rw [do_any h ho _ ok, if_pos c, hd, hroot]
end Go.Proofs.YtjekopgcpikkiaaGreatDoor.AK
set_option linter.unusedVariables false
set_option linter.unusedSimpArgs false
namespace Go.Proofs.YtjekopgcpikkiaaGreatDoor.AK
open Go.Abs
theorem find_put (p : PairV) (k : ByteArray) : ∀ l : List PairV, (putS l p).find? (fun q => decide (q.1 = k)) = if p.1 = k then some p else l.find? (fun q => decide (q.1 = k))
  | [] => by
    show List.find? _ [p] = _
    rw [List.find?_cons]
    by_cases h : p.1 = k
    · rw [if_pos h, decide_eq_true h]
    · rw [if_neg h, decide_eq_false h]
  | q :: qs => by
    rcases tri q.1 p.1 with ⟨h, _, hne⟩ | ⟨h, _⟩ | ⟨h, _, hne⟩
    · rw [putS_lt h, List.find?_cons, find_put p k qs, List.find?_cons]
      by_cases hq : q.1 = k
      · have hp : ¬ p.1 = k := fun e => hne (hq.trans e.symm)
        rw [decide_eq_true hq]
        show (some q : Option PairV) = if p.1 = k then some p else some q
        rw [if_neg hp]
      · rw [decide_eq_false hq]
    · rw [putS_eq h, List.find?_cons, List.find?_cons]
      by_cases hp : p.1 = k
      · rw [if_pos hp, decide_eq_true hp]
      · rw [if_neg hp, decide_eq_false hp, decide_eq_false (fun e => hp (h.symm.trans e))]
    · rw [putS_gt h, List.find?_cons]
      by_cases hp : p.1 = k
      · rw [if_pos hp, decide_eq_true hp]
      · rw [if_neg hp, decide_eq_false hp]
theorem find_fold (k : ByteArray) : ∀ (l acc : List PairV), (l.foldl putS acc).find? (fun q => decide (q.1 = k)) = (l.reverse.find? (fun q => decide (q.1 = k))).or (acc.find? (fun q => decide (q.1 = k)))
  | [], _ => rfl
  | p :: l, acc => by
    rw [List.foldl_cons, find_fold k l, find_put, List.reverse_cons, List.find?_append, Option.or_assoc]
    congr 1
    rw [List.find?_cons]
    by_cases h : p.1 = k
    · rw [if_pos h, decide_eq_true h]; rfl
    · rw [if_neg h, decide_eq_false h]; rfl
theorem find_make (k : ByteArray) (l : List PairV) : (makeS l).find? (fun q => decide (q.1 = k)) = l.reverse.find? (fun q => decide (q.1 = k)) := by
  have := find_fold k l []
  rw [List.find?_nil, Option.or_none] at this
  exact this
def valF (o : Option PairV) : ByteArray × Bool × Unit := match o with
  | some p => (p.2.1, (true, ()))
  | none => (ByteArray.empty, (false, ()))
theorem subI_nat (n : Nat) (h : n ≤ 1000000000) : subI .i64 (n : Int) 1 = (n : Int) - 1 := subI_d (by omega) (by omega)
theorem rget_loop (l : List PairV) (k : ByteArray) (hl : l.length ≤ 50000000) : ∀ (n : Nat), n ≤ l.length → ref07_Get.l0 l k ((n : Int) - 1) = some (valF ((l.take n).reverse.find? (fun q => decide (q.1 = k)))) := by
  intro n
  induction n with
  | zero =>
    intro h
    rw [ref07_Get.l0.eq, leI_d, br_if, if_neg (by omega), List.take_zero]
    rfl
  | succ n ih =>
    intro h
    have hi : n < l.length := by omega
    rw [show (((n + 1 : Nat) : Int) - 1) = (n : Int) by omega, ref07_Get.l0.eq]
    simp only [leI_d, ltI_d, ofN_d, lenL_d, andB_d, eqS_d, br_if]
    have hin : 0 ≤ (n : Int) ∧ (n : Int) < (l.length : Int) := ⟨by omega, by omega⟩
    rw [if_pos hin.1, if_pos hin, ixP l n hi, if_pos hin, subI_nat n (by omega), ih (by omega), List.take_succ_eq_append_getElem hi, List.reverse_append, List.reverse_singleton]
    show _ = some (valF (List.find? _ (l[n] :: (l.take n).reverse)))
    rw [List.find?_cons]
    by_cases e : l[n].1 = k
    · rw [if_pos e, decide_eq_true e]; rfl
    · rw [if_neg e, decide_eq_false e]
theorem rget_any (l : List PairV) (k : ByteArray) (hl : l.length ≤ 50000000) : ref07_Get l k = some (valF ((makeS l).find? (fun q => decide (q.1 = k)))) := by
  rw [ref07_Get.eq, find_make]
  simp only [ofN_d, lenL_d]
  rw [subI_nat _ (by omega), rget_loop l k hl l.length (Nat.le_refl _), List.take_length]
end Go.Proofs.YtjekopgcpikkiaaGreatDoor.AK
set_option linter.unusedVariables false
set_option linter.unusedSimpArgs false
namespace Go.Proofs.YtjekopgcpikkiaaGreatDoor.AK
open Go.Abs
theorem shl_one (i : Nat) (h : i < 32) : shlI .u32 1 (i : Int) = ((2 ^ i : Nat) : Int) := by
  unfold shlI
  have h1 := pow_lt32 h
  rw [Int.toNat_natCast, show IntKind.u32.bits = 32 from rfl, Nat.min_eq_left (by omega), Int.one_mul]
  have : ((2 : Int) ^ i) = ((2 ^ i : Nat) : Int) := by simp
  rw [this]
  generalize 2 ^ i = q at h1 ⊢
  exact wraps_u32 _ (by omega) (by omega)
theorem below_any (i : Int) : mask_below i = some (low i : Int) := by
  rw [mask_below.eq]
  simp only [leI_d, br_if]
  unfold low cl
  by_cases h1 : i ≤ 0
  · rw [if_pos h1, show (min (max i 0) 32).toNat = 0 by omega]
    rfl
  rw [if_neg h1]
  by_cases h2 : 32 ≤ i
  · rw [if_pos h2, show (min (max i 0) 32).toNat = 32 by omega]
    rfl
  rw [if_neg h2, if_pos (by omega), show (min (max i 0) 32).toNat = i.toNat by omega]
  have hi : i = ((i.toNat : Nat) : Int) := by omega
  have hlt : i.toNat < 32 := by omega
  generalize i.toNat = k at hi hlt
  subst hi
  rw [shl_one k hlt]
  have h3 := pow_lt32 hlt
  have h4 : 0 < 2 ^ k := Nat.two_pow_pos _
  refine some_int ?_
  generalize 2 ^ k = q at h3 h4 ⊢
  unfold subI
  rw [wraps_u32 _ (by omega) (by omega)]
  omega
theorem place_m (m : Nat) (hm : m < 4294967296) (i : Int) : mask_Place m i = some (cnt (cl i) m : Int) := by
  rw [mask_Place.eq, below_any, bnd_some, and_u32 _ _ hm (low_lt i), ones_any _ (Nat.lt_of_le_of_lt Nat.and_le_left hm), bnd_some, cnt_low m i 32 (by omega), Nat.min_eq_right (cl_le i)]
theorem in_any (i : Int) : mask_in i = some (decide (0 ≤ i ∧ i < 32)) := by
  rw [mask_in.eq]
  simp only [leI_d, ltI_d, br_if]
  by_cases h : 0 ≤ i
  · rw [if_pos h]; exact some_bool (decide_eq_decide.2 (by omega))
  · rw [if_neg h]; exact some_bool (decide_eq_false (by omega)).symm
theorem has_m (m : Nat) (hm : m < 4294967296) (i : Int) : mask_Has m i = some (hasM m i) := by
  rw [mask_Has.eq, in_any, bnd_some]
  simp only [leI_d, eqI_d, br_if]
  unfold hasM
  by_cases h : 0 ≤ i ∧ i < 32
  · rw [if_pos h, if_pos h.1, decide_eq_true h, Bool.true_and]
    have hi : i = ((i.toNat : Nat) : Int) := by omega
    have hlt : i.toNat < 32 := by omega
    generalize i.toNat = k at hi hlt
    subst hi
    rw [shr_div m k .u32 (show k ≤ 32 by omega)]
    have hd : m / 2 ^ k ≤ m := Nat.div_le_self _ _
    rw [show (1 : Int) = ((1 : Nat) : Int) from rfl, and_u32 _ _ (by omega) (by omega), Nat.and_one_is_mod]
    rw [show m.testBit k = decide (m / 2 ^ k % 2 = 1) from Nat.testBit_eq_decide_div_mod_eq]
    exact some_bool (decide_eq_decide.2 (by omega))
  · rw [if_neg h, decide_eq_false h]; rfl
theorem with_m (m : Nat) (hm : m < 4294967296) (i : Int) : mask_With m i = some (withM m i : Int) := by
  rw [mask_With.eq, in_any, bnd_some]
  simp only [leI_d, notB_d, br_if]
  unfold withM
  by_cases h : 0 ≤ i ∧ i < 32
  · rw [if_neg (by omega), if_pos h.1, if_pos h]
    have hi : i = ((i.toNat : Nat) : Int) := by omega
    have hlt : i.toNat < 32 := by omega
    generalize i.toNat = k at hi hlt
    subst hi
    rw [shl_one k hlt, or_u32 _ _ hm (pow_lt32 hlt)]
  · rw [if_pos h, if_neg h]
/-! ### A mask made of numbers -/
end Go.Proofs.YtjekopgcpikkiaaGreatDoor.AK
set_option linter.unusedVariables false
set_option linter.unusedSimpArgs false
namespace Go.Proofs.YtjekopgcpikkiaaGreatDoor.AK
open Go.Abs
def bN (m : Nat) (ks : List Int) (sz bi : Int) : NodeV := (2, (ByteArray.empty, (ByteArray.empty, ((m : Int), (ks, (0, ([], (sz, (bi, ())))))))))
structure okB (m : Nat) (ks : List Int) (sz bi : Int) : Prop where
  lt : m < 4294967296
  len : ks.length = cnt 32 m
  nz : ∀ k ∈ ks, k ≠ 0
  sz0 : 0 ≤ sz
  bi0 : 0 ≤ bi
def chAt (m : Nat) (ks : List Int) (j : Nat) : Int := if m.testBit j = true then ks.getD (cnt j m) 0 else 0
theorem cnt_mono (m : Nat) {i j : Nat} (h : i ≤ j) : cnt i m ≤ cnt j m := by
  induction h with
  | refl => exact Nat.le_refl _
  | step _ ih => rw [cnt_succ]; omega
theorem cnt_less {m i j : Nat} (h : i < j) (hb : m.testBit i = true) : cnt i m < cnt j m := by
  have := cnt_mono m (show i + 1 ≤ j by omega)
  rw [cnt_succ, if_pos hb] at this
  omega
theorem cnt_inj {m i j : Nat} (hi : m.testBit i = true) (hj : m.testBit j = true) (h : cnt i m = cnt j m) : i = j := by
  rcases Nat.lt_trichotomy i j with q | q | q
  · have := cnt_less q hi; omega
  · exact q
  · have := cnt_less q hj; omega
theorem kids_of (m : Nat) (ks : List Int) : ∀ n, cnt n m ≤ ks.length → ((List.range n).filter fun j => m.testBit j).map (fun j => ks.getD (cnt j m) 0) = ks.take (cnt n m)
  | 0, _ => by simp [cnt]
  | n + 1, h => by
    have hc := cnt_succ n m
    have hm := cnt_mono m (show n ≤ n + 1 by omega)
    rw [List.range_succ, List.filter_append, List.map_append, kids_of m ks n (by omega)]
    by_cases b : m.testBit n = true
    · rw [if_pos b] at hc
      rw [hc, List.filter_cons_of_pos (by exact b), List.filter_nil, List.map_cons, List.map_nil, List.take_succ_eq_append_getElem (by omega)]
      rw [List.getD_eq_getElem?_getD, List.getElem?_eq_getElem (show cnt n m < ks.length by omega)]
      rfl
    · rw [if_neg b] at hc
      rw [hc, List.filter_cons_of_neg (by exact b), List.filter_nil, List.map_nil, List.append_nil, Nat.add_zero]
theorem okB.node {m : Nat} {ks : List Int} {sz bi : Int} (h : okB m ks sz bi) : okN (bN m ks sz bi) := by
  have hl := h.len
  have hc := cnt_le 32 m
  have hm := h.lt
  exact ⟨by show (0 : Nat) ≤ 40; omega, by show (0 : Nat) ≤ 40; omega, by show (0 : Int) ≤ (m : Int); omega, by show (m : Int) < 4294967296; omega, by show ks.length ≤ 1000000; omega, by show (0 : Nat) ≤ 1000000; omega, fun p hp => by cases hp⟩
theorem okB.may {m : Nat} {ks : List Int} {sz bi : Int} (h : okB m ks sz bi) : mayS (bN m ks sz bi) = 0 := by
  unfold mayS
  have hl : longN (bN m ks sz bi) = false := rfl
  rw [if_neg (by show ¬ (2 : Int) < 1; omega), if_neg (by show ¬ (6 : Int) < 2; omega), hl, if_neg (by simp), if_pos]
  refine ⟨h.bi0, ?_⟩
  rw [if_neg (by show ¬ ((2 : Int) = 1 ∨ (2 : Int) = 6); omega), if_pos (by show (2 : Int) = 2; rfl)]
  refine ⟨fun q => h.nz 0 q rfl, ?_, h.sz0, fun _ => ⟨rfl, rfl⟩, fun q => (by cases q), fun _ => rfl, fun _ => rfl⟩
  show ks.length = (allI (m : Int).toNat).length
  rw [Int.toNat_natCast, allI_len]
  exact h.len
theorem okB.empty : okB 0 [] 0 0 := ⟨by omega, by decide, fun k hk => (by cases hk), Int.le_refl _, Int.le_refl _⟩
theorem branch_form {n : NodeV} (h : okN n) (h1 : n.1 = 2) (h2 : mayS n = 0) : ∃ m ks sz bi, okB m ks sz bi ∧ n = bN m ks sz bi := by
  have hm0 := h.map0
  have hm1 := h.map1
  unfold mayS at h2
  rw [if_neg (by omega), if_neg (by omega)] at h2
  split at h2
  · omega
  split at h2
  case isFalse => omega
  rename_i hf
  obtain ⟨k, key, val, m, ks, mn, L, sz, bi, u⟩ := n
  unfold formP bareP at hf
  dsimp only at h1 hf hm0 hm1
  obtain ⟨f1, f2⟩ := hf
  rw [if_neg (by omega), if_pos h1] at f2
  obtain ⟨g1, g2, g3, g4, _, g5, g6⟩ := f2
  obtain ⟨g4, g7⟩ := g4 rfl
  have g5 := g5 rfl
  have g6 := g6 rfl
  subst h1; subst g4; subst g7; subst g5; subst g6
  refine ⟨m.toNat, ks, sz, bi, ⟨by omega, by rw [g2, allI_len], fun k hk e => g1 (e ▸ hk), g3, f1⟩, ?_⟩
  unfold bN
  rw [Int.toNat_of_nonneg hm0]
/-! ### The code's branch, the document's -/
theorem branch_self {m : Nat} {ks : List Int} {sz bi : Int} (h : okB m ks sz bi) : branch_branch (bN m ks sz bi) = some ((2, (ByteArray.empty, (ByteArray.empty, ((m : Int), ((), (0, ((), (sz, (bi, ()))))))))), (ks, ([], ()))) := by
  rw [branch_branch.eq, may_any _ h.node, bnd_some, copy_any _ h.node, bnd_some, h.may]
  simp only [eqI_d, notB_d, br_if]
  rw [if_neg (fun q => q rfl), if_neg (fun q => q (by first | exact rfl | exact True.intro))]
  rfl
/-! ### Children -/
def chI (m : Nat) (ks : List Int) (i : Int) : Int := if 0 ≤ i ∧ i < 32 then chAt m ks i.toNat else 0
theorem child_any {n : NodeV} {m : Nat} {ks : List Int} {sz bi : Int} (h : okB m ks sz bi) (hb : branch_branch n = some ((2, (ByteArray.empty, (ByteArray.empty, ((m : Int), ((), (0, ((), (sz, (bi, ()))))))))), (ks, ([], ())))) (i : Int) : branch_Child n i = some (chI m ks i) := by
  have hl := h.len
  rw [branch_Child.eq, hb, bnd_some, has_m m h.lt i, bnd_some, place_m m h.lt i, bnd_some]
  unfold chI chAt hasM
  by_cases hi : 0 ≤ i ∧ i < 32
  · rw [decide_eq_true hi, Bool.true_and, if_pos hi]
    cases hbit : m.testBit i.toNat with
    | false => rfl
    | true =>
      have := cnt_less (show i.toNat < 32 by omega) hbit
      rw [show cl i = i.toNat by unfold cl; omega]
      show br (notB true) _ _ = _
      rw [show notB true = false from rfl, br_f]
      simp only [ltI_d, leI_d, ofN_d, lenL_d, andB_d, br_if]
      rw [if_pos (by omega), if_pos True.intro, ixR ks _ (by omega), List.getD_eq_getElem?_getD, List.getElem?_eq_getElem (show cnt i.toNat m < ks.length by omega)]
      rfl
  · rw [decide_eq_false hi, Bool.false_and, if_neg hi]
    rfl
/-! ### With a child, without -/
theorem cnt_with {m : Nat} {i : Nat} (hi : i < 32) (hb : m.testBit i = false) : ∀ n, cnt n (withM m i) = cnt n m + if i < n then 1 else 0
  | 0 => by simp [cnt]
  | n + 1 => by
    rw [cnt_succ, cnt_succ, cnt_with hi hb n, withM_bit]
    by_cases q : i = n
    · subst q
      rw [hb, if_neg (by omega), if_pos (by simp; omega), if_neg (by simp), if_pos (by omega)]
    · have e : decide (0 ≤ (i : Int) ∧ (i : Int) < 32 ∧ (i : Int) = n) = false := decide_eq_false (by omega)
      rw [e, Bool.or_false]
      by_cases g : i < n
      · rw [if_pos g, if_pos (show i < n + 1 by omega)]; omega
      · rw [if_neg g, if_neg (show ¬ i < n + 1 by omega)]; omega
theorem getD_app {l r : List Int} {j : Nat} : (l ++ r).getD j 0 = if j < l.length then l.getD j 0 else r.getD (j - l.length) 0 := by
  by_cases h : j < l.length
  · rw [if_pos h, List.getD_eq_getElem?_getD, List.getD_eq_getElem?_getD, List.getElem?_append_left h]
  · rw [if_neg h, List.getD_eq_getElem?_getD, List.getD_eq_getElem?_getD, List.getElem?_append_right (by omega)]
theorem getD_take {l : List Int} {p j : Nat} (h : j < p) : (l.take p).getD j 0 = l.getD j 0 := by
  rw [List.getD_eq_getElem?_getD, List.getD_eq_getElem?_getD, List.getElem?_take, if_pos h]
theorem getD_drop {l : List Int} {p j : Nat} : (l.drop p).getD j 0 = l.getD (p + j) 0 := by
  rw [List.getD_eq_getElem?_getD, List.getD_eq_getElem?_getD, List.getElem?_drop]
theorem with_spec {n : NodeV} {m : Nat} {ks : List Int} {sz bi : Int} (h : okB m ks sz bi) (hb : branch_branch n = some ((2, (ByteArray.empty, (ByteArray.empty, ((m : Int), ((), (0, ((), (sz, (bi, ()))))))))), (ks, ([], ())))) (i r : Int) :
    ∃ m' ks', okB m' ks' sz bi ∧ branch_With n i r = some (bN m' ks' sz bi) ∧ m' = (if r = 0 then m else withM m i) ∧ ∀ j, j < 32 → chAt m' ks' j = if (j : Int) = i ∧ r ≠ 0 then r else chAt m ks j := by
  have hl := h.len
  have hm := h.lt
  have hw := withM_lt hm i
  have hc := cnt_le 32 m
  rw [branch_With.eq, hb, bnd_some]
  dsimp only
  rw [with_m m hm i, bnd_some, place_m _ hw i, bnd_some, has_m _ hw i, bnd_some]
  simp only [eqI_d, br_if]
  by_cases hr : r = 0
  · rw [if_pos hr, branch_With.j0.eq, br_t]
    exact ⟨m, ks, h, rfl, by rw [if_pos hr], fun j hj => by rw [if_neg (fun q => q.2 hr)]⟩
  rw [if_neg hr, branch_With.j0.eq]
  dsimp only
  by_cases hi : 0 ≤ i ∧ i < 32
  · have hin : hasM (withM m i) i = true := by
      unfold hasM
      rw [decide_eq_true hi, Bool.true_and, withM_bit, decide_eq_true (by omega), Bool.or_true]
    rw [hin, show notB true = false from rfl, br_f]
    have hii : i = ((i.toNat : Nat) : Int) := by omega
    have hlt : i.toNat < 32 := by omega
    generalize i.toNat = k at hii hlt
    subst hii
    rw [show cl (k : Int) = k by unfold cl; omega]
    cases hbit : m.testBit k with
    | true =>
      have hsame : withM m (k : Int) = m := by
        apply Nat.eq_of_testBit_eq
        intro j
        rw [withM_bit]
        by_cases q : k = j
        · subst q; rw [hbit, Bool.true_or]
        · rw [decide_eq_false (by omega), Bool.or_false]
      have hck := cnt_less hlt hbit
      rw [hsame]
      simp only [ltI_d, leI_d, eqI_d, ofN_d, lenL_d, andB_d, br_if]
      rw [if_pos True.intro, if_pos (by omega)]
      have es : setL (.int .i64) ks ((cnt k m : Nat) : Int) r = ks.set (cnt k m) r := by unfold setL; rw [Int.toNat_natCast]
      rw [es]
      refine ⟨m, ks.set (cnt k m) r, ⟨hm, by rw [List.length_set]; exact hl, fun x hx => ?_, h.sz0, h.bi0⟩, rfl, by rw [if_neg hr], fun j hj => ?_⟩
      · rcases List.mem_or_eq_of_mem_set hx with hx | rfl
        · exact h.nz x hx
        · exact hr
      · unfold chAt
        by_cases q : (j : Int) = k
        · have : j = k := by omega
          subst this
          rw [if_pos hbit, if_pos ⟨rfl, hr⟩, List.getD_eq_getElem?_getD, List.getElem?_set, if_pos rfl, if_pos (by omega)]
          rfl
        · rw [if_neg (show ¬ ((j : Int) = k ∧ r ≠ 0) from fun z => q z.1)]
          by_cases hbj : m.testBit j = true
          · rw [if_pos hbj, if_pos hbj, List.getD_eq_getElem?_getD, List.getElem?_set, if_neg (fun e => q (by rw [cnt_inj hbit hbj e])), ← List.getD_eq_getElem?_getD]
          · rw [if_neg hbj, if_neg hbj]
    | false =>
      have hne : ¬ ((withM m (k : Int) : Nat) : Int) = (m : Int) := by
        intro e
        have e : withM m (k : Int) = m := by omega
        have := withM_bit m (k : Int) k
        rw [e, hbit, Bool.false_or] at this
        have := this.symm
        rw [decide_eq_false_iff_not] at this
        omega
      have hcw := cnt_with hlt hbit
      have hck : cnt k (withM m (k : Int)) = cnt k m := by rw [hcw, if_neg (by omega)]; rfl
      have hcl : cnt k m ≤ ks.length := by rw [hl]; exact cnt_mono m (by omega)
      simp only [eqI_d, br_if]
      rw [if_neg hne, hck, slices_Insertapi_Ref_api_Ref.eq]
      have hg : insG (.int .i64) ks ((cnt k m : Nat) : Int) [r] = true := by
        unfold insG
        exact decide_eq_true ⟨by omega, by rw [Int.toNat_natCast]; exact hcl, by show 0 < 1; omega, by show ks.length + 1 ≤ _; omega⟩
      rw [hg, br_t, bnd_some]
      have el : insL (.int .i64) ks ((cnt k m : Nat) : Int) [r] = ks.take (cnt k m) ++ [r] ++ ks.drop (cnt k m) := by unfold insL; rw [Int.toNat_natCast]
      rw [el]
      have hp : (ks.take (cnt k m)).length = cnt k m := by rw [List.length_take]; omega
      refine ⟨withM m (k : Int), ks.take (cnt k m) ++ [r] ++ ks.drop (cnt k m), ⟨hw, ?_, fun x hx => ?_, h.sz0, h.bi0⟩, rfl, by rw [if_neg hr], fun j hj => ?_⟩
      · rw [hcw, if_pos hlt, List.length_append, List.length_append, hp, List.length_drop]
        show _ + 1 + _ = _
        omega
      · rcases List.mem_append.1 hx with hx | hx
        · rcases List.mem_append.1 hx with hx | hx
          · exact h.nz x (List.mem_of_mem_take hx)
          · rw [List.mem_singleton.1 hx]; exact hr
        · exact h.nz x (List.mem_of_mem_drop hx)
      · unfold chAt
        rw [withM_bit, hcw j]
        by_cases q : (j : Int) = k
        · have : j = k := by omega
          subst this
          rw [hbit, decide_eq_true (show 0 ≤ (j : Int) ∧ (j : Int) < 32 ∧ (j : Int) = j from ⟨by omega, by omega, rfl⟩), Bool.false_or, if_pos rfl, if_pos (show (j : Int) = j ∧ r ≠ 0 from ⟨rfl, hr⟩), if_neg (show ¬ j < j by omega), Nat.add_zero, List.append_assoc, getD_app, if_neg (by omega), hp, Nat.sub_self]
          rfl
        · rw [if_neg (show ¬ ((j : Int) = k ∧ r ≠ 0) from fun z => q z.1), decide_eq_false (by omega), Bool.or_false]
          by_cases hbj : m.testBit j = true
          · rw [if_pos hbj, if_pos hbj]
            by_cases g : k < j
            · have := cnt_mono m (show k ≤ j by omega)
              rw [if_pos g, getD_app, if_neg (by rw [List.length_append, hp]; show ¬ _ < _ + 1; omega), getD_drop, List.length_append, hp]
              congr 1
              show cnt k m + (cnt j m + 1 - (cnt k m + 1)) = cnt j m
              omega
            · have := cnt_less (show j < k by omega) hbj
              rw [if_neg g, Nat.add_zero, List.append_assoc, getD_app, if_pos (by omega), getD_take this]
          · rw [if_neg hbj, if_neg hbj]
  · have hin : hasM (withM m i) i = false := by
      unfold hasM
      rw [decide_eq_false hi, Bool.false_and]
    have hws : withM m i = m := by unfold withM; rw [if_neg hi]
    rw [hin, show notB false = true from rfl, br_t]
    exact ⟨m, ks, h, rfl, by rw [if_neg hr, hws], fun j hj => by rw [if_neg (by omega)]⟩
end Go.Proofs.YtjekopgcpikkiaaGreatDoor.AK
set_option autoImplicit false
set_option linter.unusedVariables false
namespace Go.Abs
theorem wrap_u64 (n : Int) : IntKind.u64.wrap n = n % 18446744073709551616 := by simp [IntKind.wrap, IntKind.bits, IntKind.signed]
theorem wrap_u64_id {n : Int} (h0 : 0 ≤ n) (h1 : n < 18446744073709551616) : IntKind.u64.wrap n = n := by rw [wrap_u64]; omega
theorem wrap_u64_range (n : Int) : 0 ≤ IntKind.u64.wrap n ∧ IntKind.u64.wrap n < 18446744073709551616 := by rw [wrap_u64]; omega
theorem and_u64 (a w : Nat) (ha : a < 18446744073709551616) (hw : w ≤ 64) : andI .u64 (a : Int) ((2 ^ w - 1 : Nat) : Int) = ((a % 2 ^ w : Nat) : Int) := by
  have hp : 2 ^ w ≤ 18446744073709551616 := by
    have := Nat.pow_le_pow_right (n := 2) (by omega) hw
    omega
  have hq : 0 < 2 ^ w := Nat.two_pow_pos w
  have e : ∀ x : Nat, x < 18446744073709551616 → (BitVec.ofInt 64 (x : Int)).toNat = x := by
    intro x hx
    simp only [BitVec.toNat_ofInt]
    omega
  unfold andI
  rw [show IntKind.u64.bits = 64 from rfl, BitVec.toNat_and, e a ha, e _ (by omega), Nat.and_two_pow_sub_one_eq_mod]
  have := Nat.mod_le a (2 ^ w)
  exact wrap_u64_id (by omega) (by omega)
def wid (bits : Int) : Nat := (min (max bits 0) 64).toNat
theorem wid_le (bits : Int) : wid bits ≤ 64 := by unfold wid; omega
def lev (bits : Int) : Nat := (wid bits + 4) / 5
theorem lev_le (bits : Int) : lev bits ≤ 13 := by have := wid_le bits; unfold lev; omega
def chunkS (h : Nat) (level : Nat) (bits : Int) : Nat := if level < lev bits then (h % 2 ^ wid bits) / 2 ^ (5 * level) % 32 else 0
def hstep (h b : Int) : Int := IntKind.u64.wrap ((xorI .u64 h (IntKind.u64.wrap b)) * 1099511628211)
def fnv : List UInt8 → Int → Int
  | [], h => h
  | x :: xs, h => fnv xs (hstep h (x.toNat : Int))
theorem hstep_range (h b : Int) : 0 ≤ hstep h b ∧ hstep h b < 18446744073709551616 := wrap_u64_range _
theorem fnv_cons (x : UInt8) (xs : List UInt8) (h : Int) : fnv (x :: xs) h = fnv xs (hstep h (x.toNat : Int)) := rfl
theorem hashN_ex : ∃ f : ByteArray → Nat, ∀ s, f s = (fnv (bl s) 14695981039346656037).toNat := ⟨_, fun _ => rfl⟩
noncomputable def hashN : ByteArray → Nat := Classical.choose hashN_ex
theorem hashN_eq (s : ByteArray) : hashN s = (fnv (bl s) 14695981039346656037).toNat := Classical.choose_spec hashN_ex s
noncomputable def hashS (s : ByteArray) (bits : Int) : Nat := hashN s % 2 ^ wid bits
theorem hash_lt (s : ByteArray) (bits : Int) : hashS s bits < 2 ^ wid bits := Nat.mod_lt _ (Nat.two_pow_pos _)
theorem pow_le64 {w : Nat} (h : w ≤ 64) : 2 ^ w ≤ 18446744073709551616 := by
  have := Nat.pow_le_pow_right (n := 2) (by omega) h
  omega
theorem hash_lt64 (s : ByteArray) (bits : Int) : hashS s bits < 18446744073709551616 := by
  have := hash_lt s bits
  have := pow_le64 (wid_le bits)
  omega
theorem mod_div_pow (h w a : Nat) (ha : a ≤ w) : h % 2 ^ w / 2 ^ a = h / 2 ^ a % 2 ^ (w - a) := by
  have : 2 ^ w = 2 ^ a * 2 ^ (w - a) := by rw [← Nat.pow_add]; congr 1; omega
  rw [this, Nat.mod_mul_right_div_self]
theorem mod_mod_pow (x p q : Nat) : x % 2 ^ p % 2 ^ q = x % 2 ^ min p q := by
  by_cases h : q ≤ p
  · rw [Nat.min_eq_right h, Nat.mod_mod_of_dvd _ (Nat.pow_dvd_pow 2 h)]
  · rw [Nat.min_eq_left (by omega), Nat.mod_eq_of_lt]
    have h1 := Nat.mod_lt x (Nat.two_pow_pos p)
    have h2 := Nat.pow_le_pow_right (n := 2) (by omega) (show p ≤ q by omega)
    omega
theorem mod_pow_succ (x p : Nat) : x % 2 ^ (p + 1) = x % 2 ^ p + 2 ^ p * (x / 2 ^ p % 2) := by
  rw [Nat.pow_succ, Nat.mod_mul]
theorem lowstep (A A' B B' P : Nat) (q2 : A / 2 = A') (m1 : B' = B + P * (A % 2)) (hB : B' < 18446744073709551616) (hA : A < 18446744073709551616) (hP : P ≤ 9223372036854775808) :
    IntKind.u64.wrap ((A : Int) / 2) = (A' : Int) ∧ IntKind.u64.wrap ((B : Int) + IntKind.u64.wrap ((P : Int) * ((A : Int) % 2))) = (B' : Int) := by
  have e : ((A : Int) % 2) = ((A % 2 : Nat) : Int) := by omega
  have hb : A % 2 = 0 ∨ A % 2 = 1 := by omega
  constructor
  · rw [wrap_u64_id (by omega) (by omega)]; omega
  · rw [e]
    rcases hb with hb | hb
    · rw [hb] at m1 ⊢
      rw [wrap_u64_id (n := (P : Int) * ((0 : Nat) : Int)) (by omega) (by omega), wrap_u64_id (by omega) (by omega)]
      omega
    · rw [hb] at m1 ⊢
      rw [wrap_u64_id (n := (P : Int) * ((1 : Nat) : Int)) (by omega) (by omega), wrap_u64_id (by omega) (by omega)]
      omega
theorem chunkstep (b B B' P : Nat) (m1 : B' = B + P * b) (hb : b < 2) (hB : B < 64) (hP : P ≤ 64) : IntKind.i64.wrap ((B : Int) + IntKind.i64.wrap ((P : Int) * (b : Int))) = (B' : Int) := by
  have hb : b = 0 ∨ b = 1 := by omega
  rcases hb with hb | hb
  · rw [hb] at m1 ⊢
    rw [wrap_i64_id (x := (P : Int) * ((0 : Nat) : Int)) (by omega) (by omega), wrap_i64_id (by omega) (by omega)]
    omega
  · rw [hb] at m1 ⊢
    rw [wrap_i64_id (x := (P : Int) * ((1 : Nat) : Int)) (by omega) (by omega), wrap_i64_id (by omega) (by omega)]
    omega
def m1 (h : Int) : Int := IntKind.u64.wrap ((xorI .u64 h (h / 1073741824)) * 13787848793156543929)
def m2 (h : Int) : Int := IntKind.u64.wrap ((xorI .u64 h (h / 134217728)) * 10723151780598845931)
def m3 (h : Int) : Int := xorI .u64 h (h / 2147483648)
theorem pri_ex : ∃ f : ByteArray → Int, ∀ s, f s = m3 (m2 (m1 ((hashS s 64 : Nat) : Int))) := ⟨_, fun _ => rfl⟩
noncomputable def pri : ByteArray → Int := Classical.choose pri_ex
noncomputable def above (a b : ByteArray) : Bool := if pri a = pri b then lt a b else decide (pri a > pri b)
end Go.Abs
set_option linter.unusedVariables false
set_option linter.unusedSimpArgs false
namespace Go.Proofs.YtjekopgcpikkiaaGreatDoor.AK
open Go.Abs
theorem clamp_any (bits : Int) : ref04_clamp bits = some (wid bits : Int) := by
  rw [ref04_clamp.eq]
  simp only [ltI_d, br_if]
  unfold wid
  by_cases h : bits < 0
  · rw [if_pos h]; exact some_int (by omega)
  · rw [if_neg h]
    by_cases h' : 64 < bits
    · rw [if_pos h']; exact some_int (by omega)
    · rw [if_neg h']; exact some_int (by omega)
theorem reflow_loop (bits : Int) (n : Nat) (hn : n < 18446744073709551616) (d : Nat) : ∀ (i : Nat) (one : Int), i ≤ wid bits → (i < 64 → one = 2 ^ i) → wid bits - i = d →
    ref04_Of.l1 bits ((n / 2 ^ i : Nat) : Int) ((n % 2 ^ i : Nat) : Int) one i = some ((n % 2 ^ wid bits : Nat) : Int) := by
  have hw := wid_le bits
  induction d with
  | zero =>
    intro i one hi h1 hd
    rw [ref04_Of.l1.eq, clamp_any, bnd_some]
    simp only [ltI_d, br_if]
    rw [if_neg (by omega), show i = wid bits by omega]
  | succ d ih =>
    intro i one hi h1 hd
    rw [ref04_Of.l1.eq, clamp_any, bnd_some]
    simp only [ltI_d, br_if, eqI_d, notB_d]
    have hone := h1 (by omega)
    subst hone
    have c : ((2 : Int) ^ i) = ((2 ^ i : Nat) : Int) := by simp
    have p : 2 ^ i ≤ 2 ^ 63 := Nat.pow_le_pow_right (by omega) (by omega)
    have q : n / 2 ^ i ≤ n := Nat.div_le_self _ _
    have q2 : n / 2 ^ i / 2 = n / 2 ^ (i + 1) := by rw [Nat.div_div_eq_div_mul, Nat.pow_succ]
    have m1 := mod_pow_succ n i
    have m2 : n % 2 ^ (i + 1) < 18446744073709551616 := by have := Nat.mod_le n (2 ^ (i + 1)); omega
    rw [if_pos (by omega), if_pos (by omega), if_pos (by omega), add1 i (by omega)]
    unfold quoI remI addI mulI
    rw [Int.tdiv_eq_ediv_of_nonneg (Int.natCast_nonneg _), Int.tmod_eq_emod_of_nonneg (Int.natCast_nonneg _)]
    have e := lowstep (n / 2 ^ i) _ (n % 2 ^ i) _ (2 ^ i) q2 m1 m2 (by omega) p
    rw [← c] at e
    rw [e.1, e.2]
    refine ih (i + 1) _ (by omega) (fun h => ?_) (by omega)
    have p2 : 2 ^ (i + 1) ≤ 2 ^ 63 := Nat.pow_le_pow_right (by omega) (by omega)
    have c2 : ((2 : Int) ^ (i + 1)) = ((2 ^ (i + 1) : Nat) : Int) := by simp
    rw [c, c2, wrap_u64, Nat.pow_succ]
    rw [Nat.pow_succ] at p2
    omega
theorem byte_u64 (s : ByteArray) (i : Nat) (hi : i < s.size) : ∃ x : UInt8, (bl s).drop i = x :: (bl s).drop (i + 1) ∧ wrapI .u64 (getS s (toN (i : Int))) = IntKind.u64.wrap (x.toNat : Int) := by
  obtain ⟨x, e, hx⟩ := drop_cons s i hi
  refine ⟨x, e, ?_⟩
  rw [getS_bt, hx]; rfl
theorem refof_loop (s : ByteArray) (bits : Int) (hs : s.size ≤ 140737488351232) (d : Nat) : ∀ (i : Nat) (h : Int), 0 ≤ h → h < 18446744073709551616 → i ≤ s.size → s.size - i = d →
    ref04_Of.l0 s bits h i = some ((((fnv ((bl s).drop i) h).toNat % 2 ^ wid bits : Nat)) : Int) := by
  have hw := wid_le bits
  induction d with
  | zero =>
    intro i h h0 h1 hi hd
    rw [ref04_Of.l0.eq]
    simp only [ltI_d, leI_d, ofN_d, lenS_d, andB_d, br_if]
    obtain ⟨n, rfl⟩ : ∃ n : Nat, h = n := ⟨h.toNat, by omega⟩
    rw [if_neg (by omega), List.drop_eq_nil_of_le (by rw [bl_len]; omega)]
    have := reflow_loop bits n (by omega) (wid bits) 0 1 (by omega) (fun _ => by simp) (by omega)
    simp only [Nat.pow_zero, Nat.div_one, Nat.mod_one, Int.cast_ofNat_Int] at this
    rw [this]
    rfl
  | succ d ih =>
    intro i h h0 h1 hi hd
    rw [ref04_Of.l0.eq]
    simp only [ltI_d, leI_d, ofN_d, lenS_d, andB_d, br_if]
    obtain ⟨x, e, hx⟩ := byte_u64 s i (by omega)
    rw [if_pos (by omega), if_pos (by omega), e, add1 i (by omega), hx]
    have hr := hstep_range h (x.toNat : Int)
    have := ih (i + 1) (hstep h (x.toNat : Int)) hr.1 hr.2 (by omega) (by omega)
    unfold hstep at this
    unfold mulI
    rw [this, fnv_cons]
    rfl
theorem refof_any (s : ByteArray) (bits : Int) (hs : s.size ≤ 140737488351232) : ref04_Of s bits = some ((hashS s bits : Nat) : Int) := by
  rw [ref04_Of.eq]
  have := refof_loop s bits hs s.size 0 14695981039346656037 (by omega) (by omega) (by omega) (by omega)
  simp only [List.drop_zero, Int.cast_ofNat_Int] at this
  unfold hashS
  rw [hashN_eq]
  exact this
theorem within_any (bits : Int) : hash_within bits = some (wid bits : Int) := by
  rw [hash_within.eq]
  simp only [minI_d, maxI_d]
  unfold wid
  exact some_int (by omega)
theorem cutb_any (h : Nat) (hh : h < 18446744073709551616) (bits : Int) : hash_cut h bits = some ((h % 2 ^ wid bits : Nat) : Int) := by
  have hw := wid_le bits
  rw [hash_cut.eq, within_any, bnd_some]
  simp only [eqI_d, leI_d, br_if]
  by_cases e : wid bits = 64
  · rw [if_pos (by omega), e, Nat.mod_eq_of_lt (by omega)]
  · rw [if_neg (by omega), bnd_some, if_pos (by omega)]
    have hpos : 0 < 2 ^ wid bits := Nat.two_pow_pos _
    have hle : 2 ^ wid bits ≤ 2 ^ 63 := Nat.pow_le_pow_right (by omega) (by omega)
    have e1 : shlI .u64 1 ((wid bits : Nat) : Int) = ((2 ^ wid bits : Nat) : Int) := by
      unfold shlI
      rw [Int.toNat_natCast, show IntKind.u64.bits = 64 from rfl, Nat.min_eq_left hw, Int.one_mul, wrap_u64]
      have c : ((2 : Int) ^ wid bits) = ((2 ^ wid bits : Nat) : Int) := by simp
      rw [c]
      generalize 2 ^ wid bits = P at hle ⊢
      omega
    have e2 : subI .u64 ((2 ^ wid bits : Nat) : Int) 1 = ((2 ^ wid bits - 1 : Nat) : Int) := by
      unfold subI
      rw [wrap_u64]
      generalize 2 ^ wid bits = P at hle hpos ⊢
      omega
    rw [e1, e2, and_u64 _ _ hh hw]
theorem hashof_loop (s : ByteArray) (bits : Int) (hs : s.size ≤ 140737488351232) (d : Nat) : ∀ (i : Nat) (h : Int), 0 ≤ h → h < 18446744073709551616 → i ≤ s.size → s.size - i = d →
    hash_Of.l0 s bits h s.size i = some ((((fnv ((bl s).drop i) h).toNat % 2 ^ wid bits : Nat)) : Int) := by
  induction d with
  | zero =>
    intro i h h0 h1 hi hd
    rw [hash_Of.l0.eq]
    simp only [ltI_d, leI_d, ofN_d, lenS_d, andB_d, br_if]
    obtain ⟨n, rfl⟩ : ∃ n : Nat, h = n := ⟨h.toNat, by omega⟩
    rw [if_neg (by omega), List.drop_eq_nil_of_le (by rw [bl_len]; omega), cutb_any n (by omega), bnd_some]
    rfl
  | succ d ih =>
    intro i h h0 h1 hi hd
    rw [hash_Of.l0.eq]
    simp only [ltI_d, leI_d, ofN_d, lenS_d, andB_d, br_if]
    obtain ⟨x, e, hx⟩ := byte_u64 s i (by omega)
    rw [if_pos (by omega), if_pos (by omega), e, add1 i (by omega), hx]
    have hr := hstep_range h (x.toNat : Int)
    have := ih (i + 1) (hstep h (x.toNat : Int)) hr.1 hr.2 (by omega) (by omega)
    unfold hstep at this
    unfold mulI
    rw [this, fnv_cons]
    rfl
theorem hashof_any (s : ByteArray) (bits : Int) (hs : s.size ≤ 140737488351232) : hash_Of s bits = some ((hashS s bits : Nat) : Int) := by
  rw [hash_Of.eq]
  have := hashof_loop s bits hs s.size 0 14695981039346656037 (by omega) (by omega) (by omega) (by omega)
  simp only [List.drop_zero, Int.cast_ofNat_Int] at this
  unfold hashS
  rw [hashN_eq]
  exact this
end Go.Proofs.YtjekopgcpikkiaaGreatDoor.AK
set_option linter.unusedVariables false
set_option linter.unusedSimpArgs false
namespace Go.Proofs.YtjekopgcpikkiaaGreatDoor.AK
open Go.Abs
theorem levels_any (bits : Int) : hash_Levels bits = some ((lev bits : Nat) : Int) := by
  have hw := wid_le bits
  rw [hash_Levels.eq, within_any, bnd_some, show notB (eqI 5 0) = true from rfl, br_t, addI_d (by omega) (by omega), subI_d (by omega) (by omega)]
  unfold quoI lev
  rw [Int.tdiv_eq_ediv_of_nonneg (by omega), wrap_i64_id (by omega) (by omega)]
  exact some_int (by omega)
theorem reflevels_loop (bits : Int) (d : Nat) : ∀ (l : Nat), l ≤ lev bits → lev bits - l = d → ref04_Levels.l0 bits l = some ((lev bits : Nat) : Int) := by
  have hw := wid_le bits
  have em : ∀ l : Nat, l ≤ 13 → mulI .i64 5 (l : Int) = 5 * (l : Int) := fun l hl => by unfold mulI; exact wrap_i64_id (by omega) (by omega)
  have hv := lev_le bits
  induction d with
  | zero =>
    intro l hl hd
    rw [ref04_Levels.l0.eq, clamp_any, bnd_some, em l (by omega)]
    simp only [ltI_d, br_if]
    unfold lev at hl hd
    rw [if_neg (by omega)]
    unfold lev
    exact some_int (by omega)
  | succ d ih =>
    intro l hl hd
    rw [ref04_Levels.l0.eq, clamp_any, bnd_some, em l (by omega)]
    simp only [ltI_d, br_if]
    have hl2 := hl
    have hd2 := hd
    unfold lev at hl hd
    rw [if_pos (by omega), add1 l (by omega)]
    exact ih (l + 1) (by omega) (by omega)
theorem reflevels_any (bits : Int) : ref04_Levels bits = some ((lev bits : Nat) : Int) := by
  rw [ref04_Levels.eq]
  exact reflevels_loop bits (lev bits) 0 (by omega) (by omega)
theorem chunk_any (h : Nat) (hh : h < 18446744073709551616) (level bits : Int) (hl : level ≤ 9223372036854775807) :
    hash_Chunk h level bits = some (((if level < 0 then 0 else chunkS h level.toNat bits) : Nat) : Int) := by
  have hv := lev_le bits
  have hw := wid_le bits
  rw [hash_Chunk.eq, levels_any, bnd_some]
  simp only [ltI_d, leI_d, br_if]
  by_cases h0 : level < 0
  · rw [if_pos h0, if_pos h0]; rfl
  · rw [if_neg h0, if_neg h0]
    unfold chunkS
    by_cases h1 : ((lev bits : Nat) : Int) ≤ level
    · rw [if_pos h1, if_neg (by omega)]; rfl
    · rw [if_neg h1, if_pos (by omega), cutb_any h hh, bnd_some]
      obtain ⟨l, rfl⟩ : ∃ l : Nat, level = l := ⟨level.toNat, by omega⟩
      rw [Int.toNat_natCast]
      have hlt : h % 2 ^ wid bits < 18446744073709551616 := by have := Nat.mod_le h (2 ^ wid bits); omega
      generalize h % 2 ^ wid bits = c at hlt ⊢
      have em : mulI .i64 5 (l : Int) = ((5 * l : Nat) : Int) := by unfold mulI; rw [wrap_i64_id (by omega) (by omega)]; omega
      rw [em, if_pos (by omega)]
      have e1 : shrI .u64 (c : Int) ((5 * l : Nat) : Int) = ((c / 2 ^ (5 * l) : Nat) : Int) := by
        unfold shrI
        have hl' : l < lev bits := by omega
        have : 5 * l ≤ 64 := by unfold lev at hl'; omega
        rw [Int.toNat_natCast, show IntKind.u64.bits = 64 from rfl, Nat.min_eq_left this, Int.fdiv_eq_ediv_of_nonneg _ (Int.pow_nonneg (by omega))]
        simp
      have hle : c / 2 ^ (5 * l) ≤ c := Nat.div_le_self _ _
      rw [e1]
      generalize c / 2 ^ (5 * l) = q at hle ⊢
      have e2 := and_u64 q 5 (by omega) (by omega)
      rw [show ((2 ^ 5 - 1 : Nat) : Int) = 31 from rfl] at e2
      rw [e2]
      have : q % 2 ^ 5 < 32 := Nat.mod_lt _ (by decide)
      unfold wrapI
      rw [wrap_i64_id (by omega) (by omega)]
theorem bit_loop (a : Nat) (d : Nat) : ∀ (h i : Nat), h < 18446744073709551616 → i ≤ a → a ≤ 64 → a - i = d → ref04_bit.l0 h a i = some ((h / 2 ^ d % 2 : Nat) : Int) := by
  induction d with
  | zero =>
    intro h i hh hi ha hd
    rw [ref04_bit.l0.eq]
    simp only [ltI_d, eqI_d, notB_d, br_if]
    unfold remI wrapI
    rw [if_neg (by omega), if_pos (by omega), Int.tmod_eq_emod_of_nonneg (by omega), wrap_i64_id (by omega) (by omega)]
    refine some_int ?_
    simp
  | succ d ih =>
    intro h i hh hi ha hd
    rw [ref04_bit.l0.eq]
    simp only [ltI_d, eqI_d, notB_d, br_if]
    unfold quoI
    rw [if_pos (by omega), if_pos (by omega), Int.tdiv_eq_ediv_of_nonneg (by omega), Go.Abs.wrap_u64_id (by omega) (by omega), add1 i (by omega), show ((h : Int) / 2) = ((h / 2 : Nat) : Int) by omega]
    rw [ih (h / 2) (i + 1) (by omega) (by omega) (by omega) (by omega), Nat.div_div_eq_div_mul, Nat.pow_succ, Nat.mul_comm 2]
theorem bit_any (h a : Nat) (hh : h < 18446744073709551616) (ha : a ≤ 64) : ref04_bit h a = some ((h / 2 ^ a % 2 : Nat) : Int) := by
  rw [ref04_bit.eq]
  exact bit_loop a a h 0 hh (by omega) ha (by omega)
theorem refchunk_loop (h : Nat) (hh : h < 18446744073709551616) (l : Nat) (bits : Int) (hl : l < lev bits) (d : Nat) : ∀ (j : Nat), j ≤ min 5 (wid bits - 5 * l) → min 5 (wid bits - 5 * l) - j = d →
    ref04_Chunk.l0 h l bits ((h / 2 ^ (5 * l) % 2 ^ j : Nat) : Int) (2 ^ j) ((5 * l + j : Nat) : Int) = some ((h / 2 ^ (5 * l) % 2 ^ min 5 (wid bits - 5 * l) : Nat) : Int) := by
  have hw := wid_le bits
  have hv := lev_le bits
  have hlw : 5 * l < wid bits := by unfold lev at hl; omega
  have em : addI .i64 (mulI .i64 5 (l : Int)) 5 = ((5 * l + 5 : Nat) : Int) := by
    have : mulI .i64 5 (l : Int) = ((5 * l : Nat) : Int) := by unfold mulI; rw [wrap_i64_id (by omega) (by omega)]; omega
    rw [this, addI_d (by omega) (by omega)]; omega
  induction d with
  | zero =>
    intro j hj hd
    have hj' : j = min 5 (wid bits - 5 * l) := by omega
    rw [ref04_Chunk.l0.eq, em, clamp_any, bnd_some]
    simp only [ltI_d, br_if]
    by_cases e : ((5 * l + j : Nat) : Int) < ((5 * l + 5 : Nat) : Int)
    · rw [if_pos e, if_neg (by omega), hj']
    · rw [if_neg e, hj']
  | succ d ih =>
    intro j hj hd
    rw [ref04_Chunk.l0.eq, em, clamp_any, bnd_some]
    simp only [ltI_d, br_if]
    rw [if_pos (by omega), if_pos (by omega), bit_any h (5 * l + j) hh (by omega), bnd_some, add1 _ (by omega)]
    have c : ((2 : Int) ^ j) = ((2 ^ j : Nat) : Int) := by simp
    have c2 : ((2 : Int) ^ (j + 1)) = ((2 ^ (j + 1) : Nat) : Int) := by simp
    have p : 2 ^ j ≤ 2 ^ 5 := Nat.pow_le_pow_right (by omega) (by omega)
    have m1 := mod_pow_succ (h / 2 ^ (5 * l)) j
    have q : h / 2 ^ (5 * l) / 2 ^ j = h / 2 ^ (5 * l + j) := by rw [Nat.div_div_eq_div_mul, Nat.pow_add]
    rw [q] at m1
    have m3 : h / 2 ^ (5 * l) % 2 ^ j < 2 ^ j := Nat.mod_lt _ (Nat.two_pow_pos _)
    have := ih (j + 1) (by omega) (by omega)
    rw [c2, Nat.pow_succ] at this
    have e1 := chunkstep (h / 2 ^ (5 * l + j) % 2) (h / 2 ^ (5 * l) % 2 ^ j) _ (2 ^ j) m1 (Nat.mod_lt _ (by omega)) (by omega) (by omega)
    rw [← c] at e1
    have w2 : mulI .i64 2 ((2 ^ j : Nat) : Int) = ((2 ^ j * 2 : Nat) : Int) := by
      unfold mulI
      generalize 2 ^ j = P at p ⊢
      rw [wrap_i64_id (by omega) (by omega)]
      omega
    have w1 : addI .i64 ((h / 2 ^ (5 * l) % 2 ^ j : Nat) : Int) (mulI .i64 (2 ^ j) ((h / 2 ^ (5 * l + j) % 2 : Nat) : Int)) = ((h / 2 ^ (5 * l) % 2 ^ (j + 1) : Nat) : Int) := e1
    rw [w1, c, w2]
    exact this
theorem refchunk_any (h : Nat) (hh : h < 18446744073709551616) (level bits : Int) (hl : level ≤ 9223372036854775807) :
    ref04_Chunk h level bits = some (((if level < 0 then 0 else chunkS h level.toNat bits) : Nat) : Int) := by
  have hv := lev_le bits
  have hw := wid_le bits
  rw [ref04_Chunk.eq, reflevels_any, bnd_some]
  simp only [ltI_d, leI_d, br_if]
  by_cases h0 : level < 0
  · rw [if_pos h0, if_pos h0]; rfl
  · rw [if_neg h0, if_neg h0]
    unfold chunkS
    by_cases h1 : ((lev bits : Nat) : Int) ≤ level
    · rw [if_pos h1, if_neg (by omega)]; rfl
    · rw [if_neg h1, if_pos (by omega)]
      obtain ⟨l, rfl⟩ : ∃ l : Nat, level = l := ⟨level.toNat, by omega⟩
      rw [Int.toNat_natCast]
      have hlw : 5 * l < wid bits := by
        have : l < lev bits := by omega
        unfold lev at this; omega
      have em : mulI .i64 5 (l : Int) = ((5 * l : Nat) : Int) := by unfold mulI; rw [wrap_i64_id (by omega) (by omega)]; omega
      have := refchunk_loop h hh l bits (by omega) (min 5 (wid bits - 5 * l)) 0 (by omega) (by omega)
      simp only [Nat.pow_zero, Nat.mod_one, Nat.add_zero, Int.pow_zero] at this
      rw [em, show (0 : Int) = ((0 : Nat) : Int) from rfl, this]
      refine some_int ?_
      rw [mod_div_pow h _ _ (by omega), show (32 : Nat) = 2 ^ 5 from rfl, mod_mod_pow, Nat.min_comm]
end Go.Proofs.YtjekopgcpikkiaaGreatDoor.AK
set_option linter.unusedVariables false
set_option linter.unusedSimpArgs false
namespace Go.Proofs.YtjekopgcpikkiaaGreatDoor.AK
open Go.Abs
/-! ### Bindings by their chunks -/
noncomputable def ck (bits : Int) (level : Nat) (k : ByteArray) : Nat := chunkS (hashS k bits) level bits
theorem ck_lt (bits : Int) (level : Nat) (k : ByteArray) : ck bits level k < 32 := by
  unfold ck chunkS
  split
  · exact Nat.mod_lt _ (by decide)
  · decide
noncomputable def part (bits : Int) (level : Nat) (l : List PairV) (i : Nat) : List PairV := l.filter fun p => decide (ck bits level p.1 = i)
noncomputable def usedC (bits : Int) (level : Nat) (l : List PairV) : List Nat := (List.range 32).filter fun i => !(part bits level l i).isEmpty
noncomputable def maskC (bits : Int) (level : Nat) (l : List PairV) : Nat := makeL ((usedC bits level l).map fun i : Nat => (i : Int)) 32
theorem usedC_mem {bits : Int} {level : Nat} {l : List PairV} {i : Nat} : i ∈ usedC bits level l ↔ i < 32 ∧ part bits level l i ≠ [] := by
  unfold usedC
  rw [List.mem_filter, List.mem_range]
  cases part bits level l i <;> simp
theorem maskC_bit (bits : Int) (level : Nat) (l : List PairV) (j : Nat) : (maskC bits level l).testBit j = true ↔ j ∈ usedC bits level l := by
  unfold maskC
  rw [makeL_bit, Bool.and_eq_true, decide_eq_true_eq, decide_eq_true_eq, List.mem_map]
  constructor
  · rintro ⟨_, a, ha, e⟩
    have : a = j := by omega
    exact this ▸ ha
  · intro h
    exact ⟨(usedC_mem.1 h).1, j, h, rfl⟩
theorem maskC_lt (bits : Int) (level : Nat) (l : List PairV) : maskC bits level l < 4294967296 := makeL_lt _ 32
theorem allL_maskC (bits : Int) (level : Nat) (l : List PairV) : allL (maskC bits level l) = usedC bits level l := by
  unfold allL
  rw [usedC]
  refine List.filter_congr fun j hj => ?_
  rw [Bool.eq_iff_iff, maskC_bit, usedC_mem]
  have := List.mem_range.1 hj
  cases part bits level l j <;> simp <;> omega
theorem part_sub {bits : Int} {level : Nat} {l : List PairV} {i : Nat} {p : PairV} (h : p ∈ part bits level l i) : p ∈ l := (List.mem_filter.1 h).1
theorem part_srt {bits : Int} {level : Nat} {l : List PairV} (h : Srt l) (i : Nat) : Srt (part bits level l i) := List.Pairwise.filter _ h
theorem part_len (bits : Int) (level : Nat) (l : List PairV) (i : Nat) : (part bits level l i).length ≤ l.length := List.length_filter_le _ _
theorem part_find (bits : Int) (level : Nat) (l : List PairV) (k : ByteArray) : (part bits level l (ck bits level k)).find? (fun q => decide (q.1 = k)) = l.find? (fun q => decide (q.1 = k)) := by
  unfold part
  rw [List.find?_filter]
  congr 1
  funext q
  by_cases h : q.1 = k
  · subst h; simp
  · simp [h]
theorem filter_split (p : PairV → Bool) : ∀ l : List PairV, (l.filter p ++ l.filter (fun x => !p x)).Perm l
  | [] => List.Perm.refl _
  | a :: l => by
    by_cases h : p a = true
    · rw [List.filter_cons_of_pos h, List.filter_cons_of_neg (by simp [h]), List.cons_append]
      exact (filter_split p l).cons a
    · rw [List.filter_cons_of_neg h, List.filter_cons_of_pos (by simp [h])]
      exact List.perm_middle.trans ((filter_split p l).cons a)
theorem parts_upto (f : PairV → Nat) (l : List PairV) : ∀ n : Nat, (((List.range n).map fun i => l.filter fun p => decide (f p = i)).flatten).Perm (l.filter fun p => decide (f p < n))
  | 0 => by
    rw [List.filter_eq_nil_iff.2 (fun a _ => by simp)]
    exact List.Perm.refl _
  | n + 1 => by
    rw [List.range_succ, List.map_append, List.flatten_append, List.map_cons, List.map_nil, List.flatten_cons, List.flatten_nil, List.append_nil]
    refine ((parts_upto f l n).append_right _).trans ?_
    have h := filter_split (fun p => decide (f p < n)) (l.filter fun p => decide (f p < n + 1))
    rw [List.filter_filter, List.filter_filter] at h
    have e1 : (l.filter fun p => (decide (f p < n) && decide (f p < n + 1))) = l.filter fun p => decide (f p < n) := List.filter_congr fun p _ => by
      rw [← Bool.decide_and]; exact decide_eq_decide.2 (by omega)
    have e2 : (l.filter fun p => (!decide (f p < n) && decide (f p < n + 1))) = l.filter fun p => decide (f p = n) := List.filter_congr fun p _ => by
      rw [← decide_not, ← Bool.decide_and]; exact decide_eq_decide.2 (by omega)
    rw [e1, e2] at h
    exact h
theorem flat_used {A : Type} (f : Nat → List A) (q : Nat → Bool) (hq : ∀ i, q i = false → f i = []) : ∀ l : List Nat, ((l.filter q).map f).flatten = (l.map f).flatten
  | [] => rfl
  | a :: l => by
    by_cases h : q a = true
    · rw [List.filter_cons_of_pos h, List.map_cons, List.map_cons, List.flatten_cons, List.flatten_cons, flat_used f q hq l]
    · rw [List.filter_cons_of_neg h, List.map_cons, List.flatten_cons, hq a (by simpa using h), List.nil_append, flat_used f q hq l]
theorem parts_perm (bits : Int) (level : Nat) (l : List PairV) : (((usedC bits level l).map (part bits level l)).flatten).Perm l := by
  unfold usedC
  rw [flat_used (part bits level l) _ (fun i h => by
    cases hp : part bits level l i with
    | nil => rfl
    | cons a b => rw [hp] at h; cases h)]
  refine (parts_upto (fun p => ck bits level p.1) l 32).trans ?_
  rw [List.filter_eq_self.2 (fun p _ => decide_eq_true (ck_lt bits level p.1))]
theorem parts_sum (bits : Int) (level : Nat) (l : List PairV) : ((usedC bits level l).map fun i => (part bits level l i).length).sum = l.length := by
  rw [← (parts_perm bits level l).length_eq, List.length_flatten, List.map_map]
  rfl
/-! ### Nodes -/
def lfN (p : PairV) : NodeV := (1, (p.1, (p.2.1, (0, ([], (0, ([], (1, (0, ())))))))))
def buckN (l : List PairV) : NodeV := (3, (ByteArray.empty, (ByteArray.empty, (0, ([], (0, (l, ((l.length : Int), (0, ())))))))))
theorem lfN_ok {p : PairV} (hp : okP p) : okN (lfN p) := ⟨hp.1, hp.2, by show (0 : Int) ≤ 0; omega, by show (0 : Int) < 4294967296; omega, by show 0 ≤ _; omega, by show 0 ≤ _; omega, fun q hq => (by cases hq)⟩
theorem lfN_may {p : PairV} (hp : okT p) : mayS (lfN p) = 0 := by
  unfold mayS
  rw [if_neg (by show ¬ (1 : Int) < 1; omega), if_neg (by show ¬ (6 : Int) < 1; omega)]
  have hl : longN (lfN p) = false := by
    show ((decide (16 < p.1.size) || decide (16 < p.2.1.size)) || false) = false
    rw [decide_eq_false (by have := hp.1; omega), decide_eq_false (by have := hp.2; omega)]
    rfl
  rw [hl, if_neg (by simp), if_pos]
  refine ⟨Int.le_refl _, ?_⟩
  rw [if_pos (by show ((1 : Int) = 1 ∨ (1 : Int) = 6); omega)]
  exact ⟨rfl, fun q => (by cases q), fun _ => ⟨rfl, rfl⟩, fun _ => rfl, fun _ => rfl⟩
theorem buckN_ok {l : List PairV} (hl : l.length ≤ 1000000) (hb : ∀ p ∈ l, okP p) : okN (buckN l) := ⟨by show (0 : Nat) ≤ 40; omega, by show (0 : Nat) ≤ 40; omega, by show (0 : Int) ≤ 0; omega, by show (0 : Int) < 4294967296; omega, by show 0 ≤ _; omega, hl, hb⟩
theorem buckN_long {l : List PairV} (hb : ∀ p ∈ l, okT p) : longN (buckN l) = false := by
  show ((decide (16 < ByteArray.empty.size) || decide (16 < ByteArray.empty.size)) || l.any fun p => decide (16 < p.1.size) || decide (16 < p.2.1.size)) = false
  rw [decide_eq_false (by show ¬ 16 < 0; omega), Bool.or_self, Bool.false_or, List.any_eq_false]
  intro p hp
  rw [decide_eq_false (by have := (hb p hp).1; omega), decide_eq_false (by have := (hb p hp).2; omega)]
  simp
theorem buckN_may {l : List PairV} (h2 : 2 ≤ l.length) (hs : Srt l) (hb : ∀ p ∈ l, okT p) : mayS (buckN l) = 0 := by
  unfold mayS
  rw [if_neg (by show ¬ (3 : Int) < 1; omega), if_neg (by show ¬ (6 : Int) < 3; omega), buckN_long hb, if_neg (by simp), if_pos]
  refine ⟨Int.le_refl _, ?_⟩
  rw [if_neg (by show ¬ ((3 : Int) = 1 ∨ (3 : Int) = 6); omega), if_neg (by show ¬ (3 : Int) = 2; omega), if_pos (by show (3 : Int) = 3; rfl)]
  exact ⟨h2, srt_isS hs, rfl, fun _ => ⟨rfl, rfl⟩, fun _ => ⟨rfl, rfl⟩, fun _ => rfl, fun q => (by cases q)⟩
/-! ### The nodes of a trie, and its shape -/
def walkN (rec : List NodeV → Nat → List NodeV × Int) : List NodeV → List Nat → List NodeV × List Int
  | h, [] => (h, [])
  | h, i :: is => ((walkN rec (rec h i).1 is).1, (rec h i).2 :: (walkN rec (rec h i).1 is).2)
noncomputable def trieN (bits : Int) : Nat → List NodeV → List PairV → List NodeV × Int
  | f, h, l => if l = [] then (h, 0) else if l.length = 1 then (h ++ [lfN (pairAt l 0)], (h.length : Int) + 1) else match f with
    | 0 => (h ++ [buckN l], (h.length : Int) + 1)
    | f + 1 => ((walkN (fun g i => trieN bits f g (part bits (lev bits - (f + 1)) l i)) h (usedC bits (lev bits - (f + 1)) l)).1 ++ [bN (maskC bits (lev bits - (f + 1)) l) (walkN (fun g i => trieN bits f g (part bits (lev bits - (f + 1)) l i)) h (usedC bits (lev bits - (f + 1)) l)).2 l.length 0],
      ((walkN (fun g i => trieN bits f g (part bits (lev bits - (f + 1)) l i)) h (usedC bits (lev bits - (f + 1)) l)).1.length : Int) + 1)
noncomputable def trieT (bits : Int) : Nat → List PairV → Shp
  | f, l => if l = [] then .nil else if l.length = 1 then .node (stripV (lfN (pairAt l 0))) [.nil] else match f with
    | 0 => .node (stripV (buckN l)) [.nil]
    | f + 1 => .node (stripV (bN (maskC bits (lev bits - (f + 1)) l) [] l.length 0)) ((usedC bits (lev bits - (f + 1)) l).map (fun i => trieT bits f (part bits (lev bits - (f + 1)) l i)) ++ [.nil])
theorem trieN_nil (bits : Int) (f : Nat) (h : List NodeV) : trieN bits f h [] = (h, 0) := by unfold trieN; rw [if_pos rfl]
theorem trieN_one (bits : Int) (f : Nat) (h : List NodeV) (p : PairV) : trieN bits f h [p] = (h ++ [lfN p], (h.length : Int) + 1) := by
  unfold trieN; rw [if_neg (by simp), if_pos (show [p].length = 1 from rfl)]; rfl
theorem trieN_buck (bits : Int) (h : List NodeV) {l : List PairV} (hl : 2 ≤ l.length) : trieN bits 0 h l = (h ++ [buckN l], (h.length : Int) + 1) := by
  unfold trieN; rw [if_neg (by rintro rfl; cases hl), if_neg (by omega)]
theorem trieN_br (bits : Int) (f : Nat) (h : List NodeV) {l : List PairV} (hl : 2 ≤ l.length) : trieN bits (f + 1) h l = ((walkN (fun g i => trieN bits f g (part bits (lev bits - (f + 1)) l i)) h (usedC bits (lev bits - (f + 1)) l)).1 ++ [bN (maskC bits (lev bits - (f + 1)) l) (walkN (fun g i => trieN bits f g (part bits (lev bits - (f + 1)) l i)) h (usedC bits (lev bits - (f + 1)) l)).2 l.length 0],
      ((walkN (fun g i => trieN bits f g (part bits (lev bits - (f + 1)) l i)) h (usedC bits (lev bits - (f + 1)) l)).1.length : Int) + 1) := by
  rw [trieN, if_neg (by rintro rfl; cases hl), if_neg (by omega)]
theorem trieT_nil (bits : Int) (f : Nat) : trieT bits f [] = .nil := by unfold trieT; rw [if_pos rfl]
theorem trieT_one (bits : Int) (f : Nat) (p : PairV) : trieT bits f [p] = .node (stripV (lfN p)) [.nil] := by
  unfold trieT; rw [if_neg (by simp), if_pos (show [p].length = 1 from rfl)]; rfl
theorem trieT_buck (bits : Int) {l : List PairV} (hl : 2 ≤ l.length) : trieT bits 0 l = .node (stripV (buckN l)) [.nil] := by
  unfold trieT; rw [if_neg (by rintro rfl; cases hl), if_neg (by omega)]
theorem trieT_br (bits : Int) (f : Nat) {l : List PairV} (hl : 2 ≤ l.length) : trieT bits (f + 1) l = .node (stripV (bN (maskC bits (lev bits - (f + 1)) l) [] l.length 0)) ((usedC bits (lev bits - (f + 1)) l).map (fun i => trieT bits f (part bits (lev bits - (f + 1)) l i)) ++ [.nil]) := by
  rw [trieT, if_neg (by rintro rfl; cases hl), if_neg (by omega)]
theorem len_cases (l : List PairV) : l = [] ∨ (∃ p, l = [p]) ∨ 2 ≤ l.length := by
  match l with
  | [] => exact .inl rfl
  | [p] => exact .inr (.inl ⟨p, rfl⟩)
  | a :: b :: r => exact .inr (.inr (by simp))
theorem trieT_ne (bits : Int) (f : Nat) {l : List PairV} (h : l ≠ []) : trieT bits f l ≠ .nil := by
  rcases len_cases l with rfl | ⟨p, rfl⟩ | hl
  · exact absurd rfl h
  · rw [trieT_one]; intro e; cases e
  · cases f with
    | zero => rw [trieT_buck bits hl]; intro e; cases e
    | succ f => rw [trieT_br bits f hl]; intro e; cases e
structure TrieOK (bits : Int) (f : Nat) (h : List NodeV) (l : List PairV) (g : List NodeV) (r : Int) : Prop where
  pre : ∃ new : List NodeV, g = h ++ new ∧ new.length ≤ l.length * (f + 1) ∧ ∀ n ∈ new, okN n
  may : mayH g = true
  r0 : 0 ≤ r
  r1 : r ≤ g.length
  shp : U g r = trieT bits f l
theorem one_more (bits : Int) (f : Nat) {h : List NodeV} {n : NodeV} {l : List PairV} (hm : mayH h = true) (ho : okN n) (hn : mayS n = 0) (hk : allK n = [0]) (hl : 1 ≤ l.length) (hs : trieT bits f l = .node (stripV n) [.nil]) : TrieOK bits f h l (h ++ [n]) ((h.length : Int) + 1) := by
  have hmay := may_more hm hn (fun r hr => by rw [refsS_all, hk] at hr; cases hr)
  refine ⟨⟨[n], rfl, ?_, fun m hm' => by rw [List.mem_singleton.1 hm']; exact ho⟩, hmay, by omega, by rw [List.length_append]; simp only [List.length_cons, List.length_nil]; omega, ?_⟩
  · show 1 ≤ _
    exact Nat.le_trans hl (Nat.le_mul_of_pos_right _ (by omega))
  · rw [U_node hmay (by omega) (by rw [List.length_append]; simp only [List.length_cons, List.length_nil]; omega), getN_last, hk, hs]
    show Shp.node _ [U _ 0] = _
    rw [U_zero]
theorem mul_up (a b f : Nat) : (a + b) * (f + 1) = a * (f + 1) + b * (f + 1) := Nat.add_mul _ _ _
theorem walkN_ok (bits : Int) (f : Nat) (rec : List NodeV → Nat → List NodeV × Int) (q : Nat → List PairV) (hrec : ∀ g i, mayH g = true → q i ≠ [] → (∀ p ∈ q i, okT p) → TrieOK bits f g (q i) (rec g i).1 (rec g i).2) : ∀ (is : List Nat) (h : List NodeV), mayH h = true → (∀ i ∈ is, q i ≠ [] ∧ ∀ p ∈ q i, okT p) →
    ∃ new, (walkN rec h is).1 = h ++ new ∧ new.length ≤ (is.map fun i => (q i).length).sum * (f + 1) ∧ (∀ n ∈ new, okN n) ∧ mayH (walkN rec h is).1 = true ∧ (∀ k ∈ (walkN rec h is).2, 1 ≤ k ∧ k ≤ (walkN rec h is).1.length) ∧ (walkN rec h is).2.map (U (walkN rec h is).1) = is.map (fun i => trieT bits f (q i))
  | [], h, hm, _ => ⟨[], by simp [walkN], by simp, by simp, hm, by simp [walkN], rfl⟩
  | i :: is, h, hm, hq => by
    obtain ⟨hi, hp⟩ := hq i List.mem_cons_self
    have a := hrec h i hm hi hp
    obtain ⟨na, ea, la, oa⟩ := a.pre
    obtain ⟨nb, eb, lb, ob, mb, kb, sb⟩ := walkN_ok bits f rec q hrec is (rec h i).1 a.may (fun j hj => hq j (List.mem_cons_of_mem _ hj))
    unfold walkN
    dsimp only
    generalize hA : rec h i = A at a ea eb mb kb sb ⊢
    generalize hB : walkN rec A.1 is = B at eb mb kb sb ⊢
    have hlen : A.1.length ≤ B.1.length := by rw [eb, List.length_append]; omega
    have hr0 := a.r0
    have hr1 := a.r1
    have hne : A.2 ≠ 0 := by
      intro e
      have := a.shp
      rw [e, U_zero] at this
      exact trieT_ne bits f hi this.symm
    have hU : U B.1 A.2 = trieT bits f (q i) := by
      rw [eb, U_app a.may hr0 hr1]
      exact a.shp
    refine ⟨na ++ nb, by rw [eb, ea, List.append_assoc], ?_, ?_, mb, ?_, ?_⟩
    · rw [List.length_append, List.map_cons, List.sum_cons, mul_up]; omega
    · intro n hn
      rcases List.mem_append.1 hn with hn | hn
      · exact oa n hn
      · exact ob n hn
    · intro k hk
      rcases List.mem_cons.1 hk with rfl | hk
      · exact ⟨by omega, by omega⟩
      · exact kb k hk
    · rw [List.map_cons, List.map_cons, sb, hU]
theorem allK_b (m : Nat) (ks : List Int) (sz bi : Int) : allK (bN m ks sz bi) = ks ++ [0] := rfl
theorem trieN_ok (bits : Int) : ∀ (f : Nat) (h : List NodeV) (l : List PairV), mayH h = true → (∀ p ∈ l, okT p) → Srt l → l.length ≤ 1000000 → TrieOK bits f h l (trieN bits f h l).1 (trieN bits f h l).2 := by
  intro f
  induction f with
  | zero =>
    intro h l hm hb hs hl
    rcases len_cases l with rfl | ⟨p, rfl⟩ | h2
    · rw [trieN_nil]
      exact ⟨⟨[], by simp, by simp, by simp⟩, hm, Int.le_refl _, by show (0 : Int) ≤ _; omega, by rw [U_zero, trieT_nil]⟩
    · rw [trieN_one]
      exact one_more bits 0 hm (lfN_ok (hb p List.mem_cons_self).ok) (lfN_may (hb p List.mem_cons_self)) rfl (Nat.le_refl _) (trieT_one bits 0 p)
    · rw [trieN_buck bits h h2]
      exact one_more bits 0 hm (buckN_ok hl fun p hp => (hb p hp).ok) (buckN_may h2 hs hb) rfl (by omega) (trieT_buck bits h2)
  | succ f ih =>
    intro h l hm hb hs hl
    rcases len_cases l with rfl | ⟨p, rfl⟩ | h2
    · rw [trieN_nil]
      exact ⟨⟨[], by simp, by simp, by simp⟩, hm, Int.le_refl _, by show (0 : Int) ≤ _; omega, by rw [U_zero, trieT_nil]⟩
    · rw [trieN_one]
      exact one_more bits (f + 1) hm (lfN_ok (hb p List.mem_cons_self).ok) (lfN_may (hb p List.mem_cons_self)) rfl (Nat.le_refl _) (trieT_one bits _ p)
    · rw [trieN_br bits f h h2]
      generalize hlv : lev bits - (f + 1) = level
      obtain ⟨new, e, ln, on, mn, kn, sn⟩ := walkN_ok bits f (fun g i => trieN bits f g (part bits level l i)) (part bits level l) (fun g i hg hi hp => ih g (part bits level l i) hg hp (part_srt hs i) (by have := part_len bits level l i; omega)) (usedC bits level l) h hm (fun i hi => ⟨(usedC_mem.1 hi).2, fun p hp => hb p (part_sub hp)⟩)
      rw [parts_sum] at ln
      generalize walkN (fun g i => trieN bits f g (part bits level l i)) h (usedC bits level l) = W at e mn kn sn ⊢
      have hW : W.2.length = cnt 32 (maskC bits level l) := by
        have := congrArg List.length sn
        rw [List.length_map, List.length_map] at this
        rw [this, cnt_all, allL_maskC]
      have hB : okB (maskC bits level l) W.2 (l.length : Int) 0 := ⟨maskC_lt _ _ _, hW, fun k hk => by have := kn k hk; omega, by omega, Int.le_refl _⟩
      have hmay := may_more mn hB.may (fun r hr => by
        rw [refsS_all, allK_b] at hr
        obtain ⟨hr1, hr2⟩ := List.mem_filter.1 hr
        rcases List.mem_append.1 hr1 with hr1 | hr1
        · exact kn r hr1
        · rw [List.mem_singleton] at hr1; subst hr1; simp at hr2)
      refine ⟨⟨new ++ [bN (maskC bits level l) W.2 l.length 0], by rw [e, List.append_assoc], ?_, ?_⟩, hmay, by omega, by rw [List.length_append]; simp only [List.length_cons, List.length_nil]; omega, ?_⟩
      · rw [List.length_append]
        simp only [List.length_cons, List.length_nil]
        have : l.length * (f + 1 + 1) = l.length * (f + 1) + l.length := Nat.mul_succ _ _
        omega
      · intro n hn
        rcases List.mem_append.1 hn with hn | hn
        · exact on n hn
        · rw [List.mem_singleton.1 hn]; exact hB.node
      · rw [U_node hmay (by omega) (by rw [List.length_append]; simp only [List.length_cons, List.length_nil]; omega), getN_last, allK_b, trieT_br bits f h2, hlv, List.map_append]
        have e2 : W.2.map (U (W.1 ++ [bN (maskC bits level l) W.2 l.length 0])) = W.2.map (U W.1) := List.map_congr_left fun k hk => U_app mn (by have := kn k hk; omega) (kn k hk).2
        rw [e2, sn]
        show Shp.node _ (_ ++ [U _ 0]) = _
        rw [U_zero]
        rfl
end Go.Proofs.YtjekopgcpikkiaaGreatDoor.AK
