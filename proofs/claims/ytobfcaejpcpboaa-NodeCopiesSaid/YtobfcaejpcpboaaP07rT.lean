/- Bindings put in order as the document says it: what the functions do, plainly. No conditions but those that each names. -/
import Derived.Test.YtobfcaejpcpboaaP07mT
set_option linter.unusedVariables false
set_option linter.unusedSimpArgs false
namespace Go.Proofs.Ytobfcaejpcpboaa.AT
open Go.Abs
theorem refsameP_loop (l m : List PairV) (hl : l.length ≤ 1000000) (hm : l.length = m.length) (d : Nat) : ∀ (i : Nat), i ≤ l.length → l.length - i = d → ref07_Same.l0 l m i = some (decide (l.drop i = m.drop i)) := by
  induction d with
  | zero =>
    intro i h1 h2
    rw [ref07_Same.l0.eq]
    simp only [ltI_d, ofN_d, lenL_d, br_if]
    rw [if_neg (by omega), List.drop_eq_nil_of_le (by omega), List.drop_eq_nil_of_le (by omega), decide_eq_true rfl]
  | succ d ih =>
    intro i h1 h2
    rw [ref07_Same.l0.eq]
    simp only [ltI_d, leI_d, ofN_d, lenL_d, andB_d, eq_pair, notB_d, br_if]
    rw [if_pos (by omega), if_pos (by omega), if_pos (by omega), ixP l i (by omega), ixP m i (by omega), add1 i (by omega), ih (i + 1) (by omega) (by omega)]
    by_cases e : l[i] = m[i]
    · rw [if_neg (by intro h; exact h e)]
      exact some_bool (decide_eq_decide.2 (by rw [drop_eq_iff (show i < l.length by omega) (show i < m.length by omega)]; simp [e]))
    · rw [if_pos e]
      exact some_bool (decide_eq_false (by rw [drop_eq_iff (show i < l.length by omega) (show i < m.length by omega)]; exact fun h => e h.1)).symm
theorem refsameP_any (l m : List PairV) (hl : l.length ≤ 1000000) : ref07_Same l m = some (decide (l = m)) := by
  rw [ref07_Same.eq]
  simp only [ofN_d, lenL_d, eqI_d, notB_d, br_if]
  by_cases h : l.length = m.length
  · rw [if_neg (by omega)]
    exact refsameP_loop l m hl h l.length 0 (by omega) (by omega)
  · rw [if_pos (by omega)]
    exact some_bool (decide_eq_false (fun e => h (by rw [e]))).symm
/-! ### Putting, twice -/
theorem tri (a b : ByteArray) : (lt a b = true ∧ lt b a = false ∧ a ≠ b) ∨ (a = b ∧ lt a b = false ∧ lt b a = false) ∨ (lt b a = true ∧ lt a b = false ∧ a ≠ b) := by
  by_cases h : a = b
  · subst h; exact .inr (.inl ⟨rfl, lt_irrefl _, lt_irrefl _⟩)
  · rcases lt_total h with k | k
    · exact .inl ⟨k, lt_asymm k, h⟩
    · exact .inr (.inr ⟨k, lt_asymm k, h⟩)
theorem putS_lt {q p : PairV} {qs : List PairV} (h : lt q.1 p.1 = true) : putS (q :: qs) p = q :: putS qs p := by
  rw [putS, if_pos h]
theorem putS_eq {q p : PairV} {qs : List PairV} (h : q.1 = p.1) : putS (q :: qs) p = p :: qs := by
  rw [putS, if_neg (by rw [h, lt_irrefl]; simp), if_pos h]
theorem putS_gt {q p : PairV} {qs : List PairV} (h : lt p.1 q.1 = true) : putS (q :: qs) p = p :: q :: qs := by
  rw [putS, if_neg (by rw [lt_asymm h]; simp), if_neg (fun e => by rw [e, lt_irrefl] at h; cases h)]
theorem putS_nil (p : PairV) : putS [] p = [p] := rfl
theorem putS_same {p x : PairV} (h : p.1 = x.1) : ∀ l, putS (putS l p) x = putS l x
  | [] => by rw [putS_nil, putS_eq h, putS_nil]
  | q :: qs => by
    rcases tri q.1 p.1 with ⟨a, _⟩ | ⟨a, _⟩ | ⟨a, _⟩
    · have a' : lt q.1 x.1 = true := by rw [← h]; exact a
      rw [putS_lt a, putS_lt a', putS_lt a', putS_same h qs]
    · rw [putS_eq a, putS_eq h, putS_eq (a.trans h)]
    · have a' : lt x.1 q.1 = true := by rw [← h]; exact a
      rw [putS_gt a, putS_eq h, putS_gt a']
theorem putS_comm {p x : PairV} (h : p.1 ≠ x.1) : ∀ l, putS (putS l p) x = putS (putS l x) p
  | [] => by
    rw [putS_nil, putS_nil]
    rcases tri p.1 x.1 with ⟨c, _⟩ | ⟨c, _⟩ | ⟨c, _⟩
    · rw [putS_lt c, putS_gt c, putS_nil]
    · exact absurd c h
    · rw [putS_gt c, putS_lt c, putS_nil]
  | q :: qs => by
    rcases tri q.1 p.1 with ⟨a, _⟩ | ⟨a, _⟩ | ⟨a, _⟩
    · rcases tri q.1 x.1 with ⟨b, _⟩ | ⟨b, _⟩ | ⟨b, _⟩
      · rw [putS_lt a, putS_lt b, putS_lt b, putS_lt a, putS_comm h qs]
      · have c : lt x.1 p.1 = true := by rw [← b]; exact a
        rw [putS_lt a, putS_eq b, putS_eq b, putS_lt c]
      · rw [putS_lt a, putS_gt b, putS_gt b, putS_lt (lt_trans b a), putS_lt a]
    · rcases tri q.1 x.1 with ⟨b, _⟩ | ⟨b, _⟩ | ⟨b, _⟩
      · have c : lt p.1 x.1 = true := by rw [← a]; exact b
        rw [putS_eq a, putS_lt c, putS_lt b, putS_eq a]
      · exact absurd (a.symm.trans b) h
      · have c : lt x.1 p.1 = true := by rw [← a]; exact b
        rw [putS_eq a, putS_gt c, putS_gt b, putS_lt c, putS_eq a]
    · rcases tri q.1 x.1 with ⟨b, _⟩ | ⟨b, _⟩ | ⟨b, _⟩
      · rw [putS_gt a, putS_lt (lt_trans a b), putS_lt b, putS_gt a]
      · have c : lt p.1 x.1 = true := by rw [← b]; exact a
        rw [putS_gt a, putS_lt c, putS_eq b, putS_gt c]
      · rcases tri p.1 x.1 with ⟨c, _⟩ | ⟨c, _⟩ | ⟨c, _⟩
        · rw [putS_gt a, putS_lt c, putS_gt b, putS_gt c]
        · exact absurd c h
        · rw [putS_gt a, putS_gt c, putS_gt b, putS_lt c, putS_gt a]
theorem fold_skip {p : PairV} : ∀ (r acc : List PairV), (∃ q ∈ r, q.1 = p.1) → r.foldl putS (putS acc p) = r.foldl putS acc
  | [], _, ⟨_, h, _⟩ => by cases h
  | x :: r, acc, ⟨q, hq, e⟩ => by
    rw [List.foldl_cons, List.foldl_cons]
    by_cases hx : p.1 = x.1
    · rw [putS_same hx]
    · rw [putS_comm hx]
      refine fold_skip r _ ⟨q, ?_, e⟩
      rcases List.mem_cons.1 hq with rfl | hq
      · exact absurd e.symm hx
      · exact hq
/-! ### The document's way -/
theorem last_loop (l : List PairV) (hl : l.length ≤ 1000000) (i : Nat) (hi : i < l.length) (d : Nat) : ∀ (k : Nat), k ≤ l.length → l.length - k = d → ref07_last.l0 l i k = some ((l.drop k).all fun q => !decide (q.1 = l[i].1)) := by
  induction d with
  | zero =>
    intro k h1 h2
    rw [ref07_last.l0.eq]
    simp only [ltI_d, ofN_d, lenL_d, br_if]
    rw [if_neg (by omega), List.drop_eq_nil_of_le (by omega)]
    rfl
  | succ d ih =>
    intro k h1 h2
    have hk : k < l.length := by omega
    rw [ref07_last.l0.eq]
    simp only [ltI_d, leI_d, eqS_d, ofN_d, lenL_d, andB_d, br_if]
    rw [if_pos (by omega), if_pos (by omega), if_pos (by omega), ixP l k hk, ixP l i hi, add1 k (by omega), ih (k + 1) (by omega) (by omega), List.drop_eq_getElem_cons hk]
    rw [List.all_cons]
    by_cases e : l[k].1 = l[i].1
    · rw [if_pos e, decide_eq_true e]; rfl
    · rw [if_neg e, decide_eq_false e]; rfl
theorem last_any (l : List PairV) (hl : l.length ≤ 1000000) (i : Nat) (hi : i < l.length) : ref07_last l i = some ((l.drop (i + 1)).all fun q => !decide (q.1 = l[i].1)) := by
  rw [ref07_last.eq, add1 i (by omega)]
  exact last_loop l hl i hi _ (i + 1) (by omega) rfl
theorem insert_any (l out : List PairV) (i at_ : Nat) (hi : i < l.length) (hl : l.length ≤ 1000000) (ha : at_ ≤ out.length) (ho : out.length ≤ 1000000) :
    ref07_Make.j2 l i at_ false out = ref07_Make.l0 l ((i + 1 : Nat) : Int) (out.take at_ ++ l[i] :: out.drop at_) := by
  rw [ref07_Make.j2.eq, br_f]
  have e0 : toN 0 = 0 := rfl
  have s1 : subL tapiPair out 0 at_ = out.take at_ := subL0 _ _ _
  have s2 : subL tapiPair out at_ out.length = out.drop at_ := by
    unfold subL
    exact List.take_of_length_le (by rw [List.length_drop]; omega)
  have hx := ixP l i hi
  simp only [e0, toN_d, ofN_d, lenL_d, s1, s2, hx, appL_d, List.nil_append, add1 i (by omega)]
  have c1 : andB (leI 0 (i : Int)) (ltI (i : Int) (l.length : Int)) = true := by
    rw [leI_d, ltI_d, andB_d]; exact decide_eq_true ⟨by omega, by omega⟩
  have c2 : andB (leI 0 0) (andB (leI 0 (at_ : Int)) (leI (at_ : Int) (out.length : Int))) = true := by
    rw [leI_d, leI_d, leI_d, andB_d, andB_d]; exact decide_eq_true ⟨by omega, by omega, by omega⟩
  have c3 : fitL tapiPair (out.take at_) = true := by rw [fitL_d]; exact decide_eq_true (by rw [List.length_take]; omega)
  have c4 : fitL tapiPair (out.take at_ ++ [l[i]]) = true := by rw [fitL_d]; exact decide_eq_true (by rw [List.length_append, List.length_take]; show _ + 1 ≤ _; omega)
  have c5 : andB (leI 0 (at_ : Int)) (andB (leI (at_ : Int) (out.length : Int)) (leI (out.length : Int) (out.length : Int))) = true := by
    rw [leI_d, leI_d, leI_d, andB_d, andB_d]; exact decide_eq_true ⟨by omega, by omega, by omega⟩
  have c6 : fitL tapiPair (out.take at_ ++ [l[i]] ++ out.drop at_) = true := by rw [fitL_d]; exact decide_eq_true (by rw [List.length_append, List.length_append, List.length_take, List.length_drop]; show _ + 1 + _ ≤ _; omega)
  simp only [c1, c2, c3, c4, c5, c6, br_t, both_self]
  rw [List.append_assoc]
  rfl
theorem find_loop (l out : List PairV) (i : Nat) (hi : i < l.length) (hl : l.length ≤ 1000000) (ho : out.length ≤ 1000000) (hs : ∀ p ∈ out, okP p) (hS : Srt out) (hne : ∀ q ∈ out, q.1 ≠ l[i].1) (d : Nat) : ∀ (a : Nat), a ≤ out.length → out.length - a = d → (∀ (b : Nat) (h : b < out.length), b < a → lt out[b].1 l[i].1 = true) →
    ref07_Make.l1 l i a out = ref07_Make.l0 l ((i + 1 : Nat) : Int) (putS out l[i]) := by
  have fin : ∀ (a : Nat), a ≤ out.length → (∀ (b : Nat) (h : b < out.length), b < a → lt out[b].1 l[i].1 = true) → (∀ (h : a < out.length), lt out[a].1 l[i].1 = false) → ref07_Make.j2 l i a false out = ref07_Make.l0 l ((i + 1 : Nat) : Int) (putS out l[i]) := by
    intro a h1 h2 h3
    rw [insert_any l out i a hi hl h1 ho, putS_at l[i] out a h1 h2 h3, if_neg (by rintro ⟨h, e⟩; exact hne _ (List.getElem_mem h) e)]
  induction d with
  | zero =>
    intro a h1 h2 h3
    rw [ref07_Make.l1.eq]
    simp only [ltI_d, ofN_d, lenL_d, br_if]
    rw [if_neg (by omega)]
    exact fin a h1 h3 (fun h => by omega)
  | succ d ih =>
    intro a h1 h2 h3
    have ha : a < out.length := by omega
    rw [ref07_Make.l1.eq]
    simp only [ltI_d, leI_d, ofN_d, lenL_d, andB_d, br_if]
    rw [if_pos (by omega), if_pos (by omega), if_pos (by omega), ixP out a ha, ixP l i hi, less_any _ _ (by have := (hs _ (List.getElem_mem ha)).1; omega), bnd_some]
    cases hc : lt out[a].1 l[i].1 with
    | true =>
      rw [ref07_Make.j2.eq, br_t, add1 a (by omega)]
      refine ih (a + 1) (by omega) (by omega) (fun b h hb => ?_)
      by_cases e : b = a
      · subst e; exact hc
      · exact h3 b h (by omega)
    | false => exact fin a h1 h3 (fun _ => hc)
theorem refmake_loop (l : List PairV) (hl : l.length ≤ 40) (hs : ∀ p ∈ l, okP p) (d : Nat) : ∀ (i : Nat) (acc : List PairV), i ≤ l.length → l.length - i = d → acc.length ≤ i → (∀ q ∈ acc, okP q) → Srt acc → (∀ q ∈ acc, ∀ x ∈ l.drop i, q.1 ≠ x.1) →
    ref07_Make.l0 l i acc = some ((l.drop i).foldl putS acc) := by
  induction d with
  | zero =>
    intro i acc h1 h2 h3 h4 h5 h6
    rw [ref07_Make.l0.eq]
    simp only [ltI_d, ofN_d, lenL_d, br_if]
    rw [if_neg (by omega), List.drop_eq_nil_of_le (by omega)]
    rfl
  | succ d ih =>
    intro i acc h1 h2 h3 h4 h5 h6
    have hi : i < l.length := by omega
    have hd := List.drop_eq_getElem_cons hi
    rw [hd] at h6
    rw [ref07_Make.l0.eq]
    simp only [ltI_d, ofN_d, lenL_d, br_if]
    rw [if_pos (by omega), last_any l (by omega) i hi, bnd_some, hd, List.foldl_cons]
    by_cases e' : ((l.drop (i + 1)).all fun q => !decide (q.1 = l[i].1)) = true
    · have e : ∀ q ∈ l.drop (i + 1), q.1 ≠ l[i].1 := fun q hq => by simpa using List.all_eq_true.1 e' q hq
      rw [e', show notB true = false from rfl, br_f]
      have := find_loop l acc i hi (by omega) (by omega) h4 h5 (fun q hq => h6 q hq _ List.mem_cons_self) acc.length 0 (by omega) (by omega) (fun b h hb => by omega)
      rw [show ((0 : Nat) : Int) = 0 from rfl] at this
      rw [this]
      have hlen := putS_len l[i] acc
      refine ih (i + 1) _ (by omega) (by omega) (by omega) (putS_ok h4 (hs _ (List.getElem_mem hi))) (putS_srt _ h5) (fun q hq x hx => ?_)
      rcases putS_mem hq with rfl | hq
      · exact fun h => e x hx h.symm
      · exact h6 q hq x (List.mem_cons_of_mem _ hx)
    · have e : ¬ ∀ q ∈ l.drop (i + 1), q.1 ≠ l[i].1 := fun h => e' (List.all_eq_true.2 fun q hq => by simpa using h q hq)
      have e2 : ((l.drop (i + 1)).all fun q => !decide (q.1 = l[i].1)) = false := by simpa using e'
      rw [e2, show notB false = true from rfl, br_t, add1 i (by omega), ih (i + 1) acc (by omega) (by omega) (by omega) h4 h5 (fun q hq x hx => h6 q hq x (List.mem_cons_of_mem _ hx))]
      have hex : ∃ q ∈ l.drop (i + 1), q.1 = l[i].1 := by
        refine Classical.byContradiction fun h => e fun q hq he => h ⟨q, hq, he⟩
      rw [fold_skip _ _ hex]
theorem refmake_any (l : List PairV) (hl : l.length ≤ 40) (hs : ∀ p ∈ l, okP p) : ref07_Make l = some (makeS l) := by
  rw [ref07_Make.eq]
  have := refmake_loop l hl hs l.length 0 [] (by omega) (by omega) (by simp) (by simp) List.Pairwise.nil (by simp)
  rw [List.drop_zero, show ((0 : Nat) : Int) = 0 from rfl] at this
  exact this
end Go.Proofs.Ytobfcaejpcpboaa.AT
