/- Bindings put in order: what the functions do, plainly. No conditions but those that each names. -/
import Derived.Test.YtobfcaejpcpboaaP07V
set_option linter.unusedVariables false
set_option linter.unusedSimpArgs false
namespace Go.Proofs.Ytobfcaejpcpboaa.AV
open Go.Abs
/-- A binding put among others in order. -/
def putS : List PairV → PairV → List PairV
  | [], p => [p]
  | q :: qs, p => if lt q.1 p.1 = true then q :: putS qs p else if q.1 = p.1 then p :: qs else p :: q :: qs
/-- Bindings put in order; the last one with a key stays. -/
def makeS (l : List PairV) : List PairV := l.foldl putS []
def Srt (l : List PairV) : Prop := l.Pairwise fun a b => lt a.1 b.1 = true
theorem putS_len (p : PairV) : ∀ l, (putS l p).length ≤ l.length + 1
  | [] => by simp [putS]
  | q :: qs => by
    have := putS_len p qs
    unfold putS
    split
    · simp; omega
    · split <;> simp
theorem putS_mem {p x : PairV} : ∀ {l : List PairV}, x ∈ putS l p → x = p ∨ x ∈ l
  | [], h => by simp [putS] at h; exact .inl h
  | q :: qs, h => by
    unfold putS at h
    split at h
    · rcases List.mem_cons.1 h with h | h
      · exact .inr (h ▸ List.mem_cons_self)
      · exact (putS_mem h).imp id (List.mem_cons_of_mem _)
    · split at h
      · rcases List.mem_cons.1 h with h | h
        · exact .inl h
        · exact .inr (List.mem_cons_of_mem _ h)
      · rcases List.mem_cons.1 h with h | h
        · exact .inl h
        · exact .inr h
theorem putS_srt (p : PairV) : ∀ {l : List PairV}, Srt l → Srt (putS l p)
  | [], _ => List.pairwise_singleton _ _
  | q :: qs, h => by
    obtain ⟨h1, h2⟩ := List.pairwise_cons.1 h
    unfold putS
    split
    · rename_i hl
      refine List.pairwise_cons.2 ⟨fun x hx => ?_, putS_srt p h2⟩
      rcases putS_mem hx with rfl | hx
      · exact hl
      · exact h1 x hx
    · rename_i hl
      split
      · rename_i he
        exact List.pairwise_cons.2 ⟨fun x hx => he ▸ h1 x hx, h2⟩
      · rename_i he
        have hlt : lt p.1 q.1 = true := (lt_total (fun e => he e.symm)).resolve_right hl
        refine List.pairwise_cons.2 ⟨fun x hx => ?_, h⟩
        rcases List.mem_cons.1 hx with rfl | hx
        · exact hlt
        · exact lt_trans hlt (h1 x hx)
/-- Where it is put. -/
theorem putS_at (p : PairV) : ∀ (l : List PairV) (i : Nat), i ≤ l.length → (∀ (a : Nat) (h : a < l.length), a < i → lt l[a].1 p.1 = true) → (∀ (h : i < l.length), lt l[i].1 p.1 = false) →
    putS l p = if ∃ h : i < l.length, l[i].1 = p.1 then l.set i p else l.take i ++ p :: l.drop i
  | [], i, h0, _, _ => by
    have : i = 0 := by simpa using h0
    subst this
    rw [if_neg (by rintro ⟨h, _⟩; simp at h)]
    rfl
  | q :: qs, 0, _, _, h2 => by
    have hq : lt q.1 p.1 = false := h2 (by simp)
    unfold putS
    rw [if_neg (by rw [hq]; simp)]
    by_cases he : q.1 = p.1
    · rw [if_pos he, if_pos ⟨by simp, he⟩]; rfl
    · rw [if_neg he, if_neg (by rintro ⟨_, h⟩; exact he h)]; rfl
  | q :: qs, i + 1, h0, h1, h2 => by
    have hq : lt q.1 p.1 = true := h1 0 (by simp) (by omega)
    unfold putS
    rw [if_pos hq, putS_at p qs i (by simpa using h0) (fun a h ha => h1 (a + 1) (by simpa using h) (by omega)) (fun h => h2 (by simpa using h))]
    by_cases he : ∃ h : i < qs.length, qs[i].1 = p.1
    · rw [if_pos he, if_pos (by obtain ⟨h, e⟩ := he; exact ⟨by simpa using h, e⟩)]; rfl
    · rw [if_neg he, if_neg (by rintro ⟨h, e⟩; exact he ⟨by simpa using h, e⟩)]; rfl
theorem srt_get {l : List PairV} (h : Srt l) {a b : Nat} (hb : b < l.length) (hab : a < b) : lt l[a].1 l[b].1 = true := List.pairwise_iff_getElem.1 h a b (by omega) hb hab
theorem wrap_u64_id {x : Int} (h0 : 0 ≤ x) (h1 : x < 18446744073709551616) : IntKind.u64.wrap x = x := by
  have : IntKind.u64.wrap x = x % 18446744073709551616 := by simp [IntKind.wrap, IntKind.bits, IntKind.signed]
  rw [this]; omega
theorem mid (i j : Nat) (h : i + j ≤ 100000000) : wrapI .i64 (shrI .u64 (wrapI .u64 (addI .i64 (i : Int) (j : Int))) 1) = (((i + j) / 2 : Nat) : Int) := by
  rw [addI_d (by omega) (by omega)]
  unfold wrapI
  rw [wrap_u64_id (by omega) (by omega), show ((i : Int) + (j : Int)) = ((i + j : Nat) : Int) by omega]
  have := shr_div (i + j) 1 .u64 (by decide)
  rw [show ((1 : Nat) : Int) = 1 from rfl, Nat.pow_one] at this
  rw [this]
  exact wrap_i64_id (by omega) (by omega)
theorem place1_any (p : PairV) (k : ByteArray) (hp : okP p) : pair_place_1 p k = some (cmp p.1 k) := by
  rw [pair_place_1.eq, compare_any _ _ (by have := hp.1; omega), bnd_some]
theorem search_loop (l : List PairV) (k : ByteArray) (hl : l.length ≤ 1000000) (hs : ∀ p ∈ l, okP p) (hS : Srt l) : ∀ (d i j : Nat), j - i ≤ d → i ≤ j → j ≤ l.length → (∀ (a : Nat) (h : a < l.length), a < i → lt l[a].1 k = true) → (∀ (a : Nat) (h : a < l.length), j ≤ a → lt l[a].1 k = false) →
    ∃ pos : Nat, slices_BinarySearchFuncapi_Pair_api_Pair_string.l0 l k l.length i j = some ((pos : Int), (decide (∃ h : pos < l.length, l[pos].1 = k), ())) ∧ pos ≤ l.length ∧ (∀ (a : Nat) (h : a < l.length), a < pos → lt l[a].1 k = true) ∧ (∀ (a : Nat) (h : a < l.length), pos ≤ a → lt l[a].1 k = false) := by
  intro d
  induction d with
  | zero =>
    intro i j h0 h1 h2 h3 h4
    have hij : j = i := by omega
    subst hij
    rw [slices_BinarySearchFuncapi_Pair_api_Pair_string.l0.eq]
    simp only [ltI_d, leI_d, ofN_d, lenL_d, andB_d, eqI_d, br_if]
    rw [if_neg (by omega)]
    by_cases hn : j < l.length
    · rw [if_pos (by omega), if_pos (by omega), ixP l j hn, place1_any _ _ (hs _ (List.getElem_mem hn)), bnd_some]
      refine ⟨j, ?_, h2, h3, h4⟩
      have : decide (cmp l[j].1 k = 0) = decide (∃ h : j < l.length, l[j].1 = k) := decide_eq_decide.2 ⟨fun h => ⟨hn, cmp_eq.1 h⟩, fun ⟨_, h⟩ => cmp_eq.2 h⟩
      rw [this]
    · rw [if_neg (by omega)]
      refine ⟨j, ?_, h2, h3, h4⟩
      have : (false : Bool) = decide (∃ h : j < l.length, l[j].1 = k) := (decide_eq_false (fun ⟨h, _⟩ => hn h)).symm
      rw [← this]
  | succ d ih =>
    intro i j h0 h1 h2 h3 h4
    by_cases hij : i = j
    · exact ih i j (by omega) h1 h2 h3 h4
    have hm := mid i j (by omega)
    have hlt : (i + j) / 2 < l.length := by omega
    rw [slices_BinarySearchFuncapi_Pair_api_Pair_string.l0.eq, hm]
    simp only [ltI_d, leI_d, ofN_d, lenL_d, andB_d, eqI_d, br_if]
    rw [if_pos (by omega), if_pos (by omega), if_pos (by omega), ixP l _ hlt, place1_any _ _ (hs _ (List.getElem_mem hlt)), bnd_some, add1 _ (by omega)]
    by_cases hc : lt l[(i + j) / 2].1 k = true
    · rw [if_pos (cmp_neg.2 hc)]
      refine ih _ j (by omega) (by omega) h2 (fun a h ha => ?_) h4
      by_cases he : a = (i + j) / 2
      · subst he; exact hc
      · exact lt_trans (srt_get hS hlt (show a < (i + j) / 2 by omega)) hc
    · rw [if_neg (fun h => hc (cmp_neg.1 h))]
      refine ih i _ (by omega) (by omega) (by omega) h3 (fun a h ha => ?_)
      cases hk : lt l[a].1 k with
      | false => rfl
      | true =>
        exfalso
        by_cases he : (i + j) / 2 = a
        · subst he; exact hc hk
        · exact hc (lt_trans (srt_get hS h (show (i + j) / 2 < a by omega)) hk)
theorem place_any (l : List PairV) (k : ByteArray) (hl : l.length ≤ 1000000) (hs : ∀ p ∈ l, okP p) (hS : Srt l) :
    ∃ pos : Nat, pair_place l k = some ((pos : Int), (decide (∃ h : pos < l.length, l[pos].1 = k), ())) ∧ pos ≤ l.length ∧ (∀ (a : Nat) (h : a < l.length), a < pos → lt l[a].1 k = true) ∧ (∀ (a : Nat) (h : a < l.length), pos ≤ a → lt l[a].1 k = false) := by
  obtain ⟨pos, h1, h2⟩ := search_loop l k hl hs hS l.length 0 l.length (by omega) (by omega) (by omega) (fun a h h' => by omega) (fun a h h' => by omega)
  refine ⟨pos, ?_, h2⟩
  rw [pair_place.eq, slices_BinarySearchFuncapi_Pair_api_Pair_string.eq]
  simp only [ofN_d, lenL_d]
  rw [show ((0 : Nat) : Int) = 0 from rfl] at h1
  rw [h1, bnd_some]
theorem put_any (l : List PairV) (p : PairV) (hl : l.length ≤ 100000) (hs : ∀ q ∈ l, okP q) (hS : Srt l) : pair_put l p = some ((), (putS l p, ())) := by
  obtain ⟨pos, h1, h2, h3, h4⟩ := place_any l p.1 (by omega) hs hS
  have hput := putS_at p l pos h2 h3 (fun h => h4 pos h (Nat.le_refl _))
  rw [pair_put.eq, h1, bnd_some]
  simp only [br_if]
  by_cases he : ∃ h : pos < l.length, l[pos].1 = p.1
  · rw [if_pos he, cloneP_any l (by omega), bnd_some]
    simp only [ltI_d, leI_d, ofN_d, lenL_d, andB_d, br_if]
    rw [if_pos (by obtain ⟨h, _⟩ := he; omega), hput, if_pos he]
    unfold setL
    rw [Int.toNat_natCast]
  · rw [if_neg he, cloneP_any l (by omega), bnd_some, slices_Insertapi_Pair_api_Pair.eq]
    have hg : insG tapiPair l (pos : Int) [p] = true := by
      unfold insG
      refine decide_eq_true ⟨by omega, ?_, ?_, ?_⟩
      · show pos ≤ l.length; exact h2
      · show 0 < 1; omega
      · show l.length + 1 ≤ _; omega
    rw [hg, br_t, bnd_some, both_self, hput, if_neg he]
    unfold insL
    rw [Int.toNat_natCast, List.append_assoc]
    rfl
theorem putS_ok {l : List PairV} {p : PairV} (hl : ∀ q ∈ l, okP q) (hp : okP p) : ∀ q ∈ putS l p, okP q := fun q hq => by
  rcases putS_mem hq with rfl | h
  · exact hp
  · exact hl q h
theorem make_loop (l : List PairV) (hl : l.length ≤ 40) (hs : ∀ p ∈ l, okP p) (d : Nat) : ∀ (i : Nat) (acc : List PairV), i ≤ l.length → l.length - i = d → acc.length ≤ i → (∀ q ∈ acc, okP q) → Srt acc → pair_Make.l0 l l.length i acc = some ((l.drop i).foldl putS acc) := by
  induction d with
  | zero =>
    intro i acc h1 h2 h3 h4 h5
    rw [pair_Make.l0.eq]
    simp only [ltI_d, br_if]
    rw [if_neg (by omega), List.drop_eq_nil_of_le (by omega)]
    rfl
  | succ d ih =>
    intro i acc h1 h2 h3 h4 h5
    have hi : i < l.length := by omega
    rw [pair_Make.l0.eq]
    simp only [ltI_d, leI_d, ofN_d, lenL_d, andB_d, br_if]
    rw [if_pos (by omega), if_pos (by omega), ixP l i hi, put_any acc _ (by omega) h4 h5, bnd_some, add1 i (by omega), List.drop_eq_getElem_cons hi]
    have := putS_len l[i] acc
    exact ih (i + 1) (putS acc l[i]) (by omega) (by omega) (by omega) (putS_ok h4 (hs _ (List.getElem_mem hi))) (putS_srt _ h5)
theorem make_any (l : List PairV) (hl : l.length ≤ 40) (hs : ∀ p ∈ l, okP p) : pair_Make l = some (makeS l) := by
  rw [pair_Make.eq]
  simp only [ofN_d, lenL_d]
  have := make_loop l hl hs l.length 0 [] (by omega) (by omega) (by simp) (by simp) List.Pairwise.nil
  rw [List.drop_zero, show ((0 : Nat) : Int) = 0 from rfl] at this
  exact this
theorem foldl_len : ∀ (l acc : List PairV), (l.foldl putS acc).length ≤ acc.length + l.length
  | [], acc => by simp
  | p :: l, acc => by
    have h1 := foldl_len l (putS acc p)
    have h2 := putS_len p acc
    simp only [List.foldl_cons, List.length_cons]
    omega
theorem makeS_len (l : List PairV) : (makeS l).length ≤ l.length := by have := foldl_len l []; unfold makeS; simpa using this
/-- What is in order stays so. -/
theorem putS_end (p : PairV) : ∀ (l : List PairV), (∀ q ∈ l, lt q.1 p.1 = true) → putS l p = l ++ [p]
  | [], _ => rfl
  | q :: qs, h => by
    unfold putS
    rw [if_pos (h q List.mem_cons_self), putS_end p qs fun x hx => h x (List.mem_cons_of_mem _ hx)]
    rfl
theorem foldl_srt : ∀ (l acc : List PairV), Srt (acc ++ l) → l.foldl putS acc = acc ++ l
  | [], acc, _ => by simp
  | p :: l, acc, h => by
    rw [List.foldl_cons, putS_end p acc (fun q hq => (List.pairwise_append.1 h).2.2 q hq p List.mem_cons_self), foldl_srt l (acc ++ [p]) (by simpa using h)]
    simp
theorem makeS_srt {l : List PairV} (h : Srt l) : makeS l = l := by
  have := foldl_srt l [] (by simpa using h)
  simpa [makeS] using this
theorem isS_srt : ∀ {l : List PairV}, isS l = true → Srt l
  | [], _ => List.Pairwise.nil
  | [a], _ => List.pairwise_singleton _ _
  | a :: b :: r, h => by
    have h' : (lt a.1 b.1 && isS (b :: r)) = true := h
    rw [Bool.and_eq_true] at h'
    have hr := isS_srt h'.2
    refine List.pairwise_cons.2 ⟨fun x hx => ?_, hr⟩
    rcases List.mem_cons.1 hx with rfl | hx
    · exact h'.1
    · exact lt_trans h'.1 ((List.pairwise_cons.1 hr).1 x hx)
end Go.Proofs.Ytobfcaejpcpboaa.AV
