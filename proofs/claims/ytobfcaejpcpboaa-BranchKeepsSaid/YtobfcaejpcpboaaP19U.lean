/- Branches: what the functions do, plainly. No conditions but those that each names. -/
import Derived.Test.YtobfcaejpcpboaaP13cU
import Derived.Test.YtobfcaejpcpboaaP06bU
set_option linter.unusedVariables false
set_option linter.unusedSimpArgs false
namespace Go.Proofs.Ytobfcaejpcpboaa.AU
open Go.Abs
/-- A branch, as a node. -/
def bN (m : Nat) (ks : List Int) (sz bi : Int) : NodeV := (2, (ByteArray.empty, (ByteArray.empty, ((m : Int), (ks, (0, ([], (sz, (bi, ())))))))))
structure okB (m : Nat) (ks : List Int) (sz bi : Int) : Prop where
  lt : m < 4294967296
  len : ks.length = cnt 32 m
  nz : ∀ k ∈ ks, k ≠ 0
  sz0 : 0 ≤ sz
  bi0 : 0 ≤ bi
/-- A branch's child at a chunk. -/
def chAt (m : Nat) (ks : List Int) (j : Nat) : Int := if m.testBit j = true then ks.getD (cnt j m) 0 else 0
theorem cnt_mono (m : Nat) {i j : Nat} (h : i ≤ j) : cnt i m ≤ cnt j m := by
  induction h with
  | refl => exact Nat.le_refl _
  | step _ ih => rw [cnt_succ]; omega
theorem cnt_less {m i j : Nat} (h : i < j) (hb : m.testBit i = true) : cnt i m < cnt j m := by
  have := cnt_mono m (show i + 1 ≤ j by omega)
  rw [cnt_succ, if_pos hb] at this
  omega
theorem cnt_inj {m i j : Nat} (hi : m.testBit i = true) (hj : m.testBit j = true) (h : cnt i m = cnt j m) : i = j := by
  rcases Nat.lt_trichotomy i j with q | q | q
  · have := cnt_less q hi; omega
  · exact q
  · have := cnt_less q hj; omega
theorem kids_of (m : Nat) (ks : List Int) : ∀ n, cnt n m ≤ ks.length → ((List.range n).filter fun j => m.testBit j).map (fun j => ks.getD (cnt j m) 0) = ks.take (cnt n m)
  | 0, _ => by simp [cnt]
  | n + 1, h => by
    have hc := cnt_succ n m
    have hm := cnt_mono m (show n ≤ n + 1 by omega)
    rw [List.range_succ, List.filter_append, List.map_append, kids_of m ks n (by omega)]
    by_cases b : m.testBit n = true
    · rw [if_pos b] at hc
      rw [hc, List.filter_cons_of_pos (by exact b), List.filter_nil, List.map_cons, List.map_nil, List.take_succ_eq_append_getElem (by omega)]
      rw [List.getD_eq_getElem?_getD, List.getElem?_eq_getElem (show cnt n m < ks.length by omega)]
      rfl
    · rw [if_neg b] at hc
      rw [hc, List.filter_cons_of_neg (by exact b), List.filter_nil, List.map_nil, List.append_nil, Nat.add_zero]
theorem okB.at_nz {m : Nat} {ks : List Int} {sz bi : Int} (h : okB m ks sz bi) {j : Nat} (hj : j < 32) (hb : m.testBit j = true) : ks.getD (cnt j m) 0 ≠ 0 := by
  have := cnt_less hj hb
  have hl := h.len
  rw [List.getD_eq_getElem?_getD, List.getElem?_eq_getElem (show cnt j m < ks.length by omega)]
  exact h.nz _ (List.getElem_mem _)
theorem okB.ch_nz {m : Nat} {ks : List Int} {sz bi : Int} (h : okB m ks sz bi) {j : Nat} (hj : j < 32) : chAt m ks j ≠ 0 ↔ m.testBit j = true := by
  unfold chAt
  by_cases hb : m.testBit j = true
  · rw [if_pos hb]; exact ⟨fun _ => hb, fun _ => h.at_nz hj hb⟩
  · rw [if_neg hb]; exact ⟨fun q => absurd rfl q, fun q => absurd q hb⟩
theorem makeL_all {m : Nat} (hm : m < 4294967296) : makeL (allI m) 32 = m := by
  apply Nat.eq_of_testBit_eq
  intro j
  rw [makeL_bit]
  by_cases q : j < 32
  · rw [decide_eq_true q, Bool.true_and]
    have : ((j : Int) ∈ allI m) ↔ m.testBit j = true := by
      rw [allI_mem]
      exact ⟨fun ⟨k, h1, h2, h3⟩ => by rw [show j = k by omega]; exact h2, fun h => ⟨j, q, h, rfl⟩⟩
    cases hb : m.testBit j with
    | true => exact decide_eq_true (this.2 hb)
    | false => exact decide_eq_false (fun z => by rw [this.1 z] at hb; cases hb)
  · rw [high_bit hm q]
    simp [q]
theorem okB.node {m : Nat} {ks : List Int} {sz bi : Int} (h : okB m ks sz bi) : okN (bN m ks sz bi) := by
  have hl := h.len
  have hc := cnt_le 32 m
  have hm := h.lt
  exact ⟨by show (0 : Nat) ≤ 40; omega, by show (0 : Nat) ≤ 40; omega, by show (0 : Int) ≤ (m : Int); omega, by show (m : Int) < 4294967296; omega, by show ks.length ≤ 40; omega, by show (0 : Nat) ≤ 40; omega, fun p hp => by cases hp⟩
theorem okB.may {m : Nat} {ks : List Int} {sz bi : Int} (h : okB m ks sz bi) : mayS (bN m ks sz bi) = 0 := by
  unfold mayS
  have hl : longN (bN m ks sz bi) = false := rfl
  rw [if_neg (by show ¬ (2 : Int) < 1; omega), if_neg (by show ¬ (6 : Int) < 2; omega), hl, if_neg (by simp), if_pos]
  refine ⟨h.bi0, ?_⟩
  rw [if_neg (by show ¬ ((2 : Int) = 1 ∨ (2 : Int) = 6); omega), if_pos (by show (2 : Int) = 2; rfl)]
  refine ⟨fun q => h.nz 0 q rfl, ?_, h.sz0, fun _ => ⟨rfl, rfl⟩, fun q => (by cases q), fun _ => rfl, fun _ => rfl⟩
  show ks.length = (allI (m : Int).toNat).length
  rw [Int.toNat_natCast, allI_len]
  exact h.len
theorem okB.empty : okB 0 [] 0 0 := ⟨by omega, by decide, fun k hk => (by cases hk), Int.le_refl _, Int.le_refl _⟩
/-- A node that is a branch that may be. -/
theorem branch_form {n : NodeV} (h : okN n) (h1 : n.1 = 2) (h2 : mayS n = 0) : ∃ m ks sz bi, okB m ks sz bi ∧ n = bN m ks sz bi := by
  have hm0 := h.map0
  have hm1 := h.map1
  unfold mayS at h2
  rw [if_neg (by omega), if_neg (by omega)] at h2
  split at h2
  · omega
  split at h2
  case isFalse => omega
  rename_i hf
  obtain ⟨k, key, val, m, ks, mn, L, sz, bi, u⟩ := n
  unfold formP bareP at hf
  dsimp only at h1 hf hm0 hm1
  obtain ⟨f1, f2⟩ := hf
  rw [if_neg (by omega), if_pos h1] at f2
  obtain ⟨g1, g2, g3, g4, _, g5, g6⟩ := f2
  obtain ⟨g4, g7⟩ := g4 rfl
  have g5 := g5 rfl
  have g6 := g6 rfl
  subst h1; subst g4; subst g7; subst g5; subst g6
  refine ⟨m.toNat, ks, sz, bi, ⟨by omega, by rw [g2, allI_len], fun k hk e => g1 (e ▸ hk), g3, f1⟩, ?_⟩
  unfold bN
  rw [Int.toNat_of_nonneg hm0]
/-! ### The code's branch, the document's -/
theorem of_l0 (m : Nat) (ks : List Int) (sz bi : Int) (h : okB m ks sz bi) (x3 : List Int × Int × Int × Unit) (d : Nat) : ∀ (i : Nat), i ≤ (allI m).length → (allI m).length - i = d →
    ref19_Of.l0 (allI m) i (bN m ks sz bi) x3 ((List.range 32).map (fun j => if m.testBit j = true ∧ cnt j m < i then ks.getD (cnt j m) 0 else 0), (0, (0, ()))) = some ((List.range 32).map (chAt m ks), (sz, (bi, ()))) := by
  have hlen := allI_len m
  have hkl := h.len
  have hc := cnt_le 32 m
  induction d with
  | zero =>
    intro i hi hd
    rw [ref19_Of.l0.eq]
    simp only [ltI_d, ofN_d, lenL_d, br_if]
    rw [if_neg (by omega), both_self]
    have e : (List.range 32).map (fun j => if m.testBit j = true ∧ cnt j m < i then ks.getD (cnt j m) 0 else 0) = (List.range 32).map (chAt m ks) := by
      refine List.map_congr_left (fun j hj => ?_)
      have hj := List.mem_range.1 hj
      unfold chAt
      by_cases hb : m.testBit j = true
      · have := cnt_less hj hb
        rw [if_pos hb, if_pos ⟨hb, by omega⟩]
      · rw [if_neg hb, if_neg (fun q => hb q.1)]
    rw [e]
    rfl
  | succ d ih =>
    intro i hi hd
    have hil : i < (allI m).length := by omega
    obtain ⟨j, j1, j2, j3⟩ := allI_mem.1 (List.getElem_mem hil)
    have hj : cnt j m = i := by
      have p1 := place_at (allI_sorted m) i hil
      have e : rd (allI m) (i : Int) = (allI m)[i] := by rw [rd_nat, List.getD_eq_getElem?_getD, List.getElem?_eq_getElem hil]; rfl
      rw [e, j3, ← place_list] at p1
      rw [show cl (j : Int) = j by unfold cl; omega] at p1
      exact p1
    rw [ref19_Of.l0.eq]
    have ix : ixL (.int .i64) (allI m) (i : Int) = (j : Int) := (ixR (allI m) i hil).trans j3
    have ik : ixL (.int .i64) ks (i : Int) = ks[i] := ixR ks i (by omega)
    rw [ix]
    have hks : (bN m ks sz bi).2.2.2.2.1 = ks := rfl
    rw [hks, ik]
    simp only [ltI_d, leI_d, ofN_d, lenL_d, andB_d, br_if]
    rw [if_pos (by omega), if_pos (by omega), if_pos (by omega), if_pos (by omega), add1 i (by omega)]
    have e : setL (.int .i64) ((List.range 32).map (fun j => if m.testBit j = true ∧ cnt j m < i then ks.getD (cnt j m) 0 else 0)) (j : Int) ks[i] = (List.range 32).map (fun j => if m.testBit j = true ∧ cnt j m < i + 1 then ks.getD (cnt j m) 0 else 0) := by
      unfold setL
      rw [Int.toNat_natCast]
      apply List.ext_getElem
      · simp
      intro a h1 h2
      rw [List.getElem_set]
      have ha : a < 32 := by simpa using h2
      by_cases q : j = a
      · subst q
        rw [if_pos rfl, List.getElem_map, List.getElem_range, if_pos ⟨j2, by omega⟩, hj, List.getD_eq_getElem?_getD, List.getElem?_eq_getElem (show i < ks.length by omega)]
        rfl
      · rw [if_neg q, List.getElem_map, List.getElem_map, List.getElem_range]
        by_cases hb : m.testBit a = true
        · have hne : cnt a m ≠ i := fun e => q (cnt_inj j2 hb (by omega))
          by_cases g : cnt a m < i
          · rw [if_pos ⟨hb, g⟩, if_pos ⟨hb, by omega⟩]
          · rw [if_neg (fun z => g z.2), if_neg (fun z => by have := z.2; omega)]
        · rw [if_neg (fun z => hb z.1), if_neg (fun z => hb z.1)]
    rw [e]
    exact ih (i + 1) (by omega) (by omega)
theorem branchO_0 : node_Branch_o 0 [] 0 = some ((2, (ByteArray.empty, (ByteArray.empty, (0, ((), (0, ((), (0, (0, ()))))))))), ([], ([], ()))) := by
  rw [node_Branch_o.eq, cloneR_any _ (by show (0 : Nat) ≤ _; omega), bnd_some]
theorem branch_spec (n : NodeV) (h : okN n) : ∃ m ks sz bi, okB m ks sz bi ∧ branch_branch n = some ((2, (ByteArray.empty, (ByteArray.empty, ((m : Int), ((), (0, ((), (sz, (bi, ()))))))))), (ks, ([], ()))) ∧
    ref19_Of n = some ((List.range 32).map (chAt m ks), (sz, (bi, ()))) ∧ ((n.1 = 2 ∧ mayS n = 0) → n = bN m ks sz bi) := by
  have zero : (List.range 32).map (chAt 0 []) = List.replicate 32 (0 : Int) := by decide
  by_cases h1 : n.1 = 2
  · by_cases h2 : mayS n = 0
    · obtain ⟨m, ks, sz, bi, hb, rfl⟩ := branch_form h h1 h2
      refine ⟨m, ks, sz, bi, hb, ?_, ?_, fun _ => rfl⟩
      · rw [branch_branch.eq, may_any _ h, bnd_some, copy_any _ h, bnd_some, h2]
        simp only [eqI_d, notB_d, br_if]
        rw [if_neg (fun q => q rfl), if_neg (fun q => q (by first | exact rfl | exact True.intro))]
        rfl
      · rw [ref19_Of.eq, refmay_any _ h, bnd_some, h2]
        have hm : (bN m ks sz bi).2.2.2.1 = ((m : Nat) : Int) := rfl
        simp only [eqI_d, notB_d, br_if]
        rw [if_neg (fun q => q rfl), if_neg (fun q => q (by first | exact rfl | exact True.intro)), hm, refall_any m hb.lt, bnd_some]
        have := of_l0 m ks sz bi hb (List.replicate 32 (0 : Int), (0, (0, ()))) (allI m).length 0 (by omega) (by omega)
        have e : (List.range 32).map (fun j => if m.testBit j = true ∧ cnt j m < 0 then ks.getD (cnt j m) 0 else 0) = List.replicate 32 (0 : Int) := by
          have : (fun j => if m.testBit j = true ∧ cnt j m < 0 then ks.getD (cnt j m) 0 else (0 : Int)) = fun _ => 0 := by
            funext j
            rw [if_neg (fun q => by have := q.2; omega)]
          rw [this]
          rfl
        rw [e] at this
        exact this
    · refine ⟨0, [], 0, 0, .empty, ?_, ?_, fun q => absurd q.2 h2⟩
      · rw [branch_branch.eq, may_any _ h, bnd_some, branchO_0, bnd_some]
        simp only [eqI_d, notB_d, br_if]
        rw [if_neg (fun q => q h1), if_pos h2]
        rfl
      · rw [ref19_Of.eq, refmay_any _ h, bnd_some, zero]
        simp only [eqI_d, notB_d, br_if]
        rw [if_neg (fun q => q h1), if_pos h2]
  · refine ⟨0, [], 0, 0, .empty, ?_, ?_, fun q => absurd q.1 h1⟩
    · rw [branch_branch.eq, branchO_0, bnd_some]
      simp only [eqI_d, notB_d, br_if]
      rw [if_pos h1]
      rfl
    · rw [ref19_Of.eq, zero]
      simp only [eqI_d, notB_d, br_if]
      rw [if_pos h1]
theorem branch_self {m : Nat} {ks : List Int} {sz bi : Int} (h : okB m ks sz bi) : branch_branch (bN m ks sz bi) = some ((2, (ByteArray.empty, (ByteArray.empty, ((m : Int), ((), (0, ((), (sz, (bi, ()))))))))), (ks, ([], ()))) := by
  rw [branch_branch.eq, may_any _ h.node, bnd_some, copy_any _ h.node, bnd_some, h.may]
  simp only [eqI_d, notB_d, br_if]
  rw [if_neg (fun q => q rfl), if_neg (fun q => q (by first | exact rfl | exact True.intro))]
  rfl
theorem node_l0 (At : List Int) (sz bi : Int) (hA : At.length = 32) (d : Nat) : ∀ (j : Nat) (z x5 x6), j ≤ 32 → 32 - j = d →
    ref19_Branch_Node.l0 j (At, (sz, (bi, ()))) z (((List.range j).filter fun a => decide (At.getD a 0 ≠ 0)).map fun a : Nat => (a : Int)) (((List.range j).filter fun a => decide (At.getD a 0 ≠ 0)).map fun a => At.getD a 0) x5 x6 =
    some (2, (ByteArray.empty, (ByteArray.empty, ((makeL (((List.range 32).filter fun a => decide (At.getD a 0 ≠ 0)).map fun a : Nat => (a : Int)) 32 : Int), (((List.range 32).filter fun a => decide (At.getD a 0 ≠ 0)).map (fun a => At.getD a 0), (0, ([], (sz, (bi, ()))))))))) := by
  have flen : ∀ j, j ≤ 32 → ((List.range j).filter fun a => decide (At.getD a 0 ≠ 0)).length ≤ 32 := fun j hj => by
    have := List.length_filter_le (fun a => decide (At.getD a 0 ≠ 0)) (List.range j)
    rw [List.length_range] at this
    omega
  induction d with
  | zero =>
    intro j z x5 x6 hj hd
    rw [ref19_Branch_Node.l0.eq]
    simp only [ltI_d, br_if]
    rw [if_neg (by omega), show j = 32 by omega, make_m _ (by rw [List.length_map]; have := flen 32 (by omega); omega), bnd_some]
  | succ d ih =>
    intro j z x5 x6 hj hd
    have hjA : j < At.length := by omega
    have ix : ixL (.int .i64) At (j : Int) = At.getD j 0 := by
      rw [List.getD_eq_getElem?_getD, List.getElem?_eq_getElem hjA]
      exact ixR At j hjA
    rw [ref19_Branch_Node.l0.eq, ix]
    have fl := flen j (by omega)
    have l1 : ((((List.range j).filter fun a => decide (At.getD a 0 ≠ 0)).map fun a : Nat => (a : Int)) ++ [(j : Int)]).length ≤ 33 := by
      rw [List.length_append, List.length_map]; show _ + 1 ≤ 33; omega
    have l2 : ((((List.range j).filter fun a => decide (At.getD a 0 ≠ 0)).map fun a => At.getD a 0) ++ [At.getD j 0]).length ≤ 33 := by
      rw [List.length_append, List.length_map]; show _ + 1 ≤ 33; omega
    simp only [ltI_d, leI_d, ofN_d, lenL_d, andB_d, eqI_d, notB_d, br_if, fitL_d, appL_d]
    rw [if_pos (by omega), if_pos (by omega), add1 j (by omega)]
    have ih := fun z x5 x6 => ih (j + 1) z x5 x6 (by omega) (by omega)
    rw [List.range_succ, List.filter_append, List.map_append, List.map_append] at ih
    by_cases hz : At.getD j 0 = 0
    · rw [if_neg (fun q => q hz)]
      have e : [j].filter (fun a => decide (At.getD a 0 ≠ 0)) = [] := by
        rw [List.filter_cons_of_neg (by rw [decide_eq_true_iff]; exact fun q => q hz)]; rfl
      rw [e] at ih
      simp only [List.map_nil, List.append_nil] at ih
      exact ih _ _ _
    · rw [if_pos hz, if_pos (by omega), if_pos (by omega), if_pos (by omega)]
      have e : [j].filter (fun a => decide (At.getD a 0 ≠ 0)) = [j] := by
        rw [List.filter_cons_of_pos (by rw [decide_eq_true_iff]; exact hz)]; rfl
      rw [e] at ih
      exact ih _ _ _
theorem node_any {m : Nat} {ks : List Int} {sz bi : Int} (h : okB m ks sz bi) (At : List Int) (hA : At.length = 32) (hat : ∀ j, j < 32 → At.getD j 0 = chAt m ks j) : ref19_Branch_Node (At, (sz, (bi, ()))) = some (bN m ks sz bi) := by
  rw [ref19_Branch_Node.eq]
  have := fun z => node_l0 At sz bi hA 32 0 z [] [] (by omega) (by omega)
  rw [show ((0 : Nat) : Int) = 0 from rfl] at this
  simp only [List.range_zero, List.filter_nil, List.map_nil] at this
  rw [this]
  have ef : (List.range 32).filter (fun a => decide (At.getD a 0 ≠ 0)) = (List.range 32).filter fun j => m.testBit j := by
    apply List.filter_congr
    intro j hj
    have hj := List.mem_range.1 hj
    rw [hat j hj, Bool.eq_iff_iff, decide_eq_true_iff]
    exact h.ch_nz hj
  have ek : ((List.range 32).filter fun j => m.testBit j).map (fun a => At.getD a 0) = ks := by
    have := kids_of m ks 32 (by rw [h.len]; exact Nat.le_refl _)
    rw [← h.len, List.take_length] at this
    rw [← this]
    refine List.map_congr_left (fun j hj => ?_)
    obtain ⟨h1, h2⟩ := List.mem_filter.1 hj
    rw [hat j (List.mem_range.1 h1)]
    unfold chAt
    rw [if_pos h2]
  rw [ef, ek]
  have em : makeL (((List.range 32).filter fun j => m.testBit j).map fun a : Nat => (a : Int)) 32 = m := makeL_all h.lt
  rw [em]
  rfl
/-! ### Children -/
/-- The child at a chunk, whatever number is named. -/
def chI (m : Nat) (ks : List Int) (i : Int) : Int := if 0 ≤ i ∧ i < 32 then chAt m ks i.toNat else 0
theorem child_any {n : NodeV} {m : Nat} {ks : List Int} {sz bi : Int} (h : okB m ks sz bi) (hb : branch_branch n = some ((2, (ByteArray.empty, (ByteArray.empty, ((m : Int), ((), (0, ((), (sz, (bi, ()))))))))), (ks, ([], ())))) (i : Int) : branch_Child n i = some (chI m ks i) := by
  have hl := h.len
  rw [branch_Child.eq, hb, bnd_some, has_m m h.lt i, bnd_some, place_m m h.lt i, bnd_some]
  unfold chI chAt hasM
  by_cases hi : 0 ≤ i ∧ i < 32
  · rw [decide_eq_true hi, Bool.true_and, if_pos hi]
    cases hbit : m.testBit i.toNat with
    | false => rfl
    | true =>
      have := cnt_less (show i.toNat < 32 by omega) hbit
      rw [show cl i = i.toNat by unfold cl; omega]
      show br (notB true) _ _ = _
      rw [show notB true = false from rfl, br_f]
      simp only [ltI_d, leI_d, ofN_d, lenL_d, andB_d, br_if]
      rw [if_pos (by omega), if_pos True.intro, ixR ks _ (by omega), List.getD_eq_getElem?_getD, List.getElem?_eq_getElem (show cnt i.toNat m < ks.length by omega)]
      rfl
  · rw [decide_eq_false hi, Bool.false_and, if_neg hi]
    rfl
theorem refchild_any (m : Nat) (ks : List Int) (sz bi : Int) (i : Int) : ref19_Branch_Child ((List.range 32).map (chAt m ks), (sz, (bi, ()))) i = some (chI m ks i) := by
  rw [ref19_Branch_Child.eq]
  unfold chI
  simp only [ltI_d, leI_d, ofN_d, andB_d, br_if]
  by_cases h1 : i < 0
  · rw [if_pos h1, if_neg (by omega)]
  rw [if_neg h1]
  by_cases h2 : 31 < i
  · rw [if_pos h2, if_neg (by omega)]
  rw [if_neg h2, if_pos (by omega), if_pos (by omega)]
  have hi : i = ((i.toNat : Nat) : Int) := by omega
  have hlt : i.toNat < 32 := by omega
  generalize i.toNat = k at hi hlt
  subst hi
  have : ixL (.int .i64) ((List.range 32).map (chAt m ks)) (k : Int) = ((List.range 32).map (chAt m ks))[k]'(by simpa using hlt) := ixR _ k (by simpa using hlt)
  rw [this, List.getElem_map, List.getElem_range]
theorem at_len (m : Nat) (ks : List Int) : ((List.range 32).map (chAt m ks)).length = 32 := by simp
theorem at_get (m : Nat) (ks : List Int) (j : Nat) (hj : j < 32) : ((List.range 32).map (chAt m ks)).getD j 0 = chAt m ks j := by
  rw [List.getD_eq_getElem?_getD, List.getElem?_eq_getElem (by simpa using hj), List.getElem_map, List.getElem_range]
  rfl
theorem refput_any (At : List Int) (hA : At.length = 32) (sz bi i r : Int) : ∃ At', ref19_Branch_Put (At, (sz, (bi, ()))) i r = some (At', (sz, (bi, ()))) ∧ At'.length = 32 ∧ ∀ j, j < 32 → At'.getD j 0 = if (j : Int) = i then r else At.getD j 0 := by
  rw [ref19_Branch_Put.eq]
  simp only [ltI_d, leI_d, ofN_d, andB_d, br_if]
  by_cases h1 : 0 ≤ i
  · rw [if_pos h1]
    by_cases h2 : i < 32
    · rw [if_pos h2, if_pos (by omega)]
      refine ⟨_, rfl, ?_, ?_⟩
      · show (List.set At i.toNat r).length = 32
        rw [List.length_set]; exact hA
      · intro j hj
        show (List.set At i.toNat r).getD j 0 = _
        rw [List.getD_eq_getElem?_getD, List.getElem?_set]
        by_cases q : (j : Int) = i
        · rw [if_pos q, if_pos (by omega), if_pos (by omega)]; rfl
        · rw [if_neg q, if_neg (by omega), ← List.getD_eq_getElem?_getD]
    · rw [if_neg h2]
      exact ⟨At, rfl, hA, fun j hj => by rw [if_neg (by omega)]⟩
  · rw [if_neg h1]
    exact ⟨At, rfl, hA, fun j hj => by rw [if_neg (by omega)]⟩
/-! ### With a child, without -/
theorem cnt_with {m : Nat} {i : Nat} (hi : i < 32) (hb : m.testBit i = false) : ∀ n, cnt n (withM m i) = cnt n m + if i < n then 1 else 0
  | 0 => by simp [cnt]
  | n + 1 => by
    rw [cnt_succ, cnt_succ, cnt_with hi hb n, withM_bit]
    by_cases q : i = n
    · subst q
      rw [hb, if_neg (by omega), if_pos (by simp; omega), if_neg (by simp), if_pos (by omega)]
    · have e : decide (0 ≤ (i : Int) ∧ (i : Int) < 32 ∧ (i : Int) = n) = false := decide_eq_false (by omega)
      rw [e, Bool.or_false]
      by_cases g : i < n
      · rw [if_pos g, if_pos (show i < n + 1 by omega)]; omega
      · rw [if_neg g, if_neg (show ¬ i < n + 1 by omega)]; omega
theorem cnt_without {m : Nat} (hm : m < 4294967296) {i : Nat} (hi : i < 32) (hb : m.testBit i = true) : ∀ n, cnt n m = cnt n (withoutM m i) + if i < n then 1 else 0
  | 0 => by simp [cnt]
  | n + 1 => by
    rw [cnt_succ, cnt_succ, cnt_without hm hi hb n, withoutM_bit hm]
    by_cases q : i = n
    · subst q
      rw [hb, if_neg (by omega), if_pos rfl, if_neg (by simp; omega), if_pos (by omega)]
    · have e : decide (0 ≤ (i : Int) ∧ (i : Int) < 32 ∧ (i : Int) = n) = false := decide_eq_false (by omega)
      rw [e, Bool.not_false, Bool.and_true]
      by_cases g : i < n
      · rw [if_pos g, if_pos (show i < n + 1 by omega)]; omega
      · rw [if_neg g, if_neg (show ¬ i < n + 1 by omega)]; omega
theorem getD_app {l r : List Int} {j : Nat} : (l ++ r).getD j 0 = if j < l.length then l.getD j 0 else r.getD (j - l.length) 0 := by
  by_cases h : j < l.length
  · rw [if_pos h, List.getD_eq_getElem?_getD, List.getD_eq_getElem?_getD, List.getElem?_append_left h]
  · rw [if_neg h, List.getD_eq_getElem?_getD, List.getD_eq_getElem?_getD, List.getElem?_append_right (by omega)]
theorem getD_take {l : List Int} {p j : Nat} (h : j < p) : (l.take p).getD j 0 = l.getD j 0 := by
  rw [List.getD_eq_getElem?_getD, List.getD_eq_getElem?_getD, List.getElem?_take, if_pos h]
theorem getD_drop {l : List Int} {p j : Nat} : (l.drop p).getD j 0 = l.getD (p + j) 0 := by
  rw [List.getD_eq_getElem?_getD, List.getD_eq_getElem?_getD, List.getElem?_drop]
theorem with_spec {n : NodeV} {m : Nat} {ks : List Int} {sz bi : Int} (h : okB m ks sz bi) (hb : branch_branch n = some ((2, (ByteArray.empty, (ByteArray.empty, ((m : Int), ((), (0, ((), (sz, (bi, ()))))))))), (ks, ([], ())))) (i r : Int) :
    ∃ m' ks', okB m' ks' sz bi ∧ branch_With n i r = some (bN m' ks' sz bi) ∧ m' = (if r = 0 then m else withM m i) ∧ ∀ j, j < 32 → chAt m' ks' j = if (j : Int) = i ∧ r ≠ 0 then r else chAt m ks j := by
  have hl := h.len
  have hm := h.lt
  have hw := withM_lt hm i
  have hc := cnt_le 32 m
  rw [branch_With.eq, hb, bnd_some]
  dsimp only
  rw [with_m m hm i, bnd_some, place_m _ hw i, bnd_some, has_m _ hw i, bnd_some]
  simp only [eqI_d, br_if]
  by_cases hr : r = 0
  · rw [if_pos hr, branch_With.j0.eq, br_t]
    exact ⟨m, ks, h, rfl, by rw [if_pos hr], fun j hj => by rw [if_neg (fun q => q.2 hr)]⟩
  rw [if_neg hr, branch_With.j0.eq]
  dsimp only
  by_cases hi : 0 ≤ i ∧ i < 32
  · have hin : hasM (withM m i) i = true := by
      unfold hasM
      rw [decide_eq_true hi, Bool.true_and, withM_bit, decide_eq_true (by omega), Bool.or_true]
    rw [hin, show notB true = false from rfl, br_f]
    have hii : i = ((i.toNat : Nat) : Int) := by omega
    have hlt : i.toNat < 32 := by omega
    generalize i.toNat = k at hii hlt
    subst hii
    rw [show cl (k : Int) = k by unfold cl; omega]
    cases hbit : m.testBit k with
    | true =>
      have hsame : withM m (k : Int) = m := by
        apply Nat.eq_of_testBit_eq
        intro j
        rw [withM_bit]
        by_cases q : k = j
        · subst q; rw [hbit, Bool.true_or]
        · rw [decide_eq_false (by omega), Bool.or_false]
      have hck := cnt_less hlt hbit
      rw [hsame]
      simp only [ltI_d, leI_d, eqI_d, ofN_d, lenL_d, andB_d, br_if]
      rw [if_pos True.intro, if_pos (by omega)]
      have es : setL (.int .i64) ks ((cnt k m : Nat) : Int) r = ks.set (cnt k m) r := by unfold setL; rw [Int.toNat_natCast]
      rw [es]
      refine ⟨m, ks.set (cnt k m) r, ⟨hm, by rw [List.length_set]; exact hl, fun x hx => ?_, h.sz0, h.bi0⟩, rfl, by rw [if_neg hr], fun j hj => ?_⟩
      · rcases List.mem_or_eq_of_mem_set hx with hx | rfl
        · exact h.nz x hx
        · exact hr
      · unfold chAt
        by_cases q : (j : Int) = k
        · have : j = k := by omega
          subst this
          rw [if_pos hbit, if_pos ⟨rfl, hr⟩, List.getD_eq_getElem?_getD, List.getElem?_set, if_pos rfl, if_pos (by omega)]
          rfl
        · rw [if_neg (show ¬ ((j : Int) = k ∧ r ≠ 0) from fun z => q z.1)]
          by_cases hbj : m.testBit j = true
          · rw [if_pos hbj, if_pos hbj, List.getD_eq_getElem?_getD, List.getElem?_set, if_neg (fun e => q (by rw [cnt_inj hbit hbj e])), ← List.getD_eq_getElem?_getD]
          · rw [if_neg hbj, if_neg hbj]
    | false =>
      have hne : ¬ ((withM m (k : Int) : Nat) : Int) = (m : Int) := by
        intro e
        have e : withM m (k : Int) = m := by omega
        have := withM_bit m (k : Int) k
        rw [e, hbit, Bool.false_or] at this
        have := this.symm
        rw [decide_eq_false_iff_not] at this
        omega
      have hcw := cnt_with hlt hbit
      have hck : cnt k (withM m (k : Int)) = cnt k m := by rw [hcw, if_neg (by omega)]; rfl
      have hcl : cnt k m ≤ ks.length := by rw [hl]; exact cnt_mono m (by omega)
      simp only [eqI_d, br_if]
      rw [if_neg hne, hck, slices_Insertapi_Ref_api_Ref.eq]
      have hg : insG (.int .i64) ks ((cnt k m : Nat) : Int) [r] = true := by
        unfold insG
        exact decide_eq_true ⟨by omega, by rw [Int.toNat_natCast]; exact hcl, by show 0 < 1; omega, by show ks.length + 1 ≤ _; omega⟩
      rw [hg, br_t, bnd_some]
      have el : insL (.int .i64) ks ((cnt k m : Nat) : Int) [r] = ks.take (cnt k m) ++ [r] ++ ks.drop (cnt k m) := by unfold insL; rw [Int.toNat_natCast]
      rw [el]
      have hp : (ks.take (cnt k m)).length = cnt k m := by rw [List.length_take]; omega
      refine ⟨withM m (k : Int), ks.take (cnt k m) ++ [r] ++ ks.drop (cnt k m), ⟨hw, ?_, fun x hx => ?_, h.sz0, h.bi0⟩, rfl, by rw [if_neg hr], fun j hj => ?_⟩
      · rw [hcw, if_pos hlt, List.length_append, List.length_append, hp, List.length_drop]
        show _ + 1 + _ = _
        omega
      · rcases List.mem_append.1 hx with hx | hx
        · rcases List.mem_append.1 hx with hx | hx
          · exact h.nz x (List.mem_of_mem_take hx)
          · rw [List.mem_singleton.1 hx]; exact hr
        · exact h.nz x (List.mem_of_mem_drop hx)
      · unfold chAt
        rw [withM_bit, hcw j]
        by_cases q : (j : Int) = k
        · have : j = k := by omega
          subst this
          rw [hbit, decide_eq_true (show 0 ≤ (j : Int) ∧ (j : Int) < 32 ∧ (j : Int) = j from ⟨by omega, by omega, rfl⟩), Bool.false_or, if_pos rfl, if_pos (show (j : Int) = j ∧ r ≠ 0 from ⟨rfl, hr⟩), if_neg (show ¬ j < j by omega), Nat.add_zero, List.append_assoc, getD_app, if_neg (by omega), hp, Nat.sub_self]
          rfl
        · rw [if_neg (show ¬ ((j : Int) = k ∧ r ≠ 0) from fun z => q z.1), decide_eq_false (by omega), Bool.or_false]
          by_cases hbj : m.testBit j = true
          · rw [if_pos hbj, if_pos hbj]
            by_cases g : k < j
            · have := cnt_mono m (show k ≤ j by omega)
              rw [if_pos g, getD_app, if_neg (by rw [List.length_append, hp]; show ¬ _ < _ + 1; omega), getD_drop, List.length_append, hp]
              congr 1
              show cnt k m + (cnt j m + 1 - (cnt k m + 1)) = cnt j m
              omega
            · have := cnt_less (show j < k by omega) hbj
              rw [if_neg g, Nat.add_zero, List.append_assoc, getD_app, if_pos (by omega), getD_take this]
          · rw [if_neg hbj, if_neg hbj]
  · have hin : hasM (withM m i) i = false := by
      unfold hasM
      rw [decide_eq_false hi, Bool.false_and]
    have hws : withM m i = m := by unfold withM; rw [if_neg hi]
    rw [hin, show notB false = true from rfl, br_t]
    exact ⟨m, ks, h, rfl, by rw [if_neg hr, hws], fun j hj => by rw [if_neg (by omega)]⟩
theorem without_spec {n : NodeV} {m : Nat} {ks : List Int} {sz bi : Int} (h : okB m ks sz bi) (hb : branch_branch n = some ((2, (ByteArray.empty, (ByteArray.empty, ((m : Int), ((), (0, ((), (sz, (bi, ()))))))))), (ks, ([], ())))) (i : Int) :
    ∃ m' ks', okB m' ks' sz bi ∧ branch_Without n i = some (bN m' ks' sz bi) ∧ ∀ j, j < 32 → chAt m' ks' j = if (j : Int) = i then 0 else chAt m ks j := by
  have hl := h.len
  have hm := h.lt
  have hc := cnt_le 32 m
  rw [branch_Without.eq, hb, bnd_some]
  dsimp only
  rw [has_m m hm i, bnd_some, place_m m hm i, bnd_some, without_m m hm i]
  by_cases hi : 0 ≤ i ∧ i < 32
  · have hii : i = ((i.toNat : Nat) : Int) := by omega
    have hlt : i.toNat < 32 := by omega
    generalize i.toNat = k at hii hlt
    subst hii
    rw [show cl (k : Int) = k by unfold cl; omega]
    have hh : hasM m (k : Int) = m.testBit k := by unfold hasM; rw [decide_eq_true hi, Bool.true_and, Int.toNat_natCast]
    rw [hh]
    cases hbit : m.testBit k with
    | false =>
      rw [show notB false = true from rfl, br_t]
      refine ⟨m, ks, h, rfl, fun j hj => ?_⟩
      by_cases q : (j : Int) = k
      · have : j = k := by omega
        subst this
        rw [if_pos rfl]
        unfold chAt
        rw [hbit, if_neg (by simp)]
      · rw [if_neg q]
    | true =>
      have hck := cnt_less hlt hbit
      have hcw := cnt_without hm hlt hbit
      have h32 := hcw 32
      rw [if_pos hlt] at h32
      rw [show notB true = false from rfl, br_f, slices_Deleteapi_Ref_api_Ref.eq, add1 _ (by omega)]
      have hg : delG (.int .i64) ks ((cnt k m : Nat) : Int) ((cnt k m + 1 : Nat) : Int) = true := by
        unfold delG
        exact decide_eq_true ⟨by omega, by omega, by rw [Int.toNat_natCast]; omega⟩
      rw [hg, br_t, bnd_some, bnd_some]
      have el : delL (.int .i64) ks ((cnt k m : Nat) : Int) ((cnt k m + 1 : Nat) : Int) = ks.take (cnt k m) ++ ks.drop (cnt k m + 1) := by unfold delL; rw [Int.toNat_natCast, Int.toNat_natCast]
      rw [el]
      have hp : (ks.take (cnt k m)).length = cnt k m := by rw [List.length_take]; omega
      refine ⟨withoutM m (k : Int), ks.take (cnt k m) ++ ks.drop (cnt k m + 1), ⟨withoutM_lt hm _, ?_, fun x hx => ?_, h.sz0, h.bi0⟩, rfl, fun j hj => ?_⟩
      · rw [List.length_append, hp, List.length_drop]
        omega
      · rcases List.mem_append.1 hx with hx | hx
        · exact h.nz x (List.mem_of_mem_take hx)
        · exact h.nz x (List.mem_of_mem_drop hx)
      · unfold chAt
        rw [withoutM_bit hm]
        have hj' := hcw j
        by_cases q : (j : Int) = k
        · have : j = k := by omega
          subst this
          rw [if_pos rfl, decide_eq_true (by omega), Bool.not_true, Bool.and_false, if_neg (by simp)]
        · rw [if_neg q, decide_eq_false (by omega), Bool.not_false, Bool.and_true]
          by_cases hbj : m.testBit j = true
          · rw [if_pos hbj, if_pos hbj]
            by_cases g : k < j
            · have := cnt_less g hbit
              rw [if_pos g] at hj'
              rw [getD_app, if_neg (by omega), getD_drop, hp]
              congr 1
              omega
            · have := cnt_less (show j < k by omega) hbj
              rw [if_neg g] at hj'
              rw [getD_app, if_pos (by omega), getD_take (by omega)]
              congr 1
              omega
          · rw [if_neg hbj, if_neg hbj]
  · have hh : hasM m i = false := by unfold hasM; rw [decide_eq_false hi, Bool.false_and]
    rw [hh, show notB false = true from rfl, br_t]
    exact ⟨m, ks, h, rfl, fun j hj => by rw [if_neg (by omega)]⟩
end Go.Proofs.Ytobfcaejpcpboaa.AU
