/- Texts of one proof, laid together: how the interpreter's words stand for the program's code and what the functions do. No conditions but those that each lemma names. -/
import Derived.Test.YtimgaglpempfeaaGreatM4
set_option linter.unusedSimpArgs false
set_option linter.unusedVariables false
set_option linter.unusedSimpArgs false
namespace Go.Proofs.YtimgaglpempfeaaGreat.AB
open Go.Abs
/-- A branch, as a node. -/
def bN (m : Nat) (ks : List Int) (sz bi : Int) : NodeV := (2, (ByteArray.empty, (ByteArray.empty, ((m : Int), (ks, (0, ([], (sz, (bi, ())))))))))
structure okB (m : Nat) (ks : List Int) (sz bi : Int) : Prop where
  lt : m < 4294967296
  len : ks.length = cnt 32 m
  nz : ∀ k ∈ ks, k ≠ 0
  sz0 : 0 ≤ sz
  bi0 : 0 ≤ bi
/-- A branch's child at a chunk. -/
def chAt (m : Nat) (ks : List Int) (j : Nat) : Int := if m.testBit j = true then ks.getD (cnt j m) 0 else 0
theorem cnt_mono (m : Nat) {i j : Nat} (h : i ≤ j) : cnt i m ≤ cnt j m := by
  induction h with
  | refl => exact Nat.le_refl _
  | step _ ih => rw [cnt_succ]; omega
theorem cnt_less {m i j : Nat} (h : i < j) (hb : m.testBit i = true) : cnt i m < cnt j m := by
  have := cnt_mono m (show i + 1 ≤ j by omega)
  rw [cnt_succ, if_pos hb] at this
  omega
theorem cnt_inj {m i j : Nat} (hi : m.testBit i = true) (hj : m.testBit j = true) (h : cnt i m = cnt j m) : i = j := by
  rcases Nat.lt_trichotomy i j with q | q | q
  · have := cnt_less q hi; omega
  · exact q
  · have := cnt_less q hj; omega
theorem kids_of (m : Nat) (ks : List Int) : ∀ n, cnt n m ≤ ks.length → ((List.range n).filter fun j => m.testBit j).map (fun j => ks.getD (cnt j m) 0) = ks.take (cnt n m)
  | 0, _ => by simp [cnt]
  | n + 1, h => by
    have hc := cnt_succ n m
    have hm := cnt_mono m (show n ≤ n + 1 by omega)
    rw [List.range_succ, List.filter_append, List.map_append, kids_of m ks n (by omega)]
    by_cases b : m.testBit n = true
    · rw [if_pos b] at hc
      rw [hc, List.filter_cons_of_pos (by exact b), List.filter_nil, List.map_cons, List.map_nil, List.take_succ_eq_append_getElem (by omega)]
      rw [List.getD_eq_getElem?_getD, List.getElem?_eq_getElem (show cnt n m < ks.length by omega)]
      rfl
    · rw [if_neg b] at hc
      rw [hc, List.filter_cons_of_neg (by exact b), List.filter_nil, List.map_nil, List.append_nil, Nat.add_zero]
theorem okB.at_nz {m : Nat} {ks : List Int} {sz bi : Int} (h : okB m ks sz bi) {j : Nat} (hj : j < 32) (hb : m.testBit j = true) : ks.getD (cnt j m) 0 ≠ 0 := by
  have := cnt_less hj hb
  have hl := h.len
  rw [List.getD_eq_getElem?_getD, List.getElem?_eq_getElem (show cnt j m < ks.length by omega)]
  exact h.nz _ (List.getElem_mem _)
theorem okB.ch_nz {m : Nat} {ks : List Int} {sz bi : Int} (h : okB m ks sz bi) {j : Nat} (hj : j < 32) : chAt m ks j ≠ 0 ↔ m.testBit j = true := by
  unfold chAt
  by_cases hb : m.testBit j = true
  · rw [if_pos hb]; exact ⟨fun _ => hb, fun _ => h.at_nz hj hb⟩
  · rw [if_neg hb]; exact ⟨fun q => absurd rfl q, fun q => absurd q hb⟩
theorem makeL_all {m : Nat} (hm : m < 4294967296) : makeL (allI m) 32 = m := by
  apply Nat.eq_of_testBit_eq
  intro j
  rw [makeL_bit]
  by_cases q : j < 32
  · rw [decide_eq_true q, Bool.true_and]
    have : ((j : Int) ∈ allI m) ↔ m.testBit j = true := by
      rw [allI_mem]
      exact ⟨fun ⟨k, h1, h2, h3⟩ => by rw [show j = k by omega]; exact h2, fun h => ⟨j, q, h, rfl⟩⟩
    cases hb : m.testBit j with
    | true => exact decide_eq_true (this.2 hb)
    | false => exact decide_eq_false (fun z => by rw [this.1 z] at hb; cases hb)
  · rw [high_bit hm q]
    simp [q]
theorem okB.node {m : Nat} {ks : List Int} {sz bi : Int} (h : okB m ks sz bi) : okN (bN m ks sz bi) := by
  have hl := h.len
  have hc := cnt_le 32 m
  have hm := h.lt
  exact ⟨by show (0 : Nat) ≤ 40; omega, by show (0 : Nat) ≤ 40; omega, by show (0 : Int) ≤ (m : Int); omega, by show (m : Int) < 4294967296; omega, by show ks.length ≤ 1000000; omega, by show (0 : Nat) ≤ 1000000; omega, fun p hp => by cases hp⟩
theorem okB.may {m : Nat} {ks : List Int} {sz bi : Int} (h : okB m ks sz bi) : mayS (bN m ks sz bi) = 0 := by
  unfold mayS
  have hl : longN (bN m ks sz bi) = false := rfl
  rw [if_neg (by show ¬ (2 : Int) < 1; omega), if_neg (by show ¬ (6 : Int) < 2; omega), hl, if_neg (by simp), if_pos]
  refine ⟨h.bi0, ?_⟩
  rw [if_neg (by show ¬ ((2 : Int) = 1 ∨ (2 : Int) = 6); omega), if_pos (by show (2 : Int) = 2; rfl)]
  refine ⟨fun q => h.nz 0 q rfl, ?_, h.sz0, fun _ => ⟨rfl, rfl⟩, fun q => (by cases q), fun _ => rfl, fun _ => rfl⟩
  show ks.length = (allI (m : Int).toNat).length
  rw [Int.toNat_natCast, allI_len]
  exact h.len
theorem okB.empty : okB 0 [] 0 0 := ⟨by omega, by decide, fun k hk => (by cases hk), Int.le_refl _, Int.le_refl _⟩
/-- A node that is a branch that may be. -/
theorem branch_form {n : NodeV} (h : okN n) (h1 : n.1 = 2) (h2 : mayS n = 0) : ∃ m ks sz bi, okB m ks sz bi ∧ n = bN m ks sz bi := by
  have hm0 := h.map0
  have hm1 := h.map1
  unfold mayS at h2
  rw [if_neg (by omega), if_neg (by omega)] at h2
  split at h2
  · omega
  split at h2
  case isFalse => omega
  rename_i hf
  obtain ⟨k, key, val, m, ks, mn, L, sz, bi, u⟩ := n
  unfold formP bareP at hf
  dsimp only at h1 hf hm0 hm1
  obtain ⟨f1, f2⟩ := hf
  rw [if_neg (by omega), if_pos h1] at f2
  obtain ⟨g1, g2, g3, g4, _, g5, g6⟩ := f2
  obtain ⟨g4, g7⟩ := g4 rfl
  have g5 := g5 rfl
  have g6 := g6 rfl
  subst h1; subst g4; subst g7; subst g5; subst g6
  refine ⟨m.toNat, ks, sz, bi, ⟨by omega, by rw [g2, allI_len], fun k hk e => g1 (e ▸ hk), g3, f1⟩, ?_⟩
  unfold bN
  rw [Int.toNat_of_nonneg hm0]
/-! ### The code's branch, the document's -/
theorem of_l0 (m : Nat) (ks : List Int) (sz bi : Int) (h : okB m ks sz bi) (x3 : List Int × Int × Int × Unit) (d : Nat) : ∀ (i : Nat), i ≤ (allI m).length → (allI m).length - i = d →
    ref19_Of.l0 (allI m) i (bN m ks sz bi) x3 ((List.range 32).map (fun j => if m.testBit j = true ∧ cnt j m < i then ks.getD (cnt j m) 0 else 0), (0, (0, ()))) = some ((List.range 32).map (chAt m ks), (sz, (bi, ()))) := by
  have hlen := allI_len m
  have hkl := h.len
  have hc := cnt_le 32 m
  induction d with
  | zero =>
    intro i hi hd
    rw [ref19_Of.l0.eq]
    simp only [ltI_d, ofN_d, lenL_d, br_if]
    rw [if_neg (by omega), both_self]
    have e : (List.range 32).map (fun j => if m.testBit j = true ∧ cnt j m < i then ks.getD (cnt j m) 0 else 0) = (List.range 32).map (chAt m ks) := by
      refine List.map_congr_left (fun j hj => ?_)
      have hj := List.mem_range.1 hj
      unfold chAt
      by_cases hb : m.testBit j = true
      · have := cnt_less hj hb
        rw [if_pos hb, if_pos ⟨hb, by omega⟩]
      · rw [if_neg hb, if_neg (fun q => hb q.1)]
    rw [e]
    rfl
  | succ d ih =>
    intro i hi hd
    have hil : i < (allI m).length := by omega
    obtain ⟨j, j1, j2, j3⟩ := allI_mem.1 (List.getElem_mem hil)
    have hj : cnt j m = i := by
      have p1 := place_at (allI_sorted m) i hil
      have e : rd (allI m) (i : Int) = (allI m)[i] := by rw [rd_nat, List.getD_eq_getElem?_getD, List.getElem?_eq_getElem hil]; rfl
      rw [e, j3, ← place_list] at p1
      rw [show cl (j : Int) = j by unfold cl; omega] at p1
      exact p1
    rw [ref19_Of.l0.eq]
    have ix : ixL (.int .i64) (allI m) (i : Int) = (j : Int) := (ixR (allI m) i hil).trans j3
    have ik : ixL (.int .i64) ks (i : Int) = ks[i] := ixR ks i (by omega)
    rw [ix]
    have hks : (bN m ks sz bi).2.2.2.2.1 = ks := rfl
    rw [hks, ik]
    simp only [ltI_d, leI_d, ofN_d, lenL_d, andB_d, br_if]
    rw [if_pos (by omega), if_pos (by omega), if_pos (by omega), if_pos (by omega), add1 i (by omega)]
    have e : setL (.int .i64) ((List.range 32).map (fun j => if m.testBit j = true ∧ cnt j m < i then ks.getD (cnt j m) 0 else 0)) (j : Int) ks[i] = (List.range 32).map (fun j => if m.testBit j = true ∧ cnt j m < i + 1 then ks.getD (cnt j m) 0 else 0) := by
      unfold setL
      rw [Int.toNat_natCast]
      apply List.ext_getElem
      · simp
      intro a h1 h2
      rw [List.getElem_set]
      have ha : a < 32 := by simpa using h2
      by_cases q : j = a
      · subst q
        rw [if_pos rfl, List.getElem_map, List.getElem_range, if_pos ⟨j2, by omega⟩, hj, List.getD_eq_getElem?_getD, List.getElem?_eq_getElem (show i < ks.length by omega)]
        rfl
      · rw [if_neg q, List.getElem_map, List.getElem_map, List.getElem_range]
        by_cases hb : m.testBit a = true
        · have hne : cnt a m ≠ i := fun e => q (cnt_inj j2 hb (by omega))
          by_cases g : cnt a m < i
          · rw [if_pos ⟨hb, g⟩, if_pos ⟨hb, by omega⟩]
          · rw [if_neg (fun z => g z.2), if_neg (fun z => by have := z.2; omega)]
        · rw [if_neg (fun z => hb z.1), if_neg (fun z => hb z.1)]
    rw [e]
    exact ih (i + 1) (by omega) (by omega)
theorem branchO_0 : node_Branch_o 0 [] 0 = some ((2, (ByteArray.empty, (ByteArray.empty, (0, ((), (0, ((), (0, (0, ()))))))))), ([], ([], ()))) := by
  rw [node_Branch_o.eq, cloneR_any _ (by show (0 : Nat) ≤ _; omega), bnd_some]
theorem branch_spec (n : NodeV) (h : okN n) : ∃ m ks sz bi, okB m ks sz bi ∧ branch_branch n = some ((2, (ByteArray.empty, (ByteArray.empty, ((m : Int), ((), (0, ((), (sz, (bi, ()))))))))), (ks, ([], ()))) ∧
    ref19_Of n = some ((List.range 32).map (chAt m ks), (sz, (bi, ()))) ∧ ((n.1 = 2 ∧ mayS n = 0) → n = bN m ks sz bi) := by
  have zero : (List.range 32).map (chAt 0 []) = List.replicate 32 (0 : Int) := by decide
  by_cases h1 : n.1 = 2
  · by_cases h2 : mayS n = 0
    · obtain ⟨m, ks, sz, bi, hb, rfl⟩ := branch_form h h1 h2
      refine ⟨m, ks, sz, bi, hb, ?_, ?_, fun _ => rfl⟩
      · rw [branch_branch.eq, may_any _ h, bnd_some, copy_any _ h, bnd_some, h2]
        simp only [eqI_d, notB_d, br_if]
        rw [if_neg (fun q => q rfl), if_neg (fun q => q (by first | exact rfl | exact True.intro))]
        rfl
      · rw [ref19_Of.eq, refmay_any _ h, bnd_some, h2]
        have hm : (bN m ks sz bi).2.2.2.1 = ((m : Nat) : Int) := rfl
        simp only [eqI_d, notB_d, br_if]
        rw [if_neg (fun q => q rfl), if_neg (fun q => q (by first | exact rfl | exact True.intro)), hm, refall_any m hb.lt, bnd_some]
        have := of_l0 m ks sz bi hb (List.replicate 32 (0 : Int), (0, (0, ()))) (allI m).length 0 (by omega) (by omega)
        have e : (List.range 32).map (fun j => if m.testBit j = true ∧ cnt j m < 0 then ks.getD (cnt j m) 0 else 0) = List.replicate 32 (0 : Int) := by
          have : (fun j => if m.testBit j = true ∧ cnt j m < 0 then ks.getD (cnt j m) 0 else (0 : Int)) = fun _ => 0 := by
            funext j
            rw [if_neg (fun q => by have := q.2; omega)]
          rw [this]
          rfl
        rw [e] at this
        exact this
    · refine ⟨0, [], 0, 0, .empty, ?_, ?_, fun q => absurd q.2 h2⟩
      · rw [branch_branch.eq, may_any _ h, bnd_some, branchO_0, bnd_some]
        simp only [eqI_d, notB_d, br_if]
        rw [if_neg (fun q => q h1), if_pos h2]
        rfl
      · rw [ref19_Of.eq, refmay_any _ h, bnd_some, zero]
        simp only [eqI_d, notB_d, br_if]
        rw [if_neg (fun q => q h1), if_pos h2]
  · refine ⟨0, [], 0, 0, .empty, ?_, ?_, fun q => absurd q.1 h1⟩
    · rw [branch_branch.eq, branchO_0, bnd_some]
      simp only [eqI_d, notB_d, br_if]
      rw [if_pos h1]
      rfl
    · rw [ref19_Of.eq, zero]
      simp only [eqI_d, notB_d, br_if]
      rw [if_pos h1]
theorem branch_self {m : Nat} {ks : List Int} {sz bi : Int} (h : okB m ks sz bi) : branch_branch (bN m ks sz bi) = some ((2, (ByteArray.empty, (ByteArray.empty, ((m : Int), ((), (0, ((), (sz, (bi, ()))))))))), (ks, ([], ()))) := by
  rw [branch_branch.eq, may_any _ h.node, bnd_some, copy_any _ h.node, bnd_some, h.may]
  simp only [eqI_d, notB_d, br_if]
  rw [if_neg (fun q => q rfl), if_neg (fun q => q (by first | exact rfl | exact True.intro))]
  rfl
theorem node_l0 (At : List Int) (sz bi : Int) (hA : At.length = 32) (d : Nat) : ∀ (j : Nat) (z x5 x6), j ≤ 32 → 32 - j = d →
    ref19_Branch_Node.l0 j (At, (sz, (bi, ()))) z (((List.range j).filter fun a => decide (At.getD a 0 ≠ 0)).map fun a : Nat => (a : Int)) (((List.range j).filter fun a => decide (At.getD a 0 ≠ 0)).map fun a => At.getD a 0) x5 x6 =
    some (2, (ByteArray.empty, (ByteArray.empty, ((makeL (((List.range 32).filter fun a => decide (At.getD a 0 ≠ 0)).map fun a : Nat => (a : Int)) 32 : Int), (((List.range 32).filter fun a => decide (At.getD a 0 ≠ 0)).map (fun a => At.getD a 0), (0, ([], (sz, (bi, ()))))))))) := by
  have flen : ∀ j, j ≤ 32 → ((List.range j).filter fun a => decide (At.getD a 0 ≠ 0)).length ≤ 32 := fun j hj => by
    have := List.length_filter_le (fun a => decide (At.getD a 0 ≠ 0)) (List.range j)
    rw [List.length_range] at this
    omega
  induction d with
  | zero =>
    intro j z x5 x6 hj hd
    rw [ref19_Branch_Node.l0.eq]
    simp only [ltI_d, br_if]
    rw [if_neg (by omega), show j = 32 by omega, make_m _ (by rw [List.length_map]; have := flen 32 (by omega); omega), bnd_some]
  | succ d ih =>
    intro j z x5 x6 hj hd
    have hjA : j < At.length := by omega
    have ix : ixL (.int .i64) At (j : Int) = At.getD j 0 := by
      rw [List.getD_eq_getElem?_getD, List.getElem?_eq_getElem hjA]
      exact ixR At j hjA
    rw [ref19_Branch_Node.l0.eq, ix]
    have fl := flen j (by omega)
    have l1 : ((((List.range j).filter fun a => decide (At.getD a 0 ≠ 0)).map fun a : Nat => (a : Int)) ++ [(j : Int)]).length ≤ 33 := by
      rw [List.length_append, List.length_map]; show _ + 1 ≤ 33; omega
    have l2 : ((((List.range j).filter fun a => decide (At.getD a 0 ≠ 0)).map fun a => At.getD a 0) ++ [At.getD j 0]).length ≤ 33 := by
      rw [List.length_append, List.length_map]; show _ + 1 ≤ 33; omega
    simp only [ltI_d, leI_d, ofN_d, lenL_d, andB_d, eqI_d, notB_d, br_if, fitL_d, appL_d]
    rw [if_pos (by omega), if_pos (by omega), add1 j (by omega)]
    have ih := fun z x5 x6 => ih (j + 1) z x5 x6 (by omega) (by omega)
    rw [List.range_succ, List.filter_append, List.map_append, List.map_append] at ih
    by_cases hz : At.getD j 0 = 0
    · rw [if_neg (fun q => q hz)]
      have e : [j].filter (fun a => decide (At.getD a 0 ≠ 0)) = [] := by
        rw [List.filter_cons_of_neg (by rw [decide_eq_true_iff]; exact fun q => q hz)]; rfl
      rw [e] at ih
      simp only [List.map_nil, List.append_nil] at ih
      exact ih _ _ _
    · rw [if_pos hz, if_pos (by omega), if_pos (by omega), if_pos (by omega)]
      have e : [j].filter (fun a => decide (At.getD a 0 ≠ 0)) = [j] := by
        rw [List.filter_cons_of_pos (by rw [decide_eq_true_iff]; exact hz)]; rfl
      rw [e] at ih
      exact ih _ _ _
theorem node_any {m : Nat} {ks : List Int} {sz bi : Int} (h : okB m ks sz bi) (At : List Int) (hA : At.length = 32) (hat : ∀ j, j < 32 → At.getD j 0 = chAt m ks j) : ref19_Branch_Node (At, (sz, (bi, ()))) = some (bN m ks sz bi) := by
  rw [ref19_Branch_Node.eq]
  have := fun z => node_l0 At sz bi hA 32 0 z [] [] (by omega) (by omega)
  rw [show ((0 : Nat) : Int) = 0 from rfl] at this
  simp only [List.range_zero, List.filter_nil, List.map_nil] at this
  rw [this]
  have ef : (List.range 32).filter (fun a => decide (At.getD a 0 ≠ 0)) = (List.range 32).filter fun j => m.testBit j := by
    apply List.filter_congr
    intro j hj
    have hj := List.mem_range.1 hj
    rw [hat j hj, Bool.eq_iff_iff, decide_eq_true_iff]
    exact h.ch_nz hj
  have ek : ((List.range 32).filter fun j => m.testBit j).map (fun a => At.getD a 0) = ks := by
    have := kids_of m ks 32 (by rw [h.len]; exact Nat.le_refl _)
    rw [← h.len, List.take_length] at this
    rw [← this]
    refine List.map_congr_left (fun j hj => ?_)
    obtain ⟨h1, h2⟩ := List.mem_filter.1 hj
    rw [hat j (List.mem_range.1 h1)]
    unfold chAt
    rw [if_pos h2]
  rw [ef, ek]
  have em : makeL (((List.range 32).filter fun j => m.testBit j).map fun a : Nat => (a : Int)) 32 = m := makeL_all h.lt
  rw [em]
  rfl
/-! ### Children -/
/-- The child at a chunk, whatever number is named. -/
def chI (m : Nat) (ks : List Int) (i : Int) : Int := if 0 ≤ i ∧ i < 32 then chAt m ks i.toNat else 0
theorem at_len (m : Nat) (ks : List Int) : ((List.range 32).map (chAt m ks)).length = 32 := by simp
theorem at_get (m : Nat) (ks : List Int) (j : Nat) (hj : j < 32) : ((List.range 32).map (chAt m ks)).getD j 0 = chAt m ks j := by
  rw [List.getD_eq_getElem?_getD, List.getElem?_eq_getElem (by simpa using hj), List.getElem_map, List.getElem_range]
  rfl
theorem refput_any (At : List Int) (hA : At.length = 32) (sz bi i r : Int) : ∃ At', ref19_Branch_Put (At, (sz, (bi, ()))) i r = some (At', (sz, (bi, ()))) ∧ At'.length = 32 ∧ ∀ j, j < 32 → At'.getD j 0 = if (j : Int) = i then r else At.getD j 0 := by
  rw [ref19_Branch_Put.eq]
  simp only [ltI_d, leI_d, ofN_d, andB_d, br_if]
  by_cases h1 : 0 ≤ i
  · rw [if_pos h1]
    by_cases h2 : i < 32
    · rw [if_pos h2, if_pos (by omega)]
      refine ⟨_, rfl, ?_, ?_⟩
      · show (List.set At i.toNat r).length = 32
        rw [List.length_set]; exact hA
      · intro j hj
        show (List.set At i.toNat r).getD j 0 = _
        rw [List.getD_eq_getElem?_getD, List.getElem?_set]
        by_cases q : (j : Int) = i
        · rw [if_pos q, if_pos (by omega), if_pos (by omega)]; rfl
        · rw [if_neg q, if_neg (by omega), ← List.getD_eq_getElem?_getD]
    · rw [if_neg h2]
      exact ⟨At, rfl, hA, fun j hj => by rw [if_neg (by omega)]⟩
  · rw [if_neg h1]
    exact ⟨At, rfl, hA, fun j hj => by rw [if_neg (by omega)]⟩
/-! ### With a child, without -/
theorem cnt_with {m : Nat} {i : Nat} (hi : i < 32) (hb : m.testBit i = false) : ∀ n, cnt n (withM m i) = cnt n m + if i < n then 1 else 0
  | 0 => by simp [cnt]
  | n + 1 => by
    rw [cnt_succ, cnt_succ, cnt_with hi hb n, withM_bit]
    by_cases q : i = n
    · subst q
      rw [hb, if_neg (by omega), if_pos (by simp; omega), if_neg (by simp), if_pos (by omega)]
    · have e : decide (0 ≤ (i : Int) ∧ (i : Int) < 32 ∧ (i : Int) = n) = false := decide_eq_false (by omega)
      rw [e, Bool.or_false]
      by_cases g : i < n
      · rw [if_pos g, if_pos (show i < n + 1 by omega)]; omega
      · rw [if_neg g, if_neg (show ¬ i < n + 1 by omega)]; omega
theorem cnt_without {m : Nat} (hm : m < 4294967296) {i : Nat} (hi : i < 32) (hb : m.testBit i = true) : ∀ n, cnt n m = cnt n (withoutM m i) + if i < n then 1 else 0
  | 0 => by simp [cnt]
  | n + 1 => by
    rw [cnt_succ, cnt_succ, cnt_without hm hi hb n, withoutM_bit hm]
    by_cases q : i = n
    · subst q
      rw [hb, if_neg (by omega), if_pos rfl, if_neg (by simp; omega), if_pos (by omega)]
    · have e : decide (0 ≤ (i : Int) ∧ (i : Int) < 32 ∧ (i : Int) = n) = false := decide_eq_false (by omega)
      rw [e, Bool.not_false, Bool.and_true]
      by_cases g : i < n
      · rw [if_pos g, if_pos (show i < n + 1 by omega)]; omega
      · rw [if_neg g, if_neg (show ¬ i < n + 1 by omega)]; omega
theorem getD_app {l r : List Int} {j : Nat} : (l ++ r).getD j 0 = if j < l.length then l.getD j 0 else r.getD (j - l.length) 0 := by
  by_cases h : j < l.length
  · rw [if_pos h, List.getD_eq_getElem?_getD, List.getD_eq_getElem?_getD, List.getElem?_append_left h]
  · rw [if_neg h, List.getD_eq_getElem?_getD, List.getD_eq_getElem?_getD, List.getElem?_append_right (by omega)]
theorem getD_take {l : List Int} {p j : Nat} (h : j < p) : (l.take p).getD j 0 = l.getD j 0 := by
  rw [List.getD_eq_getElem?_getD, List.getD_eq_getElem?_getD, List.getElem?_take, if_pos h]
theorem getD_drop {l : List Int} {p j : Nat} : (l.drop p).getD j 0 = l.getD (p + j) 0 := by
  rw [List.getD_eq_getElem?_getD, List.getD_eq_getElem?_getD, List.getElem?_drop]
theorem with_spec {n : NodeV} {m : Nat} {ks : List Int} {sz bi : Int} (h : okB m ks sz bi) (hb : branch_branch n = some ((2, (ByteArray.empty, (ByteArray.empty, ((m : Int), ((), (0, ((), (sz, (bi, ()))))))))), (ks, ([], ())))) (i r : Int) :
    ∃ m' ks', okB m' ks' sz bi ∧ branch_With n i r = some (bN m' ks' sz bi) ∧ m' = (if r = 0 then m else withM m i) ∧ ∀ j, j < 32 → chAt m' ks' j = if (j : Int) = i ∧ r ≠ 0 then r else chAt m ks j := by
  have hl := h.len
  have hm := h.lt
  have hw := withM_lt hm i
  have hc := cnt_le 32 m
  rw [branch_With.eq, hb, bnd_some]
  dsimp only
  rw [with_m m hm i, bnd_some, place_m _ hw i, bnd_some, has_m _ hw i, bnd_some]
  simp only [eqI_d, br_if]
  by_cases hr : r = 0
  · rw [if_pos hr, branch_With.j0.eq, br_t]
    exact ⟨m, ks, h, rfl, by rw [if_pos hr], fun j hj => by rw [if_neg (fun q => q.2 hr)]⟩
  rw [if_neg hr, branch_With.j0.eq]
  dsimp only
  by_cases hi : 0 ≤ i ∧ i < 32
  · have hin : hasM (withM m i) i = true := by
      unfold hasM
      rw [decide_eq_true hi, Bool.true_and, withM_bit, decide_eq_true (by omega), Bool.or_true]
    rw [hin, show notB true = false from rfl, br_f]
    have hii : i = ((i.toNat : Nat) : Int) := by omega
    have hlt : i.toNat < 32 := by omega
    generalize i.toNat = k at hii hlt
    subst hii
    rw [show cl (k : Int) = k by unfold cl; omega]
    cases hbit : m.testBit k with
    | true =>
      have hsame : withM m (k : Int) = m := by
        apply Nat.eq_of_testBit_eq
        intro j
        rw [withM_bit]
        by_cases q : k = j
        · subst q; rw [hbit, Bool.true_or]
        · rw [decide_eq_false (by omega), Bool.or_false]
      have hck := cnt_less hlt hbit
      rw [hsame]
      simp only [ltI_d, leI_d, eqI_d, ofN_d, lenL_d, andB_d, br_if]
      rw [if_pos True.intro, if_pos (by omega)]
      have es : setL (.int .i64) ks ((cnt k m : Nat) : Int) r = ks.set (cnt k m) r := by unfold setL; rw [Int.toNat_natCast]
      rw [es]
      refine ⟨m, ks.set (cnt k m) r, ⟨hm, by rw [List.length_set]; exact hl, fun x hx => ?_, h.sz0, h.bi0⟩, rfl, by rw [if_neg hr], fun j hj => ?_⟩
      · rcases List.mem_or_eq_of_mem_set hx with hx | rfl
        · exact h.nz x hx
        · exact hr
      · unfold chAt
        by_cases q : (j : Int) = k
        · have : j = k := by omega
          subst this
          rw [if_pos hbit, if_pos ⟨rfl, hr⟩, List.getD_eq_getElem?_getD, List.getElem?_set, if_pos rfl, if_pos (by omega)]
          rfl
        · rw [if_neg (show ¬ ((j : Int) = k ∧ r ≠ 0) from fun z => q z.1)]
          by_cases hbj : m.testBit j = true
          · rw [if_pos hbj, if_pos hbj, List.getD_eq_getElem?_getD, List.getElem?_set, if_neg (fun e => q (by rw [cnt_inj hbit hbj e])), ← List.getD_eq_getElem?_getD]
          · rw [if_neg hbj, if_neg hbj]
    | false =>
      have hne : ¬ ((withM m (k : Int) : Nat) : Int) = (m : Int) := by
        intro e
        have e : withM m (k : Int) = m := by omega
        have := withM_bit m (k : Int) k
        rw [e, hbit, Bool.false_or] at this
        have := this.symm
        rw [decide_eq_false_iff_not] at this
        omega
      have hcw := cnt_with hlt hbit
      have hck : cnt k (withM m (k : Int)) = cnt k m := by rw [hcw, if_neg (by omega)]; rfl
      have hcl : cnt k m ≤ ks.length := by rw [hl]; exact cnt_mono m (by omega)
      simp only [eqI_d, br_if]
      rw [if_neg hne, hck, slices_Insertapi_Ref_api_Ref.eq]
      have hg : insG (.int .i64) ks ((cnt k m : Nat) : Int) [r] = true := by
        unfold insG
        exact decide_eq_true ⟨by omega, by rw [Int.toNat_natCast]; exact hcl, by show 0 < 1; omega, by show ks.length + 1 ≤ _; omega⟩
      rw [hg, br_t, bnd_some]
      have el : insL (.int .i64) ks ((cnt k m : Nat) : Int) [r] = ks.take (cnt k m) ++ [r] ++ ks.drop (cnt k m) := by unfold insL; rw [Int.toNat_natCast]
      rw [el]
      have hp : (ks.take (cnt k m)).length = cnt k m := by rw [List.length_take]; omega
      refine ⟨withM m (k : Int), ks.take (cnt k m) ++ [r] ++ ks.drop (cnt k m), ⟨hw, ?_, fun x hx => ?_, h.sz0, h.bi0⟩, rfl, by rw [if_neg hr], fun j hj => ?_⟩
      · rw [hcw, if_pos hlt, List.length_append, List.length_append, hp, List.length_drop]
        show _ + 1 + _ = _
        omega
      · rcases List.mem_append.1 hx with hx | hx
        · rcases List.mem_append.1 hx with hx | hx
          · exact h.nz x (List.mem_of_mem_take hx)
          · rw [List.mem_singleton.1 hx]; exact hr
        · exact h.nz x (List.mem_of_mem_drop hx)
      · unfold chAt
        rw [withM_bit, hcw j]
        by_cases q : (j : Int) = k
        · have : j = k := by omega
          subst this
          rw [hbit, decide_eq_true (show 0 ≤ (j : Int) ∧ (j : Int) < 32 ∧ (j : Int) = j from ⟨by omega, by omega, rfl⟩), Bool.false_or, if_pos rfl, if_pos (show (j : Int) = j ∧ r ≠ 0 from ⟨rfl, hr⟩), if_neg (show ¬ j < j by omega), Nat.add_zero, List.append_assoc, getD_app, if_neg (by omega), hp, Nat.sub_self]
          rfl
        · rw [if_neg (show ¬ ((j : Int) = k ∧ r ≠ 0) from fun z => q z.1), decide_eq_false (by omega), Bool.or_false]
          by_cases hbj : m.testBit j = true
          · rw [if_pos hbj, if_pos hbj]
            by_cases g : k < j
            · have := cnt_mono m (show k ≤ j by omega)
              rw [if_pos g, getD_app, if_neg (by rw [List.length_append, hp]; show ¬ _ < _ + 1; omega), getD_drop, List.length_append, hp]
              congr 1
              show cnt k m + (cnt j m + 1 - (cnt k m + 1)) = cnt j m
              omega
            · have := cnt_less (show j < k by omega) hbj
              rw [if_neg g, Nat.add_zero, List.append_assoc, getD_app, if_pos (by omega), getD_take this]
          · rw [if_neg hbj, if_neg hbj]
  · have hin : hasM (withM m i) i = false := by
      unfold hasM
      rw [decide_eq_false hi, Bool.false_and]
    have hws : withM m i = m := by unfold withM; rw [if_neg hi]
    rw [hin, show notB false = true from rfl, br_t]
    exact ⟨m, ks, h, rfl, by rw [if_neg hr, hws], fun j hj => by rw [if_neg (by omega)]⟩
theorem without_spec {n : NodeV} {m : Nat} {ks : List Int} {sz bi : Int} (h : okB m ks sz bi) (hb : branch_branch n = some ((2, (ByteArray.empty, (ByteArray.empty, ((m : Int), ((), (0, ((), (sz, (bi, ()))))))))), (ks, ([], ())))) (i : Int) :
    ∃ m' ks', okB m' ks' sz bi ∧ branch_Without n i = some (bN m' ks' sz bi) ∧ ∀ j, j < 32 → chAt m' ks' j = if (j : Int) = i then 0 else chAt m ks j := by
  have hl := h.len
  have hm := h.lt
  have hc := cnt_le 32 m
  rw [branch_Without.eq, hb, bnd_some]
  dsimp only
  rw [has_m m hm i, bnd_some, place_m m hm i, bnd_some, without_m m hm i]
  by_cases hi : 0 ≤ i ∧ i < 32
  · have hii : i = ((i.toNat : Nat) : Int) := by omega
    have hlt : i.toNat < 32 := by omega
    generalize i.toNat = k at hii hlt
    subst hii
    rw [show cl (k : Int) = k by unfold cl; omega]
    have hh : hasM m (k : Int) = m.testBit k := by unfold hasM; rw [decide_eq_true hi, Bool.true_and, Int.toNat_natCast]
    rw [hh]
    cases hbit : m.testBit k with
    | false =>
      rw [show notB false = true from rfl, br_t]
      refine ⟨m, ks, h, rfl, fun j hj => ?_⟩
      by_cases q : (j : Int) = k
      · have : j = k := by omega
        subst this
        rw [if_pos rfl]
        unfold chAt
        rw [hbit, if_neg (by simp)]
      · rw [if_neg q]
    | true =>
      have hck := cnt_less hlt hbit
      have hcw := cnt_without hm hlt hbit
      have h32 := hcw 32
      rw [if_pos hlt] at h32
      rw [show notB true = false from rfl, br_f, slices_Deleteapi_Ref_api_Ref.eq, add1 _ (by omega)]
      have hg : delG (.int .i64) ks ((cnt k m : Nat) : Int) ((cnt k m + 1 : Nat) : Int) = true := by
        unfold delG
        exact decide_eq_true ⟨by omega, by omega, by rw [Int.toNat_natCast]; omega⟩
      rw [hg, br_t, bnd_some, bnd_some]
      have el : delL (.int .i64) ks ((cnt k m : Nat) : Int) ((cnt k m + 1 : Nat) : Int) = ks.take (cnt k m) ++ ks.drop (cnt k m + 1) := by unfold delL; rw [Int.toNat_natCast, Int.toNat_natCast]
      rw [el]
      have hp : (ks.take (cnt k m)).length = cnt k m := by rw [List.length_take]; omega
      refine ⟨withoutM m (k : Int), ks.take (cnt k m) ++ ks.drop (cnt k m + 1), ⟨withoutM_lt hm _, ?_, fun x hx => ?_, h.sz0, h.bi0⟩, rfl, fun j hj => ?_⟩
      · rw [List.length_append, hp, List.length_drop]
        omega
      · rcases List.mem_append.1 hx with hx | hx
        · exact h.nz x (List.mem_of_mem_take hx)
        · exact h.nz x (List.mem_of_mem_drop hx)
      · unfold chAt
        rw [withoutM_bit hm]
        have hj' := hcw j
        by_cases q : (j : Int) = k
        · have : j = k := by omega
          subst this
          rw [if_pos rfl, decide_eq_true (by omega), Bool.not_true, Bool.and_false, if_neg (by simp)]
        · rw [if_neg q, decide_eq_false (by omega), Bool.not_false, Bool.and_true]
          by_cases hbj : m.testBit j = true
          · rw [if_pos hbj, if_pos hbj]
            by_cases g : k < j
            · have := cnt_less g hbit
              rw [if_pos g] at hj'
              rw [getD_app, if_neg (by omega), getD_drop, hp]
              congr 1
              omega
            · have := cnt_less (show j < k by omega) hbj
              rw [if_neg g] at hj'
              rw [getD_app, if_pos (by omega), getD_take (by omega)]
              congr 1
              omega
          · rw [if_neg hbj, if_neg hbj]
  · have hh : hasM m i = false := by unfold hasM; rw [decide_eq_false hi, Bool.false_and]
    rw [hh, show notB false = true from rfl, br_t]
    exact ⟨m, ks, h, rfl, fun j hj => by rw [if_neg (by omega)]⟩
end Go.Proofs.YtimgaglpempfeaaGreat.AB
set_option linter.unusedVariables false
set_option linter.unusedSimpArgs false
namespace Go.Proofs.YtimgaglpempfeaaGreat.AB
open Go.Abs
/-! ### Nodes -/
def leafV (k v : ByteArray) : NodeV := (1, (k, (v, (0, ([], (0, ([], (1, (0, ())))))))))
def tombV (k v : ByteArray) : NodeV := (6, (k, (v, (0, ([], (0, ([], (1, (0, ())))))))))
def innV (r : Int) : NodeV := (5, (ByteArray.empty, (ByteArray.empty, (0, ([], (r, ([], (0, (0, ())))))))))
def bktV (l : List PairV) : NodeV := (3, (ByteArray.empty, (ByteArray.empty, (0, ([], (0, (l, ((l.length : Int), (0, ())))))))))
theorem leafV_ok {k v : ByteArray} (hk : k.size ≤ 40) (hv : v.size ≤ 40) : okN (leafV k v) := ⟨hk, hv, Int.le_refl _, by show (0 : Int) < 4294967296; omega, by show (0 : Nat) ≤ 1000000; omega, by show (0 : Nat) ≤ 1000000; omega, fun p hp => (by cases hp)⟩
theorem tombV_ok {k v : ByteArray} (hk : k.size ≤ 40) (hv : v.size ≤ 40) : okN (tombV k v) := ⟨hk, hv, Int.le_refl _, by show (0 : Int) < 4294967296; omega, by show (0 : Nat) ≤ 1000000; omega, by show (0 : Nat) ≤ 1000000; omega, fun p hp => (by cases hp)⟩
theorem innV_ok (r : Int) : okN (innV r) := ⟨by show (0 : Nat) ≤ 40; omega, by show (0 : Nat) ≤ 40; omega, Int.le_refl _, by show (0 : Int) < 4294967296; omega, by show (0 : Nat) ≤ 1000000; omega, by show (0 : Nat) ≤ 1000000; omega, fun p hp => (by cases hp)⟩
theorem bktV_ok {l : List PairV} (hl : l.length ≤ 1000000) (ho : ∀ p ∈ l, okP p) : okN (bktV l) := ⟨by show (0 : Nat) ≤ 40; omega, by show (0 : Nat) ≤ 40; omega, Int.le_refl _, by show (0 : Int) < 4294967296; omega, by show (0 : Nat) ≤ 1000000; omega, hl, ho⟩
theorem addOne {n : NodeV} (o : okN n) (x : Int) (news : List NodeV) (hl : news.length ≤ 1000000) (old : List Int) : inner_two_1 n ((), (x, ((), ()))) news old = some (-(news.length : Int) - 1, (((), (x, ((), ()))), ((), (old, (news ++ [n], ()))))) := by
  rw [inner_two_1.eq]
  show bnd (plan_Add_v1 ((), (x, ((), ()))) n news old) _ = _
  rw [plAdd x o news hl old, bnd_some]
theorem plAdd0 (x : Int) {n : NodeV} (o : okN n) (old : List Int) : plan_Add ((), (x, ((), ()))) n old = some ((((), (x, ((), ()))), (-1, ())), (old, ([n], ()))) := by
  rw [plan_Add.eq, cloneN_any [] (by show 0 ≤ _; omega), bnd_some, copy_any n o, bnd_some]
  show br (fitL tapiNode [n]) (bnd (ref_New (subI .i64 ((([n] : List NodeV).length : Nat) : Int) 1)) fun r2 => some ((((), (x, ((), ()))), (r2, ())), (old, ([n], ())))) none = _
  rw [fitL_d, decide_eq_true (by show 1 ≤ _; omega), br_t, show subI .i64 ((([n] : List NodeV).length : Nat) : Int) 1 = ((0 : Nat) : Int) from rfl, refnew_any 0 (by omega), bnd_some]
  rfl
/-! ### Chunks -/
def lvl (level bits : Int) : Nat := (min (max level 0) (lev bits : Int)).toNat
theorem lvl_le (level bits : Int) : lvl level bits ≤ lev bits := by unfold lvl; omega
theorem at_any (level bits : Int) : inner_at level bits = some ((lvl level bits : Nat) : Int) := by
  rw [inner_at.eq, levels_any, bnd_some, minI_d, maxI_d]
  unfold lvl
  exact some_int (by omega)
theorem refat_any (level bits : Int) : ref29_At level bits = some ((lvl level bits : Nat) : Int) := by
  rw [ref29_At.eq, ltI_d, br_if, reflevels_any, bnd_some, minI_d]
  unfold lvl
  by_cases h : level < 0
  · rw [if_pos h]; exact some_int (by omega)
  · rw [if_neg h]; exact some_int (by omega)
noncomputable def chk (key : ByteArray) (level bits : Int) : Nat := chunkS (hashS key bits) (lvl level bits) bits
theorem chk_lt (key : ByteArray) (level bits : Int) : chk key level bits < 32 := by
  unfold chk chunkS
  split
  · exact Nat.mod_lt _ (by omega)
  · omega
theorem ichunk_any {key : ByteArray} (hk : key.size ≤ 40) (level bits : Int) : inner_chunk key level bits = some ((chk key level bits : Nat) : Int) := by
  have := lvl_le level bits
  have := lev_le bits
  rw [inner_chunk.eq, hashof_any key bits (by omega), bnd_some, at_any, bnd_some, chunk_any _ (hash_lt64 key bits) _ _ (by omega), bnd_some, if_neg (by omega), Int.toNat_natCast]
  rfl
theorem rchunk_any {key : ByteArray} (hk : key.size ≤ 40) (level bits : Int) : ref29_chunk key level bits = some ((chk key level bits : Nat) : Int) := by
  have := lvl_le level bits
  have := lev_le bits
  rw [ref29_chunk.eq, refof_any key bits (by omega), bnd_some, refat_any, bnd_some, refchunk_any _ (hash_lt64 key bits) _ _ (by omega), bnd_some, if_neg (by omega), Int.toNat_natCast]
  rfl
/-! ### Branches of no size -/
theorem zero_branch : branch_branch (0, (ByteArray.empty, (ByteArray.empty, (0, ([], (0, ([], (0, (0, ()))))))))) = some ((2, (ByteArray.empty, (ByteArray.empty, (((0 : Nat) : Int), ((), (0, ((), (0, (0, ()))))))))), ([], ([], ()))) := by
  rw [branch_branch.eq, branchO_0, bnd_some]
  rfl
theorem zero_at : List.replicate 32 (0 : Int) = (List.range 32).map (chAt 0 []) := by decide
/-- A branch of no size, whose children are told. -/
structure BrC (m : Nat) (ks : List Int) (bi : Int) (f : Nat → Int) : Prop where
  ok : okB m ks 0 bi
  ch : ∀ j, j < 32 → chAt m ks j = f j
theorem BrC.put {m : Nat} {ks : List Int} {bi : Int} {f : Nat → Int} (B : BrC m ks bi f) {n : NodeV} (hb : branch_branch n = some ((2, (ByteArray.empty, (ByteArray.empty, ((m : Int), ((), (0, ((), (0, (bi, ()))))))))), (ks, ([], ())))) (i : Nat) {r : Int} (hr : r ≠ 0) :
    ∃ m' ks', BrC m' ks' bi (fun j => if j = i then r else f j) ∧ branch_With n i r = some (bN m' ks' 0 bi) := by
  obtain ⟨m', ks', h1, h2, _, h3⟩ := with_spec B.ok hb i r
  refine ⟨m', ks', ⟨h1, fun j hj => ?_⟩, h2⟩
  rw [h3 j hj, B.ch j hj]
  by_cases q : j = i
  · rw [if_pos ⟨by omega, hr⟩, if_pos q]
  · rw [if_neg (fun z => q (by omega)), if_neg q]
/-- The document's branch with these children. -/
structure BrR (At : List Int) (f : Nat → Int) : Prop where
  len : At.length = 32
  ch : ∀ j, j < 32 → At.getD j 0 = f j
theorem BrR.put {At : List Int} {f : Nat → Int} (B : BrR At f) (sz bi : Int) (i : Nat) (r : Int) : ∃ At', ref19_Branch_Put (At, (sz, (bi, ()))) i r = some (At', (sz, (bi, ()))) ∧ BrR At' (fun j => if j = i then r else f j) := by
  obtain ⟨At', h1, h2, h3⟩ := refput_any At B.len sz bi i r
  refine ⟨At', h1, h2, fun j hj => ?_⟩
  rw [h3 j hj, B.ch j hj]
  by_cases q : j = i
  · rw [if_pos (by omega), if_pos q]
  · rw [if_neg (by omega), if_neg q]
theorem BrC.made {m : Nat} {ks : List Int} {bi : Int} {f : Nat → Int} (B : BrC m ks bi f) {At : List Int} (R : BrR At f) (sz : Int) : ref29_made (At, (sz, (bi, ()))) = some (bN m ks 0 bi) := by
  rw [ref29_made.eq]
  show bnd (ref19_Branch_Node (At, ((0 : Int), (bi, ())))) _ = _
  rw [node_any B.ok At R.len (fun j hj => by rw [R.ch j hj, B.ch j hj]), bnd_some]
theorem BrC.zero : BrC 0 [] 0 (fun _ => 0) := ⟨.empty, fun j _ => by unfold chAt; rw [Nat.zero_testBit]; rfl⟩
theorem BrR.zero : BrR (List.replicate 32 (0 : Int)) (fun _ => 0) := ⟨by simp, fun j hj => by rw [List.getD_eq_getElem?_getD, List.getElem?_eq_getElem (by simpa using hj), List.getElem_replicate]; rfl⟩
/-- A main node, as a branch of no size: the code's, and the document's. -/
theorem bareB_any {n : NodeV} (h : okN n) : ∃ m ks sz bi f At, BrC m ks bi f ∧ BrR At f ∧ inner_bare n = some (bN m ks 0 bi) ∧ ref19_Of n = some (At, (sz, (bi, ()))) := by
  obtain ⟨m, ks, sz, bi, hb, hbr, hof, _⟩ := branch_spec n h
  refine ⟨m, ks, sz, bi, chAt m ks, _, ⟨⟨hb.lt, hb.len, hb.nz, Int.le_refl _, hb.bi0⟩, fun _ _ => rfl⟩, ⟨at_len m ks, fun j hj => at_get m ks j hj⟩, ?_, hof⟩
  rw [inner_bare.eq, branch_Sized.eq, hbr, bnd_some]
  rfl
theorem BrC.self {m : Nat} {ks : List Int} {bi : Int} {f : Nat → Int} (B : BrC m ks bi f) : branch_branch (bN m ks 0 bi) = some ((2, (ByteArray.empty, (ByteArray.empty, ((m : Int), ((), (0, ((), (0, (bi, ()))))))))), (ks, ([], ()))) := branch_self B.ok
end Go.Proofs.YtimgaglpempfeaaGreat.AB
set_option linter.unusedVariables false
set_option linter.unusedSimpArgs false
namespace Go.Proofs.YtimgaglpempfeaaGreat.AB
open Go.Abs
/-- The two bindings of a bucket behind all levels. -/
def twoL (c : NodeV) (key val : ByteArray) : List PairV := makeS [(c.2.1, (c.2.2.1, ())), (key, (val, ()))]
/-- The new nodes of two bindings from a level on; and whether the leaf is there no more. -/
inductive TwoN (child : Int) (c : NodeV) (key val : ByteArray) (bits : Int) : Nat → List NodeV → Bool → Prop
  | bucket {l : Nat} (h : lev bits ≤ l) : TwoN child c key val bits l [bktV (twoL c key val)] true
  | split {l m : Nat} {ks : List Int} (h : l < lev bits) (hne : chk key l bits ≠ chk c.2.1 l bits)
      (B : BrC m ks 0 (fun j => if j = chk c.2.1 l bits then child else if j = chk key l bits then -1 else 0)) : TwoN child c key val bits l [leafV key val, bN m ks 0 0] false
  | down {l m : Nat} {ks : List Int} {ns : List NodeV} {old : Bool} (h : l < lev bits) (he : chk key l bits = chk c.2.1 l bits) (t : TwoN child c key val bits (l + 1) ns old)
      (B : BrC m ks 0 (fun j => if j = chk key l bits then -((ns.length : Int) + 1) else 0)) : TwoN child c key val bits l (ns ++ [innV (-(ns.length : Int)), bN m ks 0 0]) old
theorem pair2 {c : NodeV} {key val : ByteArray} (hc : okN c) (hk : key.size ≤ 40) (hv : val.size ≤ 40) : ∀ p ∈ [((c.2.1, (c.2.2.1, ())) : PairV), (key, (val, ()))], okP p := fun p hp => by
  rcases List.mem_cons.1 hp with rfl | hp
  · exact ⟨hc.key, hc.val⟩
  · rw [List.mem_singleton.1 hp]; exact ⟨hk, hv⟩
theorem makeS_ok {l : List PairV} (h : ∀ p ∈ l, okP p) : ∀ p ∈ makeS l, okP p := by
  have key : ∀ (l acc : List PairV), (∀ p ∈ l, okP p) → (∀ p ∈ acc, okP p) → ∀ p ∈ l.foldl putS acc, okP p := by
    intro l
    induction l with
    | nil => intro acc _ ha; exact ha
    | cons a l ih => intro acc hl ha; exact ih _ (fun p hp => hl p (List.mem_cons_of_mem _ hp)) (putS_ok ha (hl a List.mem_cons_self))
  exact key l [] h (fun p hp => (by cases hp))
theorem twoL_len {c : NodeV} {key val : ByteArray} (hne : c.2.1 ≠ key) : (twoL c key val).length = 2 := by
  show (putS [(c.2.1, (c.2.2.1, ()))] (key, (val, ()))).length = 2
  rcases tri c.2.1 key with ⟨q, _⟩ | ⟨q, _⟩ | ⟨q, _⟩
  · rw [putS_lt q]; rfl
  · exact absurd q hne
  · rw [putS_gt q]; rfl
theorem twoL_ok {c : NodeV} {key val : ByteArray} (hc : okN c) (hk : key.size ≤ 40) (hv : val.size ≤ 40) : ∀ p ∈ twoL c key val, okP p := makeS_ok (pair2 hc hk hv)
theorem TwoN.len {child : Int} {c : NodeV} {key val : ByteArray} {bits : Int} {l : Nat} {ns : List NodeV} {old : Bool} (T : TwoN child c key val bits l ns old) : 0 < ns.length ∧ ns.length ≤ 2 * (lev bits - l) + 1 := by
  induction T with
  | bucket h => exact ⟨by simp, by simp⟩
  | split h => exact ⟨by simp, by simp only [List.length_cons, List.length_nil]; omega⟩
  | down h he t B ih => rw [List.length_append]; simp only [List.length_cons, List.length_nil]; omega
theorem TwoN.ok {child : Int} {c : NodeV} {key val : ByteArray} {bits : Int} {l : Nat} {ns : List NodeV} {old : Bool} (hc : okN c) (hk : key.size ≤ 40) (hv : val.size ≤ 40) (hne : c.2.1 ≠ key) (T : TwoN child c key val bits l ns old) : ∀ n ∈ ns, okN n := by
  induction T with
  | bucket h =>
    intro n hn
    rw [List.mem_singleton.1 hn]
    exact bktV_ok (by rw [twoL_len hne]; omega) (twoL_ok hc hk hv)
  | split h _ B =>
    intro n hn
    rcases List.mem_cons.1 hn with rfl | hn
    · exact leafV_ok hk hv
    · rw [List.mem_singleton.1 hn]; exact B.ok.node
  | down h he t B ih =>
    intro n hn
    rcases List.mem_append.1 hn with hn | hn
    · exact ih n hn
    rcases List.mem_cons.1 hn with rfl | hn
    · exact innV_ok _
    · rw [List.mem_singleton.1 hn]; exact B.ok.node
/-- Both make these. -/
theorem two_any {child : Int} (hch : child ≠ 0) {c : NodeV} (hc : okN c) (h1 : c.1 = 1) {key val : ByteArray} (hk : key.size ≤ 40) (hv : val.size ≤ 40) (hne : c.2.1 ≠ key) (bits : Int) (d : Nat) : ∀ (l : Nat), lev bits - l = d → l ≤ 14 →
    ∃ ns old, TwoN child c key val bits l ns old ∧ ref29_two child c key val l bits = some (((), (old, ())), (ns, ())) ∧
      ∀ (th : Bool) (x : Int) (o : List Int), inner_two_2 l bits th ((), ()) c key val ((), ((), ((), ((), ((), ((), ((), ((), ())))))))) child ((), (x, ((), ()))) [] o =
        some (-(ns.length : Int), (bits, ((th && !old), (((), ()), (c, (key, (val, (((), ((), ((), ((), ((), ((), ((), ((), ())))))))), (child, (((), (x, ((), ()))), ((), (o, (ns, ()))))))))))))) := by
  have hlev := lev_le bits
  have binds : node_Binds c = some ((), ([((c.2.1, (c.2.2.1, ())) : PairV)], ())) := by
    rw [binds_any c hc]
    unfold bindsS
    rw [if_pos (.inl h1)]
  have p2 := pair2 hc hk hv
  induction d with
  | zero =>
    intro l hd hl
    refine ⟨[bktV (twoL c key val)], true, .bucket (by omega), ?_, fun th x o => ?_⟩
    · rw [ref29_two.eq, reflevels_any, bnd_some, leI_d, decide_eq_true (by omega), br_t, refmake_any _ (by show 2 ≤ _; omega) p2, bnd_some]
      have e : (((twoL c key val).length : Nat) : Int) = 2 := by rw [twoL_len hne]; rfl
      have hb : bktV (twoL c key val) = (3, (ByteArray.empty, (ByteArray.empty, (0, ([], (0, (twoL c key val, ((2 : Int), (0, ()))))))))) := by unfold bktV; rw [e]
      rw [hb]
      rfl
    · rw [inner_two_2.eq, levels_any, bnd_some, leI_d, decide_eq_true (by omega), br_t, both_self, binds, bnd_some]
      have hm : node_Bucket (appL tapiPair [((c.2.1, (c.2.2.1, ())) : PairV)] [((key, (val, ())) : PairV)]) = some (bktV (twoL c key val)) := by
        rw [node_Bucket.eq]
        show bnd (pair_Make [((c.2.1, (c.2.2.1, ())) : PairV), (key, (val, ()))]) _ = _
        rw [make_any _ (by show 2 ≤ _; omega) p2, bnd_some]
        rfl
      show br (fitL tapiPair (appL tapiPair [((c.2.1, (c.2.2.1, ())) : PairV)] [((key, (val, ())) : PairV)])) (bnd (node_Bucket (appL tapiPair [((c.2.1, (c.2.2.1, ())) : PairV)] [((key, (val, ())) : PairV)])) _) none = _
      rw [fitL_d, decide_eq_true (by show 2 ≤ _; omega), br_t, hm, bnd_some]
      rw [addOne (bktV_ok (by rw [twoL_len hne]; omega) (twoL_ok hc hk hv)) x [] (by show 0 ≤ _; omega) o, bnd_some]
      rw [show (!true) = false from rfl, Bool.and_false]
      rfl
  | succ d ih =>
    intro l hd hl
    have hll : l < lev bits := by omega
    by_cases he : chk key l bits = chk c.2.1 l bits
    · obtain ⟨ns, old, T, r1, r2⟩ := ih (l + 1) (by omega) (by omega)
      obtain ⟨n0, nl⟩ := T.len
      have e1 : addI .i64 (l : Int) 1 = ((l + 1 : Nat) : Int) := add1 l (by omega)
      have hnn : (-((ns.length : Int) + 1)) ≠ 0 := by omega
      obtain ⟨m, ks, B, hw⟩ := BrC.zero.put zero_branch (chk key l bits) hnn
      obtain ⟨At, hp, R⟩ := BrR.zero.put 0 0 (chk key l bits) (-((ns.length : Int) + 1))
      refine ⟨ns ++ [innV (-(ns.length : Int)), bN m ks 0 0], old, .down hll he T B, ?_, fun th x o => ?_⟩
      · rw [ref29_two.eq, reflevels_any, bnd_some, leI_d, decide_eq_false (by omega), br_f, rchunk_any hk, bnd_some, rchunk_any hc.key, bnd_some, he, eqI_d, decide_eq_true rfl, show notB true = false from rfl, br_f, e1, r1, bnd_some]
        have ez : subI .i64 0 (ofN (lenL tapiNode ns)) = -(ns.length : Int) := by rw [subI_d (by show _ ≤ (0 : Int) - (ns.length : Int); omega) (by show (0 : Int) - (ns.length : Int) ≤ _; omega)]; show (0 : Int) - (ns.length : Int) = _; omega
        have el : (ns ++ [innV (-(ns.length : Int))]).length = ns.length + 1 := by rw [List.length_append]; rfl
        have ez2 : subI .i64 0 (ofN (lenL tapiNode (ns ++ [innV (-(ns.length : Int))]))) = -((ns.length : Int) + 1) := by
          rw [lenL_d, el, ofN_d, subI_d (by omega) (by omega)]; omega
        show br (fitL tapiNode (appL tapiNode ns [((5 : Int), (ByteArray.empty, (ByteArray.empty, ((0 : Int), ([], (subI .i64 0 (ofN (lenL tapiNode ns)), ([], ((0 : Int), ((0 : Int), ())))))))))])) (bnd (ref19_Branch_Put (List.replicate 32 (0 : Int), ((0 : Int), ((0 : Int), ()))) ((chk c.2.1 l bits : Nat) : Int) (subI .i64 0 (ofN (lenL tapiNode (appL tapiNode ns [((5 : Int), (ByteArray.empty, (ByteArray.empty, ((0 : Int), ([], (subI .i64 0 (ofN (lenL tapiNode ns)), ([], ((0 : Int), ((0 : Int), ())))))))))])))))
          fun r8 => bnd (ref29_made r8) fun r9 => br (fitL tapiNode (appL tapiNode (appL tapiNode ns [((5 : Int), (ByteArray.empty, (ByteArray.empty, ((0 : Int), ([], (subI .i64 0 (ofN (lenL tapiNode ns)), ([], ((0 : Int), ((0 : Int), ())))))))))]) [r9])) (some (((), (old, ())), (appL tapiNode (appL tapiNode ns [((5 : Int), (ByteArray.empty, (ByteArray.empty, ((0 : Int), ([], (subI .i64 0 (ofN (lenL tapiNode ns)), ([], ((0 : Int), ((0 : Int), ())))))))))]) [r9], ()))) none) none = _
        rw [ez]
        show br (fitL tapiNode (ns ++ [innV (-(ns.length : Int))])) (bnd (ref19_Branch_Put (List.replicate 32 (0 : Int), ((0 : Int), ((0 : Int), ()))) ((chk c.2.1 l bits : Nat) : Int) (subI .i64 0 (ofN (lenL tapiNode (ns ++ [innV (-(ns.length : Int))])))))
          fun r8 => bnd (ref29_made r8) fun r9 => br (fitL tapiNode ((ns ++ [innV (-(ns.length : Int))]) ++ [r9])) (some (((), (old, ())), ((ns ++ [innV (-(ns.length : Int))]) ++ [r9], ()))) none) none = _
        rw [ez2, ← he, hp, fitL_d, el, decide_eq_true (by omega), br_t, bnd_some, B.made R 0, bnd_some, fitL_d, List.length_append, el, decide_eq_true (by show ns.length + 1 + 1 ≤ _; omega), br_t, List.append_assoc]
        rfl
      · rw [inner_two_2.eq, levels_any, bnd_some, leI_d, decide_eq_false (by omega), br_f, ichunk_any hk, bnd_some, ichunk_any hc.key, bnd_some, ← he, eqI_d, decide_eq_true rfl, br_t, both_self, e1]
        rw [r2 th x o, bnd_some, node_Inner.eq, bnd_some]
        show bnd (inner_two_1 (innV (-(ns.length : Int))) ((), (x, ((), ()))) ns o) _ = _
        rw [addOne (innV_ok _) x ns (by omega) o, bnd_some, inner_two_2.j0.eq]
        show bnd (branch_With _ ((chk key l bits : Nat) : Int) (-(ns.length : Int) - 1)) _ = _
        rw [show -(ns.length : Int) - 1 = -((ns.length : Int) + 1) by omega, hw, bnd_some]
        show bnd (inner_two_1 (bN m ks 0 0) ((), (x, ((), ()))) (ns ++ [innV (-(ns.length : Int))]) o) _ = _
        have el : (ns ++ [innV (-(ns.length : Int))]).length = ns.length + 1 := by rw [List.length_append]; rfl
        rw [addOne B.ok.node x _ (by omega) o, bnd_some, el]
        have e3 : -(((ns.length + 1 : Nat) : Int)) - 1 = -((((ns ++ [innV (-(ns.length : Int)), bN m ks 0 0]).length : Nat)) : Int) := by
          rw [List.length_append]
          simp only [List.length_cons, List.length_nil]
          omega
        rw [e3, List.append_assoc]
        rfl
    · obtain ⟨m1, k1, B1, hw1⟩ := BrC.zero.put zero_branch (chk key l bits) (show (-1 : Int) ≠ 0 by omega)
      obtain ⟨m, ks, B, hw⟩ := B1.put B1.self (chk c.2.1 l bits) hch
      obtain ⟨At1, hp1, R1⟩ := BrR.zero.put 0 0 (chk key l bits) (-1)
      obtain ⟨At, hp, R⟩ := R1.put 0 0 (chk c.2.1 l bits) child
      refine ⟨[leafV key val, bN m ks 0 0], false, .split hll he B, ?_, fun th x o => ?_⟩
      · rw [ref29_two.eq, reflevels_any, bnd_some, leI_d, decide_eq_false (by omega), br_f, rchunk_any hk, bnd_some, rchunk_any hc.key, bnd_some, eqI_d, decide_eq_false (fun q => he (by omega)), show notB false = true from rfl, br_t]
        show br true (bnd (ref19_Branch_Put (List.replicate 32 (0 : Int), ((0 : Int), ((0 : Int), ()))) ((chk key l bits : Nat) : Int) (-1)) _) none = _
        rw [br_t, hp1, bnd_some, hp, bnd_some, B.made R 0, bnd_some]
        rfl
      · rw [inner_two_2.eq, levels_any, bnd_some, leI_d, decide_eq_false (by omega), br_f, ichunk_any hk, bnd_some, ichunk_any hc.key, bnd_some, eqI_d, decide_eq_false (fun q => he (by omega)), br_f, node_Leaf.eq, bnd_some]
        show bnd (inner_two_1 (leafV key val) ((), (x, ((), ()))) [] o) _ = _
        rw [addOne (leafV_ok hk hv) x [] (by show 0 ≤ _; omega) o, bnd_some]
        show bnd (branch_With _ ((chk key l bits : Nat) : Int) (-1)) _ = _
        rw [hw1, bnd_some, hw, bnd_some]
        show bnd (inner_two_1 (bN m ks 0 0) ((), (x, ((), ()))) [leafV key val] o) _ = _
        rw [addOne B.ok.node x _ (by show 1 ≤ _; omega) o, bnd_some, show (!false) = true from rfl, Bool.and_true]
        rfl
end Go.Proofs.YtimgaglpempfeaaGreat.AB
set_option linter.unusedVariables false
set_option linter.unusedSimpArgs false
namespace Go.Proofs.YtimgaglpempfeaaGreat.AB
open Go.Abs
def rng (x : Int) : Prop := -9223372036854775808 ≤ x ∧ x ≤ 9223372036854775807
theorem wf_rng {a : Int} (h : (Lit.int .i64 a).wf = true) : rng a := by
  simp [Lit.wf, IntKind.min, IntKind.max, IntKind.bits, IntKind.signed] at h
  unfold rng
  omega
/-- A node's references are numbers of the program. -/
def rngN (n : NodeV) : Prop := (∀ k ∈ n.2.2.2.2.1, rng k) ∧ rng n.2.2.2.2.2.1
theorem few_rng {n : NodeV} (h : wfD tapiNode n) : rngN (few n) := by
  obtain ⟨_, _, _, _, hk, hmain, _⟩ := h
  exact ⟨fun k hk' => wf_rng (hk.2 k (List.mem_of_mem_take hk')), wf_rng hmain⟩
theorem refs_rng {n : NodeV} (h : rngN n) : ∀ r ∈ refsS n, rng r := by
  intro r hr
  unfold refsS at hr
  rcases List.mem_append.1 hr with hr | hr
  · exact h.1 r (List.mem_filter.1 hr).1
  · split at hr
    · rw [List.mem_singleton.1 hr]; exact h.2
    · cases hr
theorem ixN (l : List NodeV) (i : Nat) (h : i < l.length) : ixL tapiNode l (i : Int) = l[i] := ixL_d tapiNode l i h
/-! ### Not too many nodes -/
def fewW : Nat → List NodeV → List NodeV
  | _, [] => []
  | w, n :: l => if 3000 < w * max (refsS (few n)).length 1 then [] else few n :: fewW (w * max (refsS (few n)).length 1) l
def fewH (h : List NodeV) : List NodeV := fewW 1 (h.take 12)
theorem fewW_len : ∀ (l : List NodeV) (w : Nat), (fewW w l).length ≤ l.length
  | [], _ => Nat.le_refl _
  | n :: l, w => by
    unfold fewW
    split
    · exact Nat.zero_le _
    · have := fewW_len l (w * max (refsS (few n)).length 1)
      simp only [List.length_cons]
      omega
theorem fewW_mem : ∀ (l : List NodeV) (w : Nat), ∀ x ∈ fewW w l, ∃ n ∈ l, x = few n
  | [], _, x, h => by cases h
  | n :: l, w, x, h => by
    unfold fewW at h
    split at h
    · cases h
    · rcases List.mem_cons.1 h with h | h
      · exact ⟨n, by simp, h⟩
      · obtain ⟨m, h1, h2⟩ := fewW_mem l _ x h
        exact ⟨m, by simp [h1], h2⟩
theorem fewW_cons (w : Nat) (n : NodeV) (l : List NodeV) : fewW w (n :: l) = if 3000 < w * max (refsS (few n)).length 1 then [] else few n :: fewW (w * max (refsS (few n)).length 1) l := rfl
theorem fewW_fewW : ∀ (l : List NodeV) (w : Nat), fewW w (fewW w l) = fewW w l
  | [], _ => rfl
  | n :: l, w => by
    rw [fewW_cons]
    by_cases h : 3000 < w * max (refsS (few n)).length 1
    · rw [if_pos h]
      rfl
    · rw [if_neg h, fewW_cons, few_few, if_neg h, fewW_fewW]
theorem fewH_len (h : List NodeV) : (fewH h).length ≤ 12 := by
  have := fewW_len (h.take 12) 1
  rw [List.length_take] at this
  unfold fewH
  omega
theorem fewH_mem {h : List NodeV} : ∀ x ∈ fewH h, ∃ n ∈ h, x = few n := fun x hx => by
  obtain ⟨n, h1, h2⟩ := fewW_mem _ _ x hx
  exact ⟨n, List.mem_of_mem_take h1, h2⟩
theorem fewH_fewH (h : List NodeV) : fewH (fewH h) = fewH h := by
  have := fewH_len h
  show fewW 1 ((fewH h).take 12) = fewH h
  rw [List.take_of_length_le this]
  exact fewW_fewW _ _
/-- A heap of not too many nodes. -/
structure okH (h : List NodeV) : Prop where
  len : h.length ≤ 40000000
  node : ∀ n ∈ h, okN n
  rng : ∀ n ∈ h, rngN n
theorem okH.of {h : List NodeV} (hw : wfD (.list tapiNode) h) : okH (fewH h) :=
  ⟨Nat.le_trans (fewH_len h) (by omega), fun x hx => by obtain ⟨n, h1, rfl⟩ := fewH_mem x hx; exact few_okN (hw.2 n h1), fun x hx => by obtain ⟨n, h1, rfl⟩ := fewH_mem x hx; exact few_rng (hw.2 n h1)⟩
theorem refsS_few (n : NodeV) : (refsS (few n)).length ≤ 41 := by
  have h := refsS_len (few n)
  have : (few n).2.2.2.2.1.length ≤ 40 := by show (List.take 40 _).length ≤ 40; rw [List.length_take]; omega
  omega
/-- Nodes that Few is asked of. -/
def wideN (n : NodeV) : Prop := n.2.2.2.2.1.length ≤ 9223372036854775807 ∧ n.2.2.2.2.2.2.1.length ≤ 9223372036854775807 ∧ okN (few n)
/-! ### Whether a heap may be -/
def mayHL : Nat → List NodeV → Bool
  | _, [] => true
  | i, n :: l => (decide (mayS n = 0) && (refsS n).all fun r => decide (1 ≤ r ∧ r ≤ (i : Int))) && mayHL (i + 1) l
def mayH (h : List NodeV) : Bool := mayHL 0 h
theorem drop_all {p : Int → Bool} (l : List Int) (k : Nat) (h : k < l.length) : (l.drop k).all p = (p l[k] && (l.drop (k + 1)).all p) := by
  rw [List.drop_eq_getElem_cons h, List.all_cons]
end Go.Proofs.YtimgaglpempfeaaGreat.AB
set_option linter.unusedVariables false
set_option linter.unusedSimpArgs false
namespace Go.Proofs.YtimgaglpempfeaaGreat.AB
open Go.Abs
abbrev PlanV : Type := List NodeV × Int × List Int × Unit
structure okPl (p : PlanV) : Prop where
  len : p.1.length ≤ 1000
  node : ∀ n ∈ p.1, okN n
  rngs : ∀ n ∈ p.1, rngN n
  few : ∀ n ∈ p.1, n.2.2.2.2.1.length ≤ 40
  root : rng p.2.1
  old : p.2.2.1.length ≤ 1000
  olds : ∀ r ∈ p.2.2.1, rng r
/-! ### References -/
/-- A reference, where new ones become others. -/
def refR (to : List Int) (r : Int) : Option Int := if 0 ≤ r then some r else if -1 - r < (to.length : Int) then some (to.getD (-1 - r).toNat 0) else none
def refD (to : List Int) (r : Int) : Int := (refR to r).getD 0
theorem make_some (a b : Int) : ∃ x y, ref_Make a b = some (x, (y, ())) := by
  rw [ref_Make.eq]
  simp only [ltI_d, br_if]
  split
  · exact ⟨_, _, rfl⟩
  split
  · exact ⟨_, _, rfl⟩
  split
  · exact ⟨_, _, rfl⟩
  split
  · exact ⟨_, _, rfl⟩
  exact ⟨_, _, rfl⟩
theorem which_any (r : Int) (h : rng r) : ref_Which r = some (if r < 0 then (-1 - r, (true, ())) else (0, (false, ()))) := by
  unfold rng at h
  rw [ref_Which.eq, ref_Kind.eq]
  obtain ⟨x, y, hm⟩ := make_some (remI r 1024) (quoI .i64 r 1024)
  rw [hm, bnd_some]
  have hn : notB (eqI 1024 0) = true := rfl
  rw [hn, br_t, br_t]
  simp only [ltI_d, eqI_d, notB_d, br_if]
  by_cases h0 : r = 0
  · rw [if_pos h0, bnd_some, if_pos (by omega), if_neg (by omega)]
  rw [if_neg h0]
  by_cases h1 : r < 0
  · rw [if_pos h1, bnd_some, if_neg (by omega), if_pos h1]
    have : subI .i64 (-1) r = -1 - r := subI_d (by omega) (by omega)
    rw [this]
  · rw [if_neg h1, if_neg h1]
    by_cases hy : y = 0
    · rw [if_neg (fun q => q hy), bnd_some, if_pos (by omega)]
    · rw [if_pos hy, bnd_some, if_pos (by omega)]
/-! ### Nodes filled -/
def fillB (to : List Int) (n : NodeV) : Bool := (refR to n.2.2.2.2.2.1).isSome && n.2.2.2.2.1.all fun k => (refR to k).isSome
def fillS (to : List Int) (n : NodeV) : NodeV := if fillB to n = true then (n.1, (n.2.1, (n.2.2.1, (n.2.2.2.1, (n.2.2.2.2.1.map (refD to), (refD to n.2.2.2.2.2.1, n.2.2.2.2.2.2)))))) else zeroN
theorem take_all_succ {p : Int → Bool} (l : List Int) (i : Nat) (h : i < l.length) : (l.take (i + 1)).all p = ((l.take i).all p && p l[i]) := by
  rw [List.take_succ_eq_append_getElem h, List.all_append]
  simp
/-! ### The same heaps -/
def small (n : NodeV) : Prop := n.2.2.2.2.1.length ≤ 1000000 ∧ n.2.2.2.2.2.2.1.length ≤ 1000000
theorem okN.small {n : NodeV} (h : okN n) : small n := ⟨by have := h.kids; omega, by have := h.list; omega⟩
theorem fillS_small {to : List Int} {n : NodeV} (h : small n) : small (fillS to n) := by
  unfold fillS
  split
  · exact ⟨by show (List.map _ _).length ≤ _; rw [List.length_map]; exact h.1, h.2⟩
  · exact ⟨by show 0 ≤ _; omega, by show 0 ≤ _; omega⟩
end Go.Proofs.YtimgaglpempfeaaGreat.AB
set_option linter.unusedVariables false
set_option linter.unusedSimpArgs false
namespace Go.Proofs.YtimgaglpempfeaaGreat.AB
open Go.Abs
theorem sameH_loop (a b : List NodeV) (hl : a.length ≤ 1000000) (hab : a.length = b.length) (hs : ∀ n ∈ a, small n) (d : Nat) : ∀ (i : Nat), i ≤ a.length → a.length - i = d → ref18_SameHeap.l0 a b i = some (decide (a.drop i = b.drop i)) := by
  induction d with
  | zero =>
    intro i hi hd
    rw [ref18_SameHeap.l0.eq]
    simp only [ltI_d, ofN_d, lenL_d, br_if]
    rw [if_neg (by omega), List.drop_eq_nil_of_le (by omega), List.drop_eq_nil_of_le (by omega)]
    rfl
  | succ d ih =>
    intro i hi hd
    have ha : i < a.length := by omega
    have hb : i < b.length := by omega
    obtain ⟨s1, s2⟩ := hs _ (List.getElem_mem ha)
    rw [ref18_SameHeap.l0.eq, ixN a i ha, ixN b i hb, refsame_any _ _ (by omega) (by omega), bnd_some]
    simp only [ltI_d, leI_d, ofN_d, lenL_d, andB_d, notB_d, br_if]
    rw [if_pos (by omega), if_pos (by omega), if_pos (by omega), add1 i (by omega), ih (i + 1) (by omega) (by omega)]
    by_cases e : a[i] = b[i]
    · rw [if_neg (fun q => q e)]
      exact some_bool (decide_eq_decide.2 ⟨fun q => (drop_eq_iff ha hb).2 ⟨e, q⟩, fun q => ((drop_eq_iff ha hb).1 q).2⟩)
    · rw [if_pos e]
      exact some_bool (decide_eq_false (fun q => e ((drop_eq_iff ha hb).1 q).1)).symm
theorem sameH_any (a b : List NodeV) (hl : a.length ≤ 1000000) (hs : ∀ n ∈ a, small n) : ref18_SameHeap a b = some (decide (a = b)) := by
  rw [ref18_SameHeap.eq]
  simp only [ofN_d, lenL_d, eqI_d, notB_d, br_if]
  by_cases h : a.length = b.length
  · rw [if_neg (by omega)]
    exact sameH_loop a b hl h hs a.length 0 (by omega) (by omega)
  · rw [if_pos (by omega)]
    exact some_bool (decide_eq_false (fun e => h (by rw [e]))).symm
end Go.Proofs.YtimgaglpempfeaaGreat.AB
set_option linter.unusedVariables false
set_option linter.unusedSimpArgs false
namespace Go.Proofs.YtimgaglpempfeaaGreat.AB
open Go.Abs
theorem fold_srtI : ∀ (l acc : List PairV), Srt acc → Srt (l.foldl putS acc)
  | [], _, h => h
  | p :: l, acc, h => fold_srtI l (putS acc p) (putS_srt p h)
theorem make_srtI (l : List PairV) : Srt (makeS l) := fold_srtI l [] List.Pairwise.nil
theorem ordered_any {l : List PairV} (hl : l.length ≤ 40000000) (hs : ∀ p ∈ l, okP p) : pair_ordered l = some (makeS l) := by
  rw [pair_ordered.eq, is_any l (by omega) hs, bnd_some, br_b]
  by_cases h : isS l = true
  · rw [if_pos h, makeS_srt (isS_srt h)]
  · rw [if_neg h, make_any l hl hs, bnd_some]
theorem pput_any {l : List PairV} (hl : l.length ≤ 40000000) (hs : ∀ p ∈ l, okP p) {key val : ByteArray} (hx : okP (key, (val, ()))) : pair_Put l key val = some (putS (makeS l) (key, (val, ()))) := by
  rw [pair_Put.eq, ordered_any hl hs, bnd_some]
  show bnd (pair_put (makeS l) ((key, (val, ())) : PairV)) _ = _
  rw [put_any _ _ (by have := makeS_len l; omega) (makeS_ok hs) (make_srtI l), bnd_some]
theorem rputI_any (l : List PairV) (hl : l.length ≤ 1000000) (hs : ∀ p ∈ l, okP p) {key val : ByteArray} (hx : okP (key, (val, ()))) : ref07_Put l key val = some (putS (makeS l) (key, (val, ()))) := by
  have hlen : (l ++ [((key, (val, ())) : PairV)]).length ≤ 1000001 := by rw [List.length_append]; simp only [List.length_cons, List.length_nil]; omega
  have e0 : appL tapiPair [] l = l := by rw [appL_d, List.nil_append]
  rw [ref07_Put.eq, e0]
  simp only [fitL_d, appL_d, br_if]
  rw [if_pos (by omega), if_pos (by omega), refmake_any (l ++ [(key, (val, ()))]) (by omega) (fun p hp => by
    rcases List.mem_append.1 hp with hp | hp
    · exact hs p hp
    · rw [List.mem_singleton.1 hp]; exact hx), bnd_some]
  unfold makeS
  rw [List.foldl_append]
  rfl
theorem bucket_any {l : List PairV} (hl : l.length ≤ 40000000) (hs : ∀ p ∈ l, okP p) (hS : Srt l) : node_Bucket l = some (bktV l) := by
  rw [node_Bucket.eq, make_any l hl hs, bnd_some, makeS_srt hS]
  rfl
abbrev PlnV : Type := List NodeV × Int × List Int × Unit
def noPl : PlnV := ([], (0, ([], ())))
/-! ### Two bindings -/
def oldsT (child : Int) (old : Bool) : List Int := if old = true then [child] else []
theorem itwo_any {child : Int} (hch : child ≠ 0) {c : NodeV} (hc : okN c) {key val : ByteArray} (hk : key.size ≤ 40) (hv : val.size ≤ 40) (level bits : Int) :
    (c.1 = 1 ∧ c.2.1 ≠ key ∧ ∃ ns old, TwoN child c key val bits (lvl level bits) ns old ∧ inner_Two child c key val level bits = some ((ns, (-(ns.length : Int), (oldsT child old, ()))), (0, ())) ∧ ref29_Two child c key val level bits = some ((ns, (-(ns.length : Int), (oldsT child old, ()))), (true, ()))) ∨
    (¬ (c.1 = 1 ∧ c.2.1 ≠ key) ∧ inner_Two child c key val level bits = some (noPl, (4, ())) ∧ ref29_Two child c key val level bits = some (noPl, (false, ()))) := by
  have hll := lvl_le level bits
  have hlev := lev_le bits
  by_cases h1 : c.1 = 1
  · by_cases h2 : c.2.1 = key
    · refine .inr ⟨fun q => q.2 h2, ?_, ?_⟩
      · rw [inner_Two.eq, eqI_d, decide_eq_true h1, show notB true = false from rfl, br_f, eqS_d, decide_eq_true h2, br_t]
        rfl
      · rw [ref29_Two.eq, eqI_d, decide_eq_true h1, show notB true = false from rfl, br_f, eqS_d, decide_eq_true h2, ref29_Two.j0.eq, br_t]
        rfl
    · obtain ⟨ns, old, T, r1, r2⟩ := two_any hch hc h1 hk hv h2 bits _ (lvl level bits) rfl (by omega)
      obtain ⟨n0, nl⟩ := T.len
      refine .inl ⟨h1, h2, ns, old, T, ?_, ?_⟩
      · rw [inner_Two.eq, eqI_d, decide_eq_true h1, show notB true = false from rfl, br_f, eqS_d, decide_eq_false h2, br_f, inner_two.eq, at_any, bnd_some]
        show bnd (bnd (inner_two_2 ((lvl level bits : Nat) : Int) bits true ((), ()) c key val ((), ((), ((), ((), ((), ((), ((), ((), ())))))))) child ((), ((0 : Int), ((), ()))) [] []) _) _ = _
        rw [r2 true 0 [], bnd_some, both_self, bnd_some]
        cases old <;> rfl
      · rw [ref29_Two.eq, eqI_d, decide_eq_true h1, show notB true = false from rfl, br_f, eqS_d, decide_eq_false h2, ref29_Two.j0.eq, br_f, refat_any, bnd_some, r1, bnd_some]
        have es : subI .i64 0 (ofN (lenL tapiNode ns)) = -(ns.length : Int) := by rw [lenL_d, ofN_d, subI_d (by omega) (by omega)]; omega
        cases old with
        | true =>
          show br true _ _ = _
          rw [br_t, ref29_plan1.eq]
          show bnd (some (ns, (subI .i64 0 (ofN (lenL tapiNode ns)), ([child], ())))) _ = _
          rw [es, bnd_some]
          rfl
        | false =>
          show br false _ _ = _
          rw [br_f, ref29_plan1.eq]
          show bnd (some (ns, (subI .i64 0 (ofN (lenL tapiNode ns)), ([], ())))) _ = _
          rw [es, bnd_some]
          rfl
  · refine .inr ⟨fun q => h1 q.1, ?_, ?_⟩
    · rw [inner_Two.eq, eqI_d, decide_eq_false h1, show notB false = true from rfl, br_t]
      rfl
    · rw [ref29_Two.eq, eqI_d, decide_eq_false h1, show notB false = true from rfl, br_t, ref29_Two.j0.eq, br_t]
      rfl
/-! ### A main node with a binding -/
theorem TwoN.end {child : Int} {c : NodeV} {key val : ByteArray} {bits : Int} {l : Nat} {ns : List NodeV} {old : Bool} (h : lev bits ≤ l) (T : TwoN child c key val bits l ns old) : ns = [bktV (twoL c key val)] ∧ old = true := by
  cases T with
  | bucket _ => exact ⟨rfl, rfl⟩
  | split h' => omega
  | down h' => omega
theorem plan1_any (ns : List NodeV) (hl : ns.length ≤ 1000000) (o : List Int) : ref29_plan1 ns o = some (ns, (-(ns.length : Int), (o, ()))) := by
  rw [ref29_plan1.eq]
  have es : subI .i64 0 (ofN (lenL tapiNode ns)) = -(ns.length : Int) := by rw [lenL_d, ofN_d, subI_d (by omega) (by omega)]; omega
  rw [es]
theorem itwo1_any {child : Int} (hch : child ≠ 0) {c : NodeV} (hc : okN c) (h1 : c.1 = 1) {key val : ByteArray} (hk : key.size ≤ 40) (hv : val.size ≤ 40) (hne : c.2.1 ≠ key) (l : Nat) (bits : Int) (hl : l ≤ lev bits) (o : List Int) :
    ∃ ns old, TwoN child c key val bits (l + 1) ns old ∧ ref29_two child c key val ((l + 1 : Nat) : Int) bits = some (((), (old, ())), (ns, ())) ∧
      inner_two_v1 ((), ((0 : Int), ((), ()))) child c key val ((l + 1 : Nat) : Int) bits o = some ((((), ((0 : Int), ((), ()))), (-(ns.length : Int), (!old, ()))), (o, (ns, ()))) := by
  have hlev := lev_le bits
  obtain ⟨ns, old, T, r1, r2⟩ := two_any hch hc h1 hk hv hne bits _ (l + 1) rfl (by omega)
  refine ⟨ns, old, T, r1, ?_⟩
  have key2 : inner_two_2 ((lvl ((l + 1 : Nat) : Int) bits : Nat) : Int) bits true ((), ()) c key val ((), ((), ((), ((), ((), ((), ((), ((), ())))))))) child ((), ((0 : Int), ((), ()))) [] o =
        some (-(ns.length : Int), (bits, ((true && !old), (((), ()), (c, (key, (val, (((), ((), ((), ((), ((), ((), ((), ((), ())))))))), (child, (((), ((0 : Int), ((), ()))), ((), (o, (ns, ()))))))))))))) := by
    by_cases q : l + 1 ≤ lev bits
    · rw [show lvl ((l + 1 : Nat) : Int) bits = l + 1 by unfold lvl; omega]
      exact r2 true 0 o
    · have e : lvl ((l + 1 : Nat) : Int) bits = lev bits := by unfold lvl; omega
      obtain ⟨ns', old', T', _, r2'⟩ := two_any hch hc h1 hk hv hne bits _ (lev bits) rfl (by omega)
      obtain ⟨e1, e2⟩ := T'.end (Nat.le_refl _)
      obtain ⟨e3, e4⟩ := T.end (by omega)
      rw [e, r2' true 0 o, e1, e2, e3, e4]
  rw [inner_two_v1.eq, at_any, bnd_some]
  show bnd (inner_two_2 ((lvl ((l + 1 : Nat) : Int) bits : Nat) : Int) bits true ((), ()) c key val ((), ((), ((), ((), ((), ((), ((), ((), ())))))))) child ((), ((0 : Int), ((), ()))) [] o) _ = _
  rw [key2, bnd_some, both_self, Bool.true_and]
theorem iput_any {main : Int} {n : NodeV} (hn : okN n) (hl : n.2.2.2.2.2.2.1.length ≤ 1000) {child : Int} {c : NodeV} (hc : okN c) {key val : ByteArray} (hk : key.size ≤ 40) (hv : val.size ≤ 40) (level bits : Int) :
    (∃ p : PlnV, inner_Put main n child c key val level bits = some (p, (0, ())) ∧ ref29_Put main n child c key val level bits = some (p, (true, ())) ∧ (∀ m ∈ p.1, okN m) ∧ p.1.length ≤ 100 ∧ p.2.2.1.length ≤ 2 ∧
      (n.1 = 3 → p = ([bktV (putS (makeS n.2.2.2.2.2.2.1) (key, (val, ())))], (-1, ([main], ())))) ∧ (n.1 = 2 → child = 0 → ∃ m ks bi, p = ([leafV key val, bN m ks 0 bi], (-2, ([main], ()))))) ∨
    (n.1 ≠ 3 ∧ ¬ (n.1 = 2 ∧ child = 0) ∧ inner_Put main n child c key val level bits = some (noPl, (4, ())) ∧ ref29_Put main n child c key val level bits = some (noPl, (false, ()))) := by
  have hll := lvl_le level bits
  have hlev := lev_le bits
  have hx : okP (key, (val, ())) := ⟨hk, hv⟩
  by_cases h3 : n.1 = 3
  · have hb : bindsS n = n.2.2.2.2.2.2.1 := by unfold bindsS; rw [if_neg (by omega), if_pos h3]
    have hs := hn.binds
    have hpo := putS_ok (makeS_ok hs) hx
    have hpl : (putS (makeS n.2.2.2.2.2.2.1) (key, (val, ()))).length ≤ 1001 := by have := putS_len (key, (val, ())) (makeS n.2.2.2.2.2.2.1); have := makeS_len n.2.2.2.2.2.2.1; omega
    have hps := putS_srt (key, (val, ())) (make_srtI n.2.2.2.2.2.2.1)
    have hbk := bktV_ok (by omega) hpo
    refine .inl ⟨([bktV (putS (makeS n.2.2.2.2.2.2.1) (key, (val, ())))], (-1, ([main], ()))), ?_, ?_, fun m hm => by rw [List.mem_singleton.1 hm]; exact hbk, by show 1 ≤ 100; omega, by show 1 ≤ 2; omega, fun _ => rfl, fun q => by omega⟩
    · rw [inner_Put.eq, eqI_d, decide_eq_true h3, br_t, binds_any n hn, hb, bnd_some]
      show bnd (pair_Put n.2.2.2.2.2.2.1 key val) _ = _
      rw [pput_any (by omega) hs hx, bnd_some, bucket_any (by omega) hpo hps, bnd_some, plAdd0 0 hbk [main], bnd_some]
    · rw [ref29_Put.eq, eqI_d, decide_eq_true h3, br_t, rputI_any _ (by omega) hs hx, bnd_some]
      show bnd (ref29_plan1 [bktV (putS (makeS n.2.2.2.2.2.2.1) (key, (val, ())))] [main]) _ = _
      rw [plan1_any _ (by show 1 ≤ _; omega), bnd_some]
      rfl
  by_cases h2 : n.1 = 2
  · have code : ∀ b : Bool, (child ≠ 0 → b = decide (¬ c.1 = 1)) → (child = 0 → b = false) → inner_Put main n child c key val level bits = inner_Put.j0 child key val level bits b n c ((), ((0 : Int), ((), ()))) ((), ((0 : Int), ((), ()))) [] [] [main] ∧
        ref29_Put main n child c key val level bits = ref29_Put.j0 main child key val level bits b n c ((), ((0 : Int), ((), ()))) [] [] := by
      intro b b1 b0
      rw [inner_Put.eq, ref29_Put.eq, eqI_d, decide_eq_false h3, br_f, br_f, eqI_d, decide_eq_true h2, show notB true = false from rfl, br_f, br_f, eqI_d, notB_d, br_if, br_if, eqI_d, notB_d]
      by_cases q : child = 0
      · rw [if_neg (fun z => z q), if_neg (fun z => z q), b0 q]
        exact ⟨rfl, rfl⟩
      · rw [if_pos q, if_pos q, b1 q]
        exact ⟨rfl, rfl⟩
    by_cases hr : child ≠ 0 ∧ c.1 ≠ 1
    · obtain ⟨c1, c2⟩ := code true (fun _ => (decide_eq_true hr.2).symm) (fun q => absurd q hr.1)
      refine .inr ⟨h3, fun q => hr.1 q.2, ?_, ?_⟩
      · rw [c1, inner_Put.j0.eq, br_t]; rfl
      · rw [c2, ref29_Put.j0.eq, br_t]; rfl
    · obtain ⟨c1, c2⟩ := code false (fun q => (decide_eq_false (fun z => hr ⟨q, z⟩)).symm) (fun _ => rfl)
      obtain ⟨m, ks, sz, bi, f, At, B0, R0, hbare, hof⟩ := bareB_any hn
      have flag : ∃ b : Bool, (b = true ↔ child = 0 ∨ c.2.1 = key) ∧ inner_Put main n child c key val level bits = inner_Put.j1 child key val level bits b n c ((), ((0 : Int), ((), ()))) ((), ((0 : Int), ((), ()))) [] [] [main] ∧
          ref29_Put main n child c key val level bits = ref29_Put.j1 main child key val level bits ((chk key level bits : Nat) : Int) b c ((), ((0 : Int), ((), ()))) (At, (sz, (bi, ()))) [] [] := by
        rw [c1, c2, inner_Put.j0.eq, br_f, ref29_Put.j0.eq, br_f, hof, bnd_some, rchunk_any hk, bnd_some, eqI_d, br_if, br_if, eqS_d]
        by_cases q : child = 0
        · exact ⟨true, ⟨fun _ => .inl q, fun _ => rfl⟩, by rw [if_pos q], by rw [if_pos q]⟩
        · exact ⟨decide (c.2.1 = key), by rw [decide_eq_true_iff]; exact ⟨.inr, fun z => z.resolve_left q⟩, by rw [if_neg q], by rw [if_neg q]⟩
      obtain ⟨b, hb, d1, d2⟩ := flag
      by_cases hf : child = 0 ∨ c.2.1 = key
      · obtain rfl : b = true := hb.2 hf
        obtain ⟨m', ks', B', hw⟩ := B0.put B0.self (chk key level bits) (show (-1 : Int) ≠ 0 by omega)
        obtain ⟨At', hp, R'⟩ := R0.put sz bi (chk key level bits) (-1)
        have lk := leafV_ok hk hv
        have hnodes : ∀ x ∈ [leafV key val, bN m' ks' 0 bi], okN x := fun x hx => by
          rcases List.mem_cons.1 hx with rfl | hx
          · exact lk
          · rw [List.mem_singleton.1 hx]; exact B'.ok.node
        by_cases q : child = 0
        · refine .inl ⟨([leafV key val, bN m' ks' 0 bi], (-2, ([main], ()))), ?_, ?_, hnodes, by show 2 ≤ 100; omega, by show 1 ≤ 2; omega, fun z => absurd z h3, fun _ _ => ⟨m', ks', bi, rfl⟩⟩
          · rw [d1, inner_Put.j1.eq, br_t, node_Leaf.eq, bnd_some]
            show bnd (plan_Add ((), ((0 : Int), ((), ()))) (leafV key val) [main]) _ = _
            rw [plAdd0 0 lk [main], bnd_some, eqI_d, decide_eq_true q, show notB true = false from rfl, br_f, hbare, bnd_some, ichunk_any hk, bnd_some]
            show bnd (branch_With (bN m ks 0 bi) ((chk key level bits : Nat) : Int) (-1)) _ = _
            rw [hw, bnd_some]
            show bnd (plan_Add_v1 ((), ((0 : Int), ((), ()))) (bN m' ks' 0 bi) [leafV key val] [main]) _ = _
            rw [plAdd 0 B'.ok.node _ (by show 1 ≤ _; omega), bnd_some]
            rfl
          · rw [d2, ref29_Put.j1.eq, br_t, eqI_d, decide_eq_true q, show notB true = false from rfl, br_f, hp, bnd_some, B'.made R' sz, bnd_some]
            show bnd (ref29_plan1 [leafV key val, bN m' ks' 0 bi] [main]) _ = _
            rw [plan1_any _ (by show 2 ≤ _; omega), bnd_some]
            rfl
        · refine .inl ⟨([leafV key val, bN m' ks' 0 bi], (-2, ([main, child], ()))), ?_, ?_, hnodes, by show 2 ≤ 100; omega, by show 2 ≤ 2; omega, fun z => absurd z h3, fun _ z => absurd z q⟩
          · rw [d1, inner_Put.j1.eq, br_t, node_Leaf.eq, bnd_some]
            show bnd (plan_Add ((), ((0 : Int), ((), ()))) (leafV key val) [main]) _ = _
            rw [plAdd0 0 lk [main], bnd_some, eqI_d, decide_eq_false q, show notB false = true from rfl, br_t]
            show br true (bnd (inner_bare n) _) none = _
            rw [br_t, hbare, bnd_some, ichunk_any hk, bnd_some]
            show bnd (branch_With (bN m ks 0 bi) ((chk key level bits : Nat) : Int) (-1)) _ = _
            rw [hw, bnd_some]
            show bnd (plan_Add_v1 ((), ((0 : Int), ((), ()))) (bN m' ks' 0 bi) [leafV key val] [main, child]) _ = _
            rw [plAdd 0 B'.ok.node _ (by show 1 ≤ _; omega), bnd_some]
            rfl
          · rw [d2, ref29_Put.j1.eq, br_t, eqI_d, decide_eq_false q, show notB false = true from rfl, br_t]
            show br true (bnd (ref19_Branch_Put (At, (sz, (bi, ()))) ((chk key level bits : Nat) : Int) (-1)) _) none = _
            rw [br_t, hp, bnd_some, B'.made R' sz, bnd_some]
            show bnd (ref29_plan1 [leafV key val, bN m' ks' 0 bi] [main, child]) _ = _
            rw [plan1_any _ (by show 2 ≤ _; omega), bnd_some]
            rfl
      · obtain rfl : b = false := by
          cases b with
          | false => rfl
          | true => exact absurd (hb.1 rfl) hf
        have hch : child ≠ 0 := fun z => hf (.inl z)
        have hne : c.2.1 ≠ key := fun z => hf (.inr z)
        have h1 : c.1 = 1 := Classical.byContradiction fun z => hr ⟨hch, z⟩
        obtain ⟨ns, old, T, r1, r2⟩ := itwo1_any hch hc h1 hk hv hne (lvl level bits) bits hll [main]
        obtain ⟨n0, nl⟩ := T.len
        have hnl : ns.length ≤ 27 := by omega
        have e1 : addI .i64 ((lvl level bits : Nat) : Int) 1 = ((lvl level bits + 1 : Nat) : Int) := add1 _ (by omega)
        have hnn : (-((ns.length : Int) + 1)) ≠ 0 := by omega
        obtain ⟨m', ks', B', hw⟩ := B0.put B0.self (chk key level bits) hnn
        obtain ⟨At', hp, R'⟩ := R0.put sz bi (chk key level bits) (-((ns.length : Int) + 1))
        have el : (ns ++ [innV (-(ns.length : Int))]).length = ns.length + 1 := by rw [List.length_append]; rfl
        have el2 : (ns ++ [innV (-(ns.length : Int)), bN m' ks' 0 bi]).length = ns.length + 2 := by rw [List.length_append]; rfl
        have hnodes : ∀ x ∈ ns ++ [innV (-(ns.length : Int)), bN m' ks' 0 bi], okN x := fun x hx => by
          rcases List.mem_append.1 hx with hx | hx
          · exact T.ok hc hk hv hne x hx
          rcases List.mem_cons.1 hx with rfl | hx
          · exact innV_ok _
          · rw [List.mem_singleton.1 hx]; exact B'.ok.node
        refine .inl ⟨(ns ++ [innV (-(ns.length : Int)), bN m' ks' 0 bi], (-((ns.length : Int) + 2), (main :: oldsT child old, ()))), ?_, ?_, hnodes, by show (ns ++ _).length ≤ 100; rw [el2]; omega, by unfold oldsT; cases old <;> (show _ ≤ 2; simp), fun z => absurd z h3, fun _ z => absurd z hch⟩
        · rw [d1, inner_Put.j1.eq, br_f, at_any, bnd_some, e1]
          show bnd (inner_two_v1 ((), ((0 : Int), ((), ()))) child c key val ((lvl level bits + 1 : Nat) : Int) bits [main]) _ = _
          rw [r2, bnd_some, node_Inner.eq, bnd_some]
          show bnd (plan_Add_v1 ((), ((0 : Int), ((), ()))) (innV (-(ns.length : Int))) ns [main]) _ = _
          rw [plAdd 0 (innV_ok _) ns (by omega), bnd_some]
          have rest : ∀ o : List Int, (bnd (inner_bare n) fun r14 => bnd (inner_chunk key level bits) fun r15 => bnd (branch_With r14 r15 (-(ns.length : Int) - 1)) fun r16 => bnd (plan_Add_v1 ((), ((0 : Int), ((), ()))) r16 (ns ++ [innV (-(ns.length : Int))]) o) fun r17 => (some ((r17.2.2.2.1, (r17.1.2.1, (r17.2.2.1, ()))), ((0 : Int), ())) : Option (PlnV × Int × Unit))) =
              some ((ns ++ [innV (-(ns.length : Int)), bN m' ks' 0 bi], (-((ns.length : Int) + 2), (o, ()))), (0, ())) := by
            intro o
            rw [hbare, bnd_some, ichunk_any hk, bnd_some, show -(ns.length : Int) - 1 = -((ns.length : Int) + 1) by omega, hw, bnd_some, plAdd 0 B'.ok.node _ (by omega), bnd_some, el]
            rw [show -(((ns.length + 1 : Nat) : Int)) - 1 = -((ns.length : Int) + 2) by omega, List.append_assoc]
            rfl
          cases old with
          | true =>
            show br true (br true _ none) _ = _
            rw [br_t, br_t]
            exact rest [main, child]
          | false =>
            show br false _ _ = _
            rw [br_f]
            exact rest [main]
        · rw [d2, ref29_Put.j1.eq, br_f, refat_any, bnd_some, e1, r1, bnd_some]
          have ez : subI .i64 0 (ofN (lenL tapiNode ns)) = -(ns.length : Int) := by rw [lenL_d, ofN_d, subI_d (by omega) (by omega)]; omega
          have ez2 : subI .i64 0 (ofN (lenL tapiNode (ns ++ [innV (-(ns.length : Int))]))) = -((ns.length : Int) + 1) := by
            rw [lenL_d, el, ofN_d, subI_d (by omega) (by omega)]; omega
          show br (fitL tapiNode (appL tapiNode ns [((5 : Int), (ByteArray.empty, (ByteArray.empty, ((0 : Int), ([], (subI .i64 0 (ofN (lenL tapiNode ns)), ([], ((0 : Int), ((0 : Int), ())))))))))])) (bnd (ref19_Branch_Put (At, (sz, (bi, ()))) ((chk key level bits : Nat) : Int) (subI .i64 0 (ofN (lenL tapiNode (appL tapiNode ns [((5 : Int), (ByteArray.empty, (ByteArray.empty, ((0 : Int), ([], (subI .i64 0 (ofN (lenL tapiNode ns)), ([], ((0 : Int), ((0 : Int), ())))))))))])))))
            fun r8 => bnd (ref29_made r8) fun r9 => br (fitL tapiNode (appL tapiNode (appL tapiNode ns [((5 : Int), (ByteArray.empty, (ByteArray.empty, ((0 : Int), ([], (subI .i64 0 (ofN (lenL tapiNode ns)), ([], ((0 : Int), ((0 : Int), ())))))))))]) [r9]))
              (br old (bnd (ref29_plan1 (appL tapiNode (appL tapiNode ns [((5 : Int), (ByteArray.empty, (ByteArray.empty, ((0 : Int), ([], (subI .i64 0 (ofN (lenL tapiNode ns)), ([], ((0 : Int), ((0 : Int), ())))))))))]) [r9]) [main, child]) fun r10 => some (r10, (true, ())))
                (bnd (ref29_plan1 (appL tapiNode (appL tapiNode ns [((5 : Int), (ByteArray.empty, (ByteArray.empty, ((0 : Int), ([], (subI .i64 0 (ofN (lenL tapiNode ns)), ([], ((0 : Int), ((0 : Int), ())))))))))]) [r9]) [main]) fun r11 => some (r11, (true, ())))) none) none = _
          rw [ez]
          show br (fitL tapiNode (ns ++ [innV (-(ns.length : Int))])) (bnd (ref19_Branch_Put (At, (sz, (bi, ()))) ((chk key level bits : Nat) : Int) (subI .i64 0 (ofN (lenL tapiNode (ns ++ [innV (-(ns.length : Int))])))))
            fun r8 => bnd (ref29_made r8) fun r9 => br (fitL tapiNode ((ns ++ [innV (-(ns.length : Int))]) ++ [r9]))
              (br old (bnd (ref29_plan1 ((ns ++ [innV (-(ns.length : Int))]) ++ [r9]) [main, child]) fun r10 => some (r10, (true, ())))
                (bnd (ref29_plan1 ((ns ++ [innV (-(ns.length : Int))]) ++ [r9]) [main]) fun r11 => some (r11, (true, ())))) none) none = _
          have ef : fitL tapiNode (ns ++ [innV (-(ns.length : Int)), bN m' ks' 0 bi]) = true := by rw [fitL_d, el2]; exact decide_eq_true (by omega)
          have ea : (ns ++ [innV (-(ns.length : Int))]) ++ [bN m' ks' 0 bi] = ns ++ [innV (-(ns.length : Int)), bN m' ks' 0 bi] := by rw [List.append_assoc]; rfl
          rw [ez2, hp, fitL_d, el, decide_eq_true (by omega), br_t, bnd_some, B'.made R' sz, bnd_some, ea, ef, br_t, plan1_any _ (by rw [el2]; omega), bnd_some, plan1_any _ (by rw [el2]; omega), bnd_some, el2]
          rw [show -(((ns.length + 2 : Nat) : Int)) = -((ns.length : Int) + 2) by omega]
          cases old <;> rfl
  · refine .inr ⟨h3, fun q => h2 q.1, ?_, ?_⟩
    · rw [inner_Put.eq, eqI_d, decide_eq_false h3, br_f, eqI_d, decide_eq_false h2, show notB false = true from rfl, br_t, inner_Put.j0.eq, br_t]
      rfl
    · rw [ref29_Put.eq, eqI_d, decide_eq_false h3, br_f, eqI_d, decide_eq_false h2, show notB false = true from rfl, br_t, ref29_Put.j0.eq, br_t]
      rfl
end Go.Proofs.YtimgaglpempfeaaGreat.AB
set_option linter.unusedVariables false
set_option linter.unusedSimpArgs false
namespace Go.Proofs.YtimgaglpempfeaaGreat.AB
open Go.Abs
abbrev CaseV : Type := Int × Int × Int × Int × ByteArray × ByteArray × Int × List Int × Int × List PairV × Int × Int × Int × ByteArray × ByteArray × Int × List Int × Int × List PairV × Int × Int × Int × ByteArray × ByteArray × Int × List Int × Int × List PairV × Int × Int × ByteArray × ByteArray × Int × Int × Unit
def mkC (m ch t : Int) (n c o : NodeV) (key val : ByteArray) (lv bits : Int) : CaseV := (m, (ch, (t, (n.1, (n.2.1, (n.2.2.1, (n.2.2.2.1, (n.2.2.2.2.1, (n.2.2.2.2.2.1, (n.2.2.2.2.2.2.1, (n.2.2.2.2.2.2.2.1, (n.2.2.2.2.2.2.2.2.1, (c.1, (c.2.1, (c.2.2.1, (c.2.2.2.1, (c.2.2.2.2.1, (c.2.2.2.2.2.1, (c.2.2.2.2.2.2.1, (c.2.2.2.2.2.2.2.1, (c.2.2.2.2.2.2.2.2.1, (o.1, (o.2.1, (o.2.2.1, (o.2.2.2.1, (o.2.2.2.2.1, (o.2.2.2.2.2.1, (o.2.2.2.2.2.2.1, (o.2.2.2.2.2.2.2.1, (o.2.2.2.2.2.2.2.2.1, (key, (val, (lv, (bits, ()))))))))))))))))))))))))))))))))))
theorem mkC_all (x : CaseV) : ∃ m ch t n c o key val lv bits, x = mkC m ch t n c o key val lv bits := ⟨x.1, x.2.1, x.2.2.1, (x.2.2.2.1, (x.2.2.2.2.1, (x.2.2.2.2.2.1, (x.2.2.2.2.2.2.1, (x.2.2.2.2.2.2.2.1, (x.2.2.2.2.2.2.2.2.1, (x.2.2.2.2.2.2.2.2.2.1, (x.2.2.2.2.2.2.2.2.2.2.1, (x.2.2.2.2.2.2.2.2.2.2.2.1, ()))))))))), (x.2.2.2.2.2.2.2.2.2.2.2.2.1, (x.2.2.2.2.2.2.2.2.2.2.2.2.2.1, (x.2.2.2.2.2.2.2.2.2.2.2.2.2.2.1, (x.2.2.2.2.2.2.2.2.2.2.2.2.2.2.2.1, (x.2.2.2.2.2.2.2.2.2.2.2.2.2.2.2.2.1, (x.2.2.2.2.2.2.2.2.2.2.2.2.2.2.2.2.2.1, (x.2.2.2.2.2.2.2.2.2.2.2.2.2.2.2.2.2.2.1, (x.2.2.2.2.2.2.2.2.2.2.2.2.2.2.2.2.2.2.2.1, (x.2.2.2.2.2.2.2.2.2.2.2.2.2.2.2.2.2.2.2.2.1, ()))))))))), (x.2.2.2.2.2.2.2.2.2.2.2.2.2.2.2.2.2.2.2.2.2.1, (x.2.2.2.2.2.2.2.2.2.2.2.2.2.2.2.2.2.2.2.2.2.2.1, (x.2.2.2.2.2.2.2.2.2.2.2.2.2.2.2.2.2.2.2.2.2.2.2.1, (x.2.2.2.2.2.2.2.2.2.2.2.2.2.2.2.2.2.2.2.2.2.2.2.2.1, (x.2.2.2.2.2.2.2.2.2.2.2.2.2.2.2.2.2.2.2.2.2.2.2.2.2.1, (x.2.2.2.2.2.2.2.2.2.2.2.2.2.2.2.2.2.2.2.2.2.2.2.2.2.2.1, (x.2.2.2.2.2.2.2.2.2.2.2.2.2.2.2.2.2.2.2.2.2.2.2.2.2.2.2.1, (x.2.2.2.2.2.2.2.2.2.2.2.2.2.2.2.2.2.2.2.2.2.2.2.2.2.2.2.2.1, (x.2.2.2.2.2.2.2.2.2.2.2.2.2.2.2.2.2.2.2.2.2.2.2.2.2.2.2.2.2.1, ()))))))))), x.2.2.2.2.2.2.2.2.2.2.2.2.2.2.2.2.2.2.2.2.2.2.2.2.2.2.2.2.2.2.1, x.2.2.2.2.2.2.2.2.2.2.2.2.2.2.2.2.2.2.2.2.2.2.2.2.2.2.2.2.2.2.2.1, x.2.2.2.2.2.2.2.2.2.2.2.2.2.2.2.2.2.2.2.2.2.2.2.2.2.2.2.2.2.2.2.2.1, x.2.2.2.2.2.2.2.2.2.2.2.2.2.2.2.2.2.2.2.2.2.2.2.2.2.2.2.2.2.2.2.2.2.1, rfl⟩
def max1 (k : Int) : Int := max k 1
def kid1 (n : NodeV) : NodeV := (n.1, (n.2.1, (n.2.2.1, (n.2.2.2.1, (n.2.2.2.2.1.map max1, n.2.2.2.2.2)))))
theorem FewO_any (n : NodeV) (h1 : n.2.2.2.2.1.length ≤ 9223372036854775807) (h2 : n.2.2.2.2.2.2.1.length ≤ 9223372036854775807) : law13_Few n = some ((n.1, (cut 40 n.2.1, (cut 40 n.2.2.1, (n.2.2.2.1, ((), (n.2.2.2.2.2.1, (fewL n.2.2.2.2.2.2.1, n.2.2.2.2.2.2.2))))))), (n.2.2.2.2.1.take 40, ())) := by
  rw [law13_Few.eq, base_Cut_40, bnd_some, base_Cut_40, bnd_some]
  simp only [ltI_d, leI_d, ofN_d, lenL_d, andB_d, br_if, fitL_d, appL_d, minI_d, List.nil_append]
  have e : toN (min (n.2.2.2.2.1.length : Int) 40) = min n.2.2.2.2.1.length 40 := by unfold toN; omega
  have e0 : toN 0 = 0 := rfl
  rw [if_pos (by omega), e, e0, subL0]
  have e2 : n.2.2.2.2.1.take (min n.2.2.2.2.1.length 40) = n.2.2.2.2.1.take 40 := by
    by_cases h : n.2.2.2.2.1.length ≤ 40
    · rw [Nat.min_eq_left h, List.take_of_length_le (Nat.le_refl _), List.take_of_length_le h]
    · rw [Nat.min_eq_right (by omega)]
  rw [e2, if_pos (by rw [List.length_take]; omega), few_any _ h2, bnd_some]
theorem few29_loop (ks : List Int) (hl : ks.length ≤ 1000) (X) (Y) (x4 x5 x6 x7 x8 x9 x10 x11) (d : Nat) : ∀ (i : Nat), i ≤ ks.length → ks.length - i = d →
    law29_few.l0 i X Y ((ks.take i).map max1 ++ ks.drop i) x4 x5 x6 x7 x8 x9 x10 x11 = law29_few.l0 ks.length X Y (ks.map max1) x4 x5 x6 x7 x8 x9 x10 x11 := by
  induction d with
  | zero =>
    intro i hi hd
    rw [show i = ks.length by omega, List.take_length, List.drop_length, List.append_nil]
  | succ d ih =>
    intro i hi hd
    have hil : i < ks.length := by omega
    have hpl : ((ks.take i).map max1).length = i := by rw [List.length_map, List.length_take]; omega
    have hlen : ((ks.take i).map max1 ++ ks.drop i).length = ks.length := by rw [List.length_append, hpl, List.length_drop]; omega
    have hget : ixL (.int .i64) ((ks.take i).map max1 ++ ks.drop i) (i : Int) = ks[i] := by
      rw [ixR _ i (by omega), List.getElem_append_right (by omega), List.getElem_drop]
      congr 1
      omega
    have hset : setL (.int .i64) ((ks.take i).map max1 ++ ks.drop i) (i : Int) (max1 ks[i]) = (ks.take (i + 1)).map max1 ++ ks.drop (i + 1) := by
      unfold setL
      rw [Int.toNat_natCast, List.set_append_right _ _ (by omega), hpl, Nat.sub_self, List.drop_eq_getElem_cons hil, List.set_cons_zero, List.take_succ_eq_append_getElem hil, List.map_append, List.append_assoc]
      rfl
    rw [law29_few.l0.eq, hget, show maxI ks[i] 1 = max1 ks[i] from maxI_d _ _, hset]
    simp only [ltI_d, leI_d, ofN_d, lenL_d, andB_d, br_if]
    rw [if_pos (by omega), if_pos (by omega), if_pos (by omega), add1 i (by omega)]
    exact ih (i + 1) (by omega) (by omega)
theorem few29_any (m ch t : Int) (n c o : NodeV) (key val : ByteArray) (lv bits : Int) (hn : n.2.2.2.2.1.length ≤ 9223372036854775807 ∧ n.2.2.2.2.2.2.1.length ≤ 9223372036854775807) (hc : c.2.2.2.2.1.length ≤ 9223372036854775807 ∧ c.2.2.2.2.2.2.1.length ≤ 9223372036854775807) (ho : o.2.2.2.2.1.length ≤ 9223372036854775807 ∧ o.2.2.2.2.2.2.1.length ≤ 9223372036854775807) :
    law29_few (mkC m ch t n c o key val lv bits) = some (mkC m ch t (kid1 (few n)) (few c) (few o) (cut 40 key) (cut 40 val) lv bits) := by
  rw [law29_few.eq]
  show bnd (law13_Few n) (fun r0 => bnd (law13_Few c) fun r1 => bnd (law13_Few o) fun r2 => _) = _
  rw [FewO_any n hn.1 hn.2, bnd_some, FewO_any c hc.1 hc.2, bnd_some, FewO_any o ho.1 ho.2, bnd_some]
  have hl : (n.2.2.2.2.1.take 40).length ≤ 1000 := by rw [List.length_take]; omega
  refine (few29_loop (n.2.2.2.2.1.take 40) hl _ _ _ _ _ _ _ _ _ _ (n.2.2.2.2.1.take 40).length 0 (by omega) (by omega)).trans ?_
  have ef : ltI (((n.2.2.2.2.1.take 40).length : Nat) : Int) (ofN (lenL (.int .i64) ((n.2.2.2.2.1.take 40).map max1))) = false := by
    rw [ltI_d, ofN_d, lenL_d, List.length_map]
    exact decide_eq_false (by omega)
  rw [law29_few.l0.eq, ef, br_f]
  show bnd (base_Cut key 40) (fun r0 => bnd (base_Cut val 40) fun r1 => _) = _
  rw [base_Cut_40, bnd_some, base_Cut_40, bnd_some]
  rfl
theorem kid1_len (n : NodeV) : (kid1 n).2.2.2.2.1.length = n.2.2.2.2.1.length := by show (List.map _ _).length = _; rw [List.length_map]
theorem kid1_kid1 (n : NodeV) : kid1 (few (kid1 (few n))) = kid1 (few n) := by
  unfold kid1 few
  dsimp only
  rw [cut_cut, cut_cut, fewL_fewL, ← List.map_take, List.take_take, Nat.min_self, List.map_map]
  have : (max1 ∘ max1) = max1 := by funext k; show max (max k 1) 1 = max k 1; omega
  rw [this]
theorem okN.kid1 {n : NodeV} (h : okN n) : okN (kid1 n) := ⟨h.key, h.val, h.map0, h.map1, by rw [kid1_len]; exact h.kids, h.list, h.binds⟩
/-- A case as it is then. -/
structure CaseOK (F : CaseV) : Prop where
  same : law29_few F = some F
  okn : okN (F.2.2.2.1, (F.2.2.2.2.1, (F.2.2.2.2.2.1, (F.2.2.2.2.2.2.1, (F.2.2.2.2.2.2.2.1, (F.2.2.2.2.2.2.2.2.1, (F.2.2.2.2.2.2.2.2.2.1, (F.2.2.2.2.2.2.2.2.2.2.1, (F.2.2.2.2.2.2.2.2.2.2.2.1, ())))))))))
  nl : F.2.2.2.2.2.2.2.2.2.1.length ≤ 40
  okc : okN (F.2.2.2.2.2.2.2.2.2.2.2.2.1, (F.2.2.2.2.2.2.2.2.2.2.2.2.2.1, (F.2.2.2.2.2.2.2.2.2.2.2.2.2.2.1, (F.2.2.2.2.2.2.2.2.2.2.2.2.2.2.2.1, (F.2.2.2.2.2.2.2.2.2.2.2.2.2.2.2.2.1, (F.2.2.2.2.2.2.2.2.2.2.2.2.2.2.2.2.2.1, (F.2.2.2.2.2.2.2.2.2.2.2.2.2.2.2.2.2.2.1, (F.2.2.2.2.2.2.2.2.2.2.2.2.2.2.2.2.2.2.2.1, (F.2.2.2.2.2.2.2.2.2.2.2.2.2.2.2.2.2.2.2.2.1, ())))))))))
  key : F.2.2.2.2.2.2.2.2.2.2.2.2.2.2.2.2.2.2.2.2.2.2.2.2.2.2.2.2.2.2.1.size ≤ 40
  val : F.2.2.2.2.2.2.2.2.2.2.2.2.2.2.2.2.2.2.2.2.2.2.2.2.2.2.2.2.2.2.2.1.size ≤ 40
  main : 0 ≤ F.1 ∧ F.1 < 65536
  child : 0 ≤ F.2.1 ∧ F.2.1 < 65536
theorem wf_u16 {a : Int} (h : (Lit.int .u16 a).wf = true) : 0 ≤ a ∧ a < 65536 := by
  simp [Lit.wf, IntKind.min, IntKind.max, IntKind.bits, IntKind.signed] at h
  omega
theorem case_any {x : CaseV} (h : wfD tboscagelaw29Case x) : ∃ F, law29_few x = some F ∧ CaseOK F := by
  obtain ⟨m, ch, t, n, c, o, key, val, lv, bits, rfl⟩ := mkC_all x
  obtain ⟨hm, hch, ht, n1, n2, n3, n4, n5, n6, n7, n8, n9, c1, c2, c3, c4, c5, c6, c7, c8, c9, o1, o2, o3, o4, o5, o6, o7, o8, o9, _⟩ := h
  have wn : wfD tapiNode n := ⟨n1, n2, n3, n4, n5, n6, n7, n8, n9, trivial⟩
  have wc : wfD tapiNode c := ⟨c1, c2, c3, c4, c5, c6, c7, c8, c9, trivial⟩
  have okn := few_okN wn
  have okc := few_okN wc
  refine ⟨_, few29_any m ch t n c o key val lv bits ⟨n5.1, n7.1⟩ ⟨c5.1, c7.1⟩ ⟨o5.1, o7.1⟩, ?_⟩
  have lenf : ∀ a : NodeV, (few a).2.2.2.2.1.length ≤ 40 ∧ (few a).2.2.2.2.2.2.1.length ≤ 40 := fun a => ⟨by show (List.take 40 _).length ≤ 40; rw [List.length_take]; omega, fewL_len _⟩
  refine ⟨?_, okn.kid1, (lenf n).2, okc, by show (cut 40 key).size ≤ 40; rw [cut_size]; omega, by show (cut 40 val).size ≤ 40; rw [cut_size]; omega, wf_u16 hm, wf_u16 hch⟩
  rw [few29_any _ _ _ _ _ _ _ _ _ _ ⟨by rw [kid1_len]; have := (lenf n).1; omega, by show (few n).2.2.2.2.2.2.1.length ≤ _; have := (lenf n).2; omega⟩ ⟨by have := (lenf c).1; omega, by have := (lenf c).2; omega⟩ ⟨by have := (lenf o).1; omega, by have := (lenf o).2; omega⟩, kid1_kid1, few_few, few_few, cut_cut, cut_cut]
theorem ref1_any {a : Int} (h : 0 ≤ a ∧ a < 65536) : law29_ref1 a = some (1 + a) := by
  rw [law29_ref1.eq]
  have e : wrapI .i64 a = a := wrap_i64_id (by omega) (by omega)
  rw [e, addI_d (by omega) (by omega)]
theorem ref0_any {a : Int} (h : 0 ≤ a ∧ a < 65536) : law29_ref0 a = some a := by
  rw [law29_ref0.eq]
  have e : wrapI .i64 a = a := wrap_i64_id (by omega) (by omega)
  rw [e]
/-! ### What is asked of plans -/
theorem samep_loop (p : PlnV) (hl : p.2.2.1.length ≤ 1000) (d : Nat) : ∀ (i : Nat), i ≤ p.2.2.1.length → p.2.2.1.length - i = d → ref29_Same.l0 i p p = some true := by
  induction d with
  | zero =>
    intro i hi hd
    rw [ref29_Same.l0.eq]
    simp only [ltI_d, ofN_d, lenL_d, br_if]
    rw [if_neg (by omega)]
  | succ d ih =>
    intro i hi hd
    rw [ref29_Same.l0.eq]
    simp only [ltI_d, leI_d, eqI_d, notB_d, ofN_d, lenL_d, andB_d, br_if]
    rw [if_pos (by omega), if_pos (by omega), if_pos (by omega), if_neg (fun q => q trivial), add1 i (by omega)]
    exact ih (i + 1) (by omega) (by omega)
theorem samep_any (p : PlnV) (hn : ∀ m ∈ p.1, okN m) (hl : p.1.length ≤ 1000) (ho : p.2.2.1.length ≤ 1000) : ref29_Same p p = some true := by
  rw [ref29_Same.eq, eqI_d, decide_eq_true rfl, show notB true = false from rfl, br_f, eqI_d, decide_eq_true rfl, show notB true = false from rfl, br_f, sameH_any _ _ (by omega) (fun m hm => (hn m hm).small), bnd_some, decide_eq_true rfl, show notB true = false from rfl, br_f]
  exact samep_loop p ho p.2.2.1.length 0 (by omega) (by omega)
theorem told_ok (p : PlnV) (hn : ∀ m ∈ p.1, okN m) (hl : p.1.length ≤ 1000) (ho : p.2.2.1.length ≤ 1000) : law29_told p 0 p true = some true := by
  rw [law29_told.eq, show notB true = false from rfl, br_f, eqI_d, decide_eq_true rfl, br_t, law18_Back.eq, bnd_some, samep_any p hn hl ho, bnd_some]
theorem told_no : law29_told noPl 4 noPl false = some true := by
  rw [law29_told.eq, show notB false = true from rfl, br_t]
  rfl
/-! ### The example -/
theorem works29 : law29_works = some true := by
  rw [law29_works.eq, branchO_0, bnd_some]
  have hz : okN zeroN := ⟨by show (0 : Nat) ≤ 40; omega, by show (0 : Nat) ≤ 40; omega, Int.le_refl _, by show (0 : Int) < 4294967296; omega, by show (0 : Nat) ≤ 1000000; omega, by show (0 : Nat) ≤ 1000000; omega, fun p hp => (by cases hp)⟩
  rcases iput_any (main := 7) okB.empty.node (by show 0 ≤ 1000; omega) (child := 0) hz (key := ByteArray.mk #[97]) (val := ByteArray.mk #[49]) (by decide) (by decide) 0 64 with ⟨p, e1, _, _, _, _, _, e2⟩ | ⟨_, q, _⟩
  · obtain ⟨m, ks, bi, rfl⟩ := e2 rfl rfl
    show bnd (inner_Put 7 (bN 0 [] 0 0) 0 zeroN (ByteArray.mk #[97]) (ByteArray.mk #[49]) 0 64) _ = _
    rw [e1, bnd_some]
    show br (eqS (ByteArray.mk #[97]) (ByteArray.mk #[97])) (some true) (some false) = _
    rw [eqS_d, decide_eq_true rfl, br_t]
  · exact absurd ⟨rfl, rfl⟩ q
end Go.Proofs.YtimgaglpempfeaaGreat.AB
set_option linter.unusedVariables false
set_option linter.unusedSimpArgs false
namespace Go.Proofs.YtimgaglpempfeaaGreat.AB
open Go.Abs
/-! ### Whether a plan may be -/
theorem ahead_any (r : Int) (h : rng r) (i : Nat) (hi : i ≤ 1000000) : plan_ahead r i = some (decide (-(i : Int) ≤ r)) := by
  unfold rng at h
  rw [plan_ahead.eq, which_any r h, bnd_some]
  by_cases h1 : r < 0
  · rw [if_pos h1, show notB true = false from rfl, br_f, ltI_d]
    exact some_bool (decide_eq_decide.2 (by omega))
  · rw [if_neg h1, show notB false = true from rfl, br_t]
    exact some_bool (decide_eq_true (by omega)).symm
theorem any_drop {p : Int → Bool} (l : List Int) (i : Nat) (h : i < l.length) : (l.drop i).any p = (p l[i] || (l.drop (i + 1)).any p) := by
  rw [List.drop_eq_getElem_cons h, List.any_cons]
theorem index0 (l : List Int) (hl : l.length ≤ 1000000) (hr : ∀ r ∈ l, rng r) (b : Nat) (hb : b ≤ 1000000) (d : Nat) : ∀ (i : Nat), i ≤ l.length → l.length - i = d → ∃ x : Int, slices_IndexFuncapi_Ref_api_Ref.l0 l ((), ()) l.length i b = some (x, ((b : Int), ())) ∧ (0 ≤ x ↔ (l.drop i).any (fun r => !decide (-(b : Int) ≤ r)) = true) := by
  induction d with
  | zero =>
    intro i hi hd
    rw [slices_IndexFuncapi_Ref_api_Ref.l0.eq]
    simp only [ltI_d, br_if]
    rw [if_neg (by omega), List.drop_eq_nil_of_le (by omega)]
    exact ⟨-1, rfl, by simp⟩
  | succ d ih =>
    intro i hi hd
    have hil : i < l.length := by omega
    rw [slices_IndexFuncapi_Ref_api_Ref.l0.eq, ixR l i hil, plan_May_1.eq, ahead_any _ (hr _ (List.getElem_mem hil)) b hb, bnd_some, bnd_some]
    simp only [ltI_d, leI_d, notB_d, ofN_d, lenL_d, andB_d, br_if]
    rw [if_pos (by omega), if_pos (by omega), add1 i (by omega), any_drop l i hil]
    by_cases h1 : -(b : Int) ≤ l[i]
    · rw [if_neg (fun q => q h1), decide_eq_true h1, Bool.not_true, Bool.false_or]
      exact ih (i + 1) (by omega) (by omega)
    · rw [if_pos h1, decide_eq_false h1, Bool.not_false, Bool.true_or]
      exact ⟨i, rfl, fun _ => rfl, fun _ => by omega⟩
theorem contains0 (l : List Int) (hl : l.length ≤ 1000000) (hr : ∀ r ∈ l, rng r) (b : Nat) (hb : b ≤ 1000000) : slices_ContainsFuncapi_Ref_api_Ref l ((), ()) b = some (l.any (fun r => !decide (-(b : Int) ≤ r)), ((b : Int), ())) := by
  obtain ⟨x, h1, h2⟩ := index0 l hl hr b hb l.length 0 (by omega) (by omega)
  rw [slices_ContainsFuncapi_Ref_api_Ref.eq, slices_IndexFuncapi_Ref_api_Ref.eq]
  have h1 : slices_IndexFuncapi_Ref_api_Ref.l0 l ((), ()) (ofN (lenL (.int .i64) l)) 0 b = some (x, ((b : Int), ())) := h1
  rw [h1, bnd_some, leI_d]
  rw [List.drop_zero] at h2
  have : decide ((0 : Int) ≤ x) = l.any (fun r => !decide (-(b : Int) ≤ r)) := by rw [Bool.eq_iff_iff, decide_eq_true_iff]; exact h2
  rw [this]
theorem index1 (l : List Int) (hl : l.length ≤ 1000000) (d : Nat) : ∀ (i : Nat), i ≤ l.length → l.length - i = d → ∃ x : Int, slices_IndexFuncapi_Ref_api_Ref_v1.l0 l l.length i = some x ∧ (0 ≤ x ↔ (l.drop i).any (fun r => decide (r ≤ 0)) = true) := by
  induction d with
  | zero =>
    intro i hi hd
    rw [slices_IndexFuncapi_Ref_api_Ref_v1.l0.eq]
    simp only [ltI_d, br_if]
    rw [if_neg (by omega), List.drop_eq_nil_of_le (by omega)]
    exact ⟨-1, rfl, by simp⟩
  | succ d ih =>
    intro i hi hd
    have hil : i < l.length := by omega
    rw [slices_IndexFuncapi_Ref_api_Ref_v1.l0.eq, ixR l i hil, plan_May_2.eq, bnd_some]
    simp only [ltI_d, leI_d, notB_d, ofN_d, lenL_d, andB_d, br_if]
    rw [if_pos (by omega), if_pos (by omega), add1 i (by omega), any_drop l i hil]
    by_cases h1 : l[i] ≤ 0
    · rw [if_pos h1, decide_eq_true h1, Bool.true_or]
      exact ⟨i, rfl, fun _ => rfl, fun _ => by omega⟩
    · rw [if_neg h1, decide_eq_false h1, Bool.false_or]
      exact ih (i + 1) (by omega) (by omega)
theorem contains1 (l : List Int) (hl : l.length ≤ 1000000) : slices_ContainsFuncapi_Ref_api_Ref_v1 l = some (l.any (fun r => decide (r ≤ 0))) := by
  obtain ⟨x, h1, h2⟩ := index1 l hl l.length 0 (by omega) (by omega)
  rw [slices_ContainsFuncapi_Ref_api_Ref_v1.eq, slices_IndexFuncapi_Ref_api_Ref_v1.eq]
  have h1 : slices_IndexFuncapi_Ref_api_Ref_v1.l0 l (ofN (lenL (.int .i64) l)) 0 = some x := h1
  rw [h1, bnd_some, leI_d]
  rw [List.drop_zero] at h2
  exact some_bool (by rw [Bool.eq_iff_iff, decide_eq_true_iff]; exact h2)
def mayPL : Nat → List NodeV → Bool
  | _, [] => true
  | i, n :: l => (decide (mayS n = 0) && (refsS n).all fun r => decide (-(i : Int) ≤ r)) && mayPL (i + 1) l
def mayP (p : PlanV) : Bool := mayPL 0 p.1 && (p.2.2.1.all (fun r => decide (1 ≤ r)) && decide (-(p.1.length : Int) ≤ p.2.1))
theorem any_not_all (l : List Int) (p : Int → Bool) : l.any (fun r => !p r) = !l.all p := by
  induction l with
  | nil => rfl
  | cons a l ih => rw [List.any_cons, List.all_cons, ih, Bool.not_and]
theorem mayp_loop (p : PlanV) (h : okPl p) (d : Nat) : ∀ (i : Nat), i ≤ p.1.length → p.1.length - i = d → plan_May.l0 p.1 p.1.length i p = some (if (mayPL i (p.1.drop i) && (p.2.2.1.all (fun r => decide (1 ≤ r)) && decide (-(p.1.length : Int) ≤ p.2.1))) = true then 0 else 4) := by
  have hl := h.len
  have hold := h.old
  induction d with
  | zero =>
    intro i hi hd
    rw [plan_May.l0.eq]
    simp only [ltI_d, ofN_d, lenL_d, br_if]
    rw [if_neg (by omega), ahead_any _ h.root _ (by omega), bnd_some, contains1 _ (by omega), bnd_some, List.drop_eq_nil_of_le (by omega), notB_d, br_if, br_b]
    rw [show mayPL i [] = true from rfl, Bool.true_and]
    have e : p.2.2.1.any (fun r => decide (r ≤ 0)) = !p.2.2.1.all (fun r => decide (1 ≤ r)) := by
      rw [← any_not_all]
      congr 1
      funext r
      rw [Bool.eq_iff_iff, Bool.not_eq_true', decide_eq_true_iff, decide_eq_false_iff_not]
      omega
    rw [e]
    by_cases h1 : -(p.1.length : Int) ≤ p.2.1
    · rw [if_neg (fun q => q h1), decide_eq_true h1, Bool.and_true]
      cases p.2.2.1.all (fun r => decide (1 ≤ r)) <;> rfl
    · rw [if_pos h1, decide_eq_false h1, Bool.and_false, if_neg (by simp)]
  | succ d ih =>
    intro i hi hd
    have hil : i < p.1.length := by omega
    have hm := List.getElem_mem hil
    have o := h.node _ hm
    have hrl := refsS_len p.1[i]
    have hkl := h.few _ hm
    rw [plan_May.l0.eq, ixN p.1 i hil, may_any _ o, bnd_some, refs_any _ o, bnd_some, contains0 _ (by omega) (refs_rng (h.rngs _ hm)) i (by omega), bnd_some]
    simp only [ltI_d, leI_d, eqI_d, notB_d, ofN_d, lenL_d, andB_d, br_if]
    simp only [br_b]
    rw [if_pos (by omega), if_pos (by omega), add1 i (by omega), ih (i + 1) (by omega) (by omega), List.drop_eq_getElem_cons hil, any_not_all]
    rw [show mayPL i (p.1[i] :: p.1.drop (i + 1)) = ((decide (mayS p.1[i] = 0) && (refsS p.1[i]).all fun r => decide (-(i : Int) ≤ r)) && mayPL (i + 1) (p.1.drop (i + 1))) from rfl]
    by_cases hz : mayS p.1[i] = 0
    · rw [if_neg (fun q => q hz), decide_eq_true hz, Bool.true_and]
      cases (refsS p.1[i]).all fun r => decide (-(i : Int) ≤ r) with
      | true => rw [if_neg (by simp), Bool.true_and]
      | false => rw [if_pos (show (!false) = true from rfl), Bool.false_and, Bool.false_and, if_neg (by simp)]
    · rw [if_pos hz, decide_eq_false hz, Bool.false_and, Bool.false_and, Bool.false_and, if_neg (by simp)]
theorem mayp_any (p : PlanV) (h : okPl p) : plan_May p = some (if mayP p = true then 0 else 4) := by
  rw [plan_May.eq]
  exact mayp_loop p h p.1.length 0 (by omega) (by omega)
/-! ### Whether a heap has what a plan refers to -/
def refsL (l : List NodeV) : List Int := l.flatMap refsS
def fitsL (h : List NodeV) (l : List Int) : Bool := l.all fun r => decide (r ≤ (h.length : Int))
def fitsP (h : List NodeV) (p : PlanV) : Bool := fitsL h ((p.2.2.1 ++ [p.2.1]) ++ refsL p.1)
theorem refsL_len : ∀ (l : List NodeV), (∀ n ∈ l, n.2.2.2.2.1.length ≤ 40) → (refsL l).length ≤ 41 * l.length
  | [], _ => by simp [refsL]
  | n :: l, h => by
    have := refsL_len l (fun m hm => h m (by simp [hm]))
    have h1 := refsS_len n
    have h2 := h n (by simp)
    unfold refsL at this ⊢
    rw [List.flatMap_cons, List.length_append, List.length_cons]
    omega
/-! ### A plan done -/
def doL (out : List NodeV) (to : List Int) : List NodeV → List NodeV × List Int
  | [] => (out, to)
  | n :: l => doL (out ++ [fillS to n]) (to ++ [((out.length + 1 : Nat) : Int)]) l
theorem doL_to : ∀ (l out : List NodeV) (to : List Int), (doL out to l).2.length = to.length + l.length
  | [], _, _ => rfl
  | n :: l, out, to => by
    unfold doL
    rw [doL_to l]
    simp only [List.length_append, List.length_cons, List.length_nil]
    omega
theorem doL_out : ∀ (l out : List NodeV) (to : List Int), ∃ r, (doL out to l).1 = out ++ r ∧ r.length = l.length ∧ ((∀ n ∈ l, small n) → ∀ n ∈ r, small n)
  | [], out, _ => ⟨[], (List.append_nil out).symm, rfl, fun _ n hn => by cases hn⟩
  | n :: l, out, to => by
    obtain ⟨r, h1, h2, h3⟩ := doL_out l (out ++ [fillS to n]) (to ++ [((out.length + 1 : Nat) : Int)])
    refine ⟨fillS to n :: r, ?_, by rw [List.length_cons, List.length_cons, h2], fun hs m hm => ?_⟩
    · unfold doL
      rw [h1, List.append_assoc]
      rfl
    · rcases List.mem_cons.1 hm with rfl | hm
      · exact fillS_small (hs n (by simp))
      · exact h3 (fun a ha => hs a (by simp [ha])) m hm
def doS (h : List NodeV) (p : PlanV) : List NodeV × List Int := doL h [] p.1
theorem root_in {p : PlanV} (h : mayP p = true) (out : List NodeV) : (refR (doL out [] p.1).2 p.2.1).isSome = true := by
  have hlen := doL_to p.1 out []
  unfold mayP at h
  simp only [Bool.and_eq_true, decide_eq_true_eq] at h
  have h3 := h.2.2
  unfold refR
  by_cases h1 : 0 ≤ p.2.1
  · rw [if_pos h1]; rfl
  · have : -1 - p.2.1 < (((doL out [] p.1).2.length : Nat) : Int) := by
      rw [hlen]
      show _ < ((([] : List Int).length + p.1.length : Nat) : Int)
      simp only [List.length_nil]
      omega
    rw [if_neg h1, if_pos this]
    rfl
end Go.Proofs.YtimgaglpempfeaaGreat.AB
set_option linter.unusedVariables false
set_option linter.unusedSimpArgs false
namespace Go.Proofs.YtimgaglpempfeaaGreat.AB
open Go.Abs
/-! ### Buckets without a key -/
def dropI (k : ByteArray) (l : List PairV) : List PairV := l.filter fun p => decide (p.1 ≠ k)
theorem dropI_id {k : ByteArray} {l : List PairV} (h : ∀ p ∈ l, p.1 ≠ k) : dropI k l = l := by
  unfold dropI
  rw [List.filter_eq_self]
  intro p hp
  exact decide_eq_true (h p hp)
theorem lt_irr (x : ByteArray) : lt x x = false := by
  rcases tri x x with ⟨_, _, e⟩ | ⟨_, e, _⟩ | ⟨_, _, e⟩
  · exact absurd rfl e
  · exact e
  · exact absurd rfl e
theorem at_place {l : List PairV} {k : ByteArray} (hS : Srt l) {pos : Nat} (h3 : ∀ (a : Nat) (h : a < l.length), a < pos → lt l[a].1 k = true) (h4 : ∀ (a : Nat) (h : a < l.length), pos ≤ a → lt l[a].1 k = false) {a : Nat} (ha : a < l.length) (e : l[a].1 = k) : a = pos := by
  rcases Nat.lt_trichotomy a pos with q | q | q
  · have := h3 a ha q
    rw [e, lt_irr] at this
    cases this
  · exact q
  · have h1 := srt_get hS ha q
    have h2 := h4 pos (by omega) (Nat.le_refl _)
    rw [e, h2] at h1
    cases h1
theorem pdrop_any {l : List PairV} (hl : l.length ≤ 40000000) (hs : ∀ p ∈ l, okP p) (k : ByteArray) : pair_Drop l k = some (dropI k (makeS l)) := by
  have hS := make_srtI l
  have hsl := makeS_len l
  have hso := makeS_ok hs
  rw [pair_Drop.eq, ordered_any hl hs, bnd_some, cloneP_any _ (by omega), bnd_some]
  generalize makeS l = S at hS hsl hso ⊢
  obtain ⟨pos, h1, h2, h3, h4⟩ := place_any S k (by omega) hso hS
  show bnd (pair_place S k) _ = _
  rw [h1, bnd_some]
  by_cases hp : ∃ h : pos < S.length, S[pos].1 = k
  · rw [decide_eq_true hp, show notB true = false from rfl, br_f]
    obtain ⟨hpl, hpk⟩ := hp
    rw [add1 pos (by omega), slices_Deleteapi_Pair_api_Pair.eq]
    have hg : delG tapiPair S ((pos : Nat) : Int) ((pos + 1 : Nat) : Int) = true := by
      unfold delG
      exact decide_eq_true ⟨by omega, by omega, by rw [Int.toNat_natCast]; omega⟩
    show bnd (br (delG tapiPair S ((pos : Nat) : Int) ((pos + 1 : Nat) : Int)) _ none) _ = _
    rw [hg, br_t, bnd_some]
    show some (delL tapiPair S ((pos : Nat) : Int) ((pos + 1 : Nat) : Int)) = _
    congr 1
    unfold delL
    rw [Int.toNat_natCast, Int.toNat_natCast]
    have e : S = S.take pos ++ S[pos] :: S.drop (pos + 1) := by rw [← List.drop_eq_getElem_cons hpl, List.take_append_drop]
    have t1 : ∀ p ∈ S.take pos, p.1 ≠ k := fun p hp q => by
      obtain ⟨a, ha, rfl⟩ := List.mem_iff_getElem.1 hp
      rw [List.length_take] at ha
      rw [List.getElem_take] at q
      have := at_place hS h3 h4 (show a < S.length by omega) q
      omega
    have t2 : ∀ p ∈ S.drop (pos + 1), p.1 ≠ k := fun p hp q => by
      obtain ⟨a, ha, rfl⟩ := List.mem_iff_getElem.1 hp
      rw [List.length_drop] at ha
      rw [List.getElem_drop] at q
      have := at_place hS h3 h4 (show pos + 1 + a < S.length by omega) q
      omega
    conv => rhs; rw [e]
    unfold dropI
    rw [List.filter_append, List.filter_cons_of_neg (by simpa using hpk)]
    have f1 := dropI_id t1
    have f2 := dropI_id t2
    unfold dropI at f1 f2
    rw [f1, f2]
  · rw [decide_eq_false hp, show notB false = true from rfl, br_t]
    show some S = _
    rw [dropI_id fun p hpm q => by
      obtain ⟨a, ha, rfl⟩ := List.mem_iff_getElem.1 hpm
      have := at_place hS h3 h4 ha q
      subst this
      exact hp ⟨ha, q⟩]
theorem pget_some {l : List PairV} (hl : l.length ≤ 40000000) (hs : ∀ p ∈ l, okP p) (k : ByteArray) : ∃ v b, pair_Get l k = some (v, (b, ())) := by
  have hS := make_srtI l
  have hsl := makeS_len l
  have hso := makeS_ok hs
  rw [pair_Get.eq, ordered_any hl hs, bnd_some]
  generalize makeS l = S at hS hsl hso ⊢
  obtain ⟨pos, h1, h2, h3, h4⟩ := place_any S k (by omega) hso hS
  rw [h1, bnd_some]
  by_cases hp : ∃ h : pos < S.length, S[pos].1 = k
  · rw [decide_eq_true hp, show notB true = false from rfl, br_f]
    obtain ⟨hpl, hpk⟩ := hp
    simp only [ltI_d, leI_d, ofN_d, lenL_d, andB_d, br_if]
    rw [if_pos (by omega)]
    exact ⟨_, _, rfl⟩
  · rw [decide_eq_false hp, show notB false = true from rfl, br_t]
    exact ⟨_, _, rfl⟩
theorem rdropI_loop (k : ByteArray) (l : List PairV) (hl : l.length ≤ 50000000) (d : Nat) : ∀ (i : Nat) (acc : List PairV), i ≤ l.length → l.length - i = d → acc.length ≤ i → ref07_Drop.l0 k l i acc = some (acc ++ dropI k (l.drop i)) := by
  induction d with
  | zero =>
    intro i acc hi hd ha
    rw [ref07_Drop.l0.eq]
    simp only [ltI_d, ofN_d, lenL_d, br_if]
    rw [if_neg (by omega), List.drop_eq_nil_of_le (by omega)]
    exact congrArg some (List.append_nil acc).symm
  | succ d ih =>
    intro i acc hi hd ha
    have hil : i < l.length := by omega
    rw [ref07_Drop.l0.eq, ixP l i hil]
    have e : l.drop i = l[i] :: l.drop (i + 1) := List.drop_eq_getElem_cons hil
    simp only [ltI_d, leI_d, eqS_d, notB_d, ofN_d, lenL_d, andB_d, br_if, fitL_d, appL_d]
    rw [if_pos (by omega), if_pos (by omega), add1 i (by omega)]
    by_cases hk : l[i].1 = k
    · rw [if_neg (fun q => q hk), ih (i + 1) acc (by omega) (by omega) (by omega), e]
      have : dropI k (l[i] :: l.drop (i + 1)) = dropI k (l.drop (i + 1)) := List.filter_cons_of_neg (by simpa using hk)
      rw [this]
    · rw [if_pos hk, if_pos (by omega), if_pos (by rw [List.length_append]; show _ + 1 ≤ _; omega), ih (i + 1) (acc ++ [l[i]]) (by omega) (by omega) (by rw [List.length_append]; show _ + 1 ≤ _; omega), e]
      have : dropI k (l[i] :: l.drop (i + 1)) = l[i] :: dropI k (l.drop (i + 1)) := List.filter_cons_of_pos (by simpa using hk)
      rw [this, List.append_assoc]
      rfl
theorem rdropI_any {l : List PairV} (hl : l.length ≤ 1000000) (hs : ∀ p ∈ l, okP p) (k : ByteArray) : ref07_Drop l k = some (dropI k (makeS l)) := by
  rw [ref07_Drop.eq, refmake_any l (by omega) hs, bnd_some]
  have := rdropI_loop k (makeS l) (by have := makeS_len l; omega) (makeS l).length 0 [] (by omega) (by omega) (by show 0 ≤ _; omega)
  rw [List.drop_zero, List.nil_append] at this
  exact this
theorem dropI_len (k : ByteArray) (l : List PairV) : (dropI k l).length ≤ l.length := List.length_filter_le _ _
theorem dropI_srt {k : ByteArray} {l : List PairV} (h : Srt l) : Srt (dropI k l) := List.Pairwise.filter _ h
theorem refbindsI_any (n : NodeV) : ref13_Binds n = some (bindsS n) := by
  rw [ref13_Binds.eq]
  unfold bindsS
  simp only [eqI_d, br_if]
  by_cases h1 : n.1 = 1
  · rw [if_pos h1, if_pos (.inl h1)]
  by_cases h4 : n.1 = 4
  · rw [if_neg h1, if_pos h4, if_pos (.inr (.inl h4))]
  by_cases h6 : n.1 = 6
  · rw [if_neg h1, if_neg h4, if_pos h6, if_pos (.inr (.inr h6))]
  rw [if_neg h1, if_neg h4, if_neg h6, if_neg (show ¬ (n.1 = 1 ∨ n.1 = 4 ∨ n.1 = 6) by omega)]
  by_cases h3 : n.1 = 3
  · rw [if_pos h3, if_pos h3]
  · rw [if_neg h3, if_neg h3]
theorem idrop_any {main : Int} {n : NodeV} (hn : okN n) (hl : n.2.2.2.2.2.2.1.length ≤ 1000) (h3 : n.1 = 3) (child : Int) (c o : NodeV) (key : ByteArray) (level bits : Int) :
    ∃ (p : PlnV) (e : Int), inner_Drop main n child c o key level bits = some (p, (e, ())) ∧ (e ≠ 0 ∨ ∃ x, p.1 = [x] ∧ bindsS x = dropI key (makeS n.2.2.2.2.2.2.1)) := by
  have hb : bindsS n = n.2.2.2.2.2.2.1 := by unfold bindsS; rw [if_neg (by omega), if_pos h3]
  have hs := hn.binds
  have hso := makeS_ok hs
  have hsl := makeS_len n.2.2.2.2.2.2.1
  have hdl := dropI_len key (makeS n.2.2.2.2.2.2.1)
  have hdo : ∀ p ∈ dropI key (makeS n.2.2.2.2.2.2.1), okP p := fun p hp => hso p (List.mem_filter.1 hp).1
  have hdS := dropI_srt (k := key) (make_srtI n.2.2.2.2.2.2.1)
  rw [inner_Drop.eq, eqI_d, decide_eq_true h3, br_t, binds_any n hn, hb, bnd_some]
  show ∃ (p : PlnV) (e : Int), bnd (pair_Drop n.2.2.2.2.2.2.1 key) _ = _ ∧ _
  rw [pdrop_any (by omega) hs, bnd_some, bnd_some]
  obtain ⟨v, b, hg⟩ := pget_some (show n.2.2.2.2.2.2.1.length ≤ 40000000 by omega) hs key
  show ∃ (p : PlnV) (e : Int), bnd (pair_Get n.2.2.2.2.2.2.1 key) _ = _ ∧ _
  rw [hg, bnd_some]
  cases b with
  | false => exact ⟨noPl, 4, rfl, .inl (by omega)⟩
  | true =>
    show ∃ (p : PlnV) (e : Int), br false _ _ = _ ∧ _
    rw [br_f]
    generalize dropI key (makeS n.2.2.2.2.2.2.1) = D at hdl hdo hdS ⊢
    by_cases h1 : D.length = 1
    · match D, h1 with
      | [x], _ =>
      show ∃ (p : PlnV) (e : Int), bnd (node_Tomb x.1 x.2.1) _ = _ ∧ _
      have hx := hdo x List.mem_cons_self
      rw [node_Tomb.eq, bnd_some]
      show ∃ (p : PlnV) (e : Int), bnd (plan_Add ((), ((0 : Int), ((), ()))) (tombV x.1 x.2.1) [main]) _ = _ ∧ _
      rw [plAdd0 0 (tombV_ok hx.1 hx.2) [main], bnd_some]
      refine ⟨_, _, rfl, .inr ⟨tombV x.1 x.2.1, rfl, ?_⟩⟩
      unfold bindsS
      rw [if_pos (.inr (.inr rfl))]
      rfl
    · rw [eqI_d, ofN_d, lenL_d, decide_eq_false (by omega), br_f, bucket_any (by omega) hdo hdS, bnd_some, plAdd0 0 (bktV_ok (by omega) hdo) [main], bnd_some]
      refine ⟨_, _, rfl, .inr ⟨bktV D, rfl, ?_⟩⟩
      unfold bindsS
      rw [if_neg (by show ¬ ((3 : Int) = 1 ∨ (3 : Int) = 4 ∨ (3 : Int) = 6); omega), if_pos (by show (3 : Int) = 3; rfl)]
      rfl
/-! ### The children of a branch, in order -/
theorem br_kids {m : Nat} {ks : List Int} {bi : Int} {f : Nat → Int} (B : BrC m ks bi f) : ks = ((List.range 32).filter fun j => decide (f j ≠ 0)).map f := by
  have h := kids_of m ks 32 (by rw [B.ok.len]; exact Nat.le_refl _)
  rw [← B.ok.len, List.take_length] at h
  rw [← h]
  have ef : (List.range 32).filter (fun j => m.testBit j) = (List.range 32).filter fun j => decide (f j ≠ 0) := by
    apply List.filter_congr
    intro j hj
    have hj := List.mem_range.1 hj
    rw [← B.ch j hj, Bool.eq_iff_iff, decide_eq_true_iff]
    exact (B.ok.ch_nz hj).symm
  rw [← ef]
  refine List.map_congr_left fun j hj => ?_
  obtain ⟨h1, h2⟩ := List.mem_filter.1 hj
  rw [← B.ch j (List.mem_range.1 h1)]
  unfold chAt
  rw [if_pos h2]
theorem one_pt : ∀ i : Fin 32, (List.range 32).filter (fun a => decide (a = i.val)) = [i.val] := by decide +kernel
theorem two_pt : ∀ i j : Fin 32, i.val ≠ j.val → (List.range 32).filter (fun a => decide (a = i.val ∨ a = j.val)) = if i.val < j.val then [i.val, j.val] else [j.val, i.val] := by decide +kernel
theorem kids1 {m : Nat} {ks : List Int} {bi : Int} {i : Nat} (hi : i < 32) {x : Int} (hx : x ≠ 0) (B : BrC m ks bi (fun j => if j = i then x else 0)) : ks = [x] := by
  rw [br_kids B]
  have e : (fun j => decide ((if j = i then x else 0) ≠ 0)) = fun a => decide (a = i) := by
    funext j
    by_cases q : j = i
    · rw [if_pos q, decide_eq_true hx, decide_eq_true q]
    · rw [if_neg q, decide_eq_false (fun z => z rfl), decide_eq_false q]
  rw [e, one_pt ⟨i, hi⟩, List.map_cons, List.map_nil, if_pos rfl]
theorem kids2 {m : Nat} {ks : List Int} {bi : Int} {i j : Nat} (hi : i < 32) (hj : j < 32) (hne : i ≠ j) {x y : Int} (hx : x ≠ 0) (hy : y ≠ 0) (B : BrC m ks bi (fun a => if a = j then y else if a = i then x else 0)) : ks = [x, y] ∨ ks = [y, x] := by
  rw [br_kids B]
  have e : (fun a => decide ((if a = j then y else if a = i then x else 0) ≠ 0)) = fun a => decide (a = i ∨ a = j) := by
    funext a
    by_cases q : a = j
    · rw [if_pos q, decide_eq_true hy, decide_eq_true (.inr q)]
    · rw [if_neg q]
      by_cases q2 : a = i
      · rw [if_pos q2, decide_eq_true hx, decide_eq_true (.inl q2)]
      · rw [if_neg q2, decide_eq_false (fun z => z rfl), decide_eq_false (fun z => z.elim q2 q)]
  rw [e, two_pt ⟨i, hi⟩ ⟨j, hj⟩ hne]
  dsimp only
  split
  · left
    rw [List.map_cons, List.map_cons, List.map_nil, if_neg hne, if_pos rfl, if_pos rfl]
  · right
    rw [List.map_cons, List.map_cons, List.map_nil, if_neg hne, if_pos rfl, if_pos rfl]
end Go.Proofs.YtimgaglpempfeaaGreat.AB
set_option linter.unusedVariables false
set_option linter.unusedSimpArgs false
namespace Go.Proofs.YtimgaglpempfeaaGreat.AB
open Go.Abs
/-! ### Below a reference -/
theorem below_neg {l : List NodeV} (hl : l.length ≤ 1000) {k : Nat} (hk : k < l.length) (o : okN l[k]) {ch : Int} (hch : 1 ≤ ch) (c : NodeV) (deep : Int) :
    law29_below l (-(k : Int) - 1) ch c deep = law29_below.l1 l ch deep (refsS l[k]) 0 c (bindsS l[k]) := by
  have hb : (bindsS l[k]).length ≤ 1000000 := by
    unfold bindsS
    split
    · show 1 ≤ _; omega
    split
    · exact o.list
    · show 0 ≤ _; omega
  have e1 : subI .i64 0 (-(k : Int) - 1) = (k : Int) + 1 := by rw [subI_d (by omega) (by omega)]; omega
  have e2 : subI .i64 ((k : Int) + 1) 1 = (k : Int) := by rw [subI_d (by omega) (by omega)]; omega
  have ea : appL tapiPair [] (bindsS l[k]) = bindsS l[k] := by rw [appL_d, List.nil_append]
  rw [law29_below.eq, ltI_d, decide_eq_true (by omega), br_t, e1, leI_d, ofN_d, lenL_d, decide_eq_true (by omega), law29_below.j0.eq, br_t, e1, e2, ixN l k hk, eqI_d, decide_eq_false (by omega), br_f, refbindsI_any, bnd_some, ea, refrefs_any _ o, bnd_some]
  simp only [leI_d, ltI_d, andB_d, ofN_d, lenL_d, fitL_d, br_if]
  rw [if_pos (by omega), if_pos (by omega)]
theorem below_child {l : List NodeV} {ch : Int} (hch : 1 ≤ ch) {c : NodeV} (o : okN c) (deep : Int) : law29_below l ch ch c deep = law29_below.l1 l ch deep (refsS c) 0 c (bindsS c) := by
  have hb : (bindsS c).length ≤ 1000000 := by
    unfold bindsS
    split
    · show 1 ≤ _; omega
    split
    · exact o.list
    · show 0 ≤ _; omega
  have ea : appL tapiPair [] (bindsS c) = bindsS c := by rw [appL_d, List.nil_append]
  rw [law29_below.eq, ltI_d, decide_eq_false (by omega), br_f, law29_below.j0.eq, br_f, eqI_d, decide_eq_true rfl, br_t, refbindsI_any, bnd_some, ea, refrefs_any _ o, bnd_some, fitL_d, decide_eq_true (by omega), br_t]
theorem below_l1_0 (l : List NodeV) (ch deep : Int) (c : NodeV) (out : List PairV) : law29_below.l1 l ch deep [] 0 c out = some out := by
  rw [law29_below.l1.eq, show ltI 0 (ofN (lenL (.int .i64) [])) = false from rfl, br_f, law29_below.j2.eq, br_f]
theorem below_end (l : List NodeV) (ch deep : Int) (refs : List Int) (c : NodeV) (out : List PairV) : law29_below.l1 l ch deep refs (refs.length : Int) c out = some out := by
  rw [law29_below.l1.eq, ltI_d, ofN_d, lenL_d, decide_eq_false (by omega), br_f, law29_below.j2.eq, br_f]
theorem below_step {l : List NodeV} {ch deep : Int} (h0 : 0 < deep) (h1 : deep ≤ 1000) {refs : List Int} {i : Nat} (hi : i < refs.length) (hr : refs.length ≤ 1000) {c : NodeV} {out R : List PairV} (ho : out.length + R.length ≤ 1000000) (h : law29_below l refs[i] ch c (deep - 1) = some R) :
    law29_below.l1 l ch deep refs (i : Int) c out = law29_below.l1 l ch deep refs ((i + 1 : Nat) : Int) c (out ++ R) := by
  rw [law29_below.l1.eq, ltI_d, ofN_d, lenL_d, decide_eq_true (by omega), br_t, ltI_d, decide_eq_true h0, law29_below.j2.eq, br_t, ixR refs i hi, subI_d (by omega) (by omega), h, bnd_some, add1 i (by omega)]
  simp only [leI_d, ltI_d, andB_d, ofN_d, lenL_d, fitL_d, appL_d, br_if]
  rw [if_pos (by omega), if_pos (by rw [List.length_append]; omega)]
theorem below_l1_1 {l : List NodeV} {ch deep : Int} (h0 : 0 < deep) (h1 : deep ≤ 1000) {a : Int} {c : NodeV} {out R : List PairV} (ho : out.length + R.length ≤ 1000000) (h : law29_below l a ch c (deep - 1) = some R) : law29_below.l1 l ch deep [a] 0 c out = some (out ++ R) := by
  have s := below_step (refs := [a]) (i := 0) h0 h1 (by simp) (by simp) ho h
  rw [show ((0 : Nat) : Int) = 0 from rfl] at s
  rw [s]
  exact below_end l ch deep [a] c _
theorem below_l1_2 {l : List NodeV} {ch deep : Int} (h0 : 0 < deep) (h1 : deep ≤ 1000) {a b : Int} {c : NodeV} {R1 R2 : List PairV} (ho : R1.length + R2.length ≤ 1000000) (ha : law29_below l a ch c (deep - 1) = some R1) (hb : law29_below l b ch c (deep - 1) = some R2) : law29_below.l1 l ch deep [a, b] 0 c [] = some (R1 ++ R2) := by
  have s := below_step (refs := [a, b]) (i := 0) (out := []) h0 h1 (by simp) (by simp) (by show 0 + _ ≤ _; omega) ha
  rw [show ((0 : Nat) : Int) = 0 from rfl] at s
  have s2 := below_step (refs := [a, b]) (i := 1) (out := R1) h0 h1 (by simp) (by simp) ho hb
  rw [s, List.nil_append, s2]
  exact below_end l ch deep [a, b] c _
theorem refs_bkt (L : List PairV) : refsS (bktV L) = [] := rfl
theorem refs_leaf (k v : ByteArray) : refsS (leafV k v) = [] := rfl
theorem refs_inn {r : Int} (h : r ≠ 0) : refsS (innV r) = [r] := by
  show ([] : List Int) ++ (if r ≠ 0 then [r] else []) = [r]
  rw [if_pos h]; rfl
theorem refs_br (m : Nat) (ks : List Int) (sz bi : Int) (h : ∀ k ∈ ks, k ≠ 0) : refsS (bN m ks sz bi) = ks := by
  show ks.filter (fun r => decide (r ≠ 0)) ++ (if (0 : Int) ≠ 0 then [0] else []) = ks
  rw [if_neg (fun q => q rfl), List.append_nil, List.filter_eq_self]
  exact fun k hk => decide_eq_true (h k hk)
theorem binds_br (m : Nat) (ks : List Int) (sz bi : Int) : bindsS (bN m ks sz bi) = [] := rfl
theorem binds_inn (r : Int) : bindsS (innV r) = [] := rfl
theorem binds_leaf (k v : ByteArray) : bindsS (leafV k v) = [(k, (v, ()))] := rfl
theorem binds_bkt (L : List PairV) : bindsS (bktV L) = L := rfl
theorem leaf_refs {c : NodeV} (h1 : c.1 = 1) (hm : mayS c = 0) : refsS c = [] ∧ bindsS c = [(c.2.1, (c.2.2.1, ()))] ∧ c.2.1.size ≤ 16 ∧ c.2.2.1.size ≤ 16 := by
  unfold mayS at hm
  rw [if_neg (by omega), if_neg (by omega)] at hm
  split at hm
  · omega
  rename_i hlong
  split at hm
  case isFalse => omega
  rename_i hf
  unfold formP bareP at hf
  rw [if_pos (.inl h1)] at hf
  obtain ⟨_, _, _, f2, f3, _⟩ := hf
  obtain ⟨_, f2⟩ := f2 rfl
  have f3 := f3 rfl
  refine ⟨?_, ?_, ?_⟩
  · unfold refsS
    rw [f2, f3]
    rfl
  · unfold bindsS
    rw [if_pos (.inl h1)]
  · unfold longN at hlong
    rw [Bool.or_eq_true] at hlong
    have : ¬ longP (c.2.1, (c.2.2.1, ())) = true := fun q => hlong (.inl q)
    unfold longP at this
    rw [Bool.or_eq_true, decide_eq_true_iff, decide_eq_true_iff] at this
    exact ⟨by have : ¬ 16 < c.2.1.size := fun q => this (.inl q); omega, by have : ¬ 16 < c.2.2.1.size := fun q => this (.inr q); omega⟩
theorem TwoN.under {child : Int} (hch : 1 ≤ child) {c : NodeV} (hc : okN c) (h1 : c.1 = 1) (hm : mayS c = 0) {key val : ByteArray} (hk : key.size ≤ 40) (hv : val.size ≤ 40) (hne : c.2.1 ≠ key) {bits : Int} {l : Nat} {ns : List NodeV} {old : Bool} (T : TwoN child c key val bits l ns old) :
    ∀ (rest : List NodeV), (ns ++ rest).length ≤ 1000 → (∀ n ∈ ns ++ rest, okN n) → ∀ deep : Int, 2 * ((lev bits - l : Nat) : Int) + 1 ≤ deep → deep ≤ 1000 → ∃ L, law29_below (ns ++ rest) (-(ns.length : Int)) child c deep = some L ∧ L.length = 2 ∧ makeS L = twoL c key val ∧ ∀ p ∈ L, okP p := by
  obtain ⟨cr, cb, _⟩ := leaf_refs h1 hm
  have p2 := pair2 hc hk hv
  induction T with
  | bucket h =>
    intro rest hlen hok deep h2 h3
    have := below_neg hlen (k := 0) (by simp) (hok _ (List.getElem_mem (by simp))) hch c deep
    refine ⟨twoL c key val, ?_, twoL_len hne, makeS_srt (make_srtI _), twoL_ok hc hk hv⟩
    refine Eq.trans ?_ (this.trans ?_)
    · rfl
    · show law29_below.l1 _ child deep (refsS (bktV (twoL c key val))) 0 c (bindsS (bktV (twoL c key val))) = _
      rw [refs_bkt, below_l1_0, binds_bkt]
  | @split l m ks h hneq B =>
    intro rest hlen hok deep h2 h3
    have hd : (0 : Int) < deep := by omega
    have e0 := below_neg hlen (k := 1) (by simp) (hok _ (List.getElem_mem (by simp))) hch c deep
    have e1 := below_neg hlen (k := 0) (by simp) (hok _ (List.getElem_mem (by simp))) hch c (deep - 1)
    have hleaf : law29_below ([leafV key val, bN m ks 0 0] ++ rest) (-1) child c (deep - 1) = some [(key, (val, ()))] := by
      refine Eq.trans ?_ (e1.trans ?_)
      · rfl
      · show law29_below.l1 _ child (deep - 1) (refsS (leafV key val)) 0 c (bindsS (leafV key val)) = _
        rw [refs_leaf, below_l1_0, binds_leaf]
    have hchild : law29_below ([leafV key val, bN m ks 0 0] ++ rest) child child c (deep - 1) = some [(c.2.1, (c.2.2.1, ()))] := by
      rw [below_child hch hc, cr, below_l1_0, cb]
    have hroot : law29_below ([leafV key val, bN m ks 0 0] ++ rest) (-(([leafV key val, bN m ks 0 0] : List NodeV).length : Int)) child c deep = law29_below.l1 ([leafV key val, bN m ks 0 0] ++ rest) child deep ks 0 c [] := by
      refine Eq.trans ?_ (e0.trans ?_)
      · rfl
      · show law29_below.l1 _ child deep (refsS (bN m ks 0 0)) 0 c (bindsS (bN m ks 0 0)) = _
        rw [refs_br m ks 0 0 B.ok.nz, binds_br]
    rcases kids2 (chk_lt key l bits) (chk_lt c.2.1 l bits) hneq (show (-1 : Int) ≠ 0 by omega) (show child ≠ 0 by omega) B with e | e
    · refine ⟨[(key, (val, ())), (c.2.1, (c.2.2.1, ()))], ?_, rfl, ?_, fun p hp => p2 p (by simp only [List.mem_cons, List.mem_nil_iff, or_false] at hp ⊢; exact hp.symm)⟩
      · rw [hroot]
        conv => lhs; arg 4; rw [e]
        exact below_l1_2 hd h3 (by show 1 + 1 ≤ _; omega) hleaf hchild
      · show putS (putS [] (key, (val, ()))) (c.2.1, (c.2.2.1, ())) = putS (putS [] (c.2.1, (c.2.2.1, ()))) (key, (val, ()))
        exact putS_comm (fun q => hne q.symm) []
    · refine ⟨[(c.2.1, (c.2.2.1, ())), (key, (val, ()))], ?_, rfl, rfl, p2⟩
      rw [hroot]
      conv => lhs; arg 4; rw [e]
      exact below_l1_2 hd h3 (by show 1 + 1 ≤ _; omega) hchild hleaf
  | @down l m ks ns old h he t B ih =>
    intro rest hlen hok deep h2 h3
    obtain ⟨n0, nl⟩ := t.len
    have ea : ∀ x y : NodeV, (ns ++ [x, y]) ++ rest = ns ++ (x :: y :: rest) := fun x y => by rw [List.append_assoc]; rfl
    rw [ea] at hlen hok ⊢
    have hlen2 := hlen
    rw [List.length_append] at hlen2
    simp only [List.length_cons] at hlen2
    obtain ⟨L, g1, g2, g3, g4⟩ := ih _ hlen hok (deep - 1 - 1) (by omega) (by omega)
    refine ⟨L, ?_, g2, g3, g4⟩
    have hk1 : ns.length < (ns ++ (innV (-(ns.length : Int)) :: bN m ks 0 0 :: rest)).length := by rw [List.length_append]; simp only [List.length_cons]; omega
    have hk2 : ns.length + 1 < (ns ++ (innV (-(ns.length : Int)) :: bN m ks 0 0 :: rest)).length := by rw [List.length_append]; simp only [List.length_cons]; omega
    have ei : (ns ++ (innV (-(ns.length : Int)) :: bN m ks 0 0 :: rest))[ns.length] = innV (-(ns.length : Int)) := by
      rw [List.getElem_append_right (Nat.le_refl _)]
      simp
    have eb : (ns ++ (innV (-(ns.length : Int)) :: bN m ks 0 0 :: rest))[ns.length + 1] = bN m ks 0 0 := by
      rw [List.getElem_append_right (by omega)]
      simp
    have d1 := below_neg hlen hk1 (hok _ (List.getElem_mem hk1)) hch c (deep - 1)
    have d2 := below_neg hlen hk2 (hok _ (List.getElem_mem hk2)) hch c deep
    rw [ei, refs_inn (by omega), binds_inn, below_l1_1 (by omega) (by omega) (by show 0 + L.length ≤ _; omega) g1, List.nil_append] at d1
    rw [eb, refs_br m ks 0 0 B.ok.nz, binds_br] at d2
    have ek := kids1 (chk_lt key l bits) (show (-((ns.length : Int) + 1)) ≠ 0 by omega) B
    have er : -(((ns ++ [innV (-(ns.length : Int)), bN m ks 0 0]).length : Nat) : Int) = -((ns.length + 1 : Nat) : Int) - 1 := by
      rw [List.length_append]
      simp only [List.length_cons, List.length_nil]
      omega
    rw [er, d2]
    conv => lhs; arg 4; rw [ek]
    have d1' : law29_below (ns ++ (innV (-(ns.length : Int)) :: bN m ks 0 0 :: rest)) (-((ns.length : Int) + 1)) child c (deep - 1) = some L := by
      rw [show -((ns.length : Int) + 1) = -(ns.length : Int) - 1 by omega]
      exact d1
    have := below_l1_1 (by omega) h3 (out := []) (by show 0 + L.length ≤ _; omega) d1'
    rw [List.nil_append] at this
    exact this
/-! ### The plan may be -/
theorem fold_memI : ∀ (l acc : List PairV), ∀ x ∈ l.foldl putS acc, x ∈ acc ∨ x ∈ l
  | [], _, x, h => .inl h
  | p :: l, acc, x, h => by
    rcases fold_memI l (putS acc p) x h with h | h
    · rcases putS_mem h with rfl | h
      · exact .inr List.mem_cons_self
      · exact .inl h
    · exact .inr (List.mem_cons_of_mem _ h)
theorem make_memI {l : List PairV} {x : PairV} (h : x ∈ makeS l) : x ∈ l := (fold_memI l [] x h).resolve_left (by simp)
theorem longP_no {k v : ByteArray} (hk : k.size ≤ 16) (hv : v.size ≤ 16) : longP (k, (v, ())) = false := by
  unfold longP
  show (decide (16 < k.size) || decide (16 < v.size)) = false
  rw [decide_eq_false (by omega), decide_eq_false (by omega)]; rfl
theorem leafV_may {k v : ByteArray} (hk : k.size ≤ 16) (hv : v.size ≤ 16) : mayS (leafV k v) = 0 := by
  have hl : longN (leafV k v) = false := by
    show (longP (k, (v, ())) || List.any [] longP) = false
    rw [longP_no hk hv]; rfl
  unfold mayS
  rw [if_neg (by show ¬ (1 : Int) < 1; omega), if_neg (by show ¬ (6 : Int) < 1; omega), hl, if_neg (by simp), if_pos]
  refine ⟨Int.le_refl _, ?_⟩
  rw [if_pos (.inl rfl)]
  exact ⟨rfl, fun q => (by cases q), fun _ => ⟨rfl, rfl⟩, fun _ => rfl, fun _ => rfl⟩
theorem innV_may {r : Int} (h : r ≠ 0) : mayS (innV r) = 0 := by
  have hl : longN (innV r) = false := rfl
  unfold mayS
  rw [if_neg (by show ¬ (5 : Int) < 1; omega), if_neg (by show ¬ (6 : Int) < 5; omega), hl, if_neg (by simp), if_pos]
  refine ⟨Int.le_refl _, ?_⟩
  rw [if_neg (by show ¬ ((5 : Int) = 1 ∨ (5 : Int) = 6); omega), if_neg (by show ¬ (5 : Int) = 2; omega), if_neg (by show ¬ (5 : Int) = 3; omega), if_neg (by show ¬ (5 : Int) = 4; omega)]
  exact ⟨h, rfl, fun _ => ⟨rfl, rfl⟩, fun _ => ⟨rfl, rfl⟩, fun q => (by cases q), fun _ => rfl⟩
theorem srt_isI : ∀ {l : List PairV}, Srt l → isS l = true
  | [], _ => rfl
  | [_], _ => rfl
  | a :: b :: r, h => by
    have h1 := (List.pairwise_cons.1 h).1 b List.mem_cons_self
    have h2 := srt_isI (List.pairwise_cons.1 h).2
    show (lt a.1 b.1 && isS (b :: r)) = true
    rw [h1, h2]; rfl
theorem bktV_may {l : List PairV} (h2 : 2 ≤ l.length) (hS : Srt l) (hs : ∀ p ∈ l, longP p = false) : mayS (bktV l) = 0 := by
  have hl : longN (bktV l) = false := by
    show (longP (ByteArray.empty, (ByteArray.empty, ())) || List.any l longP) = false
    rw [show longP (ByteArray.empty, (ByteArray.empty, ())) = false from rfl, Bool.false_or, List.any_eq_false]
    exact fun p hp => by rw [hs p hp]; simp
  unfold mayS
  rw [if_neg (by show ¬ (3 : Int) < 1; omega), if_neg (by show ¬ (6 : Int) < 3; omega), hl, if_neg (by simp), if_pos]
  refine ⟨Int.le_refl _, ?_⟩
  rw [if_neg (by show ¬ ((3 : Int) = 1 ∨ (3 : Int) = 6); omega), if_neg (by show ¬ (3 : Int) = 2; omega), if_pos (by show (3 : Int) = 3; rfl)]
  exact ⟨h2, srt_isI hS, rfl, fun _ => ⟨rfl, rfl⟩, fun _ => ⟨rfl, rfl⟩, fun _ => rfl, fun q => (by cases q)⟩
/-- A node may be, and its references are to what is ahead of it. -/
structure Ahead (i : Nat) (n : NodeV) : Prop where
  may : mayS n = 0
  kids : ∀ k ∈ n.2.2.2.2.1, -(i : Int) ≤ k ∧ k ≤ 65536
  main : -(i : Int) ≤ n.2.2.2.2.2.1 ∧ n.2.2.2.2.2.1 ≤ 65536
  few : n.2.2.2.2.1.length ≤ 40
theorem br_mem {m : Nat} {ks : List Int} {bi : Int} {f : Nat → Int} (B : BrC m ks bi f) {k : Int} (hk : k ∈ ks) : ∃ j, k = f j := by
  rw [br_kids B] at hk
  obtain ⟨j, _, e⟩ := List.mem_map.1 hk
  exact ⟨j, e.symm⟩
theorem br_ahead {i m : Nat} {ks : List Int} {bi : Int} {f : Nat → Int} (B : BrC m ks bi f) (h : ∀ j, -(i : Int) ≤ f j ∧ f j ≤ 65536) : Ahead i (bN m ks 0 bi) :=
  ⟨B.ok.may, fun k hk => by obtain ⟨j, rfl⟩ := br_mem B hk; exact h j, ⟨by show -(i : Int) ≤ 0; omega, by show (0 : Int) ≤ _; omega⟩, by show ks.length ≤ 40; have := B.ok.len; have := cnt_le 32 m; omega⟩
theorem TwoN.ahead {child : Int} (hch : 1 ≤ child ∧ child ≤ 65536) {c : NodeV} (h1 : c.1 = 1) (hm : mayS c = 0) {key val : ByteArray} (hk : key.size ≤ 16) (hv : val.size ≤ 16) (hne : c.2.1 ≠ key) {bits : Int} {l : Nat} {ns : List NodeV} {old : Bool} (T : TwoN child c key val bits l ns old) :
    ∀ (i : Nat) (hi : i < ns.length), Ahead i ns[i] := by
  obtain ⟨_, _, ck, cv⟩ := leaf_refs h1 hm
  induction T with
  | bucket h =>
    intro i hi
    obtain rfl : i = 0 := by simpa using hi
    refine ⟨bktV_may (by rw [twoL_len hne]; omega) (make_srtI _) (fun p hp => ?_), fun k hk => (by cases hk), ⟨Int.le_refl _, by show (0 : Int) ≤ _; omega⟩, by show 0 ≤ 40; omega⟩
    rcases List.mem_cons.1 (make_memI hp) with rfl | hp
    · exact longP_no ck cv
    · rw [List.mem_singleton.1 hp]; exact longP_no hk hv
  | @split l m ks h hneq B =>
    intro i hi
    match i, hi with
    | 0, _ => exact ⟨leafV_may hk hv, fun k hk => (by cases hk), ⟨Int.le_refl _, by show (0 : Int) ≤ _; omega⟩, by show 0 ≤ 40; omega⟩
    | 1, _ =>
      refine br_ahead B fun j => ?_
      split
      · omega
      split <;> omega
  | @down l m ks ns old h he t B ih =>
    obtain ⟨n0, nl⟩ := t.len
    intro i hi
    rw [List.length_append] at hi
    simp only [List.length_cons, List.length_nil] at hi
    by_cases q : i < ns.length
    · rw [List.getElem_append_left q]; exact ih i q
    · rw [List.getElem_append_right (by omega)]
      by_cases q2 : i = ns.length
      · subst q2
        simp only [Nat.sub_self, List.getElem_cons_zero]
        exact ⟨innV_may (by omega), fun k hk => (by cases hk), ⟨by show -(ns.length : Int) ≤ -(ns.length : Int); omega, by show -(ns.length : Int) ≤ _; omega⟩, by show 0 ≤ 40; omega⟩
      · have e : i = ns.length + 1 := by omega
        subst e
        have e1 : ns.length + 1 - ns.length = 1 := by omega
        simp only [e1, List.getElem_cons_succ, List.getElem_cons_zero]
        refine br_ahead B fun j => ?_
        split <;> omega
theorem mayPL_all : ∀ (l : List NodeV) (i : Nat), (∀ (j : Nat) (hj : j < l.length), Ahead (i + j) l[j]) → mayPL i l = true
  | [], _, _ => rfl
  | n :: l, i, h => by
    unfold mayPL
    simp only [Bool.and_eq_true, decide_eq_true_eq, List.all_eq_true]
    have h0 := h 0 (by simp)
    simp only [Nat.add_zero, List.getElem_cons_zero] at h0
    refine ⟨⟨h0.may, fun r hr => ?_⟩, mayPL_all l (i + 1) fun j hj => ?_⟩
    · unfold refsS at hr
      rcases List.mem_append.1 hr with hr | hr
      · exact (h0.kids r (List.mem_filter.1 hr).1).1
      · split at hr
        · rw [List.mem_singleton.1 hr]; exact h0.main.1
        · cases hr
    · have := h (j + 1) (by simpa using hj)
      rw [show i + (j + 1) = i + 1 + j by omega] at this
      exact this
theorem two_may {ns : List NodeV} (hl : ns.length ≤ 1000) (hA : ∀ (i : Nat) (hi : i < ns.length), Ahead i ns[i]) (hok : ∀ n ∈ ns, okN n) {child : Int} (hch : 1 ≤ child ∧ child ≤ 65536) (old : Bool) : plan_May (ns, (-(ns.length : Int), (oldsT child old, ()))) = some 0 := by
  have hol : ∀ r ∈ oldsT child old, r = child := fun r hr => by
    unfold oldsT at hr
    split at hr
    · exact List.mem_singleton.1 hr
    · cases hr
  have ok : okPl (ns, (-(ns.length : Int), (oldsT child old, ()))) := by
    refine ⟨hl, hok, fun n hn => ?_, fun n hn => ?_, by show rng (-(ns.length : Int)); unfold rng; omega, by unfold oldsT; cases old <;> (show _ ≤ 1000; simp), fun r hr => by rw [hol r hr]; unfold rng; omega⟩
    · obtain ⟨i, hi, rfl⟩ := List.getElem_of_mem hn
      have hi : i < ns.length := hi
      have A := hA i hi
      have k1 := A.main
      refine ⟨fun k hk => ?_, ?_⟩
      · have := A.kids k hk
        unfold rng; omega
      · unfold rng
        show -9223372036854775808 ≤ ns[i].2.2.2.2.2.1 ∧ ns[i].2.2.2.2.2.1 ≤ 9223372036854775807
        omega
    · obtain ⟨i, hi, rfl⟩ := List.getElem_of_mem hn
      exact (hA i hi).few
  rw [mayp_any _ ok]
  have c1 : mayP (ns, (-(ns.length : Int), (oldsT child old, ()))) = true := by
    unfold mayP
    simp only [Bool.and_eq_true, decide_eq_true_eq, List.all_eq_true]
    refine ⟨mayPL_all ns 0 fun j hj => by rw [Nat.zero_add]; exact hA j hj, fun r hr => by rw [hol r hr]; exact hch.1, Int.le_refl _⟩
  rw [if_pos c1]
end Go.Proofs.YtimgaglpempfeaaGreat.AB
set_option linter.unusedVariables false
set_option linter.unusedSimpArgs false
namespace Go.Proofs.YtimgaglpempfeaaGreat.Pure
open Go.Abs Go.Proofs.YtimgaglpempfeaaGreat.AB
theorem InnerBinds (a0 : den tboscagelaw29Case) (h0 : wfD tboscagelaw29Case a0) : law29_InnerBinds a0 = some true := by
  obtain ⟨F, hf, K⟩ := case_any h0
  have hc := K.child
  have r1 := ref1_any hc
  have hnl : F.2.2.2.2.2.2.2.2.2.1.length ≤ 40 := K.nl
  -- buckets
  have j3 : ∀ b : Bool, (b = false → F.2.2.2.1 = 3) → law29_InnerBinds.j3 b F = some true := by
    intro b hb
    rw [law29_InnerBinds.j3.eq]
    cases b with
    | true => rw [br_t]
    | false =>
      have h3 := hb rfl
      have hz : okN zeroN := ⟨by show (0 : Nat) ≤ 40; omega, by show (0 : Nat) ≤ 40; omega, Int.le_refl _, by show (0 : Int) < 4294967296; omega, by show (0 : Nat) ≤ 1000000; omega, by show (0 : Nat) ≤ 1000000; omega, fun p hp => (by cases hp)⟩
      have hx : okP (F.2.2.2.2.2.2.2.2.2.2.2.2.2.2.2.2.2.2.2.2.2.2.2.2.2.2.2.2.2.2.1, (F.2.2.2.2.2.2.2.2.2.2.2.2.2.2.2.2.2.2.2.2.2.2.2.2.2.2.2.2.2.2.2.1, ())) := ⟨K.key, K.val⟩
      have hs := K.okn.binds
      rcases iput_any (main := 9) K.okn (by show F.2.2.2.2.2.2.2.2.2.1.length ≤ 1000; omega) (child := 0) hz K.key K.val F.2.2.2.2.2.2.2.2.2.2.2.2.2.2.2.2.2.2.2.2.2.2.2.2.2.2.2.2.2.2.2.2.1 F.2.2.2.2.2.2.2.2.2.2.2.2.2.2.2.2.2.2.2.2.2.2.2.2.2.2.2.2.2.2.2.2.2.1 with ⟨p, e1, _, _, _, _, e2, _⟩ | ⟨q, _⟩
      · have e2 := e2 h3
        obtain ⟨pd, ed, d1, d2⟩ := idrop_any (main := 9) K.okn (by show F.2.2.2.2.2.2.2.2.2.1.length ≤ 1000; omega) h3 0 zeroN zeroN F.2.2.2.2.2.2.2.2.2.2.2.2.2.2.2.2.2.2.2.2.2.2.2.2.2.2.2.2.2.2.1 F.2.2.2.2.2.2.2.2.2.2.2.2.2.2.2.2.2.2.2.2.2.2.2.2.2.2.2.2.2.2.2.2.1 F.2.2.2.2.2.2.2.2.2.2.2.2.2.2.2.2.2.2.2.2.2.2.2.2.2.2.2.2.2.2.2.2.2.1
        have e1' : inner_Put 9 (F.2.2.2.1, (F.2.2.2.2.1, (F.2.2.2.2.2.1, (F.2.2.2.2.2.2.1, (F.2.2.2.2.2.2.2.1, (F.2.2.2.2.2.2.2.2.1, (F.2.2.2.2.2.2.2.2.2.1, (F.2.2.2.2.2.2.2.2.2.2.1, (F.2.2.2.2.2.2.2.2.2.2.2.1, ()))))))))) 0 ((0 : Int), (ByteArray.empty, (ByteArray.empty, ((0 : Int), ([], ((0 : Int), ([], ((0 : Int), ((0 : Int), ()))))))))) F.2.2.2.2.2.2.2.2.2.2.2.2.2.2.2.2.2.2.2.2.2.2.2.2.2.2.2.2.2.2.1 F.2.2.2.2.2.2.2.2.2.2.2.2.2.2.2.2.2.2.2.2.2.2.2.2.2.2.2.2.2.2.2.1 F.2.2.2.2.2.2.2.2.2.2.2.2.2.2.2.2.2.2.2.2.2.2.2.2.2.2.2.2.2.2.2.2.1 F.2.2.2.2.2.2.2.2.2.2.2.2.2.2.2.2.2.2.2.2.2.2.2.2.2.2.2.2.2.2.2.2.2.1 = some (p, (0, ())) := e1
        have d1' : inner_Drop 9 (F.2.2.2.1, (F.2.2.2.2.1, (F.2.2.2.2.2.1, (F.2.2.2.2.2.2.1, (F.2.2.2.2.2.2.2.1, (F.2.2.2.2.2.2.2.2.1, (F.2.2.2.2.2.2.2.2.2.1, (F.2.2.2.2.2.2.2.2.2.2.1, (F.2.2.2.2.2.2.2.2.2.2.2.1, ()))))))))) 0 ((0 : Int), (ByteArray.empty, (ByteArray.empty, ((0 : Int), ([], ((0 : Int), ([], ((0 : Int), ((0 : Int), ()))))))))) ((0 : Int), (ByteArray.empty, (ByteArray.empty, ((0 : Int), ([], ((0 : Int), ([], ((0 : Int), ((0 : Int), ()))))))))) F.2.2.2.2.2.2.2.2.2.2.2.2.2.2.2.2.2.2.2.2.2.2.2.2.2.2.2.2.2.2.1 F.2.2.2.2.2.2.2.2.2.2.2.2.2.2.2.2.2.2.2.2.2.2.2.2.2.2.2.2.2.2.2.2.1 F.2.2.2.2.2.2.2.2.2.2.2.2.2.2.2.2.2.2.2.2.2.2.2.2.2.2.2.2.2.2.2.2.2.1 = some (pd, (ed, ())) := d1
        have j6 : law29_InnerBinds.j6 ed false F pd = some true := by
          rw [law29_InnerBinds.j6.eq, br_f, eqI_d, notB_d, br_if]
          by_cases q : ed = 0
          · rw [if_neg (fun z => z q)]
            rcases d2 with d2 | ⟨x, d2, d3⟩
            · exact absurd q d2
            · rw [d2]
              show br true (br true (bnd (ref13_Binds x) fun r0 => bnd (ref07_Drop F.2.2.2.2.2.2.2.2.2.1 F.2.2.2.2.2.2.2.2.2.2.2.2.2.2.2.2.2.2.2.2.2.2.2.2.2.2.2.2.2.2.1) fun r1 => bnd (ref07_Same r0 r1) fun r2 => some r2) none) (some false) = _
              have d3 : bindsS x = dropI F.2.2.2.2.2.2.2.2.2.2.2.2.2.2.2.2.2.2.2.2.2.2.2.2.2.2.2.2.2.2.1 (makeS F.2.2.2.2.2.2.2.2.2.1) := d3
              have hs' : ∀ p ∈ F.2.2.2.2.2.2.2.2.2.1, okP p := hs
              rw [br_t, br_t, refbindsI_any, bnd_some, rdropI_any (by omega) hs', bnd_some, d3, refsameP_any _ _ (by have := dropI_len F.2.2.2.2.2.2.2.2.2.2.2.2.2.2.2.2.2.2.2.2.2.2.2.2.2.2.2.2.2.2.1 (makeS F.2.2.2.2.2.2.2.2.2.1); have := makeS_len F.2.2.2.2.2.2.2.2.2.1; omega), bnd_some, decide_eq_true rfl]
          · rw [if_pos q]
        have j5 : law29_InnerBinds.j5 0 ed F p pd = some true := by
          rw [law29_InnerBinds.j5.eq, show notB (eqI 0 0) = false from rfl, br_f, e2]
          show br false _ (br true (bnd (ref13_Binds (bktV (putS (makeS F.2.2.2.2.2.2.2.2.2.1) (F.2.2.2.2.2.2.2.2.2.2.2.2.2.2.2.2.2.2.2.2.2.2.2.2.2.2.2.2.2.2.1, (F.2.2.2.2.2.2.2.2.2.2.2.2.2.2.2.2.2.2.2.2.2.2.2.2.2.2.2.2.2.2.2.1, ()))))) fun r0 => bnd (ref07_Put F.2.2.2.2.2.2.2.2.2.1 F.2.2.2.2.2.2.2.2.2.2.2.2.2.2.2.2.2.2.2.2.2.2.2.2.2.2.2.2.2.2.1 F.2.2.2.2.2.2.2.2.2.2.2.2.2.2.2.2.2.2.2.2.2.2.2.2.2.2.2.2.2.2.2.1) fun r1 => bnd (ref07_Same r0 r1) fun r2 => law29_InnerBinds.j6 ed (notB r2) F pd) none) = _
          have hs' : ∀ p ∈ F.2.2.2.2.2.2.2.2.2.1, okP p := hs
          rw [br_f, br_t, refbindsI_any, bnd_some, binds_bkt, rputI_any _ (by omega) hs' hx, bnd_some, refsameP_any _ _ (by have := putS_len (F.2.2.2.2.2.2.2.2.2.2.2.2.2.2.2.2.2.2.2.2.2.2.2.2.2.2.2.2.2.2.1, (F.2.2.2.2.2.2.2.2.2.2.2.2.2.2.2.2.2.2.2.2.2.2.2.2.2.2.2.2.2.2.2.1, ())) (makeS F.2.2.2.2.2.2.2.2.2.1); have := makeS_len F.2.2.2.2.2.2.2.2.2.1; omega), bnd_some, decide_eq_true rfl]
          exact j6
        have j4 : law29_InnerBinds.j4 0 F p = some true := by
          rw [law29_InnerBinds.j4.eq, K.same]
          simp only [bnd_some]
          rw [d1']
          simp only [bnd_some, both_self]
          exact j5
        rw [br_f, K.same]
        simp only [bnd_some]
        rw [e1']
        simp only [bnd_some, both_self]
        exact j4
      · exact absurd h3 q
  have j3' : law29_InnerBinds.j3 (notB (eqI F.2.2.2.1 3)) F = some true := by
    refine j3 _ fun h => ?_
    rw [eqI_d, notB_d, decide_eq_false_iff_not] at h
    exact Classical.byContradiction h
  have h16k : (cut 16 F.2.2.2.2.2.2.2.2.2.2.2.2.2.2.2.2.2.2.2.2.2.2.2.2.2.2.2.2.2.2.1).size ≤ 16 := by rw [cut_size]; omega
  have h16v : (cut 16 F.2.2.2.2.2.2.2.2.2.2.2.2.2.2.2.2.2.2.2.2.2.2.2.2.2.2.2.2.2.2.2.1).size ≤ 16 := by rw [cut_size]; omega
  have c1 : base_Cut F.2.2.2.2.2.2.2.2.2.2.2.2.2.2.2.2.2.2.2.2.2.2.2.2.2.2.2.2.2.2.1 16 = some (cut 16 F.2.2.2.2.2.2.2.2.2.2.2.2.2.2.2.2.2.2.2.2.2.2.2.2.2.2.2.2.2.2.1) := base_Cut_any _ 16
  have c2 : base_Cut F.2.2.2.2.2.2.2.2.2.2.2.2.2.2.2.2.2.2.2.2.2.2.2.2.2.2.2.2.2.2.2.1 16 = some (cut 16 F.2.2.2.2.2.2.2.2.2.2.2.2.2.2.2.2.2.2.2.2.2.2.2.2.2.2.2.2.2.2.2.1) := base_Cut_any _ 16
  have main : ∀ (p : PlnV) (e : Int), inner_Two (1 + F.2.1) (F.2.2.2.2.2.2.2.2.2.2.2.2.1, (F.2.2.2.2.2.2.2.2.2.2.2.2.2.1, (F.2.2.2.2.2.2.2.2.2.2.2.2.2.2.1, (F.2.2.2.2.2.2.2.2.2.2.2.2.2.2.2.1, (F.2.2.2.2.2.2.2.2.2.2.2.2.2.2.2.2.1, (F.2.2.2.2.2.2.2.2.2.2.2.2.2.2.2.2.2.1, (F.2.2.2.2.2.2.2.2.2.2.2.2.2.2.2.2.2.2.1, (F.2.2.2.2.2.2.2.2.2.2.2.2.2.2.2.2.2.2.2.1, (F.2.2.2.2.2.2.2.2.2.2.2.2.2.2.2.2.2.2.2.2.1, ()))))))))) (cut 16 F.2.2.2.2.2.2.2.2.2.2.2.2.2.2.2.2.2.2.2.2.2.2.2.2.2.2.2.2.2.2.1) (cut 16 F.2.2.2.2.2.2.2.2.2.2.2.2.2.2.2.2.2.2.2.2.2.2.2.2.2.2.2.2.2.2.2.1) F.2.2.2.2.2.2.2.2.2.2.2.2.2.2.2.2.2.2.2.2.2.2.2.2.2.2.2.2.2.2.2.2.1 F.2.2.2.2.2.2.2.2.2.2.2.2.2.2.2.2.2.2.2.2.2.2.2.2.2.2.2.2.2.2.2.2.2.1 = some (p, (e, ())) → law29_InnerBinds.j0 e F p = some true → law29_InnerBinds a0 = some true := by
    intro p e e1 e2
    rw [law29_InnerBinds.eq, works29, bnd_some, show notB true = false from rfl, br_f, hf, bnd_some, r1, K.same, c1, c2]
    simp only [bnd_some]
    rw [e1]
    simp only [bnd_some, both_self]
    exact e2
  rcases itwo_any (child := 1 + F.2.1) (by omega) K.okc (key := cut 16 F.2.2.2.2.2.2.2.2.2.2.2.2.2.2.2.2.2.2.2.2.2.2.2.2.2.2.2.2.2.2.1) (val := cut 16 F.2.2.2.2.2.2.2.2.2.2.2.2.2.2.2.2.2.2.2.2.2.2.2.2.2.2.2.2.2.2.2.1) (by omega) (by omega) F.2.2.2.2.2.2.2.2.2.2.2.2.2.2.2.2.2.2.2.2.2.2.2.2.2.2.2.2.2.2.2.2.1 F.2.2.2.2.2.2.2.2.2.2.2.2.2.2.2.2.2.2.2.2.2.2.2.2.2.2.2.2.2.2.2.2.2.1 with ⟨k1, k2, ns, old, T, e1, _⟩ | ⟨_, e1, _⟩
  · refine main _ _ e1 ?_
    obtain ⟨n0, nl⟩ := T.len
    have hlev := lev_le F.2.2.2.2.2.2.2.2.2.2.2.2.2.2.2.2.2.2.2.2.2.2.2.2.2.2.2.2.2.2.2.2.2.1
    have hok := T.ok K.okc (by omega) (by omega) k2
    have j1 : ∀ b : Bool, (b = true → mayS (F.2.2.2.2.2.2.2.2.2.2.2.2.1, (F.2.2.2.2.2.2.2.2.2.2.2.2.2.1, (F.2.2.2.2.2.2.2.2.2.2.2.2.2.2.1, (F.2.2.2.2.2.2.2.2.2.2.2.2.2.2.2.1, (F.2.2.2.2.2.2.2.2.2.2.2.2.2.2.2.2.1, (F.2.2.2.2.2.2.2.2.2.2.2.2.2.2.2.2.2.1, (F.2.2.2.2.2.2.2.2.2.2.2.2.2.2.2.2.2.2.1, (F.2.2.2.2.2.2.2.2.2.2.2.2.2.2.2.2.2.2.2.1, (F.2.2.2.2.2.2.2.2.2.2.2.2.2.2.2.2.2.2.2.2.1, ()))))))))) = 0) → law29_InnerBinds.j1 b F (ns, (-(ns.length : Int), (oldsT (1 + F.2.1) old, ()))) = some true := by
      intro b hb
      rw [law29_InnerBinds.j1.eq]
      cases b with
      | false => rw [br_f]; exact j3'
      | true =>
        have hm := hb rfl
        obtain ⟨L, g1, g2, g3, hLok⟩ := T.under (by omega) K.okc k1 hm (by omega) (by omega) k2 [] (by rw [List.append_nil]; omega) (by rw [List.append_nil]; exact hok) 60 (by omega) (by omega)
        rw [List.append_nil] at g1
        have hA := T.ahead ⟨by omega, by omega⟩ k1 hm h16k h16v k2
        have hp2 := pair2 K.okc (key := cut 16 F.2.2.2.2.2.2.2.2.2.2.2.2.2.2.2.2.2.2.2.2.2.2.2.2.2.2.2.2.2.2.1) (val := cut 16 F.2.2.2.2.2.2.2.2.2.2.2.2.2.2.2.2.2.2.2.2.2.2.2.2.2.2.2.2.2.2.2.1) (by omega) (by omega)
        have hLo : L.length ≤ 40000000 := by omega
        have g1' : law29_below ns (-(ns.length : Int)) (1 + F.2.1) (F.2.2.2.2.2.2.2.2.2.2.2.2.1, (F.2.2.2.2.2.2.2.2.2.2.2.2.2.1, (F.2.2.2.2.2.2.2.2.2.2.2.2.2.2.1, (F.2.2.2.2.2.2.2.2.2.2.2.2.2.2.2.1, (F.2.2.2.2.2.2.2.2.2.2.2.2.2.2.2.2.1, (F.2.2.2.2.2.2.2.2.2.2.2.2.2.2.2.2.2.1, (F.2.2.2.2.2.2.2.2.2.2.2.2.2.2.2.2.2.2.1, (F.2.2.2.2.2.2.2.2.2.2.2.2.2.2.2.2.2.2.2.1, (F.2.2.2.2.2.2.2.2.2.2.2.2.2.2.2.2.2.2.2.2.1, ()))))))))) 60 = some L := g1
        rw [br_t, r1, bnd_some]
        show bnd (law29_below ns (-(ns.length : Int)) (1 + F.2.1) (F.2.2.2.2.2.2.2.2.2.2.2.2.1, (F.2.2.2.2.2.2.2.2.2.2.2.2.2.1, (F.2.2.2.2.2.2.2.2.2.2.2.2.2.2.1, (F.2.2.2.2.2.2.2.2.2.2.2.2.2.2.2.1, (F.2.2.2.2.2.2.2.2.2.2.2.2.2.2.2.2.1, (F.2.2.2.2.2.2.2.2.2.2.2.2.2.2.2.2.2.1, (F.2.2.2.2.2.2.2.2.2.2.2.2.2.2.2.2.2.2.1, (F.2.2.2.2.2.2.2.2.2.2.2.2.2.2.2.2.2.2.2.1, (F.2.2.2.2.2.2.2.2.2.2.2.2.2.2.2.2.2.2.2.2.1, ()))))))))) 60) _ = _
        rw [g1', bnd_some, c1, bnd_some, c2, bnd_some]
        show bnd (ref07_Make [((F.2.2.2.2.2.2.2.2.2.2.2.2.2.1, (F.2.2.2.2.2.2.2.2.2.2.2.2.2.2.1, ())) : PairV), (cut 16 F.2.2.2.2.2.2.2.2.2.2.2.2.2.2.2.2.2.2.2.2.2.2.2.2.2.2.2.2.2.2.1, (cut 16 F.2.2.2.2.2.2.2.2.2.2.2.2.2.2.2.2.2.2.2.2.2.2.2.2.2.2.2.2.2.2.2.1, ()))]) _ = _
        rw [refmake_any _ (by show 2 ≤ _; omega) hp2, bnd_some, eqI_d, ofN_d, lenL_d, g2, decide_eq_true (by rfl), show notB true = false from rfl, br_f]
        rw [refmake_any L hLo hLok, bnd_some, refsameP_any _ _ (by have := makeS_len L; omega), bnd_some, g3]
        rw [decide_eq_true (by rfl), show notB true = false from rfl, br_f, two_may (by omega) hA hok ⟨by omega, by omega⟩ old, bnd_some, show notB (eqI 0 0) = false from rfl, law29_InnerBinds.j2.eq, br_f]
        exact j3'
    rw [law29_InnerBinds.j0.eq, eqI_d, decide_eq_true rfl, br_t]
    show bnd (ref13_May (F.2.2.2.2.2.2.2.2.2.2.2.2.1, (F.2.2.2.2.2.2.2.2.2.2.2.2.2.1, (F.2.2.2.2.2.2.2.2.2.2.2.2.2.2.1, (F.2.2.2.2.2.2.2.2.2.2.2.2.2.2.2.1, (F.2.2.2.2.2.2.2.2.2.2.2.2.2.2.2.2.1, (F.2.2.2.2.2.2.2.2.2.2.2.2.2.2.2.2.2.1, (F.2.2.2.2.2.2.2.2.2.2.2.2.2.2.2.2.2.2.1, (F.2.2.2.2.2.2.2.2.2.2.2.2.2.2.2.2.2.2.2.1, (F.2.2.2.2.2.2.2.2.2.2.2.2.2.2.2.2.2.2.2.2.1, ())))))))))) _ = _
    rw [refmay_any _ K.okc, bnd_some]
    exact j1 _ fun h => by rw [eqI_d, decide_eq_true_iff] at h; exact h
  · refine main _ _ e1 ?_
    rw [law29_InnerBinds.j0.eq, show eqI 4 0 = false from rfl, br_f, law29_InnerBinds.j1.eq, br_f]
    exact j3'
end Go.Proofs.YtimgaglpempfeaaGreat.Pure
