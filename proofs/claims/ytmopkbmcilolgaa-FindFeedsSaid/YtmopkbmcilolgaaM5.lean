/- Texts of one proof, laid together: how the interpreter's words stand for the program's code and what the functions do. No conditions but those that each lemma names. -/
import Derived.Test.YtmopkbmcilolgaaM4
set_option linter.unusedSimpArgs false
set_option linter.unusedVariables false
set_option linter.unusedSimpArgs false
namespace Go.Proofs.Ytmopkbmcilolgaa.AC
open Go.Abs
/-- A branch, as a node. -/
def bN (m : Nat) (ks : List Int) (sz bi : Int) : NodeV := (2, (ByteArray.empty, (ByteArray.empty, ((m : Int), (ks, (0, ([], (sz, (bi, ())))))))))
structure okB (m : Nat) (ks : List Int) (sz bi : Int) : Prop where
  lt : m < 4294967296
  len : ks.length = cnt 32 m
  nz : ∀ k ∈ ks, k ≠ 0
  sz0 : 0 ≤ sz
  bi0 : 0 ≤ bi
/-- A branch's child at a chunk. -/
def chAt (m : Nat) (ks : List Int) (j : Nat) : Int := if m.testBit j = true then ks.getD (cnt j m) 0 else 0
theorem cnt_mono (m : Nat) {i j : Nat} (h : i ≤ j) : cnt i m ≤ cnt j m := by
  induction h with
  | refl => exact Nat.le_refl _
  | step _ ih => rw [cnt_succ]; omega
theorem cnt_less {m i j : Nat} (h : i < j) (hb : m.testBit i = true) : cnt i m < cnt j m := by
  have := cnt_mono m (show i + 1 ≤ j by omega)
  rw [cnt_succ, if_pos hb] at this
  omega
theorem cnt_inj {m i j : Nat} (hi : m.testBit i = true) (hj : m.testBit j = true) (h : cnt i m = cnt j m) : i = j := by
  rcases Nat.lt_trichotomy i j with q | q | q
  · have := cnt_less q hi; omega
  · exact q
  · have := cnt_less q hj; omega
theorem kids_of (m : Nat) (ks : List Int) : ∀ n, cnt n m ≤ ks.length → ((List.range n).filter fun j => m.testBit j).map (fun j => ks.getD (cnt j m) 0) = ks.take (cnt n m)
  | 0, _ => by simp [cnt]
  | n + 1, h => by
    have hc := cnt_succ n m
    have hm := cnt_mono m (show n ≤ n + 1 by omega)
    rw [List.range_succ, List.filter_append, List.map_append, kids_of m ks n (by omega)]
    by_cases b : m.testBit n = true
    · rw [if_pos b] at hc
      rw [hc, List.filter_cons_of_pos (by exact b), List.filter_nil, List.map_cons, List.map_nil, List.take_succ_eq_append_getElem (by omega)]
      rw [List.getD_eq_getElem?_getD, List.getElem?_eq_getElem (show cnt n m < ks.length by omega)]
      rfl
    · rw [if_neg b] at hc
      rw [hc, List.filter_cons_of_neg (by exact b), List.filter_nil, List.map_nil, List.append_nil, Nat.add_zero]
theorem okB.at_nz {m : Nat} {ks : List Int} {sz bi : Int} (h : okB m ks sz bi) {j : Nat} (hj : j < 32) (hb : m.testBit j = true) : ks.getD (cnt j m) 0 ≠ 0 := by
  have := cnt_less hj hb
  have hl := h.len
  rw [List.getD_eq_getElem?_getD, List.getElem?_eq_getElem (show cnt j m < ks.length by omega)]
  exact h.nz _ (List.getElem_mem _)
theorem okB.ch_nz {m : Nat} {ks : List Int} {sz bi : Int} (h : okB m ks sz bi) {j : Nat} (hj : j < 32) : chAt m ks j ≠ 0 ↔ m.testBit j = true := by
  unfold chAt
  by_cases hb : m.testBit j = true
  · rw [if_pos hb]; exact ⟨fun _ => hb, fun _ => h.at_nz hj hb⟩
  · rw [if_neg hb]; exact ⟨fun q => absurd rfl q, fun q => absurd q hb⟩
theorem okB.node {m : Nat} {ks : List Int} {sz bi : Int} (h : okB m ks sz bi) : okN (bN m ks sz bi) := by
  have hl := h.len
  have hc := cnt_le 32 m
  have hm := h.lt
  exact ⟨by show (0 : Nat) ≤ 40; omega, by show (0 : Nat) ≤ 40; omega, by show (0 : Int) ≤ (m : Int); omega, by show (m : Int) < 4294967296; omega, by show ks.length ≤ 1000000; omega, by show (0 : Nat) ≤ 1000000; omega, fun p hp => by cases hp⟩
theorem okB.may {m : Nat} {ks : List Int} {sz bi : Int} (h : okB m ks sz bi) : mayS (bN m ks sz bi) = 0 := by
  unfold mayS
  have hl : longN (bN m ks sz bi) = false := rfl
  rw [if_neg (by show ¬ (2 : Int) < 1; omega), if_neg (by show ¬ (6 : Int) < 2; omega), hl, if_neg (by simp), if_pos]
  refine ⟨h.bi0, ?_⟩
  rw [if_neg (by show ¬ ((2 : Int) = 1 ∨ (2 : Int) = 6); omega), if_pos (by show (2 : Int) = 2; rfl)]
  refine ⟨fun q => h.nz 0 q rfl, ?_, h.sz0, fun _ => ⟨rfl, rfl⟩, fun q => (by cases q), fun _ => rfl, fun _ => rfl⟩
  show ks.length = (allI (m : Int).toNat).length
  rw [Int.toNat_natCast, allI_len]
  exact h.len
theorem okB.empty : okB 0 [] 0 0 := ⟨by omega, by decide, fun k hk => (by cases hk), Int.le_refl _, Int.le_refl _⟩
/-- A node that is a branch that may be. -/
theorem branch_form {n : NodeV} (h : okN n) (h1 : n.1 = 2) (h2 : mayS n = 0) : ∃ m ks sz bi, okB m ks sz bi ∧ n = bN m ks sz bi := by
  have hm0 := h.map0
  have hm1 := h.map1
  unfold mayS at h2
  rw [if_neg (by omega), if_neg (by omega)] at h2
  split at h2
  · omega
  split at h2
  case isFalse => omega
  rename_i hf
  obtain ⟨k, key, val, m, ks, mn, L, sz, bi, u⟩ := n
  unfold formP bareP at hf
  dsimp only at h1 hf hm0 hm1
  obtain ⟨f1, f2⟩ := hf
  rw [if_neg (by omega), if_pos h1] at f2
  obtain ⟨g1, g2, g3, g4, _, g5, g6⟩ := f2
  obtain ⟨g4, g7⟩ := g4 rfl
  have g5 := g5 rfl
  have g6 := g6 rfl
  subst h1; subst g4; subst g7; subst g5; subst g6
  refine ⟨m.toNat, ks, sz, bi, ⟨by omega, by rw [g2, allI_len], fun k hk e => g1 (e ▸ hk), g3, f1⟩, ?_⟩
  unfold bN
  rw [Int.toNat_of_nonneg hm0]
/-! ### The code's branch, the document's -/
theorem of_l0 (m : Nat) (ks : List Int) (sz bi : Int) (h : okB m ks sz bi) (x3 : List Int × Int × Int × Unit) (d : Nat) : ∀ (i : Nat), i ≤ (allI m).length → (allI m).length - i = d →
    ref19_Of.l0 (allI m) i (bN m ks sz bi) x3 ((List.range 32).map (fun j => if m.testBit j = true ∧ cnt j m < i then ks.getD (cnt j m) 0 else 0), (0, (0, ()))) = some ((List.range 32).map (chAt m ks), (sz, (bi, ()))) := by
  have hlen := allI_len m
  have hkl := h.len
  have hc := cnt_le 32 m
  induction d with
  | zero =>
    intro i hi hd
    rw [ref19_Of.l0.eq]
    simp only [ltI_d, ofN_d, lenL_d, br_if]
    rw [if_neg (by omega), both_self]
    have e : (List.range 32).map (fun j => if m.testBit j = true ∧ cnt j m < i then ks.getD (cnt j m) 0 else 0) = (List.range 32).map (chAt m ks) := by
      refine List.map_congr_left (fun j hj => ?_)
      have hj := List.mem_range.1 hj
      unfold chAt
      by_cases hb : m.testBit j = true
      · have := cnt_less hj hb
        rw [if_pos hb, if_pos ⟨hb, by omega⟩]
      · rw [if_neg hb, if_neg (fun q => hb q.1)]
    rw [e]
    rfl
  | succ d ih =>
    intro i hi hd
    have hil : i < (allI m).length := by omega
    obtain ⟨j, j1, j2, j3⟩ := allI_mem.1 (List.getElem_mem hil)
    have hj : cnt j m = i := by
      have p1 := place_at (allI_sorted m) i hil
      have e : rd (allI m) (i : Int) = (allI m)[i] := by rw [rd_nat, List.getD_eq_getElem?_getD, List.getElem?_eq_getElem hil]; rfl
      rw [e, j3, ← place_list] at p1
      rw [show cl (j : Int) = j by unfold cl; omega] at p1
      exact p1
    rw [ref19_Of.l0.eq]
    have ix : ixL (.int .i64) (allI m) (i : Int) = (j : Int) := (ixR (allI m) i hil).trans j3
    have ik : ixL (.int .i64) ks (i : Int) = ks[i] := ixR ks i (by omega)
    rw [ix]
    have hks : (bN m ks sz bi).2.2.2.2.1 = ks := rfl
    rw [hks, ik]
    simp only [ltI_d, leI_d, ofN_d, lenL_d, andB_d, br_if]
    rw [if_pos (by omega), if_pos (by omega), if_pos (by omega), if_pos (by omega), add1 i (by omega)]
    have e : setL (.int .i64) ((List.range 32).map (fun j => if m.testBit j = true ∧ cnt j m < i then ks.getD (cnt j m) 0 else 0)) (j : Int) ks[i] = (List.range 32).map (fun j => if m.testBit j = true ∧ cnt j m < i + 1 then ks.getD (cnt j m) 0 else 0) := by
      unfold setL
      rw [Int.toNat_natCast]
      apply List.ext_getElem
      · simp
      intro a h1 h2
      rw [List.getElem_set]
      have ha : a < 32 := by simpa using h2
      by_cases q : j = a
      · subst q
        rw [if_pos rfl, List.getElem_map, List.getElem_range, if_pos ⟨j2, by omega⟩, hj, List.getD_eq_getElem?_getD, List.getElem?_eq_getElem (show i < ks.length by omega)]
        rfl
      · rw [if_neg q, List.getElem_map, List.getElem_map, List.getElem_range]
        by_cases hb : m.testBit a = true
        · have hne : cnt a m ≠ i := fun e => q (cnt_inj j2 hb (by omega))
          by_cases g : cnt a m < i
          · rw [if_pos ⟨hb, g⟩, if_pos ⟨hb, by omega⟩]
          · rw [if_neg (fun z => g z.2), if_neg (fun z => by have := z.2; omega)]
        · rw [if_neg (fun z => hb z.1), if_neg (fun z => hb z.1)]
    rw [e]
    exact ih (i + 1) (by omega) (by omega)
theorem branchO_0 : node_Branch_o 0 [] 0 = some ((2, (ByteArray.empty, (ByteArray.empty, (0, ((), (0, ((), (0, (0, ()))))))))), ([], ([], ()))) := by
  rw [node_Branch_o.eq, cloneR_any _ (by show (0 : Nat) ≤ _; omega), bnd_some]
theorem branch_spec (n : NodeV) (h : okN n) : ∃ m ks sz bi, okB m ks sz bi ∧ branch_branch n = some ((2, (ByteArray.empty, (ByteArray.empty, ((m : Int), ((), (0, ((), (sz, (bi, ()))))))))), (ks, ([], ()))) ∧
    ref19_Of n = some ((List.range 32).map (chAt m ks), (sz, (bi, ()))) ∧ ((n.1 = 2 ∧ mayS n = 0) → n = bN m ks sz bi) := by
  have zero : (List.range 32).map (chAt 0 []) = List.replicate 32 (0 : Int) := by decide
  by_cases h1 : n.1 = 2
  · by_cases h2 : mayS n = 0
    · obtain ⟨m, ks, sz, bi, hb, rfl⟩ := branch_form h h1 h2
      refine ⟨m, ks, sz, bi, hb, ?_, ?_, fun _ => rfl⟩
      · rw [branch_branch.eq, may_any _ h, bnd_some, copy_any _ h, bnd_some, h2]
        simp only [eqI_d, notB_d, br_if]
        rw [if_neg (fun q => q rfl), if_neg (fun q => q (by first | exact rfl | exact True.intro))]
        rfl
      · rw [ref19_Of.eq, refmay_any _ h, bnd_some, h2]
        have hm : (bN m ks sz bi).2.2.2.1 = ((m : Nat) : Int) := rfl
        simp only [eqI_d, notB_d, br_if]
        rw [if_neg (fun q => q rfl), if_neg (fun q => q (by first | exact rfl | exact True.intro)), hm, refall_any m hb.lt, bnd_some]
        have := of_l0 m ks sz bi hb (List.replicate 32 (0 : Int), (0, (0, ()))) (allI m).length 0 (by omega) (by omega)
        have e : (List.range 32).map (fun j => if m.testBit j = true ∧ cnt j m < 0 then ks.getD (cnt j m) 0 else 0) = List.replicate 32 (0 : Int) := by
          have : (fun j => if m.testBit j = true ∧ cnt j m < 0 then ks.getD (cnt j m) 0 else (0 : Int)) = fun _ => 0 := by
            funext j
            rw [if_neg (fun q => by have := q.2; omega)]
          rw [this]
          rfl
        rw [e] at this
        exact this
    · refine ⟨0, [], 0, 0, .empty, ?_, ?_, fun q => absurd q.2 h2⟩
      · rw [branch_branch.eq, may_any _ h, bnd_some, branchO_0, bnd_some]
        simp only [eqI_d, notB_d, br_if]
        rw [if_neg (fun q => q h1), if_pos h2]
        rfl
      · rw [ref19_Of.eq, refmay_any _ h, bnd_some, zero]
        simp only [eqI_d, notB_d, br_if]
        rw [if_neg (fun q => q h1), if_pos h2]
  · refine ⟨0, [], 0, 0, .empty, ?_, ?_, fun q => absurd q.1 h1⟩
    · rw [branch_branch.eq, branchO_0, bnd_some]
      simp only [eqI_d, notB_d, br_if]
      rw [if_pos h1]
      rfl
    · rw [ref19_Of.eq, zero]
      simp only [eqI_d, notB_d, br_if]
      rw [if_pos h1]
theorem branch_self {m : Nat} {ks : List Int} {sz bi : Int} (h : okB m ks sz bi) : branch_branch (bN m ks sz bi) = some ((2, (ByteArray.empty, (ByteArray.empty, ((m : Int), ((), (0, ((), (sz, (bi, ()))))))))), (ks, ([], ()))) := by
  rw [branch_branch.eq, may_any _ h.node, bnd_some, copy_any _ h.node, bnd_some, h.may]
  simp only [eqI_d, notB_d, br_if]
  rw [if_neg (fun q => q rfl), if_neg (fun q => q (by first | exact rfl | exact True.intro))]
  rfl
/-! ### Children -/
/-- The child at a chunk, whatever number is named. -/
def chI (m : Nat) (ks : List Int) (i : Int) : Int := if 0 ≤ i ∧ i < 32 then chAt m ks i.toNat else 0
theorem child_any {n : NodeV} {m : Nat} {ks : List Int} {sz bi : Int} (h : okB m ks sz bi) (hb : branch_branch n = some ((2, (ByteArray.empty, (ByteArray.empty, ((m : Int), ((), (0, ((), (sz, (bi, ()))))))))), (ks, ([], ())))) (i : Int) : branch_Child n i = some (chI m ks i) := by
  have hl := h.len
  rw [branch_Child.eq, hb, bnd_some, has_m m h.lt i, bnd_some, place_m m h.lt i, bnd_some]
  unfold chI chAt hasM
  by_cases hi : 0 ≤ i ∧ i < 32
  · rw [decide_eq_true hi, Bool.true_and, if_pos hi]
    cases hbit : m.testBit i.toNat with
    | false => rfl
    | true =>
      have := cnt_less (show i.toNat < 32 by omega) hbit
      rw [show cl i = i.toNat by unfold cl; omega]
      show br (notB true) _ _ = _
      rw [show notB true = false from rfl, br_f]
      simp only [ltI_d, leI_d, ofN_d, lenL_d, andB_d, br_if]
      rw [if_pos (by omega), if_pos True.intro, ixR ks _ (by omega), List.getD_eq_getElem?_getD, List.getElem?_eq_getElem (show cnt i.toNat m < ks.length by omega)]
      rfl
  · rw [decide_eq_false hi, Bool.false_and, if_neg hi]
    rfl
theorem refchild_any (m : Nat) (ks : List Int) (sz bi : Int) (i : Int) : ref19_Branch_Child ((List.range 32).map (chAt m ks), (sz, (bi, ()))) i = some (chI m ks i) := by
  rw [ref19_Branch_Child.eq]
  unfold chI
  simp only [ltI_d, leI_d, ofN_d, andB_d, br_if]
  by_cases h1 : i < 0
  · rw [if_pos h1, if_neg (by omega)]
  rw [if_neg h1]
  by_cases h2 : 31 < i
  · rw [if_pos h2, if_neg (by omega)]
  rw [if_neg h2, if_pos (by omega), if_pos (by omega)]
  have hi : i = ((i.toNat : Nat) : Int) := by omega
  have hlt : i.toNat < 32 := by omega
  generalize i.toNat = k at hi hlt
  subst hi
  have : ixL (.int .i64) ((List.range 32).map (chAt m ks)) (k : Int) = ((List.range 32).map (chAt m ks))[k]'(by simpa using hlt) := ixR _ k (by simpa using hlt)
  rw [this, List.getElem_map, List.getElem_range]
theorem at_len (m : Nat) (ks : List Int) : ((List.range 32).map (chAt m ks)).length = 32 := by simp
theorem at_get (m : Nat) (ks : List Int) (j : Nat) (hj : j < 32) : ((List.range 32).map (chAt m ks)).getD j 0 = chAt m ks j := by
  rw [List.getD_eq_getElem?_getD, List.getElem?_eq_getElem (by simpa using hj), List.getElem_map, List.getElem_range]
  rfl
end Go.Proofs.Ytmopkbmcilolgaa.AC
set_option autoImplicit false
set_option linter.unusedVariables false
namespace Go.Abs
theorem wf_i64 {a : Int} (h : (Lit.int .i64 a).wf = true) : -9223372036854775808 ≤ a ∧ a ≤ 9223372036854775807 := by
  simp [Lit.wf, IntKind.min, IntKind.max, IntKind.bits, IntKind.signed] at h
  omega
theorem wf_u64 {a : Int} (h : (Lit.int .u64 a).wf = true) : 0 ≤ a ∧ a < 18446744073709551616 := by
  simp [Lit.wf, IntKind.min, IntKind.max, IntKind.bits, IntKind.signed] at h
  omega
theorem wrap_u64 (n : Int) : IntKind.u64.wrap n = n % 18446744073709551616 := by simp [IntKind.wrap, IntKind.bits, IntKind.signed]
theorem wrap_u64_id {n : Int} (h0 : 0 ≤ n) (h1 : n < 18446744073709551616) : IntKind.u64.wrap n = n := by rw [wrap_u64]; omega
theorem wrap_u64_range (n : Int) : 0 ≤ IntKind.u64.wrap n ∧ IntKind.u64.wrap n < 18446744073709551616 := by rw [wrap_u64]; omega
theorem wraps_u64 (n : Int) (h0 : 0 ≤ n) (h1 : n < 2 ^ 64) : IntKind.u64.wrap n = n := by rw [wrap_u64]; omega
theorem and_u64 (a w : Nat) (ha : a < 18446744073709551616) (hw : w ≤ 64) : andI .u64 (a : Int) ((2 ^ w - 1 : Nat) : Int) = ((a % 2 ^ w : Nat) : Int) := by
  have hp : 2 ^ w ≤ 18446744073709551616 := by
    have := Nat.pow_le_pow_right (n := 2) (by omega) hw
    omega
  have hq : 0 < 2 ^ w := Nat.two_pow_pos w
  have e : ∀ x : Nat, x < 18446744073709551616 → (BitVec.ofInt 64 (x : Int)).toNat = x := by
    intro x hx
    simp only [BitVec.toNat_ofInt]
    omega
  unfold andI
  rw [show IntKind.u64.bits = 64 from rfl, BitVec.toNat_and, e a ha, e _ (by omega), Nat.and_two_pow_sub_one_eq_mod]
  have := Nat.mod_le a (2 ^ w)
  exact wrap_u64_id (by omega) (by omega)
/-- How many bits may be. -/
def wid (bits : Int) : Nat := (min (max bits 0) 64).toNat
theorem wid_le (bits : Int) : wid bits ≤ 64 := by unfold wid; omega
def lev (bits : Int) : Nat := (wid bits + 4) / 5
theorem lev_le (bits : Int) : lev bits ≤ 13 := by have := wid_le bits; unfold lev; omega
/-- A hash's chunkS at a level. -/
def chunkS (h : Nat) (level : Nat) (bits : Int) : Nat := if level < lev bits then (h % 2 ^ wid bits) / 2 ^ (5 * level) % 32 else 0
/-- One step of a hash. -/
def hstep (h b : Int) : Int := IntKind.u64.wrap ((xorI .u64 h (IntKind.u64.wrap b)) * 1099511628211)
def fnv : List UInt8 → Int → Int
  | [], h => h
  | x :: xs, h => fnv xs (hstep h (x.toNat : Int))
theorem hstep_range (h b : Int) : 0 ≤ hstep h b ∧ hstep h b < 18446744073709551616 := wrap_u64_range _
theorem fnv_cons (x : UInt8) (xs : List UInt8) (h : Int) : fnv (x :: xs) h = fnv xs (hstep h (x.toNat : Int)) := rfl
theorem fnv_range : ∀ (l : List UInt8) (h : Int), 0 ≤ h → h < 18446744073709551616 → 0 ≤ fnv l h ∧ fnv l h < 18446744073709551616
  | [], _, h0, h1 => ⟨h0, h1⟩
  | _ :: xs, h, _, _ => fnv_range xs _ (hstep_range h _).1 (hstep_range h _).2
/-- A text's hash. -/
theorem hashN_ex : ∃ f : ByteArray → Nat, ∀ s, f s = (fnv (bl s) 14695981039346656037).toNat := ⟨_, fun _ => rfl⟩
noncomputable def hashN : ByteArray → Nat := Classical.choose hashN_ex
theorem hashN_eq (s : ByteArray) : hashN s = (fnv (bl s) 14695981039346656037).toNat := Classical.choose_spec hashN_ex s
theorem hashN_int (s : ByteArray) : (hashN s : Int) = fnv (bl s) 14695981039346656037 := by
  have := fnv_range (bl s) 14695981039346656037 (by omega) (by omega)
  rw [hashN_eq]; omega
theorem hashN_lt (s : ByteArray) : hashN s < 18446744073709551616 := by
  have := fnv_range (bl s) 14695981039346656037 (by omega) (by omega)
  rw [hashN_eq]; omega
noncomputable def hashS (s : ByteArray) (bits : Int) : Nat := hashN s % 2 ^ wid bits
theorem hash_lt (s : ByteArray) (bits : Int) : hashS s bits < 2 ^ wid bits := Nat.mod_lt _ (Nat.two_pow_pos _)
theorem pow_le64 {w : Nat} (h : w ≤ 64) : 2 ^ w ≤ 18446744073709551616 := by
  have := Nat.pow_le_pow_right (n := 2) (by omega) h
  omega
theorem hash_lt64 (s : ByteArray) (bits : Int) : hashS s bits < 18446744073709551616 := by
  have := hash_lt s bits
  have := pow_le64 (wid_le bits)
  omega

/-- Which of two lists of chunks is ahead, from a level on. -/
def befC (x y : Nat → Nat) : Nat → Nat → Bool
  | 0, _ => false
  | n + 1, l => if x l = y l then befC x y n (l + 1) else decide (x l < y l)
def befS (a b : Nat) (bits : Int) : Bool := befC (fun l => chunkS a l bits) (fun l => chunkS b l bits) (lev bits) 0

theorem befC_same (x y : Nat → Nat) : ∀ n l, (∀ i, l ≤ i → i < l + n → x i = y i) → befC x y n l = false
  | 0, _, _ => rfl
  | n + 1, l, h => by
    unfold befC
    rw [if_pos (h l (by omega) (by omega))]
    exact befC_same x y n (l + 1) (fun i h1 h2 => h i (by omega) (by omega))
theorem befC_total (x y : Nat → Nat) : ∀ n l, (¬ ∀ i, l ≤ i → i < l + n → x i = y i) → (befC x y n l = !befC y x n l)
  | 0, l, h => absurd (fun i h1 h2 => by omega) h
  | n + 1, l, h => by
    unfold befC
    by_cases e : x l = y l
    · rw [if_pos e, if_pos e.symm]
      refine befC_total x y n (l + 1) (fun k => h (fun i h1 h2 => ?_))
      by_cases q : i = l
      · rw [q]; exact e
      · exact k i (by omega) (by omega)
    · rw [if_neg e, if_neg (fun q => e q.symm)]
      by_cases q : x l < y l
      · have : ¬ y l < x l := by omega
        simp [q, this]
      · have : y l < x l := by omega
        simp [q, this]

theorem digits_eq : ∀ (n a b : Nat), a < 32 ^ n → b < 32 ^ n → (∀ i, i < n → a / 32 ^ i % 32 = b / 32 ^ i % 32) → a = b
  | 0, a, b, ha, hb, _ => by simp at ha hb; omega
  | n + 1, a, b, ha, hb, h => by
    have h0 := h 0 (by omega)
    simp at h0
    have := digits_eq n (a / 32) (b / 32) (by rw [Nat.pow_succ] at ha; omega) (by rw [Nat.pow_succ] at hb; omega) (fun i hi => by
      have := h (i + 1) (by omega)
      rw [Nat.pow_succ, Nat.mul_comm, ← Nat.div_div_eq_div_mul, ← Nat.div_div_eq_div_mul] at this
      exact this)
    omega
theorem chunk_small (a level : Nat) (bits : Int) (ha : a < 2 ^ wid bits) (hl : level < lev bits) : chunkS a level bits = a / 32 ^ level % 32 := by
  unfold chunkS
  rw [if_pos hl, Nat.mod_eq_of_lt ha, Nat.pow_mul]
theorem chunks_same {a b : Nat} {bits : Int} (ha : a < 2 ^ wid bits) (hb : b < 2 ^ wid bits) (h : ∀ l, l < lev bits → chunkS a l bits = chunkS b l bits) : a = b := by
  have hp : 2 ^ wid bits ≤ 32 ^ lev bits := by
    rw [show (32 : Nat) = 2 ^ 5 by rfl, ← Nat.pow_mul]
    exact Nat.pow_le_pow_right (by omega) (by unfold lev; omega)
  refine digits_eq (lev bits) a b (by omega) (by omega) (fun i hi => ?_)
  have := h i hi
  rw [chunk_small a i bits ha hi, chunk_small b i bits hb hi] at this
  exact this
theorem before_self (a : Nat) (bits : Int) : befS a a bits = false := befC_same _ _ _ _ (fun _ _ _ => rfl)
theorem before_self' {a b : Nat} {bits : Int} (h : a = b) : befS a b bits = false := by rw [h]; exact before_self b bits
theorem before_total {a b : Nat} {bits : Int} (ha : a < 2 ^ wid bits) (hb : b < 2 ^ wid bits) (h : a ≠ b) : befS a b bits = !befS b a bits :=
  befC_total _ _ _ _ (fun k => h (chunks_same ha hb (fun l hl => k l (by omega) (by omega))))
theorem befC_trans (x y z : Nat → Nat) : ∀ n l, befC x y n l = true → befC y z n l = true → befC x z n l = true
  | 0, _, h, _ => by cases h
  | n + 1, l, h1, h2 => by
    unfold befC at h1 h2 ⊢
    by_cases e1 : x l = y l
    · by_cases e2 : y l = z l
      · rw [if_pos e1] at h1
        rw [if_pos e2] at h2
        rw [if_pos (e1.trans e2)]
        exact befC_trans x y z n (l + 1) h1 h2
      · rw [if_neg e2] at h2
        rw [if_neg (by omega)]
        simp only [decide_eq_true_eq] at h2 ⊢
        omega
    · rw [if_neg e1] at h1
      simp only [decide_eq_true_eq] at h1
      by_cases e2 : y l = z l
      · rw [if_neg (by omega)]
        simp only [decide_eq_true_eq]
        omega
      · rw [if_neg e2] at h2
        simp only [decide_eq_true_eq] at h2
        rw [if_neg (by omega)]
        simp only [decide_eq_true_eq]
        omega
theorem before_trans {a b c : Nat} {bits : Int} (h1 : befS a b bits = true) (h2 : befS b c bits = true) : befS a c bits = true := befC_trans _ _ _ _ _ h1 h2

/-- What lies between two bits. -/
theorem mod_div_pow (h w a : Nat) (ha : a ≤ w) : h % 2 ^ w / 2 ^ a = h / 2 ^ a % 2 ^ (w - a) := by
  have : 2 ^ w = 2 ^ a * 2 ^ (w - a) := by rw [← Nat.pow_add]; congr 1; omega
  rw [this, Nat.mod_mul_right_div_self]
theorem mod_mod_pow (x p q : Nat) : x % 2 ^ p % 2 ^ q = x % 2 ^ min p q := by
  by_cases h : q ≤ p
  · rw [Nat.min_eq_right h, Nat.mod_mod_of_dvd _ (Nat.pow_dvd_pow 2 h)]
  · rw [Nat.min_eq_left (by omega), Nat.mod_eq_of_lt]
    have h1 := Nat.mod_lt x (Nat.two_pow_pos p)
    have h2 := Nat.pow_le_pow_right (n := 2) (by omega) (show p ≤ q by omega)
    omega
theorem mod_pow_succ (x p : Nat) : x % 2 ^ (p + 1) = x % 2 ^ p + 2 ^ p * (x / 2 ^ p % 2) := by
  rw [Nat.pow_succ, Nat.mod_mul]
theorem lowstep (A A' B B' P : Nat) (q2 : A / 2 = A') (m1 : B' = B + P * (A % 2)) (hB : B' < 18446744073709551616) (hA : A < 18446744073709551616) (hP : P ≤ 9223372036854775808) :
    IntKind.u64.wrap ((A : Int) / 2) = (A' : Int) ∧ IntKind.u64.wrap ((B : Int) + IntKind.u64.wrap ((P : Int) * ((A : Int) % 2))) = (B' : Int) := by
  have e : ((A : Int) % 2) = ((A % 2 : Nat) : Int) := by omega
  have hb : A % 2 = 0 ∨ A % 2 = 1 := by omega
  constructor
  · rw [wrap_u64_id (by omega) (by omega)]; omega
  · rw [e]
    rcases hb with hb | hb
    · rw [hb] at m1 ⊢
      rw [wrap_u64_id (n := (P : Int) * ((0 : Nat) : Int)) (by omega) (by omega), wrap_u64_id (by omega) (by omega)]
      omega
    · rw [hb] at m1 ⊢
      rw [wrap_u64_id (n := (P : Int) * ((1 : Nat) : Int)) (by omega) (by omega), wrap_u64_id (by omega) (by omega)]
      omega
theorem chunkstep (b B B' P : Nat) (m1 : B' = B + P * b) (hb : b < 2) (hB : B < 64) (hP : P ≤ 64) : IntKind.i64.wrap ((B : Int) + IntKind.i64.wrap ((P : Int) * (b : Int))) = (B' : Int) := by
  have hb : b = 0 ∨ b = 1 := by omega
  rcases hb with hb | hb
  · rw [hb] at m1 ⊢
    rw [wrap_i64_id (x := (P : Int) * ((0 : Nat) : Int)) (by omega) (by omega), wrap_i64_id (by omega) (by omega)]
    omega
  · rw [hb] at m1 ⊢
    rw [wrap_i64_id (x := (P : Int) * ((1 : Nat) : Int)) (by omega) (by omega), wrap_i64_id (by omega) (by omega)]
    omega
/-- How a hash is mixed to a priority. -/
def m1 (h : Int) : Int := IntKind.u64.wrap ((xorI .u64 h (h / 1073741824)) * 13787848793156543929)
def m2 (h : Int) : Int := IntKind.u64.wrap ((xorI .u64 h (h / 134217728)) * 10723151780598845931)
def m3 (h : Int) : Int := xorI .u64 h (h / 2147483648)
/-- A text's priority. -/
theorem pri_ex : ∃ f : ByteArray → Int, ∀ s, f s = m3 (m2 (m1 ((hashS s 64 : Nat) : Int))) := ⟨_, fun _ => rfl⟩
noncomputable def pri : ByteArray → Int := Classical.choose pri_ex
theorem pri_eq (s : ByteArray) : pri s = m3 (m2 (m1 ((hashS s 64 : Nat) : Int))) := Classical.choose_spec pri_ex s
/-- Which of two texts is above. -/
noncomputable def above (a b : ByteArray) : Bool := if pri a = pri b then lt a b else decide (pri a > pri b)
theorem above_irrefl (a : ByteArray) : above a a = false := by
  unfold above
  rw [if_pos rfl, lt_irrefl]
theorem above_total {a b : ByteArray} (h : a ≠ b) : above a b = true ∨ above b a = true := by
  unfold above
  by_cases e : pri a = pri b
  · rw [if_pos e, if_pos e.symm]; exact lt_total h
  · rw [if_neg e, if_neg (fun q => e q.symm)]
    simp only [decide_eq_true_eq]
    omega
theorem above_trans {a b c : ByteArray} (h1 : above a b = true) (h2 : above b c = true) : above a c = true := by
  unfold above at *
  by_cases e1 : pri a = pri b
  · by_cases e2 : pri b = pri c
    · rw [if_pos e1] at h1
      rw [if_pos e2] at h2
      rw [if_pos (by omega)]
      exact lt_trans h1 h2
    · rw [if_neg e2] at h2
      simp only [decide_eq_true_eq] at h2
      rw [if_neg (by omega)]
      simp only [decide_eq_true_eq]
      omega
  · rw [if_neg e1] at h1
    simp only [decide_eq_true_eq] at h1
    by_cases e2 : pri b = pri c
    · rw [if_neg (by omega)]
      simp only [decide_eq_true_eq]
      omega
    · rw [if_neg e2] at h2
      simp only [decide_eq_true_eq] at h2
      rw [if_neg (by omega)]
      simp only [decide_eq_true_eq]
      omega
theorem above_asymm {a b : ByteArray} (h : above a b = true) : above b a = false := by
  cases k : above b a with
  | false => rfl
  | true => have := above_trans h k; rw [above_irrefl] at this; cases this
/-- The one that none of some texts is above. -/
noncomputable def best : List ByteArray → ByteArray → ByteArray
  | [], o => o
  | x :: xs, o => best xs (if above x o = true then x else o)
noncomputable def topT : List ByteArray → ByteArray × Bool
  | [] => (⟨#[]⟩, false)
  | x :: xs => (best xs x, true)
theorem best_mem : ∀ xs o, best xs o = o ∨ best xs o ∈ xs
  | [], _ => .inl rfl
  | x :: xs, o => by
    unfold best
    by_cases h : above x o = true
    · rw [if_pos h]
      rcases best_mem xs x with e | e
      · rw [e]; exact .inr (by simp)
      · exact .inr (List.mem_cons_of_mem _ e)
    · rw [if_neg h]
      rcases best_mem xs o with e | e
      · exact .inl e
      · exact .inr (List.mem_cons_of_mem _ e)
theorem above_not_trans {a b c : ByteArray} (h1 : above a b = false) (h2 : above b c = false) : above a c = false := by
  cases h : above a c with
  | false => rfl
  | true =>
    by_cases e : a = b
    · subst e; rw [h2] at h; cases h
    · rcases above_total e with q | q
      · rw [h1] at q; cases q
      · have := above_trans q h; rw [h2] at this; cases this
theorem best_top : ∀ xs o, above o (best xs o) = false ∧ ∀ y ∈ xs, above y (best xs o) = false
  | [], o => ⟨above_irrefl o, by simp⟩
  | x :: xs, o => by
    unfold best
    by_cases h : above x o = true
    · rw [if_pos h]
      obtain ⟨h1, h2⟩ := best_top xs x
      refine ⟨above_not_trans (above_asymm h) h1, fun y hy => ?_⟩
      rcases List.mem_cons.1 hy with e | e
      · rw [e]; exact h1
      · exact h2 y e
    · rw [if_neg h]
      obtain ⟨h1, h2⟩ := best_top xs o
      refine ⟨h1, fun y hy => ?_⟩
      rcases List.mem_cons.1 hy with e | e
      · rw [e]; exact above_not_trans (Bool.eq_false_iff.2 h) h1
      · exact h2 y e
theorem top_mem {l : List ByteArray} (h : 0 < l.length) : (topT l).1 ∈ l := by
  cases l with
  | nil => simp at h
  | cons x xs =>
    show best xs x ∈ _
    rcases best_mem xs x with e | e
    · rw [e]; simp
    · exact List.mem_cons_of_mem _ e
theorem top_top {l : List ByteArray} {y : ByteArray} (h : y ∈ l) : above y (topT l).1 = false := by
  cases l with
  | nil => simp at h
  | cons x xs =>
    show above y (best xs x) = false
    obtain ⟨h1, h2⟩ := best_top xs x
    rcases List.mem_cons.1 h with e | e
    · rw [e]; exact h1
    · exact h2 y e
theorem top_only {l : List ByteArray} {y : ByteArray} (h : y ∈ l) (hy : ∀ z ∈ l, above z y = false) : y = (topT l).1 := by
  by_cases e : y = (topT l).1
  · exact e
  · have hp : 0 < l.length := List.length_pos_of_mem h
    rcases above_total e with q | q
    · rw [top_top h] at q; cases q
    · rw [hy _ (top_mem hp)] at q; cases q
end Go.Abs
set_option linter.unusedVariables false
set_option linter.unusedSimpArgs false
namespace Go.Proofs.Ytmopkbmcilolgaa.AC
open Go.Abs
theorem clamp_any (bits : Int) : ref04_clamp bits = some (wid bits : Int) := by
  rw [ref04_clamp.eq]
  simp only [ltI_d, br_if]
  unfold wid
  by_cases h : bits < 0
  · rw [if_pos h]; exact some_int (by omega)
  · rw [if_neg h]
    by_cases h' : 64 < bits
    · rw [if_pos h']; exact some_int (by omega)
    · rw [if_neg h']; exact some_int (by omega)
theorem reflow_loop (bits : Int) (n : Nat) (hn : n < 18446744073709551616) (d : Nat) : ∀ (i : Nat) (one : Int), i ≤ wid bits → (i < 64 → one = 2 ^ i) → wid bits - i = d →
    ref04_Of.l1 bits ((n / 2 ^ i : Nat) : Int) ((n % 2 ^ i : Nat) : Int) one i = some ((n % 2 ^ wid bits : Nat) : Int) := by
  have hw := wid_le bits
  induction d with
  | zero =>
    intro i one hi h1 hd
    rw [ref04_Of.l1.eq, clamp_any, bnd_some]
    simp only [ltI_d, br_if]
    rw [if_neg (by omega), show i = wid bits by omega]
  | succ d ih =>
    intro i one hi h1 hd
    rw [ref04_Of.l1.eq, clamp_any, bnd_some]
    simp only [ltI_d, br_if, eqI_d, notB_d]
    have hone := h1 (by omega)
    subst hone
    have c : ((2 : Int) ^ i) = ((2 ^ i : Nat) : Int) := by simp
    have p : 2 ^ i ≤ 2 ^ 63 := Nat.pow_le_pow_right (by omega) (by omega)
    have q : n / 2 ^ i ≤ n := Nat.div_le_self _ _
    have q2 : n / 2 ^ i / 2 = n / 2 ^ (i + 1) := by rw [Nat.div_div_eq_div_mul, Nat.pow_succ]
    have m1 := mod_pow_succ n i
    have m2 : n % 2 ^ (i + 1) < 18446744073709551616 := by have := Nat.mod_le n (2 ^ (i + 1)); omega
    rw [if_pos (by omega), if_pos (by omega), if_pos (by omega), add1 i (by omega)]
    unfold quoI remI addI mulI
    rw [Int.tdiv_eq_ediv_of_nonneg (Int.natCast_nonneg _), Int.tmod_eq_emod_of_nonneg (Int.natCast_nonneg _)]
    have e := lowstep (n / 2 ^ i) _ (n % 2 ^ i) _ (2 ^ i) q2 m1 m2 (by omega) p
    rw [← c] at e
    rw [e.1, e.2]
    refine ih (i + 1) _ (by omega) (fun h => ?_) (by omega)
    have p2 : 2 ^ (i + 1) ≤ 2 ^ 63 := Nat.pow_le_pow_right (by omega) (by omega)
    have c2 : ((2 : Int) ^ (i + 1)) = ((2 ^ (i + 1) : Nat) : Int) := by simp
    rw [c, c2, wrap_u64, Nat.pow_succ]
    rw [Nat.pow_succ] at p2
    omega
theorem byte_u64 (s : ByteArray) (i : Nat) (hi : i < s.size) : ∃ x : UInt8, (bl s).drop i = x :: (bl s).drop (i + 1) ∧ wrapI .u64 (getS s (toN (i : Int))) = IntKind.u64.wrap (x.toNat : Int) := by
  obtain ⟨x, e, hx⟩ := drop_cons s i hi
  refine ⟨x, e, ?_⟩
  rw [getS_bt, hx]; rfl
theorem refof_loop (s : ByteArray) (bits : Int) (hs : s.size ≤ 140737488351232) (d : Nat) : ∀ (i : Nat) (h : Int), 0 ≤ h → h < 18446744073709551616 → i ≤ s.size → s.size - i = d →
    ref04_Of.l0 s bits h i = some ((((fnv ((bl s).drop i) h).toNat % 2 ^ wid bits : Nat)) : Int) := by
  have hw := wid_le bits
  induction d with
  | zero =>
    intro i h h0 h1 hi hd
    rw [ref04_Of.l0.eq]
    simp only [ltI_d, leI_d, ofN_d, lenS_d, andB_d, br_if]
    obtain ⟨n, rfl⟩ : ∃ n : Nat, h = n := ⟨h.toNat, by omega⟩
    rw [if_neg (by omega), List.drop_eq_nil_of_le (by rw [bl_len]; omega)]
    have := reflow_loop bits n (by omega) (wid bits) 0 1 (by omega) (fun _ => by simp) (by omega)
    simp only [Nat.pow_zero, Nat.div_one, Nat.mod_one, Int.cast_ofNat_Int] at this
    rw [this]
    rfl
  | succ d ih =>
    intro i h h0 h1 hi hd
    rw [ref04_Of.l0.eq]
    simp only [ltI_d, leI_d, ofN_d, lenS_d, andB_d, br_if]
    obtain ⟨x, e, hx⟩ := byte_u64 s i (by omega)
    rw [if_pos (by omega), if_pos (by omega), e, add1 i (by omega), hx]
    have hr := hstep_range h (x.toNat : Int)
    have := ih (i + 1) (hstep h (x.toNat : Int)) hr.1 hr.2 (by omega) (by omega)
    unfold hstep at this
    unfold mulI
    rw [this, fnv_cons]
    rfl
theorem refof_any (s : ByteArray) (bits : Int) (hs : s.size ≤ 140737488351232) : ref04_Of s bits = some ((hashS s bits : Nat) : Int) := by
  rw [ref04_Of.eq]
  have := refof_loop s bits hs s.size 0 14695981039346656037 (by omega) (by omega) (by omega) (by omega)
  simp only [List.drop_zero, Int.cast_ofNat_Int] at this
  unfold hashS
  rw [hashN_eq]
  exact this
theorem within_any (bits : Int) : hash_within bits = some (wid bits : Int) := by
  rw [hash_within.eq]
  simp only [minI_d, maxI_d]
  unfold wid
  exact some_int (by omega)
theorem cutb_any (h : Nat) (hh : h < 18446744073709551616) (bits : Int) : hash_cut h bits = some ((h % 2 ^ wid bits : Nat) : Int) := by
  have hw := wid_le bits
  rw [hash_cut.eq, within_any, bnd_some]
  simp only [eqI_d, leI_d, br_if]
  by_cases e : wid bits = 64
  · rw [if_pos (by omega), e, Nat.mod_eq_of_lt (by omega)]
  · rw [if_neg (by omega), bnd_some, if_pos (by omega)]
    have hpos : 0 < 2 ^ wid bits := Nat.two_pow_pos _
    have hle : 2 ^ wid bits ≤ 2 ^ 63 := Nat.pow_le_pow_right (by omega) (by omega)
    have e1 : shlI .u64 1 ((wid bits : Nat) : Int) = ((2 ^ wid bits : Nat) : Int) := by
      unfold shlI
      rw [Int.toNat_natCast, show IntKind.u64.bits = 64 from rfl, Nat.min_eq_left hw, Int.one_mul, wrap_u64]
      have c : ((2 : Int) ^ wid bits) = ((2 ^ wid bits : Nat) : Int) := by simp
      rw [c]
      generalize 2 ^ wid bits = P at hle ⊢
      omega
    have e2 : subI .u64 ((2 ^ wid bits : Nat) : Int) 1 = ((2 ^ wid bits - 1 : Nat) : Int) := by
      unfold subI
      rw [wrap_u64]
      generalize 2 ^ wid bits = P at hle hpos ⊢
      omega
    rw [e1, e2, and_u64 _ _ hh hw]
theorem hashof_loop (s : ByteArray) (bits : Int) (hs : s.size ≤ 140737488351232) (d : Nat) : ∀ (i : Nat) (h : Int), 0 ≤ h → h < 18446744073709551616 → i ≤ s.size → s.size - i = d →
    hash_Of.l0 s bits h s.size i = some ((((fnv ((bl s).drop i) h).toNat % 2 ^ wid bits : Nat)) : Int) := by
  induction d with
  | zero =>
    intro i h h0 h1 hi hd
    rw [hash_Of.l0.eq]
    simp only [ltI_d, leI_d, ofN_d, lenS_d, andB_d, br_if]
    obtain ⟨n, rfl⟩ : ∃ n : Nat, h = n := ⟨h.toNat, by omega⟩
    rw [if_neg (by omega), List.drop_eq_nil_of_le (by rw [bl_len]; omega), cutb_any n (by omega), bnd_some]
    rfl
  | succ d ih =>
    intro i h h0 h1 hi hd
    rw [hash_Of.l0.eq]
    simp only [ltI_d, leI_d, ofN_d, lenS_d, andB_d, br_if]
    obtain ⟨x, e, hx⟩ := byte_u64 s i (by omega)
    rw [if_pos (by omega), if_pos (by omega), e, add1 i (by omega), hx]
    have hr := hstep_range h (x.toNat : Int)
    have := ih (i + 1) (hstep h (x.toNat : Int)) hr.1 hr.2 (by omega) (by omega)
    unfold hstep at this
    unfold mulI
    rw [this, fnv_cons]
    rfl
theorem hashof_any (s : ByteArray) (bits : Int) (hs : s.size ≤ 140737488351232) : hash_Of s bits = some ((hashS s bits : Nat) : Int) := by
  rw [hash_Of.eq]
  have := hashof_loop s bits hs s.size 0 14695981039346656037 (by omega) (by omega) (by omega) (by omega)
  simp only [List.drop_zero, Int.cast_ofNat_Int] at this
  unfold hashS
  rw [hashN_eq]
  exact this
end Go.Proofs.Ytmopkbmcilolgaa.AC
set_option linter.unusedVariables false
set_option linter.unusedSimpArgs false
namespace Go.Proofs.Ytmopkbmcilolgaa.AC
open Go.Abs
theorem levels_any (bits : Int) : hash_Levels bits = some ((lev bits : Nat) : Int) := by
  have hw := wid_le bits
  rw [hash_Levels.eq, within_any, bnd_some, show notB (eqI 5 0) = true from rfl, br_t, addI_d (by omega) (by omega), subI_d (by omega) (by omega)]
  unfold quoI lev
  rw [Int.tdiv_eq_ediv_of_nonneg (by omega), wrap_i64_id (by omega) (by omega)]
  exact some_int (by omega)
theorem reflevels_loop (bits : Int) (d : Nat) : ∀ (l : Nat), l ≤ lev bits → lev bits - l = d → ref04_Levels.l0 bits l = some ((lev bits : Nat) : Int) := by
  have hw := wid_le bits
  have em : ∀ l : Nat, l ≤ 13 → mulI .i64 5 (l : Int) = 5 * (l : Int) := fun l hl => by unfold mulI; exact wrap_i64_id (by omega) (by omega)
  have hv := lev_le bits
  induction d with
  | zero =>
    intro l hl hd
    rw [ref04_Levels.l0.eq, clamp_any, bnd_some, em l (by omega)]
    simp only [ltI_d, br_if]
    unfold lev at hl hd
    rw [if_neg (by omega)]
    unfold lev
    exact some_int (by omega)
  | succ d ih =>
    intro l hl hd
    rw [ref04_Levels.l0.eq, clamp_any, bnd_some, em l (by omega)]
    simp only [ltI_d, br_if]
    have hl2 := hl
    have hd2 := hd
    unfold lev at hl hd
    rw [if_pos (by omega), add1 l (by omega)]
    exact ih (l + 1) (by omega) (by omega)
theorem reflevels_any (bits : Int) : ref04_Levels bits = some ((lev bits : Nat) : Int) := by
  rw [ref04_Levels.eq]
  exact reflevels_loop bits (lev bits) 0 (by omega) (by omega)
theorem chunk_any (h : Nat) (hh : h < 18446744073709551616) (level bits : Int) (hl : level ≤ 9223372036854775807) :
    hash_Chunk h level bits = some (((if level < 0 then 0 else chunkS h level.toNat bits) : Nat) : Int) := by
  have hv := lev_le bits
  have hw := wid_le bits
  rw [hash_Chunk.eq, levels_any, bnd_some]
  simp only [ltI_d, leI_d, br_if]
  by_cases h0 : level < 0
  · rw [if_pos h0, if_pos h0]; rfl
  · rw [if_neg h0, if_neg h0]
    unfold chunkS
    by_cases h1 : ((lev bits : Nat) : Int) ≤ level
    · rw [if_pos h1, if_neg (by omega)]; rfl
    · rw [if_neg h1, if_pos (by omega), cutb_any h hh, bnd_some]
      obtain ⟨l, rfl⟩ : ∃ l : Nat, level = l := ⟨level.toNat, by omega⟩
      rw [Int.toNat_natCast]
      have hlt : h % 2 ^ wid bits < 18446744073709551616 := by have := Nat.mod_le h (2 ^ wid bits); omega
      generalize h % 2 ^ wid bits = c at hlt ⊢
      have em : mulI .i64 5 (l : Int) = ((5 * l : Nat) : Int) := by unfold mulI; rw [wrap_i64_id (by omega) (by omega)]; omega
      rw [em, if_pos (by omega)]
      have e1 : shrI .u64 (c : Int) ((5 * l : Nat) : Int) = ((c / 2 ^ (5 * l) : Nat) : Int) := by
        unfold shrI
        have hl' : l < lev bits := by omega
        have : 5 * l ≤ 64 := by unfold lev at hl'; omega
        rw [Int.toNat_natCast, show IntKind.u64.bits = 64 from rfl, Nat.min_eq_left this, Int.fdiv_eq_ediv_of_nonneg _ (Int.pow_nonneg (by omega))]
        simp
      have hle : c / 2 ^ (5 * l) ≤ c := Nat.div_le_self _ _
      rw [e1]
      generalize c / 2 ^ (5 * l) = q at hle ⊢
      have e2 := and_u64 q 5 (by omega) (by omega)
      rw [show ((2 ^ 5 - 1 : Nat) : Int) = 31 from rfl] at e2
      rw [e2]
      have : q % 2 ^ 5 < 32 := Nat.mod_lt _ (by decide)
      unfold wrapI
      rw [wrap_i64_id (by omega) (by omega)]
theorem bit_loop (a : Nat) (d : Nat) : ∀ (h i : Nat), h < 18446744073709551616 → i ≤ a → a ≤ 64 → a - i = d → ref04_bit.l0 h a i = some ((h / 2 ^ d % 2 : Nat) : Int) := by
  induction d with
  | zero =>
    intro h i hh hi ha hd
    rw [ref04_bit.l0.eq]
    simp only [ltI_d, eqI_d, notB_d, br_if]
    unfold remI wrapI
    rw [if_neg (by omega), if_pos (by omega), Int.tmod_eq_emod_of_nonneg (by omega), wrap_i64_id (by omega) (by omega)]
    refine some_int ?_
    simp
  | succ d ih =>
    intro h i hh hi ha hd
    rw [ref04_bit.l0.eq]
    simp only [ltI_d, eqI_d, notB_d, br_if]
    unfold quoI
    rw [if_pos (by omega), if_pos (by omega), Int.tdiv_eq_ediv_of_nonneg (by omega), Go.Abs.wrap_u64_id (by omega) (by omega), add1 i (by omega), show ((h : Int) / 2) = ((h / 2 : Nat) : Int) by omega]
    rw [ih (h / 2) (i + 1) (by omega) (by omega) (by omega) (by omega), Nat.div_div_eq_div_mul, Nat.pow_succ, Nat.mul_comm 2]
theorem bit_any (h a : Nat) (hh : h < 18446744073709551616) (ha : a ≤ 64) : ref04_bit h a = some ((h / 2 ^ a % 2 : Nat) : Int) := by
  rw [ref04_bit.eq]
  exact bit_loop a a h 0 hh (by omega) ha (by omega)
theorem refchunk_loop (h : Nat) (hh : h < 18446744073709551616) (l : Nat) (bits : Int) (hl : l < lev bits) (d : Nat) : ∀ (j : Nat), j ≤ min 5 (wid bits - 5 * l) → min 5 (wid bits - 5 * l) - j = d →
    ref04_Chunk.l0 h l bits ((h / 2 ^ (5 * l) % 2 ^ j : Nat) : Int) (2 ^ j) ((5 * l + j : Nat) : Int) = some ((h / 2 ^ (5 * l) % 2 ^ min 5 (wid bits - 5 * l) : Nat) : Int) := by
  have hw := wid_le bits
  have hv := lev_le bits
  have hlw : 5 * l < wid bits := by unfold lev at hl; omega
  have em : addI .i64 (mulI .i64 5 (l : Int)) 5 = ((5 * l + 5 : Nat) : Int) := by
    have : mulI .i64 5 (l : Int) = ((5 * l : Nat) : Int) := by unfold mulI; rw [wrap_i64_id (by omega) (by omega)]; omega
    rw [this, addI_d (by omega) (by omega)]; omega
  induction d with
  | zero =>
    intro j hj hd
    have hj' : j = min 5 (wid bits - 5 * l) := by omega
    rw [ref04_Chunk.l0.eq, em, clamp_any, bnd_some]
    simp only [ltI_d, br_if]
    by_cases e : ((5 * l + j : Nat) : Int) < ((5 * l + 5 : Nat) : Int)
    · rw [if_pos e, if_neg (by omega), hj']
    · rw [if_neg e, hj']
  | succ d ih =>
    intro j hj hd
    rw [ref04_Chunk.l0.eq, em, clamp_any, bnd_some]
    simp only [ltI_d, br_if]
    rw [if_pos (by omega), if_pos (by omega), bit_any h (5 * l + j) hh (by omega), bnd_some, add1 _ (by omega)]
    have c : ((2 : Int) ^ j) = ((2 ^ j : Nat) : Int) := by simp
    have c2 : ((2 : Int) ^ (j + 1)) = ((2 ^ (j + 1) : Nat) : Int) := by simp
    have p : 2 ^ j ≤ 2 ^ 5 := Nat.pow_le_pow_right (by omega) (by omega)
    have m1 := mod_pow_succ (h / 2 ^ (5 * l)) j
    have q : h / 2 ^ (5 * l) / 2 ^ j = h / 2 ^ (5 * l + j) := by rw [Nat.div_div_eq_div_mul, Nat.pow_add]
    rw [q] at m1
    have m3 : h / 2 ^ (5 * l) % 2 ^ j < 2 ^ j := Nat.mod_lt _ (Nat.two_pow_pos _)
    have := ih (j + 1) (by omega) (by omega)
    rw [c2, Nat.pow_succ] at this
    have e1 := chunkstep (h / 2 ^ (5 * l + j) % 2) (h / 2 ^ (5 * l) % 2 ^ j) _ (2 ^ j) m1 (Nat.mod_lt _ (by omega)) (by omega) (by omega)
    rw [← c] at e1
    have w2 : mulI .i64 2 ((2 ^ j : Nat) : Int) = ((2 ^ j * 2 : Nat) : Int) := by
      unfold mulI
      generalize 2 ^ j = P at p ⊢
      rw [wrap_i64_id (by omega) (by omega)]
      omega
    have w1 : addI .i64 ((h / 2 ^ (5 * l) % 2 ^ j : Nat) : Int) (mulI .i64 (2 ^ j) ((h / 2 ^ (5 * l + j) % 2 : Nat) : Int)) = ((h / 2 ^ (5 * l) % 2 ^ (j + 1) : Nat) : Int) := e1
    rw [w1, c, w2]
    exact this
theorem refchunk_any (h : Nat) (hh : h < 18446744073709551616) (level bits : Int) (hl : level ≤ 9223372036854775807) :
    ref04_Chunk h level bits = some (((if level < 0 then 0 else chunkS h level.toNat bits) : Nat) : Int) := by
  have hv := lev_le bits
  have hw := wid_le bits
  rw [ref04_Chunk.eq, reflevels_any, bnd_some]
  simp only [ltI_d, leI_d, br_if]
  by_cases h0 : level < 0
  · rw [if_pos h0, if_pos h0]; rfl
  · rw [if_neg h0, if_neg h0]
    unfold chunkS
    by_cases h1 : ((lev bits : Nat) : Int) ≤ level
    · rw [if_pos h1, if_neg (by omega)]; rfl
    · rw [if_neg h1, if_pos (by omega)]
      obtain ⟨l, rfl⟩ : ∃ l : Nat, level = l := ⟨level.toNat, by omega⟩
      rw [Int.toNat_natCast]
      have hlw : 5 * l < wid bits := by
        have : l < lev bits := by omega
        unfold lev at this; omega
      have em : mulI .i64 5 (l : Int) = ((5 * l : Nat) : Int) := by unfold mulI; rw [wrap_i64_id (by omega) (by omega)]; omega
      have := refchunk_loop h hh l bits (by omega) (min 5 (wid bits - 5 * l)) 0 (by omega) (by omega)
      simp only [Nat.pow_zero, Nat.mod_one, Nat.add_zero, Int.pow_zero] at this
      rw [em, show (0 : Int) = ((0 : Nat) : Int) from rfl, this]
      refine some_int ?_
      rw [mod_div_pow h _ _ (by omega), show (32 : Nat) = 2 ^ 5 from rfl, mod_mod_pow, Nat.min_comm]
end Go.Proofs.Ytmopkbmcilolgaa.AC
set_option linter.unusedVariables false
set_option linter.unusedSimpArgs false
namespace Go.Proofs.Ytmopkbmcilolgaa.AC
open Go.Abs
theorem pget_any (l : List PairV) (k : ByteArray) (hl : l.length ≤ 40000000) (hs : ∀ p ∈ l, okP p) (hS : isS l = true) : pair_Get l k = some (valF (l.find? (fun q => decide (q.1 = k)))) := by
  have hsr := isS_srt hS
  obtain ⟨pos, h1, h2, h3, h4⟩ := place_any l k (by omega) hs hsr
  rw [pair_Get.eq, pair_ordered.eq, is_any l (by omega) hs, bnd_some, hS, br_t, bnd_some, h1, bnd_some]
  have hlt : ∀ x : ByteArray, lt x x = false := fun x => by
    rcases tri x x with ⟨_, _, e⟩ | ⟨_, e, _⟩ | ⟨_, _, e⟩
    · exact absurd rfl e
    · exact e
    · exact absurd rfl e
  have hpre : (l.take pos).find? (fun q => decide (q.1 = k)) = none := by
    rw [List.find?_eq_none]
    intro q hq
    obtain ⟨a, ha, rfl⟩ := List.mem_iff_getElem.1 hq
    rw [List.length_take] at ha
    rw [List.getElem_take]
    have := h3 a (by omega) (by omega)
    simp only [decide_eq_true_eq]
    intro e
    rw [e, hlt] at this
    cases this
  by_cases hp : ∃ h : pos < l.length, l[pos].1 = k
  · obtain ⟨hpl, hpk⟩ := hp
    rw [decide_eq_true ⟨hpl, hpk⟩, show notB true = false from rfl, br_f, ixP l pos hpl]
    simp only [ltI_d, leI_d, ofN_d, lenL_d, andB_d, br_if]
    rw [if_pos (by omega)]
    have e : l = l.take pos ++ l[pos] :: l.drop (pos + 1) := by
      rw [← List.drop_eq_getElem_cons hpl, List.take_append_drop]
    have ef : l.find? (fun q => decide (q.1 = k)) = some l[pos] := by
      conv => lhs; rw [e]
      rw [List.find?_append, hpre, Option.none_or, List.find?_cons, decide_eq_true hpk]
    rw [ef]
    rfl
  · rw [decide_eq_false hp, show notB false = true from rfl, br_t]
    have ef : l.find? (fun q => decide (q.1 = k)) = none := by
      rw [List.find?_eq_none]
      intro q hq
      obtain ⟨a, ha, rfl⟩ := List.mem_iff_getElem.1 hq
      simp only [decide_eq_true_eq]
      intro e
      by_cases hap : a < pos
      · have := h3 a ha hap
        rw [e, hlt] at this
        cases this
      · by_cases hae : a = pos
        · subst hae; exact hp ⟨ha, e⟩
        · have hpl : pos < l.length := by omega
          have h5 := h4 pos hpl (Nat.le_refl _)
          have h6 := srt_get hsr ha (show pos < a by omega)
          rw [e, h5] at h6
          cases h6
    rw [ef]
    rfl
abbrev FindV := ByteArray × Int × Int × Int × Int × ByteArray × Bool × Unit
noncomputable def fnd (key : ByteArray) (bits : Int) (level r : Int) (v : ByteArray) (b : Bool) : FindV := (key, (bits, (((hashS key bits : Nat) : Int), (level, (r, (v, (b, ())))))))
/-- One node more. -/
theorem feed_any {n : NodeV} (o : okN n) (hm : mayS n = 0) (key : ByteArray) (hk : key.size ≤ 40) (bits : Int) (level : Nat) (hl : level ≤ 50000000) (w : Int) (hw : w ≠ 0) :
    ∃ (r' : Int) (lv : Nat) (v : ByteArray) (b : Bool), ref21_Bound n key = some (v, (b, ())) ∧ ref21_next n key (level : Int) bits = some (r', ((lv : Int), ())) ∧ lv ≤ level + 1 ∧
      find_Find_Feed n (fnd key bits level w ByteArray.empty false) = some ((), (fnd key bits lv r' v b, ())) ∧ (r' = 0 ∨ (r' ∈ refsS n ∧ v = ByteArray.empty ∧ b = false)) := by
  obtain ⟨k1, k6, hlong, hform⟩ := mayS_zero hm
  have hlist := o.list
  have hget : ∀ l : List PairV, pair_Get [(n.2.1, (n.2.2.1, ()))] key = some (if n.2.1 = key then (n.2.2.1, (true, ())) else (ByteArray.empty, (false, ()))) := fun _ => by
    rw [pget_any _ _ (by show 1 ≤ _; omega) (fun p hp => by rw [List.mem_singleton.1 hp]; exact ⟨o.key, o.val⟩) rfl, List.find?_cons]
    by_cases e : n.2.1 = key
    · rw [if_pos e, decide_eq_true e]; rfl
    · rw [if_neg e, decide_eq_false e]; rfl
  have hg1 := hget []
  rw [find_Find_Feed.eq, find_Find_Want.eq, bnd_some, ref21_Bound.eq, ref21_next.eq]
  simp only [eqI_d, eqS_d, br_if]
  have hw' : ¬ (fnd key bits (level : Int) w ByteArray.empty false).2.2.2.2.1 = 0 := hw
  rw [if_neg hw']
  by_cases c5 : n.1 = 5
  · rw [if_pos c5, if_pos c5, if_neg (by omega), if_neg (by omega), if_neg (by omega)]
    refine ⟨n.2.2.2.2.2.1, level, ByteArray.empty, false, rfl, rfl, by omega, rfl, ?_⟩
    by_cases e : n.2.2.2.2.2.1 = 0
    · exact .inl e
    · refine .inr ⟨?_, rfl, rfl⟩
      unfold refsS
      rw [if_pos e]
      exact List.mem_append_right _ (by simp)
  rw [if_neg c5, if_neg c5]
  by_cases c2 : n.1 = 2
  · obtain ⟨m, ks, sz, bi, hB, hb, hof, hN⟩ := branch_spec n o
    have hN := hN ⟨c2, hm⟩
    have hlt := hash_lt64 key bits
    rw [if_pos c2, if_pos c2, if_neg (by omega), if_neg (by omega), if_neg (by omega), hof, bnd_some, refof_any key bits (by omega), bnd_some, refchunk_any _ hlt _ _ (by omega), bnd_some, refchild_any, bnd_some, add1 level (by omega)]
    have hc : hash_Chunk (fnd key bits (level : Int) w ByteArray.empty false).2.2.1 (fnd key bits (level : Int) w ByteArray.empty false).2.2.2.1 (fnd key bits (level : Int) w ByteArray.empty false).2.1 = some (((if (level : Int) < 0 then 0 else chunkS (hashS key bits) (level : Int).toNat bits) : Nat) : Int) := chunk_any (hashS key bits) hlt (level : Int) bits (by omega)
    rw [hc, bnd_some, child_any hB hb, bnd_some]
    refine ⟨_, level + 1, ByteArray.empty, false, rfl, rfl, by omega, ?_, ?_⟩
    · have : addI .i64 (fnd key bits (level : Int) w ByteArray.empty false).2.2.2.1 1 = ((level + 1 : Nat) : Int) := add1 level (by omega)
      rw [this]
      rfl
    · generalize (((if (level : Int) < 0 then 0 else chunkS (hashS key bits) (level : Int).toNat bits) : Nat) : Int) = q
      by_cases e : chI m ks q = 0
      · exact .inl e
      · refine .inr ⟨?_, rfl, rfl⟩
        unfold chI chAt at e ⊢
        by_cases hq : 0 ≤ q ∧ q < 32
        · rw [if_pos hq] at e ⊢
          by_cases hb2 : m.testBit q.toNat = true
          · rw [if_pos hb2] at e ⊢
            unfold refsS
            rw [hN]
            refine List.mem_append_left _ (List.mem_filter.2 ⟨?_, by simpa using e⟩)
            rcases Nat.lt_or_ge (cnt q.toNat m) ks.length with h1 | h1
            · rw [List.getD_eq_getElem?_getD, List.getElem?_eq_getElem h1]
              exact List.getElem_mem h1
            · rw [List.getD_eq_getElem?_getD, List.getElem?_eq_none h1] at e
              exact absurd rfl e
          · rw [if_neg hb2] at e; exact absurd rfl e
        · rw [if_neg hq] at e; exact absurd rfl e
  rw [if_neg c2, if_neg c2]
  have leaf : ∀ v b, pair_Get [(n.2.1, (n.2.2.1, ()))] key = some (v, (b, ())) → (n.1 = 1 ∨ n.1 = 6) →
      bnd (node_Binds n) (fun r3 => bnd (pair_Get r3.2.1 (fnd key bits (level : Int) w ByteArray.empty false).1) fun r4 => some ((), (((fnd key bits (level : Int) w ByteArray.empty false).1, ((fnd key bits (level : Int) w ByteArray.empty false).2.1, ((fnd key bits (level : Int) w ByteArray.empty false).2.2.1, ((fnd key bits (level : Int) w ByteArray.empty false).2.2.2.1, ((0 : Int), r4))))), ()))) = some ((), (fnd key bits (level : Int) 0 v b, ())) := fun v b hv hk => by
    have hbn : bindsS n = [(n.2.1, (n.2.2.1, ()))] := by
      unfold bindsS
      rw [if_pos (by omega)]
    rw [binds_any n o, bnd_some, hbn]
    show bnd (pair_Get [(n.2.1, (n.2.2.1, ()))] key) _ = _
    rw [hv, bnd_some]
    rfl
  by_cases c1 : n.1 = 1
  · simp only [if_pos c1, if_neg (show ¬ n.1 = 3 by omega)]
    by_cases e : n.2.1 = key
    · rw [if_pos e] at hg1 ⊢
      exact ⟨0, level, n.2.2.1, true, rfl, rfl, by omega, leaf _ _ hg1 (.inl c1), .inl rfl⟩
    · rw [if_neg e] at hg1 ⊢
      exact ⟨0, level, ByteArray.empty, false, rfl, rfl, by omega, leaf _ _ hg1 (.inl c1), .inl rfl⟩
  by_cases c6 : n.1 = 6
  · simp only [if_pos c6, if_neg (show ¬ n.1 = 3 by omega), if_neg c1]
    by_cases e : n.2.1 = key
    · rw [if_pos e] at hg1 ⊢
      exact ⟨0, level, n.2.2.1, true, rfl, rfl, by omega, leaf _ _ hg1 (.inr c6), .inl rfl⟩
    · rw [if_neg e] at hg1 ⊢
      exact ⟨0, level, ByteArray.empty, false, rfl, rfl, by omega, leaf _ _ hg1 (.inr c6), .inl rfl⟩
  by_cases c3 : n.1 = 3
  · simp only [if_pos c3, if_neg c1, if_neg c6]
    have hS : isS n.2.2.2.2.2.2.1 = true := by
      unfold formP at hform
      obtain ⟨_, hf⟩ := hform
      rw [if_neg (by omega), if_neg (by omega), if_pos c3] at hf
      exact hf.2.1
    have hbn : bindsS n = n.2.2.2.2.2.2.1 := by
      unfold bindsS
      rw [if_neg (by omega), if_pos c3]
    rw [rget_any _ _ (by omega), bnd_some, makeS_srt (isS_srt hS), binds_any n o, bnd_some, hbn]
    show ∃ (r' : Int) (lv : Nat) (v : ByteArray) (b : Bool), _ ∧ _ ∧ _ ∧ bnd (pair_Get n.2.2.2.2.2.2.1 key) _ = _ ∧ _
    rw [pget_any _ _ (by omega) o.binds hS, bnd_some]
    generalize valF (n.2.2.2.2.2.2.1.find? (fun q => decide (q.1 = key))) = q
    obtain ⟨v, b, _⟩ := q
    exact ⟨0, level, v, b, rfl, rfl, by omega, rfl, .inl rfl⟩
  · simp only [if_neg c3, if_neg c1, if_neg c6]
    exact ⟨0, level, ByteArray.empty, false, rfl, rfl, by omega, rfl, .inl rfl⟩
/-- The whole way. -/
theorem find_way {h : List NodeV} (ho : okH h) (hm : mayH h = true) (key : ByteArray) (hk : key.size ≤ 40) (bits : Int) : ∀ (n : Nat) (r : Int) (level cnt : Nat) (v : ByteArray) (b : Bool), 0 ≤ r → r ≤ n → r ≤ h.length → level + n ≤ 50000000 → cnt + n ≤ 50000000 → (r = 0 ∨ (v = ByteArray.empty ∧ b = false)) →
    ∃ (v' : ByteArray) (b' : Bool) (c : Nat), find_Run.l0 h (cnt : Int) (fnd key bits (level : Int) r v b) = some (v', (b', ((c : Int), ()))) ∧ ref21_Run.l0 h key bits r (level : Int) (cnt : Int) v b = some (v', (b', ((c : Int), ()))) := by
  have hlen := ho.len
  intro n
  induction n with
  | zero =>
    intro r level cnt v b h0 h1 h2 h3 h4 h5
    have : r = 0 := by omega
    subst this
    refine ⟨v, b, cnt, ?_, ?_⟩
    · rw [find_Run.l0.eq, find_Find_Want.eq, bnd_some]
      show br (notB (eqI 0 0)) _ (bnd (find_Find_Answer (fnd key bits (level : Int) 0 v b)) _) = _
      rw [eqI_d, decide_eq_true rfl, show notB true = false from rfl, br_f, find_Find_Answer.eq]
      show bnd (br (notB (eqI 0 0)) _ _) _ = _
      rw [eqI_d, decide_eq_true rfl, show notB true = false from rfl, br_f, bnd_some]
      rfl
    · rw [ref21_Run.l0.eq]
      rfl
  | succ n ih =>
    intro r level cnt v b h0 h1 h2 h3 h4 h5
    by_cases e : r = 0
    · subst e
      exact ih 0 level cnt v b (by omega) (by omega) (by omega) (by omega) (by omega) (.inl rfl)
    obtain ⟨rfl, rfl⟩ := h5.resolve_left e
    have hr1 : 1 ≤ r := by omega
    have o := ho.node _ (getN_mem h r hr1 h2)
    have hmn := (may_node hm hr1 h2).1
    obtain ⟨r', lv, v', b', f1, f2, f3, f4, f5⟩ := feed_any o hmn key hk bits level (by omega) r e
    have hr' : 0 ≤ r' ∧ r' ≤ n ∧ r' ≤ h.length := by
      rcases f5 with rfl | ⟨hr', _⟩
      · omega
      · have := refs_may hm hr1 h2 hr'
        omega
    obtain ⟨v2, b2, c, g1, g2⟩ := ih r' lv (cnt + 1) v' b' hr'.1 hr'.2.1 hr'.2.2 (by omega) (by omega) (f5.imp id fun h => h.2)
    refine ⟨v2, b2, c, ?_, ?_⟩
    · rw [find_Run.l0.eq, find_Find_Want.eq, bnd_some]
      show br (notB (eqI r 0)) (bnd (find_Find_Want (fnd key bits (level : Int) r ByteArray.empty false)) _) _ = _
      rw [eqI_d, decide_eq_false e, show notB false = true from rfl, br_t, find_Find_Want.eq, bnd_some]
      show br (andB (leI 0 (subI .i64 r 1)) (ltI (subI .i64 r 1) (ofN (lenL tapiNode h)))) (bnd (find_Find_Feed (ixL tapiNode h (subI .i64 r 1)) (fnd key bits (level : Int) r ByteArray.empty false)) _) none = _
      rw [inG h r hr1 h2 (by omega), br_t, ixG h r hr1 h2 (by omega), f4, bnd_some, add1 cnt (by omega)]
      exact g1
    · rw [ref21_Run.l0.eq, eqI_d, decide_eq_false e, show notB false = true from rfl, br_t, inG h r hr1 h2 (by omega), br_t, ixG h r hr1 h2 (by omega), f1, bnd_some, f2, bnd_some, add1 cnt (by omega)]
      exact g2
/-- A search, and the document's. -/
theorem run_any (h : List NodeV) (ho : okH h) (r : Int) (key : ByteArray) (hk : key.size ≤ 40) (bits : Int) : ∃ x, find_Run h r key bits = some x ∧ ref21_Run h r key bits = some x := by
  have hlen := ho.len
  rw [find_Run.eq, ref21_Run.eq, hcount_any h ho, bnd_some, fits_any h ho, bnd_some]
  by_cases hf : fitH h r = true
  · obtain ⟨⟨a, b⟩, hm⟩ := fitH_iff.1 hf
    obtain ⟨v, b', c, h1, h2⟩ := find_way ho hm key hk bits r.toNat r 0 0 ByteArray.empty false a (by omega) b (by omega) (by omega) (.inr ⟨rfl, rfl⟩)
    rw [if_pos hf, hf, find_New.eq, hashof_any key bits (by omega), bnd_some]
    exact ⟨_, h1, h2⟩
  · have hf : fitH h r = false := by simpa using hf
    rw [hf, if_neg (by simp)]
    exact ⟨_, rfl, rfl⟩
end Go.Proofs.Ytmopkbmcilolgaa.AC
set_option linter.unusedVariables false
set_option linter.unusedSimpArgs false
namespace Go.Proofs.Ytmopkbmcilolgaa.AC
open Go.Abs
theorem leafX_heap : okH [leafX] ∧ mayH [leafX] = true := by
  obtain ⟨o1, m1, r1, g1⟩ := leafX_ok
  refine ⟨⟨by show 1 ≤ 40000000; omega, fun n hn => by rw [List.mem_singleton.1 hn]; exact o1, fun n hn => by rw [List.mem_singleton.1 hn]; exact g1⟩, ?_⟩
  unfold mayH mayHL mayHL
  rw [m1, r1]
  rfl
theorem leafX_run (key : ByteArray) (hk : key.size ≤ 40) : find_Run [leafX] 1 key 64 = some (if ByteArray.mk #[97] = key then (ByteArray.mk #[49], (true, ((1 : Int), ()))) else (ByteArray.empty, (false, ((1 : Int), ())))) := by
  obtain ⟨hh, hm⟩ := leafX_heap
  obtain ⟨x, h1, h2⟩ := run_any [leafX] hh 1 key hk 64
  rw [h1, ← h2]
  have hf : fitH [leafX] 1 = true := fitH_iff.2 ⟨⟨by omega, by show (1 : Int) ≤ 1; omega⟩, hm⟩
  have e0 : getN [leafX] 1 = leafX := rfl
  have hb : ref21_Bound leafX key = some (if ByteArray.mk #[97] = key then (ByteArray.mk #[49], (true, ())) else (ByteArray.empty, (false, ()))) := by
    rw [ref21_Bound.eq]
    simp only [eqI_d, eqS_d, br_if]
    show (if (1 : Int) = 3 then _ else if (1 : Int) = 1 then (if ByteArray.mk #[97] = key then some (ByteArray.mk #[49], (true, ())) else some (ByteArray.empty, (false, ()))) else _) = _
    rw [if_neg (by omega), if_pos rfl]
    split <;> rfl
  have hn : ref21_next leafX key 0 64 = some ((0 : Int), ((0 : Int), ())) := by
    rw [ref21_next.eq]
    simp only [eqI_d, br_if]
    show (if (1 : Int) = 5 then _ else if (1 : Int) = 2 then _ else _) = _
    rw [if_neg (by omega), if_neg (by omega)]
  rw [ref21_Run.eq, fits_any _ hh, bnd_some, hf, show notB true = false from rfl, br_f, ref21_Run.l0.eq, eqI_d, show notB (decide ((1 : Int) = 0)) = true from rfl, br_t, inG [leafX] 1 (by omega) (by show (1 : Int) ≤ 1; omega) (by show 1 ≤ _; omega), br_t, ixG [leafX] 1 (by omega) (by show (1 : Int) ≤ 1; omega) (by show 1 ≤ _; omega), e0, hb, bnd_some, hn, bnd_some, ref21_Run.l0.eq]
  show br (notB (eqI 0 0)) _ _ = _
  rw [eqI_d, decide_eq_true rfl, show notB true = false from rfl, br_f]
  split <;> rfl
theorem works21 : law21_works = some true := by
  have l1 : node_Leaf (ByteArray.mk #[97]) (ByteArray.mk #[49]) = some leafX := node_Leaf.eq _ _
  rw [law21_works.eq, l1, bnd_some, leafX_run _ (by decide), bnd_some, leafX_run _ (by decide), bnd_some, if_pos rfl, if_neg (by decide), eqS_d, decide_eq_true rfl, br_t]
  rfl
end Go.Proofs.Ytmopkbmcilolgaa.AC
set_option linter.unusedVariables false
set_option linter.unusedSimpArgs false
namespace Go.Proofs.Ytmopkbmcilolgaa.Pure
open Go.Abs Go.Proofs.Ytmopkbmcilolgaa.AC
theorem feeds_end (h : List NodeV) (key : ByteArray) (bits : Int) (level cnt : Int) (v : ByteArray) (b : Bool) : law21_FindFeeds.l0 h key v b cnt cnt (fnd key bits level 0 v b) = some true := by
  have hw : find_Find_Want (fnd key bits level 0 v b) = some ((0 : Int), (fnd key bits level 0 v b, ())) := find_Find_Want.eq _
  have hf : ∀ n, find_Find_Feed n (fnd key bits level 0 v b) = some ((), (fnd key bits level 0 v b, ())) := fun n => by
    rw [find_Find_Feed.eq, hw, bnd_some, eqI_d, decide_eq_true rfl, br_t]
  have ha : find_Find_Answer (fnd key bits level 0 v b) = some ((v, (b, ())), (fnd key bits level 0 v b, ())) := by
    rw [find_Find_Answer.eq]
    show br (notB (eqI 0 0)) _ _ = _
    rw [eqI_d, decide_eq_true rfl, show notB true = false from rfl, br_f]
    rfl
  rw [law21_FindFeeds.l0.eq, ltI_d, decide_eq_false (by omega), br_f, node_Leaf.eq, bnd_some, hf, bnd_some, ha, bnd_some, bnd_some, find_Find_Feed_o.eq, find_Find_Want_o.eq, bnd_some, eqI_d, decide_eq_true rfl, br_t, bnd_some, find_Find_Answer_o.eq, bnd_some, hw, bnd_some]
  show br (eqI 0 0) (br (eqS v v) (br (eqB b b) (bnd (some (0 : Int)) fun r8 => br (eqI r8 0) (some (notB false)) (some false)) (some false)) (some false)) (some false) = _
  rw [eqI_d, decide_eq_true rfl, br_t, eqS_d, decide_eq_true rfl, br_t, bnd_some]
  cases b <;> rfl
theorem feeds_way {h : List NodeV} (ho : okH h) (hm : mayH h = true) (key : ByteArray) (hk : key.size ≤ 40) (bits : Int) : ∀ (n : Nat) (r : Int) (level cnt : Nat) (v : ByteArray) (b : Bool), 0 ≤ r → r ≤ n → r ≤ h.length → level + n ≤ 50000000 → cnt + n ≤ 50000000 → (r = 0 ∨ (v = ByteArray.empty ∧ b = false)) →
    ∃ (v' : ByteArray) (b' : Bool) (c : Nat), ref21_Run.l0 h key bits r (level : Int) (cnt : Int) v b = some (v', (b', ((c : Int), ()))) ∧ cnt ≤ c ∧ law21_FindFeeds.l0 h key v' b' (c : Int) (cnt : Int) (fnd key bits (level : Int) r v b) = some true := by
  have hlen := ho.len
  intro n
  induction n with
  | zero =>
    intro r level cnt v b h0 h1 h2 h3 h4 h5
    have : r = 0 := by omega
    subst this
    refine ⟨v, b, cnt, ?_, Nat.le_refl _, feeds_end ..⟩
    rw [ref21_Run.l0.eq]
    rfl
  | succ n ih =>
    intro r level cnt v b h0 h1 h2 h3 h4 h5
    by_cases e : r = 0
    · subst e
      exact ih 0 level cnt v b (by omega) (by omega) (by omega) (by omega) (by omega) (.inl rfl)
    obtain ⟨rfl, rfl⟩ := h5.resolve_left e
    have hr1 : 1 ≤ r := by omega
    have o := ho.node _ (getN_mem h r hr1 h2)
    have hmn := (may_node hm hr1 h2).1
    obtain ⟨r', lv, v', b', f1, f2, f3, f4, f5⟩ := feed_any o hmn key hk bits level (by omega) r e
    have hr' : 0 ≤ r' ∧ r' ≤ n ∧ r' ≤ h.length := by
      rcases f5 with rfl | ⟨hr', _⟩
      · omega
      · have := refs_may hm hr1 h2 hr'
        omega
    obtain ⟨v2, b2, c, g1, g2, g3⟩ := ih r' lv (cnt + 1) v' b' hr'.1 hr'.2.1 hr'.2.2 (by omega) (by omega) (f5.imp id fun h => h.2)
    refine ⟨v2, b2, c, ?_, by omega, ?_⟩
    · rw [ref21_Run.l0.eq, eqI_d, decide_eq_false e, show notB false = true from rfl, br_t, inG h r hr1 h2 (by omega), br_t, ixG h r hr1 h2 (by omega), f1, bnd_some, f2, bnd_some, add1 cnt (by omega)]
      exact g1
    · have hw : find_Find_Want (fnd key bits (level : Int) r ByteArray.empty false) = some (r, (fnd key bits (level : Int) r ByteArray.empty false, ())) := find_Find_Want.eq _
      have ha : find_Find_Answer (fnd key bits (level : Int) r ByteArray.empty false) = some ((ByteArray.empty, (false, ())), (fnd key bits (level : Int) r ByteArray.empty false, ())) := by
        rw [find_Find_Answer.eq]
        show br (notB (eqI r 0)) _ _ = _
        rw [eqI_d, decide_eq_false e, show notB false = true from rfl, br_t]
      rw [law21_FindFeeds.l0.eq, ltI_d, decide_eq_true (by omega), br_t, hw, bnd_some, ltI_d, decide_eq_false (by omega), br_f]
      have hlt : ltI (ofN (lenL tapiNode h)) r = false := by
        unfold ltI ofN lenL
        exact decide_eq_false (by omega)
      show law21_FindFeeds.j1 h key v2 b2 (c : Int) (cnt : Int) r (ltI (ofN (lenL tapiNode h)) r) (fnd key bits (level : Int) r ByteArray.empty false) = _
      rw [hlt, law21_FindFeeds.j1.eq, br_f, ha, bnd_some, br_f, inG h r hr1 h2 (by omega), br_t, ixG h r hr1 h2 (by omega), f4, bnd_some, add1 cnt (by omega)]
      exact g3
theorem FindFeeds (a0 : den (.list tapiNode)) (a1 : den (.int .i64)) (a2 : den .str) (a3 : den (.int .i64)) (h0 : wfD (.list tapiNode) a0) (h1 : wfD (.int .i64) a1) (h2 : wfD .str a2) (h3 : wfD (.int .i64) a3) : law21_FindFeeds a0 a1 a2 a3 = some true := by
  have hh := okH.of h0
  have hlen := fewH_len a0
  have hk : (cut 40 a2).size ≤ 40 := by rw [cut_size]; omega
  rw [law21_FindFeeds.eq, works21, bnd_some, show notB true = false from rfl, br_f, fewH_wf h0, bnd_some, base_Cut_40, bnd_some, find_New.eq, hashof_any _ a3 (by omega), bnd_some, bnd_some, find_Find_Want.eq, bnd_some, fits_any _ hh]
  show br (notB (eqI a1 a1)) _ _ = _
  rw [eqI_d, decide_eq_true rfl, show notB true = false from rfl, br_f, bnd_some]
  by_cases hf : fitH (fewH a0) a1 = true
  · obtain ⟨⟨a, b⟩, hm⟩ := fitH_iff.1 hf
    obtain ⟨v, b', c, g1, g2, g3⟩ := feeds_way hh hm (cut 40 a2) hk a3 a1.toNat a1 0 0 ByteArray.empty false a (by omega) b (by omega) (by omega) (.inr ⟨rfl, rfl⟩)
    have er : ref21_Run (fewH a0) a1 (cut 40 a2) a3 = some (v, (b', ((c : Int), ()))) := by
      rw [ref21_Run.eq, fits_any _ hh, bnd_some, hf, show notB true = false from rfl, br_f]
      exact g1
    rw [hf, show notB true = false from rfl, br_f, er, bnd_some]
    exact g3
  · have hf : fitH (fewH a0) a1 = false := by simpa using hf
    rw [hf]
    rfl
end Go.Proofs.Ytmopkbmcilolgaa.Pure
