/- Texts of one proof, laid together: how the interpreter's words stand for the program's code and what the functions do. No conditions but those that each lemma names. -/
import Derived.Test.YtmopkbmcilolgaaM4
set_option linter.unusedSimpArgs false
set_option linter.unusedVariables false
set_option linter.unusedSimpArgs false
namespace Go.Proofs.Ytmopkbmcilolgaa.AC
open Go.Abs
/-- A branch, as a node. -/
def bN (m : Nat) (ks : List Int) (sz bi : Int) : NodeV := (2, (ByteArray.empty, (ByteArray.empty, ((m : Int), (ks, (0, ([], (sz, (bi, ())))))))))
structure okB (m : Nat) (ks : List Int) (sz bi : Int) : Prop where
  lt : m < 4294967296
  len : ks.length = cnt 32 m
  nz : ∀ k ∈ ks, k ≠ 0
  sz0 : 0 ≤ sz
  bi0 : 0 ≤ bi
/-- A branch's child at a chunk. -/
def chAt (m : Nat) (ks : List Int) (j : Nat) : Int := if m.testBit j = true then ks.getD (cnt j m) 0 else 0
theorem cnt_mono (m : Nat) {i j : Nat} (h : i ≤ j) : cnt i m ≤ cnt j m := by
  induction h with
  | refl => exact Nat.le_refl _
  | step _ ih => rw [cnt_succ]; omega
theorem cnt_less {m i j : Nat} (h : i < j) (hb : m.testBit i = true) : cnt i m < cnt j m := by
  have := cnt_mono m (show i + 1 ≤ j by omega)
  rw [cnt_succ, if_pos hb] at this
  omega
theorem cnt_inj {m i j : Nat} (hi : m.testBit i = true) (hj : m.testBit j = true) (h : cnt i m = cnt j m) : i = j := by
  rcases Nat.lt_trichotomy i j with q | q | q
  · have := cnt_less q hi; omega
  · exact q
  · have := cnt_less q hj; omega
theorem kids_of (m : Nat) (ks : List Int) : ∀ n, cnt n m ≤ ks.length → ((List.range n).filter fun j => m.testBit j).map (fun j => ks.getD (cnt j m) 0) = ks.take (cnt n m)
  | 0, _ => by simp [cnt]
  | n + 1, h => by
    have hc := cnt_succ n m
    have hm := cnt_mono m (show n ≤ n + 1 by omega)
    rw [List.range_succ, List.filter_append, List.map_append, kids_of m ks n (by omega)]
    by_cases b : m.testBit n = true
    · rw [if_pos b] at hc
      rw [hc, List.filter_cons_of_pos (by exact b), List.filter_nil, List.map_cons, List.map_nil, List.take_succ_eq_append_getElem (by omega)]
      rw [List.getD_eq_getElem?_getD, List.getElem?_eq_getElem (show cnt n m < ks.length by omega)]
      rfl
    · rw [if_neg b] at hc
      rw [hc, List.filter_cons_of_neg (by exact b), List.filter_nil, List.map_nil, List.append_nil, Nat.add_zero]
theorem okB.at_nz {m : Nat} {ks : List Int} {sz bi : Int} (h : okB m ks sz bi) {j : Nat} (hj : j < 32) (hb : m.testBit j = true) : ks.getD (cnt j m) 0 ≠ 0 := by
  have := cnt_less hj hb
  have hl := h.len
  rw [List.getD_eq_getElem?_getD, List.getElem?_eq_getElem (show cnt j m < ks.length by omega)]
  exact h.nz _ (List.getElem_mem _)
theorem okB.ch_nz {m : Nat} {ks : List Int} {sz bi : Int} (h : okB m ks sz bi) {j : Nat} (hj : j < 32) : chAt m ks j ≠ 0 ↔ m.testBit j = true := by
  unfold chAt
  by_cases hb : m.testBit j = true
  · rw [if_pos hb]; exact ⟨fun _ => hb, fun _ => h.at_nz hj hb⟩
  · rw [if_neg hb]; exact ⟨fun q => absurd rfl q, fun q => absurd q hb⟩
theorem okB.node {m : Nat} {ks : List Int} {sz bi : Int} (h : okB m ks sz bi) : okN (bN m ks sz bi) := by
  have hl := h.len
  have hc := cnt_le 32 m
  have hm := h.lt
  exact ⟨by show (0 : Nat) ≤ 40; omega, by show (0 : Nat) ≤ 40; omega, by show (0 : Int) ≤ (m : Int); omega, by show (m : Int) < 4294967296; omega, by show ks.length ≤ 1000000; omega, by show (0 : Nat) ≤ 1000000; omega, fun p hp => by cases hp⟩
theorem okB.may {m : Nat} {ks : List Int} {sz bi : Int} (h : okB m ks sz bi) : mayS (bN m ks sz bi) = 0 := by
  unfold mayS
  have hl : longN (bN m ks sz bi) = false := rfl
  rw [if_neg (by show ¬ (2 : Int) < 1; omega), if_neg (by show ¬ (6 : Int) < 2; omega), hl, if_neg (by simp), if_pos]
  refine ⟨h.bi0, ?_⟩
  rw [if_neg (by show ¬ ((2 : Int) = 1 ∨ (2 : Int) = 6); omega), if_pos (by show (2 : Int) = 2; rfl)]
  refine ⟨fun q => h.nz 0 q rfl, ?_, h.sz0, fun _ => ⟨rfl, rfl⟩, fun q => (by cases q), fun _ => rfl, fun _ => rfl⟩
  show ks.length = (allI (m : Int).toNat).length
  rw [Int.toNat_natCast, allI_len]
  exact h.len
theorem okB.empty : okB 0 [] 0 0 := ⟨by omega, by decide, fun k hk => (by cases hk), Int.le_refl _, Int.le_refl _⟩
/-- A node that is a branch that may be. -/
theorem branch_form {n : NodeV} (h : okN n) (h1 : n.1 = 2) (h2 : mayS n = 0) : ∃ m ks sz bi, okB m ks sz bi ∧ n = bN m ks sz bi := by
  have hm0 := h.map0
  have hm1 := h.map1
  unfold mayS at h2
  rw [if_neg (by omega), if_neg (by omega)] at h2
  split at h2
  · omega
  split at h2
  case isFalse => omega
  rename_i hf
  obtain ⟨k, key, val, m, ks, mn, L, sz, bi, u⟩ := n
  unfold formP bareP at hf
  dsimp only at h1 hf hm0 hm1
  obtain ⟨f1, f2⟩ := hf
  rw [if_neg (by omega), if_pos h1] at f2
  obtain ⟨g1, g2, g3, g4, _, g5, g6⟩ := f2
  obtain ⟨g4, g7⟩ := g4 rfl
  have g5 := g5 rfl
  have g6 := g6 rfl
  subst h1; subst g4; subst g7; subst g5; subst g6
  refine ⟨m.toNat, ks, sz, bi, ⟨by omega, by rw [g2, allI_len], fun k hk e => g1 (e ▸ hk), g3, f1⟩, ?_⟩
  unfold bN
  rw [Int.toNat_of_nonneg hm0]
/-! ### The code's branch, the document's -/
theorem of_l0 (m : Nat) (ks : List Int) (sz bi : Int) (h : okB m ks sz bi) (x3 : List Int × Int × Int × Unit) (d : Nat) : ∀ (i : Nat), i ≤ (allI m).length → (allI m).length - i = d →
    ref19_Of.l0 (allI m) i (bN m ks sz bi) x3 ((List.range 32).map (fun j => if m.testBit j = true ∧ cnt j m < i then ks.getD (cnt j m) 0 else 0), (0, (0, ()))) = some ((List.range 32).map (chAt m ks), (sz, (bi, ()))) := by
  have hlen := allI_len m
  have hkl := h.len
  have hc := cnt_le 32 m
  induction d with
  | zero =>
    intro i hi hd
    rw [ref19_Of.l0.eq]
    simp only [ltI_d, ofN_d, lenL_d, br_if]
    rw [if_neg (by omega), both_self]
    have e : (List.range 32).map (fun j => if m.testBit j = true ∧ cnt j m < i then ks.getD (cnt j m) 0 else 0) = (List.range 32).map (chAt m ks) := by
      refine List.map_congr_left (fun j hj => ?_)
      have hj := List.mem_range.1 hj
      unfold chAt
      by_cases hb : m.testBit j = true
      · have := cnt_less hj hb
        rw [if_pos hb, if_pos ⟨hb, by omega⟩]
      · rw [if_neg hb, if_neg (fun q => hb q.1)]
    rw [e]
    rfl
  | succ d ih =>
    intro i hi hd
    have hil : i < (allI m).length := by omega
    obtain ⟨j, j1, j2, j3⟩ := allI_mem.1 (List.getElem_mem hil)
    have hj : cnt j m = i := by
      have p1 := place_at (allI_sorted m) i hil
      have e : rd (allI m) (i : Int) = (allI m)[i] := by rw [rd_nat, List.getD_eq_getElem?_getD, List.getElem?_eq_getElem hil]; rfl
      rw [e, j3, ← place_list] at p1
      rw [show cl (j : Int) = j by unfold cl; omega] at p1
      exact p1
    rw [ref19_Of.l0.eq]
    have ix : ixL (.int .i64) (allI m) (i : Int) = (j : Int) := (ixR (allI m) i hil).trans j3
    have ik : ixL (.int .i64) ks (i : Int) = ks[i] := ixR ks i (by omega)
    rw [ix]
    have hks : (bN m ks sz bi).2.2.2.2.1 = ks := rfl
    rw [hks, ik]
    simp only [ltI_d, leI_d, ofN_d, lenL_d, andB_d, br_if]
    rw [if_pos (by omega), if_pos (by omega), if_pos (by omega), if_pos (by omega), add1 i (by omega)]
    have e : setL (.int .i64) ((List.range 32).map (fun j => if m.testBit j = true ∧ cnt j m < i then ks.getD (cnt j m) 0 else 0)) (j : Int) ks[i] = (List.range 32).map (fun j => if m.testBit j = true ∧ cnt j m < i + 1 then ks.getD (cnt j m) 0 else 0) := by
      unfold setL
      rw [Int.toNat_natCast]
      apply List.ext_getElem
      · simp
      intro a h1 h2
      rw [List.getElem_set]
      have ha : a < 32 := by simpa using h2
      by_cases q : j = a
      · subst q
        rw [if_pos rfl, List.getElem_map, List.getElem_range, if_pos ⟨j2, by omega⟩, hj, List.getD_eq_getElem?_getD, List.getElem?_eq_getElem (show i < ks.length by omega)]
        rfl
      · rw [if_neg q, List.getElem_map, List.getElem_map, List.getElem_range]
        by_cases hb : m.testBit a = true
        · have hne : cnt a m ≠ i := fun e => q (cnt_inj j2 hb (by omega))
          by_cases g : cnt a m < i
          · rw [if_pos ⟨hb, g⟩, if_pos ⟨hb, by omega⟩]
          · rw [if_neg (fun z => g z.2), if_neg (fun z => by have := z.2; omega)]
        · rw [if_neg (fun z => hb z.1), if_neg (fun z => hb z.1)]
    rw [e]
    exact ih (i + 1) (by omega) (by omega)
theorem branchO_0 : node_Branch_o 0 [] 0 = some ((2, (ByteArray.empty, (ByteArray.empty, (0, ((), (0, ((), (0, (0, ()))))))))), ([], ([], ()))) := by
  rw [node_Branch_o.eq, cloneR_any _ (by show (0 : Nat) ≤ _; omega), bnd_some]
theorem branch_spec (n : NodeV) (h : okN n) : ∃ m ks sz bi, okB m ks sz bi ∧ branch_branch n = some ((2, (ByteArray.empty, (ByteArray.empty, ((m : Int), ((), (0, ((), (sz, (bi, ()))))))))), (ks, ([], ()))) ∧
    ref19_Of n = some ((List.range 32).map (chAt m ks), (sz, (bi, ()))) ∧ ((n.1 = 2 ∧ mayS n = 0) → n = bN m ks sz bi) := by
  have zero : (List.range 32).map (chAt 0 []) = List.replicate 32 (0 : Int) := by decide
  by_cases h1 : n.1 = 2
  · by_cases h2 : mayS n = 0
    · obtain ⟨m, ks, sz, bi, hb, rfl⟩ := branch_form h h1 h2
      refine ⟨m, ks, sz, bi, hb, ?_, ?_, fun _ => rfl⟩
      · rw [branch_branch.eq, may_any _ h, bnd_some, copy_any _ h, bnd_some, h2]
        simp only [eqI_d, notB_d, br_if]
        rw [if_neg (fun q => q rfl), if_neg (fun q => q (by first | exact rfl | exact True.intro))]
        rfl
      · rw [ref19_Of.eq, refmay_any _ h, bnd_some, h2]
        have hm : (bN m ks sz bi).2.2.2.1 = ((m : Nat) : Int) := rfl
        simp only [eqI_d, notB_d, br_if]
        rw [if_neg (fun q => q rfl), if_neg (fun q => q (by first | exact rfl | exact True.intro)), hm, refall_any m hb.lt, bnd_some]
        have := of_l0 m ks sz bi hb (List.replicate 32 (0 : Int), (0, (0, ()))) (allI m).length 0 (by omega) (by omega)
        have e : (List.range 32).map (fun j => if m.testBit j = true ∧ cnt j m < 0 then ks.getD (cnt j m) 0 else 0) = List.replicate 32 (0 : Int) := by
          have : (fun j => if m.testBit j = true ∧ cnt j m < 0 then ks.getD (cnt j m) 0 else (0 : Int)) = fun _ => 0 := by
            funext j
            rw [if_neg (fun q => by have := q.2; omega)]
          rw [this]
          rfl
        rw [e] at this
        exact this
    · refine ⟨0, [], 0, 0, .empty, ?_, ?_, fun q => absurd q.2 h2⟩
      · rw [branch_branch.eq, may_any _ h, bnd_some, branchO_0, bnd_some]
        simp only [eqI_d, notB_d, br_if]
        rw [if_neg (fun q => q h1), if_pos h2]
        rfl
      · rw [ref19_Of.eq, refmay_any _ h, bnd_some, zero]
        simp only [eqI_d, notB_d, br_if]
        rw [if_neg (fun q => q h1), if_pos h2]
  · refine ⟨0, [], 0, 0, .empty, ?_, ?_, fun q => absurd q.1 h1⟩
    · rw [branch_branch.eq, branchO_0, bnd_some]
      simp only [eqI_d, notB_d, br_if]
      rw [if_pos h1]
      rfl
    · rw [ref19_Of.eq, zero]
      simp only [eqI_d, notB_d, br_if]
      rw [if_pos h1]
theorem branch_self {m : Nat} {ks : List Int} {sz bi : Int} (h : okB m ks sz bi) : branch_branch (bN m ks sz bi) = some ((2, (ByteArray.empty, (ByteArray.empty, ((m : Int), ((), (0, ((), (sz, (bi, ()))))))))), (ks, ([], ()))) := by
  rw [branch_branch.eq, may_any _ h.node, bnd_some, copy_any _ h.node, bnd_some, h.may]
  simp only [eqI_d, notB_d, br_if]
  rw [if_neg (fun q => q rfl), if_neg (fun q => q (by first | exact rfl | exact True.intro))]
  rfl
/-! ### Children -/
/-- The child at a chunk, whatever number is named. -/
def chI (m : Nat) (ks : List Int) (i : Int) : Int := if 0 ≤ i ∧ i < 32 then chAt m ks i.toNat else 0
theorem child_any {n : NodeV} {m : Nat} {ks : List Int} {sz bi : Int} (h : okB m ks sz bi) (hb : branch_branch n = some ((2, (ByteArray.empty, (ByteArray.empty, ((m : Int), ((), (0, ((), (sz, (bi, ()))))))))), (ks, ([], ())))) (i : Int) : branch_Child n i = some (chI m ks i) := by
  have hl := h.len
  rw [branch_Child.eq, hb, bnd_some, has_m m h.lt i, bnd_some, place_m m h.lt i, bnd_some]
  unfold chI chAt hasM
  by_cases hi : 0 ≤ i ∧ i < 32
  · rw [decide_eq_true hi, Bool.true_and, if_pos hi]
    cases hbit : m.testBit i.toNat with
    | false => rfl
    | true =>
      have := cnt_less (show i.toNat < 32 by omega) hbit
      rw [show cl i = i.toNat by unfold cl; omega]
      show br (notB true) _ _ = _
      rw [show notB true = false from rfl, br_f]
      simp only [ltI_d, leI_d, ofN_d, lenL_d, andB_d, br_if]
      rw [if_pos (by omega), if_pos True.intro, ixR ks _ (by omega), List.getD_eq_getElem?_getD, List.getElem?_eq_getElem (show cnt i.toNat m < ks.length by omega)]
      rfl
  · rw [decide_eq_false hi, Bool.false_and, if_neg hi]
    rfl
theorem refchild_any (m : Nat) (ks : List Int) (sz bi : Int) (i : Int) : ref19_Branch_Child ((List.range 32).map (chAt m ks), (sz, (bi, ()))) i = some (chI m ks i) := by
  rw [ref19_Branch_Child.eq]
  unfold chI
  simp only [ltI_d, leI_d, ofN_d, andB_d, br_if]
  by_cases h1 : i < 0
  · rw [if_pos h1, if_neg (by omega)]
  rw [if_neg h1]
  by_cases h2 : 31 < i
  · rw [if_pos h2, if_neg (by omega)]
  rw [if_neg h2, if_pos (by omega), if_pos (by omega)]
  have hi : i = ((i.toNat : Nat) : Int) := by omega
  have hlt : i.toNat < 32 := by omega
  generalize i.toNat = k at hi hlt
  subst hi
  have : ixL (.int .i64) ((List.range 32).map (chAt m ks)) (k : Int) = ((List.range 32).map (chAt m ks))[k]'(by simpa using hlt) := ixR _ k (by simpa using hlt)
  rw [this, List.getElem_map, List.getElem_range]
theorem at_len (m : Nat) (ks : List Int) : ((List.range 32).map (chAt m ks)).length = 32 := by simp
theorem at_get (m : Nat) (ks : List Int) (j : Nat) (hj : j < 32) : ((List.range 32).map (chAt m ks)).getD j 0 = chAt m ks j := by
  rw [List.getD_eq_getElem?_getD, List.getElem?_eq_getElem (by simpa using hj), List.getElem_map, List.getElem_range]
  rfl
end Go.Proofs.Ytmopkbmcilolgaa.AC
set_option autoImplicit false
set_option linter.unusedVariables false
namespace Go.Abs
theorem wf_i64 {a : Int} (h : (Lit.int .i64 a).wf = true) : -9223372036854775808 ≤ a ∧ a ≤ 9223372036854775807 := by
  simp [Lit.wf, IntKind.min, IntKind.max, IntKind.bits, IntKind.signed] at h
  omega
theorem wf_u64 {a : Int} (h : (Lit.int .u64 a).wf = true) : 0 ≤ a ∧ a < 18446744073709551616 := by
  simp [Lit.wf, IntKind.min, IntKind.max, IntKind.bits, IntKind.signed] at h
  omega
theorem wrap_u64 (n : Int) : IntKind.u64.wrap n = n % 18446744073709551616 := by simp [IntKind.wrap, IntKind.bits, IntKind.signed]
theorem wrap_u64_id {n : Int} (h0 : 0 ≤ n) (h1 : n < 18446744073709551616) : IntKind.u64.wrap n = n := by rw [wrap_u64]; omega
theorem wrap_u64_range (n : Int) : 0 ≤ IntKind.u64.wrap n ∧ IntKind.u64.wrap n < 18446744073709551616 := by rw [wrap_u64]; omega
theorem wraps_u64 (n : Int) (h0 : 0 ≤ n) (h1 : n < 2 ^ 64) : IntKind.u64.wrap n = n := by rw [wrap_u64]; omega
theorem and_u64 (a w : Nat) (ha : a < 18446744073709551616) (hw : w ≤ 64) : andI .u64 (a : Int) ((2 ^ w - 1 : Nat) : Int) = ((a % 2 ^ w : Nat) : Int) := by
  have hp : 2 ^ w ≤ 18446744073709551616 := by
    have := Nat.pow_le_pow_right (n := 2) (by omega) hw
    omega
  have hq : 0 < 2 ^ w := Nat.two_pow_pos w
  have e : ∀ x : Nat, x < 18446744073709551616 → (BitVec.ofInt 64 (x : Int)).toNat = x := by
    intro x hx
    simp only [BitVec.toNat_ofInt]
    omega
  unfold andI
  rw [show IntKind.u64.bits = 64 from rfl, BitVec.toNat_and, e a ha, e _ (by omega), Nat.and_two_pow_sub_one_eq_mod]
  have := Nat.mod_le a (2 ^ w)
  exact wrap_u64_id (by omega) (by omega)
/-- How many bits may be. -/
def wid (bits : Int) : Nat := (min (max bits 0) 64).toNat
theorem wid_le (bits : Int) : wid bits ≤ 64 := by unfold wid; omega
def lev (bits : Int) : Nat := (wid bits + 4) / 5
theorem lev_le (bits : Int) : lev bits ≤ 13 := by have := wid_le bits; unfold lev; omega
/-- A hash's chunkS at a level. -/
def chunkS (h : Nat) (level : Nat) (bits : Int) : Nat := if level < lev bits then (h % 2 ^ wid bits) / 2 ^ (5 * level) % 32 else 0
/-- One step of a hash. -/
def hstep (h b : Int) : Int := IntKind.u64.wrap ((xorI .u64 h (IntKind.u64.wrap b)) * 1099511628211)
def fnv : List UInt8 → Int → Int
  | [], h => h
  | x :: xs, h => fnv xs (hstep h (x.toNat : Int))
theorem hstep_range (h b : Int) : 0 ≤ hstep h b ∧ hstep h b < 18446744073709551616 := wrap_u64_range _
theorem fnv_cons (x : UInt8) (xs : List UInt8) (h : Int) : fnv (x :: xs) h = fnv xs (hstep h (x.toNat : Int)) := rfl
theorem fnv_range : ∀ (l : List UInt8) (h : Int), 0 ≤ h → h < 18446744073709551616 → 0 ≤ fnv l h ∧ fnv l h < 18446744073709551616
  | [], _, h0, h1 => ⟨h0, h1⟩
  | _ :: xs, h, _, _ => fnv_range xs _ (hstep_range h _).1 (hstep_range h _).2
/-- A text's hash. -/
theorem hashN_ex : ∃ f : ByteArray → Nat, ∀ s, f s = (fnv (bl s) 14695981039346656037).toNat := ⟨_, fun _ => rfl⟩
noncomputable def hashN : ByteArray → Nat := Classical.choose hashN_ex
theorem hashN_eq (s : ByteArray) : hashN s = (fnv (bl s) 14695981039346656037).toNat := Classical.choose_spec hashN_ex s
theorem hashN_int (s : ByteArray) : (hashN s : Int) = fnv (bl s) 14695981039346656037 := by
  have := fnv_range (bl s) 14695981039346656037 (by omega) (by omega)
  rw [hashN_eq]; omega
theorem hashN_lt (s : ByteArray) : hashN s < 18446744073709551616 := by
  have := fnv_range (bl s) 14695981039346656037 (by omega) (by omega)
  rw [hashN_eq]; omega
noncomputable def hashS (s : ByteArray) (bits : Int) : Nat := hashN s % 2 ^ wid bits
theorem hash_lt (s : ByteArray) (bits : Int) : hashS s bits < 2 ^ wid bits := Nat.mod_lt _ (Nat.two_pow_pos _)
theorem pow_le64 {w : Nat} (h : w ≤ 64) : 2 ^ w ≤ 18446744073709551616 := by
  have := Nat.pow_le_pow_right (n := 2) (by omega) h
  omega
theorem hash_lt64 (s : ByteArray) (bits : Int) : hashS s bits < 18446744073709551616 := by
  have := hash_lt s bits
  have := pow_le64 (wid_le bits)
  omega

/-- Which of two lists of chunks is ahead, from a level on. -/
def befC (x y : Nat → Nat) : Nat → Nat → Bool
  | 0, _ => false
  | n + 1, l => if x l = y l then befC x y n (l + 1) else decide (x l < y l)
def befS (a b : Nat) (bits : Int) : Bool := befC (fun l => chunkS a l bits) (fun l => chunkS b l bits) (lev bits) 0

theorem befC_same (x y : Nat → Nat) : ∀ n l, (∀ i, l ≤ i → i < l + n → x i = y i) → befC x y n l = false
  | 0, _, _ => rfl
  | n + 1, l, h => by
    unfold befC
    rw [if_pos (h l (by omega) (by omega))]
    exact befC_same x y n (l + 1) (fun i h1 h2 => h i (by omega) (by omega))
theorem befC_total (x y : Nat → Nat) : ∀ n l, (¬ ∀ i, l ≤ i → i < l + n → x i = y i) → (befC x y n l = !befC y x n l)
  | 0, l, h => absurd (fun i h1 h2 => by omega) h
  | n + 1, l, h => by
    unfold befC
    by_cases e : x l = y l
    · rw [if_pos e, if_pos e.symm]
      refine befC_total x y n (l + 1) (fun k => h (fun i h1 h2 => ?_))
      by_cases q : i = l
      · rw [q]; exact e
      · exact k i (by omega) (by omega)
    · rw [if_neg e, if_neg (fun q => e q.symm)]
      by_cases q : x l < y l
      · have : ¬ y l < x l := by omega
        simp [q, this]
      · have : y l < x l := by omega
        simp [q, this]

theorem digits_eq : ∀ (n a b : Nat), a < 32 ^ n → b < 32 ^ n → (∀ i, i < n → a / 32 ^ i % 32 = b / 32 ^ i % 32) → a = b
  | 0, a, b, ha, hb, _ => by simp at ha hb; omega
  | n + 1, a, b, ha, hb, h => by
    have h0 := h 0 (by omega)
    simp at h0
    have := digits_eq n (a / 32) (b / 32) (by rw [Nat.pow_succ] at ha; omega) (by rw [Nat.pow_succ] at hb; omega) (fun i hi => by
      have := h (i + 1) (by omega)
      rw [Nat.pow_succ, Nat.mul_comm, ← Nat.div_div_eq_div_mul, ← Nat.div_div_eq_div_mul] at this
      exact this)
    omega
theorem chunk_small (a level : Nat) (bits : Int) (ha : a < 2 ^ wid bits) (hl : level < lev bits) : chunkS a level bits = a / 32 ^ level % 32 := by
  unfold chunkS
  rw [if_pos hl, Nat.mod_eq_of_lt ha, Nat.pow_mul]
theorem chunks_same {a b : Nat} {bits : Int} (ha : a < 2 ^ wid bits) (hb : b < 2 ^ wid bits) (h : ∀ l, l < lev bits → chunkS a l bits = chunkS b l bits) : a = b := by
  have hp : 2 ^ wid bits ≤ 32 ^ lev bits := by
    rw [show (32 : Nat) = 2 ^ 5 by rfl, ← Nat.pow_mul]
    exact Nat.pow_le_pow_right (by omega) (by unfold lev; omega)
  refine digits_eq (lev bits) a b (by omega) (by omega) (fun i hi => ?_)
  have := h i hi
  rw [chunk_small a i bits ha hi, chunk_small b i bits hb hi] at this
  exact this
theorem before_self (a : Nat) (bits : Int) : befS a a bits = false := befC_same _ _ _ _ (fun _ _ _ => rfl)
theorem before_self' {a b : Nat} {bits : Int} (h : a = b) : befS a b bits = false := by rw [h]; exact before_self b bits
theorem before_total {a b : Nat} {bits : Int} (ha : a < 2 ^ wid bits) (hb : b < 2 ^ wid bits) (h : a ≠ b) : befS a b bits = !befS b a bits :=
  befC_total _ _ _ _ (fun k => h (chunks_same ha hb (fun l hl => k l (by omega) (by omega))))
theorem befC_trans (x y z : Nat → Nat) : ∀ n l, befC x y n l = true → befC y z n l = true → befC x z n l = true
  | 0, _, h, _ => by cases h
  | n + 1, l, h1, h2 => by
    unfold befC at h1 h2 ⊢
    by_cases e1 : x l = y l
    · by_cases e2 : y l = z l
      · rw [if_pos e1] at h1
        rw [if_pos e2] at h2
        rw [if_pos (e1.trans e2)]
        exact befC_trans x y z n (l + 1) h1 h2
      · rw [if_neg e2] at h2
        rw [if_neg (by omega)]
        simp only [decide_eq_true_eq] at h2 ⊢
        omega
    · rw [if_neg e1] at h1
      simp only [decide_eq_true_eq] at h1
      by_cases e2 : y l = z l
      · rw [if_neg (by omega)]
        simp only [decide_eq_true_eq]
        omega
      · rw [if_neg e2] at h2
        simp only [decide_eq_true_eq] at h2
        rw [if_neg (by omega)]
        simp only [decide_eq_true_eq]
        omega
theorem before_trans {a b c : Nat} {bits : Int} (h1 : befS a b bits = true) (h2 : befS b c bits = true) : befS a c bits = true := befC_trans _ _ _ _ _ h1 h2

/-- What lies between two bits. -/
theorem mod_div_pow (h w a : Nat) (ha : a ≤ w) : h % 2 ^ w / 2 ^ a = h / 2 ^ a % 2 ^ (w - a) := by
  have : 2 ^ w = 2 ^ a * 2 ^ (w - a) := by rw [← Nat.pow_add]; congr 1; omega
  rw [this, Nat.mod_mul_right_div_self]
theorem mod_mod_pow (x p q : Nat) : x % 2 ^ p % 2 ^ q = x % 2 ^ min p q := by
  by_cases h : q ≤ p
  · rw [Nat.min_eq_right h, Nat.mod_mod_of_dvd _ (Nat.pow_dvd_pow 2 h)]
  · rw [Nat.min_eq_left (by omega), Nat.mod_eq_of_lt]
    have h1 := Nat.mod_lt x (Nat.two_pow_pos p)
    have h2 := Nat.pow_le_pow_right (n := 2) (by omega) (show p ≤ q by omega)
    omega
theorem mod_pow_succ (x p : Nat) : x % 2 ^ (p + 1) = x % 2 ^ p + 2 ^ p * (x / 2 ^ p % 2) := by
  rw [Nat.pow_succ, Nat.mod_mul]
theorem lowstep (A A' B B' P : Nat) (q2 : A / 2 = A') (m1 : B' = B + P * (A % 2)) (hB : B' < 18446744073709551616) (hA : A < 18446744073709551616) (hP : P ≤ 9223372036854775808) :
    IntKind.u64.wrap ((A : Int) / 2) = (A' : Int) ∧ IntKind.u64.wrap ((B : Int) + IntKind.u64.wrap ((P : Int) * ((A : Int) % 2))) = (B' : Int) := by
  have e : ((A : Int) % 2) = ((A % 2 : Nat) : Int) := by omega
  have hb : A % 2 = 0 ∨ A % 2 = 1 := by omega
  constructor
  · rw [wrap_u64_id (by omega) (by omega)]; omega
  · rw [e]
    rcases hb with hb | hb
    · rw [hb] at m1 ⊢
      rw [wrap_u64_id (n := (P : Int) * ((0 : Nat) : Int)) (by omega) (by omega), wrap_u64_id (by omega) (by omega)]
      omega
    · rw [hb] at m1 ⊢
      rw [wrap_u64_id (n := (P : Int) * ((1 : Nat) : Int)) (by omega) (by omega), wrap_u64_id (by omega) (by omega)]
      omega
theorem chunkstep (b B B' P : Nat) (m1 : B' = B + P * b) (hb : b < 2) (hB : B < 64) (hP : P ≤ 64) : IntKind.i64.wrap ((B : Int) + IntKind.i64.wrap ((P : Int) * (b : Int))) = (B' : Int) := by
  have hb : b = 0 ∨ b = 1 := by omega
  rcases hb with hb | hb
  · rw [hb] at m1 ⊢
    rw [wrap_i64_id (x := (P : Int) * ((0 : Nat) : Int)) (by omega) (by omega), wrap_i64_id (by omega) (by omega)]
    omega
  · rw [hb] at m1 ⊢
    rw [wrap_i64_id (x := (P : Int) * ((1 : Nat) : Int)) (by omega) (by omega), wrap_i64_id (by omega) (by omega)]
    omega
/-- How a hash is mixed to a priority. -/
def m1 (h : Int) : Int := IntKind.u64.wrap ((xorI .u64 h (h / 1073741824)) * 13787848793156543929)
def m2 (h : Int) : Int := IntKind.u64.wrap ((xorI .u64 h (h / 134217728)) * 10723151780598845931)
def m3 (h : Int) : Int := xorI .u64 h (h / 2147483648)
/-- A text's priority. -/
theorem pri_ex : ∃ f : ByteArray → Int, ∀ s, f s = m3 (m2 (m1 ((hashS s 64 : Nat) : Int))) := ⟨_, fun _ => rfl⟩
noncomputable def pri : ByteArray → Int := Classical.choose pri_ex
theorem pri_eq (s : ByteArray) : pri s = m3 (m2 (m1 ((hashS s 64 : Nat) : Int))) := Classical.choose_spec pri_ex s
/-- Which of two texts is above. -/
noncomputable def above (a b : ByteArray) : Bool := if pri a = pri b then lt a b else decide (pri a > pri b)
theorem above_irrefl (a : ByteArray) : above a a = false := by
  unfold above
  rw [if_pos rfl, lt_irrefl]
theorem above_total {a b : ByteArray} (h : a ≠ b) : above a b = true ∨ above b a = true := by
  unfold above
  by_cases e : pri a = pri b
  · rw [if_pos e, if_pos e.symm]; exact lt_total h
  · rw [if_neg e, if_neg (fun q => e q.symm)]
    simp only [decide_eq_true_eq]
    omega
theorem above_trans {a b c : ByteArray} (h1 : above a b = true) (h2 : above b c = true) : above a c = true := by
  unfold above at *
  by_cases e1 : pri a = pri b
  · by_cases e2 : pri b = pri c
    · rw [if_pos e1] at h1
      rw [if_pos e2] at h2
      rw [if_pos (by omega)]
      exact lt_trans h1 h2
    · rw [if_neg e2] at h2
      simp only [decide_eq_true_eq] at h2
      rw [if_neg (by omega)]
      simp only [decide_eq_true_eq]
      omega
  · rw [if_neg e1] at h1
    simp only [decide_eq_true_eq] at h1
    by_cases e2 : pri b = pri c
    · rw [if_neg (by omega)]
      simp only [decide_eq_true_eq]
      omega
    · rw [if_neg e2] at h2
      simp only [decide_eq_true_eq] at h2
      rw [if_neg (by omega)]
      simp only [decide_eq_true_eq]
      omega
theorem above_asymm {a b : ByteArray} (h : above a b = true) : above b a = false := by
  cases k : above b a with
  | false => rfl
  | true => have := above_trans h k; rw [above_irrefl] at this; cases this
/-- The one that none of some texts is above. -/
noncomputable def best : List ByteArray → ByteArray → ByteArray
  | [], o => o
  | x :: xs, o => best xs (if above x o = true then x else o)
noncomputable def topT : List ByteArray → ByteArray × Bool
  | [] => (⟨#[]⟩, false)
  | x :: xs => (best xs x, true)
theorem best_mem : ∀ xs o, best xs o = o ∨ best xs o ∈ xs
  | [], _ => .inl rfl
  | x :: xs, o => by
    unfold best
    by_cases h : above x o = true
    · rw [if_pos h]
      rcases best_mem xs x with e | e
      · rw [e]; exact .inr (by simp)
      · exact .inr (List.mem_cons_of_mem _ e)
    · rw [if_neg h]
      rcases best_mem xs o with e | e
      · exact .inl e
      · exact .inr (List.mem_cons_of_mem _ e)
theorem above_not_trans {a b c : ByteArray} (h1 : above a b = false) (h2 : above b c = false) : above a c = false := by
  cases h : above a c with
  | false => rfl
  | true =>
    by_cases e : a = b
    · subst e; rw [h2] at h; cases h
    · rcases above_total e with q | q
      · rw [h1] at q; cases q
      · have := above_trans q h; rw [h2] at this; cases this
theorem best_top : ∀ xs o, above o (best xs o) = false ∧ ∀ y ∈ xs, above y (best xs o) = false
  | [], o => ⟨above_irrefl o, by simp⟩
  | x :: xs, o => by
    unfold best
    by_cases h : above x o = true
    · rw [if_pos h]
      obtain ⟨h1, h2⟩ := best_top xs x
      refine ⟨above_not_trans (above_asymm h) h1, fun y hy => ?_⟩
      rcases List.mem_cons.1 hy with e | e
      · rw [e]; exact h1
      · exact h2 y e
    · rw [if_neg h]
      obtain ⟨h1, h2⟩ := best_top xs o
      refine ⟨h1, fun y hy => ?_⟩
      rcases List.mem_cons.1 hy with e | e
      · rw [e]; exact above_not_trans (Bool.eq_false_iff.2 h) h1
      · exact h2 y e
theorem top_mem {l : List ByteArray} (h : 0 < l.length) : (topT l).1 ∈ l := by
  cases l with
  | nil => simp at h
  | cons x xs =>
    show best xs x ∈ _
    rcases best_mem xs x with e | e
    · rw [e]; simp
    · exact List.mem_cons_of_mem _ e
theorem top_top {l : List ByteArray} {y : ByteArray} (h : y ∈ l) : above y (topT l).1 = false := by
  cases l with
  | nil => simp at h
  | cons x xs =>
    show above y (best xs x) = false
    obtain ⟨h1, h2⟩ := best_top xs x
    rcases List.mem_cons.1 h with e | e
    · rw [e]; exact h1
    · exact h2 y e
theorem top_only {l : List ByteArray} {y : ByteArray} (h : y ∈ l) (hy : ∀ z ∈ l, above z y = false) : y = (topT l).1 := by
  by_cases e : y = (topT l).1
  · exact e
  · have hp : 0 < l.length := List.length_pos_of_mem h
    rcases above_total e with q | q
    · rw [top_top h] at q; cases q
    · rw [hy _ (top_mem hp)] at q; cases q
end Go.Abs
set_option linter.unusedVariables false
set_option linter.unusedSimpArgs false
namespace Go.Proofs.Ytmopkbmcilolgaa.AC
open Go.Abs
theorem clamp_any (bits : Int) : ref04_clamp bits = some (wid bits : Int) := by
  rw [ref04_clamp.eq]
  simp only [ltI_d, br_if]
  unfold wid
  by_cases h : bits < 0
  · rw [if_pos h]; exact some_int (by omega)
  · rw [if_neg h]
    by_cases h' : 64 < bits
    · rw [if_pos h']; exact some_int (by omega)
    · rw [if_neg h']; exact some_int (by omega)
theorem reflow_loop (bits : Int) (n : Nat) (hn : n < 18446744073709551616) (d : Nat) : ∀ (i : Nat) (one : Int), i ≤ wid bits → (i < 64 → one = 2 ^ i) → wid bits - i = d →
    ref04_Of.l1 bits ((n / 2 ^ i : Nat) : Int) ((n % 2 ^ i : Nat) : Int) one i = some ((n % 2 ^ wid bits : Nat) : Int) := by
  have hw := wid_le bits
  induction d with
  | zero =>
    intro i one hi h1 hd
    rw [ref04_Of.l1.eq, clamp_any, bnd_some]
    simp only [ltI_d, br_if]
    rw [if_neg (by omega), show i = wid bits by omega]
  | succ d ih =>
    intro i one hi h1 hd
    rw [ref04_Of.l1.eq, clamp_any, bnd_some]
    simp only [ltI_d, br_if, eqI_d, notB_d]
    have hone := h1 (by omega)
    subst hone
    have c : ((2 : Int) ^ i) = ((2 ^ i : Nat) : Int) := by simp
    have p : 2 ^ i ≤ 2 ^ 63 := Nat.pow_le_pow_right (by omega) (by omega)
    have q : n / 2 ^ i ≤ n := Nat.div_le_self _ _
    have q2 : n / 2 ^ i / 2 = n / 2 ^ (i + 1) := by rw [Nat.div_div_eq_div_mul, Nat.pow_succ]
    have m1 := mod_pow_succ n i
    have m2 : n % 2 ^ (i + 1) < 18446744073709551616 := by have := Nat.mod_le n (2 ^ (i + 1)); omega
    rw [if_pos (by omega), if_pos (by omega), if_pos (by omega), add1 i (by omega)]
    unfold quoI remI addI mulI
    rw [Int.tdiv_eq_ediv_of_nonneg (Int.natCast_nonneg _), Int.tmod_eq_emod_of_nonneg (Int.natCast_nonneg _)]
    have e := lowstep (n / 2 ^ i) _ (n % 2 ^ i) _ (2 ^ i) q2 m1 m2 (by omega) p
    rw [← c] at e
    rw [e.1, e.2]
    refine ih (i + 1) _ (by omega) (fun h => ?_) (by omega)
    have p2 : 2 ^ (i + 1) ≤ 2 ^ 63 := Nat.pow_le_pow_right (by omega) (by omega)
    have c2 : ((2 : Int) ^ (i + 1)) = ((2 ^ (i + 1) : Nat) : Int) := by simp
    rw [c, c2, wrap_u64, Nat.pow_succ]
    rw [Nat.pow_succ] at p2
    omega
theorem byte_u64 (s : ByteArray) (i : Nat) (hi : i < s.size) : ∃ x : UInt8, (bl s).drop i = x :: (bl s).drop (i + 1) ∧ wrapI .u64 (getS s (toN (i : Int))) = IntKind.u64.wrap (x.toNat : Int) := by
  obtain ⟨x, e, hx⟩ := drop_cons s i hi
  refine ⟨x, e, ?_⟩
  rw [getS_bt, hx]; rfl
theorem refof_loop (s : ByteArray) (bits : Int) (hs : s.size ≤ 140737488351232) (d : Nat) : ∀ (i : Nat) (h : Int), 0 ≤ h → h < 18446744073709551616 → i ≤ s.size → s.size - i = d →
    ref04_Of.l0 s bits h i = some ((((fnv ((bl s).drop i) h).toNat % 2 ^ wid bits : Nat)) : Int) := by
  have hw := wid_le bits
  induction d with
  | zero =>
    intro i h h0 h1 hi hd
    rw [ref04_Of.l0.eq]
    simp only [ltI_d, leI_d, ofN_d, lenS_d, andB_d, br_if]
    obtain ⟨n, rfl⟩ : ∃ n : Nat, h = n := ⟨h.toNat, by omega⟩
    rw [if_neg (by omega), List.drop_eq_nil_of_le (by rw [bl_len]; omega)]
    have := reflow_loop bits n (by omega) (wid bits) 0 1 (by omega) (fun _ => by simp) (by omega)
    simp only [Nat.pow_zero, Nat.div_one, Nat.mod_one, Int.cast_ofNat_Int] at this
    rw [this]
    rfl
  | succ d ih =>
    intro i h h0 h1 hi hd
    rw [ref04_Of.l0.eq]
    simp only [ltI_d, leI_d, ofN_d, lenS_d, andB_d, br_if]
    obtain ⟨x, e, hx⟩ := byte_u64 s i (by omega)
    rw [if_pos (by omega), if_pos (by omega), e, add1 i (by omega), hx]
    have hr := hstep_range h (x.toNat : Int)
    have := ih (i + 1) (hstep h (x.toNat : Int)) hr.1 hr.2 (by omega) (by omega)
    unfold hstep at this
    unfold mulI
    rw [this, fnv_cons]
    rfl
theorem refof_any (s : ByteArray) (bits : Int) (hs : s.size ≤ 140737488351232) : ref04_Of s bits = some ((hashS s bits : Nat) : Int) := by
  rw [ref04_Of.eq]
  have := refof_loop s bits hs s.size 0 14695981039346656037 (by omega) (by omega) (by omega) (by omega)
  simp only [List.drop_zero, Int.cast_ofNat_Int] at this
  unfold hashS
  rw [hashN_eq]
  exact this
theorem within_any (bits : Int) : hash_within bits = some (wid bits : Int) := by
  rw [hash_within.eq]
  simp only [minI_d, maxI_d]
  unfold wid
  exact some_int (by omega)
theorem cutb_any (h : Nat) (hh : h < 18446744073709551616) (bits : Int) : hash_cut h bits = some ((h % 2 ^ wid bits : Nat) : Int) := by
  have hw := wid_le bits
  rw [hash_cut.eq, within_any, bnd_some]
  simp only [eqI_d, leI_d, br_if]
  by_cases e : wid bits = 64
  · rw [if_pos (by omega), e, Nat.mod_eq_of_lt (by omega)]
  · rw [if_neg (by omega), bnd_some, if_pos (by omega)]
    have hpos : 0 < 2 ^ wid bits := Nat.two_pow_pos _
    have hle : 2 ^ wid bits ≤ 2 ^ 63 := Nat.pow_le_pow_right (by omega) (by omega)
    have e1 : shlI .u64 1 ((wid bits : Nat) : Int) = ((2 ^ wid bits : Nat) : Int) := by
      unfold shlI
      rw [Int.toNat_natCast, show IntKind.u64.bits = 64 from rfl, Nat.min_eq_left hw, Int.one_mul, wrap_u64]
      have c : ((2 : Int) ^ wid bits) = ((2 ^ wid bits : Nat) : Int) := by simp
      rw [c]
      generalize 2 ^ wid bits = P at hle ⊢
      omega
    have e2 : subI .u64 ((2 ^ wid bits : Nat) : Int) 1 = ((2 ^ wid bits - 1 : Nat) : Int) := by
      unfold subI
      rw [wrap_u64]
      generalize 2 ^ wid bits = P at hle hpos ⊢
      omega
    rw [e1, e2, and_u64 _ _ hh hw]
theorem hashof_loop (s : ByteArray) (bits : Int) (hs : s.size ≤ 140737488351232) (d : Nat) : ∀ (i : Nat) (h : Int), 0 ≤ h → h < 18446744073709551616 → i ≤ s.size → s.size - i = d →
    hash_Of.l0 s bits h s.size i = some ((((fnv ((bl s).drop i) h).toNat % 2 ^ wid bits : Nat)) : Int) := by
  induction d with
  | zero =>
    intro i h h0 h1 hi hd
    rw [hash_Of.l0.eq]
    simp only [ltI_d, leI_d, ofN_d, lenS_d, andB_d, br_if]
    obtain ⟨n, rfl⟩ : ∃ n : Nat, h = n := ⟨h.toNat, by omega⟩
    rw [if_neg (by omega), List.drop_eq_nil_of_le (by rw [bl_len]; omega), cutb_any n (by omega), bnd_some]
    rfl
  | succ d ih =>
    intro i h h0 h1 hi hd
    rw [hash_Of.l0.eq]
    simp only [ltI_d, leI_d, ofN_d, lenS_d, andB_d, br_if]
    obtain ⟨x, e, hx⟩ := byte_u64 s i (by omega)
    rw [if_pos (by omega), if_pos (by omega), e, add1 i (by omega), hx]
    have hr := hstep_range h (x.toNat : Int)
    have := ih (i + 1) (hstep h (x.toNat : Int)) hr.1 hr.2 (by omega) (by omega)
    unfold hstep at this
    unfold mulI
    rw [this, fnv_cons]
    rfl
theorem hashof_any (s : ByteArray) (bits : Int) (hs : s.size ≤ 140737488351232) : hash_Of s bits = some ((hashS s bits : Nat) : Int) := by
  rw [hash_Of.eq]
  have := hashof_loop s bits hs s.size 0 14695981039346656037 (by omega) (by omega) (by omega) (by omega)
  simp only [List.drop_zero, Int.cast_ofNat_Int] at this
  unfold hashS
  rw [hashN_eq]
  exact this
end Go.Proofs.Ytmopkbmcilolgaa.AC
set_option linter.unusedVariables false
set_option linter.unusedSimpArgs false
namespace Go.Proofs.Ytmopkbmcilolgaa.AC
open Go.Abs
theorem levels_any (bits : Int) : hash_Levels bits = some ((lev bits : Nat) : Int) := by
  have hw := wid_le bits
  rw [hash_Levels.eq, within_any, bnd_some, show notB (eqI 5 0) = true from rfl, br_t, addI_d (by omega) (by omega), subI_d (by omega) (by omega)]
  unfold quoI lev
  rw [Int.tdiv_eq_ediv_of_nonneg (by omega), wrap_i64_id (by omega) (by omega)]
  exact some_int (by omega)
theorem reflevels_loop (bits : Int) (d : Nat) : ∀ (l : Nat), l ≤ lev bits → lev bits - l = d → ref04_Levels.l0 bits l = some ((lev bits : Nat) : Int) := by
  have hw := wid_le bits
  have em : ∀ l : Nat, l ≤ 13 → mulI .i64 5 (l : Int) = 5 * (l : Int) := fun l hl => by unfold mulI; exact wrap_i64_id (by omega) (by omega)
  have hv := lev_le bits
  induction d with
  | zero =>
    intro l hl hd
    rw [ref04_Levels.l0.eq, clamp_any, bnd_some, em l (by omega)]
    simp only [ltI_d, br_if]
    unfold lev at hl hd
    rw [if_neg (by omega)]
    unfold lev
    exact some_int (by omega)
  | succ d ih =>
    intro l hl hd
    rw [ref04_Levels.l0.eq, clamp_any, bnd_some, em l (by omega)]
    simp only [ltI_d, br_if]
    have hl2 := hl
    have hd2 := hd
    unfold lev at hl hd
    rw [if_pos (by omega), add1 l (by omega)]
    exact ih (l + 1) (by omega) (by omega)
theorem reflevels_any (bits : Int) : ref04_Levels bits = some ((lev bits : Nat) : Int) := by
  rw [ref04_Levels.eq]
  exact reflevels_loop bits (lev bits) 0 (by omega) (by omega)
theorem chunk_any (h : Nat) (hh : h < 18446744073709551616) (level bits : Int) (hl : level ≤ 9223372036854775807) :
    hash_Chunk h level bits = some (((if level < 0 then 0 else chunkS h level.toNat bits) : Nat) : Int) := by
  have hv := lev_le bits
  have hw := wid_le bits
  rw [hash_Chunk.eq, levels_any, bnd_some]
  simp only [ltI_d, leI_d, br_if]
  by_cases h0 : level < 0
  · rw [if_pos h0, if_pos h0]; rfl
  · rw [if_neg h0, if_neg h0]
    unfold chunkS
    by_cases h1 : ((lev bits : Nat) : Int) ≤ level
    · rw [if_pos h1, if_neg (by omega)]; rfl
    · rw [if_neg h1, if_pos (by omega), cutb_any h hh, bnd_some]
      obtain ⟨l, rfl⟩ : ∃ l : Nat, level = l := ⟨level.toNat, by omega⟩
      rw [Int.toNat_natCast]
      have hlt : h % 2 ^ wid bits < 18446744073709551616 := by have := Nat.mod_le h (2 ^ wid bits); omega
      generalize h % 2 ^ wid bits = c at hlt ⊢
      have em : mulI .i64 5 (l : Int) = ((5 * l : Nat) : Int) := by unfold mulI; rw [wrap_i64_id (by omega) (by omega)]; omega
      rw [em, if_pos (by omega)]
      have e1 : shrI .u64 (c : Int) ((5 * l : Nat) : Int) = ((c / 2 ^ (5 * l) : Nat) : Int) := by
        unfold shrI
        have hl' : l < lev bits := by omega
        have : 5 * l ≤ 64 := by unfold lev at hl'; omega
        rw [Int.toNat_natCast, show IntKind.u64.bits = 64 from rfl, Nat.min_eq_left this, Int.fdiv_eq_ediv_of_nonneg _ (Int.pow_nonneg (by omega))]
        simp
      have hle : c / 2 ^ (5 * l) ≤ c := Nat.div_le_self _ _
      rw [e1]
      generalize c / 2 ^ (5 * l) = q at hle ⊢
      have e2 := and_u64 q 5 (by omega) (by omega)
      rw [show ((2 ^ 5 - 1 : Nat) : Int) = 31 from rfl] at e2
      rw [e2]
      have : q % 2 ^ 5 < 32 := Nat.mod_lt _ (by decide)
      unfold wrapI
      rw [wrap_i64_id (by omega) (by omega)]
theorem bit_loop (a : Nat) (d : Nat) : ∀ (h i : Nat), h < 18446744073709551616 → i ≤ a → a ≤ 64 → a - i = d → ref04_bit.l0 h a i = some ((h / 2 ^ d % 2 : Nat) : Int) := by
  induction d with
  | zero =>
    intro h i hh hi ha hd
    rw [ref04_bit.l0.eq]
    simp only [ltI_d, eqI_d, notB_d, br_if]
    unfold remI wrapI
    rw [if_neg (by omega), if_pos (by omega), Int.tmod_eq_emod_of_nonneg (by omega), wrap_i64_id (by omega) (by omega)]
    refine some_int ?_
    simp
  | succ d ih =>
    intro h i hh hi ha hd
    rw [ref04_bit.l0.eq]
    simp only [ltI_d, eqI_d, notB_d, br_if]
    unfold quoI
    rw [if_pos (by omega), if_pos (by omega), Int.tdiv_eq_ediv_of_nonneg (by omega), Go.Abs.wrap_u64_id (by omega) (by omega), add1 i (by omega), show ((h : Int) / 2) = ((h / 2 : Nat) : Int) by omega]
    rw [ih (h / 2) (i + 1) (by omega) (by omega) (by omega) (by omega), Nat.div_div_eq_div_mul, Nat.pow_succ, Nat.mul_comm 2]
theorem bit_any (h a : Nat) (hh : h < 18446744073709551616) (ha : a ≤ 64) : ref04_bit h a = some ((h / 2 ^ a % 2 : Nat) : Int) := by
  rw [ref04_bit.eq]
  exact bit_loop a a h 0 hh (by omega) ha (by omega)
theorem refchunk_loop (h : Nat) (hh : h < 18446744073709551616) (l : Nat) (bits : Int) (hl : l < lev bits) (d : Nat) : ∀ (j : Nat), j ≤ min 5 (wid bits - 5 * l) → min 5 (wid bits - 5 * l) - j = d →
    ref04_Chunk.l0 h l bits ((h / 2 ^ (5 * l) % 2 ^ j : Nat) : Int) (2 ^ j) ((5 * l + j : Nat) : Int) = some ((h / 2 ^ (5 * l) % 2 ^ min 5 (wid bits - 5 * l) : Nat) : Int) := by
  have hw := wid_le bits
  have hv := lev_le bits
  have hlw : 5 * l < wid bits := by unfold lev at hl; omega
  have em : addI .i64 (mulI .i64 5 (l : Int)) 5 = ((5 * l + 5 : Nat) : Int) := by
    have : mulI .i64 5 (l : Int) = ((5 * l : Nat) : Int) := by unfold mulI; rw [wrap_i64_id (by omega) (by omega)]; omega
    rw [this, addI_d (by omega) (by omega)]; omega
  induction d with
  | zero =>
    intro j hj hd
    have hj' : j = min 5 (wid bits - 5 * l) := by omega
    rw [ref04_Chunk.l0.eq, em, clamp_any, bnd_some]
    simp only [ltI_d, br_if]
    by_cases e : ((5 * l + j : Nat) : Int) < ((5 * l + 5 : Nat) : Int)
    · rw [if_pos e, if_neg (by omega), hj']
    · rw [if_neg e, hj']
  | succ d ih =>
    intro j hj hd
    rw [ref04_Chunk.l0.eq, em, clamp_any, bnd_some]
    simp only [ltI_d, br_if]
    rw [if_pos (by omega), if_pos (by omega), bit_any h (5 * l + j) hh (by omega), bnd_some, add1 _ (by omega)]
    have c : ((2 : Int) ^ j) = ((2 ^ j : Nat) : Int) := by simp
    have c2 : ((2 : Int) ^ (j + 1)) = ((2 ^ (j + 1) : Nat) : Int) := by simp
    have p : 2 ^ j ≤ 2 ^ 5 := Nat.pow_le_pow_right (by omega) (by omega)
    have m1 := mod_pow_succ (h / 2 ^ (5 * l)) j
    have q : h / 2 ^ (5 * l) / 2 ^ j = h / 2 ^ (5 * l + j) := by rw [Nat.div_div_eq_div_mul, Nat.pow_add]
    rw [q] at m1
    have m3 : h / 2 ^ (5 * l) % 2 ^ j < 2 ^ j := Nat.mod_lt _ (Nat.two_pow_pos _)
    have := ih (j + 1) (by omega) (by omega)
    rw [c2, Nat.pow_succ] at this
    have e1 := chunkstep (h / 2 ^ (5 * l + j) % 2) (h / 2 ^ (5 * l) % 2 ^ j) _ (2 ^ j) m1 (Nat.mod_lt _ (by omega)) (by omega) (by omega)
    rw [← c] at e1
    have w2 : mulI .i64 2 ((2 ^ j : Nat) : Int) = ((2 ^ j * 2 : Nat) : Int) := by
      unfold mulI
      generalize 2 ^ j = P at p ⊢
      rw [wrap_i64_id (by omega) (by omega)]
      omega
    have w1 : addI .i64 ((h / 2 ^ (5 * l) % 2 ^ j : Nat) : Int) (mulI .i64 (2 ^ j) ((h / 2 ^ (5 * l + j) % 2 : Nat) : Int)) = ((h / 2 ^ (5 * l) % 2 ^ (j + 1) : Nat) : Int) := e1
    rw [w1, c, w2]
    exact this
theorem refchunk_any (h : Nat) (hh : h < 18446744073709551616) (level bits : Int) (hl : level ≤ 9223372036854775807) :
    ref04_Chunk h level bits = some (((if level < 0 then 0 else chunkS h level.toNat bits) : Nat) : Int) := by
  have hv := lev_le bits
  have hw := wid_le bits
  rw [ref04_Chunk.eq, reflevels_any, bnd_some]
  simp only [ltI_d, leI_d, br_if]
  by_cases h0 : level < 0
  · rw [if_pos h0, if_pos h0]; rfl
  · rw [if_neg h0, if_neg h0]
    unfold chunkS
    by_cases h1 : ((lev bits : Nat) : Int) ≤ level
    · rw [if_pos h1, if_neg (by omega)]; rfl
    · rw [if_neg h1, if_pos (by omega)]
      obtain ⟨l, rfl⟩ : ∃ l : Nat, level = l := ⟨level.toNat, by omega⟩
      rw [Int.toNat_natCast]
      have hlw : 5 * l < wid bits := by
        have : l < lev bits := by omega
        unfold lev at this; omega
      have em : mulI .i64 5 (l : Int) = ((5 * l : Nat) : Int) := by unfold mulI; rw [wrap_i64_id (by omega) (by omega)]; omega
      have := refchunk_loop h hh l bits (by omega) (min 5 (wid bits - 5 * l)) 0 (by omega) (by omega)
      simp only [Nat.pow_zero, Nat.mod_one, Nat.add_zero, Int.pow_zero] at this
      rw [em, show (0 : Int) = ((0 : Nat) : Int) from rfl, this]
      refine some_int ?_
      rw [mod_div_pow h _ _ (by omega), show (32 : Nat) = 2 ^ 5 from rfl, mod_mod_pow, Nat.min_comm]
end Go.Proofs.Ytmopkbmcilolgaa.AC
set_option linter.unusedVariables false
set_option linter.unusedSimpArgs false
namespace Go.Proofs.Ytmopkbmcilolgaa.AC
open Go.Abs
theorem pget_any (l : List PairV) (k : ByteArray) (hl : l.length ≤ 40000000) (hs : ∀ p ∈ l, okP p) (hS : isS l = true) : pair_Get l k = some (valF (l.find? (fun q => decide (q.1 = k)))) := by
  have hsr := isS_srt hS
  obtain ⟨pos, h1, h2, h3, h4⟩ := place_any l k (by omega) hs hsr
  rw [pair_Get.eq, pair_ordered.eq, is_any l (by omega) hs, bnd_some, hS, br_t, bnd_some, h1, bnd_some]
  have hlt : ∀ x : ByteArray, lt x x = false := fun x => by
    rcases tri x x with ⟨_, _, e⟩ | ⟨_, e, _⟩ | ⟨_, _, e⟩
    · exact absurd rfl e
    · exact e
    · exact absurd rfl e
  have hpre : (l.take pos).find? (fun q => decide (q.1 = k)) = none := by
    rw [List.find?_eq_none]
    intro q hq
    obtain ⟨a, ha, rfl⟩ := List.mem_iff_getElem.1 hq
    rw [List.length_take] at ha
    rw [List.getElem_take]
    have := h3 a (by omega) (by omega)
    simp only [decide_eq_true_eq]
    intro e
    rw [e, hlt] at this
    cases this
  by_cases hp : ∃ h : pos < l.length, l[pos].1 = k
  · obtain ⟨hpl, hpk⟩ := hp
    rw [decide_eq_true ⟨hpl, hpk⟩, show notB true = false from rfl, br_f, ixP l pos hpl]
    simp only [ltI_d, leI_d, ofN_d, lenL_d, andB_d, br_if]
    rw [if_pos (by omega)]
    have e : l = l.take pos ++ l[pos] :: l.drop (pos + 1) := by
      rw [← List.drop_eq_getElem_cons hpl, List.take_append_drop]
    have ef : l.find? (fun q => decide (q.1 = k)) = some l[pos] := by
      conv => lhs; rw [e]
      rw [List.find?_append, hpre, Option.none_or, List.find?_cons, decide_eq_true hpk]
    rw [ef]
    rfl
  · rw [decide_eq_false hp, show notB false = true from rfl, br_t]
    have ef : l.find? (fun q => decide (q.1 = k)) = none := by
      rw [List.find?_eq_none]
      intro q hq
      obtain ⟨a, ha, rfl⟩ := List.mem_iff_getElem.1 hq
      simp only [decide_eq_true_eq]
      intro e
      by_cases hap : a < pos
      · have := h3 a ha hap
        rw [e, hlt] at this
        cases this
      · by_cases hae : a = pos
        · subst hae; exact hp ⟨ha, e⟩
        · have hpl : pos < l.length := by omega
          have h5 := h4 pos hpl (Nat.le_refl _)
          have h6 := srt_get hsr ha (show pos < a by omega)
          rw [e, h5] at h6
          cases h6
    rw [ef]
    rfl
abbrev FindV := ByteArray × Int × Int × Int × Int × ByteArray × Bool × Unit
noncomputable def fnd (key : ByteArray) (bits : Int) (level r : Int) (v : ByteArray) (b : Bool) : FindV := (key, (bits, (((hashS key bits : Nat) : Int), (level, (r, (v, (b, ())))))))
/-- One node more. -/
theorem feed_any {n : NodeV} (o : okN n) (hm : mayS n = 0) (key : ByteArray) (hk : key.size ≤ 40) (bits : Int) (level : Nat) (hl : level ≤ 50000000) (w : Int) (hw : w ≠ 0) :
    ∃ (r' : Int) (lv : Nat) (v : ByteArray) (b : Bool), ref21_Bound n key = some (v, (b, ())) ∧ ref21_next n key (level : Int) bits = some (r', ((lv : Int), ())) ∧ lv ≤ level + 1 ∧
      find_Find_Feed n (fnd key bits level w ByteArray.empty false) = some ((), (fnd key bits lv r' v b, ())) ∧ (r' = 0 ∨ (r' ∈ refsS n ∧ v = ByteArray.empty ∧ b = false)) := by
  obtain ⟨k1, k6, hlong, hform⟩ := mayS_zero hm
  have hlist := o.list
  have hget : ∀ l : List PairV, pair_Get [(n.2.1, (n.2.2.1, ()))] key = some (if n.2.1 = key then (n.2.2.1, (true, ())) else (ByteArray.empty, (false, ()))) := fun _ => by
    rw [pget_any _ _ (by show 1 ≤ _; omega) (fun p hp => by rw [List.mem_singleton.1 hp]; exact ⟨o.key, o.val⟩) rfl, List.find?_cons]
    by_cases e : n.2.1 = key
    · rw [if_pos e, decide_eq_true e]; rfl
    · rw [if_neg e, decide_eq_false e]; rfl
  have hg1 := hget []
  rw [find_Find_Feed.eq, find_Find_Want.eq, bnd_some, ref21_Bound.eq, ref21_next.eq]
  simp only [eqI_d, eqS_d, br_if]
  have hw' : ¬ (fnd key bits (level : Int) w ByteArray.empty false).2.2.2.2.1 = 0 := hw
  rw [if_neg hw']
  by_cases c5 : n.1 = 5
  · rw [if_pos c5, if_pos c5, if_neg (by omega), if_neg (by omega), if_neg (by omega)]
    refine ⟨n.2.2.2.2.2.1, level, ByteArray.empty, false, rfl, rfl, by omega, rfl, ?_⟩
    by_cases e : n.2.2.2.2.2.1 = 0
    · exact .inl e
    · refine .inr ⟨?_, rfl, rfl⟩
      unfold refsS
      rw [if_pos e]
      exact List.mem_append_right _ (by simp)
  rw [if_neg c5, if_neg c5]
  by_cases c2 : n.1 = 2
  · obtain ⟨m, ks, sz, bi, hB, hb, hof, hN⟩ := branch_spec n o
    have hN := hN ⟨c2, hm⟩
    have hlt := hash_lt64 key bits
    rw [if_pos c2, if_pos c2, if_neg (by omega), if_neg (by omega), if_neg (by omega), hof, bnd_some, refof_any key bits (by omega), bnd_some, refchunk_any _ hlt _ _ (by omega), bnd_some, refchild_any, bnd_some, add1 level (by omega)]
    have hc : hash_Chunk (fnd key bits (level : Int) w ByteArray.empty false).2.2.1 (fnd key bits (level : Int) w ByteArray.empty false).2.2.2.1 (fnd key bits (level : Int) w ByteArray.empty false).2.1 = some (((if (level : Int) < 0 then 0 else chunkS (hashS key bits) (level : Int).toNat bits) : Nat) : Int) := chunk_any (hashS key bits) hlt (level : Int) bits (by omega)
    rw [hc, bnd_some, child_any hB hb, bnd_some]
    refine ⟨_, level + 1, ByteArray.empty, false, rfl, rfl, by omega, ?_, ?_⟩
    · have : addI .i64 (fnd key bits (level : Int) w ByteArray.empty false).2.2.2.1 1 = ((level + 1 : Nat) : Int) := add1 level (by omega)
      rw [this]
      rfl
    · generalize (((if (level : Int) < 0 then 0 else chunkS (hashS key bits) (level : Int).toNat bits) : Nat) : Int) = q
      by_cases e : chI m ks q = 0
      · exact .inl e
      · refine .inr ⟨?_, rfl, rfl⟩
        unfold chI chAt at e ⊢
        by_cases hq : 0 ≤ q ∧ q < 32
        · rw [if_pos hq] at e ⊢
          by_cases hb2 : m.testBit q.toNat = true
          · rw [if_pos hb2] at e ⊢
            unfold refsS
            rw [hN]
            refine List.mem_append_left _ (List.mem_filter.2 ⟨?_, by simpa using e⟩)
            rcases Nat.lt_or_ge (cnt q.toNat m) ks.length with h1 | h1
            · rw [List.getD_eq_getElem?_getD, List.getElem?_eq_getElem h1]
              exact List.getElem_mem h1
            · rw [List.getD_eq_getElem?_getD, List.getElem?_eq_none h1] at e
              exact absurd rfl e
          · rw [if_neg hb2] at e; exact absurd rfl e
        · rw [if_neg hq] at e; exact absurd rfl e
  rw [if_neg c2, if_neg c2]
  have leaf : ∀ v b, pair_Get [(n.2.1, (n.2.2.1, ()))] key = some (v, (b, ())) → (n.1 = 1 ∨ n.1 = 6) →
      bnd (node_Binds n) (fun r3 => bnd (pair_Get r3.2.1 (fnd key bits (level : Int) w ByteArray.empty false).1) fun r4 => some ((), (((fnd key bits (level : Int) w ByteArray.empty false).1, ((fnd key bits (level : Int) w ByteArray.empty false).2.1, ((fnd key bits (level : Int) w ByteArray.empty false).2.2.1, ((fnd key bits (level : Int) w ByteArray.empty false).2.2.2.1, ((0 : Int), r4))))), ()))) = some ((), (fnd key bits (level : Int) 0 v b, ())) := fun v b hv hk => by
    have hbn : bindsS n = [(n.2.1, (n.2.2.1, ()))] := by
      unfold bindsS
      rw [if_pos (by omega)]
    rw [binds_any n o, bnd_some, hbn]
    show bnd (pair_Get [(n.2.1, (n.2.2.1, ()))] key) _ = _
    rw [hv, bnd_some]
    rfl
  by_cases c1 : n.1 = 1
  · simp only [if_pos c1, if_neg (show ¬ n.1 = 3 by omega)]
    by_cases e : n.2.1 = key
    · rw [if_pos e] at hg1 ⊢
      exact ⟨0, level, n.2.2.1, true, rfl, rfl, by omega, leaf _ _ hg1 (.inl c1), .inl rfl⟩
    · rw [if_neg e] at hg1 ⊢
      exact ⟨0, level, ByteArray.empty, false, rfl, rfl, by omega, leaf _ _ hg1 (.inl c1), .inl rfl⟩
  by_cases c6 : n.1 = 6
  · simp only [if_pos c6, if_neg (show ¬ n.1 = 3 by omega), if_neg c1]
    by_cases e : n.2.1 = key
    · rw [if_pos e] at hg1 ⊢
      exact ⟨0, level, n.2.2.1, true, rfl, rfl, by omega, leaf _ _ hg1 (.inr c6), .inl rfl⟩
    · rw [if_neg e] at hg1 ⊢
      exact ⟨0, level, ByteArray.empty, false, rfl, rfl, by omega, leaf _ _ hg1 (.inr c6), .inl rfl⟩
  by_cases c3 : n.1 = 3
  · simp only [if_pos c3, if_neg c1, if_neg c6]
    have hS : isS n.2.2.2.2.2.2.1 = true := by
      unfold formP at hform
      obtain ⟨_, hf⟩ := hform
      rw [if_neg (by omega), if_neg (by omega), if_pos c3] at hf
      exact hf.2.1
    have hbn : bindsS n = n.2.2.2.2.2.2.1 := by
      unfold bindsS
      rw [if_neg (by omega), if_pos c3]
    rw [rget_any _ _ (by omega), bnd_some, makeS_srt (isS_srt hS), binds_any n o, bnd_some, hbn]
    show ∃ (r' : Int) (lv : Nat) (v : ByteArray) (b : Bool), _ ∧ _ ∧ _ ∧ bnd (pair_Get n.2.2.2.2.2.2.1 key) _ = _ ∧ _
    rw [pget_any _ _ (by omega) o.binds hS, bnd_some]
    generalize valF (n.2.2.2.2.2.2.1.find? (fun q => decide (q.1 = key))) = q
    obtain ⟨v, b, _⟩ := q
    exact ⟨0, level, v, b, rfl, rfl, by omega, rfl, .inl rfl⟩
  · simp only [if_neg c3, if_neg c1, if_neg c6]
    exact ⟨0, level, ByteArray.empty, false, rfl, rfl, by omega, rfl, .inl rfl⟩
/-- The whole way. -/
theorem find_way {h : List NodeV} (ho : okH h) (hm : mayH h = true) (key : ByteArray) (hk : key.size ≤ 40) (bits : Int) : ∀ (n : Nat) (r : Int) (level cnt : Nat) (v : ByteArray) (b : Bool), 0 ≤ r → r ≤ n → r ≤ h.length → level + n ≤ 50000000 → cnt + n ≤ 50000000 → (r = 0 ∨ (v = ByteArray.empty ∧ b = false)) →
    ∃ (v' : ByteArray) (b' : Bool) (c : Nat), find_Run.l0 h (cnt : Int) (fnd key bits (level : Int) r v b) = some (v', (b', ((c : Int), ()))) ∧ ref21_Run.l0 h key bits r (level : Int) (cnt : Int) v b = some (v', (b', ((c : Int), ()))) := by
  have hlen := ho.len
  intro n
  induction n with
  | zero =>
    intro r level cnt v b h0 h1 h2 h3 h4 h5
    have : r = 0 := by omega
    subst this
    refine ⟨v, b, cnt, ?_, ?_⟩
    · rw [find_Run.l0.eq, find_Find_Want.eq, bnd_some]
      show br (notB (eqI 0 0)) _ (bnd (find_Find_Answer (fnd key bits (level : Int) 0 v b)) _) = _
      rw [eqI_d, decide_eq_true rfl, show notB true = false from rfl, br_f, find_Find_Answer.eq]
      show bnd (br (notB (eqI 0 0)) _ _) _ = _
      rw [eqI_d, decide_eq_true rfl, show notB true = false from rfl, br_f, bnd_some]
      rfl
    · rw [ref21_Run.l0.eq]
      rfl
  | succ n ih =>
    intro r level cnt v b h0 h1 h2 h3 h4 h5
    by_cases e : r = 0
    · subst e
      exact ih 0 level cnt v b (by omega) (by omega) (by omega) (by omega) (by omega) (.inl rfl)
    obtain ⟨rfl, rfl⟩ := h5.resolve_left e
    have hr1 : 1 ≤ r := by omega
    have o := ho.node _ (getN_mem h r hr1 h2)
    have hmn := (may_node hm hr1 h2).1
    obtain ⟨r', lv, v', b', f1, f2, f3, f4, f5⟩ := feed_any o hmn key hk bits level (by omega) r e
    have hr' : 0 ≤ r' ∧ r' ≤ n ∧ r' ≤ h.length := by
      rcases f5 with rfl | ⟨hr', _⟩
      · omega
      · have := refs_may hm hr1 h2 hr'
        omega
    obtain ⟨v2, b2, c, g1, g2⟩ := ih r' lv (cnt + 1) v' b' hr'.1 hr'.2.1 hr'.2.2 (by omega) (by omega) (f5.imp id fun h => h.2)
    refine ⟨v2, b2, c, ?_, ?_⟩
    · rw [find_Run.l0.eq, find_Find_Want.eq, bnd_some]
      show br (notB (eqI r 0)) (bnd (find_Find_Want (fnd key bits (level : Int) r ByteArray.empty false)) _) _ = _
      rw [eqI_d, decide_eq_false e, show notB false = true from rfl, br_t, find_Find_Want.eq, bnd_some]
      show br (andB (leI 0 (subI .i64 r 1)) (ltI (subI .i64 r 1) (ofN (lenL tapiNode h)))) (bnd (find_Find_Feed (ixL tapiNode h (subI .i64 r 1)) (fnd key bits (level : Int) r ByteArray.empty false)) _) none = _
      rw [inG h r hr1 h2 (by omega), br_t, ixG h r hr1 h2 (by omega), f4, bnd_some, add1 cnt (by omega)]
      exact g1
    · rw [ref21_Run.l0.eq, eqI_d, decide_eq_false e, show notB false = true from rfl, br_t, inG h r hr1 h2 (by omega), br_t, ixG h r hr1 h2 (by omega), f1, bnd_some, f2, bnd_some, add1 cnt (by omega)]
      exact g2
/-- A search, and the document's. -/
theorem run_any (h : List NodeV) (ho : okH h) (r : Int) (key : ByteArray) (hk : key.size ≤ 40) (bits : Int) : ∃ x, find_Run h r key bits = some x ∧ ref21_Run h r key bits = some x := by
  have hlen := ho.len
  rw [find_Run.eq, ref21_Run.eq, hcount_any h ho, bnd_some, fits_any h ho, bnd_some]
  by_cases hf : fitH h r = true
  · obtain ⟨⟨a, b⟩, hm⟩ := fitH_iff.1 hf
    obtain ⟨v, b', c, h1, h2⟩ := find_way ho hm key hk bits r.toNat r 0 0 ByteArray.empty false a (by omega) b (by omega) (by omega) (.inr ⟨rfl, rfl⟩)
    rw [if_pos hf, hf, find_New.eq, hashof_any key bits (by omega), bnd_some]
    exact ⟨_, h1, h2⟩
  · have hf : fitH h r = false := by simpa using hf
    rw [hf, if_neg (by simp)]
    exact ⟨_, rfl, rfl⟩
end Go.Proofs.Ytmopkbmcilolgaa.AC
set_option linter.unusedVariables false
set_option linter.unusedSimpArgs false
namespace Go.Proofs.Ytmopkbmcilolgaa.AC
open Go.Abs
theorem leafX_heap : okH [leafX] ∧ mayH [leafX] = true := by
  obtain ⟨o1, m1, r1, g1⟩ := leafX_ok
  refine ⟨⟨by show 1 ≤ 40000000; omega, fun n hn => by rw [List.mem_singleton.1 hn]; exact o1, fun n hn => by rw [List.mem_singleton.1 hn]; exact g1⟩, ?_⟩
  unfold mayH mayHL mayHL
  rw [m1, r1]
  rfl
theorem leafX_run (key : ByteArray) (hk : key.size ≤ 40) : find_Run [leafX] 1 key 64 = some (if ByteArray.mk #[97] = key then (ByteArray.mk #[49], (true, ((1 : Int), ()))) else (ByteArray.empty, (false, ((1 : Int), ())))) := by
  obtain ⟨hh, hm⟩ := leafX_heap
  obtain ⟨x, h1, h2⟩ := run_any [leafX] hh 1 key hk 64
  rw [h1, ← h2]
  have hf : fitH [leafX] 1 = true := fitH_iff.2 ⟨⟨by omega, by show (1 : Int) ≤ 1; omega⟩, hm⟩
  have e0 : getN [leafX] 1 = leafX := rfl
  have hb : ref21_Bound leafX key = some (if ByteArray.mk #[97] = key then (ByteArray.mk #[49], (true, ())) else (ByteArray.empty, (false, ()))) := by
    rw [ref21_Bound.eq]
    simp only [eqI_d, eqS_d, br_if]
    show (if (1 : Int) = 3 then _ else if (1 : Int) = 1 then (if ByteArray.mk #[97] = key then some (ByteArray.mk #[49], (true, ())) else some (ByteArray.empty, (false, ()))) else _) = _
    rw [if_neg (by omega), if_pos rfl]
    split <;> rfl
  have hn : ref21_next leafX key 0 64 = some ((0 : Int), ((0 : Int), ())) := by
    rw [ref21_next.eq]
    simp only [eqI_d, br_if]
    show (if (1 : Int) = 5 then _ else if (1 : Int) = 2 then _ else _) = _
    rw [if_neg (by omega), if_neg (by omega)]
  rw [ref21_Run.eq, fits_any _ hh, bnd_some, hf, show notB true = false from rfl, br_f, ref21_Run.l0.eq, eqI_d, show notB (decide ((1 : Int) = 0)) = true from rfl, br_t, inG [leafX] 1 (by omega) (by show (1 : Int) ≤ 1; omega) (by show 1 ≤ _; omega), br_t, ixG [leafX] 1 (by omega) (by show (1 : Int) ≤ 1; omega) (by show 1 ≤ _; omega), e0, hb, bnd_some, hn, bnd_some, ref21_Run.l0.eq]
  show br (notB (eqI 0 0)) _ _ = _
  rw [eqI_d, decide_eq_true rfl, show notB true = false from rfl, br_f]
  split <;> rfl
theorem works21 : law21_works = some true := by
  have l1 : node_Leaf (ByteArray.mk #[97]) (ByteArray.mk #[49]) = some leafX := node_Leaf.eq _ _
  rw [law21_works.eq, l1, bnd_some, leafX_run _ (by decide), bnd_some, leafX_run _ (by decide), bnd_some, if_pos rfl, if_neg (by decide), eqS_d, decide_eq_true rfl, br_t]
  rfl
end Go.Proofs.Ytmopkbmcilolgaa.AC
set_option linter.unusedVariables false
set_option linter.unusedSimpArgs false
namespace Go.Proofs.Ytmopkbmcilolgaa.AC
open Go.Abs
theorem srt_isS : ∀ {l : List PairV}, Srt l → isS l = true
  | [], _ => rfl
  | [_], _ => rfl
  | a :: b :: r, h => by
    have h1 := (List.pairwise_cons.1 h).1 b List.mem_cons_self
    have h2 := srt_isS (List.pairwise_cons.1 h).2
    show (lt a.1 b.1 && isS (b :: r)) = true
    rw [h1, h2]; rfl
theorem foldl_putS_srt : ∀ (l acc : List PairV), Srt acc → Srt (l.foldl putS acc)
  | [], _, h => h
  | p :: l, acc, h => foldl_putS_srt l (putS acc p) (putS_srt p h)
theorem makeS_Srt (l : List PairV) : Srt (makeS l) := foldl_putS_srt l [] List.Pairwise.nil
theorem foldl_putS_mem : ∀ (l acc : List PairV), ∀ x ∈ l.foldl putS acc, x ∈ acc ∨ x ∈ l
  | [], _, x, h => .inl h
  | p :: l, acc, x, h => by
    rcases foldl_putS_mem l (putS acc p) x h with h | h
    · rcases putS_mem h with rfl | h
      · exact .inr List.mem_cons_self
      · exact .inl h
    · exact .inr (List.mem_cons_of_mem _ h)
theorem makeS_mem {l : List PairV} {x : PairV} (h : x ∈ makeS l) : x ∈ l := (foldl_putS_mem l [] x h).resolve_left (by simp)
def pairAt (l : List PairV) (i : Nat) : PairV := l.getD i (ByteArray.empty, (ByteArray.empty, ()))
theorem pairAt_get (l : List PairV) (i : Nat) (h : i < l.length) : pairAt l i = l[i] := by
  unfold pairAt
  rw [List.getD_eq_getElem?_getD, List.getElem?_eq_getElem h]; rfl
theorem split_at (l : List PairV) (i : Nat) (h : i < l.length) : l.take i ++ [pairAt l i] ++ l.drop (i + 1) = l := by
  rw [pairAt_get l i h, List.append_assoc]
  conv => rhs; rw [← List.take_append_drop i l, List.drop_eq_getElem_cons h]
  rfl
theorem pairAt_mem (l : List PairV) (i : Nat) (h : i < l.length) : pairAt l i ∈ l := by rw [pairAt_get l i h]; exact List.getElem_mem h
/-! ### Heaps that go on -/
theorem mayHL_app : ∀ (a b : List NodeV) (i : Nat), mayHL i (a ++ b) = (mayHL i a && mayHL (i + a.length) b)
  | [], b, i => by rw [List.nil_append]; show _ = (true && mayHL i b); rw [Bool.true_and]
  | n :: a, b, i => by
    rw [List.cons_append, mayHL, mayHL, mayHL_app a b (i + 1), List.length_cons, show i + 1 + a.length = i + (a.length + 1) by omega, ← Bool.and_assoc]
theorem mayH_left {a b : List NodeV} (h : mayH (a ++ b) = true) : mayH a = true := by
  unfold mayH at *
  rw [mayHL_app, Bool.and_eq_true] at h
  exact h.1
theorem getN_app (a b : List NodeV) (r : Int) (h1 : 1 ≤ r) (h2 : r ≤ a.length) : getN (a ++ b) r = getN a r := by
  unfold getN
  rw [List.getD_eq_getElem?_getD, List.getD_eq_getElem?_getD, List.getElem?_append_left (by omega)]
theorem getN_last (a : List NodeV) (n : NodeV) : getN (a ++ [n]) ((a.length : Int) + 1) = n := by
  unfold getN
  rw [show ((a.length : Int) + 1 - 1).toNat = a.length by omega, List.getD_eq_getElem?_getD, List.getElem?_append_right (by omega), Nat.sub_self]
  rfl
theorem unf_app {a b : List NodeV} (hm : mayH a = true) : ∀ (k : Nat) (r : Int), 0 ≤ r → r ≤ a.length → unf (a ++ b) k r = unf a k r
  | 0, r, _, _ => rfl
  | k + 1, r, h0, h1 => by
    unfold unf
    by_cases e : r = 0
    · rw [if_pos e, if_pos e]
    · rw [if_neg e, if_neg e, getN_app a b r (by omega) h1]
      congr 1
      refine List.map_congr_left fun x hx => ?_
      have := (may_node hm (by omega) h1).2 x hx
      exact unf_app hm k x (by omega) (by omega)
theorem U_app {a b : List NodeV} (hm : mayH a = true) {r : Int} (h0 : 0 ≤ r) (h1 : r ≤ a.length) : U (a ++ b) r = U a r := unf_app hm _ r h0 h1
def okT (p : PairV) : Prop := p.1.size ≤ 16 ∧ p.2.1.size ≤ 16
theorem okT.ok {p : PairV} (h : okT p) : okP p := ⟨by have := h.1; omega, by have := h.2; omega⟩
end Go.Proofs.Ytmopkbmcilolgaa.AC
set_option linter.unusedVariables false
set_option linter.unusedSimpArgs false
namespace Go.Proofs.Ytmopkbmcilolgaa.AC
open Go.Abs
/-! ### Bindings by their chunks -/
noncomputable def ck (bits : Int) (level : Nat) (k : ByteArray) : Nat := chunkS (hashS k bits) level bits
theorem ck_lt (bits : Int) (level : Nat) (k : ByteArray) : ck bits level k < 32 := by
  unfold ck chunkS
  split
  · exact Nat.mod_lt _ (by decide)
  · decide
noncomputable def part (bits : Int) (level : Nat) (l : List PairV) (i : Nat) : List PairV := l.filter fun p => decide (ck bits level p.1 = i)
noncomputable def usedC (bits : Int) (level : Nat) (l : List PairV) : List Nat := (List.range 32).filter fun i => !(part bits level l i).isEmpty
noncomputable def maskC (bits : Int) (level : Nat) (l : List PairV) : Nat := makeL ((usedC bits level l).map fun i : Nat => (i : Int)) 32
theorem usedC_mem {bits : Int} {level : Nat} {l : List PairV} {i : Nat} : i ∈ usedC bits level l ↔ i < 32 ∧ part bits level l i ≠ [] := by
  unfold usedC
  rw [List.mem_filter, List.mem_range]
  cases part bits level l i <;> simp
theorem maskC_bit (bits : Int) (level : Nat) (l : List PairV) (j : Nat) : (maskC bits level l).testBit j = true ↔ j ∈ usedC bits level l := by
  unfold maskC
  rw [makeL_bit, Bool.and_eq_true, decide_eq_true_eq, decide_eq_true_eq, List.mem_map]
  constructor
  · rintro ⟨_, a, ha, e⟩
    have : a = j := by omega
    exact this ▸ ha
  · intro h
    exact ⟨(usedC_mem.1 h).1, j, h, rfl⟩
theorem maskC_lt (bits : Int) (level : Nat) (l : List PairV) : maskC bits level l < 4294967296 := makeL_lt _ 32
theorem allL_maskC (bits : Int) (level : Nat) (l : List PairV) : allL (maskC bits level l) = usedC bits level l := by
  unfold allL
  rw [usedC]
  refine List.filter_congr fun j hj => ?_
  rw [Bool.eq_iff_iff, maskC_bit, usedC_mem]
  have := List.mem_range.1 hj
  cases part bits level l j <;> simp <;> omega
theorem part_sub {bits : Int} {level : Nat} {l : List PairV} {i : Nat} {p : PairV} (h : p ∈ part bits level l i) : p ∈ l := (List.mem_filter.1 h).1
theorem part_srt {bits : Int} {level : Nat} {l : List PairV} (h : Srt l) (i : Nat) : Srt (part bits level l i) := List.Pairwise.filter _ h
theorem part_len (bits : Int) (level : Nat) (l : List PairV) (i : Nat) : (part bits level l i).length ≤ l.length := List.length_filter_le _ _
theorem part_find (bits : Int) (level : Nat) (l : List PairV) (k : ByteArray) : (part bits level l (ck bits level k)).find? (fun q => decide (q.1 = k)) = l.find? (fun q => decide (q.1 = k)) := by
  unfold part
  rw [List.find?_filter]
  congr 1
  funext q
  by_cases h : q.1 = k
  · subst h; simp
  · simp [h]
theorem filter_split (p : PairV → Bool) : ∀ l : List PairV, (l.filter p ++ l.filter (fun x => !p x)).Perm l
  | [] => List.Perm.refl _
  | a :: l => by
    by_cases h : p a = true
    · rw [List.filter_cons_of_pos h, List.filter_cons_of_neg (by simp [h]), List.cons_append]
      exact (filter_split p l).cons a
    · rw [List.filter_cons_of_neg h, List.filter_cons_of_pos (by simp [h])]
      exact List.perm_middle.trans ((filter_split p l).cons a)
theorem parts_upto (f : PairV → Nat) (l : List PairV) : ∀ n : Nat, (((List.range n).map fun i => l.filter fun p => decide (f p = i)).flatten).Perm (l.filter fun p => decide (f p < n))
  | 0 => by
    rw [List.filter_eq_nil_iff.2 (fun a _ => by simp)]
    exact List.Perm.refl _
  | n + 1 => by
    rw [List.range_succ, List.map_append, List.flatten_append, List.map_cons, List.map_nil, List.flatten_cons, List.flatten_nil, List.append_nil]
    refine ((parts_upto f l n).append_right _).trans ?_
    have h := filter_split (fun p => decide (f p < n)) (l.filter fun p => decide (f p < n + 1))
    rw [List.filter_filter, List.filter_filter] at h
    have e1 : (l.filter fun p => (decide (f p < n) && decide (f p < n + 1))) = l.filter fun p => decide (f p < n) := List.filter_congr fun p _ => by
      rw [← Bool.decide_and]; exact decide_eq_decide.2 (by omega)
    have e2 : (l.filter fun p => (!decide (f p < n) && decide (f p < n + 1))) = l.filter fun p => decide (f p = n) := List.filter_congr fun p _ => by
      rw [← decide_not, ← Bool.decide_and]; exact decide_eq_decide.2 (by omega)
    rw [e1, e2] at h
    exact h
theorem flat_used {A : Type} (f : Nat → List A) (q : Nat → Bool) (hq : ∀ i, q i = false → f i = []) : ∀ l : List Nat, ((l.filter q).map f).flatten = (l.map f).flatten
  | [] => rfl
  | a :: l => by
    by_cases h : q a = true
    · rw [List.filter_cons_of_pos h, List.map_cons, List.map_cons, List.flatten_cons, List.flatten_cons, flat_used f q hq l]
    · rw [List.filter_cons_of_neg h, List.map_cons, List.flatten_cons, hq a (by simpa using h), List.nil_append, flat_used f q hq l]
theorem parts_perm (bits : Int) (level : Nat) (l : List PairV) : (((usedC bits level l).map (part bits level l)).flatten).Perm l := by
  unfold usedC
  rw [flat_used (part bits level l) _ (fun i h => by
    cases hp : part bits level l i with
    | nil => rfl
    | cons a b => rw [hp] at h; cases h)]
  refine (parts_upto (fun p => ck bits level p.1) l 32).trans ?_
  rw [List.filter_eq_self.2 (fun p _ => decide_eq_true (ck_lt bits level p.1))]
theorem parts_sum (bits : Int) (level : Nat) (l : List PairV) : ((usedC bits level l).map fun i => (part bits level l i).length).sum = l.length := by
  rw [← (parts_perm bits level l).length_eq, List.length_flatten, List.map_map]
  rfl
/-! ### Nodes -/
def lfN (p : PairV) : NodeV := (1, (p.1, (p.2.1, (0, ([], (0, ([], (1, (0, ())))))))))
def buckN (l : List PairV) : NodeV := (3, (ByteArray.empty, (ByteArray.empty, (0, ([], (0, (l, ((l.length : Int), (0, ())))))))))
theorem lfN_ok {p : PairV} (hp : okP p) : okN (lfN p) := ⟨hp.1, hp.2, by show (0 : Int) ≤ 0; omega, by show (0 : Int) < 4294967296; omega, by show 0 ≤ _; omega, by show 0 ≤ _; omega, fun q hq => (by cases hq)⟩
theorem lfN_may {p : PairV} (hp : okT p) : mayS (lfN p) = 0 := by
  unfold mayS
  rw [if_neg (by show ¬ (1 : Int) < 1; omega), if_neg (by show ¬ (6 : Int) < 1; omega)]
  have hl : longN (lfN p) = false := by
    show ((decide (16 < p.1.size) || decide (16 < p.2.1.size)) || false) = false
    rw [decide_eq_false (by have := hp.1; omega), decide_eq_false (by have := hp.2; omega)]
    rfl
  rw [hl, if_neg (by simp), if_pos]
  refine ⟨Int.le_refl _, ?_⟩
  rw [if_pos (by show ((1 : Int) = 1 ∨ (1 : Int) = 6); omega)]
  exact ⟨rfl, fun q => (by cases q), fun _ => ⟨rfl, rfl⟩, fun _ => rfl, fun _ => rfl⟩
theorem buckN_ok {l : List PairV} (hl : l.length ≤ 1000000) (hb : ∀ p ∈ l, okP p) : okN (buckN l) := ⟨by show (0 : Nat) ≤ 40; omega, by show (0 : Nat) ≤ 40; omega, by show (0 : Int) ≤ 0; omega, by show (0 : Int) < 4294967296; omega, by show 0 ≤ _; omega, hl, hb⟩
theorem buckN_long {l : List PairV} (hb : ∀ p ∈ l, okT p) : longN (buckN l) = false := by
  show ((decide (16 < ByteArray.empty.size) || decide (16 < ByteArray.empty.size)) || l.any fun p => decide (16 < p.1.size) || decide (16 < p.2.1.size)) = false
  rw [decide_eq_false (by show ¬ 16 < 0; omega), Bool.or_self, Bool.false_or, List.any_eq_false]
  intro p hp
  rw [decide_eq_false (by have := (hb p hp).1; omega), decide_eq_false (by have := (hb p hp).2; omega)]
  simp
theorem buckN_may {l : List PairV} (h2 : 2 ≤ l.length) (hs : Srt l) (hb : ∀ p ∈ l, okT p) : mayS (buckN l) = 0 := by
  unfold mayS
  rw [if_neg (by show ¬ (3 : Int) < 1; omega), if_neg (by show ¬ (6 : Int) < 3; omega), buckN_long hb, if_neg (by simp), if_pos]
  refine ⟨Int.le_refl _, ?_⟩
  rw [if_neg (by show ¬ ((3 : Int) = 1 ∨ (3 : Int) = 6); omega), if_neg (by show ¬ (3 : Int) = 2; omega), if_pos (by show (3 : Int) = 3; rfl)]
  exact ⟨h2, srt_isS hs, rfl, fun _ => ⟨rfl, rfl⟩, fun _ => ⟨rfl, rfl⟩, fun _ => rfl, fun q => (by cases q)⟩
/-! ### The nodes of a trie, and its shape -/
def walkN (rec : List NodeV → Nat → List NodeV × Int) : List NodeV → List Nat → List NodeV × List Int
  | h, [] => (h, [])
  | h, i :: is => ((walkN rec (rec h i).1 is).1, (rec h i).2 :: (walkN rec (rec h i).1 is).2)
noncomputable def trieN (bits : Int) : Nat → List NodeV → List PairV → List NodeV × Int
  | f, h, l => if l = [] then (h, 0) else if l.length = 1 then (h ++ [lfN (pairAt l 0)], (h.length : Int) + 1) else match f with
    | 0 => (h ++ [buckN l], (h.length : Int) + 1)
    | f + 1 => ((walkN (fun g i => trieN bits f g (part bits (lev bits - (f + 1)) l i)) h (usedC bits (lev bits - (f + 1)) l)).1 ++ [bN (maskC bits (lev bits - (f + 1)) l) (walkN (fun g i => trieN bits f g (part bits (lev bits - (f + 1)) l i)) h (usedC bits (lev bits - (f + 1)) l)).2 l.length 0],
      ((walkN (fun g i => trieN bits f g (part bits (lev bits - (f + 1)) l i)) h (usedC bits (lev bits - (f + 1)) l)).1.length : Int) + 1)
noncomputable def trieT (bits : Int) : Nat → List PairV → Shp
  | f, l => if l = [] then .nil else if l.length = 1 then .node (stripV (lfN (pairAt l 0))) [.nil] else match f with
    | 0 => .node (stripV (buckN l)) [.nil]
    | f + 1 => .node (stripV (bN (maskC bits (lev bits - (f + 1)) l) [] l.length 0)) ((usedC bits (lev bits - (f + 1)) l).map (fun i => trieT bits f (part bits (lev bits - (f + 1)) l i)) ++ [.nil])
theorem trieN_nil (bits : Int) (f : Nat) (h : List NodeV) : trieN bits f h [] = (h, 0) := by unfold trieN; rw [if_pos rfl]
theorem trieN_one (bits : Int) (f : Nat) (h : List NodeV) (p : PairV) : trieN bits f h [p] = (h ++ [lfN p], (h.length : Int) + 1) := by
  unfold trieN; rw [if_neg (by simp), if_pos (show [p].length = 1 from rfl)]; rfl
theorem trieN_buck (bits : Int) (h : List NodeV) {l : List PairV} (hl : 2 ≤ l.length) : trieN bits 0 h l = (h ++ [buckN l], (h.length : Int) + 1) := by
  unfold trieN; rw [if_neg (by rintro rfl; cases hl), if_neg (by omega)]
theorem trieN_br (bits : Int) (f : Nat) (h : List NodeV) {l : List PairV} (hl : 2 ≤ l.length) : trieN bits (f + 1) h l = ((walkN (fun g i => trieN bits f g (part bits (lev bits - (f + 1)) l i)) h (usedC bits (lev bits - (f + 1)) l)).1 ++ [bN (maskC bits (lev bits - (f + 1)) l) (walkN (fun g i => trieN bits f g (part bits (lev bits - (f + 1)) l i)) h (usedC bits (lev bits - (f + 1)) l)).2 l.length 0],
      ((walkN (fun g i => trieN bits f g (part bits (lev bits - (f + 1)) l i)) h (usedC bits (lev bits - (f + 1)) l)).1.length : Int) + 1) := by
  rw [trieN, if_neg (by rintro rfl; cases hl), if_neg (by omega)]
theorem trieT_nil (bits : Int) (f : Nat) : trieT bits f [] = .nil := by unfold trieT; rw [if_pos rfl]
theorem trieT_one (bits : Int) (f : Nat) (p : PairV) : trieT bits f [p] = .node (stripV (lfN p)) [.nil] := by
  unfold trieT; rw [if_neg (by simp), if_pos (show [p].length = 1 from rfl)]; rfl
theorem trieT_buck (bits : Int) {l : List PairV} (hl : 2 ≤ l.length) : trieT bits 0 l = .node (stripV (buckN l)) [.nil] := by
  unfold trieT; rw [if_neg (by rintro rfl; cases hl), if_neg (by omega)]
theorem trieT_br (bits : Int) (f : Nat) {l : List PairV} (hl : 2 ≤ l.length) : trieT bits (f + 1) l = .node (stripV (bN (maskC bits (lev bits - (f + 1)) l) [] l.length 0)) ((usedC bits (lev bits - (f + 1)) l).map (fun i => trieT bits f (part bits (lev bits - (f + 1)) l i)) ++ [.nil]) := by
  rw [trieT, if_neg (by rintro rfl; cases hl), if_neg (by omega)]
theorem len_cases (l : List PairV) : l = [] ∨ (∃ p, l = [p]) ∨ 2 ≤ l.length := by
  match l with
  | [] => exact .inl rfl
  | [p] => exact .inr (.inl ⟨p, rfl⟩)
  | a :: b :: r => exact .inr (.inr (by simp))
theorem trieT_ne (bits : Int) (f : Nat) {l : List PairV} (h : l ≠ []) : trieT bits f l ≠ .nil := by
  rcases len_cases l with rfl | ⟨p, rfl⟩ | hl
  · exact absurd rfl h
  · rw [trieT_one]; intro e; cases e
  · cases f with
    | zero => rw [trieT_buck bits hl]; intro e; cases e
    | succ f => rw [trieT_br bits f hl]; intro e; cases e
/-- What the nodes of a trie are. -/
structure TrieOK (bits : Int) (f : Nat) (h : List NodeV) (l : List PairV) (g : List NodeV) (r : Int) : Prop where
  pre : ∃ new : List NodeV, g = h ++ new ∧ new.length ≤ l.length * (f + 1) ∧ ∀ n ∈ new, okN n
  may : mayH g = true
  r0 : 0 ≤ r
  r1 : r ≤ g.length
  shp : U g r = trieT bits f l
theorem may_more {h : List NodeV} {n : NodeV} (hm : mayH h = true) (hn : mayS n = 0) (hr : ∀ r ∈ refsS n, 1 ≤ r ∧ r ≤ h.length) : mayH (h ++ [n]) = true := by
  unfold mayH
  rw [mayHL_app, Bool.and_eq_true]
  refine ⟨hm, mayHL_of _ _ fun j hj => ?_⟩
  have : j = 0 := by simpa using hj
  subst this
  refine ⟨hn, fun r hr' => ?_⟩
  have := hr r hr'
  exact ⟨this.1, by omega⟩
theorem one_more (bits : Int) (f : Nat) {h : List NodeV} {n : NodeV} {l : List PairV} (hm : mayH h = true) (ho : okN n) (hn : mayS n = 0) (hk : allK n = [0]) (hl : 1 ≤ l.length) (hs : trieT bits f l = .node (stripV n) [.nil]) : TrieOK bits f h l (h ++ [n]) ((h.length : Int) + 1) := by
  have hmay := may_more hm hn (fun r hr => by rw [refsS_all, hk] at hr; cases hr)
  refine ⟨⟨[n], rfl, ?_, fun m hm' => by rw [List.mem_singleton.1 hm']; exact ho⟩, hmay, by omega, by rw [List.length_append]; simp only [List.length_cons, List.length_nil]; omega, ?_⟩
  · show 1 ≤ _
    exact Nat.le_trans hl (Nat.le_mul_of_pos_right _ (by omega))
  · rw [U_node hmay (by omega) (by rw [List.length_append]; simp only [List.length_cons, List.length_nil]; omega), getN_last, hk, hs]
    show Shp.node _ [U _ 0] = _
    rw [U_zero]
theorem mul_up (a b f : Nat) : (a + b) * (f + 1) = a * (f + 1) + b * (f + 1) := Nat.add_mul _ _ _
theorem walkN_ok (bits : Int) (f : Nat) (rec : List NodeV → Nat → List NodeV × Int) (q : Nat → List PairV) (hrec : ∀ g i, mayH g = true → q i ≠ [] → (∀ p ∈ q i, okT p) → TrieOK bits f g (q i) (rec g i).1 (rec g i).2) : ∀ (is : List Nat) (h : List NodeV), mayH h = true → (∀ i ∈ is, q i ≠ [] ∧ ∀ p ∈ q i, okT p) →
    ∃ new, (walkN rec h is).1 = h ++ new ∧ new.length ≤ (is.map fun i => (q i).length).sum * (f + 1) ∧ (∀ n ∈ new, okN n) ∧ mayH (walkN rec h is).1 = true ∧ (∀ k ∈ (walkN rec h is).2, 1 ≤ k ∧ k ≤ (walkN rec h is).1.length) ∧ (walkN rec h is).2.map (U (walkN rec h is).1) = is.map (fun i => trieT bits f (q i))
  | [], h, hm, _ => ⟨[], by simp [walkN], by simp, by simp, hm, by simp [walkN], rfl⟩
  | i :: is, h, hm, hq => by
    obtain ⟨hi, hp⟩ := hq i List.mem_cons_self
    have a := hrec h i hm hi hp
    obtain ⟨na, ea, la, oa⟩ := a.pre
    obtain ⟨nb, eb, lb, ob, mb, kb, sb⟩ := walkN_ok bits f rec q hrec is (rec h i).1 a.may (fun j hj => hq j (List.mem_cons_of_mem _ hj))
    unfold walkN
    dsimp only
    generalize hA : rec h i = A at a ea eb mb kb sb ⊢
    generalize hB : walkN rec A.1 is = B at eb mb kb sb ⊢
    have hlen : A.1.length ≤ B.1.length := by rw [eb, List.length_append]; omega
    have hr0 := a.r0
    have hr1 := a.r1
    have hne : A.2 ≠ 0 := by
      intro e
      have := a.shp
      rw [e, U_zero] at this
      exact trieT_ne bits f hi this.symm
    have hU : U B.1 A.2 = trieT bits f (q i) := by
      rw [eb, U_app a.may hr0 hr1]
      exact a.shp
    refine ⟨na ++ nb, by rw [eb, ea, List.append_assoc], ?_, ?_, mb, ?_, ?_⟩
    · rw [List.length_append, List.map_cons, List.sum_cons, mul_up]; omega
    · intro n hn
      rcases List.mem_append.1 hn with hn | hn
      · exact oa n hn
      · exact ob n hn
    · intro k hk
      rcases List.mem_cons.1 hk with rfl | hk
      · exact ⟨by omega, by omega⟩
      · exact kb k hk
    · rw [List.map_cons, List.map_cons, sb, hU]
theorem allK_b (m : Nat) (ks : List Int) (sz bi : Int) : allK (bN m ks sz bi) = ks ++ [0] := rfl
theorem trieN_ok (bits : Int) : ∀ (f : Nat) (h : List NodeV) (l : List PairV), mayH h = true → (∀ p ∈ l, okT p) → Srt l → l.length ≤ 1000000 → TrieOK bits f h l (trieN bits f h l).1 (trieN bits f h l).2 := by
  intro f
  induction f with
  | zero =>
    intro h l hm hb hs hl
    rcases len_cases l with rfl | ⟨p, rfl⟩ | h2
    · rw [trieN_nil]
      exact ⟨⟨[], by simp, by simp, by simp⟩, hm, Int.le_refl _, by show (0 : Int) ≤ _; omega, by rw [U_zero, trieT_nil]⟩
    · rw [trieN_one]
      exact one_more bits 0 hm (lfN_ok (hb p List.mem_cons_self).ok) (lfN_may (hb p List.mem_cons_self)) rfl (Nat.le_refl _) (trieT_one bits 0 p)
    · rw [trieN_buck bits h h2]
      exact one_more bits 0 hm (buckN_ok hl fun p hp => (hb p hp).ok) (buckN_may h2 hs hb) rfl (by omega) (trieT_buck bits h2)
  | succ f ih =>
    intro h l hm hb hs hl
    rcases len_cases l with rfl | ⟨p, rfl⟩ | h2
    · rw [trieN_nil]
      exact ⟨⟨[], by simp, by simp, by simp⟩, hm, Int.le_refl _, by show (0 : Int) ≤ _; omega, by rw [U_zero, trieT_nil]⟩
    · rw [trieN_one]
      exact one_more bits (f + 1) hm (lfN_ok (hb p List.mem_cons_self).ok) (lfN_may (hb p List.mem_cons_self)) rfl (Nat.le_refl _) (trieT_one bits _ p)
    · rw [trieN_br bits f h h2]
      generalize hlv : lev bits - (f + 1) = level
      obtain ⟨new, e, ln, on, mn, kn, sn⟩ := walkN_ok bits f (fun g i => trieN bits f g (part bits level l i)) (part bits level l) (fun g i hg hi hp => ih g (part bits level l i) hg hp (part_srt hs i) (by have := part_len bits level l i; omega)) (usedC bits level l) h hm (fun i hi => ⟨(usedC_mem.1 hi).2, fun p hp => hb p (part_sub hp)⟩)
      rw [parts_sum] at ln
      generalize walkN (fun g i => trieN bits f g (part bits level l i)) h (usedC bits level l) = W at e mn kn sn ⊢
      have hW : W.2.length = cnt 32 (maskC bits level l) := by
        have := congrArg List.length sn
        rw [List.length_map, List.length_map] at this
        rw [this, cnt_all, allL_maskC]
      have hB : okB (maskC bits level l) W.2 (l.length : Int) 0 := ⟨maskC_lt _ _ _, hW, fun k hk => by have := kn k hk; omega, by omega, Int.le_refl _⟩
      have hmay := may_more mn hB.may (fun r hr => by
        rw [refsS_all, allK_b] at hr
        obtain ⟨hr1, hr2⟩ := List.mem_filter.1 hr
        rcases List.mem_append.1 hr1 with hr1 | hr1
        · exact kn r hr1
        · rw [List.mem_singleton] at hr1; subst hr1; simp at hr2)
      refine ⟨⟨new ++ [bN (maskC bits level l) W.2 l.length 0], by rw [e, List.append_assoc], ?_, ?_⟩, hmay, by omega, by rw [List.length_append]; simp only [List.length_cons, List.length_nil]; omega, ?_⟩
      · rw [List.length_append]
        simp only [List.length_cons, List.length_nil]
        have : l.length * (f + 1 + 1) = l.length * (f + 1) + l.length := Nat.mul_succ _ _
        omega
      · intro n hn
        rcases List.mem_append.1 hn with hn | hn
        · exact on n hn
        · rw [List.mem_singleton.1 hn]; exact hB.node
      · rw [U_node hmay (by omega) (by rw [List.length_append]; simp only [List.length_cons, List.length_nil]; omega), getN_last, allK_b, trieT_br bits f h2, hlv, List.map_append]
        have e2 : W.2.map (U (W.1 ++ [bN (maskC bits level l) W.2 l.length 0])) = W.2.map (U W.1) := List.map_congr_left fun k hk => U_app mn (by have := kn k hk; omega) (kn k hk).2
        rw [e2, sn]
        show Shp.node _ (_ ++ [U _ 0]) = _
        rw [U_zero]
        rfl
theorem kids_rng {h : List NodeV} (hm : mayH h = true) (hl : h.length ≤ 50000000) : ∀ n ∈ h, rngN n := by
  intro n hn
  obtain ⟨j, hj, ej⟩ := List.getElem_of_mem hn
  have hk := (may_node hm (r := (j : Int) + 1) (by omega) (by omega)).2
  rw [getN_ix _ j hj, ej] at hk
  refine ⟨fun k hk' => ?_, ?_⟩
  · have := hk k (List.mem_append_left _ hk')
    unfold rng; omega
  · have := hk n.2.2.2.2.2.1 (List.mem_append_right _ List.mem_cons_self)
    unfold rng; omega
end Go.Proofs.Ytmopkbmcilolgaa.AC
set_option linter.unusedVariables false
set_option linter.unusedSimpArgs false
namespace Go.Proofs.Ytmopkbmcilolgaa.AC
open Go.Abs
/-- The kids of a branch that has a trie's shape. -/
theorem trie_branch {h : List NodeV} (ho : okH h) (hm : mayH h = true) {r : Int} (h0 : 0 ≤ r) (h1 : r ≤ h.length) {bits : Int} {f : Nat} {l : List PairV} (h2 : 2 ≤ l.length) (hs : U h r = trieT bits (f + 1) l) :
    1 ≤ r ∧ ∃ ks bi, okB (maskC bits (lev bits - (f + 1)) l) ks l.length bi ∧ getN h r = bN (maskC bits (lev bits - (f + 1)) l) ks l.length bi ∧
      ks.map (U h) = (usedC bits (lev bits - (f + 1)) l).map (fun i => trieT bits f (part bits (lev bits - (f + 1)) l i)) ∧ (∀ k ∈ ks, 1 ≤ k ∧ k ≤ r - 1) ∧
      ∀ j : Nat, j < 32 → U h (chI (maskC bits (lev bits - (f + 1)) l) ks (j : Int)) = trieT bits f (part bits (lev bits - (f + 1)) l j) ∧ 0 ≤ chI (maskC bits (lev bits - (f + 1)) l) ks (j : Int) ∧ chI (maskC bits (lev bits - (f + 1)) l) ks (j : Int) ≤ r - 1 := by
  have hr : 1 ≤ r := by
    rcases Int.lt_or_le 0 r with q | q
    · omega
    · have : r = 0 := by omega
      rw [this, U_zero] at hs
      exact absurd hs.symm (trieT_ne bits (f + 1) (by rintro rfl; cases h2))
  have o := ho.node _ (getN_mem h r hr h1)
  obtain ⟨hmn, hkids⟩ := may_node hm hr h1
  rw [U_node hm hr h1, trieT_br bits f h2] at hs
  generalize lev bits - (f + 1) = level at hs ⊢
  obtain ⟨e1, e2⟩ := Shp.node.inj hs
  have k2 : (getN h r).1 = 2 := congrArg (·.1) e1
  obtain ⟨m, ks, sz, bi, hB, hN⟩ := branch_form o k2 hmn
  rw [hN] at e1 e2 hkids
  rw [hN]
  have em : (m : Int) = (maskC bits level l : Int) := congrArg (·.2.2.2.1) e1
  have em : m = maskC bits level l := by omega
  have es : sz = (l.length : Int) := congrArg (·.2.2.2.2.2.2.2.1) e1
  subst em; subst es
  rw [allK_b, List.map_append] at e2
  have ek : ks.map (U h) = (usedC bits level l).map (fun i => trieT bits f (part bits level l i)) := (List.append_inj' e2 rfl).1
  have hk : ∀ k ∈ ks, 1 ≤ k ∧ k ≤ r - 1 := fun k hk => by
    rcases hkids k (by rw [allK_b]; exact List.mem_append_left _ hk) with q | q
    · exact absurd q (hB.nz k hk)
    · exact q
  refine ⟨hr, ks, bi, hB, rfl, ek, hk, fun j hj => ?_⟩
  unfold chI
  rw [if_pos (by omega), Int.toNat_natCast]
  unfold chAt
  by_cases hb : (maskC bits level l).testBit j = true
  · rw [if_pos hb]
    have hall := kids_of (maskC bits level l) ks 32 (by have := hB.len; omega)
    rw [show ks.take (cnt 32 (maskC bits level l)) = ks from List.take_of_length_le (by have := hB.len; omega)] at hall
    have hju := (maskC_bit bits level l j).1 hb
    have hall2 : (usedC bits level l).map (fun j => ks.getD (cnt j (maskC bits level l)) 0) = ks := by
      rw [← allL_maskC]
      exact hall
    have hc : (usedC bits level l).map (fun j => U h (ks.getD (cnt j (maskC bits level l)) 0)) = (usedC bits level l).map (fun i => trieT bits f (part bits level l i)) := by
      rw [← ek]
      conv => rhs; rw [← hall2]
      rw [List.map_map]
      rfl
    have hc := List.map_inj_left.1 hc j hju
    refine ⟨hc, ?_⟩
    have hl := cnt_less (show j < 32 by omega) hb
    have hlen := hB.len
    rw [List.getD_eq_getElem?_getD, List.getElem?_eq_getElem (show cnt j (maskC bits level l) < ks.length by omega)]
    have := hk _ (List.getElem_mem (show cnt j (maskC bits level l) < ks.length by omega))
    exact ⟨Int.le_trans (show (0 : Int) ≤ 1 by decide) this.1, this.2⟩
  · rw [if_neg hb]
    have : part bits level l j = [] := by
      by_cases q : part bits level l j = []
      · exact q
      · exact absurd ((maskC_bit bits level l j).2 (usedC_mem.2 ⟨hj, q⟩)) hb
    rw [this, trieT_nil, U_zero]
    exact ⟨rfl, Int.le_refl _, by omega⟩
/-- A leaf that has a trie's shape. -/
theorem trie_leaf {h : List NodeV} (hm : mayH h = true) {r : Int} (h0 : 0 ≤ r) (h1 : r ≤ h.length) {bits : Int} {f : Nat} {p : PairV} (hs : U h r = trieT bits f [p]) : 1 ≤ r ∧ stripV (getN h r) = lfN p ∧ allK (getN h r) = [0] := by
  have hr : 1 ≤ r := by
    rcases Int.lt_or_le 0 r with q | q
    · omega
    · have : r = 0 := by omega
      rw [this, U_zero] at hs
      exact absurd hs.symm (trieT_ne bits f (by simp))
  rw [U_node hm hr h1, trieT_one] at hs
  obtain ⟨e1, e2⟩ := Shp.node.inj hs
  refine ⟨hr, e1, ?_⟩
  have hl := congrArg List.length e2
  rw [List.length_map] at hl
  match hq : allK (getN h r), hl with
  | [k], _ =>
    rw [hq] at e2
    have : U h k = .nil := (List.cons.inj e2).1
    have hk := (may_node hm hr h1).2 k (by rw [hq]; exact List.mem_cons_self)
    rw [(U_nil hm (by omega) (by omega)).1 this]
theorem trie_buck {h : List NodeV} (hm : mayH h = true) {r : Int} (h0 : 0 ≤ r) (h1 : r ≤ h.length) {bits : Int} {l : List PairV} (h2 : 2 ≤ l.length) (hs : U h r = trieT bits 0 l) : 1 ≤ r ∧ stripV (getN h r) = buckN l ∧ allK (getN h r) = [0] := by
  have hr : 1 ≤ r := by
    rcases Int.lt_or_le 0 r with q | q
    · omega
    · have : r = 0 := by omega
      rw [this, U_zero] at hs
      exact absurd hs.symm (trieT_ne bits 0 (by rintro rfl; cases h2))
  rw [U_node hm hr h1, trieT_buck bits h2] at hs
  obtain ⟨e1, e2⟩ := Shp.node.inj hs
  refine ⟨hr, e1, ?_⟩
  have hl := congrArg List.length e2
  rw [List.length_map] at hl
  match hq : allK (getN h r), hl with
  | [k], _ =>
    rw [hq] at e2
    have : U h k = .nil := (List.cons.inj e2).1
    have hk := (may_node hm hr h1).2 k (by rw [hq]; exact List.mem_cons_self)
    rw [(U_nil hm (by omega) (by omega)).1 this]
/-- What a search answers, and how many nodes it took. -/
def ansV (o : Option PairV) (c : Nat) : ByteArray × Bool × Int × Unit := ((valF o).1, ((valF o).2.1, ((c : Int), ())))
theorem find_trie {h : List NodeV} (ho : okH h) (hm : mayH h = true) (key : ByteArray) (hk : key.size ≤ 40) (bits : Int) : ∀ (f : Nat) (l : List PairV) (r : Int) (n : Nat), f ≤ lev bits → 0 ≤ r → r ≤ h.length → U h r = trieT bits f l → n + f + 1 ≤ 50000000 →
    ∃ c, n ≤ c ∧ c ≤ n + f + 1 ∧ ref21_Run.l0 h key bits r ((lev bits - f : Nat) : Int) n ByteArray.empty false = some (ansV (l.find? (fun q => decide (q.1 = key))) c) := by
  have hlen := ho.len
  have hlev := lev_le bits
  have stop : ∀ (lv : Int) (v : ByteArray) (b : Bool) (n : Nat), ref21_Run.l0 h key bits 0 lv n v b = some (v, (b, ((n : Int), ()))) := fun lv v b n => by
    rw [ref21_Run.l0.eq]; rfl
  have one : ∀ (f : Nat) (p : PairV) (r : Int) (n : Nat), f ≤ lev bits → 0 ≤ r → r ≤ h.length → U h r = trieT bits f [p] → n + f + 1 ≤ 50000000 →
      ∃ c, n ≤ c ∧ c ≤ n + f + 1 ∧ ref21_Run.l0 h key bits r ((lev bits - f : Nat) : Int) n ByteArray.empty false = some (ansV ([p].find? (fun q => decide (q.1 = key))) c) := by
    intro f p r n hf h0 h1 hs hn
    obtain ⟨hr, e1, e2⟩ := trie_leaf hm h0 h1 hs
    refine ⟨n + 1, by omega, by omega, ?_⟩
    have k1 : (getN h r).1 = 1 := congrArg (·.1) e1
    have k2 : (getN h r).2.1 = p.1 := congrArg (·.2.1) e1
    have k3 : (getN h r).2.2.1 = p.2.1 := congrArg (·.2.2.1) e1
    have hB0 : ref21_Bound (getN h r) key = some (if p.1 = key then (p.2.1, (true, ())) else (ByteArray.empty, (false, ()))) := by
      rw [ref21_Bound.eq]
      simp only [eqI_d, eqS_d, br_if]
      rw [k1, k2, k3, if_neg (show ¬ (1 : Int) = 3 by omega), if_pos (show (1 : Int) = 1 from rfl)]
      by_cases e : p.1 = key
      · rw [if_pos e, if_pos e]
      · rw [if_neg e, if_neg e]
    have hnx : ∀ lv : Int, ref21_next (getN h r) key lv bits = some ((0 : Int), (lv, ())) := fun lv => by
      rw [ref21_next.eq]
      simp only [eqI_d, eqS_d, br_if]
      rw [k1, if_neg (show ¬ (1 : Int) = 5 by omega), if_neg (show ¬ (1 : Int) = 2 by omega)]
    rw [ref21_Run.l0.eq, eqI_d, decide_eq_false (show ¬ r = 0 by omega), show notB false = true from rfl, br_t, inG h r hr h1 (by omega), br_t, ixG h r hr h1 (by omega), hB0, bnd_some, hnx, bnd_some, add1 n (by omega), List.find?_cons]
    by_cases e : p.1 = key
    · rw [if_pos e, decide_eq_true e]
      exact stop _ _ _ (n + 1)
    · rw [if_neg e, decide_eq_false e]
      exact stop _ _ _ (n + 1)
  intro f
  induction f with
  | zero =>
    intro l r n hf h0 h1 hs hn
    rcases len_cases l with rfl | ⟨p, rfl⟩ | h2
    · rw [trieT_nil] at hs
      rw [(U_nil hm h0 h1).1 hs]
      exact ⟨n, by omega, by omega, stop _ _ _ n⟩
    · exact one 0 p r n hf h0 h1 hs hn
    · obtain ⟨hr, e1, e2⟩ := trie_buck hm h0 h1 h2 hs
      refine ⟨n + 1, by omega, by omega, ?_⟩
      have o := ho.node _ (getN_mem h r hr h1)
      obtain ⟨_, _, _, hform⟩ := mayS_zero (may_node hm hr h1).1
      have hlist := o.list
      have k1 : (getN h r).1 = 3 := congrArg (·.1) e1
      have k2 : (getN h r).2.2.2.2.2.2.1 = l := congrArg (·.2.2.2.2.2.2.1) e1
      have hS : isS l = true := by
        unfold formP at hform
        obtain ⟨_, hf⟩ := hform
        rw [if_neg (by omega), if_neg (by omega), if_pos k1, k2] at hf
        exact hf.2.1
      rw [k2] at hlist
      have hB0 : ref21_Bound (getN h r) key = some (valF (l.find? (fun q => decide (q.1 = key)))) := by
        rw [ref21_Bound.eq]
        simp only [eqI_d, eqS_d, br_if]
        rw [k1, k2, if_pos rfl, rget_any _ _ (by omega), makeS_srt (isS_srt hS), bnd_some]
      have hnx : ∀ lv : Int, ref21_next (getN h r) key lv bits = some ((0 : Int), (lv, ())) := fun lv => by
        rw [ref21_next.eq]
        simp only [eqI_d, eqS_d, br_if]
        rw [k1, if_neg (show ¬ (3 : Int) = 5 by omega), if_neg (show ¬ (3 : Int) = 2 by omega)]
      rw [ref21_Run.l0.eq, eqI_d, decide_eq_false (show ¬ r = 0 by omega), show notB false = true from rfl, br_t, inG h r hr h1 (by omega), br_t, ixG h r hr h1 (by omega), hB0, bnd_some, hnx, bnd_some, add1 n (by omega)]
      exact stop _ _ _ (n + 1)
  | succ f ih =>
    intro l r n hf h0 h1 hs hn
    rcases len_cases l with rfl | ⟨p, rfl⟩ | h2
    · rw [trieT_nil] at hs
      rw [(U_nil hm h0 h1).1 hs]
      exact ⟨n, by omega, by omega, stop _ _ _ n⟩
    · exact one (f + 1) p r n hf h0 h1 hs hn
    · obtain ⟨hr, ks, bi, hB, hN, _, _, hch⟩ := trie_branch ho hm h0 h1 h2 hs
      have o := ho.node _ (getN_mem h r hr h1)
      obtain ⟨m', ks', sz', bi', hB', hb', hof, hN'⟩ := branch_spec _ o
      have k1 : (getN h r).1 = 2 := by rw [hN]; rfl
      have eN := hN' ⟨k1, (may_node hm hr h1).1⟩
      rw [hN] at eN
      have em : ((maskC bits (lev bits - (f + 1)) l : Nat) : Int) = (m' : Int) := congrArg (·.2.2.2.1) eN
      have ek : ks = ks' := congrArg (·.2.2.2.2.1) eN
      have em : maskC bits (lev bits - (f + 1)) l = m' := by omega
      subst em; subst ek
      obtain ⟨c1, c2, c3⟩ := hch (ck bits (lev bits - (f + 1)) key) (ck_lt _ _ _)
      obtain ⟨c, d1, d2, d3⟩ := ih (part bits (lev bits - (f + 1)) l (ck bits (lev bits - (f + 1)) key)) _ (n + 1) (by omega) c2 (by omega) c1 (by omega)
      rw [part_find] at d3
      refine ⟨c, by omega, by omega, ?_⟩
      have hlt := hash_lt64 key bits
      have hB0 : ref21_Bound (getN h r) key = some (ByteArray.empty, (false, ())) := by
        rw [ref21_Bound.eq]
        simp only [eqI_d, eqS_d, br_if]
        rw [k1, if_neg (by omega), if_neg (by omega), if_neg (by omega)]
      have hnx : ref21_next (getN h r) key ((lev bits - (f + 1) : Nat) : Int) bits = some (chI (maskC bits (lev bits - (f + 1)) l) ks ((ck bits (lev bits - (f + 1)) key : Nat) : Int), (((lev bits - f : Nat) : Int), ())) := by
        rw [ref21_next.eq]
        simp only [eqI_d, eqS_d, br_if]
        rw [k1, if_neg (by omega), if_pos rfl, hof, bnd_some, refof_any key bits (by omega), bnd_some, refchunk_any _ hlt _ _ (by omega), bnd_some, if_neg (by omega), Int.toNat_natCast, refchild_any, bnd_some, add1 _ (by omega), show lev bits - (f + 1) + 1 = lev bits - f by omega]
        rfl
      rw [ref21_Run.l0.eq, eqI_d, decide_eq_false (show ¬ r = 0 by omega), show notB false = true from rfl, br_t, inG h r hr h1 (by omega), br_t, ixG h r hr h1 (by omega), hB0, bnd_some, hnx, bnd_some, add1 n (by omega)]
      exact d3
end Go.Proofs.Ytmopkbmcilolgaa.AC
set_option linter.unusedVariables false
set_option linter.unusedSimpArgs false
namespace Go.Proofs.Ytmopkbmcilolgaa.AC
open Go.Abs
theorem chunk20_any (k : ByteArray) (hk : k.size ≤ 40) (level : Nat) (hl : level ≤ 50000000) (bits : Int) : ref20_chunk k (level : Int) bits = some ((ck bits level k : Nat) : Int) := by
  rw [ref20_chunk.eq, refof_any k bits (by omega), bnd_some, refchunk_any _ (hash_lt64 k bits) _ _ (by omega), bnd_some, if_neg (by omega), Int.toNat_natCast]
  rfl
theorem part_drop (bits : Int) (level : Nat) (l : List PairV) (i k : Nat) (h : k < l.length) : part bits level (l.drop k) i = if ck bits level l[k].1 = i then l[k] :: part bits level (l.drop (k + 1)) i else part bits level (l.drop (k + 1)) i := by
  unfold part
  rw [List.drop_eq_getElem_cons h]
  by_cases e : ck bits level l[k].1 = i
  · rw [if_pos e, List.filter_cons_of_pos (by simpa using e)]
  · rw [if_neg e, List.filter_cons_of_neg (by simpa using e)]
theorem m1_l1 (bits : Int) (l : List PairV) (hl : l.length ≤ 50000000) (hb : ∀ p ∈ l, okP p) (level : Nat) (hv : level ≤ 50000000) (one : Int) (i : Nat) (h : List NodeV) (x7) (d : Nat) : ∀ (k : Nat) (acc : List PairV), k ≤ l.length → l.length - k = d → acc.length ≤ k →
    ref20_make1.l1 bits l (level : Int) one (i : Int) (k : Int) h x7 acc = ref20_make1.l1 bits l (level : Int) one (i : Int) (l.length : Int) h x7 (acc ++ part bits level (l.drop k) i) := by
  induction d with
  | zero =>
    intro k acc h1 h2 h3
    rw [show k = l.length by omega, List.drop_length]
    show _ = ref20_make1.l1 _ _ _ _ _ _ _ _ (acc ++ [])
    rw [List.append_nil]
  | succ d ih =>
    intro k acc h1 h2 h3
    have hk : k < l.length := by omega
    conv => lhs; rw [ref20_make1.l1.eq]
    simp only [ltI_d, leI_d, ofN_d, lenL_d, andB_d, br_if]
    rw [if_pos (by omega), if_pos (by omega), ixP l k hk, chunk20_any _ (hb _ (List.getElem_mem hk)).1 level hv bits, bnd_some, part_drop bits level l i k hk]
    simp only [eqI_d, fitL_d, appL_d, br_if]
    rw [add1 k (by omega)]
    by_cases e : ck bits level l[k].1 = i
    · rw [if_pos (by omega), if_pos (by omega), if_pos (by rw [List.length_append]; simp only [List.length_cons, List.length_nil]; omega), if_pos e, ih (k + 1) _ (by omega) (by omega) (by rw [List.length_append]; simp only [List.length_cons, List.length_nil]; omega), List.append_assoc]
      rfl
    · rw [if_neg (by omega), if_neg e, ih (k + 1) _ (by omega) (by omega) (by omega)]
theorem m1_l3 (bits : Int) (l : List PairV) (hl : l.length ≤ 50000000) (hb : ∀ p ∈ l, okP p) (level : Nat) (hv : level ≤ 50000000) (one : Int) (i : Nat) (h : List NodeV) (x7) (ks : List Int) (d : Nat) : ∀ (k : Nat) (acc : List PairV), k ≤ l.length → l.length - k = d → acc.length ≤ k →
    ref20_make1.l3 bits l (level : Int) one (i : Int) (k : Int) h x7 acc ks = ref20_make1.l3 bits l (level : Int) one (i : Int) (l.length : Int) h x7 (acc ++ part bits level (l.drop k) i) ks := by
  induction d with
  | zero =>
    intro k acc h1 h2 h3
    rw [show k = l.length by omega, List.drop_length]
    show _ = ref20_make1.l3 _ _ _ _ _ _ _ _ (acc ++ []) _
    rw [List.append_nil]
  | succ d ih =>
    intro k acc h1 h2 h3
    have hk : k < l.length := by omega
    conv => lhs; rw [ref20_make1.l3.eq]
    simp only [ltI_d, leI_d, ofN_d, lenL_d, andB_d, br_if]
    rw [if_pos (by omega), if_pos (by omega), ixP l k hk, chunk20_any _ (hb _ (List.getElem_mem hk)).1 level hv bits, bnd_some, part_drop bits level l i k hk]
    simp only [eqI_d, fitL_d, appL_d, br_if]
    rw [add1 k (by omega)]
    by_cases e : ck bits level l[k].1 = i
    · rw [if_pos (by omega), if_pos (by omega), if_pos (by rw [List.length_append]; simp only [List.length_cons, List.length_nil]; omega), if_pos e, ih (k + 1) _ (by omega) (by omega) (by rw [List.length_append]; simp only [List.length_cons, List.length_nil]; omega), List.append_assoc]
      rfl
    · rw [if_neg (by omega), if_neg e, ih (k + 1) _ (by omega) (by omega) (by omega)]
/-- The chunks from one on that are used. -/
noncomputable def usedFrom (bits : Int) (level : Nat) (l : List PairV) (i : Nat) : List Nat := (List.range' i (32 - i)).filter fun j => !(part bits level l j).isEmpty
theorem usedFrom_0 (bits : Int) (level : Nat) (l : List PairV) : usedFrom bits level l 0 = usedC bits level l := by
  unfold usedFrom usedC
  rw [List.range_eq_range']
theorem usedFrom_end (bits : Int) (level : Nat) (l : List PairV) : usedFrom bits level l 32 = [] := rfl
theorem usedFrom_step (bits : Int) (level : Nat) (l : List PairV) (i : Nat) (h : i < 32) : usedFrom bits level l i = if part bits level l i = [] then usedFrom bits level l (i + 1) else i :: usedFrom bits level l (i + 1) := by
  unfold usedFrom
  rw [show 32 - i = (32 - (i + 1)) + 1 by omega, List.range'_succ]
  cases hp : part bits level l i with
  | nil => rw [if_pos rfl, List.filter_cons_of_neg (by simp [hp])]
  | cons a b => rw [if_neg (by simp), List.filter_cons_of_pos (by simp [hp])]
theorem walkN_cons (rec : List NodeV → Nat → List NodeV × Int) (h : List NodeV) (i : Nat) (is : List Nat) : walkN rec h (i :: is) = ((walkN rec (rec h i).1 is).1, (rec h i).2 :: (walkN rec (rec h i).1 is).2) := rfl
/-- A branch's node, as far as its kids. -/
def brX (m : Nat) (size : Int) : Int × ByteArray × ByteArray × Int × Unit × Int × Unit × Int × Int × Unit := (2, (ByteArray.empty, (ByteArray.empty, ((m : Int), ((), (0, ((), (size, (0, ())))))))))
theorem one_step (j : Nat) (hj : j < 32) : mulI .u32 2 ((2 ^ j % 4294967296 : Nat) : Int) = ((2 ^ (j + 1) % 4294967296 : Nat) : Int) := by
  have hp := pow_lt32 hj
  unfold mulI
  rw [Nat.pow_succ, IntKind.wrap_u32]
  generalize 2 ^ j = q at hp ⊢
  omega
theorem mask_step (u : List Int) (j : Nat) (hj : j < 32) (hu : (j : Int) ∈ u) : addI .u32 (makeL u j : Int) ((2 ^ j % 4294967296 : Nat) : Int) = ((makeL u (j + 1) : Nat) : Int) := by
  have hp := pow_lt32 hj
  have h1 := makeL_lt u j
  have h2 : 2 ^ j * 2 ≤ 4294967296 := by
    have := Nat.pow_le_pow_right (n := 2) (by omega) (show j + 1 ≤ 32 by omega)
    rw [Nat.pow_succ] at this
    exact this
  have h3 : makeL u (j + 1) = makeL u j + 2 ^ j := by
    rw [makeL, if_pos hu]
  rw [h3]
  unfold addI
  rw [IntKind.wrap_u32]
  generalize 2 ^ j = q at hp h1 h2 ⊢
  omega
theorem mask_same (u : List Int) (j : Nat) (hu : (j : Int) ∉ u) : makeL u (j + 1) = makeL u j := by
  rw [makeL, if_neg hu, Nat.add_zero]
/-- What is asked of the heap and the bindings that a trie is made of. -/
structure MkOK (f : Nat) (h : List NodeV) (l : List PairV) : Prop where
  may : mayH h = true
  txt : ∀ p ∈ l, okT p
  srt : Srt l
  len : l.length ≤ 1000000
  fits : h.length + l.length * (f + 1) ≤ 40000000
noncomputable abbrev usedI (bits : Int) (level : Nat) (l : List PairV) : List Int := (usedC bits level l).map fun i : Nat => (i : Int)
theorem usedI_mem {bits : Int} {level : Nat} {l : List PairV} {i : Nat} (hi : i < 32) : (i : Int) ∈ usedI bits level l ↔ part bits level l i ≠ [] := by
  rw [List.mem_map]
  constructor
  · rintro ⟨a, ha, e⟩
    have : a = i := by omega
    exact this ▸ (usedC_mem.1 ha).2
  · intro h
    exact ⟨i, usedC_mem.2 ⟨hi, h⟩, rfl⟩
theorem sum_drop (bits : Int) (level : Nat) (l : List PairV) : ∀ i : Nat, i ≤ 32 → ((usedFrom bits level l i).map fun j => (part bits level l j).length).sum ≤ l.length
  | 0, _ => by rw [usedFrom_0, parts_sum]; exact Nat.le_refl _
  | i + 1, hi => by
    refine Nat.le_trans ?_ (sum_drop bits level l i (by omega))
    rw [usedFrom_step bits level l i (by omega)]
    split
    · exact Nat.le_refl _
    · rw [List.map_cons, List.sum_cons]; omega
theorem brX_add (m m' : Nat) (one : Int) (sz : Int) (h : addI .u32 (m : Int) one = (m' : Int)) : ((brX m sz).1, ((brX m sz).2.1, ((brX m sz).2.2.1, (addI .u32 (brX m sz).2.2.2.1 one, (brX m sz).2.2.2.2)))) = brX m' sz := by
  unfold brX
  dsimp only
  rw [h]
section
variable (bits : Int) (f : Nat) (l : List PairV) (hf : f + 1 ≤ lev bits) (hb : ∀ p ∈ l, okT p) (hS : Srt l) (hl : l.length ≤ 1000000)
  (ih : ∀ (h : List NodeV) (q : List PairV), MkOK f h q → ref20_make1 bits q ((lev bits - f : Nat) : Int) h = some (((), ((trieN bits f h q).2, ())), ((trieN bits f h q).1, ())))
include hf hb hS hl ih
theorem m1_l2 (d : Nat) : ∀ (i : Nat) (h : List NodeV) (ks : List Int), i ≤ 32 → 32 - i = d → ks.length ≤ i → mayH h = true → h.length + ((usedFrom bits (lev bits - (f + 1)) l i).map fun j => (part bits (lev bits - (f + 1)) l j).length).sum * (f + 1) + 1 ≤ 40000000 →
    ref20_make1.l2 bits l ((lev bits - (f + 1) : Nat) : Int) ((2 ^ i % 4294967296 : Nat) : Int) (i : Int) h (brX (makeL (usedI bits (lev bits - (f + 1)) l) i) l.length) ks =
      some (((), (((walkN (fun g i => trieN bits f g (part bits (lev bits - (f + 1)) l i)) h (usedFrom bits (lev bits - (f + 1)) l i)).1.length : Int) + 1, ())), ((walkN (fun g i => trieN bits f g (part bits (lev bits - (f + 1)) l i)) h (usedFrom bits (lev bits - (f + 1)) l i)).1 ++ [bN (maskC bits (lev bits - (f + 1)) l) (ks ++ (walkN (fun g i => trieN bits f g (part bits (lev bits - (f + 1)) l i)) h (usedFrom bits (lev bits - (f + 1)) l i)).2) l.length 0], ())) := by
  have hlev := lev_le bits
  induction d with
  | zero =>
    intro i h ks h1 h2 h3 hm hlen
    have : i = 32 := by omega
    subst this
    rw [usedFrom_end] at hlen ⊢
    rw [ref20_make1.l2.eq]
    simp only [ltI_d, fitL_d, appL_d, ofN_d, lenL_d, br_if]
    rw [if_neg (by omega), if_pos (by rw [List.length_append]; simp only [List.length_cons, List.length_nil]; simp only [List.map_nil, List.sum_nil] at hlen; omega)]
    show some (((), ((((h ++ [_]).length : Nat) : Int), ())), (h ++ [_], ())) = some (((), ((h.length : Int) + 1, ())), (h ++ [bN _ (ks ++ []) _ _], ()))
    rw [List.append_nil, List.length_append]
    rfl
  | succ d ihd =>
    intro i h ks h1 h2 h3 hm hlen
    have hi : i < 32 := by omega
    generalize hlv : lev bits - (f + 1) = level at hlen ihd ⊢
    have hlf : lev bits - f = level + 1 := by omega
    rw [hlf] at ih
    rw [ref20_make1.l2.eq]
    simp only [ltI_d, br_if]
    rw [if_pos (by omega)]
    have e3 := m1_l3 bits l (by omega) (fun p hp => (hb p hp).ok) level (by omega) ((2 ^ i % 4294967296 : Nat) : Int) i h (brX (makeL (usedI bits level l) i) l.length) ks l.length 0 [] (by omega) (by omega) (by simp)
    rw [List.nil_append, List.drop_zero] at e3
    rw [show ((0 : Nat) : Int) = 0 from rfl] at e3
    rw [e3, ref20_make1.l3.eq]
    simp only [ltI_d, lenL_d, ofN_d, br_if]
    rw [if_neg (by omega), one_step i hi, add1 i (by omega)]
    rw [usedFrom_step bits level l i hi] at hlen ⊢
    by_cases hp : part bits level l i = []
    · rw [if_pos hp] at hlen ⊢
      rw [if_neg (by rw [hp]; show ¬ (0 : Int) < ((0 : Nat) : Int); omega)]
      have := ihd (i + 1) h ks (by omega) (by omega) (by omega) hm hlen
      rw [mask_same _ i (fun q => (usedI_mem hi).1 q hp)] at this
      exact this
    · rw [if_neg hp] at hlen ⊢
      rw [List.map_cons, List.sum_cons, mul_up] at hlen
      have hpl : 0 < (part bits level l i).length := List.length_pos_iff.2 hp
      have hpm : (part bits level l i).length ≤ l.length := part_len _ _ _ _
      have ok : MkOK f h (part bits level l i) := ⟨hm, fun p hp => hb p (part_sub hp), part_srt hS i, by omega, by omega⟩
      have T := trieN_ok bits f h (part bits level l i) hm ok.txt ok.srt ok.len
      obtain ⟨new, en, ln, _⟩ := T.pre
      rw [if_pos (by omega), add1 level (by omega), ih h _ ok, bnd_some, walkN_cons]
      dsimp only
      simp only [fitL_d, appL_d, br_if]
      rw [if_pos (by rw [List.length_append]; simp only [List.length_cons, List.length_nil]; omega)]
      have := ihd (i + 1) (trieN bits f h (part bits level l i)).1 (ks ++ [(trieN bits f h (part bits level l i)).2]) (by omega) (by omega) (by rw [List.length_append]; simp only [List.length_cons, List.length_nil]; omega) T.may (by rw [en, List.length_append]; omega)
      rw [brX_add _ _ _ _ (mask_step _ i hi ((usedI_mem hi).2 hp))]
      rw [List.append_assoc] at this
      exact this
theorem m1_l0 (d : Nat) : ∀ (i : Nat) (h : List NodeV), i ≤ 32 → 32 - i = d → mayH h = true → h.length + ((usedFrom bits (lev bits - (f + 1)) l i).map fun j => (part bits (lev bits - (f + 1)) l j).length).sum * (f + 1) + 1 ≤ 40000000 →
    ref20_make1.l0 bits l ((lev bits - (f + 1) : Nat) : Int) ((2 ^ i % 4294967296 : Nat) : Int) (i : Int) h (brX (makeL (usedI bits (lev bits - (f + 1)) l) i) l.length) =
      some (((), (((walkN (fun g i => trieN bits f g (part bits (lev bits - (f + 1)) l i)) h (usedFrom bits (lev bits - (f + 1)) l i)).1.length : Int) + 1, ())), ((walkN (fun g i => trieN bits f g (part bits (lev bits - (f + 1)) l i)) h (usedFrom bits (lev bits - (f + 1)) l i)).1 ++ [bN (maskC bits (lev bits - (f + 1)) l) (walkN (fun g i => trieN bits f g (part bits (lev bits - (f + 1)) l i)) h (usedFrom bits (lev bits - (f + 1)) l i)).2 l.length 0], ())) := by
  have hlev := lev_le bits
  induction d with
  | zero =>
    intro i h h1 h2 hm hlen
    have : i = 32 := by omega
    subst this
    rw [usedFrom_end] at hlen ⊢
    rw [ref20_make1.l0.eq]
    simp only [ltI_d, fitL_d, appL_d, ofN_d, lenL_d, br_if]
    rw [if_neg (by omega), if_pos (by rw [List.length_append]; simp only [List.length_cons, List.length_nil]; simp only [List.map_nil, List.sum_nil] at hlen; omega)]
    show some (((), ((((h ++ [_]).length : Nat) : Int), ())), (h ++ [_], ())) = some (((), ((h.length : Int) + 1, ())), (h ++ [bN _ [] _ _], ()))
    rw [List.length_append]
    rfl
  | succ d ihd =>
    intro i h h1 h2 hm hlen
    have hi : i < 32 := by omega
    have L2 := m1_l2 bits f l hf hb hS hl ih d
    generalize hlv : lev bits - (f + 1) = level at hlen ihd L2 ⊢
    have hlf : lev bits - f = level + 1 := by omega
    rw [hlf] at ih
    rw [ref20_make1.l0.eq]
    simp only [ltI_d, br_if]
    rw [if_pos (by omega)]
    have e3 := m1_l1 bits l (by omega) (fun p hp => (hb p hp).ok) level (by omega) ((2 ^ i % 4294967296 : Nat) : Int) i h (brX (makeL (usedI bits level l) i) l.length) l.length 0 [] (by omega) (by omega) (by simp)
    rw [List.nil_append, List.drop_zero] at e3
    rw [show ((0 : Nat) : Int) = 0 from rfl] at e3
    rw [e3, ref20_make1.l1.eq]
    simp only [ltI_d, lenL_d, ofN_d, br_if]
    rw [if_neg (by omega), one_step i hi, add1 i (by omega)]
    rw [usedFrom_step bits level l i hi] at hlen ⊢
    by_cases hp : part bits level l i = []
    · rw [if_pos hp] at hlen ⊢
      rw [if_neg (by rw [hp]; show ¬ (0 : Int) < ((0 : Nat) : Int); omega)]
      have := ihd (i + 1) h (by omega) (by omega) hm hlen
      rw [mask_same _ i (fun q => (usedI_mem hi).1 q hp)] at this
      exact this
    · rw [if_neg hp] at hlen ⊢
      rw [List.map_cons, List.sum_cons, mul_up] at hlen
      have hpl : 0 < (part bits level l i).length := List.length_pos_iff.2 hp
      have hpm : (part bits level l i).length ≤ l.length := part_len _ _ _ _
      have ok : MkOK f h (part bits level l i) := ⟨hm, fun p hp => hb p (part_sub hp), part_srt hS i, by omega, by omega⟩
      have T := trieN_ok bits f h (part bits level l i) hm ok.txt ok.srt ok.len
      obtain ⟨new, en, ln, _⟩ := T.pre
      rw [if_pos (by omega), add1 level (by omega), ih h _ ok, bnd_some, walkN_cons]
      dsimp only
      simp only [fitL_d, appL_d, br_if]
      rw [if_pos (by simp only [List.length_cons, List.length_nil]; omega)]
      have := L2 (i + 1) (trieN bits f h (part bits level l i)).1 [(trieN bits f h (part bits level l i)).2] (by omega) (by omega) (by simp only [List.length_cons, List.length_nil]; omega) T.may (by rw [en, List.length_append]; omega)
      rw [brX_add _ _ _ _ (mask_step _ i hi ((usedI_mem hi).2 hp))]
      exact this
end
/-- What the document's function makes of bindings, behind a heap. -/
theorem make1_any (bits : Int) : ∀ (f : Nat) (h : List NodeV) (l : List PairV), f ≤ lev bits → MkOK f h l → ref20_make1 bits l ((lev bits - f : Nat) : Int) h = some (((), ((trieN bits f h l).2, ())), ((trieN bits f h l).1, ())) := by
  have hlev := lev_le bits
  have one : ∀ (f : Nat) (h : List NodeV) (p : PairV), MkOK f h [p] → ref20_make1 bits [p] ((lev bits - f : Nat) : Int) h = some (((), ((trieN bits f h [p]).2, ())), ((trieN bits f h [p]).1, ())) := fun f h p ok => by
    have := ok.fits
    simp only [List.length_cons, List.length_nil] at this
    rw [trieN_one, ref20_make1.eq]
    simp only [ltI_d, leI_d, eqI_d, andB_d, fitL_d, appL_d, lenL_d, ofN_d, br_if, both_self]
    have e : ixL tapiPair [p] (0 : Int) = p := rfl
    rw [if_neg (by simp), if_pos (by simp), if_pos (by simp), if_pos (by simp), e, if_pos (by rw [List.length_append]; simp only [List.length_cons, List.length_nil]; omega), List.length_append]
    rfl
  intro f
  induction f with
  | zero =>
    intro h l hf ok
    rcases len_cases l with rfl | ⟨p, rfl⟩ | h2
    · rw [trieN_nil, ref20_make1.eq]; rfl
    · exact one 0 h p ok
    · have := ok.fits
      rw [trieN_buck bits h h2, ref20_make1.eq]
      simp only [leI_d, eqI_d, fitL_d, appL_d, lenL_d, ofN_d, br_if]
      rw [if_neg (by omega), if_neg (by omega), reflevels_any, bnd_some, if_pos (by omega), if_pos (by rw [List.length_append]; simp only [List.length_cons, List.length_nil]; omega), List.length_append]
      rfl
  | succ f ih =>
    intro h l hf ok
    rcases len_cases l with rfl | ⟨p, rfl⟩ | h2
    · rw [trieN_nil, ref20_make1.eq]; rfl
    · exact one (f + 1) h p ok
    · have hfit := ok.fits
      rw [Nat.mul_succ] at hfit
      rw [trieN_br bits f h h2, ref20_make1.eq]
      simp only [leI_d, eqI_d, fitL_d, appL_d, lenL_d, ofN_d, br_if]
      rw [if_neg (by omega), if_neg (by omega), reflevels_any, bnd_some, if_neg (by omega)]
      have := m1_l0 bits f l hf ok.txt ok.srt ok.len (fun h q o => ih h q (by omega) o) 32 0 h (by omega) (by omega) ok.may (by rw [usedFrom_0, parts_sum]; omega)
      rw [usedFrom_0] at this
      exact this
/-- The trie of bindings, as the document makes it. -/
noncomputable def trieH (bits : Int) (l : List PairV) : List NodeV := (trieN bits (lev bits) [] (makeS l)).1
noncomputable def trieR (bits : Int) (l : List PairV) : Int := (trieN bits (lev bits) [] (makeS l)).2
theorem make_trie (bits : Int) (l : List PairV) (hl : l.length ≤ 40000000) (hm : (makeS l).length ≤ 1000000) (hb : ∀ p ∈ l, okP p) (ht : ∀ p ∈ makeS l, okT p) : ref20_Make bits l = some (trieH bits l, (trieR bits l, ())) ∧ TrieOK bits (lev bits) [] (makeS l) (trieH bits l) (trieR bits l) ∧ okH (trieH bits l) := by
  have hlev := lev_le bits
  have hfit : (makeS l).length * (lev bits + 1) ≤ 1000000 * 14 := Nat.mul_le_mul hm (by omega)
  have T := trieN_ok bits (lev bits) [] (makeS l) rfl ht (makeS_Srt l) hm
  obtain ⟨new, e, h1, h2⟩ := T.pre
  rw [List.nil_append] at e
  refine ⟨?_, T, ⟨by show (trieN bits (lev bits) [] (makeS l)).1.length ≤ _; rw [e]; omega, fun n hn => h2 n (e ▸ hn), kids_rng T.may (by show (trieN bits (lev bits) [] (makeS l)).1.length ≤ _; rw [e]; omega)⟩⟩
  rw [ref20_Make.eq, refmake_any l hl hb, bnd_some]
  have := make1_any bits (lev bits) [] (makeS l) (Nat.le_refl _) ⟨rfl, ht, makeS_Srt l, hm, by show 0 + _ ≤ _; omega⟩
  rw [Nat.sub_self] at this
  rw [show (0 : Int) = ((0 : Nat) : Int) from rfl, this, bnd_some]
  rfl
/-- Is a text of a binding too long? -/
def longL (l : List PairV) : Bool := (makeS l).any fun p => decide (16 < p.1.size) || decide (16 < p.2.1.size)
theorem rlong20_loop (l : List PairV) (hl : l.length ≤ 50000000) (d : Nat) : ∀ (k : Nat), k ≤ l.length → l.length - k = d → ref20_Long.l0 l (k : Int) = some ((l.drop k).any fun p => decide (16 < p.1.size) || decide (16 < p.2.1.size)) := by
  induction d with
  | zero =>
    intro k h1 h2
    rw [ref20_Long.l0.eq]
    simp only [ltI_d, lenL_d, ofN_d, br_if]
    rw [if_neg (by omega), List.drop_eq_nil_of_le (by omega)]
    rfl
  | succ d ih =>
    intro k h1 h2
    have hk : k < l.length := by omega
    rw [ref20_Long.l0.eq]
    simp only [ltI_d, leI_d, andB_d, lenL_d, lenS_d, ofN_d, br_if]
    have hb : (0 : Int) ≤ (k : Int) ∧ (k : Int) < (l.length : Int) := by omega
    simp only [if_pos hb]
    rw [if_pos (by omega), ixP l k hk, List.drop_eq_getElem_cons hk, List.any_cons, add1 k (by omega), ih (k + 1) (by omega) (by omega)]
    by_cases e1 : 16 < l[k].1.size
    · rw [if_pos (by omega), decide_eq_true e1]; rfl
    · rw [if_neg (by omega), decide_eq_false e1]
      by_cases e2 : 16 < l[k].2.1.size
      · rw [if_pos (by omega), decide_eq_true e2]; rfl
      · rw [if_neg (by omega), decide_eq_false e2]; rfl
theorem rlong20_any (l : List PairV) (hl : l.length ≤ 40000000) (hm : (makeS l).length ≤ 50000000) (hb : ∀ p ∈ l, okP p) : ref20_Long l = some (longL l) := by
  rw [ref20_Long.eq, refmake_any l hl hb, bnd_some]
  have := rlong20_loop (makeS l) hm (makeS l).length 0 (by omega) (by omega)
  rw [List.drop_zero] at this
  exact this
theorem longL_not {l : List PairV} (h : longL l = false) : ∀ p ∈ makeS l, okT p := by
  intro p hp
  unfold longL at h
  rw [List.any_eq_false] at h
  have := h p hp
  simp only [Bool.or_eq_true, decide_eq_true_eq] at this
  exact ⟨by omega, by omega⟩
end Go.Proofs.Ytmopkbmcilolgaa.AC
set_option linter.unusedVariables false
set_option linter.unusedSimpArgs false
namespace Go.Proofs.Ytmopkbmcilolgaa.Pure
open Go.Abs Go.Proofs.Ytmopkbmcilolgaa.AC
theorem FindTries (a0 : den (.int .i64)) (a1 : den (.list tapiPair)) (a2 : den .str) (h0 : wfD (.int .i64) a0) (h1 : wfD (.list tapiPair) a1) (h2 : wfD .str a2) : law21_FindTries a0 a1 a2 = some true := by
  change Int at a0
  have hl := fewL_len a1
  have hs := fewL_ok a1
  have hm := makeS_len (fewL a1)
  have hk : (cut 40 a2).size ≤ 40 := by rw [cut_size]; omega
  have hlev := lev_le a0
  rw [law21_FindTries.eq, works21, bnd_some, show notB true = false from rfl, br_f, few_any a1 h1.1, bnd_some, base_Cut_40, bnd_some, rlong20_any _ (by omega) (by omega) hs, bnd_some]
  cases hg : longL (fewL a1) with
  | true => rw [br_t]
  | false =>
    obtain ⟨e, T, ho⟩ := make_trie a0 (fewL a1) (by omega) (by omega) hs (longL_not hg)
    rw [br_f, e, bnd_some]
    dsimp only
    obtain ⟨x, e1, e2⟩ := run_any (trieH a0 (fewL a1)) ho (trieR a0 (fewL a1)) (cut 40 a2) hk a0
    obtain ⟨c, c1, c2, c3⟩ := find_trie ho T.may (cut 40 a2) hk a0 (lev a0) (makeS (fewL a1)) (trieR a0 (fewL a1)) 0 (Nat.le_refl _) T.r0 T.r1 T.shp (by omega)
    have hf : fitH (trieH a0 (fewL a1)) (trieR a0 (fewL a1)) = true := fitH_iff.2 ⟨⟨T.r0, T.r1⟩, T.may⟩
    rw [Nat.sub_self] at c3
    have e3 : ref21_Run (trieH a0 (fewL a1)) (trieR a0 (fewL a1)) (cut 40 a2) a0 = some (ansV ((makeS (fewL a1)).find? (fun q => decide (q.1 = cut 40 a2))) c) := by
      rw [ref21_Run.eq, fits_any _ ho, bnd_some, hf, show notB true = false from rfl, br_f]
      exact c3
    have : x = ansV ((makeS (fewL a1)).find? (fun q => decide (q.1 = cut 40 a2))) c := Option.some.inj (e2.symm.trans e3)
    subst this
    rw [e1, bnd_some, rget_any _ _ (by omega), bnd_some, reflevels_any, bnd_some]
    unfold ansV
    dsimp only
    simp only [eqS_d, br_if]
    rw [if_pos trivial, show eqB (valF ((makeS (fewL a1)).find? (fun q => decide (q.1 = cut 40 a2)))).2.1 (valF ((makeS (fewL a1)).find? (fun q => decide (q.1 = cut 40 a2)))).2.1 = true from by cases (valF ((makeS (fewL a1)).find? (fun q => decide (q.1 = cut 40 a2)))).2.1 <;> rfl, br_t, add1 (lev a0) (by omega), leI_d, decide_eq_true (by omega)]
end Go.Proofs.Ytmopkbmcilolgaa.Pure
