/- Texts of one proof, laid together: how the interpreter's words stand for the program's code and what the functions do. No conditions but those that each lemma names. -/
import Derived.Test.YtmopkbmcilolgaaM3
set_option linter.unusedSimpArgs false
set_option linter.unusedVariables false
set_option linter.unusedSimpArgs false
namespace Go.Proofs.Ytmopkbmcilolgaa.AD
open Go.Abs
/-! ### Nodes that may be -/
theorem mayS_zero {n : NodeV} (h : mayS n = 0) : 1 ≤ n.1 ∧ n.1 ≤ 6 ∧ longN n = false ∧ formP n := by
  unfold mayS at h
  by_cases h1 : n.1 < 1
  · rw [if_pos h1] at h; cases h
  rw [if_neg h1] at h
  by_cases h2 : 6 < n.1
  · rw [if_pos h2] at h; cases h
  rw [if_neg h2] at h
  by_cases h3 : longN n = true
  · rw [if_pos h3] at h; cases h
  rw [if_neg h3] at h
  by_cases h4 : formP n
  · exact ⟨by omega, by omega, by simpa using h3, h4⟩
  · rw [if_neg h4] at h; cases h
theorem form_tree {n : NodeV} (h : formP n) (h4 : n.1 = 4) : n.2.2.2.1 = 0 ∧ n.2.2.2.2.1.length = 2 ∧ 1 ≤ n.2.2.2.2.2.2.2.1 ∧ n.2.2.2.2.2.1 = 0 ∧ n.2.2.2.2.2.2.1 = [] := by
  unfold formP at h
  obtain ⟨_, h⟩ := h
  rw [if_neg (by omega), if_neg (by omega), if_neg (by omega), if_pos h4] at h
  obtain ⟨h1, h2, h3, hb⟩ := h
  unfold bareP at hb
  exact ⟨h1, h2, h3, hb.2.2.1 rfl, hb.2.2.2 rfl⟩
/-! ### All references of a node, none among them -/
def stripV (n : NodeV) : NodeV := (n.1, (n.2.1, (n.2.2.1, (n.2.2.2.1, ([], (0, (n.2.2.2.2.2.2.1, (n.2.2.2.2.2.2.2.1, (0, ())))))))))
def allK (n : NodeV) : List Int := n.2.2.2.2.1 ++ [n.2.2.2.2.2.1]
theorem refsS_all (n : NodeV) : refsS n = (allK n).filter (fun r => decide (r ≠ 0)) := by
  unfold refsS allK
  rw [List.filter_append]
  by_cases h : n.2.2.2.2.2.1 = 0
  · rw [if_neg (by intro q; exact q h), List.filter_cons_of_neg (by simp [h])]; rfl
  · rw [if_pos h, List.filter_cons_of_pos (by simp [h])]; rfl
theorem allK_len (n : NodeV) : (allK n).length = n.2.2.2.2.1.length + 1 := by unfold allK; simp
/-- A shape: what is below a reference. -/
inductive Shp where
  | nil
  | node (b : NodeV) (l : List Shp)
def getN (h : List NodeV) (r : Int) : NodeV := h.getD (r - 1).toNat zeroN
theorem getN_ix (h : List NodeV) (i : Nat) (hi : i < h.length) : getN h ((i : Int) + 1) = h[i] := by
  unfold getN
  rw [show ((i : Int) + 1 - 1).toNat = i by omega, List.getD_eq_getElem?_getD, List.getElem?_eq_getElem hi]; rfl
theorem getN_mem (h : List NodeV) (r : Int) (h1 : 1 ≤ r) (h2 : r ≤ h.length) : getN h r ∈ h := by
  obtain ⟨i, rfl⟩ : ∃ i : Nat, r = (i : Int) + 1 := ⟨(r - 1).toNat, by omega⟩
  rw [getN_ix h i (by omega)]
  exact List.getElem_mem _
theorem sub1I (r : Int) (h1 : 1 ≤ r) (h2 : r ≤ 1000000000) : subI .i64 r 1 = r - 1 := subI_d (by omega) (by omega)
theorem ixG (h : List NodeV) (r : Int) (h1 : 1 ≤ r) (h2 : r ≤ h.length) (h3 : h.length ≤ 50000000) : ixL tapiNode h (subI .i64 r 1) = getN h r := by
  obtain ⟨i, rfl⟩ : ∃ i : Nat, r = (i : Int) + 1 := ⟨(r - 1).toNat, by omega⟩
  rw [sub1I _ h1 (by omega), getN_ix h i (by omega), show ((i : Int) + 1 - 1) = (i : Int) by omega]
  exact ixN h i (by omega)
theorem inG (h : List NodeV) (r : Int) (h1 : 1 ≤ r) (h2 : r ≤ h.length) (h3 : h.length ≤ 50000000) : andB (leI 0 (subI .i64 r 1)) (ltI (subI .i64 r 1) (ofN (lenL tapiNode h))) = true := by
  rw [sub1I r h1 (by omega), leI_d, ltI_d, andB_d]
  refine decide_eq_true ⟨by omega, ?_⟩
  show r - 1 < (h.length : Int)
  omega
def unf (h : List NodeV) : Nat → Int → Shp
  | 0, _ => .nil
  | k + 1, r => if r = 0 then .nil else .node (stripV (getN h r)) ((allK (getN h r)).map (unf h k))
def U (h : List NodeV) (r : Int) : Shp := unf h r.toNat r
theorem mayHL_at : ∀ (l : List NodeV) (i : Nat), mayHL i l = true → ∀ (j : Nat) (hj : j < l.length), mayS l[j] = 0 ∧ ∀ r ∈ refsS l[j], 1 ≤ r ∧ r ≤ ((i + j : Nat) : Int)
  | n :: l, i, h, j, hj => by
    unfold mayHL at h
    simp only [Bool.and_eq_true, decide_eq_true_eq, List.all_eq_true] at h
    obtain ⟨⟨h1, h2⟩, h3⟩ := h
    cases j with
    | zero => exact ⟨h1, h2⟩
    | succ j =>
      have := mayHL_at l (i + 1) h3 j (by simpa using hj)
      rw [show i + 1 + j = i + (j + 1) by omega] at this
      exact this
theorem mayHL_of : ∀ (l : List NodeV) (i : Nat), (∀ (j : Nat) (hj : j < l.length), mayS l[j] = 0 ∧ ∀ r ∈ refsS l[j], 1 ≤ r ∧ r ≤ ((i + j : Nat) : Int)) → mayHL i l = true
  | [], _, _ => rfl
  | n :: l, i, h => by
    unfold mayHL
    simp only [Bool.and_eq_true, decide_eq_true_eq, List.all_eq_true]
    refine ⟨h 0 (by simp), mayHL_of l (i + 1) fun j hj => ?_⟩
    have := h (j + 1) (by simpa using hj)
    rw [show i + (j + 1) = i + 1 + j by omega] at this
    exact this
theorem may_node {h : List NodeV} (hm : mayH h = true) {r : Int} (h1 : 1 ≤ r) (h2 : r ≤ h.length) : mayS (getN h r) = 0 ∧ ∀ k ∈ allK (getN h r), k = 0 ∨ (1 ≤ k ∧ k ≤ r - 1) := by
  obtain ⟨i, rfl⟩ : ∃ i : Nat, r = (i : Int) + 1 := ⟨(r - 1).toNat, by omega⟩
  rw [getN_ix h i (by omega)]
  obtain ⟨a, b⟩ := mayHL_at h 0 hm i (by omega)
  refine ⟨a, fun k hk => ?_⟩
  by_cases e : k = 0
  · exact .inl e
  · have := b k (by rw [refsS_all]; exact List.mem_filter.2 ⟨hk, by simp [e]⟩)
    exact .inr ⟨this.1, by omega⟩
theorem unf_zero (h : List NodeV) (k : Nat) : unf h k 0 = .nil := by
  cases k with
  | zero => rfl
  | succ k => unfold unf; exact if_pos rfl
theorem unf_fuel {h : List NodeV} (hm : mayH h = true) : ∀ (n : Nat) (r : Int) (k k' : Nat), 0 ≤ r → r ≤ n → r ≤ h.length → r.toNat ≤ k → r.toNat ≤ k' → unf h k r = unf h k' r := by
  intro n
  induction n with
  | zero =>
    intro r k k' h0 h1 h2 h3 h4
    have : r = 0 := by omega
    subst this
    rw [unf_zero, unf_zero]
  | succ n ih =>
    intro r k k' h0 h1 h2 h3 h4
    by_cases e : r = 0
    · subst e; rw [unf_zero, unf_zero]
    obtain ⟨k, rfl⟩ : ∃ j, k = j + 1 := ⟨k - 1, by omega⟩
    obtain ⟨k', rfl⟩ : ∃ j, k' = j + 1 := ⟨k' - 1, by omega⟩
    unfold unf
    rw [if_neg e, if_neg e]
    congr 1
    refine List.map_congr_left fun x hx => ?_
    rcases (may_node hm (by omega) h2).2 x hx with rfl | ⟨g1, g2⟩
    · rw [unf_zero, unf_zero]
    · exact ih x k k' (by omega) (by omega) (by omega) (by omega) (by omega)
theorem U_zero (h : List NodeV) : U h 0 = .nil := unf_zero h _
theorem U_node {h : List NodeV} (hm : mayH h = true) {r : Int} (h1 : 1 ≤ r) (h2 : r ≤ h.length) : U h r = .node (stripV (getN h r)) ((allK (getN h r)).map (U h)) := by
  unfold U
  obtain ⟨k, hk⟩ : ∃ j, r.toNat = j + 1 := ⟨r.toNat - 1, by omega⟩
  rw [hk, unf, if_neg (by omega)]
  congr 1
  refine List.map_congr_left fun x hx => ?_
  rcases (may_node hm h1 h2).2 x hx with rfl | ⟨g1, g2⟩
  · rw [unf_zero, unf_zero]
  · exact unf_fuel hm x.toNat x k x.toNat (by omega) (by omega) (by omega) (by omega) (by omega)
theorem U_nil {h : List NodeV} (hm : mayH h = true) {r : Int} (h1 : 0 ≤ r) (h2 : r ≤ h.length) : U h r = .nil ↔ r = 0 := by
  constructor
  · intro e
    by_cases q : r = 0
    · exact q
    · rw [U_node hm (by omega) h2] at e; cases e
  · rintro rfl; exact U_zero h
/-! ### Whether heaps may be, and references fit -/
def fitH (h : List NodeV) (r : Int) : Bool := decide (0 ≤ r ∧ r ≤ h.length) && mayH h
theorem hmay_any (h : List NodeV) (ho : okH h) (r : Int) : heap_may h r = some (if fitH h r = true then 0 else 4) := by
  rw [heap_may.eq, mayh_any h ho, bnd_some]
  unfold fitH
  simp only [ltI_d, leI_d, ofN_d, lenL_d, br_if]
  by_cases h1 : r < 0
  · rw [if_pos h1, decide_eq_false (by omega), Bool.false_and, if_neg (by simp)]
  rw [if_neg h1]
  by_cases h2 : (h.length : Int) < r
  · rw [if_pos h2, decide_eq_false (by omega), Bool.false_and, if_neg (by simp)]
  rw [if_neg h2, decide_eq_true (by omega), Bool.true_and]
theorem fits_any (h : List NodeV) (ho : okH h) (r : Int) : ref17_Fits h r = some (fitH h r) := by
  rw [ref17_Fits.eq, refmayh_any h ho, bnd_some]
  unfold fitH
  simp only [ltI_d, leI_d, ofN_d, lenL_d, br_if]
  by_cases h1 : 0 ≤ r
  · rw [if_pos h1]
    by_cases h2 : r ≤ (h.length : Int)
    · rw [if_pos h2, decide_eq_true ⟨h1, h2⟩, Bool.true_and]
    · rw [if_neg h2, decide_eq_false (fun q => h2 q.2), Bool.false_and]
  · rw [if_neg h1, decide_eq_false (fun q => h1 q.1), Bool.false_and]
theorem fitH_iff {h : List NodeV} {r : Int} : fitH h r = true ↔ (0 ≤ r ∧ r ≤ h.length) ∧ mayH h = true := by
  unfold fitH; simp
/-! ### The bindings below a shape -/
mutual
def bindsT : Shp → List PairV
  | .nil => []
  | .node b l => if b.1 = 4 then (bindsL l).getD 0 [] ++ bindsS b ++ (bindsL l).getD 1 [] else bindsS b ++ (bindsL l).flatten
def bindsL : List Shp → List (List PairV)
  | [] => []
  | s :: l => bindsT s :: bindsL l
end
theorem bindsL_map : ∀ l, bindsL l = l.map bindsT
  | [] => by rw [bindsL]; rfl
  | s :: l => by rw [bindsL, bindsL_map l]; rfl
theorem bindsT_nil : bindsT .nil = [] := by rw [bindsT]
theorem bindsT_node (b : NodeV) (l : List Shp) : bindsT (.node b l) = if b.1 = 4 then ((l.map bindsT).getD 0 []) ++ bindsS b ++ ((l.map bindsT).getD 1 []) else bindsS b ++ (l.map bindsT).flatten := by
  rw [bindsT, bindsL_map]
theorem bindsS_strip (n : NodeV) : bindsS (stripV n) = bindsS n := rfl
theorem flat_refs (f : Int → List PairV) (hf : f 0 = []) : ∀ l : List Int, (l.map f).flatten = ((l.filter (fun r => decide (r ≠ 0))).map f).flatten
  | [] => rfl
  | r :: l => by
    by_cases h : r = 0
    · rw [List.filter_cons_of_neg (by simp [h]), List.map_cons, List.flatten_cons, h, hf, List.nil_append, flat_refs f hf l]
    · rw [List.filter_cons_of_pos (by simp [h]), List.map_cons, List.map_cons, List.flatten_cons, List.flatten_cons, flat_refs f hf l]
theorem bindsU_refs {h : List NodeV} (hm : mayH h = true) {r : Int} (h1 : 1 ≤ r) (h2 : r ≤ h.length) (h4 : (getN h r).1 ≠ 4) : bindsT (U h r) = bindsS (getN h r) ++ ((refsS (getN h r)).map fun x => bindsT (U h x)).flatten := by
  rw [U_node hm h1 h2, bindsT_node, if_neg (show ¬ (stripV (getN h r)).1 = 4 from h4), bindsS_strip, List.map_map, refsS_all]
  congr 1
  exact flat_refs (fun x => bindsT (U h x)) (by rw [U_zero, bindsT_nil]) _
theorem bindsU_tree {h : List NodeV} (hm : mayH h = true) {r : Int} (h1 : 1 ≤ r) (h2 : r ≤ h.length) (h4 : (getN h r).1 = 4) :
    ∃ a b : Int, (getN h r).2.2.2.2.1 = [a, b] ∧ (getN h r).2.2.2.2.2.1 = 0 ∧ (a = 0 ∨ (1 ≤ a ∧ a ≤ r - 1)) ∧ (b = 0 ∨ (1 ≤ b ∧ b ≤ r - 1)) ∧ bindsT (U h r) = bindsT (U h a) ++ bindsS (getN h r) ++ bindsT (U h b) := by
  obtain ⟨g1, g2⟩ := may_node hm h1 h2
  obtain ⟨_, k2, _, k4, _⟩ := form_tree (mayS_zero g1).2.2.2 h4
  obtain ⟨a, b, e⟩ : ∃ a b, (getN h r).2.2.2.2.1 = [a, b] := by
    match hk : (getN h r).2.2.2.2.1, k2 with
    | [a, b], _ => exact ⟨a, b, rfl⟩
  have ea : allK (getN h r) = [a, b, 0] := by unfold allK; rw [e, k4]; rfl
  refine ⟨a, b, e, k4, g2 a (by rw [ea]; simp), g2 b (by rw [ea]; simp), ?_⟩
  rw [U_node hm h1 h2, bindsT_node, if_pos (show (stripV (getN h r)).1 = 4 from h4), bindsS_strip, ea]
  rfl
theorem ix0 (l : List Int) (a b : Int) (h : l = [a, b]) : ixL (.int .i64) l 0 = a ∧ ixL (.int .i64) l 1 = b := by subst h; exact ⟨rfl, rfl⟩
theorem in01 (l : List Int) (a b : Int) (h : l = [a, b]) : andB (leI 0 0) (ltI 0 (ofN (lenL (.int .i64) l))) = true ∧ andB (leI 0 1) (ltI 1 (ofN (lenL (.int .i64) l))) = true := by
  subst h; exact ⟨rfl, rfl⟩
theorem flat_sub {l : List (List PairV)} {x : List PairV} (h : x ∈ l) : x.length ≤ l.flatten.length := by
  induction l with
  | nil => cases h
  | cons y l ih =>
    rw [List.flatten_cons, List.length_append]
    rcases List.mem_cons.1 h with rfl | h
    · omega
    · have := ih h; omega
/-- What the loops over references do. -/
theorem hbinds_loop {h : List NodeV} (ho : okH h) (refs : List Int) (hr : refs.length ≤ 50000000) (hb : ∀ x ∈ refs, heap_binds h x = some ((), (bindsT (U h x), ()))) (d : Nat) : ∀ (i : Nat) (acc : List PairV), i ≤ refs.length → refs.length - i = d →
    (acc ++ ((refs.drop i).map fun x => bindsT (U h x)).flatten).length ≤ 1000000000 → heap_binds.l0 h refs refs.length i acc = some ((), (acc ++ ((refs.drop i).map fun x => bindsT (U h x)).flatten, ())) := by
  induction d with
  | zero =>
    intro i acc h1 h2 h3
    rw [heap_binds.l0.eq]
    simp only [ltI_d, br_if]
    rw [if_neg (by omega), List.drop_eq_nil_of_le (by omega)]
    simp
  | succ d ih =>
    intro i acc h1 h2 h3
    have hi : i < refs.length := by omega
    rw [List.drop_eq_getElem_cons hi, List.map_cons, List.flatten_cons, ← List.append_assoc] at h3
    rw [heap_binds.l0.eq]
    simp only [ltI_d, leI_d, ofN_d, lenL_d, andB_d, br_if]
    rw [if_pos (by omega), if_pos (by omega), ixR refs i hi, hb _ (List.getElem_mem hi), bnd_some]
    simp only [fitL_d, appL_d, br_if]
    rw [if_pos (by rw [List.length_append] at h3; omega), add1 i (by omega), ih (i + 1) _ (by omega) (by omega) h3, List.drop_eq_getElem_cons hi, List.map_cons, List.flatten_cons, List.append_assoc]
theorem hbinds_any {h : List NodeV} (ho : okH h) (hm : mayH h = true) : ∀ (n : Nat) (r : Int), 0 ≤ r → r ≤ n → r ≤ h.length → (bindsT (U h r)).length ≤ 1000000000 → heap_binds h r = some ((), (bindsT (U h r), ())) := by
  have hlen := ho.len
  intro n
  induction n with
  | zero =>
    intro r h0 h1 h2 h3
    have : r = 0 := by omega
    subst this
    rw [heap_binds.eq, eqI_d, br_if, if_pos rfl, U_zero, bindsT_nil]
  | succ n ih =>
    intro r h0 h1 h2 h3
    by_cases e : r = 0
    · subst e
      rw [heap_binds.eq, eqI_d, br_if, if_pos rfl, U_zero, bindsT_nil]
    have hr1 : 1 ≤ r := by omega
    have o := ho.node _ (getN_mem h r hr1 h2)
    rw [heap_binds.eq, eqI_d, br_if, if_neg e, inG h r hr1 h2 (by omega), br_t, ixG h r hr1 h2 (by omega), eqI_d, br_if]
    by_cases h4 : (getN h r).1 = 4
    · obtain ⟨a, b, k1, k2, k3, k4, k5⟩ := bindsU_tree hm hr1 h2 h4
      rw [k5, List.length_append, List.length_append] at h3
      rw [if_pos h4, (in01 _ a b k1).1, br_t, (in01 _ a b k1).2, br_t, (ix0 _ a b k1).1, (ix0 _ a b k1).2, ih a (by omega) (by omega) (by omega) (by omega), bnd_some, binds_any _ o, bnd_some]
      simp only [fitL_d, appL_d, br_if]
      rw [if_pos (by rw [List.length_append]; omega), ih b (by omega) (by omega) (by omega) (by omega), bnd_some]
      simp only [fitL_d, appL_d, br_if]
      rw [if_pos (by rw [List.length_append, List.length_append]; omega), k5]
    · have k5 := bindsU_refs hm hr1 h2 h4
      have hrl := refsS_len (getN h r)
      have hkl := o.kids
      rw [k5] at h3
      have hx := (may_node hm hr1 h2).2
      have hb : ∀ x ∈ refsS (getN h r), heap_binds h x = some ((), (bindsT (U h x), ())) := by
        intro x hx'
        have hq := hx'
        rw [refsS_all] at hq
        have := hx x (List.mem_filter.1 hq).1
        refine ih x (by omega) (by omega) (by omega) ?_
        have := flat_sub (List.mem_map.2 ⟨x, hx', rfl⟩ : bindsT (U h x) ∈ (refsS (getN h r)).map fun x => bindsT (U h x))
        rw [List.length_append] at h3
        omega
      rw [if_neg h4, binds_any _ o, bnd_some, refs_any _ o, bnd_some]
      have := hbinds_loop ho (refsS (getN h r)) (by omega) hb (refsS (getN h r)).length 0 (bindsS (getN h r)) (by omega) (by omega) (by rw [List.drop_zero]; exact h3)
      rw [List.drop_zero, show ((0 : Nat) : Int) = 0 from rfl] at this
      rw [k5]
      exact this
end Go.Proofs.Ytmopkbmcilolgaa.AD
set_option linter.unusedVariables false
set_option linter.unusedSimpArgs false
namespace Go.Proofs.Ytmopkbmcilolgaa.AD
open Go.Abs
noncomputable instance shpDec : DecidableEq Shp := fun _ _ => Classical.propDecidable _
noncomputable def eqSh (a b : Shp) : Bool := decide (a = b)
theorem eqSh_iff {a b : Shp} : eqSh a b = true ↔ a = b := by unfold eqSh; exact decide_eq_true_iff
theorem eqSh_not {a b : Shp} (h : a ≠ b) : eqSh a b = false := by unfold eqSh; exact decide_eq_false h
theorem eqSh_of {a b c d : Shp} (h : (a = b) ↔ (c = d)) : eqSh a b = eqSh c d := by unfold eqSh; exact decide_eq_decide.2 h
noncomputable def eqShL (a b : List Shp) : Bool := decide (a = b)
theorem eqShL_cons (a b : Shp) (l m : List Shp) : eqShL (a :: l) (b :: m) = (eqSh a b && eqShL l m) := by
  unfold eqShL eqSh
  rw [← Bool.decide_and]
  exact decide_eq_decide.2 (by simp)
theorem eqShL_nil : eqShL [] [] = true := by unfold eqShL; exact decide_eq_true rfl
theorem eqShL_iff {a b : List Shp} : eqShL a b = true ↔ a = b := by unfold eqShL; exact decide_eq_true_iff
/-- A node without references, and birth; but whether they are there. -/
def bareV (n : NodeV) : NodeV := (n.1, (n.2.1, (n.2.2.1, (n.2.2.2.1, (n.2.2.2.2.1.map (min · 1), (min n.2.2.2.2.2.1 1, (n.2.2.2.2.2.2.1, (n.2.2.2.2.2.2.2.1, (0, ())))))))))
theorem hbare_loop (m : Nat) (d : Nat) : ∀ (i : Nat) (ks : List Int) (x2 x3) (x5 : List PairV) (x6 : List Int) (x7 : List PairV), ks.length = m → m ≤ 50000000 → i ≤ m → m - i = d →
    heap_bare.l0 (m : Int) i x2 x3 ks x5 x6 x7 = some (x2.1, (x2.2.1, (x2.2.2.1, (x2.2.2.2.1, (ks.take i ++ (ks.drop i).map (min · 1), ((min x2.2.2.2.2.2.1 1), (x5, (x2.2.2.2.2.2.2.2.1, ((0 : Int), ()))))))))) := by
  induction d with
  | zero =>
    intro i ks x2 x3 x5 x6 x7 h1 h2 h3 h4
    rw [heap_bare.l0.eq]
    simp only [ltI_d, minI_d, br_if]
    rw [if_neg (by omega), List.drop_eq_nil_of_le (by omega), List.take_of_length_le (by omega), List.map_nil, List.append_nil]
  | succ d ih =>
    intro i ks x2 x3 x5 x6 x7 h1 h2 h3 h4
    have hi : i < ks.length := by omega
    rw [heap_bare.l0.eq]
    simp only [ltI_d, leI_d, ofN_d, lenL_d, andB_d, minI_d, br_if]
    rw [if_pos (by omega), if_pos (by omega), if_pos (by omega), ixR ks i hi, add1 i (by omega)]
    have e : setL (.int .i64) ks (i : Int) (min ks[i] 1) = ks.set i (min ks[i] 1) := by unfold setL; rw [Int.toNat_natCast]
    rw [e, ih (i + 1) _ _ _ _ _ _ (by rw [List.length_set]; omega) h2 (by omega) (by omega)]
    have e1 : (ks.set i (min ks[i] 1)).take (i + 1) = ks.take i ++ [min ks[i] 1] := by
      rw [List.take_succ_eq_append_getElem (by rw [List.length_set]; exact hi), List.getElem_set_self, List.take_set_of_le (by omega)]
    have e2 : (ks.set i (min ks[i] 1)).drop (i + 1) = ks.drop (i + 1) := List.drop_set_of_lt (by omega)
    rw [e1, e2, List.drop_eq_getElem_cons hi, List.map_cons, List.append_assoc]
    rfl
theorem hbare_any (n : NodeV) (h : okN n) : heap_bare n = some (bareV n) := by
  have hk := h.kids
  rw [heap_bare.eq, copy_any n h, bnd_some]
  have := hbare_loop n.2.2.2.2.1.length n.2.2.2.2.1.length 0 n.2.2.2.2.1 (n.1, (n.2.1, (n.2.2.1, (n.2.2.2.1, ((), (n.2.2.2.2.2.1, ((), n.2.2.2.2.2.2.2))))))) ((0 : Int), (ByteArray.empty, (ByteArray.empty, ((0 : Int), ((), ((0 : Int), ((), ((0 : Int), ((0 : Int), ()))))))))) n.2.2.2.2.2.2.1 [] [] rfl (by omega) (by omega) (by omega)
  rw [List.take_zero, List.drop_zero, List.nil_append, show ((0 : Nat) : Int) = 0 from rfl] at this
  exact this
theorem bare_okN {n : NodeV} (h : okN n) : okN (bareV n) := ⟨h.key, h.val, h.map0, h.map1, by show (n.2.2.2.2.1.map (min · 1)).length ≤ _; rw [List.length_map]; exact h.kids, h.list, h.binds⟩
theorem bare_iff (a b : NodeV) : bareV a = bareV b ↔ stripV a = stripV b ∧ (allK a).map (min · 1) = (allK b).map (min · 1) := by
  rw [node_ext, node_ext]
  unfold bareV stripV allK
  dsimp only
  rw [List.map_append, List.map_append, List.map_singleton, List.map_singleton]
  constructor
  · rintro ⟨h1, h2, h3, h4, h5, h6, h7, h8, _⟩
    exact ⟨⟨h1, h2, h3, h4, rfl, rfl, h7, h8, rfl⟩, by rw [h5, h6]⟩
  · rintro ⟨⟨h1, h2, h3, h4, _, _, h7, h8, _⟩, h5⟩
    obtain ⟨h5, h6⟩ := List.append_inj' h5 rfl
    injection h6 with h6
    exact ⟨h1, h2, h3, h4, h5, h6, h7, h8, rfl⟩
/-- References, none among them, against what is below them. -/
theorem kids_iff {h g : List NodeV} (hz : ∀ k ∈ ([] : List Int), True) : ∀ (l m : List Int), (∀ k ∈ l, 0 ≤ k ∧ (U h k = .nil ↔ k = 0)) → (∀ k ∈ m, 0 ≤ k ∧ (U g k = .nil ↔ k = 0)) →
    ((l.map (min · 1) = m.map (min · 1) ∧ (l.filter (fun r => decide (r ≠ 0))).map (U h) = (m.filter (fun r => decide (r ≠ 0))).map (U g)) ↔ l.map (U h) = m.map (U g))
  | [], [], _, _ => by simp
  | [], b :: m, _, _ => by simp
  | a :: l, [], _, _ => by simp
  | a :: l, b :: m, ha, hb => by
    have ih := kids_iff hz l m (fun k hk => ha k (List.mem_cons_of_mem _ hk)) (fun k hk => hb k (List.mem_cons_of_mem _ hk))
    obtain ⟨a0, a1⟩ := ha a List.mem_cons_self
    obtain ⟨b0, b1⟩ := hb b List.mem_cons_self
    rw [List.map_cons, List.map_cons, List.map_cons, List.map_cons, List.cons.injEq, List.cons.injEq, ← ih]
    by_cases ea : a = 0
    · by_cases eb : b = 0
      · have ua := a1.2 ea
        have ub := b1.2 eb
        rw [List.filter_cons_of_neg (by simp [ea]), List.filter_cons_of_neg (by simp [eb]), ua, ub]
        constructor
        · rintro ⟨⟨_, h1⟩, h2⟩; exact ⟨rfl, h1, h2⟩
        · rintro ⟨_, h1, h2⟩; exact ⟨⟨by omega, h1⟩, h2⟩
      · constructor
        · rintro ⟨⟨h1, _⟩, _⟩; omega
        · rintro ⟨h1, _⟩
          exact absurd (b1.1 (h1.symm.trans (a1.2 ea))) eb
    · by_cases eb : b = 0
      · constructor
        · rintro ⟨⟨h1, _⟩, _⟩; omega
        · rintro ⟨h1, _⟩
          exact absurd (a1.1 (h1.trans (b1.2 eb))) ea
      · rw [List.filter_cons_of_pos (by simp [ea]), List.filter_cons_of_pos (by simp [eb]), List.map_cons, List.map_cons, List.cons.injEq]
        constructor
        · rintro ⟨⟨_, h1⟩, h2, h3⟩; exact ⟨h2, h1, h3⟩
        · rintro ⟨h2, h1, h3⟩; exact ⟨⟨by omega, h1⟩, h2, h3⟩
theorem shape_iff {h g : List NodeV} (hm : mayH h = true) (gm : mayH g = true) {r s : Int} (h1 : 1 ≤ r) (h2 : r ≤ h.length) (g1 : 1 ≤ s) (g2 : s ≤ g.length) :
    U h r = U g s ↔ bareV (getN h r) = bareV (getN g s) ∧ (refsS (getN h r)).map (U h) = (refsS (getN g s)).map (U g) := by
  rw [U_node hm h1 h2, U_node gm g1 g2, bare_iff, refsS_all, refsS_all, Shp.node.injEq, and_assoc]
  refine and_congr_right fun _ => (kids_iff (fun _ hk => by cases hk) _ _ (fun k hk => ?_) (fun k hk => ?_)).symm
  · have := (may_node hm h1 h2).2 k hk
    exact ⟨by omega, U_nil hm (by omega) (by omega)⟩
  · have := (may_node gm g1 g2).2 k hk
    exact ⟨by omega, U_nil gm (by omega) (by omega)⟩
theorem min_filter : ∀ (l m : List Int), l.map (min · 1) = m.map (min · 1) → (∀ k ∈ l, 0 ≤ k) → (∀ k ∈ m, 0 ≤ k) → (l.filter (fun r => decide (r ≠ 0))).length = (m.filter (fun r => decide (r ≠ 0))).length
  | [], [], _, _, _ => rfl
  | [], _ :: _, h, _, _ => by cases h
  | _ :: _, [], h, _, _ => by cases h
  | a :: l, b :: m, h, ha, hb => by
    rw [List.map_cons, List.map_cons, List.cons.injEq] at h
    have ih := min_filter l m h.2 (fun k hk => ha k (List.mem_cons_of_mem _ hk)) (fun k hk => hb k (List.mem_cons_of_mem _ hk))
    have a0 := ha a List.mem_cons_self
    have b0 := hb b List.mem_cons_self
    by_cases ea : a = 0
    · have eb : b = 0 := by have := h.1; omega
      rw [List.filter_cons_of_neg (by simp [ea]), List.filter_cons_of_neg (by simp [eb])]; exact ih
    · have eb : b ≠ 0 := by have := h.1; omega
      rw [List.filter_cons_of_pos (by simp [ea]), List.filter_cons_of_pos (by simp [eb]), List.length_cons, List.length_cons, ih]
theorem hsame_loop {h g : List NodeV} (x y : List Int) (hx : x.length ≤ 50000000) (hxy : x.length = y.length) (hb : ∀ (a b : Int), a ∈ x → b ∈ y → heap_same h a g b = some (eqSh (U h a) (U g b))) (d : Nat) : ∀ (i : Nat), i ≤ x.length → x.length - i = d →
    heap_same.l1 h g x y x.length i = some (eqShL ((x.drop i).map (U h)) ((y.drop i).map (U g))) := by
  induction d with
  | zero =>
    intro i h1 h2
    rw [heap_same.l1.eq]
    simp only [ltI_d, br_if]
    rw [if_neg (by omega), List.drop_eq_nil_of_le (by omega), List.drop_eq_nil_of_le (by omega), List.map_nil, List.map_nil, eqShL_nil]
  | succ d ih =>
    intro i h1 h2
    have hi : i < x.length := by omega
    have hj : i < y.length := by omega
    rw [heap_same.l1.eq]
    simp only [ltI_d, leI_d, ofN_d, lenL_d, andB_d, br_if]
    rw [if_pos (by omega), if_pos (by omega), if_pos (by omega), ixR x i hi, ixR y i hj, hb _ _ (List.getElem_mem hi) (List.getElem_mem hj), bnd_some, add1 i (by omega), ih (i + 1) (by omega) (by omega), List.drop_eq_getElem_cons hi, List.drop_eq_getElem_cons hj, List.map_cons, List.map_cons, eqShL_cons]
    cases eqSh (U h x[i]) (U g y[i]) with
    | true => rw [show notB true = false from rfl, br_f, Bool.true_and]
    | false => rw [show notB false = true from rfl, br_t, Bool.false_and]
theorem hsame_any {h g : List NodeV} (ho : okH h) (hm : mayH h = true) (go : okH g) (gm : mayH g = true) : ∀ (n : Nat) (r s : Int), 0 ≤ r → r ≤ n → r ≤ h.length → 0 ≤ s → s ≤ g.length → heap_same h r g s = some (eqSh (U h r) (U g s)) := by
  have hlen := ho.len
  have glen := go.len
  have zero : ∀ r s : Int, 0 ≤ r → r ≤ h.length → 0 ≤ s → s ≤ g.length → (r = 0 ∨ s = 0) → heap_same h r g s = some (eqSh (U h r) (U g s)) := by
    intro r s h0 h1 g0 g1 hz
    have hj : heap_same.j0 h r g s true = some (eqSh (U h r) (U g s)) := by
      rw [heap_same.j0.eq, br_t, eqI_d]
      refine some_bool ?_
      by_cases e : r = s
      · have e1 : r = 0 := by omega
        have e2 : s = 0 := by omega
        subst e1; subst e2
        rw [U_zero, U_zero, decide_eq_true rfl, eqSh_iff.2 rfl]
      · rw [decide_eq_false e, eqSh_not]
        intro q
        rcases hz with rfl | rfl
        · rw [U_zero] at q; exact e ((U_nil gm g0 g1).1 q.symm).symm
        · rw [U_zero] at q; exact e ((U_nil hm h0 h1).1 q)
    rw [heap_same.eq]
    simp only [eqI_d, br_if]
    by_cases e : r = 0
    · rw [if_pos e]; exact hj
    · rw [if_neg e, decide_eq_true (hz.resolve_left e)]; exact hj
  intro n
  induction n with
  | zero =>
    intro r s h0 h1 h2 g0 g1
    exact zero r s h0 h2 g0 g1 (.inl (by omega))
  | succ n ih =>
    intro r s h0 h1 h2 g0 g1
    by_cases er : r = 0
    · exact zero r s h0 h2 g0 g1 (.inl er)
    by_cases es : s = 0
    · exact zero r s h0 h2 g0 g1 (.inr es)
    have hr1 : 1 ≤ r := by omega
    have hs1 : 1 ≤ s := by omega
    have o := ho.node _ (getN_mem h r hr1 h2)
    have p := go.node _ (getN_mem g s hs1 g1)
    have hx := (may_node hm hr1 h2).2
    have hy := (may_node gm hs1 g1).2
    have hrl := refsS_len (getN h r)
    have hkl := o.kids
    rw [heap_same.eq, eqI_d, br_if, if_neg er, eqI_d, decide_eq_false es, heap_same.j0.eq, br_f, inG h r hr1 h2 (by omega), br_t, inG g s hs1 g1 (by omega), br_t, ixG h r hr1 h2 (by omega), ixG g s hs1 g1 (by omega)]
    simp only [both_self]
    rw [hbare_any _ o, bnd_some, hbare_any _ p, bnd_some, same_any _ _ (bare_okN o), bnd_some, notB_d, br_if, refs_any _ o, bnd_some, refs_any _ p, bnd_some]
    by_cases hb : bareV (getN h r) = bareV (getN g s)
    · rw [if_neg (by intro q; exact q hb)]
      have hl : (refsS (getN h r)).length = (refsS (getN g s)).length := by
        rw [refsS_all, refsS_all]
        refine min_filter _ _ ((bare_iff _ _).1 hb).2 (fun k hk => ?_) (fun k hk => ?_)
        · have := hx k hk; omega
        · have := hy k hk; omega
      have := hsame_loop (h := h) (g := g) (refsS (getN h r)) (refsS (getN g s)) (by omega) hl (fun a b ha hb' => by
        rw [refsS_all] at ha hb'
        have k1 := hx a (List.mem_filter.1 ha).1
        have k2 := hy b (List.mem_filter.1 hb').1
        exact ih a b (by omega) (by omega) (by omega) (by omega) (by omega)) (refsS (getN h r)).length 0 (by omega) (by omega)
      rw [List.drop_zero, List.drop_zero, show ((0 : Nat) : Int) = 0 from rfl] at this
      refine this.trans (some_bool ?_)
      rw [Bool.eq_iff_iff, eqShL_iff, eqSh_iff, shape_iff hm gm hr1 h2 hs1 g1]
      exact ⟨fun q => ⟨hb, q⟩, fun q => q.2⟩
    · rw [if_pos hb]
      refine some_bool (eqSh_not ?_).symm
      intro q
      exact hb ((shape_iff hm gm hr1 h2 hs1 g1).1 q).1
theorem hSame_any (h g : List NodeV) (ho : okH h) (go : okH g) (r s : Int) : heap_Same h r g s = some (fitH h r && (fitH g s && eqSh (U h r) (U g s))) := by
  rw [heap_Same.eq, hmay_any h ho, bnd_some, eqI_d, br_if]
  cases h1 : fitH h r with
  | false => rw [if_neg (by simp), Bool.false_and]
  | true =>
    rw [if_pos (by simp), hmay_any g go, bnd_some, eqI_d, br_if]
    cases h2 : fitH g s with
    | false => rw [if_neg (by simp)]; rfl
    | true =>
      obtain ⟨⟨a, b⟩, c⟩ := fitH_iff.1 h1
      obtain ⟨⟨a', b'⟩, c'⟩ := fitH_iff.1 h2
      rw [if_pos (by simp), hsame_any ho c go c' r.toNat r s a (by omega) b a' b', bnd_some]
      rfl
/-! ### The document's -/
theorem shp_loop {h g : List NodeV} (a b : NodeV) (oa : okN a) (ob : okN b) (hl : a.2.2.2.2.1.length = b.2.2.2.2.1.length) (hb : ∀ (x y : Int), x ∈ allK a → y ∈ allK b → ref17_shape h x g y = some (eqSh (U h x) (U g y))) (d : Nat) : ∀ (i : Nat), i ≤ a.2.2.2.2.1.length → a.2.2.2.2.1.length - i = d →
    ref17_shape.l1 h g i a b = some (eqShL ((a.2.2.2.2.1.drop i).map (U h)) ((b.2.2.2.2.1.drop i).map (U g)) && (eqSh (U h a.2.2.2.2.2.1) (U g b.2.2.2.2.2.1) && decide (stripV a = stripV b))) := by
  have ka := oa.kids
  have la := oa.list
  induction d with
  | zero =>
    intro i h1 h2
    rw [ref17_shape.l1.eq]
    simp only [ltI_d, ofN_d, lenL_d, br_if]
    rw [if_neg (by omega), hb a.2.2.2.2.2.1 b.2.2.2.2.2.1 (by unfold allK; simp) (by unfold allK; simp), bnd_some, refsame_any _ _ (by show 0 ≤ _; omega) (by show a.2.2.2.2.2.2.1.length ≤ _; omega), bnd_some, List.drop_eq_nil_of_le (by omega), List.drop_eq_nil_of_le (by omega), List.map_nil, List.map_nil, eqShL_nil, Bool.true_and]
    cases eqSh (U h a.2.2.2.2.2.1) (U g b.2.2.2.2.2.1) with
    | true => rw [show notB true = false from rfl, br_f, Bool.true_and]; rfl
    | false => rw [show notB false = true from rfl, br_t, Bool.false_and]
  | succ d ih =>
    intro i h1 h2
    have hi : i < a.2.2.2.2.1.length := by omega
    have hj : i < b.2.2.2.2.1.length := by omega
    rw [ref17_shape.l1.eq]
    simp only [ltI_d, leI_d, ofN_d, lenL_d, andB_d, br_if]
    rw [if_pos (by omega), if_pos (by omega), if_pos (by omega), ixR _ i hi, ixR _ i hj, hb _ _ (by unfold allK; exact List.mem_append_left _ (List.getElem_mem hi)) (by unfold allK; exact List.mem_append_left _ (List.getElem_mem hj)), bnd_some, add1 i (by omega), ih (i + 1) (by omega) (by omega), List.drop_eq_getElem_cons hi, List.drop_eq_getElem_cons hj, List.map_cons, List.map_cons, eqShL_cons]
    cases eqSh (U h a.2.2.2.2.1[i]) (U g b.2.2.2.2.1[i]) with
    | true => rw [show notB true = false from rfl, br_f, Bool.true_and]
    | false => rw [show notB false = true from rfl, br_t, Bool.false_and, Bool.false_and]
theorem shape_any {h g : List NodeV} (ho : okH h) (hm : mayH h = true) (go : okH g) (gm : mayH g = true) : ∀ (n : Nat) (r s : Int), 0 ≤ r → r ≤ n → r ≤ h.length → 0 ≤ s → s ≤ g.length → ref17_shape h r g s = some (eqSh (U h r) (U g s)) := by
  have hlen := ho.len
  have glen := go.len
  have zero : ∀ r s : Int, 0 ≤ r → r ≤ h.length → 0 ≤ s → s ≤ g.length → (r = 0 ∨ s = 0) → ref17_shape h r g s = some (eqSh (U h r) (U g s)) := by
    intro r s h0 h1 g0 g1 hz
    have hj : ref17_shape.j0 h r g s true = some (eqSh (U h r) (U g s)) := by
      rw [ref17_shape.j0.eq, br_t]
      simp only [eqI_d, br_if]
      by_cases e : r = 0
      · rw [if_pos e]
        subst e
        refine some_bool ?_
        rw [U_zero]
        by_cases e2 : s = 0
        · subst e2; rw [U_zero, decide_eq_true rfl, eqSh_iff.2 rfl]
        · rw [decide_eq_false e2, eqSh_not (fun q => e2 ((U_nil gm g0 g1).1 q.symm))]
      · rw [if_neg e]
        have e2 := hz.resolve_left e
        subst e2
        rw [U_zero, eqSh_not (fun q => e ((U_nil hm h0 h1).1 q))]
    rw [ref17_shape.eq]
    simp only [eqI_d, br_if]
    by_cases e : r = 0
    · rw [if_pos e]; exact hj
    · rw [if_neg e, decide_eq_true (hz.resolve_left e)]; exact hj
  intro n
  induction n with
  | zero =>
    intro r s h0 h1 h2 g0 g1
    exact zero r s h0 h2 g0 g1 (.inl (by omega))
  | succ n ih =>
    intro r s h0 h1 h2 g0 g1
    by_cases er : r = 0
    · exact zero r s h0 h2 g0 g1 (.inl er)
    by_cases es : s = 0
    · exact zero r s h0 h2 g0 g1 (.inr es)
    have hr1 : 1 ≤ r := by omega
    have hs1 : 1 ≤ s := by omega
    have o := ho.node _ (getN_mem h r hr1 h2)
    have p := go.node _ (getN_mem g s hs1 g1)
    have hx := (may_node hm hr1 h2).2
    have hy := (may_node gm hs1 g1).2
    have hkl := o.kids
    rw [ref17_shape.eq, eqI_d, br_if, if_neg er, eqI_d, decide_eq_false es, ref17_shape.j0.eq, br_f, inG h r hr1 h2 (by omega), br_t, inG g s hs1 g1 (by omega), br_t, ixG h r hr1 h2 (by omega), ixG g s hs1 g1 (by omega)]
    simp only [both_self, eqI_d, ofN_d, lenL_d, notB_d, br_if]
    by_cases hb : (getN h r).2.2.2.2.1.length = (getN g s).2.2.2.2.1.length
    · rw [if_neg (by omega)]
      have := shp_loop (h := h) (g := g) (getN h r) (getN g s) o p hb (fun a b ha hb' => by
        have k1 := hx a ha
        have k2 := hy b hb'
        exact ih a b (by omega) (by omega) (by omega) (by omega) (by omega)) (getN h r).2.2.2.2.1.length 0 (by omega) (by omega)
      rw [List.drop_zero, List.drop_zero, show ((0 : Nat) : Int) = 0 from rfl] at this
      refine this.trans (some_bool ?_)
      rw [Bool.eq_iff_iff, Bool.and_eq_true, Bool.and_eq_true, eqShL_iff, eqSh_iff, eqSh_iff, decide_eq_true_iff, U_node hm hr1 h2, U_node gm hs1 g1, Shp.node.injEq]
      unfold allK
      rw [List.map_append, List.map_append]
      constructor
      · rintro ⟨q1, q2, q3⟩
        exact ⟨q3, by rw [q1, List.map_singleton, List.map_singleton, q2]⟩
      · rintro ⟨q3, q1⟩
        obtain ⟨q1, q2⟩ := List.append_inj' q1 rfl
        injection q2 with q2
        exact ⟨q1, q2, q3⟩
    · rw [if_pos (by omega)]
      refine some_bool (eqSh_not ?_).symm
      intro q
      rw [U_node hm hr1 h2, U_node gm hs1 g1, Shp.node.injEq] at q
      have := congrArg List.length q.2
      rw [List.length_map, List.length_map, allK_len, allK_len] at this
      omega
theorem refSame_any (h g : List NodeV) (ho : okH h) (go : okH g) (r s : Int) : ref17_Same h r g s = some (fitH h r && (fitH g s && eqSh (U h r) (U g s))) := by
  rw [ref17_Same.eq, fits_any h ho, bnd_some]
  cases h1 : fitH h r with
  | false => rw [br_f, Bool.false_and]
  | true =>
    rw [br_t, fits_any g go, bnd_some]
    cases h2 : fitH g s with
    | false => rw [br_f]; rfl
    | true =>
      obtain ⟨⟨a, b⟩, c⟩ := fitH_iff.1 h1
      obtain ⟨⟨a', b'⟩, c'⟩ := fitH_iff.1 h2
      rw [br_t, shape_any ho c go c' r.toNat r s a (by omega) b a' b', bnd_some]
      rfl
end Go.Proofs.Ytmopkbmcilolgaa.AD
set_option linter.unusedVariables false
set_option linter.unusedSimpArgs false
namespace Go.Proofs.Ytmopkbmcilolgaa.AD
open Go.Abs
theorem refs_may {h : List NodeV} (hm : mayH h = true) {j : Int} (h1 : 1 ≤ j) (h2 : j ≤ h.length) {i : Int} (hi : i ∈ refsS (getN h j)) : 1 ≤ i ∧ i ≤ j - 1 := by
  rw [refsS_all] at hi
  obtain ⟨ha, hb⟩ := List.mem_filter.1 hi
  have := (may_node hm h1 h2).2 i ha
  simp at hb
  omega
/-- Is a node below a reference, or the reference's own? -/
inductive Bel (h : List NodeV) (r : Int) : Int → Prop
  | self : Bel h r r
  | step {j i : Int} : Bel h r j → i ∈ refsS (getN h j) → Bel h r i
theorem Bel.in_ {h : List NodeV} (hm : mayH h = true) {r i : Int} (h1 : 1 ≤ r) (h2 : r ≤ h.length) (b : Bel h r i) : 1 ≤ i ∧ i ≤ r := by
  induction b with
  | self => omega
  | step _ hi ih =>
    have := refs_may hm (by omega) (by omega) hi
    omega
theorem Bel.head {h : List NodeV} {r c i : Int} (hc : c ∈ refsS (getN h r)) (b : Bel h c i) : Bel h r i := by
  induction b with
  | self => exact .step .self hc
  | step _ hi ih => exact .step ih hi
theorem Bel.split {h : List NodeV} {r i : Int} : Bel h r i ↔ i = r ∨ ∃ c ∈ refsS (getN h r), Bel h c i := by
  constructor
  · intro b
    induction b with
    | self => exact .inl rfl
    | step hb0 hi ih =>
      rcases ih with rfl | ⟨c, hc, hb⟩
      · exact .inr ⟨_, hi, .self⟩
      · exact .inr ⟨c, hc, .step hb hi⟩
  · rintro (rfl | ⟨c, hc, hb⟩)
    · exact .self
    · exact Bel.head hc hb
theorem Bel.last {h : List NodeV} {r i : Int} : Bel h r i ↔ i = r ∨ ∃ j, Bel h r j ∧ i ∈ refsS (getN h j) := by
  constructor
  · intro b
    cases b with
    | self => exact .inl rfl
    | step hb hi => exact .inr ⟨_, hb, hi⟩
  · rintro (rfl | ⟨j, hb, hi⟩)
    · exact .self
    · exact .step hb hi
open Classical in
noncomputable def belB (h : List NodeV) (r i : Int) : Bool := if 1 ≤ r ∧ Bel h r i then true else false
theorem belB_iff {h : List NodeV} {r i : Int} : belB h r i = true ↔ 1 ≤ r ∧ Bel h r i := by
  unfold belB
  split <;> simp_all
/-- From so many on down. -/
def desc (p : Int → Bool) : Nat → List Int
  | 0 => []
  | n + 1 => if p ((n + 1 : Nat) : Int) = true then ((n + 1 : Nat) : Int) :: desc p n else desc p n
theorem desc_len (p : Int → Bool) : ∀ n, (desc p n).length ≤ n
  | 0 => Nat.le_refl _
  | n + 1 => by
    have := desc_len p n
    unfold desc
    split
    · rw [List.length_cons]; omega
    · omega
theorem desc_more {p : Int → Bool} {r : Nat} (hp : ∀ i : Nat, r < i → p i = false) : ∀ d, desc p (r + d) = desc p r
  | 0 => rfl
  | d + 1 => by
    show (if p ((r + d + 1 : Nat) : Int) = true then _ else _) = _
    rw [hp (r + d + 1) (by omega), if_neg (by simp)]
    exact desc_more hp d
noncomputable def belS (h : List NodeV) (r : Int) : List Int := desc (belB h r) h.length
theorem belS_r {h : List NodeV} (hm : mayH h = true) {r : Int} (h0 : 0 ≤ r) (h2 : r ≤ h.length) : belS h r = desc (belB h r) r.toNat := by
  unfold belS
  have e : h.length = r.toNat + (h.length - r.toNat) := by omega
  rw [e]
  refine desc_more (fun i hi => ?_) _
  cases hb : belB h r i with
  | false => rfl
  | true =>
    obtain ⟨h1, b⟩ := belB_iff.1 hb
    have := Bel.in_ hm h1 h2 b
    omega
/-! ### Marks -/
def setAll (l : List Bool) : List Int → List Bool
  | [] => l
  | t :: ts => setAll (l.set t.toNat true) ts
theorem setAll_len : ∀ (ts : List Int) (l : List Bool), (setAll l ts).length = l.length
  | [], _ => rfl
  | t :: ts, l => by
    show (setAll (l.set t.toNat true) ts).length = _
    rw [setAll_len ts, List.length_set]
theorem getD_set (l : List Bool) (i j : Nat) (hi : i < l.length) : (l.set i true).getD j false = (decide (i = j) || l.getD j false) := by
  rw [List.getD_eq_getElem?_getD, List.getD_eq_getElem?_getD, List.getElem?_set]
  by_cases e : i = j
  · subst e
    simp [hi]
  · rw [if_neg e, decide_eq_false e, Bool.false_or]
theorem setAll_get : ∀ (ts : List Int) (l : List Bool) (j : Nat), (∀ t ∈ ts, 0 ≤ t ∧ t < l.length) → ((setAll l ts).getD j false = true ↔ l.getD j false = true ∨ (j : Int) ∈ ts)
  | [], l, j, _ => by simp [setAll]
  | t :: ts, l, j, h => by
    show (setAll (l.set t.toNat true) ts).getD j false = true ↔ _
    have ht := h t (by simp)
    rw [setAll_get ts _ j (fun u hu => by rw [List.length_set]; exact h u (List.mem_cons_of_mem _ hu)), getD_set l _ _ (by omega)]
    simp only [Bool.or_eq_true, decide_eq_true_eq, List.mem_cons]
    constructor
    · rintro ((h1 | h1) | h1)
      · right; left; omega
      · exact .inl h1
      · exact .inr (.inr h1)
    · rintro (h1 | h1 | h1)
      · exact .inl (.inr h1)
      · left; left; omega
      · exact .inr h1
theorem ixB (l : List Bool) (i : Nat) : ixL .bool l (i : Int) = l.getD i false := by
  unfold ixL
  rw [Int.toNat_natCast]
  rfl
theorem setB (l : List Bool) (t : Int) : setL .bool l t true = l.set t.toNat true := rfl
/-! ### The references below one, as they come -/
end Go.Proofs.Ytmopkbmcilolgaa.AD
set_option linter.unusedVariables false
set_option linter.unusedSimpArgs false
namespace Go.Proofs.Ytmopkbmcilolgaa.AD
open Go.Abs
theorem refs1_l2 {h : List NodeV} (s : Int) (refs : List Int) (hr : refs.length ≤ 50000000) (d : Nat) : ∀ (k : Nat) (l : List Bool), k ≤ refs.length → refs.length - k = d → (∀ t ∈ refs, 0 ≤ t ∧ t < l.length) →
    heap_Refs_1.l2 h s refs refs.length k l = heap_Refs_1.l0 h (subI .i64 s 1) (setAll l (refs.drop k)) := by
  induction d with
  | zero =>
    intro k l h1 h2 h3
    rw [heap_Refs_1.l2.eq]
    simp only [ltI_d, br_if]
    rw [if_neg (by omega), List.drop_eq_nil_of_le (by omega)]
    rfl
  | succ d ih =>
    intro k l h1 h2 h3
    have hk : k < refs.length := by omega
    have ht := h3 _ (List.getElem_mem hk)
    rw [heap_Refs_1.l2.eq, ixR refs k hk]
    simp only [ltI_d, leI_d, ofN_d, lenL_d, andB_d, br_if]
    rw [if_pos (by omega), if_pos (by omega), if_pos (by omega), add1 k (by omega), setB, ih (k + 1) _ (by omega) (by omega) (fun t ht' => by rw [List.length_set]; exact h3 t ht'), List.drop_eq_getElem_cons hk]
    rfl
theorem refs1_l0 {h : List NodeV} (ho : okH h) (hm : mayH h = true) {r : Nat} (h1 : 1 ≤ r) (h2 : r ≤ h.length) : ∀ (s : Nat) (l : List Bool), s ≤ r → l.length = r + 1 →
    (∀ i : Nat, 1 ≤ i → i ≤ s → (l.getD i false = true ↔ i = r ∨ ∃ j : Int, (s : Int) < j ∧ Bel h r j ∧ (i : Int) ∈ refsS (getN h j))) →
    heap_Refs_1.l0 h (s : Int) l = some ((desc (belB h r) s).map fun i => (i, ()))
  | 0, l, hs, hl, hi => by
    rw [heap_Refs_1.l0.eq]
    simp only [ltI_d, br_if]
    rw [if_neg (by omega)]
    rfl
  | s + 1, l, hs, hl, hi => by
    have hlen := ho.len
    have hb : l.getD (s + 1) false = belB h r ((s + 1 : Nat) : Int) := by
      rw [Bool.eq_iff_iff, hi (s + 1) (by omega) (by omega), belB_iff, Bel.last]
      constructor
      · rintro (e | ⟨j, hj, b, hr⟩)
        · exact ⟨by omega, .inl (by omega)⟩
        · exact ⟨by omega, .inr ⟨j, b, hr⟩⟩
      · rintro ⟨_, e | ⟨j, b, hr⟩⟩
        · left; omega
        · have hj := Bel.in_ hm (by omega) (by omega) b
          have := refs_may hm hj.1 (by omega) hr
          exact .inr ⟨j, by omega, b, hr⟩
    have es : subI .i64 ((s + 1 : Nat) : Int) 1 = (s : Int) := by rw [sub1I _ (by omega) (by omega)]; omega
    rw [heap_Refs_1.l0.eq, ixB, hb]
    simp only [ltI_d, leI_d, ofN_d, lenL_d, andB_d, br_if]
    rw [if_pos (by omega), if_pos (by rw [hl]; omega)]
    unfold desc
    cases hbl : belB h r ((s + 1 : Nat) : Int) with
    | false =>
      rw [show notB false = true from rfl, br_t, if_neg (by simp), es]
      refine refs1_l0 ho hm h1 h2 s l (by omega) hl fun i i1 i2 => ?_
      rw [hi i i1 (by omega)]
      refine or_congr_right ⟨fun ⟨j, a, b, c⟩ => ⟨j, by omega, b, c⟩, fun ⟨j, a, b, c⟩ => ⟨j, ?_, b, c⟩⟩
      by_cases e : j = ((s + 1 : Nat) : Int)
      · subst e
        rw [belB_iff.2 ⟨by omega, b⟩] at hbl
        cases hbl
      · omega
    | true =>
      have hs1 : 1 ≤ ((s + 1 : Nat) : Int) := by omega
      have hs2 : ((s + 1 : Nat) : Int) ≤ h.length := by omega
      have o := ho.node _ (getN_mem h _ hs1 hs2)
      have hrl := refsS_len (getN h ((s + 1 : Nat) : Int))
      have hkl := o.kids
      rw [show notB true = false from rfl, br_f, if_pos rfl, yieldW_eq, show notB false = true from rfl, heap_Refs_1.j1.eq, heap_Refs_1.j1.eq, br_t, br_f, inG h _ hs1 hs2 (by omega), br_t, ixG h _ hs1 hs2 (by omega), refs_any _ o, bnd_some]
      have hin : ∀ t ∈ refsS (getN h ((s + 1 : Nat) : Int)), 1 ≤ t ∧ t ≤ s := fun t ht => by
        have := refs_may hm hs1 hs2 ht
        omega
      have hin2 : ∀ t ∈ refsS (getN h ((s + 1 : Nat) : Int)), 0 ≤ t ∧ t < l.length := fun t ht => by have := hin t ht; omega
      have e2 := refs1_l2 (h := h) ((s + 1 : Nat) : Int) (refsS (getN h ((s + 1 : Nat) : Int))) (by omega) _ 0 l (by omega) rfl hin2
      rw [show ((0 : Nat) : Int) = 0 from rfl, List.drop_zero] at e2
      have e3 := refs1_l0 ho hm h1 h2 s (setAll l (refsS (getN h ((s + 1 : Nat) : Int)))) (by omega) (by rw [setAll_len]; exact hl) fun i i1 i2 => by
        rw [setAll_get _ _ _ hin2, hi i i1 (by omega)]
        constructor
        · rintro ((e | ⟨j, a, b, c⟩) | hc)
          · exact .inl e
          · exact .inr ⟨j, by omega, b, c⟩
          · exact .inr ⟨_, by omega, (belB_iff.1 hbl).2, hc⟩
        · rintro (e | ⟨j, a, b, c⟩)
          · exact .inl (.inl e)
          · by_cases e : j = ((s + 1 : Nat) : Int)
            · subst e; exact .inr c
            · exact .inl (.inr ⟨j, by omega, b, c⟩)
      show yieldL _ (heap_Refs_1.l2 h _ _ (ofN (lenL (.int .i64) _)) 0 l) _ = _
      rw [show ofN (lenL (.int .i64) (refsS (getN h ((s + 1 : Nat) : Int)))) = ((refsS (getN h ((s + 1 : Nat) : Int))).length : Int) from rfl, e2, es, e3]
      rfl
theorem refs1_any (h : List NodeV) (ho : okH h) (r : Int) : heap_Refs_1 h r = some (if fitH h r = true then (belS h r).map fun i => (i, ()) else []) := by
  have hlen := ho.len
  rw [heap_Refs_1.eq, hmay_any h ho, bnd_some, eqI_d, notB_d, br_if]
  by_cases hf : fitH h r = true
  · rw [if_pos hf, if_pos hf, if_neg (by simp), eqI_d, br_if]
    obtain ⟨⟨a, b⟩, hm⟩ := fitH_iff.1 hf
    by_cases e : r = 0
    · subst e
      rw [if_pos rfl, belS_r hm (by omega) (by omega)]
      rfl
    · rw [if_neg e, belS_r hm a b]
      obtain ⟨q, rfl⟩ : ∃ q : Nat, r = q := ⟨r.toNat, by omega⟩
      have e1 : addI .i64 (q : Int) 1 = ((q + 1 : Nat) : Int) := add1 q (by omega)
      have et : toN (((q + 1 : Nat) : Int)) = q + 1 := Int.toNat_natCast _
      have er : repL .bool (q + 1) false = List.replicate (q + 1) false := rfl
      have eg : andB (fitN (((q + 1 : Nat) : Int))) (eqI ((q + 1 : Nat) : Int) ((q + 1 : Nat) : Int)) = true := by
        unfold andB fitN eqI
        rw [decide_eq_true (by omega), decide_eq_true rfl]
        rfl
      have ei : andB (leI 0 (q : Int)) (ltI (q : Int) (ofN (lenL .bool (List.replicate (q + 1) false)))) = true := by
        unfold lenL
        rw [List.length_replicate]
        unfold andB leI ltI ofN
        rw [decide_eq_true (by omega), decide_eq_true (by omega)]
        rfl
      rw [e1, et, er, eg, br_t, ei, br_t, setB, Int.toNat_natCast]
      have h1 : 1 ≤ q := by omega
      refine refs1_l0 ho hm h1 (by omega) q _ (Nat.le_refl _) (by rw [List.length_set, List.length_replicate]) fun i i1 i2 => ?_
      have hz : (List.replicate (q + 1) false).getD i false = false := by
        rw [List.getD_eq_getElem?_getD, List.getElem?_replicate]
        split <;> rfl
      rw [getD_set _ _ _ (by rw [List.length_replicate]; omega), hz, Bool.or_false, decide_eq_true_eq]
      constructor
      · rintro rfl; exact .inl rfl
      · rintro (e | ⟨j, a, b', c⟩)
        · exact e.symm
        · have := Bel.in_ hm (by omega) b b'
          omega
  · rw [if_neg hf, if_neg hf, if_pos (by omega)]
/-! ### How many -/
theorem count_loop : ∀ (l : List Int) (n : Nat), n + l.length ≤ 50000000 → heap_Count.e0 (l.map fun i => (i, ())) (n : Int) = some (((n + l.length : Nat) : Int), ((0 : Int), ()))
  | [], n, _ => heap_Count.e0.nil _
  | x :: l, n, h => by
    have hl : n + (l.length + 1) ≤ 50000000 := h
    refine (heap_Count.e0.cons (x, ()) (l.map fun i => (i, ())) (n : Int)).trans ?_
    rw [add1 n (by omega), count_loop l (n + 1) (by omega), List.length_cons]
    have : n + 1 + l.length = n + (l.length + 1) := by omega
    rw [this]
theorem hcount_any (h : List NodeV) (ho : okH h) (r : Int) : heap_Count h r = some (if fitH h r = true then (((belS h r).length : Int), ((0 : Int), ())) else ((0 : Int), ((4 : Int), ()))) := by
  have hlen := ho.len
  rw [heap_Count.eq, hmay_any h ho, bnd_some, eqI_d, notB_d, br_if]
  by_cases hf : fitH h r = true
  · rw [if_pos hf, if_pos hf, if_neg (by simp), heap_Refs.eq, bnd_some]
    have e := refs1_any h ho r
    rw [if_pos hf] at e
    show bnd (heap_Refs_1 h r) _ = _
    rw [e, bnd_some]
    have hd := desc_len (belB h r) h.length
    have := count_loop (belS h r) 0 (by unfold belS; omega)
    rw [Nat.zero_add, show ((0 : Nat) : Int) = 0 from rfl] at this
    exact this
  · rw [if_neg hf, if_neg hf, if_pos (by omega)]
end Go.Proofs.Ytmopkbmcilolgaa.AD
set_option linter.unusedVariables false
set_option linter.unusedSimpArgs false
namespace Go.Proofs.Ytmopkbmcilolgaa.AD
open Go.Abs
mutual
def depthT : Shp → Nat
  | .nil => 0
  | .node _ l => depthL l + 1
def depthL : List Shp → Nat
  | [] => 0
  | x :: l => max (depthT x) (depthL l)
end
theorem depthT_nil : depthT .nil = 0 := by rw [depthT]
theorem depthT_node (b : NodeV) (l : List Shp) : depthT (.node b l) = depthL l + 1 := by rw [depthT]
def dep (h : List NodeV) (r : Int) : Nat := depthT (U h r)
theorem dep_zero (h : List NodeV) : dep h 0 = 0 := by unfold dep; rw [U_zero, depthT_nil]
def mxD (h : List NodeV) : List Int → Nat
  | [] => 0
  | x :: l => max (dep h x) (mxD h l)
theorem mxD_filter (h : List NodeV) : ∀ l : List Int, depthL (l.map (U h)) = mxD h (l.filter (fun r => decide (r ≠ 0)))
  | [] => by show depthL [] = 0; rw [depthL]
  | x :: l => by
    rw [List.map_cons, depthL, mxD_filter h l]
    by_cases e : x = 0
    · subst e
      rw [List.filter_cons_of_neg (by simp), U_zero, depthT_nil, Nat.zero_max]
    · rw [List.filter_cons_of_pos (by simp [e])]
      rfl
theorem dep_node {h : List NodeV} (hm : mayH h = true) {r : Int} (h1 : 1 ≤ r) (h2 : r ≤ h.length) : dep h r = mxD h (refsS (getN h r)) + 1 := by
  unfold dep
  rw [U_node hm h1 h2, depthT_node, mxD_filter, ← refsS_all]
theorem mxD_le {h : List NodeV} {m : Nat} : ∀ l : List Int, (∀ x ∈ l, dep h x ≤ m) → mxD h l ≤ m
  | [], _ => Nat.zero_le _
  | x :: l, hx => by
    have h1 := hx x (by simp)
    have h2 := mxD_le l fun y hy => hx y (List.mem_cons_of_mem _ hy)
    show max _ _ ≤ m
    omega
theorem dep_le {h : List NodeV} (hm : mayH h = true) : ∀ (n : Nat) (r : Int), 0 ≤ r → r ≤ n → r ≤ h.length → dep h r ≤ r.toNat := by
  intro n
  induction n with
  | zero =>
    intro r h0 h1 h2
    have : r = 0 := by omega
    subst this
    rw [dep_zero]; exact Nat.zero_le _
  | succ n ih =>
    intro r h0 h1 h2
    by_cases e : r = 0
    · subst e; rw [dep_zero]; exact Nat.zero_le _
    rw [dep_node hm (by omega) h2]
    have := mxD_le (h := h) (m := (r - 1).toNat) (refsS (getN h r)) fun x hx => by
      have hx := refs_may hm (by omega) h2 hx
      have := ih x (by omega) (by omega) (by omega)
      omega
    omega
theorem refdepth_loop {h : List NodeV} (refs : List Int) (hr : refs.length ≤ 50000000) (m : Nat) (hm : m ≤ 50000000) (hb : ∀ x ∈ refs, ref17_Depth h x = some (dep h x : Int) ∧ dep h x ≤ m) (d : Nat) : ∀ (k n : Nat), k ≤ refs.length → refs.length - k = d → n ≤ m →
    ref17_Depth.l0 h (n : Int) refs (k : Int) = some ((max n (mxD h (refs.drop k)) + 1 : Nat) : Int) := by
  induction d with
  | zero =>
    intro k n h1 h2 h3
    rw [ref17_Depth.l0.eq, List.drop_eq_nil_of_le (by omega)]
    simp only [ltI_d, ofN_d, lenL_d, br_if]
    rw [if_neg (by omega), add1 n (by omega)]
    show some _ = some (((max n 0 + 1 : Nat)) : Int)
    rw [Nat.max_zero]
  | succ d ih =>
    intro k n h1 h2 h3
    have hk : k < refs.length := by omega
    obtain ⟨b1, b2⟩ := hb _ (List.getElem_mem hk)
    rw [ref17_Depth.l0.eq, ixR refs k hk, b1, bnd_some]
    simp only [ltI_d, leI_d, ofN_d, lenL_d, andB_d, maxI_d, br_if]
    have e : max (n : Int) (dep h refs[k] : Int) = ((max n (dep h refs[k]) : Nat) : Int) := by omega
    rw [if_pos (by omega), if_pos (by omega), add1 k (by omega), e, ih (k + 1) _ (by omega) (by omega) (by omega), List.drop_eq_getElem_cons hk]
    show some _ = some (((max n (max (dep h refs[k]) (mxD h (refs.drop (k + 1)))) + 1 : Nat)) : Int)
    rw [Nat.max_assoc]
theorem refdepth_any {h : List NodeV} (ho : okH h) (hm : mayH h = true) : ∀ (n : Nat) (r : Int), 0 ≤ r → r ≤ n → r ≤ h.length → ref17_Depth h r = some (dep h r : Int) := by
  have hlen := ho.len
  intro n
  induction n with
  | zero =>
    intro r h0 h1 h2
    have : r = 0 := by omega
    subst this
    rw [ref17_Depth.eq, eqI_d, br_if, if_pos rfl, dep_zero]
    rfl
  | succ n ih =>
    intro r h0 h1 h2
    by_cases e : r = 0
    · subst e
      rw [ref17_Depth.eq, eqI_d, br_if, if_pos rfl, dep_zero]
      rfl
    have o := ho.node _ (getN_mem h r (by omega) h2)
    have hrl := refsS_len (getN h r)
    have hkl := o.kids
    rw [ref17_Depth.eq, eqI_d, br_if, if_neg e, inG h r (by omega) h2 (by omega), br_t, ixG h r (by omega) h2 (by omega), refrefs_any _ o, bnd_some]
    have := refdepth_loop (h := h) (refsS (getN h r)) (by omega) 50000000 (by omega) (fun x hx => by
      have hx := refs_may hm (by omega) h2 hx
      refine ⟨ih x (by omega) (by omega) (by omega), ?_⟩
      have := dep_le hm x.toNat x (by omega) (by omega) (by omega)
      omega) _ 0 0 (by omega) rfl (by omega)
    rw [show ((0 : Nat) : Int) = 0 from rfl, List.drop_zero, Nat.zero_max] at this
    rw [this, dep_node hm (by omega) h2]
end Go.Proofs.Ytmopkbmcilolgaa.AD
set_option linter.unusedVariables false
set_option linter.unusedSimpArgs false
namespace Go.Proofs.Ytmopkbmcilolgaa.AD
open Go.Abs
/-! ### By one sweep -/
theorem ixZ (l : List Int) (i : Nat) : ixL (.int .i64) l (i : Int) = l.getD i 0 := by
  unfold ixL
  rw [Int.toNat_natCast]
  rfl
theorem setZ (l : List Int) (i : Nat) (z : Int) : setL (.int .i64) l (i : Int) z = l.set i z := by
  unfold setL
  rw [Int.toNat_natCast]
theorem getZ_set (l : List Int) (i j : Nat) (z : Int) (hi : i < l.length) : (l.set i z).getD j 0 = if i = j then z else l.getD j 0 := by
  rw [List.getD_eq_getElem?_getD, List.getD_eq_getElem?_getD, List.getElem?_set]
  by_cases e : i = j
  · subst e
    simp [hi]
  · rw [if_neg e, if_neg e]
theorem set_set (l : List Int) (i : Nat) (a b : Int) : (l.set i a).set i b = l.set i b := List.set_set ..
theorem hdepth_l1 {h : List NodeV} (r : Int) (i : Nat) (hi : i < h.length) (hl : h.length ≤ 50000000) (refs : List Int) (hr : refs.length ≤ 50000000) (hin : ∀ t ∈ refs, 1 ≤ t ∧ t ≤ i) (hd : ∀ t ∈ refs, dep h t ≤ 50000000) (d : Nat) : ∀ (k n : Nat) (l : List Int), k ≤ refs.length → refs.length - k = d → l.length = h.length + 1 → n ≤ 50000000 →
    l.getD (i + 1) 0 = (n : Int) → (∀ t ∈ refs, l.getD t.toNat 0 = (dep h t : Int)) →
    heap_Depth.l1 r (i : Int) h (h.length : Int) (i : Int) refs (refs.length : Int) (k : Int) l = heap_Depth.l0 r h (h.length : Int) ((i + 1 : Nat) : Int) (l.set (i + 1) ((max n (mxD h (refs.drop k)) + 1 : Nat) : Int)) := by
  induction d with
  | zero =>
    intro k n l h1 h2 h3 hn h4 h5
    rw [heap_Depth.l1.eq, List.drop_eq_nil_of_le (by omega), add1 i (by omega), ixZ l (i + 1), h4, add1 n (by omega)]
    simp only [ltI_d, leI_d, ofN_d, lenL_d, andB_d, br_if]
    rw [if_neg (by omega), if_pos (by omega), if_pos (by omega), setZ]
    show _ = heap_Depth.l0 _ _ _ _ (l.set (i + 1) (((max n 0 + 1 : Nat)) : Int))
    rw [Nat.max_zero]
  | succ d ih =>
    intro k n l h1 h2 h3 hn h4 h5
    have hk : k < refs.length := by omega
    have ht := hin _ (List.getElem_mem hk)
    have htd := hd _ (List.getElem_mem hk)
    obtain ⟨q, hq⟩ : ∃ q : Nat, refs[k] = q := ⟨refs[k].toNat, by omega⟩
    have h5k := h5 _ (List.getElem_mem hk)
    rw [hq, Int.toNat_natCast] at h5k
    rw [hq] at ht htd
    rw [heap_Depth.l1.eq, ixR refs k hk, hq, add1 i (by omega), ixZ l (i + 1), ixZ l q, h4, h5k, setZ, both_self]
    simp only [ltI_d, leI_d, ofN_d, lenL_d, andB_d, maxI_d, br_if]
    have e : max (n : Int) (dep h (q : Int) : Int) = ((max n (dep h (q : Int)) : Nat) : Int) := by omega
    rw [if_pos (by omega), if_pos (by omega), if_pos (by omega), if_pos (by omega), if_pos (by omega), add1 k (by omega), e]
    rw [ih (k + 1) (max n (dep h (q : Int))) (l.set (i + 1) ((max n (dep h (q : Int)) : Nat) : Int)) (by omega) (by omega) (by rw [List.length_set]; exact h3) (by omega) (by rw [getZ_set _ _ _ _ (by omega), if_pos rfl]) (fun t ht' => by
      have := hin t ht'
      rw [getZ_set _ _ _ _ (by omega), if_neg (by omega)]
      exact h5 t ht'), set_set, List.drop_eq_getElem_cons hk, hq]
    show _ = heap_Depth.l0 _ _ _ _ (l.set (i + 1) (((max n (max (dep h (q : Int)) (mxD h (refs.drop (k + 1)))) + 1 : Nat)) : Int))
    rw [Nat.max_assoc]
theorem hdepth_l0 {h : List NodeV} (ho : okH h) (hm : mayH h = true) {r : Nat} (hr : r ≤ h.length) (d : Nat) : ∀ (i : Nat) (l : List Int), i ≤ h.length → h.length - i = d → l.length = h.length + 1 → (∀ j : Nat, j ≤ h.length → l.getD j 0 = if j ≤ i then (dep h (j : Int) : Int) else 0) →
    heap_Depth.l0 (r : Int) h (h.length : Int) (i : Int) l = some ((dep h (r : Int) : Int), ((0 : Int), ())) := by
  have hlen := ho.len
  induction d with
  | zero =>
    intro i l h1 h2 h3 h4
    rw [heap_Depth.l0.eq, ixZ, h4 r hr, if_pos (by omega)]
    simp only [ltI_d, leI_d, ofN_d, lenL_d, andB_d, br_if]
    rw [if_neg (by omega), if_pos (by omega)]
  | succ d ih =>
    intro i l h1 h2 h3 h4
    have hil : i < h.length := by omega
    have o := ho.node _ (List.getElem_mem hil)
    have hrl := refsS_len h[i]
    have hkl := o.kids
    have eg : getN h ((i + 1 : Nat) : Int) = h[i] := by
      have := getN_ix h i hil
      rwa [show ((i + 1 : Nat) : Int) = (i : Int) + 1 by omega]
    have hin : ∀ t ∈ refsS h[i], 1 ≤ t ∧ t ≤ i := fun t ht => by
      have := refs_may hm (j := ((i + 1 : Nat) : Int)) (by omega) (by omega) (i := t) (by rw [eg]; exact ht)
      omega
    have hdl : ∀ t ∈ refsS h[i], dep h t ≤ 50000000 := fun t ht => by
      have h1 := hin t ht
      have := dep_le hm t.toNat t (by omega) (by omega) (by omega)
      omega
    rw [heap_Depth.l0.eq, ixN h i hil, refs_any _ o, bnd_some]
    simp only [ltI_d, leI_d, ofN_d, lenL_d, andB_d, br_if]
    rw [if_pos (by omega), if_pos (by omega)]
    have e1 := hdepth_l1 (h := h) (r : Int) i hil (by omega) (refsS h[i]) (by omega) hin hdl _ 0 0 l (by omega) rfl h3 (by omega) (by rw [h4 (i + 1) (by omega), if_neg (by omega)]; rfl) (fun t ht => by
      have h1 := hin t ht
      rw [h4 t.toNat (by omega), if_pos (by omega)]
      congr 2
      omega)
    rw [show ((0 : Nat) : Int) = 0 from rfl, List.drop_zero, Nat.zero_max] at e1
    rw [e1]
    refine ih (i + 1) _ (by omega) (by omega) (by rw [List.length_set]; exact h3) fun j hj => ?_
    rw [getZ_set _ _ _ _ (by omega)]
    by_cases e : i + 1 = j
    · subst e
      rw [if_pos rfl, if_pos (by omega), dep_node hm (by omega) (by omega), eg]
    · rw [if_neg e, h4 j hj]
      by_cases e2 : j ≤ i
      · rw [if_pos e2, if_pos (by omega)]
      · rw [if_neg e2, if_neg (by omega)]
theorem hdepth_any (h : List NodeV) (ho : okH h) (r : Int) : heap_Depth h r = some (if fitH h r = true then ((dep h r : Int), ((0 : Int), ())) else ((0 : Int), ((4 : Int), ()))) := by
  have hlen := ho.len
  rw [heap_Depth.eq, hmay_any h ho, bnd_some, eqI_d, notB_d, br_if]
  by_cases hf : fitH h r = true
  · rw [if_pos hf, if_pos hf, if_neg (by simp)]
    obtain ⟨⟨a, b⟩, hm⟩ := fitH_iff.1 hf
    obtain ⟨q, rfl⟩ : ∃ q : Nat, r = q := ⟨r.toNat, by omega⟩
    have e1 : addI .i64 (ofN (lenL tapiNode h)) 1 = ((h.length + 1 : Nat) : Int) := add1 h.length (by omega)
    have et : toN (((h.length + 1 : Nat) : Int)) = h.length + 1 := Int.toNat_natCast _
    have eg : andB (fitN (((h.length + 1 : Nat) : Int))) (eqI ((h.length + 1 : Nat) : Int) ((h.length + 1 : Nat) : Int)) = true := by
      unfold andB fitN eqI
      rw [decide_eq_true (by omega), decide_eq_true rfl]
      rfl
    rw [e1, et, eg, br_t]
    refine hdepth_l0 ho hm (by omega) h.length 0 _ (by omega) (by omega) List.length_replicate fun j hj => ?_
    have hz : (List.replicate (h.length + 1) (0 : Int)).getD j 0 = 0 := by
      rw [List.getD_eq_getElem?_getD, List.getElem?_replicate]
      split <;> rfl
    show (List.replicate (h.length + 1) (0 : Int)).getD j 0 = _
    rw [hz]
    split
    · have : j = 0 := by omega
      subst this
      show 0 = (dep h 0 : Int)
      rw [dep_zero]; rfl
    · rfl
  · rw [if_neg hf, if_neg hf, if_pos (by omega)]
end Go.Proofs.Ytmopkbmcilolgaa.AD
set_option linter.unusedVariables false
set_option linter.unusedSimpArgs false
namespace Go.Proofs.Ytmopkbmcilolgaa.AD
open Go.Abs
def waysN (n : NodeV) : Nat := max (refsS n).length 1
def prodW : List NodeV → Nat
  | [] => 1
  | n :: l => waysN n * prodW l
theorem prodW_app : ∀ a b : List NodeV, prodW (a ++ b) = prodW a * prodW b
  | [], b => by show prodW b = 1 * prodW b; omega
  | n :: a, b => by
    show waysN n * prodW (a ++ b) = waysN n * prodW a * prodW b
    rw [prodW_app a b, Nat.mul_assoc]
theorem prodW_pos : ∀ a : List NodeV, 1 ≤ prodW a
  | [] => Nat.le_refl _
  | n :: a => by
    have h := prodW_pos a
    have : 1 ≤ waysN n := by unfold waysN; omega
    exact Nat.mul_pos this h
theorem fewW_prod : ∀ (l : List NodeV) (w : Nat), w ≤ 3000 → w * prodW (fewW w l) ≤ 3000
  | [], w, h => by
    show w * 1 ≤ 3000
    omega
  | n :: l, w, h => by
    rw [fewW_cons]
    split
    · show w * 1 ≤ 3000
      omega
    · rename_i hg
      have := fewW_prod l (w * max (refsS (few n)).length 1) (by omega)
      show w * (waysN (few n) * _) ≤ 3000
      rw [← Nat.mul_assoc]
      exact this
theorem fewH_prod (h : List NodeV) : prodW (fewH h) ≤ 3000 := by
  have := fewW_prod (h.take 12) 1 (by omega)
  rw [Nat.one_mul] at this
  exact this
theorem sum_le {A : Type} (f : A → Nat) (M : Nat) : ∀ l : List A, (∀ x ∈ l, f x ≤ M) → (l.map f).sum ≤ l.length * M
  | [], _ => by simp
  | x :: l, h => by
    have ih := sum_le f M l (fun y hy => h y (List.mem_cons_of_mem _ hy))
    have hx := h x List.mem_cons_self
    rw [List.map_cons, List.sum_cons, List.length_cons, Nat.succ_mul]
    omega
theorem flat_len {A : Type} (f : A → List PairV) : ∀ l : List A, ((l.map f).flatten).length = (l.map fun x => (f x).length).sum
  | [] => rfl
  | x :: l => by rw [List.map_cons, List.flatten_cons, List.length_append, flat_len f l, List.map_cons, List.sum_cons]
theorem binds_sum {h : List NodeV} (hm : mayH h = true) {r : Int} (h1 : 1 ≤ r) (h2 : r ≤ h.length) : (bindsT (U h r)).length = (bindsS (getN h r)).length + ((refsS (getN h r)).map fun x => (bindsT (U h x)).length).sum := by
  by_cases h4 : (getN h r).1 = 4
  · obtain ⟨a, b, k1, k2, k3, k4, k5⟩ := bindsU_tree hm h1 h2 h4
    have er : refsS (getN h r) = [a, b].filter (fun r => decide (r ≠ 0)) := by
      rw [refsS_all]
      unfold allK
      rw [k1, k2, List.filter_append]
      show _ ++ [] = _
      rw [List.append_nil]
    have z : (bindsT (U h 0)).length = 0 := by rw [U_zero, bindsT_nil]; rfl
    rw [k5, er, List.length_append, List.length_append]
    by_cases ea : a = 0
    · by_cases eb : b = 0
      · subst ea; subst eb; rw [z]; simp
      · subst ea; rw [z, List.filter_cons_of_neg (by simp), List.filter_cons_of_pos (by simp [eb]), List.filter_nil]
        simp
    · by_cases eb : b = 0
      · subst eb; rw [z, List.filter_cons_of_pos (by simp [ea]), List.filter_cons_of_neg (by simp), List.filter_nil]
        simp; omega
      · rw [List.filter_cons_of_pos (by simp [ea]), List.filter_cons_of_pos (by simp [eb]), List.filter_nil]
        simp; omega
  · rw [bindsU_refs hm h1 h2 h4, List.length_append, flat_len]
theorem bound_step (k P r m : Nat) (hP : 1 ≤ P) (hk : m ≤ k) (hk1 : 1 ≤ k) (hr : 1 ≤ r) : 40 + m * (40 * (r - 1) * P) ≤ 40 * r * (P * k) := by
  obtain ⟨q, rfl⟩ : ∃ q, r = q + 1 := ⟨r - 1, by omega⟩
  rw [Nat.add_sub_cancel]
  have h1 : m * (40 * q * P) ≤ k * (40 * q * P) := Nat.mul_le_mul_right _ hk
  have h2 : 40 * (q + 1) * (P * k) = 40 * q * (P * k) + 40 * (P * k) := by rw [Nat.mul_add, Nat.add_mul]
  have h3 : k * (40 * q * P) = 40 * q * (P * k) := by rw [Nat.mul_comm k, Nat.mul_assoc]
  have h4 : 1 ≤ P * k := Nat.mul_pos hP hk1
  omega
theorem binds_bound {h : List NodeV} (hm : mayH h = true) (hs : ∀ n ∈ h, (bindsS n).length ≤ 40) : ∀ (n : Nat) (r : Int), 0 ≤ r → r ≤ n → r ≤ h.length → (bindsT (U h r)).length ≤ 40 * r.toNat * prodW (h.take r.toNat) := by
  intro n
  induction n with
  | zero =>
    intro r h0 h1 h2
    have : r = 0 := by omega
    subst this
    rw [U_zero, bindsT_nil]
    exact Nat.zero_le _
  | succ n ih =>
    intro r h0 h1 h2
    by_cases e : r = 0
    · subst e
      rw [U_zero, bindsT_nil]
      exact Nat.zero_le _
    obtain ⟨i, hi⟩ : ∃ i : Nat, r = (i : Int) + 1 := ⟨(r - 1).toNat, by omega⟩
    have hil : i < h.length := by omega
    have eg : getN h r = h[i] := by rw [hi]; exact getN_ix h i hil
    rw [binds_sum hm (by omega) h2]
    have hb := hs _ (getN_mem h r (by omega) h2)
    have hsum := sum_le (fun x => (bindsT (U h x)).length) (40 * i * prodW (h.take i)) (refsS (getN h r)) (fun x hx => by
      rw [refsS_all] at hx
      have hk := (may_node hm (by omega) h2).2 x (List.mem_filter.1 hx).1
      refine Nat.le_trans (ih x (by omega) (by omega) (by omega)) ?_
      have hxi : x.toNat ≤ i := by omega
      have hp : prodW (h.take x.toNat) ≤ prodW (h.take i) := by
        have e : h.take i = h.take x.toNat ++ (h.drop x.toNat).take (i - x.toNat) := by
          rw [← List.take_add]
          congr 1
          omega
        rw [e, prodW_app]
        exact Nat.le_mul_of_pos_right _ (prodW_pos _)
      exact Nat.mul_le_mul (Nat.mul_le_mul_left _ hxi) hp)
    have et : r.toNat = i + 1 := by omega
    have ep : prodW (h.take (i + 1)) = prodW (h.take i) * waysN (getN h r) := by
      rw [List.take_succ_eq_append_getElem hil, prodW_app, eg]
      congr 1
      show waysN h[i] * 1 = _
      omega
    rw [et, ep]
    have hstep := bound_step (waysN (getN h r)) (prodW (h.take i)) (i + 1) (refsS (getN h r)).length (prodW_pos _) (by unfold waysN; omega) (by unfold waysN; omega) (by omega)
    rw [Nat.add_sub_cancel] at hstep
    omega
theorem few_binds (n : NodeV) : (bindsS (few n)).length ≤ 40 := by
  unfold bindsS
  split
  · show 1 ≤ 40; omega
  · split
    · exact fewL_len _
    · show 0 ≤ 40; omega
theorem few_bound (h : List NodeV) (r : Int) (hf : fitH (fewH h) r = true) : (bindsT (U (fewH h) r)).length ≤ 1440000 := by
  obtain ⟨⟨a, b⟩, c⟩ := fitH_iff.1 hf
  have h1 := binds_bound c (fun n hn => by obtain ⟨m, _, rfl⟩ := fewH_mem n hn; exact few_binds m) r.toNat r a (by omega) b
  have h2 := fewH_prod h
  have h3 := fewH_len h
  have hp : prodW ((fewH h).take r.toNat) ≤ 3000 := by
    refine Nat.le_trans ?_ h2
    conv => rhs; rw [← List.take_append_drop r.toNat (fewH h), prodW_app]
    exact Nat.le_mul_of_pos_right _ (prodW_pos _)
  have h4 : 40 * r.toNat * prodW ((fewH h).take r.toNat) ≤ 480 * 3000 := Nat.mul_le_mul (by omega) hp
  omega
end Go.Proofs.Ytmopkbmcilolgaa.AD
set_option linter.unusedVariables false
set_option linter.unusedSimpArgs false
namespace Go.Proofs.Ytmopkbmcilolgaa.AD
open Go.Abs
theorem hbindsE {h : List NodeV} (ho : okH h) (r : Int) (hb : fitH h r = true → (bindsT (U h r)).length ≤ 1000000000) : heap_Binds h r = some (if fitH h r = true then (bindsT (U h r), (0, ())) else ([], (4, ()))) := by
  rw [heap_Binds.eq, hmay_any h ho, bnd_some]
  by_cases hf : fitH h r = true
  · obtain ⟨⟨a, b⟩, hm⟩ := fitH_iff.1 hf
    rw [if_pos hf, if_pos hf, hbinds_any ho hm r.toNat r a (by omega) b (hb hf), bnd_some]
    rfl
  · rw [if_neg hf, if_neg hf]
    rfl
def leafX : NodeV := (1, (ByteArray.mk #[97], (ByteArray.mk #[49], (0, ([], (0, ([], (1, (0, ())))))))))
def innX : NodeV := (5, (ByteArray.empty, (ByteArray.empty, (0, ([], (1, ([], (0, (0, ())))))))))
theorem leafX_ok : okN leafX ∧ mayS leafX = 0 ∧ refsS leafX = [] ∧ rngN leafX := by
  refine ⟨⟨by decide, by decide, by show (0 : Int) ≤ 0; omega, by show (0 : Int) < 4294967296; omega, by show 0 ≤ 1000000; omega, by show 0 ≤ 1000000; omega, fun p hp => (by cases hp)⟩, ?_, rfl, ⟨fun k hk => (by cases hk), by show rng 0; unfold rng; omega⟩⟩
  unfold mayS
  have hl : longN leafX = false := by
    show ((decide (16 < (ByteArray.mk #[97]).size) || decide (16 < (ByteArray.mk #[49]).size)) || false) = false
    rfl
  rw [if_neg (by show ¬ (1 : Int) < 1; omega), if_neg (by show ¬ (6 : Int) < 1; omega), hl, if_neg (by simp), if_pos]
  refine ⟨Int.le_refl _, ?_⟩
  rw [if_pos (.inl rfl)]
  exact ⟨rfl, fun q => (by cases q), fun _ => ⟨rfl, rfl⟩, fun _ => rfl, fun _ => rfl⟩
theorem innX_ok : okN innX ∧ mayS innX = 0 ∧ refsS innX = [1] ∧ rngN innX := by
  refine ⟨⟨by decide, by decide, by show (0 : Int) ≤ 0; omega, by show (0 : Int) < 4294967296; omega, by show 0 ≤ 1000000; omega, by show 0 ≤ 1000000; omega, fun p hp => (by cases hp)⟩, ?_, rfl, ⟨fun k hk => (by cases hk), by show rng 1; unfold rng; omega⟩⟩
  unfold mayS
  have hl : longN innX = false := by
    show ((decide (16 < (ByteArray.empty).size) || decide (16 < (ByteArray.empty).size)) || false) = false
    rfl
  rw [if_neg (by show ¬ (5 : Int) < 1; omega), if_neg (by show ¬ (6 : Int) < 5; omega), hl, if_neg (by simp), if_pos]
  refine ⟨Int.le_refl _, ?_⟩
  rw [if_neg (by show ¬ ((5 : Int) = 1 ∨ (5 : Int) = 6); omega), if_neg (by show ¬ (5 : Int) = 2; omega), if_neg (by show ¬ (5 : Int) = 3; omega), if_neg (by show ¬ (5 : Int) = 4; omega)]
  exact ⟨by show (1 : Int) ≠ 0; omega, rfl, fun _ => ⟨rfl, rfl⟩, fun _ => ⟨rfl, rfl⟩, fun q => (by cases q), fun _ => rfl⟩
theorem works17 : law17_works = some true := by
  obtain ⟨o1, m1, r1, g1⟩ := leafX_ok
  obtain ⟨o2, m2, r2, g2⟩ := innX_ok
  have l1 : node_Leaf (ByteArray.mk #[97]) (ByteArray.mk #[49]) = some leafX := node_Leaf.eq _ _
  have l2 : node_Inner 1 = some innX := node_Inner.eq _
  have hh : okH [leafX, innX] := by
    refine ⟨by show 2 ≤ 40000000; omega, fun n hn => ?_, fun n hn => ?_⟩
    · rcases List.mem_cons.1 hn with rfl | hn
      · exact o1
      · rw [List.mem_singleton.1 hn]; exact o2
    · rcases List.mem_cons.1 hn with rfl | hn
      · exact g1
      · rw [List.mem_singleton.1 hn]; exact g2
  have hm : mayH [leafX, innX] = true := by
    unfold mayH mayHL mayHL mayHL
    rw [m1, r1, m2, r2]
    rfl
  have hf : fitH [leafX, innX] 2 = true := fitH_iff.2 ⟨⟨by omega, by show (2 : Int) ≤ 2; omega⟩, hm⟩
  have e1 : getN [leafX, innX] 1 = leafX := rfl
  have e2 : getN [leafX, innX] 2 = innX := rfl
  have b2 : belB [leafX, innX] 2 2 = true := belB_iff.2 ⟨by omega, .self⟩
  have b1 : belB [leafX, innX] 2 1 = true := belB_iff.2 ⟨by omega, .step .self (by rw [e2, r2]; simp)⟩
  have hc : belS [leafX, innX] 2 = [2, 1] := by
    show desc (belB [leafX, innX] 2) 2 = _
    unfold desc
    rw [show ((1 + 1 : Nat) : Int) = 2 from rfl, if_pos b2]
    unfold desc
    rw [show ((0 + 1 : Nat) : Int) = 1 from rfl, if_pos b1]
    rfl
  have hd1 : dep [leafX, innX] 1 = 1 := by
    rw [dep_node hm (by omega) (by show (1 : Int) ≤ 2; omega), e1, r1]
    rfl
  have hd : dep [leafX, innX] 2 = 2 := by
    rw [dep_node hm (by omega) (by show (2 : Int) ≤ 2; omega), e2, r2]
    show max (dep [leafX, innX] 1) 0 + 1 = 2
    rw [hd1]
    rfl
  have hb : (bindsT (U [leafX, innX] 2)).length = 1 := by
    rw [binds_sum hm (by omega) (by show (2 : Int) ≤ 2; omega), e2, r2]
    show 0 + ((bindsT (U [leafX, innX] 1)).length + 0) = 1
    rw [binds_sum hm (by omega) (by show (1 : Int) ≤ 2; omega), e1, r1]
    rfl
  rw [law17_works.eq, l1, bnd_some, l2, bnd_some, hcount_any _ hh, bnd_some, hdepth_any _ hh, bnd_some, hbindsE hh 2 (fun _ => by rw [hb]; omega), bnd_some, if_pos hf, if_pos hf, if_pos hf, hc, hd]
  simp only [eqI_d, br_if, ofN_d, lenL_d]
  rw [if_pos (show ((([2, 1] : List Int).length : Nat) : Int) = 2 from rfl), if_pos trivial, if_pos (show ((2 : Nat) : Int) = 2 from rfl), if_pos trivial, if_pos (by rw [hb]; rfl)]
  rfl
end Go.Proofs.Ytmopkbmcilolgaa.AD
set_option linter.unusedVariables false
set_option linter.unusedSimpArgs false
namespace Go.Proofs.Ytmopkbmcilolgaa.AD
open Go.Abs
theorem Few_any (n : NodeV) (h1 : n.2.2.2.2.1.length ≤ 9223372036854775807) (h2 : n.2.2.2.2.2.2.1.length ≤ 9223372036854775807) : law13_Few n = some (few n) := by
  rw [law13_Few.eq, base_Cut_40, bnd_some, base_Cut_40, bnd_some]
  simp only [ltI_d, leI_d, ofN_d, lenL_d, andB_d, br_if, fitL_d, appL_d, minI_d, List.nil_append]
  have e : toN (min (n.2.2.2.2.1.length : Int) 40) = min n.2.2.2.2.1.length 40 := by unfold toN; omega
  have e0 : toN 0 = 0 := rfl
  rw [if_pos (by omega), e, e0, subL0]
  have e2 : n.2.2.2.2.1.take (min n.2.2.2.2.1.length 40) = n.2.2.2.2.1.take 40 := by
    by_cases h : n.2.2.2.2.1.length ≤ 40
    · rw [Nat.min_eq_left h, List.take_of_length_le (Nat.le_refl _), List.take_of_length_le h]
    · rw [Nat.min_eq_right (by omega)]
  rw [e2, if_pos (by rw [List.length_take]; omega), few_any _ h2, bnd_some]
  rfl
theorem Few_ok {n : NodeV} (h : okN n) : law13_Few n = some (few n) := Few_any n (by have := h.kids; omega) (by have := h.list; omega)
theorem Few_wf {n : NodeV} (h : wfD tapiNode n) : law13_Few n = some (few n) := by
  obtain ⟨_, _, _, _, hk, _, hl, _⟩ := h
  exact Few_any n hk.1 hl.1
end Go.Proofs.Ytmopkbmcilolgaa.AD
set_option linter.unusedVariables false
set_option linter.unusedSimpArgs false
namespace Go.Proofs.Ytmopkbmcilolgaa.AD
open Go.Abs
theorem fewH_loop (h : List NodeV) (hl : h.length ≤ 9223372036854775807) (hw : ∀ n ∈ h, wideN n) (d : Nat) : ∀ (i w : Nat) (acc : List NodeV), i ≤ h.length → i ≤ 12 → 1 ≤ w → w ≤ 3000 → acc.length ≤ i → 12 - i = d →
    law17_Few.l0 h w i acc = some ((), (acc ++ fewW w ((h.take 12).drop i), ())) := by
  induction d with
  | zero =>
    intro i w acc hi h12 w1 w2 ha hd
    have e : (h.take 12).drop i = [] := List.drop_eq_nil_of_le (by rw [List.length_take]; omega)
    rw [law17_Few.l0.eq, law17_Few.j1.eq, law17_Few.j1.eq, e]
    simp only [ltI_d, ofN_d, lenL_d, br_if, br_f]
    have e' : acc ++ fewW w [] = acc := by unfold fewW; exact List.append_nil _
    rw [e']
    split
    · rw [if_neg (by omega)]
    · rfl
  | succ d ih =>
    intro i w acc hi h12 w1 w2 ha hd
    by_cases hil : i < h.length
    · have hin : i < (h.take 12).length := by rw [List.length_take]; omega
      have hm : h[i] ∈ h := List.getElem_mem hil
      obtain ⟨k1, k2, ho⟩ := hw _ hm
      have hr := refsS_few h[i]
      rw [law17_Few.l0.eq, law17_Few.j1.eq, ixN h i hil, Few_any _ k1 k2, bnd_some, refrefs_any _ ho, bnd_some]
      simp only [ltI_d, leI_d, ofN_d, lenL_d, andB_d, br_if, maxI_d, fitL_d, appL_d]
      have em : mulI .i64 (w : Int) (max ((refsS (few h[i])).length : Int) 1) = ((w * max (refsS (few h[i])).length 1 : Nat) : Int) := by
        have e : max ((refsS (few h[i])).length : Int) 1 = ((max (refsS (few h[i])).length 1 : Nat) : Int) := by omega
        have hle : max (refsS (few h[i])).length 1 ≤ 41 := by omega
        have hp : w * max (refsS (few h[i])).length 1 ≤ 3000 * 41 := Nat.mul_le_mul w2 hle
        unfold mulI
        rw [e, ← Int.natCast_mul]
        exact wrap_i64_id (by omega) (by omega)
      rw [if_pos (by omega), if_pos (by omega), if_pos (by omega), em, List.drop_eq_getElem_cons hin, List.getElem_take]
      by_cases hg : 3000 < w * max (refsS (few h[i])).length 1
      · rw [if_pos (by omega)]
        unfold fewW
        rw [if_pos hg, List.append_nil]
      · have hpos : 1 ≤ w * max (refsS (few h[i])).length 1 := Nat.mul_pos w1 (by omega)
        rw [if_neg (by omega), if_pos (by rw [List.length_append]; show _ + 1 ≤ _; omega), add1 i (by omega)]
        rw [ih (i + 1) _ _ (by omega) (by omega) hpos (by omega) (by rw [List.length_append]; show _ + 1 ≤ _; omega) (by omega)]
        rw [show fewW w (h[i] :: (h.take 12).drop (i + 1)) = few h[i] :: fewW (w * max (refsS (few h[i])).length 1) ((h.take 12).drop (i + 1)) by rw [fewW, if_neg hg]]
        rw [List.append_assoc]
        rfl
    · have e : (h.take 12).drop i = [] := List.drop_eq_nil_of_le (by rw [List.length_take]; omega)
      rw [law17_Few.l0.eq, law17_Few.j1.eq, law17_Few.j1.eq, e]
      simp only [ltI_d, ofN_d, lenL_d, br_if, br_f]
      rw [if_neg (by omega)]
      have e' : acc ++ fewW w [] = acc := by unfold fewW; exact List.append_nil _
      rw [e']
theorem fewH_wf {h : List NodeV} (hw : wfD (.list tapiNode) h) : law17_Few h = some ((), (fewH h, ())) := by
  rw [law17_Few.eq]
  have := fewH_loop h hw.1 (fun n hn => by
    obtain ⟨_, _, _, _, hk, _, hl, _⟩ := hw.2 n hn
    exact ⟨hk.1, hl.1, few_okN (hw.2 n hn)⟩) 12 0 1 [] (by omega) (by omega) (by omega) (by omega) (by simp) (by omega)
  exact this
theorem fewH_ok {h : List NodeV} (ho : okH h) : law17_Few h = some ((), (fewH h, ())) := by
  rw [law17_Few.eq]
  have hl := ho.len
  have := fewH_loop h (by omega) (fun n hn => by
    have o := ho.node n hn
    have h1 := o.kids
    have h2 := o.list
    refine ⟨by omega, by omega, ⟨?_, ?_, o.map0, o.map1, ?_, Nat.le_trans (fewL_len _) (by omega), fewL_ok _⟩⟩
    · show (cut 40 _).size ≤ 40; rw [cut_size]; omega
    · show (cut 40 _).size ≤ 40; rw [cut_size]; omega
    · show (List.take 40 _).length ≤ 1000000; rw [List.length_take]; omega) 12 0 1 [] (by omega) (by omega) (by omega) (by omega) (by simp) (by omega)
  exact this
theorem fewH_wide {h : List NodeV} (hl : h.length ≤ 9223372036854775807) (hw : ∀ n ∈ h, wideN n) : law17_Few h = some ((), (fewH h, ())) := by
  rw [law17_Few.eq]
  exact fewH_loop h hl hw 12 0 1 [] (by omega) (by omega) (by omega) (by omega) (by simp) (by omega)
end Go.Proofs.Ytmopkbmcilolgaa.AD
set_option linter.unusedVariables false
set_option linter.unusedSimpArgs false
namespace Go.Proofs.Ytmopkbmcilolgaa.AD
open Go.Abs
theorem mayHL_app : ∀ (a b : List NodeV) (i : Nat), mayHL i (a ++ b) = (mayHL i a && mayHL (i + a.length) b)
  | [], b, i => by rw [List.nil_append]; show _ = (true && mayHL i b); rw [Bool.true_and]
  | n :: a, b, i => by
    rw [List.cons_append, mayHL, mayHL, mayHL_app a b (i + 1), List.length_cons, show i + 1 + a.length = i + (a.length + 1) by omega, ← Bool.and_assoc]
theorem mayH_left {a b : List NodeV} (h : mayH (a ++ b) = true) : mayH a = true := by
  unfold mayH at *
  rw [mayHL_app, Bool.and_eq_true] at h
  exact h.1
theorem getN_app (a b : List NodeV) (r : Int) (h1 : 1 ≤ r) (h2 : r ≤ a.length) : getN (a ++ b) r = getN a r := by
  unfold getN
  rw [List.getD_eq_getElem?_getD, List.getD_eq_getElem?_getD, List.getElem?_append_left (by omega)]
theorem getN_last (a : List NodeV) (n : NodeV) : getN (a ++ [n]) ((a.length : Int) + 1) = n := by
  unfold getN
  rw [show ((a.length : Int) + 1 - 1).toNat = a.length by omega, List.getD_eq_getElem?_getD, List.getElem?_append_right (by omega), Nat.sub_self]
  rfl
theorem unf_app {a b : List NodeV} (hm : mayH a = true) : ∀ (k : Nat) (r : Int), 0 ≤ r → r ≤ a.length → unf (a ++ b) k r = unf a k r
  | 0, r, _, _ => rfl
  | k + 1, r, h0, h1 => by
    unfold unf
    by_cases e : r = 0
    · rw [if_pos e, if_pos e]
    · rw [if_neg e, if_neg e, getN_app a b r (by omega) h1]
      congr 1
      refine List.map_congr_left fun x hx => ?_
      have := (may_node hm (by omega) h1).2 x hx
      exact unf_app hm k x (by omega) (by omega)
theorem U_app {a b : List NodeV} (hm : mayH a = true) {r : Int} (h0 : 0 ≤ r) (h1 : r ≤ a.length) : U (a ++ b) r = U a r := unf_app hm _ r h0 h1
theorem may_more {h : List NodeV} {n : NodeV} (hm : mayH h = true) (hn : mayS n = 0) (hr : ∀ r ∈ refsS n, 1 ≤ r ∧ r ≤ h.length) : mayH (h ++ [n]) = true := by
  unfold mayH
  rw [mayHL_app, Bool.and_eq_true]
  refine ⟨hm, mayHL_of _ _ fun j hj => ?_⟩
  have : j = 0 := by simpa using hj
  subst this
  refine ⟨hn, fun r hr' => ?_⟩
  have := hr r hr'
  exact ⟨this.1, by omega⟩
theorem kids_rng {h : List NodeV} (hm : mayH h = true) (hl : h.length ≤ 50000000) : ∀ n ∈ h, rngN n := by
  intro n hn
  obtain ⟨j, hj, ej⟩ := List.getElem_of_mem hn
  have hk := (may_node hm (r := (j : Int) + 1) (by omega) (by omega)).2
  rw [getN_ix _ j hj, ej] at hk
  refine ⟨fun k hk' => ?_, ?_⟩
  · have := hk k (List.mem_append_left _ hk')
    unfold rng; omega
  · have := hk n.2.2.2.2.2.1 (List.mem_append_right _ List.mem_cons_self)
    unfold rng; omega
end Go.Proofs.Ytmopkbmcilolgaa.AD
set_option linter.unusedVariables false
set_option linter.unusedSimpArgs false
namespace Go.Proofs.Ytmopkbmcilolgaa.AD
open Go.Abs
theorem fewW_app : ∀ (l X : List NodeV) (w : Nat), ∃ w' : Nat, fewW w (fewW w l ++ X) = fewW w l ++ fewW w' X
  | [], X, w => ⟨w, rfl⟩
  | n :: l, X, w => by
    rw [fewW_cons]
    by_cases h : 3000 < w * max (refsS (few n)).length 1
    · rw [if_pos h]; exact ⟨w, rfl⟩
    · rw [if_neg h, List.cons_append, fewW_cons, few_few, if_neg h]
      obtain ⟨w', e⟩ := fewW_app l X (w * max (refsS (few n)).length 1)
      exact ⟨w', by rw [e, List.cons_append]⟩
theorem fewH_app (h more : List NodeV) : ∃ rest : List NodeV, fewH (fewH h ++ more) = fewH h ++ rest := by
  have hl := fewH_len h
  obtain ⟨w', e⟩ := fewW_app (h.take 12) (more.take (12 - (fewH h).length)) 1
  refine ⟨fewW w' (more.take (12 - (fewH h).length)), ?_⟩
  show fewW 1 ((fewH h ++ more).take 12) = _
  rw [List.take_append, List.take_of_length_le hl]
  exact e
theorem bel_app {a b : List NodeV} (hm : mayH a = true) {r : Int} (h1 : 1 ≤ r) (h2 : r ≤ a.length) {i : Int} : Bel (a ++ b) r i ↔ Bel a r i := by
  constructor
  · intro k
    induction k with
    | self => exact .self
    | step k hi ih =>
      have := Bel.in_ hm h1 h2 ih
      rw [getN_app a b _ this.1 (by omega)] at hi
      exact .step ih hi
  · intro k
    induction k with
    | self => exact .self
    | step k hi ih =>
      have := Bel.in_ hm h1 h2 k
      exact .step ih (by rw [getN_app a b _ this.1 (by omega)]; exact hi)
theorem belS_app {a b : List NodeV} (hm : mayH (a ++ b) = true) {r : Int} (h0 : 0 ≤ r) (h2 : r ≤ a.length) : belS (a ++ b) r = belS a r := by
  have hm1 := mayH_left hm
  have e : belB (a ++ b) r = belB a r := by
    funext i
    rw [Bool.eq_iff_iff, belB_iff, belB_iff]
    constructor
    · rintro ⟨h1, k⟩; exact ⟨h1, (bel_app hm1 h1 h2).1 k⟩
    · rintro ⟨h1, k⟩; exact ⟨h1, (bel_app hm1 h1 h2).2 k⟩
  rw [belS_r hm h0 (by rw [List.length_append]; omega), belS_r hm1 h0 h2, e]
end Go.Proofs.Ytmopkbmcilolgaa.AD
set_option linter.unusedVariables false
set_option linter.unusedSimpArgs false
namespace Go.Proofs.Ytmopkbmcilolgaa.Pure
open Go.Abs Go.Proofs.Ytmopkbmcilolgaa.AD
theorem HeapMore (a0 : den (.list tapiNode)) (a1 : den (.list tapiNode)) (a2 : den (.int .i64)) (h0 : wfD (.list tapiNode) a0) (h1 : wfD (.list tapiNode) a1) (h2 : wfD (.int .i64) a2) (hb : List.length a1 ≤ 1172812402926) : law17_HeapMore a0 a1 a2 = some true := by
  change Int at a2
  change List NodeV at a1
  have hh := okH.of h0
  have hl := fewH_len a0
  have hid : ∀ n ∈ fewH a0, few n = n := fun n hn => by
    obtain ⟨m, _, rfl⟩ := fewH_mem n hn
    exact few_few m
  have hw : ∀ n ∈ fewH a0 ++ a1, wideN n := fun n hn => by
    rcases List.mem_append.1 hn with hn | hn
    · have o := hh.node n hn
      have k1 := o.kids
      have k2 := o.list
      exact ⟨by omega, by omega, by rw [hid n hn]; exact o⟩
    · obtain ⟨_, _, _, _, hk, _, hl', _⟩ := h1.2 n hn
      exact ⟨hk.1, hl'.1, few_okN (h1.2 n hn)⟩
  have hal : (fewH a0 ++ a1).length ≤ 1172812402960 := by rw [List.length_append]; omega
  have hgo : okH (fewH (fewH a0 ++ a1)) := by
    refine ⟨Nat.le_trans (fewH_len _) (by omega), fun x hx => ?_, fun x hx => ?_⟩
    · obtain ⟨n, hn, rfl⟩ := fewH_mem x hx
      exact (hw n hn).2.2
    · obtain ⟨n, hn, rfl⟩ := fewH_mem x hx
      rcases List.mem_append.1 hn with hn | hn
      · rw [hid n hn]; exact hh.rng n hn
      · exact few_rng (h1.2 n hn)
  obtain ⟨rest, hg⟩ := fewH_app a0 a1
  rw [law17_HeapMore.eq, works17, bnd_some, show notB true = false from rfl, br_f, fewH_wf h0, bnd_some]
  show bnd (law17_Few (fewH a0)) _ = _
  rw [fewH_ok hh, bnd_some, fewH_fewH]
  show br (fitL tapiNode (fewH a0 ++ a1)) (bnd (law17_Few (fewH a0 ++ a1)) _) none = _
  rw [fitL_d, decide_eq_true hal, br_t, fewH_wide (by omega) hw, bnd_some]
  have hlg := fewH_len (fewH a0 ++ a1)
  generalize hG : fewH (fewH a0 ++ a1) = g at hgo hg hlg ⊢
  show bnd (heap_May g) _ = _
  rw [mayh_any g hgo, bnd_some]
  by_cases hm : mayH g = true
  · rw [if_pos hm]
    show br (notB (eqI 0 0)) _ (br (ltI a2 0) (law17_HeapMore.j0 (fewH a0) a2 true g) (law17_HeapMore.j0 (fewH a0) a2 (ltI (ofN (lenL tapiNode (fewH a0))) a2) g)) = _
    rw [show notB (eqI 0 0) = false from rfl, br_f, ltI_d, br_if]
    by_cases q0 : a2 < 0
    · rw [if_pos q0, law17_HeapMore.j0.eq, br_t]
    rw [if_neg q0]
    simp only [ltI_d, ofN_d, lenL_d]
    by_cases q1 : ((fewH a0).length : Int) < a2
    · rw [decide_eq_true q1, law17_HeapMore.j0.eq, br_t]
    rw [decide_eq_false q1, law17_HeapMore.j0.eq, br_f]
    subst hg
    have hm1 := mayH_left hm
    have r0 : 0 ≤ a2 := by omega
    have r1 : a2 ≤ (fewH a0).length := by omega
    have hf : fitH (fewH a0) a2 = true := fitH_iff.2 ⟨⟨r0, r1⟩, hm1⟩
    have hf2 : fitH (fewH a0 ++ rest) a2 = true := fitH_iff.2 ⟨⟨r0, by rw [List.length_append]; omega⟩, hm⟩
    have hu : U (fewH a0 ++ rest) a2 = U (fewH a0) a2 := U_app hm1 r0 r1
    have hbl := few_bound a0 a2 hf
    rw [hbindsE hh a2 (fun _ => by omega), bnd_some, hbindsE hgo a2 (fun _ => by rw [hu]; omega), bnd_some, hcount_any _ hh, bnd_some, hcount_any _ hgo, bnd_some, if_pos hf, if_pos hf2, if_pos hf, if_pos hf2, hu, belS_app hm r0 r1]
    show br (eqI 0 0) (br (eqI 0 0) (bnd (ref07_Same (bindsT (U (fewH a0) a2)) (bindsT (U (fewH a0) a2))) fun r4 => br r4 (br (eqI ((belS (fewH a0) a2).length : Int) ((belS (fewH a0) a2).length : Int)) (bnd (heap_Same (fewH a0) a2 (fewH a0 ++ rest) a2) fun r5 => some r5) (some false)) (some false)) (some false)) (some false) = _
    rw [show eqI 0 0 = true from rfl, br_t, br_t, refsameP_any _ _ (by omega), bnd_some, decide_eq_true rfl, br_t, eqI_d, decide_eq_true rfl, br_t, hSame_any _ _ hh hgo, bnd_some, hf, hf2, hu, eqSh_iff.2 rfl]
    rfl
  · rw [if_neg hm]
    show br (notB (eqI 4 0)) (law17_HeapMore.j0 (fewH a0) a2 true g) _ = _
    rw [show notB (eqI 4 0) = true from rfl, br_t, law17_HeapMore.j0.eq, br_t]
end Go.Proofs.Ytmopkbmcilolgaa.Pure
