/- Texts of one proof, laid together: how the interpreter's words stand for the program's code and what the functions do. No conditions but those that each lemma names. -/
import Derived.Test.YtmopkbmcilolgaaGreatM4
set_option linter.unusedSimpArgs false
set_option linter.unusedVariables false
set_option linter.unusedSimpArgs false
namespace Go.Proofs.YtmopkbmcilolgaaGreat.AH
open Go.Abs
noncomputable instance shpDec : DecidableEq Shp := fun _ _ => Classical.propDecidable _
noncomputable def eqSh (a b : Shp) : Bool := decide (a = b)
theorem eqSh_iff {a b : Shp} : eqSh a b = true ↔ a = b := by unfold eqSh; exact decide_eq_true_iff
theorem eqSh_not {a b : Shp} (h : a ≠ b) : eqSh a b = false := by unfold eqSh; exact decide_eq_false h
theorem eqSh_of {a b c d : Shp} (h : (a = b) ↔ (c = d)) : eqSh a b = eqSh c d := by unfold eqSh; exact decide_eq_decide.2 h
noncomputable def eqShL (a b : List Shp) : Bool := decide (a = b)
theorem eqShL_cons (a b : Shp) (l m : List Shp) : eqShL (a :: l) (b :: m) = (eqSh a b && eqShL l m) := by
  unfold eqShL eqSh
  rw [← Bool.decide_and]
  exact decide_eq_decide.2 (by simp)
theorem eqShL_nil : eqShL [] [] = true := by unfold eqShL; exact decide_eq_true rfl
theorem eqShL_iff {a b : List Shp} : eqShL a b = true ↔ a = b := by unfold eqShL; exact decide_eq_true_iff
/-- A node without references, and birth; but whether they are there. -/
def bareV (n : NodeV) : NodeV := (n.1, (n.2.1, (n.2.2.1, (n.2.2.2.1, (n.2.2.2.2.1.map (min · 1), (min n.2.2.2.2.2.1 1, (n.2.2.2.2.2.2.1, (n.2.2.2.2.2.2.2.1, (0, ())))))))))
theorem hbare_loop (m : Nat) (d : Nat) : ∀ (i : Nat) (ks : List Int) (x2 x3) (x5 : List PairV) (x6 : List Int) (x7 : List PairV), ks.length = m → m ≤ 50000000 → i ≤ m → m - i = d →
    heap_bare.l0 (m : Int) i x2 x3 ks x5 x6 x7 = some (x2.1, (x2.2.1, (x2.2.2.1, (x2.2.2.2.1, (ks.take i ++ (ks.drop i).map (min · 1), ((min x2.2.2.2.2.2.1 1), (x5, (x2.2.2.2.2.2.2.2.1, ((0 : Int), ()))))))))) := by
  induction d with
  | zero =>
    intro i ks x2 x3 x5 x6 x7 h1 h2 h3 h4
    rw [heap_bare.l0.eq]
    simp only [ltI_d, minI_d, br_if]
    rw [if_neg (by omega), List.drop_eq_nil_of_le (by omega), List.take_of_length_le (by omega), List.map_nil, List.append_nil]
  | succ d ih =>
    intro i ks x2 x3 x5 x6 x7 h1 h2 h3 h4
    have hi : i < ks.length := by omega
    rw [heap_bare.l0.eq]
    simp only [ltI_d, leI_d, ofN_d, lenL_d, andB_d, minI_d, br_if]
    rw [if_pos (by omega), if_pos (by omega), if_pos (by omega), ixR ks i hi, add1 i (by omega)]
    have e : setL (.int .i64) ks (i : Int) (min ks[i] 1) = ks.set i (min ks[i] 1) := by unfold setL; rw [Int.toNat_natCast]
    rw [e, ih (i + 1) _ _ _ _ _ _ (by rw [List.length_set]; omega) h2 (by omega) (by omega)]
    have e1 : (ks.set i (min ks[i] 1)).take (i + 1) = ks.take i ++ [min ks[i] 1] := by
      rw [List.take_succ_eq_append_getElem (by rw [List.length_set]; exact hi), List.getElem_set_self, List.take_set_of_le (by omega)]
    have e2 : (ks.set i (min ks[i] 1)).drop (i + 1) = ks.drop (i + 1) := List.drop_set_of_lt (by omega)
    rw [e1, e2, List.drop_eq_getElem_cons hi, List.map_cons, List.append_assoc]
    rfl
theorem hbare_any (n : NodeV) (h : okN n) : heap_bare n = some (bareV n) := by
  have hk := h.kids
  rw [heap_bare.eq, copy_any n h, bnd_some]
  have := hbare_loop n.2.2.2.2.1.length n.2.2.2.2.1.length 0 n.2.2.2.2.1 (n.1, (n.2.1, (n.2.2.1, (n.2.2.2.1, ((), (n.2.2.2.2.2.1, ((), n.2.2.2.2.2.2.2))))))) ((0 : Int), (ByteArray.empty, (ByteArray.empty, ((0 : Int), ((), ((0 : Int), ((), ((0 : Int), ((0 : Int), ()))))))))) n.2.2.2.2.2.2.1 [] [] rfl (by omega) (by omega) (by omega)
  rw [List.take_zero, List.drop_zero, List.nil_append, show ((0 : Nat) : Int) = 0 from rfl] at this
  exact this
theorem bare_okN {n : NodeV} (h : okN n) : okN (bareV n) := ⟨h.key, h.val, h.map0, h.map1, by show (n.2.2.2.2.1.map (min · 1)).length ≤ _; rw [List.length_map]; exact h.kids, h.list, h.binds⟩
theorem bare_iff (a b : NodeV) : bareV a = bareV b ↔ stripV a = stripV b ∧ (allK a).map (min · 1) = (allK b).map (min · 1) := by
  rw [node_ext, node_ext]
  unfold bareV stripV allK
  dsimp only
  rw [List.map_append, List.map_append, List.map_singleton, List.map_singleton]
  constructor
  · rintro ⟨h1, h2, h3, h4, h5, h6, h7, h8, _⟩
    exact ⟨⟨h1, h2, h3, h4, rfl, rfl, h7, h8, rfl⟩, by rw [h5, h6]⟩
  · rintro ⟨⟨h1, h2, h3, h4, _, _, h7, h8, _⟩, h5⟩
    obtain ⟨h5, h6⟩ := List.append_inj' h5 rfl
    injection h6 with h6
    exact ⟨h1, h2, h3, h4, h5, h6, h7, h8, rfl⟩
/-- References, none among them, against what is below them. -/
theorem kids_iff {h g : List NodeV} (hz : ∀ k ∈ ([] : List Int), True) : ∀ (l m : List Int), (∀ k ∈ l, 0 ≤ k ∧ (U h k = .nil ↔ k = 0)) → (∀ k ∈ m, 0 ≤ k ∧ (U g k = .nil ↔ k = 0)) →
    ((l.map (min · 1) = m.map (min · 1) ∧ (l.filter (fun r => decide (r ≠ 0))).map (U h) = (m.filter (fun r => decide (r ≠ 0))).map (U g)) ↔ l.map (U h) = m.map (U g))
  | [], [], _, _ => by simp
  | [], b :: m, _, _ => by simp
  | a :: l, [], _, _ => by simp
  | a :: l, b :: m, ha, hb => by
    have ih := kids_iff hz l m (fun k hk => ha k (List.mem_cons_of_mem _ hk)) (fun k hk => hb k (List.mem_cons_of_mem _ hk))
    obtain ⟨a0, a1⟩ := ha a List.mem_cons_self
    obtain ⟨b0, b1⟩ := hb b List.mem_cons_self
    rw [List.map_cons, List.map_cons, List.map_cons, List.map_cons, List.cons.injEq, List.cons.injEq, ← ih]
    by_cases ea : a = 0
    · by_cases eb : b = 0
      · have ua := a1.2 ea
        have ub := b1.2 eb
        rw [List.filter_cons_of_neg (by simp [ea]), List.filter_cons_of_neg (by simp [eb]), ua, ub]
        constructor
        · rintro ⟨⟨_, h1⟩, h2⟩; exact ⟨rfl, h1, h2⟩
        · rintro ⟨_, h1, h2⟩; exact ⟨⟨by omega, h1⟩, h2⟩
      · constructor
        · rintro ⟨⟨h1, _⟩, _⟩; omega
        · rintro ⟨h1, _⟩
          exact absurd (b1.1 (h1.symm.trans (a1.2 ea))) eb
    · by_cases eb : b = 0
      · constructor
        · rintro ⟨⟨h1, _⟩, _⟩; omega
        · rintro ⟨h1, _⟩
          exact absurd (a1.1 (h1.trans (b1.2 eb))) ea
      · rw [List.filter_cons_of_pos (by simp [ea]), List.filter_cons_of_pos (by simp [eb]), List.map_cons, List.map_cons, List.cons.injEq]
        constructor
        · rintro ⟨⟨_, h1⟩, h2, h3⟩; exact ⟨h2, h1, h3⟩
        · rintro ⟨h2, h1, h3⟩; exact ⟨⟨by omega, h1⟩, h2, h3⟩
theorem shape_iff {h g : List NodeV} (hm : mayH h = true) (gm : mayH g = true) {r s : Int} (h1 : 1 ≤ r) (h2 : r ≤ h.length) (g1 : 1 ≤ s) (g2 : s ≤ g.length) :
    U h r = U g s ↔ bareV (getN h r) = bareV (getN g s) ∧ (refsS (getN h r)).map (U h) = (refsS (getN g s)).map (U g) := by
  rw [U_node hm h1 h2, U_node gm g1 g2, bare_iff, refsS_all, refsS_all, Shp.node.injEq, and_assoc]
  refine and_congr_right fun _ => (kids_iff (fun _ hk => by cases hk) _ _ (fun k hk => ?_) (fun k hk => ?_)).symm
  · have := (may_node hm h1 h2).2 k hk
    exact ⟨by omega, U_nil hm (by omega) (by omega)⟩
  · have := (may_node gm g1 g2).2 k hk
    exact ⟨by omega, U_nil gm (by omega) (by omega)⟩
theorem min_filter : ∀ (l m : List Int), l.map (min · 1) = m.map (min · 1) → (∀ k ∈ l, 0 ≤ k) → (∀ k ∈ m, 0 ≤ k) → (l.filter (fun r => decide (r ≠ 0))).length = (m.filter (fun r => decide (r ≠ 0))).length
  | [], [], _, _, _ => rfl
  | [], _ :: _, h, _, _ => by cases h
  | _ :: _, [], h, _, _ => by cases h
  | a :: l, b :: m, h, ha, hb => by
    rw [List.map_cons, List.map_cons, List.cons.injEq] at h
    have ih := min_filter l m h.2 (fun k hk => ha k (List.mem_cons_of_mem _ hk)) (fun k hk => hb k (List.mem_cons_of_mem _ hk))
    have a0 := ha a List.mem_cons_self
    have b0 := hb b List.mem_cons_self
    by_cases ea : a = 0
    · have eb : b = 0 := by have := h.1; omega
      rw [List.filter_cons_of_neg (by simp [ea]), List.filter_cons_of_neg (by simp [eb])]; exact ih
    · have eb : b ≠ 0 := by have := h.1; omega
      rw [List.filter_cons_of_pos (by simp [ea]), List.filter_cons_of_pos (by simp [eb]), List.length_cons, List.length_cons, ih]
theorem hsame_loop {h g : List NodeV} (x y : List Int) (hx : x.length ≤ 50000000) (hxy : x.length = y.length) (hb : ∀ (a b : Int), a ∈ x → b ∈ y → heap_same h a g b = some (eqSh (U h a) (U g b))) (d : Nat) : ∀ (i : Nat), i ≤ x.length → x.length - i = d →
    heap_same.l1 h g x y x.length i = some (eqShL ((x.drop i).map (U h)) ((y.drop i).map (U g))) := by
  induction d with
  | zero =>
    intro i h1 h2
    rw [heap_same.l1.eq]
    simp only [ltI_d, br_if]
    rw [if_neg (by omega), List.drop_eq_nil_of_le (by omega), List.drop_eq_nil_of_le (by omega), List.map_nil, List.map_nil, eqShL_nil]
  | succ d ih =>
    intro i h1 h2
    have hi : i < x.length := by omega
    have hj : i < y.length := by omega
    rw [heap_same.l1.eq]
    simp only [ltI_d, leI_d, ofN_d, lenL_d, andB_d, br_if]
    rw [if_pos (by omega), if_pos (by omega), if_pos (by omega), ixR x i hi, ixR y i hj, hb _ _ (List.getElem_mem hi) (List.getElem_mem hj), bnd_some, add1 i (by omega), ih (i + 1) (by omega) (by omega), List.drop_eq_getElem_cons hi, List.drop_eq_getElem_cons hj, List.map_cons, List.map_cons, eqShL_cons]
    cases eqSh (U h x[i]) (U g y[i]) with
    | true => rw [show notB true = false from rfl, br_f, Bool.true_and]
    | false => rw [show notB false = true from rfl, br_t, Bool.false_and]
theorem hsame_any {h g : List NodeV} (ho : okH h) (hm : mayH h = true) (go : okH g) (gm : mayH g = true) : ∀ (n : Nat) (r s : Int), 0 ≤ r → r ≤ n → r ≤ h.length → 0 ≤ s → s ≤ g.length → heap_same h r g s = some (eqSh (U h r) (U g s)) := by
  have hlen := ho.len
  have glen := go.len
  have zero : ∀ r s : Int, 0 ≤ r → r ≤ h.length → 0 ≤ s → s ≤ g.length → (r = 0 ∨ s = 0) → heap_same h r g s = some (eqSh (U h r) (U g s)) := by
    intro r s h0 h1 g0 g1 hz
    have hj : heap_same.j0 h r g s true = some (eqSh (U h r) (U g s)) := by
      rw [heap_same.j0.eq, br_t, eqI_d]
      refine some_bool ?_
      by_cases e : r = s
      · have e1 : r = 0 := by omega
        have e2 : s = 0 := by omega
        subst e1; subst e2
        rw [U_zero, U_zero, decide_eq_true rfl, eqSh_iff.2 rfl]
      · rw [decide_eq_false e, eqSh_not]
        intro q
        rcases hz with rfl | rfl
        · rw [U_zero] at q; exact e ((U_nil gm g0 g1).1 q.symm).symm
        · rw [U_zero] at q; exact e ((U_nil hm h0 h1).1 q)
    rw [heap_same.eq]
    simp only [eqI_d, br_if]
    by_cases e : r = 0
    · rw [if_pos e]; exact hj
    · rw [if_neg e, decide_eq_true (hz.resolve_left e)]; exact hj
  intro n
  induction n with
  | zero =>
    intro r s h0 h1 h2 g0 g1
    exact zero r s h0 h2 g0 g1 (.inl (by omega))
  | succ n ih =>
    intro r s h0 h1 h2 g0 g1
    by_cases er : r = 0
    · exact zero r s h0 h2 g0 g1 (.inl er)
    by_cases es : s = 0
    · exact zero r s h0 h2 g0 g1 (.inr es)
    have hr1 : 1 ≤ r := by omega
    have hs1 : 1 ≤ s := by omega
    have o := ho.node _ (getN_mem h r hr1 h2)
    have p := go.node _ (getN_mem g s hs1 g1)
    have hx := (may_node hm hr1 h2).2
    have hy := (may_node gm hs1 g1).2
    have hrl := refsS_len (getN h r)
    have hkl := o.kids
    rw [heap_same.eq, eqI_d, br_if, if_neg er, eqI_d, decide_eq_false es, heap_same.j0.eq, br_f, inG h r hr1 h2 (by omega), br_t, inG g s hs1 g1 (by omega), br_t, ixG h r hr1 h2 (by omega), ixG g s hs1 g1 (by omega)]
    simp only [both_self]
    rw [hbare_any _ o, bnd_some, hbare_any _ p, bnd_some, same_any _ _ (bare_okN o), bnd_some, notB_d, br_if, refs_any _ o, bnd_some, refs_any _ p, bnd_some]
    by_cases hb : bareV (getN h r) = bareV (getN g s)
    · rw [if_neg (by intro q; exact q hb)]
      have hl : (refsS (getN h r)).length = (refsS (getN g s)).length := by
        rw [refsS_all, refsS_all]
        refine min_filter _ _ ((bare_iff _ _).1 hb).2 (fun k hk => ?_) (fun k hk => ?_)
        · have := hx k hk; omega
        · have := hy k hk; omega
      have := hsame_loop (h := h) (g := g) (refsS (getN h r)) (refsS (getN g s)) (by omega) hl (fun a b ha hb' => by
        rw [refsS_all] at ha hb'
        have k1 := hx a (List.mem_filter.1 ha).1
        have k2 := hy b (List.mem_filter.1 hb').1
        exact ih a b (by omega) (by omega) (by omega) (by omega) (by omega)) (refsS (getN h r)).length 0 (by omega) (by omega)
      rw [List.drop_zero, List.drop_zero, show ((0 : Nat) : Int) = 0 from rfl] at this
      refine this.trans (some_bool ?_)
      rw [Bool.eq_iff_iff, eqShL_iff, eqSh_iff, shape_iff hm gm hr1 h2 hs1 g1]
      exact ⟨fun q => ⟨hb, q⟩, fun q => q.2⟩
    · rw [if_pos hb]
      refine some_bool (eqSh_not ?_).symm
      intro q
      exact hb ((shape_iff hm gm hr1 h2 hs1 g1).1 q).1
theorem hSame_any (h g : List NodeV) (ho : okH h) (go : okH g) (r s : Int) : heap_Same h r g s = some (fitH h r && (fitH g s && eqSh (U h r) (U g s))) := by
  rw [heap_Same.eq, hmay_any h ho, bnd_some, eqI_d, br_if]
  cases h1 : fitH h r with
  | false => rw [if_neg (by simp), Bool.false_and]
  | true =>
    rw [if_pos (by simp), hmay_any g go, bnd_some, eqI_d, br_if]
    cases h2 : fitH g s with
    | false => rw [if_neg (by simp)]; rfl
    | true =>
      obtain ⟨⟨a, b⟩, c⟩ := fitH_iff.1 h1
      obtain ⟨⟨a', b'⟩, c'⟩ := fitH_iff.1 h2
      rw [if_pos (by simp), hsame_any ho c go c' r.toNat r s a (by omega) b a' b', bnd_some]
      rfl
/-! ### The document's -/
theorem shp_loop {h g : List NodeV} (a b : NodeV) (oa : okN a) (ob : okN b) (hl : a.2.2.2.2.1.length = b.2.2.2.2.1.length) (hb : ∀ (x y : Int), x ∈ allK a → y ∈ allK b → ref17_shape h x g y = some (eqSh (U h x) (U g y))) (d : Nat) : ∀ (i : Nat), i ≤ a.2.2.2.2.1.length → a.2.2.2.2.1.length - i = d →
    ref17_shape.l1 h g i a b = some (eqShL ((a.2.2.2.2.1.drop i).map (U h)) ((b.2.2.2.2.1.drop i).map (U g)) && (eqSh (U h a.2.2.2.2.2.1) (U g b.2.2.2.2.2.1) && decide (stripV a = stripV b))) := by
  have ka := oa.kids
  have la := oa.list
  induction d with
  | zero =>
    intro i h1 h2
    rw [ref17_shape.l1.eq]
    simp only [ltI_d, ofN_d, lenL_d, br_if]
    rw [if_neg (by omega), hb a.2.2.2.2.2.1 b.2.2.2.2.2.1 (by unfold allK; simp) (by unfold allK; simp), bnd_some, refsame_any _ _ (by show 0 ≤ _; omega) (by show a.2.2.2.2.2.2.1.length ≤ _; omega), bnd_some, List.drop_eq_nil_of_le (by omega), List.drop_eq_nil_of_le (by omega), List.map_nil, List.map_nil, eqShL_nil, Bool.true_and]
    cases eqSh (U h a.2.2.2.2.2.1) (U g b.2.2.2.2.2.1) with
    | true => rw [show notB true = false from rfl, br_f, Bool.true_and]; rfl
    | false => rw [show notB false = true from rfl, br_t, Bool.false_and]
  | succ d ih =>
    intro i h1 h2
    have hi : i < a.2.2.2.2.1.length := by omega
    have hj : i < b.2.2.2.2.1.length := by omega
    rw [ref17_shape.l1.eq]
    simp only [ltI_d, leI_d, ofN_d, lenL_d, andB_d, br_if]
    rw [if_pos (by omega), if_pos (by omega), if_pos (by omega), ixR _ i hi, ixR _ i hj, hb _ _ (by unfold allK; exact List.mem_append_left _ (List.getElem_mem hi)) (by unfold allK; exact List.mem_append_left _ (List.getElem_mem hj)), bnd_some, add1 i (by omega), ih (i + 1) (by omega) (by omega), List.drop_eq_getElem_cons hi, List.drop_eq_getElem_cons hj, List.map_cons, List.map_cons, eqShL_cons]
    cases eqSh (U h a.2.2.2.2.1[i]) (U g b.2.2.2.2.1[i]) with
    | true => rw [show notB true = false from rfl, br_f, Bool.true_and]
    | false => rw [show notB false = true from rfl, br_t, Bool.false_and, Bool.false_and]
theorem shape_any {h g : List NodeV} (ho : okH h) (hm : mayH h = true) (go : okH g) (gm : mayH g = true) : ∀ (n : Nat) (r s : Int), 0 ≤ r → r ≤ n → r ≤ h.length → 0 ≤ s → s ≤ g.length → ref17_shape h r g s = some (eqSh (U h r) (U g s)) := by
  have hlen := ho.len
  have glen := go.len
  have zero : ∀ r s : Int, 0 ≤ r → r ≤ h.length → 0 ≤ s → s ≤ g.length → (r = 0 ∨ s = 0) → ref17_shape h r g s = some (eqSh (U h r) (U g s)) := by
    intro r s h0 h1 g0 g1 hz
    have hj : ref17_shape.j0 h r g s true = some (eqSh (U h r) (U g s)) := by
      rw [ref17_shape.j0.eq, br_t]
      simp only [eqI_d, br_if]
      by_cases e : r = 0
      · rw [if_pos e]
        subst e
        refine some_bool ?_
        rw [U_zero]
        by_cases e2 : s = 0
        · subst e2; rw [U_zero, decide_eq_true rfl, eqSh_iff.2 rfl]
        · rw [decide_eq_false e2, eqSh_not (fun q => e2 ((U_nil gm g0 g1).1 q.symm))]
      · rw [if_neg e]
        have e2 := hz.resolve_left e
        subst e2
        rw [U_zero, eqSh_not (fun q => e ((U_nil hm h0 h1).1 q))]
    rw [ref17_shape.eq]
    simp only [eqI_d, br_if]
    by_cases e : r = 0
    · rw [if_pos e]; exact hj
    · rw [if_neg e, decide_eq_true (hz.resolve_left e)]; exact hj
  intro n
  induction n with
  | zero =>
    intro r s h0 h1 h2 g0 g1
    exact zero r s h0 h2 g0 g1 (.inl (by omega))
  | succ n ih =>
    intro r s h0 h1 h2 g0 g1
    by_cases er : r = 0
    · exact zero r s h0 h2 g0 g1 (.inl er)
    by_cases es : s = 0
    · exact zero r s h0 h2 g0 g1 (.inr es)
    have hr1 : 1 ≤ r := by omega
    have hs1 : 1 ≤ s := by omega
    have o := ho.node _ (getN_mem h r hr1 h2)
    have p := go.node _ (getN_mem g s hs1 g1)
    have hx := (may_node hm hr1 h2).2
    have hy := (may_node gm hs1 g1).2
    have hkl := o.kids
    rw [ref17_shape.eq, eqI_d, br_if, if_neg er, eqI_d, decide_eq_false es, ref17_shape.j0.eq, br_f, inG h r hr1 h2 (by omega), br_t, inG g s hs1 g1 (by omega), br_t, ixG h r hr1 h2 (by omega), ixG g s hs1 g1 (by omega)]
    simp only [both_self, eqI_d, ofN_d, lenL_d, notB_d, br_if]
    by_cases hb : (getN h r).2.2.2.2.1.length = (getN g s).2.2.2.2.1.length
    · rw [if_neg (by omega)]
      have := shp_loop (h := h) (g := g) (getN h r) (getN g s) o p hb (fun a b ha hb' => by
        have k1 := hx a ha
        have k2 := hy b hb'
        exact ih a b (by omega) (by omega) (by omega) (by omega) (by omega)) (getN h r).2.2.2.2.1.length 0 (by omega) (by omega)
      rw [List.drop_zero, List.drop_zero, show ((0 : Nat) : Int) = 0 from rfl] at this
      refine this.trans (some_bool ?_)
      rw [Bool.eq_iff_iff, Bool.and_eq_true, Bool.and_eq_true, eqShL_iff, eqSh_iff, eqSh_iff, decide_eq_true_iff, U_node hm hr1 h2, U_node gm hs1 g1, Shp.node.injEq]
      unfold allK
      rw [List.map_append, List.map_append]
      constructor
      · rintro ⟨q1, q2, q3⟩
        exact ⟨q3, by rw [q1, List.map_singleton, List.map_singleton, q2]⟩
      · rintro ⟨q3, q1⟩
        obtain ⟨q1, q2⟩ := List.append_inj' q1 rfl
        injection q2 with q2
        exact ⟨q1, q2, q3⟩
    · rw [if_pos (by omega)]
      refine some_bool (eqSh_not ?_).symm
      intro q
      rw [U_node hm hr1 h2, U_node gm hs1 g1, Shp.node.injEq] at q
      have := congrArg List.length q.2
      rw [List.length_map, List.length_map, allK_len, allK_len] at this
      omega
theorem refSame_any (h g : List NodeV) (ho : okH h) (go : okH g) (r s : Int) : ref17_Same h r g s = some (fitH h r && (fitH g s && eqSh (U h r) (U g s))) := by
  rw [ref17_Same.eq, fits_any h ho, bnd_some]
  cases h1 : fitH h r with
  | false => rw [br_f, Bool.false_and]
  | true =>
    rw [br_t, fits_any g go, bnd_some]
    cases h2 : fitH g s with
    | false => rw [br_f]; rfl
    | true =>
      obtain ⟨⟨a, b⟩, c⟩ := fitH_iff.1 h1
      obtain ⟨⟨a', b'⟩, c'⟩ := fitH_iff.1 h2
      rw [br_t, shape_any ho c go c' r.toNat r s a (by omega) b a' b', bnd_some]
      rfl
end Go.Proofs.YtmopkbmcilolgaaGreat.AH
set_option linter.unusedVariables false
set_option linter.unusedSimpArgs false
namespace Go.Proofs.YtmopkbmcilolgaaGreat.AH
open Go.Abs
theorem tri (a b : ByteArray) : (lt a b = true ∧ lt b a = false ∧ a ≠ b) ∨ (a = b ∧ lt a b = false ∧ lt b a = false) ∨ (lt b a = true ∧ lt a b = false ∧ a ≠ b) := by
  by_cases h : a = b
  · subst h; exact .inr (.inl ⟨rfl, lt_irrefl _, lt_irrefl _⟩)
  · rcases lt_total h with k | k
    · exact .inl ⟨k, lt_asymm k, h⟩
    · exact .inr (.inr ⟨k, lt_asymm k, h⟩)
theorem putS_lt {q p : PairV} {qs : List PairV} (h : lt q.1 p.1 = true) : putS (q :: qs) p = q :: putS qs p := by
  rw [putS, if_pos h]
theorem putS_eq {q p : PairV} {qs : List PairV} (h : q.1 = p.1) : putS (q :: qs) p = p :: qs := by
  rw [putS, if_neg (by rw [h, lt_irrefl]; simp), if_pos h]
theorem putS_gt {q p : PairV} {qs : List PairV} (h : lt p.1 q.1 = true) : putS (q :: qs) p = p :: q :: qs := by
  rw [putS, if_neg (by rw [lt_asymm h]; simp), if_neg (fun e => by rw [e, lt_irrefl] at h; cases h)]
theorem putS_nil (p : PairV) : putS [] p = [p] := rfl
theorem putS_same {p x : PairV} (h : p.1 = x.1) : ∀ l, putS (putS l p) x = putS l x
  | [] => by rw [putS_nil, putS_eq h, putS_nil]
  | q :: qs => by
    rcases tri q.1 p.1 with ⟨a, _⟩ | ⟨a, _⟩ | ⟨a, _⟩
    · have a' : lt q.1 x.1 = true := by rw [← h]; exact a
      rw [putS_lt a, putS_lt a', putS_lt a', putS_same h qs]
    · rw [putS_eq a, putS_eq h, putS_eq (a.trans h)]
    · have a' : lt x.1 q.1 = true := by rw [← h]; exact a
      rw [putS_gt a, putS_eq h, putS_gt a']
theorem putS_comm {p x : PairV} (h : p.1 ≠ x.1) : ∀ l, putS (putS l p) x = putS (putS l x) p
  | [] => by
    rw [putS_nil, putS_nil]
    rcases tri p.1 x.1 with ⟨c, _⟩ | ⟨c, _⟩ | ⟨c, _⟩
    · rw [putS_lt c, putS_gt c, putS_nil]
    · exact absurd c h
    · rw [putS_gt c, putS_lt c, putS_nil]
  | q :: qs => by
    rcases tri q.1 p.1 with ⟨a, _⟩ | ⟨a, _⟩ | ⟨a, _⟩
    · rcases tri q.1 x.1 with ⟨b, _⟩ | ⟨b, _⟩ | ⟨b, _⟩
      · rw [putS_lt a, putS_lt b, putS_lt b, putS_lt a, putS_comm h qs]
      · have c : lt x.1 p.1 = true := by rw [← b]; exact a
        rw [putS_lt a, putS_eq b, putS_eq b, putS_lt c]
      · rw [putS_lt a, putS_gt b, putS_gt b, putS_lt (lt_trans b a), putS_lt a]
    · rcases tri q.1 x.1 with ⟨b, _⟩ | ⟨b, _⟩ | ⟨b, _⟩
      · have c : lt p.1 x.1 = true := by rw [← a]; exact b
        rw [putS_eq a, putS_lt c, putS_lt b, putS_eq a]
      · exact absurd (a.symm.trans b) h
      · have c : lt x.1 p.1 = true := by rw [← a]; exact b
        rw [putS_eq a, putS_gt c, putS_gt b, putS_lt c, putS_eq a]
    · rcases tri q.1 x.1 with ⟨b, _⟩ | ⟨b, _⟩ | ⟨b, _⟩
      · rw [putS_gt a, putS_lt (lt_trans a b), putS_lt b, putS_gt a]
      · have c : lt p.1 x.1 = true := by rw [← b]; exact a
        rw [putS_gt a, putS_lt c, putS_eq b, putS_gt c]
      · rcases tri p.1 x.1 with ⟨c, _⟩ | ⟨c, _⟩ | ⟨c, _⟩
        · rw [putS_gt a, putS_lt c, putS_gt b, putS_gt c]
        · exact absurd c h
        · rw [putS_gt a, putS_gt c, putS_gt b, putS_lt c, putS_gt a]
theorem fold_skip {p : PairV} : ∀ (r acc : List PairV), (∃ q ∈ r, q.1 = p.1) → r.foldl putS (putS acc p) = r.foldl putS acc
  | [], _, ⟨_, h, _⟩ => by cases h
  | x :: r, acc, ⟨q, hq, e⟩ => by
    rw [List.foldl_cons, List.foldl_cons]
    by_cases hx : p.1 = x.1
    · rw [putS_same hx]
    · rw [putS_comm hx]
      refine fold_skip r _ ⟨q, ?_, e⟩
      rcases List.mem_cons.1 hq with rfl | hq
      · exact absurd e.symm hx
      · exact hq
/-! ### The document's way -/
theorem last_loop (l : List PairV) (hl : l.length ≤ 50000000) (i : Nat) (hi : i < l.length) (d : Nat) : ∀ (k : Nat), k ≤ l.length → l.length - k = d → ref07_last.l0 l i k = some ((l.drop k).all fun q => !decide (q.1 = l[i].1)) := by
  induction d with
  | zero =>
    intro k h1 h2
    rw [ref07_last.l0.eq]
    simp only [ltI_d, ofN_d, lenL_d, br_if]
    rw [if_neg (by omega), List.drop_eq_nil_of_le (by omega)]
    rfl
  | succ d ih =>
    intro k h1 h2
    have hk : k < l.length := by omega
    rw [ref07_last.l0.eq]
    simp only [ltI_d, leI_d, eqS_d, ofN_d, lenL_d, andB_d, br_if]
    rw [if_pos (by omega), if_pos (by omega), if_pos (by omega), ixP l k hk, ixP l i hi, add1 k (by omega), ih (k + 1) (by omega) (by omega), List.drop_eq_getElem_cons hk]
    rw [List.all_cons]
    by_cases e : l[k].1 = l[i].1
    · rw [if_pos e, decide_eq_true e]; rfl
    · rw [if_neg e, decide_eq_false e]; rfl
theorem last_any (l : List PairV) (hl : l.length ≤ 50000000) (i : Nat) (hi : i < l.length) : ref07_last l i = some ((l.drop (i + 1)).all fun q => !decide (q.1 = l[i].1)) := by
  rw [ref07_last.eq, add1 i (by omega)]
  exact last_loop l hl i hi _ (i + 1) (by omega) rfl
theorem insert_any (l out : List PairV) (i at_ : Nat) (hi : i < l.length) (hl : l.length ≤ 50000000) (ha : at_ ≤ out.length) (ho : out.length ≤ 50000000) :
    ref07_Make.j2 l i at_ false out = ref07_Make.l0 l ((i + 1 : Nat) : Int) (out.take at_ ++ l[i] :: out.drop at_) := by
  rw [ref07_Make.j2.eq, br_f]
  have e0 : toN 0 = 0 := rfl
  have s1 : subL tapiPair out 0 at_ = out.take at_ := subL0 _ _ _
  have s2 : subL tapiPair out at_ out.length = out.drop at_ := by
    unfold subL
    exact List.take_of_length_le (by rw [List.length_drop]; omega)
  have hx := ixP l i hi
  simp only [e0, toN_d, ofN_d, lenL_d, s1, s2, hx, appL_d, List.nil_append, add1 i (by omega)]
  have c1 : andB (leI 0 (i : Int)) (ltI (i : Int) (l.length : Int)) = true := by
    rw [leI_d, ltI_d, andB_d]; exact decide_eq_true ⟨by omega, by omega⟩
  have c2 : andB (leI 0 0) (andB (leI 0 (at_ : Int)) (leI (at_ : Int) (out.length : Int))) = true := by
    rw [leI_d, leI_d, leI_d, andB_d, andB_d]; exact decide_eq_true ⟨by omega, by omega, by omega⟩
  have c3 : fitL tapiPair (out.take at_) = true := by rw [fitL_d]; exact decide_eq_true (by rw [List.length_take]; omega)
  have c4 : fitL tapiPair (out.take at_ ++ [l[i]]) = true := by rw [fitL_d]; exact decide_eq_true (by rw [List.length_append, List.length_take]; show _ + 1 ≤ _; omega)
  have c5 : andB (leI 0 (at_ : Int)) (andB (leI (at_ : Int) (out.length : Int)) (leI (out.length : Int) (out.length : Int))) = true := by
    rw [leI_d, leI_d, leI_d, andB_d, andB_d]; exact decide_eq_true ⟨by omega, by omega, by omega⟩
  have c6 : fitL tapiPair (out.take at_ ++ [l[i]] ++ out.drop at_) = true := by rw [fitL_d]; exact decide_eq_true (by rw [List.length_append, List.length_append, List.length_take, List.length_drop]; show _ + 1 + _ ≤ _; omega)
  simp only [c1, c2, c3, c4, c5, c6, br_t, both_self]
  rw [List.append_assoc]
  rfl
theorem find_loop (l out : List PairV) (i : Nat) (hi : i < l.length) (hl : l.length ≤ 50000000) (ho : out.length ≤ 50000000) (hs : ∀ p ∈ out, okP p) (hS : Srt out) (hne : ∀ q ∈ out, q.1 ≠ l[i].1) (d : Nat) : ∀ (a : Nat), a ≤ out.length → out.length - a = d → (∀ (b : Nat) (h : b < out.length), b < a → lt out[b].1 l[i].1 = true) →
    ref07_Make.l1 l i a out = ref07_Make.l0 l ((i + 1 : Nat) : Int) (putS out l[i]) := by
  have fin : ∀ (a : Nat), a ≤ out.length → (∀ (b : Nat) (h : b < out.length), b < a → lt out[b].1 l[i].1 = true) → (∀ (h : a < out.length), lt out[a].1 l[i].1 = false) → ref07_Make.j2 l i a false out = ref07_Make.l0 l ((i + 1 : Nat) : Int) (putS out l[i]) := by
    intro a h1 h2 h3
    rw [insert_any l out i a hi hl h1 ho, putS_at l[i] out a h1 h2 h3, if_neg (by rintro ⟨h, e⟩; exact hne _ (List.getElem_mem h) e)]
  induction d with
  | zero =>
    intro a h1 h2 h3
    rw [ref07_Make.l1.eq]
    simp only [ltI_d, ofN_d, lenL_d, br_if]
    rw [if_neg (by omega)]
    exact fin a h1 h3 (fun h => by omega)
  | succ d ih =>
    intro a h1 h2 h3
    have ha : a < out.length := by omega
    rw [ref07_Make.l1.eq]
    simp only [ltI_d, leI_d, ofN_d, lenL_d, andB_d, br_if]
    rw [if_pos (by omega), if_pos (by omega), if_pos (by omega), ixP out a ha, ixP l i hi, less_any _ _ (by have := (hs _ (List.getElem_mem ha)).1; omega), bnd_some]
    cases hc : lt out[a].1 l[i].1 with
    | true =>
      rw [ref07_Make.j2.eq, br_t, add1 a (by omega)]
      refine ih (a + 1) (by omega) (by omega) (fun b h hb => ?_)
      by_cases e : b = a
      · subst e; exact hc
      · exact h3 b h (by omega)
    | false => exact fin a h1 h3 (fun _ => hc)
theorem refmake_loop (l : List PairV) (hl : l.length ≤ 40000000) (hs : ∀ p ∈ l, okP p) (d : Nat) : ∀ (i : Nat) (acc : List PairV), i ≤ l.length → l.length - i = d → acc.length ≤ i → (∀ q ∈ acc, okP q) → Srt acc → (∀ q ∈ acc, ∀ x ∈ l.drop i, q.1 ≠ x.1) →
    ref07_Make.l0 l i acc = some ((l.drop i).foldl putS acc) := by
  induction d with
  | zero =>
    intro i acc h1 h2 h3 h4 h5 h6
    rw [ref07_Make.l0.eq]
    simp only [ltI_d, ofN_d, lenL_d, br_if]
    rw [if_neg (by omega), List.drop_eq_nil_of_le (by omega)]
    rfl
  | succ d ih =>
    intro i acc h1 h2 h3 h4 h5 h6
    have hi : i < l.length := by omega
    have hd := List.drop_eq_getElem_cons hi
    rw [hd] at h6
    rw [ref07_Make.l0.eq]
    simp only [ltI_d, ofN_d, lenL_d, br_if]
    rw [if_pos (by omega), last_any l (by omega) i hi, bnd_some, hd, List.foldl_cons]
    by_cases e' : ((l.drop (i + 1)).all fun q => !decide (q.1 = l[i].1)) = true
    · have e : ∀ q ∈ l.drop (i + 1), q.1 ≠ l[i].1 := fun q hq => by simpa using List.all_eq_true.1 e' q hq
      rw [e', show notB true = false from rfl, br_f]
      have := find_loop l acc i hi (by omega) (by omega) h4 h5 (fun q hq => h6 q hq _ List.mem_cons_self) acc.length 0 (by omega) (by omega) (fun b h hb => by omega)
      rw [show ((0 : Nat) : Int) = 0 from rfl] at this
      rw [this]
      have hlen := putS_len l[i] acc
      refine ih (i + 1) _ (by omega) (by omega) (by omega) (putS_ok h4 (hs _ (List.getElem_mem hi))) (putS_srt _ h5) (fun q hq x hx => ?_)
      rcases putS_mem hq with rfl | hq
      · exact fun h => e x hx h.symm
      · exact h6 q hq x (List.mem_cons_of_mem _ hx)
    · have e : ¬ ∀ q ∈ l.drop (i + 1), q.1 ≠ l[i].1 := fun h => e' (List.all_eq_true.2 fun q hq => by simpa using h q hq)
      have e2 : ((l.drop (i + 1)).all fun q => !decide (q.1 = l[i].1)) = false := by simpa using e'
      rw [e2, show notB false = true from rfl, br_t, add1 i (by omega), ih (i + 1) acc (by omega) (by omega) (by omega) h4 h5 (fun q hq x hx => h6 q hq x (List.mem_cons_of_mem _ hx))]
      have hex : ∃ q ∈ l.drop (i + 1), q.1 = l[i].1 := by
        refine Classical.byContradiction fun h => e fun q hq he => h ⟨q, hq, he⟩
      rw [fold_skip _ _ hex]
theorem refmake_any (l : List PairV) (hl : l.length ≤ 40000000) (hs : ∀ p ∈ l, okP p) : ref07_Make l = some (makeS l) := by
  rw [ref07_Make.eq]
  have := refmake_loop l hl hs l.length 0 [] (by omega) (by omega) (by simp) (by simp) List.Pairwise.nil (by simp)
  rw [List.drop_zero, show ((0 : Nat) : Int) = 0 from rfl] at this
  exact this
end Go.Proofs.YtmopkbmcilolgaaGreat.AH
set_option linter.unusedVariables false
set_option linter.unusedSimpArgs false
namespace Go.Proofs.YtmopkbmcilolgaaGreat.AH
open Go.Abs
theorem srt_isS : ∀ {l : List PairV}, Srt l → isS l = true
  | [], _ => rfl
  | [_], _ => rfl
  | a :: b :: r, h => by
    have h1 := (List.pairwise_cons.1 h).1 b List.mem_cons_self
    have h2 := srt_isS (List.pairwise_cons.1 h).2
    show (lt a.1 b.1 && isS (b :: r)) = true
    rw [h1, h2]; rfl
theorem foldl_putS_srt : ∀ (l acc : List PairV), Srt acc → Srt (l.foldl putS acc)
  | [], _, h => h
  | p :: l, acc, h => foldl_putS_srt l (putS acc p) (putS_srt p h)
theorem makeS_Srt (l : List PairV) : Srt (makeS l) := foldl_putS_srt l [] List.Pairwise.nil
theorem foldl_putS_mem : ∀ (l acc : List PairV), ∀ x ∈ l.foldl putS acc, x ∈ acc ∨ x ∈ l
  | [], _, x, h => .inl h
  | p :: l, acc, x, h => by
    rcases foldl_putS_mem l (putS acc p) x h with h | h
    · rcases putS_mem h with rfl | h
      · exact .inr List.mem_cons_self
      · exact .inl h
    · exact .inr (List.mem_cons_of_mem _ h)
theorem makeS_mem {l : List PairV} {x : PairV} (h : x ∈ makeS l) : x ∈ l := (foldl_putS_mem l [] x h).resolve_left (by simp)
def pairAt (l : List PairV) (i : Nat) : PairV := l.getD i (ByteArray.empty, (ByteArray.empty, ()))
theorem pairAt_get (l : List PairV) (i : Nat) (h : i < l.length) : pairAt l i = l[i] := by
  unfold pairAt
  rw [List.getD_eq_getElem?_getD, List.getElem?_eq_getElem h]; rfl
theorem split_at (l : List PairV) (i : Nat) (h : i < l.length) : l.take i ++ [pairAt l i] ++ l.drop (i + 1) = l := by
  rw [pairAt_get l i h, List.append_assoc]
  conv => rhs; rw [← List.take_append_drop i l, List.drop_eq_getElem_cons h]
  rfl
theorem pairAt_mem (l : List PairV) (i : Nat) (h : i < l.length) : pairAt l i ∈ l := by rw [pairAt_get l i h]; exact List.getElem_mem h
/-! ### Heaps that go on -/
theorem mayHL_app : ∀ (a b : List NodeV) (i : Nat), mayHL i (a ++ b) = (mayHL i a && mayHL (i + a.length) b)
  | [], b, i => by rw [List.nil_append]; show _ = (true && mayHL i b); rw [Bool.true_and]
  | n :: a, b, i => by
    rw [List.cons_append, mayHL, mayHL, mayHL_app a b (i + 1), List.length_cons, show i + 1 + a.length = i + (a.length + 1) by omega, ← Bool.and_assoc]
theorem mayH_left {a b : List NodeV} (h : mayH (a ++ b) = true) : mayH a = true := by
  unfold mayH at *
  rw [mayHL_app, Bool.and_eq_true] at h
  exact h.1
theorem getN_app (a b : List NodeV) (r : Int) (h1 : 1 ≤ r) (h2 : r ≤ a.length) : getN (a ++ b) r = getN a r := by
  unfold getN
  rw [List.getD_eq_getElem?_getD, List.getD_eq_getElem?_getD, List.getElem?_append_left (by omega)]
theorem getN_last (a : List NodeV) (n : NodeV) : getN (a ++ [n]) ((a.length : Int) + 1) = n := by
  unfold getN
  rw [show ((a.length : Int) + 1 - 1).toNat = a.length by omega, List.getD_eq_getElem?_getD, List.getElem?_append_right (by omega), Nat.sub_self]
  rfl
theorem unf_app {a b : List NodeV} (hm : mayH a = true) : ∀ (k : Nat) (r : Int), 0 ≤ r → r ≤ a.length → unf (a ++ b) k r = unf a k r
  | 0, r, _, _ => rfl
  | k + 1, r, h0, h1 => by
    unfold unf
    by_cases e : r = 0
    · rw [if_pos e, if_pos e]
    · rw [if_neg e, if_neg e, getN_app a b r (by omega) h1]
      congr 1
      refine List.map_congr_left fun x hx => ?_
      have := (may_node hm (by omega) h1).2 x hx
      exact unf_app hm k x (by omega) (by omega)
theorem U_app {a b : List NodeV} (hm : mayH a = true) {r : Int} (h0 : 0 ≤ r) (h1 : r ≤ a.length) : U (a ++ b) r = U a r := unf_app hm _ r h0 h1
def okT (p : PairV) : Prop := p.1.size ≤ 16 ∧ p.2.1.size ≤ 16
theorem okT.ok {p : PairV} (h : okT p) : okP p := ⟨by have := h.1; omega, by have := h.2; omega⟩
theorem may_more {h : List NodeV} {n : NodeV} (hm : mayH h = true) (hn : mayS n = 0) (hr : ∀ r ∈ refsS n, 1 ≤ r ∧ r ≤ h.length) : mayH (h ++ [n]) = true := by
  unfold mayH
  rw [mayHL_app, Bool.and_eq_true]
  refine ⟨hm, mayHL_of _ _ fun j hj => ?_⟩
  have : j = 0 := by simpa using hj
  subst this
  refine ⟨hn, fun r hr' => ?_⟩
  have := hr r hr'
  exact ⟨this.1, by omega⟩
theorem kids_rng {h : List NodeV} (hm : mayH h = true) (hl : h.length ≤ 50000000) : ∀ n ∈ h, rngN n := by
  intro n hn
  obtain ⟨j, hj, ej⟩ := List.getElem_of_mem hn
  have hk := (may_node hm (r := (j : Int) + 1) (by omega) (by omega)).2
  rw [getN_ix _ j hj, ej] at hk
  refine ⟨fun k hk' => ?_, ?_⟩
  · have := hk k (List.mem_append_left _ hk')
    unfold rng; omega
  · have := hk n.2.2.2.2.2.1 (List.mem_append_right _ List.mem_cons_self)
    unfold rng; omega
end Go.Proofs.YtmopkbmcilolgaaGreat.AH
set_option autoImplicit false
set_option linter.unusedVariables false
namespace Go.Abs
theorem wf_i64 {a : Int} (h : (Lit.int .i64 a).wf = true) : -9223372036854775808 ≤ a ∧ a ≤ 9223372036854775807 := by
  simp [Lit.wf, IntKind.min, IntKind.max, IntKind.bits, IntKind.signed] at h
  omega
theorem wf_u64 {a : Int} (h : (Lit.int .u64 a).wf = true) : 0 ≤ a ∧ a < 18446744073709551616 := by
  simp [Lit.wf, IntKind.min, IntKind.max, IntKind.bits, IntKind.signed] at h
  omega
theorem wrap_u64 (n : Int) : IntKind.u64.wrap n = n % 18446744073709551616 := by simp [IntKind.wrap, IntKind.bits, IntKind.signed]
theorem wrap_u64_id {n : Int} (h0 : 0 ≤ n) (h1 : n < 18446744073709551616) : IntKind.u64.wrap n = n := by rw [wrap_u64]; omega
theorem wrap_u64_range (n : Int) : 0 ≤ IntKind.u64.wrap n ∧ IntKind.u64.wrap n < 18446744073709551616 := by rw [wrap_u64]; omega
theorem wraps_u64 (n : Int) (h0 : 0 ≤ n) (h1 : n < 2 ^ 64) : IntKind.u64.wrap n = n := by rw [wrap_u64]; omega
theorem and_u64 (a w : Nat) (ha : a < 18446744073709551616) (hw : w ≤ 64) : andI .u64 (a : Int) ((2 ^ w - 1 : Nat) : Int) = ((a % 2 ^ w : Nat) : Int) := by
  have hp : 2 ^ w ≤ 18446744073709551616 := by
    have := Nat.pow_le_pow_right (n := 2) (by omega) hw
    omega
  have hq : 0 < 2 ^ w := Nat.two_pow_pos w
  have e : ∀ x : Nat, x < 18446744073709551616 → (BitVec.ofInt 64 (x : Int)).toNat = x := by
    intro x hx
    simp only [BitVec.toNat_ofInt]
    omega
  unfold andI
  rw [show IntKind.u64.bits = 64 from rfl, BitVec.toNat_and, e a ha, e _ (by omega), Nat.and_two_pow_sub_one_eq_mod]
  have := Nat.mod_le a (2 ^ w)
  exact wrap_u64_id (by omega) (by omega)
/-- How many bits may be. -/
def wid (bits : Int) : Nat := (min (max bits 0) 64).toNat
theorem wid_le (bits : Int) : wid bits ≤ 64 := by unfold wid; omega
def lev (bits : Int) : Nat := (wid bits + 4) / 5
theorem lev_le (bits : Int) : lev bits ≤ 13 := by have := wid_le bits; unfold lev; omega
/-- A hash's chunkS at a level. -/
def chunkS (h : Nat) (level : Nat) (bits : Int) : Nat := if level < lev bits then (h % 2 ^ wid bits) / 2 ^ (5 * level) % 32 else 0
/-- One step of a hash. -/
def hstep (h b : Int) : Int := IntKind.u64.wrap ((xorI .u64 h (IntKind.u64.wrap b)) * 1099511628211)
def fnv : List UInt8 → Int → Int
  | [], h => h
  | x :: xs, h => fnv xs (hstep h (x.toNat : Int))
theorem hstep_range (h b : Int) : 0 ≤ hstep h b ∧ hstep h b < 18446744073709551616 := wrap_u64_range _
theorem fnv_cons (x : UInt8) (xs : List UInt8) (h : Int) : fnv (x :: xs) h = fnv xs (hstep h (x.toNat : Int)) := rfl
theorem fnv_range : ∀ (l : List UInt8) (h : Int), 0 ≤ h → h < 18446744073709551616 → 0 ≤ fnv l h ∧ fnv l h < 18446744073709551616
  | [], _, h0, h1 => ⟨h0, h1⟩
  | _ :: xs, h, _, _ => fnv_range xs _ (hstep_range h _).1 (hstep_range h _).2
/-- A text's hash. -/
theorem hashN_ex : ∃ f : ByteArray → Nat, ∀ s, f s = (fnv (bl s) 14695981039346656037).toNat := ⟨_, fun _ => rfl⟩
noncomputable def hashN : ByteArray → Nat := Classical.choose hashN_ex
theorem hashN_eq (s : ByteArray) : hashN s = (fnv (bl s) 14695981039346656037).toNat := Classical.choose_spec hashN_ex s
theorem hashN_int (s : ByteArray) : (hashN s : Int) = fnv (bl s) 14695981039346656037 := by
  have := fnv_range (bl s) 14695981039346656037 (by omega) (by omega)
  rw [hashN_eq]; omega
theorem hashN_lt (s : ByteArray) : hashN s < 18446744073709551616 := by
  have := fnv_range (bl s) 14695981039346656037 (by omega) (by omega)
  rw [hashN_eq]; omega
noncomputable def hashS (s : ByteArray) (bits : Int) : Nat := hashN s % 2 ^ wid bits
theorem hash_lt (s : ByteArray) (bits : Int) : hashS s bits < 2 ^ wid bits := Nat.mod_lt _ (Nat.two_pow_pos _)
theorem pow_le64 {w : Nat} (h : w ≤ 64) : 2 ^ w ≤ 18446744073709551616 := by
  have := Nat.pow_le_pow_right (n := 2) (by omega) h
  omega
theorem hash_lt64 (s : ByteArray) (bits : Int) : hashS s bits < 18446744073709551616 := by
  have := hash_lt s bits
  have := pow_le64 (wid_le bits)
  omega

/-- Which of two lists of chunks is ahead, from a level on. -/
def befC (x y : Nat → Nat) : Nat → Nat → Bool
  | 0, _ => false
  | n + 1, l => if x l = y l then befC x y n (l + 1) else decide (x l < y l)
def befS (a b : Nat) (bits : Int) : Bool := befC (fun l => chunkS a l bits) (fun l => chunkS b l bits) (lev bits) 0

theorem befC_same (x y : Nat → Nat) : ∀ n l, (∀ i, l ≤ i → i < l + n → x i = y i) → befC x y n l = false
  | 0, _, _ => rfl
  | n + 1, l, h => by
    unfold befC
    rw [if_pos (h l (by omega) (by omega))]
    exact befC_same x y n (l + 1) (fun i h1 h2 => h i (by omega) (by omega))
theorem befC_total (x y : Nat → Nat) : ∀ n l, (¬ ∀ i, l ≤ i → i < l + n → x i = y i) → (befC x y n l = !befC y x n l)
  | 0, l, h => absurd (fun i h1 h2 => by omega) h
  | n + 1, l, h => by
    unfold befC
    by_cases e : x l = y l
    · rw [if_pos e, if_pos e.symm]
      refine befC_total x y n (l + 1) (fun k => h (fun i h1 h2 => ?_))
      by_cases q : i = l
      · rw [q]; exact e
      · exact k i (by omega) (by omega)
    · rw [if_neg e, if_neg (fun q => e q.symm)]
      by_cases q : x l < y l
      · have : ¬ y l < x l := by omega
        simp [q, this]
      · have : y l < x l := by omega
        simp [q, this]

theorem digits_eq : ∀ (n a b : Nat), a < 32 ^ n → b < 32 ^ n → (∀ i, i < n → a / 32 ^ i % 32 = b / 32 ^ i % 32) → a = b
  | 0, a, b, ha, hb, _ => by simp at ha hb; omega
  | n + 1, a, b, ha, hb, h => by
    have h0 := h 0 (by omega)
    simp at h0
    have := digits_eq n (a / 32) (b / 32) (by rw [Nat.pow_succ] at ha; omega) (by rw [Nat.pow_succ] at hb; omega) (fun i hi => by
      have := h (i + 1) (by omega)
      rw [Nat.pow_succ, Nat.mul_comm, ← Nat.div_div_eq_div_mul, ← Nat.div_div_eq_div_mul] at this
      exact this)
    omega
theorem chunk_small (a level : Nat) (bits : Int) (ha : a < 2 ^ wid bits) (hl : level < lev bits) : chunkS a level bits = a / 32 ^ level % 32 := by
  unfold chunkS
  rw [if_pos hl, Nat.mod_eq_of_lt ha, Nat.pow_mul]
theorem chunks_same {a b : Nat} {bits : Int} (ha : a < 2 ^ wid bits) (hb : b < 2 ^ wid bits) (h : ∀ l, l < lev bits → chunkS a l bits = chunkS b l bits) : a = b := by
  have hp : 2 ^ wid bits ≤ 32 ^ lev bits := by
    rw [show (32 : Nat) = 2 ^ 5 by rfl, ← Nat.pow_mul]
    exact Nat.pow_le_pow_right (by omega) (by unfold lev; omega)
  refine digits_eq (lev bits) a b (by omega) (by omega) (fun i hi => ?_)
  have := h i hi
  rw [chunk_small a i bits ha hi, chunk_small b i bits hb hi] at this
  exact this
theorem before_self (a : Nat) (bits : Int) : befS a a bits = false := befC_same _ _ _ _ (fun _ _ _ => rfl)
theorem before_self' {a b : Nat} {bits : Int} (h : a = b) : befS a b bits = false := by rw [h]; exact before_self b bits
theorem before_total {a b : Nat} {bits : Int} (ha : a < 2 ^ wid bits) (hb : b < 2 ^ wid bits) (h : a ≠ b) : befS a b bits = !befS b a bits :=
  befC_total _ _ _ _ (fun k => h (chunks_same ha hb (fun l hl => k l (by omega) (by omega))))
theorem befC_trans (x y z : Nat → Nat) : ∀ n l, befC x y n l = true → befC y z n l = true → befC x z n l = true
  | 0, _, h, _ => by cases h
  | n + 1, l, h1, h2 => by
    unfold befC at h1 h2 ⊢
    by_cases e1 : x l = y l
    · by_cases e2 : y l = z l
      · rw [if_pos e1] at h1
        rw [if_pos e2] at h2
        rw [if_pos (e1.trans e2)]
        exact befC_trans x y z n (l + 1) h1 h2
      · rw [if_neg e2] at h2
        rw [if_neg (by omega)]
        simp only [decide_eq_true_eq] at h2 ⊢
        omega
    · rw [if_neg e1] at h1
      simp only [decide_eq_true_eq] at h1
      by_cases e2 : y l = z l
      · rw [if_neg (by omega)]
        simp only [decide_eq_true_eq]
        omega
      · rw [if_neg e2] at h2
        simp only [decide_eq_true_eq] at h2
        rw [if_neg (by omega)]
        simp only [decide_eq_true_eq]
        omega
theorem before_trans {a b c : Nat} {bits : Int} (h1 : befS a b bits = true) (h2 : befS b c bits = true) : befS a c bits = true := befC_trans _ _ _ _ _ h1 h2

/-- What lies between two bits. -/
theorem mod_div_pow (h w a : Nat) (ha : a ≤ w) : h % 2 ^ w / 2 ^ a = h / 2 ^ a % 2 ^ (w - a) := by
  have : 2 ^ w = 2 ^ a * 2 ^ (w - a) := by rw [← Nat.pow_add]; congr 1; omega
  rw [this, Nat.mod_mul_right_div_self]
theorem mod_mod_pow (x p q : Nat) : x % 2 ^ p % 2 ^ q = x % 2 ^ min p q := by
  by_cases h : q ≤ p
  · rw [Nat.min_eq_right h, Nat.mod_mod_of_dvd _ (Nat.pow_dvd_pow 2 h)]
  · rw [Nat.min_eq_left (by omega), Nat.mod_eq_of_lt]
    have h1 := Nat.mod_lt x (Nat.two_pow_pos p)
    have h2 := Nat.pow_le_pow_right (n := 2) (by omega) (show p ≤ q by omega)
    omega
theorem mod_pow_succ (x p : Nat) : x % 2 ^ (p + 1) = x % 2 ^ p + 2 ^ p * (x / 2 ^ p % 2) := by
  rw [Nat.pow_succ, Nat.mod_mul]
theorem lowstep (A A' B B' P : Nat) (q2 : A / 2 = A') (m1 : B' = B + P * (A % 2)) (hB : B' < 18446744073709551616) (hA : A < 18446744073709551616) (hP : P ≤ 9223372036854775808) :
    IntKind.u64.wrap ((A : Int) / 2) = (A' : Int) ∧ IntKind.u64.wrap ((B : Int) + IntKind.u64.wrap ((P : Int) * ((A : Int) % 2))) = (B' : Int) := by
  have e : ((A : Int) % 2) = ((A % 2 : Nat) : Int) := by omega
  have hb : A % 2 = 0 ∨ A % 2 = 1 := by omega
  constructor
  · rw [wrap_u64_id (by omega) (by omega)]; omega
  · rw [e]
    rcases hb with hb | hb
    · rw [hb] at m1 ⊢
      rw [wrap_u64_id (n := (P : Int) * ((0 : Nat) : Int)) (by omega) (by omega), wrap_u64_id (by omega) (by omega)]
      omega
    · rw [hb] at m1 ⊢
      rw [wrap_u64_id (n := (P : Int) * ((1 : Nat) : Int)) (by omega) (by omega), wrap_u64_id (by omega) (by omega)]
      omega
theorem chunkstep (b B B' P : Nat) (m1 : B' = B + P * b) (hb : b < 2) (hB : B < 64) (hP : P ≤ 64) : IntKind.i64.wrap ((B : Int) + IntKind.i64.wrap ((P : Int) * (b : Int))) = (B' : Int) := by
  have hb : b = 0 ∨ b = 1 := by omega
  rcases hb with hb | hb
  · rw [hb] at m1 ⊢
    rw [wrap_i64_id (x := (P : Int) * ((0 : Nat) : Int)) (by omega) (by omega), wrap_i64_id (by omega) (by omega)]
    omega
  · rw [hb] at m1 ⊢
    rw [wrap_i64_id (x := (P : Int) * ((1 : Nat) : Int)) (by omega) (by omega), wrap_i64_id (by omega) (by omega)]
    omega
/-- How a hash is mixed to a priority. -/
def m1 (h : Int) : Int := IntKind.u64.wrap ((xorI .u64 h (h / 1073741824)) * 13787848793156543929)
def m2 (h : Int) : Int := IntKind.u64.wrap ((xorI .u64 h (h / 134217728)) * 10723151780598845931)
def m3 (h : Int) : Int := xorI .u64 h (h / 2147483648)
/-- A text's priority. -/
theorem pri_ex : ∃ f : ByteArray → Int, ∀ s, f s = m3 (m2 (m1 ((hashS s 64 : Nat) : Int))) := ⟨_, fun _ => rfl⟩
noncomputable def pri : ByteArray → Int := Classical.choose pri_ex
theorem pri_eq (s : ByteArray) : pri s = m3 (m2 (m1 ((hashS s 64 : Nat) : Int))) := Classical.choose_spec pri_ex s
/-- Which of two texts is above. -/
noncomputable def above (a b : ByteArray) : Bool := if pri a = pri b then lt a b else decide (pri a > pri b)
theorem above_irrefl (a : ByteArray) : above a a = false := by
  unfold above
  rw [if_pos rfl, lt_irrefl]
theorem above_total {a b : ByteArray} (h : a ≠ b) : above a b = true ∨ above b a = true := by
  unfold above
  by_cases e : pri a = pri b
  · rw [if_pos e, if_pos e.symm]; exact lt_total h
  · rw [if_neg e, if_neg (fun q => e q.symm)]
    simp only [decide_eq_true_eq]
    omega
theorem above_trans {a b c : ByteArray} (h1 : above a b = true) (h2 : above b c = true) : above a c = true := by
  unfold above at *
  by_cases e1 : pri a = pri b
  · by_cases e2 : pri b = pri c
    · rw [if_pos e1] at h1
      rw [if_pos e2] at h2
      rw [if_pos (by omega)]
      exact lt_trans h1 h2
    · rw [if_neg e2] at h2
      simp only [decide_eq_true_eq] at h2
      rw [if_neg (by omega)]
      simp only [decide_eq_true_eq]
      omega
  · rw [if_neg e1] at h1
    simp only [decide_eq_true_eq] at h1
    by_cases e2 : pri b = pri c
    · rw [if_neg (by omega)]
      simp only [decide_eq_true_eq]
      omega
    · rw [if_neg e2] at h2
      simp only [decide_eq_true_eq] at h2
      rw [if_neg (by omega)]
      simp only [decide_eq_true_eq]
      omega
theorem above_asymm {a b : ByteArray} (h : above a b = true) : above b a = false := by
  cases k : above b a with
  | false => rfl
  | true => have := above_trans h k; rw [above_irrefl] at this; cases this
/-- The one that none of some texts is above. -/
noncomputable def best : List ByteArray → ByteArray → ByteArray
  | [], o => o
  | x :: xs, o => best xs (if above x o = true then x else o)
noncomputable def topT : List ByteArray → ByteArray × Bool
  | [] => (⟨#[]⟩, false)
  | x :: xs => (best xs x, true)
theorem best_mem : ∀ xs o, best xs o = o ∨ best xs o ∈ xs
  | [], _ => .inl rfl
  | x :: xs, o => by
    unfold best
    by_cases h : above x o = true
    · rw [if_pos h]
      rcases best_mem xs x with e | e
      · rw [e]; exact .inr (by simp)
      · exact .inr (List.mem_cons_of_mem _ e)
    · rw [if_neg h]
      rcases best_mem xs o with e | e
      · exact .inl e
      · exact .inr (List.mem_cons_of_mem _ e)
theorem above_not_trans {a b c : ByteArray} (h1 : above a b = false) (h2 : above b c = false) : above a c = false := by
  cases h : above a c with
  | false => rfl
  | true =>
    by_cases e : a = b
    · subst e; rw [h2] at h; cases h
    · rcases above_total e with q | q
      · rw [h1] at q; cases q
      · have := above_trans q h; rw [h2] at this; cases this
theorem best_top : ∀ xs o, above o (best xs o) = false ∧ ∀ y ∈ xs, above y (best xs o) = false
  | [], o => ⟨above_irrefl o, by simp⟩
  | x :: xs, o => by
    unfold best
    by_cases h : above x o = true
    · rw [if_pos h]
      obtain ⟨h1, h2⟩ := best_top xs x
      refine ⟨above_not_trans (above_asymm h) h1, fun y hy => ?_⟩
      rcases List.mem_cons.1 hy with e | e
      · rw [e]; exact h1
      · exact h2 y e
    · rw [if_neg h]
      obtain ⟨h1, h2⟩ := best_top xs o
      refine ⟨h1, fun y hy => ?_⟩
      rcases List.mem_cons.1 hy with e | e
      · rw [e]; exact above_not_trans (Bool.eq_false_iff.2 h) h1
      · exact h2 y e
theorem top_mem {l : List ByteArray} (h : 0 < l.length) : (topT l).1 ∈ l := by
  cases l with
  | nil => simp at h
  | cons x xs =>
    show best xs x ∈ _
    rcases best_mem xs x with e | e
    · rw [e]; simp
    · exact List.mem_cons_of_mem _ e
theorem top_top {l : List ByteArray} {y : ByteArray} (h : y ∈ l) : above y (topT l).1 = false := by
  cases l with
  | nil => simp at h
  | cons x xs =>
    show above y (best xs x) = false
    obtain ⟨h1, h2⟩ := best_top xs x
    rcases List.mem_cons.1 h with e | e
    · rw [e]; exact h1
    · exact h2 y e
theorem top_only {l : List ByteArray} {y : ByteArray} (h : y ∈ l) (hy : ∀ z ∈ l, above z y = false) : y = (topT l).1 := by
  by_cases e : y = (topT l).1
  · exact e
  · have hp : 0 < l.length := List.length_pos_of_mem h
    rcases above_total e with q | q
    · rw [top_top h] at q; cases q
    · rw [hy _ (top_mem hp)] at q; cases q
end Go.Abs
set_option linter.unusedVariables false
set_option linter.unusedSimpArgs false
namespace Go.Proofs.YtmopkbmcilolgaaGreat.AH
open Go.Abs
theorem clamp_any (bits : Int) : ref04_clamp bits = some (wid bits : Int) := by
  rw [ref04_clamp.eq]
  simp only [ltI_d, br_if]
  unfold wid
  by_cases h : bits < 0
  · rw [if_pos h]; exact some_int (by omega)
  · rw [if_neg h]
    by_cases h' : 64 < bits
    · rw [if_pos h']; exact some_int (by omega)
    · rw [if_neg h']; exact some_int (by omega)
theorem reflow_loop (bits : Int) (n : Nat) (hn : n < 18446744073709551616) (d : Nat) : ∀ (i : Nat) (one : Int), i ≤ wid bits → (i < 64 → one = 2 ^ i) → wid bits - i = d →
    ref04_Of.l1 bits ((n / 2 ^ i : Nat) : Int) ((n % 2 ^ i : Nat) : Int) one i = some ((n % 2 ^ wid bits : Nat) : Int) := by
  have hw := wid_le bits
  induction d with
  | zero =>
    intro i one hi h1 hd
    rw [ref04_Of.l1.eq, clamp_any, bnd_some]
    simp only [ltI_d, br_if]
    rw [if_neg (by omega), show i = wid bits by omega]
  | succ d ih =>
    intro i one hi h1 hd
    rw [ref04_Of.l1.eq, clamp_any, bnd_some]
    simp only [ltI_d, br_if, eqI_d, notB_d]
    have hone := h1 (by omega)
    subst hone
    have c : ((2 : Int) ^ i) = ((2 ^ i : Nat) : Int) := by simp
    have p : 2 ^ i ≤ 2 ^ 63 := Nat.pow_le_pow_right (by omega) (by omega)
    have q : n / 2 ^ i ≤ n := Nat.div_le_self _ _
    have q2 : n / 2 ^ i / 2 = n / 2 ^ (i + 1) := by rw [Nat.div_div_eq_div_mul, Nat.pow_succ]
    have m1 := mod_pow_succ n i
    have m2 : n % 2 ^ (i + 1) < 18446744073709551616 := by have := Nat.mod_le n (2 ^ (i + 1)); omega
    rw [if_pos (by omega), if_pos (by omega), if_pos (by omega), add1 i (by omega)]
    unfold quoI remI addI mulI
    rw [Int.tdiv_eq_ediv_of_nonneg (Int.natCast_nonneg _), Int.tmod_eq_emod_of_nonneg (Int.natCast_nonneg _)]
    have e := lowstep (n / 2 ^ i) _ (n % 2 ^ i) _ (2 ^ i) q2 m1 m2 (by omega) p
    rw [← c] at e
    rw [e.1, e.2]
    refine ih (i + 1) _ (by omega) (fun h => ?_) (by omega)
    have p2 : 2 ^ (i + 1) ≤ 2 ^ 63 := Nat.pow_le_pow_right (by omega) (by omega)
    have c2 : ((2 : Int) ^ (i + 1)) = ((2 ^ (i + 1) : Nat) : Int) := by simp
    rw [c, c2, wrap_u64, Nat.pow_succ]
    rw [Nat.pow_succ] at p2
    omega
theorem byte_u64 (s : ByteArray) (i : Nat) (hi : i < s.size) : ∃ x : UInt8, (bl s).drop i = x :: (bl s).drop (i + 1) ∧ wrapI .u64 (getS s (toN (i : Int))) = IntKind.u64.wrap (x.toNat : Int) := by
  obtain ⟨x, e, hx⟩ := drop_cons s i hi
  refine ⟨x, e, ?_⟩
  rw [getS_bt, hx]; rfl
theorem refof_loop (s : ByteArray) (bits : Int) (hs : s.size ≤ 140737488351232) (d : Nat) : ∀ (i : Nat) (h : Int), 0 ≤ h → h < 18446744073709551616 → i ≤ s.size → s.size - i = d →
    ref04_Of.l0 s bits h i = some ((((fnv ((bl s).drop i) h).toNat % 2 ^ wid bits : Nat)) : Int) := by
  have hw := wid_le bits
  induction d with
  | zero =>
    intro i h h0 h1 hi hd
    rw [ref04_Of.l0.eq]
    simp only [ltI_d, leI_d, ofN_d, lenS_d, andB_d, br_if]
    obtain ⟨n, rfl⟩ : ∃ n : Nat, h = n := ⟨h.toNat, by omega⟩
    rw [if_neg (by omega), List.drop_eq_nil_of_le (by rw [bl_len]; omega)]
    have := reflow_loop bits n (by omega) (wid bits) 0 1 (by omega) (fun _ => by simp) (by omega)
    simp only [Nat.pow_zero, Nat.div_one, Nat.mod_one, Int.cast_ofNat_Int] at this
    rw [this]
    rfl
  | succ d ih =>
    intro i h h0 h1 hi hd
    rw [ref04_Of.l0.eq]
    simp only [ltI_d, leI_d, ofN_d, lenS_d, andB_d, br_if]
    obtain ⟨x, e, hx⟩ := byte_u64 s i (by omega)
    rw [if_pos (by omega), if_pos (by omega), e, add1 i (by omega), hx]
    have hr := hstep_range h (x.toNat : Int)
    have := ih (i + 1) (hstep h (x.toNat : Int)) hr.1 hr.2 (by omega) (by omega)
    unfold hstep at this
    unfold mulI
    rw [this, fnv_cons]
    rfl
theorem refof_any (s : ByteArray) (bits : Int) (hs : s.size ≤ 140737488351232) : ref04_Of s bits = some ((hashS s bits : Nat) : Int) := by
  rw [ref04_Of.eq]
  have := refof_loop s bits hs s.size 0 14695981039346656037 (by omega) (by omega) (by omega) (by omega)
  simp only [List.drop_zero, Int.cast_ofNat_Int] at this
  unfold hashS
  rw [hashN_eq]
  exact this
theorem within_any (bits : Int) : hash_within bits = some (wid bits : Int) := by
  rw [hash_within.eq]
  simp only [minI_d, maxI_d]
  unfold wid
  exact some_int (by omega)
theorem cutb_any (h : Nat) (hh : h < 18446744073709551616) (bits : Int) : hash_cut h bits = some ((h % 2 ^ wid bits : Nat) : Int) := by
  have hw := wid_le bits
  rw [hash_cut.eq, within_any, bnd_some]
  simp only [eqI_d, leI_d, br_if]
  by_cases e : wid bits = 64
  · rw [if_pos (by omega), e, Nat.mod_eq_of_lt (by omega)]
  · rw [if_neg (by omega), bnd_some, if_pos (by omega)]
    have hpos : 0 < 2 ^ wid bits := Nat.two_pow_pos _
    have hle : 2 ^ wid bits ≤ 2 ^ 63 := Nat.pow_le_pow_right (by omega) (by omega)
    have e1 : shlI .u64 1 ((wid bits : Nat) : Int) = ((2 ^ wid bits : Nat) : Int) := by
      unfold shlI
      rw [Int.toNat_natCast, show IntKind.u64.bits = 64 from rfl, Nat.min_eq_left hw, Int.one_mul, wrap_u64]
      have c : ((2 : Int) ^ wid bits) = ((2 ^ wid bits : Nat) : Int) := by simp
      rw [c]
      generalize 2 ^ wid bits = P at hle ⊢
      omega
    have e2 : subI .u64 ((2 ^ wid bits : Nat) : Int) 1 = ((2 ^ wid bits - 1 : Nat) : Int) := by
      unfold subI
      rw [wrap_u64]
      generalize 2 ^ wid bits = P at hle hpos ⊢
      omega
    rw [e1, e2, and_u64 _ _ hh hw]
theorem hashof_loop (s : ByteArray) (bits : Int) (hs : s.size ≤ 140737488351232) (d : Nat) : ∀ (i : Nat) (h : Int), 0 ≤ h → h < 18446744073709551616 → i ≤ s.size → s.size - i = d →
    hash_Of.l0 s bits h s.size i = some ((((fnv ((bl s).drop i) h).toNat % 2 ^ wid bits : Nat)) : Int) := by
  induction d with
  | zero =>
    intro i h h0 h1 hi hd
    rw [hash_Of.l0.eq]
    simp only [ltI_d, leI_d, ofN_d, lenS_d, andB_d, br_if]
    obtain ⟨n, rfl⟩ : ∃ n : Nat, h = n := ⟨h.toNat, by omega⟩
    rw [if_neg (by omega), List.drop_eq_nil_of_le (by rw [bl_len]; omega), cutb_any n (by omega), bnd_some]
    rfl
  | succ d ih =>
    intro i h h0 h1 hi hd
    rw [hash_Of.l0.eq]
    simp only [ltI_d, leI_d, ofN_d, lenS_d, andB_d, br_if]
    obtain ⟨x, e, hx⟩ := byte_u64 s i (by omega)
    rw [if_pos (by omega), if_pos (by omega), e, add1 i (by omega), hx]
    have hr := hstep_range h (x.toNat : Int)
    have := ih (i + 1) (hstep h (x.toNat : Int)) hr.1 hr.2 (by omega) (by omega)
    unfold hstep at this
    unfold mulI
    rw [this, fnv_cons]
    rfl
theorem hashof_any (s : ByteArray) (bits : Int) (hs : s.size ≤ 140737488351232) : hash_Of s bits = some ((hashS s bits : Nat) : Int) := by
  rw [hash_Of.eq]
  have := hashof_loop s bits hs s.size 0 14695981039346656037 (by omega) (by omega) (by omega) (by omega)
  simp only [List.drop_zero, Int.cast_ofNat_Int] at this
  unfold hashS
  rw [hashN_eq]
  exact this
end Go.Proofs.YtmopkbmcilolgaaGreat.AH
set_option linter.unusedVariables false
set_option linter.unusedSimpArgs false
namespace Go.Proofs.YtmopkbmcilolgaaGreat.AH
open Go.Abs
theorem down_loop (a : Nat) (d : Nat) : ∀ (h i : Nat), h < 18446744073709551616 → i ≤ a → a ≤ 64 → a - i = d → ref05_down.l0 h a i = some ((h / 2 ^ d : Nat) : Int) := by
  induction d with
  | zero =>
    intro h i hh hi ha hd
    rw [ref05_down.l0.eq]
    simp only [ltI_d, br_if]
    rw [if_neg (by omega)]
    simp
  | succ d ih =>
    intro h i hh hi ha hd
    rw [ref05_down.l0.eq]
    simp only [ltI_d, eqI_d, notB_d, br_if]
    unfold quoI
    rw [if_pos (by omega), if_pos (by omega), Int.tdiv_eq_ediv_of_nonneg (by omega), Go.Abs.wrap_u64_id (by omega) (by omega), add1 i (by omega), show ((h : Int) / 2) = ((h / 2 : Nat) : Int) by omega]
    rw [ih (h / 2) (i + 1) (by omega) (by omega) (by omega) (by omega), Nat.div_div_eq_div_mul, Nat.pow_succ, Nat.mul_comm 2]
theorem down_any (h : Int) (h0 : 0 ≤ h) (h1 : h < 18446744073709551616) (a : Nat) (ha : a ≤ 64) : ref05_down h a = some (h / ((2 ^ a : Nat) : Int)) := by
  obtain ⟨n, rfl⟩ : ∃ n : Nat, h = n := ⟨h.toNat, by omega⟩
  rw [ref05_down.eq, show (0 : Int) = ((0 : Nat) : Int) by rfl, down_loop a a n 0 (by omega) (by omega) ha (by omega)]
  simp
theorem refpriof_any (s : ByteArray) (hs : s.size ≤ 140737488351232) : ref05_Of s = some (pri s) := by
  rw [pri_eq]
  have h64 := hash_lt64 s 64
  rw [ref05_Of.eq, refof_any s 64 hs, bnd_some]
  obtain ⟨h, hh⟩ : ∃ h : Int, ((hashS s 64 : Nat) : Int) = h := ⟨_, rfl⟩
  rw [hh]
  have d1 : ref05_down h 30 = some (h / 1073741824) := down_any h (by omega) (by omega) 30 (by omega)
  rw [d1, bnd_some]
  have r1 : 0 ≤ m1 h ∧ m1 h < 18446744073709551616 := wrap_u64_range _
  obtain ⟨x, hx⟩ : ∃ x : Int, m1 h = x := ⟨_, rfl⟩
  rw [show mulI .u64 (xorI .u64 h (h / 1073741824)) 13787848793156543929 = x from hx, hx]
  rw [hx] at r1
  have d2 : ref05_down x 27 = some (x / 134217728) := down_any x r1.1 r1.2 27 (by omega)
  rw [d2, bnd_some]
  have r2 : 0 ≤ m2 x ∧ m2 x < 18446744073709551616 := wrap_u64_range _
  obtain ⟨y, hy⟩ : ∃ y : Int, m2 x = y := ⟨_, rfl⟩
  rw [show mulI .u64 (xorI .u64 x (x / 134217728)) 10723151780598845931 = y from hy, hy]
  rw [hy] at r2
  have d3 : ref05_down y 31 = some (y / 2147483648) := down_any y r2.1 r2.2 31 (by omega)
  rw [d3, bnd_some]
  rfl
theorem shr_nat (h : Int) (n : Nat) (hn : n ≤ 64) : shrI .u64 h (n : Int) = h / ((2 ^ n : Nat) : Int) := by
  unfold shrI
  rw [Int.toNat_natCast, show IntKind.u64.bits = 64 from rfl, Nat.min_eq_left hn, Int.fdiv_eq_ediv_of_nonneg _ (Int.pow_nonneg (by omega))]
  simp
theorem priof_any (s : ByteArray) (hs : s.size ≤ 140737488351232) : pri_Of s = some (pri s) := by
  rw [pri_eq, pri_Of.eq, hashof_any s 64 hs, bnd_some]
  have s1 : ∀ h : Int, shrI .u64 h 30 = h / 1073741824 := fun h => shr_nat h 30 (by omega)
  have s2 : ∀ h : Int, shrI .u64 h 27 = h / 134217728 := fun h => shr_nat h 27 (by omega)
  have s3 : ∀ h : Int, shrI .u64 h 31 = h / 2147483648 := fun h => shr_nat h 31 (by omega)
  simp only [leI_d, br_if, s1, s2, s3]
  rw [if_pos (by omega), if_pos (by omega), if_pos (by omega)]
  rfl
theorem above_any (a b : ByteArray) (ha : a.size ≤ 140737488351232) (hb : b.size ≤ 140737488351232) : pri_Above a b = some (above a b) := by
  rw [pri_Above.eq, priof_any a ha, bnd_some, priof_any b hb, bnd_some, compare_any a b (by omega), bnd_some]
  simp only [ltI_d, eqI_d, br_if]
  unfold above
  by_cases e : pri a = pri b
  · rw [if_neg (by omega), if_pos e, if_pos e]
    refine some_bool ?_
    by_cases q : lt a b = true
    · rw [q]; exact decide_eq_true (cmp_neg.2 q)
    · rw [Bool.eq_false_iff.2 q]; exact decide_eq_false (fun z => q (cmp_neg.1 z))
  · by_cases g : pri b < pri a
    · rw [if_pos g, if_neg e]; exact some_bool (decide_eq_true g).symm
    · rw [if_neg g, if_neg e, if_neg e]; exact some_bool (decide_eq_false g).symm
theorem refabove_any (a b : ByteArray) (ha : a.size ≤ 140737488351232) (hb : b.size ≤ 140737488351232) : ref05_Above a b = some (above a b) := by
  rw [ref05_Above.eq, refpriof_any a ha, bnd_some, refpriof_any b hb, bnd_some, bnd_some, bnd_some, less_any a b (by omega), bnd_some]
  simp only [ltI_d, eqI_d, notB_d, br_if]
  unfold above
  by_cases e : pri a = pri b
  · rw [if_neg (by intro q; exact q e), if_pos e]
  · rw [if_pos e, if_neg e]
end Go.Proofs.YtmopkbmcilolgaaGreat.AH
set_option linter.unusedVariables false
set_option linter.unusedSimpArgs false
namespace Go.Proofs.YtmopkbmcilolgaaGreat.AH
open Go.Abs
/-! ### The binding that is above all others -/
def keyAt (l : List PairV) (i : Nat) : ByteArray := (l.getD i (ByteArray.empty, (ByteArray.empty, ()))).1
theorem keyAt_get (l : List PairV) (i : Nat) (h : i < l.length) : keyAt l i = l[i].1 := by
  unfold keyAt
  rw [List.getD_eq_getElem?_getD, List.getElem?_eq_getElem h]; rfl
noncomputable def topA (l : List PairV) : Nat → Nat → Nat → Nat
  | 0, _, t => t
  | d + 1, i, t => topA l d (i + 1) (if above (keyAt l i) (keyAt l t) = true then i else t)
noncomputable def topI (l : List PairV) : Nat := topA l (l.length - 1) 1 0
theorem topA_spec (l : List PairV) : ∀ (d i t : Nat), t < i → i + d = l.length → (∀ j, j < i → above (keyAt l j) (keyAt l t) = false) → (∀ j, j < t → keyAt l j ≠ keyAt l t) →
    topA l d i t < l.length ∧ (∀ j, j < l.length → above (keyAt l j) (keyAt l (topA l d i t)) = false) ∧ ∀ j, j < topA l d i t → keyAt l j ≠ keyAt l (topA l d i t)
  | 0, i, t, h1, h2, h3, h4 => ⟨by unfold topA; omega, by unfold topA; intro j hj; exact h3 j (by omega), by unfold topA; exact h4⟩
  | d + 1, i, t, h1, h2, h3, h4 => by
    unfold topA
    by_cases h : above (keyAt l i) (keyAt l t) = true
    · rw [if_pos h]
      refine topA_spec l d (i + 1) i (by omega) (by omega) (fun j hj => ?_) (fun j hj e => ?_)
      · by_cases e : j = i
        · subst e; exact above_irrefl _
        · exact above_not_trans (h3 j (by omega)) (above_asymm h)
      · rw [← e, h3 j hj] at h; cases h
    · rw [if_neg h]
      refine topA_spec l d (i + 1) t (by omega) (by omega) (fun j hj => ?_) h4
      by_cases e : j = i
      · subst e; exact Bool.eq_false_iff.2 h
      · exact h3 j (by omega)
theorem topI_spec (l : List PairV) (h : l ≠ []) : topI l < l.length ∧ (∀ j, j < l.length → above (keyAt l j) (keyAt l (topI l)) = false) ∧ ∀ j, j < topI l → keyAt l j ≠ keyAt l (topI l) := by
  have hp : 0 < l.length := List.length_pos_iff.2 h
  exact topA_spec l (l.length - 1) 1 0 (by omega) (by omega) (fun j hj => by rw [show j = 0 by omega]; exact above_irrefl _) (fun j hj => by omega)
theorem topI_lt {l : List PairV} (h : l ≠ []) : topI l < l.length := (topI_spec l h).1
def treeN (p : PairV) (a b : Int) (n : Nat) : NodeV := (4, (p.1, (p.2.1, (0, ([a, b], (0, ([], ((n : Int), (0, ())))))))))
/-- The nodes of a tree, behind those that are there; and its reference. -/
noncomputable def nodesS (h : List NodeV) (l : List PairV) : List NodeV × Int :=
  if hl : l = [] then (h, 0) else
    have := topI_lt hl
    let a := nodesS h (l.take (topI l))
    let b := nodesS a.1 (l.drop (topI l + 1))
    (b.1 ++ [treeN (pairAt l (topI l)) a.2 b.2 l.length], (b.1.length : Int) + 1)
termination_by l.length
decreasing_by
  · rw [List.length_take]; omega
  · rw [List.length_drop]; omega
theorem nodesS_nil (h : List NodeV) : nodesS h [] = (h, 0) := by rw [nodesS, dif_pos rfl]
theorem nodesS_cons (h : List NodeV) {l : List PairV} (hl : l ≠ []) : nodesS h l = ((nodesS (nodesS h (l.take (topI l))).1 (l.drop (topI l + 1))).1 ++ [treeN (pairAt l (topI l)) (nodesS h (l.take (topI l))).2 (nodesS (nodesS h (l.take (topI l))).1 (l.drop (topI l + 1))).2 l.length], ((nodesS (nodesS h (l.take (topI l))).1 (l.drop (topI l + 1))).1.length : Int) + 1) := by
  rw [nodesS, dif_neg hl]
theorem nodesS_len : ∀ (n : Nat) (h : List NodeV) (l : List PairV), l.length ≤ n → (nodesS h l).1.length = h.length + l.length
  | n, h, l, hn => by
    by_cases hl : l = []
    · subst hl; rw [nodesS_nil]; rfl
    have ht := topI_lt hl
    cases n with
    | zero => exact absurd (List.eq_nil_of_length_eq_zero (by omega)) hl
    | succ n =>
      rw [nodesS_cons h hl]
      dsimp only
      rw [List.length_append, nodesS_len n _ _ (by rw [List.length_drop]; omega), nodesS_len n _ _ (by rw [List.length_take]; omega), List.length_take, List.length_drop]
      simp only [List.length_cons, List.length_nil]
      omega
/-- The shape of a tree. -/
noncomputable def treeT (l : List PairV) : Shp :=
  if hl : l = [] then .nil else
    have := topI_lt hl
    .node (stripV (treeN (pairAt l (topI l)) 0 0 l.length)) [treeT (l.take (topI l)), treeT (l.drop (topI l + 1)), .nil]
termination_by l.length
decreasing_by
  · rw [List.length_take]; omega
  · rw [List.length_drop]; omega
theorem treeT_nil : treeT [] = .nil := by rw [treeT, dif_pos rfl]
theorem treeT_cons {l : List PairV} (hl : l ≠ []) : treeT l = .node (stripV (treeN (pairAt l (topI l)) 0 0 l.length)) [treeT (l.take (topI l)), treeT (l.drop (topI l + 1)), .nil] := by
  rw [treeT, dif_neg hl]
theorem bindsT_tree : ∀ (n : Nat) (l : List PairV), l.length ≤ n → bindsT (treeT l) = l
  | n, l, hn => by
    by_cases hl : l = []
    · subst hl; rw [treeT_nil, bindsT_nil]
    have ht := topI_lt hl
    cases n with
    | zero => exact absurd (List.eq_nil_of_length_eq_zero (by omega)) hl
    | succ n =>
      rw [treeT_cons hl, bindsT_node, if_pos (show (stripV (treeN (pairAt l (topI l)) 0 0 l.length)).1 = 4 from rfl)]
      show bindsT (treeT (l.take (topI l))) ++ [pairAt l (topI l)] ++ bindsT (treeT (l.drop (topI l + 1))) = l
      rw [bindsT_tree n _ (by rw [List.length_take]; omega), bindsT_tree n _ (by rw [List.length_drop]; omega)]
      exact split_at l _ ht
theorem bindsT_treeT (l : List PairV) : bindsT (treeT l) = l := bindsT_tree _ l (Nat.le_refl _)
theorem treeN_may {p : PairV} (hp : okT p) (a b : Int) (n : Nat) (hn : 1 ≤ n) : mayS (treeN p a b n) = 0 := by
  unfold mayS
  rw [if_neg (by show ¬ (4 : Int) < 1; omega), if_neg (by show ¬ (6 : Int) < 4; omega)]
  have hl : longN (treeN p a b n) = false := by
    show ((decide (16 < p.1.size) || decide (16 < p.2.1.size)) || false) = false
    rw [decide_eq_false (by have := hp.1; omega), decide_eq_false (by have := hp.2; omega)]
    rfl
  rw [hl, if_neg (by simp), if_pos]
  refine ⟨Int.le_refl _, ?_⟩
  rw [if_neg (by show ¬ ((4 : Int) = 1 ∨ (4 : Int) = 6); omega), if_neg (by show ¬ (4 : Int) = 2; omega), if_neg (by show ¬ (4 : Int) = 3; omega), if_pos (show (treeN p a b n).1 = 4 from rfl)]
  exact ⟨rfl, rfl, by show (1 : Int) ≤ (n : Int); omega, fun q => (by cases q), fun q => (by cases q), fun _ => rfl, fun _ => rfl⟩
theorem treeN_ok {p : PairV} (hp : okP p) (a b : Int) (n : Nat) : okN (treeN p a b n) := ⟨hp.1, hp.2, by show (0 : Int) ≤ 0; omega, by show (0 : Int) < 4294967296; omega, by show 2 ≤ _; omega, by show 0 ≤ _; omega, fun q hq => (by cases hq)⟩
theorem refsS_tree (p : PairV) (a b : Int) (n : Nat) : refsS (treeN p a b n) = [a, b].filter (fun r => decide (r ≠ 0)) := by
  rw [refsS_all]
  show ([a, b] ++ [0]).filter _ = _
  rw [List.filter_append]
  show _ ++ [] = _
  rw [List.append_nil]
/-- What the nodes of a tree are. -/
structure NodesOK (h : List NodeV) (l : List PairV) (g : List NodeV) (r : Int) : Prop where
  pre : ∃ new : List NodeV, g = h ++ new ∧ new.length = l.length ∧ ∀ n ∈ new, ∃ p ∈ l, ∃ a b m, n = treeN p a b m
  may : mayH g = true
  r0 : 0 ≤ r
  r1 : r ≤ g.length
  shp : U g r = treeT l
theorem nodesS_ok : ∀ (n : Nat) (h : List NodeV) (l : List PairV), l.length ≤ n → mayH h = true → (∀ p ∈ l, okT p) → NodesOK h l (nodesS h l).1 (nodesS h l).2
  | n, h, l, hn, hm, hb => by
    by_cases hl : l = []
    · subst hl
      rw [nodesS_nil]
      exact ⟨⟨[], by simp, rfl, by simp⟩, hm, Int.le_refl _, by show (0 : Int) ≤ _; omega, by rw [U_zero, treeT_nil]⟩
    have ht := topI_lt hl
    cases n with
    | zero => exact absurd (List.eq_nil_of_length_eq_zero (by omega)) hl
    | succ n =>
      have ia := nodesS_ok n h (l.take (topI l)) (by rw [List.length_take]; omega) hm (fun p hp => hb p (List.mem_of_mem_take hp))
      have ib := nodesS_ok n (nodesS h (l.take (topI l))).1 (l.drop (topI l + 1)) (by rw [List.length_drop]; omega) ia.may (fun p hp => hb p (List.mem_of_mem_drop hp))
      rw [nodesS_cons h hl]
      generalize hga : (nodesS h (l.take (topI l))).1 = ga at ia ib ⊢
      generalize hra : (nodesS h (l.take (topI l))).2 = ra at ia ⊢
      generalize hgb : (nodesS ga (l.drop (topI l + 1))).1 = gb at ib ⊢
      generalize hrb : (nodesS ga (l.drop (topI l + 1))).2 = rb at ib ⊢
      obtain ⟨na, ea, la, ma⟩ := ia.pre
      obtain ⟨nb, eb, lb, mb⟩ := ib.pre
      have hpm := pairAt_mem l _ ht
      have hp := hb _ hpm
      have hlab : ga.length ≤ gb.length := by rw [eb, List.length_append]; omega
      have hra := ia.r1
      have hpos : 1 ≤ l.length := by omega
      have hmay : mayH (gb ++ [treeN (pairAt l (topI l)) ra rb l.length]) = true := by
        unfold mayH
        rw [mayHL_app, Bool.and_eq_true]
        refine ⟨ib.may, mayHL_of _ _ fun j hj => ?_⟩
        have : j = 0 := by simpa using hj
        subst this
        refine ⟨treeN_may hp _ _ _ hpos, fun r hr => ?_⟩
        rw [show ([treeN (pairAt l (topI l)) ra rb l.length] : List NodeV)[0] = treeN (pairAt l (topI l)) ra rb l.length from rfl, refsS_tree] at hr
        obtain ⟨hr1, hr2⟩ := List.mem_filter.1 hr
        have a0 := ia.r0
        have b0 := ib.r0
        have b1 := ib.r1
        simp only [decide_eq_true_eq, ne_eq] at hr2
        rcases List.mem_cons.1 hr1 with rfl | hr1
        · exact ⟨by omega, by omega⟩
        · rw [List.mem_singleton] at hr1
          subst hr1
          exact ⟨by omega, by omega⟩
      refine ⟨⟨na ++ nb ++ [treeN (pairAt l (topI l)) ra rb l.length], ?_, ?_, ?_⟩, hmay, by omega, ?_, ?_⟩
      · rw [eb, ea]; simp
      · rw [List.length_append, List.length_append, la, lb, List.length_take, List.length_drop]
        simp only [List.length_cons, List.length_nil]
        omega
      · intro m hm'
        rcases List.mem_append.1 hm' with hm' | hm'
        · rcases List.mem_append.1 hm' with hm' | hm'
          · obtain ⟨p, hp, q⟩ := ma m hm'
            exact ⟨p, List.mem_of_mem_take hp, q⟩
          · obtain ⟨p, hp, q⟩ := mb m hm'
            exact ⟨p, List.mem_of_mem_drop hp, q⟩
        · rw [List.mem_singleton] at hm'
          exact ⟨_, hpm, _, _, _, hm'⟩
      · show ((gb.length : Int) + 1) ≤ ((gb ++ [treeN (pairAt l (topI l)) ra rb l.length]).length : Int)
        rw [List.length_append]; simp only [List.length_cons, List.length_nil]; omega
      · show U (gb ++ [treeN (pairAt l (topI l)) ra rb l.length]) ((gb.length : Int) + 1) = treeT l
        rw [U_node hmay (by omega) (by rw [List.length_append]; simp only [List.length_cons, List.length_nil]; omega), getN_last, treeT_cons hl]
        have e1 : U (gb ++ [treeN (pairAt l (topI l)) ra rb l.length]) ra = treeT (l.take (topI l)) := by
          rw [U_app ib.may ia.r0 (by omega), eb, U_app ia.may ia.r0 ia.r1]
          exact ia.shp
        have e2 : U (gb ++ [treeN (pairAt l (topI l)) ra rb l.length]) rb = treeT (l.drop (topI l + 1)) := by
          rw [U_app ib.may ib.r0 ib.r1]
          exact ib.shp
        show Shp.node _ [U _ ra, U _ rb, U _ 0] = _
        rw [e1, e2, U_zero]
        rfl
theorem nodes_okH {l : List PairV} (hl : l.length ≤ 40000000) (hb : ∀ p ∈ l, okT p) : okH (nodesS [] l).1 := by
  have h := nodesS_ok _ [] l (Nat.le_refl _) rfl hb
  obtain ⟨new, e, h1, h2⟩ := h.pre
  rw [List.nil_append] at e
  refine ⟨by rw [e]; omega, fun n hn => ?_, fun n hn => ?_⟩
  · rw [e] at hn
    obtain ⟨p, hp, a, b, m, rfl⟩ := h2 n hn
    exact treeN_ok (hb p hp).ok a b m
  · obtain ⟨j, hj, ej⟩ := List.getElem_of_mem hn
    rw [e] at hn
    obtain ⟨p, hp, a, b, m, rfl⟩ := h2 n hn
    have hk := (may_node h.may (r := (j : Int) + 1) (by omega) (by omega)).2
    rw [getN_ix _ j hj, ej] at hk
    have hl' : (nodesS [] l).1.length ≤ 40000000 := by rw [e]; omega
    refine ⟨fun k hk' => ?_, ?_⟩
    · have := hk k (by show k ∈ [a, b] ++ [0]; exact List.mem_append_left _ hk')
      unfold rng; omega
    · show rng 0
      unfold rng; omega
end Go.Proofs.YtmopkbmcilolgaaGreat.AH
set_option linter.unusedVariables false
set_option linter.unusedSimpArgs false
namespace Go.Proofs.YtmopkbmcilolgaaGreat.AH
open Go.Abs
theorem top_eq {l : List PairV} (hS : Srt l) {i : Nat} (hi : i < l.length) (h : ∀ j, j < l.length → above (keyAt l j) (keyAt l i) = false) : topI l = i := by
  have hl : l ≠ [] := by rintro rfl; cases hi
  obtain ⟨h1, h2, _⟩ := topI_spec l hl
  have hk : keyAt l (topI l) = keyAt l i := by
    by_cases e : keyAt l (topI l) = keyAt l i
    · exact e
    · rcases above_total e with q | q
      · rw [h _ h1] at q; cases q
      · rw [h2 _ hi] at q; cases q
  rw [keyAt_get l _ h1, keyAt_get l _ hi] at hk
  rcases Nat.lt_trichotomy (topI l) i with q | q | q
  · have := srt_get hS hi q
    rw [hk, lt_irrefl] at this; cases this
  · exact q
  · have := srt_get hS h1 q
    rw [hk, lt_irrefl] at this; cases this
theorem keyAt_mem {l : List PairV} {j : Nat} (h : j < l.length) : ∃ q ∈ l, keyAt l j = q.1 := ⟨l[j], List.getElem_mem h, keyAt_get l j h⟩
/-- No key of a list is above another one. -/
def Under (l : List PairV) (k : ByteArray) : Prop := ∀ q ∈ l, above q.1 k = false
theorem treeT_mid {L R : List PairV} {p : PairV} (hS : Srt (L ++ p :: R)) (hu : Under (L ++ R) p.1) : treeT (L ++ p :: R) = .node (stripV (treeN p 0 0 (L.length + 1 + R.length))) [treeT L, treeT R, .nil] := by
  have hlen : L.length < (L ++ p :: R).length := by rw [List.length_append, List.length_cons]; omega
  have hk : keyAt (L ++ p :: R) L.length = p.1 := by
    rw [keyAt_get _ _ hlen, List.getElem_append_right (Nat.le_refl _)]
    simp
  have ht : topI (L ++ p :: R) = L.length := top_eq hS hlen fun j hj => by
    rw [hk]
    obtain ⟨q, hq, e⟩ := keyAt_mem hj
    rw [e]
    rcases List.mem_append.1 hq with hq | hq
    · exact hu q (List.mem_append_left _ hq)
    · rcases List.mem_cons.1 hq with rfl | hq
      · exact above_irrefl _
      · exact hu q (List.mem_append_right _ hq)
  rw [treeT_cons (by simp), ht]
  have hp : pairAt (L ++ p :: R) L.length = p := by
    rw [pairAt_get _ _ hlen, List.getElem_append_right (Nat.le_refl _)]
    simp
  rw [hp, List.take_left' rfl, List.drop_append, List.drop_eq_nil_of_le (by omega), List.nil_append, show L.length + 1 - L.length = 1 by omega, List.drop_one, List.tail_cons, List.length_append, List.length_cons, show L.length + (R.length + 1) = L.length + 1 + R.length by omega]
theorem tree_mid {l : List PairV} (hS : Srt l) (hl : l ≠ []) : ∃ L p R, l = L ++ p :: R ∧ Under (L ++ R) p.1 := by
  have ht := topI_lt hl
  obtain ⟨_, h2, _⟩ := topI_spec l hl
  refine ⟨l.take (topI l), l[topI l], l.drop (topI l + 1), ?_, ?_⟩
  · rw [← List.drop_eq_getElem_cons ht, List.take_append_drop]
  · intro q hq
    have hm : q ∈ l := by
      rcases List.mem_append.1 hq with hq | hq
      · exact List.mem_of_mem_take hq
      · exact List.mem_of_mem_drop hq
    obtain ⟨j, hj, e⟩ := List.getElem_of_mem hm
    have := h2 j hj
    rw [keyAt_get l j hj, keyAt_get l _ ht, e] at this
    exact this
/-- What is ahead of a key, and what is behind it. -/
def ltS (k : ByteArray) (l : List PairV) : List PairV := l.filter fun q => lt q.1 k
def gtS (k : ByteArray) (l : List PairV) : List PairV := l.filter fun q => lt k q.1
theorem ltS_srt {l : List PairV} (h : Srt l) (k : ByteArray) : Srt (ltS k l) := List.Pairwise.filter _ h
theorem gtS_srt {l : List PairV} (h : Srt l) (k : ByteArray) : Srt (gtS k l) := List.Pairwise.filter _ h
theorem ltS_mem {k : ByteArray} {l : List PairV} {q : PairV} : q ∈ ltS k l ↔ q ∈ l ∧ lt q.1 k = true := List.mem_filter
theorem gtS_mem {k : ByteArray} {l : List PairV} {q : PairV} : q ∈ gtS k l ↔ q ∈ l ∧ lt k q.1 = true := List.mem_filter
theorem ltS_all {k : ByteArray} {l : List PairV} (h : ∀ q ∈ l, lt q.1 k = true) : ltS k l = l ∧ gtS k l = [] :=
  ⟨List.filter_eq_self.2 h, List.filter_eq_nil_iff.2 fun q hq => by rw [lt_asymm (h q hq)]; simp⟩
theorem gtS_all {k : ByteArray} {l : List PairV} (h : ∀ q ∈ l, lt k q.1 = true) : ltS k l = [] ∧ gtS k l = l :=
  ⟨List.filter_eq_nil_iff.2 fun q hq => by rw [lt_asymm (h q hq)]; simp, List.filter_eq_self.2 h⟩
theorem ltS_app (k : ByteArray) (a b : List PairV) : ltS k (a ++ b) = ltS k a ++ ltS k b := List.filter_append ..
theorem gtS_app (k : ByteArray) (a b : List PairV) : gtS k (a ++ b) = gtS k a ++ gtS k b := List.filter_append ..
theorem srt_cons {q : PairV} {l : List PairV} (h : Srt (q :: l)) : (∀ x ∈ l, lt q.1 x.1 = true) ∧ Srt l := List.pairwise_cons.1 h
theorem srt_three {L R : List PairV} {p : PairV} (h : Srt (L ++ p :: R)) : Srt L ∧ Srt R ∧ (∀ q ∈ L, lt q.1 p.1 = true) ∧ (∀ q ∈ R, lt p.1 q.1 = true) ∧ ∀ a ∈ L, ∀ b ∈ R, lt a.1 b.1 = true := by
  obtain ⟨h1, h2, h3⟩ := List.pairwise_append.1 h
  obtain ⟨h4, h5⟩ := srt_cons h2
  exact ⟨h1, h5, fun q hq => h3 q hq p List.mem_cons_self, h4, fun a ha b hb => h3 a ha b (List.mem_cons_of_mem _ hb)⟩
theorem srt_join {L R : List PairV} {p : PairV} (h1 : Srt L) (h2 : Srt R) (h3 : ∀ q ∈ L, lt q.1 p.1 = true) (h4 : ∀ q ∈ R, lt p.1 q.1 = true) : Srt (L ++ p :: R) := by
  refine List.pairwise_append.2 ⟨h1, List.pairwise_cons.2 ⟨h4, h2⟩, fun a ha b hb => ?_⟩
  rcases List.mem_cons.1 hb with rfl | hb
  · exact h3 a ha
  · exact lt_trans (h3 a ha) (h4 b hb)
theorem putS_parts (x : PairV) : ∀ {l : List PairV}, Srt l → putS l x = ltS x.1 l ++ x :: gtS x.1 l
  | [], _ => rfl
  | q :: qs, h => by
    obtain ⟨h1, h2⟩ := srt_cons h
    rcases tri q.1 x.1 with ⟨a, b, _⟩ | ⟨a, b, c⟩ | ⟨a, b, _⟩
    · rw [putS_lt a, putS_parts x h2]
      unfold ltS gtS
      rw [List.filter_cons_of_pos (by exact a), List.filter_cons_of_neg (by rw [b]; simp), List.cons_append]
    · have hg := gtS_all (k := x.1) (l := qs) fun z hz => by rw [← a]; exact h1 z hz
      rw [putS_eq a]
      unfold ltS gtS at *
      rw [List.filter_cons_of_neg (by rw [b]; simp), List.filter_cons_of_neg (by rw [c]; simp), hg.1, hg.2]
      rfl
    · have hg := gtS_all (k := x.1) (l := q :: qs) fun z hz => by
        rcases List.mem_cons.1 hz with rfl | hz
        · exact a
        · exact lt_trans a (h1 z hz)
      rw [putS_gt a, hg.1, hg.2]
      rfl
/-- A binding that is above all: it is the root. -/
theorem ins_top {l : List PairV} (hS : Srt l) {x : PairV} (hu : Under l x.1) : treeT (putS l x) = .node (stripV (treeN x 0 0 ((ltS x.1 l).length + 1 + (gtS x.1 l).length))) [treeT (ltS x.1 l), treeT (gtS x.1 l), .nil] := by
  have := putS_srt x hS
  rw [putS_parts x hS] at this ⊢
  refine treeT_mid this fun q hq => ?_
  rcases List.mem_append.1 hq with hq | hq
  · exact hu q (ltS_mem.1 hq).1
  · exact hu q (gtS_mem.1 hq).1
theorem putS_left {L R : List PairV} {p x : PairV} (hS : Srt (L ++ p :: R)) (h : lt x.1 p.1 = true) : putS (L ++ p :: R) x = putS L x ++ p :: R := by
  obtain ⟨s1, s2, s3, s4, _⟩ := srt_three hS
  have hg := gtS_all (k := x.1) (l := p :: R) fun z hz => by
    rcases List.mem_cons.1 hz with rfl | hz
    · exact h
    · exact lt_trans h (s4 z hz)
  rw [putS_parts x hS, putS_parts x s1, ltS_app, gtS_app, hg.1, hg.2, List.append_nil, List.append_assoc, List.cons_append]
theorem putS_right {L R : List PairV} {p x : PairV} (hS : Srt (L ++ p :: R)) (h : lt p.1 x.1 = true) : putS (L ++ p :: R) x = L ++ p :: putS R x := by
  obtain ⟨s1, s2, s3, s4, _⟩ := srt_three hS
  have hg := ltS_all (k := x.1) (l := L ++ [p]) fun z hz => by
    rcases List.mem_append.1 hz with hz | hz
    · exact lt_trans (s3 z hz) h
    · rw [List.mem_singleton.1 hz]; exact h
  have e : L ++ p :: R = (L ++ [p]) ++ R := by rw [List.append_assoc]; rfl
  rw [putS_parts x hS, putS_parts x s2, e, ltS_app, gtS_app, hg.1, hg.2, List.nil_append, List.append_assoc, List.append_assoc]
  rfl
theorem putS_here {L R : List PairV} {p x : PairV} (hS : Srt (L ++ p :: R)) (h : x.1 = p.1) : putS (L ++ p :: R) x = L ++ x :: R := by
  obtain ⟨s1, s2, s3, s4, _⟩ := srt_three hS
  have hl := ltS_all (k := x.1) (l := L) fun z hz => by rw [h]; exact s3 z hz
  have hg := gtS_all (k := x.1) (l := R) fun z hz => by rw [h]; exact s4 z hz
  have e : L ++ p :: R = L ++ ([p] ++ R) := rfl
  have h0 : ltS x.1 [p] = [] ∧ gtS x.1 [p] = [] := by
    unfold ltS gtS
    rw [List.filter_cons_of_neg (by rw [h, lt_irrefl]; simp), List.filter_cons_of_neg (by rw [h, lt_irrefl]; simp)]
    exact ⟨rfl, rfl⟩
  rw [putS_parts x hS, e, ltS_app, ltS_app, gtS_app, gtS_app, hl.1, hl.2, hg.1, hg.2, h0.1, h0.2]
  simp
theorem Under.left {L R : List PairV} {k : ByteArray} (h : Under (L ++ R) k) : Under L k := fun q hq => h q (List.mem_append_left _ hq)
theorem Under.right {L R : List PairV} {k : ByteArray} (h : Under (L ++ R) k) : Under R k := fun q hq => h q (List.mem_append_right _ hq)
theorem Under.app {L R : List PairV} {k : ByteArray} (h1 : Under L k) (h2 : Under R k) : Under (L ++ R) k := fun q hq => (List.mem_append.1 hq).elim (h1 q) (h2 q)
theorem Under.put {l : List PairV} {x : PairV} {k : ByteArray} (h : Under l k) (hx : above x.1 k = false) : Under (putS l x) k := fun q hq => by
  rcases putS_mem hq with rfl | hq
  · exact hx
  · exact h q hq
theorem ins_left {L R : List PairV} {p x : PairV} (hS : Srt (L ++ p :: R)) (hu : Under (L ++ R) p.1) (h : lt x.1 p.1 = true) (ha : above x.1 p.1 = false) : treeT (putS (L ++ p :: R) x) = .node (stripV (treeN p 0 0 ((putS L x).length + 1 + R.length))) [treeT (putS L x), treeT R, .nil] := by
  have := putS_srt x hS
  rw [putS_left hS h] at this ⊢
  exact treeT_mid this ((hu.left.put ha).app hu.right)
theorem ins_right {L R : List PairV} {p x : PairV} (hS : Srt (L ++ p :: R)) (hu : Under (L ++ R) p.1) (h : lt p.1 x.1 = true) (ha : above x.1 p.1 = false) : treeT (putS (L ++ p :: R) x) = .node (stripV (treeN p 0 0 (L.length + 1 + (putS R x).length))) [treeT L, treeT (putS R x), .nil] := by
  have := putS_srt x hS
  rw [putS_right hS h] at this ⊢
  exact treeT_mid this (hu.left.app (hu.right.put ha))
theorem ins_here {L R : List PairV} {p x : PairV} (hS : Srt (L ++ p :: R)) (hu : Under (L ++ R) p.1) (h : x.1 = p.1) : treeT (putS (L ++ p :: R) x) = .node (stripV (treeN x 0 0 (L.length + 1 + R.length))) [treeT L, treeT R, .nil] := by
  have := putS_srt x hS
  rw [putS_here hS h] at this ⊢
  exact treeT_mid this (by rw [h]; exact hu)
/-! ### A tree, cut by a key -/
theorem cut_lt {L R : List PairV} {p : PairV} {k : ByteArray} (hS : Srt (L ++ p :: R)) (h : lt p.1 k = true) : ltS k (L ++ p :: R) = L ++ p :: ltS k R ∧ gtS k (L ++ p :: R) = gtS k R := by
  obtain ⟨s1, s2, s3, s4, _⟩ := srt_three hS
  have hg := ltS_all (k := k) (l := L ++ [p]) fun z hz => by
    rcases List.mem_append.1 hz with hz | hz
    · exact lt_trans (s3 z hz) h
    · rw [List.mem_singleton.1 hz]; exact h
  have e : L ++ p :: R = (L ++ [p]) ++ R := by rw [List.append_assoc]; rfl
  rw [e, ltS_app, gtS_app, hg.1, hg.2, List.nil_append, List.append_assoc]
  exact ⟨rfl, rfl⟩
theorem cut_gt {L R : List PairV} {p : PairV} {k : ByteArray} (hS : Srt (L ++ p :: R)) (h : lt k p.1 = true) : ltS k (L ++ p :: R) = ltS k L ∧ gtS k (L ++ p :: R) = gtS k L ++ p :: R := by
  obtain ⟨s1, s2, s3, s4, _⟩ := srt_three hS
  have hg := gtS_all (k := k) (l := p :: R) fun z hz => by
    rcases List.mem_cons.1 hz with rfl | hz
    · exact h
    · exact lt_trans h (s4 z hz)
  rw [ltS_app, gtS_app, hg.1, hg.2, List.append_nil]
  exact ⟨rfl, rfl⟩
theorem Under.sub {l m : List PairV} {k : ByteArray} (h : Under l k) (hm : ∀ q ∈ m, q ∈ l) : Under m k := fun q hq => h q (hm q hq)
theorem cut_ltT {L R : List PairV} {p : PairV} {k : ByteArray} (hS : Srt (L ++ p :: R)) (hu : Under (L ++ R) p.1) (h : lt p.1 k = true) : treeT (ltS k (L ++ p :: R)) = .node (stripV (treeN p 0 0 (L.length + 1 + (ltS k R).length))) [treeT L, treeT (ltS k R), .nil] := by
  have := ltS_srt hS k
  rw [(cut_lt hS h).1] at this ⊢
  exact treeT_mid this (hu.left.app (hu.right.sub fun q hq => (ltS_mem.1 hq).1))
theorem cut_gtT {L R : List PairV} {p : PairV} {k : ByteArray} (hS : Srt (L ++ p :: R)) (hu : Under (L ++ R) p.1) (h : lt k p.1 = true) : treeT (gtS k (L ++ p :: R)) = .node (stripV (treeN p 0 0 ((gtS k L).length + 1 + R.length))) [treeT (gtS k L), treeT R, .nil] := by
  have := gtS_srt hS k
  rw [(cut_gt hS h).2] at this ⊢
  exact treeT_mid this ((hu.left.sub fun q hq => (gtS_mem.1 hq).1).app hu.right)
/-! ### Two trees made one -/
theorem merge_left {L R B : List PairV} {p : PairV} (hS : Srt ((L ++ p :: R) ++ B)) (hu : Under (L ++ R) p.1) (hb : Under B p.1) : treeT ((L ++ p :: R) ++ B) = .node (stripV (treeN p 0 0 (L.length + 1 + (R ++ B).length))) [treeT L, treeT (R ++ B), .nil] := by
  have e : (L ++ p :: R) ++ B = L ++ p :: (R ++ B) := by rw [List.append_assoc, List.cons_append]
  rw [e] at hS ⊢
  exact treeT_mid hS (hu.left.app (hu.right.app hb))
theorem merge_right {A L R : List PairV} {p : PairV} (hS : Srt (A ++ (L ++ p :: R))) (hu : Under (L ++ R) p.1) (ha : Under A p.1) : treeT (A ++ (L ++ p :: R)) = .node (stripV (treeN p 0 0 ((A ++ L).length + 1 + R.length))) [treeT (A ++ L), treeT R, .nil] := by
  have e : A ++ (L ++ p :: R) = (A ++ L) ++ p :: R := by rw [List.append_assoc]
  rw [e] at hS ⊢
  exact treeT_mid hS ((ha.app hu.left).app hu.right)
/-- Bindings without a key. -/
def dropS (k : ByteArray) (l : List PairV) : List PairV := l.filter fun q => decide (q.1 ≠ k)
theorem dropS_srt {l : List PairV} (h : Srt l) (k : ByteArray) : Srt (dropS k l) := List.Pairwise.filter _ h
theorem dropS_mem {k : ByteArray} {l : List PairV} {q : PairV} : q ∈ dropS k l ↔ q ∈ l ∧ q.1 ≠ k := by unfold dropS; rw [List.mem_filter, decide_eq_true_iff]
theorem dropS_app (k : ByteArray) (a b : List PairV) : dropS k (a ++ b) = dropS k a ++ dropS k b := List.filter_append ..
theorem dropS_none {k : ByteArray} {l : List PairV} (h : ∀ q ∈ l, q.1 ≠ k) : dropS k l = l := List.filter_eq_self.2 fun q hq => decide_eq_true (h q hq)
theorem ne_of_lt {a b : ByteArray} (h : lt a b = true) : a ≠ b := fun e => by rw [e, lt_irrefl] at h; cases h
theorem drop_left {L R : List PairV} {p : PairV} {k : ByteArray} (hS : Srt (L ++ p :: R)) (h : lt k p.1 = true) : dropS k (L ++ p :: R) = dropS k L ++ p :: R := by
  obtain ⟨s1, s2, s3, s4, _⟩ := srt_three hS
  rw [dropS_app, dropS_none (l := p :: R) fun z hz => by
    rcases List.mem_cons.1 hz with rfl | hz
    · exact (ne_of_lt h).symm
    · exact (ne_of_lt (lt_trans h (s4 z hz))).symm]
theorem drop_right {L R : List PairV} {p : PairV} {k : ByteArray} (hS : Srt (L ++ p :: R)) (h : lt p.1 k = true) : dropS k (L ++ p :: R) = L ++ p :: dropS k R := by
  obtain ⟨s1, s2, s3, s4, _⟩ := srt_three hS
  have e : L ++ p :: R = (L ++ [p]) ++ R := by rw [List.append_assoc]; rfl
  rw [e, dropS_app, dropS_none (l := L ++ [p]) fun z hz => by
    rcases List.mem_append.1 hz with hz | hz
    · exact ne_of_lt (lt_trans (s3 z hz) h)
    · rw [List.mem_singleton.1 hz]; exact ne_of_lt h, List.append_assoc]
  rfl
theorem drop_here {L R : List PairV} {p : PairV} (hS : Srt (L ++ p :: R)) : dropS p.1 (L ++ p :: R) = L ++ R := by
  obtain ⟨s1, s2, s3, s4, _⟩ := srt_three hS
  have e : L ++ p :: R = L ++ ([p] ++ R) := rfl
  have h0 : dropS p.1 [p] = [] := List.filter_cons_of_neg (by simp)
  rw [e, dropS_app, dropS_app, h0, dropS_none fun z hz => ne_of_lt (s3 z hz), dropS_none fun z hz => (ne_of_lt (s4 z hz)).symm]
  rfl
theorem drop_leftT {L R : List PairV} {p : PairV} {k : ByteArray} (hS : Srt (L ++ p :: R)) (hu : Under (L ++ R) p.1) (h : lt k p.1 = true) : treeT (dropS k (L ++ p :: R)) = .node (stripV (treeN p 0 0 ((dropS k L).length + 1 + R.length))) [treeT (dropS k L), treeT R, .nil] := by
  have := dropS_srt hS k
  rw [drop_left hS h] at this ⊢
  exact treeT_mid this ((hu.left.sub fun q hq => (dropS_mem.1 hq).1).app hu.right)
theorem drop_rightT {L R : List PairV} {p : PairV} {k : ByteArray} (hS : Srt (L ++ p :: R)) (hu : Under (L ++ R) p.1) (h : lt p.1 k = true) : treeT (dropS k (L ++ p :: R)) = .node (stripV (treeN p 0 0 (L.length + 1 + (dropS k R).length))) [treeT L, treeT (dropS k R), .nil] := by
  have := dropS_srt hS k
  rw [drop_right hS h] at this ⊢
  exact treeT_mid this (hu.left.app (hu.right.sub fun q hq => (dropS_mem.1 hq).1))
end Go.Proofs.YtmopkbmcilolgaaGreat.AH
set_option linter.unusedVariables false
set_option linter.unusedSimpArgs false
namespace Go.Proofs.YtmopkbmcilolgaaGreat.AH
open Go.Abs
abbrev PlanV : Type := List NodeV × Int × List Int × Unit
structure okPl (p : PlanV) : Prop where
  len : p.1.length ≤ 1000
  node : ∀ n ∈ p.1, okN n
  rngs : ∀ n ∈ p.1, rngN n
  few : ∀ n ∈ p.1, n.2.2.2.2.1.length ≤ 40
  root : rng p.2.1
  old : p.2.2.1.length ≤ 1000
  olds : ∀ r ∈ p.2.2.1, rng r
/-! ### References -/
/-- A reference, where new ones become others. -/
def refR (to : List Int) (r : Int) : Option Int := if 0 ≤ r then some r else if -1 - r < (to.length : Int) then some (to.getD (-1 - r).toNat 0) else none
def refD (to : List Int) (r : Int) : Int := (refR to r).getD 0
theorem make_some (a b : Int) : ∃ x y, ref_Make a b = some (x, (y, ())) := by
  rw [ref_Make.eq]
  simp only [ltI_d, br_if]
  split
  · exact ⟨_, _, rfl⟩
  split
  · exact ⟨_, _, rfl⟩
  split
  · exact ⟨_, _, rfl⟩
  split
  · exact ⟨_, _, rfl⟩
  exact ⟨_, _, rfl⟩
theorem which_any (r : Int) (h : rng r) : ref_Which r = some (if r < 0 then (-1 - r, (true, ())) else (0, (false, ()))) := by
  unfold rng at h
  rw [ref_Which.eq, ref_Kind.eq]
  obtain ⟨x, y, hm⟩ := make_some (remI r 1024) (quoI .i64 r 1024)
  rw [hm, bnd_some]
  have hn : notB (eqI 1024 0) = true := rfl
  rw [hn, br_t, br_t]
  simp only [ltI_d, eqI_d, notB_d, br_if]
  by_cases h0 : r = 0
  · rw [if_pos h0, bnd_some, if_pos (by omega), if_neg (by omega)]
  rw [if_neg h0]
  by_cases h1 : r < 0
  · rw [if_pos h1, bnd_some, if_neg (by omega), if_pos h1]
    have : subI .i64 (-1) r = -1 - r := subI_d (by omega) (by omega)
    rw [this]
  · rw [if_neg h1, if_neg h1]
    by_cases hy : y = 0
    · rw [if_neg (fun q => q hy), bnd_some, if_pos (by omega)]
    · rw [if_pos hy, bnd_some, if_pos (by omega)]
theorem planref_any (r : Int) (h : rng r) (to : List Int) : plan_Ref r to = some (refD to r, ((if (refR to r).isSome = true then 0 else 4), ())) := by
  rw [plan_Ref.eq, which_any r h, bnd_some]
  unfold refD refR
  by_cases h1 : r < 0
  · rw [if_pos h1, if_neg (by omega), show notB true = false from rfl, br_f]
    simp only [ltI_d, leI_d, ofN_d, lenL_d, andB_d, br_if]
    by_cases h2 : -1 - r < (to.length : Int)
    · rw [if_neg (by omega), if_pos (by omega), if_pos h2]
      have hi : -1 - r = ((-1 - r).toNat : Int) := by omega
      have hlt : (-1 - r).toNat < to.length := by omega
      have e : ixL (.int .i64) to (-1 - r) = to[(-1 - r).toNat] := by
        conv => lhs; rw [hi]
        exact ixR to _ hlt
      rw [e, List.getD_eq_getElem?_getD, List.getElem?_eq_getElem hlt]
      rfl
    · rw [if_pos (by omega), if_neg h2]
      rfl
  · rw [if_neg h1, if_pos (by omega), show notB false = true from rfl, br_t]
    rfl
/-! ### Nodes filled -/
def fillB (to : List Int) (n : NodeV) : Bool := (refR to n.2.2.2.2.2.1).isSome && n.2.2.2.2.1.all fun k => (refR to k).isSome
def fillS (to : List Int) (n : NodeV) : NodeV := if fillB to n = true then (n.1, (n.2.1, (n.2.2.1, (n.2.2.2.1, (n.2.2.2.2.1.map (refD to), (refD to n.2.2.2.2.2.1, n.2.2.2.2.2.2)))))) else zeroN
theorem take_all_succ {p : Int → Bool} (l : List Int) (i : Nat) (h : i < l.length) : (l.take (i + 1)).all p = ((l.take i).all p && p l[i]) := by
  rw [List.take_succ_eq_append_getElem h, List.all_append]
  simp
theorem fill_l0 (to : List Int) (n : NodeV) (hn : okN n) (hr : rngN n) (x5 x8 x9) (L : List PairV) (hL : L = n.2.2.2.2.2.2.1) (d : Nat) : ∀ (i : Nat), i ≤ n.2.2.2.2.1.length → n.2.2.2.2.1.length - i = d →
    plan_Fill_o.l0 (if ((refR to n.2.2.2.2.2.1).isSome && (n.2.2.2.2.1.take i).all fun k => (refR to k).isSome) = true then 0 else 4) n.2.2.2.2.1.length i to
      (n.1, (n.2.1, (n.2.2.1, (n.2.2.2.1, ((), (refD to n.2.2.2.2.2.1, ((), n.2.2.2.2.2.2.2))))))) x5 ((n.2.2.2.2.1.take i).map (refD to) ++ n.2.2.2.2.1.drop i) L x8 x9 =
    some ((fillS to n, ((if fillB to n = true then 0 else 4), ())), (to, ())) := by
  subst hL
  have hk := hn.kids
  induction d with
  | zero =>
    intro i hi hd
    have e : i = n.2.2.2.2.1.length := by omega
    subst e
    rw [plan_Fill_o.l0.eq]
    simp only [ltI_d, br_if]
    rw [if_neg (by omega), List.take_length, List.drop_length, List.append_nil]
    rw [show ((refR to n.2.2.2.2.2.1).isSome && n.2.2.2.2.1.all fun k => (refR to k).isSome) = fillB to n from rfl]
    unfold fillS
    by_cases hb : fillB to n = true
    · rw [if_pos hb, if_pos hb]
      rfl
    · rw [if_neg hb, if_neg hb]
      rfl
  | succ d ih =>
    intro i hi hd
    have hil : i < n.2.2.2.2.1.length := by omega
    have hpl : ((n.2.2.2.2.1.take i).map (refD to)).length = i := by rw [List.length_map, List.length_take]; omega
    have hlen : ((n.2.2.2.2.1.take i).map (refD to) ++ n.2.2.2.2.1.drop i).length = n.2.2.2.2.1.length := by rw [List.length_append, hpl, List.length_drop]; omega
    have hget : ixL (.int .i64) ((n.2.2.2.2.1.take i).map (refD to) ++ n.2.2.2.2.1.drop i) (i : Int) = n.2.2.2.2.1[i] := by
      rw [ixR _ i (by omega), List.getElem_append_right (by omega), List.getElem_drop]
      congr 1
      omega
    have hset : setL (.int .i64) ((n.2.2.2.2.1.take i).map (refD to) ++ n.2.2.2.2.1.drop i) (i : Int) (refD to n.2.2.2.2.1[i]) = (n.2.2.2.2.1.take (i + 1)).map (refD to) ++ n.2.2.2.2.1.drop (i + 1) := by
      unfold setL
      rw [Int.toNat_natCast, List.set_append_right _ _ (by omega), hpl, Nat.sub_self, List.drop_eq_getElem_cons hil, List.set_cons_zero, List.take_succ_eq_append_getElem hil, List.map_append, List.append_assoc]
      rfl
    rw [plan_Fill_o.l0.eq, hget, planref_any _ (hr.1 _ (List.getElem_mem hil)) to, bnd_some, hset]
    have ih := ih (i + 1) (by omega) (by omega)
    rw [take_all_succ _ i hil] at ih
    simp only [ltI_d, leI_d, eqI_d, notB_d, ofN_d, lenL_d, andB_d, br_if]
    rw [if_pos (by omega), if_pos (by omega), add1 i (by omega)]
    cases hs : (refR to n.2.2.2.2.1[i]).isSome with
    | true =>
      rw [hs, Bool.and_true] at ih
      rw [if_pos rfl, if_neg (fun q => q rfl), if_pos (by omega)]
      exact ih
    | false =>
      rw [hs, Bool.and_false, Bool.and_false, if_neg (by simp)] at ih
      rw [if_neg (show ¬ (false = true) by simp), if_pos (show ¬ (4 : Int) = 0 by omega), if_pos (by omega)]
      exact ih
theorem fill_any (to : List Int) (n : NodeV) (hn : okN n) (hr : rngN n) : plan_Fill_o n to = some ((fillS to n, ((if fillB to n = true then 0 else 4), ())), (to, ())) := by
  rw [plan_Fill_o.eq, copy_any n hn, bnd_some, planref_any _ hr.2 to, bnd_some]
  have := fill_l0 to n hn hr (0, (ByteArray.empty, (ByteArray.empty, (0, ((), (0, ((), (0, (0, ()))))))))) [] [] _ rfl n.2.2.2.2.1.length 0 (by omega) (by omega)
  rw [List.take_zero, List.all_nil, Bool.and_true] at this
  exact this
/-! ### The same heaps -/
def small (n : NodeV) : Prop := n.2.2.2.2.1.length ≤ 1000000 ∧ n.2.2.2.2.2.2.1.length ≤ 1000000
theorem okN.small {n : NodeV} (h : okN n) : small n := ⟨by have := h.kids; omega, by have := h.list; omega⟩
theorem fillS_small {to : List Int} {n : NodeV} (h : small n) : small (fillS to n) := by
  unfold fillS
  split
  · exact ⟨by show (List.map _ _).length ≤ _; rw [List.length_map]; exact h.1, h.2⟩
  · exact ⟨by show 0 ≤ _; omega, by show 0 ≤ _; omega⟩
end Go.Proofs.YtmopkbmcilolgaaGreat.AH
set_option linter.unusedVariables false
set_option linter.unusedSimpArgs false
namespace Go.Proofs.YtmopkbmcilolgaaGreat.AH
open Go.Abs
/-! ### Whether a plan may be -/
theorem ahead_any (r : Int) (h : rng r) (i : Nat) (hi : i ≤ 1000000) : plan_ahead r i = some (decide (-(i : Int) ≤ r)) := by
  unfold rng at h
  rw [plan_ahead.eq, which_any r h, bnd_some]
  by_cases h1 : r < 0
  · rw [if_pos h1, show notB true = false from rfl, br_f, ltI_d]
    exact some_bool (decide_eq_decide.2 (by omega))
  · rw [if_neg h1, show notB false = true from rfl, br_t]
    exact some_bool (decide_eq_true (by omega)).symm
theorem any_drop {p : Int → Bool} (l : List Int) (i : Nat) (h : i < l.length) : (l.drop i).any p = (p l[i] || (l.drop (i + 1)).any p) := by
  rw [List.drop_eq_getElem_cons h, List.any_cons]
theorem index0 (l : List Int) (hl : l.length ≤ 1000000) (hr : ∀ r ∈ l, rng r) (b : Nat) (hb : b ≤ 1000000) (d : Nat) : ∀ (i : Nat), i ≤ l.length → l.length - i = d → ∃ x : Int, slices_IndexFuncapi_Ref_api_Ref.l0 l ((), ()) l.length i b = some (x, ((b : Int), ())) ∧ (0 ≤ x ↔ (l.drop i).any (fun r => !decide (-(b : Int) ≤ r)) = true) := by
  induction d with
  | zero =>
    intro i hi hd
    rw [slices_IndexFuncapi_Ref_api_Ref.l0.eq]
    simp only [ltI_d, br_if]
    rw [if_neg (by omega), List.drop_eq_nil_of_le (by omega)]
    exact ⟨-1, rfl, by simp⟩
  | succ d ih =>
    intro i hi hd
    have hil : i < l.length := by omega
    rw [slices_IndexFuncapi_Ref_api_Ref.l0.eq, ixR l i hil, plan_May_1.eq, ahead_any _ (hr _ (List.getElem_mem hil)) b hb, bnd_some, bnd_some]
    simp only [ltI_d, leI_d, notB_d, ofN_d, lenL_d, andB_d, br_if]
    rw [if_pos (by omega), if_pos (by omega), add1 i (by omega), any_drop l i hil]
    by_cases h1 : -(b : Int) ≤ l[i]
    · rw [if_neg (fun q => q h1), decide_eq_true h1, Bool.not_true, Bool.false_or]
      exact ih (i + 1) (by omega) (by omega)
    · rw [if_pos h1, decide_eq_false h1, Bool.not_false, Bool.true_or]
      exact ⟨i, rfl, fun _ => rfl, fun _ => by omega⟩
theorem contains0 (l : List Int) (hl : l.length ≤ 1000000) (hr : ∀ r ∈ l, rng r) (b : Nat) (hb : b ≤ 1000000) : slices_ContainsFuncapi_Ref_api_Ref l ((), ()) b = some (l.any (fun r => !decide (-(b : Int) ≤ r)), ((b : Int), ())) := by
  obtain ⟨x, h1, h2⟩ := index0 l hl hr b hb l.length 0 (by omega) (by omega)
  rw [slices_ContainsFuncapi_Ref_api_Ref.eq, slices_IndexFuncapi_Ref_api_Ref.eq]
  have h1 : slices_IndexFuncapi_Ref_api_Ref.l0 l ((), ()) (ofN (lenL (.int .i64) l)) 0 b = some (x, ((b : Int), ())) := h1
  rw [h1, bnd_some, leI_d]
  rw [List.drop_zero] at h2
  have : decide ((0 : Int) ≤ x) = l.any (fun r => !decide (-(b : Int) ≤ r)) := by rw [Bool.eq_iff_iff, decide_eq_true_iff]; exact h2
  rw [this]
theorem index1 (l : List Int) (hl : l.length ≤ 1000000) (d : Nat) : ∀ (i : Nat), i ≤ l.length → l.length - i = d → ∃ x : Int, slices_IndexFuncapi_Ref_api_Ref_v1.l0 l l.length i = some x ∧ (0 ≤ x ↔ (l.drop i).any (fun r => decide (r ≤ 0)) = true) := by
  induction d with
  | zero =>
    intro i hi hd
    rw [slices_IndexFuncapi_Ref_api_Ref_v1.l0.eq]
    simp only [ltI_d, br_if]
    rw [if_neg (by omega), List.drop_eq_nil_of_le (by omega)]
    exact ⟨-1, rfl, by simp⟩
  | succ d ih =>
    intro i hi hd
    have hil : i < l.length := by omega
    rw [slices_IndexFuncapi_Ref_api_Ref_v1.l0.eq, ixR l i hil, plan_May_2.eq, bnd_some]
    simp only [ltI_d, leI_d, notB_d, ofN_d, lenL_d, andB_d, br_if]
    rw [if_pos (by omega), if_pos (by omega), add1 i (by omega), any_drop l i hil]
    by_cases h1 : l[i] ≤ 0
    · rw [if_pos h1, decide_eq_true h1, Bool.true_or]
      exact ⟨i, rfl, fun _ => rfl, fun _ => by omega⟩
    · rw [if_neg h1, decide_eq_false h1, Bool.false_or]
      exact ih (i + 1) (by omega) (by omega)
theorem contains1 (l : List Int) (hl : l.length ≤ 1000000) : slices_ContainsFuncapi_Ref_api_Ref_v1 l = some (l.any (fun r => decide (r ≤ 0))) := by
  obtain ⟨x, h1, h2⟩ := index1 l hl l.length 0 (by omega) (by omega)
  rw [slices_ContainsFuncapi_Ref_api_Ref_v1.eq, slices_IndexFuncapi_Ref_api_Ref_v1.eq]
  have h1 : slices_IndexFuncapi_Ref_api_Ref_v1.l0 l (ofN (lenL (.int .i64) l)) 0 = some x := h1
  rw [h1, bnd_some, leI_d]
  rw [List.drop_zero] at h2
  exact some_bool (by rw [Bool.eq_iff_iff, decide_eq_true_iff]; exact h2)
theorem index2 (h : List NodeV) (l : List Int) (hl : l.length ≤ 1000000) (d : Nat) : ∀ (i : Nat), i ≤ l.length → l.length - i = d → ∃ x : Int, slices_IndexFuncapi_Ref_api_Ref_v2.l0 l ((), ()) l.length i h = some (x, (h, ())) ∧ (0 ≤ x ↔ (l.drop i).any (fun r => !decide (r ≤ (h.length : Int))) = true) := by
  induction d with
  | zero =>
    intro i hi hd
    rw [slices_IndexFuncapi_Ref_api_Ref_v2.l0.eq]
    simp only [ltI_d, br_if]
    rw [if_neg (by omega), List.drop_eq_nil_of_le (by omega)]
    exact ⟨-1, rfl, by simp⟩
  | succ d ih =>
    intro i hi hd
    have hil : i < l.length := by omega
    rw [slices_IndexFuncapi_Ref_api_Ref_v2.l0.eq, ixR l i hil, plan_fits_1.eq, plan_has.eq, bnd_some, bnd_some]
    simp only [ltI_d, leI_d, notB_d, ofN_d, lenL_d, andB_d, br_if]
    rw [if_pos (by omega), if_pos (by omega), add1 i (by omega), any_drop l i hil]
    by_cases h1 : l[i] ≤ (h.length : Int)
    · rw [if_neg (fun q => q h1), decide_eq_true h1, Bool.not_true, Bool.false_or]
      exact ih (i + 1) (by omega) (by omega)
    · rw [if_pos h1, decide_eq_false h1, Bool.not_false, Bool.true_or]
      exact ⟨i, rfl, fun _ => rfl, fun _ => by omega⟩
theorem contains2 (h : List NodeV) (l : List Int) (hl : l.length ≤ 1000000) : slices_ContainsFuncapi_Ref_api_Ref_v2 l ((), ()) h = some (l.any (fun r => !decide (r ≤ (h.length : Int))), (h, ())) := by
  obtain ⟨x, h1, h2⟩ := index2 h l hl l.length 0 (by omega) (by omega)
  rw [slices_ContainsFuncapi_Ref_api_Ref_v2.eq, slices_IndexFuncapi_Ref_api_Ref_v2.eq]
  have h1 : slices_IndexFuncapi_Ref_api_Ref_v2.l0 l ((), ()) (ofN (lenL (.int .i64) l)) 0 h = some (x, (h, ())) := h1
  rw [h1, bnd_some, leI_d]
  rw [List.drop_zero] at h2
  have : decide ((0 : Int) ≤ x) = l.any (fun r => !decide (r ≤ (h.length : Int))) := by rw [Bool.eq_iff_iff, decide_eq_true_iff]; exact h2
  rw [this]
def mayPL : Nat → List NodeV → Bool
  | _, [] => true
  | i, n :: l => (decide (mayS n = 0) && (refsS n).all fun r => decide (-(i : Int) ≤ r)) && mayPL (i + 1) l
def mayP (p : PlanV) : Bool := mayPL 0 p.1 && (p.2.2.1.all (fun r => decide (1 ≤ r)) && decide (-(p.1.length : Int) ≤ p.2.1))
theorem any_not_all (l : List Int) (p : Int → Bool) : l.any (fun r => !p r) = !l.all p := by
  induction l with
  | nil => rfl
  | cons a l ih => rw [List.any_cons, List.all_cons, ih, Bool.not_and]
theorem mayp_loop (p : PlanV) (h : okPl p) (d : Nat) : ∀ (i : Nat), i ≤ p.1.length → p.1.length - i = d → plan_May.l0 p.1 p.1.length i p = some (if (mayPL i (p.1.drop i) && (p.2.2.1.all (fun r => decide (1 ≤ r)) && decide (-(p.1.length : Int) ≤ p.2.1))) = true then 0 else 4) := by
  have hl := h.len
  have hold := h.old
  induction d with
  | zero =>
    intro i hi hd
    rw [plan_May.l0.eq]
    simp only [ltI_d, ofN_d, lenL_d, br_if]
    rw [if_neg (by omega), ahead_any _ h.root _ (by omega), bnd_some, contains1 _ (by omega), bnd_some, List.drop_eq_nil_of_le (by omega), notB_d, br_if, br_b]
    rw [show mayPL i [] = true from rfl, Bool.true_and]
    have e : p.2.2.1.any (fun r => decide (r ≤ 0)) = !p.2.2.1.all (fun r => decide (1 ≤ r)) := by
      rw [← any_not_all]
      congr 1
      funext r
      rw [Bool.eq_iff_iff, Bool.not_eq_true', decide_eq_true_iff, decide_eq_false_iff_not]
      omega
    rw [e]
    by_cases h1 : -(p.1.length : Int) ≤ p.2.1
    · rw [if_neg (fun q => q h1), decide_eq_true h1, Bool.and_true]
      cases p.2.2.1.all (fun r => decide (1 ≤ r)) <;> rfl
    · rw [if_pos h1, decide_eq_false h1, Bool.and_false, if_neg (by simp)]
  | succ d ih =>
    intro i hi hd
    have hil : i < p.1.length := by omega
    have hm := List.getElem_mem hil
    have o := h.node _ hm
    have hrl := refsS_len p.1[i]
    have hkl := h.few _ hm
    rw [plan_May.l0.eq, ixN p.1 i hil, may_any _ o, bnd_some, refs_any _ o, bnd_some, contains0 _ (by omega) (refs_rng (h.rngs _ hm)) i (by omega), bnd_some]
    simp only [ltI_d, leI_d, eqI_d, notB_d, ofN_d, lenL_d, andB_d, br_if]
    simp only [br_b]
    rw [if_pos (by omega), if_pos (by omega), add1 i (by omega), ih (i + 1) (by omega) (by omega), List.drop_eq_getElem_cons hil, any_not_all]
    rw [show mayPL i (p.1[i] :: p.1.drop (i + 1)) = ((decide (mayS p.1[i] = 0) && (refsS p.1[i]).all fun r => decide (-(i : Int) ≤ r)) && mayPL (i + 1) (p.1.drop (i + 1))) from rfl]
    by_cases hz : mayS p.1[i] = 0
    · rw [if_neg (fun q => q hz), decide_eq_true hz, Bool.true_and]
      cases (refsS p.1[i]).all fun r => decide (-(i : Int) ≤ r) with
      | true => rw [if_neg (by simp), Bool.true_and]
      | false => rw [if_pos (show (!false) = true from rfl), Bool.false_and, Bool.false_and, if_neg (by simp)]
    · rw [if_pos hz, decide_eq_false hz, Bool.false_and, Bool.false_and, Bool.false_and, if_neg (by simp)]
theorem mayp_any (p : PlanV) (h : okPl p) : plan_May p = some (if mayP p = true then 0 else 4) := by
  rw [plan_May.eq]
  exact mayp_loop p h p.1.length 0 (by omega) (by omega)
/-! ### Whether a heap has what a plan refers to -/
def refsL (l : List NodeV) : List Int := l.flatMap refsS
def fitsL (h : List NodeV) (l : List Int) : Bool := l.all fun r => decide (r ≤ (h.length : Int))
def fitsP (h : List NodeV) (p : PlanV) : Bool := fitsL h ((p.2.2.1 ++ [p.2.1]) ++ refsL p.1)
theorem refsL_len : ∀ (l : List NodeV), (∀ n ∈ l, n.2.2.2.2.1.length ≤ 40) → (refsL l).length ≤ 41 * l.length
  | [], _ => by simp [refsL]
  | n :: l, h => by
    have := refsL_len l (fun m hm => h m (by simp [hm]))
    have h1 := refsS_len n
    have h2 := h n (by simp)
    unfold refsL at this ⊢
    rw [List.flatMap_cons, List.length_append, List.length_cons]
    omega
theorem fits_loop (h : List NodeV) (ns : List NodeV) (hn : ns.length ≤ 1000) (ho : ∀ n ∈ ns, okN n) (hf : ∀ n ∈ ns, n.2.2.2.2.1.length ≤ 40) (d : Nat) : ∀ (i : Nat) (acc : List Int), acc.length ≤ 2000 + 41 * i → i ≤ ns.length → ns.length - i = d →
    plan_fits.l0 ns ns.length i h acc = some (fitsL h (acc ++ refsL (ns.drop i))) := by
  induction d with
  | zero =>
    intro i acc ha hi hd
    rw [plan_fits.l0.eq]
    simp only [ltI_d, br_if]
    rw [if_neg (by omega), contains2 h acc (by omega), bnd_some, any_not_all, List.drop_eq_nil_of_le (by omega)]
    rw [show refsL [] = [] from rfl, List.append_nil]
    unfold fitsL
    cases acc.all fun r => decide (r ≤ (h.length : Int)) <;> rfl
  | succ d ih =>
    intro i acc ha hi hd
    have hil : i < ns.length := by omega
    have o := ho _ (List.getElem_mem hil)
    have hrl := refsS_len ns[i]
    have hkl := hf _ (List.getElem_mem hil)
    have hal : (acc ++ refsS ns[i]).length ≤ 2000 + 41 * (i + 1) := by rw [List.length_append]; omega
    rw [plan_fits.l0.eq, ixN ns i hil, refs_any _ o, bnd_some]
    simp only [ltI_d, leI_d, ofN_d, lenL_d, andB_d, br_if, fitL_d, appL_d]
    rw [if_pos (by omega), if_pos (by omega), if_pos (by omega), add1 i (by omega), ih (i + 1) _ hal (by omega) (by omega), List.drop_eq_getElem_cons hil]
    unfold refsL
    rw [List.flatMap_cons, List.append_assoc]
theorem pfits_any (h : List NodeV) (p : PlanV) (hp : okPl p) : plan_fits h p = some (fitsP h p) := by
  have hold := hp.old
  have hal : (p.2.2.1 ++ [p.2.1]).length ≤ 2000 := by rw [List.length_append]; show _ + 1 ≤ _; omega
  rw [plan_fits.eq, both_self, cloneR_any _ (by omega), bnd_some]
  simp only [fitL_d, appL_d, br_if]
  rw [if_pos (by omega)]
  exact fits_loop h p.1 hp.len hp.node hp.few p.1.length 0 _ (by omega) (by omega) (by omega)
/-! ### A plan done -/
def doL (out : List NodeV) (to : List Int) : List NodeV → List NodeV × List Int
  | [] => (out, to)
  | n :: l => doL (out ++ [fillS to n]) (to ++ [((out.length + 1 : Nat) : Int)]) l
theorem doL_to : ∀ (l out : List NodeV) (to : List Int), (doL out to l).2.length = to.length + l.length
  | [], _, _ => rfl
  | n :: l, out, to => by
    unfold doL
    rw [doL_to l]
    simp only [List.length_append, List.length_cons, List.length_nil]
    omega
theorem doL_out : ∀ (l out : List NodeV) (to : List Int), ∃ r, (doL out to l).1 = out ++ r ∧ r.length = l.length ∧ ((∀ n ∈ l, small n) → ∀ n ∈ r, small n)
  | [], out, _ => ⟨[], (List.append_nil out).symm, rfl, fun _ n hn => by cases hn⟩
  | n :: l, out, to => by
    obtain ⟨r, h1, h2, h3⟩ := doL_out l (out ++ [fillS to n]) (to ++ [((out.length + 1 : Nat) : Int)])
    refine ⟨fillS to n :: r, ?_, by rw [List.length_cons, List.length_cons, h2], fun hs m hm => ?_⟩
    · unfold doL
      rw [h1, List.append_assoc]
      rfl
    · rcases List.mem_cons.1 hm with rfl | hm
      · exact fillS_small (hs n (by simp))
      · exact h3 (fun a ha => hs a (by simp [ha])) m hm
theorem do_l1 (p : PlanV) (hp : okPl p) (d : Nat) : ∀ (i : Nat) (out : List NodeV) (to : List Int), out.length ≤ 40000000 + i → to.length = i → i ≤ p.1.length → p.1.length - i = d →
    plan_Do.l1 p.1 p.1.length i p out to = some ((doL out to (p.1.drop i)).1, (refD (doL out to (p.1.drop i)).2 p.2.1, ((if (refR (doL out to (p.1.drop i)).2 p.2.1).isSome = true then 0 else 4), ()))) := by
  have hl := hp.len
  induction d with
  | zero =>
    intro i out to h1 h2 hi hd
    rw [plan_Do.l1.eq]
    simp only [ltI_d, br_if]
    rw [if_neg (by omega), planref_any _ hp.root to, bnd_some, List.drop_eq_nil_of_le (by omega)]
    rfl
  | succ d ih =>
    intro i out to h1 h2 hi hd
    have hil : i < p.1.length := by omega
    have hm := List.getElem_mem hil
    have o1 : (out ++ [fillS to p.1[i]]).length = out.length + 1 := by rw [List.length_append]; rfl
    have o2 : (to ++ [((out.length + 1 : Nat) : Int)]).length = to.length + 1 := by rw [List.length_append]; rfl
    rw [plan_Do.l1.eq, ixN p.1 i hil, fill_any to _ (hp.node _ hm) (hp.rngs _ hm), bnd_some]
    simp only [ltI_d, leI_d, ofN_d, lenL_d, andB_d, br_if, fitL_d, appL_d]
    rw [o1, o2, if_pos (by omega), if_pos (by omega), if_pos (by omega), if_pos (by omega), add1 i (by omega), ih (i + 1) _ _ (by omega) (by omega) (by omega) (by omega), List.drop_eq_getElem_cons hil]
    rfl
theorem do_l0 (h : List NodeV) (hh : okH h) (p : PlanV) (hp : okPl p) (d : Nat) : ∀ (i : Nat), i ≤ h.length → h.length - i = d →
    plan_Do.l0 h h.length i p (h.take i) = plan_Do.l1 p.1 p.1.length 0 p h [] := by
  have hl := hh.len
  induction d with
  | zero =>
    intro i hi hd
    rw [plan_Do.l0.eq]
    simp only [ltI_d, br_if]
    rw [if_neg (by omega), List.take_of_length_le (by omega)]
    rfl
  | succ d ih =>
    intro i hi hd
    have hil : i < h.length := by omega
    rw [plan_Do.l0.eq, ixN h i hil, copy_any _ (hh.node _ (List.getElem_mem hil)), bnd_some]
    simp only [ltI_d, leI_d, ofN_d, lenL_d, andB_d, br_if, fitL_d, appL_d]
    have e : h.take i ++ [h[i]] = h.take (i + 1) := by rw [List.take_succ_eq_append_getElem hil]
    have e' : h.take i ++ [((h[i].1, (h[i].2.1, (h[i].2.2.1, (h[i].2.2.2.1, (h[i].2.2.2.2.1, (h[i].2.2.2.2.2.1, (h[i].2.2.2.2.2.2.1, h[i].2.2.2.2.2.2.2))))))) : NodeV)] = h.take (i + 1) := e
    rw [if_pos (by omega), if_pos (by omega), e', if_pos (by rw [List.length_take]; omega), add1 i (by omega)]
    exact ih (i + 1) (by omega) (by omega)
def doS (h : List NodeV) (p : PlanV) : List NodeV × List Int := doL h [] p.1
theorem root_in {p : PlanV} (h : mayP p = true) (out : List NodeV) : (refR (doL out [] p.1).2 p.2.1).isSome = true := by
  have hlen := doL_to p.1 out []
  unfold mayP at h
  simp only [Bool.and_eq_true, decide_eq_true_eq] at h
  have h3 := h.2.2
  unfold refR
  by_cases h1 : 0 ≤ p.2.1
  · rw [if_pos h1]; rfl
  · have : -1 - p.2.1 < (((doL out [] p.1).2.length : Nat) : Int) := by
      rw [hlen]
      show _ < ((([] : List Int).length + p.1.length : Nat) : Int)
      simp only [List.length_nil]
      omega
    rw [if_neg h1, if_pos this]
    rfl
theorem do_any (h : List NodeV) (hh : okH h) (p : PlanV) (hp : okPl p) : plan_Do h p = some (if (mayP p && (mayH h && fitsP h p)) = true then ((doS h p).1, (refD (doS h p).2 p.2.1, (0, ()))) else ([], (0, (4, ())))) := by
  rw [plan_Do.eq, mayp_any p hp, bnd_some, mayh_any h hh, bnd_some, pfits_any h p hp, bnd_some]
  simp only [eqI_d, notB_d, br_if]
  cases h1 : mayP p with
  | false => rw [if_neg (show ¬ (false = true) by simp), if_pos (show ¬ (4 : Int) = 0 by omega), Bool.false_and, if_neg (show ¬ (false = true) by simp)]
  | true =>
    rw [if_pos rfl, if_neg (by omega), Bool.true_and]
    cases h2 : mayH h with
    | false => rw [if_neg (show ¬ (false = true) by simp), if_pos (show ¬ (4 : Int) = 0 by omega), Bool.false_and, if_neg (show ¬ (false = true) by simp)]
    | true =>
      rw [if_pos rfl, if_neg (by omega), Bool.true_and]
      cases h3 : fitsP h p with
      | false => rw [show notB false = true from rfl, br_t, if_neg (by simp)]
      | true =>
        rw [show notB true = false from rfl, br_f, if_pos rfl]
        have e0 := do_l0 h hh p hp h.length 0 (by omega) (by omega)
        have e1 := do_l1 p hp p.1.length 0 h [] (by have := hh.len; omega) rfl (by omega) (by omega)
        rw [show ((0 : Nat) : Int) = 0 from rfl] at e0 e1
        rw [List.take_zero] at e0
        show plan_Do.l0 h ((h.length : Nat) : Int) 0 p [] = _
        rw [e0]
        refine e1.trans ?_
        rw [List.drop_zero, if_pos (root_in h1 h)]
        rfl
end Go.Proofs.YtmopkbmcilolgaaGreat.AH
set_option linter.unusedVariables false
set_option linter.unusedSimpArgs false
namespace Go.Proofs.YtmopkbmcilolgaaGreat.AH
open Go.Abs
/-- A reference, where new nodes stand behind so many. -/
def fillQ (n : Nat) (r : Int) : Int := if 0 ≤ r then r else (n : Int) - r
def fillNd (n : Nat) (x : NodeV) : NodeV := (x.1, (x.2.1, (x.2.2.1, (x.2.2.2.1, (x.2.2.2.2.1.map (fillQ n), (fillQ n x.2.2.2.2.2.1, x.2.2.2.2.2.2))))))
/-- A heap behind a plan's new nodes. -/
def PS (h news : List NodeV) : List NodeV := h ++ news.map (fillNd h.length)
theorem fillQ_zero (n : Nat) (r : Int) : fillQ n r = 0 ↔ r = 0 := by unfold fillQ; split <;> omega
theorem fillQ_pos (n : Nat) {r : Int} (h : 0 ≤ r) : fillQ n r = r := if_pos h
theorem fillQ_neg (n : Nat) {r : Int} (h : r < 0) : fillQ n r = (n : Int) - r := if_neg (by omega)
theorem fillQ_0 (n : Nat) : fillQ n 0 = 0 := if_pos (Int.le_refl _)
theorem zero_mem_fill (n : Nat) (l : List Int) : (0 : Int) ∈ l.map (fillQ n) ↔ (0 : Int) ∈ l := by
  rw [List.mem_map]
  constructor
  · rintro ⟨a, ha, e⟩
    rw [fillQ_zero] at e
    exact e ▸ ha
  · intro h; exact ⟨0, h, fillQ_0 n⟩
theorem formP_fill (n : Nat) (x : NodeV) : formP (fillNd n x) ↔ formP x := by
  unfold formP bareP fillNd
  simp only [List.length_map, List.map_eq_nil_iff, fillQ_zero, zero_mem_fill, ne_eq]
theorem mayS_fill (n : Nat) (x : NodeV) : mayS (fillNd n x) = mayS x := by
  unfold mayS
  rw [show longN (fillNd n x) = longN x from rfl, show (fillNd n x).1 = x.1 from rfl]
  by_cases h : formP x
  · rw [if_pos h, if_pos ((formP_fill n x).2 h)]
  · rw [if_neg h, if_neg (fun q => h ((formP_fill n x).1 q))]
theorem allK_fill (n : Nat) (x : NodeV) : allK (fillNd n x) = (allK x).map (fillQ n) := by
  unfold allK fillNd
  rw [List.map_append]
  rfl
theorem stripV_fill (n : Nat) (x : NodeV) : stripV (fillNd n x) = stripV x := rfl
theorem okN_fill (n : Nat) {x : NodeV} (h : okN x) : okN (fillNd n x) := ⟨h.key, h.val, h.map0, h.map1, by show (x.2.2.2.2.1.map (fillQ n)).length ≤ _; rw [List.length_map]; exact h.kids, h.list, h.binds⟩
theorem PS_len (h news : List NodeV) : (PS h news).length = h.length + news.length := by unfold PS; rw [List.length_append, List.length_map]
theorem PS_nil (h : List NodeV) : PS h [] = h := by unfold PS; simp
theorem PS_add (h news : List NodeV) (n : NodeV) : PS h (news ++ [n]) = PS h news ++ [fillNd h.length n] := by unfold PS; rw [List.map_append, List.append_assoc]; rfl
structure PlanOK (h news : List NodeV) : Prop where
  may : mayH (PS h news) = true
  node : ∀ n ∈ news, okN n ∧ n.2.2.2.2.1.length ≤ 40
  ref : ∀ (i : Nat) (hi : i < news.length), mayS news[i] = 0 ∧ ∀ r ∈ allK news[i], -(i : Int) ≤ r ∧ r ≤ h.length
theorem PlanOK.nil {h : List NodeV} (hm : mayH h = true) : PlanOK h [] := ⟨by rw [PS_nil]; exact hm, fun n hn => (by cases hn), fun i hi => (by cases hi)⟩
theorem fill_in {h news : List NodeV} {r : Int} (lo : -(news.length : Int) ≤ r) (hi : r ≤ h.length) : 0 ≤ fillQ h.length r ∧ fillQ h.length r ≤ (PS h news).length := by
  rw [PS_len]
  unfold fillQ
  split <;> omega
theorem PlanOK.add {h news : List NodeV} (P : PlanOK h news) {n : NodeV} (ho : okN n) (hk : n.2.2.2.2.1.length ≤ 40) (hm : mayS n = 0) (hr : ∀ r ∈ allK n, -(news.length : Int) ≤ r ∧ r ≤ h.length) : PlanOK h (news ++ [n]) := by
  refine ⟨?_, ?_, ?_⟩
  · rw [PS_add]
    refine may_more P.may (by rw [mayS_fill]; exact hm) fun r hr' => ?_
    rw [refsS_all, allK_fill] at hr'
    obtain ⟨h1, h2⟩ := List.mem_filter.1 hr'
    obtain ⟨a, ha, rfl⟩ := List.mem_map.1 h1
    have := hr a ha
    have := fill_in (h := h) (news := news) this.1 this.2
    simp only [decide_eq_true_eq] at h2
    exact ⟨by omega, this.2⟩
  · intro m hm'
    rcases List.mem_append.1 hm' with hm' | hm'
    · exact P.node m hm'
    · rw [List.mem_singleton.1 hm']; exact ⟨ho, hk⟩
  · intro i hi
    rw [List.length_append] at hi
    simp only [List.length_cons, List.length_nil] at hi
    by_cases q : i < news.length
    · rw [List.getElem_append_left q]; exact P.ref i q
    · have : i = news.length := by omega
      subst this
      rw [List.getElem_append_right (Nat.le_refl _)]
      simp only [Nat.sub_self, List.getElem_cons_zero]
      exact ⟨hm, hr⟩
/-- What is below a reference of a plan. -/
structure Has (h news : List NodeV) (r : Int) (s : Shp) : Prop where
  lo : -(news.length : Int) ≤ r
  hi : r ≤ h.length
  shp : U (PS h news) (fillQ h.length r) = s
theorem Has.more {h news : List NodeV} {r : Int} {s : Shp} (P : PlanOK h news) (H : Has h news r s) (n : NodeV) : Has h (news ++ [n]) r s := by
  have := fill_in H.lo H.hi
  refine ⟨by have := H.lo; rw [List.length_append]; simp only [List.length_cons, List.length_nil]; omega, H.hi, ?_⟩
  rw [PS_add, U_app P.may this.1 this.2]
  exact H.shp
theorem Has.heap {h news : List NodeV} {r : Int} (hm : mayH h = true) (h0 : 0 ≤ r) (h1 : r ≤ h.length) : Has h news r (U h r) := by
  refine ⟨by omega, h1, ?_⟩
  rw [fillQ_pos _ h0]
  exact U_app hm h0 h1
theorem Has.zero {h news : List NodeV} : Has h news 0 .nil := ⟨by omega, by omega, by rw [fillQ_0, U_zero]⟩
theorem Has.new {h news : List NodeV} {n : NodeV} (P : PlanOK h news) (P' : PlanOK h (news ++ [n])) : Has h (news ++ [n]) (-(news.length : Int) - 1) (.node (stripV n) ((allK n).map fun r => U (PS h news) (fillQ h.length r))) := by
  refine ⟨by rw [List.length_append]; simp only [List.length_cons, List.length_nil]; omega, by omega, ?_⟩
  have hp := PS_len h news
  have e : fillQ h.length (-(news.length : Int) - 1) = ((PS h news).length : Int) + 1 := by rw [fillQ_neg _ (by omega), hp]; omega
  have hm := P'.may
  rw [PS_add] at hm
  rw [e, PS_add, U_node hm (by omega) (by rw [List.length_append]; simp only [List.length_cons, List.length_nil]; omega), getN_last, stripV_fill, allK_fill, List.map_map]
  congr 1
  refine List.map_congr_left fun r hr => ?_
  have hi : news.length < (news ++ [n]).length := by rw [List.length_append]; simp
  have := (P'.ref news.length hi).2 r (by rw [List.getElem_append_right (Nat.le_refl _)]; simpa using hr)
  have := fill_in (h := h) (news := news) this.1 this.2
  exact U_app P.may this.1 this.2
theorem Has.tree {h news : List NodeV} (P : PlanOK h news) {p : PairV} (hp : okT p) {a b : Int} {s t : Shp} (A : Has h news a s) (B : Has h news b t) {n : Nat} (hn : 1 ≤ n) :
    PlanOK h (news ++ [treeN p a b n]) ∧ Has h (news ++ [treeN p a b n]) (-(news.length : Int) - 1) (.node (stripV (treeN p 0 0 n)) [s, t, .nil]) := by
  have hk : ∀ r ∈ allK (treeN p a b n), -(news.length : Int) ≤ r ∧ r ≤ h.length := fun r hr => by
    have hr : r ∈ [a, b, 0] := hr
    rcases List.mem_cons.1 hr with rfl | hr
    · exact ⟨A.lo, A.hi⟩
    rcases List.mem_cons.1 hr with rfl | hr
    · exact ⟨B.lo, B.hi⟩
    · rw [List.mem_singleton.1 hr]; omega
  have P' := P.add (treeN_ok hp.ok a b n) (by show 2 ≤ 40; omega) (treeN_may hp a b n hn) hk
  refine ⟨P', ?_⟩
  have H := Has.new P P'
  have e : ((allK (treeN p a b n)).map fun r => U (PS h news) (fillQ h.length r)) = [s, t, .nil] := by
    show [U _ (fillQ _ a), U _ (fillQ _ b), U _ (fillQ _ 0)] = _
    rw [A.shp, B.shp, fillQ_0, U_zero]
  rw [e] at H
  exact H
theorem PlanOK.okH {h news : List NodeV} (P : PlanOK h news) (ho : okH h) (hl : h.length + news.length ≤ 40000000) : okH (PS h news) := by
  refine ⟨by rw [PS_len]; exact hl, fun n hn => ?_, kids_rng P.may (by rw [PS_len]; omega)⟩
  rcases List.mem_append.1 hn with hn | hn
  · exact ho.node n hn
  · obtain ⟨m, hm, rfl⟩ := List.mem_map.1 hn
    exact okN_fill _ (P.node m hm).1
/-! ### A plan done -/
def toL (n k : Nat) : List Int := (List.range k).map fun i => ((n + 1 + i : Nat) : Int)
theorem toL_len (n k : Nat) : (toL n k).length = k := by unfold toL; simp
theorem toL_succ (n k : Nat) : toL n (k + 1) = toL n k ++ [((n + k + 1 : Nat) : Int)] := by
  unfold toL
  rw [List.range_succ, List.map_append, List.map_cons, List.map_nil, show n + 1 + k = n + k + 1 by omega]
theorem refR_fill (n k : Nat) {r : Int} (h : -(k : Int) ≤ r) : refR (toL n k) r = some (fillQ n r) := by
  unfold refR fillQ
  by_cases h0 : 0 ≤ r
  · rw [if_pos h0, if_pos h0]
  · rw [if_neg h0, if_neg h0, toL_len, if_pos (by omega)]
    have hlt : (-1 - r).toNat < k := by omega
    have e : (toL n k).getD (-1 - r).toNat 0 = ((n + 1 + (-1 - r).toNat : Nat) : Int) := by
      unfold toL
      rw [List.getD_eq_getElem?_getD, List.getElem?_map, List.getElem?_range hlt]
      rfl
    rw [e]
    exact congrArg some (by omega)
theorem fillS_fill (n k : Nat) {x : NodeV} (hr : ∀ r ∈ allK x, -(k : Int) ≤ r) : fillS (toL n k) x = fillNd n x := by
  have hmain := hr x.2.2.2.2.2.1 (List.mem_append_right _ List.mem_cons_self)
  have hkid : ∀ r ∈ x.2.2.2.2.1, -(k : Int) ≤ r := fun r hk => hr r (List.mem_append_left _ hk)
  have hB : fillB (toL n k) x = true := by
    unfold fillB
    rw [refR_fill n k hmain, Bool.and_eq_true, List.all_eq_true]
    exact ⟨rfl, fun r hk => by rw [refR_fill n k (hkid r hk)]; rfl⟩
  unfold fillS
  rw [if_pos hB]
  unfold fillNd
  have e1 : x.2.2.2.2.1.map (refD (toL n k)) = x.2.2.2.2.1.map (fillQ n) := List.map_congr_left fun r hk => by unfold refD; rw [refR_fill n k (hkid r hk)]; rfl
  have e2 : refD (toL n k) x.2.2.2.2.2.1 = fillQ n x.2.2.2.2.2.1 := by unfold refD; rw [refR_fill n k hmain]; rfl
  rw [e1, e2]
theorem doL_eq (h : List NodeV) : ∀ (l pre : List NodeV), (∀ (i : Nat) (hi : i < l.length), ∀ r ∈ allK l[i], -((pre.length + i : Nat) : Int) ≤ r) → doL (PS h pre) (toL h.length pre.length) l = (PS h (pre ++ l), toL h.length (pre.length + l.length))
  | [], pre, _ => by rw [List.append_nil]; rfl
  | n :: l, pre, hr => by
    unfold doL
    have h0 := hr 0 (by simp)
    have e1 : fillS (toL h.length pre.length) n = fillNd h.length n := fillS_fill _ _ (by simpa using h0)
    have e2 : PS h pre ++ [fillNd h.length n] = PS h (pre ++ [n]) := (PS_add h pre n).symm
    have e3 : toL h.length pre.length ++ [(((PS h pre).length + 1 : Nat) : Int)] = toL h.length (pre ++ [n]).length := by
      rw [PS_len, List.length_append]
      exact (toL_succ _ _).symm
    rw [e1, e2, e3, doL_eq h l (pre ++ [n]) fun i hi r hr' => ?_]
    · rw [List.append_assoc, List.length_append, List.length_cons, List.length_cons, List.length_nil, show pre.length + (0 + 1) + l.length = pre.length + (l.length + 1) by omega]
      rfl
    · have := hr (i + 1) (by simpa using hi) r (by simpa using hr')
      rw [List.length_append]
      simp only [List.length_cons, List.length_nil]
      omega
theorem mayPL_of : ∀ (l : List NodeV) (i : Nat), (∀ (j : Nat) (hj : j < l.length), mayS l[j] = 0 ∧ ∀ r ∈ refsS l[j], -((i + j : Nat) : Int) ≤ r) → mayPL i l = true
  | [], _, _ => rfl
  | n :: l, i, h => by
    unfold mayPL
    simp only [Bool.and_eq_true, decide_eq_true_eq, List.all_eq_true]
    refine ⟨h 0 (by simp), mayPL_of l (i + 1) fun j hj => ?_⟩
    have := h (j + 1) (by simpa using hj)
    rw [show i + (j + 1) = i + 1 + j by omega] at this
    exact this
theorem refsS_sub {n : NodeV} {r : Int} (h : r ∈ refsS n) : r ∈ allK n := by
  rw [refsS_all] at h
  exact (List.mem_filter.1 h).1
theorem do_pre {h news : List NodeV} (ho : okH h) (hm : mayH h = true) (P : PlanOK h news) (hn : news.length ≤ 1000) {root : Int} (lo : -(news.length : Int) ≤ root) (hi : root ≤ h.length) {old : List Int} (hol : old.length ≤ 1000) (hold : ∀ r ∈ old, 1 ≤ r ∧ r ≤ h.length) :
    okPl (news, (root, (old, ()))) ∧ (mayP (news, (root, (old, ()))) && (mayH h && fitsP h (news, (root, (old, ()))))) = true ∧ doS h (news, (root, (old, ()))) = (PS h news, toL h.length news.length) ∧ refD (toL h.length news.length) root = fillQ h.length root := by
  have hlen := ho.len
  have ok : okPl (news, (root, (old, ()))) := by
    refine ⟨hn, fun n hn' => (P.node n hn').1, fun n hn' => ?_, fun n hn' => (P.node n hn').2, by show rng root; unfold rng; omega, hol, fun r hr => by have := hold r hr; unfold rng; omega⟩
    obtain ⟨i, hi', rfl⟩ := List.getElem_of_mem hn'
    have hr := (P.ref i hi').2
    have hi' : i < news.length := hi'
    refine ⟨fun k hk => ?_, ?_⟩
    · have := hr k (List.mem_append_left _ hk)
      unfold rng; omega
    · show rng news[i].2.2.2.2.2.1
      have := hr news[i].2.2.2.2.2.1 (List.mem_append_right _ List.mem_cons_self)
      unfold rng; omega
  have c1 : mayP (news, (root, (old, ()))) = true := by
    unfold mayP
    simp only [Bool.and_eq_true, decide_eq_true_eq, List.all_eq_true]
    refine ⟨mayPL_of news 0 fun j hj => ⟨(P.ref j hj).1, fun r hr => ?_⟩, fun r hr => (hold r hr).1, lo⟩
    have := ((P.ref j hj).2 r (refsS_sub hr)).1
    omega
  have c3 : fitsP h (news, (root, (old, ()))) = true := by
    unfold fitsP fitsL
    rw [List.all_eq_true]
    intro r hr
    rw [decide_eq_true_eq]
    rcases List.mem_append.1 hr with hr | hr
    · rcases List.mem_append.1 hr with hr | hr
      · exact (hold r hr).2
      · rw [List.mem_singleton.1 hr]; exact hi
    · unfold refsL at hr
      obtain ⟨n, hn', hr⟩ := List.mem_flatMap.1 hr
      obtain ⟨i, hi', rfl⟩ := List.getElem_of_mem hn'
      exact ((P.ref i hi').2 r (refsS_sub hr)).2
  have hd := doL_eq h news [] fun i hi' r hr => by have := ((P.ref i hi').2 r hr).1; simp only [List.length_nil]; omega
  rw [PS_nil] at hd
  have hd : doS h (news, (root, (old, ()))) = (PS h news, toL h.length news.length) := by
    unfold doS
    rw [List.nil_append, List.length_nil, Nat.zero_add] at hd
    exact hd
  have hroot : refD (toL h.length news.length) root = fillQ h.length root := by unfold refD; rw [refR_fill _ _ lo]; rfl
  exact ⟨ok, by rw [c1, hm, c3]; rfl, hd, hroot⟩
theorem do_plan {h news : List NodeV} (ho : okH h) (hm : mayH h = true) (P : PlanOK h news) (hn : news.length ≤ 1000) {root : Int} (lo : -(news.length : Int) ≤ root) (hi : root ≤ h.length) {old : List Int} (hol : old.length ≤ 1000) (hold : ∀ r ∈ old, 1 ≤ r ∧ r ≤ h.length) :
    plan_Do h (news, (root, (old, ()))) = some (PS h news, (fillQ h.length root, (0, ()))) := by
  obtain ⟨ok, c, hd, hroot⟩ := do_pre ho hm P hn lo hi hol hold
  rw [do_any h ho _ ok, if_pos c, hd, hroot]
end Go.Proofs.YtmopkbmcilolgaaGreat.AH
set_option linter.unusedVariables false
set_option linter.unusedSimpArgs false
namespace Go.Proofs.YtmopkbmcilolgaaGreat.AH
open Go.Abs
theorem ixS (l : List ByteArray) (i : Nat) (h : i < l.length) : ixL .str l (i : Int) = l[i] := ixL_d .str l i h
def shortS (l : List ByteArray) : Prop := ∀ s ∈ l, s.size ≤ 40
theorem best_short : ∀ (l : List ByteArray) (o : ByteArray), shortS l → o.size ≤ 40 → (best l o).size ≤ 40
  | [], _, _, h => h
  | x :: xs, o, hl, ho => by
    unfold best
    split
    · exact best_short xs x (fun s hs => hl s (List.mem_cons_of_mem _ hs)) (hl x List.mem_cons_self)
    · exact best_short xs o (fun s hs => hl s (List.mem_cons_of_mem _ hs)) ho
theorem ptop_loop (x0 l : List ByteArray) (hl : l.length ≤ 50000000) (hs : shortS l) (d : Nat) : ∀ (i : Nat) (o : ByteArray), 1 ≤ i → i ≤ l.length → l.length - i = d → o.size ≤ 40 → pri_Top.l0 x0 o l l.length i = some (best (l.drop i) o, (decide (0 < (x0.length : Int)), ())) := by
  induction d with
  | zero =>
    intro i o h0 h1 h2 h3
    rw [pri_Top.l0.eq]
    simp only [ltI_d, br_if, ofN_d, lenL_d]
    rw [if_neg (by omega), List.drop_eq_nil_of_le (by omega)]
    rfl
  | succ d ih =>
    intro i o h0 h1 h2 h3
    have hi : i < l.length := by omega
    have hx := hs _ (List.getElem_mem hi)
    rw [pri_Top.l0.eq]
    simp only [ltI_d, leI_d, eqI_d, br_if, ofN_d, lenL_d, andB_d]
    rw [if_pos (by omega), if_pos (by omega), if_neg (by omega), ixS l i hi, above_any _ _ (by omega) (by omega), bnd_some, add1 i (by omega), br_b, ih (i + 1) _ (by omega) (by omega) (by omega) hx, ih (i + 1) _ (by omega) (by omega) (by omega) h3, List.drop_eq_getElem_cons hi, best]
    split <;> rfl
theorem ptop_any (l : List ByteArray) (hl : l.length ≤ 50000000) (h0 : 0 < l.length) (hs : shortS l) : pri_Top l = some ((topT l).1, (true, ())) := by
  rw [pri_Top.eq, pri_Top.l0.eq]
  simp only [ltI_d, leI_d, eqI_d, br_if, ofN_d, lenL_d, andB_d]
  have i0 := ixS l 0 h0
  have hx := hs _ (List.getElem_mem h0)
  rw [show ((0 : Nat) : Int) = 0 from rfl] at i0
  have := ptop_loop l l hl hs (l.length - 1) 1 l[0] (by omega) (by omega) rfl hx
  rw [if_pos (by omega), if_pos (by omega), if_pos trivial, i0, show addI .i64 0 1 = ((1 : Nat) : Int) from add1 0 (by omega), this, decide_eq_true (by omega)]
  cases l with
  | nil => simp at h0
  | cons x xs => rfl
theorem sidx_loop (l : List ByteArray) (x : ByteArray) (p : Nat) (hp : p < l.length) (hx : l[p] = x) (hn : ∀ j (h : j < l.length), j < p → l[j] ≠ x) (hl : l.length ≤ 50000000) (d : Nat) : ∀ (i : Nat), i ≤ p → p - i = d → slices_Indexstring_string.l0 l x l.length i = some (p : Int) := by
  induction d with
  | zero =>
    intro i h1 h2
    have : i = p := by omega
    subst this
    rw [slices_Indexstring_string.l0.eq]
    simp only [ltI_d, leI_d, eqI_d, eqS_d, br_if, ofN_d, lenL_d, andB_d]
    rw [if_pos (by omega), if_pos (by omega), ixS l i hp, hx, if_pos rfl]
  | succ d ih =>
    intro i h1 h2
    have hi : i < l.length := by omega
    rw [slices_Indexstring_string.l0.eq]
    simp only [ltI_d, leI_d, eqI_d, eqS_d, br_if, ofN_d, lenL_d, andB_d]
    rw [if_pos (by omega), if_pos (by omega), ixS l i hi, if_neg (fun e => hn i hi (by omega) e.symm), add1 i (by omega)]
    exact ih (i + 1) (by omega) (by omega)
theorem ttop_fin (l : List PairV) (hl : l.length ≤ 40000000) (h0 : l ≠ []) (hs : ∀ p ∈ l, okP p) : (bnd (pri_Top (l.map (·.1))) fun r0 => bnd (slices_Indexstring_string (l.map (·.1)) r0.1) fun r1 => some r1) = some ((topI l : Nat) : Int) := by
  obtain ⟨t1, t2, t3⟩ := topI_spec l h0
  have hk : (l.map (·.1)).length = l.length := List.length_map ..
  have hp : 0 < l.length := List.length_pos_iff.2 h0
  have hss : shortS (l.map (·.1)) := by
    intro s hs'
    obtain ⟨p, hp, rfl⟩ := List.mem_map.1 hs'
    exact (hs p hp).1
  have hkey : ∀ (j : Nat) (h : j < (l.map (·.1)).length), (l.map (·.1))[j] = keyAt l j := by
    intro j h
    rw [List.getElem_map, keyAt_get l j (by omega)]
  have he : keyAt l (topI l) = (topT (l.map (·.1))).1 := by
    refine top_only ?_ (fun z hz => ?_)
    · rw [← hkey (topI l) (by omega)]; exact List.getElem_mem _
    · obtain ⟨j, hj, rfl⟩ := List.getElem_of_mem hz
      rw [hkey j hj]
      exact t2 j (by omega)
  rw [ptop_any _ (by omega) (by omega) hss, bnd_some, slices_Indexstring_string.eq]
  have := sidx_loop (l.map (·.1)) (topT (l.map (·.1))).1 (topI l) (by omega) (by rw [hkey _ (by omega), he]) (fun j h hj => by rw [hkey j h, ← he]; exact t3 j hj) (by omega) (topI l) 0 (by omega) (by omega)
  rw [show ((0 : Nat) : Int) = 0 from rfl] at this
  simp only [ofN_d, lenL_d]
  rw [this, bnd_some]
theorem ttop_loop (l : List PairV) (hl : l.length ≤ 40000000) (d : Nat) : ∀ (i : Nat), i ≤ l.length → l.length - i = d → tree_top.l0 l l.length i ((l.take i).map (·.1)) = bnd (pri_Top (l.map (·.1))) fun r0 => bnd (slices_Indexstring_string (l.map (·.1)) r0.1) fun r1 => some r1 := by
  induction d with
  | zero =>
    intro i h1 h2
    rw [tree_top.l0.eq]
    simp only [ltI_d, br_if]
    rw [if_neg (by omega), List.take_of_length_le (by omega)]
  | succ d ih =>
    intro i h1 h2
    have hi : i < l.length := by omega
    rw [tree_top.l0.eq]
    simp only [ltI_d, leI_d, br_if, ofN_d, lenL_d, andB_d, fitL_d, appL_d]
    rw [if_pos (by omega), if_pos (by omega), ixP l i hi, add1 i (by omega)]
    have e : (l.take i).map (·.1) ++ [l[i].1] = (l.take (i + 1)).map (·.1) := by
      rw [List.take_succ_eq_append_getElem hi, List.map_append, List.map_singleton]
    rw [e, if_pos (by rw [List.length_map, List.length_take]; omega)]
    exact ih (i + 1) (by omega) (by omega)
theorem ttop_any (l : List PairV) (hl : l.length ≤ 40000000) (h0 : l ≠ []) (hs : ∀ p ∈ l, okP p) : tree_top l = some ((topI l : Nat) : Int) := by
  rw [tree_top.eq]
  have := ttop_loop l hl l.length 0 (by omega) (by omega)
  rw [List.take_zero, List.map_nil, show ((0 : Nat) : Int) = 0 from rfl] at this
  simp only [ofN_d, lenL_d]
  rw [this]
  exact ttop_fin l hl h0 hs
theorem subL_pre (l : List PairV) (i : Nat) : subL tapiPair l (toN 0) (toN (i : Int)) = l.take i := by
  rw [toN_d, show toN 0 = 0 from rfl]; exact subL0 _ _ _
theorem subL_suf (l : List PairV) (i : Nat) : subL tapiPair l (toN (i : Int)) (toN (ofN (lenL tapiPair l))) = l.drop i := by
  rw [toN_d, ofN_d, toN_d]
  unfold subL lenL
  exact List.take_of_length_le (by rw [List.length_drop]; omega)
theorem app1_len {A : Type} (l : List A) (x : A) : (l ++ [x]).length = l.length + 1 := by simp
theorem tnodes_any : ∀ (n : Nat) (h : List NodeV) (l : List PairV), l.length ≤ n → h.length + l.length ≤ 40000000 → (∀ p ∈ l, okP p) → tree_nodes_1 l ((), ((), ())) h = some ((nodesS h l).2, (((), ((), ())), ((), ((nodesS h l).1, ())))) := by
  intro n
  induction n with
  | zero =>
    intro h l hn hb hs
    have : l = [] := List.eq_nil_of_length_eq_zero (by omega)
    subst this
    rw [tree_nodes_1.eq, nodesS_nil]
    rfl
  | succ n ih =>
    intro h l hn hb hs
    by_cases hl : l = []
    · subst hl
      rw [tree_nodes_1.eq, nodesS_nil]
      rfl
    have ht := topI_lt hl
    have hlen : (l.take (topI l)).length = topI l := by rw [List.length_take]; omega
    have ia := ih h (l.take (topI l)) (by omega) (by omega) (fun p hp => hs p (List.mem_of_mem_take hp))
    have la := nodesS_len _ h (l.take (topI l)) (Nat.le_refl _)
    have hlen2 : (l.drop (topI l + 1)).length = l.length - (topI l + 1) := List.length_drop ..
    have ib := ih (nodesS h (l.take (topI l))).1 (l.drop (topI l + 1)) (by omega) (by omega) (fun p hp => hs p (List.mem_of_mem_drop hp))
    have lb := nodesS_len _ (nodesS h (l.take (topI l))).1 (l.drop (topI l + 1)) (Nat.le_refl _)
    rw [tree_nodes_1.eq, ttop_any l (by omega) hl hs, bnd_some]
    simp only [both_self]
    rw [add1 (topI l) (by omega), subL_pre, subL_suf, ia, bnd_some, ib, bnd_some]
    have hpos : 0 < l.length := List.length_pos_iff.2 hl
    simp only [ltI_d, leI_d, eqI_d, br_if, ofN_d, lenL_d, andB_d]
    rw [if_neg (by omega), if_pos (by omega), if_pos (by omega), tree_nodes_1.j0.eq]
    simp only [ltI_d, leI_d, eqI_d, br_if, ofN_d, lenL_d, andB_d]
    rw [if_pos (by omega), if_pos (by omega), ixP l _ ht, node_Tree.eq, bnd_some, nodesS_cons h hl, pairAt_get l _ ht]
    simp only [fitL_d, appL_d, br_if]
    have e : ∀ (A : List NodeV) (x : NodeV), ((A ++ [x]).length : Int) = (A.length : Int) + 1 := fun A x => by rw [app1_len]; omega
    rw [if_pos (by rw [app1_len]; omega)]
    show some ((((nodesS (nodesS h (l.take (topI l))).1 (l.drop (topI l + 1))).1 ++ [_]).length : Int), _) = _
    rw [e]
    rfl
theorem Nodes_any (l : List PairV) (hb : l.length ≤ 40000000) (hs : ∀ p ∈ l, okP p) : tree_nodes l = some ((nodesS [] l).1, ((nodesS [] l).2, ())) := by
  rw [tree_nodes.eq, tnodes_any _ [] l (Nat.le_refl _) (by show 0 + _ ≤ _; omega) hs, bnd_some]
theorem rtop_loop (l : List PairV) (h : List NodeV) (hl : l.length ≤ 40000000) (hs : ∀ p ∈ l, okP p) (d : Nat) : ∀ (i t : Nat), t < i → i + d = l.length → ref25_make1.l0 l t i h = ref25_make1.l0 l (topA l d i t : Nat) (l.length : Int) h := by
  induction d with
  | zero =>
    intro i t h1 h2
    rw [topA, show i = l.length by omega]
  | succ d ih =>
    intro i t h1 h2
    have hi : i < l.length := by omega
    have htl : t < l.length := by omega
    have hx := hs _ (List.getElem_mem hi)
    have hy := hs _ (List.getElem_mem htl)
    rw [ref25_make1.l0.eq]
    simp only [ltI_d, leI_d, eqI_d, br_if, ofN_d, lenL_d, andB_d]
    rw [if_pos (by omega), if_pos (by omega), if_pos (by omega), ixP l i hi, ixP l t htl, refabove_any _ _ (by have := hx.1; omega) (by have := hy.1; omega), bnd_some, add1 i (by omega), br_b, topA, keyAt_get l i hi, keyAt_get l t htl]
    by_cases hc : above l[i].1 l[t].1 = true
    · rw [if_pos hc, if_pos hc]
      exact ih (i + 1) i (by omega) (by omega)
    · rw [if_neg hc, if_neg hc]
      exact ih (i + 1) t (by omega) (by omega)
theorem rnodes_any : ∀ (n : Nat) (h : List NodeV) (l : List PairV), l.length ≤ n → h.length + l.length ≤ 40000000 → (∀ p ∈ l, okP p) → ref25_make1 l h = some (((), ((nodesS h l).2, ())), ((nodesS h l).1, ())) := by
  intro n
  induction n with
  | zero =>
    intro h l hn hb hs
    have : l = [] := List.eq_nil_of_length_eq_zero (by omega)
    subst this
    rw [ref25_make1.eq, nodesS_nil]
    rfl
  | succ n ih =>
    intro h l hn hb hs
    by_cases hl : l = []
    · subst hl
      rw [ref25_make1.eq, nodesS_nil]
      rfl
    have ht := topI_lt hl
    have hlen : (l.take (topI l)).length = topI l := by rw [List.length_take]; omega
    have ia := ih h (l.take (topI l)) (by omega) (by omega) (fun p hp => hs p (List.mem_of_mem_take hp))
    have la := nodesS_len _ h (l.take (topI l)) (Nat.le_refl _)
    have hlen2 : (l.drop (topI l + 1)).length = l.length - (topI l + 1) := List.length_drop ..
    have ib := ih (nodesS h (l.take (topI l))).1 (l.drop (topI l + 1)) (by omega) (by omega) (fun p hp => hs p (List.mem_of_mem_drop hp))
    have lb := nodesS_len _ (nodesS h (l.take (topI l))).1 (l.drop (topI l + 1)) (Nat.le_refl _)
    have hpos : 0 < l.length := List.length_pos_iff.2 hl
    have hloop := rtop_loop l h (by omega) hs (l.length - 1) 1 0 (by omega) (by omega)
    rw [ref25_make1.eq]
    simp only [eqI_d, br_if, ofN_d, lenL_d]
    rw [if_neg (by omega)]
    refine hloop.trans ?_
    show ref25_make1.l0 l ((topI l : Nat) : Int) (l.length : Int) h = _
    rw [ref25_make1.l0.eq]
    simp only [ltI_d, leI_d, eqI_d, br_if, ofN_d, lenL_d, andB_d]
    have e1 := subL_pre l (topI l)
    have e2 := subL_suf l (topI l + 1)
    simp only [ofN_d, lenL_d] at e2
    rw [if_neg (by omega), if_pos (by omega), add1 (topI l) (by omega), e1, ia, bnd_some, if_pos (by omega), e2, ib, bnd_some, if_pos (by omega), if_pos (by omega), ixP l _ ht, nodesS_cons h hl, pairAt_get l _ ht]
    simp only [fitL_d, appL_d, br_if]
    have e : ∀ (A : List NodeV) (x : NodeV), ((A ++ [x]).length : Int) = (A.length : Int) + 1 := fun A x => by rw [app1_len]; omega
    rw [if_pos (by rw [app1_len]; omega), e]
    rfl
theorem refMake_any (l : List PairV) (hb : l.length ≤ 40000000) (hs : ∀ p ∈ l, okP p) : ref25_Make l = some ((nodesS [] (makeS l)).1, ((nodesS [] (makeS l)).2, ())) := by
  have := makeS_len l
  rw [ref25_Make.eq, refmake_any l hb hs, bnd_some, rnodes_any _ [] (makeS l) (Nat.le_refl _) (by show 0 + _ ≤ _; omega) (fun p hp => hs p (makeS_mem hp)), bnd_some]
/-! ### Texts that are short enough -/
def isShort (p : PairV) : Bool := !longP p
theorem longP_ok {p : PairV} : longP p = false ↔ okT p := by
  unfold longP okT
  simp only [Bool.or_eq_false_iff, decide_eq_false_iff_not]
  omega
theorem long_loop (l : List PairV) (hl : l.length ≤ 40000000) (d : Nat) : ∀ (i : Nat), i ≤ l.length → l.length - i = d → ref20_Long.l0 l i = some ((l.drop i).any longP) := by
  induction d with
  | zero =>
    intro i h1 h2
    rw [ref20_Long.l0.eq]
    simp only [ltI_d, ofN_d, lenL_d, br_if]
    rw [if_neg (by omega), List.drop_eq_nil_of_le (by omega)]
    rfl
  | succ d ih =>
    intro i h1 h2
    have hi : i < l.length := by omega
    rw [ref20_Long.l0.eq]
    simp only [ltI_d, leI_d, ofN_d, lenL_d, lenS_d, andB_d, br_if]
    have hin : 0 ≤ (i : Int) ∧ (i : Int) < (l.length : Int) := ⟨by omega, by omega⟩
    rw [if_pos (by omega), if_pos hin, ixP l i hi, add1 i (by omega), ih (i + 1) (by omega) (by omega), List.drop_eq_getElem_cons hi, List.any_cons]
    have el : longP l[i] = (decide (16 < l[i].1.size) || decide (16 < l[i].2.1.size)) := rfl
    rw [el]
    by_cases c1 : 16 < l[i].1.size
    · rw [if_pos (by omega), decide_eq_true c1, Bool.true_or, Bool.true_or]
    · rw [if_neg (by omega), if_pos hin, decide_eq_false c1, Bool.false_or]
      by_cases c2 : 16 < l[i].2.1.size
      · rw [if_pos (by omega), decide_eq_true c2, Bool.true_or]
      · rw [if_neg (by omega), decide_eq_false c2, Bool.false_or]
def longAny (l : List PairV) : Bool := (makeS l).any longP
theorem Long_any (l : List PairV) (hb : l.length ≤ 40000000) (hs : ∀ p ∈ l, okP p) : ref20_Long l = some (longAny l) := by
  have := makeS_len l
  rw [ref20_Long.eq, refmake_any l hb hs, bnd_some]
  have := long_loop (makeS l) (by omega) (makeS l).length 0 (by omega) (by omega)
  rw [List.drop_zero, show ((0 : Nat) : Int) = 0 from rfl] at this
  exact this
theorem longAny_false {l : List PairV} (h : longAny l = false) : ∀ p ∈ makeS l, okT p := by
  intro p hp
  refine longP_ok.1 ?_
  unfold longAny at h
  rw [List.any_eq_false] at h
  exact Bool.eq_false_iff.2 (h p hp)
theorem binds_short {h : List NodeV} (hm : mayH h = true) : ∀ (n : Nat) (r : Int), 0 ≤ r → r ≤ n → r ≤ h.length → ∀ p ∈ bindsT (U h r), okT p := by
  have own : ∀ r : Int, 1 ≤ r → r ≤ h.length → ∀ p ∈ bindsS (getN h r), okT p := by
    intro r h1 h2 p hp
    obtain ⟨_, _, hl, _⟩ := mayS_zero (may_node hm h1 h2).1
    unfold longN at hl
    rw [Bool.or_eq_false_iff] at hl
    unfold bindsS at hp
    split at hp
    · rw [List.mem_singleton] at hp
      subst hp
      exact longP_ok.1 hl.1
    · split at hp
      · have := hl.2
        rw [List.any_eq_false] at this
        exact longP_ok.1 (Bool.eq_false_iff.2 (this p hp))
      · cases hp
  intro n
  induction n with
  | zero =>
    intro r h0 h1 h2 p hp
    have : r = 0 := by omega
    subst this
    rw [U_zero, bindsT_nil] at hp
    cases hp
  | succ n ih =>
    intro r h0 h1 h2 p hp
    by_cases e : r = 0
    · subst e; rw [U_zero, bindsT_nil] at hp; cases hp
    by_cases h4 : (getN h r).1 = 4
    · obtain ⟨a, b, _, _, k3, k4, k5⟩ := bindsU_tree hm (by omega) h2 h4
      rw [k5] at hp
      rcases List.mem_append.1 hp with hp | hp
      · rcases List.mem_append.1 hp with hp | hp
        · exact ih a (by omega) (by omega) (by omega) p hp
        · exact own r (by omega) h2 p hp
      · exact ih b (by omega) (by omega) (by omega) p hp
    · rw [bindsU_refs hm (by omega) h2 h4] at hp
      rcases List.mem_append.1 hp with hp | hp
      · exact own r (by omega) h2 p hp
      · obtain ⟨l, hl, hp⟩ := List.mem_flatten.1 hp
        obtain ⟨x, hx, rfl⟩ := List.mem_map.1 hl
        rw [refsS_all] at hx
        have := (may_node hm (by omega) h2).2 x (List.mem_filter.1 hx).1
        exact ih x (by omega) (by omega) (by omega) p hp
noncomputable def isTreeS (h : List NodeV) (r : Int) : Bool := fitH h r && (isS (bindsT (U h r)) && eqSh (U h r) (treeT (bindsT (U h r))))
theorem hBinds_any {h : List NodeV} (ho : okH h) (r : Int) (hb : fitH h r = true → (bindsT (U h r)).length ≤ 1000000000) : heap_Binds h r = some (if fitH h r = true then (bindsT (U h r), (0, ())) else ([], (4, ()))) := by
  rw [heap_Binds.eq, hmay_any h ho, bnd_some]
  simp only [eqI_d, notB_d, br_if]
  by_cases hf : fitH h r = true
  · obtain ⟨⟨a, b⟩, c⟩ := fitH_iff.1 hf
    rw [if_pos hf, if_pos hf, if_neg (by omega), hbinds_any ho c r.toNat r a (by omega) b (hb hf), bnd_some]
  · rw [if_neg hf, if_neg hf, if_pos (by omega)]
theorem Is_any {h : List NodeV} (ho : okH h) (r : Int) (hb : fitH h r = true → (bindsT (U h r)).length ≤ 40000000) : tree_Is h r = some (isTreeS h r) := by
  rw [tree_Is.eq, hBinds_any ho r (fun hf => by have := hb hf; omega), bnd_some]
  unfold isTreeS
  by_cases hf : fitH h r = true
  · obtain ⟨⟨a, b⟩, c⟩ := fitH_iff.1 hf
    have hl := hb hf
    have hs := binds_short c r.toNat r a (by omega) b
    have ht := nodesS_ok _ [] (bindsT (U h r)) (Nat.le_refl _) rfl hs
    have hg := nodes_okH hl hs
    have hfg : fitH (nodesS [] (bindsT (U h r))).1 (nodesS [] (bindsT (U h r))).2 = true := fitH_iff.2 ⟨⟨ht.r0, ht.r1⟩, ht.may⟩
    rw [if_pos hf, eqI_d, decide_eq_true rfl, show notB true = false from rfl, br_f, is_any _ (by omega) (fun p hp => (hs p hp).ok), bnd_some, hf, Bool.true_and]
    cases hi : isS (bindsT (U h r)) with
    | false => rw [show notB false = true from rfl, br_t, Bool.false_and]
    | true => rw [show notB true = false from rfl, br_f, Bool.true_and, Nodes_any _ hl (fun p hp => (hs p hp).ok), bnd_some, hSame_any _ _ ho hg, bnd_some, hf, hfg, Bool.true_and, Bool.true_and, ht.shp]
  · rw [if_neg hf, eqI_d, decide_eq_false (by show ¬ (4 : Int) = 0; omega), show notB false = true from rfl, br_t, Bool.eq_false_iff.2 hf, Bool.false_and]
theorem isTree_make (l : List PairV) (s : Shp) (hs : bindsT s = l) : (isS l && eqSh s (treeT l)) = eqSh s (treeT (makeS l)) := by
  cases hi : isS l with
  | true => rw [Bool.true_and, makeS_srt (isS_srt hi)]
  | false =>
    rw [Bool.false_and]
    refine (eqSh_not ?_).symm
    intro e
    rw [e, bindsT_treeT] at hs
    rw [← hs, srt_isS (makeS_Srt l)] at hi
    cases hi
end Go.Proofs.YtmopkbmcilolgaaGreat.AH
set_option linter.unusedVariables false
set_option linter.unusedSimpArgs false
namespace Go.Proofs.YtmopkbmcilolgaaGreat.AH
open Go.Abs
abbrev StepV : Type := Int × Int × ByteArray × ByteArray × Int × List Int × Int × List PairV × Int × Int × Int × Unit
def stV (r : Int) (n : NodeV) (side : Int) : StepV := (r, (n.1, (n.2.1, (n.2.2.1, (n.2.2.2.1, (n.2.2.2.2.1, (n.2.2.2.2.2.1, (n.2.2.2.2.2.2.1, (n.2.2.2.2.2.2.2.1, (n.2.2.2.2.2.2.2.2.1, (side, ())))))))))))
def StepV.node (s : StepV) : NodeV := (s.2.1, (s.2.2.1, (s.2.2.2.1, (s.2.2.2.2.1, (s.2.2.2.2.2.1, (s.2.2.2.2.2.2.1, (s.2.2.2.2.2.2.2.1, (s.2.2.2.2.2.2.2.2.1, (s.2.2.2.2.2.2.2.2.2.1, ())))))))))
def StepV.side (s : StepV) : Int := s.2.2.2.2.2.2.2.2.2.2.1
theorem stV_node (r : Int) (n : NodeV) (side : Int) : (stV r n side).node = n := rfl
theorem stV_side (r : Int) (n : NodeV) (side : Int) : (stV r n side).side = side := rfl
/-- A node of a tree, its size a number. -/
def treeI (k v : ByteArray) (a b : Int) (z : Int) : NodeV := (4, (k, (v, (0, ([a, b], (0, ([], (z, (0, ())))))))))
theorem treeI_tree (p : PairV) (a b : Int) (n : Nat) : treeI p.1 p.2.1 a b (n : Int) = treeN p a b n := rfl
theorem treeI_ok {k v : ByteArray} (hk : k.size ≤ 40) (hv : v.size ≤ 40) (a b z : Int) : okN (treeI k v a b z) := ⟨hk, hv, by show (0 : Int) ≤ 0; omega, by show (0 : Int) < 4294967296; omega, by show 2 ≤ _; omega, by show 0 ≤ _; omega, fun q hq => (by cases hq)⟩
/-- A node with another child on a side, and another size. -/
def sideN (n : NodeV) (side r z : Int) : NodeV := treeI n.2.1 n.2.2.1 (if side = 0 then r else n.2.2.2.2.1.getD 0 0) (if side = 0 then n.2.2.2.2.1.getD 1 0 else r) z
theorem sideN_ok {n : NodeV} (hk : n.2.1.size ≤ 40) (hv : n.2.2.1.size ≤ 40) (side r z : Int) : okN (sideN n side r z) := treeI_ok hk hv _ _ _
/-! ### What stands on a way, made anew -/
structure okSt (x : StepV) : Prop where
  kids : ∃ a b, x.node.2.2.2.2.1 = [a, b]
  side : x.side = 0 ∨ x.side = 1
  key : x.node.2.1.size ≤ 40
  val : x.node.2.2.1.size ≤ 40
  sz : 0 ≤ x.node.2.2.2.2.2.2.2.1 ∧ x.node.2.2.2.2.2.2.2.1 ≤ 2000000
/-- The plan's new nodes, its old references, and its root, so far. -/
abbrev PlanS : Type := List NodeV × List Int × Int
/-- A node of a tree, where it stands. -/
structure NodeAt (h : List NodeV) (r : Int) (p : PairV) (L R : List PairV) (a b : Int) : Prop where
  r1 : 1 ≤ r
  r2 : r ≤ h.length
  kind : (getN h r).1 = 4
  key : (getN h r).2.1 = p.1
  val : (getN h r).2.2.1 = p.2.1
  kids : (getN h r).2.2.2.2.1 = [a, b]
  size : (getN h r).2.2.2.2.2.2.2.1 = ((L.length + 1 + R.length : Nat) : Int)
  a0 : 0 ≤ a
  a1 : a ≤ r - 1
  b0 : 0 ≤ b
  b1 : b ≤ r - 1
  left : U h a = treeT L
  right : U h b = treeT R
  srt : Srt (L ++ p :: R)
  under : Under (L ++ R) p.1
  txt : ∀ q ∈ L ++ p :: R, okT q
theorem treeT_ne {l : List PairV} (h : l ≠ []) : treeT l ≠ .nil := by rw [treeT_cons h]; intro e; cases e
theorem treeT_nil_iff {h : List NodeV} (hm : mayH h = true) {r : Int} (h0 : 0 ≤ r) (h1 : r ≤ h.length) {l : List PairV} (hu : U h r = treeT l) : r = 0 ↔ l = [] := by
  constructor
  · rintro rfl
    by_cases q : l = []
    · exact q
    · rw [U_zero] at hu; exact absurd hu.symm (treeT_ne q)
  · rintro rfl
    rw [treeT_nil] at hu
    exact (U_nil hm h0 h1).1 hu
theorem node_at {h : List NodeV} (hm : mayH h = true) {r : Int} (h0 : 0 ≤ r) (h1 : r ≤ h.length) {l : List PairV} (hl : l ≠ []) (hS : Srt l) (ht : ∀ p ∈ l, okT p) (hu : U h r = treeT l) : ∃ L p R a b, l = L ++ p :: R ∧ NodeAt h r p L R a b := by
  have hr : r ≠ 0 := fun e => hl ((treeT_nil_iff hm h0 h1 hu).1 e)
  obtain ⟨L, p, R, rfl, hun⟩ := tree_mid hS hl
  rw [treeT_mid hS hun, U_node hm (by omega) h1] at hu
  obtain ⟨e1, e2⟩ := Shp.node.inj hu
  have k1 : (getN h r).1 = 4 := congrArg (·.1) e1
  have k2 : (getN h r).2.1 = p.1 := congrArg (·.2.1) e1
  have k3 : (getN h r).2.2.1 = p.2.1 := congrArg (·.2.2.1) e1
  have k4 : (getN h r).2.2.2.2.2.2.2.1 = ((L.length + 1 + R.length : Nat) : Int) := congrArg (·.2.2.2.2.2.2.2.1) e1
  obtain ⟨g1, g2⟩ := may_node hm (by omega) h1
  obtain ⟨_, f2, _, f4, _⟩ := form_tree (mayS_zero g1).2.2.2 k1
  obtain ⟨a, b, e⟩ : ∃ a b, (getN h r).2.2.2.2.1 = [a, b] := by
    match hk : (getN h r).2.2.2.2.1, f2 with
    | [a, b], _ => exact ⟨a, b, rfl⟩
  have ea : allK (getN h r) = [a, b, 0] := by unfold allK; rw [e, f4]; rfl
  rw [ea] at e2
  have e3 : U h a = treeT L := (List.cons.inj e2).1
  have e4 : U h b = treeT R := (List.cons.inj (List.cons.inj e2).2).1
  have ga := g2 a (by rw [ea]; simp)
  have gb := g2 b (by rw [ea]; simp)
  exact ⟨L, p, R, a, b, rfl, ⟨by omega, h1, k1, k2, k3, e, k4, by omega, by omega, by omega, by omega, e3, e4, hS, hun, ht⟩⟩
/-- A way in a tree, from a reference on; where it ends. -/
inductive WayT (h : List NodeV) (k : ByteArray) : Int → List PairV → List StepV → Int → List PairV → Prop
  | done (r : Int) (l : List PairV) : WayT h k r l [] r l
  | left {r : Int} {p : PairV} {L R : List PairV} {a b : Int} {way : List StepV} {e : Int} {m : List PairV} : NodeAt h r p L R a b → lt k p.1 = true → WayT h k a L way e m → WayT h k r (L ++ p :: R) (stV r (getN h r) 0 :: way) e m
  | right {r : Int} {p : PairV} {L R : List PairV} {a b : Int} {way : List StepV} {e : Int} {m : List PairV} : NodeAt h r p L R a b → lt p.1 k = true → WayT h k b R way e m → WayT h k r (L ++ p :: R) (stV r (getN h r) 1 :: way) e m
theorem mid_len (L R : List PairV) (p : PairV) : (L ++ p :: R).length = L.length + 1 + R.length := by rw [List.length_append, List.length_cons]; omega
theorem NodeAt.okSt {h : List NodeV} {r : Int} {p : PairV} {L R : List PairV} {a b : Int} (N : NodeAt h r p L R a b) (hl : (L ++ p :: R).length ≤ 2000000) {side : Int} (hs : side = 0 ∨ side = 1) : okSt (stV r (getN h r) side) := by
  have hp := N.txt p (by simp)
  have hsz := N.size
  rw [mid_len] at hl
  refine ⟨⟨a, b, N.kids⟩, hs, ?_, ?_, ?_⟩
  · show (getN h r).2.1.size ≤ 40
    rw [N.key]; have := hp.1; omega
  · show (getN h r).2.2.1.size ≤ 40
    rw [N.val]; have := hp.2; omega
  · show 0 ≤ (getN h r).2.2.2.2.2.2.2.1 ∧ (getN h r).2.2.2.2.2.2.2.1 ≤ 2000000
    rw [hsz]; omega
theorem WayT.ok {h : List NodeV} {k : ByteArray} {r : Int} {l : List PairV} {way : List StepV} {e : Int} {m : List PairV} (w : WayT h k r l way e m) : l.length ≤ 2000000 → (∀ x ∈ way, okSt x) ∧ (∀ x ∈ way, 1 ≤ x.1 ∧ x.1 ≤ h.length) ∧ way.length + m.length ≤ l.length ∧ (∀ q ∈ m, q ∈ l) := by
  induction w with
  | done r l => exact fun hl => ⟨fun x hx => (by cases hx), fun x hx => (by cases hx), by simp, fun q hq => hq⟩
  | left N hlt _ ih =>
    intro hl
    have hml := mid_len
    obtain ⟨i1, i2, i3, i4⟩ := ih (by rw [mid_len] at hl; omega)
    refine ⟨fun x hx => ?_, fun x hx => ?_, by rw [mid_len, List.length_cons]; omega, fun q hq => List.mem_append_left _ (i4 q hq)⟩
    · rcases List.mem_cons.1 hx with rfl | hx
      · exact N.okSt hl (.inl rfl)
      · exact i1 x hx
    · rcases List.mem_cons.1 hx with rfl | hx
      · exact ⟨N.r1, N.r2⟩
      · exact i2 x hx
  | right N hlt _ ih =>
    intro hl
    obtain ⟨i1, i2, i3, i4⟩ := ih (by rw [mid_len] at hl; omega)
    refine ⟨fun x hx => ?_, fun x hx => ?_, by rw [mid_len, List.length_cons]; omega, fun q hq => List.mem_append_right _ (List.mem_cons_of_mem _ (i4 q hq))⟩
    · rcases List.mem_cons.1 hx with rfl | hx
      · exact N.okSt hl (.inr rfl)
      · exact i1 x hx
    · rcases List.mem_cons.1 hx with rfl | hx
      · exact ⟨N.r1, N.r2⟩
      · exact i2 x hx
/-- Bindings with a key are at the end of its way. -/
theorem WayT.find {h : List NodeV} {k : ByteArray} {r : Int} {l : List PairV} {way : List StepV} {e : Int} {m : List PairV} (w : WayT h k r l way e m) : l.find? (fun q => decide (q.1 = k)) = m.find? (fun q => decide (q.1 = k)) := by
  induction w with
  | done r l => rfl
  | @left r p L R a b way e m N hlt _ ih =>
    obtain ⟨s1, s2, s3, s4, s5⟩ := srt_three N.srt
    rw [List.find?_append, ih]
    have : (p :: R).find? (fun q => decide (q.1 = k)) = none := List.find?_eq_none.2 fun q hq => by
      have : lt k q.1 = true := by
        rcases List.mem_cons.1 hq with rfl | hq
        · exact hlt
        · exact lt_trans hlt (s4 q hq)
      simpa using (ne_of_lt this).symm
    rw [this, Option.or_none]
  | @right r p L R a b way e m N hlt _ ih =>
    obtain ⟨s1, s2, s3, s4, s5⟩ := srt_three N.srt
    have h1 : L.find? (fun q => decide (q.1 = k)) = none := List.find?_eq_none.2 fun q hq => by simpa using ne_of_lt (lt_trans (s3 q hq) hlt)
    rw [List.find?_append, h1, Option.none_or, List.find?_cons, decide_eq_false (ne_of_lt hlt), ih]
theorem WayT.split {h : List NodeV} {k : ByteArray} : ∀ (w1 : List StepV) {w2 : List StepV} {r : Int} {l : List PairV} {e : Int} {m : List PairV}, WayT h k r l (w1 ++ w2) e m → ∃ r1 l1, WayT h k r l w1 r1 l1 ∧ WayT h k r1 l1 w2 e m
  | [], _, r, l, _, _, w => ⟨r, l, .done r l, w⟩
  | x :: w1, w2, r, l, e, m, w => by
    cases w with
    | left N hlt w =>
      obtain ⟨r1, l1, a1, a2⟩ := WayT.split w1 w
      exact ⟨r1, l1, .left N hlt a1, a2⟩
    | right N hlt w =>
      obtain ⟨r1, l1, a1, a2⟩ := WayT.split w1 w
      exact ⟨r1, l1, .right N hlt a1, a2⟩
/-- Nothing on the way to a binding is below it. -/
theorem WayT.above {h : List NodeV} {k : ByteArray} {r : Int} {l : List PairV} {way : List StepV} {e : Int} {m : List PairV} (w : WayT h k r l way e m) (hl : l.length ≤ 2000000) (hb : ∃ q ∈ m, q.1 = k) : ∀ x ∈ way, Go.Abs.above k x.node.2.1 = false := by
  induction w with
  | done r l => exact fun x hx => (by cases hx)
  | left N hlt w ih =>
    rw [mid_len] at hl
    obtain ⟨_, _, _, i4⟩ := w.ok (by omega)
    obtain ⟨q, hq, e⟩ := hb
    intro x hx
    rcases List.mem_cons.1 hx with rfl | hx
    · rw [stV_node, N.key, ← e]
      exact N.under q (List.mem_append_left _ (i4 q hq))
    · exact ih (by omega) ⟨q, hq, e⟩ x hx
  | right N hlt w ih =>
    rw [mid_len] at hl
    obtain ⟨_, _, _, i4⟩ := w.ok (by omega)
    obtain ⟨q, hq, e⟩ := hb
    intro x hx
    rcases List.mem_cons.1 hx with rfl | hx
    · rw [stV_node, N.key, ← e]
      exact N.under q (List.mem_append_right _ (i4 q hq))
    · exact ih (by omega) ⟨q, hq, e⟩ x hx
theorem WayT.refs {h : List NodeV} {k : ByteArray} {r : Int} {l : List PairV} {way : List StepV} {e : Int} {m : List PairV} (w : WayT h k r l way e m) : 0 ≤ r → (way.length : Int) ≤ r := by
  induction w with
  | done r l => exact fun h => h
  | left N hlt w ih =>
    intro h0
    have := ih N.a0
    have := N.a1
    rw [List.length_cons]; omega
  | right N hlt w ih =>
    intro h0
    have := ih N.b0
    have := N.b1
    rw [List.length_cons]; omega
theorem find_mid {L R : List PairV} {p : PairV} (hS : Srt (L ++ p :: R)) : (L ++ p :: R).find? (fun q => decide (q.1 = p.1)) = some p := by
  obtain ⟨s1, s2, s3, s4, _⟩ := srt_three hS
  rw [List.find?_append, List.find?_eq_none.2 (fun q hq => by simpa using ne_of_lt (s3 q hq)), Option.none_or, List.find?_cons, decide_eq_true rfl]
theorem isTree_iff2 {h : List NodeV} {r : Int} : isTreeS h r = true ↔ fitH h r = true ∧ isS (bindsT (U h r)) = true ∧ U h r = treeT (bindsT (U h r)) := by
  unfold isTreeS
  rw [Bool.and_eq_true, Bool.and_eq_true, eqSh_iff]
theorem tree_plan {h news : List NodeV} {s : Int} {l : List PairV} (ho : okH h) (P : PlanOK h news) (H : Has h news s (treeT l)) (hn : h.length + news.length ≤ 40000000) (hS : Srt l) : okH (PS h news) ∧ fitH (PS h news) (fillQ h.length s) = true ∧ bindsT (U (PS h news) (fillQ h.length s)) = l ∧ isTreeS (PS h news) (fillQ h.length s) = true := by
  have hf := fill_in H.lo H.hi
  have hfit : fitH (PS h news) (fillQ h.length s) = true := fitH_iff.2 ⟨hf, P.may⟩
  have hbt : bindsT (U (PS h news) (fillQ h.length s)) = l := by rw [H.shp, bindsT_treeT]
  refine ⟨P.okH ho hn, hfit, hbt, isTree_iff2.2 ⟨hfit, ?_, ?_⟩⟩
  · rw [hbt]; exact srt_isS hS
  · rw [hbt]; exact H.shp
end Go.Proofs.YtmopkbmcilolgaaGreat.AH
set_option linter.unusedVariables false
set_option linter.unusedSimpArgs false
namespace Go.Proofs.YtmopkbmcilolgaaGreat.AH
open Go.Abs
theorem refs_may {h : List NodeV} (hm : mayH h = true) {j : Int} (h1 : 1 ≤ j) (h2 : j ≤ h.length) {i : Int} (hi : i ∈ refsS (getN h j)) : 1 ≤ i ∧ i ≤ j - 1 := by
  rw [refsS_all] at hi
  obtain ⟨ha, hb⟩ := List.mem_filter.1 hi
  have := (may_node hm h1 h2).2 i ha
  simp at hb
  omega
/-- Is a node below a reference, or the reference's own? -/
inductive Bel (h : List NodeV) (r : Int) : Int → Prop
  | self : Bel h r r
  | step {j i : Int} : Bel h r j → i ∈ refsS (getN h j) → Bel h r i
theorem Bel.in_ {h : List NodeV} (hm : mayH h = true) {r i : Int} (h1 : 1 ≤ r) (h2 : r ≤ h.length) (b : Bel h r i) : 1 ≤ i ∧ i ≤ r := by
  induction b with
  | self => omega
  | step _ hi ih =>
    have := refs_may hm (by omega) (by omega) hi
    omega
theorem Bel.head {h : List NodeV} {r c i : Int} (hc : c ∈ refsS (getN h r)) (b : Bel h c i) : Bel h r i := by
  induction b with
  | self => exact .step .self hc
  | step _ hi ih => exact .step ih hi
theorem Bel.split {h : List NodeV} {r i : Int} : Bel h r i ↔ i = r ∨ ∃ c ∈ refsS (getN h r), Bel h c i := by
  constructor
  · intro b
    induction b with
    | self => exact .inl rfl
    | step hb0 hi ih =>
      rcases ih with rfl | ⟨c, hc, hb⟩
      · exact .inr ⟨_, hi, .self⟩
      · exact .inr ⟨c, hc, .step hb hi⟩
  · rintro (rfl | ⟨c, hc, hb⟩)
    · exact .self
    · exact Bel.head hc hb
theorem Bel.last {h : List NodeV} {r i : Int} : Bel h r i ↔ i = r ∨ ∃ j, Bel h r j ∧ i ∈ refsS (getN h j) := by
  constructor
  · intro b
    cases b with
    | self => exact .inl rfl
    | step hb hi => exact .inr ⟨_, hb, hi⟩
  · rintro (rfl | ⟨j, hb, hi⟩)
    · exact .self
    · exact .step hb hi
open Classical in
noncomputable def belB (h : List NodeV) (r i : Int) : Bool := if 1 ≤ r ∧ Bel h r i then true else false
theorem belB_iff {h : List NodeV} {r i : Int} : belB h r i = true ↔ 1 ≤ r ∧ Bel h r i := by
  unfold belB
  split <;> simp_all
/-- From so many on down. -/
def desc (p : Int → Bool) : Nat → List Int
  | 0 => []
  | n + 1 => if p ((n + 1 : Nat) : Int) = true then ((n + 1 : Nat) : Int) :: desc p n else desc p n
theorem desc_len (p : Int → Bool) : ∀ n, (desc p n).length ≤ n
  | 0 => Nat.le_refl _
  | n + 1 => by
    have := desc_len p n
    unfold desc
    split
    · rw [List.length_cons]; omega
    · omega
theorem desc_more {p : Int → Bool} {r : Nat} (hp : ∀ i : Nat, r < i → p i = false) : ∀ d, desc p (r + d) = desc p r
  | 0 => rfl
  | d + 1 => by
    show (if p ((r + d + 1 : Nat) : Int) = true then _ else _) = _
    rw [hp (r + d + 1) (by omega), if_neg (by simp)]
    exact desc_more hp d
noncomputable def belS (h : List NodeV) (r : Int) : List Int := desc (belB h r) h.length
theorem belS_r {h : List NodeV} (hm : mayH h = true) {r : Int} (h0 : 0 ≤ r) (h2 : r ≤ h.length) : belS h r = desc (belB h r) r.toNat := by
  unfold belS
  have e : h.length = r.toNat + (h.length - r.toNat) := by omega
  rw [e]
  refine desc_more (fun i hi => ?_) _
  cases hb : belB h r i with
  | false => rfl
  | true =>
    obtain ⟨h1, b⟩ := belB_iff.1 hb
    have := Bel.in_ hm h1 h2 b
    omega
/-! ### Marks -/
def setAll (l : List Bool) : List Int → List Bool
  | [] => l
  | t :: ts => setAll (l.set t.toNat true) ts
theorem setAll_len : ∀ (ts : List Int) (l : List Bool), (setAll l ts).length = l.length
  | [], _ => rfl
  | t :: ts, l => by
    show (setAll (l.set t.toNat true) ts).length = _
    rw [setAll_len ts, List.length_set]
theorem getD_set (l : List Bool) (i j : Nat) (hi : i < l.length) : (l.set i true).getD j false = (decide (i = j) || l.getD j false) := by
  rw [List.getD_eq_getElem?_getD, List.getD_eq_getElem?_getD, List.getElem?_set]
  by_cases e : i = j
  · subst e
    simp [hi]
  · rw [if_neg e, decide_eq_false e, Bool.false_or]
theorem setAll_get : ∀ (ts : List Int) (l : List Bool) (j : Nat), (∀ t ∈ ts, 0 ≤ t ∧ t < l.length) → ((setAll l ts).getD j false = true ↔ l.getD j false = true ∨ (j : Int) ∈ ts)
  | [], l, j, _ => by simp [setAll]
  | t :: ts, l, j, h => by
    show (setAll (l.set t.toNat true) ts).getD j false = true ↔ _
    have ht := h t (by simp)
    rw [setAll_get ts _ j (fun u hu => by rw [List.length_set]; exact h u (List.mem_cons_of_mem _ hu)), getD_set l _ _ (by omega)]
    simp only [Bool.or_eq_true, decide_eq_true_eq, List.mem_cons]
    constructor
    · rintro ((h1 | h1) | h1)
      · right; left; omega
      · exact .inl h1
      · exact .inr (.inr h1)
    · rintro (h1 | h1 | h1)
      · exact .inl (.inr h1)
      · left; left; omega
      · exact .inr h1
theorem ixB (l : List Bool) (i : Nat) : ixL .bool l (i : Int) = l.getD i false := by
  unfold ixL
  rw [Int.toNat_natCast]
  rfl
theorem setB (l : List Bool) (t : Int) : setL .bool l t true = l.set t.toNat true := rfl
/-! ### The references below one, as they come -/
end Go.Proofs.YtmopkbmcilolgaaGreat.AH
set_option linter.unusedVariables false
set_option linter.unusedSimpArgs false
namespace Go.Proofs.YtmopkbmcilolgaaGreat.AH
open Go.Abs
/-- A node's key. -/
def ky (h : List NodeV) (i : Int) : ByteArray := (getN h i).2.1
def Bl (h : List NodeV) (r i : Int) : Prop := 1 ≤ r ∧ Bel h r i
theorem Bl.in_ {h : List NodeV} (hm : mayH h = true) {r i : Int} (h2 : r ≤ h.length) (b : Bl h r i) : 1 ≤ i ∧ i ≤ r := Bel.in_ hm b.1 h2 b.2
theorem NodeAt.refs {h : List NodeV} (hm : mayH h = true) {r : Int} {p : PairV} {L R : List PairV} {a b : Int} (N : NodeAt h r p L R a b) {c : Int} : c ∈ refsS (getN h r) ↔ (c = a ∨ c = b) ∧ c ≠ 0 := by
  obtain ⟨g1, _⟩ := may_node hm N.r1 N.r2
  obtain ⟨_, _, _, f4, _⟩ := form_tree (mayS_zero g1).2.2.2 N.kind
  have ea : allK (getN h r) = [a, b, 0] := by unfold allK; rw [N.kids, f4]; rfl
  rw [refsS_all, ea, List.mem_filter]
  simp only [List.mem_cons, List.not_mem_nil, or_false, decide_eq_true_eq]
  constructor
  · rintro ⟨h1 | h1 | h1, h2⟩
    · exact ⟨.inl h1, h2⟩
    · exact ⟨.inr h1, h2⟩
    · exact absurd h1 h2
  · rintro ⟨h1 | h1, h2⟩
    · exact ⟨.inl h1, h2⟩
    · exact ⟨.inr (.inl h1), h2⟩
theorem NodeAt.bel {h : List NodeV} (hm : mayH h = true) {r : Int} {p : PairV} {L R : List PairV} {a b : Int} (N : NodeAt h r p L R a b) {i : Int} : Bl h r i ↔ i = r ∨ Bl h a i ∨ Bl h b i := by
  have a0 := N.a0
  have b0 := N.b0
  unfold Bl
  rw [Bel.split]
  constructor
  · rintro ⟨_, h1 | ⟨c, hc, h1⟩⟩
    · exact .inl h1
    · obtain ⟨h2 | h2, h3⟩ := (N.refs hm).1 hc
      · subst h2; exact .inr (.inl ⟨by omega, h1⟩)
      · subst h2; exact .inr (.inr ⟨by omega, h1⟩)
  · rintro (h1 | ⟨h2, h1⟩ | ⟨h2, h1⟩)
    · exact ⟨N.r1, .inl h1⟩
    · exact ⟨N.r1, .inr ⟨a, (N.refs hm).2 ⟨.inl rfl, by omega⟩, h1⟩⟩
    · exact ⟨N.r1, .inr ⟨b, (N.refs hm).2 ⟨.inr rfl, by omega⟩, h1⟩⟩
/-- The keys of what is below a tree's root. -/
theorem tree_keys {h : List NodeV} (hm : mayH h = true) : ∀ (n : Nat) (r : Int) (l : List PairV), r.toNat ≤ n → 0 ≤ r → r ≤ h.length → Srt l → (∀ p ∈ l, okT p) → U h r = treeT l →
    (∀ i, Bl h r i → ∃ q ∈ l, ky h i = q.1) ∧ (∀ i j, Bl h r i → Bl h r j → ky h i = ky h j → i = j) ∧ (∀ q ∈ l, ∃ i, Bl h r i ∧ ky h i = q.1) := by
  intro n
  induction n with
  | zero =>
    intro r l hd h0 h1 hS ht hu
    have : r = 0 := by omega
    subst this
    rw [(treeT_nil_iff hm h0 h1 hu).1 rfl]
    exact ⟨fun i hi => absurd hi.1 (by omega), fun i j hi => absurd hi.1 (by omega), fun q hq => by cases hq⟩
  | succ n ih =>
    intro r l hd h0 h1 hS ht hu
    by_cases hl : l = []
    · subst hl
      have := (treeT_nil_iff hm h0 h1 hu).2 rfl
      subst this
      exact ⟨fun i hi => absurd hi.1 (by omega), fun i j hi => absurd hi.1 (by omega), fun q hq => by cases hq⟩
    obtain ⟨L, p, R, a, b, rfl, N⟩ := node_at hm h0 h1 hl hS ht hu
    obtain ⟨s1, s2, s3, s4, s5⟩ := srt_three N.srt
    have a0 := N.a0
    have a1 := N.a1
    have b0 := N.b0
    have b1 := N.b1
    have r2 := N.r2
    obtain ⟨A1, A2, A3⟩ := ih a L (by omega) a0 (by omega) s1 (fun q hq => ht q (List.mem_append_left _ hq)) N.left
    obtain ⟨B1, B2, B3⟩ := ih b R (by omega) b0 (by omega) s2 (fun q hq => ht q (List.mem_append_right _ (List.mem_cons_of_mem _ hq))) N.right
    have kr : ky h r = p.1 := N.key
    have rl : ∀ j, Bl h a j → ky h r ≠ ky h j := fun j hj e => by
      obtain ⟨q, hq, e2⟩ := A1 j hj
      exact ne_of_lt (s3 q hq) (e2.symm.trans (e.symm.trans kr))
    have rr : ∀ j, Bl h b j → ky h r ≠ ky h j := fun j hj e => by
      obtain ⟨q, hq, e2⟩ := B1 j hj
      exact ne_of_lt (s4 q hq) (kr.symm.trans (e.trans e2))
    have lr : ∀ i j, Bl h a i → Bl h b j → ky h i ≠ ky h j := fun i j hi hj e => by
      obtain ⟨q, hq, e1⟩ := A1 i hi
      obtain ⟨z, hz, e2⟩ := B1 j hj
      exact ne_of_lt (s5 q hq z hz) (e1.symm.trans (e.trans e2))
    refine ⟨fun i hi => ?_, fun i j hi hj e => ?_, fun q hq => ?_⟩
    · rcases (N.bel hm).1 hi with hi | hi | hi
      · exact ⟨p, by simp, by rw [hi]; exact kr⟩
      · obtain ⟨q, hq, e⟩ := A1 i hi
        exact ⟨q, List.mem_append_left _ hq, e⟩
      · obtain ⟨q, hq, e⟩ := B1 i hi
        exact ⟨q, List.mem_append_right _ (List.mem_cons_of_mem _ hq), e⟩
    · rcases (N.bel hm).1 hi with hi | hi | hi
      · rcases (N.bel hm).1 hj with hj | hj | hj
        · rw [hi, hj]
        · exact absurd (hi ▸ e) (rl j hj)
        · exact absurd (hi ▸ e) (rr j hj)
      · rcases (N.bel hm).1 hj with hj | hj | hj
        · exact absurd (hj ▸ e.symm) (rl i hi)
        · exact A2 i j hi hj e
        · exact absurd e (lr i j hi hj)
      · rcases (N.bel hm).1 hj with hj | hj | hj
        · exact absurd (hj ▸ e.symm) (rr i hi)
        · exact absurd e.symm (lr j i hj hi)
        · exact B2 i j hi hj e
    · rcases List.mem_append.1 hq with hq | hq
      · obtain ⟨i, hi, e⟩ := A3 q hq
        exact ⟨i, (N.bel hm).2 (.inr (.inl hi)), e⟩
      · rcases List.mem_cons.1 hq with rfl | hq
        · exact ⟨r, (N.bel hm).2 (.inl rfl), kr⟩
        · obtain ⟨i, hi, e⟩ := B3 q hq
          exact ⟨i, (N.bel hm).2 (.inr (.inr hi)), e⟩
/-! ### A plan, so far: its new nodes, its old references, and what is not below another new node -/
structure Part (h : List NodeV) (r0 : Int) (E : Int → Prop) (C : ByteArray → Prop) (news : List NodeV) (old roots : List Int) : Prop where
  refs : ∀ n ∈ news, ∀ c ∈ allK n, 0 < c → Bl h r0 c
  root : ∀ s ∈ roots, 0 < s → Bl h r0 s
  link : ∀ i : Nat, i < news.length → -(i : Int) - 1 ∈ roots ∨ ∃ (j : Nat) (x : NodeV), i < j ∧ news[j]? = some x ∧ -(i : Int) - 1 ∈ allK x
  gone : ∀ x ∈ old, E x ∨ ∃ n ∈ news, n.2.1 = ky h x
  came : ∀ n ∈ news, (∃ x ∈ old, n.2.1 = ky h x) ∨ C n.2.1
theorem Part.nil {h : List NodeV} {r0 : Int} {E : Int → Prop} {C : ByteArray → Prop} {old roots : List Int} (hr : ∀ s ∈ roots, 0 < s → Bl h r0 s) (ho : ∀ x ∈ old, E x) : Part h r0 E C [] old roots :=
  ⟨fun n hn => (by cases hn), hr, fun i hi => (by cases hi), fun x hx => .inl (ho x hx), fun n hn => (by cases hn)⟩
theorem Part.more {h : List NodeV} {r0 : Int} {E : Int → Prop} {C : ByteArray → Prop} {news : List NodeV} {old roots : List Int} (Q : Part h r0 E C news old roots) {n : NodeV} {old' roots' : List Int} (hrefs : ∀ c ∈ allK n, 0 < c → Bl h r0 c) (hroots : ∀ s ∈ roots, s ∈ roots' ∨ s ∈ allK n) (hnew : -(news.length : Int) - 1 ∈ roots') (hr : ∀ s ∈ roots', 0 < s → Bl h r0 s) (hold : ∀ x ∈ old', n.2.1 = ky h x) (hc : (∃ x ∈ old', n.2.1 = ky h x) ∨ C n.2.1) : Part h r0 E C (news ++ [n]) (old ++ old') roots' := by
  refine ⟨fun m hm => ?_, hr, fun i hi => ?_, fun x hx => ?_, fun m hm => ?_⟩
  · rcases List.mem_append.1 hm with hm | hm
    · exact Q.refs m hm
    · rw [List.mem_singleton.1 hm]; exact hrefs
  · rw [List.length_append] at hi
    simp only [List.length_cons, List.length_nil] at hi
    by_cases q : i < news.length
    · rcases Q.link i q with h1 | ⟨j, x, h1, h2, h3⟩
      · rcases hroots _ h1 with h2 | h2
        · exact .inl h2
        · exact .inr ⟨news.length, n, q, by rw [List.getElem?_append_right (Nat.le_refl _), Nat.sub_self]; rfl, h2⟩
      · have hj : j < news.length := (List.getElem?_eq_some_iff.1 h2).1
        exact .inr ⟨j, x, h1, by rw [List.getElem?_append_left hj]; exact h2, h3⟩
    · have : i = news.length := by omega
      subst this
      exact .inl hnew
  · rcases List.mem_append.1 hx with hx | hx
    · rcases Q.gone x hx with h1 | ⟨m, hm, e⟩
      · exact .inl h1
      · exact .inr ⟨m, List.mem_append_left _ hm, e⟩
    · exact .inr ⟨n, by simp, hold x hx⟩
  · rcases List.mem_append.1 hm with hm | hm
    · rcases Q.came m hm with ⟨x, hx, e⟩ | h1
      · exact .inl ⟨x, List.mem_append_left _ hx, e⟩
      · exact .inr h1
    · rw [List.mem_singleton.1 hm]
      rcases hc with ⟨x, hx, e⟩ | h1
      · exact .inl ⟨x, List.mem_append_right _ hx, e⟩
      · exact .inr h1
/-! ### A plan done -/
theorem getN_PS {h news : List NodeV} {i : Nat} {x : NodeV} (hx : news[i]? = some x) : getN (PS h news) ((h.length : Int) + 1 + i) = fillNd h.length x := by
  have hi := (List.getElem?_eq_some_iff.1 hx).1
  have e : ((h.length : Int) + 1 + i - 1).toNat = h.length + i := by omega
  unfold getN PS
  rw [e, List.getD_eq_getElem?_getD, List.getElem?_append_right (by omega), Nat.add_sub_cancel_left, List.getElem?_map, hx]
  rfl
theorem refs_PS {n : Nat} {x : NodeV} {c : Int} : c ∈ refsS (fillNd n x) ↔ ∃ d ∈ allK x, fillQ n d = c ∧ c ≠ 0 := by
  rw [refsS_all, allK_fill, List.mem_filter, List.mem_map]
  simp only [decide_eq_true_eq]
  constructor
  · rintro ⟨⟨d, h1, h2⟩, h3⟩
    exact ⟨d, h1, h2, h3⟩
  · rintro ⟨d, h1, h2, h3⟩
    exact ⟨⟨d, h1, h2⟩, h3⟩
section
variable {h news : List NodeV} {r0 : Int} {E : Int → Prop} {C : ByteArray → Prop} {old : List Int} {s : Int}
theorem Part.new (Q : Part h r0 E C news old [s]) : ∀ (d i : Nat), news.length - i ≤ d → i < news.length → Bl (PS h news) (fillQ h.length s) ((h.length : Int) + 1 + i)
  | 0, i, hd, hi => absurd hi (by omega)
  | d + 1, i, hd, hi => by
    rcases Q.link i hi with h1 | ⟨j, x, h1, h2, h3⟩
    · have e := List.mem_singleton.1 h1
      rw [← e, fillQ_neg _ (by omega)]
      exact ⟨by omega, by rw [show (h.length : Int) - (-(i : Int) - 1) = (h.length : Int) + 1 + i by omega]; exact .self⟩
    · have hj := (List.getElem?_eq_some_iff.1 h2).1
      have ih := Part.new Q d j (by omega) hj
      refine ⟨ih.1, .step ih.2 ?_⟩
      rw [getN_PS h2]
      exact refs_PS.2 ⟨_, h3, by rw [fillQ_neg _ (by omega)]; omega, by omega⟩
theorem Part.old_ (Q : Part h r0 E C news old [s]) (hm : mayH h = true) (hr0 : r0 ≤ h.length) (P : PlanOK h news) (ht : fillQ h.length s ≤ (PS h news).length) {j : Int} (b : Bl (PS h news) (fillQ h.length s) j) : (h.length : Int) < j ∨ Bl h r0 j := by
  obtain ⟨h1, b⟩ := b
  induction b with
  | self =>
    by_cases q : s < 0
    · rw [fillQ_neg _ q]; exact .inl (by omega)
    · rw [fillQ_pos _ (by omega)] at h1 ⊢
      exact .inr (Q.root s (List.mem_singleton.2 rfl) (by omega))
  | @step j c b hi ih =>
    have hin := Bel.in_ P.may h1 ht b
    rw [PS_len] at ht
    rcases ih with hn | hb
    · obtain ⟨i, rfl⟩ : ∃ i : Nat, j = (h.length : Int) + 1 + i := ⟨(j - h.length - 1).toNat, by omega⟩
      have hil : i < news.length := by omega
      rw [getN_PS (List.getElem?_eq_getElem hil)] at hi
      obtain ⟨d, hd, e, hne⟩ := refs_PS.1 hi
      by_cases q : 0 < d
      · rw [fillQ_pos _ (by omega)] at e
        exact .inr (e ▸ Q.refs _ (List.getElem_mem hil) d hd q)
      · have : d ≠ 0 := fun z => hne (by rw [← e, z, fillQ_0])
        rw [fillQ_neg _ (by omega)] at e
        exact .inl (by omega)
    · have hj := Bl.in_ hm hr0 hb
      have e : getN (PS h news) j = getN h j := getN_app _ _ j hj.1 (by omega)
      rw [e] at hi
      exact .inr ⟨hb.1, .step hb.2 hi⟩
/-- The old references are those to nodes that are below the root no more. -/
theorem Part.iff (Q : Part h r0 E C news old [s]) (hm : mayH h = true) {l l' : List PairV} (h0 : 0 ≤ r0) (hr0 : r0 ≤ h.length) (P : PlanOK h news) (H : Has h news s (treeT l')) (hS : Srt l) (hT : ∀ p ∈ l, okT p) (hu : U h r0 = treeT l) (hS' : Srt l') (hT' : ∀ p ∈ l', okT p)
    (hbel : ∀ x ∈ old, Bl h r0 x) (hE : ∀ x, E x → ∀ q ∈ l', q.1 ≠ ky h x) (hC : ∀ k, C k → ∀ q ∈ l, q.1 ≠ k) (hstay : ∀ q ∈ l, (∃ z ∈ l', z.1 = q.1) ∨ ∃ x ∈ old, ky h x = q.1) (x : Int) : x ∈ old ↔ Bl h r0 x ∧ ¬ Bl (PS h news) (fillQ h.length s) x := by
  have hf := fill_in H.lo H.hi
  obtain ⟨A1, A2, A3⟩ := tree_keys hm r0.toNat r0 l (Nat.le_refl _) h0 hr0 hS hT hu
  obtain ⟨K1, K2, K3⟩ := tree_keys P.may (fillQ h.length s).toNat (fillQ h.length s) l' (Nat.le_refl _) hf.1 hf.2 hS' hT' H.shp
  have ko : ∀ i : Int, 1 ≤ i → i ≤ h.length → ky (PS h news) i = ky h i := fun i i1 i2 => by
    unfold ky
    rw [show getN (PS h news) i = getN h i from getN_app _ _ i i1 i2]
  have kn : ∀ (i : Nat) (hi : i < news.length), ky (PS h news) ((h.length : Int) + 1 + i) = news[i].2.1 := fun i hi => by
    unfold ky
    rw [getN_PS (List.getElem?_eq_getElem hi)]
    rfl
  constructor
  · intro hx
    have hb := hbel x hx
    have hin := Bl.in_ hm hr0 hb
    refine ⟨hb, fun hk => ?_⟩
    rcases Q.gone x hx with h1 | ⟨n, hn, e⟩
    · obtain ⟨q, hq, e⟩ := K1 x hk
      rw [ko x hin.1 (by omega)] at e
      exact hE x h1 q hq e.symm
    · obtain ⟨i, hi, rfl⟩ := List.getElem_of_mem hn
      have := K2 x _ hk (Q.new _ i (Nat.le_refl _) hi) (by rw [ko x hin.1 (by omega), kn i hi, e])
      omega
  · rintro ⟨hb, hk⟩
    have hin := Bl.in_ hm hr0 hb
    obtain ⟨q, hq, e⟩ := A1 x hb
    rcases hstay q hq with ⟨z, hz, e2⟩ | ⟨y, hy, e2⟩
    · obtain ⟨j, hj, e3⟩ := K3 z hz
      have hjin := Bl.in_ P.may hf.2 hj
      rw [PS_len] at hf
      by_cases q' : (h.length : Int) < j
      · obtain ⟨i, rfl⟩ : ∃ i : Nat, j = (h.length : Int) + 1 + i := ⟨(j - h.length - 1).toNat, by omega⟩
        have hil : i < news.length := by omega
        rw [kn i hil] at e3
        rcases Q.came _ (List.getElem_mem hil) with ⟨y, hy, e4⟩ | h5
        · have : y = x := A2 y x (hbel y hy) hb (by rw [← e4, e3, e2, e])
          exact this ▸ hy
        · exact absurd (e2.symm.trans e3.symm) (hC _ h5 q hq)
      · have hb2 := (Q.old_ hm hr0 P (by rw [PS_len]; omega) hj).resolve_left q'
        have hj2 := Bl.in_ hm hr0 hb2
        rw [ko j hj2.1 (by omega)] at e3
        have : j = x := A2 j x hb2 hb (by rw [e3, e2, e])
        exact absurd (this ▸ hj) hk
    · have : y = x := A2 y x (hbel y hy) hb (by rw [e2, e])
      exact this ▸ hy
end
/-! ### Lists of references -/
theorem desc_mem {p : Int → Bool} : ∀ {n : Nat} {x : Int}, x ∈ desc p n ↔ 1 ≤ x ∧ x ≤ n ∧ p x = true
  | 0, x => by
    constructor
    · intro h; cases h
    · rintro ⟨h1, h2, _⟩; omega
  | n + 1, x => by
    unfold desc
    by_cases hp : p ((n + 1 : Nat) : Int) = true
    · rw [if_pos hp, List.mem_cons, desc_mem]
      constructor
      · rintro (rfl | ⟨h1, h2, h3⟩)
        · exact ⟨by omega, Int.le_refl _, hp⟩
        · exact ⟨h1, by omega, h3⟩
      · rintro ⟨h1, h2, h3⟩
        by_cases q : x = ((n + 1 : Nat) : Int)
        · exact .inl q
        · exact .inr ⟨h1, by omega, h3⟩
    · rw [if_neg hp, desc_mem]
      constructor
      · rintro ⟨h1, h2, h3⟩
        exact ⟨h1, by omega, h3⟩
      · rintro ⟨h1, h2, h3⟩
        by_cases q : x = ((n + 1 : Nat) : Int)
        · exact absurd (q ▸ h3) hp
        · exact ⟨h1, by omega, h3⟩
theorem desc_nodup (p : Int → Bool) : ∀ n : Nat, (desc p n).Nodup
  | 0 => List.nodup_nil
  | n + 1 => by
    unfold desc
    split
    · refine List.nodup_cons.2 ⟨fun h => ?_, desc_nodup p n⟩
      have := (desc_mem.1 h).2.1
      omega
    · exact desc_nodup p n
theorem belS_mem {h : List NodeV} (hm : mayH h = true) {r : Int} (h2 : r ≤ h.length) {x : Int} : x ∈ belS h r ↔ Bl h r x := by
  unfold belS
  rw [desc_mem, belB_iff]
  constructor
  · exact fun h => h.2.2
  · intro h
    have := Bl.in_ hm h2 h
    exact ⟨this.1, by omega, h⟩
theorem desc_fresh {p : Int → Bool} {n : Nat} : ∀ m : Nat, (∀ i : Nat, i < m → p ((n : Int) + 1 + i) = true) → ((desc p (n + m)).filter fun x => decide ((n : Int) < x)).length = m
  | 0, _ => by
    have : (desc p (n + 0)).filter (fun x => decide ((n : Int) < x)) = [] := List.filter_eq_nil_iff.2 fun x hx => by
      have := (desc_mem.1 hx).2.1
      simp
      omega
    rw [this]
    rfl
  | m + 1, hp => by
    have ih := desc_fresh m fun i hi => hp i (by omega)
    have e : desc p (n + (m + 1)) = ((n + m + 1 : Nat) : Int) :: desc p (n + m) := by
      show (if p ((n + m + 1 : Nat) : Int) = true then _ else _) = _
      rw [if_pos (by rw [show ((n + m + 1 : Nat) : Int) = (n : Int) + 1 + m by omega]; exact hp m (by omega))]
      rfl
    rw [e, List.filter_cons_of_pos (by simp; omega), List.length_cons, ih]
def goneS (a b : List Int) : List Int := a.filter fun x => decide (x ∉ b)
theorem count_one {b : List Int} (hb : b.Nodup) {x : Int} (hx : x ∈ b) : b.count x = 1 := by
  have h1 := List.count_pos_iff.2 hx
  have h2 := List.nodup_iff_count.1 hb x
  omega
theorem same_sets {a b : List Int} (ha : a.Nodup) (hb : b.Nodup) (h : ∀ x, x ∈ a ↔ x ∈ b) : a.length = b.length ∧ ∀ x ∈ a, b.count x = 1 :=
  ⟨((List.perm_ext_iff_of_nodup ha hb).2 h).length_eq, fun x hx => count_one hb ((h x).1 hx)⟩
/-! ### Steps of ways -/
structure StOK (h : List NodeV) (r0 : Int) (x : Int) (n : NodeV) : Prop where
  bel : Bl h r0 x
  node : n = getN h x
  kid0 : 0 < n.2.2.2.2.1.getD 0 0 → Bl h r0 (n.2.2.2.2.1.getD 0 0)
  kid1 : 0 < n.2.2.2.2.1.getD 1 0 → Bl h r0 (n.2.2.2.2.1.getD 1 0)
theorem NodeAt.st {h : List NodeV} (hm : mayH h = true) {r0 r : Int} {p : PairV} {L R : List PairV} {a b : Int} (N : NodeAt h r p L R a b) (hb : Bl h r0 r) : StOK h r0 r (getN h r) ∧ (1 ≤ a → Bl h r0 a) ∧ (1 ≤ b → Bl h r0 b) := by
  have ka : 1 ≤ a → Bl h r0 a := fun q => ⟨hb.1, .step hb.2 ((N.refs hm).2 ⟨.inl rfl, by omega⟩)⟩
  have kb : 1 ≤ b → Bl h r0 b := fun q => ⟨hb.1, .step hb.2 ((N.refs hm).2 ⟨.inr rfl, by omega⟩)⟩
  refine ⟨⟨hb, rfl, ?_, ?_⟩, ka, kb⟩
  · rw [N.kids]
    exact fun q => ka (by have q : 0 < a := q; omega)
  · rw [N.kids]
    exact fun q => kb (by have q : 0 < b := q; omega)
theorem WayT.st {h : List NodeV} (hm : mayH h = true) {r0 : Int} {k : ByteArray} {r : Int} {l : List PairV} {way : List StepV} {e : Int} {m : List PairV} (w : WayT h k r l way e m) : (1 ≤ r → Bl h r0 r) → (∀ x ∈ way, StOK h r0 x.1 x.node) ∧ (1 ≤ e → Bl h r0 e) := by
  induction w with
  | done r l => exact fun hb => ⟨fun x hx => (by cases hx), hb⟩
  | left N hlt w ih =>
    intro hb
    obtain ⟨h1, ha, _⟩ := N.st hm (hb N.r1)
    obtain ⟨i1, i2⟩ := ih ha
    refine ⟨fun x hx => ?_, i2⟩
    rcases List.mem_cons.1 hx with rfl | hx
    · exact h1
    · exact i1 x hx
  | right N hlt w ih =>
    intro hb
    obtain ⟨h1, _, hb'⟩ := N.st hm (hb N.r1)
    obtain ⟨i1, i2⟩ := ih hb'
    refine ⟨fun x hx => ?_, i2⟩
    rcases List.mem_cons.1 hx with rfl | hx
    · exact h1
    · exact i1 x hx
theorem WayT.dec {h : List NodeV} {k : ByteArray} {r : Int} {l : List PairV} {way : List StepV} {e : Int} {m : List PairV} (w : WayT h k r l way e m) : e ≤ r ∧ (∀ x ∈ way, e < x.1 ∧ x.1 ≤ r) ∧ (way.map (·.1)).Nodup := by
  induction w with
  | done r l => exact ⟨Int.le_refl _, fun x hx => (by cases hx), List.nodup_nil⟩
  | @left r p L R a b way e m N hlt w ih =>
    obtain ⟨i0, i1, i2⟩ := ih
    have := N.a1
    refine ⟨by omega, fun x hx => ?_, List.nodup_cons.2 ⟨fun hx => ?_, i2⟩⟩
    · rcases List.mem_cons.1 hx with rfl | hx
      · exact ⟨by show e < r; omega, Int.le_refl r⟩
      · have := i1 x hx; omega
    · obtain ⟨y, hy, e⟩ := List.mem_map.1 hx
      have := i1 y hy
      have e : y.1 = r := e
      omega
  | @right r p L R a b way e m N hlt w ih =>
    obtain ⟨i0, i1, i2⟩ := ih
    have := N.b1
    refine ⟨by omega, fun x hx => ?_, List.nodup_cons.2 ⟨fun hx => ?_, i2⟩⟩
    · rcases List.mem_cons.1 hx with rfl | hx
      · exact ⟨by show e < r; omega, Int.le_refl r⟩
      · have := i1 x hx; omega
    · obtain ⟨y, hy, e⟩ := List.mem_map.1 hx
      have := i1 y hy
      have e : y.1 = r := e
      omega
theorem allK_side (n : NodeV) (side r z : Int) : allK (sideN n side r z) = [if side = 0 then r else n.2.2.2.2.1.getD 0 0, if side = 0 then n.2.2.2.2.1.getD 1 0 else r, 0] := rfl
theorem allK_treeI (k v : ByteArray) (a b z : Int) : allK (treeI k v a b z) = [a, b, 0] := rfl
/-- A step of a way, made anew above one root. -/
theorem Part.side {h news : List NodeV} {r0 : Int} {E : Int → Prop} {C : ByteArray → Prop} {old roots roots' : List Int} {r : Int} (Q : Part h r0 E C news old roots) {x : Int} {n : NodeV} (S : StOK h r0 x n) {side : Int} (hs : side = 0 ∨ side = 1) (z : Int) (hin : r ∈ roots) (hroots : ∀ s ∈ roots, s ∈ roots' ∨ s = r) (hnew : -(news.length : Int) - 1 ∈ roots') (hr : ∀ s ∈ roots', s = -(news.length : Int) - 1 ∨ s ∈ roots) : Part h r0 E C (news ++ [sideN n side r z]) (old ++ [x]) roots' := by
  have hk : (sideN n side r z).2.1 = ky h x := by
    show n.2.1 = _
    rw [S.node]
    rfl
  have hrr : r ∈ allK (sideN n side r z) := by
    rw [allK_side]
    rcases hs with rfl | rfl
    · rw [if_pos rfl]; simp
    · rw [if_neg (by omega), if_neg (by omega)]; simp
  refine Q.more (fun c hc q => ?_) (fun s hs' => ?_) hnew (fun s hs' q => ?_) (fun y hy => by rw [List.mem_singleton.1 hy]; exact hk) (.inl ⟨x, List.mem_singleton.2 rfl, hk⟩)
  · rw [allK_side] at hc
    rcases hs with rfl | rfl
    · rw [if_pos rfl, if_pos rfl] at hc
      rcases List.mem_cons.1 hc with rfl | hc
      · exact Q.root _ hin q
      rcases List.mem_cons.1 hc with rfl | hc
      · exact S.kid1 q
      · rw [List.mem_singleton.1 hc] at q; omega
    · rw [if_neg (by omega), if_neg (by omega)] at hc
      rcases List.mem_cons.1 hc with rfl | hc
      · exact S.kid0 q
      rcases List.mem_cons.1 hc with rfl | hc
      · exact Q.root _ hin q
      · rw [List.mem_singleton.1 hc] at q; omega
  · rcases hroots s hs' with h1 | rfl
    · exact .inl h1
    · exact .inr hrr
  · rcases hr s hs' with rfl | h1
    · omega
    · exact Q.root s h1 q
end Go.Proofs.YtmopkbmcilolgaaGreat.AH
set_option linter.unusedVariables false
set_option linter.unusedSimpArgs false
namespace Go.Proofs.YtmopkbmcilolgaaGreat.AH
open Go.Abs
def mk (l : List Bool) (i : Int) : Bool := l.getD (i - 1).toNat false
theorem mk_in {l : List Bool} {i : Int} (h : mk l i = true) : (i - 1).toNat < l.length := by
  unfold mk at h
  rcases Nat.lt_or_ge (i - 1).toNat l.length with h1 | h1
  · exact h1
  · rw [List.getD_eq_getElem?_getD, List.getElem?_eq_none h1] at h; cases h
/-- Whatever is marked, so far up, what is below it is marked. -/
def Cl (h : List NodeV) (m : Int) (l : List Bool) : Prop := ∀ i : Int, 1 ≤ i → i ≤ m → mk l i = true → ∀ c ∈ refsS (getN h i), mk l c = true
def Mk (h : List NodeV) (r : Int) (l l' : List Bool) : Prop := l'.length = h.length ∧ ∀ i : Int, 1 ≤ i → (mk l' i = true ↔ mk l i = true ∨ (1 ≤ r ∧ Bel h r i))
theorem Mk.cl {h : List NodeV} (hm : mayH h = true) {r m : Int} (hr : r ≤ h.length) {l l' : List Bool} (hl : l.length = h.length) (k : Mk h r l l') (c : Cl h m l) : Cl h m l' := by
  intro i h1 h2 hi c' hc
  rcases (k.2 i h1).1 hi with hi | ⟨hr1, hb⟩
  · have h3 := mk_in hi
    have := refs_may hm h1 (by omega) hc
    exact (k.2 c' this.1).2 (.inl (c i h1 h2 hi c' hc))
  · have h3 := Bel.in_ hm hr1 hr hb
    have := refs_may hm h1 (by omega) hc
    exact (k.2 c' this.1).2 (.inr ⟨hr1, .step hb hc⟩)
theorem mark_loop {h : List NodeV} (ho : okH h) (hm : mayH h = true) {m : Int} (hmh : m ≤ h.length) (refs : List Int) (hr : refs.length ≤ 50000000) (hin : ∀ c ∈ refs, 1 ≤ c ∧ c ≤ m) (hb : ∀ c ∈ refs, ∀ l : List Bool, l.length = h.length → Cl h c l → ∃ l', ref17_mark_o h c l = some ((), (l', ())) ∧ Mk h c l l') (d : Nat) :
    ∀ (k : Nat) (l : List Bool), k ≤ refs.length → refs.length - k = d → l.length = h.length → Cl h m l →
      ∃ l', ref17_mark_o.l1 h refs (k : Int) l = some ((), (l', ())) ∧ l'.length = h.length ∧ ∀ i : Int, 1 ≤ i → (mk l' i = true ↔ mk l i = true ∨ ∃ c ∈ refs.drop k, Bel h c i) := by
  induction d with
  | zero =>
    intro k l h1 h2 h3 h4
    refine ⟨l, ?_, h3, fun i hi => ?_⟩
    · rw [ref17_mark_o.l1.eq]
      simp only [ltI_d, ofN_d, lenL_d, br_if]
      rw [if_neg (by omega)]
    · rw [List.drop_eq_nil_of_le (by omega)]
      simp
  | succ d ih =>
    intro k l h1 h2 h3 h4
    have hk : k < refs.length := by omega
    have hc := hin _ (List.getElem_mem hk)
    obtain ⟨l1, e1, k1⟩ := hb _ (List.getElem_mem hk) l h3 (fun i i1 i2 => h4 i i1 (by omega))
    obtain ⟨l2, e2, k2, k3⟩ := ih (k + 1) l1 (by omega) (by omega) k1.1 (k1.cl hm (by omega) h3 h4)
    refine ⟨l2, ?_, k2, fun i hi => ?_⟩
    · rw [ref17_mark_o.l1.eq, ixR refs k hk, e1, bnd_some]
      simp only [ltI_d, leI_d, ofN_d, lenL_d, andB_d, br_if]
      rw [if_pos (by omega), if_pos (by omega), add1 k (by omega)]
      exact e2
    · rw [k3 i hi, k1.2 i hi, List.drop_eq_getElem_cons hk]
      constructor
      · rintro ((h | ⟨_, h⟩) | ⟨c, hc, h⟩)
        · exact .inl h
        · exact .inr ⟨refs[k], List.mem_cons_self, h⟩
        · exact .inr ⟨c, List.mem_cons_of_mem _ hc, h⟩
      · rintro (h | ⟨c, hc', h⟩)
        · exact .inl (.inl h)
        · rcases List.mem_cons.1 hc' with rfl | hc'
          · exact .inl (.inr ⟨hc.1, h⟩)
          · exact .inr ⟨c, hc', h⟩
theorem mark_any {h : List NodeV} (ho : okH h) (hm : mayH h = true) : ∀ (n : Nat) (r : Int) (l : List Bool), 0 ≤ r → r ≤ n → r ≤ h.length → l.length = h.length → Cl h r l → ∃ l', ref17_mark_o h r l = some ((), (l', ())) ∧ Mk h r l l' := by
  have hlen := ho.len
  have zero : ∀ l : List Bool, l.length = h.length → ∃ l', ref17_mark_o h 0 l = some ((), (l', ())) ∧ Mk h 0 l l' := fun l hl => by
    refine ⟨l, ?_, hl, fun i hi => ⟨fun q => .inl q, fun q => q.elim id fun q => absurd q.1 (by omega)⟩⟩
    rw [ref17_mark_o.eq, eqI_d, br_if, if_pos rfl, ref17_mark_o.j0.eq, br_t]
  intro n
  induction n with
  | zero =>
    intro r l h0 h1 h2 h3 h4
    have : r = 0 := by omega
    subst this
    exact zero l h3
  | succ n ih =>
    intro r l h0 h1 h2 h3 h4
    by_cases e : r = 0
    · subst e; exact zero l h3
    have hr1 : 1 ≤ r := by omega
    obtain ⟨q, rfl⟩ : ∃ q : Nat, r = ((q + 1 : Nat) : Int) := ⟨(r - 1).toNat, by omega⟩
    have hq : ((q + 1 : Nat) : Int) - 1 = (q : Int) := by omega
    have es : subI .i64 ((q + 1 : Nat) : Int) 1 = (q : Int) := by rw [sub1I _ (by omega) (by omega)]; omega
    have emk : mk l ((q + 1 : Nat) : Int) = l.getD q false := by unfold mk; rw [hq, Int.toNat_natCast]
    have hinB : andB (leI 0 (q : Int)) (ltI (q : Int) (ofN (lenL .bool l))) = true := by
      unfold andB leI ltI ofN lenL
      rw [decide_eq_true (by omega), decide_eq_true (by omega)]
      rfl
    rw [ref17_mark_o.eq, eqI_d, br_if, if_neg e, es, hinB, br_t, ixB, ← emk]
    cases hk : mk l ((q + 1 : Nat) : Int) with
    | true =>
      refine ⟨l, by rw [ref17_mark_o.j0.eq, br_t], h3, fun i hi => ⟨fun q => .inl q, fun hh => hh.elim id fun hh => ?_⟩⟩
      have : ∀ i, Bel h ((q + 1 : Nat) : Int) i → mk l i = true := fun i b => by
        induction b with
        | self => exact hk
        | step b hi ih =>
          have hj := Bel.in_ hm hr1 h2 b
          exact h4 _ hj.1 hj.2 ih _ hi
      exact this i hh.2
    | false =>
      have o := ho.node _ (getN_mem h _ hr1 h2)
      have hrl := refsS_len (getN h ((q + 1 : Nat) : Int))
      have hkl := o.kids
      have hin : ∀ c ∈ refsS (getN h ((q + 1 : Nat) : Int)), 1 ≤ c ∧ c ≤ (q : Int) := fun c hc => by
        have := refs_may hm hr1 h2 hc
        omega
      have hset : ∀ i : Int, 1 ≤ i → mk (l.set q true) i = (decide (i = ((q + 1 : Nat) : Int)) || mk l i) := fun i hi => by
        unfold mk
        rw [getD_set _ _ _ (by omega)]
        congr 1
        exact decide_eq_decide.2 (by omega)
      have c1 : Cl h (q : Int) (l.set q true) := fun i i1 i2 hi c hc => by
        rw [hset i i1, decide_eq_false (by omega), Bool.false_or] at hi
        have := refs_may hm i1 (by omega) hc
        rw [hset c this.1, h4 i i1 (by omega) hi c hc, Bool.or_true]
      obtain ⟨l2, e2, k2, k3⟩ := mark_loop ho hm (m := (q : Int)) (by omega) (refsS (getN h ((q + 1 : Nat) : Int))) (by omega) hin (fun c hc l hl hcl => by
        have := hin c hc
        exact ih c l (by omega) (by omega) (by omega) hl hcl) _ 0 (l.set q true) (by omega) rfl (by rw [List.length_set]; exact h3) c1
      refine ⟨l2, ?_, k2, fun i hi => ?_⟩
      · have ein := inG h ((q + 1 : Nat) : Int) hr1 h2 (by omega)
        have eix := ixG h ((q + 1 : Nat) : Int) hr1 h2 (by omega)
        rw [es] at ein eix
        rw [ref17_mark_o.j0.eq, br_f, es, hinB, br_t, ein, br_t, eix, refrefs_any _ o, bnd_some, setB, Int.toNat_natCast]
        exact e2
      · rw [k3 i hi, hset i hi, List.drop_zero]
        simp only [Bool.or_eq_true, decide_eq_true_eq]
        rw [Bel.split]
        constructor
        · rintro ((h | h) | h)
          · exact .inr ⟨hr1, .inl h⟩
          · exact .inl h
          · exact .inr ⟨hr1, .inr h⟩
        · rintro (h | ⟨_, h | h⟩)
          · exact .inl (.inr h)
          · exact .inl (.inl h)
          · exact .inr h
theorem refRefs_loop {h : List NodeV} {r : Int} {l : List Bool} (hl : l.length ≤ 40000000) (hk : ∀ i : Int, 1 ≤ i → mk l i = belB h r i) : ∀ (s : Nat) (acc : List Int), s ≤ l.length → acc.length + s ≤ 50000000 → ref17_Refs.l0 ((s : Int) - 1) l acc = some (acc ++ desc (belB h r) s)
  | 0, acc, _, _ => by
    rw [ref17_Refs.l0.eq, leI_d, br_if, if_neg (by omega)]
    show some acc = some (acc ++ [])
    rw [List.append_nil]
  | s + 1, acc, hs, ha => by
    have e0 : ((s + 1 : Nat) : Int) - 1 = (s : Int) := by omega
    have e1 : subI .i64 (s : Int) 1 = (s : Int) - 1 := subI_d (by omega) (by omega)
    have e2 : addI .i64 (s : Int) 1 = ((s + 1 : Nat) : Int) := add1 s (by omega)
    have e3 : l.getD s false = belB h r ((s + 1 : Nat) : Int) := by
      rw [← hk _ (by omega)]
      unfold mk
      rw [e0, Int.toNat_natCast]
    rw [e0, ref17_Refs.l0.eq, ixB, e3, e1, e2]
    simp only [ltI_d, leI_d, ofN_d, lenL_d, andB_d, fitL_d, appL_d, br_if]
    rw [if_pos (by omega), if_pos (by omega)]
    unfold desc
    cases hb : belB h r ((s + 1 : Nat) : Int) with
    | false =>
      rw [br_f, if_neg (by simp)]
      exact refRefs_loop hl hk s acc (by omega) (by omega)
    | true =>
      rw [br_t, if_pos rfl, if_pos (by rw [List.length_append]; show _ + 1 ≤ _; omega), refRefs_loop hl hk s _ (by omega) (by rw [List.length_append]; show _ + 1 + s ≤ _; omega), List.append_assoc]
      rfl
theorem refRefs_any {h : List NodeV} (ho : okH h) (hm : mayH h = true) {r : Int} (h0 : 0 ≤ r) (h2 : r ≤ h.length) : ref17_Refs h r = some (belS h r) := by
  have hlen := ho.len
  have hz : ∀ i, mk (List.replicate h.length false) i = false := fun i => by
    unfold mk
    rw [List.getD_eq_getElem?_getD, List.getElem?_replicate]
    split <;> rfl
  obtain ⟨l', e, k⟩ := mark_any ho hm r.toNat r (List.replicate h.length false) h0 (by omega) h2 List.length_replicate (fun i _ _ hi => by rw [hz] at hi; cases hi)
  have hk : ∀ i : Int, 1 ≤ i → mk l' i = belB h r i := fun i hi => by
    rw [Bool.eq_iff_iff, k.2 i hi, hz, belB_iff]
    simp
  have et : toN (ofN (lenL tapiNode h)) = h.length := Int.toNat_natCast _
  have eg : andB (fitN (ofN (lenL tapiNode h))) (eqI (ofN (lenL tapiNode h)) (ofN (lenL tapiNode h))) = true := by
    unfold andB fitN eqI ofN lenL
    rw [decide_eq_true (by omega), decide_eq_true rfl]
    rfl
  have es : subI .i64 (ofN (lenL tapiNode h)) 1 = (h.length : Int) - 1 := by
    unfold ofN lenL
    exact subI_d (by omega) (by omega)
  rw [ref17_Refs.eq, eg, br_t, et, es, show repL .bool h.length false = List.replicate h.length false from rfl, e, bnd_some]
  have := refRefs_loop (h := h) (r := r) (l := l') (by rw [k.1]; exact hlen) hk h.length [] (by rw [k.1]; exact Nat.le_refl _) (by simp; omega)
  exact this
end Go.Proofs.YtmopkbmcilolgaaGreat.AH
set_option linter.unusedVariables false
set_option linter.unusedSimpArgs false
namespace Go.Proofs.YtmopkbmcilolgaaGreat.AH
open Go.Abs
theorem gone_l1 (a b : List Int) (hb : b.length ≤ 50000000) (i : Nat) (hi : i < a.length) (hl : a.length ≤ 50000000) (acc : List Int) (ha : acc.length ≤ 50000000) (d : Nat) : ∀ (k : Nat) (t : Bool), k ≤ b.length → b.length - k = d →
    ref23_Gone.l1 a b (i : Int) t (k : Int) acc = if (t || decide (a[i] ∈ b.drop k)) = true then ref23_Gone.l0 a b ((i + 1 : Nat) : Int) acc else ref23_Gone.l0 a b ((i + 1 : Nat) : Int) (acc ++ [a[i]]) := by
  induction d with
  | zero =>
    intro k t hk hd
    rw [ref23_Gone.l1.eq, ixR a i hi, add1 i (by omega)]
    simp only [ltI_d, leI_d, ofN_d, lenL_d, andB_d, br_if, fitL_d, appL_d]
    rw [if_neg (by omega), List.drop_eq_nil_of_le (by omega)]
    cases t with
    | true => rfl
    | false =>
      rw [show notB false = true from rfl, br_t, if_pos (by omega), if_pos (by rw [List.length_append]; show _ + 1 ≤ _; omega), if_neg (by simp)]
  | succ d ih =>
    intro k t hk hd
    have hkl : k < b.length := by omega
    rw [ref23_Gone.l1.eq, ixR a i hi, ixR b k hkl, add1 k (by omega), List.drop_eq_getElem_cons hkl]
    simp only [ltI_d, leI_d, ofN_d, lenL_d, andB_d]
    rw [decide_eq_true (show (k : Int) < (b.length : Int) by omega), br_t]
    cases t with
    | true =>
      rw [br_t, ih (k + 1) true (by omega) (by omega), Bool.true_or, Bool.true_or]
    | false =>
      rw [br_f, decide_eq_true (show (0 : Int) ≤ (i : Int) ∧ (i : Int) < (a.length : Int) by omega), br_t, decide_eq_true (show (0 : Int) ≤ (k : Int) ∧ (k : Int) < (b.length : Int) by omega), br_t, ih (k + 1) _ (by omega) (by omega), eqI_d, Bool.false_or]
      have e : (decide (a[i] = b[k]) || decide (a[i] ∈ b.drop (k + 1))) = decide (a[i] ∈ b[k] :: b.drop (k + 1)) := by
        rw [Bool.eq_iff_iff, Bool.or_eq_true, decide_eq_true_iff, decide_eq_true_iff, decide_eq_true_iff, List.mem_cons]
      rw [e]
theorem gone_l0 (a b : List Int) (hb : b.length ≤ 50000000) (hl : a.length ≤ 50000000) (d : Nat) : ∀ (i : Nat) (acc : List Int), i ≤ a.length → a.length - i = d → acc.length ≤ i → ref23_Gone.l0 a b (i : Int) acc = some (acc ++ goneS (a.drop i) b) := by
  induction d with
  | zero =>
    intro i acc hi hd ha
    rw [ref23_Gone.l0.eq]
    simp only [ltI_d, ofN_d, lenL_d, br_if]
    rw [if_neg (by omega), List.drop_eq_nil_of_le (by omega)]
    exact congrArg some (List.append_nil acc).symm
  | succ d ih =>
    intro i acc hi hd ha
    have hil : i < a.length := by omega
    have := gone_l1 a b hb i hil hl acc (by omega) b.length 0 false (by omega) (by omega)
    rw [List.drop_zero, Bool.false_or] at this
    have e0 : ((0 : Nat) : Int) = 0 := rfl
    rw [e0] at this
    rw [ref23_Gone.l0.eq]
    simp only [ltI_d, ofN_d, lenL_d, br_if]
    rw [if_pos (by omega), this, List.drop_eq_getElem_cons hil]
    by_cases q : a[i] ∈ b
    · rw [if_pos (decide_eq_true q), ih (i + 1) acc (by omega) (by omega) (by omega)]
      unfold goneS
      rw [List.filter_cons_of_neg (by simpa using q)]
    · rw [if_neg (by simpa using q), ih (i + 1) (acc ++ [a[i]]) (by omega) (by omega) (by rw [List.length_append]; show _ + 1 ≤ _; omega)]
      unfold goneS
      rw [List.filter_cons_of_pos (by simpa using q), List.append_assoc]
      rfl
theorem sset_l1 (a b : List Int) (hb : b.length ≤ 50000000) (i : Nat) (hi : i < a.length) (hl : a.length ≤ 50000000) (d : Nat) : ∀ (k n : Nat), k ≤ b.length → b.length - k = d → n ≤ k →
    ref23_SameSet.l1 a b (i : Int) (n : Int) (k : Int) = if n + (b.drop k).count a[i] = 1 then ref23_SameSet.l0 a b ((i + 1 : Nat) : Int) else some false := by
  induction d with
  | zero =>
    intro k n hk hd hn
    rw [ref23_SameSet.l1.eq, add1 i (by omega)]
    simp only [ltI_d, leI_d, eqI_d, notB_d, ofN_d, lenL_d, andB_d, br_if]
    rw [if_neg (by omega), List.drop_eq_nil_of_le (by omega), List.count_nil]
    by_cases q : n = 1
    · rw [if_neg (by omega), if_pos (show n + 0 = 1 by omega)]
    · rw [if_pos (by omega), if_neg (show ¬ n + 0 = 1 by omega)]
  | succ d ih =>
    intro k n hk hd hn
    have hkl : k < b.length := by omega
    rw [ref23_SameSet.l1.eq, ixR a i hi, ixR b k hkl, add1 k (by omega), add1 n (by omega), List.drop_eq_getElem_cons hkl]
    simp only [ltI_d, leI_d, eqI_d, ofN_d, lenL_d, andB_d, br_if]
    rw [if_pos (by omega), if_pos (by omega), if_pos (by omega)]
    by_cases q : a[i] = b[k]
    · have e : (b[k] :: b.drop (k + 1)).count a[i] = (b.drop (k + 1)).count a[i] + 1 := by
        rw [List.count_cons, q]
        simp
      rw [if_pos q, ih (k + 1) (n + 1) (by omega) (by omega) (by omega), e, show n + 1 + (b.drop (k + 1)).count a[i] = n + ((b.drop (k + 1)).count a[i] + 1) by omega]
    · have e : (b[k] :: b.drop (k + 1)).count a[i] = (b.drop (k + 1)).count a[i] := by
        rw [List.count_cons, beq_eq_false_iff_ne.2 (fun z => q (Eq.symm z))]
        rfl
      rw [if_neg q, ih (k + 1) n (by omega) (by omega) (by omega), e]
theorem sset_l0 (a b : List Int) (hb : b.length ≤ 50000000) (hl : a.length ≤ 50000000) (h : ∀ x ∈ a, b.count x = 1) (d : Nat) : ∀ i : Nat, i ≤ a.length → a.length - i = d → ref23_SameSet.l0 a b (i : Int) = some true := by
  induction d with
  | zero =>
    intro i hi hd
    rw [ref23_SameSet.l0.eq]
    simp only [ltI_d, ofN_d, lenL_d, br_if]
    rw [if_neg (by omega)]
  | succ d ih =>
    intro i hi hd
    have hil : i < a.length := by omega
    have := sset_l1 a b hb i hil hl b.length 0 0 (by omega) (by omega) (by omega)
    rw [List.drop_zero, h _ (List.getElem_mem hil), if_pos rfl, ih (i + 1) (by omega) (by omega)] at this
    have e0 : ((0 : Nat) : Int) = 0 := rfl
    rw [e0] at this
    rw [ref23_SameSet.l0.eq]
    simp only [ltI_d, ofN_d, lenL_d, br_if]
    rw [if_pos (by omega)]
    exact this
theorem sset_any {a b : List Int} (hb : b.length ≤ 50000000) (e : a.length = b.length) (h : ∀ x ∈ a, b.count x = 1) : ref23_SameSet a b = some true := by
  rw [ref23_SameSet.eq]
  simp only [eqI_d, notB_d, ofN_d, lenL_d, br_if]
  rw [if_neg (by omega)]
  exact sset_l0 a b hb (by omega) h a.length 0 (by omega) (by omega)
/-- What a statement asks of a plan's old references and new nodes. -/
theorem old_holds {h news : List NodeV} {r0 : Int} {E : Int → Prop} {C : ByteArray → Prop} {old : List Int} {s : Int} (Q : Part h r0 E C news old [s]) (ho : okH h) (hm : mayH h = true) {l l' : List PairV} (h0 : 0 ≤ r0) (hr0 : r0 ≤ h.length) (P : PlanOK h news) (H : Has h news s (treeT l')) (hk : okH (PS h news)) (hS : Srt l) (hT : ∀ p ∈ l, okT p) (hu : U h r0 = treeT l) (hS' : Srt l') (hT' : ∀ p ∈ l', okT p)
    (hbel : ∀ x ∈ old, Bl h r0 x) (hnd : old.Nodup) (hE : ∀ x, E x → ∀ q ∈ l', q.1 ≠ ky h x) (hC : ∀ k, C k → ∀ q ∈ l, q.1 ≠ k) (hstay : ∀ q ∈ l, (∃ z ∈ l', z.1 = q.1) ∨ ∃ x ∈ old, ky h x = q.1) :
    ∃ g : List Int, ref23_Gone h r0 (PS h news) (fillQ h.length s) = some g ∧ ref23_SameSet old g = some true ∧ ref17_Refs (PS h news) (fillQ h.length s) = some (belS (PS h news) (fillQ h.length s)) ∧ (belS (PS h news) (fillQ h.length s)).length ≤ 50000000 ∧
      ((belS (PS h news) (fillQ h.length s)).filter fun x => decide ((h.length : Int) < x)).length = news.length := by
  have hf := fill_in H.lo H.hi
  have l1 := ho.len
  have l2 := hk.len
  have e1 := refRefs_any ho hm h0 hr0
  have e2 := refRefs_any hk P.may hf.1 hf.2
  have d1 : (belS h r0).length ≤ h.length := desc_len _ _
  have d2 : (belS (PS h news) (fillQ h.length s)).length ≤ (PS h news).length := desc_len _ _
  have hmem : ∀ x, x ∈ old ↔ x ∈ goneS (belS h r0) (belS (PS h news) (fillQ h.length s)) := fun x => by
    unfold goneS
    rw [Q.iff hm h0 hr0 P H hS hT hu hS' hT' hbel hE hC hstay x, List.mem_filter, belS_mem hm hr0, decide_eq_true_iff, belS_mem P.may hf.2]
  have hnd2 : (goneS (belS h r0) (belS (PS h news) (fillQ h.length s))).Nodup := (desc_nodup _ _).filter _
  obtain ⟨c1, c2⟩ := same_sets hnd hnd2 hmem
  have d3 : (goneS (belS h r0) (belS (PS h news) (fillQ h.length s))).length ≤ (belS h r0).length := List.length_filter_le _ _
  refine ⟨_, ?_, sset_any (by omega) c1 c2, e2, by omega, ?_⟩
  · rw [ref23_Gone.eq, e1, bnd_some, e2, bnd_some]
    exact gone_l0 _ _ (by omega) (by omega) _ 0 [] (by omega) rfl (by show 0 ≤ _; omega)
  · show ((desc (belB (PS h news) (fillQ h.length s)) (PS h news).length).filter _).length = _
    rw [PS_len]
    exact desc_fresh news.length fun i hi => belB_iff.2 (Q.new _ i (Nat.le_refl _) hi)
theorem put_keys (x : PairV) : ∀ (l : List PairV) (q : PairV), q ∈ l → ∃ z ∈ putS l x, z.1 = q.1
  | p :: l, q, hq => by
    rcases tri p.1 x.1 with ⟨c, _⟩ | ⟨c, _⟩ | ⟨c, _⟩
    · rw [putS_lt c]
      rcases List.mem_cons.1 hq with rfl | hq
      · exact ⟨_, List.mem_cons_self, rfl⟩
      · obtain ⟨z, hz, e⟩ := put_keys x l q hq
        exact ⟨z, List.mem_cons_of_mem _ hz, e⟩
    · rw [putS_eq c]
      rcases List.mem_cons.1 hq with rfl | hq
      · exact ⟨x, List.mem_cons_self, c.symm⟩
      · exact ⟨q, List.mem_cons_of_mem _ hq, rfl⟩
    · rw [putS_gt c]
      exact ⟨q, List.mem_cons_of_mem _ hq, rfl⟩
end Go.Proofs.YtmopkbmcilolgaaGreat.AH
set_option linter.unusedVariables false
set_option linter.unusedSimpArgs false
namespace Go.Proofs.YtmopkbmcilolgaaGreat.AH
open Go.Abs
mutual
def depthT : Shp → Nat
  | .nil => 0
  | .node _ l => depthL l + 1
def depthL : List Shp → Nat
  | [] => 0
  | x :: l => max (depthT x) (depthL l)
end
theorem depthT_nil : depthT .nil = 0 := by rw [depthT]
theorem depthT_node (b : NodeV) (l : List Shp) : depthT (.node b l) = depthL l + 1 := by rw [depthT]
def dep (h : List NodeV) (r : Int) : Nat := depthT (U h r)
theorem dep_zero (h : List NodeV) : dep h 0 = 0 := by unfold dep; rw [U_zero, depthT_nil]
def mxD (h : List NodeV) : List Int → Nat
  | [] => 0
  | x :: l => max (dep h x) (mxD h l)
theorem mxD_filter (h : List NodeV) : ∀ l : List Int, depthL (l.map (U h)) = mxD h (l.filter (fun r => decide (r ≠ 0)))
  | [] => by show depthL [] = 0; rw [depthL]
  | x :: l => by
    rw [List.map_cons, depthL, mxD_filter h l]
    by_cases e : x = 0
    · subst e
      rw [List.filter_cons_of_neg (by simp), U_zero, depthT_nil, Nat.zero_max]
    · rw [List.filter_cons_of_pos (by simp [e])]
      rfl
theorem dep_node {h : List NodeV} (hm : mayH h = true) {r : Int} (h1 : 1 ≤ r) (h2 : r ≤ h.length) : dep h r = mxD h (refsS (getN h r)) + 1 := by
  unfold dep
  rw [U_node hm h1 h2, depthT_node, mxD_filter, ← refsS_all]
theorem mxD_le {h : List NodeV} {m : Nat} : ∀ l : List Int, (∀ x ∈ l, dep h x ≤ m) → mxD h l ≤ m
  | [], _ => Nat.zero_le _
  | x :: l, hx => by
    have h1 := hx x (by simp)
    have h2 := mxD_le l fun y hy => hx y (List.mem_cons_of_mem _ hy)
    show max _ _ ≤ m
    omega
theorem dep_le {h : List NodeV} (hm : mayH h = true) : ∀ (n : Nat) (r : Int), 0 ≤ r → r ≤ n → r ≤ h.length → dep h r ≤ r.toNat := by
  intro n
  induction n with
  | zero =>
    intro r h0 h1 h2
    have : r = 0 := by omega
    subst this
    rw [dep_zero]; exact Nat.zero_le _
  | succ n ih =>
    intro r h0 h1 h2
    by_cases e : r = 0
    · subst e; rw [dep_zero]; exact Nat.zero_le _
    rw [dep_node hm (by omega) h2]
    have := mxD_le (h := h) (m := (r - 1).toNat) (refsS (getN h r)) fun x hx => by
      have hx := refs_may hm (by omega) h2 hx
      have := ih x (by omega) (by omega) (by omega)
      omega
    omega
theorem refdepth_loop {h : List NodeV} (refs : List Int) (hr : refs.length ≤ 50000000) (m : Nat) (hm : m ≤ 50000000) (hb : ∀ x ∈ refs, ref17_Depth h x = some (dep h x : Int) ∧ dep h x ≤ m) (d : Nat) : ∀ (k n : Nat), k ≤ refs.length → refs.length - k = d → n ≤ m →
    ref17_Depth.l0 h (n : Int) refs (k : Int) = some ((max n (mxD h (refs.drop k)) + 1 : Nat) : Int) := by
  induction d with
  | zero =>
    intro k n h1 h2 h3
    rw [ref17_Depth.l0.eq, List.drop_eq_nil_of_le (by omega)]
    simp only [ltI_d, ofN_d, lenL_d, br_if]
    rw [if_neg (by omega), add1 n (by omega)]
    show some _ = some (((max n 0 + 1 : Nat)) : Int)
    rw [Nat.max_zero]
  | succ d ih =>
    intro k n h1 h2 h3
    have hk : k < refs.length := by omega
    obtain ⟨b1, b2⟩ := hb _ (List.getElem_mem hk)
    rw [ref17_Depth.l0.eq, ixR refs k hk, b1, bnd_some]
    simp only [ltI_d, leI_d, ofN_d, lenL_d, andB_d, maxI_d, br_if]
    have e : max (n : Int) (dep h refs[k] : Int) = ((max n (dep h refs[k]) : Nat) : Int) := by omega
    rw [if_pos (by omega), if_pos (by omega), add1 k (by omega), e, ih (k + 1) _ (by omega) (by omega) (by omega), List.drop_eq_getElem_cons hk]
    show some _ = some (((max n (max (dep h refs[k]) (mxD h (refs.drop (k + 1)))) + 1 : Nat)) : Int)
    rw [Nat.max_assoc]
theorem refdepth_any {h : List NodeV} (ho : okH h) (hm : mayH h = true) : ∀ (n : Nat) (r : Int), 0 ≤ r → r ≤ n → r ≤ h.length → ref17_Depth h r = some (dep h r : Int) := by
  have hlen := ho.len
  intro n
  induction n with
  | zero =>
    intro r h0 h1 h2
    have : r = 0 := by omega
    subst this
    rw [ref17_Depth.eq, eqI_d, br_if, if_pos rfl, dep_zero]
    rfl
  | succ n ih =>
    intro r h0 h1 h2
    by_cases e : r = 0
    · subst e
      rw [ref17_Depth.eq, eqI_d, br_if, if_pos rfl, dep_zero]
      rfl
    have o := ho.node _ (getN_mem h r (by omega) h2)
    have hrl := refsS_len (getN h r)
    have hkl := o.kids
    rw [ref17_Depth.eq, eqI_d, br_if, if_neg e, inG h r (by omega) h2 (by omega), br_t, ixG h r (by omega) h2 (by omega), refrefs_any _ o, bnd_some]
    have := refdepth_loop (h := h) (refsS (getN h r)) (by omega) 50000000 (by omega) (fun x hx => by
      have hx := refs_may hm (by omega) h2 hx
      refine ⟨ih x (by omega) (by omega) (by omega), ?_⟩
      have := dep_le hm x.toNat x (by omega) (by omega) (by omega)
      omega) _ 0 0 (by omega) rfl (by omega)
    rw [show ((0 : Nat) : Int) = 0 from rfl, List.drop_zero, Nat.zero_max] at this
    rw [this, dep_node hm (by omega) h2]
end Go.Proofs.YtmopkbmcilolgaaGreat.AH
set_option linter.unusedVariables false
set_option linter.unusedSimpArgs false
namespace Go.Proofs.YtmopkbmcilolgaaGreat.AH
open Go.Abs
theorem refref_loop (r : Int) (hr : r < 0) (h : rng r) (to : List Int) (hl : to.length ≤ 1000000) (d : Nat) : ∀ (i : Nat), i ≤ to.length → (i : Int) ≤ -1 - r → to.length - i = d → ref18_Ref.l0 r to i = some (refD to r, ((refR to r).isSome, ())) := by
  unfold rng at h
  have e0 : ¬ 0 ≤ r := by omega
  unfold refD refR
  rw [if_neg e0]
  induction d with
  | zero =>
    intro i hi h1 hd
    rw [ref18_Ref.l0.eq]
    simp only [ltI_d, ofN_d, lenL_d, br_if]
    rw [if_neg (by omega), if_neg (by omega)]
    rfl
  | succ d ih =>
    intro i hi h1 hd
    have hil : i < to.length := by omega
    rw [ref18_Ref.l0.eq, ixR to i hil]
    have es : subI .i64 (-1) (i : Int) = -1 - (i : Int) := subI_d (by omega) (by omega)
    rw [es, add1 i (by omega)]
    simp only [ltI_d, leI_d, eqI_d, ofN_d, lenL_d, andB_d, br_if]
    rw [if_pos (by omega)]
    by_cases q : r = -1 - (i : Int)
    · rw [if_pos q, if_pos (by omega), if_pos (by omega), show (-1 - r).toNat = i by omega, List.getD_eq_getElem?_getD, List.getElem?_eq_getElem hil]
      rfl
    · rw [if_neg q]
      exact ih (i + 1) (by omega) (by omega) (by omega)
theorem refref_any (r : Int) (h : rng r) (to : List Int) (hl : to.length ≤ 1000000) : ref18_Ref r to = some (refD to r, ((refR to r).isSome, ())) := by
  rw [ref18_Ref.eq, leI_d, br_if]
  by_cases h1 : 0 ≤ r
  · rw [if_pos h1]
    unfold refD refR
    rw [if_pos h1]
    rfl
  · rw [if_neg h1]
    unfold rng at h
    exact refref_loop r (by omega) h to hl to.length 0 (by omega) (by omega) (by omega)
theorem reffill_l0 (to : List Int) (hto : to.length ≤ 1000000) (n : NodeV) (hn : okN n) (hr : rngN n) (x4 x6 x7) (d : Nat) : ∀ (i : Nat), i ≤ n.2.2.2.2.1.length → n.2.2.2.2.1.length - i = d →
    ref18_Fill_o.l0 ((n.2.2.2.2.1.take i).all fun k => (refR to k).isSome) i to n x4 (n.1, (n.2.1, (n.2.2.1, (n.2.2.2.1, ((), n.2.2.2.2.2))))) x6 x7 ((n.2.2.2.2.1.take i).map (refD to)) =
    some ((fillS to n, (fillB to n, ())), (to, ())) := by
  have hk := hn.kids
  induction d with
  | zero =>
    intro i hi hd
    have e : i = n.2.2.2.2.1.length := by omega
    subst e
    rw [ref18_Fill_o.l0.eq, refref_any _ hr.2 to hto, bnd_some]
    simp only [ltI_d, ofN_d, lenL_d, br_if]
    rw [if_neg (by omega), List.take_length]
    unfold fillS fillB
    cases ha : n.2.2.2.2.1.all fun k => (refR to k).isSome with
    | false =>
      rw [show notB false = true from rfl, br_t, Bool.and_false, if_neg (by simp)]
      rfl
    | true =>
      rw [show notB true = false from rfl, br_f, Bool.and_true]
      cases hm : (refR to n.2.2.2.2.2.1).isSome with
      | false => rfl
      | true => rfl
  | succ d ih =>
    intro i hi hd
    have hil : i < n.2.2.2.2.1.length := by omega
    have hpl : ((n.2.2.2.2.1.take i).map (refD to)).length = i := by rw [List.length_map, List.length_take]; omega
    rw [ref18_Fill_o.l0.eq, ixR _ i hil, refref_any _ (hr.1 _ (List.getElem_mem hil)) to hto, bnd_some]
    have ih := ih (i + 1) (by omega) (by omega)
    rw [take_all_succ _ i hil, List.take_succ_eq_append_getElem hil, List.map_append] at ih
    simp only [ltI_d, leI_d, ofN_d, lenL_d, andB_d, br_if, fitL_d, appL_d]
    rw [if_pos (by omega), if_pos (by omega), if_pos (by rw [List.length_append, hpl]; show _ + 1 ≤ _; omega), add1 i (by omega)]
    cases ha : (n.2.2.2.2.1.take i).all fun k => (refR to k).isSome with
    | true =>
      rw [ha, Bool.true_and] at ih
      rw [br_t]
      exact ih
    | false =>
      rw [ha, Bool.false_and] at ih
      rw [br_f]
      exact ih
theorem reffill_any (to : List Int) (hto : to.length ≤ 1000000) (n : NodeV) (hn : okN n) (hr : rngN n) : ref18_Fill_o n to = some ((fillS to n, (fillB to n, ())), (to, ())) := by
  rw [ref18_Fill_o.eq]
  have := reffill_l0 to hto n hn hr (0, (ByteArray.empty, (ByteArray.empty, (0, ((), (0, ((), (0, (0, ()))))))))) [] [] n.2.2.2.2.1.length 0 (by omega) (by omega)
  rw [List.take_zero, List.all_nil] at this
  exact this
end Go.Proofs.YtmopkbmcilolgaaGreat.AH
set_option linter.unusedVariables false
set_option linter.unusedSimpArgs false
namespace Go.Proofs.YtmopkbmcilolgaaGreat.AH
open Go.Abs
theorem refmayp_l2 (p : PlanV) (h : okPl p) (d : Nat) : ∀ (i : Nat), i ≤ p.2.2.1.length → p.2.2.1.length - i = d → ref18_May.l2 i p = some ((p.2.2.1.drop i).all (fun r => decide (1 ≤ r)) && decide (-(p.1.length : Int) ≤ p.2.1)) := by
  have hl := h.len
  have hold := h.old
  induction d with
  | zero =>
    intro i hi hd
    rw [ref18_May.l2.eq]
    simp only [ltI_d, leI_d, ofN_d, lenL_d, br_if]
    rw [if_neg (by omega), List.drop_eq_nil_of_le (by omega), List.all_nil, Bool.true_and]
    have : subI .i64 0 (p.1.length : Int) = -(p.1.length : Int) := by rw [subI_d (by omega) (by omega)]; omega
    rw [this]
  | succ d ih =>
    intro i hi hd
    have hil : i < p.2.2.1.length := by omega
    rw [ref18_May.l2.eq, ixR _ i hil]
    simp only [ltI_d, leI_d, ofN_d, lenL_d, andB_d, br_if]
    rw [if_pos (by omega), if_pos (by omega), add1 i (by omega), ih (i + 1) (by omega) (by omega), drop_all _ i hil]
    by_cases h1 : p.2.2.1[i] < 1
    · rw [if_pos h1, decide_eq_false (show ¬ 1 ≤ p.2.2.1[i] by omega), Bool.false_and, Bool.false_and]
    · rw [if_neg h1, decide_eq_true (show 1 ≤ p.2.2.1[i] by omega), Bool.true_and]
theorem refmayp_l1 (p : PlanV) (i : Nat) (hi : i < p.1.length) (hl : p.1.length ≤ 1000) (o : okN p.1[i]) (refs : List Int) (hr : refs.length ≤ 1000000) (d : Nat) : ∀ (k : Nat), k ≤ refs.length → refs.length - k = d →
    ref18_May.l1 i refs k p = if ((refs.drop k).all fun r => decide (-(i : Int) ≤ r)) = true then (if mayS p.1[i] = 0 then ref18_May.l0 (addI .i64 i 1) p else some false) else some false := by
  have es : subI .i64 0 (i : Int) = -(i : Int) := by rw [subI_d (by omega) (by omega)]; omega
  induction d with
  | zero =>
    intro k hk hd
    rw [ref18_May.l1.eq, ixN p.1 i hi, refmay_any _ o, bnd_some]
    simp only [ltI_d, leI_d, eqI_d, notB_d, ofN_d, lenL_d, andB_d, br_if]
    rw [if_neg (by omega), if_pos (by omega), List.drop_eq_nil_of_le (by omega), List.all_nil, if_pos rfl]
    by_cases hm : mayS p.1[i] = 0
    · rw [if_neg (fun q => q hm), if_pos hm]
    · rw [if_pos hm, if_neg hm]
  | succ d ih =>
    intro k hk hd
    have hkl : k < refs.length := by omega
    rw [ref18_May.l1.eq, ixR refs k hkl, es]
    simp only [ltI_d, leI_d, ofN_d, lenL_d, andB_d, br_if]
    rw [if_pos (by omega), if_pos (by omega), add1 k (by omega), ih (k + 1) (by omega) (by omega), drop_all refs k hkl]
    by_cases h1 : refs[k] < -(i : Int)
    · rw [if_pos h1, decide_eq_false (by omega), Bool.false_and, if_neg (by simp)]
    · rw [if_neg h1, decide_eq_true (by omega), Bool.true_and]
theorem refmayp_loop (p : PlanV) (h : okPl p) (d : Nat) : ∀ (i : Nat), i ≤ p.1.length → p.1.length - i = d → ref18_May.l0 i p = some (mayPL i (p.1.drop i) && (p.2.2.1.all (fun r => decide (1 ≤ r)) && decide (-(p.1.length : Int) ≤ p.2.1))) := by
  have hl := h.len
  induction d with
  | zero =>
    intro i hi hd
    rw [ref18_May.l0.eq]
    simp only [ltI_d, ofN_d, lenL_d, br_if]
    have := refmayp_l2 p h p.2.2.1.length 0 (by omega) (by omega)
    rw [show ((0 : Nat) : Int) = 0 from rfl, List.drop_zero] at this
    rw [if_neg (by omega), this, List.drop_eq_nil_of_le (by omega)]
    rfl
  | succ d ih =>
    intro i hi hd
    have hil : i < p.1.length := by omega
    have hm := List.getElem_mem hil
    have o := h.node _ hm
    have hrl := refsS_len p.1[i]
    have hkl := h.few _ hm
    rw [ref18_May.l0.eq, ixN p.1 i hil, refrefs_any _ o, bnd_some]
    simp only [ltI_d, leI_d, ofN_d, lenL_d, andB_d, br_if]
    have := refmayp_l1 p i hil h.len o (refsS p.1[i]) (by omega) (refsS p.1[i]).length 0 (by omega) (by omega)
    rw [show ((0 : Nat) : Int) = 0 from rfl] at this
    rw [if_pos (by omega), if_pos (by omega), this, add1 i (by omega), ih (i + 1) (by omega) (by omega), List.drop_zero, List.drop_eq_getElem_cons hil]
    rw [show mayPL i (p.1[i] :: p.1.drop (i + 1)) = ((decide (mayS p.1[i] = 0) && (refsS p.1[i]).all fun r => decide (-(i : Int) ≤ r)) && mayPL (i + 1) (p.1.drop (i + 1))) from rfl]
    cases (refsS p.1[i]).all fun r => decide (-(i : Int) ≤ r) with
    | true =>
      rw [if_pos rfl, Bool.and_true]
      by_cases hm : mayS p.1[i] = 0
      · rw [if_pos hm, decide_eq_true hm, Bool.true_and]
      · rw [if_neg hm, decide_eq_false hm, Bool.false_and, Bool.false_and]
    | false => rw [if_neg (by simp), Bool.and_false, Bool.false_and, Bool.false_and]
theorem refmayp_any (p : PlanV) (h : okPl p) : ref18_May p = some (mayP p) := by
  rw [ref18_May.eq]
  exact refmayp_loop p h p.1.length 0 (by omega) (by omega)
theorem refdo_l0 (h : List NodeV) (p : PlanV) (hp : okPl p) (d : Nat) : ∀ (i : Nat) (acc : List Int), acc.length ≤ 2000 + 41 * i → i ≤ p.1.length → p.1.length - i = d →
    ref18_Do.l0 h i p acc = ref18_Do.l1 h 0 p (acc ++ refsL (p.1.drop i)) := by
  have hl := hp.len
  induction d with
  | zero =>
    intro i acc ha hi hd
    rw [ref18_Do.l0.eq]
    simp only [ltI_d, ofN_d, lenL_d, br_if]
    rw [if_neg (by omega), List.drop_eq_nil_of_le (by omega)]
    rw [show refsL [] = [] from rfl, List.append_nil]
  | succ d ih =>
    intro i acc ha hi hd
    have hil : i < p.1.length := by omega
    have o := hp.node _ (List.getElem_mem hil)
    have hrl := refsS_len p.1[i]
    have hkl := hp.few _ (List.getElem_mem hil)
    have hal : (acc ++ refsS p.1[i]).length ≤ 2000 + 41 * (i + 1) := by rw [List.length_append]; omega
    rw [ref18_Do.l0.eq, ixN p.1 i hil, refrefs_any _ o, bnd_some]
    simp only [ltI_d, leI_d, ofN_d, lenL_d, andB_d, br_if, fitL_d, appL_d]
    rw [if_pos (by omega), if_pos (by omega), if_pos (by omega), add1 i (by omega), ih (i + 1) _ hal (by omega) (by omega), List.drop_eq_getElem_cons hil]
    unfold refsL
    rw [List.flatMap_cons, List.append_assoc]
theorem refdo_l1 (h : List NodeV) (hh : h.length ≤ 40000000) (p : PlanV) (l : List Int) (hl : l.length ≤ 1000000) (d : Nat) : ∀ (i : Nat), i ≤ l.length → l.length - i = d →
    ref18_Do.l1 h i p l = if fitsL h (l.drop i) = true then ref18_Do.l2 0 p h [] else some ([], (0, (false, ()))) := by
  induction d with
  | zero =>
    intro i hi hd
    rw [ref18_Do.l1.eq]
    simp only [ltI_d, ofN_d, lenL_d, br_if, fitL_d, appL_d, List.nil_append]
    rw [if_neg (by omega), if_pos (by omega), List.drop_eq_nil_of_le (by omega)]
    rfl
  | succ d ih =>
    intro i hi hd
    have hil : i < l.length := by omega
    rw [ref18_Do.l1.eq, ixR l i hil]
    simp only [ltI_d, leI_d, ofN_d, lenL_d, andB_d, br_if]
    have e : fitsL h (l.drop i) = (decide (l[i] ≤ (h.length : Int)) && fitsL h (l.drop (i + 1))) := drop_all l i hil
    rw [if_pos (by omega), if_pos (by omega), add1 i (by omega), ih (i + 1) (by omega) (by omega), e]
    by_cases h1 : (h.length : Int) < l[i]
    · rw [if_pos h1, decide_eq_false (by omega), Bool.false_and, if_neg (by simp)]
    · rw [if_neg h1, decide_eq_true (by omega), Bool.true_and]
theorem refdo_l2 (p : PlanV) (hp : okPl p) (d : Nat) : ∀ (i : Nat) (out : List NodeV) (to : List Int), out.length ≤ 40000000 + i → to.length = i → i ≤ p.1.length → p.1.length - i = d →
    ref18_Do.l2 i p out to = some ((doL out to (p.1.drop i)).1, (refD (doL out to (p.1.drop i)).2 p.2.1, (true, ()))) := by
  have hl := hp.len
  induction d with
  | zero =>
    intro i out to h1 h2 hi hd
    rw [ref18_Do.l2.eq]
    simp only [ltI_d, ofN_d, lenL_d, br_if]
    rw [if_neg (by omega), refref_any _ hp.root to (by omega), bnd_some, List.drop_eq_nil_of_le (by omega)]
    rfl
  | succ d ih =>
    intro i out to h1 h2 hi hd
    have hil : i < p.1.length := by omega
    have hm := List.getElem_mem hil
    have o1 : (out ++ [fillS to p.1[i]]).length = out.length + 1 := by rw [List.length_append]; rfl
    have o2 : (to ++ [((out.length + 1 : Nat) : Int)]).length = to.length + 1 := by rw [List.length_append]; rfl
    rw [ref18_Do.l2.eq, ixN p.1 i hil, reffill_any to (by omega) _ (hp.node _ hm) (hp.rngs _ hm), bnd_some]
    simp only [ltI_d, leI_d, ofN_d, lenL_d, andB_d, br_if, fitL_d, appL_d]
    rw [o1, o2, if_pos (by omega), if_pos (by omega), if_pos (by omega), if_pos (by omega), add1 i (by omega), ih (i + 1) _ _ (by omega) (by omega) (by omega) (by omega), List.drop_eq_getElem_cons hil]
    rfl
theorem refdo_any (h : List NodeV) (hh : okH h) (p : PlanV) (hp : okPl p) : ref18_Do h p = some (if (mayP p && (mayH h && fitsP h p)) = true then ((doS h p).1, (refD (doS h p).2 p.2.1, (true, ()))) else ([], (0, (false, ())))) := by
  have hl := hh.len
  have hold := hp.old
  have hal : ([p.2.1] ++ p.2.2.1).length ≤ 2000 := by rw [List.length_append]; show 1 + _ ≤ _; omega
  have hrl := refsL_len p.1 hp.few
  have hpl := hp.len
  rw [ref18_Do.eq, refmayp_any p hp, bnd_some, refmayh_any h hh, bnd_some]
  cases h1 : mayP p with
  | false => rw [show notB false = true from rfl, br_t, Bool.false_and, if_neg (by simp)]
  | true =>
    rw [show notB true = false from rfl, br_f, Bool.true_and]
    cases h2 : mayH h with
    | false => rw [show notB false = true from rfl, br_t, Bool.false_and, if_neg (by simp)]
    | true =>
      rw [show notB true = false from rfl, br_f, Bool.true_and]
      simp only [fitL_d, appL_d, br_if]
      have e0 := refdo_l0 h p hp p.1.length 0 ([p.2.1] ++ p.2.2.1) (by omega) (by omega) (by omega)
      have e1 := refdo_l1 h hl p (([p.2.1] ++ p.2.2.1) ++ refsL p.1) (by rw [List.length_append]; omega) _ 0 (by omega) rfl
      have e2 := refdo_l2 p hp p.1.length 0 h [] (by omega) rfl (by omega) (by omega)
      rw [show ((0 : Nat) : Int) = 0 from rfl] at e0 e1 e2
      rw [List.drop_zero] at e0 e1 e2
      rw [if_pos (by show ([p.2.1] ++ p.2.2.1).length ≤ _; omega)]
      refine e0.trans (e1.trans ?_)
      have ef : fitsL h (([p.2.1] ++ p.2.2.1) ++ refsL p.1) = fitsP h p := by
        unfold fitsP fitsL
        rw [List.all_append, List.all_append, List.all_append, List.all_append]
        rw [Bool.and_comm ([p.2.1].all _)]
      rw [ef]
      cases fitsP h p with
      | false => rw [if_neg (by simp), if_neg (by simp)]
      | true => rw [if_pos rfl, if_pos rfl]; exact e2
end Go.Proofs.YtmopkbmcilolgaaGreat.AH
set_option linter.unusedVariables false
set_option linter.unusedSimpArgs false
namespace Go.Proofs.YtmopkbmcilolgaaGreat.AH
open Go.Abs
theorem refdo_plan {h news : List NodeV} (ho : okH h) (hm : mayH h = true) (P : PlanOK h news) (hn : news.length ≤ 1000) {root : Int} (lo : -(news.length : Int) ≤ root) (hi : root ≤ h.length) {old : List Int} (hol : old.length ≤ 1000) (hold : ∀ r ∈ old, 1 ≤ r ∧ r ≤ h.length) :
    ref18_Do h (news, (root, (old, ()))) = some (PS h news, (fillQ h.length root, (true, ()))) := by
  obtain ⟨ok, c, hd, hroot⟩ := do_pre ho hm P hn lo hi hol hold
  rw [refdo_any h ho _ ok, if_pos c, hd, hroot]
end Go.Proofs.YtmopkbmcilolgaaGreat.AH
set_option linter.unusedVariables false
set_option linter.unusedSimpArgs false
namespace Go.Proofs.YtmopkbmcilolgaaGreat.AH
open Go.Abs
theorem cloneN_any (l : List NodeV) (hl : l.length ≤ 50000000) : slices_Cloneapi_Node_api_Node l = some ((), (l, ())) := by
  rw [slices_Cloneapi_Node_api_Node.eq]
  simp only [ofN_d, lenL_d, eqI_d, br_if, fitL_d, appL_d, List.nil_append]
  by_cases h : l.length = 0
  · rw [if_pos (by omega), if_pos (by omega), List.eq_nil_of_length_eq_zero h, both_self]
  · rw [if_neg (by omega), if_pos (by omega)]
theorem refnew_any (k : Nat) (h : k ≤ 100000000) : ref_New (k : Int) = some (-(k : Int) - 1) := by
  rw [ref_New.eq, ltI_d, br_if, if_neg (by omega), subI_d (by omega) (by omega)]
  exact some_int (by omega)
theorem plAdd (x : Int) {n : NodeV} (o : okN n) (news : List NodeV) (hl : news.length ≤ 1000000) (old : List Int) : plan_Add ((), (x, ((), ()))) n news old = some ((((), (x, ((), ()))), (-(news.length : Int) - 1, ())), ((), (old, (news ++ [n], ())))) := by
  rw [plan_Add.eq, cloneN_any news (by omega), bnd_some, copy_any n o, bnd_some]
  show br (fitL tapiNode (news ++ [n])) (bnd (ref_New (subI .i64 (((news ++ [n]).length : Nat) : Int) 1)) fun r2 => some ((((), (x, ((), ()))), (r2, ())), ((), (old, (news ++ [n], ()))))) none = _
  have e : (news ++ [n]).length = news.length + 1 := by rw [List.length_append]; rfl
  rw [fitL_d, decide_eq_true (by omega), br_t, e, show subI .i64 ((news.length + 1 : Nat) : Int) 1 = (news.length : Int) by rw [subI_d (by omega) (by omega)]; omega, refnew_any _ (by omega), bnd_some]
end Go.Proofs.YtmopkbmcilolgaaGreat.AH
