/- Texts of one proof, laid together: how the interpreter's words stand for the program's code and what the functions do. No conditions but those that each lemma names. -/
import Derived.Test.YtmopkbmcilolgaaGreatM5
import Derived.Test.YtmopkbmcilolgaaGreatM4
set_option linter.unusedSimpArgs false
set_option linter.unusedVariables false
set_option linter.unusedSimpArgs false
namespace Go.Proofs.YtmopkbmcilolgaaGreat.AH
open Go.Abs
theorem with_any {n : NodeV} {a b : Int} (hk : n.2.2.2.2.1 = [a, b]) {side : Int} (hs : side = 0 ∨ side = 1) (r z : Int) : split_with n side r z = some (sideN n side r z) := by
  rw [split_with.eq, hk, cloneR_any _ (by show 2 ≤ _; omega), bnd_some]
  unfold sideN
  rw [hk]
  rcases hs with rfl | rfl
  · show br true (br true (br true (both _ _) none) none) none = _
    rw [br_t, br_t, br_t, both_self, node_Tree.eq, bnd_some]
    rfl
  · show br true (br true (br true (both _ _) none) none) none = _
    rw [br_t, br_t, br_t, both_self, node_Tree.eq, bnd_some]
    rfl
/-! ### Backwards -/
theorem back_loop (l : List StepV) (hl : l.length ≤ 50000000) : ∀ (n : Nat), n ≤ l.length → ∃ ys : List (Int × StepV × Unit), slices_Backwardsplit_step_split_step_1.l0 l ((n : Int) - 1) = some ys ∧ ys.map (fun y => y.2.1) = (l.take n).reverse
  | 0, _ => by
    refine ⟨[], ?_, rfl⟩
    rw [slices_Backwardsplit_step_split_step_1.l0.eq]
    rfl
  | n + 1, h => by
    obtain ⟨ys, e, m⟩ := back_loop l hl n (by omega)
    have hi : n < l.length := by omega
    have ex : ixL tsplitstep l (((n + 1 : Nat) : Int) - 1) = l[n] := by
      rw [show ((n + 1 : Nat) : Int) - 1 = (n : Int) by omega]
      exact ixL_d tsplitstep l n hi
    have es : subI .i64 (((n + 1 : Nat) : Int) - 1) 1 = (n : Int) - 1 := by rw [subI_d (by omega) (by omega)]; omega
    refine ⟨(((n + 1 : Nat) : Int) - 1, (l[n], ())) :: ys, ?_, ?_⟩
    · rw [slices_Backwardsplit_step_split_step_1.l0.eq, yieldW_eq, ex, es, e, show notB true = false from rfl, show notB false = true from rfl, br_f, br_t]
      simp only [leI_d, ltI_d, andB_d, ofN_d, lenL_d, br_if]
      rw [if_pos (by omega), if_pos (by omega)]
      exact yieldL_iff.2 ⟨rfl, ys, rfl, rfl⟩
    · rw [List.map_cons, m, List.take_succ_eq_append_getElem hi, List.reverse_append]
      rfl
theorem back_any (l : List StepV) (hl : l.length ≤ 50000000) : ∃ ys : List (Int × StepV × Unit), slices_Backwardsplit_step_split_step_1 l = some ys ∧ ys.map (fun y => y.2.1) = l.reverse := by
  obtain ⟨ys, e, m⟩ := back_loop l hl l.length (Nat.le_refl _)
  rw [List.take_length] at m
  refine ⟨ys, ?_, m⟩
  rw [slices_Backwardsplit_step_split_step_1.eq, show subI .i64 (ofN (lenL tsplitstep l)) 1 = (l.length : Int) - 1 from subI_d (by show _ ≤ ((l.length : Nat) : Int) - 1; omega) (by show ((l.length : Nat) : Int) - 1 ≤ _; omega)]
  exact e
/-! ### A call -/
abbrev SplitO : Type := Int × ByteArray × ByteArray × ByteArray × Int × Unit × Int × Int × ByteArray × ByteArray × Int × List Int × Int × List PairV × Int × Int × Int × Bool × Unit
abbrev SplitF : Type := Int × ByteArray × ByteArray × ByteArray × Int × List StepV × Int × Int × ByteArray × ByteArray × Int × List Int × Int × List PairV × Int × Int × Int × Bool × Unit
def spO (how : Int) (key val old : ByteArray) (want : Int) (e : StepV) (found : Bool) : SplitO := (how, (key, (val, (old, (want, ((), (e.1, (e.2.1, (e.2.2.1, (e.2.2.2.1, (e.2.2.2.2.1, (e.2.2.2.2.2.1, (e.2.2.2.2.2.2.1, (e.2.2.2.2.2.2.2.1, (e.2.2.2.2.2.2.2.2.1, (e.2.2.2.2.2.2.2.2.2.1, (e.2.2.2.2.2.2.2.2.2.2.1, (found, ()))))))))))))))))))
def spF (how : Int) (key val old : ByteArray) (want : Int) (way : List StepV) (e : StepV) (found : Bool) : SplitF := (how, (key, (val, (old, (want, (way, (e.1, (e.2.1, (e.2.2.1, (e.2.2.2.1, (e.2.2.2.2.1, (e.2.2.2.2.2.1, (e.2.2.2.2.2.2.1, (e.2.2.2.2.2.2.2.1, (e.2.2.2.2.2.2.2.2.1, (e.2.2.2.2.2.2.2.2.2.1, (e.2.2.2.2.2.2.2.2.2.2.1, (found, ()))))))))))))))))))
def noSt : StepV := stV 0 zeroN 0
theorem snew_any (root how : Int) (key val old : ByteArray) : split_New root how key val old = some ((), (spO how key val old root noSt false, ([], ()))) := split_New.eq _ _ _ _ _
theorem swant_any (how : Int) (key val old : ByteArray) (want : Int) (e : StepV) (found : Bool) (W : List StepV) : split_Split_Want (spO how key val old want e found) W = some (want, (spO how key val old want e found, (W, ()))) := split_Split_Want.eq _ _
theorem fitW (W : List StepV) (x : StepV) (h : W.length ≤ 2000000) : fitL tsplitstep (appL tsplitstep W [x]) = true := by
  rw [fitL_d, appL_d]
  exact decide_eq_true (by rw [List.length_append]; simp only [List.length_cons, List.length_nil]; omega)
/-- A node of a tree is fed. -/
theorem sfeed_any (how : Int) {key : ByteArray} (hkey : key.size ≤ 2000000) (val old : ByteArray) {r : Int} (hr : r ≠ 0) (e : StepV) (W : List StepV) (hW : W.length ≤ 2000000) {n : NodeV} (h4 : n.1 = 4) {a b : Int} (hk : n.2.2.2.2.1 = [a, b]) :
    split_Split_Feed n (spO how key val old r e false) W = if key = n.2.1 then some ((), (spO how key val old 0 (stV r n 0) true, (W, ()))) else if lt key n.2.1 = true then some ((), (spO how key val old a e false, (W ++ [stV r n 0], ()))) else some ((), (spO how key val old b e false, (W ++ [stV r n 1], ()))) := by
  have hl : ofN (lenL (.int .i64) n.2.2.2.2.1) = 2 := by rw [hk]; rfl
  have i0 : andB (leI 0 0) (ltI 0 (ofN (lenL (.int .i64) n.2.2.2.2.1))) = true := by rw [hk]; rfl
  have i1 : andB (leI 0 1) (ltI 1 (ofN (lenL (.int .i64) n.2.2.2.2.1))) = true := by rw [hk]; rfl
  have x0 : ixL (.int .i64) n.2.2.2.2.1 0 = a := by rw [hk]; rfl
  have x1 : ixL (.int .i64) n.2.2.2.2.1 1 = b := by rw [hk]; rfl
  rw [split_Split_Feed.eq, swant_any, bnd_some]
  dsimp only
  rw [eqI_d, decide_eq_false hr, br_f, eqI_d, decide_eq_true h4, show notB true = false from rfl, br_f, hl, show notB (eqI 2 2) = false from rfl, split_Split_Feed.j0.eq, br_f]
  have hc : order_Compare (spO how key val old r e false).2.1 n.2.1 = some (cmp key n.2.1) := compare_any key n.2.1 (by omega)
  have hc' : order_Compare ((spO how key val old r e false).1, ((spO how key val old r e false).2.1, ((spO how key val old r e false).2.2.1, ((spO how key val old r e false).2.2.2.1, ((0 : Int), (spO how key val old r e false).2.2.2.2.2))))).2.1 n.2.1 = some (cmp key n.2.1) := hc
  rw [hc', bnd_some, eqI_d, br_if]
  by_cases c0 : key = n.2.1
  · rw [if_pos c0, if_pos (cmp_eq.2 c0)]
    rfl
  · rw [if_neg c0, if_neg (fun q => c0 (cmp_eq.1 q)), ltI_d, br_if]
    by_cases c1 : lt key n.2.1 = true
    · rw [if_pos c1, if_neg (fun q => by have := cmp_pos.1 q; rw [lt_asymm c1] at this; cases this), split_Split_Feed.j1.eq, i0, br_t, x0]
      have := fitW W (stV r n 0) hW
      exact (congrArg (fun z => br z _ none) this)
    · have c2 : lt n.2.1 key = true := by
        rcases tri key n.2.1 with ⟨q, _⟩ | ⟨q, _⟩ | ⟨q, _⟩
        · exact absurd q c1
        · exact absurd q c0
        · exact q
      rw [if_neg c1, if_pos (cmp_pos.2 c2), split_Split_Feed.j1.eq, i1, br_t, x1]
      have := fitW W (stV r n 1) hW
      exact (congrArg (fun z => br z _ none) this)
theorem schange_any (how : Int) (key val old : ByteArray) (way : List StepV) (e : StepV) (found : Bool) : split_Split_changes_o (spF how key val old 0 way e found) = some (decide (how = 1 ∨ (how = 2 ∧ found = false) ∨ (how = 3 ∧ found = true ∧ e.2.2.2.1 = old)), (spF how key val old 0 way e found, ())) := by
  rw [split_Split_changes_o.eq]
  unfold spF
  simp only [eqI_d, eqS_d, notB_d, br_if]
  rw [if_neg (by simp)]
  by_cases h1 : how = 1
  · rw [if_pos h1, decide_eq_true (.inl h1)]
  rw [if_neg h1]
  by_cases h2 : how = 2
  · rw [if_pos h2]
    cases found with
    | false => rw [decide_eq_true (.inr (.inl ⟨h2, rfl⟩))]; rfl
    | true => rw [decide_eq_false (by rintro (q | ⟨_, q⟩ | ⟨q, _⟩); exact h1 q; cases q; omega)]; rfl
  rw [if_neg h2]
  by_cases h3 : how = 3
  · rw [if_pos h3]
    cases found with
    | false => rw [br_f, decide_eq_false (by rintro (q | ⟨q, _⟩ | ⟨_, q, _⟩); exact h1 q; omega; cases q)]
    | true =>
      rw [br_t]
      by_cases q : e.2.2.2.1 = old
      · rw [decide_eq_true q, decide_eq_true (.inr (.inr ⟨h3, rfl, q⟩))]
      · rw [decide_eq_false q, decide_eq_false (by rintro (q' | ⟨q', _⟩ | ⟨_, _, q'⟩); exact h1 q'; omega; exact q q')]
  · rw [if_neg h3, decide_eq_false (by rintro (q | ⟨q, _⟩ | ⟨q, _⟩); exact h1 q; exact h2 q; exact h3 q)]
def upL (more : Int) : List StepV → List NodeV × List Int × Int → List NodeV × List Int × Int
  | [], s => s
  | x :: xs, s => upL more xs (s.1 ++ [sideN x.node x.side s.2.2 (x.node.2.2.2.2.2.2.2.1 + more)], (s.2.1 ++ [x.1], -(s.1.length : Int) - 1))
theorem plan_e1 {more : Int} (hm : 0 ≤ more ∧ more ≤ 1) (x0 x1 x3 x5 x6) : ∀ (ys : List (Int × StepV × Unit)) (xs : List StepV) (news : List NodeV) (old : List Int) (r : Int), ys.map (fun y => y.2.1) = xs → (∀ x ∈ xs, okSt x) → news.length + xs.length ≤ 10000 → old.length + xs.length ≤ 10000 →
    split_Split_Plan.e1 ys x0 x1 more x3 r x5 x6 news old = some ((((), ((upL more xs (news, (old, r))).2.2, ((), ()))), (true, ())), (x0, ((), ((upL more xs (news, (old, r))).1, ((upL more xs (news, (old, r))).2.1, ())))))
  | [], xs, news, old, r, e, _, _, _ => by
    cases e
    rw [split_Split_Plan.e1.nil]
    rfl
  | y :: ys, xs, news, old, r, e, ho, h1, h2 => by
    cases e
    simp only [List.map_cons, List.length_cons] at h1 h2
    have o := ho y.2.1 (by simp)
    obtain ⟨a, b, hk⟩ := o.kids
    have hz := o.sz
    have ea : addI .i64 y.2.1.node.2.2.2.2.2.2.2.1 more = y.2.1.node.2.2.2.2.2.2.2.1 + more := addI_d (by omega) (by omega)
    have hfit : fitL (.int .i64) (appL (.int .i64) old (y.2.1.1 :: [])) = true := by
      rw [fitL_d, appL_d]
      exact decide_eq_true (by rw [List.length_append]; simp only [List.length_cons, List.length_nil]; omega)
    have hw : split_with y.2.1.node y.2.1.side r (addI .i64 y.2.1.node.2.2.2.2.2.2.2.1 more) = some (sideN y.2.1.node y.2.1.side r (y.2.1.node.2.2.2.2.2.2.2.1 + more)) := by rw [ea]; exact with_any hk o.side _ _
    rw [split_Split_Plan.e1.cons, hfit, br_t]
    show bnd (split_with y.2.1.node y.2.1.side r (addI .i64 y.2.1.node.2.2.2.2.2.2.2.1 more)) _ = _
    rw [hw, bnd_some, plAdd _ (sideN_ok o.key o.val _ _ _) news (by omega), bnd_some]
    have ih := plan_e1 hm x0 ((), (x1.2.1, ((), ()))) ((), (x3.2.1, ((), ()))) x5 x6 ys (ys.map fun y => y.2.1) (news ++ [sideN y.2.1.node y.2.1.side r (y.2.1.node.2.2.2.2.2.2.2.1 + more)]) (old ++ [y.2.1.1]) (-(news.length : Int) - 1) rfl (fun x hx => ho x (List.mem_cons_of_mem _ hx)) (by rw [List.length_append]; simp only [List.length_cons, List.length_nil]; omega) (by rw [List.length_append]; simp only [List.length_cons, List.length_nil]; omega)
    exact ih
/-! ### The way, cut -/
abbrev HalfV : Type := Int × Int × Unit
structure CutV where
  news : List NodeV
  old : List Int
  a : HalfV
  b : HalfV
  below : Int
def cutL : List StepV → CutV → CutV
  | [], s => s
  | x :: xs, s => cutL xs (if x.side = 1 then ⟨s.news ++ [sideN x.node x.side s.a.1 (s.a.2.1 + x.node.2.2.2.2.2.2.2.1 - s.below)], s.old ++ [x.1], (-(s.news.length : Int) - 1, (s.a.2.1 + x.node.2.2.2.2.2.2.2.1 - s.below, ())), s.b, x.node.2.2.2.2.2.2.2.1⟩
      else ⟨s.news ++ [sideN x.node x.side s.b.1 (s.b.2.1 + x.node.2.2.2.2.2.2.2.1 - s.below)], s.old ++ [x.1], s.a, (-(s.news.length : Int) - 1, (s.b.2.1 + x.node.2.2.2.2.2.2.2.1 - s.below, ())), x.node.2.2.2.2.2.2.2.1⟩)
theorem one_sub1 : subI .i64 (1 : Int) 1 = 0 := subI_d (by omega) (by omega)
theorem one_sub0 : subI .i64 (1 : Int) 0 = 1 := subI_d (by omega) (by omega)
/-- A half that is in bounds. -/
def okHf (K : Nat) (a : HalfV) : Prop := -(2000000 * (K : Int)) ≤ a.2.1 ∧ a.2.1 ≤ 2000000 * (K : Int)
theorem cut_e1 (x0 x3 x4 x5 x9 x10) : ∀ (ys : List (Int × StepV × Unit)) (xs : List StepV) (s : CutV) (x2) (K : Nat), ys.map (fun y => y.2.1) = xs → (∀ x ∈ xs, okSt x) → s.news.length + xs.length ≤ 10000 → s.old.length + xs.length ≤ 10000 → K + xs.length ≤ 10001 → okHf K s.a → okHf K s.b → 0 ≤ s.below → s.below ≤ 2000000 →
    split_Split_cut.e1 ys x0 s.old x2 x3 x4 x5 [s.a, s.b] s.below s.news x9 x10 = some ((((), (x2.2.1, ((), ()))), ((cutL xs s).a, ((cutL xs s).b, ()))), (x0, ((cutL xs s).news, ((cutL xs s).old, ()))))
  | [], xs, s, x2, K, e, _, _, _, _, _, _, _, _ => by
    cases e
    rw [split_Split_cut.e1.nil]
    show br true (br true (both (both _ (both _ _)) (both (both _ _) (both _ _))) none) none = _
    simp only [br_t, both_self]
    rfl
  | y :: ys, xs, s, x2, K, e, ho, h1, h2, h3, ha, hb, hb0, hb1 => by
    cases e
    simp only [List.map_cons, List.length_cons] at h1 h2 h3
    have o := ho y.2.1 (by simp)
    obtain ⟨a, b, hk⟩ := o.kids
    have hz := o.sz
    unfold okHf at ha hb
    have hfit : fitL (.int .i64) (appL (.int .i64) s.old (y.2.1.1 :: [])) = true := by
      rw [fitL_d, appL_d]
      exact decide_eq_true (by rw [List.length_append]; simp only [List.length_cons, List.length_nil]; omega)
    have hsz : ∀ z : Int, -(2000000 * (K : Int)) ≤ z → z ≤ 2000000 * (K : Int) → subI .i64 (addI .i64 z y.2.1.node.2.2.2.2.2.2.2.1) s.below = z + y.2.1.node.2.2.2.2.2.2.2.1 - s.below := fun z z1 z2 => by
      rw [addI_d (by omega) (by omega), subI_d (by omega) (by omega)]
    have l1 : ∀ n : NodeV, (s.news ++ [n]).length = s.news.length + 1 := fun n => by rw [List.length_append]; rfl
    have l2 : (s.old ++ [y.2.1.1]).length = s.old.length + 1 := by rw [List.length_append]; rfl
    rw [split_Split_cut.e1.cons, hfit, br_t]
    rcases o.side with hs | hs
    · have hs' : y.2.1.2.2.2.2.2.2.2.2.2.2.1 = 0 := hs
      have hw : split_with y.2.1.node 0 s.b.1 (subI .i64 (addI .i64 s.b.2.1 y.2.1.node.2.2.2.2.2.2.2.1) s.below) = some (sideN y.2.1.node 0 s.b.1 (s.b.2.1 + y.2.1.node.2.2.2.2.2.2.2.1 - s.below)) := by rw [hsz _ hb.1 hb.2]; exact with_any hk (.inl rfl) _ _
      rw [hs', one_sub0]
      show br true (bnd (split_with y.2.1.node 0 s.b.1 (subI .i64 (addI .i64 s.b.2.1 y.2.1.node.2.2.2.2.2.2.2.1) s.below)) _) none = _
      rw [br_t, hw, bnd_some, plAdd _ (sideN_ok o.key o.val _ _ _) s.news (by omega), bnd_some]
      have hz' : subI .i64 (addI .i64 (ixL tsplithalf [s.a, s.b] 1).2.1 y.2.1.2.2.2.2.2.2.2.2.1) s.below = s.b.2.1 + y.2.1.node.2.2.2.2.2.2.2.1 - s.below := hsz _ hb.1 hb.2
      rw [hz']
      have ih := cut_e1 x0 ((), (x3.2.1, ((), ()))) x4 x5 x9 x10 ys (ys.map fun y => y.2.1) ⟨s.news ++ [sideN y.2.1.node 0 s.b.1 (s.b.2.1 + y.2.1.node.2.2.2.2.2.2.2.1 - s.below)], s.old ++ [y.2.1.1], s.a, (-(s.news.length : Int) - 1, (s.b.2.1 + y.2.1.node.2.2.2.2.2.2.2.1 - s.below, ())), y.2.1.node.2.2.2.2.2.2.2.1⟩ ((), (x2.2.1, ((), ()))) (K + 1) rfl (fun x hx => ho x (List.mem_cons_of_mem _ hx)) (by dsimp only; rw [l1]; omega) (by dsimp only; rw [l2]; omega) (by omega) (by unfold okHf; dsimp only; omega) (by unfold okHf; dsimp only; omega) hz.1 hz.2
      have ec : cutL (y.2.1 :: ys.map fun y => y.2.1) s = cutL (ys.map fun y => y.2.1) ⟨s.news ++ [sideN y.2.1.node 0 s.b.1 (s.b.2.1 + y.2.1.node.2.2.2.2.2.2.2.1 - s.below)], s.old ++ [y.2.1.1], s.a, (-(s.news.length : Int) - 1, (s.b.2.1 + y.2.1.node.2.2.2.2.2.2.2.1 - s.below, ())), y.2.1.node.2.2.2.2.2.2.2.1⟩ := by
        rw [cutL, if_neg (by rw [hs]; omega), hs]
      rw [List.map_cons, ec]
      exact ih
    · have hs' : y.2.1.2.2.2.2.2.2.2.2.2.2.1 = 1 := hs
      have hw : split_with y.2.1.node 1 s.a.1 (subI .i64 (addI .i64 s.a.2.1 y.2.1.node.2.2.2.2.2.2.2.1) s.below) = some (sideN y.2.1.node 1 s.a.1 (s.a.2.1 + y.2.1.node.2.2.2.2.2.2.2.1 - s.below)) := by rw [hsz _ ha.1 ha.2]; exact with_any hk (.inr rfl) _ _
      rw [hs', one_sub1]
      show br true (bnd (split_with y.2.1.node 1 s.a.1 (subI .i64 (addI .i64 s.a.2.1 y.2.1.node.2.2.2.2.2.2.2.1) s.below)) _) none = _
      rw [br_t, hw, bnd_some, plAdd _ (sideN_ok o.key o.val _ _ _) s.news (by omega), bnd_some]
      have hz' : subI .i64 (addI .i64 (ixL tsplithalf [s.a, s.b] 0).2.1 y.2.1.2.2.2.2.2.2.2.2.1) s.below = s.a.2.1 + y.2.1.node.2.2.2.2.2.2.2.1 - s.below := hsz _ ha.1 ha.2
      rw [hz']
      have ih := cut_e1 x0 ((), (x3.2.1, ((), ()))) x4 x5 x9 x10 ys (ys.map fun y => y.2.1) ⟨s.news ++ [sideN y.2.1.node 1 s.a.1 (s.a.2.1 + y.2.1.node.2.2.2.2.2.2.2.1 - s.below)], s.old ++ [y.2.1.1], (-(s.news.length : Int) - 1, (s.a.2.1 + y.2.1.node.2.2.2.2.2.2.2.1 - s.below, ())), s.b, y.2.1.node.2.2.2.2.2.2.2.1⟩ ((), (x2.2.1, ((), ()))) (K + 1) rfl (fun x hx => ho x (List.mem_cons_of_mem _ hx)) (by dsimp only; rw [l1]; omega) (by dsimp only; rw [l2]; omega) (by omega) (by unfold okHf; dsimp only; omega) (by unfold okHf; dsimp only; omega) hz.1 hz.2
      have ec : cutL (y.2.1 :: ys.map fun y => y.2.1) s = cutL (ys.map fun y => y.2.1) ⟨s.news ++ [sideN y.2.1.node 1 s.a.1 (s.a.2.1 + y.2.1.node.2.2.2.2.2.2.2.1 - s.below)], s.old ++ [y.2.1.1], (-(s.news.length : Int) - 1, (s.a.2.1 + y.2.1.node.2.2.2.2.2.2.2.1 - s.below, ())), s.b, y.2.1.node.2.2.2.2.2.2.2.1⟩ := by
        rw [cutL, if_pos hs, hs]
      rw [List.map_cons, ec]
      exact ih
end Go.Proofs.YtmopkbmcilolgaaGreat.AH
set_option linter.unusedVariables false
set_option linter.unusedSimpArgs false
namespace Go.Proofs.YtmopkbmcilolgaaGreat.AH
open Go.Abs
theorem subS_pre (l : List StepV) (i : Nat) : subL tsplitstep l (toN 0) (toN (i : Int)) = l.take i := by
  rw [toN_d, show toN 0 = 0 from rfl]; exact subL0 _ _ _
theorem subS_suf (l : List StepV) (i : Nat) : subL tsplitstep l (toN (i : Int)) (toN (ofN (lenL tsplitstep l))) = l.drop i := by
  rw [toN_d, ofN_d, toN_d]
  unfold subL lenL
  exact List.take_of_length_le (by rw [List.length_drop]; omega)
def noHf : HalfV := (0, (0, ()))
theorem cut_e0 (ys : List (Int × StepV × Unit)) (x0 x1 x2 x3 x4 x5 x6 x7 x8 x9 x10) : split_Split_cut.e0 ys x0 x1 x2 x3 x4 x5 x6 x7 x8 x9 x10 = split_Split_cut.e1 ys x0 x2 x3 x4 x5 x6 x7 x8 x1 x9 x10 := by
  cases ys with
  | nil => exact (split_Split_cut.e0.nil ..).trans (split_Split_cut.e1.nil ..).symm
  | cons y ys => exact (split_Split_cut.e0.cons ..).trans (split_Split_cut.e1.cons ..).symm
theorem cutL_ok : ∀ (xs : List StepV) (s : CutV) (K : Nat), (∀ x ∈ xs, okSt x) → okHf K s.a → okHf K s.b → 0 ≤ s.below → s.below ≤ 2000000 → okHf (K + xs.length) (cutL xs s).a ∧ okHf (K + xs.length) (cutL xs s).b ∧ (cutL xs s).news.length = s.news.length + xs.length ∧ (cutL xs s).old.length = s.old.length + xs.length
  | [], s, K, _, ha, hb, _, _ => ⟨ha, hb, rfl, rfl⟩
  | x :: xs, s, K, ho, ha, hb, h0, h1 => by
    have o := ho x List.mem_cons_self
    have hz := o.sz
    have l1 : ∀ n : NodeV, (s.news ++ [n]).length = s.news.length + 1 := fun n => by rw [List.length_append]; rfl
    have l2 : (s.old ++ [x.1]).length = s.old.length + 1 := by rw [List.length_append]; rfl
    unfold okHf at ha hb
    rw [cutL]
    split
    · obtain ⟨i1, i2, i3, i4⟩ := cutL_ok xs ⟨s.news ++ [sideN x.node x.side s.a.1 (s.a.2.1 + x.node.2.2.2.2.2.2.2.1 - s.below)], s.old ++ [x.1], (-(s.news.length : Int) - 1, (s.a.2.1 + x.node.2.2.2.2.2.2.2.1 - s.below, ())), s.b, x.node.2.2.2.2.2.2.2.1⟩ (K + 1) (fun y hy => ho y (List.mem_cons_of_mem _ hy)) (by unfold okHf; dsimp only; omega) (by unfold okHf; dsimp only; omega) hz.1 hz.2
      rw [List.length_cons, show K + (xs.length + 1) = K + 1 + xs.length by omega]
      dsimp only at i3 i4
      rw [l1] at i3
      rw [l2] at i4
      exact ⟨i1, i2, by omega, by omega⟩
    · obtain ⟨i1, i2, i3, i4⟩ := cutL_ok xs ⟨s.news ++ [sideN x.node x.side s.b.1 (s.b.2.1 + x.node.2.2.2.2.2.2.2.1 - s.below)], s.old ++ [x.1], s.a, (-(s.news.length : Int) - 1, (s.b.2.1 + x.node.2.2.2.2.2.2.2.1 - s.below, ())), x.node.2.2.2.2.2.2.2.1⟩ (K + 1) (fun y hy => ho y (List.mem_cons_of_mem _ hy)) (by unfold okHf; dsimp only; omega) (by unfold okHf; dsimp only; omega) hz.1 hz.2
      rw [List.length_cons, show K + (xs.length + 1) = K + 1 + xs.length by omega]
      dsimp only at i3 i4
      rw [l1] at i3
      rw [l2] at i4
      exact ⟨i1, i2, by omega, by omega⟩
theorem cut_any (how : Int) (key val old : ByteArray) (way : List StepV) (e : StepV) (found : Bool) {i : Nat} (hi : i ≤ way.length) (hl : way.length ≤ 1000) (ho : ∀ x ∈ way, okSt x) (z : Int) :
    split_Split_cut ((), (z, ((), ()))) (i : Int) (spF how key val old 0 way e found) [] [] = some ((((), (z, ((), ()))), ((cutL (way.drop i).reverse ⟨[], [], noHf, noHf, 0⟩).a, ((cutL (way.drop i).reverse ⟨[], [], noHf, noHf, 0⟩).b, ()))), (spF how key val old 0 way e found, ((cutL (way.drop i).reverse ⟨[], [], noHf, noHf, 0⟩).news, ((cutL (way.drop i).reverse ⟨[], [], noHf, noHf, 0⟩).old, ())))) := by
  obtain ⟨ys, e1, e2⟩ := back_any (way.drop i) (by rw [List.length_drop]; omega)
  have hin : andB (leI 0 (i : Int)) (andB (leI (i : Int) (ofN (lenL tsplitstep way))) (leI (ofN (lenL tsplitstep way)) (ofN (lenL tsplitstep way)))) = true := by
    simp only [leI_d, andB_d, ofN_d, lenL_d]
    exact decide_eq_true (by omega)
  rw [split_Split_cut.eq]
  show br (andB (leI 0 (i : Int)) (andB (leI (i : Int) (ofN (lenL tsplitstep way))) (leI (ofN (lenL tsplitstep way)) (ofN (lenL tsplitstep way))))) (bnd (slices_Backwardsplit_step_split_step (subL tsplitstep way (toN (i : Int)) (toN (ofN (lenL tsplitstep way))))) _) none = _
  rw [hin, br_t, subS_suf, slices_Backwardsplit_step_split_step.eq, bnd_some]
  dsimp only
  rw [e1, bnd_some, cut_e0]
  have hlen : (way.drop i).reverse.length ≤ 1000 := by rw [List.length_reverse, List.length_drop]; omega
  exact cut_e1 (spF how key val old 0 way e found) _ _ _ _ _ ys (way.drop i).reverse ⟨[], [], noHf, noHf, 0⟩ ((), (z, ((), ()))) 0 e2 (fun x hx => ho x (List.mem_of_mem_drop (List.mem_reverse.1 hx))) (by dsimp only [List.length_nil]; omega) (by dsimp only [List.length_nil]; omega) (by omega) ⟨by decide, by decide⟩ ⟨by decide, by decide⟩ (Int.le_refl _) (by decide)
/-! ### From where on the way is below the new node -/
theorem idx_loop (how : Int) {key : ByteArray} (hkey : key.size ≤ 2000000) (val old : ByteArray) (way : List StepV) (e : StepV) (found : Bool) (hl : way.length ≤ 1000) (ho : ∀ x ∈ way, okSt x) (d : Nat) : ∀ i : Nat, i ≤ way.length → way.length - i = d → (∀ (j : Nat) (hj : j < way.length), j < i → above key way[j].node.2.1 = false) →
    ∃ f : Nat, f ≤ way.length ∧ (∀ (j : Nat) (hj : j < way.length), j < f → above key way[j].node.2.1 = false) ∧ (∀ hf : f < way.length, above key way[f].node.2.1 = true) ∧
      slices_IndexFuncsplit_step_split_step.l0 way ((), ()) (way.length : Int) (i : Int) (spF how key val old 0 way e found) = some ((if f < way.length then (f : Int) else -1), ((), (spF how key val old 0 way e found, ()))) := by
  induction d with
  | zero =>
    intro i h1 h2 h3
    refine ⟨way.length, Nat.le_refl _, fun j hj _ => h3 j hj (by omega), fun hf => absurd hf (by omega), ?_⟩
    rw [slices_IndexFuncsplit_step_split_step.l0.eq, ltI_d, br_if, if_neg (by omega), if_neg (by omega)]
  | succ d ih =>
    intro i h1 h2 h3
    have hi : i < way.length := by omega
    have o := ho way[i] (List.getElem_mem hi)
    have ho1 := o.key
    have ex : ixL tsplitstep way (i : Int) = way[i] := ixL_d tsplitstep way i hi
    have hab : pri_Above (spF how key val old 0 way e found).2.1 way[i].2.2.1 = some (above key way[i].node.2.1) := above_any key way[i].node.2.1 (by omega) (by omega)
    rw [slices_IndexFuncsplit_step_split_step.l0.eq, ex, split_Split_bottom_1.eq, hab, bnd_some, bnd_some]
    simp only [ltI_d, leI_d, andB_d, ofN_d, lenL_d, br_if]
    rw [if_pos (by omega), if_pos (by omega), add1 i (by omega)]
    cases hc : above key way[i].node.2.1 with
    | true =>
      refine ⟨i, by omega, h3, fun _ => hc, ?_⟩
      rw [br_t, if_pos hi]
    | false =>
      rw [br_f]
      refine ih (i + 1) (by omega) (by omega) fun j hj hji => ?_
      by_cases q : j = i
      · subst q; exact hc
      · exact h3 j hj (by omega)
def cutWay (way : List StepV) (f : Nat) : CutV := cutL (way.drop f).reverse ⟨[], [], noHf, noHf, 0⟩
/-- What stands at the bottom: a new node, above what the way is cut into. -/
def botN (key val : ByteArray) (way : List StepV) (f : Nat) : PlanS := ((cutWay way f).news ++ [treeI key val (cutWay way f).a.1 (cutWay way f).b.1 ((cutWay way f).a.2.1 + (cutWay way f).b.2.1 + 1)], ((cutWay way f).old, -((cutWay way f).news.length : Int) - 1))
/-- The same, where the key is found. -/
def botF (key val : ByteArray) (e : StepV) : PlanS := ([treeI key val (e.node.2.2.2.2.1.getD 0 0) (e.node.2.2.2.2.1.getD 1 0) e.node.2.2.2.2.2.2.2.1], ([e.1], -1))
theorem bot_found (how : Int) {key val : ByteArray} (hkey : key.size ≤ 40) (hval : val.size ≤ 40) (old : ByteArray) (way : List StepV) (e : StepV) {a b : Int} (hk : e.node.2.2.2.2.1 = [a, b]) :
    split_Split_bottom ((), ((0 : Int), ((), ()))) (spF how key val old 0 way e true) = some ((((), ((0 : Int), ((), ()))), ((botF key val e).2.2, ((way.length : Int), ()))), (spF how key val old 0 way e true, ((botF key val e).1, ((botF key val e).2.1, ())))) := by
  have hk' : (spF how key val old 0 way e true).2.2.2.2.2.2.2.2.2.2.2.1 = [a, b] := hk
  have hb : botF key val e = ([treeI key val a b e.node.2.2.2.2.2.2.2.1], ([e.1], -1)) := by unfold botF; rw [hk]; rfl
  have hadd : plan_Add ((), ((0 : Int), ((), ()))) (treeI key val a b e.node.2.2.2.2.2.2.2.1) [] [e.1] = _ := plAdd 0 (treeI_ok hkey hval a b _) [] (by show 0 ≤ _; omega) [e.1]
  rw [hb, split_Split_bottom.eq, hk']
  show br true (br true (br true (br true (both (bnd (node_Tree key val a b e.node.2.2.2.2.2.2.2.1) _) (bnd (node_Tree key val a b e.node.2.2.2.2.2.2.2.1) _)) none) none) none) _ = _
  rw [br_t, br_t, br_t, br_t, node_Tree.eq, bnd_some, bnd_some]
  show both (both (bnd (plan_Add ((), ((0 : Int), ((), ()))) (treeI key val a b e.node.2.2.2.2.2.2.2.1) [] [e.1]) _) (bnd (plan_Add ((), ((0 : Int), ((), ()))) (treeI key val a b e.node.2.2.2.2.2.2.2.1) [] [e.1]) _)) (bnd (plan_Add ((), ((0 : Int), ((), ()))) (treeI key val a b e.node.2.2.2.2.2.2.2.1) [] [e.1]) _) = _
  rw [hadd]
  simp only [bnd_some, both_self]
  rfl
theorem bot_new (how : Int) {key val : ByteArray} (hkey : key.size ≤ 40) (hval : val.size ≤ 40) (old : ByteArray) (way : List StepV) (e : StepV) (hl : way.length ≤ 1000) (ho : ∀ x ∈ way, okSt x) :
    ∃ f : Nat, f ≤ way.length ∧ (∀ (j : Nat) (hj : j < way.length), j < f → above key way[j].node.2.1 = false) ∧ (∀ hf : f < way.length, above key way[f].node.2.1 = true) ∧
      split_Split_bottom ((), ((0 : Int), ((), ()))) (spF how key val old 0 way e false) = some ((((), ((0 : Int), ((), ()))), ((botN key val way f).2.2, ((f : Int), ()))), (spF how key val old 0 way e false, ((botN key val way f).1, ((botN key val way f).2.1, ())))) := by
  obtain ⟨f, f1, f2, f3, f4⟩ := idx_loop how (key := key) (by omega) val old way e false hl ho way.length 0 (by omega) (by omega) (fun j _ hj => absurd hj (by omega))
  refine ⟨f, f1, f2, f3, ?_⟩
  have hlen : (way.drop f).reverse.length ≤ 1000 := by rw [List.length_reverse, List.length_drop]; omega
  obtain ⟨c1, c2, c3, c4⟩ := cutL_ok (way.drop f).reverse ⟨[], [], noHf, noHf, 0⟩ 0 (fun x hx => ho x (List.mem_of_mem_drop (List.mem_reverse.1 hx))) ⟨by decide, by decide⟩ ⟨by decide, by decide⟩ (Int.le_refl _) (by decide)
  have hcut := cut_any how key val old way e false f1 hl ho 0
  have hj : split_Split_bottom.j0 (f : Int) (spF how key val old 0 way e false) ((), ((0 : Int), ((), ()))) ((), ((0 : Int), ((), ()))) [] [] [] [] = some ((((), ((0 : Int), ((), ()))), ((botN key val way f).2.2, ((f : Int), ()))), (spF how key val old 0 way e false, ((botN key val way f).1, ((botN key val way f).2.1, ())))) := by
    rw [split_Split_bottom.j0.eq]
    dsimp only
    rw [hcut, bnd_some]
    change okHf _ (cutWay way f).a at c1
    change okHf _ (cutWay way f).b at c2
    change (cutWay way f).news.length = _ at c3
    unfold okHf at c1 c2
    dsimp only [List.length_nil] at c3
    show bnd (node_Tree key val (cutWay way f).a.1 (cutWay way f).b.1 (addI .i64 (addI .i64 (cutWay way f).a.2.1 (cutWay way f).b.2.1) 1)) _ = _
    rw [addI_d (show (-9223372036854775808 : Int) ≤ (cutWay way f).a.2.1 + (cutWay way f).b.2.1 by omega) (by omega), addI_d (by omega) (by omega), node_Tree.eq, bnd_some]
    have hadd := plAdd 0 (treeI_ok hkey hval (cutWay way f).a.1 (cutWay way f).b.1 ((cutWay way f).a.2.1 + (cutWay way f).b.2.1 + 1)) (cutWay way f).news (by omega) (cutWay way f).old
    show bnd (plan_Add ((), ((0 : Int), ((), ()))) (treeI key val (cutWay way f).a.1 (cutWay way f).b.1 ((cutWay way f).a.2.1 + (cutWay way f).b.2.1 + 1)) (cutWay way f).news (cutWay way f).old) _ = _
    rw [hadd]
    rfl
  have f4 : slices_IndexFuncsplit_step_split_step (spF how key val old 0 way e false).2.2.2.2.2.1 ((), ()) (spF how key val old 0 way e false) = some ((if f < way.length then (f : Int) else -1), ((), (spF how key val old 0 way e false, ()))) := by
    rw [slices_IndexFuncsplit_step_split_step.eq]
    exact f4
  rw [split_Split_bottom.eq]
  show br false _ (bnd (slices_IndexFuncsplit_step_split_step (spF how key val old 0 way e false).2.2.2.2.2.1 ((), ()) (spF how key val old 0 way e false)) _) = _
  rw [br_f, f4, bnd_some]
  dsimp only
  rw [ltI_d, br_if]
  by_cases q : f < way.length
  · rw [if_pos q, if_neg (by omega)]
    exact hj
  · have hf : f = way.length := by omega
    rw [if_neg q, if_pos (by omega)]
    have : ofN (lenL tsplitstep (spF how key val old 0 way e false).2.2.2.2.2.1) = (f : Int) := by rw [hf]; rfl
    rw [this]
    exact hj
/-- A plan, as it is handed back. -/
def planV (how : Int) (key val old : ByteArray) (way : List StepV) (e : StepV) (found : Bool) (s : PlanS) (is : Bool) : (((Unit × Int × Unit × Unit) × Bool × Unit) × SplitF × Unit × List NodeV × List Int × Unit) := ((((), (s.2.2, ((), ()))), (is, ())), (spF how key val old 0 way e found, ((), (s.1, (s.2.1, ())))))
theorem upL_len (more : Int) : ∀ (xs : List StepV) (s : PlanS), (upL more xs s).1.length = s.1.length + xs.length ∧ (upL more xs s).2.1.length = s.2.1.length + xs.length
  | [], s => ⟨rfl, rfl⟩
  | x :: xs, s => by
    obtain ⟨h1, h2⟩ := upL_len more xs (s.1 ++ [sideN x.node x.side s.2.2 (x.node.2.2.2.2.2.2.2.1 + more)], (s.2.1 ++ [x.1], -(s.1.length : Int) - 1))
    rw [upL, h1, h2, List.length_append, List.length_append]
    simp only [List.length_cons, List.length_nil]
    omega
theorem plan_some (how : Int) (key val old : ByteArray) (W : List StepV) (e : StepV) (found : Bool) (hl : W.length ≤ 1000) (ho : ∀ x ∈ W, okSt x) {f : Nat} (hf : f ≤ W.length) {s : PlanS} (hs1 : s.1.length ≤ 5000) (hs2 : s.2.1.length ≤ 5000)
    (hch : how = 1 ∨ (how = 2 ∧ found = false) ∨ (how = 3 ∧ found = true ∧ e.2.2.2.1 = old))
    (hb : split_Split_bottom ((), ((0 : Int), ((), ()))) (spF how key val old 0 W e found) = some ((((), ((0 : Int), ((), ()))), (s.2.2, ((f : Int), ()))), (spF how key val old 0 W e found, (s.1, (s.2.1, ()))))) :
    split_Split_Plan (spO how key val old 0 e found) W = some (planV how key val old W e found (upL (if found = true then 0 else 1) (W.take f).reverse s) true) := by
  obtain ⟨ys, e1, e2⟩ := back_any (W.take f) (by rw [List.length_take]; omega)
  have hin : andB (leI 0 (0 : Int)) (andB (leI (0 : Int) (f : Int)) (leI (f : Int) (ofN (lenL tsplitstep W)))) = true := by
    simp only [leI_d, andB_d, ofN_d, lenL_d]
    exact decide_eq_true (by omega)
  have hc : split_Split_changes_o ((spO how key val old 0 e found).1, ((spO how key val old 0 e found).2.1, ((spO how key val old 0 e found).2.2.1, ((spO how key val old 0 e found).2.2.2.1, ((spO how key val old 0 e found).2.2.2.2.1, (W, (spO how key val old 0 e found).2.2.2.2.2.2)))))) = _ := schange_any how key val old W e found
  have hlen : (W.take f).reverse.length ≤ 1000 := by rw [List.length_reverse, List.length_take]; omega
  have key1 : ∀ (more : Int) (x1 : Unit × Int × Unit × Unit), 0 ≤ more ∧ more ≤ 1 → split_Split_Plan.j0 (spF how key val old 0 W e found) x1 more [] [] = some (planV how key val old W e found (upL more (W.take f).reverse s) true) := by
    intro more x1 hm
    rw [split_Split_Plan.j0.eq, hb, bnd_some]
    show br (andB (leI 0 (0 : Int)) (andB (leI (0 : Int) (f : Int)) (leI (f : Int) (ofN (lenL tsplitstep W))))) (bnd (slices_Backwardsplit_step_split_step (subL tsplitstep W (toN 0) (toN (f : Int)))) _) none = _
    rw [hin, br_t, subS_pre, slices_Backwardsplit_step_split_step.eq, bnd_some]
    dsimp only
    rw [e1, bnd_some]
    exact plan_e1 hm (spF how key val old 0 W e found) _ _ _ _ ys (W.take f).reverse s.1 s.2.1 s.2.2 e2 (fun x hx => ho x (List.mem_of_mem_take (List.mem_reverse.1 hx))) (by omega) (by omega)
  rw [split_Split_Plan.eq, hc, bnd_some, decide_eq_true hch]
  dsimp only
  rw [show notB true = false from rfl, br_f]
  have hfd : (spF how key val old 0 W e found).2.2.2.2.2.2.2.2.2.2.2.2.2.2.2.2.2.1 = found := rfl
  rw [hfd]
  cases found with
  | true =>
    rw [br_t, if_pos rfl]
    exact key1 0 _ ⟨by omega, by omega⟩
  | false =>
    rw [br_f, if_neg (by simp)]
    exact key1 1 _ ⟨by omega, by omega⟩
theorem plan_none (how : Int) (key val old : ByteArray) (W : List StepV) (e : StepV) (found : Bool) (hch : ¬ (how = 1 ∨ (how = 2 ∧ found = false) ∨ (how = 3 ∧ found = true ∧ e.2.2.2.1 = old))) :
    split_Split_Plan (spO how key val old 0 e found) W = some (planV how key val old W e found ([], ([], 0)) false) := by
  have hc : split_Split_changes_o ((spO how key val old 0 e found).1, ((spO how key val old 0 e found).2.1, ((spO how key val old 0 e found).2.2.1, ((spO how key val old 0 e found).2.2.2.1, ((spO how key val old 0 e found).2.2.2.2.1, (W, (spO how key val old 0 e found).2.2.2.2.2.2)))))) = _ := schange_any how key val old W e found
  rw [split_Split_Plan.eq, hc, bnd_some, decide_eq_false hch]
  rfl
end Go.Proofs.YtmopkbmcilolgaaGreat.AH
set_option linter.unusedVariables false
set_option linter.unusedSimpArgs false
namespace Go.Proofs.YtmopkbmcilolgaaGreat.AH
open Go.Abs
theorem upL_app (more : Int) : ∀ (a b : List StepV) (s : PlanS), upL more (a ++ b) s = upL more b (upL more a s)
  | [], b, s => rfl
  | x :: a, b, s => upL_app more a b _
theorem upL_old (more : Int) : ∀ (xs : List StepV) (s : PlanS), (upL more xs s).2.1 = s.2.1 ++ xs.map (·.1)
  | [], s => by simp [upL]
  | x :: xs, s => by rw [upL, upL_old more xs]; simp
theorem pair_eta (p : PairV) : (p.1, (p.2.1, ())) = p := rfl
/-- What stands on a way, with a binding at its end. -/
theorem up_put {h : List NodeV} (hm : mayH h = true) {k : ByteArray} {x : PairV} (hx : x.1 = k) {more : Nat} {r : Int} {l : List PairV} {way : List StepV} {e : Int} {m : List PairV} (w : WayT h k r l way e m) :
    (putS m x).length = m.length + more → (∀ y ∈ way, Go.Abs.above k y.node.2.1 = false) → ∀ s : PlanS, PlanOK h s.1 → Has h s.1 s.2.2 (treeT (putS m x)) →
      PlanOK h (upL more way.reverse s).1 ∧ Has h (upL more way.reverse s).1 (upL more way.reverse s).2.2 (treeT (putS l x)) ∧ (putS l x).length = l.length + more := by
  induction w with
  | done r l => exact fun h1 _ s P H => ⟨P, H, h1⟩
  | @left r p L R a b way e m N hlt w ih =>
    intro h1 h2 s P H
    obtain ⟨P1, H1, h3⟩ := ih h1 (fun y hy => h2 y (List.mem_cons_of_mem _ hy)) s P H
    have ha : Go.Abs.above k p.1 = false := by
      have := h2 _ List.mem_cons_self
      rw [stV_node, N.key] at this
      exact this
    have hlen : (putS (L ++ p :: R) x).length = (L ++ p :: R).length + more := by
      rw [putS_left N.srt (by rw [hx]; exact hlt), mid_len, mid_len]; omega
    rw [List.reverse_cons, upL_app]
    generalize upL more way.reverse s = s1 at P1 H1
    have HB : Has h s1.1 b (treeT R) := N.right ▸ Has.heap hm N.b0 (by have := N.b1; have := N.r2; omega)
    have en : sideN (getN h r) 0 s1.2.2 ((getN h r).2.2.2.2.2.2.2.1 + more) = treeN p s1.2.2 b ((putS L x).length + 1 + R.length) := by
      unfold sideN
      rw [N.key, N.val, N.kids, N.size, h3, show ((L.length + 1 + R.length : Nat) : Int) + (more : Int) = ((L.length + more + 1 + R.length : Nat) : Int) by omega]
      rfl
    obtain ⟨P2, H2⟩ := Has.tree P1 (N.txt p (by simp)) H1 HB (n := (putS L x).length + 1 + R.length) (by omega)
    rw [← ins_left N.srt N.under (by rw [hx]; exact hlt) (by rw [hx]; exact ha)] at H2
    rw [← en] at P2 H2
    exact ⟨P2, H2, hlen⟩
  | @right r p L R a b way e m N hlt w ih =>
    intro h1 h2 s P H
    obtain ⟨P1, H1, h3⟩ := ih h1 (fun y hy => h2 y (List.mem_cons_of_mem _ hy)) s P H
    have ha : Go.Abs.above k p.1 = false := by
      have := h2 _ List.mem_cons_self
      rw [stV_node, N.key] at this
      exact this
    have hlen : (putS (L ++ p :: R) x).length = (L ++ p :: R).length + more := by
      rw [putS_right N.srt (by rw [hx]; exact hlt), mid_len, mid_len]; omega
    rw [List.reverse_cons, upL_app]
    generalize upL more way.reverse s = s1 at P1 H1
    have HA : Has h s1.1 a (treeT L) := N.left ▸ Has.heap hm N.a0 (by have := N.a1; have := N.r2; omega)
    have en : sideN (getN h r) 1 s1.2.2 ((getN h r).2.2.2.2.2.2.2.1 + more) = treeN p a s1.2.2 (L.length + 1 + (putS R x).length) := by
      unfold sideN
      rw [N.key, N.val, N.kids, N.size, h3, show ((L.length + 1 + R.length : Nat) : Int) + (more : Int) = ((L.length + 1 + (R.length + more) : Nat) : Int) by omega]
      rfl
    obtain ⟨P2, H2⟩ := Has.tree P1 (N.txt p (by simp)) HA H1 (n := L.length + 1 + (putS R x).length) (by omega)
    rw [← ins_right N.srt N.under (by rw [hx]; exact hlt) (by rw [hx]; exact ha)] at H2
    rw [← en] at P2 H2
    exact ⟨P2, H2, hlen⟩
theorem cutL_app : ∀ (a b : List StepV) (s : CutV), cutL (a ++ b) s = cutL b (cutL a s)
  | [], b, s => rfl
  | x :: a, b, s => cutL_app a b _
theorem cutL_old : ∀ (xs : List StepV) (s : CutV), (cutL xs s).old = s.old ++ xs.map (·.1)
  | [], s => by simp [cutL]
  | x :: xs, s => by
    rw [cutL, cutL_old xs]
    split <;> simp
/-- A tree, cut by a key that it does not have. -/
structure CutOK (h : List NodeV) (k : ByteArray) (l : List PairV) (s : CutV) : Prop where
  plan : PlanOK h s.news
  a : Has h s.news s.a.1 (treeT (ltS k l))
  an : s.a.2.1 = ((ltS k l).length : Int)
  b : Has h s.news s.b.1 (treeT (gtS k l))
  bn : s.b.2.1 = ((gtS k l).length : Int)
  below : s.below = (l.length : Int)
theorem cut_way {h : List NodeV} (hm : mayH h = true) {k : ByteArray} {r : Int} {l : List PairV} {way : List StepV} {e : Int} {m : List PairV} (w : WayT h k r l way e m) : m = [] → ∀ s : CutV, PlanOK h s.news → s.a = noHf → s.b = noHf → s.below = 0 → CutOK h k l (cutL way.reverse s) := by
  induction w with
  | done r l =>
    rintro rfl s P ha hb h0
    refine ⟨P, ?_, ?_, ?_, ?_, h0⟩
    · show Has h s.news s.a.1 (treeT [])
      rw [ha, treeT_nil]; exact Has.zero
    · show s.a.2.1 = 0
      rw [ha]; rfl
    · show Has h s.news s.b.1 (treeT [])
      rw [hb, treeT_nil]; exact Has.zero
    · show s.b.2.1 = 0
      rw [hb]; rfl
  | @left r p L R a b way e m N hlt w ih =>
    intro hm0 s P ha hb h0
    have C := ih hm0 s P ha hb h0
    rw [List.reverse_cons, cutL_app]
    generalize cutL way.reverse s = s1 at C
    have HB : Has h s1.news b (treeT R) := N.right ▸ Has.heap hm N.b0 (by have := N.b1; have := N.r2; omega)
    have ez : s1.b.2.1 + (getN h r).2.2.2.2.2.2.2.1 - s1.below = (((gtS k L).length + 1 + R.length : Nat) : Int) := by
      rw [C.bn, C.below, N.size]; omega
    have en : sideN (getN h r) 0 s1.b.1 (((gtS k L).length + 1 + R.length : Nat) : Int) = treeN p s1.b.1 b ((gtS k L).length + 1 + R.length) := by
      unfold sideN
      rw [N.key, N.val, N.kids]
      rfl
    obtain ⟨P2, H2⟩ := Has.tree C.plan (N.txt p (by simp)) C.b HB (n := (gtS k L).length + 1 + R.length) (by omega)
    rw [← cut_gtT N.srt N.under hlt] at H2
    have ec : cutL [stV r (getN h r) 0] s1 = ⟨s1.news ++ [treeN p s1.b.1 b ((gtS k L).length + 1 + R.length)], s1.old ++ [r], s1.a, (-(s1.news.length : Int) - 1, ((((gtS k L).length + 1 + R.length : Nat) : Int), ())), ((L.length + 1 + R.length : Nat) : Int)⟩ := by
      rw [cutL, cutL, if_neg (by rw [stV_side]; omega), stV_node, stV_side, ez, en, N.size]
      rfl
    rw [ec]
    have hA := C.a.more C.plan (treeN p s1.b.1 b ((gtS k L).length + 1 + R.length))
    refine ⟨P2, ?_, ?_, H2, ?_, ?_⟩
    · rw [(cut_gt N.srt hlt).1]; exact hA
    · rw [(cut_gt N.srt hlt).1]; exact C.an
    · rw [(cut_gt N.srt hlt).2, mid_len]
    · rw [mid_len]
  | @right r p L R a b way e m N hlt w ih =>
    intro hm0 s P ha hb h0
    have C := ih hm0 s P ha hb h0
    rw [List.reverse_cons, cutL_app]
    generalize cutL way.reverse s = s1 at C
    have HA : Has h s1.news a (treeT L) := N.left ▸ Has.heap hm N.a0 (by have := N.a1; have := N.r2; omega)
    have ez : s1.a.2.1 + (getN h r).2.2.2.2.2.2.2.1 - s1.below = ((L.length + 1 + (ltS k R).length : Nat) : Int) := by
      rw [C.an, C.below, N.size]; omega
    have en : sideN (getN h r) 1 s1.a.1 ((L.length + 1 + (ltS k R).length : Nat) : Int) = treeN p a s1.a.1 (L.length + 1 + (ltS k R).length) := by
      unfold sideN
      rw [N.key, N.val, N.kids]
      rfl
    obtain ⟨P2, H2⟩ := Has.tree C.plan (N.txt p (by simp)) HA C.a (n := L.length + 1 + (ltS k R).length) (by omega)
    rw [← cut_ltT N.srt N.under hlt] at H2
    have ec : cutL [stV r (getN h r) 1] s1 = ⟨s1.news ++ [treeN p a s1.a.1 (L.length + 1 + (ltS k R).length)], s1.old ++ [r], (-(s1.news.length : Int) - 1, (((L.length + 1 + (ltS k R).length : Nat) : Int), ())), s1.b, ((L.length + 1 + R.length : Nat) : Int)⟩ := by
      rw [cutL, cutL, if_pos (by rw [stV_side]), stV_node, stV_side, ez, en, N.size]
      rfl
    rw [ec]
    have hB := C.b.more C.plan (treeN p a s1.a.1 (L.length + 1 + (ltS k R).length))
    refine ⟨P2, H2, ?_, ?_, ?_, ?_⟩
    · rw [(cut_lt N.srt hlt).1, mid_len]
    · rw [(cut_lt N.srt hlt).2]; exact hB
    · rw [(cut_lt N.srt hlt).2]; exact C.bn
    · rw [mid_len]
theorem parts_len {k : ByteArray} : ∀ {l : List PairV}, (∀ q ∈ l, q.1 ≠ k) → (ltS k l).length + (gtS k l).length = l.length
  | [], _ => rfl
  | q :: l, h => by
    have ih := parts_len (l := l) fun x hx => h x (List.mem_cons_of_mem _ hx)
    unfold ltS gtS at ih ⊢
    rcases tri q.1 k with ⟨a, b, _⟩ | ⟨a, _, _⟩ | ⟨a, b, _⟩
    · rw [List.filter_cons_of_pos (by exact a), List.filter_cons_of_neg (by rw [b]; simp), List.length_cons, List.length_cons]; omega
    · exact absurd a (h q List.mem_cons_self)
    · rw [List.filter_cons_of_neg (by rw [b]; simp), List.filter_cons_of_pos (by exact a), List.length_cons, List.length_cons]; omega
/-- What a split makes of a tree that has not the key. -/
theorem split_new {h : List NodeV} (hm : mayH h = true) {key val : ByteArray} (hkv : okT (key, (val, ()))) {r : Int} {l : List PairV} (hS : Srt l) {way : List StepV} (w : WayT h key r l way 0 []) {f : Nat} (hf : f ≤ way.length)
    (f2 : ∀ (j : Nat) (hj : j < way.length), j < f → Go.Abs.above key way[j].node.2.1 = false) (f3 : ∀ hf : f < way.length, Go.Abs.above key way[f].node.2.1 = true) :
    PlanOK h (upL 1 (way.take f).reverse (botN key val way f)).1 ∧ Has h (upL 1 (way.take f).reverse (botN key val way f)).1 (upL 1 (way.take f).reverse (botN key val way f)).2.2 (treeT (putS l (key, (val, ())))) := by
  have hw : WayT h key r l (way.take f ++ way.drop f) 0 [] := by rw [List.take_append_drop]; exact w
  obtain ⟨r1, l1, w1, w2⟩ := hw.split
  have hnone : l1.find? (fun q => decide (q.1 = key)) = none := by rw [w2.find]; rfl
  have hno : ∀ q ∈ l1, q.1 ≠ key := fun q hq => by
    have := List.find?_eq_none.1 hnone q hq
    simpa using this
  have hu : Under l1 key ∧ Srt l1 := by
    by_cases q : f < way.length
    · have ha := f3 q
      rw [List.drop_eq_getElem_cons q] at w2
      generalize way[f] = x at w2 ha
      cases w2 with
      | left N hlt _ =>
        rw [stV_node, N.key] at ha
        refine ⟨fun z hz => ?_, N.srt⟩
        rcases List.mem_append.1 hz with hz | hz
        · exact above_not_trans (N.under z (List.mem_append_left _ hz)) (above_asymm ha)
        · rcases List.mem_cons.1 hz with rfl | hz
          · exact above_asymm ha
          · exact above_not_trans (N.under z (List.mem_append_right _ hz)) (above_asymm ha)
      | right N hlt _ =>
        rw [stV_node, N.key] at ha
        refine ⟨fun z hz => ?_, N.srt⟩
        rcases List.mem_append.1 hz with hz | hz
        · exact above_not_trans (N.under z (List.mem_append_left _ hz)) (above_asymm ha)
        · rcases List.mem_cons.1 hz with rfl | hz
          · exact above_asymm ha
          · exact above_not_trans (N.under z (List.mem_append_right _ hz)) (above_asymm ha)
    · rw [List.drop_eq_nil_of_le (by omega)] at w2
      cases w2
      exact ⟨fun z hz => (by cases hz), List.Pairwise.nil⟩
  have C := cut_way hm w2 rfl ⟨[], [], noHf, noHf, 0⟩ (PlanOK.nil hm) rfl rfl rfl
  change CutOK h key l1 (cutWay way f) at C
  have hsz : (cutWay way f).a.2.1 + (cutWay way f).b.2.1 + 1 = (((ltS key l1).length + 1 + (gtS key l1).length : Nat) : Int) := by rw [C.an, C.bn]; omega
  obtain ⟨P2, H2⟩ := Has.tree C.plan hkv C.a C.b (n := (ltS key l1).length + 1 + (gtS key l1).length) (by omega)
  rw [← ins_top (x := (key, (val, ()))) hu.2 hu.1] at H2
  have eb : botN key val way f = ((cutWay way f).news ++ [treeN (key, (val, ())) (cutWay way f).a.1 (cutWay way f).b.1 ((ltS key l1).length + 1 + (gtS key l1).length)], ((cutWay way f).old, -((cutWay way f).news.length : Int) - 1)) := by
    unfold botN
    rw [hsz]
    rfl
  have hput : (putS l1 (key, (val, ()))).length = l1.length + 1 := by
    rw [putS_parts _ hu.2, mid_len]
    have := parts_len hno
    show (ltS key l1).length + 1 + (gtS key l1).length = _
    omega
  rw [eb]
  obtain ⟨P3, H3, _⟩ := up_put hm (x := (key, (val, ()))) rfl (more := 1) w1 hput (fun y hy => by
    obtain ⟨j, hj, rfl⟩ := List.getElem_of_mem hy
    rw [List.length_take] at hj
    rw [List.getElem_take]
    exact f2 j (by omega) (by omega)) ((cutWay way f).news ++ [treeN (key, (val, ())) (cutWay way f).a.1 (cutWay way f).b.1 ((ltS key l1).length + 1 + (gtS key l1).length)], ((cutWay way f).old, -((cutWay way f).news.length : Int) - 1)) P2 H2
  exact ⟨P3, H3⟩
/-- What a split makes of a tree that has the key. -/
theorem split_found {h : List NodeV} (hm : mayH h = true) {key val : ByteArray} (hkv : okT (key, (val, ()))) {r : Int} {l : List PairV} (hS : Srt l) (hl : l.length ≤ 2000000) {way : List StepV} {e : Int} {p : PairV} {L R : List PairV} {a b : Int} (w : WayT h key r l way e (L ++ p :: R)) (N : NodeAt h e p L R a b) (hp : p.1 = key) :
    PlanOK h (upL 0 way.reverse (botF key val (stV e (getN h e) 0))).1 ∧ Has h (upL 0 way.reverse (botF key val (stV e (getN h e) 0))).1 (upL 0 way.reverse (botF key val (stV e (getN h e) 0))).2.2 (treeT (putS l (key, (val, ())))) := by
  have HA : Has h [] a (treeT L) := N.left ▸ Has.heap hm N.a0 (by have := N.a1; have := N.r2; omega)
  have HB : Has h [] b (treeT R) := N.right ▸ Has.heap hm N.b0 (by have := N.b1; have := N.r2; omega)
  obtain ⟨P2, H2⟩ := Has.tree (PlanOK.nil hm) hkv HA HB (n := L.length + 1 + R.length) (by omega)
  rw [← ins_here (x := (key, (val, ()))) N.srt N.under hp.symm] at H2
  have eb : botF key val (stV e (getN h e) 0) = ([treeN (key, (val, ())) a b (L.length + 1 + R.length)], ([e], -1)) := by
    unfold botF
    rw [stV_node, N.kids, N.size]
    rfl
  have hput : (putS (L ++ p :: R) (key, (val, ()))).length = (L ++ p :: R).length + 0 := by
    rw [putS_here N.srt hp.symm, mid_len, mid_len]; rfl
  rw [eb]
  have H2 : Has h [treeN (key, (val, ())) a b (L.length + 1 + R.length)] (-1) (treeT (putS (L ++ p :: R) (key, (val, ())))) := H2
  obtain ⟨P3, H3, _⟩ := up_put hm (x := (key, (val, ()))) rfl (more := 0) w hput (w.above hl ⟨p, by simp, hp⟩) ([treeN (key, (val, ())) a b (L.length + 1 + R.length)], ([e], -1)) P2 H2
  exact ⟨P3, H3⟩
end Go.Proofs.YtmopkbmcilolgaaGreat.AH
set_option linter.unusedVariables false
set_option linter.unusedSimpArgs false
namespace Go.Proofs.YtmopkbmcilolgaaGreat.AH
open Go.Abs
def leafN (p : PairV) : NodeV := (1, (p.1, (p.2.1, (0, ([], (0, ([], (1, (0, ())))))))))
theorem leaf_may {p : PairV} (hp : okP p) : mayS (leafN p) = if longP p = true then 6 else 0 := by
  unfold mayS
  rw [if_neg (by show ¬ (1 : Int) < 1; omega), if_neg (by show ¬ (6 : Int) < 1; omega)]
  have hl : longN (leafN p) = longP p := by
    show (longP p || false) = _
    rw [Bool.or_false]
  rw [hl]
  by_cases h : longP p = true
  · rw [if_pos h, if_pos h]
  · rw [if_neg h, if_neg h, if_pos]
    refine ⟨Int.le_refl _, ?_⟩
    rw [if_pos (show (leafN p).1 = 1 ∨ (leafN p).1 = 6 from .inl rfl)]
    exact ⟨rfl, fun q => (by cases q), fun _ => ⟨rfl, rfl⟩, fun _ => rfl, fun _ => rfl⟩
theorem leaf_okN {p : PairV} (hp : okP p) : okN (leafN p) := ⟨hp.1, hp.2, by show (0 : Int) ≤ 0; omega, by show (0 : Int) < 4294967296; omega, by show 0 ≤ _; omega, by show 0 ≤ _; omega, fun q hq => (by cases hq)⟩
end Go.Proofs.YtmopkbmcilolgaaGreat.AH
set_option linter.unusedVariables false
set_option linter.unusedSimpArgs false
namespace Go.Proofs.YtmopkbmcilolgaaGreat.AH
open Go.Abs
theorem find_put (p : PairV) (k : ByteArray) : ∀ l : List PairV, (putS l p).find? (fun q => decide (q.1 = k)) = if p.1 = k then some p else l.find? (fun q => decide (q.1 = k))
  | [] => by
    show List.find? _ [p] = _
    rw [List.find?_cons]
    by_cases h : p.1 = k
    · rw [if_pos h, decide_eq_true h]
    · rw [if_neg h, decide_eq_false h]
  | q :: qs => by
    rcases tri q.1 p.1 with ⟨h, _, hne⟩ | ⟨h, _⟩ | ⟨h, _, hne⟩
    · rw [putS_lt h, List.find?_cons, find_put p k qs, List.find?_cons]
      by_cases hq : q.1 = k
      · have hp : ¬ p.1 = k := fun e => hne (hq.trans e.symm)
        rw [decide_eq_true hq]
        show (some q : Option PairV) = if p.1 = k then some p else some q
        rw [if_neg hp]
      · rw [decide_eq_false hq]
    · rw [putS_eq h, List.find?_cons, List.find?_cons]
      by_cases hp : p.1 = k
      · rw [if_pos hp, decide_eq_true hp]
      · rw [if_neg hp, decide_eq_false hp, decide_eq_false (fun e => hp (h.symm.trans e))]
    · rw [putS_gt h, List.find?_cons]
      by_cases hp : p.1 = k
      · rw [if_pos hp, decide_eq_true hp]
      · rw [if_neg hp, decide_eq_false hp]
theorem find_fold (k : ByteArray) : ∀ (l acc : List PairV), (l.foldl putS acc).find? (fun q => decide (q.1 = k)) = (l.reverse.find? (fun q => decide (q.1 = k))).or (acc.find? (fun q => decide (q.1 = k)))
  | [], _ => rfl
  | p :: l, acc => by
    rw [List.foldl_cons, find_fold k l, find_put, List.reverse_cons, List.find?_append, Option.or_assoc]
    congr 1
    rw [List.find?_cons]
    by_cases h : p.1 = k
    · rw [if_pos h, decide_eq_true h]; rfl
    · rw [if_neg h, decide_eq_false h]; rfl
theorem find_make (k : ByteArray) (l : List PairV) : (makeS l).find? (fun q => decide (q.1 = k)) = l.reverse.find? (fun q => decide (q.1 = k)) := by
  have := find_fold k l []
  rw [List.find?_nil, Option.or_none] at this
  exact this
def valF (o : Option PairV) : ByteArray × Bool × Unit := match o with
  | some p => (p.2.1, (true, ()))
  | none => (ByteArray.empty, (false, ()))
theorem subI_nat (n : Nat) (h : n ≤ 1000000000) : subI .i64 (n : Int) 1 = (n : Int) - 1 := subI_d (by omega) (by omega)
theorem rget_loop (l : List PairV) (k : ByteArray) (hl : l.length ≤ 50000000) : ∀ (n : Nat), n ≤ l.length → ref07_Get.l0 l k ((n : Int) - 1) = some (valF ((l.take n).reverse.find? (fun q => decide (q.1 = k)))) := by
  intro n
  induction n with
  | zero =>
    intro h
    rw [ref07_Get.l0.eq, leI_d, br_if, if_neg (by omega), List.take_zero]
    rfl
  | succ n ih =>
    intro h
    have hi : n < l.length := by omega
    rw [show (((n + 1 : Nat) : Int) - 1) = (n : Int) by omega, ref07_Get.l0.eq]
    simp only [leI_d, ltI_d, ofN_d, lenL_d, andB_d, eqS_d, br_if]
    have hin : 0 ≤ (n : Int) ∧ (n : Int) < (l.length : Int) := ⟨by omega, by omega⟩
    rw [if_pos hin.1, if_pos hin, ixP l n hi, if_pos hin, subI_nat n (by omega), ih (by omega), List.take_succ_eq_append_getElem hi, List.reverse_append, List.reverse_singleton]
    show _ = some (valF (List.find? _ (l[n] :: (l.take n).reverse)))
    rw [List.find?_cons]
    by_cases e : l[n].1 = k
    · rw [if_pos e, decide_eq_true e]; rfl
    · rw [if_neg e, decide_eq_false e]
theorem rget_any (l : List PairV) (k : ByteArray) (hl : l.length ≤ 50000000) : ref07_Get l k = some (valF ((makeS l).find? (fun q => decide (q.1 = k)))) := by
  rw [ref07_Get.eq, find_make]
  simp only [ofN_d, lenL_d]
  rw [subI_nat _ (by omega), rget_loop l k hl l.length (Nat.le_refl _), List.take_length]
end Go.Proofs.YtmopkbmcilolgaaGreat.AH
set_option linter.unusedVariables false
set_option linter.unusedSimpArgs false
namespace Go.Proofs.YtmopkbmcilolgaaGreat.AH
open Go.Abs
/-- The walk through a heap's tree. -/
theorem run_loop {h : List NodeV} (ho : okH h) (hm : mayH h = true) (root how : Int) {key : ByteArray} (hkey : key.size ≤ 2000000) (val old : ByteArray) : ∀ (d : Nat) (r : Int) (l : List PairV) (W : List StepV), r.toNat ≤ d → 0 ≤ r → r ≤ h.length → Srt l → (∀ p ∈ l, okT p) → U h r = treeT l → W.length + r.toNat ≤ 2000000 →
    (∃ way, WayT h key r l way 0 [] ∧ split_Run.l0 h root (spO how key val old r noSt false) W = split_Run.l0 h root (spO how key val old 0 noSt false) (W ++ way)) ∨
    (∃ way e p L R a b, WayT h key r l way e (L ++ p :: R) ∧ NodeAt h e p L R a b ∧ p.1 = key ∧ split_Run.l0 h root (spO how key val old r noSt false) W = split_Run.l0 h root (spO how key val old 0 (stV e (getN h e) 0) true) (W ++ way)) := by
  have hlen := ho.len
  intro d
  induction d with
  | zero =>
    intro r l W hd h0 h1 hS ht hu hW
    have : r = 0 := by omega
    subst this
    rw [(treeT_nil_iff hm h0 h1 hu).1 rfl]
    exact .inl ⟨[], .done 0 [], by rw [List.append_nil]⟩
  | succ d ih =>
    intro r l W hd h0 h1 hS ht hu hW
    by_cases hl : l = []
    · subst hl
      have := (treeT_nil_iff hm h0 h1 hu).2 rfl
      subst this
      exact .inl ⟨[], .done 0 [], by rw [List.append_nil]⟩
    obtain ⟨L, p, R, a, b, rfl, N⟩ := node_at hm h0 h1 hl hS ht hu
    have hr := N.r1
    obtain ⟨s1, s2, s3, s4, _⟩ := srt_three N.srt
    have hf := sfeed_any how hkey val old (r := r) (by omega) noSt W (by omega) N.kind N.kids
    have hstep : split_Run.l0 h root (spO how key val old r noSt false) W = bnd (split_Split_Feed (getN h r) (spO how key val old r noSt false) W) fun r2 => split_Run.l0 h root r2.2.1 r2.2.2.1 := by
      rw [split_Run.l0.eq, swant_any, bnd_some]
      dsimp only
      rw [eqI_d, decide_eq_false (by omega), show notB false = true from rfl, br_t, swant_any, bnd_some]
      dsimp only
      rw [inG h r hr h1 (by omega), br_t, ixG h r hr h1 (by omega)]
    have hwl : ∀ x : StepV, (W ++ [x]).length = W.length + 1 := fun x => by rw [List.length_append]; rfl
    rw [hstep, hf, N.key]
    by_cases c0 : key = p.1
    · rw [if_pos c0, bnd_some]
      exact .inr ⟨[], r, p, L, R, a, b, .done r _, N, c0.symm, by rw [List.append_nil]⟩
    rw [if_neg c0]
    by_cases c1 : lt key p.1 = true
    · rw [if_pos c1, bnd_some]
      have a0 := N.a0
      have a1 := N.a1
      rcases ih a L (W ++ [stV r (getN h r) 0]) (by omega) a0 (by omega) s1 (fun q hq => ht q (List.mem_append_left _ hq)) N.left (by rw [hwl]; omega) with ⟨way, w, e⟩ | ⟨way, e', p', L', R', a', b', w, N', hp, e⟩
      · exact .inl ⟨_ :: way, .left N c1 w, e.trans (by rw [List.append_assoc]; rfl)⟩
      · exact .inr ⟨_ :: way, e', p', L', R', a', b', .left N c1 w, N', hp, e.trans (by rw [List.append_assoc]; rfl)⟩
    · have c2 : lt p.1 key = true := by
        rcases tri key p.1 with ⟨q, _⟩ | ⟨q, _⟩ | ⟨q, _⟩
        · exact absurd q c1
        · exact absurd q c0
        · exact q
      rw [if_neg c1, bnd_some]
      have b0 := N.b0
      have b1 := N.b1
      rcases ih b R (W ++ [stV r (getN h r) 1]) (by omega) b0 (by omega) s2 (fun q hq => ht q (List.mem_append_right _ (List.mem_cons_of_mem _ hq))) N.right (by rw [hwl]; omega) with ⟨way, w, e⟩ | ⟨way, e', p', L', R', a', b', w, N', hp, e⟩
      · exact .inl ⟨_ :: way, .right N c2 w, e.trans (by rw [List.append_assoc]; rfl)⟩
      · exact .inr ⟨_ :: way, e', p', L', R', a', b', .right N c2 w, N', hp, e.trans (by rw [List.append_assoc]; rfl)⟩
/-- Does a call change something, of what a key is bound to? -/
def chS (how : Int) (old : ByteArray) (o : Option PairV) : Bool := decide (how = 1 ∨ (how = 2 ∧ o.isSome = false) ∨ (how = 3 ∧ o.isSome = true ∧ (valF o).1 = old))
/-- Bindings behind a call. -/
def afterS (how : Int) (x : PairV) (old : ByteArray) (l : List PairV) : List PairV := if chS how old (l.find? fun q => decide (q.1 = x.1)) = true then putS l x else l
/-- What a call makes of a heap's tree. -/
theorem run_walk {h : List NodeV} (ho : okH h) (hm : mayH h = true) (hl : h.length ≤ 900) {root how : Int} (h0 : 0 ≤ root) (h1 : root ≤ h.length) {l : List PairV} (hS : Srt l) (ht : ∀ p ∈ l, okT p) (hll : l.length ≤ 2000000) (hu : U h root = treeT l) {key val : ByteArray} (hx : okT (key, (val, ()))) (old : ByteArray) :
    ∃ news s, PlanOK h news ∧ Has h news s (treeT (afterS how (key, (val, ())) old l)) ∧ news.length ≤ h.length + 1 ∧ split_Run.l0 h root (spO how key val old root noSt false) [] = some (PS h news, (fillQ h.length s, (0, ()))) ∧ (l = [] → chS how old none = true → news = [treeI key val 0 0 1] ∧ s = -1) ∧ (chS how old (l.find? fun q => decide (q.1 = key)) = false → news = [] ∧ s = root) := by
  have hk1 : key.size ≤ 16 := hx.1
  have hv1 : val.size ≤ 16 := hx.2
  have hend : ∀ (e : StepV) (found : Bool) (W : List StepV), split_Run.l0 h root (spO how key val old 0 e found) W = bnd (split_Split_Plan (spO how key val old 0 e found) W) fun r3 => br (notB r3.1.2.1) (bnd (plan_Do h ([], (root, ([], ())))) fun r4 => some r4) (bnd (plan_Do h (r3.2.2.2.1, (r3.1.1.2.1, (r3.2.2.2.2.1, ())))) fun r5 => some r5) := fun e found W => by
    rw [split_Run.l0.eq, swant_any, bnd_some]
    dsimp only
    rw [eqI_d, decide_eq_true rfl, show notB true = false from rfl, br_f]
  have hsame := do_plan ho hm (PlanOK.nil hm) (by show 0 ≤ _; omega) (root := root) (by show -((0 : Nat) : Int) ≤ _; omega) h1 (old := []) (by show 0 ≤ _; omega) (fun r hr => by cases hr)
  have hstay : ∀ (e : StepV) (found : Bool) (W : List StepV), ¬ (how = 1 ∨ (how = 2 ∧ found = false) ∨ (how = 3 ∧ found = true ∧ e.2.2.2.1 = old)) → split_Run.l0 h root (spO how key val old 0 e found) W = some (PS h [], (fillQ h.length root, (0, ()))) := fun e found W hc => by
    rw [hend, plan_none how key val old W e found hc, bnd_some]
    show br true (bnd (plan_Do h ([], (root, ([], ())))) fun r4 => some r4) _ = _
    rw [br_t, hsame, bnd_some]
  have hgo : ∀ (e : StepV) (found : Bool) (W : List StepV) (S : PlanS), split_Split_Plan (spO how key val old 0 e found) W = some (planV how key val old W e found S true) → PlanOK h S.1 → S.1.length ≤ 1000 → S.2.1.length ≤ 1000 → (∀ r ∈ S.2.1, 1 ≤ r ∧ r ≤ h.length) → ∀ t, Has h S.1 S.2.2 t → split_Run.l0 h root (spO how key val old 0 e found) W = some (PS h S.1, (fillQ h.length S.2.2, (0, ()))) := fun e found W S hp P n1 n2 n3 t H => by
    rw [hend, hp, bnd_some]
    show br false _ (bnd (plan_Do h (S.1, (S.2.2, (S.2.1, ())))) fun r5 => some r5) = _
    rw [br_f, do_plan ho hm P n1 H.lo H.hi n2 n3, bnd_some]
  rcases run_loop ho hm root how (key := key) (by omega) val old root.toNat root l [] (Nat.le_refl _) h0 h1 hS ht hu (by show 0 + _ ≤ _; omega) with ⟨way, w, e⟩ | ⟨way, e', p, L, R, a, b, w, N, hp, e⟩
  · rw [List.nil_append] at e
    have hfind : l.find? (fun q => decide (q.1 = key)) = none := by rw [w.find]; rfl
    have hwl := w.refs h0
    obtain ⟨w1, w2, w3, _⟩ := w.ok hll
    have eaf : afterS how (key, (val, ())) old l = if chS how old none = true then putS l (key, (val, ())) else l := by unfold afterS; rw [hfind]
    rw [e, hfind]
    by_cases hc : chS how old none = true
    · have hc' : how = 1 ∨ (how = 2 ∧ false = false) ∨ (how = 3 ∧ false = true ∧ noSt.2.2.2.1 = old) := by
        unfold chS at hc
        rcases of_decide_eq_true hc with q | ⟨q, _⟩ | ⟨_, q, _⟩
        · exact .inl q
        · exact .inr (.inl ⟨q, rfl⟩)
        · cases q
      obtain ⟨f, f1, f2, f3, f4⟩ := bot_new how (key := key) (val := val) (by omega) (by omega) old way noSt (by omega) w1
      obtain ⟨P, H⟩ := split_new hm hx hS w f1 f2 f3
      have hlen : (way.drop f).reverse.length ≤ 900 := by rw [List.length_reverse, List.length_drop]; omega
      obtain ⟨_, _, c3, c4⟩ := cutL_ok (way.drop f).reverse ⟨[], [], noHf, noHf, 0⟩ 0 (fun x hx => w1 x (List.mem_of_mem_drop (List.mem_reverse.1 hx))) ⟨by decide, by decide⟩ ⟨by decide, by decide⟩ (Int.le_refl _) (by decide)
      change (cutWay way f).news.length = 0 + _ at c3
      change (cutWay way f).old.length = 0 + _ at c4
      have hb1 : (botN key val way f).1.length = (cutWay way f).news.length + 1 := by unfold botN; rw [List.length_append]; rfl
      have hb2 : (botN key val way f).2.1.length = (cutWay way f).old.length := rfl
      obtain ⟨u1, u2⟩ := upL_len 1 (way.take f).reverse (botN key val way f)
      have hdl : (way.drop f).reverse.length + (way.take f).reverse.length = way.length := by rw [List.length_reverse, List.length_reverse, List.length_drop, List.length_take]; omega
      have hold : ∀ r ∈ (upL 1 (way.take f).reverse (botN key val way f)).2.1, 1 ≤ r ∧ r ≤ h.length := by
        intro r hr
        rw [upL_old] at hr
        rcases List.mem_append.1 hr with hr | hr
        · have hr : r ∈ (cutWay way f).old := hr
          unfold cutWay at hr
          rw [cutL_old] at hr
          obtain ⟨x, hx, rfl⟩ := List.mem_map.1 (by simpa using hr : r ∈ (way.drop f).reverse.map (·.1))
          exact w2 x (List.mem_of_mem_drop (List.mem_reverse.1 hx))
        · obtain ⟨x, hx, rfl⟩ := List.mem_map.1 hr
          exact w2 x (List.mem_of_mem_take (List.mem_reverse.1 hx))
      have hps := plan_some how key val old way noSt false (by omega) w1 f1 (s := botN key val way f) (by omega) (by omega) hc' f4
      rw [if_neg (show ¬ (false = true) by simp)] at hps
      rw [eaf, if_pos hc]
      refine ⟨_, _, P, H, by omega, hgo _ _ _ _ hps P (by omega) (by omega) hold _ H, ?_, fun q => ?_⟩
      · rintro rfl _
        cases way with
        | nil =>
          have : f = 0 := by simpa using f1
          subst this
          exact ⟨rfl, rfl⟩
        | cons x way =>
          have := w3
          simp at this
      · rw [hc] at q; cases q
    · have hc' : ¬ (how = 1 ∨ (how = 2 ∧ false = false) ∨ (how = 3 ∧ false = true ∧ noSt.2.2.2.1 = old)) := by
        intro q
        refine hc ?_
        unfold chS
        refine decide_eq_true ?_
        rcases q with q | ⟨q, _⟩ | ⟨_, q, _⟩
        · exact .inl q
        · exact .inr (.inl ⟨q, rfl⟩)
        · cases q
      rw [eaf, if_neg hc]
      exact ⟨[], root, PlanOK.nil hm, hu ▸ Has.heap hm h0 h1, by show 0 ≤ _; omega, hstay _ _ _ hc', fun _ q => absurd q hc, fun _ => ⟨rfl, rfl⟩⟩
  · rw [List.nil_append] at e
    have hfind : l.find? (fun q => decide (q.1 = key)) = some p := by rw [w.find, ← hp]; exact find_mid N.srt
    have hwl := w.refs h0
    obtain ⟨w1, w2, w3, _⟩ := w.ok hll
    have eaf : afterS how (key, (val, ())) old l = if chS how old (some p) = true then putS l (key, (val, ())) else l := by unfold afterS; rw [hfind]
    have hev : (stV e' (getN h e') 0).2.2.2.1 = p.2.1 := N.val
    rw [e, hfind]
    have hne : l ≠ [] := by rintro rfl; cases hfind
    by_cases hc : chS how old (some p) = true
    · have hc' : how = 1 ∨ (how = 2 ∧ true = false) ∨ (how = 3 ∧ true = true ∧ (stV e' (getN h e') 0).2.2.2.1 = old) := by
        rw [hev]
        unfold chS at hc
        rcases of_decide_eq_true hc with q | ⟨_, q⟩ | ⟨q, _, q2⟩
        · exact .inl q
        · cases q
        · exact .inr (.inr ⟨q, rfl, q2⟩)
      obtain ⟨P, H⟩ := split_found hm hx hS hll w N hp
      have hbf := bot_found how (key := key) (val := val) (by omega) (by omega) old way (stV e' (getN h e') 0) N.kids
      obtain ⟨u1, u2⟩ := upL_len 0 way.reverse (botF key val (stV e' (getN h e') 0))
      have hb1 : (botF key val (stV e' (getN h e') 0)).1.length = 1 := rfl
      have hb2 : (botF key val (stV e' (getN h e') 0)).2.1.length = 1 := rfl
      rw [List.length_reverse] at u1 u2
      have hold : ∀ r ∈ (upL 0 way.reverse (botF key val (stV e' (getN h e') 0))).2.1, 1 ≤ r ∧ r ≤ h.length := by
        intro r hr
        rw [upL_old] at hr
        rcases List.mem_append.1 hr with hr | hr
        · have hr : r ∈ [e'] := hr
          rw [List.mem_singleton.1 hr]
          exact ⟨N.r1, N.r2⟩
        · obtain ⟨x, hx, rfl⟩ := List.mem_map.1 hr
          exact w2 x (List.mem_reverse.1 hx)
      have hps := plan_some how key val old way (stV e' (getN h e') 0) true (by omega) w1 (Nat.le_refl _) (s := botF key val (stV e' (getN h e') 0)) (by omega) (by omega) hc' hbf
      rw [if_pos rfl, List.take_length] at hps
      rw [eaf, if_pos hc]
      exact ⟨_, _, P, H, by omega, hgo _ _ _ _ hps P (by omega) (by omega) hold _ H, fun q => absurd q hne, fun q => by rw [hc] at q; cases q⟩
    · have hc' : ¬ (how = 1 ∨ (how = 2 ∧ true = false) ∨ (how = 3 ∧ true = true ∧ (stV e' (getN h e') 0).2.2.2.1 = old)) := by
        rw [hev]
        intro q
        refine hc ?_
        unfold chS
        refine decide_eq_true ?_
        rcases q with q | ⟨_, q⟩ | ⟨q, _, q2⟩
        · exact .inl q
        · cases q
        · exact .inr (.inr ⟨q, rfl, q2⟩)
      rw [eaf, if_neg hc]
      exact ⟨[], root, PlanOK.nil hm, hu ▸ Has.heap hm h0 h1, by show 0 ≤ _; omega, hstay _ _ _ hc', fun q => absurd q hne, fun _ => ⟨rfl, rfl⟩⟩
/-! ### A call, whatever is asked -/
theorem leafnode_any (k v : ByteArray) : node_Leaf k v = some (leafN (k, (v, ()))) := node_Leaf.eq _ _
theorem run_arg (h : List NodeV) (root how : Int) {key val : ByteArray} (hkv : okP (key, (val, ()))) (old : ByteArray) (hh : ¬ (1 ≤ how ∧ how ≤ 3)) : split_Run h root how key val old = some ([], (0, (2, ()))) := by
  rw [split_Run.eq, leafnode_any, bnd_some, may_any _ (leaf_okN hkv), bnd_some, ltI_d, ltI_d, br_if, br_if]
  by_cases q : how < 1
  · rw [if_pos q]
  · rw [if_neg q, if_pos (by omega)]
theorem run_long (h : List NodeV) (root how : Int) {key val : ByteArray} (hkv : okP (key, (val, ()))) (old : ByteArray) (hh : 1 ≤ how ∧ how ≤ 3) (hl : longP (key, (val, ())) = true) : split_Run h root how key val old = some ([], (0, (6, ()))) := by
  rw [split_Run.eq, leafnode_any, bnd_some, may_any _ (leaf_okN hkv), bnd_some, leaf_may hkv, if_pos hl, ltI_d, ltI_d, br_if, br_if, if_neg (by omega), if_neg (by omega)]
  rfl
theorem run_form {h : List NodeV} (ho : okH h) (root how : Int) {key val : ByteArray} (hkv : okT (key, (val, ()))) (old : ByteArray) (hh : 1 ≤ how ∧ how ≤ 3) (hb : fitH h root = true → (bindsT (U h root)).length ≤ 40000000) (hn : isTreeS h root = false) : split_Run h root how key val old = some ([], (0, (4, ()))) := by
  rw [split_Run.eq, leafnode_any, bnd_some, may_any _ (leaf_okN hkv.ok), bnd_some, leaf_may hkv.ok, if_neg (by rw [longP_ok.2 hkv]; simp), ltI_d, ltI_d, br_if, br_if, if_neg (by omega), if_neg (by omega), Is_any ho root hb, hn]
  rfl
theorem run_tree {h : List NodeV} (ho : okH h) {root how : Int} {key val : ByteArray} (hkv : okT (key, (val, ()))) (old : ByteArray) (hh : 1 ≤ how ∧ how ≤ 3) (hb : fitH h root = true → (bindsT (U h root)).length ≤ 40000000) (hn : isTreeS h root = true) : split_Run h root how key val old = split_Run.l0 h root (spO how key val old root noSt false) [] := by
  rw [split_Run.eq, leafnode_any, bnd_some, may_any _ (leaf_okN hkv.ok), bnd_some, leaf_may hkv.ok, if_neg (by rw [longP_ok.2 hkv]; simp), ltI_d, ltI_d, br_if, br_if, if_neg (by omega), if_neg (by omega), Is_any ho root hb, hn, snew_any]
  rfl
theorem afterS_srt {how : Int} {x : PairV} {old : ByteArray} {l : List PairV} (h : Srt l) : Srt (afterS how x old l) := by
  unfold afterS
  split
  · exact putS_srt x h
  · exact h
theorem afterS_len (how : Int) (x : PairV) (old : ByteArray) (l : List PairV) : (afterS how x old l).length ≤ l.length + 1 := by
  unfold afterS
  split
  · exact putS_len x l
  · omega
end Go.Proofs.YtmopkbmcilolgaaGreat.AH
set_option linter.unusedVariables false
set_option linter.unusedSimpArgs false
namespace Go.Proofs.YtmopkbmcilolgaaGreat.AH
open Go.Abs
/-! ### The chapter's example -/
theorem emptyH : okH [] ∧ mayH [] = true := ⟨⟨by show 0 ≤ _; omega, fun n hn => (by cases hn), fun n hn => (by cases hn)⟩, rfl⟩
def exN : NodeV := treeI (ByteArray.mk #[97]) (ByteArray.mk #[49]) 0 0 1
theorem run_empty : split_Run [] 0 1 (ByteArray.mk #[97]) (ByteArray.mk #[49]) ByteArray.empty = some ([exN], (1, (0, ()))) := by
  obtain ⟨ho, hm⟩ := emptyH
  have hx : okT (ByteArray.mk #[97], (ByteArray.mk #[49], ())) := ⟨by decide, by decide⟩
  have hu : U [] 0 = treeT [] := by rw [U_zero, treeT_nil]
  have hi : isTreeS [] 0 = true := isTree_iff2.2 ⟨fitH_iff.2 ⟨⟨by omega, by show (0 : Int) ≤ ((0 : Nat) : Int); omega⟩, rfl⟩, by rw [U_zero, bindsT_nil]; rfl, by rw [U_zero, bindsT_nil, treeT_nil]⟩
  rw [run_tree ho hx _ ⟨by omega, by omega⟩ (fun _ => by rw [U_zero, bindsT_nil]; show 0 ≤ _; omega) hi]
  obtain ⟨news, s, _, _, _, e, h1, _⟩ := run_walk ho hm (by show 0 ≤ _; omega) (root := 0) (how := 1) (by omega) (by show (0 : Int) ≤ ((0 : Nat) : Int); omega) (l := []) List.Pairwise.nil (fun p hp => (by cases hp)) (by show 0 ≤ _; omega) hu hx ByteArray.empty
  obtain ⟨rfl, rfl⟩ := h1 rfl (by unfold chS; exact decide_eq_true (.inl rfl))
  rw [e]
  rfl
theorem sanswer_any (how : Int) (key val old : ByteArray) (e : StepV) (found : Bool) (W : List StepV) : split_Split_Answer (spO how key val old 0 e found) W = some ((if found = true then (e.2.2.2.1, (true, ())) else (ByteArray.empty, (false, ()))), (spO how key val old 0 e found, (W, ()))) := by
  rw [split_Split_Answer.eq]
  show br (notB (eqI 0 0)) _ (br (notB found) _ _) = _
  rw [show notB (eqI 0 0) = false from rfl, br_f]
  cases found <;> rfl
theorem works27 : law27_works = some true := by
  have hk : exN.2.2.2.2.1 = [0, 0] := rfl
  rw [law27_works.eq, run_empty, bnd_some]
  show br false _ (br false _ (law27_works.j0 [exN] 1 false)) = _
  rw [br_f, br_f, law27_works.j0.eq, br_f, snew_any, bnd_some]
  show br true (bnd (split_Split_Feed exN (spO 2 (ByteArray.mk #[97]) (ByteArray.mk #[50]) ByteArray.empty 1 noSt false) []) _) none = _
  rw [br_t, sfeed_any 2 (key := ByteArray.mk #[97]) (by decide) _ _ (by omega) noSt [] (by show 0 ≤ _; omega) (n := exN) rfl hk, if_pos (show ByteArray.mk #[97] = exN.2.1 from rfl), bnd_some]
  dsimp only
  rw [sanswer_any, bnd_some, if_pos rfl]
  dsimp only
  rw [plan_none 2 _ _ _ _ _ true (by rintro (q | ⟨_, q⟩ | ⟨q, _⟩); omega; cases q; omega), bnd_some]
  show br (eqS (ByteArray.mk #[49]) (ByteArray.mk #[49])) (br true (br true (br true (some (eqI 1 1)) none) (some false)) (some false)) (some false) = some true
  rw [eqS_d, decide_eq_true rfl, br_t, br_t, br_t, br_t, eqI_d, decide_eq_true rfl]
end Go.Proofs.YtmopkbmcilolgaaGreat.AH
set_option linter.unusedVariables false
set_option linter.unusedSimpArgs false
namespace Go.Proofs.YtmopkbmcilolgaaGreat.AH
open Go.Abs
noncomputable def depS (l : List PairV) : Nat :=
  if hl : l = [] then 0 else
    have := topI_lt hl
    1 + max (depS (l.take (topI l))) (depS (l.drop (topI l + 1)))
termination_by l.length
decreasing_by
  · rw [List.length_take]; omega
  · rw [List.length_drop]; omega
theorem depS_nil : depS [] = 0 := by rw [depS, dif_pos rfl]
theorem depS_cons {l : List PairV} (hl : l ≠ []) : depS l = 1 + max (depS (l.take (topI l))) (depS (l.drop (topI l + 1))) := by rw [depS, dif_neg hl]
theorem depS_le : ∀ (n : Nat) (l : List PairV), l.length ≤ n → depS l ≤ l.length
  | n, l, hn => by
    by_cases hl : l = []
    · subst hl; rw [depS_nil]; exact Nat.zero_le _
    have ht := topI_lt hl
    cases n with
    | zero => exact absurd (List.eq_nil_of_length_eq_zero (by omega)) hl
    | succ n =>
      have h1 := depS_le n (l.take (topI l)) (by rw [List.length_take]; omega)
      have h2 := depS_le n (l.drop (topI l + 1)) (by rw [List.length_drop]; omega)
      rw [List.length_take] at h1
      rw [List.length_drop] at h2
      rw [depS_cons hl]
      omega
theorem Srt_take {l : List PairV} (h : Srt l) (i : Nat) : Srt (l.take i) := List.Pairwise.sublist (List.take_sublist i l) h
theorem Srt_drop {l : List PairV} (h : Srt l) (i : Nat) : Srt (l.drop i) := List.Pairwise.sublist (List.drop_sublist i l) h
theorem isTree_nodes {l : List PairV} (hb : l.length ≤ 40000000) (hS : Srt l) (hs : ∀ p ∈ l, okT p) : isTreeS (nodesS [] l).1 (nodesS [] l).2 = true := by
  have ht := nodesS_ok _ [] l (Nat.le_refl _) rfl hs
  have hfg : fitH (nodesS [] l).1 (nodesS [] l).2 = true := fitH_iff.2 ⟨⟨ht.r0, ht.r1⟩, ht.may⟩
  unfold isTreeS
  rw [hfg, ht.shp, bindsT_treeT, srt_isS hS, Bool.true_and, Bool.true_and]
  exact eqSh_iff.2 rfl
end Go.Proofs.YtmopkbmcilolgaaGreat.AH
set_option linter.unusedVariables false
set_option linter.unusedSimpArgs false
namespace Go.Proofs.YtmopkbmcilolgaaGreat.AH
open Go.Abs
theorem take16 (l : List PairV) (h : l.length ≤ 9223372036854775807) : andB (leI 0 0) (andB (leI 0 (minI (ofN (lenL tapiPair l)) 16)) (leI (minI (ofN (lenL tapiPair l)) 16) (ofN (lenL tapiPair l)))) = true ∧ subL tapiPair l (toN 0) (toN (minI (ofN (lenL tapiPair l)) 16)) = l.take 16 := by
  have em : minI (ofN (lenL tapiPair l)) 16 = ((min l.length 16 : Nat) : Int) := by
    simp only [minI_d, ofN_d, lenL_d]
    omega
  rw [em]
  refine ⟨?_, ?_⟩
  · simp only [leI_d, andB_d, ofN_d, lenL_d]
    exact decide_eq_true (by omega)
  · rw [subL_pre]
    by_cases q : l.length ≤ 16
    · rw [Nat.min_eq_left q, List.take_length, List.take_of_length_le q]
    · rw [Nat.min_eq_right (by omega)]
theorem base_Cut_16 (s : ByteArray) : base_Cut s (16 : Int) = some (cut 16 s) := base_Cut_any s 16
/-- The bindings that a statement of the chapter begins with. -/
def madeL (l : List PairV) : List PairV := fewL (l.take 16)
theorem madeL_ok (l : List PairV) : (madeL l).length ≤ 16 ∧ ∀ p ∈ madeL l, okP p := by
  refine ⟨?_, fewL_ok _⟩
  unfold madeL fewL
  rw [List.length_map]
  have : (List.take 40 (List.take 16 l)).length ≤ 16 := by rw [List.length_take, List.length_take]; omega
  omega
theorem made27 {l : List PairV} (h : l.length ≤ 9223372036854775807) : law27_made l = some (if longAny (madeL l) = true then ([], ([], ((0 : Int), (false, ())))) else (makeS (madeL l), ((nodesS [] (makeS (madeL l))).1, ((nodesS [] (makeS (madeL l))).2, (true, ()))))) := by
  obtain ⟨h1, h2⟩ := madeL_ok l
  obtain ⟨t1, t2⟩ := take16 l h
  rw [law27_made.eq, t1, br_t, t2, few_any (l.take 16) (by rw [List.length_take]; omega), bnd_some]
  show bnd (ref20_Long (madeL l)) _ = _
  rw [Long_any _ (by omega) h2, bnd_some]
  cases longAny (madeL l) with
  | true => rw [br_t, if_pos rfl]
  | false =>
    rw [br_f, if_neg (by simp)]
    show bnd (ref25_Make (madeL l)) _ = _
    rw [refMake_any _ (by omega) h2, bnd_some]
    show bnd (ref07_Make (madeL l)) _ = _
    rw [refmake_any _ (by omega) h2, bnd_some]
theorem long_one {x : PairV} (hx : okP x) : ref20_Long [x] = some (longP x) := by
  rw [Long_any [x] (by show 1 ≤ _; omega) (fun p hp => by rw [List.mem_singleton.1 hp]; exact hx)]
  show some (([x] : List PairV).any longP) = _
  rw [List.any_cons, List.any_nil, Bool.or_false]
theorem pre_same (h news : List NodeV) : subL tapiNode (PS h news) (toN 0) (toN (ofN (lenL tapiNode h))) = h := by
  rw [ofN_d, toN_d, show toN 0 = 0 from rfl]
  unfold subL lenL PS
  rw [List.drop_zero, Nat.sub_zero, List.take_left']
  rfl
end Go.Proofs.YtmopkbmcilolgaaGreat.AH
set_option linter.unusedVariables false
set_option linter.unusedSimpArgs false
namespace Go.Proofs.YtmopkbmcilolgaaGreat.AH
open Go.Abs
theorem refchanges_any (how : Int) (old : ByteArray) (o : Option PairV) : ref23_Changes how old (valF o).1 (valF o).2.1 = some (chS how old o) := by
  have hb : (valF o).2.1 = o.isSome := by cases o <;> rfl
  rw [ref23_Changes.eq, hb]
  unfold chS
  simp only [eqI_d, eqS_d, br_if]
  by_cases h1 : how = 1
  · rw [if_pos h1, decide_eq_true (.inl h1)]
  rw [if_neg h1]
  by_cases h2 : how = 2
  · rw [if_pos h2]
    cases o with
    | none => rw [decide_eq_true (.inr (.inl ⟨h2, rfl⟩))]; rfl
    | some p => rw [decide_eq_false (by rintro (q | ⟨_, q⟩ | ⟨q, _⟩); exact h1 q; cases q; omega)]; rfl
  rw [if_neg h2]
  by_cases h3 : how = 3
  · rw [if_pos h3]
    cases o with
    | none => rw [show (none : Option PairV).isSome = false from rfl, br_f, decide_eq_false (by rintro (q | ⟨q, _⟩ | ⟨_, q, _⟩); exact h1 q; omega; cases q)]
    | some p =>
      rw [show (some p).isSome = true from rfl, br_t]
      by_cases q : (valF (some p)).1 = old
      · rw [decide_eq_true q, decide_eq_true (.inr (.inr ⟨h3, rfl, q⟩))]
      · rw [decide_eq_false q, decide_eq_false (by rintro (q' | ⟨q', _⟩ | ⟨_, _, q'⟩); exact h1 q'; omega; exact q q')]
  · rw [if_neg h3, decide_eq_false (by rintro (q | ⟨q, _⟩ | ⟨q, _⟩); exact h1 q; exact h2 q; exact h3 q)]
end Go.Proofs.YtmopkbmcilolgaaGreat.AH
set_option linter.unusedVariables false
set_option linter.unusedSimpArgs false
namespace Go.Proofs.YtmopkbmcilolgaaGreat.AH
open Go.Abs
theorem refbinds_any (n : NodeV) : ref13_Binds n = some (bindsS n) := by
  rw [ref13_Binds.eq]
  unfold bindsS
  simp only [eqI_d, br_if]
  by_cases h1 : n.1 = 1
  · rw [if_pos h1, if_pos (.inl h1)]
  by_cases h4 : n.1 = 4
  · rw [if_neg h1, if_pos h4, if_pos (.inr (.inl h4))]
  by_cases h6 : n.1 = 6
  · rw [if_neg h1, if_neg h4, if_pos h6, if_pos (.inr (.inr h6))]
  rw [if_neg h1, if_neg h4, if_neg h6, if_neg (show ¬ (n.1 = 1 ∨ n.1 = 4 ∨ n.1 = 6) by omega)]
  by_cases h3 : n.1 = 3
  · rw [if_pos h3, if_pos h3]
  · rw [if_neg h3, if_neg h3]
end Go.Proofs.YtmopkbmcilolgaaGreat.AH
set_option linter.unusedVariables false
set_option linter.unusedSimpArgs false
namespace Go.Proofs.YtmopkbmcilolgaaGreat.AH
open Go.Abs
theorem refhbinds_loop {h : List NodeV} (ho : okH h) (refs : List Int) (hr : refs.length ≤ 50000000) (hb : ∀ x ∈ refs, ref17_Binds h x = some (bindsT (U h x))) (d : Nat) : ∀ (i : Nat) (acc : List PairV), i ≤ refs.length → refs.length - i = d →
    (acc ++ ((refs.drop i).map fun x => bindsT (U h x)).flatten).length ≤ 1000000000 → ref17_Binds.l0 h refs i acc = some (acc ++ ((refs.drop i).map fun x => bindsT (U h x)).flatten) := by
  induction d with
  | zero =>
    intro i acc h1 h2 h3
    rw [ref17_Binds.l0.eq]
    simp only [ltI_d, ofN_d, lenL_d, br_if]
    rw [if_neg (by omega), List.drop_eq_nil_of_le (by omega)]
    simp
  | succ d ih =>
    intro i acc h1 h2 h3
    have hi : i < refs.length := by omega
    rw [List.drop_eq_getElem_cons hi, List.map_cons, List.flatten_cons, ← List.append_assoc] at h3
    rw [ref17_Binds.l0.eq]
    simp only [ltI_d, leI_d, ofN_d, lenL_d, andB_d, br_if]
    rw [if_pos (by omega), if_pos (by omega), ixR refs i hi, hb _ (List.getElem_mem hi), bnd_some]
    simp only [fitL_d, appL_d, br_if]
    rw [if_pos (by rw [List.length_append] at h3; omega), add1 i (by omega), ih (i + 1) _ (by omega) (by omega) h3, List.drop_eq_getElem_cons hi, List.map_cons, List.flatten_cons, List.append_assoc]
theorem refhbinds_any {h : List NodeV} (ho : okH h) (hm : mayH h = true) : ∀ (n : Nat) (r : Int), 0 ≤ r → r ≤ n → r ≤ h.length → (bindsT (U h r)).length ≤ 1000000000 → ref17_Binds h r = some (bindsT (U h r)) := by
  have hlen := ho.len
  intro n
  induction n with
  | zero =>
    intro r h0 h1 h2 h3
    have : r = 0 := by omega
    subst this
    rw [ref17_Binds.eq, eqI_d, br_if, if_pos rfl, U_zero, bindsT_nil]
  | succ n ih =>
    intro r h0 h1 h2 h3
    by_cases e : r = 0
    · subst e
      rw [ref17_Binds.eq, eqI_d, br_if, if_pos rfl, U_zero, bindsT_nil]
    have hr1 : 1 ≤ r := by omega
    have o := ho.node _ (getN_mem h r hr1 h2)
    rw [ref17_Binds.eq, eqI_d, br_if, if_neg e, inG h r hr1 h2 (by omega), br_t, ixG h r hr1 h2 (by omega), eqI_d, br_if]
    by_cases h4 : (getN h r).1 = 4
    · obtain ⟨a, b, k1, k2, k3, k4, k5⟩ := bindsU_tree hm hr1 h2 h4
      rw [k5, List.length_append, List.length_append] at h3
      rw [if_pos h4, (in01 _ a b k1).1, br_t, (in01 _ a b k1).2, (ix0 _ a b k1).1, (ix0 _ a b k1).2, ih a (by omega) (by omega) (by omega) (by omega), bnd_some]
      simp only [fitL_d, appL_d, br_if, List.nil_append]
      rw [if_pos (by omega), refbinds_any, bnd_some]
      try simp only [fitL_d, appL_d, br_if]
      rw [if_pos (by rw [List.length_append]; omega), br_t, ih b (by omega) (by omega) (by omega) (by omega), bnd_some]
      try simp only [fitL_d, appL_d, br_if]
      rw [if_pos (by rw [List.length_append, List.length_append]; omega), k5]
    · have k5 := bindsU_refs hm hr1 h2 h4
      have hrl := refsS_len (getN h r)
      have hkl := o.kids
      rw [k5] at h3
      have hx := (may_node hm hr1 h2).2
      have hb : ∀ x ∈ refsS (getN h r), ref17_Binds h x = some (bindsT (U h x)) := by
        intro x hx'
        have hq := hx'
        rw [refsS_all] at hq
        have := hx x (List.mem_filter.1 hq).1
        refine ih x (by omega) (by omega) (by omega) ?_
        have := flat_sub (List.mem_map.2 ⟨x, hx', rfl⟩ : bindsT (U h x) ∈ (refsS (getN h r)).map fun x => bindsT (U h x))
        rw [List.length_append] at h3
        omega
      rw [if_neg h4, refbinds_any, bnd_some]
      simp only [fitL_d, appL_d, br_if, List.nil_append]
      rw [if_pos (by rw [List.length_append] at h3; omega), refrefs_any _ o, bnd_some]
      have := refhbinds_loop ho (refsS (getN h r)) (by omega) hb (refsS (getN h r)).length 0 (bindsS (getN h r)) (by omega) (by omega) (by rw [List.drop_zero]; exact h3)
      rw [List.drop_zero, show ((0 : Nat) : Int) = 0 from rfl] at this
      rw [k5]
      exact this
end Go.Proofs.YtmopkbmcilolgaaGreat.AH
set_option linter.unusedVariables false
set_option linter.unusedSimpArgs false
namespace Go.Proofs.YtmopkbmcilolgaaGreat.AH
open Go.Abs
theorem refIs_any {h : List NodeV} (ho : okH h) (r : Int) (hb : fitH h r = true → (bindsT (U h r)).length ≤ 40000000) : ref25_Is h r = some (isTreeS h r) := by
  rw [ref25_Is.eq, fits_any h ho, bnd_some]
  unfold isTreeS
  cases hf : fitH h r with
  | false => rw [show notB false = true from rfl, br_t, Bool.false_and]
  | true =>
    obtain ⟨⟨a, b⟩, c⟩ := fitH_iff.1 hf
    have hl := hb hf
    have hs := binds_short c r.toNat r a (by omega) b
    have hm := makeS_len (bindsT (U h r))
    have hs' : ∀ p ∈ makeS (bindsT (U h r)), okT p := fun p hp => hs p (makeS_mem hp)
    have ht := nodesS_ok _ [] (makeS (bindsT (U h r))) (Nat.le_refl _) rfl hs'
    have hg := nodes_okH (by omega) hs'
    have hfg : fitH (nodesS [] (makeS (bindsT (U h r)))).1 (nodesS [] (makeS (bindsT (U h r)))).2 = true := fitH_iff.2 ⟨⟨ht.r0, ht.r1⟩, ht.may⟩
    rw [show notB true = false from rfl, br_f, Bool.true_and, refhbinds_any ho c r.toNat r a (by omega) b (by omega), bnd_some, refMake_any _ hl (fun p hp => (hs p hp).ok), bnd_some, refSame_any _ _ ho hg, bnd_some, hf, hfg, Bool.true_and, Bool.true_and, ht.shp, isTree_make _ _ rfl]
end Go.Proofs.YtmopkbmcilolgaaGreat.AH
set_option linter.unusedVariables false
set_option linter.unusedSimpArgs false
namespace Go.Proofs.YtmopkbmcilolgaaGreat.AH
open Go.Abs
theorem Part.upL {h : List NodeV} {r0 : Int} {E : Int → Prop} {C : ByteArray → Prop} (more : Int) : ∀ (xs : List StepV) (s : PlanS), Part h r0 E C s.1 s.2.1 [s.2.2] → (∀ x ∈ xs, StOK h r0 x.1 x.node ∧ (x.side = 0 ∨ x.side = 1)) → Part h r0 E C (upL more xs s).1 (upL more xs s).2.1 [(upL more xs s).2.2]
  | [], s, Q, _ => Q
  | x :: xs, s, Q, ho => by
    obtain ⟨S, hs⟩ := ho x List.mem_cons_self
    exact Part.upL more xs _ (Q.side (roots' := [-(s.1.length : Int) - 1]) S hs _ (List.mem_singleton.2 rfl) (fun z hz => .inr (List.mem_singleton.1 hz)) (List.mem_singleton.2 rfl) (fun z hz => .inl (List.mem_singleton.1 hz))) fun y hy => ho y (List.mem_cons_of_mem _ hy)
theorem Part.cutL {h : List NodeV} {r0 : Int} {E : Int → Prop} {C : ByteArray → Prop} : ∀ (xs : List StepV) (s : CutV), Part h r0 E C s.news s.old [s.a.1, s.b.1] → (∀ x ∈ xs, StOK h r0 x.1 x.node ∧ (x.side = 0 ∨ x.side = 1)) → Part h r0 E C (cutL xs s).news (cutL xs s).old [(cutL xs s).a.1, (cutL xs s).b.1]
  | [], s, Q, _ => Q
  | x :: xs, s, Q, ho => by
    obtain ⟨S, hs⟩ := ho x List.mem_cons_self
    have ho' : ∀ y ∈ xs, StOK h r0 y.1 y.node ∧ (y.side = 0 ∨ y.side = 1) := fun y hy => ho y (List.mem_cons_of_mem _ hy)
    rw [Go.Proofs.YtmopkbmcilolgaaGreat.AH.cutL]
    split
    · refine Part.cutL xs _ (Q.side (r := s.a.1) (roots' := [-(s.news.length : Int) - 1, s.b.1]) S hs _ List.mem_cons_self (fun z hz => ?_) List.mem_cons_self (fun z hz => ?_)) ho'
      · rcases List.mem_cons.1 hz with rfl | hz
        · exact .inr rfl
        · exact .inl (List.mem_cons_of_mem _ hz)
      · rcases List.mem_cons.1 hz with rfl | hz
        · exact .inl rfl
        · exact .inr (List.mem_cons_of_mem _ hz)
    · refine Part.cutL xs _ (Q.side (r := s.b.1) (roots' := [s.a.1, -(s.news.length : Int) - 1]) S hs _ (by simp) (fun z hz => ?_) (by simp) (fun z hz => ?_)) ho'
      · rcases List.mem_cons.1 hz with rfl | hz
        · exact .inl List.mem_cons_self
        · exact .inr (List.mem_singleton.1 hz)
      · rcases List.mem_cons.1 hz with rfl | hz
        · exact .inr List.mem_cons_self
        · exact .inl (List.mem_singleton.1 hz)
theorem WayT.sides {h : List NodeV} {k : ByteArray} {r : Int} {l : List PairV} {way : List StepV} {e : Int} {m : List PairV} (w : WayT h k r l way e m) : ∀ x ∈ way, x.side = 0 ∨ x.side = 1 := by
  induction w with
  | done r l => exact fun x hx => by cases hx
  | left N hlt w ih =>
    intro x hx
    rcases List.mem_cons.1 hx with rfl | hx
    · exact .inl rfl
    · exact ih x hx
  | right N hlt w ih =>
    intro x hx
    rcases List.mem_cons.1 hx with rfl | hx
    · exact .inr rfl
    · exact ih x hx
theorem new_part {h : List NodeV} (hm : mayH h = true) {key val : ByteArray} {r : Int} {l : List PairV} {way : List StepV} (w : WayT h key r l way 0 []) (f : Nat) :
    Part h r (fun _ => False) (fun k => k = key) (upL 1 (way.take f).reverse (botN key val way f)).1 (upL 1 (way.take f).reverse (botN key val way f)).2.1 [(upL 1 (way.take f).reverse (botN key val way f)).2.2] ∧ (upL 1 (way.take f).reverse (botN key val way f)).2.1 = way.reverse.map (·.1) := by
  have hst : ∀ x ∈ way, StOK h r x.1 x.node ∧ (x.side = 0 ∨ x.side = 1) := fun x hx => ⟨(w.st hm fun q => ⟨q, .self⟩).1 x hx, w.sides x hx⟩
  constructor
  · refine Part.upL 1 _ _ ?_ fun x hx => hst x (List.mem_of_mem_take (List.mem_reverse.1 hx))
    have Q : Part h r (fun _ => False) (fun k => k = key) (cutWay way f).news (cutWay way f).old [(cutWay way f).a.1, (cutWay way f).b.1] := Part.cutL (way.drop f).reverse ⟨[], [], noHf, noHf, 0⟩ (Part.nil (fun s hs q => by
      rcases List.mem_cons.1 hs with rfl | hs
      · exact absurd q (by decide)
      · rw [List.mem_singleton.1 hs] at q; exact absurd q (by decide)) (fun x hx => by cases hx)) fun x hx => hst x (List.mem_of_mem_drop (List.mem_reverse.1 hx))
    have hQ := Q.more (n := treeI key val (cutWay way f).a.1 (cutWay way f).b.1 ((cutWay way f).a.2.1 + (cutWay way f).b.2.1 + 1)) (old' := []) (roots' := [-((cutWay way f).news.length : Int) - 1]) (fun c hc q => by
      rw [allK_treeI] at hc
      rcases List.mem_cons.1 hc with rfl | hc
      · exact Q.root _ List.mem_cons_self q
      rcases List.mem_cons.1 hc with rfl | hc
      · exact Q.root _ (List.mem_cons_of_mem _ List.mem_cons_self) q
      · rw [List.mem_singleton.1 hc] at q; omega) (fun s hs => by
      rw [allK_treeI]
      rcases List.mem_cons.1 hs with rfl | hs
      · exact .inr List.mem_cons_self
      · rw [List.mem_singleton.1 hs]; exact .inr (List.mem_cons_of_mem _ List.mem_cons_self)) (List.mem_singleton.2 rfl) (fun s hs q => by rw [List.mem_singleton.1 hs] at q; omega) (fun x hx => by cases hx) (.inr rfl)
    rw [List.append_nil] at hQ
    exact hQ
  · rw [upL_old]
    show (cutWay way f).old ++ _ = _
    unfold cutWay
    rw [cutL_old, List.nil_append, ← List.map_append, ← List.reverse_append, List.take_append_drop]
theorem found_part {h : List NodeV} (hm : mayH h = true) {key val : ByteArray} {r : Int} {l : List PairV} {way : List StepV} {e : Int} {p : PairV} {L R : List PairV} {a b : Int} (w : WayT h key r l way e (L ++ p :: R)) (N : NodeAt h e p L R a b) (hp : p.1 = key) :
    Part h r (fun _ => False) (fun _ => False) (upL 0 way.reverse (botF key val (stV e (getN h e) 0))).1 (upL 0 way.reverse (botF key val (stV e (getN h e) 0))).2.1 [(upL 0 way.reverse (botF key val (stV e (getN h e) 0))).2.2] ∧ (upL 0 way.reverse (botF key val (stV e (getN h e) 0))).2.1 = e :: way.reverse.map (·.1) ∧ Bl h r e := by
  obtain ⟨st1, st2⟩ := w.st hm (r0 := r) fun q => ⟨q, .self⟩
  have hst : ∀ x ∈ way, StOK h r x.1 x.node ∧ (x.side = 0 ∨ x.side = 1) := fun x hx => ⟨st1 x hx, w.sides x hx⟩
  have hbe := st2 N.r1
  obtain ⟨S, _, _⟩ := N.st hm hbe
  refine ⟨Part.upL 0 _ _ ?_ fun x hx => hst x (List.mem_reverse.1 hx), by rw [upL_old]; rfl, hbe⟩
  have hk : key = ky h e := by rw [← hp]; exact N.key.symm
  have Q : Part h r (fun _ => False) (fun _ => False) [] [] [] := Part.nil (fun s hs => by cases hs) (fun x hx => by cases hx)
  exact Q.more (n := treeI key val ((getN h e).2.2.2.2.1.getD 0 0) ((getN h e).2.2.2.2.1.getD 1 0) (getN h e).2.2.2.2.2.2.2.1) (old' := [e]) (roots' := [-1]) (fun c hc q => by
    rw [allK_treeI] at hc
    rcases List.mem_cons.1 hc with rfl | hc
    · exact S.kid0 q
    rcases List.mem_cons.1 hc with rfl | hc
    · exact S.kid1 q
    · rw [List.mem_singleton.1 hc] at q; omega) (fun s hs => by cases hs) (List.mem_singleton.2 rfl) (fun s hs q => by rw [List.mem_singleton.1 hs] at q; omega) (fun x hx => by rw [List.mem_singleton.1 hx]; exact hk) (.inl ⟨e, List.mem_singleton.2 rfl, hk⟩)
/-! ### A call that is fed -/
theorem splan_early (how : Int) (key val old : ByteArray) {r : Int} (hr : r ≠ 0) (e : StepV) (found : Bool) (W : List StepV) : split_Split_Plan_v1 (spO how key val old r e found) W = some ((((), ((0 : Int), ((), ()))), (false, ())), (spO how key val old r e found, (W, ([], ([], ()))))) := by
  rw [split_Split_Plan_v1.eq, split_Split_changes.eq]
  show bnd (br (notB (eqI r 0)) (some (false, (spO how key val old r e found, (W, ())))) _) _ = _
  rw [eqI_d, decide_eq_false hr, show notB false = true from rfl, br_t, bnd_some]
  rfl
theorem fed_j (h : List NodeV) (n r : Int) (c : Bool) (s : SplitO) (W : List StepV) : law27_fed.j1 h n r c s W = law27_fed.j3 h n r c s W := by rw [law27_fed.j1.eq, law27_fed.j3.eq]
theorem fed_l (h : List NodeV) (n : Int) (s : SplitO) (W : List StepV) : law27_fed.l0 h n s W = law27_fed.l2 h n s W := by
  rw [law27_fed.l0.eq, law27_fed.l2.eq]
  simp only [fed_j]
theorem fed_end (h : List NodeV) (n : Int) (how : Int) (key val old : ByteArray) (e : StepV) (found : Bool) (W : List StepV) : law27_fed.l2 h n (spO how key val old 0 e found) W = some ((n, (true, ())), (spO how key val old 0 e found, (W, ()))) := by
  rw [law27_fed.l2.eq, swant_any, bnd_some]
  dsimp only
  rw [eqI_d, decide_eq_true rfl, show notB true = false from rfl, br_f]
theorem fed_step {h : List NodeV} (hl : h.length ≤ 40000000) {n : Nat} (hn : n ≤ h.length) (how : Int) (key val old : ByteArray) {r : Int} (hr : 1 ≤ r) (h1 : r ≤ h.length) (e : StepV) (found : Bool) (W : List StepV) :
    law27_fed.l2 h (n : Int) (spO how key val old r e found) W = bnd (split_Split_Feed (getN h r) (spO how key val old r e found) W) fun r0 => law27_fed.l2 h ((n + 1 : Nat) : Int) r0.2.1 r0.2.2.1 := by
  rw [law27_fed.l2.eq, swant_any, bnd_some]
  dsimp only
  rw [eqI_d, decide_eq_false (show ¬ r = 0 by omega), show notB false = true from rfl, br_t, swant_any, bnd_some]
  dsimp only
  rw [splan_early how key val old (by omega), bnd_some]
  dsimp only
  simp only [ltI_d, ofN_d, lenL_d]
  rw [decide_eq_false (show ¬ r < 1 by omega), br_f, decide_eq_false (show ¬ (h.length : Int) < r by omega), br_f, decide_eq_false (show ¬ (h.length : Int) < (n : Int) by omega), br_f, law27_fed.j3.eq, br_f, inG h r hr h1 (by omega), br_t, ixG h r hr h1 (by omega), add1 n (by omega)]
theorem fed_loop {h : List NodeV} (ho : okH h) (hm : mayH h = true) (how : Int) {key : ByteArray} (hkey : key.size ≤ 2000000) (val old : ByteArray) : ∀ (d : Nat) (r : Int) (l : List PairV) (W : List StepV) (n : Nat), r.toNat ≤ d → 0 ≤ r → r ≤ h.length → Srt l → (∀ p ∈ l, okT p) → U h r = treeT l → W.length + r.toNat ≤ 2000000 → n + r.toNat ≤ h.length →
    (∃ way, WayT h key r l way 0 [] ∧ law27_fed.l2 h (n : Int) (spO how key val old r noSt false) W = some ((((n + way.length : Nat) : Int), (true, ())), (spO how key val old 0 noSt false, (W ++ way, ())))) ∨
    (∃ way e p L R a b, WayT h key r l way e (L ++ p :: R) ∧ NodeAt h e p L R a b ∧ p.1 = key ∧ law27_fed.l2 h (n : Int) (spO how key val old r noSt false) W = some ((((n + way.length + 1 : Nat) : Int), (true, ())), (spO how key val old 0 (stV e (getN h e) 0) true, (W ++ way, ())))) := by
  have hlen := ho.len
  intro d
  induction d with
  | zero =>
    intro r l W n hd h0 h1 hS ht hu hW hn
    have : r = 0 := by omega
    subst this
    rw [(treeT_nil_iff hm h0 h1 hu).1 rfl]
    exact .inl ⟨[], .done 0 [], by rw [List.append_nil]; exact fed_end ..⟩
  | succ d ih =>
    intro r l W n hd h0 h1 hS ht hu hW hn
    by_cases hl : l = []
    · subst hl
      have := (treeT_nil_iff hm h0 h1 hu).2 rfl
      subst this
      exact .inl ⟨[], .done 0 [], by rw [List.append_nil]; exact fed_end ..⟩
    obtain ⟨L, p, R, a, b, rfl, N⟩ := node_at hm h0 h1 hl hS ht hu
    have hr := N.r1
    obtain ⟨s1, s2, s3, s4, _⟩ := srt_three N.srt
    have hf := sfeed_any how hkey val old (r := r) (by omega) noSt W (by omega) N.kind N.kids
    have hwl : ∀ x : StepV, (W ++ [x]).length = W.length + 1 := fun x => by rw [List.length_append]; rfl
    have hcl : ∀ (x : StepV) (way : List StepV), (x :: way).length = way.length + 1 := fun x way => rfl
    rw [fed_step hlen (by omega) how key val old hr h1, hf, N.key]
    by_cases c0 : key = p.1
    · rw [if_pos c0, bnd_some]
      exact .inr ⟨[], r, p, L, R, a, b, .done r _, N, c0.symm, by rw [List.append_nil]; exact fed_end ..⟩
    rw [if_neg c0]
    by_cases c1 : lt key p.1 = true
    · rw [if_pos c1, bnd_some]
      have a0 := N.a0
      have a1 := N.a1
      rcases ih a L (W ++ [stV r (getN h r) 0]) (n + 1) (by omega) a0 (by omega) s1 (fun q hq => ht q (List.mem_append_left _ hq)) N.left (by rw [hwl]; omega) (by omega) with ⟨way, w, e⟩ | ⟨way, e', p', L', R', a', b', w, N', hp, e⟩
      · exact .inl ⟨_ :: way, .left N c1 w, e.trans (by rw [List.append_assoc, hcl, show n + 1 + way.length = n + (way.length + 1) by omega]; rfl)⟩
      · exact .inr ⟨_ :: way, e', p', L', R', a', b', .left N c1 w, N', hp, e.trans (by rw [List.append_assoc, hcl, show n + 1 + way.length + 1 = n + (way.length + 1) + 1 by omega]; rfl)⟩
    · have c2 : lt p.1 key = true := by
        rcases tri key p.1 with ⟨q, _⟩ | ⟨q, _⟩ | ⟨q, _⟩
        · exact absurd q c1
        · exact absurd q c0
        · exact q
      rw [if_neg c1, bnd_some]
      have b0 := N.b0
      have b1 := N.b1
      rcases ih b R (W ++ [stV r (getN h r) 1]) (n + 1) (by omega) b0 (by omega) s2 (fun q hq => ht q (List.mem_append_right _ (List.mem_cons_of_mem _ hq))) N.right (by rw [hwl]; omega) (by omega) with ⟨way, w, e⟩ | ⟨way, e', p', L', R', a', b', w, N', hp, e⟩
      · exact .inl ⟨_ :: way, .right N c2 w, e.trans (by rw [List.append_assoc, hcl, show n + 1 + way.length = n + (way.length + 1) by omega]; rfl)⟩
      · exact .inr ⟨_ :: way, e', p', L', R', a', b', .right N c2 w, N', hp, e.trans (by rw [List.append_assoc, hcl, show n + 1 + way.length + 1 = n + (way.length + 1) + 1 by omega]; rfl)⟩
/-- A way is no longer than it is deep. -/
theorem mxD_mem {h : List NodeV} : ∀ {l : List Int} {x : Int}, x ∈ l → dep h x ≤ mxD h l
  | y :: l, x, hx => by
    show _ ≤ max (dep h y) (mxD h l)
    rcases List.mem_cons.1 hx with rfl | hx
    · omega
    · have := mxD_mem (h := h) hx; omega
theorem NodeAt.deps {h : List NodeV} (hm : mayH h = true) {r : Int} {p : PairV} {L R : List PairV} {a b : Int} (N : NodeAt h r p L R a b) : dep h a + 1 ≤ dep h r ∧ dep h b + 1 ≤ dep h r := by
  rw [dep_node hm N.r1 N.r2]
  have : ∀ c : Int, (c = a ∨ c = b) → dep h c ≤ mxD h (refsS (getN h r)) := fun c hc => by
    by_cases q : c = 0
    · rw [q, dep_zero]; omega
    · exact mxD_mem ((N.refs hm).2 ⟨hc, q⟩)
  have h1 := this a (.inl rfl)
  have h2 := this b (.inr rfl)
  omega
theorem WayT.deep {h : List NodeV} (hm : mayH h = true) {k : ByteArray} {r : Int} {l : List PairV} {way : List StepV} {e : Int} {m : List PairV} (w : WayT h k r l way e m) : way.length + dep h e ≤ dep h r := by
  induction w with
  | done r l => show 0 + _ ≤ _; omega
  | left N hlt w ih =>
    have := (N.deps hm).1
    rw [List.length_cons]; omega
  | right N hlt w ih =>
    have := (N.deps hm).2
    rw [List.length_cons]; omega
theorem fresh27 (h k : List NodeV) (t : Int) (l : List Int) (hl : l.length ≤ 50000000) (pl : PlanV) (d : Nat) : ∀ i n : Nat, i ≤ l.length → l.length - i = d → n ≤ i →
    law27_SplitOld.l1 h k t l (n : Int) (i : Int) pl = br (eqI ((n + ((l.drop i).filter fun x => decide ((h.length : Int) < x)).length : Nat) : Int) (ofN (lenL tapiNode pl.1))) (bnd (ref25_Is k t) fun r0 => some r0) (some false) := by
  induction d with
  | zero =>
    intro i n hi hd hn
    rw [law27_SplitOld.l1.eq]
    simp only [ltI_d, ofN_d, lenL_d]
    rw [decide_eq_false (by omega), br_f, List.drop_eq_nil_of_le (by omega)]
    rfl
  | succ d ih =>
    intro i n hi hd hn
    have hil : i < l.length := by omega
    rw [law27_SplitOld.l1.eq, ixR l i hil, add1 i (by omega), add1 n (by omega), List.drop_eq_getElem_cons hil]
    simp only [ltI_d, leI_d, andB_d, ofN_d, lenL_d]
    rw [decide_eq_true (show (i : Int) < (l.length : Int) by omega), br_t, decide_eq_true (show (0 : Int) ≤ (i : Int) ∧ (i : Int) < (l.length : Int) by omega), br_t, br_if]
    by_cases q : (h.length : Int) < l[i]
    · rw [if_pos q, ih (i + 1) (n + 1) (by omega) (by omega) (by omega), List.filter_cons_of_pos (by simpa using q), List.length_cons, show n + 1 + ((l.drop (i + 1)).filter fun x => decide ((h.length : Int) < x)).length = n + (((l.drop (i + 1)).filter fun x => decide ((h.length : Int) < x)).length + 1) by omega]
      rfl
    · rw [if_neg q, ih (i + 1) n (by omega) (by omega) (by omega), List.filter_cons_of_neg (by simpa using q)]
      rfl
theorem feed_o (n : NodeV) : split_Split_Feed_o n = some () := by
  rw [split_Split_Feed_o.eq, split_Split_Want_o.eq, bnd_some]
  rfl
theorem plan_o : split_Split_Plan_o = some (([], ((0 : Int), ([], ()))), (false, ())) := by
  rw [split_Split_Plan_o.eq, split_Split_changes_o_v1.eq, bnd_some]
  rfl
end Go.Proofs.YtmopkbmcilolgaaGreat.AH
set_option linter.unusedVariables false
set_option linter.unusedSimpArgs false
namespace Go.Proofs.YtmopkbmcilolgaaGreat.Pure
open Go.Abs Go.Proofs.YtmopkbmcilolgaaGreat.AH
theorem nodup_rev {l : List Int} (h : l.Nodup) : l.reverse.Nodup := List.pairwise_reverse.2 (h.imp fun q e => q e.symm)
theorem old_end {H news : List NodeV} {R : Int} {E : Int → Prop} {C : ByteArray → Prop} {old : List Int} {s : Int} (Q : Part H R E C news old [s]) (ho : okH H) (hm : mayH H = true) {l l' : List PairV} (h0 : 0 ≤ R) (hr0 : R ≤ H.length) (P : PlanOK H news) (Hs : Has H news s (treeT l')) (hH : H.length ≤ 100) (hS : Srt l) (hT : ∀ p ∈ l, okT p) (hu : U H R = treeT l) (hS' : Srt l') (hT' : ∀ p ∈ l', okT p) (hl' : l'.length ≤ 1000)
    (hbel : ∀ x ∈ old, Bl H R x) (hnd : old.Nodup) (hE : ∀ x, E x → ∀ q ∈ l', q.1 ≠ ky H x) (hC : ∀ k, C k → ∀ q ∈ l, q.1 ≠ k) (hstay : ∀ q ∈ l, (∃ z ∈ l', z.1 = q.1) ∨ ∃ x ∈ old, ky H x = q.1) {n : Nat} (hn : n ≤ 900) (hnn : news.length ≤ n + 1) (hol : old.length ≤ 1000) :
    law27_SplitOld.j0 H R (n : Int) true false ((), (s, ((), ()))) news old = some true := by
  obtain ⟨g1, g2, g3, g4⟩ := tree_plan ho P Hs (by omega) hS'
  obtain ⟨g, e1, e2, e3, e4, e5⟩ := old_holds Q ho hm h0 hr0 P Hs g1 hS hT hu hS' hT' hbel hnd hE hC hstay
  have hdo := refdo_plan ho hm P (by omega) Hs.lo Hs.hi hol fun r hr => by
    have := Bl.in_ hm hr0 (hbel r hr)
    omega
  have hfr := fresh27 H (PS H news) (fillQ H.length s) _ e4 (news, (s, (old, ()))) _ 0 0 (by omega) rfl (by omega)
  rw [List.drop_zero, e5, Nat.zero_add] at hfr
  have ea : addI .i64 (n : Int) 1 = ((n + 1 : Nat) : Int) := add1 n (by omega)
  have hlt : ltI ((n + 1 : Nat) : Int) (ofN (lenL tapiNode news)) = false := by
    simp only [ltI_d, ofN_d, lenL_d]
    exact decide_eq_false (by omega)
  rw [law27_SplitOld.j0.eq, br_f, show notB true = false from rfl, br_f]
  show bnd (ref18_Do H (news, (s, (old, ())))) _ = _
  rw [hdo, bnd_some]
  dsimp only
  rw [show notB true = false from rfl, br_f, e1, bnd_some, e2, bnd_some, show notB true = false from rfl, br_f, ea, hlt, br_f, e3, bnd_some]
  refine hfr.trans ?_
  have hq : eqI (news.length : Int) (ofN (lenL tapiNode news)) = true := decide_eq_true rfl
  rw [hq, br_t, refIs_any g1 _ (fun _ => by rw [g3]; omega), bnd_some, g4]
theorem SplitOld (a0 : den (.list tapiPair)) (a1 : den (.int .u8)) (a2 : den .str) (a3 : den .str) (a4 : den .str) (h0 : wfD (.list tapiPair) a0) (h1 : wfD (.int .u8) a1) (h2 : wfD .str a2) (h3 : wfD .str a3) (h4 : wfD .str a4) : law27_SplitOld a0 a1 a2 a3 a4 = some true := by
  obtain ⟨hl, hs⟩ := madeL_ok a0
  have ec : ∀ a : ByteArray, base_Cut a (16 : Int) = some (cut 16 a) := fun a => base_Cut_any a 16
  have hx : okT (cut 16 a2, (cut 16 a3, ())) := ⟨by show (cut 16 a2).size ≤ 16; rw [cut_size]; omega, by show (cut 16 a3).size ≤ 16; rw [cut_size]; omega⟩
  rw [law27_SplitOld.eq, works27, bnd_some, show notB true = false from rfl, br_f, made27 h0.1, bnd_some, ec, bnd_some, ec, bnd_some]
  cases hg : longAny (madeL a0) with
  | true =>
    rw [if_pos rfl]
    rfl
  | false =>
    have hb := longAny_false hg
    have hm := makeS_len (madeL a0)
    have hS := makeS_Srt (madeL a0)
    have ht := nodesS_ok _ [] (makeS (madeL a0)) (Nat.le_refl _) rfl hb
    have ho := nodes_okH (l := makeS (madeL a0)) (by omega) hb
    have hn := nodesS_len _ [] (makeS (madeL a0)) (Nat.le_refl _)
    have hi := isTree_nodes (by omega) hS hb
    rw [List.length_nil, Nat.zero_add] at hn
    rw [if_neg (by simp)]
    dsimp only
    have hmk := refMake_any (makeS (madeL a0)) (by omega) (fun p hp => (hb p hp).ok)
    rw [makeS_srt hS] at hmk
    generalize hH : (nodesS [] (makeS (madeL a0))).1 = H at ht ho hn hi hmk ⊢
    generalize hR : (nodesS [] (makeS (madeL a0))).2 = R at ht hi hmk ⊢
    generalize hLL : makeS (madeL a0) = l at hb hm hS ht ho hn hi hmk ⊢
    generalize hK : cut 16 a2 = key at hx ⊢
    generalize hV : cut 16 a3 = val at hx ⊢
    have hk : key.size ≤ 16 := hx.1
    have hv : val.size ≤ 16 := hx.2
    have hdeep : ref27_Deep l = some (dep H R : Int) := by
      rw [ref27_Deep.eq, ref25_Depth.eq, hmk, bnd_some]
      dsimp only
      rw [refdepth_any ho ht.may R.toNat R ht.r0 (by have := ht.r0; omega) ht.r1, bnd_some, bnd_some]
    rw [show notB true = false from rfl, br_f, show notB (eqI 3 0) = true from rfl, br_t]
    generalize addI .i64 (1 : Int) (wrapI .i64 (remI a1 (3 : Int))) = how
    rw [snew_any, bnd_some]
    show bnd (law27_fed H (spO how key val a4 R noSt false) []) _ = _
    rw [law27_fed.eq, fed_l]
    have hpl := putS_len (key, (val, ())) l
    have hpS := putS_srt (key, (val, ())) hS
    have hpT : ∀ p ∈ putS l (key, (val, ())), okT p := fun p hp => by
      rcases putS_mem hp with rfl | hp
      · exact hx
      · exact hb p hp
    have hstay : ∀ old : List Int, ∀ q ∈ l, (∃ z ∈ putS l (key, (val, ())), z.1 = q.1) ∨ ∃ x ∈ old, ky H x = q.1 := fun old q hq => .inl (put_keys _ l q hq)
    have r0 := ht.r0
    have r1 := ht.r1
    have e00 : ((0 : Nat) : Int) = 0 := rfl
    rcases fed_loop ho ht.may how (key := key) (by omega) val a4 R.toNat R l [] 0 (Nat.le_refl _) ht.r0 ht.r1 hS hb ht.shp (by show 0 + _ ≤ _; omega) (by omega) with ⟨way, w, e⟩ | ⟨way, e', p, L, R', a, b, w, N, hp, e⟩
    · rw [e00, List.nil_append, Nat.zero_add] at e
      have hfind : l.find? (fun q => decide (q.1 = key)) = none := w.find
      have hne : ∀ q ∈ l, q.1 ≠ key := fun q hq => by
        have := List.find?_eq_none.1 hfind q hq
        simpa using this
      have hwl := w.refs r0
      have hdp := w.deep ht.may
      obtain ⟨w1, w2, w3, _⟩ := w.ok (by omega)
      obtain ⟨d1, d2, d3⟩ := w.dec
      obtain ⟨st1, _⟩ := w.st ht.may (r0 := R) fun q => ⟨q, .self⟩
      rw [e, bnd_some]
      dsimp only
      rw [sanswer_any, bnd_some, if_neg (by simp)]
      dsimp only
      rw [rget_any l key (by omega), bnd_some, makeS_srt hS, hfind]
      by_cases hc : chS how a4 none = true
      · have hc' : how = 1 ∨ (how = 2 ∧ false = false) ∨ (how = 3 ∧ false = true ∧ noSt.2.2.2.1 = a4) := by
          unfold chS at hc
          rcases of_decide_eq_true hc with q | ⟨q, _⟩ | ⟨_, q, _⟩
          · exact .inl q
          · exact .inr (.inl ⟨q, rfl⟩)
          · cases q
        obtain ⟨f, f1, f2, f3, f4⟩ := bot_new how (key := key) (val := val) (by omega) (by omega) a4 way noSt (by omega) w1
        obtain ⟨P, Hs⟩ := split_new ht.may hx hS w f1 f2 f3
        obtain ⟨Q, hold⟩ := new_part ht.may (val := val) w f
        obtain ⟨_, _, c3, c4⟩ := cutL_ok (way.drop f).reverse ⟨[], [], noHf, noHf, 0⟩ 0 (fun x hx => w1 x (List.mem_of_mem_drop (List.mem_reverse.1 hx))) ⟨by decide, by decide⟩ ⟨by decide, by decide⟩ (Int.le_refl _) (by decide)
        have hlen : (way.drop f).reverse.length + (way.take f).reverse.length = way.length := by rw [List.length_reverse, List.length_reverse, List.length_drop, List.length_take]; omega
        change (cutWay way f).news.length = 0 + _ at c3
        change (cutWay way f).old.length = 0 + _ at c4
        have hb1 : (botN key val way f).1.length = (cutWay way f).news.length + 1 := by unfold botN; rw [List.length_append]; rfl
        have hb2 : (botN key val way f).2.1.length = (cutWay way f).old.length := rfl
        obtain ⟨u1, u2⟩ := upL_len 1 (way.take f).reverse (botN key val way f)
        have hps := plan_some how key val a4 way noSt false (by omega) w1 f1 (s := botN key val way f) (by omega) (by omega) hc' f4
        rw [if_neg (show ¬ (false = true) by simp)] at hps
        rw [hps, bnd_some, node_Tree.eq, bnd_some, feed_o, bnd_some, plan_o, bnd_some]
        generalize upL 1 (way.take f).reverse (botN key val way f) = S at P Hs Q hold u1 u2 ⊢
        have hend := old_end Q ho ht.may r0 r1 P Hs (by omega) hS hb ht.shp hpS hpT (by omega) (fun x hx => by
          rw [hold] at hx
          obtain ⟨y, hy, rfl⟩ := List.mem_map.1 hx
          exact (st1 y (List.mem_reverse.1 hy)).bel) (by rw [hold, List.map_reverse]; exact nodup_rev d3) (fun x q => q.elim) (fun k q z hz => by rw [q]; exact hne z hz) (hstay _) (n := way.length) (by omega) (by omega) (by omega)
        show br false _ (bnd (ref27_Deep l) _) = _
        rw [br_f, hdeep, bnd_some, show ltI (dep H R : Int) (way.length : Int) = false from decide_eq_false (by omega), br_f]
        show br (notB (eqS ByteArray.empty ByteArray.empty)) _ (br false _ (bnd (ref23_Changes how a4 (valF none).1 (valF none).2.1) fun r13 => br (notB (eqB true r13)) _ (br false _ (bnd split_Split_Want_o fun r14 => law27_SplitOld.j0 H R (way.length : Int) true (notB (eqI r14 0)) ((), (S.2.2, ((), ()))) S.1 S.2.1)))) = _
        rw [eqS_d, decide_eq_true rfl, show notB true = false from rfl, br_f, br_f, refchanges_any, bnd_some, hc, show notB (eqB true true) = false from rfl, br_f, br_f, split_Split_Want_o.eq, bnd_some, show notB (eqI 0 0) = false from rfl]
        exact hend
      · have hc' : ¬ (how = 1 ∨ (how = 2 ∧ false = false) ∨ (how = 3 ∧ false = true ∧ noSt.2.2.2.1 = a4)) := by
          intro q
          refine hc ?_
          unfold chS
          refine decide_eq_true ?_
          rcases q with q | ⟨q, _⟩ | ⟨_, q, _⟩
          · exact .inl q
          · exact .inr (.inl ⟨q, rfl⟩)
          · cases q
        have hcf : chS how a4 none = false := by simpa using hc
        rw [plan_none how key val a4 way noSt false hc', bnd_some, node_Tree.eq, bnd_some, feed_o, bnd_some, plan_o, bnd_some]
        show br false _ (bnd (ref27_Deep l) _) = _
        rw [br_f, hdeep, bnd_some, show ltI (dep H R : Int) (way.length : Int) = false from decide_eq_false (by omega), br_f]
        show br (notB (eqS ByteArray.empty ByteArray.empty)) _ (br false _ (bnd (ref23_Changes how a4 (valF none).1 (valF none).2.1) fun r13 => br (notB (eqB false r13)) _ (br false _ (bnd split_Split_Want_o fun r14 => law27_SplitOld.j0 H R (way.length : Int) false (notB (eqI r14 0)) ((), (0, ((), ()))) [] [])))) = _
        rw [eqS_d, decide_eq_true rfl, show notB true = false from rfl, br_f, br_f, refchanges_any, bnd_some, hcf, show notB (eqB false false) = false from rfl, br_f, br_f, split_Split_Want_o.eq, bnd_some, show notB (eqI 0 0) = false from rfl, law27_SplitOld.j0.eq]
        rfl
    · rw [e00, List.nil_append, Nat.zero_add] at e
      have hfind : l.find? (fun q => decide (q.1 = key)) = some p := by rw [w.find, ← hp]; exact find_mid N.srt
      have hwl := w.refs r0
      have hdp := w.deep ht.may
      have hde := (N.deps ht.may).1
      have nr1 := N.r1
      have nr2 := N.r2
      obtain ⟨w1, w2, w3, _⟩ := w.ok (by omega)
      obtain ⟨d1, d2, d3⟩ := w.dec
      obtain ⟨st1, _⟩ := w.st ht.may (r0 := R) fun q => ⟨q, .self⟩
      have hev : (stV e' (getN H e') 0).2.2.2.1 = p.2.1 := N.val
      rw [e, bnd_some]
      dsimp only
      rw [sanswer_any, bnd_some, if_pos rfl]
      dsimp only
      rw [rget_any l key (by omega), bnd_some, makeS_srt hS, hfind, hev]
      by_cases hc : chS how a4 (some p) = true
      · have hc' : how = 1 ∨ (how = 2 ∧ true = false) ∨ (how = 3 ∧ true = true ∧ (stV e' (getN H e') 0).2.2.2.1 = a4) := by
          rw [hev]
          unfold chS at hc
          rcases of_decide_eq_true hc with q | ⟨_, q⟩ | ⟨q, _, q2⟩
          · exact .inl q
          · cases q
          · exact .inr (.inr ⟨q, rfl, q2⟩)
        obtain ⟨P, Hs⟩ := split_found ht.may hx hS (by omega) w N hp
        obtain ⟨Q, hold, hbe⟩ := found_part ht.may (val := val) w N hp
        have hbf := bot_found how (key := key) (val := val) (by omega) (by omega) a4 way (stV e' (getN H e') 0) N.kids
        obtain ⟨u1, u2⟩ := upL_len 0 way.reverse (botF key val (stV e' (getN H e') 0))
        have hb1 : (botF key val (stV e' (getN H e') 0)).1.length = 1 := rfl
        have hb2 : (botF key val (stV e' (getN H e') 0)).2.1.length = 1 := rfl
        rw [List.length_reverse] at u1 u2
        have hps := plan_some how key val a4 way (stV e' (getN H e') 0) true (by omega) w1 (Nat.le_refl _) (s := botF key val (stV e' (getN H e') 0)) (by omega) (by omega) hc' hbf
        rw [if_pos rfl, List.take_length] at hps
        rw [hps, bnd_some, node_Tree.eq, bnd_some, feed_o, bnd_some, plan_o, bnd_some]
        generalize upL 0 way.reverse (botF key val (stV e' (getN H e') 0)) = S at P Hs Q hold u1 u2 ⊢
        have hend := old_end Q ho ht.may r0 r1 P Hs (by omega) hS hb ht.shp hpS hpT (by omega) (fun x hx => by
          rw [hold] at hx
          rcases List.mem_cons.1 hx with rfl | hx
          · exact hbe
          obtain ⟨y, hy, rfl⟩ := List.mem_map.1 hx
          exact (st1 y (List.mem_reverse.1 hy)).bel) (by
          rw [hold, List.map_reverse]
          refine List.nodup_cons.2 ⟨fun hx => ?_, nodup_rev d3⟩
          obtain ⟨y, hy, e3⟩ := List.mem_map.1 (List.mem_reverse.1 hx)
          have := (d2 y hy).1
          omega) (fun x q => q.elim) (fun k q => q.elim) (hstay _) (n := way.length + 1) (by omega) (by omega) (by omega)
        show br false _ (bnd (ref27_Deep l) _) = _
        rw [br_f, hdeep, bnd_some, show ltI (dep H R : Int) ((way.length + 1 : Nat) : Int) = false from decide_eq_false (by omega), br_f]
        show br (notB (eqS p.2.1 p.2.1)) _ (br false _ (bnd (ref23_Changes how a4 (valF (some p)).1 (valF (some p)).2.1) fun r13 => br (notB (eqB true r13)) _ (br false _ (bnd split_Split_Want_o fun r14 => law27_SplitOld.j0 H R ((way.length + 1 : Nat) : Int) true (notB (eqI r14 0)) ((), (S.2.2, ((), ()))) S.1 S.2.1)))) = _
        rw [eqS_d, decide_eq_true rfl, show notB true = false from rfl, br_f, br_f, refchanges_any, bnd_some, hc, show notB (eqB true true) = false from rfl, br_f, br_f, split_Split_Want_o.eq, bnd_some, show notB (eqI 0 0) = false from rfl]
        exact hend
      · have hc' : ¬ (how = 1 ∨ (how = 2 ∧ true = false) ∨ (how = 3 ∧ true = true ∧ (stV e' (getN H e') 0).2.2.2.1 = a4)) := by
          rw [hev]
          intro q
          refine hc ?_
          unfold chS
          refine decide_eq_true ?_
          rcases q with q | ⟨_, q⟩ | ⟨q, _, q2⟩
          · exact .inl q
          · cases q
          · exact .inr (.inr ⟨q, rfl, q2⟩)
        have hcf : chS how a4 (some p) = false := by simpa using hc
        rw [plan_none how key val a4 way (stV e' (getN H e') 0) true hc', bnd_some, node_Tree.eq, bnd_some, feed_o, bnd_some, plan_o, bnd_some]
        show br false _ (bnd (ref27_Deep l) _) = _
        rw [br_f, hdeep, bnd_some, show ltI (dep H R : Int) ((way.length + 1 : Nat) : Int) = false from decide_eq_false (by omega), br_f]
        show br (notB (eqS p.2.1 p.2.1)) _ (br false _ (bnd (ref23_Changes how a4 (valF (some p)).1 (valF (some p)).2.1) fun r13 => br (notB (eqB false r13)) _ (br false _ (bnd split_Split_Want_o fun r14 => law27_SplitOld.j0 H R ((way.length + 1 : Nat) : Int) false (notB (eqI r14 0)) ((), (0, ((), ()))) [] [])))) = _
        rw [eqS_d, decide_eq_true rfl, show notB true = false from rfl, br_f, br_f, refchanges_any, bnd_some, hcf, show notB (eqB false false) = false from rfl, br_f, br_f, split_Split_Want_o.eq, bnd_some, show notB (eqI 0 0) = false from rfl, law27_SplitOld.j0.eq]
        rfl
end Go.Proofs.YtmopkbmcilolgaaGreat.Pure
