/- Texts of one proof, laid together: how the interpreter's words stand for the program's code and what the functions do. No conditions but those that each lemma names. -/
import Derived.Test.YtmopkbmcilolgaaGreatM5
set_option linter.unusedSimpArgs false
set_option linter.unusedVariables false
set_option linter.unusedSimpArgs false
namespace Go.Proofs.YtmopkbmcilolgaaGreat.AI
open Go.Abs
theorem stM_node (r : Int) (n : NodeV) (side sz : Int) : (stM r n side sz).node = n := rfl
theorem stM_side (r : Int) (n : NodeV) (side sz : Int) : (stM r n side sz).side = side := rfl
theorem stM_sz (r : Int) (n : NodeV) (side sz : Int) : (stM r n side sz).sz = sz := rfl
/-- A step on the way to a key, as a merge keeps it. -/
def toM (x : StepV) : StepM := stM x.1 x.node x.side (x.node.2.2.2.2.2.2.2.1 - 1)
/-- Two trees that are made one: what is left on the way, and what is left at its end. -/
inductive SpineT (h : List NodeV) : Int → List PairV → Int → List PairV → List StepM → Int → Prop
  | doneA (rb : Int) (B : List PairV) : SpineT h 0 [] rb B [] rb
  | doneB (ra : Int) (A : List PairV) : SpineT h ra A 0 [] [] ra
  | left {ra rb : Int} {p q : PairV} {L R L' R' : List PairV} {a b c d : Int} {sp : List StepM} {rest : Int} : NodeAt h ra p L R a b → NodeAt h rb q L' R' c d → Go.Abs.above q.1 p.1 = false → SpineT h b R rb (L' ++ q :: R') sp rest →
      SpineT h ra (L ++ p :: R) rb (L' ++ q :: R') (stM ra (getN h ra) 1 ((getN h ra).2.2.2.2.2.2.2.1 + (getN h rb).2.2.2.2.2.2.2.1) :: sp) rest
  | right {ra rb : Int} {p q : PairV} {L R L' R' : List PairV} {a b c d : Int} {sp : List StepM} {rest : Int} : NodeAt h ra p L R a b → NodeAt h rb q L' R' c d → Go.Abs.above q.1 p.1 = true → SpineT h ra (L ++ p :: R) c L' sp rest →
      SpineT h ra (L ++ p :: R) rb (L' ++ q :: R') (stM rb (getN h rb) 0 ((getN h ra).2.2.2.2.2.2.2.1 + (getN h rb).2.2.2.2.2.2.2.1) :: sp) rest
theorem NodeAt.okM {h : List NodeV} {r : Int} {p : PairV} {L R : List PairV} {a b : Int} (N : NodeAt h r p L R a b) {side : Int} (hs : side = 0 ∨ side = 1) (sz : Int) : okM (stM r (getN h r) side sz) := by
  have hp := N.txt p (by simp)
  refine ⟨⟨a, b, N.kids⟩, hs, ?_, ?_⟩
  · show (getN h r).2.1.size ≤ 40
    rw [N.key]; have := hp.1; omega
  · show (getN h r).2.2.1.size ≤ 40
    rw [N.val]; have := hp.2; omega
theorem SpineT.ok {h : List NodeV} {ra rb : Int} {A B : List PairV} {sp : List StepM} {rest : Int} (w : SpineT h ra A rb B sp rest) : 0 ≤ ra → 0 ≤ rb → (∀ x ∈ sp, okM x) ∧ (∀ x ∈ sp, 1 ≤ x.1 ∧ x.1 ≤ h.length) ∧ (sp.length : Int) ≤ ra + rb ∧ sp.length ≤ A.length + B.length := by
  induction w with
  | doneA rb B => exact fun h0 h1 => ⟨fun x hx => (by cases hx), fun x hx => (by cases hx), by simpa using h1, Nat.zero_le _⟩
  | doneB ra A => exact fun h0 h1 => ⟨fun x hx => (by cases hx), fun x hx => (by cases hx), by simpa using h0, Nat.zero_le _⟩
  | left N N' ha w ih =>
    intro h0 h1
    obtain ⟨i1, i2, i3, i4⟩ := ih N.b0 h1
    have := N.b1
    refine ⟨fun x hx => ?_, fun x hx => ?_, by rw [List.length_cons]; omega, by rw [List.length_cons, mid_len]; omega⟩
    · rcases List.mem_cons.1 hx with rfl | hx
      · exact N.okM (.inr rfl) _
      · exact i1 x hx
    · rcases List.mem_cons.1 hx with rfl | hx
      · exact ⟨N.r1, N.r2⟩
      · exact i2 x hx
  | right N N' ha w ih =>
    intro h0 h1
    obtain ⟨i1, i2, i3, i4⟩ := ih h0 N'.a0
    have := N'.a1
    refine ⟨fun x hx => ?_, fun x hx => ?_, by rw [List.length_cons]; omega, by rw [mid_len] at i4; rw [List.length_cons, mid_len, mid_len]; omega⟩
    · rcases List.mem_cons.1 hx with rfl | hx
      · exact N'.okM (.inl rfl) _
      · exact i1 x hx
    · rcases List.mem_cons.1 hx with rfl | hx
      · exact ⟨N'.r1, N'.r2⟩
      · exact i2 x hx
theorem spine_put {h : List NodeV} (hm : mayH h = true) {ra rb : Int} {A B : List PairV} {sp : List StepM} {rest : Int} (w : SpineT h ra A rb B sp rest) : Srt (A ++ B) → (0 ≤ ra ∧ ra ≤ h.length ∧ U h ra = treeT A) → (0 ≤ rb ∧ rb ≤ h.length ∧ U h rb = treeT B) → ∀ old : List Int,
    PlanOK h (upM sp.reverse ([], (old, rest))).1 ∧ Has h (upM sp.reverse ([], (old, rest))).1 (upM sp.reverse ([], (old, rest))).2.2 (treeT (A ++ B)) := by
  induction w with
  | doneA rb B => exact fun _ _ ⟨h0, h1, hu⟩ old => ⟨PlanOK.nil hm, hu ▸ Has.heap hm h0 h1⟩
  | doneB ra A =>
    intro _ hA _ old
    obtain ⟨h0, h1, hu⟩ := hA
    rw [List.append_nil]
    exact ⟨PlanOK.nil hm, hu ▸ Has.heap hm h0 h1⟩
  | @left ra rb p q L R L' R' a b c d sp rest N N' ha w ih =>
    intro hS hA hB old
    have e1 : (L ++ p :: R) ++ (L' ++ q :: R') = L ++ p :: (R ++ (L' ++ q :: R')) := by rw [List.append_assoc, List.cons_append]
    have hS2 : Srt (R ++ (L' ++ q :: R')) := by rw [e1] at hS; exact (srt_three hS).2.1
    have b1 := N.b1
    have r2 := N.r2
    obtain ⟨P1, H1⟩ := ih hS2 ⟨N.b0, by omega, N.right⟩ hB old
    rw [List.reverse_cons, upM_app]
    generalize upM sp.reverse ([], (old, rest)) = s1 at P1 H1
    have a1 := N.a1
    have HA : Has h s1.1 a (treeT L) := N.left ▸ Has.heap hm N.a0 (by omega)
    have hun : Under (L' ++ q :: R') p.1 := fun z hz => by
      rcases List.mem_append.1 hz with hz | hz
      · exact above_not_trans (N'.under z (List.mem_append_left _ hz)) ha
      · rcases List.mem_cons.1 hz with rfl | hz
        · exact ha
        · exact above_not_trans (N'.under z (List.mem_append_right _ hz)) ha
    have ez : max ((getN h ra).2.2.2.2.2.2.2.1 + (getN h rb).2.2.2.2.2.2.2.1) 1 = ((L.length + 1 + (R ++ (L' ++ q :: R')).length : Nat) : Int) := by
      rw [N.size, N'.size, List.length_append, mid_len]; omega
    have en : sideN (getN h ra) 1 s1.2.2 ((L.length + 1 + (R ++ (L' ++ q :: R')).length : Nat) : Int) = treeN p a s1.2.2 (L.length + 1 + (R ++ (L' ++ q :: R')).length) := by
      unfold sideN
      rw [N.key, N.val, N.kids]
      rfl
    obtain ⟨P2, H2⟩ := Has.tree P1 (N.txt p (by simp)) HA H1 (n := L.length + 1 + (R ++ (L' ++ q :: R')).length) (by omega)
    rw [← merge_left hS N.under hun, ← en, ← ez] at H2
    rw [← en, ← ez] at P2
    exact ⟨P2, H2⟩
  | @right ra rb p q L R L' R' a b c d sp rest N N' ha w ih =>
    intro hS hA hB old
    have hS2 : Srt ((L ++ p :: R) ++ L') := by
      have : (L ++ p :: R) ++ (L' ++ q :: R') = ((L ++ p :: R) ++ L') ++ q :: R' := by simp
      rw [this] at hS
      exact (srt_three hS).1
    have a1 := N'.a1
    have r2 := N'.r2
    obtain ⟨P1, H1⟩ := ih hS2 hA ⟨N'.a0, by omega, N'.left⟩ old
    rw [List.reverse_cons, upM_app]
    generalize upM sp.reverse ([], (old, rest)) = s1 at P1 H1
    have b1 := N'.b1
    have HB : Has h s1.1 d (treeT R') := N'.right ▸ Has.heap hm N'.b0 (by omega)
    have hun : Under (L ++ p :: R) q.1 := fun z hz => by
      rcases List.mem_append.1 hz with hz | hz
      · exact above_not_trans (N.under z (List.mem_append_left _ hz)) (above_asymm ha)
      · rcases List.mem_cons.1 hz with rfl | hz
        · exact above_asymm ha
        · exact above_not_trans (N.under z (List.mem_append_right _ hz)) (above_asymm ha)
    have ez : max ((getN h ra).2.2.2.2.2.2.2.1 + (getN h rb).2.2.2.2.2.2.2.1) 1 = ((((L ++ p :: R) ++ L').length + 1 + R'.length : Nat) : Int) := by
      rw [N.size, N'.size, List.length_append, mid_len]; omega
    have en : sideN (getN h rb) 0 s1.2.2 ((((L ++ p :: R) ++ L').length + 1 + R'.length : Nat) : Int) = treeN q s1.2.2 d (((L ++ p :: R) ++ L').length + 1 + R'.length) := by
      unfold sideN
      rw [N'.key, N'.val, N'.kids]
      rfl
    obtain ⟨P2, H2⟩ := Has.tree P1 (N'.txt q (by simp)) H1 HB (n := ((L ++ p :: R) ++ L').length + 1 + R'.length) (by omega)
    rw [← merge_right hS N'.under hun, ← en, ← ez] at H2
    rw [← en, ← ez] at P2
    exact ⟨P2, H2⟩
/-- What stands on a way, without the binding at its end. -/
theorem up_drop {h : List NodeV} (hm : mayH h = true) {k : ByteArray} {r : Int} {l : List PairV} {way : List StepV} {e : Int} {m : List PairV} (w : WayT h k r l way e m) :
    (dropS k m).length + 1 = m.length → ∀ s : PlanS, PlanOK h s.1 → Has h s.1 s.2.2 (treeT (dropS k m)) →
      PlanOK h (upM (way.map toM).reverse s).1 ∧ Has h (upM (way.map toM).reverse s).1 (upM (way.map toM).reverse s).2.2 (treeT (dropS k l)) ∧ (dropS k l).length + 1 = l.length := by
  induction w with
  | done r l => exact fun h1 s P H => ⟨P, H, h1⟩
  | @left r p L R a b way e m N hlt w ih =>
    intro h1 s P H
    obtain ⟨P1, H1, h3⟩ := ih h1 s P H
    have hlen : (dropS k (L ++ p :: R)).length + 1 = (L ++ p :: R).length := by
      rw [drop_left N.srt hlt, mid_len, mid_len]; omega
    rw [List.map_cons, List.reverse_cons, upM_app]
    generalize upM (way.map toM).reverse s = s1 at P1 H1
    have HB : Has h s1.1 b (treeT R) := N.right ▸ Has.heap hm N.b0 (by have := N.b1; have := N.r2; omega)
    have ez : max ((getN h r).2.2.2.2.2.2.2.1 - 1) 1 = (((dropS k L).length + 1 + R.length : Nat) : Int) := by
      rw [N.size]; omega
    have en : sideN (getN h r) 0 s1.2.2 (((dropS k L).length + 1 + R.length : Nat) : Int) = treeN p s1.2.2 b ((dropS k L).length + 1 + R.length) := by
      unfold sideN
      rw [N.key, N.val, N.kids]
      rfl
    obtain ⟨P2, H2⟩ := Has.tree P1 (N.txt p (by simp)) H1 HB (n := (dropS k L).length + 1 + R.length) (by omega)
    rw [← drop_leftT N.srt N.under hlt, ← en, ← ez] at H2
    rw [← en, ← ez] at P2
    exact ⟨P2, H2, hlen⟩
  | @right r p L R a b way e m N hlt w ih =>
    intro h1 s P H
    obtain ⟨P1, H1, h3⟩ := ih h1 s P H
    have hlen : (dropS k (L ++ p :: R)).length + 1 = (L ++ p :: R).length := by
      rw [drop_right N.srt hlt, mid_len, mid_len]; omega
    rw [List.map_cons, List.reverse_cons, upM_app]
    generalize upM (way.map toM).reverse s = s1 at P1 H1
    have HA : Has h s1.1 a (treeT L) := N.left ▸ Has.heap hm N.a0 (by have := N.a1; have := N.r2; omega)
    have ez : max ((getN h r).2.2.2.2.2.2.2.1 - 1) 1 = ((L.length + 1 + (dropS k R).length : Nat) : Int) := by
      rw [N.size]; omega
    have en : sideN (getN h r) 1 s1.2.2 ((L.length + 1 + (dropS k R).length : Nat) : Int) = treeN p a s1.2.2 (L.length + 1 + (dropS k R).length) := by
      unfold sideN
      rw [N.key, N.val, N.kids]
      rfl
    obtain ⟨P2, H2⟩ := Has.tree P1 (N.txt p (by simp)) HA H1 (n := L.length + 1 + (dropS k R).length) (by omega)
    rw [← drop_rightT N.srt N.under hlt, ← en, ← ez] at H2
    rw [← en, ← ez] at P2
    exact ⟨P2, H2, hlen⟩
/-! ### The walk -/
theorem mstep {h : List NodeV} (ho : okH h) (root : Int) (key : ByteArray) {r : Int} (hr : 1 ≤ r) (h1 : r ≤ h.length) (e : StepM) (found : Bool) (arms : List ArmV) (W S : List StepM) :
    merge_Run.l0 h root (mgO key r e found arms) W S = bnd (merge_Merge_Feed (getN h r) (mgO key r e found arms) W S) fun r2 => merge_Run.l0 h root r2.2.1 r2.2.2.1 r2.2.2.2.1 := by
  have hlen := ho.len
  rw [merge_Run.l0.eq]
  show bnd (merge_Merge_Want (mgO key r e found arms) W S) _ = _
  rw [mwant_any, bnd_some]
  dsimp only
  rw [eqI_d, decide_eq_false (show ¬ r = 0 by omega), show notB false = true from rfl, br_t]
  show bnd (merge_Merge_Want (mgO key r e found arms) W S) _ = _
  rw [mwant_any, bnd_some]
  dsimp only
  rw [inG h r hr h1 (by omega), br_t, ixG h r hr h1 (by omega)]
theorem mend (h : List NodeV) (root : Int) (key : ByteArray) (e : StepM) (found : Bool) (arms : List ArmV) (W S : List StepM) :
    merge_Run.l0 h root (mgO key 0 e found arms) W S = bnd (merge_Merge_Plan_v1 (mgO key 0 e found arms) W S) fun r3 => br (notB r3.1.2.1) (bnd (plan_Do h ([], (root, ([], ())))) fun r4 => some r4) (bnd (plan_Do h (r3.2.2.2.2.1, (r3.1.1.2.1, (r3.2.2.2.2.2.1, ())))) fun r5 => some r5) := by
  rw [merge_Run.l0.eq]
  show bnd (merge_Merge_Want (mgO key 0 e found arms) W S) _ = _
  rw [mwant_any, bnd_some]
  dsimp only
  rw [eqI_d, decide_eq_true rfl, show notB true = false from rfl, br_f]
/-- An arm: a tree's root, and whether its node was fed. -/
def ar (h : List NodeV) (r : Int) : Bool → ArmV
  | true => arM r (getN h r) true
  | false => noArm r
theorem ar_1 (h : List NodeV) (r : Int) (f : Bool) : (ar h r f).1 = r := by cases f <;> rfl
theorem NodeAt.sz {h : List NodeV} {r : Int} {p : PairV} {L R : List PairV} {a b : Int} (N : NodeAt h r p L R a b) (hl : (L ++ p :: R).length ≤ 2000000) : 0 ≤ (getN h r).2.2.2.2.2.2.2.1 ∧ (getN h r).2.2.2.2.2.2.2.1 ≤ 2000000 := by
  rw [mid_len] at hl
  rw [N.size]; omega
theorem NodeAt.ks {h : List NodeV} {r : Int} {p : PairV} {L R : List PairV} {a b : Int} (N : NodeAt h r p L R a b) : (getN h r).2.1.size ≤ 40 := by
  rw [N.key]; have := (N.txt p (by simp)).1; omega
/-- The two trees are gone through. -/
theorem mrun_arms {h : List NodeV} (ho : okH h) (hm : mayH h = true) (root : Int) (key : ByteArray) (e : StepM) : ∀ (d : Nat) (ra rb : Int) (A B : List PairV) (fa fb : Bool) (W S : List StepM), 2 * (ra.toNat + rb.toNat) + (if fa = true then 0 else 1) + (if fb = true then 0 else 1) ≤ d → ¬ (fa = true ∧ fb = true) →
    (0 ≤ ra ∧ ra ≤ h.length ∧ U h ra = treeT A) → (0 ≤ rb ∧ rb ≤ h.length ∧ U h rb = treeT B) → Srt A → Srt B → (∀ p ∈ A, okT p) → (∀ p ∈ B, okT p) → A.length ≤ 2000000 → B.length ≤ 2000000 → S.length + ra.toNat + rb.toNat ≤ 2000000 →
    ∃ sp rest X Y, SpineT h ra A rb B sp rest ∧ rest = (if X.1 = 0 then Y.1 else X.1) ∧
      merge_Run.l0 h root (mgO key (if ra = 0 ∨ rb = 0 then 0 else if fa = true then rb else ra) e true [ar h ra fa, ar h rb fb]) W S = merge_Run.l0 h root (mgO key 0 e true [X, Y]) W (S ++ sp) := by
  intro d
  induction d with
  | zero =>
    intro ra rb A B fa fb W S hd hf
    cases fa <;> cases fb <;> simp at hd hf
  | succ d ih =>
    intro ra rb A B fa fb W S hd hf hA hB sA sB tA tB lA lB hS
    obtain ⟨a0, a1, ua⟩ := hA
    obtain ⟨b0, b1, ub⟩ := hB
    by_cases hz : ra = 0 ∨ rb = 0
    · rw [if_pos hz]
      by_cases hra : ra = 0
      · subst hra
        rw [(treeT_nil_iff hm a0 a1 ua).1 rfl]
        exact ⟨[], rb, ar h 0 fa, ar h rb fb, .doneA rb B, by rw [ar_1, ar_1, if_pos rfl], by rw [List.append_nil]⟩
      · have hrb : rb = 0 := hz.resolve_left hra
        subst hrb
        rw [(treeT_nil_iff hm b0 b1 ub).1 rfl]
        exact ⟨[], ra, ar h ra fa, ar h 0 fb, .doneB ra A, by rw [ar_1, if_neg hra], by rw [List.append_nil]⟩
    rw [if_neg hz]
    have hra : ra ≠ 0 := fun q => hz (.inl q)
    have hrb : rb ≠ 0 := fun q => hz (.inr q)
    obtain ⟨L, p, R, a, b, rfl, N⟩ := node_at hm a0 a1 (fun q => hra ((treeT_nil_iff hm a0 a1 ua).2 q)) sA tA ua
    obtain ⟨L', q, R', c, d', rfl, N'⟩ := node_at hm b0 b1 (fun q => hrb ((treeT_nil_iff hm b0 b1 ub).2 q)) sB tB ub
    obtain ⟨sA1, sA2, _⟩ := srt_three sA
    obtain ⟨sB1, sB2, _⟩ := srt_three sB
    have step : 2 * (ra.toNat + rb.toNat) ≤ d → ∃ sp rest X Y, SpineT h ra (L ++ p :: R) rb (L' ++ q :: R') sp rest ∧ rest = (if X.1 = 0 then Y.1 else X.1) ∧
        bnd (fedM (merge_Merge_next (mgO key 0 e true [arM ra (getN h ra) true, arM rb (getN h rb) true]) W S)) (fun r2 => merge_Run.l0 h root r2.2.1 r2.2.2.1 r2.2.2.2.1) = merge_Run.l0 h root (mgO key 0 e true [X, Y]) W (S ++ sp) := by
      intro hd2
      have hlS : ∀ x : StepM, (S ++ [x]).length = S.length + 1 := fun x => by rw [List.length_append]; rfl
      rw [nx_step key 0 e true hra hrb N.kids N'.kids N.ks N'.ks (N.sz lA) (N'.sz lB) W S (by omega), N'.key, N.key]
      by_cases hab : Go.Abs.above q.1 p.1 = true
      · rw [if_pos hab, fedM_some, bnd_some]
        have c0 := N'.a0
        have c1 := N'.a1
        obtain ⟨sp, rest, X, Y, w, hr, hrun⟩ := ih ra c (L ++ p :: R) L' true false W (S ++ [stM rb (getN h rb) 0 ((getN h ra).2.2.2.2.2.2.2.1 + (getN h rb).2.2.2.2.2.2.2.1)]) (by simp only [if_true]; rw [if_neg (by simp)]; omega) (by simp) ⟨a0, a1, ua⟩ ⟨c0, by omega, N'.left⟩ sA sB1 tA (fun z hz => tB z (List.mem_append_left _ hz)) lA (by rw [mid_len] at lB; omega) (by rw [hlS]; omega)
        refine ⟨_ :: sp, rest, X, Y, .right N N' hab w, hr, ?_⟩
        have ew : (if ra = 0 ∨ c = 0 then 0 else if true = true then c else ra) = c := by
          by_cases q : c = 0
          · rw [if_pos (.inr q), q]
          · rw [if_neg (by rintro (z | z); exact hra z; exact q z), if_pos rfl]
        rw [ew] at hrun
        exact hrun.trans (by rw [List.append_assoc]; rfl)
      · have hab' : Go.Abs.above q.1 p.1 = false := by simpa using hab
        rw [if_neg hab, fedM_some, bnd_some]
        have c0 := N.b0
        have c1 := N.b1
        obtain ⟨sp, rest, X, Y, w, hr, hrun⟩ := ih b rb R (L' ++ q :: R') false true W (S ++ [stM ra (getN h ra) 1 ((getN h ra).2.2.2.2.2.2.2.1 + (getN h rb).2.2.2.2.2.2.2.1)]) (by simp only [if_true]; rw [if_neg (by simp)]; omega) (by simp) ⟨c0, by omega, N.right⟩ ⟨b0, b1, ub⟩ sA2 sB (fun z hz => tA z (List.mem_append_right _ (List.mem_cons_of_mem _ hz))) tB (by rw [mid_len] at lA; omega) lB (by rw [hlS]; omega)
        refine ⟨_ :: sp, rest, X, Y, .left N N' hab' w, hr, ?_⟩
        have ew : (if b = 0 ∨ rb = 0 then 0 else if false = true then rb else b) = b := by
          by_cases q : b = 0
          · rw [if_pos (.inl q), q]
          · rw [if_neg (by rintro (z | z); exact q z; exact hrb z), if_neg (by simp)]
        rw [ew] at hrun
        exact hrun.trans (by rw [List.append_assoc]; rfl)
    cases fa with
    | true =>
      cases fb with
      | true => exact absurd ⟨rfl, rfl⟩ hf
      | false =>
        rw [if_pos rfl, mstep ho root key N'.r1 b1]
        rw [mfeed_arm key hrb e (ar h ra true) (ar h rb false) W S N'.kind N'.kids, if_pos (show (ar h ra true).2.2.2.2.2.2.2.2.2.2.1 = true from rfl)]
        exact step (by simp only [if_true] at hd; rw [if_neg (by simp)] at hd; omega)
    | false =>
      rw [if_neg (by simp), mstep ho root key N.r1 a1, mfeed_arm key hra e (ar h ra false) (ar h rb fb) W S N.kind N.kids, if_neg (show ¬ (ar h ra false).2.2.2.2.2.2.2.2.2.2.1 = true by show ¬ (false = true); simp)]
      cases fb with
      | true => exact step (by simp only [if_true] at hd; rw [if_neg (by simp)] at hd; omega)
      | false =>
        have hnx := nx_b key 0 e true (ar h ra true) (ar h rb false) W S (by rw [ar_1]; exact hra) (by rw [ar_1]; exact hrb) rfl rfl
        have hnx : merge_Merge_next (mgO key 0 e true [arM ra (getN h ra) true, ar h rb false]) W S = some (rb, (mgO key 0 e true [ar h ra true, ar h rb false], (W, (S, ())))) := hnx
        rw [hnx, fedM_some, bnd_some]
        obtain ⟨sp, rest, X, Y, w, hr, hrun⟩ := ih ra rb (L ++ p :: R) (L' ++ q :: R') true false W S (by simp only [if_true]; rw [if_neg (by simp)] at hd ⊢; omega) (by simp) ⟨a0, a1, ua⟩ ⟨b0, b1, ub⟩ sA sB tA tB lA lB hS
        rw [if_neg hz, if_pos rfl] at hrun
        exact ⟨sp, rest, X, Y, w, hr, hrun⟩
/-- The whole walk. -/
theorem mrun_loop {h : List NodeV} (ho : okH h) (hm : mayH h = true) (root : Int) {key : ByteArray} (hkey : key.size ≤ 1000000) : ∀ (d : Nat) (r : Int) (l : List PairV) (W : List StepM), r.toNat ≤ d → 0 ≤ r → r ≤ h.length → Srt l → (∀ p ∈ l, okT p) → l.length ≤ 2000000 → U h r = treeT l → W.length + 2 * r.toNat ≤ 2000000 →
    (∃ way, WayT h key r l way 0 [] ∧ merge_Run.l0 h root (mgO key r noM false [noArm 0, noArm 0]) W [] = merge_Run.l0 h root (mgO key 0 noM false [noArm 0, noArm 0]) (W ++ way.map toM) []) ∨
    (∃ way e p L R a b sp rest X Y, WayT h key r l way e (L ++ p :: R) ∧ NodeAt h e p L R a b ∧ p.1 = key ∧ SpineT h a L b R sp rest ∧ rest = (if X.1 = 0 then Y.1 else X.1) ∧ merge_Run.l0 h root (mgO key r noM false [noArm 0, noArm 0]) W [] = merge_Run.l0 h root (mgO key 0 (stM e (getN h e) 0 0) true [X, Y]) (W ++ way.map toM) sp) := by
  have hlen := ho.len
  intro d
  induction d with
  | zero =>
    intro r l W hd h0 h1 hS ht hl hu hW
    have : r = 0 := by omega
    subst this
    rw [(treeT_nil_iff hm h0 h1 hu).1 rfl]
    exact .inl ⟨[], .done 0 [], by rw [List.map_nil, List.append_nil]⟩
  | succ d ih =>
    intro r l W hd h0 h1 hS ht hl hu hW
    by_cases hle : l = []
    · subst hle
      have := (treeT_nil_iff hm h0 h1 hu).2 rfl
      subst this
      exact .inl ⟨[], .done 0 [], by rw [List.map_nil, List.append_nil]⟩
    obtain ⟨L, p, R, a, b, rfl, N⟩ := node_at hm h0 h1 hle hS ht hu
    have hr := N.r1
    obtain ⟨s1, s2, s3, s4, _⟩ := srt_three N.srt
    have a0 := N.a0
    have a1 := N.a1
    have b0 := N.b0
    have b1 := N.b1
    have hml := mid_len L R p
    have hwl : ∀ x : StepM, (W ++ [x]).length = W.length + 1 := fun x => by rw [List.length_append]; rfl
    have tL : ∀ q ∈ L, okT q := fun q hq => ht q (List.mem_append_left _ hq)
    have tR : ∀ q ∈ R, okT q := fun q hq => ht q (List.mem_append_right _ (List.mem_cons_of_mem _ hq))
    rw [mstep ho root key hr h1, mfeed_way hkey (by omega) noM [noArm 0, noArm 0] W [] (by omega) N.kind N.kids (N.sz hl), N.key]
    by_cases c0 : key = p.1
    · rw [if_pos c0]
      have hQ : ∃ w : Int, merge_Merge_next (mgO key 0 (stM r (getN h r) 0 0) true [noArm a, noArm b]) W [] = some (w, (mgO key 0 (stM r (getN h r) 0 0) true [noArm a, noArm b], (W, ([], ())))) ∧ w = (if a = 0 ∨ b = 0 then 0 else if false = true then b else a) := by
        by_cases hz : a = 0 ∨ b = 0
        · exact ⟨0, nx_zero _ _ _ _ _ _ _ _ hz, by rw [if_pos hz]⟩
        · exact ⟨a, nx_a _ _ _ _ _ _ _ _ (fun q => hz (.inl q)) (fun q => hz (.inr q)) rfl, by rw [if_neg hz, if_neg (by simp)]⟩
      obtain ⟨w, e1, e2⟩ := hQ
      rw [e1, fedM_some, bnd_some]
      obtain ⟨sp, rest, X, Y, ws, hrs, hrun⟩ := mrun_arms ho hm root key (stM r (getN h r) 0 0) (2 * (a.toNat + b.toNat) + 1 + 1) a b L R false false W [] (by rw [if_neg (by simp)]; omega) (by simp) ⟨a0, by omega, N.left⟩ ⟨b0, by omega, N.right⟩ s1 s2 tL tR (by omega) (by omega) (by show 0 + _ + _ ≤ _; omega)
      rw [← e2] at hrun
      exact .inr ⟨[], r, p, L, R, a, b, sp, rest, X, Y, .done r _, N, c0.symm, ws, hrs, by rw [List.map_nil, List.append_nil]; exact hrun⟩
    rw [if_neg c0]
    by_cases c1 : lt key p.1 = true
    · rw [if_pos c1, bnd_some]
      rcases ih a L (W ++ [stM r (getN h r) 0 ((getN h r).2.2.2.2.2.2.2.1 - 1)]) (by omega) a0 (by omega) s1 tL (by omega) N.left (by rw [hwl]; omega) with ⟨way, w, e⟩ | ⟨way, e', p', L', R', a', b', sp, rest, X, Y, w, N', hp, ws, hrs, e⟩
      · exact .inl ⟨_ :: way, .left N c1 w, e.trans (by rw [List.append_assoc]; rfl)⟩
      · exact .inr ⟨_ :: way, e', p', L', R', a', b', sp, rest, X, Y, .left N c1 w, N', hp, ws, hrs, e.trans (by rw [List.append_assoc]; rfl)⟩
    · have c2 : lt p.1 key = true := by
        rcases tri key p.1 with ⟨q, _⟩ | ⟨q, _⟩ | ⟨q, _⟩
        · exact absurd q c1
        · exact absurd q c0
        · exact q
      rw [if_neg c1, bnd_some]
      rcases ih b R (W ++ [stM r (getN h r) 1 ((getN h r).2.2.2.2.2.2.2.1 - 1)]) (by omega) b0 (by omega) s2 tR (by omega) N.right (by rw [hwl]; omega) with ⟨way, w, e⟩ | ⟨way, e', p', L', R', a', b', sp, rest, X, Y, w, N', hp, ws, hrs, e⟩
      · exact .inl ⟨_ :: way, .right N c2 w, e.trans (by rw [List.append_assoc]; rfl)⟩
      · exact .inr ⟨_ :: way, e', p', L', R', a', b', sp, rest, X, Y, .right N c2 w, N', hp, ws, hrs, e.trans (by rw [List.append_assoc]; rfl)⟩
end Go.Proofs.YtmopkbmcilolgaaGreat.AI
set_option linter.unusedVariables false
set_option linter.unusedSimpArgs false
namespace Go.Proofs.YtmopkbmcilolgaaGreat.AI
open Go.Abs
theorem refs_may {h : List NodeV} (hm : mayH h = true) {j : Int} (h1 : 1 ≤ j) (h2 : j ≤ h.length) {i : Int} (hi : i ∈ refsS (getN h j)) : 1 ≤ i ∧ i ≤ j - 1 := by
  rw [refsS_all] at hi
  obtain ⟨ha, hb⟩ := List.mem_filter.1 hi
  have := (may_node hm h1 h2).2 i ha
  simp at hb
  omega
/-- Is a node below a reference, or the reference's own? -/
inductive Bel (h : List NodeV) (r : Int) : Int → Prop
  | self : Bel h r r
  | step {j i : Int} : Bel h r j → i ∈ refsS (getN h j) → Bel h r i
theorem Bel.in_ {h : List NodeV} (hm : mayH h = true) {r i : Int} (h1 : 1 ≤ r) (h2 : r ≤ h.length) (b : Bel h r i) : 1 ≤ i ∧ i ≤ r := by
  induction b with
  | self => omega
  | step _ hi ih =>
    have := refs_may hm (by omega) (by omega) hi
    omega
theorem Bel.head {h : List NodeV} {r c i : Int} (hc : c ∈ refsS (getN h r)) (b : Bel h c i) : Bel h r i := by
  induction b with
  | self => exact .step .self hc
  | step _ hi ih => exact .step ih hi
theorem Bel.split {h : List NodeV} {r i : Int} : Bel h r i ↔ i = r ∨ ∃ c ∈ refsS (getN h r), Bel h c i := by
  constructor
  · intro b
    induction b with
    | self => exact .inl rfl
    | step hb0 hi ih =>
      rcases ih with rfl | ⟨c, hc, hb⟩
      · exact .inr ⟨_, hi, .self⟩
      · exact .inr ⟨c, hc, .step hb hi⟩
  · rintro (rfl | ⟨c, hc, hb⟩)
    · exact .self
    · exact Bel.head hc hb
theorem Bel.last {h : List NodeV} {r i : Int} : Bel h r i ↔ i = r ∨ ∃ j, Bel h r j ∧ i ∈ refsS (getN h j) := by
  constructor
  · intro b
    cases b with
    | self => exact .inl rfl
    | step hb hi => exact .inr ⟨_, hb, hi⟩
  · rintro (rfl | ⟨j, hb, hi⟩)
    · exact .self
    · exact .step hb hi
open Classical in
noncomputable def belB (h : List NodeV) (r i : Int) : Bool := if 1 ≤ r ∧ Bel h r i then true else false
theorem belB_iff {h : List NodeV} {r i : Int} : belB h r i = true ↔ 1 ≤ r ∧ Bel h r i := by
  unfold belB
  split <;> simp_all
/-- From so many on down. -/
def desc (p : Int → Bool) : Nat → List Int
  | 0 => []
  | n + 1 => if p ((n + 1 : Nat) : Int) = true then ((n + 1 : Nat) : Int) :: desc p n else desc p n
theorem desc_len (p : Int → Bool) : ∀ n, (desc p n).length ≤ n
  | 0 => Nat.le_refl _
  | n + 1 => by
    have := desc_len p n
    unfold desc
    split
    · rw [List.length_cons]; omega
    · omega
theorem desc_more {p : Int → Bool} {r : Nat} (hp : ∀ i : Nat, r < i → p i = false) : ∀ d, desc p (r + d) = desc p r
  | 0 => rfl
  | d + 1 => by
    show (if p ((r + d + 1 : Nat) : Int) = true then _ else _) = _
    rw [hp (r + d + 1) (by omega), if_neg (by simp)]
    exact desc_more hp d
noncomputable def belS (h : List NodeV) (r : Int) : List Int := desc (belB h r) h.length
theorem belS_r {h : List NodeV} (hm : mayH h = true) {r : Int} (h0 : 0 ≤ r) (h2 : r ≤ h.length) : belS h r = desc (belB h r) r.toNat := by
  unfold belS
  have e : h.length = r.toNat + (h.length - r.toNat) := by omega
  rw [e]
  refine desc_more (fun i hi => ?_) _
  cases hb : belB h r i with
  | false => rfl
  | true =>
    obtain ⟨h1, b⟩ := belB_iff.1 hb
    have := Bel.in_ hm h1 h2 b
    omega
/-! ### Marks -/
def setAll (l : List Bool) : List Int → List Bool
  | [] => l
  | t :: ts => setAll (l.set t.toNat true) ts
theorem setAll_len : ∀ (ts : List Int) (l : List Bool), (setAll l ts).length = l.length
  | [], _ => rfl
  | t :: ts, l => by
    show (setAll (l.set t.toNat true) ts).length = _
    rw [setAll_len ts, List.length_set]
theorem getD_set (l : List Bool) (i j : Nat) (hi : i < l.length) : (l.set i true).getD j false = (decide (i = j) || l.getD j false) := by
  rw [List.getD_eq_getElem?_getD, List.getD_eq_getElem?_getD, List.getElem?_set]
  by_cases e : i = j
  · subst e
    simp [hi]
  · rw [if_neg e, decide_eq_false e, Bool.false_or]
theorem setAll_get : ∀ (ts : List Int) (l : List Bool) (j : Nat), (∀ t ∈ ts, 0 ≤ t ∧ t < l.length) → ((setAll l ts).getD j false = true ↔ l.getD j false = true ∨ (j : Int) ∈ ts)
  | [], l, j, _ => by simp [setAll]
  | t :: ts, l, j, h => by
    show (setAll (l.set t.toNat true) ts).getD j false = true ↔ _
    have ht := h t (by simp)
    rw [setAll_get ts _ j (fun u hu => by rw [List.length_set]; exact h u (List.mem_cons_of_mem _ hu)), getD_set l _ _ (by omega)]
    simp only [Bool.or_eq_true, decide_eq_true_eq, List.mem_cons]
    constructor
    · rintro ((h1 | h1) | h1)
      · right; left; omega
      · exact .inl h1
      · exact .inr (.inr h1)
    · rintro (h1 | h1 | h1)
      · exact .inl (.inr h1)
      · left; left; omega
      · exact .inr h1
theorem ixB (l : List Bool) (i : Nat) : ixL .bool l (i : Int) = l.getD i false := by
  unfold ixL
  rw [Int.toNat_natCast]
  rfl
theorem setB (l : List Bool) (t : Int) : setL .bool l t true = l.set t.toNat true := rfl
/-! ### The references below one, as they come -/
end Go.Proofs.YtmopkbmcilolgaaGreat.AI
set_option linter.unusedVariables false
set_option linter.unusedSimpArgs false
namespace Go.Proofs.YtmopkbmcilolgaaGreat.AI
open Go.Abs
/-- A node's key. -/
def ky (h : List NodeV) (i : Int) : ByteArray := (getN h i).2.1
def Bl (h : List NodeV) (r i : Int) : Prop := 1 ≤ r ∧ Bel h r i
theorem Bl.in_ {h : List NodeV} (hm : mayH h = true) {r i : Int} (h2 : r ≤ h.length) (b : Bl h r i) : 1 ≤ i ∧ i ≤ r := Bel.in_ hm b.1 h2 b.2
theorem NodeAt.refs {h : List NodeV} (hm : mayH h = true) {r : Int} {p : PairV} {L R : List PairV} {a b : Int} (N : NodeAt h r p L R a b) {c : Int} : c ∈ refsS (getN h r) ↔ (c = a ∨ c = b) ∧ c ≠ 0 := by
  obtain ⟨g1, _⟩ := may_node hm N.r1 N.r2
  obtain ⟨_, _, _, f4, _⟩ := form_tree (mayS_zero g1).2.2.2 N.kind
  have ea : allK (getN h r) = [a, b, 0] := by unfold allK; rw [N.kids, f4]; rfl
  rw [refsS_all, ea, List.mem_filter]
  simp only [List.mem_cons, List.not_mem_nil, or_false, decide_eq_true_eq]
  constructor
  · rintro ⟨h1 | h1 | h1, h2⟩
    · exact ⟨.inl h1, h2⟩
    · exact ⟨.inr h1, h2⟩
    · exact absurd h1 h2
  · rintro ⟨h1 | h1, h2⟩
    · exact ⟨.inl h1, h2⟩
    · exact ⟨.inr (.inl h1), h2⟩
theorem NodeAt.bel {h : List NodeV} (hm : mayH h = true) {r : Int} {p : PairV} {L R : List PairV} {a b : Int} (N : NodeAt h r p L R a b) {i : Int} : Bl h r i ↔ i = r ∨ Bl h a i ∨ Bl h b i := by
  have a0 := N.a0
  have b0 := N.b0
  unfold Bl
  rw [Bel.split]
  constructor
  · rintro ⟨_, h1 | ⟨c, hc, h1⟩⟩
    · exact .inl h1
    · obtain ⟨h2 | h2, h3⟩ := (N.refs hm).1 hc
      · subst h2; exact .inr (.inl ⟨by omega, h1⟩)
      · subst h2; exact .inr (.inr ⟨by omega, h1⟩)
  · rintro (h1 | ⟨h2, h1⟩ | ⟨h2, h1⟩)
    · exact ⟨N.r1, .inl h1⟩
    · exact ⟨N.r1, .inr ⟨a, (N.refs hm).2 ⟨.inl rfl, by omega⟩, h1⟩⟩
    · exact ⟨N.r1, .inr ⟨b, (N.refs hm).2 ⟨.inr rfl, by omega⟩, h1⟩⟩
/-- The keys of what is below a tree's root. -/
theorem tree_keys {h : List NodeV} (hm : mayH h = true) : ∀ (n : Nat) (r : Int) (l : List PairV), r.toNat ≤ n → 0 ≤ r → r ≤ h.length → Srt l → (∀ p ∈ l, okT p) → U h r = treeT l →
    (∀ i, Bl h r i → ∃ q ∈ l, ky h i = q.1) ∧ (∀ i j, Bl h r i → Bl h r j → ky h i = ky h j → i = j) ∧ (∀ q ∈ l, ∃ i, Bl h r i ∧ ky h i = q.1) := by
  intro n
  induction n with
  | zero =>
    intro r l hd h0 h1 hS ht hu
    have : r = 0 := by omega
    subst this
    rw [(treeT_nil_iff hm h0 h1 hu).1 rfl]
    exact ⟨fun i hi => absurd hi.1 (by omega), fun i j hi => absurd hi.1 (by omega), fun q hq => by cases hq⟩
  | succ n ih =>
    intro r l hd h0 h1 hS ht hu
    by_cases hl : l = []
    · subst hl
      have := (treeT_nil_iff hm h0 h1 hu).2 rfl
      subst this
      exact ⟨fun i hi => absurd hi.1 (by omega), fun i j hi => absurd hi.1 (by omega), fun q hq => by cases hq⟩
    obtain ⟨L, p, R, a, b, rfl, N⟩ := node_at hm h0 h1 hl hS ht hu
    obtain ⟨s1, s2, s3, s4, s5⟩ := srt_three N.srt
    have a0 := N.a0
    have a1 := N.a1
    have b0 := N.b0
    have b1 := N.b1
    have r2 := N.r2
    obtain ⟨A1, A2, A3⟩ := ih a L (by omega) a0 (by omega) s1 (fun q hq => ht q (List.mem_append_left _ hq)) N.left
    obtain ⟨B1, B2, B3⟩ := ih b R (by omega) b0 (by omega) s2 (fun q hq => ht q (List.mem_append_right _ (List.mem_cons_of_mem _ hq))) N.right
    have kr : ky h r = p.1 := N.key
    have rl : ∀ j, Bl h a j → ky h r ≠ ky h j := fun j hj e => by
      obtain ⟨q, hq, e2⟩ := A1 j hj
      exact ne_of_lt (s3 q hq) (e2.symm.trans (e.symm.trans kr))
    have rr : ∀ j, Bl h b j → ky h r ≠ ky h j := fun j hj e => by
      obtain ⟨q, hq, e2⟩ := B1 j hj
      exact ne_of_lt (s4 q hq) (kr.symm.trans (e.trans e2))
    have lr : ∀ i j, Bl h a i → Bl h b j → ky h i ≠ ky h j := fun i j hi hj e => by
      obtain ⟨q, hq, e1⟩ := A1 i hi
      obtain ⟨z, hz, e2⟩ := B1 j hj
      exact ne_of_lt (s5 q hq z hz) (e1.symm.trans (e.trans e2))
    refine ⟨fun i hi => ?_, fun i j hi hj e => ?_, fun q hq => ?_⟩
    · rcases (N.bel hm).1 hi with hi | hi | hi
      · exact ⟨p, by simp, by rw [hi]; exact kr⟩
      · obtain ⟨q, hq, e⟩ := A1 i hi
        exact ⟨q, List.mem_append_left _ hq, e⟩
      · obtain ⟨q, hq, e⟩ := B1 i hi
        exact ⟨q, List.mem_append_right _ (List.mem_cons_of_mem _ hq), e⟩
    · rcases (N.bel hm).1 hi with hi | hi | hi
      · rcases (N.bel hm).1 hj with hj | hj | hj
        · rw [hi, hj]
        · exact absurd (hi ▸ e) (rl j hj)
        · exact absurd (hi ▸ e) (rr j hj)
      · rcases (N.bel hm).1 hj with hj | hj | hj
        · exact absurd (hj ▸ e.symm) (rl i hi)
        · exact A2 i j hi hj e
        · exact absurd e (lr i j hi hj)
      · rcases (N.bel hm).1 hj with hj | hj | hj
        · exact absurd (hj ▸ e.symm) (rr i hi)
        · exact absurd e.symm (lr j i hj hi)
        · exact B2 i j hi hj e
    · rcases List.mem_append.1 hq with hq | hq
      · obtain ⟨i, hi, e⟩ := A3 q hq
        exact ⟨i, (N.bel hm).2 (.inr (.inl hi)), e⟩
      · rcases List.mem_cons.1 hq with rfl | hq
        · exact ⟨r, (N.bel hm).2 (.inl rfl), kr⟩
        · obtain ⟨i, hi, e⟩ := B3 q hq
          exact ⟨i, (N.bel hm).2 (.inr (.inr hi)), e⟩
/-! ### A plan, so far: its new nodes, its old references, and what is not below another new node -/
structure Part (h : List NodeV) (r0 : Int) (E : Int → Prop) (C : ByteArray → Prop) (news : List NodeV) (old roots : List Int) : Prop where
  refs : ∀ n ∈ news, ∀ c ∈ allK n, 0 < c → Bl h r0 c
  root : ∀ s ∈ roots, 0 < s → Bl h r0 s
  link : ∀ i : Nat, i < news.length → -(i : Int) - 1 ∈ roots ∨ ∃ (j : Nat) (x : NodeV), i < j ∧ news[j]? = some x ∧ -(i : Int) - 1 ∈ allK x
  gone : ∀ x ∈ old, E x ∨ ∃ n ∈ news, n.2.1 = ky h x
  came : ∀ n ∈ news, (∃ x ∈ old, n.2.1 = ky h x) ∨ C n.2.1
theorem Part.nil {h : List NodeV} {r0 : Int} {E : Int → Prop} {C : ByteArray → Prop} {old roots : List Int} (hr : ∀ s ∈ roots, 0 < s → Bl h r0 s) (ho : ∀ x ∈ old, E x) : Part h r0 E C [] old roots :=
  ⟨fun n hn => (by cases hn), hr, fun i hi => (by cases hi), fun x hx => .inl (ho x hx), fun n hn => (by cases hn)⟩
theorem Part.more {h : List NodeV} {r0 : Int} {E : Int → Prop} {C : ByteArray → Prop} {news : List NodeV} {old roots : List Int} (Q : Part h r0 E C news old roots) {n : NodeV} {old' roots' : List Int} (hrefs : ∀ c ∈ allK n, 0 < c → Bl h r0 c) (hroots : ∀ s ∈ roots, s ∈ roots' ∨ s ∈ allK n) (hnew : -(news.length : Int) - 1 ∈ roots') (hr : ∀ s ∈ roots', 0 < s → Bl h r0 s) (hold : ∀ x ∈ old', n.2.1 = ky h x) (hc : (∃ x ∈ old', n.2.1 = ky h x) ∨ C n.2.1) : Part h r0 E C (news ++ [n]) (old ++ old') roots' := by
  refine ⟨fun m hm => ?_, hr, fun i hi => ?_, fun x hx => ?_, fun m hm => ?_⟩
  · rcases List.mem_append.1 hm with hm | hm
    · exact Q.refs m hm
    · rw [List.mem_singleton.1 hm]; exact hrefs
  · rw [List.length_append] at hi
    simp only [List.length_cons, List.length_nil] at hi
    by_cases q : i < news.length
    · rcases Q.link i q with h1 | ⟨j, x, h1, h2, h3⟩
      · rcases hroots _ h1 with h2 | h2
        · exact .inl h2
        · exact .inr ⟨news.length, n, q, by rw [List.getElem?_append_right (Nat.le_refl _), Nat.sub_self]; rfl, h2⟩
      · have hj : j < news.length := (List.getElem?_eq_some_iff.1 h2).1
        exact .inr ⟨j, x, h1, by rw [List.getElem?_append_left hj]; exact h2, h3⟩
    · have : i = news.length := by omega
      subst this
      exact .inl hnew
  · rcases List.mem_append.1 hx with hx | hx
    · rcases Q.gone x hx with h1 | ⟨m, hm, e⟩
      · exact .inl h1
      · exact .inr ⟨m, List.mem_append_left _ hm, e⟩
    · exact .inr ⟨n, by simp, hold x hx⟩
  · rcases List.mem_append.1 hm with hm | hm
    · rcases Q.came m hm with ⟨x, hx, e⟩ | h1
      · exact .inl ⟨x, List.mem_append_left _ hx, e⟩
      · exact .inr h1
    · rw [List.mem_singleton.1 hm]
      rcases hc with ⟨x, hx, e⟩ | h1
      · exact .inl ⟨x, List.mem_append_right _ hx, e⟩
      · exact .inr h1
/-! ### A plan done -/
theorem getN_PS {h news : List NodeV} {i : Nat} {x : NodeV} (hx : news[i]? = some x) : getN (PS h news) ((h.length : Int) + 1 + i) = fillNd h.length x := by
  have hi := (List.getElem?_eq_some_iff.1 hx).1
  have e : ((h.length : Int) + 1 + i - 1).toNat = h.length + i := by omega
  unfold getN PS
  rw [e, List.getD_eq_getElem?_getD, List.getElem?_append_right (by omega), Nat.add_sub_cancel_left, List.getElem?_map, hx]
  rfl
theorem refs_PS {n : Nat} {x : NodeV} {c : Int} : c ∈ refsS (fillNd n x) ↔ ∃ d ∈ allK x, fillQ n d = c ∧ c ≠ 0 := by
  rw [refsS_all, allK_fill, List.mem_filter, List.mem_map]
  simp only [decide_eq_true_eq]
  constructor
  · rintro ⟨⟨d, h1, h2⟩, h3⟩
    exact ⟨d, h1, h2, h3⟩
  · rintro ⟨d, h1, h2, h3⟩
    exact ⟨⟨d, h1, h2⟩, h3⟩
section
variable {h news : List NodeV} {r0 : Int} {E : Int → Prop} {C : ByteArray → Prop} {old : List Int} {s : Int}
theorem Part.new (Q : Part h r0 E C news old [s]) : ∀ (d i : Nat), news.length - i ≤ d → i < news.length → Bl (PS h news) (fillQ h.length s) ((h.length : Int) + 1 + i)
  | 0, i, hd, hi => absurd hi (by omega)
  | d + 1, i, hd, hi => by
    rcases Q.link i hi with h1 | ⟨j, x, h1, h2, h3⟩
    · have e := List.mem_singleton.1 h1
      rw [← e, fillQ_neg _ (by omega)]
      exact ⟨by omega, by rw [show (h.length : Int) - (-(i : Int) - 1) = (h.length : Int) + 1 + i by omega]; exact .self⟩
    · have hj := (List.getElem?_eq_some_iff.1 h2).1
      have ih := Part.new Q d j (by omega) hj
      refine ⟨ih.1, .step ih.2 ?_⟩
      rw [getN_PS h2]
      exact refs_PS.2 ⟨_, h3, by rw [fillQ_neg _ (by omega)]; omega, by omega⟩
theorem Part.old_ (Q : Part h r0 E C news old [s]) (hm : mayH h = true) (hr0 : r0 ≤ h.length) (P : PlanOK h news) (ht : fillQ h.length s ≤ (PS h news).length) {j : Int} (b : Bl (PS h news) (fillQ h.length s) j) : (h.length : Int) < j ∨ Bl h r0 j := by
  obtain ⟨h1, b⟩ := b
  induction b with
  | self =>
    by_cases q : s < 0
    · rw [fillQ_neg _ q]; exact .inl (by omega)
    · rw [fillQ_pos _ (by omega)] at h1 ⊢
      exact .inr (Q.root s (List.mem_singleton.2 rfl) (by omega))
  | @step j c b hi ih =>
    have hin := Bel.in_ P.may h1 ht b
    rw [PS_len] at ht
    rcases ih with hn | hb
    · obtain ⟨i, rfl⟩ : ∃ i : Nat, j = (h.length : Int) + 1 + i := ⟨(j - h.length - 1).toNat, by omega⟩
      have hil : i < news.length := by omega
      rw [getN_PS (List.getElem?_eq_getElem hil)] at hi
      obtain ⟨d, hd, e, hne⟩ := refs_PS.1 hi
      by_cases q : 0 < d
      · rw [fillQ_pos _ (by omega)] at e
        exact .inr (e ▸ Q.refs _ (List.getElem_mem hil) d hd q)
      · have : d ≠ 0 := fun z => hne (by rw [← e, z, fillQ_0])
        rw [fillQ_neg _ (by omega)] at e
        exact .inl (by omega)
    · have hj := Bl.in_ hm hr0 hb
      have e : getN (PS h news) j = getN h j := getN_app _ _ j hj.1 (by omega)
      rw [e] at hi
      exact .inr ⟨hb.1, .step hb.2 hi⟩
/-- The old references are those to nodes that are below the root no more. -/
theorem Part.iff (Q : Part h r0 E C news old [s]) (hm : mayH h = true) {l l' : List PairV} (h0 : 0 ≤ r0) (hr0 : r0 ≤ h.length) (P : PlanOK h news) (H : Has h news s (treeT l')) (hS : Srt l) (hT : ∀ p ∈ l, okT p) (hu : U h r0 = treeT l) (hS' : Srt l') (hT' : ∀ p ∈ l', okT p)
    (hbel : ∀ x ∈ old, Bl h r0 x) (hE : ∀ x, E x → ∀ q ∈ l', q.1 ≠ ky h x) (hC : ∀ k, C k → ∀ q ∈ l, q.1 ≠ k) (hstay : ∀ q ∈ l, (∃ z ∈ l', z.1 = q.1) ∨ ∃ x ∈ old, ky h x = q.1) (x : Int) : x ∈ old ↔ Bl h r0 x ∧ ¬ Bl (PS h news) (fillQ h.length s) x := by
  have hf := fill_in H.lo H.hi
  obtain ⟨A1, A2, A3⟩ := tree_keys hm r0.toNat r0 l (Nat.le_refl _) h0 hr0 hS hT hu
  obtain ⟨K1, K2, K3⟩ := tree_keys P.may (fillQ h.length s).toNat (fillQ h.length s) l' (Nat.le_refl _) hf.1 hf.2 hS' hT' H.shp
  have ko : ∀ i : Int, 1 ≤ i → i ≤ h.length → ky (PS h news) i = ky h i := fun i i1 i2 => by
    unfold ky
    rw [show getN (PS h news) i = getN h i from getN_app _ _ i i1 i2]
  have kn : ∀ (i : Nat) (hi : i < news.length), ky (PS h news) ((h.length : Int) + 1 + i) = news[i].2.1 := fun i hi => by
    unfold ky
    rw [getN_PS (List.getElem?_eq_getElem hi)]
    rfl
  constructor
  · intro hx
    have hb := hbel x hx
    have hin := Bl.in_ hm hr0 hb
    refine ⟨hb, fun hk => ?_⟩
    rcases Q.gone x hx with h1 | ⟨n, hn, e⟩
    · obtain ⟨q, hq, e⟩ := K1 x hk
      rw [ko x hin.1 (by omega)] at e
      exact hE x h1 q hq e.symm
    · obtain ⟨i, hi, rfl⟩ := List.getElem_of_mem hn
      have := K2 x _ hk (Q.new _ i (Nat.le_refl _) hi) (by rw [ko x hin.1 (by omega), kn i hi, e])
      omega
  · rintro ⟨hb, hk⟩
    have hin := Bl.in_ hm hr0 hb
    obtain ⟨q, hq, e⟩ := A1 x hb
    rcases hstay q hq with ⟨z, hz, e2⟩ | ⟨y, hy, e2⟩
    · obtain ⟨j, hj, e3⟩ := K3 z hz
      have hjin := Bl.in_ P.may hf.2 hj
      rw [PS_len] at hf
      by_cases q' : (h.length : Int) < j
      · obtain ⟨i, rfl⟩ : ∃ i : Nat, j = (h.length : Int) + 1 + i := ⟨(j - h.length - 1).toNat, by omega⟩
        have hil : i < news.length := by omega
        rw [kn i hil] at e3
        rcases Q.came _ (List.getElem_mem hil) with ⟨y, hy, e4⟩ | h5
        · have : y = x := A2 y x (hbel y hy) hb (by rw [← e4, e3, e2, e])
          exact this ▸ hy
        · exact absurd (e2.symm.trans e3.symm) (hC _ h5 q hq)
      · have hb2 := (Q.old_ hm hr0 P (by rw [PS_len]; omega) hj).resolve_left q'
        have hj2 := Bl.in_ hm hr0 hb2
        rw [ko j hj2.1 (by omega)] at e3
        have : j = x := A2 j x hb2 hb (by rw [e3, e2, e])
        exact absurd (this ▸ hj) hk
    · have : y = x := A2 y x (hbel y hy) hb (by rw [e2, e])
      exact this ▸ hy
end
/-! ### Lists of references -/
theorem desc_mem {p : Int → Bool} : ∀ {n : Nat} {x : Int}, x ∈ desc p n ↔ 1 ≤ x ∧ x ≤ n ∧ p x = true
  | 0, x => by
    constructor
    · intro h; cases h
    · rintro ⟨h1, h2, _⟩; omega
  | n + 1, x => by
    unfold desc
    by_cases hp : p ((n + 1 : Nat) : Int) = true
    · rw [if_pos hp, List.mem_cons, desc_mem]
      constructor
      · rintro (rfl | ⟨h1, h2, h3⟩)
        · exact ⟨by omega, Int.le_refl _, hp⟩
        · exact ⟨h1, by omega, h3⟩
      · rintro ⟨h1, h2, h3⟩
        by_cases q : x = ((n + 1 : Nat) : Int)
        · exact .inl q
        · exact .inr ⟨h1, by omega, h3⟩
    · rw [if_neg hp, desc_mem]
      constructor
      · rintro ⟨h1, h2, h3⟩
        exact ⟨h1, by omega, h3⟩
      · rintro ⟨h1, h2, h3⟩
        by_cases q : x = ((n + 1 : Nat) : Int)
        · exact absurd (q ▸ h3) hp
        · exact ⟨h1, by omega, h3⟩
theorem desc_nodup (p : Int → Bool) : ∀ n : Nat, (desc p n).Nodup
  | 0 => List.nodup_nil
  | n + 1 => by
    unfold desc
    split
    · refine List.nodup_cons.2 ⟨fun h => ?_, desc_nodup p n⟩
      have := (desc_mem.1 h).2.1
      omega
    · exact desc_nodup p n
theorem belS_mem {h : List NodeV} (hm : mayH h = true) {r : Int} (h2 : r ≤ h.length) {x : Int} : x ∈ belS h r ↔ Bl h r x := by
  unfold belS
  rw [desc_mem, belB_iff]
  constructor
  · exact fun h => h.2.2
  · intro h
    have := Bl.in_ hm h2 h
    exact ⟨this.1, by omega, h⟩
theorem desc_fresh {p : Int → Bool} {n : Nat} : ∀ m : Nat, (∀ i : Nat, i < m → p ((n : Int) + 1 + i) = true) → ((desc p (n + m)).filter fun x => decide ((n : Int) < x)).length = m
  | 0, _ => by
    have : (desc p (n + 0)).filter (fun x => decide ((n : Int) < x)) = [] := List.filter_eq_nil_iff.2 fun x hx => by
      have := (desc_mem.1 hx).2.1
      simp
      omega
    rw [this]
    rfl
  | m + 1, hp => by
    have ih := desc_fresh m fun i hi => hp i (by omega)
    have e : desc p (n + (m + 1)) = ((n + m + 1 : Nat) : Int) :: desc p (n + m) := by
      show (if p ((n + m + 1 : Nat) : Int) = true then _ else _) = _
      rw [if_pos (by rw [show ((n + m + 1 : Nat) : Int) = (n : Int) + 1 + m by omega]; exact hp m (by omega))]
      rfl
    rw [e, List.filter_cons_of_pos (by simp; omega), List.length_cons, ih]
def goneS (a b : List Int) : List Int := a.filter fun x => decide (x ∉ b)
theorem count_one {b : List Int} (hb : b.Nodup) {x : Int} (hx : x ∈ b) : b.count x = 1 := by
  have h1 := List.count_pos_iff.2 hx
  have h2 := List.nodup_iff_count.1 hb x
  omega
theorem same_sets {a b : List Int} (ha : a.Nodup) (hb : b.Nodup) (h : ∀ x, x ∈ a ↔ x ∈ b) : a.length = b.length ∧ ∀ x ∈ a, b.count x = 1 :=
  ⟨((List.perm_ext_iff_of_nodup ha hb).2 h).length_eq, fun x hx => count_one hb ((h x).1 hx)⟩
/-! ### Steps of ways -/
structure StOK (h : List NodeV) (r0 : Int) (x : Int) (n : NodeV) : Prop where
  bel : Bl h r0 x
  node : n = getN h x
  kid0 : 0 < n.2.2.2.2.1.getD 0 0 → Bl h r0 (n.2.2.2.2.1.getD 0 0)
  kid1 : 0 < n.2.2.2.2.1.getD 1 0 → Bl h r0 (n.2.2.2.2.1.getD 1 0)
theorem NodeAt.st {h : List NodeV} (hm : mayH h = true) {r0 r : Int} {p : PairV} {L R : List PairV} {a b : Int} (N : NodeAt h r p L R a b) (hb : Bl h r0 r) : StOK h r0 r (getN h r) ∧ (1 ≤ a → Bl h r0 a) ∧ (1 ≤ b → Bl h r0 b) := by
  have ka : 1 ≤ a → Bl h r0 a := fun q => ⟨hb.1, .step hb.2 ((N.refs hm).2 ⟨.inl rfl, by omega⟩)⟩
  have kb : 1 ≤ b → Bl h r0 b := fun q => ⟨hb.1, .step hb.2 ((N.refs hm).2 ⟨.inr rfl, by omega⟩)⟩
  refine ⟨⟨hb, rfl, ?_, ?_⟩, ka, kb⟩
  · rw [N.kids]
    exact fun q => ka (by have q : 0 < a := q; omega)
  · rw [N.kids]
    exact fun q => kb (by have q : 0 < b := q; omega)
theorem WayT.st {h : List NodeV} (hm : mayH h = true) {r0 : Int} {k : ByteArray} {r : Int} {l : List PairV} {way : List StepV} {e : Int} {m : List PairV} (w : WayT h k r l way e m) : (1 ≤ r → Bl h r0 r) → (∀ x ∈ way, StOK h r0 x.1 x.node) ∧ (1 ≤ e → Bl h r0 e) := by
  induction w with
  | done r l => exact fun hb => ⟨fun x hx => (by cases hx), hb⟩
  | left N hlt w ih =>
    intro hb
    obtain ⟨h1, ha, _⟩ := N.st hm (hb N.r1)
    obtain ⟨i1, i2⟩ := ih ha
    refine ⟨fun x hx => ?_, i2⟩
    rcases List.mem_cons.1 hx with rfl | hx
    · exact h1
    · exact i1 x hx
  | right N hlt w ih =>
    intro hb
    obtain ⟨h1, _, hb'⟩ := N.st hm (hb N.r1)
    obtain ⟨i1, i2⟩ := ih hb'
    refine ⟨fun x hx => ?_, i2⟩
    rcases List.mem_cons.1 hx with rfl | hx
    · exact h1
    · exact i1 x hx
theorem WayT.dec {h : List NodeV} {k : ByteArray} {r : Int} {l : List PairV} {way : List StepV} {e : Int} {m : List PairV} (w : WayT h k r l way e m) : e ≤ r ∧ (∀ x ∈ way, e < x.1 ∧ x.1 ≤ r) ∧ (way.map (·.1)).Nodup := by
  induction w with
  | done r l => exact ⟨Int.le_refl _, fun x hx => (by cases hx), List.nodup_nil⟩
  | @left r p L R a b way e m N hlt w ih =>
    obtain ⟨i0, i1, i2⟩ := ih
    have := N.a1
    refine ⟨by omega, fun x hx => ?_, List.nodup_cons.2 ⟨fun hx => ?_, i2⟩⟩
    · rcases List.mem_cons.1 hx with rfl | hx
      · exact ⟨by show e < r; omega, Int.le_refl r⟩
      · have := i1 x hx; omega
    · obtain ⟨y, hy, e⟩ := List.mem_map.1 hx
      have := i1 y hy
      have e : y.1 = r := e
      omega
  | @right r p L R a b way e m N hlt w ih =>
    obtain ⟨i0, i1, i2⟩ := ih
    have := N.b1
    refine ⟨by omega, fun x hx => ?_, List.nodup_cons.2 ⟨fun hx => ?_, i2⟩⟩
    · rcases List.mem_cons.1 hx with rfl | hx
      · exact ⟨by show e < r; omega, Int.le_refl r⟩
      · have := i1 x hx; omega
    · obtain ⟨y, hy, e⟩ := List.mem_map.1 hx
      have := i1 y hy
      have e : y.1 = r := e
      omega
theorem allK_side (n : NodeV) (side r z : Int) : allK (sideN n side r z) = [if side = 0 then r else n.2.2.2.2.1.getD 0 0, if side = 0 then n.2.2.2.2.1.getD 1 0 else r, 0] := rfl
theorem allK_treeI (k v : ByteArray) (a b z : Int) : allK (treeI k v a b z) = [a, b, 0] := rfl
/-- A step of a way, made anew above one root. -/
theorem Part.side {h news : List NodeV} {r0 : Int} {E : Int → Prop} {C : ByteArray → Prop} {old roots roots' : List Int} {r : Int} (Q : Part h r0 E C news old roots) {x : Int} {n : NodeV} (S : StOK h r0 x n) {side : Int} (hs : side = 0 ∨ side = 1) (z : Int) (hin : r ∈ roots) (hroots : ∀ s ∈ roots, s ∈ roots' ∨ s = r) (hnew : -(news.length : Int) - 1 ∈ roots') (hr : ∀ s ∈ roots', s = -(news.length : Int) - 1 ∨ s ∈ roots) : Part h r0 E C (news ++ [sideN n side r z]) (old ++ [x]) roots' := by
  have hk : (sideN n side r z).2.1 = ky h x := by
    show n.2.1 = _
    rw [S.node]
    rfl
  have hrr : r ∈ allK (sideN n side r z) := by
    rw [allK_side]
    rcases hs with rfl | rfl
    · rw [if_pos rfl]; simp
    · rw [if_neg (by omega), if_neg (by omega)]; simp
  refine Q.more (fun c hc q => ?_) (fun s hs' => ?_) hnew (fun s hs' q => ?_) (fun y hy => by rw [List.mem_singleton.1 hy]; exact hk) (.inl ⟨x, List.mem_singleton.2 rfl, hk⟩)
  · rw [allK_side] at hc
    rcases hs with rfl | rfl
    · rw [if_pos rfl, if_pos rfl] at hc
      rcases List.mem_cons.1 hc with rfl | hc
      · exact Q.root _ hin q
      rcases List.mem_cons.1 hc with rfl | hc
      · exact S.kid1 q
      · rw [List.mem_singleton.1 hc] at q; omega
    · rw [if_neg (by omega), if_neg (by omega)] at hc
      rcases List.mem_cons.1 hc with rfl | hc
      · exact S.kid0 q
      rcases List.mem_cons.1 hc with rfl | hc
      · exact Q.root _ hin q
      · rw [List.mem_singleton.1 hc] at q; omega
  · rcases hroots s hs' with h1 | rfl
    · exact .inl h1
    · exact .inr hrr
  · rcases hr s hs' with rfl | h1
    · omega
    · exact Q.root s h1 q
end Go.Proofs.YtmopkbmcilolgaaGreat.AI
set_option linter.unusedVariables false
set_option linter.unusedSimpArgs false
namespace Go.Proofs.YtmopkbmcilolgaaGreat.AI
open Go.Abs
def mk (l : List Bool) (i : Int) : Bool := l.getD (i - 1).toNat false
theorem mk_in {l : List Bool} {i : Int} (h : mk l i = true) : (i - 1).toNat < l.length := by
  unfold mk at h
  rcases Nat.lt_or_ge (i - 1).toNat l.length with h1 | h1
  · exact h1
  · rw [List.getD_eq_getElem?_getD, List.getElem?_eq_none h1] at h; cases h
/-- Whatever is marked, so far up, what is below it is marked. -/
def Cl (h : List NodeV) (m : Int) (l : List Bool) : Prop := ∀ i : Int, 1 ≤ i → i ≤ m → mk l i = true → ∀ c ∈ refsS (getN h i), mk l c = true
def Mk (h : List NodeV) (r : Int) (l l' : List Bool) : Prop := l'.length = h.length ∧ ∀ i : Int, 1 ≤ i → (mk l' i = true ↔ mk l i = true ∨ (1 ≤ r ∧ Bel h r i))
theorem Mk.cl {h : List NodeV} (hm : mayH h = true) {r m : Int} (hr : r ≤ h.length) {l l' : List Bool} (hl : l.length = h.length) (k : Mk h r l l') (c : Cl h m l) : Cl h m l' := by
  intro i h1 h2 hi c' hc
  rcases (k.2 i h1).1 hi with hi | ⟨hr1, hb⟩
  · have h3 := mk_in hi
    have := refs_may hm h1 (by omega) hc
    exact (k.2 c' this.1).2 (.inl (c i h1 h2 hi c' hc))
  · have h3 := Bel.in_ hm hr1 hr hb
    have := refs_may hm h1 (by omega) hc
    exact (k.2 c' this.1).2 (.inr ⟨hr1, .step hb hc⟩)
theorem mark_loop {h : List NodeV} (ho : okH h) (hm : mayH h = true) {m : Int} (hmh : m ≤ h.length) (refs : List Int) (hr : refs.length ≤ 50000000) (hin : ∀ c ∈ refs, 1 ≤ c ∧ c ≤ m) (hb : ∀ c ∈ refs, ∀ l : List Bool, l.length = h.length → Cl h c l → ∃ l', ref17_mark_o h c l = some ((), (l', ())) ∧ Mk h c l l') (d : Nat) :
    ∀ (k : Nat) (l : List Bool), k ≤ refs.length → refs.length - k = d → l.length = h.length → Cl h m l →
      ∃ l', ref17_mark_o.l1 h refs (k : Int) l = some ((), (l', ())) ∧ l'.length = h.length ∧ ∀ i : Int, 1 ≤ i → (mk l' i = true ↔ mk l i = true ∨ ∃ c ∈ refs.drop k, Bel h c i) := by
  induction d with
  | zero =>
    intro k l h1 h2 h3 h4
    refine ⟨l, ?_, h3, fun i hi => ?_⟩
    · rw [ref17_mark_o.l1.eq]
      simp only [ltI_d, ofN_d, lenL_d, br_if]
      rw [if_neg (by omega)]
    · rw [List.drop_eq_nil_of_le (by omega)]
      simp
  | succ d ih =>
    intro k l h1 h2 h3 h4
    have hk : k < refs.length := by omega
    have hc := hin _ (List.getElem_mem hk)
    obtain ⟨l1, e1, k1⟩ := hb _ (List.getElem_mem hk) l h3 (fun i i1 i2 => h4 i i1 (by omega))
    obtain ⟨l2, e2, k2, k3⟩ := ih (k + 1) l1 (by omega) (by omega) k1.1 (k1.cl hm (by omega) h3 h4)
    refine ⟨l2, ?_, k2, fun i hi => ?_⟩
    · rw [ref17_mark_o.l1.eq, ixR refs k hk, e1, bnd_some]
      simp only [ltI_d, leI_d, ofN_d, lenL_d, andB_d, br_if]
      rw [if_pos (by omega), if_pos (by omega), add1 k (by omega)]
      exact e2
    · rw [k3 i hi, k1.2 i hi, List.drop_eq_getElem_cons hk]
      constructor
      · rintro ((h | ⟨_, h⟩) | ⟨c, hc, h⟩)
        · exact .inl h
        · exact .inr ⟨refs[k], List.mem_cons_self, h⟩
        · exact .inr ⟨c, List.mem_cons_of_mem _ hc, h⟩
      · rintro (h | ⟨c, hc', h⟩)
        · exact .inl (.inl h)
        · rcases List.mem_cons.1 hc' with rfl | hc'
          · exact .inl (.inr ⟨hc.1, h⟩)
          · exact .inr ⟨c, hc', h⟩
theorem mark_any {h : List NodeV} (ho : okH h) (hm : mayH h = true) : ∀ (n : Nat) (r : Int) (l : List Bool), 0 ≤ r → r ≤ n → r ≤ h.length → l.length = h.length → Cl h r l → ∃ l', ref17_mark_o h r l = some ((), (l', ())) ∧ Mk h r l l' := by
  have hlen := ho.len
  have zero : ∀ l : List Bool, l.length = h.length → ∃ l', ref17_mark_o h 0 l = some ((), (l', ())) ∧ Mk h 0 l l' := fun l hl => by
    refine ⟨l, ?_, hl, fun i hi => ⟨fun q => .inl q, fun q => q.elim id fun q => absurd q.1 (by omega)⟩⟩
    rw [ref17_mark_o.eq, eqI_d, br_if, if_pos rfl, ref17_mark_o.j0.eq, br_t]
  intro n
  induction n with
  | zero =>
    intro r l h0 h1 h2 h3 h4
    have : r = 0 := by omega
    subst this
    exact zero l h3
  | succ n ih =>
    intro r l h0 h1 h2 h3 h4
    by_cases e : r = 0
    · subst e; exact zero l h3
    have hr1 : 1 ≤ r := by omega
    obtain ⟨q, rfl⟩ : ∃ q : Nat, r = ((q + 1 : Nat) : Int) := ⟨(r - 1).toNat, by omega⟩
    have hq : ((q + 1 : Nat) : Int) - 1 = (q : Int) := by omega
    have es : subI .i64 ((q + 1 : Nat) : Int) 1 = (q : Int) := by rw [sub1I _ (by omega) (by omega)]; omega
    have emk : mk l ((q + 1 : Nat) : Int) = l.getD q false := by unfold mk; rw [hq, Int.toNat_natCast]
    have hinB : andB (leI 0 (q : Int)) (ltI (q : Int) (ofN (lenL .bool l))) = true := by
      unfold andB leI ltI ofN lenL
      rw [decide_eq_true (by omega), decide_eq_true (by omega)]
      rfl
    rw [ref17_mark_o.eq, eqI_d, br_if, if_neg e, es, hinB, br_t, ixB, ← emk]
    cases hk : mk l ((q + 1 : Nat) : Int) with
    | true =>
      refine ⟨l, by rw [ref17_mark_o.j0.eq, br_t], h3, fun i hi => ⟨fun q => .inl q, fun hh => hh.elim id fun hh => ?_⟩⟩
      have : ∀ i, Bel h ((q + 1 : Nat) : Int) i → mk l i = true := fun i b => by
        induction b with
        | self => exact hk
        | step b hi ih =>
          have hj := Bel.in_ hm hr1 h2 b
          exact h4 _ hj.1 hj.2 ih _ hi
      exact this i hh.2
    | false =>
      have o := ho.node _ (getN_mem h _ hr1 h2)
      have hrl := refsS_len (getN h ((q + 1 : Nat) : Int))
      have hkl := o.kids
      have hin : ∀ c ∈ refsS (getN h ((q + 1 : Nat) : Int)), 1 ≤ c ∧ c ≤ (q : Int) := fun c hc => by
        have := refs_may hm hr1 h2 hc
        omega
      have hset : ∀ i : Int, 1 ≤ i → mk (l.set q true) i = (decide (i = ((q + 1 : Nat) : Int)) || mk l i) := fun i hi => by
        unfold mk
        rw [getD_set _ _ _ (by omega)]
        congr 1
        exact decide_eq_decide.2 (by omega)
      have c1 : Cl h (q : Int) (l.set q true) := fun i i1 i2 hi c hc => by
        rw [hset i i1, decide_eq_false (by omega), Bool.false_or] at hi
        have := refs_may hm i1 (by omega) hc
        rw [hset c this.1, h4 i i1 (by omega) hi c hc, Bool.or_true]
      obtain ⟨l2, e2, k2, k3⟩ := mark_loop ho hm (m := (q : Int)) (by omega) (refsS (getN h ((q + 1 : Nat) : Int))) (by omega) hin (fun c hc l hl hcl => by
        have := hin c hc
        exact ih c l (by omega) (by omega) (by omega) hl hcl) _ 0 (l.set q true) (by omega) rfl (by rw [List.length_set]; exact h3) c1
      refine ⟨l2, ?_, k2, fun i hi => ?_⟩
      · have ein := inG h ((q + 1 : Nat) : Int) hr1 h2 (by omega)
        have eix := ixG h ((q + 1 : Nat) : Int) hr1 h2 (by omega)
        rw [es] at ein eix
        rw [ref17_mark_o.j0.eq, br_f, es, hinB, br_t, ein, br_t, eix, refrefs_any _ o, bnd_some, setB, Int.toNat_natCast]
        exact e2
      · rw [k3 i hi, hset i hi, List.drop_zero]
        simp only [Bool.or_eq_true, decide_eq_true_eq]
        rw [Bel.split]
        constructor
        · rintro ((h | h) | h)
          · exact .inr ⟨hr1, .inl h⟩
          · exact .inl h
          · exact .inr ⟨hr1, .inr h⟩
        · rintro (h | ⟨_, h | h⟩)
          · exact .inl (.inr h)
          · exact .inl (.inl h)
          · exact .inr h
theorem refRefs_loop {h : List NodeV} {r : Int} {l : List Bool} (hl : l.length ≤ 40000000) (hk : ∀ i : Int, 1 ≤ i → mk l i = belB h r i) : ∀ (s : Nat) (acc : List Int), s ≤ l.length → acc.length + s ≤ 50000000 → ref17_Refs.l0 ((s : Int) - 1) l acc = some (acc ++ desc (belB h r) s)
  | 0, acc, _, _ => by
    rw [ref17_Refs.l0.eq, leI_d, br_if, if_neg (by omega)]
    show some acc = some (acc ++ [])
    rw [List.append_nil]
  | s + 1, acc, hs, ha => by
    have e0 : ((s + 1 : Nat) : Int) - 1 = (s : Int) := by omega
    have e1 : subI .i64 (s : Int) 1 = (s : Int) - 1 := subI_d (by omega) (by omega)
    have e2 : addI .i64 (s : Int) 1 = ((s + 1 : Nat) : Int) := add1 s (by omega)
    have e3 : l.getD s false = belB h r ((s + 1 : Nat) : Int) := by
      rw [← hk _ (by omega)]
      unfold mk
      rw [e0, Int.toNat_natCast]
    rw [e0, ref17_Refs.l0.eq, ixB, e3, e1, e2]
    simp only [ltI_d, leI_d, ofN_d, lenL_d, andB_d, fitL_d, appL_d, br_if]
    rw [if_pos (by omega), if_pos (by omega)]
    unfold desc
    cases hb : belB h r ((s + 1 : Nat) : Int) with
    | false =>
      rw [br_f, if_neg (by simp)]
      exact refRefs_loop hl hk s acc (by omega) (by omega)
    | true =>
      rw [br_t, if_pos rfl, if_pos (by rw [List.length_append]; show _ + 1 ≤ _; omega), refRefs_loop hl hk s _ (by omega) (by rw [List.length_append]; show _ + 1 + s ≤ _; omega), List.append_assoc]
      rfl
theorem refRefs_any {h : List NodeV} (ho : okH h) (hm : mayH h = true) {r : Int} (h0 : 0 ≤ r) (h2 : r ≤ h.length) : ref17_Refs h r = some (belS h r) := by
  have hlen := ho.len
  have hz : ∀ i, mk (List.replicate h.length false) i = false := fun i => by
    unfold mk
    rw [List.getD_eq_getElem?_getD, List.getElem?_replicate]
    split <;> rfl
  obtain ⟨l', e, k⟩ := mark_any ho hm r.toNat r (List.replicate h.length false) h0 (by omega) h2 List.length_replicate (fun i _ _ hi => by rw [hz] at hi; cases hi)
  have hk : ∀ i : Int, 1 ≤ i → mk l' i = belB h r i := fun i hi => by
    rw [Bool.eq_iff_iff, k.2 i hi, hz, belB_iff]
    simp
  have et : toN (ofN (lenL tapiNode h)) = h.length := Int.toNat_natCast _
  have eg : andB (fitN (ofN (lenL tapiNode h))) (eqI (ofN (lenL tapiNode h)) (ofN (lenL tapiNode h))) = true := by
    unfold andB fitN eqI ofN lenL
    rw [decide_eq_true (by omega), decide_eq_true rfl]
    rfl
  have es : subI .i64 (ofN (lenL tapiNode h)) 1 = (h.length : Int) - 1 := by
    unfold ofN lenL
    exact subI_d (by omega) (by omega)
  rw [ref17_Refs.eq, eg, br_t, et, es, show repL .bool h.length false = List.replicate h.length false from rfl, e, bnd_some]
  have := refRefs_loop (h := h) (r := r) (l := l') (by rw [k.1]; exact hlen) hk h.length [] (by rw [k.1]; exact Nat.le_refl _) (by simp; omega)
  exact this
end Go.Proofs.YtmopkbmcilolgaaGreat.AI
set_option linter.unusedVariables false
set_option linter.unusedSimpArgs false
namespace Go.Proofs.YtmopkbmcilolgaaGreat.AI
open Go.Abs
theorem gone_l1 (a b : List Int) (hb : b.length ≤ 50000000) (i : Nat) (hi : i < a.length) (hl : a.length ≤ 50000000) (acc : List Int) (ha : acc.length ≤ 50000000) (d : Nat) : ∀ (k : Nat) (t : Bool), k ≤ b.length → b.length - k = d →
    ref23_Gone.l1 a b (i : Int) t (k : Int) acc = if (t || decide (a[i] ∈ b.drop k)) = true then ref23_Gone.l0 a b ((i + 1 : Nat) : Int) acc else ref23_Gone.l0 a b ((i + 1 : Nat) : Int) (acc ++ [a[i]]) := by
  induction d with
  | zero =>
    intro k t hk hd
    rw [ref23_Gone.l1.eq, ixR a i hi, add1 i (by omega)]
    simp only [ltI_d, leI_d, ofN_d, lenL_d, andB_d, br_if, fitL_d, appL_d]
    rw [if_neg (by omega), List.drop_eq_nil_of_le (by omega)]
    cases t with
    | true => rfl
    | false =>
      rw [show notB false = true from rfl, br_t, if_pos (by omega), if_pos (by rw [List.length_append]; show _ + 1 ≤ _; omega), if_neg (by simp)]
  | succ d ih =>
    intro k t hk hd
    have hkl : k < b.length := by omega
    rw [ref23_Gone.l1.eq, ixR a i hi, ixR b k hkl, add1 k (by omega), List.drop_eq_getElem_cons hkl]
    simp only [ltI_d, leI_d, ofN_d, lenL_d, andB_d]
    rw [decide_eq_true (show (k : Int) < (b.length : Int) by omega), br_t]
    cases t with
    | true =>
      rw [br_t, ih (k + 1) true (by omega) (by omega), Bool.true_or, Bool.true_or]
    | false =>
      rw [br_f, decide_eq_true (show (0 : Int) ≤ (i : Int) ∧ (i : Int) < (a.length : Int) by omega), br_t, decide_eq_true (show (0 : Int) ≤ (k : Int) ∧ (k : Int) < (b.length : Int) by omega), br_t, ih (k + 1) _ (by omega) (by omega), eqI_d, Bool.false_or]
      have e : (decide (a[i] = b[k]) || decide (a[i] ∈ b.drop (k + 1))) = decide (a[i] ∈ b[k] :: b.drop (k + 1)) := by
        rw [Bool.eq_iff_iff, Bool.or_eq_true, decide_eq_true_iff, decide_eq_true_iff, decide_eq_true_iff, List.mem_cons]
      rw [e]
theorem gone_l0 (a b : List Int) (hb : b.length ≤ 50000000) (hl : a.length ≤ 50000000) (d : Nat) : ∀ (i : Nat) (acc : List Int), i ≤ a.length → a.length - i = d → acc.length ≤ i → ref23_Gone.l0 a b (i : Int) acc = some (acc ++ goneS (a.drop i) b) := by
  induction d with
  | zero =>
    intro i acc hi hd ha
    rw [ref23_Gone.l0.eq]
    simp only [ltI_d, ofN_d, lenL_d, br_if]
    rw [if_neg (by omega), List.drop_eq_nil_of_le (by omega)]
    exact congrArg some (List.append_nil acc).symm
  | succ d ih =>
    intro i acc hi hd ha
    have hil : i < a.length := by omega
    have := gone_l1 a b hb i hil hl acc (by omega) b.length 0 false (by omega) (by omega)
    rw [List.drop_zero, Bool.false_or] at this
    have e0 : ((0 : Nat) : Int) = 0 := rfl
    rw [e0] at this
    rw [ref23_Gone.l0.eq]
    simp only [ltI_d, ofN_d, lenL_d, br_if]
    rw [if_pos (by omega), this, List.drop_eq_getElem_cons hil]
    by_cases q : a[i] ∈ b
    · rw [if_pos (decide_eq_true q), ih (i + 1) acc (by omega) (by omega) (by omega)]
      unfold goneS
      rw [List.filter_cons_of_neg (by simpa using q)]
    · rw [if_neg (by simpa using q), ih (i + 1) (acc ++ [a[i]]) (by omega) (by omega) (by rw [List.length_append]; show _ + 1 ≤ _; omega)]
      unfold goneS
      rw [List.filter_cons_of_pos (by simpa using q), List.append_assoc]
      rfl
theorem sset_l1 (a b : List Int) (hb : b.length ≤ 50000000) (i : Nat) (hi : i < a.length) (hl : a.length ≤ 50000000) (d : Nat) : ∀ (k n : Nat), k ≤ b.length → b.length - k = d → n ≤ k →
    ref23_SameSet.l1 a b (i : Int) (n : Int) (k : Int) = if n + (b.drop k).count a[i] = 1 then ref23_SameSet.l0 a b ((i + 1 : Nat) : Int) else some false := by
  induction d with
  | zero =>
    intro k n hk hd hn
    rw [ref23_SameSet.l1.eq, add1 i (by omega)]
    simp only [ltI_d, leI_d, eqI_d, notB_d, ofN_d, lenL_d, andB_d, br_if]
    rw [if_neg (by omega), List.drop_eq_nil_of_le (by omega), List.count_nil]
    by_cases q : n = 1
    · rw [if_neg (by omega), if_pos (show n + 0 = 1 by omega)]
    · rw [if_pos (by omega), if_neg (show ¬ n + 0 = 1 by omega)]
  | succ d ih =>
    intro k n hk hd hn
    have hkl : k < b.length := by omega
    rw [ref23_SameSet.l1.eq, ixR a i hi, ixR b k hkl, add1 k (by omega), add1 n (by omega), List.drop_eq_getElem_cons hkl]
    simp only [ltI_d, leI_d, eqI_d, ofN_d, lenL_d, andB_d, br_if]
    rw [if_pos (by omega), if_pos (by omega), if_pos (by omega)]
    by_cases q : a[i] = b[k]
    · have e : (b[k] :: b.drop (k + 1)).count a[i] = (b.drop (k + 1)).count a[i] + 1 := by
        rw [List.count_cons, q]
        simp
      rw [if_pos q, ih (k + 1) (n + 1) (by omega) (by omega) (by omega), e, show n + 1 + (b.drop (k + 1)).count a[i] = n + ((b.drop (k + 1)).count a[i] + 1) by omega]
    · have e : (b[k] :: b.drop (k + 1)).count a[i] = (b.drop (k + 1)).count a[i] := by
        rw [List.count_cons, beq_eq_false_iff_ne.2 (fun z => q (Eq.symm z))]
        rfl
      rw [if_neg q, ih (k + 1) n (by omega) (by omega) (by omega), e]
theorem sset_l0 (a b : List Int) (hb : b.length ≤ 50000000) (hl : a.length ≤ 50000000) (h : ∀ x ∈ a, b.count x = 1) (d : Nat) : ∀ i : Nat, i ≤ a.length → a.length - i = d → ref23_SameSet.l0 a b (i : Int) = some true := by
  induction d with
  | zero =>
    intro i hi hd
    rw [ref23_SameSet.l0.eq]
    simp only [ltI_d, ofN_d, lenL_d, br_if]
    rw [if_neg (by omega)]
  | succ d ih =>
    intro i hi hd
    have hil : i < a.length := by omega
    have := sset_l1 a b hb i hil hl b.length 0 0 (by omega) (by omega) (by omega)
    rw [List.drop_zero, h _ (List.getElem_mem hil), if_pos rfl, ih (i + 1) (by omega) (by omega)] at this
    have e0 : ((0 : Nat) : Int) = 0 := rfl
    rw [e0] at this
    rw [ref23_SameSet.l0.eq]
    simp only [ltI_d, ofN_d, lenL_d, br_if]
    rw [if_pos (by omega)]
    exact this
theorem sset_any {a b : List Int} (hb : b.length ≤ 50000000) (e : a.length = b.length) (h : ∀ x ∈ a, b.count x = 1) : ref23_SameSet a b = some true := by
  rw [ref23_SameSet.eq]
  simp only [eqI_d, notB_d, ofN_d, lenL_d, br_if]
  rw [if_neg (by omega)]
  exact sset_l0 a b hb (by omega) h a.length 0 (by omega) (by omega)
/-- What a statement asks of a plan's old references and new nodes. -/
theorem old_holds {h news : List NodeV} {r0 : Int} {E : Int → Prop} {C : ByteArray → Prop} {old : List Int} {s : Int} (Q : Part h r0 E C news old [s]) (ho : okH h) (hm : mayH h = true) {l l' : List PairV} (h0 : 0 ≤ r0) (hr0 : r0 ≤ h.length) (P : PlanOK h news) (H : Has h news s (treeT l')) (hk : okH (PS h news)) (hS : Srt l) (hT : ∀ p ∈ l, okT p) (hu : U h r0 = treeT l) (hS' : Srt l') (hT' : ∀ p ∈ l', okT p)
    (hbel : ∀ x ∈ old, Bl h r0 x) (hnd : old.Nodup) (hE : ∀ x, E x → ∀ q ∈ l', q.1 ≠ ky h x) (hC : ∀ k, C k → ∀ q ∈ l, q.1 ≠ k) (hstay : ∀ q ∈ l, (∃ z ∈ l', z.1 = q.1) ∨ ∃ x ∈ old, ky h x = q.1) :
    ∃ g : List Int, ref23_Gone h r0 (PS h news) (fillQ h.length s) = some g ∧ ref23_SameSet old g = some true ∧ ref17_Refs (PS h news) (fillQ h.length s) = some (belS (PS h news) (fillQ h.length s)) ∧ (belS (PS h news) (fillQ h.length s)).length ≤ 50000000 ∧
      ((belS (PS h news) (fillQ h.length s)).filter fun x => decide ((h.length : Int) < x)).length = news.length := by
  have hf := fill_in H.lo H.hi
  have l1 := ho.len
  have l2 := hk.len
  have e1 := refRefs_any ho hm h0 hr0
  have e2 := refRefs_any hk P.may hf.1 hf.2
  have d1 : (belS h r0).length ≤ h.length := desc_len _ _
  have d2 : (belS (PS h news) (fillQ h.length s)).length ≤ (PS h news).length := desc_len _ _
  have hmem : ∀ x, x ∈ old ↔ x ∈ goneS (belS h r0) (belS (PS h news) (fillQ h.length s)) := fun x => by
    unfold goneS
    rw [Q.iff hm h0 hr0 P H hS hT hu hS' hT' hbel hE hC hstay x, List.mem_filter, belS_mem hm hr0, decide_eq_true_iff, belS_mem P.may hf.2]
  have hnd2 : (goneS (belS h r0) (belS (PS h news) (fillQ h.length s))).Nodup := (desc_nodup _ _).filter _
  obtain ⟨c1, c2⟩ := same_sets hnd hnd2 hmem
  have d3 : (goneS (belS h r0) (belS (PS h news) (fillQ h.length s))).length ≤ (belS h r0).length := List.length_filter_le _ _
  refine ⟨_, ?_, sset_any (by omega) c1 c2, e2, by omega, ?_⟩
  · rw [ref23_Gone.eq, e1, bnd_some, e2, bnd_some]
    exact gone_l0 _ _ (by omega) (by omega) _ 0 [] (by omega) rfl (by show 0 ≤ _; omega)
  · show ((desc (belB (PS h news) (fillQ h.length s)) (PS h news).length).filter _).length = _
    rw [PS_len]
    exact desc_fresh news.length fun i hi => belB_iff.2 (Q.new _ i (Nat.le_refl _) hi)
theorem put_keys (x : PairV) : ∀ (l : List PairV) (q : PairV), q ∈ l → ∃ z ∈ putS l x, z.1 = q.1
  | p :: l, q, hq => by
    rcases tri p.1 x.1 with ⟨c, _⟩ | ⟨c, _⟩ | ⟨c, _⟩
    · rw [putS_lt c]
      rcases List.mem_cons.1 hq with rfl | hq
      · exact ⟨_, List.mem_cons_self, rfl⟩
      · obtain ⟨z, hz, e⟩ := put_keys x l q hq
        exact ⟨z, List.mem_cons_of_mem _ hz, e⟩
    · rw [putS_eq c]
      rcases List.mem_cons.1 hq with rfl | hq
      · exact ⟨x, List.mem_cons_self, c.symm⟩
      · exact ⟨q, List.mem_cons_of_mem _ hq, rfl⟩
    · rw [putS_gt c]
      exact ⟨q, List.mem_cons_of_mem _ hq, rfl⟩
end Go.Proofs.YtmopkbmcilolgaaGreat.AI
set_option linter.unusedVariables false
set_option linter.unusedSimpArgs false
namespace Go.Proofs.YtmopkbmcilolgaaGreat.AI
open Go.Abs
def Steps {X : Type} (h : List NodeV) (key : ByteArray) (F : Nat → MergeO → List StepM → List StepM → Option X) : Prop :=
  ∀ (n : Nat) (r : Int) (e : StepM) (found : Bool) (arms : List ArmV) (W S : List StepM), n ≤ h.length → 1 ≤ r → r ≤ h.length → F n (mgO key r e found arms) W S = bnd (merge_Merge_Feed (getN h r) (mgO key r e found arms) W S) fun r2 => F (n + 1) r2.2.1 r2.2.2.1 r2.2.2.2.1
/-- The two trees are gone through. -/
theorem feed_arms {X : Type} {h : List NodeV} (hm : mayH h = true) {key : ByteArray} {F : Nat → MergeO → List StepM → List StepM → Option X} (step : Steps h key F) (e : StepM) : ∀ (d : Nat) (ra rb : Int) (A B : List PairV) (fa fb : Bool) (W S : List StepM) (n : Nat), 2 * (ra.toNat + rb.toNat) + (if fa = true then 0 else 1) + (if fb = true then 0 else 1) ≤ d → ¬ (fa = true ∧ fb = true) →
    (0 ≤ ra ∧ ra ≤ h.length ∧ U h ra = treeT A) → (0 ≤ rb ∧ rb ≤ h.length ∧ U h rb = treeT B) → Srt A → Srt B → (∀ p ∈ A, okT p) → (∀ p ∈ B, okT p) → A.length ≤ 2000000 → B.length ≤ 2000000 → S.length + ra.toNat + rb.toNat ≤ 2000000 → (fa = true → ra ≠ 0) → (fb = true → rb ≠ 0) → n + A.length + B.length ≤ h.length + fa.toNat + fb.toNat →
    ∃ (sp : List StepM) (rest : Int) (X' Y : ArmV) (n' : Nat), SpineT h ra A rb B sp rest ∧ rest = (if X'.1 = 0 then Y.1 else X'.1) ∧ n' ≤ h.length ∧ n + sp.length ≤ n' + fa.toNat + fb.toNat ∧
      F n (mgO key (if ra = 0 ∨ rb = 0 then 0 else if fa = true then rb else ra) e true [ar h ra fa, ar h rb fb]) W S = F n' (mgO key 0 e true [X', Y]) W (S ++ sp) := by
  have t1 : true.toNat = 1 := rfl
  have t0 : false.toNat = 0 := rfl
  intro d
  induction d with
  | zero =>
    intro ra rb A B fa fb W S n hd hf
    cases fa <;> cases fb <;> simp at hd hf
  | succ d ih =>
    intro ra rb A B fa fb W S n hd hf hA hB sA sB tA tB lA lB hS qa qb hn
    obtain ⟨a0, a1, ua⟩ := hA
    obtain ⟨b0, b1, ub⟩ := hB
    have ka : fa.toNat ≤ A.length := by
      cases fa with
      | false => omega
      | true =>
        have : A.length ≠ 0 := fun z => qa rfl ((treeT_nil_iff hm a0 a1 ua).2 (List.eq_nil_of_length_eq_zero z))
        omega
    have kb : fb.toNat ≤ B.length := by
      cases fb with
      | false => omega
      | true =>
        have : B.length ≠ 0 := fun z => qb rfl ((treeT_nil_iff hm b0 b1 ub).2 (List.eq_nil_of_length_eq_zero z))
        omega
    by_cases hz : ra = 0 ∨ rb = 0
    · rw [if_pos hz]
      by_cases hra : ra = 0
      · subst hra
        rw [(treeT_nil_iff hm a0 a1 ua).1 rfl]
        exact ⟨[], rb, ar h 0 fa, ar h rb fb, n, .doneA rb B, by rw [ar_1, ar_1, if_pos rfl], by omega, by show n + 0 ≤ _; omega, by rw [List.append_nil]⟩
      · have hrb : rb = 0 := hz.resolve_left hra
        subst hrb
        rw [(treeT_nil_iff hm b0 b1 ub).1 rfl]
        exact ⟨[], ra, ar h ra fa, ar h 0 fb, n, .doneB ra A, by rw [ar_1, if_neg hra], by omega, by show n + 0 ≤ _; omega, by rw [List.append_nil]⟩
    rw [if_neg hz]
    have hra : ra ≠ 0 := fun q => hz (.inl q)
    have hrb : rb ≠ 0 := fun q => hz (.inr q)
    obtain ⟨L, p, R, a, b, rfl, N⟩ := node_at hm a0 a1 (fun q => hra ((treeT_nil_iff hm a0 a1 ua).2 q)) sA tA ua
    obtain ⟨L', q, R', c, d', rfl, N'⟩ := node_at hm b0 b1 (fun q => hrb ((treeT_nil_iff hm b0 b1 ub).2 q)) sB tB ub
    obtain ⟨sA1, sA2, _⟩ := srt_three sA
    obtain ⟨sB1, sB2, _⟩ := srt_three sB
    have mA := mid_len L R p
    have mB := mid_len L' R' q
    have both : ∀ m : Nat, m + (L ++ p :: R).length + (L' ++ q :: R').length ≤ h.length + 2 → 2 * (ra.toNat + rb.toNat) ≤ d → ∃ (sp : List StepM) (rest : Int) (X' Y : ArmV) (n' : Nat), SpineT h ra (L ++ p :: R) rb (L' ++ q :: R') sp rest ∧ rest = (if X'.1 = 0 then Y.1 else X'.1) ∧ n' ≤ h.length ∧ m + sp.length ≤ n' + 2 ∧
        bnd (fedM (merge_Merge_next (mgO key 0 e true [arM ra (getN h ra) true, arM rb (getN h rb) true]) W S)) (fun r2 => F m r2.2.1 r2.2.2.1 r2.2.2.2.1) = F n' (mgO key 0 e true [X', Y]) W (S ++ sp) := by
      intro m hm2 hd2
      have hlS : ∀ x : StepM, (S ++ [x]).length = S.length + 1 := fun x => by rw [List.length_append]; rfl
      rw [nx_step key 0 e true hra hrb N.kids N'.kids N.ks N'.ks (N.sz lA) (N'.sz lB) W S (by omega), N'.key, N.key]
      by_cases hab : Go.Abs.above q.1 p.1 = true
      · rw [if_pos hab, fedM_some, bnd_some]
        have c0 := N'.a0
        have c1 := N'.a1
        obtain ⟨sp, rest, X', Y, n', w, hr, hn1, hn2, hrun⟩ := ih ra c (L ++ p :: R) L' true false W (S ++ [stM rb (getN h rb) 0 ((getN h ra).2.2.2.2.2.2.2.1 + (getN h rb).2.2.2.2.2.2.2.1)]) m (by simp only [if_true]; rw [if_neg (by simp)]; omega) (by simp) ⟨a0, a1, ua⟩ ⟨c0, by omega, N'.left⟩ sA sB1 tA (fun z hz => tB z (List.mem_append_left _ hz)) lA (by omega) (by rw [hlS]; omega) (fun _ => hra) (fun z => by cases z) (by omega)
        refine ⟨_ :: sp, rest, X', Y, n', .right N N' hab w, hr, hn1, by rw [List.length_cons]; omega, ?_⟩
        have ew : (if ra = 0 ∨ c = 0 then 0 else if true = true then c else ra) = c := by
          by_cases q : c = 0
          · rw [if_pos (.inr q), q]
          · rw [if_neg (by rintro (z | z); exact hra z; exact q z), if_pos rfl]
        rw [ew] at hrun
        exact hrun.trans (by rw [List.append_assoc]; rfl)
      · have hab' : Go.Abs.above q.1 p.1 = false := by simpa using hab
        rw [if_neg hab, fedM_some, bnd_some]
        have c0 := N.b0
        have c1 := N.b1
        obtain ⟨sp, rest, X', Y, n', w, hr, hn1, hn2, hrun⟩ := ih b rb R (L' ++ q :: R') false true W (S ++ [stM ra (getN h ra) 1 ((getN h ra).2.2.2.2.2.2.2.1 + (getN h rb).2.2.2.2.2.2.2.1)]) m (by simp only [if_true]; rw [if_neg (by simp)]; omega) (by simp) ⟨c0, by omega, N.right⟩ ⟨b0, b1, ub⟩ sA2 sB (fun z hz => tA z (List.mem_append_right _ (List.mem_cons_of_mem _ hz))) tB (by omega) lB (by rw [hlS]; omega) (fun z => by cases z) (fun _ => hrb) (by omega)
        refine ⟨_ :: sp, rest, X', Y, n', .left N N' hab' w, hr, hn1, by rw [List.length_cons]; omega, ?_⟩
        have ew : (if b = 0 ∨ rb = 0 then 0 else if false = true then rb else b) = b := by
          by_cases q : b = 0
          · rw [if_pos (.inl q), q]
          · rw [if_neg (by rintro (z | z); exact q z; exact hrb z), if_neg (by simp)]
        rw [ew] at hrun
        exact hrun.trans (by rw [List.append_assoc]; rfl)
    cases fa with
    | true =>
      cases fb with
      | true => exact absurd ⟨rfl, rfl⟩ hf
      | false =>
        rw [if_pos rfl, step n rb e true _ W S (by omega) N'.r1 b1]
        rw [mfeed_arm key hrb e (ar h ra true) (ar h rb false) W S N'.kind N'.kids, if_pos (show (ar h ra true).2.2.2.2.2.2.2.2.2.2.1 = true from rfl)]
        obtain ⟨sp, rest, X', Y, n', w, hr, hn1, hn2, hrun⟩ := both (n + 1) (by omega) (by simp only [if_true] at hd; rw [if_neg (by simp)] at hd; omega)
        exact ⟨sp, rest, X', Y, n', w, hr, hn1, by omega, hrun⟩
    | false =>
      rw [if_neg (by simp), step n ra e true _ W S (by omega) N.r1 a1, mfeed_arm key hra e (ar h ra false) (ar h rb fb) W S N.kind N.kids, if_neg (show ¬ (ar h ra false).2.2.2.2.2.2.2.2.2.2.1 = true by show ¬ (false = true); simp)]
      cases fb with
      | true =>
        obtain ⟨sp, rest, X', Y, n', w, hr, hn1, hn2, hrun⟩ := both (n + 1) (by omega) (by simp only [if_true] at hd; rw [if_neg (by simp)] at hd; omega)
        exact ⟨sp, rest, X', Y, n', w, hr, hn1, by omega, hrun⟩
      | false =>
        have hnx := nx_b key 0 e true (ar h ra true) (ar h rb false) W S (by rw [ar_1]; exact hra) (by rw [ar_1]; exact hrb) rfl rfl
        have hnx : merge_Merge_next (mgO key 0 e true [arM ra (getN h ra) true, ar h rb false]) W S = some (rb, (mgO key 0 e true [ar h ra true, ar h rb false], (W, (S, ())))) := hnx
        rw [hnx, fedM_some, bnd_some]
        obtain ⟨sp, rest, X', Y, n', w, hr, hn1, hn2, hrun⟩ := ih ra rb (L ++ p :: R) (L' ++ q :: R') true false W S (n + 1) (by simp only [if_true]; rw [if_neg (by simp)] at hd ⊢; omega) (by simp) ⟨a0, a1, ua⟩ ⟨b0, b1, ub⟩ sA sB tA tB lA lB hS (fun _ => hra) (fun z => by cases z) (by omega)
        rw [if_neg hz, if_pos rfl] at hrun
        exact ⟨sp, rest, X', Y, n', w, hr, hn1, by omega, hrun⟩
/-- The whole walk. -/
theorem feed_loop {X : Type} {h : List NodeV} (ho : okH h) (hm : mayH h = true) {key : ByteArray} (hkey : key.size ≤ 1000000) {F : Nat → MergeO → List StepM → List StepM → Option X} (step : Steps h key F) : ∀ (d : Nat) (r : Int) (l : List PairV) (W : List StepM) (n : Nat), r.toNat ≤ d → 0 ≤ r → r ≤ h.length → Srt l → (∀ p ∈ l, okT p) → l.length ≤ 2000000 → U h r = treeT l → W.length + 2 * r.toNat ≤ 2000000 → n + l.length ≤ h.length →
    (∃ (way : List StepV) (n' : Nat), WayT h key r l way 0 [] ∧ n' ≤ h.length ∧ F n (mgO key r noM false [noArm 0, noArm 0]) W [] = F n' (mgO key 0 noM false [noArm 0, noArm 0]) (W ++ way.map toM) []) ∨
    (∃ (way : List StepV) (e : Int) (p : PairV) (L R : List PairV) (a b : Int) (sp : List StepM) (rest : Int) (X' Y : ArmV) (n' : Nat), WayT h key r l way e (L ++ p :: R) ∧ NodeAt h e p L R a b ∧ p.1 = key ∧ SpineT h a L b R sp rest ∧ rest = (if X'.1 = 0 then Y.1 else X'.1) ∧ n' ≤ h.length ∧ n + way.length + 1 + sp.length ≤ n' ∧ F n (mgO key r noM false [noArm 0, noArm 0]) W [] = F n' (mgO key 0 (stM e (getN h e) 0 0) true [X', Y]) (W ++ way.map toM) sp) := by
  have t0 : false.toNat = 0 := rfl
  have hlen := ho.len
  intro d
  induction d with
  | zero =>
    intro r l W n hd h0 h1 hS ht hl hu hW hn
    have : r = 0 := by omega
    subst this
    rw [(treeT_nil_iff hm h0 h1 hu).1 rfl]
    exact .inl ⟨[], n, .done 0 [], by omega, by rw [List.map_nil, List.append_nil]⟩
  | succ d ih =>
    intro r l W n hd h0 h1 hS ht hl hu hW hn
    by_cases hle : l = []
    · subst hle
      have := (treeT_nil_iff hm h0 h1 hu).2 rfl
      subst this
      exact .inl ⟨[], n, .done 0 [], by omega, by rw [List.map_nil, List.append_nil]⟩
    obtain ⟨L, p, R, a, b, rfl, N⟩ := node_at hm h0 h1 hle hS ht hu
    have hr := N.r1
    obtain ⟨s1, s2, s3, s4, _⟩ := srt_three N.srt
    have a0 := N.a0
    have a1 := N.a1
    have b0 := N.b0
    have b1 := N.b1
    have hml := mid_len L R p
    have hwl : ∀ x : StepM, (W ++ [x]).length = W.length + 1 := fun x => by rw [List.length_append]; rfl
    have hcl : ∀ (x : StepV) (way : List StepV), (x :: way).length = way.length + 1 := fun x way => rfl
    have tL : ∀ q ∈ L, okT q := fun q hq => ht q (List.mem_append_left _ hq)
    have tR : ∀ q ∈ R, okT q := fun q hq => ht q (List.mem_append_right _ (List.mem_cons_of_mem _ hq))
    rw [step n r noM false _ W [] (by omega) hr h1, mfeed_way hkey (by omega) noM [noArm 0, noArm 0] W [] (by omega) N.kind N.kids (N.sz hl), N.key]
    by_cases c0 : key = p.1
    · rw [if_pos c0]
      have hQ : ∃ w : Int, merge_Merge_next (mgO key 0 (stM r (getN h r) 0 0) true [noArm a, noArm b]) W [] = some (w, (mgO key 0 (stM r (getN h r) 0 0) true [noArm a, noArm b], (W, ([], ())))) ∧ w = (if a = 0 ∨ b = 0 then 0 else if false = true then b else a) := by
        by_cases hz : a = 0 ∨ b = 0
        · exact ⟨0, nx_zero _ _ _ _ _ _ _ _ hz, by rw [if_pos hz]⟩
        · exact ⟨a, nx_a _ _ _ _ _ _ _ _ (fun q => hz (.inl q)) (fun q => hz (.inr q)) rfl, by rw [if_neg hz, if_neg (by simp)]⟩
      obtain ⟨w, e1, e2⟩ := hQ
      rw [e1, fedM_some, bnd_some]
      obtain ⟨sp, rest, X', Y, n', ws, hrs, hn1, hn2, hrun⟩ := feed_arms hm step (stM r (getN h r) 0 0) (2 * (a.toNat + b.toNat) + 1 + 1) a b L R false false W [] (n + 1) (by rw [if_neg (by simp)]; omega) (by simp) ⟨a0, by omega, N.left⟩ ⟨b0, by omega, N.right⟩ s1 s2 tL tR (by omega) (by omega) (by show 0 + _ + _ ≤ _; omega) (fun z => by cases z) (fun z => by cases z) (by omega)
      rw [← e2] at hrun
      exact .inr ⟨[], r, p, L, R, a, b, sp, rest, X', Y, n', .done r _, N, c0.symm, ws, hrs, hn1, by show n + 0 + 1 + _ ≤ _; omega, by rw [List.map_nil, List.append_nil]; exact hrun⟩
    rw [if_neg c0]
    by_cases c1 : lt key p.1 = true
    · rw [if_pos c1, bnd_some]
      rcases ih a L (W ++ [stM r (getN h r) 0 ((getN h r).2.2.2.2.2.2.2.1 - 1)]) (n + 1) (by omega) a0 (by omega) s1 tL (by omega) N.left (by rw [hwl]; omega) (by omega) with ⟨way, n', w, hn1, e⟩ | ⟨way, e', p', L', R', a', b', sp, rest, X', Y, n', w, N', hp, ws, hrs, hn1, hn2, e⟩
      · exact .inl ⟨_ :: way, n', .left N c1 w, hn1, e.trans (by rw [List.append_assoc]; rfl)⟩
      · exact .inr ⟨_ :: way, e', p', L', R', a', b', sp, rest, X', Y, n', .left N c1 w, N', hp, ws, hrs, hn1, by rw [hcl]; omega, e.trans (by rw [List.append_assoc]; rfl)⟩
    · have c2 : lt p.1 key = true := by
        rcases tri key p.1 with ⟨q, _⟩ | ⟨q, _⟩ | ⟨q, _⟩
        · exact absurd q c1
        · exact absurd q c0
        · exact q
      rw [if_neg c1, bnd_some]
      rcases ih b R (W ++ [stM r (getN h r) 1 ((getN h r).2.2.2.2.2.2.2.1 - 1)]) (n + 1) (by omega) b0 (by omega) s2 tR (by omega) N.right (by rw [hwl]; omega) (by omega) with ⟨way, n', w, hn1, e⟩ | ⟨way, e', p', L', R', a', b', sp, rest, X', Y, n', w, N', hp, ws, hrs, hn1, hn2, e⟩
      · exact .inl ⟨_ :: way, n', .right N c2 w, hn1, e.trans (by rw [List.append_assoc]; rfl)⟩
      · exact .inr ⟨_ :: way, e', p', L', R', a', b', sp, rest, X', Y, n', .right N c2 w, N', hp, ws, hrs, hn1, by rw [hcl]; omega, e.trans (by rw [List.append_assoc]; rfl)⟩
/-! ### What it makes old -/
theorem Part.upM {h : List NodeV} {r0 : Int} {E : Int → Prop} {C : ByteArray → Prop} : ∀ (xs : List StepM) (s : PlanS), Part h r0 E C s.1 s.2.1 [s.2.2] → (∀ x ∈ xs, StOK h r0 x.1 x.node ∧ (x.side = 0 ∨ x.side = 1)) → Part h r0 E C (upM xs s).1 (upM xs s).2.1 [(upM xs s).2.2]
  | [], s, Q, _ => Q
  | x :: xs, s, Q, ho => by
    obtain ⟨S, hs⟩ := ho x List.mem_cons_self
    exact Part.upM xs _ (Q.side (roots' := [-(s.1.length : Int) - 1]) S hs _ (List.mem_singleton.2 rfl) (fun z hz => .inr (List.mem_singleton.1 hz)) (List.mem_singleton.2 rfl) (fun z hz => .inl (List.mem_singleton.1 hz))) fun y hy => ho y (List.mem_cons_of_mem _ hy)
theorem SpineT.st {h : List NodeV} (hm : mayH h = true) {r0 : Int} {ra rb : Int} {A B : List PairV} {sp : List StepM} {rest : Int} (w : SpineT h ra A rb B sp rest) : (1 ≤ ra → Bl h r0 ra) → (1 ≤ rb → Bl h r0 rb) → (∀ x ∈ sp, StOK h r0 x.1 x.node) ∧ (1 ≤ rest → Bl h r0 rest) := by
  induction w with
  | doneA rb B => exact fun _ hb => ⟨fun x hx => (by cases hx), hb⟩
  | doneB ra A => exact fun ha _ => ⟨fun x hx => (by cases hx), ha⟩
  | left N N' ha w ih =>
    intro h1 h2
    obtain ⟨S, _, kb⟩ := N.st hm (h1 N.r1)
    obtain ⟨i1, i2⟩ := ih kb h2
    refine ⟨fun x hx => ?_, i2⟩
    rcases List.mem_cons.1 hx with rfl | hx
    · exact S
    · exact i1 x hx
  | right N N' ha w ih =>
    intro h1 h2
    obtain ⟨S, ka, _⟩ := N'.st hm (h2 N'.r1)
    obtain ⟨i1, i2⟩ := ih h1 ka
    refine ⟨fun x hx => ?_, i2⟩
    rcases List.mem_cons.1 hx with rfl | hx
    · exact S
    · exact i1 x hx
theorem SpineT.dist {h : List NodeV} (hm : mayH h = true) {ra rb : Int} {A B : List PairV} {sp : List StepM} {rest : Int} (w : SpineT h ra A rb B sp rest) : Srt (A ++ B) → (0 ≤ ra ∧ ra ≤ h.length ∧ U h ra = treeT A) → (0 ≤ rb ∧ rb ≤ h.length ∧ U h rb = treeT B) → (∀ x ∈ sp, Bl h ra x.1 ∨ Bl h rb x.1) ∧ (sp.map (·.1)).Nodup := by
  induction w with
  | doneA rb B => exact fun _ _ _ => ⟨fun x hx => (by cases hx), List.nodup_nil⟩
  | doneB ra A => exact fun _ _ _ => ⟨fun x hx => (by cases hx), List.nodup_nil⟩
  | @left ra rb p q L R L' R' a b c d sp rest N N' ha w ih =>
    intro hS hA hB
    have e1 : (L ++ p :: R) ++ (L' ++ q :: R') = L ++ p :: (R ++ (L' ++ q :: R')) := by rw [List.append_assoc, List.cons_append]
    have hS1 := hS
    rw [e1] at hS1
    have b1 := N.b1
    have r2 := N.r2
    obtain ⟨i1, i2⟩ := ih (srt_three hS1).2.1 ⟨N.b0, by omega, N.right⟩ hB
    refine ⟨fun x hx => ?_, List.nodup_cons.2 ⟨fun hx => ?_, i2⟩⟩
    · rcases List.mem_cons.1 hx with rfl | hx
      · exact .inl ((N.bel hm).2 (.inl rfl))
      · rcases i1 x hx with h1 | h1
        · exact .inl ((N.bel hm).2 (.inr (.inr h1)))
        · exact .inr h1
    · obtain ⟨y, hy, e⟩ := List.mem_map.1 hx
      have e : y.1 = ra := e
      rcases i1 y hy with h1 | h1
      · have := Bl.in_ hm (by omega) h1
        omega
      · rw [e] at h1
        obtain ⟨z, hz, e2⟩ := (tree_keys hm rb.toNat rb _ (Nat.le_refl _) hB.1 hB.2.1 N'.srt N'.txt hB.2.2).1 ra h1
        have kr : ky h ra = p.1 := N.key
        exact ne_of_lt ((List.pairwise_append.1 hS).2.2 p (by simp) z hz) (kr.symm.trans e2)
  | @right ra rb p q L R L' R' a b c d sp rest N N' ha w ih =>
    intro hS hA hB
    have e1 : (L ++ p :: R) ++ (L' ++ q :: R') = ((L ++ p :: R) ++ L') ++ q :: R' := by simp
    have hS1 := hS
    rw [e1] at hS1
    have a1 := N'.a1
    have r2 := N'.r2
    obtain ⟨i1, i2⟩ := ih (srt_three hS1).1 hA ⟨N'.a0, by omega, N'.left⟩
    refine ⟨fun x hx => ?_, List.nodup_cons.2 ⟨fun hx => ?_, i2⟩⟩
    · rcases List.mem_cons.1 hx with rfl | hx
      · exact .inr ((N'.bel hm).2 (.inl rfl))
      · rcases i1 x hx with h1 | h1
        · exact .inl h1
        · exact .inr ((N'.bel hm).2 (.inr (.inl h1)))
    · obtain ⟨y, hy, e⟩ := List.mem_map.1 hx
      have e : y.1 = rb := e
      rcases i1 y hy with h1 | h1
      · rw [e] at h1
        obtain ⟨z, hz, e2⟩ := (tree_keys hm ra.toNat ra _ (Nat.le_refl _) hA.1 hA.2.1 N.srt N.txt hA.2.2).1 rb h1
        have kr : ky h rb = q.1 := N'.key
        exact ne_of_lt ((List.pairwise_append.1 hS).2.2 z hz q (by simp)) (e2.symm.trans kr)
      · have := Bl.in_ hm (by omega) h1
        omega
end Go.Proofs.YtmopkbmcilolgaaGreat.AI
set_option linter.unusedVariables false
set_option linter.unusedSimpArgs false
namespace Go.Proofs.YtmopkbmcilolgaaGreat.AI
open Go.Abs
def leafN (p : PairV) : NodeV := (1, (p.1, (p.2.1, (0, ([], (0, ([], (1, (0, ())))))))))
theorem leaf_may {p : PairV} (hp : okP p) : mayS (leafN p) = if longP p = true then 6 else 0 := by
  unfold mayS
  rw [if_neg (by show ¬ (1 : Int) < 1; omega), if_neg (by show ¬ (6 : Int) < 1; omega)]
  have hl : longN (leafN p) = longP p := by
    show (longP p || false) = _
    rw [Bool.or_false]
  rw [hl]
  by_cases h : longP p = true
  · rw [if_pos h, if_pos h]
  · rw [if_neg h, if_neg h, if_pos]
    refine ⟨Int.le_refl _, ?_⟩
    rw [if_pos (show (leafN p).1 = 1 ∨ (leafN p).1 = 6 from .inl rfl)]
    exact ⟨rfl, fun q => (by cases q), fun _ => ⟨rfl, rfl⟩, fun _ => rfl, fun _ => rfl⟩
theorem leaf_okN {p : PairV} (hp : okP p) : okN (leafN p) := ⟨hp.1, hp.2, by show (0 : Int) ≤ 0; omega, by show (0 : Int) < 4294967296; omega, by show 0 ≤ _; omega, by show 0 ≤ _; omega, fun q hq => (by cases hq)⟩
end Go.Proofs.YtmopkbmcilolgaaGreat.AI
set_option linter.unusedVariables false
set_option linter.unusedSimpArgs false
namespace Go.Proofs.YtmopkbmcilolgaaGreat.AI
open Go.Abs
noncomputable def depS (l : List PairV) : Nat :=
  if hl : l = [] then 0 else
    have := topI_lt hl
    1 + max (depS (l.take (topI l))) (depS (l.drop (topI l + 1)))
termination_by l.length
decreasing_by
  · rw [List.length_take]; omega
  · rw [List.length_drop]; omega
theorem depS_nil : depS [] = 0 := by rw [depS, dif_pos rfl]
theorem depS_cons {l : List PairV} (hl : l ≠ []) : depS l = 1 + max (depS (l.take (topI l))) (depS (l.drop (topI l + 1))) := by rw [depS, dif_neg hl]
theorem depS_le : ∀ (n : Nat) (l : List PairV), l.length ≤ n → depS l ≤ l.length
  | n, l, hn => by
    by_cases hl : l = []
    · subst hl; rw [depS_nil]; exact Nat.zero_le _
    have ht := topI_lt hl
    cases n with
    | zero => exact absurd (List.eq_nil_of_length_eq_zero (by omega)) hl
    | succ n =>
      have h1 := depS_le n (l.take (topI l)) (by rw [List.length_take]; omega)
      have h2 := depS_le n (l.drop (topI l + 1)) (by rw [List.length_drop]; omega)
      rw [List.length_take] at h1
      rw [List.length_drop] at h2
      rw [depS_cons hl]
      omega
theorem Srt_take {l : List PairV} (h : Srt l) (i : Nat) : Srt (l.take i) := List.Pairwise.sublist (List.take_sublist i l) h
theorem Srt_drop {l : List PairV} (h : Srt l) (i : Nat) : Srt (l.drop i) := List.Pairwise.sublist (List.drop_sublist i l) h
theorem isTree_nodes {l : List PairV} (hb : l.length ≤ 40000000) (hS : Srt l) (hs : ∀ p ∈ l, okT p) : isTreeS (nodesS [] l).1 (nodesS [] l).2 = true := by
  have ht := nodesS_ok _ [] l (Nat.le_refl _) rfl hs
  have hfg : fitH (nodesS [] l).1 (nodesS [] l).2 = true := fitH_iff.2 ⟨⟨ht.r0, ht.r1⟩, ht.may⟩
  unfold isTreeS
  rw [hfg, ht.shp, bindsT_treeT, srt_isS hS, Bool.true_and, Bool.true_and]
  exact eqSh_iff.2 rfl
end Go.Proofs.YtmopkbmcilolgaaGreat.AI
set_option linter.unusedVariables false
set_option linter.unusedSimpArgs false
namespace Go.Proofs.YtmopkbmcilolgaaGreat.AI
open Go.Abs
theorem find_put (p : PairV) (k : ByteArray) : ∀ l : List PairV, (putS l p).find? (fun q => decide (q.1 = k)) = if p.1 = k then some p else l.find? (fun q => decide (q.1 = k))
  | [] => by
    show List.find? _ [p] = _
    rw [List.find?_cons]
    by_cases h : p.1 = k
    · rw [if_pos h, decide_eq_true h]
    · rw [if_neg h, decide_eq_false h]
  | q :: qs => by
    rcases tri q.1 p.1 with ⟨h, _, hne⟩ | ⟨h, _⟩ | ⟨h, _, hne⟩
    · rw [putS_lt h, List.find?_cons, find_put p k qs, List.find?_cons]
      by_cases hq : q.1 = k
      · have hp : ¬ p.1 = k := fun e => hne (hq.trans e.symm)
        rw [decide_eq_true hq]
        show (some q : Option PairV) = if p.1 = k then some p else some q
        rw [if_neg hp]
      · rw [decide_eq_false hq]
    · rw [putS_eq h, List.find?_cons, List.find?_cons]
      by_cases hp : p.1 = k
      · rw [if_pos hp, decide_eq_true hp]
      · rw [if_neg hp, decide_eq_false hp, decide_eq_false (fun e => hp (h.symm.trans e))]
    · rw [putS_gt h, List.find?_cons]
      by_cases hp : p.1 = k
      · rw [if_pos hp, decide_eq_true hp]
      · rw [if_neg hp, decide_eq_false hp]
theorem find_fold (k : ByteArray) : ∀ (l acc : List PairV), (l.foldl putS acc).find? (fun q => decide (q.1 = k)) = (l.reverse.find? (fun q => decide (q.1 = k))).or (acc.find? (fun q => decide (q.1 = k)))
  | [], _ => rfl
  | p :: l, acc => by
    rw [List.foldl_cons, find_fold k l, find_put, List.reverse_cons, List.find?_append, Option.or_assoc]
    congr 1
    rw [List.find?_cons]
    by_cases h : p.1 = k
    · rw [if_pos h, decide_eq_true h]; rfl
    · rw [if_neg h, decide_eq_false h]; rfl
theorem find_make (k : ByteArray) (l : List PairV) : (makeS l).find? (fun q => decide (q.1 = k)) = l.reverse.find? (fun q => decide (q.1 = k)) := by
  have := find_fold k l []
  rw [List.find?_nil, Option.or_none] at this
  exact this
def valF (o : Option PairV) : ByteArray × Bool × Unit := match o with
  | some p => (p.2.1, (true, ()))
  | none => (ByteArray.empty, (false, ()))
theorem subI_nat (n : Nat) (h : n ≤ 1000000000) : subI .i64 (n : Int) 1 = (n : Int) - 1 := subI_d (by omega) (by omega)
theorem rget_loop (l : List PairV) (k : ByteArray) (hl : l.length ≤ 50000000) : ∀ (n : Nat), n ≤ l.length → ref07_Get.l0 l k ((n : Int) - 1) = some (valF ((l.take n).reverse.find? (fun q => decide (q.1 = k)))) := by
  intro n
  induction n with
  | zero =>
    intro h
    rw [ref07_Get.l0.eq, leI_d, br_if, if_neg (by omega), List.take_zero]
    rfl
  | succ n ih =>
    intro h
    have hi : n < l.length := by omega
    rw [show (((n + 1 : Nat) : Int) - 1) = (n : Int) by omega, ref07_Get.l0.eq]
    simp only [leI_d, ltI_d, ofN_d, lenL_d, andB_d, eqS_d, br_if]
    have hin : 0 ≤ (n : Int) ∧ (n : Int) < (l.length : Int) := ⟨by omega, by omega⟩
    rw [if_pos hin.1, if_pos hin, ixP l n hi, if_pos hin, subI_nat n (by omega), ih (by omega), List.take_succ_eq_append_getElem hi, List.reverse_append, List.reverse_singleton]
    show _ = some (valF (List.find? _ (l[n] :: (l.take n).reverse)))
    rw [List.find?_cons]
    by_cases e : l[n].1 = k
    · rw [if_pos e, decide_eq_true e]; rfl
    · rw [if_neg e, decide_eq_false e]
theorem rget_any (l : List PairV) (k : ByteArray) (hl : l.length ≤ 50000000) : ref07_Get l k = some (valF ((makeS l).find? (fun q => decide (q.1 = k)))) := by
  rw [ref07_Get.eq, find_make]
  simp only [ofN_d, lenL_d]
  rw [subI_nat _ (by omega), rget_loop l k hl l.length (Nat.le_refl _), List.take_length]
end Go.Proofs.YtmopkbmcilolgaaGreat.AI
set_option linter.unusedVariables false
set_option linter.unusedSimpArgs false
namespace Go.Proofs.YtmopkbmcilolgaaGreat.AI
open Go.Abs
theorem toM_ok {x : StepV} (o : okSt x) : okM (toM x) := ⟨o.kids, o.side, o.key, o.val⟩
theorem drop_id {k : ByteArray} {l : List PairV} (h : l.find? (fun q => decide (q.1 = k)) = none) : dropS k l = l := dropS_none fun q hq => by
  have := List.find?_eq_none.1 h q hq
  simpa using this
theorem merge_walk {h : List NodeV} (ho : okH h) (hm : mayH h = true) (hlen : h.length ≤ 300) {root : Int} (h0 : 0 ≤ root) (h1 : root ≤ h.length) {l : List PairV} (hS : Srt l) (ht : ∀ p ∈ l, okT p) (hl : l.length ≤ 2000000) (hu : U h root = treeT l) {key : ByteArray} (hkey : key.size ≤ 1000000) :
    ∃ (news : List NodeV) (s : Int), PlanOK h news ∧ Has h news s (treeT (dropS key l)) ∧ news.length ≤ 900 ∧ merge_Run.l0 h root (mgO key root noM false [noArm 0, noArm 0]) [] [] = some (PS h news, (fillQ h.length s, (0, ()))) ∧
      (l.find? (fun q => decide (q.1 = key)) = none → news = [] ∧ s = root) ∧ (l.find? (fun q => decide (q.1 = key)) ≠ none → news.length + 1 ≤ l.length) := by
  have hsame := do_plan ho hm (PlanOK.nil hm) (by show 0 ≤ _; omega) (root := root) (by show -((0 : Nat) : Int) ≤ _; omega) h1 (old := []) (by show 0 ≤ _; omega) (fun r hr => by cases hr)
  rcases mrun_loop ho hm root hkey root.toNat root l [] (Nat.le_refl _) h0 h1 hS ht hl hu (by show 0 + _ ≤ _; omega) with ⟨way, w, e⟩ | ⟨way, e', p, L, R, a, b, sp, rest, X, Y, w, N, hp, ws, hrest, e⟩
  · have hf : l.find? (fun q => decide (q.1 = key)) = none := w.find
    refine ⟨[], root, PlanOK.nil hm, by rw [drop_id hf]; exact hu ▸ Has.heap hm h0 h1, by show 0 ≤ _; omega, ?_, fun _ => ⟨rfl, rfl⟩, fun q => absurd hf q⟩
    rw [e, mend, mplan_none, bnd_some]
    show br (notB false) (bnd (plan_Do h ([], (root, ([], ())))) fun r4 => some r4) _ = _
    rw [show notB false = true from rfl, br_t, hsame, bnd_some]
  · have hfind : l.find? (fun q => decide (q.1 = key)) = some p := by rw [w.find, ← hp]; exact find_mid N.srt
    have hwl := w.refs h0
    obtain ⟨w1, w2, w3, _⟩ := w.ok hl
    have wlen : (way.length : Int) ≤ root := by
      have := N.r1
      omega
    have a0 := N.a0
    have a1 := N.a1
    have b0 := N.b0
    have b1 := N.b1
    have r2 := N.r2
    obtain ⟨s1, s2, s3, s4⟩ := ws.ok a0 b0
    have hml := mid_len L R p
    have hSm : Srt (L ++ R) := by
      have := dropS_srt N.srt p.1
      rwa [drop_here N.srt] at this
    obtain ⟨P1, H1⟩ := spine_put hm ws hSm ⟨a0, by omega, N.left⟩ ⟨b0, by omega, N.right⟩ [e']
    have hdm : dropS key (L ++ p :: R) = L ++ R := by rw [← hp]; exact drop_here N.srt
    rw [← hdm] at H1
    obtain ⟨P2, H2, h3⟩ := up_drop hm w (by rw [hdm, hml, List.length_append]; omega) _ P1 H1
    obtain ⟨u1, u2⟩ := upM_len sp.reverse ([], ([e'], rest))
    obtain ⟨v1, v2⟩ := upM_len (way.map toM).reverse (upM sp.reverse ([], ([e'], rest)))
    rw [List.length_reverse] at u1 u2 v1 v2
    rw [List.length_map] at v1 v2
    dsimp only [List.length_nil, List.length_cons] at u1 u2
    have hold : ∀ r ∈ (upM (way.map toM).reverse (upM sp.reverse ([], ([e'], rest)))).2.1, 1 ≤ r ∧ r ≤ h.length := by
      intro r hr
      rw [upM_old, upM_old] at hr
      rcases List.mem_append.1 hr with hr | hr
      · rcases List.mem_append.1 hr with hr | hr
        · rw [List.mem_singleton.1 hr]
          exact ⟨N.r1, N.r2⟩
        · obtain ⟨x, hx, rfl⟩ := List.mem_map.1 hr
          exact s2 x (List.mem_reverse.1 hx)
      · obtain ⟨x, hx, rfl⟩ := List.mem_map.1 hr
        obtain ⟨y, hy, rfl⟩ := List.mem_map.1 (List.mem_reverse.1 hx)
        exact w2 y hy
    have hps := mplan_some key (stM e' (getN h e') 0 0) X Y (way.map toM) sp (by rw [List.length_map]; omega) (by omega) (fun x hx => by obtain ⟨y, hy, rfl⟩ := List.mem_map.1 hx; exact toM_ok (w1 y hy)) s1
    rw [← hrest] at hps
    have hps : merge_Merge_Plan_v1 (mgO key 0 (stM e' (getN h e') 0 0) true [X, Y]) (way.map toM) sp = some (planM key (way.map toM) (stM e' (getN h e') 0 0) true [X, Y] sp (upM (way.map toM).reverse (upM sp.reverse ([], ([e'], rest)))) true) := hps
    generalize upM (way.map toM).reverse (upM sp.reverse ([], ([e'], rest))) = s at P2 H2 v1 v2 hold hps
    refine ⟨s.1, s.2.2, P2, H2, by omega, ?_, fun q => ?_, fun _ => by omega⟩
    · have hdo := do_plan ho hm P2 (by omega) H2.lo H2.hi (by omega) hold
      rw [e, List.nil_append, mend, hps, bnd_some]
      show br (notB true) _ (bnd (plan_Do h (s.1, (s.2.2, (s.2.1, ())))) fun r5 => some r5) = _
      rw [show notB true = false from rfl, br_f, hdo, bnd_some]
    · rw [hfind] at q; cases q
/-! ### A call, whatever is asked -/
theorem merge_form {h : List NodeV} (ho : okH h) (root : Int) (key : ByteArray) (hb : fitH h root = true → (bindsT (U h root)).length ≤ 40000000) (hn : isTreeS h root = false) : merge_Run h root key = some ([], (0, (4, ()))) := by
  rw [merge_Run.eq, Is_any ho root hb, bnd_some, hn]
  rfl
theorem merge_tree {h : List NodeV} (ho : okH h) (root : Int) (key : ByteArray) (hb : fitH h root = true → (bindsT (U h root)).length ≤ 40000000) (hn : isTreeS h root = true) : merge_Run h root key = merge_Run.l0 h root (mgO key root noM false [noArm 0, noArm 0]) [] [] := by
  rw [merge_Run.eq, Is_any ho root hb, bnd_some, hn, show notB true = false from rfl, br_f, mnew_any, bnd_some]
/-! ### The chapter's example -/
def exA : ByteArray := ByteArray.mk #[97]
def exB : ByteArray := ByteArray.mk #[98]
def exP : PairV := (exA, (ByteArray.mk #[49], ()))
def exN : NodeV := treeN exP 0 0 1
theorem exP_ok : okT exP := ⟨by decide, by decide⟩
theorem exH_ok : okH [exN] ∧ mayH [exN] = true ∧ U [exN] 1 = treeT [exP] ∧ isTreeS [exN] 1 = true := by
  have hS : Srt ([] ++ exP :: ([] : List PairV)) := List.pairwise_singleton _ _
  have hun : Under (([] : List PairV) ++ []) exP.1 := fun q hq => by cases hq
  have hm : mayH ([] ++ [exN]) = true := may_more rfl (treeN_may exP_ok 0 0 1 (by omega)) fun r hr => by
    rw [refsS_all] at hr
    obtain ⟨h1, h2⟩ := List.mem_filter.1 hr
    have h1 : r ∈ [(0 : Int), 0, 0] := h1
    simp only [decide_eq_true_eq] at h2
    simp at h1
    exact absurd h1 h2
  have hm : mayH [exN] = true := hm
  have ho : okH [exN] := ⟨by show 1 ≤ _; omega, fun n hn => by rw [List.mem_singleton.1 hn]; exact treeN_ok exP_ok.ok 0 0 1, kids_rng hm (by show 1 ≤ _; omega)⟩
  have hu : U [exN] 1 = treeT [exP] := by
    have := treeT_mid hS hun
    rw [List.nil_append] at this
    rw [this, U_node hm (by omega) (by show (1 : Int) ≤ ((1 : Nat) : Int); omega)]
    show Shp.node _ [U [exN] 0, U [exN] 0, U [exN] 0] = _
    rw [U_zero, treeT_nil]
    rfl
  refine ⟨ho, hm, hu, isTree_iff2.2 ⟨fitH_iff.2 ⟨⟨by omega, by show (1 : Int) ≤ ((1 : Nat) : Int); omega⟩, hm⟩, ?_, ?_⟩⟩
  · rw [hu, bindsT_treeT]; exact srt_isS hS
  · rw [hu, bindsT_treeT]
theorem ex_run (key : ByteArray) (hkey : key.size ≤ 1000000) : ∃ (news : List NodeV) (s : Int), PlanOK [exN] news ∧ Has [exN] news s (treeT (dropS key [exP])) ∧ merge_Run [exN] 1 key = some (PS [exN] news, (fillQ 1 s, (0, ()))) ∧ (key ≠ exA → news = [] ∧ s = 1) ∧ (key = exA → news.length + 1 ≤ 1) := by
  obtain ⟨ho, hm, hu, hi⟩ := exH_ok
  have hS : Srt [exP] := List.pairwise_singleton _ _
  rw [merge_tree ho 1 key (fun _ => by rw [hu, bindsT_treeT]; show 1 ≤ _; omega) hi]
  obtain ⟨news, s, P, H, _, e, q1, q2⟩ := merge_walk ho hm (by show 1 ≤ _; omega) (root := 1) (by omega) (by show (1 : Int) ≤ ((1 : Nat) : Int); omega) hS (fun p hp => by rw [List.mem_singleton.1 hp]; exact exP_ok) (by show 1 ≤ _; omega) hu hkey
  refine ⟨news, s, P, H, e, fun hk => q1 ?_, fun hk => q2 ?_⟩
  · rw [List.find?_cons, decide_eq_false (show ¬ exP.1 = key from fun q => hk q.symm)]; rfl
  · rw [List.find?_cons, decide_eq_true (show exP.1 = key from hk.symm)]; intro q; cases q
theorem manswer_any (key : ByteArray) (e : StepM) (arms : List ArmV) (W S : List StepM) : merge_Merge_Answer (mgO key 0 e true arms) W S = some ((e.2.2.2.1, (true, ())), (mgO key 0 e true arms, (W, (S, ())))) := by
  rw [merge_Merge_Answer.eq]
  show br (notB (eqI 0 0)) _ (br (notB true) _ (merge_Merge_Answer.j0 false (mgO key 0 e true arms) W S)) = _
  rw [show notB (eqI 0 0) = false from rfl, br_f, show notB true = false from rfl, br_f, merge_Merge_Answer.j0.eq, br_f]
  rfl
theorem ab_ne : exB ≠ exA := by decide
theorem works28 : law28_works = some true := by
  obtain ⟨ho, hm, hu, hi⟩ := exH_ok
  obtain ⟨n1, s1, P1, H1, e1, _, f1⟩ := ex_run exA (by decide)
  obtain ⟨n2, s2, P2, H2, e2, f2, _⟩ := ex_run exB (by decide)
  have hn1 : n1 = [] := List.eq_nil_of_length_eq_zero (by have := f1 rfl; omega)
  obtain ⟨hn2, hs2⟩ := f2 ab_ne
  subst hn1 hn2 hs2
  have hd : dropS exA [exP] = [] := List.filter_cons_of_neg (by show ¬ (decide (exA ≠ exA) = true); simp)
  have hz : fillQ 1 s1 = 0 := by
    have h2 := H1.shp
    rw [hd, treeT_nil, PS_nil] at h2
    have h3 := fill_in H1.lo H1.hi
    rw [PS_nil] at h3
    exact (U_nil hm h3.1 h3.2).1 h2
  rw [hz, PS_nil] at e1
  rw [PS_nil, show fillQ 1 1 = 1 from rfl] at e2
  rw [law28_works.eq, node_Tree.eq, bnd_some]
  show bnd (merge_Run [exN] 1 exA) (fun r1 => bnd (merge_Run [exN] 1 exB) _) = _
  rw [e1, bnd_some, e2, bnd_some]
  show bnd (merge_New 1 exA) _ = _
  rw [mnew_any, bnd_some]
  show br true (bnd (merge_Merge_Feed exN (mgO exA 1 noM false [noArm 0, noArm 0]) [] []) _) none = _
  rw [br_t, mfeed_way (key := exA) (by decide) (by omega) noM _ [] [] (by show 0 ≤ _; omega) (n := exN) rfl (a := 0) (b := 0) rfl ⟨by show (0 : Int) ≤ 1; omega, by show (1 : Int) ≤ 2000000; omega⟩, if_pos (show exA = exN.2.1 from rfl), nx_zero _ _ _ _ _ _ _ _ (.inl rfl), fedM_some, bnd_some]
  show bnd (merge_Merge_Answer (mgO exA 0 (stM 1 exN 0 0) true [noArm 0, noArm 0]) [] []) _ = _
  rw [manswer_any, bnd_some]
  show bnd (merge_Merge_Plan_v1 (mgO exA 0 (stM 1 exN 0 0) true [noArm 0, noArm 0]) [] []) _ = _
  rw [mplan_some exA _ _ _ [] [] (by show 0 ≤ _; omega) (by show 0 ≤ _; omega) (fun x hx => (by cases hx)) (fun x hx => (by cases hx)), bnd_some]
  show br true (br true (br true (br true (br true (br true (br (eqS (ByteArray.mk #[49]) (ByteArray.mk #[49])) (br true (br true (some true) (some false)) (some false)) (some false)) (some false)) (some false)) (some false)) (some false)) (some false)) (some false) = some true
  rw [eqS_d, decide_eq_true rfl]
  simp only [br_t]
/-! ### What its statements begin with -/
/-- The bindings that a statement of the chapter begins with. -/
def madeL (l : List PairV) : List PairV := fewL (l.take 16)
theorem madeL_ok (l : List PairV) : (madeL l).length ≤ 16 ∧ ∀ p ∈ madeL l, okP p := by
  refine ⟨?_, fewL_ok _⟩
  unfold madeL fewL
  rw [List.length_map]
  have : (List.take 40 (List.take 16 l)).length ≤ 16 := by rw [List.length_take, List.length_take]; omega
  omega
theorem take16 (l : List PairV) (h : l.length ≤ 9223372036854775807) : andB (leI 0 0) (andB (leI 0 (minI (ofN (lenL tapiPair l)) 16)) (leI (minI (ofN (lenL tapiPair l)) 16) (ofN (lenL tapiPair l)))) = true ∧ subL tapiPair l (toN 0) (toN (minI (ofN (lenL tapiPair l)) 16)) = l.take 16 := by
  have em : minI (ofN (lenL tapiPair l)) 16 = ((min l.length 16 : Nat) : Int) := by
    simp only [minI_d, ofN_d, lenL_d]
    omega
  rw [em]
  refine ⟨?_, ?_⟩
  · simp only [leI_d, andB_d, ofN_d, lenL_d]
    exact decide_eq_true (by omega)
  · rw [subL_pre]
    by_cases q : l.length ≤ 16
    · rw [Nat.min_eq_left q, List.take_length, List.take_of_length_le q]
    · rw [Nat.min_eq_right (by omega)]
theorem made28 {l : List PairV} (h : l.length ≤ 9223372036854775807) : law28_made l = some (if longAny (madeL l) = true then ([], ([], ((0 : Int), (false, ())))) else (makeS (madeL l), ((nodesS [] (makeS (madeL l))).1, ((nodesS [] (makeS (madeL l))).2, (true, ()))))) := by
  obtain ⟨h1, h2⟩ := madeL_ok l
  obtain ⟨t1, t2⟩ := take16 l h
  rw [law28_made.eq, t1, br_t, t2, few_any (l.take 16) (by rw [List.length_take]; omega), bnd_some]
  show bnd (ref20_Long (madeL l)) _ = _
  rw [Long_any _ (by omega) h2, bnd_some]
  cases longAny (madeL l) with
  | true => rw [br_t, if_pos rfl]
  | false =>
    rw [br_f, if_neg (by simp)]
    show bnd (ref25_Make (madeL l)) _ = _
    rw [refMake_any _ (by omega) h2, bnd_some]
    show bnd (ref07_Make (madeL l)) _ = _
    rw [refmake_any _ (by omega) h2, bnd_some]
theorem pre_same (h news : List NodeV) : subL tapiNode (PS h news) (toN 0) (toN (ofN (lenL tapiNode h))) = h := by
  rw [ofN_d, toN_d, show toN 0 = 0 from rfl]
  unfold subL lenL PS
  rw [List.drop_zero, Nat.sub_zero, List.take_left']
  rfl
end Go.Proofs.YtmopkbmcilolgaaGreat.AI
set_option linter.unusedVariables false
set_option linter.unusedSimpArgs false
namespace Go.Proofs.YtmopkbmcilolgaaGreat.AI
open Go.Abs
theorem refref_loop (r : Int) (hr : r < 0) (h : rng r) (to : List Int) (hl : to.length ≤ 1000000) (d : Nat) : ∀ (i : Nat), i ≤ to.length → (i : Int) ≤ -1 - r → to.length - i = d → ref18_Ref.l0 r to i = some (refD to r, ((refR to r).isSome, ())) := by
  unfold rng at h
  have e0 : ¬ 0 ≤ r := by omega
  unfold refD refR
  rw [if_neg e0]
  induction d with
  | zero =>
    intro i hi h1 hd
    rw [ref18_Ref.l0.eq]
    simp only [ltI_d, ofN_d, lenL_d, br_if]
    rw [if_neg (by omega), if_neg (by omega)]
    rfl
  | succ d ih =>
    intro i hi h1 hd
    have hil : i < to.length := by omega
    rw [ref18_Ref.l0.eq, ixR to i hil]
    have es : subI .i64 (-1) (i : Int) = -1 - (i : Int) := subI_d (by omega) (by omega)
    rw [es, add1 i (by omega)]
    simp only [ltI_d, leI_d, eqI_d, ofN_d, lenL_d, andB_d, br_if]
    rw [if_pos (by omega)]
    by_cases q : r = -1 - (i : Int)
    · rw [if_pos q, if_pos (by omega), if_pos (by omega), show (-1 - r).toNat = i by omega, List.getD_eq_getElem?_getD, List.getElem?_eq_getElem hil]
      rfl
    · rw [if_neg q]
      exact ih (i + 1) (by omega) (by omega) (by omega)
theorem refref_any (r : Int) (h : rng r) (to : List Int) (hl : to.length ≤ 1000000) : ref18_Ref r to = some (refD to r, ((refR to r).isSome, ())) := by
  rw [ref18_Ref.eq, leI_d, br_if]
  by_cases h1 : 0 ≤ r
  · rw [if_pos h1]
    unfold refD refR
    rw [if_pos h1]
    rfl
  · rw [if_neg h1]
    unfold rng at h
    exact refref_loop r (by omega) h to hl to.length 0 (by omega) (by omega) (by omega)
theorem reffill_l0 (to : List Int) (hto : to.length ≤ 1000000) (n : NodeV) (hn : okN n) (hr : rngN n) (x4 x6 x7) (d : Nat) : ∀ (i : Nat), i ≤ n.2.2.2.2.1.length → n.2.2.2.2.1.length - i = d →
    ref18_Fill_o.l0 ((n.2.2.2.2.1.take i).all fun k => (refR to k).isSome) i to n x4 (n.1, (n.2.1, (n.2.2.1, (n.2.2.2.1, ((), n.2.2.2.2.2))))) x6 x7 ((n.2.2.2.2.1.take i).map (refD to)) =
    some ((fillS to n, (fillB to n, ())), (to, ())) := by
  have hk := hn.kids
  induction d with
  | zero =>
    intro i hi hd
    have e : i = n.2.2.2.2.1.length := by omega
    subst e
    rw [ref18_Fill_o.l0.eq, refref_any _ hr.2 to hto, bnd_some]
    simp only [ltI_d, ofN_d, lenL_d, br_if]
    rw [if_neg (by omega), List.take_length]
    unfold fillS fillB
    cases ha : n.2.2.2.2.1.all fun k => (refR to k).isSome with
    | false =>
      rw [show notB false = true from rfl, br_t, Bool.and_false, if_neg (by simp)]
      rfl
    | true =>
      rw [show notB true = false from rfl, br_f, Bool.and_true]
      cases hm : (refR to n.2.2.2.2.2.1).isSome with
      | false => rfl
      | true => rfl
  | succ d ih =>
    intro i hi hd
    have hil : i < n.2.2.2.2.1.length := by omega
    have hpl : ((n.2.2.2.2.1.take i).map (refD to)).length = i := by rw [List.length_map, List.length_take]; omega
    rw [ref18_Fill_o.l0.eq, ixR _ i hil, refref_any _ (hr.1 _ (List.getElem_mem hil)) to hto, bnd_some]
    have ih := ih (i + 1) (by omega) (by omega)
    rw [take_all_succ _ i hil, List.take_succ_eq_append_getElem hil, List.map_append] at ih
    simp only [ltI_d, leI_d, ofN_d, lenL_d, andB_d, br_if, fitL_d, appL_d]
    rw [if_pos (by omega), if_pos (by omega), if_pos (by rw [List.length_append, hpl]; show _ + 1 ≤ _; omega), add1 i (by omega)]
    cases ha : (n.2.2.2.2.1.take i).all fun k => (refR to k).isSome with
    | true =>
      rw [ha, Bool.true_and] at ih
      rw [br_t]
      exact ih
    | false =>
      rw [ha, Bool.false_and] at ih
      rw [br_f]
      exact ih
theorem reffill_any (to : List Int) (hto : to.length ≤ 1000000) (n : NodeV) (hn : okN n) (hr : rngN n) : ref18_Fill_o n to = some ((fillS to n, (fillB to n, ())), (to, ())) := by
  rw [ref18_Fill_o.eq]
  have := reffill_l0 to hto n hn hr (0, (ByteArray.empty, (ByteArray.empty, (0, ((), (0, ((), (0, (0, ()))))))))) [] [] n.2.2.2.2.1.length 0 (by omega) (by omega)
  rw [List.take_zero, List.all_nil] at this
  exact this
end Go.Proofs.YtmopkbmcilolgaaGreat.AI
set_option linter.unusedVariables false
set_option linter.unusedSimpArgs false
namespace Go.Proofs.YtmopkbmcilolgaaGreat.AI
open Go.Abs
theorem refmayp_l2 (p : PlanV) (h : okPl p) (d : Nat) : ∀ (i : Nat), i ≤ p.2.2.1.length → p.2.2.1.length - i = d → ref18_May.l2 i p = some ((p.2.2.1.drop i).all (fun r => decide (1 ≤ r)) && decide (-(p.1.length : Int) ≤ p.2.1)) := by
  have hl := h.len
  have hold := h.old
  induction d with
  | zero =>
    intro i hi hd
    rw [ref18_May.l2.eq]
    simp only [ltI_d, leI_d, ofN_d, lenL_d, br_if]
    rw [if_neg (by omega), List.drop_eq_nil_of_le (by omega), List.all_nil, Bool.true_and]
    have : subI .i64 0 (p.1.length : Int) = -(p.1.length : Int) := by rw [subI_d (by omega) (by omega)]; omega
    rw [this]
  | succ d ih =>
    intro i hi hd
    have hil : i < p.2.2.1.length := by omega
    rw [ref18_May.l2.eq, ixR _ i hil]
    simp only [ltI_d, leI_d, ofN_d, lenL_d, andB_d, br_if]
    rw [if_pos (by omega), if_pos (by omega), add1 i (by omega), ih (i + 1) (by omega) (by omega), drop_all _ i hil]
    by_cases h1 : p.2.2.1[i] < 1
    · rw [if_pos h1, decide_eq_false (show ¬ 1 ≤ p.2.2.1[i] by omega), Bool.false_and, Bool.false_and]
    · rw [if_neg h1, decide_eq_true (show 1 ≤ p.2.2.1[i] by omega), Bool.true_and]
theorem refmayp_l1 (p : PlanV) (i : Nat) (hi : i < p.1.length) (hl : p.1.length ≤ 1000) (o : okN p.1[i]) (refs : List Int) (hr : refs.length ≤ 1000000) (d : Nat) : ∀ (k : Nat), k ≤ refs.length → refs.length - k = d →
    ref18_May.l1 i refs k p = if ((refs.drop k).all fun r => decide (-(i : Int) ≤ r)) = true then (if mayS p.1[i] = 0 then ref18_May.l0 (addI .i64 i 1) p else some false) else some false := by
  have es : subI .i64 0 (i : Int) = -(i : Int) := by rw [subI_d (by omega) (by omega)]; omega
  induction d with
  | zero =>
    intro k hk hd
    rw [ref18_May.l1.eq, ixN p.1 i hi, refmay_any _ o, bnd_some]
    simp only [ltI_d, leI_d, eqI_d, notB_d, ofN_d, lenL_d, andB_d, br_if]
    rw [if_neg (by omega), if_pos (by omega), List.drop_eq_nil_of_le (by omega), List.all_nil, if_pos rfl]
    by_cases hm : mayS p.1[i] = 0
    · rw [if_neg (fun q => q hm), if_pos hm]
    · rw [if_pos hm, if_neg hm]
  | succ d ih =>
    intro k hk hd
    have hkl : k < refs.length := by omega
    rw [ref18_May.l1.eq, ixR refs k hkl, es]
    simp only [ltI_d, leI_d, ofN_d, lenL_d, andB_d, br_if]
    rw [if_pos (by omega), if_pos (by omega), add1 k (by omega), ih (k + 1) (by omega) (by omega), drop_all refs k hkl]
    by_cases h1 : refs[k] < -(i : Int)
    · rw [if_pos h1, decide_eq_false (by omega), Bool.false_and, if_neg (by simp)]
    · rw [if_neg h1, decide_eq_true (by omega), Bool.true_and]
theorem refmayp_loop (p : PlanV) (h : okPl p) (d : Nat) : ∀ (i : Nat), i ≤ p.1.length → p.1.length - i = d → ref18_May.l0 i p = some (mayPL i (p.1.drop i) && (p.2.2.1.all (fun r => decide (1 ≤ r)) && decide (-(p.1.length : Int) ≤ p.2.1))) := by
  have hl := h.len
  induction d with
  | zero =>
    intro i hi hd
    rw [ref18_May.l0.eq]
    simp only [ltI_d, ofN_d, lenL_d, br_if]
    have := refmayp_l2 p h p.2.2.1.length 0 (by omega) (by omega)
    rw [show ((0 : Nat) : Int) = 0 from rfl, List.drop_zero] at this
    rw [if_neg (by omega), this, List.drop_eq_nil_of_le (by omega)]
    rfl
  | succ d ih =>
    intro i hi hd
    have hil : i < p.1.length := by omega
    have hm := List.getElem_mem hil
    have o := h.node _ hm
    have hrl := refsS_len p.1[i]
    have hkl := h.few _ hm
    rw [ref18_May.l0.eq, ixN p.1 i hil, refrefs_any _ o, bnd_some]
    simp only [ltI_d, leI_d, ofN_d, lenL_d, andB_d, br_if]
    have := refmayp_l1 p i hil h.len o (refsS p.1[i]) (by omega) (refsS p.1[i]).length 0 (by omega) (by omega)
    rw [show ((0 : Nat) : Int) = 0 from rfl] at this
    rw [if_pos (by omega), if_pos (by omega), this, add1 i (by omega), ih (i + 1) (by omega) (by omega), List.drop_zero, List.drop_eq_getElem_cons hil]
    rw [show mayPL i (p.1[i] :: p.1.drop (i + 1)) = ((decide (mayS p.1[i] = 0) && (refsS p.1[i]).all fun r => decide (-(i : Int) ≤ r)) && mayPL (i + 1) (p.1.drop (i + 1))) from rfl]
    cases (refsS p.1[i]).all fun r => decide (-(i : Int) ≤ r) with
    | true =>
      rw [if_pos rfl, Bool.and_true]
      by_cases hm : mayS p.1[i] = 0
      · rw [if_pos hm, decide_eq_true hm, Bool.true_and]
      · rw [if_neg hm, decide_eq_false hm, Bool.false_and, Bool.false_and]
    | false => rw [if_neg (by simp), Bool.and_false, Bool.false_and, Bool.false_and]
theorem refmayp_any (p : PlanV) (h : okPl p) : ref18_May p = some (mayP p) := by
  rw [ref18_May.eq]
  exact refmayp_loop p h p.1.length 0 (by omega) (by omega)
theorem refdo_l0 (h : List NodeV) (p : PlanV) (hp : okPl p) (d : Nat) : ∀ (i : Nat) (acc : List Int), acc.length ≤ 2000 + 41 * i → i ≤ p.1.length → p.1.length - i = d →
    ref18_Do.l0 h i p acc = ref18_Do.l1 h 0 p (acc ++ refsL (p.1.drop i)) := by
  have hl := hp.len
  induction d with
  | zero =>
    intro i acc ha hi hd
    rw [ref18_Do.l0.eq]
    simp only [ltI_d, ofN_d, lenL_d, br_if]
    rw [if_neg (by omega), List.drop_eq_nil_of_le (by omega)]
    rw [show refsL [] = [] from rfl, List.append_nil]
  | succ d ih =>
    intro i acc ha hi hd
    have hil : i < p.1.length := by omega
    have o := hp.node _ (List.getElem_mem hil)
    have hrl := refsS_len p.1[i]
    have hkl := hp.few _ (List.getElem_mem hil)
    have hal : (acc ++ refsS p.1[i]).length ≤ 2000 + 41 * (i + 1) := by rw [List.length_append]; omega
    rw [ref18_Do.l0.eq, ixN p.1 i hil, refrefs_any _ o, bnd_some]
    simp only [ltI_d, leI_d, ofN_d, lenL_d, andB_d, br_if, fitL_d, appL_d]
    rw [if_pos (by omega), if_pos (by omega), if_pos (by omega), add1 i (by omega), ih (i + 1) _ hal (by omega) (by omega), List.drop_eq_getElem_cons hil]
    unfold refsL
    rw [List.flatMap_cons, List.append_assoc]
theorem refdo_l1 (h : List NodeV) (hh : h.length ≤ 40000000) (p : PlanV) (l : List Int) (hl : l.length ≤ 1000000) (d : Nat) : ∀ (i : Nat), i ≤ l.length → l.length - i = d →
    ref18_Do.l1 h i p l = if fitsL h (l.drop i) = true then ref18_Do.l2 0 p h [] else some ([], (0, (false, ()))) := by
  induction d with
  | zero =>
    intro i hi hd
    rw [ref18_Do.l1.eq]
    simp only [ltI_d, ofN_d, lenL_d, br_if, fitL_d, appL_d, List.nil_append]
    rw [if_neg (by omega), if_pos (by omega), List.drop_eq_nil_of_le (by omega)]
    rfl
  | succ d ih =>
    intro i hi hd
    have hil : i < l.length := by omega
    rw [ref18_Do.l1.eq, ixR l i hil]
    simp only [ltI_d, leI_d, ofN_d, lenL_d, andB_d, br_if]
    have e : fitsL h (l.drop i) = (decide (l[i] ≤ (h.length : Int)) && fitsL h (l.drop (i + 1))) := drop_all l i hil
    rw [if_pos (by omega), if_pos (by omega), add1 i (by omega), ih (i + 1) (by omega) (by omega), e]
    by_cases h1 : (h.length : Int) < l[i]
    · rw [if_pos h1, decide_eq_false (by omega), Bool.false_and, if_neg (by simp)]
    · rw [if_neg h1, decide_eq_true (by omega), Bool.true_and]
theorem refdo_l2 (p : PlanV) (hp : okPl p) (d : Nat) : ∀ (i : Nat) (out : List NodeV) (to : List Int), out.length ≤ 40000000 + i → to.length = i → i ≤ p.1.length → p.1.length - i = d →
    ref18_Do.l2 i p out to = some ((doL out to (p.1.drop i)).1, (refD (doL out to (p.1.drop i)).2 p.2.1, (true, ()))) := by
  have hl := hp.len
  induction d with
  | zero =>
    intro i out to h1 h2 hi hd
    rw [ref18_Do.l2.eq]
    simp only [ltI_d, ofN_d, lenL_d, br_if]
    rw [if_neg (by omega), refref_any _ hp.root to (by omega), bnd_some, List.drop_eq_nil_of_le (by omega)]
    rfl
  | succ d ih =>
    intro i out to h1 h2 hi hd
    have hil : i < p.1.length := by omega
    have hm := List.getElem_mem hil
    have o1 : (out ++ [fillS to p.1[i]]).length = out.length + 1 := by rw [List.length_append]; rfl
    have o2 : (to ++ [((out.length + 1 : Nat) : Int)]).length = to.length + 1 := by rw [List.length_append]; rfl
    rw [ref18_Do.l2.eq, ixN p.1 i hil, reffill_any to (by omega) _ (hp.node _ hm) (hp.rngs _ hm), bnd_some]
    simp only [ltI_d, leI_d, ofN_d, lenL_d, andB_d, br_if, fitL_d, appL_d]
    rw [o1, o2, if_pos (by omega), if_pos (by omega), if_pos (by omega), if_pos (by omega), add1 i (by omega), ih (i + 1) _ _ (by omega) (by omega) (by omega) (by omega), List.drop_eq_getElem_cons hil]
    rfl
theorem refdo_any (h : List NodeV) (hh : okH h) (p : PlanV) (hp : okPl p) : ref18_Do h p = some (if (mayP p && (mayH h && fitsP h p)) = true then ((doS h p).1, (refD (doS h p).2 p.2.1, (true, ()))) else ([], (0, (false, ())))) := by
  have hl := hh.len
  have hold := hp.old
  have hal : ([p.2.1] ++ p.2.2.1).length ≤ 2000 := by rw [List.length_append]; show 1 + _ ≤ _; omega
  have hrl := refsL_len p.1 hp.few
  have hpl := hp.len
  rw [ref18_Do.eq, refmayp_any p hp, bnd_some, refmayh_any h hh, bnd_some]
  cases h1 : mayP p with
  | false => rw [show notB false = true from rfl, br_t, Bool.false_and, if_neg (by simp)]
  | true =>
    rw [show notB true = false from rfl, br_f, Bool.true_and]
    cases h2 : mayH h with
    | false => rw [show notB false = true from rfl, br_t, Bool.false_and, if_neg (by simp)]
    | true =>
      rw [show notB true = false from rfl, br_f, Bool.true_and]
      simp only [fitL_d, appL_d, br_if]
      have e0 := refdo_l0 h p hp p.1.length 0 ([p.2.1] ++ p.2.2.1) (by omega) (by omega) (by omega)
      have e1 := refdo_l1 h hl p (([p.2.1] ++ p.2.2.1) ++ refsL p.1) (by rw [List.length_append]; omega) _ 0 (by omega) rfl
      have e2 := refdo_l2 p hp p.1.length 0 h [] (by omega) rfl (by omega) (by omega)
      rw [show ((0 : Nat) : Int) = 0 from rfl] at e0 e1 e2
      rw [List.drop_zero] at e0 e1 e2
      rw [if_pos (by show ([p.2.1] ++ p.2.2.1).length ≤ _; omega)]
      refine e0.trans (e1.trans ?_)
      have ef : fitsL h (([p.2.1] ++ p.2.2.1) ++ refsL p.1) = fitsP h p := by
        unfold fitsP fitsL
        rw [List.all_append, List.all_append, List.all_append, List.all_append]
        rw [Bool.and_comm ([p.2.1].all _)]
      rw [ef]
      cases fitsP h p with
      | false => rw [if_neg (by simp), if_neg (by simp)]
      | true => rw [if_pos rfl, if_pos rfl]; exact e2
end Go.Proofs.YtmopkbmcilolgaaGreat.AI
set_option linter.unusedVariables false
set_option linter.unusedSimpArgs false
namespace Go.Proofs.YtmopkbmcilolgaaGreat.AI
open Go.Abs
theorem refdo_plan {h news : List NodeV} (ho : okH h) (hm : mayH h = true) (P : PlanOK h news) (hn : news.length ≤ 1000) {root : Int} (lo : -(news.length : Int) ≤ root) (hi : root ≤ h.length) {old : List Int} (hol : old.length ≤ 1000) (hold : ∀ r ∈ old, 1 ≤ r ∧ r ≤ h.length) :
    ref18_Do h (news, (root, (old, ()))) = some (PS h news, (fillQ h.length root, (true, ()))) := by
  obtain ⟨ok, c, hd, hroot⟩ := do_pre ho hm P hn lo hi hol hold
  rw [refdo_any h ho _ ok, if_pos c, hd, hroot]
end Go.Proofs.YtmopkbmcilolgaaGreat.AI
set_option linter.unusedVariables false
set_option linter.unusedSimpArgs false
namespace Go.Proofs.YtmopkbmcilolgaaGreat.AI
open Go.Abs
theorem refbinds_any (n : NodeV) : ref13_Binds n = some (bindsS n) := by
  rw [ref13_Binds.eq]
  unfold bindsS
  simp only [eqI_d, br_if]
  by_cases h1 : n.1 = 1
  · rw [if_pos h1, if_pos (.inl h1)]
  by_cases h4 : n.1 = 4
  · rw [if_neg h1, if_pos h4, if_pos (.inr (.inl h4))]
  by_cases h6 : n.1 = 6
  · rw [if_neg h1, if_neg h4, if_pos h6, if_pos (.inr (.inr h6))]
  rw [if_neg h1, if_neg h4, if_neg h6, if_neg (show ¬ (n.1 = 1 ∨ n.1 = 4 ∨ n.1 = 6) by omega)]
  by_cases h3 : n.1 = 3
  · rw [if_pos h3, if_pos h3]
  · rw [if_neg h3, if_neg h3]
end Go.Proofs.YtmopkbmcilolgaaGreat.AI
set_option linter.unusedVariables false
set_option linter.unusedSimpArgs false
namespace Go.Proofs.YtmopkbmcilolgaaGreat.AI
open Go.Abs
theorem refhbinds_loop {h : List NodeV} (ho : okH h) (refs : List Int) (hr : refs.length ≤ 50000000) (hb : ∀ x ∈ refs, ref17_Binds h x = some (bindsT (U h x))) (d : Nat) : ∀ (i : Nat) (acc : List PairV), i ≤ refs.length → refs.length - i = d →
    (acc ++ ((refs.drop i).map fun x => bindsT (U h x)).flatten).length ≤ 1000000000 → ref17_Binds.l0 h refs i acc = some (acc ++ ((refs.drop i).map fun x => bindsT (U h x)).flatten) := by
  induction d with
  | zero =>
    intro i acc h1 h2 h3
    rw [ref17_Binds.l0.eq]
    simp only [ltI_d, ofN_d, lenL_d, br_if]
    rw [if_neg (by omega), List.drop_eq_nil_of_le (by omega)]
    simp
  | succ d ih =>
    intro i acc h1 h2 h3
    have hi : i < refs.length := by omega
    rw [List.drop_eq_getElem_cons hi, List.map_cons, List.flatten_cons, ← List.append_assoc] at h3
    rw [ref17_Binds.l0.eq]
    simp only [ltI_d, leI_d, ofN_d, lenL_d, andB_d, br_if]
    rw [if_pos (by omega), if_pos (by omega), ixR refs i hi, hb _ (List.getElem_mem hi), bnd_some]
    simp only [fitL_d, appL_d, br_if]
    rw [if_pos (by rw [List.length_append] at h3; omega), add1 i (by omega), ih (i + 1) _ (by omega) (by omega) h3, List.drop_eq_getElem_cons hi, List.map_cons, List.flatten_cons, List.append_assoc]
theorem refhbinds_any {h : List NodeV} (ho : okH h) (hm : mayH h = true) : ∀ (n : Nat) (r : Int), 0 ≤ r → r ≤ n → r ≤ h.length → (bindsT (U h r)).length ≤ 1000000000 → ref17_Binds h r = some (bindsT (U h r)) := by
  have hlen := ho.len
  intro n
  induction n with
  | zero =>
    intro r h0 h1 h2 h3
    have : r = 0 := by omega
    subst this
    rw [ref17_Binds.eq, eqI_d, br_if, if_pos rfl, U_zero, bindsT_nil]
  | succ n ih =>
    intro r h0 h1 h2 h3
    by_cases e : r = 0
    · subst e
      rw [ref17_Binds.eq, eqI_d, br_if, if_pos rfl, U_zero, bindsT_nil]
    have hr1 : 1 ≤ r := by omega
    have o := ho.node _ (getN_mem h r hr1 h2)
    rw [ref17_Binds.eq, eqI_d, br_if, if_neg e, inG h r hr1 h2 (by omega), br_t, ixG h r hr1 h2 (by omega), eqI_d, br_if]
    by_cases h4 : (getN h r).1 = 4
    · obtain ⟨a, b, k1, k2, k3, k4, k5⟩ := bindsU_tree hm hr1 h2 h4
      rw [k5, List.length_append, List.length_append] at h3
      rw [if_pos h4, (in01 _ a b k1).1, br_t, (in01 _ a b k1).2, (ix0 _ a b k1).1, (ix0 _ a b k1).2, ih a (by omega) (by omega) (by omega) (by omega), bnd_some]
      simp only [fitL_d, appL_d, br_if, List.nil_append]
      rw [if_pos (by omega), refbinds_any, bnd_some]
      try simp only [fitL_d, appL_d, br_if]
      rw [if_pos (by rw [List.length_append]; omega), br_t, ih b (by omega) (by omega) (by omega) (by omega), bnd_some]
      try simp only [fitL_d, appL_d, br_if]
      rw [if_pos (by rw [List.length_append, List.length_append]; omega), k5]
    · have k5 := bindsU_refs hm hr1 h2 h4
      have hrl := refsS_len (getN h r)
      have hkl := o.kids
      rw [k5] at h3
      have hx := (may_node hm hr1 h2).2
      have hb : ∀ x ∈ refsS (getN h r), ref17_Binds h x = some (bindsT (U h x)) := by
        intro x hx'
        have hq := hx'
        rw [refsS_all] at hq
        have := hx x (List.mem_filter.1 hq).1
        refine ih x (by omega) (by omega) (by omega) ?_
        have := flat_sub (List.mem_map.2 ⟨x, hx', rfl⟩ : bindsT (U h x) ∈ (refsS (getN h r)).map fun x => bindsT (U h x))
        rw [List.length_append] at h3
        omega
      rw [if_neg h4, refbinds_any, bnd_some]
      simp only [fitL_d, appL_d, br_if, List.nil_append]
      rw [if_pos (by rw [List.length_append] at h3; omega), refrefs_any _ o, bnd_some]
      have := refhbinds_loop ho (refsS (getN h r)) (by omega) hb (refsS (getN h r)).length 0 (bindsS (getN h r)) (by omega) (by omega) (by rw [List.drop_zero]; exact h3)
      rw [List.drop_zero, show ((0 : Nat) : Int) = 0 from rfl] at this
      rw [k5]
      exact this
end Go.Proofs.YtmopkbmcilolgaaGreat.AI
set_option linter.unusedVariables false
set_option linter.unusedSimpArgs false
namespace Go.Proofs.YtmopkbmcilolgaaGreat.AI
open Go.Abs
theorem refIs_any {h : List NodeV} (ho : okH h) (r : Int) (hb : fitH h r = true → (bindsT (U h r)).length ≤ 40000000) : ref25_Is h r = some (isTreeS h r) := by
  rw [ref25_Is.eq, fits_any h ho, bnd_some]
  unfold isTreeS
  cases hf : fitH h r with
  | false => rw [show notB false = true from rfl, br_t, Bool.false_and]
  | true =>
    obtain ⟨⟨a, b⟩, c⟩ := fitH_iff.1 hf
    have hl := hb hf
    have hs := binds_short c r.toNat r a (by omega) b
    have hm := makeS_len (bindsT (U h r))
    have hs' : ∀ p ∈ makeS (bindsT (U h r)), okT p := fun p hp => hs p (makeS_mem hp)
    have ht := nodesS_ok _ [] (makeS (bindsT (U h r))) (Nat.le_refl _) rfl hs'
    have hg := nodes_okH (by omega) hs'
    have hfg : fitH (nodesS [] (makeS (bindsT (U h r)))).1 (nodesS [] (makeS (bindsT (U h r)))).2 = true := fitH_iff.2 ⟨⟨ht.r0, ht.r1⟩, ht.may⟩
    rw [show notB true = false from rfl, br_f, Bool.true_and, refhbinds_any ho c r.toNat r a (by omega) b (by omega), bnd_some, refMake_any _ hl (fun p hp => (hs p hp).ok), bnd_some, refSame_any _ _ ho hg, bnd_some, hf, hfg, Bool.true_and, Bool.true_and, ht.shp, isTree_make _ _ rfl]
end Go.Proofs.YtmopkbmcilolgaaGreat.AI
set_option linter.unusedVariables false
set_option linter.unusedSimpArgs false
namespace Go.Proofs.YtmopkbmcilolgaaGreat.AI
open Go.Abs
theorem manswer_early (key : ByteArray) {r : Int} (hr : r ≠ 0) (e : StepM) (found : Bool) (arms : List ArmV) (W S : List StepM) : merge_Merge_Answer (mgO key r e found arms) W S = some ((ByteArray.empty, (false, ())), (mgO key r e found arms, (W, (S, ())))) := by
  rw [merge_Merge_Answer.eq]
  show br (notB (eqI r 0)) (merge_Merge_Answer.j0 true (mgO key r e found arms) W S) _ = _
  rw [eqI_d, decide_eq_false hr, show notB false = true from rfl, br_t, merge_Merge_Answer.j0.eq, br_t]
theorem manswer_none (key : ByteArray) (e : StepM) (arms : List ArmV) (W S : List StepM) : merge_Merge_Answer (mgO key 0 e false arms) W S = some ((ByteArray.empty, (false, ())), (mgO key 0 e false arms, (W, (S, ())))) := by
  rw [merge_Merge_Answer.eq]
  show br (notB (eqI 0 0)) _ (br (notB false) (merge_Merge_Answer.j0 true (mgO key 0 e false arms) W S) _) = _
  rw [show notB (eqI 0 0) = false from rfl, br_f, show notB false = true from rfl, br_t, merge_Merge_Answer.j0.eq, br_t]
theorem mplan_early (key : ByteArray) {r : Int} (hr : r ≠ 0) (e : StepM) (found : Bool) (arms : List ArmV) (W S : List StepM) : merge_Merge_Plan (mgO key r e found arms) W S = some ((((), ((0 : Int), ((), ()))), (false, ())), (mgO key r e found arms, (W, (S, ([], ([], ())))))) := by
  rw [merge_Merge_Plan.eq]
  show bnd (merge_Merge_Answer (mgO key r e found arms) W S) _ = _
  rw [manswer_early key hr, bnd_some]
  rfl
noncomputable def loopM (l : List PairV) (key : ByteArray) (h : List NodeV) (root : Int) (n : Nat) (x : MergeO) (W S : List StepM) : Option Bool := law28_MergeOld.l0 l key h root (n : Int) x W S
theorem loop_steps {h : List NodeV} (hl : h.length ≤ 40000000) (l : List PairV) (key : ByteArray) (root : Int) : Steps h key (loopM l key h root) := by
  intro n r e found arms W S hn hr h1
  unfold loopM
  rw [law28_MergeOld.l0.eq]
  show bnd (merge_Merge_Want (mgO key r e found arms) W S) _ = _
  rw [mwant_any, bnd_some]
  dsimp only
  rw [eqI_d, decide_eq_false (show ¬ r = 0 by omega), show notB false = true from rfl, br_t]
  show bnd (merge_Merge_Want (mgO key r e found arms) W S) _ = _
  rw [mwant_any, bnd_some]
  dsimp only
  show bnd (merge_Merge_Plan (mgO key r e found arms) W S) _ = _
  rw [mplan_early key (by omega), bnd_some]
  dsimp only
  simp only [ltI_d, ofN_d, lenL_d]
  rw [decide_eq_false (show ¬ r < 1 by omega), br_f, decide_eq_false (show ¬ (h.length : Int) < r by omega), br_f, decide_eq_false (show ¬ (h.length : Int) < (n : Int) by omega), br_f, law28_MergeOld.j1.eq, br_f, inG h r hr h1 (by omega), br_t, ixG h r hr h1 (by omega), add1 n (by omega)]
theorem mfeed_o (n : NodeV) : merge_Merge_Feed_o n = some () := by
  rw [merge_Merge_Feed_o.eq, merge_Merge_Want_o.eq, bnd_some]
  rfl
theorem mplan_o : merge_Merge_Plan_o = some (([], ((0 : Int), ([], ()))), (false, ())) := by
  rw [merge_Merge_Plan_o.eq, merge_Merge_Answer_o_v1.eq, merge_Merge_Answer_o_v1.j0.eq, br_t, bnd_some]
  rfl
theorem fresh28 (h k : List NodeV) (t : Int) (l : List Int) (hl : l.length ≤ 50000000) (pl : PlanV) (d : Nat) : ∀ i n : Nat, i ≤ l.length → l.length - i = d → n ≤ i →
    law28_MergeOld.l3 h k t l (n : Int) (i : Int) pl = br (eqI ((n + ((l.drop i).filter fun x => decide ((h.length : Int) < x)).length : Nat) : Int) (ofN (lenL tapiNode pl.1))) (bnd (ref25_Is k t) fun r0 => some r0) (some false) := by
  induction d with
  | zero =>
    intro i n hi hd hn
    rw [law28_MergeOld.l3.eq]
    simp only [ltI_d, ofN_d, lenL_d]
    rw [decide_eq_false (by omega), br_f, List.drop_eq_nil_of_le (by omega)]
    rfl
  | succ d ih =>
    intro i n hi hd hn
    have hil : i < l.length := by omega
    rw [law28_MergeOld.l3.eq, ixR l i hil, add1 i (by omega), add1 n (by omega), List.drop_eq_getElem_cons hil]
    simp only [ltI_d, leI_d, andB_d, ofN_d, lenL_d]
    rw [decide_eq_true (show (i : Int) < (l.length : Int) by omega), br_t, decide_eq_true (show (0 : Int) ≤ (i : Int) ∧ (i : Int) < (l.length : Int) by omega), br_t, br_if]
    by_cases q : (h.length : Int) < l[i]
    · rw [if_pos q, ih (i + 1) (n + 1) (by omega) (by omega) (by omega), List.filter_cons_of_pos (by simpa using q), List.length_cons, show n + 1 + ((l.drop (i + 1)).filter fun x => decide ((h.length : Int) < x)).length = n + (((l.drop (i + 1)).filter fun x => decide ((h.length : Int) < x)).length + 1) by omega]
      rfl
    · rw [if_neg q, ih (i + 1) n (by omega) (by omega) (by omega), List.filter_cons_of_neg (by simpa using q)]
      rfl
theorem mold_end {H news : List NodeV} {R : Int} {E : Int → Prop} {C : ByteArray → Prop} {old : List Int} {s : Int} (Q : Part H R E C news old [s]) (ho : okH H) (hm : mayH H = true) {l l' : List PairV} (h0 : 0 ≤ R) (hr0 : R ≤ H.length) (P : PlanOK H news) (Hs : Has H news s (treeT l')) (hH : H.length ≤ 100) (hS : Srt l) (hT : ∀ p ∈ l, okT p) (hu : U H R = treeT l) (hS' : Srt l') (hT' : ∀ p ∈ l', okT p) (hl' : l'.length ≤ 1000)
    (hbel : ∀ x ∈ old, Bl H R x) (hnd : old.Nodup) (hE : ∀ x, E x → ∀ q ∈ l', q.1 ≠ ky H x) (hC : ∀ k, C k → ∀ q ∈ l, q.1 ≠ k) (hstay : ∀ q ∈ l, (∃ z ∈ l', z.1 = q.1) ∨ ∃ x ∈ old, ky H x = q.1) {n : Nat} (hn : n ≤ 900) (hnn : news.length < n) (hol : old.length ≤ 1000) :
    law28_MergeOld.j2 H R (n : Int) true false ((), (s, ((), ()))) news old = some true := by
  obtain ⟨g1, g2, g3, g4⟩ := tree_plan ho P Hs (by omega) hS'
  obtain ⟨g, e1, e2, e3, e4, e5⟩ := old_holds Q ho hm h0 hr0 P Hs g1 hS hT hu hS' hT' hbel hnd hE hC hstay
  have hdo := refdo_plan ho hm P (by omega) Hs.lo Hs.hi hol fun r hr => by
    have := Bl.in_ hm hr0 (hbel r hr)
    omega
  have hfr := fresh28 H (PS H news) (fillQ H.length s) _ e4 (news, (s, (old, ()))) _ 0 0 (by omega) rfl (by omega)
  rw [List.drop_zero, e5, Nat.zero_add] at hfr
  have hlt : leI (n : Int) (ofN (lenL tapiNode news)) = false := by
    simp only [leI_d, ofN_d, lenL_d]
    exact decide_eq_false (by omega)
  rw [law28_MergeOld.j2.eq, br_f, show notB true = false from rfl, br_f]
  show bnd (ref18_Do H (news, (s, (old, ())))) _ = _
  rw [hdo, bnd_some]
  dsimp only
  rw [show notB true = false from rfl, br_f, e1, bnd_some, e2, bnd_some, show notB true = false from rfl, br_f, hlt, br_f, e3, bnd_some]
  refine hfr.trans ?_
  have hq : eqI (news.length : Int) (ofN (lenL tapiNode news)) = true := decide_eq_true rfl
  rw [hq, br_t, refIs_any g1 _ (fun _ => by rw [g3]; omega), bnd_some, g4]
theorem nodup_rev {l : List Int} (h : l.Nodup) : l.reverse.Nodup := List.pairwise_reverse.2 (h.imp fun q e => q e.symm)
end Go.Proofs.YtmopkbmcilolgaaGreat.AI
set_option linter.unusedVariables false
set_option linter.unusedSimpArgs false
namespace Go.Proofs.YtmopkbmcilolgaaGreat.Pure
open Go.Abs Go.Proofs.YtmopkbmcilolgaaGreat.AI
theorem MergeOld (a0 : den (.list tapiPair)) (a1 : den .str) (h0 : wfD (.list tapiPair) a0) (h1 : wfD .str a1) : law28_MergeOld a0 a1 = some true := by
  obtain ⟨hl, hs⟩ := madeL_ok a0
  have ec : ∀ a : ByteArray, base_Cut a (16 : Int) = some (cut 16 a) := fun a => base_Cut_any a 16
  have hk : (cut 16 a1).size ≤ 16 := by rw [cut_size]; omega
  rw [law28_MergeOld.eq, works28, bnd_some, show notB true = false from rfl, br_f, made28 h0.1, bnd_some, ec, bnd_some]
  cases hg : longAny (madeL a0) with
  | true =>
    rw [if_pos rfl]
    rfl
  | false =>
    have hb := longAny_false hg
    have hm := makeS_len (madeL a0)
    have hS := makeS_Srt (madeL a0)
    have ht := nodesS_ok _ [] (makeS (madeL a0)) (Nat.le_refl _) rfl hb
    have ho := nodes_okH (l := makeS (madeL a0)) (by omega) hb
    have hn := nodesS_len _ [] (makeS (madeL a0)) (Nat.le_refl _)
    rw [List.length_nil, Nat.zero_add] at hn
    rw [if_neg (by simp)]
    dsimp only
    generalize hH : (nodesS [] (makeS (madeL a0))).1 = H at ht ho hn ⊢
    generalize hR : (nodesS [] (makeS (madeL a0))).2 = R at ht ⊢
    generalize hLL : makeS (madeL a0) = l at hb hm hS ht ho hn ⊢
    generalize hK : cut 16 a1 = key at hk ⊢
    have r0 := ht.r0
    have r1 := ht.r1
    rw [show notB true = false from rfl, br_f, mnew_any, bnd_some]
    show loopM l key H R 0 (mgO key R noM false [noArm 0, noArm 0]) [] [] = some true
    have hwant : ∀ (n : Nat) (e : StepM) (found : Bool) (arms : List ArmV) (W S : List StepM), merge_Merge_Want (mgO key 0 e found arms) W S = some (0, (mgO key 0 e found arms, (W, (S, ())))) := fun n e found arms W S => mwant_any ..
    rcases feed_loop ho ht.may (key := key) (by omega) (loop_steps (by omega) l key R) R.toNat R l [] 0 (Nat.le_refl _) r0 r1 hS hb (by omega) ht.shp (by show 0 + _ ≤ _; omega) (by omega) with ⟨way, n', w, hn1, e⟩ | ⟨way, e', p, L, R', a, b, sp, rest, X', Y, n', w, N, hp, ws, hrest, hn1, hn2, e⟩
    · have hfind : l.find? (fun q => decide (q.1 = key)) = none := w.find
      have hlt : ltI (ofN (lenL tapiNode H)) (n' : Int) = false := by
        simp only [ltI_d, ofN_d, lenL_d]
        exact decide_eq_false (by omega)
      rw [e]
      unfold loopM
      rw [law28_MergeOld.l0.eq]
      show bnd (merge_Merge_Want (mgO key 0 noM false [noArm 0, noArm 0]) ([] ++ way.map toM) []) _ = _
      rw [mwant_any, bnd_some]
      dsimp only
      rw [eqI_d, decide_eq_true rfl, show notB true = false from rfl, br_f]
      show bnd (merge_Merge_Answer (mgO key 0 noM false [noArm 0, noArm 0]) ([] ++ way.map toM) []) _ = _
      rw [manswer_none, bnd_some, rget_any l key (by omega), bnd_some, makeS_srt hS, hfind]
      show bnd (merge_Merge_Plan_v1 (mgO key 0 noM false [noArm 0, noArm 0]) ([] ++ way.map toM) []) _ = _
      rw [mplan_none, bnd_some, node_Tree.eq, bnd_some, mfeed_o, bnd_some, mplan_o, bnd_some, hlt, br_f]
      show br (notB (eqS ByteArray.empty ByteArray.empty)) _ (br false _ (br false _ (br false _ (bnd merge_Merge_Want_o fun r9 => law28_MergeOld.j2 H R (n' : Int) false (notB (eqI r9 0)) ((), (0, ((), ()))) [] [])))) = _
      rw [eqS_d, decide_eq_true rfl, show notB true = false from rfl, br_f, br_f, br_f, br_f, merge_Merge_Want_o.eq, bnd_some, show notB (eqI 0 0) = false from rfl, law28_MergeOld.j2.eq]
      rfl
    · have hfind : l.find? (fun q => decide (q.1 = key)) = some p := by rw [w.find, ← hp]; exact find_mid N.srt
      have hlt : ltI (ofN (lenL tapiNode H)) (n' : Int) = false := by
        simp only [ltI_d, ofN_d, lenL_d]
        exact decide_eq_false (by omega)
      have hwl := w.refs r0
      obtain ⟨w1, w2, w3, _⟩ := w.ok (by omega)
      obtain ⟨d1, d2, d3⟩ := w.dec
      obtain ⟨st1, st2⟩ := w.st ht.may (r0 := R) fun q => ⟨q, .self⟩
      have hbe := st2 N.r1
      obtain ⟨_, ka, kb⟩ := N.st ht.may hbe
      have a0 := N.a0
      have a1' := N.a1
      have b0 := N.b0
      have b1 := N.b1
      have nr1 := N.r1
      have nr2 := N.r2
      obtain ⟨s1, s2, s3, s4⟩ := ws.ok a0 b0
      have hml := mid_len L R' p
      have hSm : Srt (L ++ R') := by
        have := dropS_srt N.srt p.1
        rwa [drop_here N.srt] at this
      obtain ⟨t1, t2⟩ := ws.st ht.may ka kb
      obtain ⟨t3, t4⟩ := ws.dist ht.may hSm ⟨a0, by omega, N.left⟩ ⟨b0, by omega, N.right⟩
      have t5 : ∀ x ∈ sp, x.1 < e' := fun x hx => by
        rcases t3 x hx with q | q
        · have := Bl.in_ ht.may (by omega) q; omega
        · have := Bl.in_ ht.may (by omega) q; omega
      obtain ⟨P1, H1⟩ := spine_put ht.may ws hSm ⟨a0, by omega, N.left⟩ ⟨b0, by omega, N.right⟩ [e']
      have hdm : dropS key (L ++ p :: R') = L ++ R' := by rw [← hp]; exact drop_here N.srt
      rw [← hdm] at H1
      obtain ⟨P2, H2, h3⟩ := up_drop ht.may w (by rw [hdm, hml, List.length_append]; omega) _ P1 H1
      have hst : ∀ x ∈ way.map toM, StOK H R x.1 x.node ∧ (x.side = 0 ∨ x.side = 1) := fun x hx => by
        obtain ⟨y, hy, rfl⟩ := List.mem_map.1 hx
        exact ⟨st1 y hy, (toM_ok (w1 y hy)).side⟩
      have Q0 : Part H R (fun x => x = e') (fun _ => False) [] [e'] [rest] := Part.nil (fun s hs q => by
        rw [List.mem_singleton.1 hs] at q ⊢
        exact t2 (by omega)) (fun x hx => List.mem_singleton.1 hx)
      have Q1 : Part H R (fun x => x = e') (fun _ => False) (upM sp.reverse ([], ([e'], rest))).1 (upM sp.reverse ([], ([e'], rest))).2.1 [(upM sp.reverse ([], ([e'], rest))).2.2] := Part.upM sp.reverse ([], ([e'], rest)) Q0 fun x hx => ⟨t1 x (List.mem_reverse.1 hx), (s1 x (List.mem_reverse.1 hx)).side⟩
      have Q2 := Part.upM (way.map toM).reverse _ Q1 fun x hx => hst x (List.mem_reverse.1 hx)
      obtain ⟨u1, u2⟩ := upM_len sp.reverse ([], ([e'], rest))
      obtain ⟨v1, v2⟩ := upM_len (way.map toM).reverse (upM sp.reverse ([], ([e'], rest)))
      rw [List.length_reverse] at u1 u2 v1 v2
      rw [List.length_map] at v1 v2
      dsimp only [List.length_nil, List.length_cons] at u1 u2
      have hold : (upM (way.map toM).reverse (upM sp.reverse ([], ([e'], rest)))).2.1 = e' :: ((sp.map (·.1)).reverse ++ (way.map (·.1)).reverse) := by
        rw [upM_old, upM_old, List.map_reverse, List.map_reverse, List.map_map]
        rfl
      have hps := mplan_some key (stM e' (getN H e') 0 0) X' Y (way.map toM) sp (by rw [List.length_map]; omega) (by omega) (fun x hx => by obtain ⟨y, hy, rfl⟩ := List.mem_map.1 hx; exact toM_ok (w1 y hy)) s1
      rw [← hrest] at hps
      have hps : merge_Merge_Plan_v1 (mgO key 0 (stM e' (getN H e') 0 0) true [X', Y]) (way.map toM) sp = some (planM key (way.map toM) (stM e' (getN H e') 0 0) true [X', Y] sp (upM (way.map toM).reverse (upM sp.reverse ([], ([e'], rest)))) true) := hps
      generalize upM (way.map toM).reverse (upM sp.reverse ([], ([e'], rest))) = S at P2 H2 v1 v2 hold hps Q2
      have hke : ky H e' = key := by rw [← hp]; exact N.key
      have hend := mold_end Q2 ho ht.may r0 r1 P2 H2 (by omega) hS hb ht.shp (dropS_srt hS key) (fun p hp => hb p (dropS_mem.1 hp).1) (by omega) (fun x hx => by
        rw [hold] at hx
        rcases List.mem_cons.1 hx with rfl | hx
        · exact hbe
        rcases List.mem_append.1 hx with hx | hx
        · obtain ⟨y, hy, rfl⟩ := List.mem_map.1 (List.mem_reverse.1 hx)
          exact (t1 y hy).bel
        · obtain ⟨y, hy, rfl⟩ := List.mem_map.1 (List.mem_reverse.1 hx)
          exact (st1 y hy).bel) (by
        rw [hold]
        refine List.nodup_cons.2 ⟨fun hx => ?_, List.nodup_append.2 ⟨nodup_rev t4, nodup_rev d3, fun x hx y hy q => ?_⟩⟩
        · rcases List.mem_append.1 hx with hx | hx
          · obtain ⟨y, hy, e3⟩ := List.mem_map.1 (List.mem_reverse.1 hx)
            have := t5 y hy
            omega
          · obtain ⟨y, hy, e3⟩ := List.mem_map.1 (List.mem_reverse.1 hx)
            have := (d2 y hy).1
            omega
        · obtain ⟨x', hx', e3⟩ := List.mem_map.1 (List.mem_reverse.1 hx)
          obtain ⟨y', hy', e4⟩ := List.mem_map.1 (List.mem_reverse.1 hy)
          have := t5 x' hx'
          have := (d2 y' hy').1
          omega) (fun x q z hz => by rw [q, hke]; exact (dropS_mem.1 hz).2) (fun k q => q.elim) (fun q hq => by
        by_cases c : q.1 = key
        · exact .inr ⟨e', by rw [hold]; exact List.mem_cons_self, by rw [hke, c]⟩
        · exact .inl ⟨q, dropS_mem.2 ⟨hq, c⟩, rfl⟩) (n := n') (by omega) (by omega) (by omega)
      have hev : (stM e' (getN H e') 0 0).2.2.2.1 = p.2.1 := N.val
      rw [e]
      unfold loopM
      rw [law28_MergeOld.l0.eq]
      show bnd (merge_Merge_Want (mgO key 0 (stM e' (getN H e') 0 0) true [X', Y]) (way.map toM) sp) _ = _
      rw [mwant_any, bnd_some]
      dsimp only
      rw [eqI_d, decide_eq_true rfl, show notB true = false from rfl, br_f]
      show bnd (merge_Merge_Answer (mgO key 0 (stM e' (getN H e') 0 0) true [X', Y]) (way.map toM) sp) _ = _
      rw [manswer_any, bnd_some, rget_any l key (by omega), bnd_some, makeS_srt hS, hfind, hev]
      show bnd (merge_Merge_Plan_v1 (mgO key 0 (stM e' (getN H e') 0 0) true [X', Y]) (way.map toM) sp) _ = _
      rw [hps, bnd_some, node_Tree.eq, bnd_some, mfeed_o, bnd_some, mplan_o, bnd_some, hlt, br_f]
      show br (notB (eqS p.2.1 p.2.1)) _ (br false _ (br false _ (br false _ (bnd merge_Merge_Want_o fun r9 => law28_MergeOld.j2 H R (n' : Int) true (notB (eqI r9 0)) ((), (S.2.2, ((), ()))) S.1 S.2.1)))) = _
      rw [eqS_d, decide_eq_true rfl, show notB true = false from rfl, br_f, br_f, br_f, br_f, merge_Merge_Want_o.eq, bnd_some, show notB (eqI 0 0) = false from rfl]
      exact hend
end Go.Proofs.YtmopkbmcilolgaaGreat.Pure
