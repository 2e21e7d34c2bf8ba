/- Texts of one proof, laid together: how the interpreter's words stand for the program's code and what the functions do. No conditions but those that each lemma names. -/
import Derived.Test.YtmopkbmcilolgaaGreatM5
import Derived.Test.YtmopkbmcilolgaaGreatM4
set_option linter.unusedSimpArgs false
set_option linter.unusedVariables false
set_option linter.unusedSimpArgs false
namespace Go.Proofs.YtmopkbmcilolgaaGreat.AF
open Go.Abs
theorem toM_ok {x : StepV} (o : okSt x) : okM (toM x) := ⟨o.kids, o.side, o.key, o.val⟩
theorem drop_id {k : ByteArray} {l : List PairV} (h : l.find? (fun q => decide (q.1 = k)) = none) : dropS k l = l := dropS_none fun q hq => by
  have := List.find?_eq_none.1 h q hq
  simpa using this
theorem merge_walk {h : List NodeV} (ho : okH h) (hm : mayH h = true) (hlen : h.length ≤ 300) {root : Int} (h0 : 0 ≤ root) (h1 : root ≤ h.length) {l : List PairV} (hS : Srt l) (ht : ∀ p ∈ l, okT p) (hl : l.length ≤ 2000000) (hu : U h root = treeT l) {key : ByteArray} (hkey : key.size ≤ 1000000) :
    ∃ (news : List NodeV) (s : Int), PlanOK h news ∧ Has h news s (treeT (dropS key l)) ∧ news.length ≤ 900 ∧ merge_Run.l0 h root (mgO key root noM false [noArm 0, noArm 0]) [] [] = some (PS h news, (fillQ h.length s, (0, ()))) ∧
      (l.find? (fun q => decide (q.1 = key)) = none → news = [] ∧ s = root) ∧ (l.find? (fun q => decide (q.1 = key)) ≠ none → news.length + 1 ≤ l.length) := by
  have hsame := do_plan ho hm (PlanOK.nil hm) (by show 0 ≤ _; omega) (root := root) (by show -((0 : Nat) : Int) ≤ _; omega) h1 (old := []) (by show 0 ≤ _; omega) (fun r hr => by cases hr)
  rcases mrun_loop ho hm root hkey root.toNat root l [] (Nat.le_refl _) h0 h1 hS ht hl hu (by show 0 + _ ≤ _; omega) with ⟨way, w, e⟩ | ⟨way, e', p, L, R, a, b, sp, rest, X, Y, w, N, hp, ws, hrest, e⟩
  · have hf : l.find? (fun q => decide (q.1 = key)) = none := w.find
    refine ⟨[], root, PlanOK.nil hm, by rw [drop_id hf]; exact hu ▸ Has.heap hm h0 h1, by show 0 ≤ _; omega, ?_, fun _ => ⟨rfl, rfl⟩, fun q => absurd hf q⟩
    rw [e, mend, mplan_none, bnd_some]
    show br (notB false) (bnd (plan_Do h ([], (root, ([], ())))) fun r4 => some r4) _ = _
    rw [show notB false = true from rfl, br_t, hsame, bnd_some]
  · have hfind : l.find? (fun q => decide (q.1 = key)) = some p := by rw [w.find, ← hp]; exact find_mid N.srt
    have hwl := w.refs h0
    obtain ⟨w1, w2, w3, _⟩ := w.ok hl
    have wlen : (way.length : Int) ≤ root := by
      have := N.r1
      omega
    have a0 := N.a0
    have a1 := N.a1
    have b0 := N.b0
    have b1 := N.b1
    have r2 := N.r2
    obtain ⟨s1, s2, s3, s4⟩ := ws.ok a0 b0
    have hml := mid_len L R p
    have hSm : Srt (L ++ R) := by
      have := dropS_srt N.srt p.1
      rwa [drop_here N.srt] at this
    obtain ⟨P1, H1⟩ := spine_put hm ws hSm ⟨a0, by omega, N.left⟩ ⟨b0, by omega, N.right⟩ [e']
    have hdm : dropS key (L ++ p :: R) = L ++ R := by rw [← hp]; exact drop_here N.srt
    rw [← hdm] at H1
    obtain ⟨P2, H2, h3⟩ := up_drop hm w (by rw [hdm, hml, List.length_append]; omega) _ P1 H1
    obtain ⟨u1, u2⟩ := upM_len sp.reverse ([], ([e'], rest))
    obtain ⟨v1, v2⟩ := upM_len (way.map toM).reverse (upM sp.reverse ([], ([e'], rest)))
    rw [List.length_reverse] at u1 u2 v1 v2
    rw [List.length_map] at v1 v2
    dsimp only [List.length_nil, List.length_cons] at u1 u2
    have hold : ∀ r ∈ (upM (way.map toM).reverse (upM sp.reverse ([], ([e'], rest)))).2.1, 1 ≤ r ∧ r ≤ h.length := by
      intro r hr
      rw [upM_old, upM_old] at hr
      rcases List.mem_append.1 hr with hr | hr
      · rcases List.mem_append.1 hr with hr | hr
        · rw [List.mem_singleton.1 hr]
          exact ⟨N.r1, N.r2⟩
        · obtain ⟨x, hx, rfl⟩ := List.mem_map.1 hr
          exact s2 x (List.mem_reverse.1 hx)
      · obtain ⟨x, hx, rfl⟩ := List.mem_map.1 hr
        obtain ⟨y, hy, rfl⟩ := List.mem_map.1 (List.mem_reverse.1 hx)
        exact w2 y hy
    have hps := mplan_some key (stM e' (getN h e') 0 0) X Y (way.map toM) sp (by rw [List.length_map]; omega) (by omega) (fun x hx => by obtain ⟨y, hy, rfl⟩ := List.mem_map.1 hx; exact toM_ok (w1 y hy)) s1
    rw [← hrest] at hps
    have hps : merge_Merge_Plan (mgO key 0 (stM e' (getN h e') 0 0) true [X, Y]) (way.map toM) sp = some (planM key (way.map toM) (stM e' (getN h e') 0 0) true [X, Y] sp (upM (way.map toM).reverse (upM sp.reverse ([], ([e'], rest)))) true) := hps
    generalize upM (way.map toM).reverse (upM sp.reverse ([], ([e'], rest))) = s at P2 H2 v1 v2 hold hps
    refine ⟨s.1, s.2.2, P2, H2, by omega, ?_, fun q => ?_, fun _ => by omega⟩
    · have hdo := do_plan ho hm P2 (by omega) H2.lo H2.hi (by omega) hold
      rw [e, List.nil_append, mend, hps, bnd_some]
      show br (notB true) _ (bnd (plan_Do h (s.1, (s.2.2, (s.2.1, ())))) fun r5 => some r5) = _
      rw [show notB true = false from rfl, br_f, hdo, bnd_some]
    · rw [hfind] at q; cases q
/-! ### A call, whatever is asked -/
theorem merge_form {h : List NodeV} (ho : okH h) (root : Int) (key : ByteArray) (hb : fitH h root = true → (bindsT (U h root)).length ≤ 40000000) (hn : isTreeS h root = false) : merge_Run h root key = some ([], (0, (4, ()))) := by
  rw [merge_Run.eq, Is_any ho root hb, bnd_some, hn]
  rfl
theorem merge_tree {h : List NodeV} (ho : okH h) (root : Int) (key : ByteArray) (hb : fitH h root = true → (bindsT (U h root)).length ≤ 40000000) (hn : isTreeS h root = true) : merge_Run h root key = merge_Run.l0 h root (mgO key root noM false [noArm 0, noArm 0]) [] [] := by
  rw [merge_Run.eq, Is_any ho root hb, bnd_some, hn, show notB true = false from rfl, br_f, mnew_any, bnd_some]
/-! ### The chapter's example -/
def exA : ByteArray := ByteArray.mk #[97]
def exB : ByteArray := ByteArray.mk #[98]
def exP : PairV := (exA, (ByteArray.mk #[49], ()))
def exN : NodeV := treeN exP 0 0 1
theorem exP_ok : okT exP := ⟨by decide, by decide⟩
theorem exH_ok : okH [exN] ∧ mayH [exN] = true ∧ U [exN] 1 = treeT [exP] ∧ isTreeS [exN] 1 = true := by
  have hS : Srt ([] ++ exP :: ([] : List PairV)) := List.pairwise_singleton _ _
  have hun : Under (([] : List PairV) ++ []) exP.1 := fun q hq => by cases hq
  have hm : mayH ([] ++ [exN]) = true := may_more rfl (treeN_may exP_ok 0 0 1 (by omega)) fun r hr => by
    rw [refsS_all] at hr
    obtain ⟨h1, h2⟩ := List.mem_filter.1 hr
    have h1 : r ∈ [(0 : Int), 0, 0] := h1
    simp only [decide_eq_true_eq] at h2
    simp at h1
    exact absurd h1 h2
  have hm : mayH [exN] = true := hm
  have ho : okH [exN] := ⟨by show 1 ≤ _; omega, fun n hn => by rw [List.mem_singleton.1 hn]; exact treeN_ok exP_ok.ok 0 0 1, kids_rng hm (by show 1 ≤ _; omega)⟩
  have hu : U [exN] 1 = treeT [exP] := by
    have := treeT_mid hS hun
    rw [List.nil_append] at this
    rw [this, U_node hm (by omega) (by show (1 : Int) ≤ ((1 : Nat) : Int); omega)]
    show Shp.node _ [U [exN] 0, U [exN] 0, U [exN] 0] = _
    rw [U_zero, treeT_nil]
    rfl
  refine ⟨ho, hm, hu, isTree_iff2.2 ⟨fitH_iff.2 ⟨⟨by omega, by show (1 : Int) ≤ ((1 : Nat) : Int); omega⟩, hm⟩, ?_, ?_⟩⟩
  · rw [hu, bindsT_treeT]; exact srt_isS hS
  · rw [hu, bindsT_treeT]
theorem ex_run (key : ByteArray) (hkey : key.size ≤ 1000000) : ∃ (news : List NodeV) (s : Int), PlanOK [exN] news ∧ Has [exN] news s (treeT (dropS key [exP])) ∧ merge_Run [exN] 1 key = some (PS [exN] news, (fillQ 1 s, (0, ()))) ∧ (key ≠ exA → news = [] ∧ s = 1) ∧ (key = exA → news.length + 1 ≤ 1) := by
  obtain ⟨ho, hm, hu, hi⟩ := exH_ok
  have hS : Srt [exP] := List.pairwise_singleton _ _
  rw [merge_tree ho 1 key (fun _ => by rw [hu, bindsT_treeT]; show 1 ≤ _; omega) hi]
  obtain ⟨news, s, P, H, _, e, q1, q2⟩ := merge_walk ho hm (by show 1 ≤ _; omega) (root := 1) (by omega) (by show (1 : Int) ≤ ((1 : Nat) : Int); omega) hS (fun p hp => by rw [List.mem_singleton.1 hp]; exact exP_ok) (by show 1 ≤ _; omega) hu hkey
  refine ⟨news, s, P, H, e, fun hk => q1 ?_, fun hk => q2 ?_⟩
  · rw [List.find?_cons, decide_eq_false (show ¬ exP.1 = key from fun q => hk q.symm)]; rfl
  · rw [List.find?_cons, decide_eq_true (show exP.1 = key from hk.symm)]; intro q; cases q
theorem manswer_any (key : ByteArray) (e : StepM) (arms : List ArmV) (W S : List StepM) : merge_Merge_Answer (mgO key 0 e true arms) W S = some ((e.2.2.2.1, (true, ())), (mgO key 0 e true arms, (W, (S, ())))) := by
  rw [merge_Merge_Answer.eq]
  show br (notB (eqI 0 0)) _ (br (notB true) _ (merge_Merge_Answer.j0 false (mgO key 0 e true arms) W S)) = _
  rw [show notB (eqI 0 0) = false from rfl, br_f, show notB true = false from rfl, br_f, merge_Merge_Answer.j0.eq, br_f]
  rfl
theorem ab_ne : exB ≠ exA := by decide
theorem works28 : law28_works = some true := by
  obtain ⟨ho, hm, hu, hi⟩ := exH_ok
  obtain ⟨n1, s1, P1, H1, e1, _, f1⟩ := ex_run exA (by decide)
  obtain ⟨n2, s2, P2, H2, e2, f2, _⟩ := ex_run exB (by decide)
  have hn1 : n1 = [] := List.eq_nil_of_length_eq_zero (by have := f1 rfl; omega)
  obtain ⟨hn2, hs2⟩ := f2 ab_ne
  subst hn1 hn2 hs2
  have hd : dropS exA [exP] = [] := List.filter_cons_of_neg (by show ¬ (decide (exA ≠ exA) = true); simp)
  have hz : fillQ 1 s1 = 0 := by
    have h2 := H1.shp
    rw [hd, treeT_nil, PS_nil] at h2
    have h3 := fill_in H1.lo H1.hi
    rw [PS_nil] at h3
    exact (U_nil hm h3.1 h3.2).1 h2
  rw [hz, PS_nil] at e1
  rw [PS_nil, show fillQ 1 1 = 1 from rfl] at e2
  rw [law28_works.eq, node_Tree.eq, bnd_some]
  show bnd (merge_Run [exN] 1 exA) (fun r1 => bnd (merge_Run [exN] 1 exB) _) = _
  rw [e1, bnd_some, e2, bnd_some]
  show bnd (merge_New 1 exA) _ = _
  rw [mnew_any, bnd_some]
  show br true (bnd (merge_Merge_Feed exN (mgO exA 1 noM false [noArm 0, noArm 0]) [] []) _) none = _
  rw [br_t, mfeed_way (key := exA) (by decide) (by omega) noM _ [] [] (by show 0 ≤ _; omega) (n := exN) rfl (a := 0) (b := 0) rfl ⟨by show (0 : Int) ≤ 1; omega, by show (1 : Int) ≤ 2000000; omega⟩, if_pos (show exA = exN.2.1 from rfl), nx_zero _ _ _ _ _ _ _ _ (.inl rfl), fedM_some, bnd_some]
  show bnd (merge_Merge_Answer (mgO exA 0 (stM 1 exN 0 0) true [noArm 0, noArm 0]) [] []) _ = _
  rw [manswer_any, bnd_some]
  show bnd (merge_Merge_Plan (mgO exA 0 (stM 1 exN 0 0) true [noArm 0, noArm 0]) [] []) _ = _
  rw [mplan_some exA _ _ _ [] [] (by show 0 ≤ _; omega) (by show 0 ≤ _; omega) (fun x hx => (by cases hx)) (fun x hx => (by cases hx)), bnd_some]
  show br true (br true (br true (br true (br true (br true (br (eqS (ByteArray.mk #[49]) (ByteArray.mk #[49])) (br true (br true (some true) (some false)) (some false)) (some false)) (some false)) (some false)) (some false)) (some false)) (some false)) (some false) = some true
  rw [eqS_d, decide_eq_true rfl]
  simp only [br_t]
/-! ### What its statements begin with -/
theorem refdrop_loop (k : ByteArray) (l : List PairV) (hl : l.length ≤ 50000000) (d : Nat) : ∀ (i : Nat) (acc : List PairV), i ≤ l.length → l.length - i = d → acc.length ≤ i → ref07_Drop.l0 k l i acc = some (acc ++ dropS k (l.drop i)) := by
  induction d with
  | zero =>
    intro i acc hi hd ha
    rw [ref07_Drop.l0.eq]
    simp only [ltI_d, ofN_d, lenL_d, br_if]
    rw [if_neg (by omega), List.drop_eq_nil_of_le (by omega)]
    exact congrArg some (List.append_nil acc).symm
  | succ d ih =>
    intro i acc hi hd ha
    have hil : i < l.length := by omega
    rw [ref07_Drop.l0.eq, ixP l i hil]
    have e : l.drop i = l[i] :: l.drop (i + 1) := List.drop_eq_getElem_cons hil
    simp only [ltI_d, leI_d, eqS_d, notB_d, ofN_d, lenL_d, andB_d, br_if, fitL_d, appL_d]
    rw [if_pos (by omega), if_pos (by omega), add1 i (by omega)]
    by_cases hk : l[i].1 = k
    · rw [if_neg (fun q => q hk), ih (i + 1) acc (by omega) (by omega) (by omega), e]
      have : dropS k (l[i] :: l.drop (i + 1)) = dropS k (l.drop (i + 1)) := List.filter_cons_of_neg (by simpa using hk)
      rw [this]
    · rw [if_pos hk, if_pos (by omega), if_pos (by rw [List.length_append]; show _ + 1 ≤ _; omega), ih (i + 1) (acc ++ [l[i]]) (by omega) (by omega) (by rw [List.length_append]; show _ + 1 ≤ _; omega), e]
      have : dropS k (l[i] :: l.drop (i + 1)) = l[i] :: dropS k (l.drop (i + 1)) := List.filter_cons_of_pos (by simpa using hk)
      rw [this, List.append_assoc]
      rfl
theorem after28 {l : List PairV} (hl : l.length ≤ 1000000) (hS : Srt l) (hs : ∀ p ∈ l, okP p) (k : ByteArray) : ref28_After l k = some (dropS k l) := by
  rw [ref28_After.eq, ref07_Drop.eq, refmake_any l (by omega) hs, bnd_some, makeS_srt hS]
  have := refdrop_loop k l (by omega) l.length 0 [] (by omega) (by omega) (by show 0 ≤ _; omega)
  rw [List.drop_zero, List.nil_append] at this
  exact (congrArg (fun z => bnd z fun r0 => some r0) this).trans (bnd_some _ _)
/-- The bindings that a statement of the chapter begins with. -/
def madeL (l : List PairV) : List PairV := fewL (l.take 16)
theorem madeL_ok (l : List PairV) : (madeL l).length ≤ 16 ∧ ∀ p ∈ madeL l, okP p := by
  refine ⟨?_, fewL_ok _⟩
  unfold madeL fewL
  rw [List.length_map]
  have : (List.take 40 (List.take 16 l)).length ≤ 16 := by rw [List.length_take, List.length_take]; omega
  omega
theorem take16 (l : List PairV) (h : l.length ≤ 9223372036854775807) : andB (leI 0 0) (andB (leI 0 (minI (ofN (lenL tapiPair l)) 16)) (leI (minI (ofN (lenL tapiPair l)) 16) (ofN (lenL tapiPair l)))) = true ∧ subL tapiPair l (toN 0) (toN (minI (ofN (lenL tapiPair l)) 16)) = l.take 16 := by
  have em : minI (ofN (lenL tapiPair l)) 16 = ((min l.length 16 : Nat) : Int) := by
    simp only [minI_d, ofN_d, lenL_d]
    omega
  rw [em]
  refine ⟨?_, ?_⟩
  · simp only [leI_d, andB_d, ofN_d, lenL_d]
    exact decide_eq_true (by omega)
  · rw [subL_pre]
    by_cases q : l.length ≤ 16
    · rw [Nat.min_eq_left q, List.take_length, List.take_of_length_le q]
    · rw [Nat.min_eq_right (by omega)]
theorem made28 {l : List PairV} (h : l.length ≤ 9223372036854775807) : law28_made l = some (if longAny (madeL l) = true then ([], ([], ((0 : Int), (false, ())))) else (makeS (madeL l), ((nodesS [] (makeS (madeL l))).1, ((nodesS [] (makeS (madeL l))).2, (true, ()))))) := by
  obtain ⟨h1, h2⟩ := madeL_ok l
  obtain ⟨t1, t2⟩ := take16 l h
  rw [law28_made.eq, t1, br_t, t2, few_any (l.take 16) (by rw [List.length_take]; omega), bnd_some]
  show bnd (ref20_Long (madeL l)) _ = _
  rw [Long_any _ (by omega) h2, bnd_some]
  cases longAny (madeL l) with
  | true => rw [br_t, if_pos rfl]
  | false =>
    rw [br_f, if_neg (by simp)]
    show bnd (ref25_Make (madeL l)) _ = _
    rw [refMake_any _ (by omega) h2, bnd_some]
    show bnd (ref07_Make (madeL l)) _ = _
    rw [refmake_any _ (by omega) h2, bnd_some]
theorem pre_same (h news : List NodeV) : subL tapiNode (PS h news) (toN 0) (toN (ofN (lenL tapiNode h))) = h := by
  rw [ofN_d, toN_d, show toN 0 = 0 from rfl]
  unfold subL lenL PS
  rw [List.drop_zero, Nat.sub_zero, List.take_left']
  rfl
end Go.Proofs.YtmopkbmcilolgaaGreat.AF
set_option linter.unusedVariables false
set_option linter.unusedSimpArgs false
namespace Go.Proofs.YtmopkbmcilolgaaGreat.AF
open Go.Abs
def waysN (n : NodeV) : Nat := max (refsS n).length 1
def prodW : List NodeV → Nat
  | [] => 1
  | n :: l => waysN n * prodW l
theorem prodW_app : ∀ a b : List NodeV, prodW (a ++ b) = prodW a * prodW b
  | [], b => by show prodW b = 1 * prodW b; omega
  | n :: a, b => by
    show waysN n * prodW (a ++ b) = waysN n * prodW a * prodW b
    rw [prodW_app a b, Nat.mul_assoc]
theorem prodW_pos : ∀ a : List NodeV, 1 ≤ prodW a
  | [] => Nat.le_refl _
  | n :: a => by
    have h := prodW_pos a
    have : 1 ≤ waysN n := by unfold waysN; omega
    exact Nat.mul_pos this h
theorem fewW_prod : ∀ (l : List NodeV) (w : Nat), w ≤ 3000 → w * prodW (fewW w l) ≤ 3000
  | [], w, h => by
    show w * 1 ≤ 3000
    omega
  | n :: l, w, h => by
    rw [fewW_cons]
    split
    · show w * 1 ≤ 3000
      omega
    · rename_i hg
      have := fewW_prod l (w * max (refsS (few n)).length 1) (by omega)
      show w * (waysN (few n) * _) ≤ 3000
      rw [← Nat.mul_assoc]
      exact this
theorem fewH_prod (h : List NodeV) : prodW (fewH h) ≤ 3000 := by
  have := fewW_prod (h.take 12) 1 (by omega)
  rw [Nat.one_mul] at this
  exact this
theorem sum_le {A : Type} (f : A → Nat) (M : Nat) : ∀ l : List A, (∀ x ∈ l, f x ≤ M) → (l.map f).sum ≤ l.length * M
  | [], _ => by simp
  | x :: l, h => by
    have ih := sum_le f M l (fun y hy => h y (List.mem_cons_of_mem _ hy))
    have hx := h x List.mem_cons_self
    rw [List.map_cons, List.sum_cons, List.length_cons, Nat.succ_mul]
    omega
theorem flat_len {A : Type} (f : A → List PairV) : ∀ l : List A, ((l.map f).flatten).length = (l.map fun x => (f x).length).sum
  | [] => rfl
  | x :: l => by rw [List.map_cons, List.flatten_cons, List.length_append, flat_len f l, List.map_cons, List.sum_cons]
theorem binds_sum {h : List NodeV} (hm : mayH h = true) {r : Int} (h1 : 1 ≤ r) (h2 : r ≤ h.length) : (bindsT (U h r)).length = (bindsS (getN h r)).length + ((refsS (getN h r)).map fun x => (bindsT (U h x)).length).sum := by
  by_cases h4 : (getN h r).1 = 4
  · obtain ⟨a, b, k1, k2, k3, k4, k5⟩ := bindsU_tree hm h1 h2 h4
    have er : refsS (getN h r) = [a, b].filter (fun r => decide (r ≠ 0)) := by
      rw [refsS_all]
      unfold allK
      rw [k1, k2, List.filter_append]
      show _ ++ [] = _
      rw [List.append_nil]
    have z : (bindsT (U h 0)).length = 0 := by rw [U_zero, bindsT_nil]; rfl
    rw [k5, er, List.length_append, List.length_append]
    by_cases ea : a = 0
    · by_cases eb : b = 0
      · subst ea; subst eb; rw [z]; simp
      · subst ea; rw [z, List.filter_cons_of_neg (by simp), List.filter_cons_of_pos (by simp [eb]), List.filter_nil]
        simp
    · by_cases eb : b = 0
      · subst eb; rw [z, List.filter_cons_of_pos (by simp [ea]), List.filter_cons_of_neg (by simp), List.filter_nil]
        simp; omega
      · rw [List.filter_cons_of_pos (by simp [ea]), List.filter_cons_of_pos (by simp [eb]), List.filter_nil]
        simp; omega
  · rw [bindsU_refs hm h1 h2 h4, List.length_append, flat_len]
theorem bound_step (k P r m : Nat) (hP : 1 ≤ P) (hk : m ≤ k) (hk1 : 1 ≤ k) (hr : 1 ≤ r) : 40 + m * (40 * (r - 1) * P) ≤ 40 * r * (P * k) := by
  obtain ⟨q, rfl⟩ : ∃ q, r = q + 1 := ⟨r - 1, by omega⟩
  rw [Nat.add_sub_cancel]
  have h1 : m * (40 * q * P) ≤ k * (40 * q * P) := Nat.mul_le_mul_right _ hk
  have h2 : 40 * (q + 1) * (P * k) = 40 * q * (P * k) + 40 * (P * k) := by rw [Nat.mul_add, Nat.add_mul]
  have h3 : k * (40 * q * P) = 40 * q * (P * k) := by rw [Nat.mul_comm k, Nat.mul_assoc]
  have h4 : 1 ≤ P * k := Nat.mul_pos hP hk1
  omega
theorem binds_bound {h : List NodeV} (hm : mayH h = true) (hs : ∀ n ∈ h, (bindsS n).length ≤ 40) : ∀ (n : Nat) (r : Int), 0 ≤ r → r ≤ n → r ≤ h.length → (bindsT (U h r)).length ≤ 40 * r.toNat * prodW (h.take r.toNat) := by
  intro n
  induction n with
  | zero =>
    intro r h0 h1 h2
    have : r = 0 := by omega
    subst this
    rw [U_zero, bindsT_nil]
    exact Nat.zero_le _
  | succ n ih =>
    intro r h0 h1 h2
    by_cases e : r = 0
    · subst e
      rw [U_zero, bindsT_nil]
      exact Nat.zero_le _
    obtain ⟨i, hi⟩ : ∃ i : Nat, r = (i : Int) + 1 := ⟨(r - 1).toNat, by omega⟩
    have hil : i < h.length := by omega
    have eg : getN h r = h[i] := by rw [hi]; exact getN_ix h i hil
    rw [binds_sum hm (by omega) h2]
    have hb := hs _ (getN_mem h r (by omega) h2)
    have hsum := sum_le (fun x => (bindsT (U h x)).length) (40 * i * prodW (h.take i)) (refsS (getN h r)) (fun x hx => by
      rw [refsS_all] at hx
      have hk := (may_node hm (by omega) h2).2 x (List.mem_filter.1 hx).1
      refine Nat.le_trans (ih x (by omega) (by omega) (by omega)) ?_
      have hxi : x.toNat ≤ i := by omega
      have hp : prodW (h.take x.toNat) ≤ prodW (h.take i) := by
        have e : h.take i = h.take x.toNat ++ (h.drop x.toNat).take (i - x.toNat) := by
          rw [← List.take_add]
          congr 1
          omega
        rw [e, prodW_app]
        exact Nat.le_mul_of_pos_right _ (prodW_pos _)
      exact Nat.mul_le_mul (Nat.mul_le_mul_left _ hxi) hp)
    have et : r.toNat = i + 1 := by omega
    have ep : prodW (h.take (i + 1)) = prodW (h.take i) * waysN (getN h r) := by
      rw [List.take_succ_eq_append_getElem hil, prodW_app, eg]
      congr 1
      show waysN h[i] * 1 = _
      omega
    rw [et, ep]
    have hstep := bound_step (waysN (getN h r)) (prodW (h.take i)) (i + 1) (refsS (getN h r)).length (prodW_pos _) (by unfold waysN; omega) (by unfold waysN; omega) (by omega)
    rw [Nat.add_sub_cancel] at hstep
    omega
theorem few_binds (n : NodeV) : (bindsS (few n)).length ≤ 40 := by
  unfold bindsS
  split
  · show 1 ≤ 40; omega
  · split
    · exact fewL_len _
    · show 0 ≤ 40; omega
theorem few_bound (h : List NodeV) (r : Int) (hf : fitH (fewH h) r = true) : (bindsT (U (fewH h) r)).length ≤ 1440000 := by
  obtain ⟨⟨a, b⟩, c⟩ := fitH_iff.1 hf
  have h1 := binds_bound c (fun n hn => by obtain ⟨m, _, rfl⟩ := fewH_mem n hn; exact few_binds m) r.toNat r a (by omega) b
  have h2 := fewH_prod h
  have h3 := fewH_len h
  have hp : prodW ((fewH h).take r.toNat) ≤ 3000 := by
    refine Nat.le_trans ?_ h2
    conv => rhs; rw [← List.take_append_drop r.toNat (fewH h), prodW_app]
    exact Nat.le_mul_of_pos_right _ (prodW_pos _)
  have h4 : 40 * r.toNat * prodW ((fewH h).take r.toNat) ≤ 480 * 3000 := Nat.mul_le_mul (by omega) hp
  omega
end Go.Proofs.YtmopkbmcilolgaaGreat.AF
set_option linter.unusedVariables false
set_option linter.unusedSimpArgs false
namespace Go.Proofs.YtmopkbmcilolgaaGreat.Pure
open Go.Abs Go.Proofs.YtmopkbmcilolgaaGreat.AF
theorem MergeRefuses (a0 : den (.list tapiNode)) (a1 : den (.int .i64)) (a2 : den .str) (h0 : wfD (.list tapiNode) a0) (h1 : wfD (.int .i64) a1) (h2 : wfD .str a2) : law28_MergeRefuses a0 a1 a2 = some true := by
  change Int at a1
  have ho := okH.of h0
  have hlen := fewH_len a0
  have hb : fitH (fewH a0) a1 = true → (bindsT (U (fewH a0) a1)).length ≤ 40000000 := fun hf => by have := few_bound a0 a1 hf; omega
  have hk : (cut 16 a2).size ≤ 16 := by rw [cut_size]; omega
  have ec : base_Cut a2 (16 : Int) = some (cut 16 a2) := base_Cut_any a2 16
  rw [law28_MergeRefuses.eq, fewH_wf h0, bnd_some, ec, bnd_some, fewH_ok ho, bnd_some, fewH_fewH, works28]
  cases hi : isTreeS (fewH a0) a1 with
  | false =>
    rw [merge_form ho a1 _ hb hi, bnd_some, refIs_any ho a1 hb, bnd_some, hi]
    rfl
  | true =>
    obtain ⟨hf, hS, hu⟩ := isTree_iff2.1 hi
    obtain ⟨⟨f0, f1⟩, hm⟩ := fitH_iff.1 hf
    have hbl := few_bound a0 a1 hf
    have htx := binds_short hm a1.toNat a1 f0 (by omega) f1
    obtain ⟨news, s, P, Hs, hnl, e, _, _⟩ := merge_walk ho hm (by omega) f0 f1 (isS_srt hS) htx (by omega) hu (key := cut 16 a2) (by omega)
    have hdl : (dropS (cut 16 a2) (bindsT (U (fewH a0) a1))).length ≤ (bindsT (U (fewH a0) a1)).length := List.length_filter_le _ _
    obtain ⟨g1, g2, g3, g4⟩ := tree_plan ho P Hs (by omega) (dropS_srt (isS_srt hS) (cut 16 a2))
    rw [merge_tree ho a1 _ hb hi, e, bnd_some, refIs_any ho a1 hb, bnd_some, hi, show notB true = false from rfl, br_f]
    show br (eqI 0 0) (bnd (ref25_Is (PS (fewH a0) news) (fillQ (fewH a0).length s)) _) _ = _
    rw [show eqI 0 0 = true from rfl, br_t, refIs_any g1 _ (fun _ => by rw [g3]; omega), bnd_some, g4, br_t, bnd_some]
end Go.Proofs.YtmopkbmcilolgaaGreat.Pure
