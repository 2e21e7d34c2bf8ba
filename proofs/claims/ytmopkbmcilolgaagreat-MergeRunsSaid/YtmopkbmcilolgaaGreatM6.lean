/- Texts of one proof, laid together: how the interpreter's words stand for the program's code and what the functions do. No conditions but those that each lemma names. -/
import Derived.Test.YtmopkbmcilolgaaGreatM5
set_option linter.unusedSimpArgs false
set_option linter.unusedVariables false
set_option linter.unusedSimpArgs false
namespace Go.Proofs.YtmopkbmcilolgaaGreat.AF
open Go.Abs
theorem toM_ok {x : StepV} (o : okSt x) : okM (toM x) := ⟨o.kids, o.side, o.key, o.val⟩
theorem drop_id {k : ByteArray} {l : List PairV} (h : l.find? (fun q => decide (q.1 = k)) = none) : dropS k l = l := dropS_none fun q hq => by
  have := List.find?_eq_none.1 h q hq
  simpa using this
theorem merge_walk {h : List NodeV} (ho : okH h) (hm : mayH h = true) (hlen : h.length ≤ 300) {root : Int} (h0 : 0 ≤ root) (h1 : root ≤ h.length) {l : List PairV} (hS : Srt l) (ht : ∀ p ∈ l, okT p) (hl : l.length ≤ 2000000) (hu : U h root = treeT l) {key : ByteArray} (hkey : key.size ≤ 1000000) :
    ∃ (news : List NodeV) (s : Int), PlanOK h news ∧ Has h news s (treeT (dropS key l)) ∧ news.length ≤ 900 ∧ merge_Run.l0 h root (mgO key root noM false [noArm 0, noArm 0]) [] [] = some (PS h news, (fillQ h.length s, (0, ()))) ∧
      (l.find? (fun q => decide (q.1 = key)) = none → news = [] ∧ s = root) ∧ (l.find? (fun q => decide (q.1 = key)) ≠ none → news.length + 1 ≤ l.length) := by
  have hsame := do_plan ho hm (PlanOK.nil hm) (by show 0 ≤ _; omega) (root := root) (by show -((0 : Nat) : Int) ≤ _; omega) h1 (old := []) (by show 0 ≤ _; omega) (fun r hr => by cases hr)
  rcases mrun_loop ho hm root hkey root.toNat root l [] (Nat.le_refl _) h0 h1 hS ht hl hu (by show 0 + _ ≤ _; omega) with ⟨way, w, e⟩ | ⟨way, e', p, L, R, a, b, sp, rest, X, Y, w, N, hp, ws, hrest, e⟩
  · have hf : l.find? (fun q => decide (q.1 = key)) = none := w.find
    refine ⟨[], root, PlanOK.nil hm, by rw [drop_id hf]; exact hu ▸ Has.heap hm h0 h1, by show 0 ≤ _; omega, ?_, fun _ => ⟨rfl, rfl⟩, fun q => absurd hf q⟩
    rw [e, mend, mplan_none, bnd_some]
    show br (notB false) (bnd (plan_Do h ([], (root, ([], ())))) fun r4 => some r4) _ = _
    rw [show notB false = true from rfl, br_t, hsame, bnd_some]
  · have hfind : l.find? (fun q => decide (q.1 = key)) = some p := by rw [w.find, ← hp]; exact find_mid N.srt
    have hwl := w.refs h0
    obtain ⟨w1, w2, w3, _⟩ := w.ok hl
    have wlen : (way.length : Int) ≤ root := by
      have := N.r1
      omega
    have a0 := N.a0
    have a1 := N.a1
    have b0 := N.b0
    have b1 := N.b1
    have r2 := N.r2
    obtain ⟨s1, s2, s3, s4⟩ := ws.ok a0 b0
    have hml := mid_len L R p
    have hSm : Srt (L ++ R) := by
      have := dropS_srt N.srt p.1
      rwa [drop_here N.srt] at this
    obtain ⟨P1, H1⟩ := spine_put hm ws hSm ⟨a0, by omega, N.left⟩ ⟨b0, by omega, N.right⟩ [e']
    have hdm : dropS key (L ++ p :: R) = L ++ R := by rw [← hp]; exact drop_here N.srt
    rw [← hdm] at H1
    obtain ⟨P2, H2, h3⟩ := up_drop hm w (by rw [hdm, hml, List.length_append]; omega) _ P1 H1
    obtain ⟨u1, u2⟩ := upM_len sp.reverse ([], ([e'], rest))
    obtain ⟨v1, v2⟩ := upM_len (way.map toM).reverse (upM sp.reverse ([], ([e'], rest)))
    rw [List.length_reverse] at u1 u2 v1 v2
    rw [List.length_map] at v1 v2
    dsimp only [List.length_nil, List.length_cons] at u1 u2
    have hold : ∀ r ∈ (upM (way.map toM).reverse (upM sp.reverse ([], ([e'], rest)))).2.1, 1 ≤ r ∧ r ≤ h.length := by
      intro r hr
      rw [upM_old, upM_old] at hr
      rcases List.mem_append.1 hr with hr | hr
      · rcases List.mem_append.1 hr with hr | hr
        · rw [List.mem_singleton.1 hr]
          exact ⟨N.r1, N.r2⟩
        · obtain ⟨x, hx, rfl⟩ := List.mem_map.1 hr
          exact s2 x (List.mem_reverse.1 hx)
      · obtain ⟨x, hx, rfl⟩ := List.mem_map.1 hr
        obtain ⟨y, hy, rfl⟩ := List.mem_map.1 (List.mem_reverse.1 hx)
        exact w2 y hy
    have hps := mplan_some key (stM e' (getN h e') 0 0) X Y (way.map toM) sp (by rw [List.length_map]; omega) (by omega) (fun x hx => by obtain ⟨y, hy, rfl⟩ := List.mem_map.1 hx; exact toM_ok (w1 y hy)) s1
    rw [← hrest] at hps
    have hps : merge_Merge_Plan (mgO key 0 (stM e' (getN h e') 0 0) true [X, Y]) (way.map toM) sp = some (planM key (way.map toM) (stM e' (getN h e') 0 0) true [X, Y] sp (upM (way.map toM).reverse (upM sp.reverse ([], ([e'], rest)))) true) := hps
    generalize upM (way.map toM).reverse (upM sp.reverse ([], ([e'], rest))) = s at P2 H2 v1 v2 hold hps
    refine ⟨s.1, s.2.2, P2, H2, by omega, ?_, fun q => ?_, fun _ => by omega⟩
    · have hdo := do_plan ho hm P2 (by omega) H2.lo H2.hi (by omega) hold
      rw [e, List.nil_append, mend, hps, bnd_some]
      show br (notB true) _ (bnd (plan_Do h (s.1, (s.2.2, (s.2.1, ())))) fun r5 => some r5) = _
      rw [show notB true = false from rfl, br_f, hdo, bnd_some]
    · rw [hfind] at q; cases q
/-! ### A call, whatever is asked -/
theorem merge_form {h : List NodeV} (ho : okH h) (root : Int) (key : ByteArray) (hb : fitH h root = true → (bindsT (U h root)).length ≤ 40000000) (hn : isTreeS h root = false) : merge_Run h root key = some ([], (0, (4, ()))) := by
  rw [merge_Run.eq, Is_any ho root hb, bnd_some, hn]
  rfl
theorem merge_tree {h : List NodeV} (ho : okH h) (root : Int) (key : ByteArray) (hb : fitH h root = true → (bindsT (U h root)).length ≤ 40000000) (hn : isTreeS h root = true) : merge_Run h root key = merge_Run.l0 h root (mgO key root noM false [noArm 0, noArm 0]) [] [] := by
  rw [merge_Run.eq, Is_any ho root hb, bnd_some, hn, show notB true = false from rfl, br_f, mnew_any, bnd_some]
/-! ### The chapter's example -/
def exA : ByteArray := ByteArray.mk #[97]
def exB : ByteArray := ByteArray.mk #[98]
def exP : PairV := (exA, (ByteArray.mk #[49], ()))
def exN : NodeV := treeN exP 0 0 1
theorem exP_ok : okT exP := ⟨by decide, by decide⟩
theorem exH_ok : okH [exN] ∧ mayH [exN] = true ∧ U [exN] 1 = treeT [exP] ∧ isTreeS [exN] 1 = true := by
  have hS : Srt ([] ++ exP :: ([] : List PairV)) := List.pairwise_singleton _ _
  have hun : Under (([] : List PairV) ++ []) exP.1 := fun q hq => by cases hq
  have hm : mayH ([] ++ [exN]) = true := may_more rfl (treeN_may exP_ok 0 0 1 (by omega)) fun r hr => by
    rw [refsS_all] at hr
    obtain ⟨h1, h2⟩ := List.mem_filter.1 hr
    have h1 : r ∈ [(0 : Int), 0, 0] := h1
    simp only [decide_eq_true_eq] at h2
    simp at h1
    exact absurd h1 h2
  have hm : mayH [exN] = true := hm
  have ho : okH [exN] := ⟨by show 1 ≤ _; omega, fun n hn => by rw [List.mem_singleton.1 hn]; exact treeN_ok exP_ok.ok 0 0 1, kids_rng hm (by show 1 ≤ _; omega)⟩
  have hu : U [exN] 1 = treeT [exP] := by
    have := treeT_mid hS hun
    rw [List.nil_append] at this
    rw [this, U_node hm (by omega) (by show (1 : Int) ≤ ((1 : Nat) : Int); omega)]
    show Shp.node _ [U [exN] 0, U [exN] 0, U [exN] 0] = _
    rw [U_zero, treeT_nil]
    rfl
  refine ⟨ho, hm, hu, isTree_iff2.2 ⟨fitH_iff.2 ⟨⟨by omega, by show (1 : Int) ≤ ((1 : Nat) : Int); omega⟩, hm⟩, ?_, ?_⟩⟩
  · rw [hu, bindsT_treeT]; exact srt_isS hS
  · rw [hu, bindsT_treeT]
theorem ex_run (key : ByteArray) (hkey : key.size ≤ 1000000) : ∃ (news : List NodeV) (s : Int), PlanOK [exN] news ∧ Has [exN] news s (treeT (dropS key [exP])) ∧ merge_Run [exN] 1 key = some (PS [exN] news, (fillQ 1 s, (0, ()))) ∧ (key ≠ exA → news = [] ∧ s = 1) ∧ (key = exA → news.length + 1 ≤ 1) := by
  obtain ⟨ho, hm, hu, hi⟩ := exH_ok
  have hS : Srt [exP] := List.pairwise_singleton _ _
  rw [merge_tree ho 1 key (fun _ => by rw [hu, bindsT_treeT]; show 1 ≤ _; omega) hi]
  obtain ⟨news, s, P, H, _, e, q1, q2⟩ := merge_walk ho hm (by show 1 ≤ _; omega) (root := 1) (by omega) (by show (1 : Int) ≤ ((1 : Nat) : Int); omega) hS (fun p hp => by rw [List.mem_singleton.1 hp]; exact exP_ok) (by show 1 ≤ _; omega) hu hkey
  refine ⟨news, s, P, H, e, fun hk => q1 ?_, fun hk => q2 ?_⟩
  · rw [List.find?_cons, decide_eq_false (show ¬ exP.1 = key from fun q => hk q.symm)]; rfl
  · rw [List.find?_cons, decide_eq_true (show exP.1 = key from hk.symm)]; intro q; cases q
theorem manswer_any (key : ByteArray) (e : StepM) (arms : List ArmV) (W S : List StepM) : merge_Merge_Answer (mgO key 0 e true arms) W S = some ((e.2.2.2.1, (true, ())), (mgO key 0 e true arms, (W, (S, ())))) := by
  rw [merge_Merge_Answer.eq]
  show br (notB (eqI 0 0)) _ (br (notB true) _ (merge_Merge_Answer.j0 false (mgO key 0 e true arms) W S)) = _
  rw [show notB (eqI 0 0) = false from rfl, br_f, show notB true = false from rfl, br_f, merge_Merge_Answer.j0.eq, br_f]
  rfl
theorem ab_ne : exB ≠ exA := by decide
theorem works28 : law28_works = some true := by
  obtain ⟨ho, hm, hu, hi⟩ := exH_ok
  obtain ⟨n1, s1, P1, H1, e1, _, f1⟩ := ex_run exA (by decide)
  obtain ⟨n2, s2, P2, H2, e2, f2, _⟩ := ex_run exB (by decide)
  have hn1 : n1 = [] := List.eq_nil_of_length_eq_zero (by have := f1 rfl; omega)
  obtain ⟨hn2, hs2⟩ := f2 ab_ne
  subst hn1 hn2 hs2
  have hd : dropS exA [exP] = [] := List.filter_cons_of_neg (by show ¬ (decide (exA ≠ exA) = true); simp)
  have hz : fillQ 1 s1 = 0 := by
    have h2 := H1.shp
    rw [hd, treeT_nil, PS_nil] at h2
    have h3 := fill_in H1.lo H1.hi
    rw [PS_nil] at h3
    exact (U_nil hm h3.1 h3.2).1 h2
  rw [hz, PS_nil] at e1
  rw [PS_nil, show fillQ 1 1 = 1 from rfl] at e2
  rw [law28_works.eq, node_Tree.eq, bnd_some]
  show bnd (merge_Run [exN] 1 exA) (fun r1 => bnd (merge_Run [exN] 1 exB) _) = _
  rw [e1, bnd_some, e2, bnd_some]
  show bnd (merge_New 1 exA) _ = _
  rw [mnew_any, bnd_some]
  show br true (bnd (merge_Merge_Feed exN (mgO exA 1 noM false [noArm 0, noArm 0]) [] []) _) none = _
  rw [br_t, mfeed_way (key := exA) (by decide) (by omega) noM _ [] [] (by show 0 ≤ _; omega) (n := exN) rfl (a := 0) (b := 0) rfl ⟨by show (0 : Int) ≤ 1; omega, by show (1 : Int) ≤ 2000000; omega⟩, if_pos (show exA = exN.2.1 from rfl), nx_zero _ _ _ _ _ _ _ _ (.inl rfl), fedM_some, bnd_some]
  show bnd (merge_Merge_Answer (mgO exA 0 (stM 1 exN 0 0) true [noArm 0, noArm 0]) [] []) _ = _
  rw [manswer_any, bnd_some]
  show bnd (merge_Merge_Plan (mgO exA 0 (stM 1 exN 0 0) true [noArm 0, noArm 0]) [] []) _ = _
  rw [mplan_some exA _ _ _ [] [] (by show 0 ≤ _; omega) (by show 0 ≤ _; omega) (fun x hx => (by cases hx)) (fun x hx => (by cases hx)), bnd_some]
  show br true (br true (br true (br true (br true (br true (br (eqS (ByteArray.mk #[49]) (ByteArray.mk #[49])) (br true (br true (some true) (some false)) (some false)) (some false)) (some false)) (some false)) (some false)) (some false)) (some false)) (some false) = some true
  rw [eqS_d, decide_eq_true rfl]
  simp only [br_t]
/-! ### What its statements begin with -/
theorem refdrop_loop (k : ByteArray) (l : List PairV) (hl : l.length ≤ 50000000) (d : Nat) : ∀ (i : Nat) (acc : List PairV), i ≤ l.length → l.length - i = d → acc.length ≤ i → ref07_Drop.l0 k l i acc = some (acc ++ dropS k (l.drop i)) := by
  induction d with
  | zero =>
    intro i acc hi hd ha
    rw [ref07_Drop.l0.eq]
    simp only [ltI_d, ofN_d, lenL_d, br_if]
    rw [if_neg (by omega), List.drop_eq_nil_of_le (by omega)]
    exact congrArg some (List.append_nil acc).symm
  | succ d ih =>
    intro i acc hi hd ha
    have hil : i < l.length := by omega
    rw [ref07_Drop.l0.eq, ixP l i hil]
    have e : l.drop i = l[i] :: l.drop (i + 1) := List.drop_eq_getElem_cons hil
    simp only [ltI_d, leI_d, eqS_d, notB_d, ofN_d, lenL_d, andB_d, br_if, fitL_d, appL_d]
    rw [if_pos (by omega), if_pos (by omega), add1 i (by omega)]
    by_cases hk : l[i].1 = k
    · rw [if_neg (fun q => q hk), ih (i + 1) acc (by omega) (by omega) (by omega), e]
      have : dropS k (l[i] :: l.drop (i + 1)) = dropS k (l.drop (i + 1)) := List.filter_cons_of_neg (by simpa using hk)
      rw [this]
    · rw [if_pos hk, if_pos (by omega), if_pos (by rw [List.length_append]; show _ + 1 ≤ _; omega), ih (i + 1) (acc ++ [l[i]]) (by omega) (by omega) (by rw [List.length_append]; show _ + 1 ≤ _; omega), e]
      have : dropS k (l[i] :: l.drop (i + 1)) = l[i] :: dropS k (l.drop (i + 1)) := List.filter_cons_of_pos (by simpa using hk)
      rw [this, List.append_assoc]
      rfl
theorem after28 {l : List PairV} (hl : l.length ≤ 1000000) (hS : Srt l) (hs : ∀ p ∈ l, okP p) (k : ByteArray) : ref28_After l k = some (dropS k l) := by
  rw [ref28_After.eq, ref07_Drop.eq, refmake_any l (by omega) hs, bnd_some, makeS_srt hS]
  have := refdrop_loop k l (by omega) l.length 0 [] (by omega) (by omega) (by show 0 ≤ _; omega)
  rw [List.drop_zero, List.nil_append] at this
  exact (congrArg (fun z => bnd z fun r0 => some r0) this).trans (bnd_some _ _)
/-- The bindings that a statement of the chapter begins with. -/
def madeL (l : List PairV) : List PairV := fewL (l.take 16)
theorem madeL_ok (l : List PairV) : (madeL l).length ≤ 16 ∧ ∀ p ∈ madeL l, okP p := by
  refine ⟨?_, fewL_ok _⟩
  unfold madeL fewL
  rw [List.length_map]
  have : (List.take 40 (List.take 16 l)).length ≤ 16 := by rw [List.length_take, List.length_take]; omega
  omega
theorem take16 (l : List PairV) (h : l.length ≤ 9223372036854775807) : andB (leI 0 0) (andB (leI 0 (minI (ofN (lenL tapiPair l)) 16)) (leI (minI (ofN (lenL tapiPair l)) 16) (ofN (lenL tapiPair l)))) = true ∧ subL tapiPair l (toN 0) (toN (minI (ofN (lenL tapiPair l)) 16)) = l.take 16 := by
  have em : minI (ofN (lenL tapiPair l)) 16 = ((min l.length 16 : Nat) : Int) := by
    simp only [minI_d, ofN_d, lenL_d]
    omega
  rw [em]
  refine ⟨?_, ?_⟩
  · simp only [leI_d, andB_d, ofN_d, lenL_d]
    exact decide_eq_true (by omega)
  · rw [subL_pre]
    by_cases q : l.length ≤ 16
    · rw [Nat.min_eq_left q, List.take_length, List.take_of_length_le q]
    · rw [Nat.min_eq_right (by omega)]
theorem made28 {l : List PairV} (h : l.length ≤ 9223372036854775807) : law28_made l = some (if longAny (madeL l) = true then ([], ([], ((0 : Int), (false, ())))) else (makeS (madeL l), ((nodesS [] (makeS (madeL l))).1, ((nodesS [] (makeS (madeL l))).2, (true, ()))))) := by
  obtain ⟨h1, h2⟩ := madeL_ok l
  obtain ⟨t1, t2⟩ := take16 l h
  rw [law28_made.eq, t1, br_t, t2, few_any (l.take 16) (by rw [List.length_take]; omega), bnd_some]
  show bnd (ref20_Long (madeL l)) _ = _
  rw [Long_any _ (by omega) h2, bnd_some]
  cases longAny (madeL l) with
  | true => rw [br_t, if_pos rfl]
  | false =>
    rw [br_f, if_neg (by simp)]
    show bnd (ref25_Make (madeL l)) _ = _
    rw [refMake_any _ (by omega) h2, bnd_some]
    show bnd (ref07_Make (madeL l)) _ = _
    rw [refmake_any _ (by omega) h2, bnd_some]
theorem pre_same (h news : List NodeV) : subL tapiNode (PS h news) (toN 0) (toN (ofN (lenL tapiNode h))) = h := by
  rw [ofN_d, toN_d, show toN 0 = 0 from rfl]
  unfold subL lenL PS
  rw [List.drop_zero, Nat.sub_zero, List.take_left']
  rfl
end Go.Proofs.YtmopkbmcilolgaaGreat.AF
set_option linter.unusedVariables false
set_option linter.unusedSimpArgs false
namespace Go.Proofs.YtmopkbmcilolgaaGreat.Pure
open Go.Abs Go.Proofs.YtmopkbmcilolgaaGreat.AF
theorem MergeRuns (a0 : den (.list tapiPair)) (a1 : den .str) (h0 : wfD (.list tapiPair) a0) (h1 : wfD .str a1) : law28_MergeRuns a0 a1 = some true := by
  obtain ⟨hl, hs⟩ := madeL_ok a0
  have hk : (cut 40 a1).size ≤ 40 := by rw [cut_size]; omega
  rw [law28_MergeRuns.eq, made28 h0.1, bnd_some, base_Cut_40, bnd_some, works28]
  cases hg : longAny (madeL a0) with
  | true =>
    rw [if_pos rfl]
    rfl
  | false =>
    have hb := longAny_false hg
    have hm := makeS_len (madeL a0)
    have hS := makeS_Srt (madeL a0)
    have ht := nodesS_ok _ [] (makeS (madeL a0)) (Nat.le_refl _) rfl hb
    have ho := nodes_okH (l := makeS (madeL a0)) (by omega) hb
    have hn := nodesS_len _ [] (makeS (madeL a0)) (Nat.le_refl _)
    have hi := isTree_nodes (by omega) hS hb
    rw [List.length_nil, Nat.zero_add] at hn
    rw [if_neg (by simp)]
    dsimp only
    generalize hH : (nodesS [] (makeS (madeL a0))).1 = H at ht ho hn hi ⊢
    generalize hR : (nodesS [] (makeS (madeL a0))).2 = R at ht hi ⊢
    generalize hLL : makeS (madeL a0) = l at hb hm hS ht ho hn hi ⊢
    generalize hK : cut 40 a1 = key at hk ⊢
    rw [show notB true = false from rfl, br_f]
    have hbt : bindsT (U H R) = l := by rw [ht.shp, bindsT_treeT]
    obtain ⟨news, s, P, Hs, hnl, e, q1, q2⟩ := merge_walk ho ht.may (by omega) ht.r0 ht.r1 hS hb (by omega) ht.shp (key := key) (by omega)
    have hds := dropS_srt hS key
    have hdl : (dropS key l).length ≤ l.length := List.length_filter_le _ _
    obtain ⟨g1, g2, g3, g4⟩ := tree_plan ho P Hs (by omega) hds
    obtain ⟨⟨g5, g6⟩, g7⟩ := fitH_iff.1 g2
    rw [merge_tree ho R key (fun _ => by rw [hbt]; omega) hi, e, bnd_some]
    dsimp only
    have hrb := refhbinds_any g1 g7 (fillQ H.length s).toNat (fillQ H.length s) g5 (by omega) g6 (by rw [g3]; omega)
    rw [g3] at hrb
    have hin : andB (leI (0 : Int) 0) (andB (leI (0 : Int) (ofN (lenL tapiNode H))) (leI (ofN (lenL tapiNode H)) (ofN (lenL tapiNode (PS H news))))) = true := by
      simp only [leI_d, andB_d, ofN_d, lenL_d, PS_len]
      exact decide_eq_true (by omega)
    have hlt : ltI (ofN (lenL tapiNode (PS H news))) (ofN (lenL tapiNode H)) = false := by
      simp only [ltI_d, ofN_d, lenL_d, PS_len]
      exact decide_eq_false (by omega)
    have hroot : l.find? (fun q => decide (q.1 = key)) = none → eqI (fillQ H.length s) R = true := fun q => by
      obtain ⟨_, rfl⟩ := q1 q
      rw [fillQ_pos _ ht.r0, eqI_d, decide_eq_true rfl]
    rw [show notB (eqI 0 0) = false from rfl, br_f, refIs_any g1 _ (fun _ => by rw [g3]; omega), bnd_some, g4, show notB true = false from rfl, br_f, hlt, br_f, hin, br_t, pre_same, sameH_any H H (by omega) (fun n hn => (ho.node n hn).small), bnd_some, show decide (H = H) = true from decide_eq_true rfl, show notB true = false from rfl]
    rw [law28_MergeRuns.j0.eq, br_f, rget_any l key (by omega), bnd_some, hrb, bnd_some, after28 (by omega) hS (fun p hp => (hb p hp).ok) key, bnd_some, refsameP_any _ _ (by omega), bnd_some, decide_eq_true rfl, br_t, works28, makeS_srt hS]
    cases hf : l.find? (fun q => decide (q.1 = key)) with
    | none =>
      rw [hroot hf]
      rfl
    | some p => rfl
end Go.Proofs.YtmopkbmcilolgaaGreat.Pure
