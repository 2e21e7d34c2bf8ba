/- Texts of one proof, laid together: how the interpreter's words stand for the program's code and what the functions do. No conditions but those that each lemma names. -/
import Derived.Test.YtmopkbmcilolgaaGreatM5
set_option linter.unusedSimpArgs false
set_option linter.unusedVariables false
set_option linter.unusedSimpArgs false
namespace Go.Proofs.YtmopkbmcilolgaaGreat.AE
open Go.Abs
theorem ixS (l : List ByteArray) (i : Nat) (h : i < l.length) : ixL .str l (i : Int) = l[i] := ixL_d .str l i h
def shortS (l : List ByteArray) : Prop := ∀ s ∈ l, s.size ≤ 40
theorem best_short : ∀ (l : List ByteArray) (o : ByteArray), shortS l → o.size ≤ 40 → (best l o).size ≤ 40
  | [], _, _, h => h
  | x :: xs, o, hl, ho => by
    unfold best
    split
    · exact best_short xs x (fun s hs => hl s (List.mem_cons_of_mem _ hs)) (hl x List.mem_cons_self)
    · exact best_short xs o (fun s hs => hl s (List.mem_cons_of_mem _ hs)) ho
theorem ptop_loop (x0 l : List ByteArray) (hl : l.length ≤ 50000000) (hs : shortS l) (d : Nat) : ∀ (i : Nat) (o : ByteArray), 1 ≤ i → i ≤ l.length → l.length - i = d → o.size ≤ 40 → pri_Top.l0 x0 o l l.length i = some (best (l.drop i) o, (decide (0 < (x0.length : Int)), ())) := by
  induction d with
  | zero =>
    intro i o h0 h1 h2 h3
    rw [pri_Top.l0.eq]
    simp only [ltI_d, br_if, ofN_d, lenL_d]
    rw [if_neg (by omega), List.drop_eq_nil_of_le (by omega)]
    rfl
  | succ d ih =>
    intro i o h0 h1 h2 h3
    have hi : i < l.length := by omega
    have hx := hs _ (List.getElem_mem hi)
    rw [pri_Top.l0.eq]
    simp only [ltI_d, leI_d, eqI_d, br_if, ofN_d, lenL_d, andB_d]
    rw [if_pos (by omega), if_pos (by omega), if_neg (by omega), ixS l i hi, above_any _ _ (by omega) (by omega), bnd_some, add1 i (by omega), br_b, ih (i + 1) _ (by omega) (by omega) (by omega) hx, ih (i + 1) _ (by omega) (by omega) (by omega) h3, List.drop_eq_getElem_cons hi, best]
    split <;> rfl
theorem ptop_any (l : List ByteArray) (hl : l.length ≤ 50000000) (h0 : 0 < l.length) (hs : shortS l) : pri_Top l = some ((topT l).1, (true, ())) := by
  rw [pri_Top.eq, pri_Top.l0.eq]
  simp only [ltI_d, leI_d, eqI_d, br_if, ofN_d, lenL_d, andB_d]
  have i0 := ixS l 0 h0
  have hx := hs _ (List.getElem_mem h0)
  rw [show ((0 : Nat) : Int) = 0 from rfl] at i0
  have := ptop_loop l l hl hs (l.length - 1) 1 l[0] (by omega) (by omega) rfl hx
  rw [if_pos (by omega), if_pos (by omega), if_pos trivial, i0, show addI .i64 0 1 = ((1 : Nat) : Int) from add1 0 (by omega), this, decide_eq_true (by omega)]
  cases l with
  | nil => simp at h0
  | cons x xs => rfl
theorem sidx_loop (l : List ByteArray) (x : ByteArray) (p : Nat) (hp : p < l.length) (hx : l[p] = x) (hn : ∀ j (h : j < l.length), j < p → l[j] ≠ x) (hl : l.length ≤ 50000000) (d : Nat) : ∀ (i : Nat), i ≤ p → p - i = d → slices_Indexstring_string.l0 l x l.length i = some (p : Int) := by
  induction d with
  | zero =>
    intro i h1 h2
    have : i = p := by omega
    subst this
    rw [slices_Indexstring_string.l0.eq]
    simp only [ltI_d, leI_d, eqI_d, eqS_d, br_if, ofN_d, lenL_d, andB_d]
    rw [if_pos (by omega), if_pos (by omega), ixS l i hp, hx, if_pos rfl]
  | succ d ih =>
    intro i h1 h2
    have hi : i < l.length := by omega
    rw [slices_Indexstring_string.l0.eq]
    simp only [ltI_d, leI_d, eqI_d, eqS_d, br_if, ofN_d, lenL_d, andB_d]
    rw [if_pos (by omega), if_pos (by omega), ixS l i hi, if_neg (fun e => hn i hi (by omega) e.symm), add1 i (by omega)]
    exact ih (i + 1) (by omega) (by omega)
theorem ttop_fin (l : List PairV) (hl : l.length ≤ 40000000) (h0 : l ≠ []) (hs : ∀ p ∈ l, okP p) : (bnd (pri_Top (l.map (·.1))) fun r0 => bnd (slices_Indexstring_string (l.map (·.1)) r0.1) fun r1 => some r1) = some ((topI l : Nat) : Int) := by
  obtain ⟨t1, t2, t3⟩ := topI_spec l h0
  have hk : (l.map (·.1)).length = l.length := List.length_map ..
  have hp : 0 < l.length := List.length_pos_iff.2 h0
  have hss : shortS (l.map (·.1)) := by
    intro s hs'
    obtain ⟨p, hp, rfl⟩ := List.mem_map.1 hs'
    exact (hs p hp).1
  have hkey : ∀ (j : Nat) (h : j < (l.map (·.1)).length), (l.map (·.1))[j] = keyAt l j := by
    intro j h
    rw [List.getElem_map, keyAt_get l j (by omega)]
  have he : keyAt l (topI l) = (topT (l.map (·.1))).1 := by
    refine top_only ?_ (fun z hz => ?_)
    · rw [← hkey (topI l) (by omega)]; exact List.getElem_mem _
    · obtain ⟨j, hj, rfl⟩ := List.getElem_of_mem hz
      rw [hkey j hj]
      exact t2 j (by omega)
  rw [ptop_any _ (by omega) (by omega) hss, bnd_some, slices_Indexstring_string.eq]
  have := sidx_loop (l.map (·.1)) (topT (l.map (·.1))).1 (topI l) (by omega) (by rw [hkey _ (by omega), he]) (fun j h hj => by rw [hkey j h, ← he]; exact t3 j hj) (by omega) (topI l) 0 (by omega) (by omega)
  rw [show ((0 : Nat) : Int) = 0 from rfl] at this
  simp only [ofN_d, lenL_d]
  rw [this, bnd_some]
theorem ttop_loop (l : List PairV) (hl : l.length ≤ 40000000) (d : Nat) : ∀ (i : Nat), i ≤ l.length → l.length - i = d → tree_top.l0 l l.length i ((l.take i).map (·.1)) = bnd (pri_Top (l.map (·.1))) fun r0 => bnd (slices_Indexstring_string (l.map (·.1)) r0.1) fun r1 => some r1 := by
  induction d with
  | zero =>
    intro i h1 h2
    rw [tree_top.l0.eq]
    simp only [ltI_d, br_if]
    rw [if_neg (by omega), List.take_of_length_le (by omega)]
  | succ d ih =>
    intro i h1 h2
    have hi : i < l.length := by omega
    rw [tree_top.l0.eq]
    simp only [ltI_d, leI_d, br_if, ofN_d, lenL_d, andB_d, fitL_d, appL_d]
    rw [if_pos (by omega), if_pos (by omega), ixP l i hi, add1 i (by omega)]
    have e : (l.take i).map (·.1) ++ [l[i].1] = (l.take (i + 1)).map (·.1) := by
      rw [List.take_succ_eq_append_getElem hi, List.map_append, List.map_singleton]
    rw [e, if_pos (by rw [List.length_map, List.length_take]; omega)]
    exact ih (i + 1) (by omega) (by omega)
theorem ttop_any (l : List PairV) (hl : l.length ≤ 40000000) (h0 : l ≠ []) (hs : ∀ p ∈ l, okP p) : tree_top l = some ((topI l : Nat) : Int) := by
  rw [tree_top.eq]
  have := ttop_loop l hl l.length 0 (by omega) (by omega)
  rw [List.take_zero, List.map_nil, show ((0 : Nat) : Int) = 0 from rfl] at this
  simp only [ofN_d, lenL_d]
  rw [this]
  exact ttop_fin l hl h0 hs
theorem subL_pre (l : List PairV) (i : Nat) : subL tapiPair l (toN 0) (toN (i : Int)) = l.take i := by
  rw [toN_d, show toN 0 = 0 from rfl]; exact subL0 _ _ _
theorem subL_suf (l : List PairV) (i : Nat) : subL tapiPair l (toN (i : Int)) (toN (ofN (lenL tapiPair l))) = l.drop i := by
  rw [toN_d, ofN_d, toN_d]
  unfold subL lenL
  exact List.take_of_length_le (by rw [List.length_drop]; omega)
theorem app1_len {A : Type} (l : List A) (x : A) : (l ++ [x]).length = l.length + 1 := by simp
theorem tnodes_any : ∀ (n : Nat) (h : List NodeV) (l : List PairV), l.length ≤ n → h.length + l.length ≤ 40000000 → (∀ p ∈ l, okP p) → tree_nodes_1 l ((), ((), ())) h = some ((nodesS h l).2, (((), ((), ())), ((), ((nodesS h l).1, ())))) := by
  intro n
  induction n with
  | zero =>
    intro h l hn hb hs
    have : l = [] := List.eq_nil_of_length_eq_zero (by omega)
    subst this
    rw [tree_nodes_1.eq, nodesS_nil]
    rfl
  | succ n ih =>
    intro h l hn hb hs
    by_cases hl : l = []
    · subst hl
      rw [tree_nodes_1.eq, nodesS_nil]
      rfl
    have ht := topI_lt hl
    have hlen : (l.take (topI l)).length = topI l := by rw [List.length_take]; omega
    have ia := ih h (l.take (topI l)) (by omega) (by omega) (fun p hp => hs p (List.mem_of_mem_take hp))
    have la := nodesS_len _ h (l.take (topI l)) (Nat.le_refl _)
    have hlen2 : (l.drop (topI l + 1)).length = l.length - (topI l + 1) := List.length_drop ..
    have ib := ih (nodesS h (l.take (topI l))).1 (l.drop (topI l + 1)) (by omega) (by omega) (fun p hp => hs p (List.mem_of_mem_drop hp))
    have lb := nodesS_len _ (nodesS h (l.take (topI l))).1 (l.drop (topI l + 1)) (Nat.le_refl _)
    rw [tree_nodes_1.eq, ttop_any l (by omega) hl hs, bnd_some]
    simp only [both_self]
    rw [add1 (topI l) (by omega), subL_pre, subL_suf, ia, bnd_some, ib, bnd_some]
    have hpos : 0 < l.length := List.length_pos_iff.2 hl
    simp only [ltI_d, leI_d, eqI_d, br_if, ofN_d, lenL_d, andB_d]
    rw [if_neg (by omega), if_pos (by omega), if_pos (by omega), tree_nodes_1.j0.eq]
    simp only [ltI_d, leI_d, eqI_d, br_if, ofN_d, lenL_d, andB_d]
    rw [if_pos (by omega), if_pos (by omega), ixP l _ ht, node_Tree.eq, bnd_some, nodesS_cons h hl, pairAt_get l _ ht]
    simp only [fitL_d, appL_d, br_if]
    have e : ∀ (A : List NodeV) (x : NodeV), ((A ++ [x]).length : Int) = (A.length : Int) + 1 := fun A x => by rw [app1_len]; omega
    rw [if_pos (by rw [app1_len]; omega)]
    show some ((((nodesS (nodesS h (l.take (topI l))).1 (l.drop (topI l + 1))).1 ++ [_]).length : Int), _) = _
    rw [e]
    rfl
theorem Nodes_any (l : List PairV) (hb : l.length ≤ 40000000) (hs : ∀ p ∈ l, okP p) : tree_nodes l = some ((nodesS [] l).1, ((nodesS [] l).2, ())) := by
  rw [tree_nodes.eq, tnodes_any _ [] l (Nat.le_refl _) (by show 0 + _ ≤ _; omega) hs, bnd_some]
theorem rtop_loop (l : List PairV) (h : List NodeV) (hl : l.length ≤ 40000000) (hs : ∀ p ∈ l, okP p) (d : Nat) : ∀ (i t : Nat), t < i → i + d = l.length → ref25_make1.l0 l t i h = ref25_make1.l0 l (topA l d i t : Nat) (l.length : Int) h := by
  induction d with
  | zero =>
    intro i t h1 h2
    rw [topA, show i = l.length by omega]
  | succ d ih =>
    intro i t h1 h2
    have hi : i < l.length := by omega
    have htl : t < l.length := by omega
    have hx := hs _ (List.getElem_mem hi)
    have hy := hs _ (List.getElem_mem htl)
    rw [ref25_make1.l0.eq]
    simp only [ltI_d, leI_d, eqI_d, br_if, ofN_d, lenL_d, andB_d]
    rw [if_pos (by omega), if_pos (by omega), if_pos (by omega), ixP l i hi, ixP l t htl, refabove_any _ _ (by have := hx.1; omega) (by have := hy.1; omega), bnd_some, add1 i (by omega), br_b, topA, keyAt_get l i hi, keyAt_get l t htl]
    by_cases hc : above l[i].1 l[t].1 = true
    · rw [if_pos hc, if_pos hc]
      exact ih (i + 1) i (by omega) (by omega)
    · rw [if_neg hc, if_neg hc]
      exact ih (i + 1) t (by omega) (by omega)
theorem rnodes_any : ∀ (n : Nat) (h : List NodeV) (l : List PairV), l.length ≤ n → h.length + l.length ≤ 40000000 → (∀ p ∈ l, okP p) → ref25_make1 l h = some (((), ((nodesS h l).2, ())), ((nodesS h l).1, ())) := by
  intro n
  induction n with
  | zero =>
    intro h l hn hb hs
    have : l = [] := List.eq_nil_of_length_eq_zero (by omega)
    subst this
    rw [ref25_make1.eq, nodesS_nil]
    rfl
  | succ n ih =>
    intro h l hn hb hs
    by_cases hl : l = []
    · subst hl
      rw [ref25_make1.eq, nodesS_nil]
      rfl
    have ht := topI_lt hl
    have hlen : (l.take (topI l)).length = topI l := by rw [List.length_take]; omega
    have ia := ih h (l.take (topI l)) (by omega) (by omega) (fun p hp => hs p (List.mem_of_mem_take hp))
    have la := nodesS_len _ h (l.take (topI l)) (Nat.le_refl _)
    have hlen2 : (l.drop (topI l + 1)).length = l.length - (topI l + 1) := List.length_drop ..
    have ib := ih (nodesS h (l.take (topI l))).1 (l.drop (topI l + 1)) (by omega) (by omega) (fun p hp => hs p (List.mem_of_mem_drop hp))
    have lb := nodesS_len _ (nodesS h (l.take (topI l))).1 (l.drop (topI l + 1)) (Nat.le_refl _)
    have hpos : 0 < l.length := List.length_pos_iff.2 hl
    have hloop := rtop_loop l h (by omega) hs (l.length - 1) 1 0 (by omega) (by omega)
    rw [ref25_make1.eq]
    simp only [eqI_d, br_if, ofN_d, lenL_d]
    rw [if_neg (by omega)]
    refine hloop.trans ?_
    show ref25_make1.l0 l ((topI l : Nat) : Int) (l.length : Int) h = _
    rw [ref25_make1.l0.eq]
    simp only [ltI_d, leI_d, eqI_d, br_if, ofN_d, lenL_d, andB_d]
    have e1 := subL_pre l (topI l)
    have e2 := subL_suf l (topI l + 1)
    simp only [ofN_d, lenL_d] at e2
    rw [if_neg (by omega), if_pos (by omega), add1 (topI l) (by omega), e1, ia, bnd_some, if_pos (by omega), e2, ib, bnd_some, if_pos (by omega), if_pos (by omega), ixP l _ ht, nodesS_cons h hl, pairAt_get l _ ht]
    simp only [fitL_d, appL_d, br_if]
    have e : ∀ (A : List NodeV) (x : NodeV), ((A ++ [x]).length : Int) = (A.length : Int) + 1 := fun A x => by rw [app1_len]; omega
    rw [if_pos (by rw [app1_len]; omega), e]
    rfl
theorem refMake_any (l : List PairV) (hb : l.length ≤ 40000000) (hs : ∀ p ∈ l, okP p) : ref25_Make l = some ((nodesS [] (makeS l)).1, ((nodesS [] (makeS l)).2, ())) := by
  have := makeS_len l
  rw [ref25_Make.eq, refmake_any l hb hs, bnd_some, rnodes_any _ [] (makeS l) (Nat.le_refl _) (by show 0 + _ ≤ _; omega) (fun p hp => hs p (makeS_mem hp)), bnd_some]
/-! ### Texts that are short enough -/
def isShort (p : PairV) : Bool := !longP p
theorem longP_ok {p : PairV} : longP p = false ↔ okT p := by
  unfold longP okT
  simp only [Bool.or_eq_false_iff, decide_eq_false_iff_not]
  omega
theorem long_loop (l : List PairV) (hl : l.length ≤ 40000000) (d : Nat) : ∀ (i : Nat), i ≤ l.length → l.length - i = d → ref20_Long.l0 l i = some ((l.drop i).any longP) := by
  induction d with
  | zero =>
    intro i h1 h2
    rw [ref20_Long.l0.eq]
    simp only [ltI_d, ofN_d, lenL_d, br_if]
    rw [if_neg (by omega), List.drop_eq_nil_of_le (by omega)]
    rfl
  | succ d ih =>
    intro i h1 h2
    have hi : i < l.length := by omega
    rw [ref20_Long.l0.eq]
    simp only [ltI_d, leI_d, ofN_d, lenL_d, lenS_d, andB_d, br_if]
    have hin : 0 ≤ (i : Int) ∧ (i : Int) < (l.length : Int) := ⟨by omega, by omega⟩
    rw [if_pos (by omega), if_pos hin, ixP l i hi, add1 i (by omega), ih (i + 1) (by omega) (by omega), List.drop_eq_getElem_cons hi, List.any_cons]
    have el : longP l[i] = (decide (16 < l[i].1.size) || decide (16 < l[i].2.1.size)) := rfl
    rw [el]
    by_cases c1 : 16 < l[i].1.size
    · rw [if_pos (by omega), decide_eq_true c1, Bool.true_or, Bool.true_or]
    · rw [if_neg (by omega), if_pos hin, decide_eq_false c1, Bool.false_or]
      by_cases c2 : 16 < l[i].2.1.size
      · rw [if_pos (by omega), decide_eq_true c2, Bool.true_or]
      · rw [if_neg (by omega), decide_eq_false c2, Bool.false_or]
def longAny (l : List PairV) : Bool := (makeS l).any longP
theorem Long_any (l : List PairV) (hb : l.length ≤ 40000000) (hs : ∀ p ∈ l, okP p) : ref20_Long l = some (longAny l) := by
  have := makeS_len l
  rw [ref20_Long.eq, refmake_any l hb hs, bnd_some]
  have := long_loop (makeS l) (by omega) (makeS l).length 0 (by omega) (by omega)
  rw [List.drop_zero, show ((0 : Nat) : Int) = 0 from rfl] at this
  exact this
theorem longAny_false {l : List PairV} (h : longAny l = false) : ∀ p ∈ makeS l, okT p := by
  intro p hp
  refine longP_ok.1 ?_
  unfold longAny at h
  rw [List.any_eq_false] at h
  exact Bool.eq_false_iff.2 (h p hp)
theorem binds_short {h : List NodeV} (hm : mayH h = true) : ∀ (n : Nat) (r : Int), 0 ≤ r → r ≤ n → r ≤ h.length → ∀ p ∈ bindsT (U h r), okT p := by
  have own : ∀ r : Int, 1 ≤ r → r ≤ h.length → ∀ p ∈ bindsS (getN h r), okT p := by
    intro r h1 h2 p hp
    obtain ⟨_, _, hl, _⟩ := mayS_zero (may_node hm h1 h2).1
    unfold longN at hl
    rw [Bool.or_eq_false_iff] at hl
    unfold bindsS at hp
    split at hp
    · rw [List.mem_singleton] at hp
      subst hp
      exact longP_ok.1 hl.1
    · split at hp
      · have := hl.2
        rw [List.any_eq_false] at this
        exact longP_ok.1 (Bool.eq_false_iff.2 (this p hp))
      · cases hp
  intro n
  induction n with
  | zero =>
    intro r h0 h1 h2 p hp
    have : r = 0 := by omega
    subst this
    rw [U_zero, bindsT_nil] at hp
    cases hp
  | succ n ih =>
    intro r h0 h1 h2 p hp
    by_cases e : r = 0
    · subst e; rw [U_zero, bindsT_nil] at hp; cases hp
    by_cases h4 : (getN h r).1 = 4
    · obtain ⟨a, b, _, _, k3, k4, k5⟩ := bindsU_tree hm (by omega) h2 h4
      rw [k5] at hp
      rcases List.mem_append.1 hp with hp | hp
      · rcases List.mem_append.1 hp with hp | hp
        · exact ih a (by omega) (by omega) (by omega) p hp
        · exact own r (by omega) h2 p hp
      · exact ih b (by omega) (by omega) (by omega) p hp
    · rw [bindsU_refs hm (by omega) h2 h4] at hp
      rcases List.mem_append.1 hp with hp | hp
      · exact own r (by omega) h2 p hp
      · obtain ⟨l, hl, hp⟩ := List.mem_flatten.1 hp
        obtain ⟨x, hx, rfl⟩ := List.mem_map.1 hl
        rw [refsS_all] at hx
        have := (may_node hm (by omega) h2).2 x (List.mem_filter.1 hx).1
        exact ih x (by omega) (by omega) (by omega) p hp
noncomputable def isTreeS (h : List NodeV) (r : Int) : Bool := fitH h r && (isS (bindsT (U h r)) && eqSh (U h r) (treeT (bindsT (U h r))))
theorem hBinds_any {h : List NodeV} (ho : okH h) (r : Int) (hb : fitH h r = true → (bindsT (U h r)).length ≤ 1000000000) : heap_Binds h r = some (if fitH h r = true then (bindsT (U h r), (0, ())) else ([], (4, ()))) := by
  rw [heap_Binds.eq, hmay_any h ho, bnd_some]
  simp only [eqI_d, notB_d, br_if]
  by_cases hf : fitH h r = true
  · obtain ⟨⟨a, b⟩, c⟩ := fitH_iff.1 hf
    rw [if_pos hf, if_pos hf, if_neg (by omega), hbinds_any ho c r.toNat r a (by omega) b (hb hf), bnd_some]
  · rw [if_neg hf, if_neg hf, if_pos (by omega)]
theorem Is_any {h : List NodeV} (ho : okH h) (r : Int) (hb : fitH h r = true → (bindsT (U h r)).length ≤ 40000000) : tree_Is h r = some (isTreeS h r) := by
  rw [tree_Is.eq, hBinds_any ho r (fun hf => by have := hb hf; omega), bnd_some]
  unfold isTreeS
  by_cases hf : fitH h r = true
  · obtain ⟨⟨a, b⟩, c⟩ := fitH_iff.1 hf
    have hl := hb hf
    have hs := binds_short c r.toNat r a (by omega) b
    have ht := nodesS_ok _ [] (bindsT (U h r)) (Nat.le_refl _) rfl hs
    have hg := nodes_okH hl hs
    have hfg : fitH (nodesS [] (bindsT (U h r))).1 (nodesS [] (bindsT (U h r))).2 = true := fitH_iff.2 ⟨⟨ht.r0, ht.r1⟩, ht.may⟩
    rw [if_pos hf, eqI_d, decide_eq_true rfl, show notB true = false from rfl, br_f, is_any _ (by omega) (fun p hp => (hs p hp).ok), bnd_some, hf, Bool.true_and]
    cases hi : isS (bindsT (U h r)) with
    | false => rw [show notB false = true from rfl, br_t, Bool.false_and]
    | true => rw [show notB true = false from rfl, br_f, Bool.true_and, Nodes_any _ hl (fun p hp => (hs p hp).ok), bnd_some, hSame_any _ _ ho hg, bnd_some, hf, hfg, Bool.true_and, Bool.true_and, ht.shp]
  · rw [if_neg hf, eqI_d, decide_eq_false (by show ¬ (4 : Int) = 0; omega), show notB false = true from rfl, br_t, Bool.eq_false_iff.2 hf, Bool.false_and]
theorem isTree_make (l : List PairV) (s : Shp) (hs : bindsT s = l) : (isS l && eqSh s (treeT l)) = eqSh s (treeT (makeS l)) := by
  cases hi : isS l with
  | true => rw [Bool.true_and, makeS_srt (isS_srt hi)]
  | false =>
    rw [Bool.false_and]
    refine (eqSh_not ?_).symm
    intro e
    rw [e, bindsT_treeT] at hs
    rw [← hs, srt_isS (makeS_Srt l)] at hi
    cases hi
theorem refIs_any {h : List NodeV} (ho : okH h) (r : Int) (hb : fitH h r = true → (bindsT (U h r)).length ≤ 40000000) : ref25_Is h r = some (isTreeS h r) := by
  rw [ref25_Is.eq, fits_any h ho, bnd_some]
  unfold isTreeS
  cases hf : fitH h r with
  | false => rw [show notB false = true from rfl, br_t, Bool.false_and]
  | true =>
    obtain ⟨⟨a, b⟩, c⟩ := fitH_iff.1 hf
    have hl := hb hf
    have hs := binds_short c r.toNat r a (by omega) b
    have hm := makeS_len (bindsT (U h r))
    have hs' : ∀ p ∈ makeS (bindsT (U h r)), okT p := fun p hp => hs p (makeS_mem hp)
    have ht := nodesS_ok _ [] (makeS (bindsT (U h r))) (Nat.le_refl _) rfl hs'
    have hg := nodes_okH (by omega) hs'
    have hfg : fitH (nodesS [] (makeS (bindsT (U h r)))).1 (nodesS [] (makeS (bindsT (U h r)))).2 = true := fitH_iff.2 ⟨⟨ht.r0, ht.r1⟩, ht.may⟩
    rw [show notB true = false from rfl, br_f, Bool.true_and, refhbinds_any ho c r.toNat r a (by omega) b (by omega), bnd_some, refMake_any _ hl (fun p hp => (hs p hp).ok), bnd_some, refSame_any _ _ ho hg, bnd_some, hf, hfg, Bool.true_and, Bool.true_and, ht.shp, isTree_make _ _ rfl]
end Go.Proofs.YtmopkbmcilolgaaGreat.AE
set_option linter.unusedVariables false
set_option linter.unusedSimpArgs false
namespace Go.Proofs.YtmopkbmcilolgaaGreat.AE
open Go.Abs
def leafN (p : PairV) : NodeV := (1, (p.1, (p.2.1, (0, ([], (0, ([], (1, (0, ())))))))))
theorem leaf_may {p : PairV} (hp : okP p) : mayS (leafN p) = if longP p = true then 6 else 0 := by
  unfold mayS
  rw [if_neg (by show ¬ (1 : Int) < 1; omega), if_neg (by show ¬ (6 : Int) < 1; omega)]
  have hl : longN (leafN p) = longP p := by
    show (longP p || false) = _
    rw [Bool.or_false]
  rw [hl]
  by_cases h : longP p = true
  · rw [if_pos h, if_pos h]
  · rw [if_neg h, if_neg h, if_pos]
    refine ⟨Int.le_refl _, ?_⟩
    rw [if_pos (show (leafN p).1 = 1 ∨ (leafN p).1 = 6 from .inl rfl)]
    exact ⟨rfl, fun q => (by cases q), fun _ => ⟨rfl, rfl⟩, fun _ => rfl, fun _ => rfl⟩
theorem leaf_okN {p : PairV} (hp : okP p) : okN (leafN p) := ⟨hp.1, hp.2, by show (0 : Int) ≤ 0; omega, by show (0 : Int) < 4294967296; omega, by show 0 ≤ _; omega, by show 0 ≤ _; omega, fun q hq => (by cases hq)⟩
end Go.Proofs.YtmopkbmcilolgaaGreat.AE
set_option linter.unusedVariables false
set_option linter.unusedSimpArgs false
namespace Go.Proofs.YtmopkbmcilolgaaGreat.AE
open Go.Abs
theorem find_put (p : PairV) (k : ByteArray) : ∀ l : List PairV, (putS l p).find? (fun q => decide (q.1 = k)) = if p.1 = k then some p else l.find? (fun q => decide (q.1 = k))
  | [] => by
    show List.find? _ [p] = _
    rw [List.find?_cons]
    by_cases h : p.1 = k
    · rw [if_pos h, decide_eq_true h]
    · rw [if_neg h, decide_eq_false h]
  | q :: qs => by
    rcases tri q.1 p.1 with ⟨h, _, hne⟩ | ⟨h, _⟩ | ⟨h, _, hne⟩
    · rw [putS_lt h, List.find?_cons, find_put p k qs, List.find?_cons]
      by_cases hq : q.1 = k
      · have hp : ¬ p.1 = k := fun e => hne (hq.trans e.symm)
        rw [decide_eq_true hq]
        show (some q : Option PairV) = if p.1 = k then some p else some q
        rw [if_neg hp]
      · rw [decide_eq_false hq]
    · rw [putS_eq h, List.find?_cons, List.find?_cons]
      by_cases hp : p.1 = k
      · rw [if_pos hp, decide_eq_true hp]
      · rw [if_neg hp, decide_eq_false hp, decide_eq_false (fun e => hp (h.symm.trans e))]
    · rw [putS_gt h, List.find?_cons]
      by_cases hp : p.1 = k
      · rw [if_pos hp, decide_eq_true hp]
      · rw [if_neg hp, decide_eq_false hp]
theorem find_fold (k : ByteArray) : ∀ (l acc : List PairV), (l.foldl putS acc).find? (fun q => decide (q.1 = k)) = (l.reverse.find? (fun q => decide (q.1 = k))).or (acc.find? (fun q => decide (q.1 = k)))
  | [], _ => rfl
  | p :: l, acc => by
    rw [List.foldl_cons, find_fold k l, find_put, List.reverse_cons, List.find?_append, Option.or_assoc]
    congr 1
    rw [List.find?_cons]
    by_cases h : p.1 = k
    · rw [if_pos h, decide_eq_true h]; rfl
    · rw [if_neg h, decide_eq_false h]; rfl
theorem find_make (k : ByteArray) (l : List PairV) : (makeS l).find? (fun q => decide (q.1 = k)) = l.reverse.find? (fun q => decide (q.1 = k)) := by
  have := find_fold k l []
  rw [List.find?_nil, Option.or_none] at this
  exact this
def valF (o : Option PairV) : ByteArray × Bool × Unit := match o with
  | some p => (p.2.1, (true, ()))
  | none => (ByteArray.empty, (false, ()))
theorem subI_nat (n : Nat) (h : n ≤ 1000000000) : subI .i64 (n : Int) 1 = (n : Int) - 1 := subI_d (by omega) (by omega)
theorem rget_loop (l : List PairV) (k : ByteArray) (hl : l.length ≤ 50000000) : ∀ (n : Nat), n ≤ l.length → ref07_Get.l0 l k ((n : Int) - 1) = some (valF ((l.take n).reverse.find? (fun q => decide (q.1 = k)))) := by
  intro n
  induction n with
  | zero =>
    intro h
    rw [ref07_Get.l0.eq, leI_d, br_if, if_neg (by omega), List.take_zero]
    rfl
  | succ n ih =>
    intro h
    have hi : n < l.length := by omega
    rw [show (((n + 1 : Nat) : Int) - 1) = (n : Int) by omega, ref07_Get.l0.eq]
    simp only [leI_d, ltI_d, ofN_d, lenL_d, andB_d, eqS_d, br_if]
    have hin : 0 ≤ (n : Int) ∧ (n : Int) < (l.length : Int) := ⟨by omega, by omega⟩
    rw [if_pos hin.1, if_pos hin, ixP l n hi, if_pos hin, subI_nat n (by omega), ih (by omega), List.take_succ_eq_append_getElem hi, List.reverse_append, List.reverse_singleton]
    show _ = some (valF (List.find? _ (l[n] :: (l.take n).reverse)))
    rw [List.find?_cons]
    by_cases e : l[n].1 = k
    · rw [if_pos e, decide_eq_true e]; rfl
    · rw [if_neg e, decide_eq_false e]
theorem rget_any (l : List PairV) (k : ByteArray) (hl : l.length ≤ 50000000) : ref07_Get l k = some (valF ((makeS l).find? (fun q => decide (q.1 = k)))) := by
  rw [ref07_Get.eq, find_make]
  simp only [ofN_d, lenL_d]
  rw [subI_nat _ (by omega), rget_loop l k hl l.length (Nat.le_refl _), List.take_length]
end Go.Proofs.YtmopkbmcilolgaaGreat.AE
set_option linter.unusedVariables false
set_option linter.unusedSimpArgs false
namespace Go.Proofs.YtmopkbmcilolgaaGreat.AE
open Go.Abs
theorem WayT.refs {h : List NodeV} {k : ByteArray} {r : Int} {l : List PairV} {way : List StepV} {e : Int} {m : List PairV} (w : WayT h k r l way e m) : 0 ≤ r → (way.length : Int) ≤ r := by
  induction w with
  | done r l => exact fun h => h
  | left N hlt w ih =>
    intro h0
    have := ih N.a0
    have := N.a1
    rw [List.length_cons]; omega
  | right N hlt w ih =>
    intro h0
    have := ih N.b0
    have := N.b1
    rw [List.length_cons]; omega
/-- The walk through a heap's tree. -/
theorem run_loop {h : List NodeV} (ho : okH h) (hm : mayH h = true) (root how : Int) {key : ByteArray} (hkey : key.size ≤ 2000000) (val old : ByteArray) : ∀ (d : Nat) (r : Int) (l : List PairV) (W : List StepV), r.toNat ≤ d → 0 ≤ r → r ≤ h.length → Srt l → (∀ p ∈ l, okT p) → U h r = treeT l → W.length + r.toNat ≤ 2000000 →
    (∃ way, WayT h key r l way 0 [] ∧ split_Run.l0 h root (spO how key val old r noSt false) W = split_Run.l0 h root (spO how key val old 0 noSt false) (W ++ way)) ∨
    (∃ way e p L R a b, WayT h key r l way e (L ++ p :: R) ∧ NodeAt h e p L R a b ∧ p.1 = key ∧ split_Run.l0 h root (spO how key val old r noSt false) W = split_Run.l0 h root (spO how key val old 0 (stV e (getN h e) 0) true) (W ++ way)) := by
  have hlen := ho.len
  intro d
  induction d with
  | zero =>
    intro r l W hd h0 h1 hS ht hu hW
    have : r = 0 := by omega
    subst this
    rw [(treeT_nil_iff hm h0 h1 hu).1 rfl]
    exact .inl ⟨[], .done 0 [], by rw [List.append_nil]⟩
  | succ d ih =>
    intro r l W hd h0 h1 hS ht hu hW
    by_cases hl : l = []
    · subst hl
      have := (treeT_nil_iff hm h0 h1 hu).2 rfl
      subst this
      exact .inl ⟨[], .done 0 [], by rw [List.append_nil]⟩
    obtain ⟨L, p, R, a, b, rfl, N⟩ := node_at hm h0 h1 hl hS ht hu
    have hr := N.r1
    obtain ⟨s1, s2, s3, s4, _⟩ := srt_three N.srt
    have hf := sfeed_any how hkey val old (r := r) (by omega) noSt W (by omega) N.kind N.kids
    have hstep : split_Run.l0 h root (spO how key val old r noSt false) W = bnd (split_Split_Feed (getN h r) (spO how key val old r noSt false) W) fun r2 => split_Run.l0 h root r2.2.1 r2.2.2.1 := by
      rw [split_Run.l0.eq, swant_any, bnd_some]
      dsimp only
      rw [eqI_d, decide_eq_false (by omega), show notB false = true from rfl, br_t, swant_any, bnd_some]
      dsimp only
      rw [inG h r hr h1 (by omega), br_t, ixG h r hr h1 (by omega)]
    have hwl : ∀ x : StepV, (W ++ [x]).length = W.length + 1 := fun x => by rw [List.length_append]; rfl
    rw [hstep, hf, N.key]
    by_cases c0 : key = p.1
    · rw [if_pos c0, bnd_some]
      exact .inr ⟨[], r, p, L, R, a, b, .done r _, N, c0.symm, by rw [List.append_nil]⟩
    rw [if_neg c0]
    by_cases c1 : lt key p.1 = true
    · rw [if_pos c1, bnd_some]
      have a0 := N.a0
      have a1 := N.a1
      rcases ih a L (W ++ [stV r (getN h r) 0]) (by omega) a0 (by omega) s1 (fun q hq => ht q (List.mem_append_left _ hq)) N.left (by rw [hwl]; omega) with ⟨way, w, e⟩ | ⟨way, e', p', L', R', a', b', w, N', hp, e⟩
      · exact .inl ⟨_ :: way, .left N c1 w, e.trans (by rw [List.append_assoc]; rfl)⟩
      · exact .inr ⟨_ :: way, e', p', L', R', a', b', .left N c1 w, N', hp, e.trans (by rw [List.append_assoc]; rfl)⟩
    · have c2 : lt p.1 key = true := by
        rcases tri key p.1 with ⟨q, _⟩ | ⟨q, _⟩ | ⟨q, _⟩
        · exact absurd q c1
        · exact absurd q c0
        · exact q
      rw [if_neg c1, bnd_some]
      have b0 := N.b0
      have b1 := N.b1
      rcases ih b R (W ++ [stV r (getN h r) 1]) (by omega) b0 (by omega) s2 (fun q hq => ht q (List.mem_append_right _ (List.mem_cons_of_mem _ hq))) N.right (by rw [hwl]; omega) with ⟨way, w, e⟩ | ⟨way, e', p', L', R', a', b', w, N', hp, e⟩
      · exact .inl ⟨_ :: way, .right N c2 w, e.trans (by rw [List.append_assoc]; rfl)⟩
      · exact .inr ⟨_ :: way, e', p', L', R', a', b', .right N c2 w, N', hp, e.trans (by rw [List.append_assoc]; rfl)⟩
/-- Does a call change something, of what a key is bound to? -/
def chS (how : Int) (old : ByteArray) (o : Option PairV) : Bool := decide (how = 1 ∨ (how = 2 ∧ o.isSome = false) ∨ (how = 3 ∧ o.isSome = true ∧ (valF o).1 = old))
theorem refchanges_any (how : Int) (old : ByteArray) (o : Option PairV) : ref23_Changes how old (valF o).1 (valF o).2.1 = some (chS how old o) := by
  have hb : (valF o).2.1 = o.isSome := by cases o <;> rfl
  rw [ref23_Changes.eq, hb]
  unfold chS
  simp only [eqI_d, eqS_d, br_if]
  by_cases h1 : how = 1
  · rw [if_pos h1, decide_eq_true (.inl h1)]
  rw [if_neg h1]
  by_cases h2 : how = 2
  · rw [if_pos h2]
    cases o with
    | none => rw [decide_eq_true (.inr (.inl ⟨h2, rfl⟩))]; rfl
    | some p => rw [decide_eq_false (by rintro (q | ⟨_, q⟩ | ⟨q, _⟩); exact h1 q; cases q; omega)]; rfl
  rw [if_neg h2]
  by_cases h3 : how = 3
  · rw [if_pos h3]
    cases o with
    | none => rw [show (none : Option PairV).isSome = false from rfl, br_f, decide_eq_false (by rintro (q | ⟨q, _⟩ | ⟨_, q, _⟩); exact h1 q; omega; cases q)]
    | some p =>
      rw [show (some p).isSome = true from rfl, br_t]
      by_cases q : (valF (some p)).1 = old
      · rw [decide_eq_true q, decide_eq_true (.inr (.inr ⟨h3, rfl, q⟩))]
      · rw [decide_eq_false q, decide_eq_false (by rintro (q' | ⟨q', _⟩ | ⟨_, _, q'⟩); exact h1 q'; omega; exact q q')]
  · rw [if_neg h3, decide_eq_false (by rintro (q | ⟨q, _⟩ | ⟨q, _⟩); exact h1 q; exact h2 q; exact h3 q)]
/-- Bindings behind a call. -/
def afterS (how : Int) (x : PairV) (old : ByteArray) (l : List PairV) : List PairV := if chS how old (l.find? fun q => decide (q.1 = x.1)) = true then putS l x else l
theorem find_mid {L R : List PairV} {p : PairV} (hS : Srt (L ++ p :: R)) : (L ++ p :: R).find? (fun q => decide (q.1 = p.1)) = some p := by
  obtain ⟨s1, s2, s3, s4, _⟩ := srt_three hS
  rw [List.find?_append, List.find?_eq_none.2 (fun q hq => by simpa using ne_of_lt (s3 q hq)), Option.none_or, List.find?_cons, decide_eq_true rfl]
/-- What a call makes of a heap's tree. -/
theorem run_walk {h : List NodeV} (ho : okH h) (hm : mayH h = true) (hl : h.length ≤ 900) {root how : Int} (h0 : 0 ≤ root) (h1 : root ≤ h.length) {l : List PairV} (hS : Srt l) (ht : ∀ p ∈ l, okT p) (hll : l.length ≤ 2000000) (hu : U h root = treeT l) {key val : ByteArray} (hx : okT (key, (val, ()))) (old : ByteArray) :
    ∃ news s, PlanOK h news ∧ Has h news s (treeT (afterS how (key, (val, ())) old l)) ∧ news.length ≤ 1000 ∧ split_Run.l0 h root (spO how key val old root noSt false) [] = some (PS h news, (fillQ h.length s, (0, ()))) ∧ (l = [] → chS how old none = true → news = [treeI key val 0 0 1] ∧ s = -1) ∧ (chS how old (l.find? fun q => decide (q.1 = key)) = false → news = [] ∧ s = root) := by
  have hk1 : key.size ≤ 16 := hx.1
  have hv1 : val.size ≤ 16 := hx.2
  have hend : ∀ (e : StepV) (found : Bool) (W : List StepV), split_Run.l0 h root (spO how key val old 0 e found) W = bnd (split_Split_Plan (spO how key val old 0 e found) W) fun r3 => br (notB r3.1.2.1) (bnd (plan_Do h ([], (root, ([], ())))) fun r4 => some r4) (bnd (plan_Do h (r3.2.2.2.1, (r3.1.1.2.1, (r3.2.2.2.2.1, ())))) fun r5 => some r5) := fun e found W => by
    rw [split_Run.l0.eq, swant_any, bnd_some]
    dsimp only
    rw [eqI_d, decide_eq_true rfl, show notB true = false from rfl, br_f]
  have hsame := do_plan ho hm (PlanOK.nil hm) (by show 0 ≤ _; omega) (root := root) (by show -((0 : Nat) : Int) ≤ _; omega) h1 (old := []) (by show 0 ≤ _; omega) (fun r hr => by cases hr)
  have hstay : ∀ (e : StepV) (found : Bool) (W : List StepV), ¬ (how = 1 ∨ (how = 2 ∧ found = false) ∨ (how = 3 ∧ found = true ∧ e.2.2.2.1 = old)) → split_Run.l0 h root (spO how key val old 0 e found) W = some (PS h [], (fillQ h.length root, (0, ()))) := fun e found W hc => by
    rw [hend, plan_none how key val old W e found hc, bnd_some]
    show br true (bnd (plan_Do h ([], (root, ([], ())))) fun r4 => some r4) _ = _
    rw [br_t, hsame.1, bnd_some]
  have hgo : ∀ (e : StepV) (found : Bool) (W : List StepV) (S : PlanS), split_Split_Plan (spO how key val old 0 e found) W = some (planV how key val old W e found S true) → PlanOK h S.1 → S.1.length ≤ 1000 → S.2.1.length ≤ 1000 → (∀ r ∈ S.2.1, 1 ≤ r ∧ r ≤ h.length) → ∀ t, Has h S.1 S.2.2 t → split_Run.l0 h root (spO how key val old 0 e found) W = some (PS h S.1, (fillQ h.length S.2.2, (0, ()))) := fun e found W S hp P n1 n2 n3 t H => by
    rw [hend, hp, bnd_some]
    show br false _ (bnd (plan_Do h (S.1, (S.2.2, (S.2.1, ())))) fun r5 => some r5) = _
    rw [br_f, (do_plan ho hm P n1 H.lo H.hi n2 n3).1, bnd_some]
  rcases run_loop ho hm root how (key := key) (by omega) val old root.toNat root l [] (Nat.le_refl _) h0 h1 hS ht hu (by show 0 + _ ≤ _; omega) with ⟨way, w, e⟩ | ⟨way, e', p, L, R, a, b, w, N, hp, e⟩
  · rw [List.nil_append] at e
    have hfind : l.find? (fun q => decide (q.1 = key)) = none := by rw [w.find]; rfl
    have hwl := w.refs h0
    obtain ⟨w1, w2, w3, _⟩ := w.ok hll
    have eaf : afterS how (key, (val, ())) old l = if chS how old none = true then putS l (key, (val, ())) else l := by unfold afterS; rw [hfind]
    rw [e, hfind]
    by_cases hc : chS how old none = true
    · have hc' : how = 1 ∨ (how = 2 ∧ false = false) ∨ (how = 3 ∧ false = true ∧ noSt.2.2.2.1 = old) := by
        unfold chS at hc
        rcases of_decide_eq_true hc with q | ⟨q, _⟩ | ⟨_, q, _⟩
        · exact .inl q
        · exact .inr (.inl ⟨q, rfl⟩)
        · cases q
      obtain ⟨f, f1, f2, f3, f4⟩ := bot_new how (key := key) (val := val) (by omega) (by omega) old way noSt (by omega) w1
      obtain ⟨P, H⟩ := split_new hm hx hS w f1 f2 f3
      have hlen : (way.drop f).reverse.length ≤ 900 := by rw [List.length_reverse, List.length_drop]; omega
      obtain ⟨_, _, c3, c4⟩ := cutL_ok (way.drop f).reverse ⟨[], [], noHf, noHf, 0⟩ 0 (fun x hx => w1 x (List.mem_of_mem_drop (List.mem_reverse.1 hx))) ⟨by decide, by decide⟩ ⟨by decide, by decide⟩ (Int.le_refl _) (by decide)
      change (cutWay way f).news.length = 0 + _ at c3
      change (cutWay way f).old.length = 0 + _ at c4
      have hb1 : (botN key val way f).1.length = (cutWay way f).news.length + 1 := by unfold botN; rw [List.length_append]; rfl
      have hb2 : (botN key val way f).2.1.length = (cutWay way f).old.length := rfl
      obtain ⟨u1, u2⟩ := upL_len 1 (way.take f).reverse (botN key val way f)
      have hdl : (way.drop f).reverse.length + (way.take f).reverse.length = way.length := by rw [List.length_reverse, List.length_reverse, List.length_drop, List.length_take]; omega
      have hold : ∀ r ∈ (upL 1 (way.take f).reverse (botN key val way f)).2.1, 1 ≤ r ∧ r ≤ h.length := by
        intro r hr
        rw [upL_old] at hr
        rcases List.mem_append.1 hr with hr | hr
        · have hr : r ∈ (cutWay way f).old := hr
          unfold cutWay at hr
          rw [cutL_old] at hr
          obtain ⟨x, hx, rfl⟩ := List.mem_map.1 (by simpa using hr : r ∈ (way.drop f).reverse.map (·.1))
          exact w2 x (List.mem_of_mem_drop (List.mem_reverse.1 hx))
        · obtain ⟨x, hx, rfl⟩ := List.mem_map.1 hr
          exact w2 x (List.mem_of_mem_take (List.mem_reverse.1 hx))
      have hps := plan_some how key val old way noSt false (by omega) w1 f1 (s := botN key val way f) (by omega) (by omega) hc' f4
      rw [if_neg (show ¬ (false = true) by simp)] at hps
      rw [eaf, if_pos hc]
      refine ⟨_, _, P, H, by omega, hgo _ _ _ _ hps P (by omega) (by omega) hold _ H, ?_, fun q => ?_⟩
      · rintro rfl _
        cases way with
        | nil =>
          have : f = 0 := by simpa using f1
          subst this
          exact ⟨rfl, rfl⟩
        | cons x way =>
          have := w3
          simp at this
      · rw [hc] at q; cases q
    · have hc' : ¬ (how = 1 ∨ (how = 2 ∧ false = false) ∨ (how = 3 ∧ false = true ∧ noSt.2.2.2.1 = old)) := by
        intro q
        refine hc ?_
        unfold chS
        refine decide_eq_true ?_
        rcases q with q | ⟨q, _⟩ | ⟨_, q, _⟩
        · exact .inl q
        · exact .inr (.inl ⟨q, rfl⟩)
        · cases q
      rw [eaf, if_neg hc]
      exact ⟨[], root, PlanOK.nil hm, hu ▸ Has.heap hm h0 h1, by show 0 ≤ _; omega, hstay _ _ _ hc', fun _ q => absurd q hc, fun _ => ⟨rfl, rfl⟩⟩
  · rw [List.nil_append] at e
    have hfind : l.find? (fun q => decide (q.1 = key)) = some p := by rw [w.find, ← hp]; exact find_mid N.srt
    have hwl := w.refs h0
    obtain ⟨w1, w2, w3, _⟩ := w.ok hll
    have eaf : afterS how (key, (val, ())) old l = if chS how old (some p) = true then putS l (key, (val, ())) else l := by unfold afterS; rw [hfind]
    have hev : (stV e' (getN h e') 0).2.2.2.1 = p.2.1 := N.val
    rw [e, hfind]
    have hne : l ≠ [] := by rintro rfl; cases hfind
    by_cases hc : chS how old (some p) = true
    · have hc' : how = 1 ∨ (how = 2 ∧ true = false) ∨ (how = 3 ∧ true = true ∧ (stV e' (getN h e') 0).2.2.2.1 = old) := by
        rw [hev]
        unfold chS at hc
        rcases of_decide_eq_true hc with q | ⟨_, q⟩ | ⟨q, _, q2⟩
        · exact .inl q
        · cases q
        · exact .inr (.inr ⟨q, rfl, q2⟩)
      obtain ⟨P, H⟩ := split_found hm hx hS hll w N hp
      have hbf := bot_found how (key := key) (val := val) (by omega) (by omega) old way (stV e' (getN h e') 0) N.kids
      obtain ⟨u1, u2⟩ := upL_len 0 way.reverse (botF key val (stV e' (getN h e') 0))
      have hb1 : (botF key val (stV e' (getN h e') 0)).1.length = 1 := rfl
      have hb2 : (botF key val (stV e' (getN h e') 0)).2.1.length = 1 := rfl
      rw [List.length_reverse] at u1 u2
      have hold : ∀ r ∈ (upL 0 way.reverse (botF key val (stV e' (getN h e') 0))).2.1, 1 ≤ r ∧ r ≤ h.length := by
        intro r hr
        rw [upL_old] at hr
        rcases List.mem_append.1 hr with hr | hr
        · have hr : r ∈ [e'] := hr
          rw [List.mem_singleton.1 hr]
          exact ⟨N.r1, N.r2⟩
        · obtain ⟨x, hx, rfl⟩ := List.mem_map.1 hr
          exact w2 x (List.mem_reverse.1 hx)
      have hps := plan_some how key val old way (stV e' (getN h e') 0) true (by omega) w1 (Nat.le_refl _) (s := botF key val (stV e' (getN h e') 0)) (by omega) (by omega) hc' hbf
      rw [if_pos rfl, List.take_length] at hps
      rw [eaf, if_pos hc]
      exact ⟨_, _, P, H, by omega, hgo _ _ _ _ hps P (by omega) (by omega) hold _ H, fun q => absurd q hne, fun q => by rw [hc] at q; cases q⟩
    · have hc' : ¬ (how = 1 ∨ (how = 2 ∧ true = false) ∨ (how = 3 ∧ true = true ∧ (stV e' (getN h e') 0).2.2.2.1 = old)) := by
        rw [hev]
        intro q
        refine hc ?_
        unfold chS
        refine decide_eq_true ?_
        rcases q with q | ⟨_, q⟩ | ⟨q, _, q2⟩
        · exact .inl q
        · cases q
        · exact .inr (.inr ⟨q, rfl, q2⟩)
      rw [eaf, if_neg hc]
      exact ⟨[], root, PlanOK.nil hm, hu ▸ Has.heap hm h0 h1, by show 0 ≤ _; omega, hstay _ _ _ hc', fun q => absurd q hne, fun _ => ⟨rfl, rfl⟩⟩
/-! ### A call, whatever is asked -/
theorem leafnode_any (k v : ByteArray) : node_Leaf k v = some (leafN (k, (v, ()))) := node_Leaf.eq _ _
theorem isTree_iff2 {h : List NodeV} {r : Int} : isTreeS h r = true ↔ fitH h r = true ∧ isS (bindsT (U h r)) = true ∧ U h r = treeT (bindsT (U h r)) := by
  unfold isTreeS
  rw [Bool.and_eq_true, Bool.and_eq_true, eqSh_iff]
theorem run_arg (h : List NodeV) (root how : Int) {key val : ByteArray} (hkv : okP (key, (val, ()))) (old : ByteArray) (hh : ¬ (1 ≤ how ∧ how ≤ 3)) : split_Run h root how key val old = some ([], (0, (2, ()))) := by
  rw [split_Run.eq, leafnode_any, bnd_some, may_any _ (leaf_okN hkv), bnd_some, ltI_d, ltI_d, br_if, br_if]
  by_cases q : how < 1
  · rw [if_pos q]
  · rw [if_neg q, if_pos (by omega)]
theorem run_long (h : List NodeV) (root how : Int) {key val : ByteArray} (hkv : okP (key, (val, ()))) (old : ByteArray) (hh : 1 ≤ how ∧ how ≤ 3) (hl : longP (key, (val, ())) = true) : split_Run h root how key val old = some ([], (0, (6, ()))) := by
  rw [split_Run.eq, leafnode_any, bnd_some, may_any _ (leaf_okN hkv), bnd_some, leaf_may hkv, if_pos hl, ltI_d, ltI_d, br_if, br_if, if_neg (by omega), if_neg (by omega)]
  rfl
theorem run_form {h : List NodeV} (ho : okH h) (root how : Int) {key val : ByteArray} (hkv : okT (key, (val, ()))) (old : ByteArray) (hh : 1 ≤ how ∧ how ≤ 3) (hb : fitH h root = true → (bindsT (U h root)).length ≤ 40000000) (hn : isTreeS h root = false) : split_Run h root how key val old = some ([], (0, (4, ()))) := by
  rw [split_Run.eq, leafnode_any, bnd_some, may_any _ (leaf_okN hkv.ok), bnd_some, leaf_may hkv.ok, if_neg (by rw [longP_ok.2 hkv]; simp), ltI_d, ltI_d, br_if, br_if, if_neg (by omega), if_neg (by omega), Is_any ho root hb, hn]
  rfl
theorem run_tree {h : List NodeV} (ho : okH h) {root how : Int} {key val : ByteArray} (hkv : okT (key, (val, ()))) (old : ByteArray) (hh : 1 ≤ how ∧ how ≤ 3) (hb : fitH h root = true → (bindsT (U h root)).length ≤ 40000000) (hn : isTreeS h root = true) : split_Run h root how key val old = split_Run.l0 h root (spO how key val old root noSt false) [] := by
  rw [split_Run.eq, leafnode_any, bnd_some, may_any _ (leaf_okN hkv.ok), bnd_some, leaf_may hkv.ok, if_neg (by rw [longP_ok.2 hkv]; simp), ltI_d, ltI_d, br_if, br_if, if_neg (by omega), if_neg (by omega), Is_any ho root hb, hn, snew_any]
  rfl
theorem tree_plan {h news : List NodeV} {s : Int} {l : List PairV} (ho : okH h) (P : PlanOK h news) (H : Has h news s (treeT l)) (hn : h.length + news.length ≤ 40000000) (hS : Srt l) : okH (PS h news) ∧ fitH (PS h news) (fillQ h.length s) = true ∧ bindsT (U (PS h news) (fillQ h.length s)) = l ∧ isTreeS (PS h news) (fillQ h.length s) = true := by
  have hf := fill_in H.lo H.hi
  have hfit : fitH (PS h news) (fillQ h.length s) = true := fitH_iff.2 ⟨hf, P.may⟩
  have hbt : bindsT (U (PS h news) (fillQ h.length s)) = l := by rw [H.shp, bindsT_treeT]
  refine ⟨P.okH ho hn, hfit, hbt, isTree_iff2.2 ⟨hfit, ?_, ?_⟩⟩
  · rw [hbt]; exact srt_isS hS
  · rw [hbt]; exact H.shp
theorem afterS_srt {how : Int} {x : PairV} {old : ByteArray} {l : List PairV} (h : Srt l) : Srt (afterS how x old l) := by
  unfold afterS
  split
  · exact putS_srt x h
  · exact h
theorem afterS_len (how : Int) (x : PairV) (old : ByteArray) (l : List PairV) : (afterS how x old l).length ≤ l.length + 1 := by
  unfold afterS
  split
  · exact putS_len x l
  · omega
/-! ### The chapter's example -/
theorem emptyH : okH [] ∧ mayH [] = true := ⟨⟨by show 0 ≤ _; omega, fun n hn => (by cases hn), fun n hn => (by cases hn)⟩, rfl⟩
def exN : NodeV := treeI (ByteArray.mk #[97]) (ByteArray.mk #[49]) 0 0 1
theorem run_empty : split_Run [] 0 1 (ByteArray.mk #[97]) (ByteArray.mk #[49]) ByteArray.empty = some ([exN], (1, (0, ()))) := by
  obtain ⟨ho, hm⟩ := emptyH
  have hx : okT (ByteArray.mk #[97], (ByteArray.mk #[49], ())) := ⟨by decide, by decide⟩
  have hu : U [] 0 = treeT [] := by rw [U_zero, treeT_nil]
  have hi : isTreeS [] 0 = true := isTree_iff2.2 ⟨fitH_iff.2 ⟨⟨by omega, by show (0 : Int) ≤ ((0 : Nat) : Int); omega⟩, rfl⟩, by rw [U_zero, bindsT_nil]; rfl, by rw [U_zero, bindsT_nil, treeT_nil]⟩
  rw [run_tree ho hx _ ⟨by omega, by omega⟩ (fun _ => by rw [U_zero, bindsT_nil]; show 0 ≤ _; omega) hi]
  obtain ⟨news, s, _, _, _, e, h1, _⟩ := run_walk ho hm (by show 0 ≤ _; omega) (root := 0) (how := 1) (by omega) (by show (0 : Int) ≤ ((0 : Nat) : Int); omega) (l := []) List.Pairwise.nil (fun p hp => (by cases hp)) (by show 0 ≤ _; omega) hu hx ByteArray.empty
  obtain ⟨rfl, rfl⟩ := h1 rfl (by unfold chS; exact decide_eq_true (.inl rfl))
  rw [e]
  rfl
theorem sanswer_any (how : Int) (key val old : ByteArray) (e : StepV) (found : Bool) (W : List StepV) : split_Split_Answer (spO how key val old 0 e found) W = some ((if found = true then (e.2.2.2.1, (true, ())) else (ByteArray.empty, (false, ()))), (spO how key val old 0 e found, (W, ()))) := by
  rw [split_Split_Answer.eq]
  show br (notB (eqI 0 0)) _ (br (notB found) _ _) = _
  rw [show notB (eqI 0 0) = false from rfl, br_f]
  cases found <;> rfl
theorem works27 : law27_works = some true := by
  have hk : exN.2.2.2.2.1 = [0, 0] := rfl
  rw [law27_works.eq, run_empty, bnd_some]
  show br false _ (br false _ (law27_works.j0 [exN] 1 false)) = _
  rw [br_f, br_f, law27_works.j0.eq, br_f, snew_any, bnd_some]
  show br true (bnd (split_Split_Feed exN (spO 2 (ByteArray.mk #[97]) (ByteArray.mk #[50]) ByteArray.empty 1 noSt false) []) _) none = _
  rw [br_t, sfeed_any 2 (key := ByteArray.mk #[97]) (by decide) _ _ (by omega) noSt [] (by show 0 ≤ _; omega) (n := exN) rfl hk, if_pos (show ByteArray.mk #[97] = exN.2.1 from rfl), bnd_some]
  dsimp only
  rw [sanswer_any, bnd_some, if_pos rfl]
  dsimp only
  rw [plan_none 2 _ _ _ _ _ true (by rintro (q | ⟨_, q⟩ | ⟨q, _⟩); omega; cases q; omega), bnd_some]
  show br (eqS (ByteArray.mk #[49]) (ByteArray.mk #[49])) (br true (br true (br true (some (eqI 1 1)) none) (some false)) (some false)) (some false) = some true
  rw [eqS_d, decide_eq_true rfl, br_t, br_t, br_t, br_t, eqI_d, decide_eq_true rfl]
end Go.Proofs.YtmopkbmcilolgaaGreat.AE
set_option linter.unusedVariables false
set_option linter.unusedSimpArgs false
namespace Go.Proofs.YtmopkbmcilolgaaGreat.AE
open Go.Abs
noncomputable def depS (l : List PairV) : Nat :=
  if hl : l = [] then 0 else
    have := topI_lt hl
    1 + max (depS (l.take (topI l))) (depS (l.drop (topI l + 1)))
termination_by l.length
decreasing_by
  · rw [List.length_take]; omega
  · rw [List.length_drop]; omega
theorem depS_nil : depS [] = 0 := by rw [depS, dif_pos rfl]
theorem depS_cons {l : List PairV} (hl : l ≠ []) : depS l = 1 + max (depS (l.take (topI l))) (depS (l.drop (topI l + 1))) := by rw [depS, dif_neg hl]
theorem depS_le : ∀ (n : Nat) (l : List PairV), l.length ≤ n → depS l ≤ l.length
  | n, l, hn => by
    by_cases hl : l = []
    · subst hl; rw [depS_nil]; exact Nat.zero_le _
    have ht := topI_lt hl
    cases n with
    | zero => exact absurd (List.eq_nil_of_length_eq_zero (by omega)) hl
    | succ n =>
      have h1 := depS_le n (l.take (topI l)) (by rw [List.length_take]; omega)
      have h2 := depS_le n (l.drop (topI l + 1)) (by rw [List.length_drop]; omega)
      rw [List.length_take] at h1
      rw [List.length_drop] at h2
      rw [depS_cons hl]
      omega
theorem Srt_take {l : List PairV} (h : Srt l) (i : Nat) : Srt (l.take i) := List.Pairwise.sublist (List.take_sublist i l) h
theorem Srt_drop {l : List PairV} (h : Srt l) (i : Nat) : Srt (l.drop i) := List.Pairwise.sublist (List.drop_sublist i l) h
theorem isTree_nodes {l : List PairV} (hb : l.length ≤ 40000000) (hS : Srt l) (hs : ∀ p ∈ l, okT p) : isTreeS (nodesS [] l).1 (nodesS [] l).2 = true := by
  have ht := nodesS_ok _ [] l (Nat.le_refl _) rfl hs
  have hfg : fitH (nodesS [] l).1 (nodesS [] l).2 = true := fitH_iff.2 ⟨⟨ht.r0, ht.r1⟩, ht.may⟩
  unfold isTreeS
  rw [hfg, ht.shp, bindsT_treeT, srt_isS hS, Bool.true_and, Bool.true_and]
  exact eqSh_iff.2 rfl
end Go.Proofs.YtmopkbmcilolgaaGreat.AE
set_option linter.unusedVariables false
set_option linter.unusedSimpArgs false
namespace Go.Proofs.YtmopkbmcilolgaaGreat.AE
open Go.Abs
theorem rput_any (l : List PairV) (hl : l.length ≤ 1000000) (hs : ∀ p ∈ l, okP p) {key val : ByteArray} (hx : okP (key, (val, ()))) : ref07_Put l key val = some (putS (makeS l) (key, (val, ()))) := by
  have hlen : (l ++ [((key, (val, ())) : PairV)]).length ≤ 1000001 := by rw [List.length_append]; simp only [List.length_cons, List.length_nil]; omega
  have e0 : appL tapiPair [] l = l := by rw [appL_d, List.nil_append]
  rw [ref07_Put.eq, e0]
  simp only [fitL_d, appL_d, br_if]
  rw [if_pos (by omega), if_pos (by omega), refmake_any (l ++ [(key, (val, ()))]) (by omega) (fun p hp => by
    rcases List.mem_append.1 hp with hp | hp
    · exact hs p hp
    · rw [List.mem_singleton.1 hp]; exact hx), bnd_some]
  unfold makeS
  rw [List.foldl_append]
  rfl
theorem after27 {l : List PairV} (hl : l.length ≤ 1000000) (hS : Srt l) (hs : ∀ p ∈ l, okP p) (how : Int) {key val : ByteArray} (hx : okP (key, (val, ()))) (old : ByteArray) : ref27_After l how key val old = some (afterS how (key, (val, ())) old l) := by
  rw [ref27_After.eq, ref23_After.eq, rget_any l key (by omega), bnd_some, makeS_srt hS, refchanges_any, bnd_some, rput_any l hl hs hx, bnd_some, refmake_any l (by omega) hs, bnd_some, makeS_srt hS]
  unfold afterS
  cases chS how old (l.find? fun q => decide (q.1 = key)) with
  | true => rw [br_t, if_pos rfl, bnd_some]
  | false => rw [br_f, if_neg (by simp), bnd_some]
theorem take16 (l : List PairV) (h : l.length ≤ 9223372036854775807) : andB (leI 0 0) (andB (leI 0 (minI (ofN (lenL tapiPair l)) 16)) (leI (minI (ofN (lenL tapiPair l)) 16) (ofN (lenL tapiPair l)))) = true ∧ subL tapiPair l (toN 0) (toN (minI (ofN (lenL tapiPair l)) 16)) = l.take 16 := by
  have em : minI (ofN (lenL tapiPair l)) 16 = ((min l.length 16 : Nat) : Int) := by
    simp only [minI_d, ofN_d, lenL_d]
    omega
  rw [em]
  refine ⟨?_, ?_⟩
  · simp only [leI_d, andB_d, ofN_d, lenL_d]
    exact decide_eq_true (by omega)
  · rw [subL_pre]
    by_cases q : l.length ≤ 16
    · rw [Nat.min_eq_left q, List.take_length, List.take_of_length_le q]
    · rw [Nat.min_eq_right (by omega)]
theorem base_Cut_16 (s : ByteArray) : base_Cut s (16 : Int) = some (cut 16 s) := base_Cut_any s 16
/-- The bindings that a statement of the chapter begins with. -/
def madeL (l : List PairV) : List PairV := fewL (l.take 16)
theorem madeL_ok (l : List PairV) : (madeL l).length ≤ 16 ∧ ∀ p ∈ madeL l, okP p := by
  refine ⟨?_, fewL_ok _⟩
  unfold madeL fewL
  rw [List.length_map]
  have : (List.take 40 (List.take 16 l)).length ≤ 16 := by rw [List.length_take, List.length_take]; omega
  omega
theorem made27 {l : List PairV} (h : l.length ≤ 9223372036854775807) : law27_made l = some (if longAny (madeL l) = true then ([], ([], ((0 : Int), (false, ())))) else (makeS (madeL l), ((nodesS [] (makeS (madeL l))).1, ((nodesS [] (makeS (madeL l))).2, (true, ()))))) := by
  obtain ⟨h1, h2⟩ := madeL_ok l
  obtain ⟨t1, t2⟩ := take16 l h
  rw [law27_made.eq, t1, br_t, t2, few_any (l.take 16) (by rw [List.length_take]; omega), bnd_some]
  show bnd (ref20_Long (madeL l)) _ = _
  rw [Long_any _ (by omega) h2, bnd_some]
  cases longAny (madeL l) with
  | true => rw [br_t, if_pos rfl]
  | false =>
    rw [br_f, if_neg (by simp)]
    show bnd (ref25_Make (madeL l)) _ = _
    rw [refMake_any _ (by omega) h2, bnd_some]
    show bnd (ref07_Make (madeL l)) _ = _
    rw [refmake_any _ (by omega) h2, bnd_some]
theorem long_one {x : PairV} (hx : okP x) : ref20_Long [x] = some (longP x) := by
  rw [Long_any [x] (by show 1 ≤ _; omega) (fun p hp => by rw [List.mem_singleton.1 hp]; exact hx)]
  show some (([x] : List PairV).any longP) = _
  rw [List.any_cons, List.any_nil, Bool.or_false]
theorem err_any (how : Int) {key val : ByteArray} (hx : okP (key, (val, ()))) : ref23_Err how key val = some (if how < 1 then 2 else if 3 < how then 2 else if longP (key, (val, ())) = true then 6 else 0) := by
  rw [ref23_Err.eq, long_one hx, bnd_some, ltI_d, ltI_d, br_if, br_if, br_b]
  split
  · rfl
  split
  · rfl
  split <;> rfl
theorem pre_same (h news : List NodeV) : subL tapiNode (PS h news) (toN 0) (toN (ofN (lenL tapiNode h))) = h := by
  rw [ofN_d, toN_d, show toN 0 = 0 from rfl]
  unfold subL lenL PS
  rw [List.drop_zero, Nat.sub_zero, List.take_left']
  rfl
end Go.Proofs.YtmopkbmcilolgaaGreat.AE
set_option linter.unusedVariables false
set_option linter.unusedSimpArgs false
namespace Go.Proofs.YtmopkbmcilolgaaGreat.AE
open Go.Abs
def waysN (n : NodeV) : Nat := max (refsS n).length 1
def prodW : List NodeV → Nat
  | [] => 1
  | n :: l => waysN n * prodW l
theorem prodW_app : ∀ a b : List NodeV, prodW (a ++ b) = prodW a * prodW b
  | [], b => by show prodW b = 1 * prodW b; omega
  | n :: a, b => by
    show waysN n * prodW (a ++ b) = waysN n * prodW a * prodW b
    rw [prodW_app a b, Nat.mul_assoc]
theorem prodW_pos : ∀ a : List NodeV, 1 ≤ prodW a
  | [] => Nat.le_refl _
  | n :: a => by
    have h := prodW_pos a
    have : 1 ≤ waysN n := by unfold waysN; omega
    exact Nat.mul_pos this h
theorem fewW_prod : ∀ (l : List NodeV) (w : Nat), w ≤ 3000 → w * prodW (fewW w l) ≤ 3000
  | [], w, h => by
    show w * 1 ≤ 3000
    omega
  | n :: l, w, h => by
    rw [fewW_cons]
    split
    · show w * 1 ≤ 3000
      omega
    · rename_i hg
      have := fewW_prod l (w * max (refsS (few n)).length 1) (by omega)
      show w * (waysN (few n) * _) ≤ 3000
      rw [← Nat.mul_assoc]
      exact this
theorem fewH_prod (h : List NodeV) : prodW (fewH h) ≤ 3000 := by
  have := fewW_prod (h.take 12) 1 (by omega)
  rw [Nat.one_mul] at this
  exact this
theorem sum_le {A : Type} (f : A → Nat) (M : Nat) : ∀ l : List A, (∀ x ∈ l, f x ≤ M) → (l.map f).sum ≤ l.length * M
  | [], _ => by simp
  | x :: l, h => by
    have ih := sum_le f M l (fun y hy => h y (List.mem_cons_of_mem _ hy))
    have hx := h x List.mem_cons_self
    rw [List.map_cons, List.sum_cons, List.length_cons, Nat.succ_mul]
    omega
theorem flat_len {A : Type} (f : A → List PairV) : ∀ l : List A, ((l.map f).flatten).length = (l.map fun x => (f x).length).sum
  | [] => rfl
  | x :: l => by rw [List.map_cons, List.flatten_cons, List.length_append, flat_len f l, List.map_cons, List.sum_cons]
theorem binds_sum {h : List NodeV} (hm : mayH h = true) {r : Int} (h1 : 1 ≤ r) (h2 : r ≤ h.length) : (bindsT (U h r)).length = (bindsS (getN h r)).length + ((refsS (getN h r)).map fun x => (bindsT (U h x)).length).sum := by
  by_cases h4 : (getN h r).1 = 4
  · obtain ⟨a, b, k1, k2, k3, k4, k5⟩ := bindsU_tree hm h1 h2 h4
    have er : refsS (getN h r) = [a, b].filter (fun r => decide (r ≠ 0)) := by
      rw [refsS_all]
      unfold allK
      rw [k1, k2, List.filter_append]
      show _ ++ [] = _
      rw [List.append_nil]
    have z : (bindsT (U h 0)).length = 0 := by rw [U_zero, bindsT_nil]; rfl
    rw [k5, er, List.length_append, List.length_append]
    by_cases ea : a = 0
    · by_cases eb : b = 0
      · subst ea; subst eb; rw [z]; simp
      · subst ea; rw [z, List.filter_cons_of_neg (by simp), List.filter_cons_of_pos (by simp [eb]), List.filter_nil]
        simp
    · by_cases eb : b = 0
      · subst eb; rw [z, List.filter_cons_of_pos (by simp [ea]), List.filter_cons_of_neg (by simp), List.filter_nil]
        simp; omega
      · rw [List.filter_cons_of_pos (by simp [ea]), List.filter_cons_of_pos (by simp [eb]), List.filter_nil]
        simp; omega
  · rw [bindsU_refs hm h1 h2 h4, List.length_append, flat_len]
theorem bound_step (k P r m : Nat) (hP : 1 ≤ P) (hk : m ≤ k) (hk1 : 1 ≤ k) (hr : 1 ≤ r) : 40 + m * (40 * (r - 1) * P) ≤ 40 * r * (P * k) := by
  obtain ⟨q, rfl⟩ : ∃ q, r = q + 1 := ⟨r - 1, by omega⟩
  rw [Nat.add_sub_cancel]
  have h1 : m * (40 * q * P) ≤ k * (40 * q * P) := Nat.mul_le_mul_right _ hk
  have h2 : 40 * (q + 1) * (P * k) = 40 * q * (P * k) + 40 * (P * k) := by rw [Nat.mul_add, Nat.add_mul]
  have h3 : k * (40 * q * P) = 40 * q * (P * k) := by rw [Nat.mul_comm k, Nat.mul_assoc]
  have h4 : 1 ≤ P * k := Nat.mul_pos hP hk1
  omega
theorem binds_bound {h : List NodeV} (hm : mayH h = true) (hs : ∀ n ∈ h, (bindsS n).length ≤ 40) : ∀ (n : Nat) (r : Int), 0 ≤ r → r ≤ n → r ≤ h.length → (bindsT (U h r)).length ≤ 40 * r.toNat * prodW (h.take r.toNat) := by
  intro n
  induction n with
  | zero =>
    intro r h0 h1 h2
    have : r = 0 := by omega
    subst this
    rw [U_zero, bindsT_nil]
    exact Nat.zero_le _
  | succ n ih =>
    intro r h0 h1 h2
    by_cases e : r = 0
    · subst e
      rw [U_zero, bindsT_nil]
      exact Nat.zero_le _
    obtain ⟨i, hi⟩ : ∃ i : Nat, r = (i : Int) + 1 := ⟨(r - 1).toNat, by omega⟩
    have hil : i < h.length := by omega
    have eg : getN h r = h[i] := by rw [hi]; exact getN_ix h i hil
    rw [binds_sum hm (by omega) h2]
    have hb := hs _ (getN_mem h r (by omega) h2)
    have hsum := sum_le (fun x => (bindsT (U h x)).length) (40 * i * prodW (h.take i)) (refsS (getN h r)) (fun x hx => by
      rw [refsS_all] at hx
      have hk := (may_node hm (by omega) h2).2 x (List.mem_filter.1 hx).1
      refine Nat.le_trans (ih x (by omega) (by omega) (by omega)) ?_
      have hxi : x.toNat ≤ i := by omega
      have hp : prodW (h.take x.toNat) ≤ prodW (h.take i) := by
        have e : h.take i = h.take x.toNat ++ (h.drop x.toNat).take (i - x.toNat) := by
          rw [← List.take_add]
          congr 1
          omega
        rw [e, prodW_app]
        exact Nat.le_mul_of_pos_right _ (prodW_pos _)
      exact Nat.mul_le_mul (Nat.mul_le_mul_left _ hxi) hp)
    have et : r.toNat = i + 1 := by omega
    have ep : prodW (h.take (i + 1)) = prodW (h.take i) * waysN (getN h r) := by
      rw [List.take_succ_eq_append_getElem hil, prodW_app, eg]
      congr 1
      show waysN h[i] * 1 = _
      omega
    rw [et, ep]
    have hstep := bound_step (waysN (getN h r)) (prodW (h.take i)) (i + 1) (refsS (getN h r)).length (prodW_pos _) (by unfold waysN; omega) (by unfold waysN; omega) (by omega)
    rw [Nat.add_sub_cancel] at hstep
    omega
theorem few_binds (n : NodeV) : (bindsS (few n)).length ≤ 40 := by
  unfold bindsS
  split
  · show 1 ≤ 40; omega
  · split
    · exact fewL_len _
    · show 0 ≤ 40; omega
theorem few_bound (h : List NodeV) (r : Int) (hf : fitH (fewH h) r = true) : (bindsT (U (fewH h) r)).length ≤ 1440000 := by
  obtain ⟨⟨a, b⟩, c⟩ := fitH_iff.1 hf
  have h1 := binds_bound c (fun n hn => by obtain ⟨m, _, rfl⟩ := fewH_mem n hn; exact few_binds m) r.toNat r a (by omega) b
  have h2 := fewH_prod h
  have h3 := fewH_len h
  have hp : prodW ((fewH h).take r.toNat) ≤ 3000 := by
    refine Nat.le_trans ?_ h2
    conv => rhs; rw [← List.take_append_drop r.toNat (fewH h), prodW_app]
    exact Nat.le_mul_of_pos_right _ (prodW_pos _)
  have h4 : 40 * r.toNat * prodW ((fewH h).take r.toNat) ≤ 480 * 3000 := Nat.mul_le_mul (by omega) hp
  omega
end Go.Proofs.YtmopkbmcilolgaaGreat.AE
set_option linter.unusedVariables false
set_option linter.unusedSimpArgs false
namespace Go.Proofs.YtmopkbmcilolgaaGreat.Pure
open Go.Abs Go.Proofs.YtmopkbmcilolgaaGreat.AE
theorem SplitRefuses (a0 : den (.list tapiNode)) (a1 : den (.int .i64)) (a2 : den .str) (h0 : wfD (.list tapiNode) a0) (h1 : wfD (.int .i64) a1) (h2 : wfD .str a2) : law27_SplitRefuses a0 a1 a2 = some true := by
  change Int at a1
  have ho := okH.of h0
  have hlen := fewH_len a0
  have hb : fitH (fewH a0) a1 = true → (bindsT (U (fewH a0) a1)).length ≤ 40000000 := fun hf => by have := few_bound a0 a1 hf; omega
  have hx : okT (cut 16 a2, (ByteArray.mk #[49], ())) := ⟨by show (cut 16 a2).size ≤ 16; rw [cut_size]; omega, by show (ByteArray.mk #[49]).size ≤ 16; decide⟩
  rw [law27_SplitRefuses.eq, fewH_wf h0, bnd_some, base_Cut_16, bnd_some, fewH_ok ho, bnd_some, fewH_fewH, works27]
  cases hi : isTreeS (fewH a0) a1 with
  | false =>
    rw [run_form ho a1 1 hx _ ⟨by omega, by omega⟩ hb hi, bnd_some, refIs_any ho a1 hb, bnd_some, hi]
    rfl
  | true =>
    obtain ⟨hf, hS, hu⟩ := isTree_iff2.1 hi
    obtain ⟨⟨f0, f1⟩, hm⟩ := fitH_iff.1 hf
    have hbl := few_bound a0 a1 hf
    have htx := binds_short hm a1.toNat a1 f0 (by omega) f1
    obtain ⟨news, s, P, Hs, hnl, e, _, _⟩ := run_walk ho hm (by omega) f0 f1 (isS_srt hS) htx (by omega) hu hx ByteArray.empty (how := 1)
    have hal := afterS_len 1 (cut 16 a2, (ByteArray.mk #[49], ())) ByteArray.empty (bindsT (U (fewH a0) a1))
    obtain ⟨g1, g2, g3, g4⟩ := tree_plan ho P Hs (by omega) (afterS_srt (isS_srt hS))
    rw [run_tree ho hx _ ⟨by omega, by omega⟩ hb hi, e, bnd_some, refIs_any ho a1 hb, bnd_some, hi, show notB true = false from rfl, br_f]
    show br (eqI 0 0) (bnd (ref25_Is (PS (fewH a0) news) (fillQ (fewH a0).length s)) _) _ = _
    rw [show eqI 0 0 = true from rfl, br_t, refIs_any g1 _ (fun _ => by rw [g3]; omega), bnd_some, g4, br_t, bnd_some]
end Go.Proofs.YtmopkbmcilolgaaGreat.Pure
