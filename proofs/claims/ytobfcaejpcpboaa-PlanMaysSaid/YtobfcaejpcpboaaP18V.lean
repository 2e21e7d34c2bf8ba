/- Plans: what the functions do, plainly. No conditions but those that each names. -/
import Derived.Test.YtobfcaejpcpboaaP17V
set_option linter.unusedVariables false
set_option linter.unusedSimpArgs false
namespace Go.Proofs.Ytobfcaejpcpboaa.AV
open Go.Abs
abbrev PlanV : Type := List NodeV × Int × List Int × Unit
def giveP (p : PlanV) : PlanV := ((p.1.take 12).map few, (p.2.1, (p.2.2.1.take 20, ())))
theorem giveP_giveP (p : PlanV) : giveP (giveP p) = giveP p := by
  have e1 : (((p.1.take 12).map few).take 12).map few = (p.1.take 12).map few := by
    rw [List.take_of_length_le (show ((p.1.take 12).map few).length ≤ 12 by rw [List.length_map, List.length_take]; omega), List.map_map]
    exact List.map_congr_left (fun n _ => few_few n)
  have e2 : (p.2.2.1.take 20).take 20 = p.2.2.1.take 20 := by rw [List.take_take, Nat.min_self]
  show ((((p.1.take 12).map few).take 12).map few, (p.2.1, ((p.2.2.1.take 20).take 20, ()))) = _
  rw [e1, e2]
  rfl
structure okPl (p : PlanV) : Prop where
  len : p.1.length ≤ 12
  node : ∀ n ∈ p.1, okN n
  rngs : ∀ n ∈ p.1, rngN n
  root : rng p.2.1
  old : p.2.2.1.length ≤ 20
  olds : ∀ r ∈ p.2.2.1, rng r
theorem okPl.of {p : PlanV} (h : wfD tboscageref18Plan p) : okPl (giveP p) := by
  obtain ⟨h1, h2, h3, _⟩ := h
  refine ⟨?_, fun n hn => ?_, fun n hn => ?_, wf_rng h2, ?_, fun r hr => wf_rng (h3.2 r (List.mem_of_mem_take hr))⟩
  · show ((p.1.take 12).map few).length ≤ 12
    rw [List.length_map, List.length_take]; omega
  · obtain ⟨m, hm, rfl⟩ := List.mem_map.1 hn
    exact few_okN (h1.2 m (List.mem_of_mem_take hm))
  · obtain ⟨m, hm, rfl⟩ := List.mem_map.1 hn
    exact few_rng (h1.2 m (List.mem_of_mem_take hm))
  · show (p.2.2.1.take 20).length ≤ 20
    rw [List.length_take]; omega
theorem old20 (old : List Int) (h : old.length ≤ 9223372036854775807) : andB (leI 0 0) (andB (leI 0 (minI (ofN (lenL (.int .i64) old)) 20)) (leI (minI (ofN (lenL (.int .i64) old)) 20) (ofN (lenL (.int .i64) old)))) = true ∧ subL (.int .i64) old (toN 0) (toN (minI (ofN (lenL (.int .i64) old)) 20)) = old.take 20 := by
  constructor
  · simp only [leI_d, minI_d, ofN_d, lenL_d, andB_d]
    exact decide_eq_true (by omega)
  · simp only [minI_d, ofN_d, lenL_d]
    have e0 : toN 0 = 0 := rfl
    rw [e0, subL0]
    by_cases hl : old.length ≤ 20
    · have : toN (min (old.length : Int) 20) = old.length := by unfold toN; omega
      rw [this, List.take_of_length_le (Nat.le_refl _), List.take_of_length_le hl]
    · have : toN (min (old.length : Int) 20) = 20 := by unfold toN; omega
      rw [this]
theorem fit20 (old : List Int) : fitL (.int .i64) (old.take 20) = true := by
  rw [fitL_d]
  exact decide_eq_true (by rw [List.length_take]; omega)
theorem give_l2 (p : PlanV) (ho : p.2.2.1.length ≤ 9223372036854775807) (hw : ∀ n ∈ p.1, wideN n) (d : Nat) : ∀ (i : Nat) (x2 x3 x4 x5) (acc : List NodeV), i ≤ p.1.length → i ≤ 12 → acc.length ≤ i → 12 - i = d →
    law18_Give.l2 i p x2 x3 x4 x5 acc = some (acc ++ ((p.1.take 12).drop i).map few, (x3.2.1, (p.2.2.1.take 20, ()))) := by
  obtain ⟨o1, o2⟩ := old20 p.2.2.1 ho
  have fin : ∀ (i : Nat) (x2 x3 x4 x5) (acc : List NodeV), (p.1.take 12).drop i = [] → law18_Give.j3 i false p x2 x3 x4 x5 acc = some (acc ++ ((p.1.take 12).drop i).map few, (x3.2.1, (p.2.2.1.take 20, ()))) := by
    intro i x2 x3 x4 x5 acc e
    rw [law18_Give.j3.eq, br_f, o1, br_t, o2, fit20, br_t, e, List.map_nil, List.append_nil]
  induction d with
  | zero =>
    intro i x2 x3 x4 x5 acc hi h12 ha hd
    have e : (p.1.take 12).drop i = [] := List.drop_eq_nil_of_le (by rw [List.length_take]; omega)
    rw [law18_Give.l2.eq]
    have e12 : ltI (i : Int) 12 = false := by rw [ltI_d]; exact decide_eq_false (by omega)
    rw [e12, fin i _ _ _ _ acc e]
    show br _ (some (acc ++ ((p.1.take 12).drop i).map few, (x3.2.1, (p.2.2.1.take 20, ())))) (some (acc ++ ((p.1.take 12).drop i).map few, (x3.2.1, (p.2.2.1.take 20, ())))) = _
    rw [br_b]
    split <;> rfl
  | succ d ih =>
    intro i x2 x3 x4 x5 acc hi h12 ha hd
    rw [law18_Give.l2.eq]
    have e12 : ltI (i : Int) 12 = true := by rw [ltI_d]; exact decide_eq_true (by omega)
    rw [e12]
    by_cases hil : i < p.1.length
    · have hin : i < (p.1.take 12).length := by rw [List.length_take]; omega
      obtain ⟨k1, k2, _⟩ := hw _ (List.getElem_mem hil)
      rw [law18_Give.j3.eq, br_t, ixN p.1 i hil, Few_any _ k1 k2, bnd_some]
      simp only [ltI_d, leI_d, ofN_d, lenL_d, andB_d, br_if, fitL_d, appL_d]
      rw [if_pos (by omega), if_pos (by omega), if_pos (by rw [List.length_append]; show _ + 1 ≤ _; omega), add1 i (by omega)]
      rw [ih (i + 1) _ _ _ _ _ (by omega) (by omega) (by rw [List.length_append]; show _ + 1 ≤ _; omega) (by omega)]
      rw [List.drop_eq_getElem_cons hin, List.getElem_take, List.map_cons, List.append_assoc]
      rfl
    · have e : (p.1.take 12).drop i = [] := List.drop_eq_nil_of_le (by rw [List.length_take]; omega)
      simp only [ltI_d, ofN_d, lenL_d, br_if]
      rw [if_neg (by omega)]
      exact fin i _ _ _ _ acc e
theorem give_any (p : PlanV) (ho : p.2.2.1.length ≤ 9223372036854775807) (hw : ∀ n ∈ p.1, wideN n) : law18_Give p = some (giveP p) := by
  obtain ⟨o1, o2⟩ := old20 p.2.2.1 ho
  rw [law18_Give.eq, law18_Give.l0.eq]
  have e12 : ltI (0 : Int) 12 = true := rfl
  rw [e12]
  by_cases hil : 0 < p.1.length
  · have hin : 0 < (p.1.take 12).length := by rw [List.length_take]; omega
    obtain ⟨k1, k2, _⟩ := hw _ (List.getElem_mem hil)
    have i0 := ixN p.1 0 hil
    rw [show ((0 : Nat) : Int) = 0 from rfl] at i0
    rw [law18_Give.j1.eq, br_t, i0, Few_any _ k1 k2, bnd_some]
    simp only [ltI_d, leI_d, ofN_d, lenL_d, andB_d, br_if, fitL_d]
    rw [if_pos (by omega), if_pos (by omega), if_pos (by show 1 ≤ _; omega)]
    have e1 : addI .i64 0 1 = ((1 : Nat) : Int) := rfl
    rw [e1, give_l2 p ho hw 11 1 _ _ _ _ _ (by omega) (by omega) (by show 1 ≤ 1; omega) (by omega)]
    unfold giveP
    rw [show (p.1.take 12).map few = [few p.1[0]] ++ ((p.1.take 12).drop 1).map few by
      conv => lhs; rw [← List.drop_zero (l := p.1.take 12), List.drop_eq_getElem_cons hin, List.getElem_take, List.map_cons]
      rfl]
  · have e : p.1 = [] := List.eq_nil_of_length_eq_zero (by omega)
    rw [law18_Give.j1.eq, law18_Give.j1.eq]
    have en : ltI 0 (ofN (lenL tapiNode p.1)) = false := by
      rw [ltI_d, ofN_d, lenL_d]
      exact decide_eq_false (by omega)
    rw [en, br_f, br_f, o1, br_t, o2, fit20, br_t]
    unfold giveP
    rw [e]
    rfl
theorem give_wf {p : PlanV} (h : wfD tboscageref18Plan p) : law18_Give p = some (giveP p) := by
  obtain ⟨h1, h2, h3, _⟩ := h
  refine give_any p h3.1 (fun n hn => ?_)
  obtain ⟨_, _, _, _, hk, _, hl, _⟩ := h1.2 n hn
  exact ⟨hk.1, hl.1, few_okN (h1.2 n hn)⟩
theorem okN.few {n : NodeV} (o : okN n) : okN (few n) := by
  refine ⟨?_, ?_, o.map0, o.map1, ?_, fewL_len _, fewL_ok _⟩
  · show (cut 40 _).size ≤ 40; rw [cut_size]; omega
  · show (cut 40 _).size ≤ 40; rw [cut_size]; omega
  · show (List.take 40 _).length ≤ 40; rw [List.length_take]; omega
theorem give_ok {p : PlanV} (h : okPl p) : law18_Give p = some (giveP p) :=
  give_any p (by have := h.old; omega) (fun n hn => by have o := h.node n hn; exact ⟨by have := o.kids; omega, by have := o.list; omega, o.few⟩)
/-! ### References -/
/-- A reference, where new ones become others. -/
def refR (to : List Int) (r : Int) : Option Int := if 0 ≤ r then some r else if -1 - r < (to.length : Int) then some (to.getD (-1 - r).toNat 0) else none
def refD (to : List Int) (r : Int) : Int := (refR to r).getD 0
theorem make_some (a b : Int) : ∃ x y, ref_Make a b = some (x, (y, ())) := by
  rw [ref_Make.eq]
  simp only [ltI_d, br_if]
  split
  · exact ⟨_, _, rfl⟩
  split
  · exact ⟨_, _, rfl⟩
  split
  · exact ⟨_, _, rfl⟩
  split
  · exact ⟨_, _, rfl⟩
  exact ⟨_, _, rfl⟩
theorem which_any (r : Int) (h : rng r) : ref_Which r = some (if r < 0 then (-1 - r, (true, ())) else (0, (false, ()))) := by
  unfold rng at h
  rw [ref_Which.eq, ref_Kind.eq]
  obtain ⟨x, y, hm⟩ := make_some (remI r 1024) (quoI .i64 r 1024)
  rw [hm, bnd_some]
  have hn : notB (eqI 1024 0) = true := rfl
  rw [hn, br_t, br_t]
  simp only [ltI_d, eqI_d, notB_d, br_if]
  by_cases h0 : r = 0
  · rw [if_pos h0, bnd_some, if_pos (by omega), if_neg (by omega)]
  rw [if_neg h0]
  by_cases h1 : r < 0
  · rw [if_pos h1, bnd_some, if_neg (by omega), if_pos h1]
    have : subI .i64 (-1) r = -1 - r := subI_d (by omega) (by omega)
    rw [this]
  · rw [if_neg h1, if_neg h1]
    by_cases hy : y = 0
    · rw [if_neg (fun q => q hy), bnd_some, if_pos (by omega)]
    · rw [if_pos hy, bnd_some, if_pos (by omega)]
theorem planref_any (r : Int) (h : rng r) (to : List Int) : plan_Ref r to = some (refD to r, ((if (refR to r).isSome = true then 0 else 4), ())) := by
  rw [plan_Ref.eq, which_any r h, bnd_some]
  unfold refD refR
  by_cases h1 : r < 0
  · rw [if_pos h1, if_neg (by omega), show notB true = false from rfl, br_f]
    simp only [ltI_d, leI_d, ofN_d, lenL_d, andB_d, br_if]
    by_cases h2 : -1 - r < (to.length : Int)
    · rw [if_neg (by omega), if_pos (by omega), if_pos h2]
      have hi : -1 - r = ((-1 - r).toNat : Int) := by omega
      have hlt : (-1 - r).toNat < to.length := by omega
      have e : ixL (.int .i64) to (-1 - r) = to[(-1 - r).toNat] := by
        conv => lhs; rw [hi]
        exact ixR to _ hlt
      rw [e, List.getD_eq_getElem?_getD, List.getElem?_eq_getElem hlt]
      rfl
    · rw [if_pos (by omega), if_neg h2]
      rfl
  · rw [if_neg h1, if_pos (by omega), show notB false = true from rfl, br_t]
    rfl
theorem refref_loop (r : Int) (hr : r < 0) (h : rng r) (to : List Int) (hl : to.length ≤ 1000000) (d : Nat) : ∀ (i : Nat), i ≤ to.length → (i : Int) ≤ -1 - r → to.length - i = d → ref18_Ref.l0 r to i = some (refD to r, ((refR to r).isSome, ())) := by
  unfold rng at h
  have e0 : ¬ 0 ≤ r := by omega
  unfold refD refR
  rw [if_neg e0]
  induction d with
  | zero =>
    intro i hi h1 hd
    rw [ref18_Ref.l0.eq]
    simp only [ltI_d, ofN_d, lenL_d, br_if]
    rw [if_neg (by omega), if_neg (by omega)]
    rfl
  | succ d ih =>
    intro i hi h1 hd
    have hil : i < to.length := by omega
    rw [ref18_Ref.l0.eq, ixR to i hil]
    have es : subI .i64 (-1) (i : Int) = -1 - (i : Int) := subI_d (by omega) (by omega)
    rw [es, add1 i (by omega)]
    simp only [ltI_d, leI_d, eqI_d, ofN_d, lenL_d, andB_d, br_if]
    rw [if_pos (by omega)]
    by_cases q : r = -1 - (i : Int)
    · rw [if_pos q, if_pos (by omega), if_pos (by omega), show (-1 - r).toNat = i by omega, List.getD_eq_getElem?_getD, List.getElem?_eq_getElem hil]
      rfl
    · rw [if_neg q]
      exact ih (i + 1) (by omega) (by omega) (by omega)
theorem refref_any (r : Int) (h : rng r) (to : List Int) (hl : to.length ≤ 1000000) : ref18_Ref r to = some (refD to r, ((refR to r).isSome, ())) := by
  rw [ref18_Ref.eq, leI_d, br_if]
  by_cases h1 : 0 ≤ r
  · rw [if_pos h1]
    unfold refD refR
    rw [if_pos h1]
    rfl
  · rw [if_neg h1]
    unfold rng at h
    exact refref_loop r (by omega) h to hl to.length 0 (by omega) (by omega) (by omega)
/-! ### Nodes filled -/
def fillB (to : List Int) (n : NodeV) : Bool := (refR to n.2.2.2.2.2.1).isSome && n.2.2.2.2.1.all fun k => (refR to k).isSome
def fillS (to : List Int) (n : NodeV) : NodeV := if fillB to n = true then (n.1, (n.2.1, (n.2.2.1, (n.2.2.2.1, (n.2.2.2.2.1.map (refD to), (refD to n.2.2.2.2.2.1, n.2.2.2.2.2.2)))))) else zeroN
theorem take_all_succ {p : Int → Bool} (l : List Int) (i : Nat) (h : i < l.length) : (l.take (i + 1)).all p = ((l.take i).all p && p l[i]) := by
  rw [List.take_succ_eq_append_getElem h, List.all_append]
  simp
theorem fill_l0 (to : List Int) (n : NodeV) (hn : okN n) (hr : rngN n) (x5 x8 x9) (L : List PairV) (hL : L = n.2.2.2.2.2.2.1) (d : Nat) : ∀ (i : Nat), i ≤ n.2.2.2.2.1.length → n.2.2.2.2.1.length - i = d →
    plan_Fill_o.l0 (if ((refR to n.2.2.2.2.2.1).isSome && (n.2.2.2.2.1.take i).all fun k => (refR to k).isSome) = true then 0 else 4) n.2.2.2.2.1.length i to
      (n.1, (n.2.1, (n.2.2.1, (n.2.2.2.1, ((), (refD to n.2.2.2.2.2.1, ((), n.2.2.2.2.2.2.2))))))) x5 ((n.2.2.2.2.1.take i).map (refD to) ++ n.2.2.2.2.1.drop i) L x8 x9 =
    some ((fillS to n, ((if fillB to n = true then 0 else 4), ())), (to, ())) := by
  subst hL
  have hk := hn.kids
  induction d with
  | zero =>
    intro i hi hd
    have e : i = n.2.2.2.2.1.length := by omega
    subst e
    rw [plan_Fill_o.l0.eq]
    simp only [ltI_d, br_if]
    rw [if_neg (by omega), List.take_length, List.drop_length, List.append_nil]
    rw [show ((refR to n.2.2.2.2.2.1).isSome && n.2.2.2.2.1.all fun k => (refR to k).isSome) = fillB to n from rfl]
    unfold fillS
    by_cases hb : fillB to n = true
    · rw [if_pos hb, if_pos hb]
      rfl
    · rw [if_neg hb, if_neg hb]
      rfl
  | succ d ih =>
    intro i hi hd
    have hil : i < n.2.2.2.2.1.length := by omega
    have hpl : ((n.2.2.2.2.1.take i).map (refD to)).length = i := by rw [List.length_map, List.length_take]; omega
    have hlen : ((n.2.2.2.2.1.take i).map (refD to) ++ n.2.2.2.2.1.drop i).length = n.2.2.2.2.1.length := by rw [List.length_append, hpl, List.length_drop]; omega
    have hget : ixL (.int .i64) ((n.2.2.2.2.1.take i).map (refD to) ++ n.2.2.2.2.1.drop i) (i : Int) = n.2.2.2.2.1[i] := by
      rw [ixR _ i (by omega), List.getElem_append_right (by omega), List.getElem_drop]
      congr 1
      omega
    have hset : setL (.int .i64) ((n.2.2.2.2.1.take i).map (refD to) ++ n.2.2.2.2.1.drop i) (i : Int) (refD to n.2.2.2.2.1[i]) = (n.2.2.2.2.1.take (i + 1)).map (refD to) ++ n.2.2.2.2.1.drop (i + 1) := by
      unfold setL
      rw [Int.toNat_natCast, List.set_append_right _ _ (by omega), hpl, Nat.sub_self, List.drop_eq_getElem_cons hil, List.set_cons_zero, List.take_succ_eq_append_getElem hil, List.map_append, List.append_assoc]
      rfl
    rw [plan_Fill_o.l0.eq, hget, planref_any _ (hr.1 _ (List.getElem_mem hil)) to, bnd_some, hset]
    have ih := ih (i + 1) (by omega) (by omega)
    rw [take_all_succ _ i hil] at ih
    simp only [ltI_d, leI_d, eqI_d, notB_d, ofN_d, lenL_d, andB_d, br_if]
    rw [if_pos (by omega), if_pos (by omega), add1 i (by omega)]
    cases hs : (refR to n.2.2.2.2.1[i]).isSome with
    | true =>
      rw [hs, Bool.and_true] at ih
      rw [if_pos rfl, if_neg (fun q => q rfl), if_pos (by omega)]
      exact ih
    | false =>
      rw [hs, Bool.and_false, Bool.and_false, if_neg (by simp)] at ih
      rw [if_neg (show ¬ (false = true) by simp), if_pos (show ¬ (4 : Int) = 0 by omega), if_pos (by omega)]
      exact ih
theorem fill_any (to : List Int) (n : NodeV) (hn : okN n) (hr : rngN n) : plan_Fill_o n to = some ((fillS to n, ((if fillB to n = true then 0 else 4), ())), (to, ())) := by
  rw [plan_Fill_o.eq, copy_any n hn, bnd_some, planref_any _ hr.2 to, bnd_some]
  have := fill_l0 to n hn hr (0, (ByteArray.empty, (ByteArray.empty, (0, ((), (0, ((), (0, (0, ()))))))))) [] [] _ rfl n.2.2.2.2.1.length 0 (by omega) (by omega)
  rw [List.take_zero, List.all_nil, Bool.and_true] at this
  exact this
theorem reffill_l0 (to : List Int) (hto : to.length ≤ 1000000) (n : NodeV) (hn : okN n) (hr : rngN n) (x4 x6 x7) (d : Nat) : ∀ (i : Nat), i ≤ n.2.2.2.2.1.length → n.2.2.2.2.1.length - i = d →
    ref18_Fill_o.l0 ((n.2.2.2.2.1.take i).all fun k => (refR to k).isSome) i to n x4 (n.1, (n.2.1, (n.2.2.1, (n.2.2.2.1, ((), n.2.2.2.2.2))))) x6 x7 ((n.2.2.2.2.1.take i).map (refD to)) =
    some ((fillS to n, (fillB to n, ())), (to, ())) := by
  have hk := hn.kids
  induction d with
  | zero =>
    intro i hi hd
    have e : i = n.2.2.2.2.1.length := by omega
    subst e
    rw [ref18_Fill_o.l0.eq, refref_any _ hr.2 to hto, bnd_some]
    simp only [ltI_d, ofN_d, lenL_d, br_if]
    rw [if_neg (by omega), List.take_length]
    unfold fillS fillB
    cases ha : n.2.2.2.2.1.all fun k => (refR to k).isSome with
    | false =>
      rw [show notB false = true from rfl, br_t, Bool.and_false, if_neg (by simp)]
      rfl
    | true =>
      rw [show notB true = false from rfl, br_f, Bool.and_true]
      cases hm : (refR to n.2.2.2.2.2.1).isSome with
      | false => rfl
      | true => rfl
  | succ d ih =>
    intro i hi hd
    have hil : i < n.2.2.2.2.1.length := by omega
    have hpl : ((n.2.2.2.2.1.take i).map (refD to)).length = i := by rw [List.length_map, List.length_take]; omega
    rw [ref18_Fill_o.l0.eq, ixR _ i hil, refref_any _ (hr.1 _ (List.getElem_mem hil)) to hto, bnd_some]
    have ih := ih (i + 1) (by omega) (by omega)
    rw [take_all_succ _ i hil, List.take_succ_eq_append_getElem hil, List.map_append] at ih
    simp only [ltI_d, leI_d, ofN_d, lenL_d, andB_d, br_if, fitL_d, appL_d]
    rw [if_pos (by omega), if_pos (by omega), if_pos (by rw [List.length_append, hpl]; show _ + 1 ≤ _; omega), add1 i (by omega)]
    cases ha : (n.2.2.2.2.1.take i).all fun k => (refR to k).isSome with
    | true =>
      rw [ha, Bool.true_and] at ih
      rw [br_t]
      exact ih
    | false =>
      rw [ha, Bool.false_and] at ih
      rw [br_f]
      exact ih
theorem reffill_any (to : List Int) (hto : to.length ≤ 1000000) (n : NodeV) (hn : okN n) (hr : rngN n) : ref18_Fill_o n to = some ((fillS to n, (fillB to n, ())), (to, ())) := by
  rw [ref18_Fill_o.eq]
  have := reffill_l0 to hto n hn hr (0, (ByteArray.empty, (ByteArray.empty, (0, ((), (0, ((), (0, (0, ()))))))))) [] [] n.2.2.2.2.1.length 0 (by omega) (by omega)
  rw [List.take_zero, List.all_nil] at this
  exact this
/-! ### The same heaps -/
def small (n : NodeV) : Prop := n.2.2.2.2.1.length ≤ 1000000 ∧ n.2.2.2.2.2.2.1.length ≤ 1000000
theorem sameH_loop (a b : List NodeV) (hl : a.length ≤ 1000000) (hab : a.length = b.length) (hs : ∀ n ∈ a, small n) (d : Nat) : ∀ (i : Nat), i ≤ a.length → a.length - i = d → ref18_SameHeap.l0 a b i = some (decide (a.drop i = b.drop i)) := by
  induction d with
  | zero =>
    intro i hi hd
    rw [ref18_SameHeap.l0.eq]
    simp only [ltI_d, ofN_d, lenL_d, br_if]
    rw [if_neg (by omega), List.drop_eq_nil_of_le (by omega), List.drop_eq_nil_of_le (by omega)]
    rfl
  | succ d ih =>
    intro i hi hd
    have ha : i < a.length := by omega
    have hb : i < b.length := by omega
    obtain ⟨s1, s2⟩ := hs _ (List.getElem_mem ha)
    rw [ref18_SameHeap.l0.eq, ixN a i ha, ixN b i hb, refsame_any _ _ s1 s2, bnd_some]
    simp only [ltI_d, leI_d, ofN_d, lenL_d, andB_d, notB_d, br_if]
    rw [if_pos (by omega), if_pos (by omega), if_pos (by omega), add1 i (by omega), ih (i + 1) (by omega) (by omega)]
    by_cases e : a[i] = b[i]
    · rw [if_neg (fun q => q e)]
      exact some_bool (decide_eq_decide.2 ⟨fun q => (drop_eq_iff ha hb).2 ⟨e, q⟩, fun q => ((drop_eq_iff ha hb).1 q).2⟩)
    · rw [if_pos e]
      exact some_bool (decide_eq_false (fun q => e ((drop_eq_iff ha hb).1 q).1)).symm
theorem sameH_any (a b : List NodeV) (hl : a.length ≤ 1000000) (hs : ∀ n ∈ a, small n) : ref18_SameHeap a b = some (decide (a = b)) := by
  rw [ref18_SameHeap.eq]
  simp only [ofN_d, lenL_d, eqI_d, notB_d, br_if]
  by_cases h : a.length = b.length
  · rw [if_neg (by omega)]
    exact sameH_loop a b hl h hs a.length 0 (by omega) (by omega)
  · rw [if_pos (by omega)]
    exact some_bool (decide_eq_false (fun e => h (by rw [e]))).symm
theorem okN.small {n : NodeV} (h : okN n) : small n := ⟨by have := h.kids; omega, by have := h.list; omega⟩
theorem fillS_small {to : List Int} {n : NodeV} (h : small n) : small (fillS to n) := by
  unfold fillS
  split
  · exact ⟨by show (List.map _ _).length ≤ _; rw [List.length_map]; exact h.1, h.2⟩
  · exact ⟨by show 0 ≤ _; omega, by show 0 ≤ _; omega⟩
end Go.Proofs.Ytobfcaejpcpboaa.AV
