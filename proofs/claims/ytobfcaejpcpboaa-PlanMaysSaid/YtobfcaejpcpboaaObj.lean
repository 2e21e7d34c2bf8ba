/- The state behind a step that makes an object, turns one, freezes rows, or names objects anew. No conditions. -/
import Derived.Test.YtobfcaejpcpboaaChn
set_option autoImplicit false
set_option linter.unusedVariables false
namespace Go.Abs

def upd (mu : Nat → Loc) (j : Nat) (L : Loc) : Nat → Loc := fun i => if i = j then L else mu i
theorem upd_same {mu : Nat → Loc} {j : Nat} {L : Loc} : upd mu j L j = L := if_pos rfl
theorem upd_ne {mu : Nat → Loc} {j i : Nat} {L : Loc} (h : i ≠ j) : upd mu j L i = mu i := if_neg h
theorem occ_upd_ne {mu : Nat → Loc} {j i : Nat} {L : Loc} (h : i ≠ j) {o : AObj} : occ (upd mu j L) i o = occ mu i o := by
  obtain ⟨t, x⟩ := o
  cases t <;> simp only [occ, upd_ne h]
theorem occ_eq {mu mu' : Nat → Loc} {i : Nat} (h : mu' i = mu i) {o : AObj} : occ mu' i o = occ mu i o := by
  obtain ⟨t, x⟩ := o
  cases t <;> simp only [occ, h]
theorem occ_obj {mu : Nat → Loc} {i : Nat} {r : Tr} {o : AObj} : occ mu i (r.obj o) = occ mu i o := by
  obtain ⟨t, x⟩ := o
  cases t <;> rfl

section
variable {E : Env} {w : World} {Fr : Nat → Prop} {mu : Nat → Loc} {s : St} {a : Act}

theorem SI.newObj (H : SI E w Fr mu s.heap) {w' : World} (hg : Grow (fun _ => False) w w') {L : Loc} {o : AObj} (hh : L.hdr.oneCell' = true)
    (ho : OR w' Fr (upd mu s.heap.length L) s.heap.length o) (hocc : occ (upd mu s.heap.length L) s.heap.length o → w.heap.size ≤ L.loc ∧ L.loc < w'.heap.size)
    (hn : ∀ (t : Ty) (x : den t), o = ⟨.box t, x⟩ → t.okN (· < s.heap.length + 1)) : SI E w' Fr (upd mu s.heap.length L) (s.heap ++ [o]) := by
  have hlast : ∀ (i : Nat) (o' : AObj), (s.heap ++ [o])[i]? = some o' → (s.heap[i]? = some o' ∧ i < s.heap.length) ∨ (i = s.heap.length ∧ o' = o) := by
    intro i o' hi
    rcases Nat.lt_or_ge i s.heap.length with hlt | hge
    · exact .inl ⟨by rwa [List.getElem?_append_left hlt] at hi, hlt⟩
    · rw [List.getElem?_append_right hge] at hi
      have : i = s.heap.length := by
        have := (List.getElem?_eq_some_iff.1 hi).1
        simp at this; omega
      subst this
      simp at hi
      exact .inr ⟨rfl, hi.symm⟩
  have hw : ∀ b, Fr b → w'.heap[b]? = w.heap[b]? := fun b hb => hg.block b (H.frL b hb) id
  refine H.chg ⟨hg.os, hg.tape, hg.output, hg.size, fun k hk _ => hg.block k hk id⟩ (fun _ => id) (fun _ => .inl) ?_ (by simp) ?_ ?_ ?_ ?_ ?_
  · intro i
    by_cases hi : i = s.heap.length
    · rw [hi, upd_same]; exact hh
    · rw [upd_ne hi]; exact H.hh i
  · intro i o' hi
    rcases hlast i o' hi with ⟨hi, hlt⟩ | ⟨rfl, rfl⟩
    · have hne : i ≠ s.heap.length := by omega
      exact OR_keep (fun _ => id) hw (upd_ne hne) (fun t x e => Ty.okN_mono (fun k hk => upd_ne (by omega)) t (H.nm i t x (e ▸ hi))) (fun hoc => hg.block _ (H.own i o' hi hoc).2.2 id) (H.obj i o' hi)
    · exact ho
  · intro i o' hi hoc
    rcases hlast i o' hi with ⟨hi, hlt⟩ | ⟨rfl, rfl⟩
    · have hne : i ≠ s.heap.length := by omega
      rw [occ_upd_ne hne] at hoc
      obtain ⟨h1, h2, h3⟩ := H.own i o' hi hoc
      rw [upd_ne hne]
      exact ⟨Nat.lt_of_lt_of_le h3 hg.size, h2, .inl ⟨o', hi, hoc, rfl⟩⟩
    · obtain ⟨h1, h2⟩ := hocc hoc
      rw [upd_same]
      exact ⟨h2, fun hf => by have := H.frL _ hf; omega, .inr h1⟩
  · intro i t x hi
    rcases hlast i _ hi with ⟨hi, hlt⟩ | ⟨rfl, rfl⟩
    · exact Ty.okN_mono (fun k hk => by simp; omega) t (H.nm i t x hi)
    · simpa using hn t x rfl
  · intro i o' hm hi
    rcases hlast i o' hi with ⟨hi, hlt⟩ | ⟨rfl, rfl⟩
    · have hne : i ≠ s.heap.length := by omega
      rw [upd_ne hne]
      exact H.hand i o' hm hi
    · have := H.len; omega
  · intro i j o1 o2 hi hj hne ho1 ho2 h1 h2
    rcases hlast i o1 hi with ⟨hi, hlt⟩ | ⟨rfl, rfl⟩
    · have hne' : i ≠ s.heap.length := by omega
      rw [occ_upd_ne hne'] at ho1
      rw [upd_ne hne'] at h1
      have := (H.own i o1 hi ho1).2.2
      omega
    · rcases hlast j o2 hj with ⟨hj, hlt⟩ | ⟨rfl, rfl⟩
      · have hne' : j ≠ s.heap.length := by omega
        rw [occ_upd_ne hne'] at ho2
        rw [upd_ne hne'] at h2
        have := (H.own j o2 hj ho2).2.2
        omega
      · exact absurd rfl hne
/-- Behind the making of an object the values that there were are what they were. -/
theorem VR_new (H : SI E w Fr mu s.heap) {w' : World} (hg : Grow (fun _ => False) w w') {L : Loc} {d : Dyn} {v : Value} (hv : VR w Fr mu d v) (hn : d.t.okN (· < s.heap.length)) : VR w' Fr (upd mu s.heap.length L) d v :=
  VR_keep (fun _ => id) (fun b hb => hg.block b (H.frL b hb) id) (Ty.okN_mono (fun k hk => upd_ne (by omega)) _ hn) hv
theorem Rep.newObj (H : Rep E w Fr mu s a) {w' : World} (hg : Grow (fun _ => False) w w') {L : Loc} {o : AObj} (hh : L.hdr.oneCell' = true)
    (ho : OR w' Fr (upd mu s.heap.length L) s.heap.length o) (hocc : occ (upd mu s.heap.length L) s.heap.length o → w.heap.size ≤ L.loc ∧ L.loc < w'.heap.size)
    (hn : ∀ (t : Ty) (x : den t), o = ⟨.box t, x⟩ → t.okN (· < s.heap.length + 1)) : Rep E w' Fr (upd mu s.heap.length L) (s.new o) a := by
  refine ⟨H.si.newObj hg hh ho hocc hn, fun u d hm => ?_, H.df, H.so⟩
  obtain ⟨h1, h2, h3⟩ := H.tm u d hm
  exact ⟨h1, VR_new H.si hg h2 h3, Ty.okN_mono (fun k hk => by simp [St.new]; omega) _ h3⟩

/-! ### One object turned; names of it changed -/
theorem map_get {r : Tr} {h : List AObj} {i : Nat} {o : AObj} (hi : (h.map r.obj)[i]? = some o) : ∃ o0, h[i]? = some o0 ∧ o = r.obj o0 := by
  rw [List.getElem?_map] at hi
  cases h0 : h[i]? with
  | none => rw [h0] at hi; cases hi
  | some o0 => rw [h0] at hi; injection hi with hi; exact ⟨o0, rfl, hi.symm⟩
theorem SI.setObj (H : SI E w Fr mu s.heap) {r : Tr} {w' : World} {j : Nat} {oj : AObj} (hj : s.heap[j]? = some oj) {L : Loc} {o : AObj} (hT : TrT r)
    (hr : TrOK w Fr mu w' Fr (upd mu j L) r (· < s.heap.length)) (hrn : ∀ (t : Ty) (x : den t), t.okN (· < s.heap.length) → (r.app t x).t.okN (· < s.heap.length))
    (hg : Grow (fun b => occ mu j oj ∧ b = (mu j).loc) w w') (hh : L.hdr.oneCell' = true) (ho : OR w' Fr (upd mu j L) j o)
    (hocc : occ (upd mu j L) j o → L.loc < w'.heap.size ∧ (occ mu j oj ∧ L.loc = (mu j).loc ∨ w.heap.size ≤ L.loc))
    (hn : ∀ (t : Ty) (x : den t), o = ⟨.box t, x⟩ → t.okN (· < s.heap.length))
    (hhand : j < E.m → Handed L (E.mu0 j) o) : SI E w' Fr (upd mu j L) ((s.heap.map r.obj).set j o) := by
  have hjl : j < s.heap.length := (List.getElem?_eq_some_iff.1 hj).1
  have hget : ∀ (i : Nat) (o' : AObj), ((s.heap.map r.obj).set j o)[i]? = some o' → (i = j ∧ o' = o) ∨ (i ≠ j ∧ ∃ o0, s.heap[i]? = some o0 ∧ o' = r.obj o0) := by
    intro i o' hi
    rw [List.getElem?_set] at hi
    by_cases hij : j = i
    · rw [if_pos hij] at hi
      simp at hi
      exact .inl ⟨hij.symm, hi.2.symm⟩
    · rw [if_neg hij] at hi
      obtain ⟨o0, h0, e⟩ := map_get hi
      exact .inr ⟨fun e => hij e.symm, o0, h0, e⟩
  have hblk : ∀ (i : Nat) (o0 : AObj), s.heap[i]? = some o0 → i ≠ j → occ mu i o0 → w'.heap[(mu i).loc]? = w.heap[(mu i).loc]? := by
    intro i o0 hi hne hoc
    refine hg.block _ (H.own i o0 hi hoc).2.2 ?_
    rintro ⟨hoj, e⟩
    exact H.sep i j o0 oj hi hj hne hoc hoj e
  refine H.chg ⟨hg.os, hg.tape, hg.output, hg.size, fun k hk hn => hg.block k hk (fun ⟨h1, h2⟩ => hn ⟨j, oj, hj, h1, h2⟩)⟩ (fun _ => id) (fun _ => .inl) ?_ (by simp) ?_ ?_ ?_ ?_ ?_
  · intro i
    by_cases hi : i = j
    · rw [hi, upd_same]; exact hh
    · rw [upd_ne hi]; exact H.hh i
  · intro i o' hi
    rcases hget i o' hi with ⟨rfl, rfl⟩ | ⟨hne, o0, h0, rfl⟩
    · exact ho
    · exact OR_tr hT hr (upd_ne hne) (fun t x e => H.nm i t x (e ▸ h0)) (hblk i o0 h0 hne) (H.obj i o0 h0)
  · intro i o' hi hoc
    rcases hget i o' hi with ⟨rfl, rfl⟩ | ⟨hne, o0, h0, rfl⟩
    · obtain ⟨h1, h2⟩ := hocc hoc
      rw [upd_same]
      refine ⟨h1, fun hf => ?_, ?_⟩
      · rcases h2 with ⟨h2, e⟩ | h2
        · rw [e] at hf; exact (H.own _ oj hj h2).2.1 hf
        · have := H.frL _ hf; omega
      · exact h2.imp (fun h => ⟨oj, hj, h.1, h.2⟩) id
    · rw [occ_upd_ne hne, occ_obj] at hoc
      obtain ⟨h1, h2, h3⟩ := H.own i o0 h0 hoc
      rw [upd_ne hne]
      exact ⟨Nat.lt_of_lt_of_le h3 hg.size, h2, .inl ⟨o0, h0, hoc, rfl⟩⟩
  · intro i t x hi
    simp only [List.length_set, List.length_map]
    rcases hget i _ hi with ⟨rfl, e⟩ | ⟨hne, o0, h0, e⟩
    · exact hn t x e.symm
    · obtain ⟨t0, x0⟩ := o0
      cases t0 with
      | box t0 =>
        have e' : (⟨.box t, x⟩ : AObj) = ⟨.box (r.app t0 x0).t, (r.app t0 x0).x⟩ := e
        injection e' with e1 e2
        injection e1 with e1
        rw [e1]
        exact hrn t0 x0 (H.nm i t0 x0 h0)
      | row _ _ _ => injection (show (⟨.box t, x⟩ : AObj) = _ from e) with e1 e2; cases e1
      | gone => injection (show (⟨.box t, x⟩ : AObj) = _ from e) with e1 e2; cases e1
  · intro i o' hm hi
    rcases hget i o' hi with ⟨rfl, rfl⟩ | ⟨hne, o0, h0, rfl⟩
    · rw [upd_same]; exact hhand hm
    · have := H.hand i o0 hm h0
      rw [upd_ne hne]
      obtain ⟨t0, x0⟩ := o0
      cases t0 with
      | box t0 => exact this
      | row _ _ f => exact this
      | gone => trivial
  · intro i k o1 o2 hi hk hne ho1 ho2 h1 h2
    rcases hget i o1 hi with ⟨rfl, rfl⟩ | ⟨hne', o0, h0, rfl⟩
    · rcases hget k o2 hk with ⟨rfl, rfl⟩ | ⟨hne', o0, h0, rfl⟩
      · exact absurd rfl hne
      · rw [occ_upd_ne hne', occ_obj] at ho2
        rw [upd_ne hne'] at h2
        have := (H.own k o0 h0 ho2).2.2
        omega
    · rw [occ_upd_ne hne', occ_obj] at ho1
      rw [upd_ne hne'] at h1
      have := (H.own i o0 h0 ho1).2.2
      omega
theorem Rep.setObj (H : Rep E w Fr mu s a) {r : Tr} {w' : World} {j : Nat} {oj : AObj} (hj : s.heap[j]? = some oj) {L : Loc} {o : AObj} (hT : TrT r)
    (hr : TrOK w Fr mu w' Fr (upd mu j L) r (· < s.heap.length)) (hrn : ∀ (t : Ty) (x : den t), t.okN (· < s.heap.length) → (r.app t x).t.okN (· < s.heap.length))
    (hg : Grow (fun b => occ mu j oj ∧ b = (mu j).loc) w w') (hh : L.hdr.oneCell' = true) (ho : OR w' Fr (upd mu j L) j o)
    (hocc : occ (upd mu j L) j o → L.loc < w'.heap.size ∧ (occ mu j oj ∧ L.loc = (mu j).loc ∨ w.heap.size ≤ L.loc))
    (hn : ∀ (t : Ty) (x : den t), o = ⟨.box t, x⟩ → t.okN (· < s.heap.length))
    (hhand : j < E.m → Handed L (E.mu0 j) o) : Rep E w' Fr (upd mu j L) ((r.st s).setObj j o) a := by
  refine ⟨H.si.setObj hj hT hr hrn hg hh ho hocc hn hhand, fun u d hm => ?_, H.df, by simpa [Tr.st, St.setObj, Function.comp_def] using H.so⟩
  obtain ⟨⟨u0, d0⟩, hm0, e⟩ := List.mem_map.1 (show (u, d) ∈ s.tmps.map fun p => (p.1, r.dyn p.2) from hm)
  injection e with e1 e2
  subst e1; subst e2
  obtain ⟨h1, h2, h3⟩ := H.tm u0 d0 hm0
  refine ⟨h1, VR_tr hT hr h3 h2, ?_⟩
  have : ((r.st s).setObj j o).heap.length = s.heap.length := by simp [Tr.st, St.setObj]
  rw [this]
  exact hrn d0.t d0.x h3

/-! ### No names changed -/
def idR : Tr where
  own t i := ⟨.own t i, ()⟩
  rptr t i o x := ⟨.rptr t i o, x⟩
  ptr i o := ⟨.ptr i o, ()⟩
  aptr t m i b o x := ⟨.aptr t m i b o, x⟩
theorem idR_app : ∀ (t : Ty) (x : den t), idR.app t x = ⟨t, x⟩
  | .own _ _, _ => rfl
  | .rptr _ _ _, _ => rfl
  | .ptr _ _, _ => rfl
  | .aptr _ _ _ _ _, _ => rfl
  | .fn f c, x => by show (⟨.fn f (idR.app c x).t, (idR.app c x).x⟩ : Dyn) = _; rw [idR_app c x]
  | .pair a b, x => by show (⟨.pair (idR.app a x.1).t (idR.app b x.2).t, ((idR.app a x.1).x, (idR.app b x.2).x)⟩ : Dyn) = _; rw [idR_app a x.1, idR_app b x.2]
  | .tcons a b, x => by show (⟨.tcons (idR.app a x.1).t (idR.app b x.2).t, ((idR.app a x.1).x, (idR.app b x.2).x)⟩ : Dyn) = _; rw [idR_app a x.1, idR_app b x.2]
  | .eptr _ _, _ => rfl | .list _, _ => rfl | .arr _ _, _ => rfl | .dead, _ => rfl | .nil _, _ => rfl | .nilptr, _ => rfl | .nilfn, _ => rfl | .bool, _ => rfl | .int _, _ => rfl | .str, _ => rfl | .unit, _ => rfl | .tnil, _ => rfl
theorem idR_dyn (d : Dyn) : idR.dyn d = d := idR_app d.t d.x
theorem idR_obj (o : AObj) : idR.obj o = o := by
  obtain ⟨t, x⟩ := o
  cases t with
  | box t => show (⟨.box (idR.app t x).t, (idR.app t x).x⟩ : AObj) = _; rw [idR_app t x]
  | row _ _ _ => rfl
  | gone => rfl
theorem idR_st (s : St) : idR.st s = s := by
  obtain ⟨t, h⟩ := s
  have e1 : t.map (fun p => (p.1, idR.dyn p.2)) = t := by
    conv => rhs; rw [← List.map_id t]
    exact List.map_congr_left fun p _ => by rw [idR_dyn]; rfl
  have e2 : h.map idR.obj = h := by
    conv => rhs; rw [← List.map_id h]
    exact List.map_congr_left fun p _ => by rw [idR_obj]; rfl
  show (⟨t.map _, h.map _⟩ : St) = _
  rw [e1, e2]
theorem idR_T : TrT idR := ⟨fun _ _ => ⟨.inl rfl, rfl⟩, fun _ _ _ _ => ⟨.inl rfl, rfl⟩, fun _ _ => ⟨.inl rfl, rfl⟩, fun _ _ _ _ _ _ => ⟨.inl rfl, rfl⟩⟩
theorem idR_OK {w w' : World} {Fr : Nat → Prop} {mu mu' : Nat → Loc} {p : Nat → Prop} (hw : ∀ b, Fr b → w'.heap[b]? = w.heap[b]?) (hm : ∀ i, p i → mu' i = mu i) : TrOK w Fr mu w' Fr mu' idR p where
  fr _ := id
  wd := hw
  own t i hi := ⟨.inl rfl, rfl, by show _ = [(mu' i).hdr]; rw [hm i hi]⟩
  rptr t i o x l hi hr := ⟨.inl rfl, rfl, Rp_keep (fun _ => id) hw (.rptr t i o) x l (hm i hi) hr⟩
  ptr i o hi := ⟨.inl rfl, rfl, by show _ = [Value.pointer (some ⟨(mu' i).loc, o, none⟩)]; rw [hm i hi]⟩
  aptr t m i b o x l hi hr := ⟨.inl rfl, rfl, Rp_keep (fun _ => id) hw (.aptr t m i b o) x l (hm i hi) hr⟩
/-- An object turned in its place. -/
theorem Rep.put1 (H : Rep E w Fr mu s a) {w' : World} {j : Nat} {oj : AObj} (hj : s.heap[j]? = some oj) {o : AObj}
    (hg : Grow (fun b => occ mu j oj ∧ b = (mu j).loc) w w') (ho : OR w' Fr mu j o) (hocc : occ mu j o → occ mu j oj)
    (hn : ∀ (t : Ty) (x : den t), o = ⟨.box t, x⟩ → t.okN (· < s.heap.length))
    (hhand : j < E.m → Handed (mu j) (E.mu0 j) o) : Rep E w' Fr mu (s.setObj j o) a := by
  have hu : upd mu j (mu j) = mu := by funext i; by_cases hi : i = j
                                       · rw [hi, upd_same]
                                       · rw [upd_ne hi]
  have hw : ∀ b, Fr b → w'.heap[b]? = w.heap[b]? := fun b hb => hg.block b (H.si.frL b hb) (fun ⟨h1, h2⟩ => (H.si.own j oj hj h1).2.1 (h2 ▸ hb))
  have := H.setObj (r := idR) (L := mu j) (o := o) hj idR_T (by rw [hu]; exact idR_OK hw (fun _ _ => rfl)) (fun t x h => by rw [idR_app]; exact h) hg (H.si.hh j) (by rw [hu]; exact ho)
    (fun hoc => by rw [hu] at hoc; have h := hocc hoc; exact ⟨Nat.lt_of_lt_of_le (H.si.own j oj hj h).2.2 hg.size, .inl ⟨h, rfl⟩⟩) hn hhand
  rw [hu, idR_st] at this
  exact this
end
end Go.Abs
