/- Values made others of a type; objects named anew. No conditions. -/
import Derived.Test.YtobfcaejpcpboaaFrz
set_option autoImplicit false
set_option linter.unusedVariables false
namespace Go.Abs

section
variable {E : Env} {w : World} {Fr Fr' : Nat → Prop} {mu : Nat → Loc} {s : St} {a : Act}

theorem coe_shape (s : St) : ∀ (u t : Ty) (x : den t), ((coe s u t x).t.vk = t.vk ∨ (t.vk = .one ∧ (coe s u t x).t = .dead)) ∧ (t.chain = true → (coe s u t x).t.chain = true) ∧ (t.cel = true → (coe s u t x).t.cel = true) := by
  intro u t x
  fun_induction coe s u t x with
  | case1 => exact ⟨.inl rfl, fun h => (by cases h), fun _ => rfl⟩
  | case2 => exact ⟨.inr ⟨rfl, rfl⟩, fun h => (by cases h), fun _ => rfl⟩
  | case3 => exact ⟨.inl rfl, fun h => (by cases h), fun _ => rfl⟩
  | case4 => exact ⟨.inr ⟨rfl, rfl⟩, fun h => (by cases h), fun _ => rfl⟩
  | case5 a b c d x p q ih1 ih2 =>
    refine ⟨.inl rfl, fun _ => rfl, fun h => ?_⟩
    simp only [Ty.cel, Bool.and_eq_true] at h ⊢
    exact ⟨⟨ih1.2.2 h.1.1, ih2.2.2 h.1.2⟩, ih2.2.1 h.2⟩
  | case6 => exact ⟨.inl rfl, fun h => (by cases h), fun h => (by cases h)⟩
  | case7 => exact ⟨.inl rfl, id, id⟩
/-- What holds of the rows that are made lists. -/
def coeN (q : Nat → Prop) : Ty → Ty → Prop
  | .list _, .own _ i => q i
  | .pair a b, .pair c d => coeN q a c ∧ coeN q b d
  | .tcons a b, .tcons c d => coeN q a c ∧ coeN q b d
  | _, _ => True
theorem coeN_own {q : Nat → Prop} : ∀ (u t : Ty), t.ownN q → coeN q u t := by
  intro u t
  fun_induction coeN q u t with
  | case1 => exact id
  | case2 a b c d ih1 ih2 => exact fun h => ⟨ih1 h.1, ih2 h.2⟩
  | case3 a b c d ih1 ih2 => exact fun h => ⟨ih1 h.1, ih2 h.2⟩
  | case4 => exact fun _ => trivial
theorem coeIds_mono : ∀ (u t : Ty) (l : List Nat) (i : Nat), i ∈ l → i ∈ coeIds u t l := by
  intro u t l
  fun_induction coeIds u t l with
  | case1 => exact fun i h => addN_mem.2 (.inr h)
  | case2 a b c d l ih1 ih2 => exact fun i h => ih2 i (ih1 i h)
  | case3 a b c d l ih1 ih2 => exact fun i h => ih2 i (ih1 i h)
  | case4 => exact fun _ h => h
theorem coeIds_ok {q : Nat → Prop} : ∀ (u t : Ty) (l : List Nat), (∀ i ∈ coeIds u t l, q i) → coeN q u t := by
  intro u t l
  fun_induction coeIds u t l with
  | case1 => exact fun h => h _ (addN_mem.2 (.inl rfl))
  | case2 a b c d l ih1 ih2 => exact fun h => ⟨ih1 (fun i hi => h i (coeIds_mono b d _ i hi)), ih2 h⟩
  | case3 a b c d l ih1 ih2 => exact fun h => ⟨ih1 (fun i hi => h i (coeIds_mono b d _ i hi)), ih2 h⟩
  | case4 u t l h1 h2 h3 =>
    intro _
    unfold coeN
    split
    · exact absurd rfl (h1 _ _ _ rfl)
    · exact absurd rfl (h2 _ _ _ _ rfl)
    · exact absurd rfl (h3 _ _ _ _ rfl)
    · trivial
theorem coe_okN {p : Nat → Prop} (s : St) : ∀ (u t : Ty) (x : den t), t.okN p → (coe s u t x).t.okN p := by
  intro u t x
  fun_induction coe s u t x with
  | case1 => exact fun _ => trivial
  | case2 => exact fun _ => trivial
  | case3 => exact fun _ => trivial
  | case4 => exact fun _ => trivial
  | case5 a b c d x p q ih1 ih2 => exact fun h => ⟨ih1 h.1, ih2 h.2⟩
  | case6 a b c d x p q ih1 ih2 => exact fun h => ⟨ih1 h.1, ih2 h.2⟩
  | case7 => exact id
theorem coe_ok (H : SI E w Fr mu s.heap) (hF : ∀ b, Fr b → Fr' b) {q : Nat → Prop} (hq : ∀ (i : Nat) (o : AObj), q i → s.heap[i]? = some o → occ mu i o → Fr' (mu i).loc) :
    ∀ (u t : Ty) (x : den t) (l : List Value), coeN q u t → Rp w Fr mu t x l → Rp w Fr' mu (coe s u t x).t (coe s u t x).x l := by
  intro u t x
  fun_induction coe s u t x with
  | case1 t e h x => intro l _ hr; cases hr; exact ⟨h, none, 0, [], rfl, Nat.le_refl _, rfl, .inl rfl⟩
  | case2 t e x h => intro l _ hr; cases hr; exact ⟨_, rfl, rfl⟩
  | case3 t u i xs hro x =>
    intro l hn hr
    cases hr
    obtain ⟨e, f, ho⟩ := rowOf_some hro
    exact row_list hF (fun hocc => hq i _ hn ho hocc) (H.obj i _ ho)
  | case4 t u i hro x => intro l hn hr; cases hr; exact ⟨_, rfl, H.hh i⟩
  | case5 a b c d x p q ih1 ih2 =>
    rintro l ⟨hn1, hn2⟩ ⟨l1, l2, e, r1, r2⟩
    exact ⟨l1, l2, e, ih1 _ hn1 r1, ih2 _ hn2 r2⟩
  | case6 a b c d x p q ih1 ih2 =>
    rintro l ⟨hn1, hn2⟩ ⟨v, vs, e, r1, r2⟩
    refine ⟨v, vs, e, ?_, ih2 _ hn2 r2⟩
    rcases (coe_shape s a c x.1).1 with hv | ⟨hv, hd⟩
    · show (match p.t.vk with | .dead => True | .agg => _ | .tup => False | .one => _)
      rw [show p.t.vk = c.vk from hv]
      revert r1
      cases hc : c.vk with
      | dead => exact id
      | agg => rintro ⟨hcel, cs, e, h'⟩; exact ⟨(coe_shape s a c x.1).2.2 hcel, cs, e, ih1 _ hn1 h'⟩
      | tup => exact id
      | one => exact fun h' => ih1 _ hn1 h'
    · have hd' : p.t.vk = .dead := by rw [show p.t = .dead from hd]; rfl
      show (match p.t.vk with | .dead => True | .agg => _ | .tup => False | .one => _)
      rw [hd']; trivial
  | case7 u t x h1 h2 h3 h4 =>
    intro l hn hr
    exact Rp_keep hF (fun _ _ => rfl) t x l (Ty.okN_all (fun _ => rfl) t) hr
theorem coe_VR0 (H : SI E w Fr mu s.heap) (hF : ∀ b, Fr b → Fr' b) {q : Nat → Prop} (hq : ∀ (i : Nat) (o : AObj), q i → s.heap[i]? = some o → occ mu i o → Fr' (mu i).loc)
    {u : Ty} {d : Dyn} {v : Value} (hn : coeN q u d.t) (hv : VR w Fr mu d v) : VR w Fr' mu (coe s u d.t d.x) v := by
  have hsh := coe_shape s u d.t d.x
  have hok := coe_ok H hF hq u d.t d.x
  unfold VR at *
  revert hsh hok
  generalize coe s u d.t d.x = c
  intro hsh hok
  rcases hsh.1 with hk | ⟨hk, hd⟩
  · rw [hk]
    revert hv
    cases hdk : d.t.vk with
    | dead => exact id
    | agg => rintro ⟨hc, cs, e, h'⟩; exact ⟨hsh.2.2 hc, cs, e, hok _ hn h'⟩
    | tup => rintro ⟨cs, e, h'⟩; exact ⟨cs, e, hok _ hn h'⟩
    | one => exact fun h' => hok _ hn h'
  · have : c.t.vk = .dead := by rw [hd]; rfl
    rw [this]; trivial
theorem coe_VR (H : SI E w Fr mu s.heap) (hF : ∀ b, Fr b → Fr' b) {q : Nat → Prop} (hq : ∀ (i : Nat) (o : AObj), q i → s.heap[i]? = some o → occ mu i o → Fr' (mu i).loc)
    {u : Ty} {d : Dyn} {v : Value} (hn : d.t.ownN q) (hv : VR w Fr mu d v) : VR w Fr' mu (coe s u d.t d.x) v := coe_VR0 H hF hq (coeN_own u d.t hn) hv
theorem coe_CD (H : SI E w Fr mu s.heap) (hF : ∀ b, Fr b → Fr' b) {q : Nat → Prop} (hq : ∀ (i : Nat) (o : AObj), q i → s.heap[i]? = some o → occ mu i o → Fr' (mu i).loc)
    {u : Ty} {d : Dyn} {l : List Value} {p : Nat → Prop} (hn : d.t.ownN q) (hv : CD w Fr mu p d l) : (coe s u d.t d.x).t.cel = true ∧ Rp w Fr' mu (coe s u d.t d.x).t (coe s u d.t d.x).x l :=
  ⟨(coe_shape s u d.t d.x).2.2 hv.cel, coe_ok H hF hq u d.t d.x l (coeN_own u d.t hn) hv.rp⟩

/-- A value as one of a type for ever: its rows are frozen. -/
theorem coeF_ok (H : Rep E w Fr mu s a) {t : Ty} {d : Dyn} {x : den t} {s' : St} (h : coeF s t d = some (x, s')) {l : List Value} {p : Nat → Prop} (hd : CD w Fr mu p d l) :
    t.elt = true ∧ s' = s.freeze (ownsT d.t []) ∧ Rp w (FrL Fr mu s.heap (ownsT d.t [])) mu t x l ∧ Rep E w (FrL Fr mu s.heap (ownsT d.t [])) mu s' a := by
  unfold coeF at h
  split at h
  · rename_i y hy
    split at h
    · rename_i he
      injection h with h
      injection h with h1 h2
      subst h1; subst h2
      have hc := coe_CD (u := t) (Fr' := FrL Fr mu s.heap (ownsT d.t [])) (q := fun i => i ∈ ownsT d.t []) H.si (fun b hb => .inl hb) (fun i o hi ho hoc => .inr ⟨i, o, hi, ho, hoc, rfl⟩) (ownsT_ok _ _ (fun _ => id)) hd
      rw [as_some hy] at hc
      exact ⟨he, rfl, hc.2, H.freeze _⟩
    · cases h
  · cases h

/-! ### Objects named anew -/
theorem idsT_mono : ∀ (t : Ty) (l : List Nat) (i : Nat), i ∈ l → i ∈ idsT t l
  | .own _ j, l, i, h => addN_mem.2 (.inr h)
  | .ptr j _, l, i, h => addN_mem.2 (.inr h)
  | .rptr _ j _, l, i, h => addN_mem.2 (.inr h)
  | .aptr _ _ j _ _, l, i, h => addN_mem.2 (.inr h)
  | .fn _ c, l, i, h => idsT_mono c l i h
  | .eptr t _, l, i, h => idsT_mono t l i h
  | .list t, l, i, h => idsT_mono t l i h
  | .arr _ t, l, i, h => idsT_mono t l i h
  | .pair a b, l, i, h => idsT_mono b _ i (idsT_mono a l i h)
  | .tcons a b, l, i, h => idsT_mono b _ i (idsT_mono a l i h)
  | .dead, _, _, h => h | .nil _, _, _, h => h | .nilptr, _, _, h => h | .nilfn, _, _, h => h | .bool, _, _, h => h | .int _, _, _, h => h | .str, _, _, h => h | .unit, _, _, h => h | .tnil, _, _, h => h
theorem idsT_ok {q : Nat → Prop} : ∀ (t : Ty) (l : List Nat), (∀ i ∈ idsT t l, q i) → t.okN q
  | .own _ j, l, h => h j (addN_mem.2 (.inl rfl))
  | .ptr j _, l, h => h j (addN_mem.2 (.inl rfl))
  | .rptr _ j _, l, h => h j (addN_mem.2 (.inl rfl))
  | .aptr _ _ j _ _, l, h => h j (addN_mem.2 (.inl rfl))
  | .fn _ c, l, h => idsT_ok c l h
  | .pair a b, l, h => ⟨idsT_ok a l (fun i hi => h i (idsT_mono b _ i hi)), idsT_ok b _ h⟩
  | .tcons a b, l, h => ⟨idsT_ok a l (fun i hi => h i (idsT_mono b _ i hi)), idsT_ok b _ h⟩
  | .eptr _ _, _, _ => trivial | .list _, _, _ => trivial | .arr _ _, _, _ => trivial | .dead, _, _ => trivial | .nil _, _, _ => trivial | .nilptr, _, _ => trivial | .nilfn, _, _ => trivial | .bool, _, _ => trivial | .int _, _, _ => trivial | .str, _, _ => trivial | .unit, _, _ => trivial | .tnil, _, _ => trivial
theorem subN_ok {l m : List Nat} (h : subN l m = true) : ∀ i ∈ l, i ∈ m := by
  unfold subN at h
  intro i hi
  simpa using List.all_eq_true.1 h i hi
theorem distinct_ok : ∀ {l : List Nat}, distinct l = true → l.Nodup
  | [], _ => List.nodup_nil
  | i :: l, h => by
    simp only [distinct, Bool.and_eq_true] at h
    exact List.nodup_cons.2 ⟨by simpa using h.1, distinct_ok h.2⟩
theorem closed_ok {h : List AObj} {ids : List Nat} (hc : closed h ids = true) : ∀ i ∈ ids, i < h.length ∧ ∀ (t : Ty) (x : den t), h[i]? = some (⟨.box t, x⟩ : AObj) → t.okN (· ∈ ids) := by
  intro i hi
  have := List.all_eq_true.1 hc i hi
  simp only [Bool.and_eq_true, decide_eq_true_eq] at this
  refine ⟨this.1, fun t x e => idsT_ok t [] ?_⟩
  have h2 := subN_ok this.2
  rw [show h.getD i gone = ⟨.box t, x⟩ by rw [List.getD_eq_getElem?_getD, e]; rfl] at h2
  exact h2
theorem posN_get : ∀ {l : List Nat} {i : Nat}, i ∈ l → posN i l < l.length ∧ l.getD (posN i l) 0 = i
  | [], _, h => by cases h
  | j :: l, i, h => by
    unfold posN
    by_cases hij : i = j
    · rw [if_pos hij]; exact ⟨by simp, by simp [hij]⟩
    · rw [if_neg hij]
      have := posN_get (l := l) (i := i) ((List.mem_cons.1 h).resolve_left hij)
      exact ⟨by simp; exact this.1, by simpa using this.2⟩
/-- The places of objects named anew. -/
def muOf (mu : Nat → Loc) (ids : List Nat) : Nat → Loc := fun j => mu (ids.getD j 0)
theorem renR_T (r : Nat → Nat) : TrT (renR r) := ⟨fun _ _ => ⟨.inl rfl, rfl⟩, fun _ _ _ _ => ⟨.inl rfl, rfl⟩, fun _ _ => ⟨.inl rfl, rfl⟩, fun _ _ _ _ _ _ => ⟨.inl rfl, rfl⟩⟩
theorem renR_OK {w : World} {Fr : Nat → Prop} {mu mu' : Nat → Loc} {r : Nat → Nat} {p : Nat → Prop} (h : ∀ i, p i → mu' (r i) = mu i) : TrOK w Fr mu w Fr mu' (renR r) p where
  fr _ := id
  wd _ _ := rfl
  own t i hi := ⟨.inl rfl, rfl, by show _ = [(mu' (r i)).hdr]; rw [h i hi]⟩
  rptr t i o x l hi hr := ⟨.inl rfl, rfl, by
    obtain ⟨b, n, c, hv, rest⟩ := hr
    exact ⟨b, n, c, by rw [h i hi]; exact hv, rest⟩⟩
  ptr i o hi := ⟨.inl rfl, rfl, by show _ = [Value.pointer (some ⟨(mu' (r i)).loc, o, none⟩)]; rw [h i hi]⟩
  aptr t m i b o x l hi hr := ⟨.inl rfl, rfl, hr.1, by rw [h i hi]; exact hr.2⟩
theorem posR_OK {ids : List Nat} : TrOK w Fr mu w Fr (muOf mu ids) (renR (posN · ids)) (· ∈ ids) :=
  renR_OK fun i hi => by unfold muOf; rw [(posN_get hi).2]
theorem posR_okN {ids : List Nat} (t : Ty) (x : den t) (h : t.okN (· ∈ ids)) : ((renR (posN · ids)).app t x).t.okN (· < ids.length) :=
  okN_app (r := renR (posN · ids)) (p := (· ∈ ids)) (q := (· < ids.length)) (fun t i hi => (posN_get hi).1) (fun t i o x hi => (posN_get hi).1) (fun i o hi => (posN_get hi).1) (fun t m i b o x hi => (posN_get hi).1) t x h
theorem nodup_getD {l : List Nat} (h : l.Nodup) {i j : Nat} (hi : i < l.length) (hj : j < l.length) (hne : i ≠ j) : l.getD i 0 ≠ l.getD j 0 := by
  simp only [List.getD_eq_getElem?_getD, List.getElem?_eq_getElem hi, List.getElem?_eq_getElem hj, Option.getD_some]
  intro e
  exact hne ((List.getElem_inj h).1 e)
theorem sub_get {h : List AObj} {ids : List Nat} {f : AObj → AObj} {j : Nat} {o : AObj} (hc : closed h ids = true) (hj : (ids.map fun i => f (h.getD i gone))[j]? = some o) :
    j < ids.length ∧ ids.getD j 0 ∈ ids ∧ ∃ o0, h[ids.getD j 0]? = some o0 ∧ o = f o0 := by
  rw [List.getElem?_map] at hj
  cases hk : ids[j]? with
  | none => rw [hk] at hj; cases hj
  | some k =>
    rw [hk] at hj
    injection hj with hj
    have hlt := (List.getElem?_eq_some_iff.1 hk).1
    have hm : k ∈ ids := List.mem_of_getElem? hk
    have hlk := (closed_ok hc k hm).1
    have e : ids.getD j 0 = k := by rw [List.getD_eq_getElem?_getD, hk]; rfl
    rw [e]
    refine ⟨hlt, hm, h[k], by rw [List.getElem?_eq_getElem hlk], ?_⟩
    rw [← hj]; show f (h.getD k gone) = _; rw [List.getD_eq_getElem?_getD, List.getElem?_eq_getElem hlk]; rfl
theorem occ_back {mu : Nat → Loc} {i : Nat} {o o' : AObj} (h : occ mu i (o.back o')) : occ mu i o' := by
  obtain ⟨t, x⟩ := o
  obtain ⟨t', x'⟩ := o'
  cases t <;> cases t' <;> first | exact h | exact h.elim
theorem occ_handed {mu : Nat → Loc} {i : Nat} {o : AObj} : occ mu i o.handed = occ mu i o := by
  obtain ⟨t, x⟩ := o
  cases t <;> rfl
theorem OR_handed {i : Nat} {o : AObj} (h : OR w Fr mu i o) : OR w Fr mu i o.handed := by
  obtain ⟨t, x⟩ := o
  cases t <;> exact h
theorem SI.so {h : List AObj} (H : SI E w Fr mu h) : SO w Fr mu h := ⟨H.hh, H.obj, H.nm, H.sep, fun i o hi ho => (H.own i o hi ho).2⟩
theorem box_handed {t : Ty} {x : den t} : ∀ {o : AObj}, (⟨.box t, x⟩ : AObj) = o.handed → (⟨.box t, x⟩ : AObj) = o
  | ⟨.box _, _⟩, h => h
  | ⟨.row _ _ _, _⟩, h => by injection h with e1 e2; cases e1
  | ⟨.gone, _⟩, h => h
theorem SO.sub {h : List AObj} (H : SO w Fr mu h) {ids : List Nat} (hc : closed h ids = true) (hd : distinct ids = true) {f : AObj → AObj} (hf : ∀ o, f o = (renR (posN · ids)).obj o ∨ f o = ((renR (posN · ids)).obj o).handed) :
    SO w Fr (muOf mu ids) (ids.map fun i => f (h.getD i gone)) := by
  have hocc : ∀ (mu : Nat → Loc) i o, occ mu i (f o) = occ mu i o := by
    intro mu i o
    rcases hf o with e | e
    · rw [e, occ_obj]
    · rw [e, occ_handed, occ_obj]
  have hlen : (ids.map fun i => f (h.getD i gone)).length = ids.length := by simp
  refine ⟨fun i => H.hh _, ?_, ?_, ?_, ?_⟩
  · intro j o hj
    obtain ⟨hlt, hm, o0, h0, rfl⟩ := sub_get hc hj
    have := OR_tr (i' := j) (renR_T _) (posR_OK (w := w) (Fr := Fr) (mu := mu) (ids := ids)) (i := ids.getD j 0) rfl (fun t x e => (closed_ok hc _ hm).2 t x (e ▸ h0)) (fun _ => rfl) (H.obj _ o0 h0)
    rcases hf o0 with e | e
    · rw [e]; exact this
    · rw [e]; exact OR_handed this
  · intro j t x hj
    rw [hlen]
    obtain ⟨hlt, hm, o0, h0, e⟩ := sub_get hc hj
    have hbx : (⟨.box t, x⟩ : AObj) = (renR (posN · ids)).obj o0 := by
      rcases hf o0 with e' | e'
      · rw [e, e']
      · exact box_handed (by rw [e, e'])
    obtain ⟨t0, x0⟩ := o0
    cases t0 with
    | box t0 =>
      have e' : (⟨.box t, x⟩ : AObj) = ⟨.box ((renR (posN · ids)).app t0 x0).t, ((renR (posN · ids)).app t0 x0).x⟩ := hbx
      injection e' with e1 e2
      injection e1 with e1
      rw [e1]
      exact posR_okN t0 x0 ((closed_ok hc _ hm).2 t0 x0 h0)
    | row _ _ _ => injection (show (⟨.box t, x⟩ : AObj) = _ from hbx) with e1 e2; cases e1
    | gone => injection (show (⟨.box t, x⟩ : AObj) = _ from hbx) with e1 e2; cases e1
  · intro i j o o' hi hj hne ho ho'
    obtain ⟨hlt, hm, o0, h0, rfl⟩ := sub_get hc hi
    obtain ⟨hlt', hm', o0', h0', rfl⟩ := sub_get hc hj
    rw [hocc] at ho ho'
    have a1 : occ mu (ids.getD i 0) o0 := by
      obtain ⟨t, x⟩ := o0; cases t <;> exact ho
    have a2 : occ mu (ids.getD j 0) o0' := by
      obtain ⟨t, x⟩ := o0'; cases t <;> exact ho'
    exact H.sep _ _ o0 o0' h0 h0' (nodup_getD (distinct_ok hd) hlt hlt' hne) a1 a2
  · intro i o hi ho
    obtain ⟨hlt, hm, o0, h0, rfl⟩ := sub_get hc hi
    rw [hocc] at ho
    have a1 : occ mu (ids.getD i 0) o0 := by
      obtain ⟨t, x⟩ := o0; cases t <;> exact ho
    exact H.own _ o0 h0 a1
end
end Go.Abs
