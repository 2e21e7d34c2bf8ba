/- Rows frozen; values made others of a type; objects named anew. No conditions. -/
import Derived.Test.YtobfcaejpcpboaaObj
set_option autoImplicit false
set_option linter.unusedVariables false
namespace Go.Abs

/-! ### Rows frozen -/
def FrL (Fr : Nat → Prop) (mu : Nat → Loc) (h : List AObj) (l : List Nat) (b : Nat) : Prop := Fr b ∨ ∃ (i : Nat) (o : AObj), i ∈ l ∧ h[i]? = some o ∧ occ mu i o ∧ b = (mu i).loc
theorem FrL_nil (Fr : Nat → Prop) (mu : Nat → Loc) (h : List AObj) : FrL Fr mu h [] = Fr := by
  funext b
  simp [FrL]
theorem getD_some {h : List AObj} {i : Nat} {t : OTy} {x : denO t} (e : h.getD i gone = ⟨t, x⟩) (hne : t ≠ .gone) : h[i]? = some ⟨t, x⟩ := by
  rw [List.getD_eq_getElem?_getD] at e
  cases hi : h[i]? with
  | none => rw [hi] at e; simp [gone] at e; exact absurd e.1.symm hne
  | some o => rw [hi] at e; simp at e; rw [e]
theorem as_some {d : Dyn} {t : Ty} {x : den t} (h : d.as t = some x) : d = ⟨t, x⟩ := by
  obtain ⟨t', x'⟩ := d
  unfold Dyn.as at h
  split at h
  · rename_i e
    have e : t' = t := e
    subst e
    injection h with h
    rw [← h]
  · cases h
theorem rowOf_some {s : St} {t : Ty} {i : Nat} {xs : List (den t)} (h : rowOf s t i = some xs) : ∃ e f, s.heap[i]? = some (⟨.row e t f, xs⟩ : AObj) := by
  unfold rowOf at h
  split at h
  · rename_i e u f l hl
    have := as_some h
    injection this with h1 h2
    injection h1 with h1
    subst h1
    have h2 := eq_of_heq h2
    subst h2
    exact ⟨e, f, getD_some hl (by simp)⟩
  · cases h
section
variable {E : Env} {w : World} {Fr : Nat → Prop} {mu : Nat → Loc} {s : St} {a : Act}

/-- The block of a row that has one, and its cells. -/
theorem row_cells {i : Nat} {e : Nat} {t : Ty} {f : Bool} {xs : List (den t)} (h : OR w Fr mu i ⟨.row e t f, xs⟩) :
    t.elt = true ∧ ∃ cells, rows (fun x l => Rp w Fr mu t x l) xs cells ∧ ((∃ ad, (mu i).hdr = .slice ad 0 0 ∧ xs = []) ∨
      ∃ cap cur, (mu i).hdr = .slice (some ⟨(mu i).loc, 0, none⟩) xs.length cap ∧ xs.length ≤ cap ∧ cap ≤ maxLen ∧ occ mu i (⟨.row e t f, xs⟩ : AObj) ∧ w.heap[(mu i).loc]? = some (.cells cur e (0, 0)) ∧ cur.size = cap * t.width ∧ cur.toList.take (xs.length * t.width) = cells ∧ At w (mu i).loc 0 cells) := by
  obtain ⟨he, cells, hr, hat⟩ := h
  refine ⟨he, cells, hr, ?_⟩
  rcases hat with ⟨ad, h0, h1, _⟩ | ⟨hloc, hown⟩
  · exact .inl ⟨ad, h0, List.eq_nil_of_length_eq_zero h1⟩
  rcases hown.2 with ⟨h0, h1⟩ | ⟨g, cap, cur, hv, hb0, hg, hn, hc, hcs, htk⟩
  · exact .inl ⟨none, h0, List.eq_nil_of_length_eq_zero h1⟩
  · have hl : (mu i).loc = g := by rw [hv] at hloc; injection hloc with e; exact e.symm
    refine .inr ⟨cap, cur, by rw [hl]; exact hv, hn, hc, hloc, by rw [hl]; exact hg, hcs, htk, ?_⟩
    intro k v hk
    rw [hl, Nat.zero_add, cell_of_row w g k cur e (0, 0) hg]
    rw [← htk, List.getElem?_take] at hk
    split at hk
    · simpa using hk
    · cases hk
/-- A row as a list for ever. -/
theorem row_list {Fr' : Nat → Prop} {i : Nat} {e : Nat} {t : Ty} {f : Bool} {xs : List (den t)} (hF : ∀ b, Fr b → Fr' b) (hb : occ mu i (⟨.row e t f, xs⟩ : AObj) → Fr' (mu i).loc) (h : OR w Fr mu i ⟨.row e t f, xs⟩) :
    Rp w Fr' mu (.list t) xs [(mu i).hdr] := by
  obtain ⟨he, cells, hr, hc⟩ := row_cells h
  have hr' : rows (fun x l => Rp w Fr' mu t x l) xs cells := rows_mono (fun x l h => Rp_keep hF (fun _ _ => rfl) t x l (t.pure_okN (Ty.elt_pure he)) h) hr
  rcases hc with ⟨ad, h0, h1⟩ | ⟨cap, cur, hv, hn, hc, hocc, hg, hcs, htk, hat⟩
  · subst h1
    exact ⟨he, ad, 0, cells, by rw [h0]; rfl, Nat.le_refl _, hr', .inl rfl⟩
  · exact ⟨he, _, cap, cells, by rw [hv], hn, hr', .inr ⟨_, 0, rfl, hb hocc, hat⟩⟩
/-- A thing of a row, where it lies. -/
theorem row_at {Fr' : Nat → Prop} {i : Nat} {e : Nat} {t : Ty} {f : Bool} {xs : List (den t)} (hF : ∀ b, Fr b → Fr' b) (h : OR w Fr mu i ⟨.row e t f, xs⟩) {b n c : Nat} (hv : (mu i).hdr = .slice (some ⟨b, 0, none⟩) n c) {x : Int} (h0 : 0 ≤ x) (h1 : x < n) :
    ∃ cells, Rp w Fr' mu t (ixL t xs x) cells ∧ At w b (x.toNat * t.width) cells ∧ b = (mu i).loc ∧ n = xs.length := by
  obtain ⟨he, cells, hr, hc⟩ := row_cells h
  rcases hc with ⟨ad, h2, _⟩ | ⟨cap, cur, hv', hn, hc, hocc, hg, hcs, htk, hat⟩
  · rw [hv] at h2
    injection h2 with _ h2 _
    have h0 : (0 : Int) ≤ x := h0
    have h1 : x < (n : Int) := h1
    omega
  · rw [hv] at hv'
    injection hv' with e1 e2 e3
    injection e1 with e1
    injection e1 with e1
    subst e2
    have hx : xs[x.toNat]? = some (ixL t xs x) := by
      have : x.toNat < xs.length := by omega
      unfold ixL
      rw [List.getD_eq_getElem?_getD, List.getElem?_eq_getElem this]; rfl
    obtain ⟨c, hc, hl, p, q, e, hp⟩ := rows_get (n := t.width) (fun x l h => Rp_len t x l (Ty.elt_cel he) h) hr hx
    refine ⟨c, Rp_keep hF (fun _ _ => rfl) t _ _ (t.pure_okN (Ty.elt_pure he)) hc, ?_, e1, rfl⟩
    rw [e] at hat
    have := hat.right.left
    rw [hp, Nat.zero_add, ← e1] at this
    exact this

theorem thaw_T (s : St) (l : List Nat) : TrT (thawR s l) := by
  constructor
  · intro t i
    show ((if l.contains i then _ else _ : Dyn).t.vk = .one ∨ (if l.contains i then _ else _ : Dyn).t = .dead) ∧ (if l.contains i then _ else _ : Dyn).t.cel = true
    split
    · split
      · exact ⟨.inl rfl, rfl⟩
      · exact ⟨.inr rfl, rfl⟩
    · exact ⟨.inl rfl, rfl⟩
  · intro t i o x
    show ((if l.contains i then _ else _ : Dyn).t.vk = .one ∨ (if l.contains i then _ else _ : Dyn).t = .dead) ∧ (if l.contains i then _ else _ : Dyn).t.cel = true
    split
    · split
      · exact ⟨.inl rfl, rfl⟩
      · exact ⟨.inr rfl, rfl⟩
    · exact ⟨.inl rfl, rfl⟩
  · exact fun _ _ => ⟨.inl rfl, rfl⟩
  · exact fun _ _ _ _ _ _ => ⟨.inl rfl, rfl⟩
theorem thaw_OK (H : SI E w Fr mu s.heap) (l : List Nat) : TrOK w Fr mu w (FrL Fr mu s.heap l) mu (thawR s l) (· < s.heap.length) where
  fr b hb := .inl hb
  wd _ _ := rfl
  own t i hi := by
    show LeafOK _ _ _ (if l.contains i then _ else _) _
    by_cases hc : l.contains i = true
    · rw [if_pos hc]
      cases hr : rowOf s t i with
      | none => exact ⟨.inr rfl, rfl, _, rfl, H.hh i⟩
      | some xs =>
        obtain ⟨e, f, ho⟩ := rowOf_some hr
        exact ⟨.inl rfl, rfl, row_list (fun b hb => .inl hb) (fun hocc => .inr ⟨i, _, by simpa using hc, ho, hocc, rfl⟩) (H.obj i _ ho)⟩
    · rw [if_neg hc]; exact ⟨.inl rfl, rfl, rfl⟩
  rptr t i o x l' hi hr := by
    show LeafOK _ _ _ (if l.contains i then _ else _) _
    by_cases hc : l.contains i = true
    · rw [if_pos hc]
      obtain ⟨b, n, c, hv, h0, h1, e⟩ := hr
      cases hro : rowOf s t i with
      | none => exact ⟨.inr rfl, rfl, _, e, by simp [Value.oneCell']⟩
      | some xs =>
        obtain ⟨e', f, ho⟩ := rowOf_some hro
        obtain ⟨cells, hc1, hc2, hb, hn⟩ := row_at (Fr' := FrL Fr mu s.heap l) (fun b hb => .inl hb) (H.obj i _ ho) hv h0 h1
        have helt : t.elt = true := (H.obj i _ ho).1
        refine ⟨.inl rfl, rfl, helt, b, _, cells, e, ?_, hc1, hc2⟩
        refine .inr ⟨i, _, by simpa using hc, ho, ?_, hb⟩
        show (mu i).hdr.ownBlock = some (mu i).loc
        rw [hv, ← hb]; rfl
    · rw [if_neg hc]; exact ⟨.inl rfl, rfl, Rp_keep (fun b hb => .inl hb) (fun _ _ => rfl) (.rptr t i o) x l' rfl hr⟩
  ptr i o hi := ⟨.inl rfl, rfl, rfl⟩
  aptr t m i b o x l' hi hr := ⟨.inl rfl, rfl, Rp_keep (fun b hb => .inl hb) (fun _ _ => rfl) (.aptr t m i b o) x l' rfl hr⟩
theorem thaw_okN (s : St) (l : List Nat) {q : Nat → Prop} (hq : ∀ (i : Nat) (o : AObj), s.heap[i]? = some o → q i) (h0 : ∀ i, i < s.heap.length → q i) (t : Ty) (x : den t) (h : t.okN (· < s.heap.length)) : ((thawR s l).app t x).t.okN q := by
  refine okN_app (r := thawR s l) (p := (· < s.heap.length)) (q := q) ?_ ?_ (fun i o hi => h0 i hi) (fun t m i b o x hi => h0 i hi) t x h
  · intro t i hi
    show (if l.contains i then _ else _ : Dyn).t.okN q
    split
    · split <;> trivial
    · exact h0 i hi
  · intro t i o x hi
    show (if l.contains i then _ else _ : Dyn).t.okN q
    split
    · split <;> trivial
    · exact h0 i hi
theorem goneL_len : ∀ (l : List Nat) (h : List AObj), (goneL l h).length = h.length
  | [], h => rfl
  | i :: l, h => by show (goneL l (h.set i gone)).length = _; rw [goneL_len l]; simp
theorem goneL_get : ∀ (l : List Nat) (h : List AObj) (i : Nat) (o : AObj), (goneL l h)[i]? = some o → (i ∈ l ∧ o = gone) ∨ (i ∉ l ∧ h[i]? = some o) ∨ o = gone
  | [], h, i, o, hi => .inr (.inl ⟨by simp, hi⟩)
  | j :: l, h, i, o, hi => by
    rcases goneL_get l (h.set j gone) i o hi with ⟨h1, h2⟩ | ⟨h1, h2⟩ | h2
    · exact .inl ⟨List.mem_cons_of_mem _ h1, h2⟩
    · rw [List.getElem?_set] at h2
      by_cases hij : j = i
      · rw [if_pos hij] at h2
        simp at h2
        exact .inr (.inr h2.2.symm)
      · rw [if_neg hij] at h2
        exact .inr (.inl ⟨by simp [h1]; exact fun e => hij e.symm, h2⟩)
    · exact .inr (.inr h2)
theorem freeze_eq (s : St) {l : List Nat} (h : l ≠ []) : s.freeze l = ⟨((thawR s l).st s).tmps, goneL l ((thawR s l).st s).heap⟩ := by
  cases l with
  | nil => exact absurd rfl h
  | cons _ _ => rfl
theorem freeze_len (s : St) (l : List Nat) : (s.freeze l).heap.length = s.heap.length := by
  by_cases h : l = []
  · subst h; rfl
  · rw [freeze_eq s h]; simp [goneL_len, Tr.st]
theorem SI.freeze (H : SI E w Fr mu s.heap) (l : List Nat) : SI E w (FrL Fr mu s.heap l) mu (s.freeze l).heap := by
  by_cases hl : l = []
  · subst hl; rw [FrL_nil]; exact H
  rw [freeze_eq s hl]
  have hget : ∀ (i : Nat) (o' : AObj), (goneL l ((thawR s l).st s).heap)[i]? = some o' → o' = gone ∨ (i ∉ l ∧ ∃ o0, s.heap[i]? = some o0 ∧ o' = (thawR s l).obj o0) := by
    intro i o' hi
    rcases goneL_get _ _ _ _ hi with ⟨h1, h2⟩ | ⟨h1, h2⟩ | h2
    · exact .inl h2
    · obtain ⟨o0, h0, e⟩ := map_get h2
      exact .inr ⟨h1, o0, h0, e⟩
    · exact .inl h2
  refine H.chg (Grow.refl _ w) (fun b hb => .inl hb) ?_ H.hh (by simp [goneL_len, Tr.st]) ?_ ?_ ?_ ?_ ?_
  · rintro b (hb | ⟨i, o, hi, ho, hoc, e⟩)
    · exact .inl hb
    · exact .inr ⟨i, o, ho, hoc, e⟩
  · intro i o' hi
    rcases hget i o' hi with rfl | ⟨h1, o0, h0, rfl⟩
    · trivial
    · exact OR_tr (thaw_T s l) (thaw_OK H l) rfl (fun t x e => H.nm i t x (e ▸ h0)) (fun _ => rfl) (H.obj i o0 h0)
  · intro i o' hi hoc
    rcases hget i o' hi with rfl | ⟨h1, o0, h0, rfl⟩
    · cases hoc
    · rw [occ_obj] at hoc
      obtain ⟨g1, g2, g3⟩ := H.own i o0 h0 hoc
      refine ⟨g3, ?_, .inl ⟨o0, h0, hoc, rfl⟩⟩
      rintro (hf | ⟨k, ok, hk, hko, hkoc, e⟩)
      · exact g2 hf
      · exact H.sep i k o0 ok h0 hko (fun e => h1 (e ▸ hk)) hoc hkoc e
  · intro i t x hi
    have hlen : (goneL l ((thawR s l).st s).heap).length = s.heap.length := by simp [goneL_len, Tr.st]
    rw [hlen]
    rcases hget i _ hi with e | ⟨h1, o0, h0, e⟩
    · cases e
    · obtain ⟨t0, x0⟩ := o0
      cases t0 with
      | box t0 =>
        have e' : (⟨.box t, x⟩ : AObj) = ⟨.box ((thawR s l).app t0 x0).t, ((thawR s l).app t0 x0).x⟩ := e
        injection e' with e1 e2
        injection e1 with e1
        rw [e1]
        exact thaw_okN s l (fun i o ho => (List.getElem?_eq_some_iff.1 ho).1) (fun i hi => hi) t0 x0 (H.nm i t0 x0 h0)
      | row _ _ _ => injection (show (⟨.box t, x⟩ : AObj) = _ from e) with e1 e2; cases e1
      | gone => injection (show (⟨.box t, x⟩ : AObj) = _ from e) with e1 e2; cases e1
  · intro i o' hm hi
    rcases hget i o' hi with rfl | ⟨h1, o0, h0, rfl⟩
    · trivial
    · have := H.hand i o0 hm h0
      obtain ⟨t0, x0⟩ := o0
      cases t0 with
      | box t0 => exact this
      | row _ _ f => exact this
      | gone => trivial
  · intro i j o1 o2 hi hj hne ho1 ho2 h1 h2
    rcases hget i o1 hi with rfl | ⟨h3, o0, h0, rfl⟩
    · cases ho1
    · rw [occ_obj] at ho1
      have := (H.own i o0 h0 ho1).2.2
      omega
theorem Rep.freeze (H : Rep E w Fr mu s a) (l : List Nat) : Rep E w (FrL Fr mu s.heap l) mu (s.freeze l) a := by
  refine ⟨H.si.freeze l, ?_, H.df, ?_⟩
  · by_cases hl : l = []
    · subst hl; rw [FrL_nil]; exact H.tm
    intro u d hm
    rw [freeze_len]
    rw [freeze_eq s hl] at hm
    obtain ⟨⟨u0, d0⟩, hm0, e⟩ := List.mem_map.1 (show (u, d) ∈ s.tmps.map fun p => (p.1, (thawR s l).dyn p.2) from hm)
    injection e with e1 e2
    subst e1; subst e2
    obtain ⟨h1, h2, h3⟩ := H.tm u0 d0 hm0
    exact ⟨h1, VR_tr (thaw_T s l) (thaw_OK H.si l) h3 h2, thaw_okN s l (fun i o ho => (List.getElem?_eq_some_iff.1 ho).1) (fun i hi => hi) d0.t d0.x h3⟩
  · by_cases hl : l = []
    · subst hl; exact H.so
    · rw [freeze_eq s hl]; simpa [Tr.st, Function.comp_def] using H.so

/-! ### Values made others of a type -/
def Ty.ownN (q : Nat → Prop) : Ty → Prop
  | .own _ i => q i
  | .pair a b => a.ownN q ∧ b.ownN q
  | .tcons a b => a.ownN q ∧ b.ownN q
  | _ => True
theorem addN_mem {i j : Nat} {l : List Nat} : j ∈ addN i l ↔ j = i ∨ j ∈ l := by
  unfold addN
  split
  · rename_i h
    simp at h
    constructor
    · exact .inr
    · rintro (rfl | h')
      · exact h
      · exact h'
  · simp [or_comm]
theorem ownsT_mono : ∀ (t : Ty) (l : List Nat) (i : Nat), i ∈ l → i ∈ ownsT t l
  | .own _ j, l, i, h => addN_mem.2 (.inr h)
  | .rptr _ j _, l, i, h => addN_mem.2 (.inr h)
  | .fn _ c, l, i, h => ownsT_mono c l i h
  | .pair a b, l, i, h => ownsT_mono b _ i (ownsT_mono a l i h)
  | .tcons a b, l, i, h => ownsT_mono b _ i (ownsT_mono a l i h)
  | .ptr _ _, _, _, h => h | .aptr _ _ _ _ _, _, _, h => h | .eptr _ _, _, _, h => h | .list _, _, _, h => h | .arr _ _, _, _, h => h | .dead, _, _, h => h | .nil _, _, _, h => h | .nilptr, _, _, h => h | .nilfn, _, _, h => h | .bool, _, _, h => h | .int _, _, _, h => h | .str, _, _, h => h | .unit, _, _, h => h | .tnil, _, _, h => h
theorem ownsT_ok {q : Nat → Prop} : ∀ (t : Ty) (l : List Nat), (∀ i ∈ ownsT t l, q i) → t.ownN q
  | .own _ j, l, h => h j (addN_mem.2 (.inl rfl))
  | .pair a b, l, h => ⟨ownsT_ok a l (fun i hi => h i (ownsT_mono b _ i hi)), ownsT_ok b _ h⟩
  | .tcons a b, l, h => ⟨ownsT_ok a l (fun i hi => h i (ownsT_mono b _ i hi)), ownsT_ok b _ h⟩
  | .rptr _ _ _, _, _ => trivial | .fn _ _, _, _ => trivial | .ptr _ _, _, _ => trivial | .aptr _ _ _ _ _, _, _ => trivial | .eptr _ _, _, _ => trivial | .list _, _, _ => trivial | .arr _ _, _, _ => trivial | .dead, _, _ => trivial | .nil _, _, _ => trivial | .nilptr, _, _ => trivial | .nilfn, _, _ => trivial | .bool, _, _ => trivial | .int _, _, _ => trivial | .str, _, _ => trivial | .unit, _, _ => trivial | .tnil, _, _ => trivial
end
end Go.Abs
