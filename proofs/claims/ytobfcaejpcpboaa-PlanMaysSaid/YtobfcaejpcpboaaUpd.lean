/- The state's relation to memory behind a step. No conditions. -/
import Derived.Test.YtobfcaejpcpboaaInv
set_option autoImplicit false
set_option linter.unusedVariables false
namespace Go.Abs

/-- Blocks that objects have of their own. -/
def Mine (mu : Nat → Loc) (h : List AObj) (b : Nat) : Prop := ∃ (i : Nat) (o : AObj), h[i]? = some o ∧ occ mu i o ∧ b = (mu i).loc

theorem SI.frKeep {E : Env} {w : World} {Fr : Nat → Prop} {mu : Nat → Loc} {h : List AObj} (H : SI E w Fr mu h) {w' : World} (hg : Grow (Mine mu h) w w') (b : Nat) (hb : Fr b) : w'.heap[b]? = w.heap[b]? :=
  hg.block b (H.frL b hb) (fun ⟨i, o, hi, ho, e⟩ => (H.own i o hi ho).2.1 (e ▸ hb))

/-- What holds of objects alone. -/
structure SO (w : World) (Fr : Nat → Prop) (mu : Nat → Loc) (h : List AObj) : Prop where
  hh : ∀ i, (mu i).hdr.oneCell' = true
  obj : ∀ (i : Nat) (o : AObj), h[i]? = some o → OR w Fr mu i o
  nm : ∀ (i : Nat) (t : Ty) (x : den t), h[i]? = some (⟨.box t, x⟩ : AObj) → t.okN (· < h.length)
  sep : ∀ (i j : Nat) (o o' : AObj), h[i]? = some o → h[j]? = some o' → i ≠ j → occ mu i o → occ mu j o' → (mu i).loc ≠ (mu j).loc
  own : ∀ (i : Nat) (o : AObj), h[i]? = some o → occ mu i o → ¬ Fr (mu i).loc ∧ (mu i).loc < w.heap.size
/-- A state behind any step. -/
theorem SI.chg2 {E : Env} {w : World} {Fr : Nat → Prop} {mu : Nat → Loc} {h : List AObj} (H : SI E w Fr mu h) {w' : World} {Fr' : Nat → Prop} {mu' : Nat → Loc} {h' : List AObj}
    (hg : Grow (Mine mu h) w w') (hF : ∀ b, Fr b → Fr' b) (hF' : ∀ b, Fr' b → Fr b ∨ Mine mu h b ∨ w.heap.size ≤ b) (hL : ∀ b, Fr' b → b < w'.heap.size) (hl : h.length ≤ h'.length) (hso : SO w' Fr' mu' h')
    (hown : ∀ (i : Nat) (o' : AObj), h'[i]? = some o' → occ mu' i o' → Mine mu h (mu' i).loc ∨ w.heap.size ≤ (mu' i).loc)
    (hhand : ∀ (i : Nat) (o : AObj), i < E.m → h'[i]? = some o → Handed (mu' i) (E.mu0 i) o) : SI E w' Fr' mu' h' where
  grow := H.grow.trans hg (fun k hk ⟨i, o, hi, ho, e⟩ => by
    have := (H.own i o hi ho).1
    rw [← e] at this
    exact this.resolve_right (by omega))
  fr0 b hb := hF b (H.fr0 b hb)
  frN b hb := by
    rcases hF' b hb with hb | ⟨i, o, hi, ho, e⟩ | hb
    · exact H.frN b hb
    · subst e; exact .inr (H.own i o hi ho).1
    · exact .inr (.inr (Nat.le_trans H.grow.size hb))
  frL := hL
  hh := hso.hh
  obj := hso.obj
  nm := hso.nm
  sep := hso.sep
  own i o hi ho := by
    refine ⟨?_, hso.own i o hi ho⟩
    rcases hown i o hi ho with ⟨j, o0, hj, ho0, e⟩ | h3
    · rw [e]; exact (H.own j o0 hj ho0).1
    · exact .inr (Nat.le_trans H.grow.size h3)
  hand := hhand
  len := Nat.le_trans H.len hl
theorem SI.chg {E : Env} {w : World} {Fr : Nat → Prop} {mu : Nat → Loc} {h : List AObj} (H : SI E w Fr mu h) {w' : World} {Fr' : Nat → Prop} {mu' : Nat → Loc} {h' : List AObj}
    (hg : Grow (Mine mu h) w w') (hF : ∀ b, Fr b → Fr' b) (hF' : ∀ b, Fr' b → Fr b ∨ Mine mu h b)
    (hh : ∀ i, (mu' i).hdr.oneCell' = true) (hl : h.length ≤ h'.length)
    (hobj : ∀ (i : Nat) (o' : AObj), h'[i]? = some o' → OR w' Fr' mu' i o')
    (hown : ∀ (i : Nat) (o' : AObj), h'[i]? = some o' → occ mu' i o' → (mu' i).loc < w'.heap.size ∧ ¬ Fr' (mu' i).loc ∧
      ((∃ o, h[i]? = some o ∧ occ mu i o ∧ (mu' i).loc = (mu i).loc) ∨ w.heap.size ≤ (mu' i).loc))
    (hnm : ∀ (i : Nat) (t : Ty) (x : den t), h'[i]? = some (⟨.box t, x⟩ : AObj) → t.okN (· < h'.length))
    (hhand : ∀ (i : Nat) (o : AObj), i < E.m → h'[i]? = some o → Handed (mu' i) (E.mu0 i) o)
    (hsep : ∀ (i j : Nat) (o o' : AObj), h'[i]? = some o → h'[j]? = some o' → i ≠ j → occ mu' i o → occ mu' j o' → w.heap.size ≤ (mu' i).loc → w.heap.size ≤ (mu' j).loc → (mu' i).loc ≠ (mu' j).loc) :
    SI E w' Fr' mu' h' where
  grow := H.grow.trans hg (fun k hk ⟨i, o, hi, ho, e⟩ => by
    have := (H.own i o hi ho).1
    rw [← e] at this
    exact this.resolve_right (by omega))
  fr0 b hb := hF b (H.fr0 b hb)
  frN b hb := by
    rcases hF' b hb with hb | ⟨i, o, hi, ho, e⟩
    · exact H.frN b hb
    · subst e; exact .inr (H.own i o hi ho).1
  frL b hb := by
    refine Nat.lt_of_lt_of_le ?_ hg.size
    rcases hF' b hb with hb | ⟨i, o, hi, ho, e⟩
    · exact H.frL b hb
    · subst e; exact (H.own i o hi ho).2.2
  hh := hh
  obj := hobj
  nm := hnm
  sep i j o o' hi hj hne ho ho' := by
    rcases (hown i o hi ho).2.2 with ⟨oi, hi0, ho0, e⟩ | hfi
    · rcases (hown j o' hj ho').2.2 with ⟨oj, hj0, ho0', e'⟩ | hfj
      · rw [e, e']; exact H.sep i j oi oj hi0 hj0 hne ho0 ho0'
      · have := (H.own i oi hi0 ho0).2.2
        omega
    · rcases (hown j o' hj ho').2.2 with ⟨oj, hj0, ho0', e'⟩ | hfj
      · have := (H.own j oj hj0 ho0').2.2
        omega
      · exact hsep i j o o' hi hj hne ho ho' hfi hfj
  own i o hi ho := by
    obtain ⟨h1, h2, h3⟩ := hown i o hi ho
    refine ⟨?_, h2, h1⟩
    rcases h3 with ⟨o0, hi0, ho0, e⟩ | h3
    · rw [e]; exact (H.own i o0 hi0 ho0).1
    · exact .inr (Nat.le_trans H.grow.size h3)
  hand := hhand
  len := Nat.le_trans H.len hl

theorem RowAt.keep {w w' : World} {L : Loc} {e width n : Nat} {cells : List Value} (h : RowAt w L e width n cells) (hb : L.hdr.ownBlock = some L.loc → w'.heap[L.loc]? = w.heap[L.loc]?) : RowAt w' L e width n cells := by
  rcases h with h | ⟨h0, h1, h2⟩
  · exact .inl h
  · refine .inr ⟨h0, h1, ?_⟩
    rcases h2 with h2 | ⟨g, cap, cur, hv, hb0, hg, rest⟩
    · exact .inl h2
    · refine .inr ⟨g, cap, cur, hv, hb0, ?_, rest⟩
      have hgl : L.loc = g := by rw [hv] at h0; injection h0 with h0; exact h0.symm
      rw [← hgl, hb h0, hgl]; exact hg
/-- An object where names have changed, and memory elsewhere. -/
theorem OR_tr {w w' : World} {Fr Fr' : Nat → Prop} {mu mu' : Nat → Loc} {r : Tr} {p : Nat → Prop} (hT : TrT r) (h : TrOK w Fr mu w' Fr' mu' r p) {i i' : Nat} (hi : mu' i' = mu i) {o : AObj}
    (hn : ∀ (t : Ty) (x : den t), o = ⟨.box t, x⟩ → t.okN p) (hb : occ mu i o → w'.heap[(mu i).loc]? = w.heap[(mu i).loc]?) (ho : OR w Fr mu i o) : OR w' Fr' mu' i' (r.obj o) := by
  obtain ⟨t, x⟩ := o
  cases t with
  | gone => trivial
  | box t =>
    obtain ⟨hc, cells, e, hcell, hr⟩ := ho
    exact ⟨cel_app hT t x hc, cells, e, by rw [hi]; rw [hb trivial]; exact hcell, Rp_tr hT h t x cells (hn t x rfl) hr⟩
  | row e t f =>
    obtain ⟨he, cells, hr, hat⟩ := ho
    exact ⟨he, cells, rows_mono (fun x l hr => Rp_keep h.fr h.wd t x l (t.pure_okN (Ty.elt_pure he)) hr) hr, by rw [hi]; exact hat.keep hb⟩
theorem OR_keep {w w' : World} {Fr Fr' : Nat → Prop} {mu mu' : Nat → Loc} (hF : ∀ b, Fr b → Fr' b) (hw : ∀ b, Fr b → w'.heap[b]? = w.heap[b]?) {i : Nat} (hi : mu' i = mu i) {o : AObj}
    (hn : ∀ (t : Ty) (x : den t), o = ⟨.box t, x⟩ → t.okN (fun i => mu' i = mu i)) (hb : occ mu i o → w'.heap[(mu i).loc]? = w.heap[(mu i).loc]?) (ho : OR w Fr mu i o) : OR w' Fr' mu' i o := by
  obtain ⟨t, x⟩ := o
  cases t with
  | gone => trivial
  | box t =>
    obtain ⟨hc, cells, e, hcell, hr⟩ := ho
    exact ⟨hc, cells, e, by rw [hi]; rw [hb trivial]; exact hcell, Rp_keep hF hw t x cells (hn t x rfl) hr⟩
  | row e t f =>
    obtain ⟨he, cells, hr, hat⟩ := ho
    exact ⟨he, cells, rows_mono (fun x l hr => Rp_keep hF hw t x l (t.pure_okN (Ty.elt_pure he)) hr) hr, by rw [hi]; exact hat.keep hb⟩

/-! ### A slot written; a draw -/
theorem VR_nope {w : World} {Fr : Nat → Prop} {mu : Nat → Loc} {v : Value} : VR w Fr mu nope v := trivial
theorem Rep.get {E : Env} {w : World} {Fr : Nat → Prop} {mu : Nat → Loc} {s : St} {a : Act} (H : Rep E w Fr mu s a) (t : Nat) : VR w Fr mu (getT s.tmps t) (a.tmps.getD t undef) ∧ (getT s.tmps t).t.okN (· < s.heap.length) := by
  rcases getT_mem (l := s.tmps) (t := t) with h | h
  · exact (H.tm _ _ h).2
  · rw [h]; exact ⟨trivial, trivial⟩
theorem VR_const {w : World} {Fr : Nat → Prop} {mu : Nat → Loc} (v : Value) : VR w Fr mu (ofConst v) v := by
  unfold ofConst
  split <;> first | rfl | trivial
theorem ofConst_ok {p : Nat → Prop} (v : Value) : (ofConst v).t.okN p := by
  unfold ofConst
  split <;> trivial
theorem Rep.op {E : Env} {w : World} {Fr : Nat → Prop} {mu : Nat → Loc} {s : St} {a : Act} (H : Rep E w Fr mu s a) (x : Operand) : VR w Fr mu (s.get x) (a.eval x) ∧ (s.get x).t.okN (· < s.heap.length) := by
  cases x with
  | tmp t => exact H.get t
  | const v => exact ⟨VR_const v, ofConst_ok v⟩
  | global g => exact ⟨trivial, trivial⟩
  | func f => exact ⟨⟨[], rfl, rfl⟩, trivial⟩
theorem size_put (a : Act) (d : Option Tmp) (v : Value) : (a.put d v).tmps.size = a.tmps.size := by cases d <;> simp [Act.put]
theorem put_defers (a : Act) (d : Option Tmp) (v : Value) : (a.put d v).defers = a.defers := by cases d <;> rfl
theorem map_putT_lt : ∀ {l : List (Nat × Dyn)} {t : Nat} {v : Dyn} {k : Nat}, (∀ p ∈ l, k < p.1) → k < t → ∀ p ∈ putT l t v, k < p.1 := by
  intro l t v k hl ht p hp
  rcases mem_putT (u := p.1) (d := p.2) hp with ⟨h, _⟩ | h
  · omega
  · exact hl _ h
theorem sorted_putT : ∀ {l : List (Nat × Dyn)} {t : Nat} {v : Dyn}, (l.map (·.1)).Pairwise (· < ·) → ((putT l t v).map (·.1)).Pairwise (· < ·)
  | [], _, _, _ => by simp [putT]
  | (u, d) :: l, t, v, h => by
    have h0 := h
    simp only [List.map_cons, List.pairwise_cons, List.mem_map] at h
    have hlt : ∀ p ∈ l, u < p.1 := fun p hp => h.1 _ ⟨p, hp, rfl⟩
    unfold putT
    split
    · rename_i htu
      simp only [List.map_cons, List.pairwise_cons]
      refine ⟨?_, by simpa using h0⟩
      intro a ha
      rcases List.mem_cons.1 ha with ha | ha
      · omega
      · obtain ⟨p, hp, rfl⟩ := List.mem_map.1 ha
        have := hlt p hp; omega
    · rename_i hnl
      split
      · rename_i he
        subst he
        simp only [List.map_cons, List.pairwise_cons, List.mem_map]
        exact ⟨h.1, h.2⟩
      · rename_i hne
        simp only [List.map_cons, List.pairwise_cons, List.mem_map]
        refine ⟨?_, sorted_putT h.2⟩
        rintro a ⟨p, hp, rfl⟩
        exact map_putT_lt hlt (by omega) p hp
theorem Rep.put {E : Env} {w : World} {Fr : Nat → Prop} {mu : Nat → Loc} {s : St} {a : Act} (H : Rep E w Fr mu s a) (dst : Option Tmp) (hd : ∀ t, dst = some t → t < a.tmps.size) {d : Dyn} {v : Value}
    (hv : VR w Fr mu d v) (hn : d.t.okN (· < s.heap.length)) : Rep E w Fr mu (s.put dst d) (a.put dst v) := by
  cases dst with
  | none => exact H
  | some t =>
    refine ⟨H.si, fun u d' hm => ?_, H.df, sorted_putT H.so⟩
    rcases mem_putT_ne H.so hm with ⟨rfl, rfl⟩ | ⟨hm, hne⟩
    · refine ⟨by rw [size_put]; exact hd _ rfl, ?_, hn⟩
      have := hd _ rfl
      simp only [Act.put]
      simpa [this] using hv
    · obtain ⟨h1, h2, h3⟩ := H.tm u d' hm
      refine ⟨by rw [size_put]; exact h1, ?_, h3⟩
      simp only [Act.put]
      rw [show (a.tmps.setIfInBounds t v).getD u undef = a.tmps.getD u undef by simp [Array.getElem?_setIfInBounds_ne (Ne.symm hne)]]
      exact h2
/-- A world further on that differs in nothing that is the state's. -/
theorem Rep.world {E : Env} {w w' : World} {Fr : Nat → Prop} {mu : Nat → Loc} {s : St} {a : Act} (H : Rep E w Fr mu s a) (hg : Grow (fun _ => False) w w') : Rep E w' Fr mu s a := by
  have hw : ∀ b, Fr b → w'.heap[b]? = w.heap[b]? := fun b hb => hg.block b (H.si.frL b hb) id
  refine ⟨H.si.chg ⟨hg.os, hg.tape, hg.output, hg.size, fun k hk _ => hg.block k hk id⟩ (fun _ => id) (fun _ => .inl) H.si.hh (Nat.le_refl _) ?_ ?_ H.si.nm H.si.hand ?_, ?_, H.df, H.so⟩
  · intro i o hi
    refine OR_keep (fun _ => id) hw rfl (fun t x _ => Ty.okN_all (fun _ => rfl) t) (fun ho => hg.block _ (H.si.own i o hi ho).2.2 id) (H.si.obj i o hi)
  · intro i o hi ho
    obtain ⟨h1, h2, h3⟩ := H.si.own i o hi ho
    exact ⟨Nat.lt_of_lt_of_le h3 hg.size, h2, .inl ⟨o, hi, ho, rfl⟩⟩
  · intro i j o o' hi hj hne ho ho' hfi
    have := (H.si.own i o hi ho).2.2
    omega
  · intro u d hm
    obtain ⟨h1, h2, h3⟩ := H.tm u d hm
    exact ⟨h1, VR_keep (fun _ => id) hw (Ty.okN_all (fun _ => rfl) _) h2, h3⟩
end Go.Abs
