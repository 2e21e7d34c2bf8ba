/- The making of variables and rows, as the interpreter tells it. No conditions. -/
import Derived.Test.YtobfcaejpcpboaaOps3
set_option autoImplicit false
set_option linter.unusedVariables false
namespace Go.Abs

section
variable {P : Program} {T : Told} {E : Env} {w : World} {Fr : Nat → Prop} {mu : Nat → Loc} {s : St} {a : Act}

/-- A row without a block. -/
def nilLoc : Loc := ⟨0, .slice none 0 0⟩
theorem OR_nil {mu : Nat → Loc} {i e : Nat} {t : Ty} {f : Bool} (he : t.elt = true) (hm : mu i = nilLoc) : OR w Fr mu i ⟨.row e t f, []⟩ :=
  ⟨he, [], rfl, .inl ⟨none, by rw [hm]; rfl, rfl, by rw [hm]; simp [nilLoc, Value.ownBlock]⟩⟩
theorem occ_nil {mu : Nat → Loc} {i e : Nat} {t : Ty} {f : Bool} {xs : List (den t)} (hm : mu i = nilLoc) : ¬ occ mu i (⟨.row e t f, xs⟩ : AObj) := by
  intro h
  have h : (mu i).hdr.ownBlock = some (mu i).loc := h
  rw [hm] at h
  cases h
/-- More objects, of which the elder ones are as they were. -/
structure More (E : Env) (w w' : World) (Fr : Nat → Prop) (mu mu' : Nat → Loc) (h h' : List AObj) : Prop where
  si : SI E w' Fr mu' h'
  same : ∀ i, i < h.length → mu' i = mu i
  len : h.length ≤ h'.length
  fr : ∀ b, Fr b → w'.heap[b]? = w.heap[b]?
  pre : ∀ (i : Nat) (o : AObj), h[i]? = some o → h'[i]? = some o
  blk : ∀ b, b < w.heap.size → w'.heap[b]? = w.heap[b]?
  size : w.heap.size ≤ w'.heap.size
theorem More.refl {h : List AObj} (H : SI E w Fr mu h) : More E w w Fr mu mu h h := ⟨H, fun _ _ => rfl, Nat.le_refl _, fun _ _ => rfl, fun _ _ => id, fun _ _ => rfl, Nat.le_refl _⟩
theorem More.trans {w' w'' : World} {mu' mu'' : Nat → Loc} {h h' h'' : List AObj} (H : More E w w' Fr mu mu' h h') (H' : More E w' w'' Fr mu' mu'' h' h'') : More E w w'' Fr mu mu'' h h'' :=
  ⟨H'.si, fun i hi => (H'.same i (Nat.lt_of_lt_of_le hi H.len)).trans (H.same i hi), Nat.le_trans H.len H'.len, fun b hb => (H'.fr b hb).trans (H.fr b hb), fun i o h => H'.pre i o (H.pre i o h), fun b hb => (H'.blk b (Nat.lt_of_lt_of_le hb H.size)).trans (H.blk b hb), Nat.le_trans H.size H'.size⟩
theorem More.vr {w' : World} {mu' : Nat → Loc} {h h' : List AObj} (H : More E w w' Fr mu mu' h h') {d : Dyn} {v : Value} (hv : VR w Fr mu d v) (hn : d.t.okN (· < h.length)) : VR w' Fr mu' d v :=
  VR_keep (fun _ => id) H.fr (Ty.okN_mono (fun i hi => H.same i hi) _ hn) hv
theorem More.cd {w' : World} {mu' : Nat → Loc} {h h' : List AObj} (H : More E w w' Fr mu mu' h h') {d : Dyn} {l : List Value} (hv : CD w Fr mu (· < h.length) d l) : CD w' Fr mu' (· < h'.length) d l :=
  ⟨hv.cel, Ty.okN_mono (fun i hi => Nat.lt_of_lt_of_le hi H.len) _ hv.ok, Rp_keep (fun _ => id) H.fr _ _ _ (Ty.okN_mono (fun i hi => H.same i hi) _ hv.ok) hv.rp⟩
theorem More.rep {w' : World} {mu' : Nat → Loc} {h' : List AObj} (H : Rep E w Fr mu s a) (H' : More E w w' Fr mu mu' s.heap h') : Rep E w' Fr mu' ⟨s.tmps, h'⟩ a :=
  ⟨H'.si, fun u d hm => by obtain ⟨h1, h2, h3⟩ := H.tm u d hm; exact ⟨h1, H'.vr h2 h3, Ty.okN_mono (fun i hi => Nat.lt_of_lt_of_le hi H'.len) _ h3⟩, H.df, H.so⟩
theorem More.one {h : List AObj} (H : SI E w Fr mu h) {w' : World} (hg : Grow (fun _ => False) w w') {L : Loc} {o : AObj} (hh : L.hdr.oneCell' = true)
    (ho : OR w' Fr (upd mu h.length L) h.length o) (hocc : occ (upd mu h.length L) h.length o → w.heap.size ≤ L.loc ∧ L.loc < w'.heap.size)
    (hn : ∀ (t : Ty) (x : den t), o = ⟨.box t, x⟩ → t.okN (· < h.length + 1)) : More E w w' Fr mu (upd mu h.length L) h (h ++ [o]) :=
  ⟨SI.newObj (s := ⟨[], h⟩) H hg hh ho hocc hn, fun i hi => upd_ne (by omega), by simp, fun b hb => hg.block b (H.frL b hb) id, fun i o hi => by rw [List.getElem?_append_left (List.getElem?_eq_some_iff.1 hi).1]; exact hi, fun b hb => hg.block b hb id, hg.size⟩

theorem More.kept {g : Bool} {w' : World} {mu' : Nat → Loc} {h' : List AObj} (H : SI E w Fr mu s.heap) (M : More E w w' Fr mu mu' s.heap h') : Kept g w Fr mu s.heap w' Fr mu' h' := by
  refine ⟨?_, fun _ b hb => M.blk b (safe_lt H hb)⟩
  rintro b (hb | ⟨m, t, x, hm, rfl⟩)
  · exact .inl hb
  · exact .inr ⟨m, t, x, M.pre m _ hm, by rw [M.same m (List.getElem?_eq_some_iff.1 hm).1]⟩
theorem ownNils_chain {tb : Tabs} : ∀ (t : Ty) (x : den t) (h : List AObj), t.chain = true → (ownNils t x tb h).1.t.chain = true := by
  intro t x h
  fun_induction ownNils t x tb h <;> first | (intro h; exact h) | (intro h; cases h) | (intro h; rfl)
theorem ownNils_ok {tb : Tabs} : ∀ (t : Ty) (x : den t) (h : List AObj) (mu : Nat → Loc), SI E w Fr mu h → ∀ l, CD w Fr mu (· < h.length) ⟨t, x⟩ l →
    ∃ mu', More E w w Fr mu mu' h (ownNils t x tb h).2 ∧ CD w Fr mu' (· < (ownNils t x tb h).2.length) (ownNils t x tb h).1 l := by
  intro t x h
  fun_induction ownNils t x tb h with
  | case1 e tb h i hi he =>
    intro mu H l hd
    have := hd.rp
    cases this
    refine ⟨upd mu h.length nilLoc, More.one H (Grow.refl _ w) rfl (OR_nil he upd_same) (fun hoc => absurd hoc (occ_nil upd_same)) (fun t x e => by cases e), rfl, ?_, ?_⟩
    · show h.length < (h ++ [_]).length; simp
    · show _ = [(upd mu h.length nilLoc h.length).hdr]; rw [upd_same]; rfl
  | case2 e tb h i hi he => intro mu H l hd; exact ⟨mu, More.refl H, hd⟩
  | case3 e tb h hi => intro mu H l hd; exact ⟨mu, More.refl H, hd⟩
  | case4 a b tb h x p q ih1 ih2 =>
    intro mu H l hd
    obtain ⟨l1, l2, e, r1, r2⟩ := hd.rp
    obtain ⟨c1, c2, c3⟩ := Ty.cel_pair hd.cel
    obtain ⟨mu1, m1, d1⟩ := ih1 mu H l1 ⟨c1, hd.ok.1, r1⟩
    have d2 : CD w Fr mu1 (· < p.2.length) ⟨b, x.2⟩ l2 := m1.cd ⟨c2, hd.ok.2, r2⟩
    obtain ⟨mu2, m2, d3⟩ := ih2 mu1 m1.si l2 d2
    have d4 := m2.cd d1
    exact ⟨mu2, m1.trans m2, Ty.pair_cel d4.cel d3.cel (ownNils_chain b x.2 p.2 c3), ⟨d4.ok, d3.ok⟩, l1, l2, e, d4.rp, d3.rp⟩
  | case5 => intro mu H l hd; exact ⟨mu, More.refl H, hd⟩

/-- A variable of a value of its own. -/
theorem new_box {h : List AObj} (H : SI E w Fr mu h) {d : Dyn} {l : List Value} (hd : CD w Fr mu (· < h.length) d l) (e : TypeId) :
    More E w (w.alloc (.cells l.toArray e)) Fr mu (upd mu h.length ⟨w.heap.size, .slice none 0 0⟩) h (h ++ [⟨.box d.t, d.x⟩]) := by
  have hg : Grow (fun _ => False) w (w.alloc (.cells l.toArray e)) := ⟨rfl, rfl, rfl, by simp, fun k hk _ => heap_alloc_old w _ k hk⟩
  refine More.one H hg rfl ?_ ?_ ?_
  · refine ⟨hd.cel, l, e, by rw [upd_same]; exact heap_alloc_new w _, ?_⟩
    exact Rp_keep (fun _ => id) (fun b hb => hg.block b (H.frL b hb) id) _ _ _ (Ty.okN_mono (fun i hi => upd_ne (by omega)) _ hd.ok) hd.rp
  · intro _; simp
  · intro t x e'
    injection e' with e1 e2
    injection e1 with e1
    rw [← e1]; exact Ty.okN_mono (fun i hi => by omega) _ hd.ok
theorem VR_ptr {mu : Nat → Loc} {i : Nat} : VR w Fr mu ⟨.ptr i 0, ()⟩ (.pointer (some ⟨(mu i).loc, 0, none⟩)) := rfl
/-- A variable made of a value, its nil slices rows. -/
theorem ok_newVar (H : Rep E w Fr mu s a) {o : Oper} {d : Dyn} {v : Value} {e : TypeId} (hd : CD w Fr mu (· < s.heap.length) d v.cells.toList) (hr : (execOp a.eval o).run P w = .ok (.value (.pointer (some ⟨w.heap.size, 0, none⟩))) (w.alloc (.cells v.cells e))) :
    StepOK P E w Fr mu s a o ⟨.ptr (ownNils d.t d.x T.tb s.heap).2.length 0, ()⟩ ⟨s.tmps, (ownNils d.t d.x T.tb s.heap).2 ++ [⟨.box (ownNils d.t d.x T.tb s.heap).1.t, (ownNils d.t d.x T.tb s.heap).1.x⟩]⟩ := by
  obtain ⟨mu1, m1, d1⟩ := ownNils_ok (tb := T.tb) d.t d.x s.heap mu H.si v.cells.toList hd
  have m2 := new_box m1.si d1 e
  rw [Array.toArray_toList] at m2
  refine ⟨_, _, _, Fr, _, hr, .inl rfl, ?_, ?_, More.rep H (m1.trans m2), More.kept H.si (m1.trans m2)⟩
  · have := VR_ptr (w := w.alloc (.cells v.cells e)) (Fr := Fr) (mu := upd mu1 (ownNils d.t d.x T.tb s.heap).2.length ⟨w.heap.size, .slice none 0 0⟩) (i := (ownNils d.t d.x T.tb s.heap).2.length)
    rw [upd_same] at this
    exact this
  · show _ < _
    simp
theorem ok_box (H : Rep E w Fr mu s a) {fn : Nat} {o : Oper} {t : Nat} {x : Operand} (ho : o.op = .box t x) {d : Dyn} {s' : St} (h : opP T fn o s = some (true, d, s')) : StepOK P E w Fr mu s a o d s' := by
  unfold opP at h
  rw [ho] at h
  dsimp only at h
  split at h
  · rename_i hc
    simp only [Bool.and_eq_true] at hc
    injection h with h
    injection h with _ h
    injection h with h2 h3
    subst h2; subst h3
    obtain ⟨hcv, h1⟩ := VR_cells (p := (· < s.heap.length)) H.si.hh (H.op x).1 hc.2 hc.1 (H.op x).2
    exact ok_newVar H (e := t) hcv (by unfold execOp; simp [ho, Instr.box, newVar, newRow])
  · cases h
theorem ok_alloc (hT : TabOK P T.tb) (H : Rep E w Fr mu s a) {fn : Nat} {o : Oper} {t : Nat} (ho : o.op = .alloc t) {d : Dyn} {s' : St} (h : opP T fn o s = some (true, d, s')) : StepOK P E w Fr mu s a o d s' := by
  unfold opP at h
  rw [ho] at h
  dsimp only at h
  split at h
  · rename_i ti hti
    split at h
    · rename_i hc
      simp only [Bool.and_eq_true] at hc
      injection h with h
      injection h with _ h
      injection h with h2 h3
      subst h2; subst h3
      obtain ⟨i, hi, _, _, hz⟩ := (hT t ti hti).info
      obtain ⟨z, hz1, hz2, hz3, hz4⟩ := hz hc.1
      obtain ⟨hcv, h1⟩ := VR_cells (p := (· < s.heap.length)) H.si.hh (hz4 w Fr mu) hc.2 hc.1 (hz3 _)
      exact ok_newVar H (e := t) hcv (by unfold execOp; simp [ho, Instr.alloc, zeroValue, typeInfo, hi, hz1, newVar, newRow])
    · cases h
  · cases h
end
end Go.Abs
