/- Calls, as the interpreter tells them. No conditions. -/
import Derived.Test.YtobfcaejpcpboaaOpsB
set_option autoImplicit false
set_option linter.unusedVariables false
namespace Go.Abs

/-- What a call is handed. -/
structure Pre (w : World) (Fr : Nat → Prop) (mu : Nat → Loc) (objs : List AObj) (args : List Dyn) (vs : List Value) : Prop where
  so : SO w Fr mu objs
  frL : ∀ b, Fr b → b < w.heap.size
  len : args.length = vs.length
  val : ∀ (i : Nat) (d : Dyn) (v : Value), args[i]? = some d → vs[i]? = some v → VR w Fr mu d v ∧ d.t.okN (· < objs.length)
/-- The state in which a function begins. -/
def env (w : World) (Fr : Nat → Prop) (mu : Nat → Loc) (objs : List AObj) : Env := ⟨w, Fr, Mine mu objs, mu, objs.length⟩
/-- What a call leaves. -/
structure Post (w : World) (Fr : Nat → Prop) (mu : Nat → Loc) (objs : List AObj) (d : Dyn) (os : List AObj) (v : Value) (w' : World) (Fr' : Nat → Prop) (mu' : Nat → Loc) : Prop where
  si : SI (env w Fr mu objs) w' Fr' mu' os
  val : VR w' Fr' mu' d v
  ok : d.t.okN (· < os.length)
/-- A function that a call enters. -/
def Enters (P : Program) (f : Nat) : Prop := ∃ fn, P.funcs[f]? = some fn ∧ fn.body.isSome = true ∧ fn.name ≠ "runtime.NumGoroutine"
/-- What is told of a function by its answers holds of its calls. -/
def Sound (P : Program) (C : AbsFn) : Prop := ∀ (f : Nat) (args : List Dyn) (objs : List AObj) (rt : Ty) (ots : List OTy) (r : denR rt ots), C f args objs rt ots = some r → Enters P f ∧
  ∀ (w : World) (Fr : Nat → Prop) (mu : Nat → Loc) (vs : List Value), Pre w Fr mu objs args vs →
    Calls P f vs.toArray w fun e w' => ∃ v Fr' mu', e = .returned v ∧ Post w Fr mu objs ⟨rt, resT rt ots r⟩ (resO rt ots r) v w' Fr' mu'

/-! ### Values that bear no lists hang on no list -/
theorem Rp_free {w : World} {Fr Fr' : Nat → Prop} {mu : Nat → Loc} : ∀ (t : Ty) (x : den t) (l : List Value), t.bears = false → Rp w Fr mu t x l → Rp w Fr' mu t x l
  | .list _, _, _, hb, _ => by cases hb
  | .eptr _ _, _, _, hb, _ => by cases hb
  | .arr n t, xs, l, hb, h => ⟨h.1, h.2.1, rows_mono (fun x l h => Rp_free t x l hb h) h.2.2⟩
  | .fn f c, x, l, hb, h => by obtain ⟨vs, e, hr⟩ := h; exact ⟨vs, e, Rp_free c x vs hb hr⟩
  | .pair a b, x, l, hb, h => by
    simp only [Ty.bears, Bool.or_eq_false_iff] at hb
    obtain ⟨l1, l2, e, h1, h2⟩ := h
    exact ⟨l1, l2, e, Rp_free a _ _ hb.1 h1, Rp_free b _ _ hb.2 h2⟩
  | .tcons a b, x, l, hb, h => by
    simp only [Ty.bears, Bool.or_eq_false_iff] at hb
    obtain ⟨v, vs, e, h1, h2⟩ := h
    refine ⟨v, vs, e, ?_, Rp_free b _ _ hb.2 h2⟩
    revert h1
    cases a.vk with
    | dead => exact id
    | agg => rintro ⟨hc, cs, e, h⟩; exact ⟨hc, cs, e, Rp_free a _ _ hb.1 h⟩
    | tup => exact id
    | one => exact fun h => Rp_free a _ _ hb.1 h
  | .dead, _, _, _, h => h | .nil _, _, _, _, h => h | .nilptr, _, _, _, h => h | .nilfn, _, _, _, h => h | .bool, _, _, _, h => h | .int _, _, _, _, h => h | .str, _, _, _, h => h
  | .own _ _, _, _, _, h => h | .ptr _ _, _, _, _, h => h | .rptr _ _ _, _, _, _, h => h | .aptr _ _ _ _ _, _, _, _, h => h | .unit, _, _, _, h => h | .tnil, _, _, _, h => h
theorem VR_free {w : World} {Fr Fr' : Nat → Prop} {mu : Nat → Loc} {d : Dyn} {v : Value} (hb : d.t.bears = false) (h : VR w Fr mu d v) : VR w Fr' mu d v := by
  unfold VR at *
  split at h
  · trivial
  · obtain ⟨hc, cs, e, h⟩ := h; exact ⟨hc, cs, e, Rp_free _ _ _ hb h⟩
  · obtain ⟨cs, e, h⟩ := h; exact ⟨cs, e, Rp_free _ _ _ hb h⟩
  · exact Rp_free _ _ _ hb h
theorem OR_free {w : World} {Fr Fr' : Nat → Prop} {mu : Nat → Loc} {i : Nat} {o : AObj} (hb : o.t.bears = false) (h : OR w Fr mu i o) : OR w Fr' mu i o := by
  obtain ⟨t, x⟩ := o
  cases t with
  | gone => trivial
  | box t => obtain ⟨hc, cells, e, h1, h2⟩ := h; exact ⟨hc, cells, e, h1, Rp_free t x cells hb h2⟩
  | row e t f => obtain ⟨he, cells, h1, h2⟩ := h; exact ⟨he, cells, rows_mono (fun x l h => Rp_free t x l hb h) h1, h2⟩
theorem objsOf_types : ∀ (ts : List OTy) (x : denOs ts), (objsOf ts x).map (·.t) = ts
  | [], _ => rfl
  | t :: ts, x => by show t :: (objsOf ts x.2).map (·.t) = _; rw [objsOf_types ts x.2]
theorem resO_types (t : Ty) (ots : List OTy) (r : denR t ots) : (resO t ots r).map (·.t) = ots := by
  cases ots with
  | nil => rfl
  | cons o os => exact objsOf_types (o :: os) r.2

section
variable {P : Program} {T : Told} {C : AbsFn} {E : Env} {w : World} {Fr : Nat → Prop} {mu : Nat → Loc} {s : St} {a : Act}

/-- Arguments as they are handed. -/
theorem handArgs_ok (H : Rep E w Fr mu s a) : ∀ (ps : List (Option Ty)) (ds as : List Dyn) (vs : List Value) (ids : List Nat), handArgs s ps ds = some as → ds.length = vs.length →
    (∀ (i : Nat) (d : Dyn) (v : Value), ds[i]? = some d → vs[i]? = some v → VR w Fr mu d v ∧ d.t.okN (· < s.heap.length)) → (∀ i ∈ readIds ps ds ids, i ∈ readIds ps ds ids) →
    as.length = vs.length ∧ ∀ (i : Nat) (d : Dyn) (v : Value), as[i]? = some d → vs[i]? = some v → VR w (FrL Fr mu s.heap (readIds ps ds ids)) mu d v
  | some t :: ps, d :: ds, as, [], ids, h, hl, hv, hs => by simp at hl
  | none :: ps, d :: ds, as, [], ids, h, hl, hv, hs => by simp at hl
  | some t :: ps, d :: ds, as, v :: vs, ids, h, hl, hv, hs => by
    unfold handArgs at h
    split at h
    case h_2 => cases h
    rename_i r hr
    split at h
    case h_2 => cases h
    rename_i x hx
    split at h
    case isFalse => cases h
    injection h with h
    subst h
    obtain ⟨h1, h2⟩ := handArgs_ok H ps ds r vs (ownsT d.t ids) hr (by simpa using hl) (fun i d v hd hv' => hv (i + 1) d v (by simpa using hd) (by simpa using hv')) (fun _ => id)
    refine ⟨by simp [h1], fun i d' v' hd hv' => ?_⟩
    cases i with
    | zero =>
      simp at hd hv'
      subst hd; subst hv'
      obtain ⟨h3, h4⟩ := hv 0 d v rfl rfl
      have hmono : ∀ (ps : List (Option Ty)) (ds : List Dyn) (l : List Nat) (i : Nat), i ∈ l → i ∈ readIds ps ds l := by
        intro ps
        induction ps with
        | nil => intro ds l i hi; cases ds <;> exact hi
        | cons p ps ih =>
          intro ds l i hi
          cases ds with
          | nil => cases p <;> exact hi
          | cons d ds => cases p with
            | none => exact ih ds l i hi
            | some t => exact ih ds _ i (ownsT_mono d.t l i hi)
      have := coe_VR (u := t) (Fr' := FrL Fr mu s.heap (readIds ps ds (ownsT d.t ids))) (q := fun i => i ∈ ownsT d.t ids) H.si (fun b hb => .inl hb)
        (fun i o hi ho hoc => .inr ⟨i, o, hmono ps ds _ i hi, ho, hoc, rfl⟩) (ownsT_ok d.t ids (fun _ => id)) h3
      rw [as_some hx] at this
      exact this
    | succ i => exact h2 i d' v' (by simpa using hd) (by simpa using hv')
  | none :: ps, d :: ds, as, v :: vs, ids, h, hl, hv, hs => by
    unfold handArgs at h
    split at h
    case h_2 => cases h
    rename_i r hr
    split at h
    case isFalse => cases h
    injection h with h
    subst h
    obtain ⟨h1, h2⟩ := handArgs_ok H ps ds r vs ids hr (by simpa using hl) (fun i d v hd hv' => hv (i + 1) d v (by simpa using hd) (by simpa using hv')) (fun _ => id)
    refine ⟨by simp [h1], fun i d' v' hd hv' => ?_⟩
    cases i with
    | zero =>
      simp at hd hv'
      subst hd; subst hv'
      exact VR_keep (fun b hb => .inl hb) (fun _ _ => rfl) (Ty.okN_all (fun _ => rfl) _) (hv 0 d v rfl rfl).1
    | succ i => exact h2 i d' v' (by simpa using hd) (by simpa using hv')
  | [], ds, as, vs, ids, h, hl, hv, hs => by
    have h : (if ds.all (·.t.alive) then some ds else none) = some as := by cases ds <;> exact h
    split at h
    case isFalse => cases h
    injection h with h
    subst h
    exact ⟨hl, fun i d v hd hv' => VR_keep (fun b hb => .inl hb) (fun _ _ => rfl) (Ty.okN_all (fun _ => rfl) _) (hv i d v hd hv').1⟩
  | some _ :: _, [], as, vs, ids, h, _, _, _ => by cases h
  | none :: _, [], as, vs, ids, h, _, _, _ => by cases h
theorem posN_getD : ∀ {l : List Nat} {j : Nat}, l.Nodup → j < l.length → posN (l.getD j 0) l = j
  | i :: l, 0, _, _ => by simp [posN]
  | i :: l, j + 1, h, hj => by
    simp only [List.nodup_cons] at h
    have hj' : j < l.length := by simpa using hj
    have hm : l.getD j 0 ∈ l := by
      rw [List.getD_eq_getElem?_getD, List.getElem?_eq_getElem hj']; simp
    have hne : l.getD j 0 ≠ i := fun e => h.1 (e ▸ hm)
    show posN (l.getD j 0) (i :: l) = j + 1
    unfold posN
    rw [if_neg hne, posN_getD h.2 hj']
theorem layBack_get : ∀ (ids : List Nat) (os h : List AObj), ids.Nodup → (∀ i ∈ ids, i < h.length) → ids.length ≤ os.length →
    (layBack ids os h).length = h.length + (os.length - ids.length) ∧ ∀ i : Nat, (layBack ids os h)[i]? = if i < h.length then (if i ∈ ids then (os[posN i ids]?).map (fun o => (h.getD i gone).back o) else h[i]?) else os[i - h.length + ids.length]?
  | [], os, h, _, _, _ => by
    refine ⟨by simp [layBack], fun i => ?_⟩
    have e : layBack [] os h = h ++ os := by cases os <;> rfl
    rw [e]
    by_cases hi : i < h.length
    · rw [if_pos hi, List.getElem?_append_left hi]; simp
    · rw [if_neg hi, List.getElem?_append_right (by omega)]; simp
  | k :: ids, [], h, _, _, hl => by simp at hl
  | k :: ids, o :: os, h, hn, hb, hl => by
    simp only [List.nodup_cons] at hn
    have hkl : k < h.length := hb k (by simp)
    obtain ⟨h1, h2⟩ := layBack_get ids os (h.set k ((h.getD k gone).back o)) hn.2 (fun i hi => by simpa using hb i (List.mem_cons_of_mem _ hi)) (by simpa using hl)
    refine ⟨by show (layBack ids os _).length = _; rw [h1]; simp, fun i => ?_⟩
    show (layBack ids os (h.set k ((h.getD k gone).back o)))[i]? = _
    rw [h2 i, List.length_set]
    by_cases hi : i < h.length
    · rw [if_pos hi, if_pos hi]
      by_cases hk : i = k
      · subst hk
        rw [if_neg hn.1, if_pos (by simp), List.getElem?_set_self hkl]
        simp [posN]
      · have hmem : (i ∈ k :: ids) ↔ i ∈ ids := by simp [hk]
        by_cases hm : i ∈ ids
        · rw [if_pos hm, if_pos (hmem.2 hm)]
          have e1 : posN i (k :: ids) = posN i ids + 1 := by show (if i = k then 0 else posN i ids + 1) = _; rw [if_neg hk]
          have e2 : (h.set k ((h.getD k gone).back o)).getD i gone = h.getD i gone := by
            rw [List.getD_eq_getElem?_getD, List.getElem?_set_ne (fun e => hk e.symm), ← List.getD_eq_getElem?_getD]
          rw [e1, e2]; rfl
        · rw [if_neg hm, if_neg (fun h => hm (hmem.1 h)), List.getElem?_set_ne (fun e => hk e.symm)]
    · rw [if_neg hi, if_neg hi]
      have : i - h.length + (k :: ids).length = (i - h.length + ids.length) + 1 := by simp; omega
      rw [this]; rfl
theorem OR_back {w : World} {Fr : Nat → Prop} {mu : Nat → Loc} {i : Nat} {was o : AObj} (h : OR w Fr mu i o) : OR w Fr mu i (was.back o) := by
  obtain ⟨t, x⟩ := was
  obtain ⟨t', x'⟩ := o
  cases t <;> cases t' <;> first | exact h | exact trivial
theorem box_back {t : Ty} {x : den t} {was o : AObj} (h : (⟨.box t, x⟩ : AObj) = was.back o) : o = ⟨.box t, x⟩ := by
  obtain ⟨t1, x1⟩ := was
  obtain ⟨t', x'⟩ := o
  cases t1 <;> cases t' <;> first | exact h.symm | (injection (show (⟨.box t, x⟩ : AObj) = ⟨_, _⟩ from h) with e1 e2; cases e1)
theorem box_obj {r : Tr} {t : Ty} {x : den t} {o : AObj} (h : (⟨.box t, x⟩ : AObj) = r.obj o) : ∃ (t0 : Ty) (x0 : den t0), o = ⟨.box t0, x0⟩ ∧ t = (r.app t0 x0).t := by
  obtain ⟨t0, x0⟩ := o
  cases t0 with
  | box t0 =>
    have e' : (⟨.box t, x⟩ : AObj) = ⟨.box (r.app t0 x0).t, (r.app t0 x0).x⟩ := h
    injection e' with e1 e2
    injection e1 with e1
    exact ⟨t0, x0, rfl, e1⟩
  | row _ _ _ => injection (show (⟨.box t, x⟩ : AObj) = ⟨_, _⟩ from h) with e1 e2; cases e1
  | gone => injection (show (⟨.box t, x⟩ : AObj) = ⟨_, _⟩ from h) with e1 e2; cases e1

/-- The caller's state behind a call. -/
theorem call_back {FrB Fr2 FrC FrR : Nat → Prop} {muR : Nat → Loc} {s0 : St} (H0 : Rep E w FrB mu s0 a) {ids : List Nat} {objsC os0 : List AObj} {d : Dyn} {v : Value} {w' : World}
    (hlt : ∀ i ∈ ids, i < s0.heap.length) (hnd : ids.Nodup) (hlen : objsC.length = ids.length) (post : Post w FrC (muOf mu ids) objsC d os0 v w' FrR muR) {ts : List OTy} (hts : os0.map (·.t) = ts)
    (Q1 : ∀ (j : Nat) (o : AObj), objsC[j]? = some o → occ (muOf mu ids) j o → ∃ o0, s0.heap[ids.getD j 0]? = some o0 ∧ occ mu (ids.getD j 0) o0)
    (F1 : ∀ b, FrB b → Fr2 b) (F2 : ∀ b, Fr2 b → FrB b ∨ Mine (muOf mu ids) objsC b ∨ w.heap.size ≤ b) (F3 : ∀ b, Fr2 b → FrR b)
    (F4 : ∀ (j : Nat) (o : AObj), os0[j]? = some o → OR w' FrR muR j o → OR w' Fr2 muR j o) (F5 : VR w' FrR muR d v → VR w' Fr2 muR d v)
    (hbx : ∀ i ∈ ids, ∀ (t : Ty) (x : den t), s0.heap[i]? = some (⟨.box t, x⟩ : AObj) → ∃ (t' : Ty) (x' : den t'), os0[posN i ids]? = some (⟨.box t', x'⟩ : AObj)) :
    ∃ mu2, VR w' Fr2 mu2 ((renR fun i => if i < ids.length then ids.getD i 0 else s0.heap.length + (i - ids.length)).dyn d) v ∧
      ((renR fun i => if i < ids.length then ids.getD i 0 else s0.heap.length + (i - ids.length)).dyn d).t.okN (· < (layBack ids (os0.map (renR fun i => if i < ids.length then ids.getD i 0 else s0.heap.length + (i - ids.length)).obj) ((killR (turned ids ts)).st s0).heap).length) ∧
      Rep E w' Fr2 mu2 ⟨((killR (turned ids ts)).st s0).tmps, layBack ids (os0.map (renR fun i => if i < ids.length then ids.getD i 0 else s0.heap.length + (i - ids.length)).obj) ((killR (turned ids ts)).st s0).heap⟩ a ∧
      (∀ b, Safe FrB mu s0.heap b → Safe Fr2 mu2 (layBack ids (os0.map (renR fun i => if i < ids.length then ids.getD i 0 else s0.heap.length + (i - ids.length)).obj) ((killR (turned ids ts)).st s0).heap) b) := by
  generalize hn : s0.heap.length = n at *
  have hm : ids.length ≤ os0.length := by have := post.si.len; show _ ≤ _; simpa [env, hlen] using this
  let bk : Nat → Nat := fun i => if i < ids.length then ids.getD i 0 else n + (i - ids.length)
  let mu2 : Nat → Loc := fun i => if i < n then (if i ∈ ids then muR (posN i ids) else mu i) else muR (i - n + ids.length)
  have hmb : ∀ j, mu2 (bk j) = muR j := by
    intro j
    by_cases hj : j < ids.length
    · have hmem : ids.getD j 0 ∈ ids := by rw [List.getD_eq_getElem?_getD, List.getElem?_eq_getElem hj]; simp
      have e : bk j = ids.getD j 0 := if_pos hj
      show (if bk j < n then (if bk j ∈ ids then muR (posN (bk j) ids) else mu (bk j)) else muR (bk j - n + ids.length)) = _
      rw [e, if_pos (hlt _ hmem), if_pos hmem, posN_getD hnd hj]
    · have e : bk j = n + (j - ids.length) := if_neg hj
      show (if bk j < n then (if bk j ∈ ids then muR (posN (bk j) ids) else mu (bk j)) else muR (bk j - n + ids.length)) = _
      rw [e, if_neg (by omega)]
      congr 1; omega
  have hbl : ∀ j, j < os0.length → bk j < n + (os0.length - ids.length) := by
    intro j hj
    show (if j < ids.length then ids.getD j 0 else n + (j - ids.length)) < _
    by_cases hj' : j < ids.length
    · have hmem : ids.getD j 0 ∈ ids := by rw [List.getD_eq_getElem?_getD, List.getElem?_eq_getElem hj']; simp
      rw [if_pos hj']; have := hlt _ hmem; omega
    · rw [if_neg hj']; omega
  have hbT : TrOK w' Fr2 muR w' Fr2 mu2 (renR bk) (· < os0.length) := renR_OK fun j _ => hmb j
  -- memory
  have hMine : ∀ b, Mine (muOf mu ids) objsC b → Mine mu s0.heap b := by
    rintro b ⟨j, o, hj, ho, e⟩
    obtain ⟨o0, h0, hoc⟩ := Q1 j o hj ho
    exact ⟨ids.getD j 0, o0, h0, hoc, e⟩
  have hgrow : Grow (Mine mu s0.heap) w w' := ⟨post.si.grow.os, post.si.grow.tape, post.si.grow.output, post.si.grow.size, fun k hk hn => post.si.grow.block k hk (fun h => hn (hMine k h))⟩
  have hfr : ∀ b, FrB b → w'.heap[b]? = w.heap[b]? := fun b hb => H0.si.frKeep hgrow b hb
  -- names of rows that were turned
  have hkeep : ∀ i, i < n → i ∉ turned ids ts → mu2 i = mu i := by
    intro i hi hnt
    show (if i < n then (if i ∈ ids then _ else _) else _) = _
    rw [if_pos hi]
    by_cases hid : i ∈ ids
    · rw [if_pos hid]
      obtain ⟨hp1, hp2⟩ := posN_get hid
      have hturn : ∀ (l : List Nat) (os : List OTy), i ∈ l → i ∉ turned l os → l.Nodup → l.length ≤ os.length → (∃ e t, os[posN i l]? = some (.row e t true)) ∨ ∃ t, os[posN i l]? = some (.box t) := by
        intro l
        induction l with
        | nil => intro os h; cases h
        | cons k l ih =>
          intro os hmem hnot hnd hle
          cases os with
          | nil => simp at hle
          | cons o os =>
            simp only [List.nodup_cons] at hnd
            by_cases hk : i = k
            · subst hk
              have e : posN i (i :: l) = 0 := by simp [posN]
              rw [e]
              cases o with
              | row e t f => cases f with
                | true => exact .inl ⟨e, t, rfl⟩
                | false => exact absurd (by simp [turned]) hnot
              | box t => exact .inr ⟨t, rfl⟩
              | gone => exact absurd (by simp [turned]) hnot
            · have e : posN i (k :: l) = posN i l + 1 := by show (if i = k then 0 else _) = _; rw [if_neg hk]
              rw [e]
              have hmem' : i ∈ l := (List.mem_cons.1 hmem).resolve_left hk
              have hnot' : i ∉ turned l os := by
                intro hh
                apply hnot
                cases o with
                | row e t f => cases f with
                  | true => exact hh
                  | false => exact List.mem_cons_of_mem _ hh
                | box t => exact hh
                | gone => exact List.mem_cons_of_mem _ hh
              exact ih os hmem' hnot' hnd.2 (by simpa using hle)
      have hlts : ids.length ≤ ts.length := by rw [← hts]; simpa using hm
      have hget := hturn ids ts hid hnt hnd hlts
      rw [← hts, List.getElem?_map] at hget
      have hjo : posN i ids < os0.length := by omega
      rw [List.getElem?_eq_getElem hjo] at hget
      have hhd := post.si.hand (posN i ids) os0[posN i ids] (by show _ < objsC.length; omega) (List.getElem?_eq_getElem hjo)
      have hmc : muOf mu ids (posN i ids) = mu i := by unfold muOf; rw [hp2]
      revert hhd hget
      generalize os0[posN i ids] = oo
      obtain ⟨tt, xx⟩ := oo
      intro hget hhd
      rcases hget with ⟨e, t, hg⟩ | ⟨t, hg⟩
      · have hg : tt = .row e t true := by simpa using hg
        subst hg
        exact (show muR _ = muOf mu ids _ from hhd).trans hmc
      · have hg : tt = .box t := by simpa using hg
        subst hg
        exact (show muR _ = muOf mu ids _ from hhd).trans hmc
    · rw [if_neg hid]
  have hkT : TrOK w FrB mu w' Fr2 mu2 (killR (turned ids ts)) (· < n) := killR_OK2 F1 H0.si.hh hfr hkeep
  -- the objects then
  obtain ⟨hL1, hL2⟩ := layBack_get ids (os0.map (renR bk).obj) ((killR (turned ids ts)).st s0).heap hnd (fun i hi => by simpa [Tr.st, hn] using hlt i hi) (by simpa using hm)
  have hl0 : ((killR (turned ids ts)).st s0).heap.length = n := by simp [Tr.st, hn]
  rw [hl0] at hL1 hL2
  have hL1' : (layBack ids (os0.map (renR bk).obj) ((killR (turned ids ts)).st s0).heap).length = n + (os0.length - ids.length) := by rw [hL1]; simp
  have hcase : ∀ (i : Nat) (o' : AObj), (layBack ids (os0.map (renR bk).obj) ((killR (turned ids ts)).st s0).heap)[i]? = some o' →
      (i < n ∧ i ∉ ids ∧ mu2 i = mu i ∧ ∃ o0, s0.heap[i]? = some o0 ∧ o' = (killR (turned ids ts)).obj o0) ∨
      (∃ j o, os0[j]? = some o ∧ mu2 i = muR j ∧ bk j = i ∧ ((i < n ∧ i ∈ ids ∧ j = posN i ids ∧ o' = (((killR (turned ids ts)).st s0).heap.getD i gone).back ((renR bk).obj o)) ∨ (¬ i < n ∧ o' = (renR bk).obj o))) := by
    intro i o' hi
    rw [hL2 i] at hi
    by_cases hin : i < n
    · rw [if_pos hin] at hi
      by_cases hid : i ∈ ids
      · rw [if_pos hid] at hi
        obtain ⟨hp1, hp2⟩ := posN_get hid
        cases ho : (os0.map (renR bk).obj)[posN i ids]? with
        | none => rw [ho] at hi; cases hi
        | some o1 =>
          rw [ho] at hi
          injection hi with hi
          rw [List.getElem?_map] at ho
          cases ho2 : os0[posN i ids]? with
          | none => rw [ho2] at ho; cases ho
          | some o =>
            rw [ho2] at ho
            injection ho with ho
            refine .inr ⟨posN i ids, o, ho2, ?_, ?_, .inl ⟨hin, hid, rfl, by rw [ho]; exact hi.symm⟩⟩
            · show (if i < n then (if i ∈ ids then _ else _) else _) = _
              rw [if_pos hin, if_pos hid]
            · show (if posN i ids < ids.length then ids.getD (posN i ids) 0 else _) = i
              rw [if_pos hp1, hp2]
      · rw [if_neg hid] at hi
        obtain ⟨o0, h0, e⟩ := map_get hi
        refine .inl ⟨hin, hid, ?_, o0, h0, e⟩
        show (if i < n then (if i ∈ ids then _ else _) else _) = _
        rw [if_pos hin, if_neg hid]
    · rw [if_neg hin, List.getElem?_map] at hi
      cases ho2 : os0[i - n + ids.length]? with
      | none => rw [ho2] at hi; cases hi
      | some o =>
        rw [ho2] at hi
        injection hi with hi
        refine .inr ⟨_, o, ho2, ?_, ?_, .inr ⟨hin, hi.symm⟩⟩
        · show (if i < n then _ else _) = _
          rw [if_neg hin]
        · show (if i - n + ids.length < ids.length then _ else n + (i - n + ids.length - ids.length)) = i
          rw [if_neg (by omega)]; omega
  have hoccB : ∀ (i j : Nat) (o o' : AObj), mu2 i = muR j → ((i < n ∧ i ∈ ids ∧ j = posN i ids ∧ o' = (((killR (turned ids ts)).st s0).heap.getD i gone).back ((renR bk).obj o)) ∨ (¬ i < n ∧ o' = (renR bk).obj o)) → occ mu2 i o' → occ muR j o := by
    intro i j o o' hmu h hoc
    have : occ mu2 i ((renR bk).obj o) := by
      rcases h with ⟨_, _, _, e⟩ | ⟨_, e⟩
      · rw [e] at hoc; exact occ_back hoc
      · rw [e] at hoc; exact hoc
    rw [occ_obj] at this
    obtain ⟨t, x⟩ := o
    cases t with
    | gone => exact this
    | box t => exact this
    | row e t f =>
      have this : (mu2 i).hdr.ownBlock = some (mu2 i).loc := this
      show (muR j).hdr.ownBlock = some (muR j).loc
      rw [← hmu]; exact this
  -- a block of a callee's object is none of the others
  have hapart : ∀ (i : Nat) (o0 : AObj), s0.heap[i]? = some o0 → i ∉ ids → occ mu i o0 → ∀ b, (Mine (muOf mu ids) objsC b ∨ w.heap.size ≤ b) → (mu i).loc ≠ b := by
    intro i o0 hi hid hoc b hb
    rcases hb with ⟨j, o, hj, ho, e⟩ | hb
    · obtain ⟨o1, h1, hoc1⟩ := Q1 j o hj ho
      have hjl : j < ids.length := by rw [← hlen]; exact (List.getElem?_eq_some_iff.1 hj).1
      have hmem : ids.getD j 0 ∈ ids := by rw [List.getD_eq_getElem?_getD, List.getElem?_eq_getElem hjl]; simp
      rw [e]
      exact H0.si.sep i _ o0 o1 hi h1 (fun e => hid (e ▸ hmem)) hoc hoc1
    · have := (H0.si.own i o0 hi hoc).2.2
      omega
  have hso : SO w' Fr2 mu2 (layBack ids (os0.map (renR bk).obj) ((killR (turned ids ts)).st s0).heap) := by
    refine ⟨?_, ?_, ?_, ?_, ?_⟩
    · intro i
      show (if i < n then (if i ∈ ids then _ else _) else _ : Loc).hdr.oneCell' = true
      split
      · split
        · exact post.si.hh _
        · exact H0.si.hh _
      · exact post.si.hh _
    · intro i o' hi
      rcases hcase i o' hi with ⟨hin, hid, hmu, o0, h0, rfl⟩ | ⟨j, o, ho, hmu, hbj, hrest⟩
      · exact OR_tr (killR_T _) hkT hmu (fun t x e => by have := H0.si.nm i t x (e ▸ h0); rwa [hn] at this) (fun hoc => post.si.grow.block _ (H0.si.own i o0 h0 hoc).2.2 (fun hmi => hapart i o0 h0 hid hoc _ (.inl hmi) rfl)) (H0.si.obj i o0 h0)
      · have hor := F4 j o ho (post.si.obj j o ho)
        have := OR_tr (i' := i) (renR_T bk) hbT (i := j) hmu (fun t x e => post.si.nm j t x (e ▸ ho)) (fun _ => rfl) hor
        rcases hrest with ⟨_, _, _, e⟩ | ⟨_, e⟩
        · rw [e]; exact OR_back this
        · rw [e]; exact this
    · intro i t x hi
      rw [hL1']
      rcases hcase i _ hi with ⟨hin, hid, hmu, o0, h0, e⟩ | ⟨j, o, ho, hmu, hbj, hrest⟩
      · obtain ⟨t0, x0, rfl, rfl⟩ := box_obj e
        have := H0.si.nm i t0 x0 h0
        rw [hn] at this
        exact Ty.okN_mono (fun k hk => by omega) _ (killR_okN _ t0 x0 this)
      · have e : (⟨.box t, x⟩ : AObj) = (renR bk).obj o := by
          rcases hrest with ⟨_, _, _, e⟩ | ⟨_, e⟩
          · exact (box_back e).symm
          · exact e
        obtain ⟨t0, x0, rfl, rfl⟩ := box_obj e
        exact okN_app (r := renR bk) (p := (· < os0.length)) (q := (· < n + (os0.length - ids.length))) (fun t i hi => hbl i hi) (fun t i o x hi => hbl i hi) (fun i o hi => hbl i hi) (fun t m i b o x hi => hbl i hi) t0 x0 (post.si.nm j t0 x0 ho)
    · intro i k o1 o2 hi hk hne ho1 ho2
      rcases hcase i o1 hi with ⟨hin, hid, hmu, o0, h0, rfl⟩ | ⟨j, o, ho, hmu, hbj, hrest⟩
      · rw [occ_eq hmu, occ_obj] at ho1
        rcases hcase k o2 hk with ⟨hin', hid', hmu', o0', h0', rfl⟩ | ⟨j', o', ho', hmu', hbj', hrest'⟩
        · rw [occ_eq hmu', occ_obj] at ho2
          rw [hmu, hmu']
          exact H0.si.sep i k o0 o0' h0 h0' hne ho1 ho2
        · have hoc := hoccB k j' o' o2 hmu' hrest' ho2
          rw [hmu, hmu']
          exact hapart i o0 h0 hid ho1 _ (post.si.own j' o' ho' hoc).1
      · have hoc := hoccB i j o o1 hmu hrest ho1
        rcases hcase k o2 hk with ⟨hin', hid', hmu', o0', h0', rfl⟩ | ⟨j', o', ho', hmu', hbj', hrest'⟩
        · rw [occ_eq hmu', occ_obj] at ho2
          rw [hmu, hmu']
          exact (hapart k o0' h0' hid' ho2 _ (post.si.own j o ho hoc).1).symm
        · have hoc' := hoccB k j' o' o2 hmu' hrest' ho2
          rw [hmu, hmu']
          exact post.si.sep j j' o o' ho ho' (fun e => hne (by rw [← hbj, ← hbj', e])) hoc hoc'
    · intro i o' hi hoc
      rcases hcase i o' hi with ⟨hin, hid, hmu, o0, h0, rfl⟩ | ⟨j, o, ho, hmu, hbj, hrest⟩
      · rw [occ_eq hmu, occ_obj] at hoc
        rw [hmu]
        obtain ⟨h1, h2, h3⟩ := H0.si.own i o0 h0 hoc
        refine ⟨fun hf => ?_, Nat.lt_of_lt_of_le h3 hgrow.size⟩
        rcases F2 _ hf with hf | hf
        · exact h2 hf
        · exact hapart i o0 h0 hid hoc _ hf rfl
      · have hoc' := hoccB i j o o' hmu hrest hoc
        rw [hmu]
        obtain ⟨h1, h2, h3⟩ := post.si.own j o ho hoc'
        exact ⟨fun hf => h2 (F3 _ hf), h3⟩
  refine ⟨mu2, VR_tr (renR_T bk) hbT post.ok (F5 post.val), ?_, ⟨?_, ?_, H0.df, ?_⟩, ?_⟩
  · show ((renR bk).app d.t d.x).t.okN (· < (layBack ids (os0.map (renR bk).obj) ((killR (turned ids ts)).st s0).heap).length)
    rw [hL1']
    exact okN_app (r := renR bk) (p := (· < os0.length)) (q := (· < n + (os0.length - ids.length))) (fun t i hi => hbl i hi) (fun t i o x hi => hbl i hi) (fun i o hi => hbl i hi) (fun t m i b o x hi => hbl i hi) d.t d.x post.ok
  · refine H0.si.chg2 hgrow F1 (fun b hb => (F2 b hb).imp id (Or.imp (hMine b) id)) (fun b hb => post.si.frL b (F3 b hb)) (by rw [hn]; show n ≤ (layBack ids (os0.map (renR bk).obj) ((killR (turned ids ts)).st s0).heap).length; omega) hso ?_ ?_
    · intro i o' hi hoc
      rcases hcase i o' hi with ⟨hin, hid, hmu, o0, h0, rfl⟩ | ⟨j, o, ho, hmu, hbj, hrest⟩
      · rw [occ_eq hmu, occ_obj] at hoc
        rw [hmu]
        exact .inl ⟨i, o0, h0, hoc, rfl⟩
      · have hoc' := hoccB i j o o' hmu hrest hoc
        rw [hmu]
        exact (post.si.own j o ho hoc').1.imp (hMine _) id
    · intro i o' hiE hi
      rcases hcase i o' hi with ⟨hin, hid, hmu, o0, h0, rfl⟩ | ⟨j, o, ho, hmu, hbj, hrest⟩
      · rw [hmu]
        have := H0.si.hand i o0 hiE h0
        obtain ⟨t, x⟩ := o0
        cases t with
        | gone => trivial
        | box t => exact this
        | row e t f => exact this
      · have hin : i < n := by
          have := H0.si.len
          rw [hn] at this; omega
        rcases hrest with ⟨_, hid, hj, e⟩ | ⟨hni, _⟩
        · rw [hmu]
          obtain ⟨hp1, hp2⟩ := posN_get hid
          have hhd := post.si.hand j o (by show _ < objsC.length; omega) ho
          have hmc : muOf mu ids j = mu i := by unfold muOf; rw [hj, hp2]
          have hil : i < s0.heap.length := by omega
          have hh0 := H0.si.hand i s0.heap[i] hiE (List.getElem?_eq_getElem hil)
          have ewas : ((killR (turned ids ts)).st s0).heap.getD i gone = (killR (turned ids ts)).obj s0.heap[i] := by
            show (s0.heap.map _).getD i gone = _
            rw [List.getD_eq_getElem?_getD, List.getElem?_map, List.getElem?_eq_getElem hil]; rfl
          rw [e, ewas]
          revert hh0
          generalize s0.heap[i] = oo
          obtain ⟨tt, xx⟩ := oo
          obtain ⟨to, xo⟩ := o
          intro hh0
          have hhd : Handed (muR j) (muOf mu ids j) ⟨to, xo⟩ := hhd
          cases tt with
          | gone => cases to <;> exact trivial
          | box t =>
            cases to with
            | gone => trivial
            | box t' => exact ((show muR j = muOf mu ids j from hhd).trans hmc).trans hh0
            | row e t f => trivial
          | row e t f =>
            cases to with
            | gone => trivial
            | box t' => trivial
            | row e' t' f' =>
              cases f with
              | false => trivial
              | true => cases f' with
                | false => trivial
                | true => exact ((show muR j = muOf mu ids j from hhd).trans hmc).trans hh0
        · exact absurd hin hni
  · intro u d' hm'
    obtain ⟨⟨u0, d0⟩, hm0, e⟩ := List.mem_map.1 (show (u, d') ∈ s0.tmps.map fun p => (p.1, (killR (turned ids ts)).dyn p.2) from hm')
    injection e with e1 e2
    subst e1; subst e2
    obtain ⟨h1, h2, h3⟩ := H0.tm u0 d0 hm0
    rw [hn] at h3
    refine ⟨h1, VR_tr (killR_T _) hkT h3 h2, ?_⟩
    show ((killR (turned ids ts)).app d0.t d0.x).t.okN (· < (layBack ids (os0.map (renR bk).obj) ((killR (turned ids ts)).st s0).heap).length)
    rw [hL1']
    exact Ty.okN_mono (fun k hk => by omega) _ (killR_okN _ d0.t d0.x h3)
  · simpa [Tr.st, Function.comp_def] using H0.so
  · rintro b (hb | ⟨m, t, x, hm0, rfl⟩)
    · exact .inl (F1 b hb)
    · have hml : m < n := by rw [← hn]; exact (List.getElem?_eq_some_iff.1 hm0).1
      by_cases hid : m ∈ ids
      · obtain ⟨t', x', ho⟩ := hbx m hid t x hm0
        obtain ⟨hp1, hp2⟩ := posN_get hid
        have hhd := post.si.hand (posN m ids) _ (by show _ < objsC.length; omega) ho
        have hhd : muR (posN m ids) = muOf mu ids (posN m ids) := hhd
        have hmc : muOf mu ids (posN m ids) = mu m := by unfold muOf; rw [hp2]
        have hmu : mu2 m = mu m := by
          show (if m < n then (if m ∈ ids then muR (posN m ids) else mu m) else _) = _
          rw [if_pos hml, if_pos hid, hhd, hmc]
        refine .inr ⟨m, ((renR bk).app t' x').t, ((renR bk).app t' x').x, ?_, by rw [hmu]⟩
        have hg := hL2 m
        rw [if_pos hml, if_pos hid, List.getElem?_map, ho] at hg
        have ewas : ((killR (turned ids ts)).st s0).heap.getD m gone = (killR (turned ids ts)).obj ⟨.box t, x⟩ := by
          show (s0.heap.map _).getD m gone = _
          rw [List.getD_eq_getElem?_getD, List.getElem?_map, hm0]; rfl
        rw [ewas] at hg
        exact hg
      · have hmu : mu2 m = mu m := by
          show (if m < n then (if m ∈ ids then muR (posN m ids) else mu m) else _) = _
          rw [if_pos hml, if_neg hid]
        refine .inr ⟨m, ((killR (turned ids ts)).app t x).t, ((killR (turned ids ts)).app t x).x, ?_, by rw [hmu]⟩
        have hg := hL2 m
        rw [if_pos hml, if_neg hid] at hg
        have : ((killR (turned ids ts)).st s0).heap[m]? = some ((killR (turned ids ts)).obj ⟨.box t, x⟩) := by
          show (s0.heap.map _)[m]? = _
          rw [List.getElem?_map, hm0]; rfl
        rw [this] at hg
        exact hg
theorem noneIn_ok {l m : List Nat} (h : noneIn l m = true) : ∀ i ∈ l, i ∉ m := by
  unfold noneIn at h
  intro i hi
  simpa using List.all_eq_true.1 h i hi
/-- A call, as the interpreter tells it. -/
theorem callD_ok (hC : Sound P C) (H : Rep E w Fr mu s a) {R : Type} {f : Nat} {args : List Dyn} {K : Dyn → St → Option R} {r : R} (h : callD T C f args s K = some r) {vs : List Value} (hl : args.length = vs.length)
    (hv : ∀ (i : Nat) (d : Dyn) (v : Value), args[i]? = some d → vs[i]? = some v → VR w Fr mu d v ∧ d.t.okN (· < s.heap.length)) :
    Enters P f ∧ Calls P f vs.toArray w fun e w' => ∃ v d s' Fr' mu', e = .returned v ∧ K d s' = some r ∧ VR w' Fr' mu' d v ∧ d.t.okN (· < s'.heap.length) ∧ Rep E w' Fr' mu' s' a ∧ Kept (plainCall T s f args) w Fr mu s.heap w' Fr' mu' s'.heap := by
  unfold callD at h
  split at h
  · cases h
  rename_i hh hhint
  split at h
  · cases h
  rename_i as has
  dsimp only at h
  split at h
  case isFalse => cases h
  rename_i hc
  simp only [Bool.and_eq_true, decide_eq_true_eq] at hc
  obtain ⟨⟨⟨⟨⟨c1, c2⟩, c3⟩, c4⟩, c5⟩, c6⟩ := hc
  generalize hids : reach s.heap 3 (rawIds hh.pars args []) = ids at *
  generalize hred : readIds hh.pars args [] = red at *
  generalize hq : C f (as.map (renR (posN · ids)).dyn) (ids.map fun i => ((renR (posN · ids)).obj (s.heap.getD i gone)).handed) hh.rt hh.ots = q at h
  cases q with
  | none => cases h
  | some x =>
  have h : K _ _ = some r := h
  have hnr := noneIn_ok c1
  have hlt : ∀ i ∈ ids, i < s.heap.length := fun i hi => (closed_ok c2 i hi).1
  have hnd := distinct_ok c3
  generalize hobjs : (ids.map fun i => ((renR (posN · ids)).obj (s.heap.getD i gone)).handed) = objsC at *
  have hso0 : SO w Fr (muOf mu ids) objsC := by
    rw [← hobjs]; exact H.si.so.sub c2 c3 (f := fun o => ((renR (posN · ids)).obj o).handed) (fun o => .inr rfl)
  have hlenC : objsC.length = ids.length := by rw [← hobjs]; simp
  have hQ : ∀ (j : Nat) (o : AObj), objsC[j]? = some o → occ (muOf mu ids) j o → ∃ o0, s.heap[ids.getD j 0]? = some o0 ∧ occ mu (ids.getD j 0) o0 := by
    intro j o hj ho
    rw [← hobjs] at hj
    obtain ⟨_, hm, o0, h0, rfl⟩ := sub_get (f := fun o => ((renR (posN · ids)).obj o).handed) c2 hj
    rw [occ_handed, occ_obj] at ho
    refine ⟨o0, h0, ?_⟩
    obtain ⟨t, x⟩ := o0
    cases t <;> exact ho
  have hrl : ∀ b, (∃ (k : Nat) (ok : AObj), k ∈ red ∧ s.heap[k]? = some ok ∧ occ mu k ok ∧ b = (mu k).loc) → b < w.heap.size ∧ ¬ Fr b ∧ ¬ Mine (muOf mu ids) objsC b := by
    rintro b ⟨k, ok, hk, hko, hkoc, e⟩
    obtain ⟨h1, h2, h3⟩ := H.si.own k ok hko hkoc
    refine ⟨by rw [e]; exact h3, by rw [e]; exact h2, ?_⟩
    rintro ⟨j, o, hj, ho, e'⟩
    obtain ⟨o0, h0, hoc⟩ := hQ j o hj ho
    have hjl : j < ids.length := by rw [← hlenC]; exact (List.getElem?_eq_some_iff.1 hj).1
    have hmem : ids.getD j 0 ∈ ids := by rw [List.getD_eq_getElem?_getD, List.getElem?_eq_getElem hjl]; simp
    exact H.si.sep k _ ok o0 hko h0 (fun e => hnr k hk (e ▸ hmem)) hkoc hoc (by rw [← e]; exact e')
  obtain ⟨ha1, ha2⟩ := handArgs_ok H hh.pars args as vs [] has hl hv (fun _ => id)
  rw [hred] at ha2
  have hpre : Pre w (FrL Fr mu s.heap red) (muOf mu ids) objsC (as.map (renR (posN · ids)).dyn) vs := by
    refine ⟨⟨hso0.hh, ?_, hso0.nm, hso0.sep, ?_⟩, ?_, by simp [ha1], ?_⟩
    · intro i o hi
      exact OR_keep (fun b hb => .inl hb) (fun _ _ => rfl) rfl (fun t x _ => Ty.okN_all (fun _ => rfl) t) (fun _ => rfl) (hso0.obj i o hi)
    · intro i o hi ho
      obtain ⟨h1, h2⟩ := hso0.own i o hi ho
      refine ⟨?_, h2⟩
      rintro (hf | hf)
      · exact h1 hf
      · exact (hrl _ hf).2.2 ⟨i, o, hi, ho, rfl⟩
    · rintro b (hb | hb)
      · exact H.si.frL b hb
      · exact (hrl _ hb).1
    · intro i d v hd hv'
      rw [List.getElem?_map] at hd
      cases hai : as[i]? with
      | none => rw [hai] at hd; cases hd
      | some d0 =>
        rw [hai] at hd
        injection hd with hd
        subst hd
        have hmem : d0 ∈ as := List.mem_of_getElem? hai
        have hn0 : d0.t.okN (· ∈ ids) := idsT_ok d0.t [] (subN_ok (List.all_eq_true.1 c5 d0 hmem))
        refine ⟨VR_tr (renR_T _) (renR_OK fun i hi => by unfold muOf; rw [(posN_get hi).2]) hn0 (ha2 i d0 v hai hv'), ?_⟩
        have := posR_okN d0.t d0.x hn0
        rw [hlenC]; exact this
  obtain ⟨hen, hcall⟩ := hC f _ objsC hh.rt hh.ots x hq
  refine ⟨hen, Calls.mono (hcall w _ _ vs hpre) ?_⟩
  rintro e w' ⟨v, FrR, muR, he, post⟩
  have hts := resO_types hh.rt hh.ots x
  have hbx0 : ∀ (l : List Nat) (ts : List OTy), keptBoxes s.heap l ts = true → l.length ≤ ts.length → ∀ i ∈ l, ∀ (t : Ty) (y : den t), s.heap[i]? = some (⟨.box t, y⟩ : AObj) → ∃ t', ts[posN i l]? = some (.box t') := by
    intro l
    induction l with
    | nil => intro ts _ _ i hi; cases hi
    | cons k l ih =>
      intro ts hk hle i hi t y hb
      cases ts with
      | nil => simp at hle
      | cons o ts =>
        simp only [keptBoxes, Bool.and_eq_true] at hk
        by_cases hik : i = k
        · subst hik
          have e : posN i (i :: l) = 0 := by simp [posN]
          rw [e]
          have hg : s.heap.getD i gone = ⟨.box t, y⟩ := by rw [List.getD_eq_getElem?_getD, hb]; rfl
          rw [hg] at hk
          cases o with
          | box t' => exact ⟨t', rfl⟩
          | row _ _ _ => cases hk.1
          | gone => cases hk.1
        · have e : posN i (k :: l) = posN i l + 1 := by show (if i = k then 0 else _) = _; rw [if_neg hik]
          rw [e]
          exact ih ts hk.2 (by simpa using hle) i ((List.mem_cons.1 hi).resolve_left hik) t y hb
  have hbx : ∀ i ∈ ids, ∀ (t : Ty) (y : den t), s.heap[i]? = some (⟨.box t, y⟩ : AObj) → ∃ (t' : Ty) (x' : den t'), (resO hh.rt hh.ots x)[posN i ids]? = some (⟨.box t', x'⟩ : AObj) := by
    intro i hi t y hb
    obtain ⟨t', ht⟩ := hbx0 ids hh.ots c6 c4 i hi t y hb
    have ht : ((resO hh.rt hh.ots x).map (·.t))[posN i ids]? = some (OTy.box t') := by rw [hts]; exact ht
    rw [List.getElem?_map] at ht
    cases ho : (resO hh.rt hh.ots x)[posN i ids]? with
    | none => rw [ho] at ht; cases ht
    | some o =>
      rw [ho] at ht
      injection ht with ht
      obtain ⟨to, xo⟩ := o
      have ht : to = .box t' := ht
      subst ht
      exact ⟨t', xo, rfl⟩
  have hsame : plainCall T s f args = true → ∀ b, Safe Fr mu s.heap b → w'.heap[b]? = w.heap[b]? := by
    intro hpl b hb
    have he0 : ids = [] := by
      unfold plainCall at hpl
      rw [hhint] at hpl
      dsimp only at hpl
      rw [hids] at hpl
      simpa using hpl
    refine post.si.grow.block b (safe_lt H.si hb) ?_
    rintro ⟨j, o, hj, _⟩
    have : j < objsC.length := (List.getElem?_eq_some_iff.1 hj).1
    rw [hlenC, he0] at this
    simp at this
  cases hb : (hh.rt.bears || hh.ots.any OTy.bears) with
  | true =>
    rw [if_pos hb] at h
    have H0 := H.freeze red
    have hlen0 := freeze_len s red
    have hQ1 : ∀ (j : Nat) (o : AObj), objsC[j]? = some o → occ (muOf mu ids) j o → ∃ o0, (s.freeze red).heap[ids.getD j 0]? = some o0 ∧ occ mu (ids.getD j 0) o0 := by
      intro j o hj ho
      obtain ⟨o0, h0, hoc⟩ := hQ j o hj ho
      have hjl : j < ids.length := by rw [← hlenC]; exact (List.getElem?_eq_some_iff.1 hj).1
      have hmem : ids.getD j 0 ∈ ids := by rw [List.getD_eq_getElem?_getD, List.getElem?_eq_getElem hjl]; simp
      by_cases hr0 : red = []
      · subst hr0; exact ⟨o0, h0, hoc⟩
      · have hgl : ∀ (l : List Nat) (hp : List AObj), ids.getD j 0 ∉ l → (goneL l hp)[ids.getD j 0]? = hp[ids.getD j 0]? := by
          intro l
          induction l with
          | nil => intro hp _; rfl
          | cons k l ih =>
            intro hp hnk
            simp only [List.mem_cons, not_or] at hnk
            show (goneL l (hp.set k gone))[ids.getD j 0]? = _
            rw [ih _ hnk.2, List.getElem?_set_ne (fun e => hnk.1 e.symm)]
        refine ⟨(thawR s red).obj o0, ?_, by rw [occ_obj]; exact hoc⟩
        rw [freeze_eq s hr0]
        show (goneL red (s.heap.map _))[ids.getD j 0]? = _
        rw [hgl red _ (fun hk => hnr _ hk hmem), List.getElem?_map, h0]; rfl
    obtain ⟨mu2, g1, g2, g3, g4⟩ := call_back (Fr2 := FrR) H0 (fun i hi => by rw [hlen0]; exact hlt i hi) hnd hlenC post hts hQ1 (fun b hb => post.si.fr0 b hb)
      (fun b hb => by
        rcases post.si.frN b hb with h1 | h1 | h1
        · exact .inl h1
        · exact .inr (.inl h1)
        · exact .inr (.inr h1)) (fun _ => id) (fun _ _ _ => id) id (by
        intro i hi t y hb
        by_cases hr0 : red = []
        · subst hr0; exact hbx i hi t y hb
        · rw [freeze_eq s hr0] at hb
          rcases goneL_get _ _ _ _ hb with ⟨_, h2⟩ | ⟨_, h2⟩ | h2
          · cases h2
          · obtain ⟨o0, h0, e⟩ := map_get h2
            obtain ⟨t0, x0, rfl, _⟩ := box_obj e
            exact hbx i hi t0 x0 h0
          · cases h2)
    rw [hlen0] at g1 g2 g3 g4
    exact ⟨v, _, _, FrR, mu2, he, h, g1, g2, g3, ⟨fun b hb => g4 b ((Kept.frz (g := true) (w := w)).safe b hb), hsame⟩⟩
  | false =>
    rw [if_neg (by rw [hb]; simp)] at h
    simp only [Bool.or_eq_false_iff] at hb
    have hfo : ∀ (j : Nat) (o : AObj), (resO hh.rt hh.ots x)[j]? = some o → o.t.bears = false := by
      intro j o hj
      have : o.t ∈ hh.ots := by rw [← hts]; exact List.mem_map.2 ⟨o, List.mem_of_getElem? hj, rfl⟩
      have hall := hb.2
      simp only [List.any_eq_false] at hall
      simpa using hall _ this
    obtain ⟨mu2, g1, g2, g3, g4⟩ := call_back (Fr2 := fun b => FrR b ∧ ¬ ∃ (k : Nat) (ok : AObj), k ∈ red ∧ s.heap[k]? = some ok ∧ occ mu k ok ∧ b = (mu k).loc) H hlt hnd hlenC post hts hQ
      (fun b hb => ⟨post.si.fr0 b (.inl hb), fun hr => (hrl b hr).2.1 hb⟩)
      (fun b hb => by
        rcases post.si.frN b hb.1 with h1 | h1 | h1
        · rcases h1 with h1 | h1
          · exact .inl h1
          · exact absurd h1 hb.2
        · exact .inr (.inl h1)
        · exact .inr (.inr h1)) (fun b hb => hb.1) (fun j o hj ho => OR_free (hfo j o hj) ho) (VR_free hb.1) hbx
    exact ⟨v, _, _, _, mu2, he, h, g1, g2, g3, ⟨g4, hsame⟩⟩
end
end Go.Abs
