/- slices.Insert and slices.Delete as the interpreter is told of them, out of walks of their code. No conditions. -/
import Derived.Test.YtobfcaejpcpboaaCpy
set_option autoImplicit false
set_option linter.unusedVariables false
namespace Go.Abs
/-- What a walk of slices.Insert shows. -/
def InsWalk (P : Program) (f e k : Nat) : Prop := ∀ (w : World) (L0 L1 : Loc) (n i m : Nat) (cs vs : List Value), RowAt w L0 e k n cs → RowAt w L1 e k m vs → (L0.hdr.ownBlock = some L0.loc → L1.hdr.ownBlock = some L1.loc → L0.loc ≠ L1.loc) →
  i ≤ n → 0 < m → n + m ≤ 1073741824 → cs.length = n * k → vs.length = m * k → (∀ v ∈ cs, v.oneCell' = true) → (∀ v ∈ vs, v.oneCell' = true) →
  Calls P f #[L0.hdr, .int .i64 i, L1.hdr] w fun e' w' => ∃ L', e' = .returned L'.hdr ∧ RowAt w' L' e k (n + m) (cs.take (i * k) ++ vs ++ cs.drop (i * k)) ∧ Grow (fun b => L0.hdr.ownBlock = some L0.loc ∧ b = L0.loc) w w' ∧
    (L'.hdr.ownBlock = some L'.loc → L'.loc < w'.heap.size ∧ ((L0.hdr.ownBlock = some L0.loc ∧ L'.loc = L0.loc) ∨ w.heap.size ≤ L'.loc)) ∧ L'.hdr.oneCell' = true
/-- What a walk of slices.Delete shows. -/
def DelWalk (P : Program) (f e k : Nat) : Prop := ∀ (w : World) (L0 : Loc) (n i j : Nat) (cs : List Value), RowAt w L0 e k n cs →
  i ≤ j → j ≤ n → cs.length = n * k → (∀ v ∈ cs, v.oneCell' = true) →
  Calls P f #[L0.hdr, .int .i64 i, .int .i64 j] w fun e' w' => ∃ L', e' = .returned L'.hdr ∧ RowAt w' L' e k (n - (j - i)) (cs.take (i * k) ++ cs.drop (j * k)) ∧ Grow (fun b => L0.hdr.ownBlock = some L0.loc ∧ b = L0.loc) w w' ∧
    (L'.hdr.ownBlock = some L'.loc → L'.loc < w'.heap.size ∧ ((L0.hdr.ownBlock = some L0.loc ∧ L'.loc = L0.loc) ∨ w.heap.size ≤ L'.loc)) ∧ L'.hdr.oneCell' = true
theorem start_SI {w : World} {Fr : Nat → Prop} {mu : Nat → Loc} {objs : List AObj} {args : List Dyn} {vs : List Value} (hpre : Pre w Fr mu objs args vs) : SI (env w Fr mu objs) w Fr mu objs := by
  refine ⟨Grow.refl _ w, fun _ => id, fun _ => .inl, hpre.frL, hpre.so.hh, hpre.so.obj, hpre.so.nm, hpre.so.sep, ?_, ?_, Nat.le_refl _⟩
  · intro i o hi ho
    obtain ⟨h1, h2⟩ := hpre.so.own i o hi ho
    exact ⟨.inl ⟨i, o, hi, ho, rfl⟩, h1, h2⟩
  · intro i o _ hi
    obtain ⟨t, x⟩ := o
    cases t with
    | gone => trivial
    | box t => rfl
    | row e t f => cases f <;> first | rfl | trivial
theorem insP_ok {P : Program} {f e : Nat} {t : Ty} (hen : Enters P f) (hw : InsWalk P f e t.width) (args : List Dyn) (objs : List AObj) (rt : Ty) (ots : List OTy) (r : denR rt ots) (h : insP e t f args objs rt ots = some r) : Enters P f ∧
  ∀ (w : World) (Fr : Nat → Prop) (mu : Nat → Loc) (vs : List Value), Pre w Fr mu objs args vs →
    Calls P f vs.toArray w fun e w' => ∃ v Fr' mu', e = .returned v ∧ Post w Fr mu objs ⟨rt, resT rt ots r⟩ (resO rt ots r) v w' Fr' mu' := by
  refine ⟨hen, ?_⟩
  intro w Fr mu vals hpre
  unfold insP at h
  split at h
  case h_2 => cases h
  rename_i t1 x1 i t2 x2 e1 u1 f1 xs0 e2 u2 vs0
  split at h
  case isFalse => cases h
  rename_i hee
  obtain ⟨he1, he2⟩ := hee
  subst he1
  subst he2
  split at h
  case h_2 => cases h
  rename_i xs vs hxs hvs
  split at h
  case h_2 => cases h
  rename_i x y hx hy
  obtain ⟨hg, h⟩ := br_none h
  injection h with h
  subst h
  have hso := hpre.so
  have ho0 : OR w Fr mu 0 ⟨.row e2 t f1, xs⟩ := by rw [← list_as hxs]; exact hso.obj 0 _ rfl
  have ho1 : OR w Fr mu 1 ⟨.row e2 t true, vs⟩ := by rw [← list_as hvs]; exact hso.obj 1 _ rfl
  obtain ⟨hel, cx, hrx, hown⟩ := ho0
  obtain ⟨_, cv, hrv, hown1⟩ := ho1
  -- the values
  have hlen := hpre.len
  match vals, hlen with
  | [a0, a1, a2], _ =>
  have v0 := (hpre.val 0 _ a0 rfl rfl).1
  have v1 := (hpre.val 1 _ a1 rfl rfl).1
  have v2 := (hpre.val 2 _ a2 rfl rfl).1
  injection (show [a0] = [(mu 0).hdr] from v0) with v0
  injection (show [a1] = [.int .i64 i] from v1) with v1
  injection (show [a2] = [(mu 1).hdr] from v2) with v2
  subst v0; subst v1; subst v2
  unfold insG at hg
  simp only [decide_eq_true_eq] at hg
  obtain ⟨g1, g2, g3, g4⟩ := hg
  have hi : i = ((i.toNat : Nat) : Int) := (Int.toNat_of_nonneg g1).symm
  have hcx : cx.length = xs.length * t.width := rows_len (fun x l h => Rp_len t x l (Ty.elt_cel hel) h) hrx
  have hcv : cv.length = vs.length * t.width := rows_len (fun x l h => Rp_len t x l (Ty.elt_cel hel) h) hrv
  have one : ∀ {zs : List (den t)} {c : List Value}, rows (fun x l => Rp w Fr mu t x l) zs c → ∀ u ∈ c, u.oneCell' = true := fun hr => rows_all (fun x l h => Rp_one hso.hh t x l (Ty.elt_cel hel) h) hr
  have hwalk := hw w (mu 0) (mu 1) xs.length i.toNat vs.length cx cv hown hown1 (fun h0 h1 => hso.sep 0 1 _ _ rfl rfl (by omega) h0 h1) g2 g3 g4 hcx hcv (one hrx) (one hrv)
  rw [← hi] at hwalk
  refine Calls.mono hwalk ?_
  rintro ex w' ⟨L, rfl, hr2, hr3, hr4, hr5⟩
  have hgr : Grow (fun b => occ mu 0 (⟨.row e2 u1 f1, xs0⟩ : AObj) ∧ b = (mu 0).loc) w w' := hr3
  have hj : (⟨[], [⟨.row e2 u1 f1, xs0⟩, ⟨.row e2 u2 true, vs0⟩]⟩ : St).heap[0]? = some (⟨.row e2 u1 f1, xs0⟩ : AObj) := rfl
  have HS := start_SI hpre
  have hfr : ∀ b, Fr b → w'.heap[b]? = w.heap[b]? := fun b hb => hgr.block b (hpre.frL b hb) (fun ⟨h1, h2⟩ => (hso.own 0 _ rfl h1).1 (h2 ▸ hb))
  have hrow : rows (fun x l => Rp w' Fr (upd mu 0 L) t x l) (insL t xs i vs) (cx.take (i.toNat * t.width) ++ cv ++ cx.drop (i.toNat * t.width)) := by
    have wl : ∀ (x : den t) (l : List Value), Rp w Fr mu t x l → l.length = t.width := fun x l h => Rp_len t x l (Ty.elt_cel hel) h
    have := rows_append (rows_append (Abs.rows_take wl hrx i.toNat) hrv) (rows_drop wl hrx i.toNat)
    exact rows_mono (fun x l h => Rp_keep (fun _ => id) hfr t x l (t.pure_okN (Ty.elt_pure hel)) h) this
  have hsi := SI.setObj (s := ⟨[], [⟨.row e2 u1 f1, xs0⟩, ⟨.row e2 u2 true, vs0⟩]⟩) HS (r := killR [0]) (w' := w') (L := L) (o := ⟨.row e2 t false, insL t xs i vs⟩) hj (killR_T [0])
    (killR_OK hso.hh hfr (fun k hk hne => upd_ne (by simpa using hne))) (fun t x h => killR_okN [0] t x h) hgr hr5
    (by
      refine ⟨hel, _, hrow, ?_⟩
      rw [upd_same]
      have hl : (insL t xs i vs).length = xs.length + vs.length := by
        unfold insL
        simp only [List.length_append, List.length_take, List.length_drop]
        omega
      rw [hl]
      exact hr2)
    (by
      intro hoc
      have hoc : (upd mu 0 L 0).hdr.ownBlock = some (upd mu 0 L 0).loc := hoc
      rw [upd_same] at hoc
      exact hr4 hoc)
    (fun t x e => by cases e) (fun _ => trivial)
  have hos : List.set (List.map (killR [0]).obj ([⟨.row e2 u1 f1, xs0⟩, ⟨.row e2 u2 true, vs0⟩] : List AObj)) 0 (⟨.row e2 t false, insL t xs i vs⟩ : AObj) = [⟨.row e2 t false, insL t xs i vs⟩, ⟨.row e2 t true, vs⟩] := by
    show [(⟨.row e2 t false, insL t xs i vs⟩ : AObj), ⟨.row e2 u2 true, vs0⟩] = _
    rw [list_as hvs]
  obtain ⟨m1, m2⟩ := mkR_res rt x ots y
  have hob := asObjs_some ots _ y hy
  have hxx := as_some hx
  refine ⟨_, Fr, upd mu 0 L, rfl, ?_⟩
  rw [m1, m2, ← hob, ← hxx]
  refine ⟨?_, VR_own (by rw [upd_same]), ?_⟩
  · rw [← hos]
    exact hsi
  · show 0 < 2
    omega
theorem delP_ok {P : Program} {f e : Nat} {t : Ty} (hen : Enters P f) (hw : DelWalk P f e t.width) (args : List Dyn) (objs : List AObj) (rt : Ty) (ots : List OTy) (r : denR rt ots) (h : delP e t f args objs rt ots = some r) : Enters P f ∧
  ∀ (w : World) (Fr : Nat → Prop) (mu : Nat → Loc) (vs : List Value), Pre w Fr mu objs args vs →
    Calls P f vs.toArray w fun e w' => ∃ v Fr' mu', e = .returned v ∧ Post w Fr mu objs ⟨rt, resT rt ots r⟩ (resO rt ots r) v w' Fr' mu' := by
  refine ⟨hen, ?_⟩
  intro w Fr mu vals hpre
  unfold delP at h
  split at h
  case h_2 => cases h
  rename_i t1 x1 i j e1 u1 f1 xs0
  split at h
  case isFalse => cases h
  rename_i he1
  subst he1
  split at h
  case h_2 => cases h
  rename_i xs hxs
  split at h
  case h_2 => cases h
  rename_i x y hx hy
  obtain ⟨hg, h⟩ := br_none h
  injection h with h
  subst h
  have hso := hpre.so
  have ho0 : OR w Fr mu 0 ⟨.row e1 t f1, xs⟩ := by rw [← list_as hxs]; exact hso.obj 0 _ rfl
  obtain ⟨hel, cx, hrx, hown⟩ := ho0
  have hlen := hpre.len
  match vals, hlen with
  | [a0, a1, a2], _ =>
  have v0 := (hpre.val 0 _ a0 rfl rfl).1
  have v1 := (hpre.val 1 _ a1 rfl rfl).1
  have v2 := (hpre.val 2 _ a2 rfl rfl).1
  injection (show [a0] = [(mu 0).hdr] from v0) with v0
  injection (show [a1] = [.int .i64 i] from v1) with v1
  injection (show [a2] = [.int .i64 j] from v2) with v2
  subst v0; subst v1; subst v2
  unfold delG at hg
  simp only [decide_eq_true_eq] at hg
  obtain ⟨g1, g2, g3⟩ := hg
  have hi : i = ((i.toNat : Nat) : Int) := (Int.toNat_of_nonneg g1).symm
  have hj : j = ((j.toNat : Nat) : Int) := (Int.toNat_of_nonneg (by omega)).symm
  have hcx : cx.length = xs.length * t.width := rows_len (fun x l h => Rp_len t x l (Ty.elt_cel hel) h) hrx
  have one : ∀ {zs : List (den t)} {c : List Value}, rows (fun x l => Rp w Fr mu t x l) zs c → ∀ u ∈ c, u.oneCell' = true := fun hr => rows_all (fun x l h => Rp_one hso.hh t x l (Ty.elt_cel hel) h) hr
  have hwalk := hw w (mu 0) xs.length i.toNat j.toNat cx hown (by omega) g3 hcx (one hrx)
  rw [← hi, ← hj] at hwalk
  refine Calls.mono hwalk ?_
  rintro ex w' ⟨L, rfl, hr2, hr3, hr4, hr5⟩
  have hgr : Grow (fun b => occ mu 0 (⟨.row e1 u1 f1, xs0⟩ : AObj) ∧ b = (mu 0).loc) w w' := hr3
  have hj : (⟨[], [⟨.row e1 u1 f1, xs0⟩]⟩ : St).heap[0]? = some (⟨.row e1 u1 f1, xs0⟩ : AObj) := rfl
  have HS := start_SI hpre
  have hfr : ∀ b, Fr b → w'.heap[b]? = w.heap[b]? := fun b hb => hgr.block b (hpre.frL b hb) (fun ⟨h1, h2⟩ => (hso.own 0 _ rfl h1).1 (h2 ▸ hb))
  have hrow : rows (fun x l => Rp w' Fr (upd mu 0 L) t x l) (delL t xs i j) (cx.take (i.toNat * t.width) ++ cx.drop (j.toNat * t.width)) := by
    have wl : ∀ (x : den t) (l : List Value), Rp w Fr mu t x l → l.length = t.width := fun x l h => Rp_len t x l (Ty.elt_cel hel) h
    have := rows_append (Abs.rows_take wl hrx i.toNat) (rows_drop wl hrx j.toNat)
    exact rows_mono (fun x l h => Rp_keep (fun _ => id) hfr t x l (t.pure_okN (Ty.elt_pure hel)) h) this
  have hsi := SI.setObj (s := ⟨[], [⟨.row e1 u1 f1, xs0⟩]⟩) HS (r := killR [0]) (w' := w') (L := L) (o := ⟨.row e1 t false, delL t xs i j⟩) hj (killR_T [0])
    (killR_OK hso.hh hfr (fun k hk hne => upd_ne (by simpa using hne))) (fun t x h => killR_okN [0] t x h) hgr hr5
    (by
      refine ⟨hel, _, hrow, ?_⟩
      rw [upd_same]
      have hl : (delL t xs i j).length = xs.length - (j.toNat - i.toNat) := by
        unfold delL
        simp only [List.length_append, List.length_take, List.length_drop]
        omega
      rw [hl]
      exact hr2)
    (by
      intro hoc
      have hoc : (upd mu 0 L 0).hdr.ownBlock = some (upd mu 0 L 0).loc := hoc
      rw [upd_same] at hoc
      exact hr4 hoc)
    (fun t x e => by cases e) (fun _ => trivial)
  have hos : List.set (List.map (killR [0]).obj ([⟨.row e1 u1 f1, xs0⟩] : List AObj)) 0 (⟨.row e1 t false, delL t xs i j⟩ : AObj) = [⟨.row e1 t false, delL t xs i j⟩] := rfl
  obtain ⟨m1, m2⟩ := mkR_res rt x ots y
  have hob := asObjs_some ots _ y hy
  have hxx := as_some hx
  refine ⟨_, Fr, upd mu 0 L, rfl, ?_⟩
  rw [m1, m2, ← hob, ← hxx]
  refine ⟨?_, VR_own (by rw [upd_same]), ?_⟩
  · rw [← hos]
    exact hsi
  · show 0 < 1
    omega
end Go.Abs
