/- Parts of lists and texts, as the interpreter tells them. No conditions. -/
import Derived.Test.YtobfcaejpcpboaaOps9
set_option autoImplicit false
set_option linter.unusedVariables false
namespace Go.Abs

section
variable {P : Program} {T : Told} {E : Env} {w : World} {Fr : Nat → Prop} {mu : Nat → Loc} {s : St} {a : Act}

theorem low_val (H : Rep E w Fr mu s a) {lo : Option Operand} {b : Int} (h : lowB (lo.map s.get) = some b) : (lo = none ∧ b = 0) ∨ ∃ x k, lo = some x ∧ a.eval x = .int k b := by
  cases lo with
  | none => injection h with h; exact .inl ⟨rfl, h.symm⟩
  | some x =>
    have hx := (H.op x).1
    have h : lowB (some (s.get x)) = some b := h
    unfold lowB at h
    split at h
    · rename_i k n hq
      injection h with h
      injection hq with hq
      rw [hq] at hx
      exact .inr ⟨x, _, rfl, by rw [← h]; exact VR_int hx⟩
    · cases h
    · rename_i hq; cases hq
theorem high_val (H : Rep E w Fr mu s a) {hi : Option Operand} {n : Nat} {b : Int} (h : bound (hi.map s.get) n = some b) : (hi = none ∧ b = n) ∨ ∃ x k, hi = some x ∧ a.eval x = .int k b := by
  cases hi with
  | none => injection h with h; exact .inl ⟨rfl, h.symm⟩
  | some x =>
    have hx := (H.op x).1
    have h : bound (some (s.get x)) n = some b := h
    unfold bound at h
    split at h
    · rename_i k n hq
      injection h with h
      injection hq with hq
      rw [hq] at hx
      exact .inr ⟨x, _, rfl, by rw [← h]; exact VR_int hx⟩
    · cases h
    · rename_i hq; cases hq
theorem inB_true {a b n : Int} (h : inB a b n = true) : 0 ≤ a ∧ a ≤ b ∧ b ≤ n := by
  unfold inB at h
  obtain ⟨h1, h2⟩ := andB_true h
  obtain ⟨h2, h3⟩ := andB_true h2
  exact ⟨leI_true h1, leI_true h2, leI_true h3⟩
theorem run_bounds (H : Rep E w Fr mu s a) {lo hi : Option Operand} {n cap : Nat} {b h : Int} (hl : lowB (lo.map s.get) = some b) (hh : bound (hi.map s.get) n = some h) (hin : inB b h (ofN n) = true) (hc : n ≤ cap) (sl : Bool) :
    (Instr.sliceBounds sl n cap (lo.map a.eval) (hi.map a.eval) none).run P w = .ok (b.toNat, h.toNat, cap) w := by
  obtain ⟨h0, h1, h2⟩ := inB_true hin
  have h2 : h ≤ (n : Int) := h2
  have c1 : (0 ≤ h ∧ h ≤ (cap : Int)) := ⟨by omega, by omega⟩
  have c2 : (0 ≤ b ∧ b ≤ (h.toNat : Int)) := ⟨h0, by omega⟩
  have c3 : (0 ≤ b ∧ b ≤ (n : Int)) := ⟨h0, by omega⟩
  rcases low_val H hl with ⟨rfl, rfl⟩ | ⟨x, k, rfl, hx⟩ <;> rcases high_val H hh with ⟨rfl, rfl⟩ | ⟨y, j, rfl, hy⟩
  · simp [Instr.sliceBounds]
  · simp [Instr.sliceBounds, Instr.sliceBound, asIntOf, hy, c1]
  · have : ((n : Int)).toNat = n := by omega
    simp [Instr.sliceBounds, Instr.sliceBound, asIntOf, hx, c3]
  · have c4 : ¬ (max h 0 < b) := by omega
    simp [Instr.sliceBounds, Instr.sliceBound, asIntOf, hx, hy, c1, c2, c4]
theorem ex_slice {o : Oper} {t : Nat} {x : Operand} {lo hi : Option Operand} (ho : o.op = .slice t x lo hi none) {d : TypeDesc} (hu : P.underlying t = some d) (hd : ∀ n e, d ≠ .array n e) {v : Value} (h : (Instr.slice t (a.eval x) (lo.map a.eval) (hi.map a.eval) none).run P w = .ok v w) :
    (execOp a.eval o).run P w = .ok (.value v) w := by
  have h2 : (Instr.sliceAt t (a.eval x) (lo.map a.eval) (hi.map a.eval) none).run P w = .ok v w := by
    unfold Instr.sliceAt
    rw [Sem.run_bind, run_underlying hu w]
    simp only [Result.andThen_ok]
    cases d <;> first | exact h | (exact absurd rfl (hd _ _))
  unfold execOp
  simp only [ho, Option.map_none, Sem.run_bind, h2, Result.andThen_ok]; rfl
/-- A part of a row of things. -/
theorem rows_part {A : Type} {f : A → List Value → Prop} {n : Nat} (h : ∀ x l, f x l → l.length = n) {xs : List A} {l : List Value} (hr : rows f xs l) (i j : Nat) : rows f ((xs.drop i).take (j - i)) ((l.drop (i * n)).take ((j - i) * n)) :=
  rows_take h (rows_drop h hr i) (j - i)
theorem At.part {b o : Nat} {c : List Value} (h : At w b o c) (i n : Nat) : At w b (o + i) ((c.drop i).take n) := by
  intro k v hk
  rw [List.getElem?_take] at hk
  split at hk
  · rw [List.getElem?_drop] at hk
    have := h _ v hk
    rwa [Nat.add_assoc]
  · cases hk
/-- A part of a list that lies in memory. -/
theorem part_list {t e : Nat} {ti : TI} (hu : P.underlying t = some (.slice e)) (hg : Good P e ti) (H : Rep E w Fr mu s a) {lo hi : Option Operand} {b h : Int} {u : Ty} (hw : u.width = ti.siz) {l : List (den u)} {ad : Option Addr} {c : Nat} {cells : List Value} {Fr' : Nat → Prop}
    (he : u.elt = true) (hlen : l.length ≤ c) (hr : rows (fun x l => Rp w Fr' mu u x l) l cells) (hat : l = [] ∨ ∃ b o, ad = some ⟨b, o, none⟩ ∧ Fr' b ∧ At w b o cells)
    (hl : lowB (lo.map s.get) = some b) (hh : bound (hi.map s.get) (lenL u l) = some h) (hin : inB b h (ofN (lenL u l)) = true) :
    ∃ v, (Instr.slice t (.slice ad l.length c) (lo.map a.eval) (hi.map a.eval) none).run P w = .ok v w ∧ VR w Fr' mu ⟨.list u, subL u l (toN b) (toN h)⟩ v := by
  have hb := run_bounds (P := P) H hl hh hin hlen true
  have hb : (Instr.sliceBounds true l.length c (lo.map a.eval) (hi.map a.eval) none).run P w = .ok (b.toNat, h.toNat, c) w := hb
  obtain ⟨h0, h1, h2⟩ := inB_true hin
  have h2 : h ≤ (l.length : Int) := h2
  refine ⟨.slice (if c = b.toNat then ad else ad.map (·.add (b.toNat * ti.siz))) (h.toNat - b.toNat) (c - b.toNat), ?_, ?_⟩
  · simp [Instr.slice, run_underlying hu, hb, hg.size w]
  · have hsl : (subL u l (toN b) (toN h)).length = h.toNat - b.toNat := by
      simp only [subL, toN, List.length_take, List.length_drop]; omega
    refine ⟨he, _, c - b.toNat, (cells.drop (b.toNat * u.width)).take ((h.toNat - b.toNat) * u.width), by rw [hsl], by rw [hsl]; omega, rows_part (fun x l h => Rp_len u x l (Ty.elt_cel he) h) hr _ _, ?_⟩
    by_cases hemp : subL u l (toN b) (toN h) = []
    · exact .inl hemp
    · right
      have hlt : b.toNat < h.toNat := by
        have : 0 < (subL u l (toN b) (toN h)).length := List.length_pos_iff.2 hemp
        omega
      rcases hat with rfl | ⟨blk, off, rfl, hF, hat⟩
      · simp at h2; omega
      · refine ⟨blk, off + b.toNat * u.width, ?_, hF, hat.part _ _⟩
        rw [if_neg (by omega)]
        simp [addr_add, hw]
theorem ok_slice (hT : TabOK P T.tb) (H : Rep E w Fr mu s a) {fn : Nat} {o : Oper} {t : Nat} {x : Operand} {lo hi : Option Operand} (ho : o.op = .slice t x lo hi none) {d : Dyn} {s' : St} (h : opP T fn o s = some (true, d, s')) : StepOK P E w Fr mu s a o d s' := by
  unfold opP at h
  rw [ho] at h
  dsimp only at h
  have hx := (H.op x).1
  have hxn := (H.op x).2
  split at h
  · cases h
  rename_i b hlo
  split at h
  · rename_i hti hq
    split at h
    case h_2 => cases h
    rename_i hv hhi
    injection h with h
    injection h with hb h
    injection h with h2 h3
    subst h2; subst h3
    rw [hq] at hx
    have hx := VR_str hx
    have hu := (hT _ _ hti).und
    dsimp only at hu
    refine .pure H (v := .string (subS _ (toN b) (toN hv))) (ex_slice ho hu (by simp) ?_) rfl trivial
    have hbb := run_bounds (P := P) H hlo hhi hb (Nat.le_refl _) false
    rw [hx]
    unfold lenS at hbb
    simp [Instr.slice, run_underlying hu, hbb]
    rfl
  · rename_i e eqs siz byt zer ty u l hti hq
    split at h
    case h_2 => cases h
    rename_i ti hv hti' hhi
    split at h
    case isFalse => cases h
    rename_i hw
    injection h with h
    injection h with hb h
    injection h with h2 h3
    subst h2; subst h3
    rw [hq] at hx
    have hu := (hT _ _ hti).und
    dsimp only at hu
    obtain ⟨he, ad, c, cells, e1, hlen, hr, hat⟩ := hx
    injection e1 with e1
    obtain ⟨v, hv1, hv2⟩ := part_list hu (hT _ _ hti') H hw he hlen hr hat hlo hhi hb
    exact .pure H (ex_slice ho hu (by simp) (by rw [e1]; exact hv1)) hv2 trivial
  · rename_i e eqs siz byt zer ty e' _ hti hq
    split at h
    case h_2 => cases h
    rename_i hv tie hhi hte
    injection h with h
    injection h with hb h
    injection h with h2 h3
    subst h2; subst h3
    rw [hq] at hx
    injection (show [a.eval x] = [_] from hx) with hx
    have hu := (hT _ _ hti).und
    dsimp only at hu
    have hbb := run_bounds (P := P) (n := 0) (cap := 0) H hlo hhi hb (Nat.le_refl _) true
    obtain ⟨h0, h1, h2⟩ := inB_true hb
    have h2 : hv ≤ (0 : Int) := h2
    have eb : b.toNat = 0 := by omega
    have eh : hv.toNat = 0 := by omega
    rw [eb, eh] at hbb
    refine .pure H (v := .slice none 0 0) (ex_slice ho hu (by simp) ?_) rfl trivial
    rw [hx]
    simp [Instr.slice, run_underlying hu, hbb, (hT _ _ hte).size w]
  · rename_i e eqs siz byt zer ty u i _ hti hq
    split at h
    case h_2 => cases h
    rename_i l ti hl hti'
    split at h
    case isFalse => cases h
    rename_i hw
    split at h
    case h_2 => cases h
    rename_i hv hhi
    rw [hq] at hx hxn
    injection (show [a.eval x] = [_] from hx) with hxe
    clear hx
    have hu := (hT _ _ hti).und
    dsimp only at hu
    obtain ⟨e0, f0, ho0⟩ := rowOf_some hl
    obtain ⟨he, cells, hr, hcs⟩ := row_cells (H.si.obj i _ ho0)
    split at h
    · -- the row made shorter
      split at h
      case h_2 => cases h
      split at h
      case h_2 => cases h
      rename_i e' u' f' l' hob
      split at h
      case isFalse => cases h
      rename_i hu'
      subst hu'
      injection h with h
      injection h with hb h
      injection h with h2 h3
      subst h2; subst h3
      have hob' := obj_some hob (by simp)
      rw [ho0] at hob'
      injection hob' with hob'
      injection hob' with hob1 hob2
      injection hob1 with hob3 _ _
      subst hob3
      have hb0 : b = 0 := by
        rcases low_val H hlo with ⟨_, h⟩ | ⟨x, k, h, _⟩
        · exact h
        · cases h
      subst hb0
      obtain ⟨h0, h1, h2⟩ := inB_true hb
      have h2 : hv ≤ (l.length : Int) := h2
      have hjl : i < s.heap.length := (List.getElem?_eq_some_iff.1 ho0).1
      have hsl : (subL u' l 0 (toN hv)).length = hv.toNat := by
        simp only [subL, toN, List.drop_zero, List.length_take]; omega
      have hcl : cells.length = l.length * u'.width := rows_len (fun x l h => Rp_len u' x l (Ty.elt_cel he) h) hr
      have hrp : rows (fun x l => Rp w Fr mu u' x l) (subL u' l 0 (toN hv)) (cells.take (hv.toNat * u'.width)) := by
        have := rows_take (fun x l h => Rp_len u' x l (Ty.elt_cel he) h) hr hv.toNat
        simpa [subL, toN] using this
      -- the slice then
      have hnew : ∃ L : Loc, (Instr.slice t (mu i).hdr ((none : Option Operand).map a.eval) (hi.map a.eval) none).run P w = .ok L.hdr w ∧ L.hdr.oneCell' = true ∧ RowAt w L e0 u'.width hv.toNat (cells.take (hv.toNat * u'.width)) ∧
          (L.hdr.ownBlock = some L.loc → occ mu i (⟨.row e0 u' f0, l⟩ : AObj) ∧ L.loc = (mu i).loc ∧ L.loc < w.heap.size) := by
        obtain ⟨_, cells0, _, hat0⟩ := H.si.obj i _ ho0
        rcases hat0 with ⟨ad, h3, hn0, hno⟩ | ⟨hob1, hown⟩
        · have hnil : l = [] := List.eq_nil_of_length_eq_zero hn0
          subst hnil
          have hv0 : hv.toNat = 0 := by simp at h2; omega
          have hbb := run_bounds (P := P) (n := 0) (cap := 0) H hlo hhi hb (Nat.le_refl _) true
          rw [hv0] at hbb
          rw [hv0]
          refine ⟨mu i, ?_, by rw [h3]; rfl, .inl ⟨ad, h3, rfl, hno⟩, fun hc => absurd hc hno⟩
          rw [h3]
          simp at hbb
          simp [Instr.slice, run_underlying hu, (hT _ _ hti').size w, hbb]
        rcases hcs with ⟨ad, h3, hnil⟩ | ⟨cap, cur, hh, hn, hm, hocc, hcell, hsz, htk, hat⟩
        · subst hnil
          have hv0 : hv.toNat = 0 := by simp at h2; omega
          have hbb := run_bounds (P := P) (n := 0) (cap := 0) H hlo hhi hb (Nat.le_refl _) true
          rw [hv0] at hbb
          rw [hv0]
          refine ⟨mu i, ?_, by rw [h3]; rfl, .inr ⟨hob1, by
            have hown' : w.ownsRow 0 e0 u'.width (mu i).hdr 0 cells0 := hown
            have hc0 : cells0 = [] := List.eq_nil_of_length_eq_zero (by rw [hown'.1]; simp)
            rw [Nat.zero_mul, List.take_zero, ← hc0]
            exact hown'⟩, fun hc => ⟨hc, rfl, (H.si.own i _ ho0 hc).2.2⟩⟩
          rw [h3]
          simp at hbb
          simp [Instr.slice, run_underlying hu, (hT _ _ hti').size w, hbb]
        · have hbb := run_bounds (P := P) H hlo hhi hb hn true
          refine ⟨⟨(mu i).loc, .slice (some ⟨(mu i).loc, 0, none⟩) hv.toNat cap⟩, ?_, rfl, .inr ⟨rfl, ?_⟩, fun _ => ⟨hocc, rfl, (Array.getElem?_eq_some_iff.1 hcell).1⟩⟩
          · rw [hh]
            have hbb : (Instr.sliceBounds true l.length cap ((none : Option Operand).map a.eval) (hi.map a.eval) none).run P w = .ok (0, hv.toNat, cap) w := hbb
            simp at hbb
            simp [Instr.slice, run_underlying hu, hbb, (hT _ _ hti').size w, addr_add]
          · refine ⟨?_, .inr ⟨(mu i).loc, cap, cur, rfl, Nat.zero_le _, hcell, by omega, hm, hsz, ?_⟩⟩
            · rw [List.length_take, hcl, Nat.min_eq_left (Nat.mul_le_mul_right _ (by omega))]
            · rw [← htk, List.take_take, Nat.min_eq_left (Nat.mul_le_mul_right _ (by omega))]
      obtain ⟨L, hr1, hr2, hr3, hr4⟩ := hnew
      have hrep := H.setObj (r := killR [i]) (w' := w) (L := L) (o := ⟨.row e0 u' false, subL u' l 0 (toN hv)⟩) ho0 (killR_T [i])
        (killR_OK H.si.hh (fun _ _ => rfl) (fun k hk hne => upd_ne (by simpa using hne))) (fun t x h => killR_okN [i] t x h) (Grow.refl _ w) hr2
        (by
          refine ⟨he, cells.take (hv.toNat * u'.width), ?_, ?_⟩
          · exact rows_mono (fun x l h => Rp_keep (fun _ => id) (fun _ _ => rfl) u' x l (u'.pure_okN (Ty.elt_pure he)) h) hrp
          · rw [upd_same, hsl]; exact hr3)
        (by
          intro hoc
          have hoc : (upd mu i L i).hdr.ownBlock = some (upd mu i L i).loc := hoc
          rw [upd_same] at hoc
          obtain ⟨h3, h4, h5⟩ := hr4 hoc
          exact ⟨h5, .inl ⟨h3, h4⟩⟩)
        (fun t x e => by cases e) (fun _ => trivial)
      refine ⟨_, L.hdr, w, Fr, _, ex_slice ho hu (by simp) (by rw [hxe]; exact hr1), .inl rfl, VR_own (by rw [upd_same]), ?_, hrep, Kept.set H.si ho0 (fun t x e => by cases e) (Grow.refl _ w) (fun _ t x e => by cases e)⟩
      show _ < _; simp [Tr.st, St.setObj]; exact hjl
    · -- a part for ever
      injection h with h
      injection h with hb h
      injection h with h2 h3
      subst h2; subst h3
      have hrl := row_list (Fr' := FrL Fr mu s.heap [i]) (fun b hb => .inl hb) (fun hoc => .inr ⟨i, _, by simp, ho0, hoc, rfl⟩) (H.si.obj i _ ho0)
      obtain ⟨_, ad, c, cells', e1, hlen, hr', hat⟩ := hrl
      injection e1 with e1
      obtain ⟨v, hv1, hv2⟩ := part_list hu (hT _ _ hti') H hw he hlen hr' hat hlo hhi hb
      exact ⟨_, v, w, _, mu, ex_slice ho hu (by simp) (by rw [hxe, e1]; exact hv1), .inl rfl, hv2, trivial, H.freeze [i], Kept.frz⟩
  · cases h
end
end Go.Abs
