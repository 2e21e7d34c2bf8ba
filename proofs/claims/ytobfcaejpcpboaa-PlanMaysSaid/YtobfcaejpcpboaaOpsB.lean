/- Each operation without a call, as the interpreter tells it. No conditions. -/
import Derived.Test.YtobfcaejpcpboaaOpsA
set_option autoImplicit false
set_option linter.unusedVariables false
namespace Go.Abs

section
variable {P : Program} {T : Told} {E : Env} {w : World} {Fr : Nat → Prop} {mu : Nat → Loc} {s : St} {a : Act}

def farBlk : Option Addr → Nat
  | some b => b.block + 1
  | none => 0
theorem new_empty (H : Rep E w Fr mu s a) {o : Oper} {e : Nat} {t : Ty} (he : t.elt = true) {ad : Option Addr} (hr : (execOp a.eval o).run P w = .ok (.value (.slice ad 0 0)) w) : StepOK P E w Fr mu s a o ⟨.own t s.heap.length, ()⟩ (s.new ⟨.row e t false, []⟩) := by
  have hne : (Value.slice ad 0 0).ownBlock ≠ some (farBlk ad) := by
    cases ad <;> simp [Value.ownBlock, farBlk]
  refine ⟨_, _, w, Fr, _, hr, .inl rfl, VR_own (by rw [upd_same]), ?_, new_row (L := ⟨farBlk ad, .slice ad 0 0⟩) H he (Grow.refl _ w) rfl (.inl ⟨ad, rfl, rfl, hne⟩) (fun h => absurd h hne) (cells := []) rfl, Kept.new H.si (Grow.refl _ w)⟩
  show _ < _; simp [St.new]
theorem ok_assign (hT : TabOK P T.tb) (H : Rep E w Fr mu s a) {fn : Nat} {o : Oper} {x : Operand} (ho : o.op = .assign x) {d : Dyn} {s' : St} (h : opP T fn o s = some (true, d, s')) : StepOK P E w Fr mu s a o d s' := by
  unfold opP at h
  rw [ho] at h
  dsimp only at h
  split at h
  · rename_i e0 _ hq
    split at h
    case h_2 => cases h
    rename_i e i hrow
    injection h with h
    injection h with _ h
    injection h with h2 h3
    subst h2; subst h3
    have hx := (H.op x).1
    rw [hq] at hx
    injection (show [a.eval x] = [_] from hx) with hx
    obtain ⟨_, _, _, _, _, he, _⟩ := rowT_ok hT hrow
    exact new_empty H he (ad := none) (by unfold execOp; simp [ho, hx])
  · unfold put1 at h
    split at h
    case isFalse => cases h
    injection h with h
    injection h with _ h
    injection h with h2 h3
    subst h2; subst h3
    exact (ok_move (.inr ho) H).ok H
theorem isZero_some {x : Option Operand} (h : isZero x = true) : ∃ k, x = some (.const (.int k 0)) := by
  unfold isZero at h
  split at h
  · rename_i k n
    exact ⟨k, by simp at h; rw [h]⟩
  · cases h
theorem ok_slice3 (hT : TabOK P T.tb) (H : Rep E w Fr mu s a) {fn : Nat} {o : Oper} {t : Nat} {x mx : Operand} {lo hi : Option Operand} (ho : o.op = .slice t x lo hi (some mx)) {d : Dyn} {s' : St} (h : opP T fn o s = some (true, d, s')) : StepOK P E w Fr mu s a o d s' := by
  unfold opP at h
  rw [ho] at h
  dsimp only at h
  split at h
  case isFalse => cases h
  rename_i hz
  simp only [Bool.and_eq_true, Option.isNone_iff_eq_none] at hz
  obtain ⟨⟨rfl, hz1⟩, hz2⟩ := hz
  obtain ⟨k1, rfl⟩ := isZero_some hz1
  obtain ⟨k2, hz3⟩ := isZero_some hz2
  injection hz3 with hz3
  subst hz3
  have hx := (H.op x).1
  have key : ∀ e i, rowT T t = some (e, i) → (∃ ad n c, a.eval x = .slice ad n c) → StepOK P E w Fr mu s a o ⟨.own i.ty s.heap.length, ()⟩ (s.new ⟨.row e i.ty false, []⟩) := by
    rintro e i hrow ⟨ad, n, c, hv⟩
    obtain ⟨hu, hg, _, _, _, he, _⟩ := rowT_ok hT hrow
    refine new_empty H he (ad := ad) ?_
    have h1 : (Instr.slice t (.slice ad n c) none (some (.int k1 0)) (some (.int k2 0))).run P w = .ok (.slice ad 0 0) w := by
      simp [Instr.slice, run_underlying hu, Instr.sliceBounds, Instr.sliceBound, asIntOf, hg.size w]
    have h2 : (Instr.sliceAt t (.slice ad n c) none (some (.int k1 0)) (some (.int k2 0))).run P w = .ok (.slice ad 0 0) w := by
      unfold Instr.sliceAt
      rw [Sem.run_bind, run_underlying hu w]
      exact h1
    have h3 : ∀ k, a.eval (.const (.int k 0)) = .int k 0 := fun _ => rfl
    unfold execOp
    simp only [ho, Option.map_none, Option.map_some, hv, h3, Sem.run_bind, h2, Result.andThen_ok]; rfl
  split at h <;> first | (cases h; done) | skip
  · rename_i e i u l hrow hq
    injection h with h
    injection h with _ h
    injection h with h2 h3
    subst h2; subst h3
    rw [hq] at hx
    obtain ⟨_, ad, c, cells, e1, _⟩ := hx
    injection e1 with e1
    exact key e i hrow ⟨_, _, _, e1⟩
  · rename_i e i e' _ hrow hq
    injection h with h
    injection h with _ h
    injection h with h2 h3
    subst h2; subst h3
    rw [hq] at hx
    injection (show [a.eval x] = [_] from hx) with hx
    exact key e i hrow ⟨_, _, _, hx⟩
  · rename_i e i u j _ hrow hq
    split at h
    case h_2 => cases h
    rename_i l hl
    injection h with h
    injection h with _ h
    injection h with h2 h3
    subst h2; subst h3
    rw [hq] at hx
    injection (show [a.eval x] = [_] from hx) with hxe
    obtain ⟨e0, f0, ho0⟩ := rowOf_some hl
    obtain ⟨he, cells, hr, hcs⟩ := row_cells (H.si.obj j _ ho0)
    rcases hcs with ⟨ad, h0, hnil⟩ | ⟨cap, cur, hh, _⟩
    · exact key e i hrow ⟨_, _, _, hxe.trans h0⟩
    · exact key e i hrow ⟨_, _, _, hxe.trans hh⟩
theorem ok_move' (H : Rep E w Fr mu s a) {fn : Nat} {o : Oper} {x : Operand} (ho : o.op = .move x) {d : Dyn} {s' : St} (h : opP T fn o s = some (true, d, s')) : StepQ P w Fr mu s a o d s' := by
  unfold opP at h
  rw [ho] at h
  dsimp only at h
  unfold put1 at h
  split at h
  case isFalse => cases h
  injection h with h
  injection h with _ h
  injection h with h2 h3
  subst h2; subst h3
  exact ok_move (.inl ho) H
theorem opP_ok (hT : TabOK P T.tb) (H : Rep E w Fr mu s a) {fn : Nat} {o : Oper} {d : Dyn} {s' : St} (h : opP T fn o s = some (true, d, s')) : StepOK P E w Fr mu s a o d s' := by
  have h0 := h
  cases ho : o.op
  case move x => exact (ok_move' H ho h).ok H
  case assign x => exact ok_assign hT H ho h
  case alloc t => exact ok_alloc hT H ho h
  case box t x => exact ok_box H ho h
  case build t ps => exact (ok_build hT H ho h).ok H
  case buildSlice t n ps => exact ok_buildSlice hT H ho h
  case load t x => exact ok_load hT H ho h
  case store t x y => exact ok_store hT H ho h
  case nilCheck x => exact (ok_nilCheck H ho h).ok H
  case binOp op xt x y yt => exact (ok_binOp hT H ho h).ok H
  case unOp op xt x => exact (ok_unOp H ho h).ok H
  case convert src dst x => exact (ok_convert hT H ho h).ok H
  case fieldAddr t x f => exact (ok_fieldAddr hT H ho h).ok H
  case field t x f => exact (ok_field hT H ho h).ok H
  case indexAddr t x y => exact (ok_indexAddr hT H ho h).ok H
  case index t x y => exact (ok_index hT H ho h).ok H
  case makeSlice t x y => exact ok_makeSlice hT H ho h
  case extract x i => exact (ok_extract H ho h).ok H
  case slice t x lo hi mx =>
    cases mx with
    | none => exact ok_slice hT H ho h
    | some mx => exact ok_slice3 hT H ho h
  case makeFunc f first cap =>
    cases f with
    | func f => exact (ok_makeFunc H ho h).ok H
    | _ => unfold opP at h; rw [ho] at h; cases h
  case call c =>
    obtain ⟨callee, args, ats⟩ := c
    unfold opP at h
    rw [ho] at h
    dsimp only at h
    cases callee with
    | builtin b =>
      dsimp only at h
      cases b <;> first
        | exact (ok_len hT H ho h).ok H
        | exact ok_minmax H (.inl rfl) ho h
        | exact ok_minmax H (.inr rfl) ho h
        | exact ok_append hT H ho h
        | (exfalso; unfold builtinP at h; revert h; generalize args.toList.map s.get = l1; generalize ats.toList = l2; intro h; rcases l1 with _ | ⟨p, _ | ⟨q, l⟩⟩ <;> rcases l2 with _ | ⟨t, _ | ⟨u, _ | _⟩⟩ <;> cases h)
    | _ => cases h
  all_goals (unfold opP at h; rw [ho] at h; cases h)
end
end Go.Abs
