/- Rows made, given as literals, and their parts, as the interpreter tells them. No conditions. -/
import Derived.Test.YtobfcaejpcpboaaOps8
import Derived.Laws.MakeOwn
set_option autoImplicit false
set_option linter.unusedVariables false
namespace Go.Abs

section
variable {P : Program} {T : Told} {E : Env} {w : World} {Fr : Nat → Prop} {mu : Nat → Loc} {s : St} {a : Act}

theorem coe0_chain : ∀ (u t : Ty) (x : den t), t.chain = true → (coe0 u t x).t.chain = true := by
  intro u t x
  fun_induction coe0 u t x with
  | case1 => intro h; cases h
  | case2 => intro h; cases h
  | case3 => intro _; rfl
  | case4 => intro h; cases h
  | case5 => exact id
theorem coe0_ok : ∀ (u t : Ty) (x : den t) (l : List Value), t.cel = true → Rp w Fr mu t x l → (coe0 u t x).t.cel = true ∧ Rp w Fr mu (coe0 u t x).t (coe0 u t x).x l := by
  intro u t x
  fun_induction coe0 u t x with
  | case1 t e h x => intro l _ hr; cases hr; exact ⟨rfl, h, none, 0, [], rfl, Nat.le_refl _, rfl, .inl rfl⟩
  | case2 t e x h => intro l _ hr; cases hr; exact ⟨rfl, _, rfl, rfl⟩
  | case3 a b c d x p q ih1 ih2 =>
    rintro l hc ⟨l1, l2, e, r1, r2⟩
    obtain ⟨c1, c2, c3⟩ := Ty.cel_pair hc
    obtain ⟨g1, g2⟩ := ih1 _ c1 r1
    obtain ⟨k1, k2⟩ := ih2 _ c2 r2
    exact ⟨Ty.pair_cel g1 k1 (coe0_chain b d x.2 c3), l1, l2, e, g2, k2⟩
  | case4 => intro l hc; cases hc
  | case5 => intro l hc hr; exact ⟨hc, hr⟩
theorem made_toList {z : Array Value} (hz : 0 < z.size) : ∀ n, (madeCells z (n * z.size)).toList = (List.replicate n z.toList).flatten := by
  intro n
  have key : ∀ n, (List.range (n * z.size)).map (fun j => z[j % z.size]!) = (List.replicate n z.toList).flatten := by
    intro n
    induction n with
    | zero => simp
    | succ n ih =>
      rw [Nat.succ_mul, List.range_add, List.map_append, ih, List.replicate_succ', List.flatten_append]
      congr 1
      simp only [List.flatten_cons, List.flatten_nil, List.append_nil, List.map_map]
      apply List.ext_getElem
      · simp
      · intro k h1 h2
        have hk : k < z.size := by simpa using h2
        simp only [List.getElem_map, List.getElem_range, Function.comp, Nat.mul_add_mod', Nat.mod_eq_of_lt hk, Array.getElem_toList]
        rw [getElem!_pos z k hk]
  rw [← key n]
  simp [madeCells]
theorem ok_makeSlice (hT : TabOK P T.tb) (H : Rep E w Fr mu s a) {fn : Nat} {o : Oper} {t : Nat} {x y : Operand} (ho : o.op = .makeSlice t x y) {d : Dyn} {s' : St} (h : opP T fn o s = some (true, d, s')) : StepOK P E w Fr mu s a o d s' := by
  unfold opP at h
  rw [ho] at h
  dsimp only at h
  split at h
  case h_2 => cases h
  rename_i e i k1 n k2 m hrow hqx hqy
  change Int at n
  change Int at m
  split at h
  case h_2 => cases h
  rename_i z hz
  injection h with h
  injection h with hb h
  injection h with h2 h3
  subst h2; subst h3
  obtain ⟨hb1, hb2⟩ := andB_true hb
  have hnm : m = n := eqI_true hb2
  subst hnm
  have hn : 0 ≤ m ∧ m ≤ 1073741824 := by unfold fitN at hb1; simpa using hb1
  obtain ⟨hu, hg, hsz, hw, hby, he, hza, hzc, _⟩ := rowT_ok hT hrow
  obtain ⟨it, hit, hs1, hb3, hzz⟩ := hg.info
  obtain ⟨zv, hz1, hz2, hz3, hz4⟩ := hzz hza
  have hx := (H.op x).1
  have hy := (H.op y).1
  rw [hqx] at hx
  rw [hqy] at hy
  have hx := VR_int hx
  have hy := VR_int hy
  obtain ⟨hcv, hone⟩ := VR_cells (p := (· < s.heap.length)) H.si.hh (hz4 w Fr mu) hzc hza (hz3 _)
  obtain ⟨_, hzr⟩ := coe0_ok i.ty i.zer.t i.zer.x _ hzc hcv.rp
  rw [as_some hz] at hzr
  have hrun := run_make (P := P) w t e it zv hu hit hz1 k1 k2 m m hn.1 (Int.le_refl _) (by
    rw [hb3]
    have h1 : ((i.byt : Int)) ≤ 131072 := by omega
    have : (i.byt : Int) * m ≤ 131072 * 1073741824 := Int.mul_le_mul h1 hn.2 hn.1 (by omega)
    omega) (by omega)
  have hcells : (madeCells zv.cells (m.toNat * it.size)).toList = (List.replicate m.toNat zv.cells.toList).flatten := by
    rw [hs1, ← hz2]; exact made_toList (by rw [hz2]; exact hsz) m.toNat
  have hrows : rows (fun x l => Rp w Fr mu i.ty x l) (repL i.ty m.toNat z) (madeCells zv.cells (m.toNat * it.size)).toList := by
    rw [hcells]; exact rows_replicate hzr m.toNat
  have hmade : (w.alloc (.cells (madeCells zv.cells (m.toNat * it.size)) e)).ownsRow 0 e i.ty.width (.slice (some ⟨w.heap.size, 0, none⟩) m.toNat m.toNat) (repL i.ty m.toNat z).length (madeCells zv.cells (m.toNat * it.size)).toList := by
    rw [show (repL i.ty m.toNat z).length = m.toNat by simp [repL]]
    exact World.ownsRow_lit w _ m.toNat (Nat.zero_le _) (by rw [maxLen_big]; omega) (by rw [size_madeCells, hs1, hw])
  have hgr : Grow (fun _ => False) w (w.alloc (.cells (madeCells zv.cells (m.toNat * it.size)) e)) := ⟨rfl, rfl, rfl, by simp, fun k hk _ => heap_alloc_old w _ k hk⟩
  refine ⟨_, _, _, Fr, _, ?_, .inl rfl, VR_own (by rw [upd_same]), ?_, new_row (L := ⟨w.heap.size, .slice (some ⟨w.heap.size, 0, none⟩) m.toNat m.toNat⟩) H he hgr rfl (.inr ⟨rfl, hmade⟩) (fun _ => ⟨Nat.le_refl _, by simp⟩) hrows, Kept.new H.si hgr⟩
  · unfold execOp
    simp only [ho, hx, hy, Sem.run_bind, hrun, Result.andThen_ok]; rfl
  · show _ < _; simp [St.new]

/-- A literal's elements. -/
theorem litParts_ok {e : Ty} : ∀ (parts : List (Nat × Operand)) (n : Nat) (s : St) (Fr : Nat → Prop) (l : List (den e)) (s' : St), Rep E w Fr mu s a → litParts e s n parts = some (l, s') →
    ∃ Fr' cells, (∀ b, Fr b → Fr' b) ∧ Rep E w Fr' mu s' a ∧ rows (fun x l => Rp w Fr' mu e x l) l cells ∧ s'.heap.length = s.heap.length ∧ l.length = parts.length ∧ cells = (parts.map fun p => (a.eval p.2).cells.toList).flatten ∧
      (∀ p ∈ parts, (a.eval p.2).cells.toList.length = e.width) ∧ parts.map (·.1) = List.range' n parts.length ∧ (∀ b, Safe Fr mu s.heap b → Safe Fr' mu s'.heap b)
  | [], n, s, Fr, l, s', H, h => by
    unfold litParts at h
    injection h with h
    injection h with h1 h2
    subst h1; subst h2
    exact ⟨Fr, [], fun _ => id, H, rfl, rfl, rfl, rfl, by simp, rfl, fun _ => id⟩
  | (i, x) :: parts, n, s, Fr, l, s', H, h => by
    unfold litParts at h
    split at h
    case isFalse => cases h
    rename_i hc
    split at h
    case h_2 => cases h
    rename_i v s1 hcf
    split at h
    case h_2 => cases h
    rename_i r s2 hlp
    injection h with h
    injection h with h1 h2
    subst h1; subst h2
    obtain ⟨hcv, _⟩ := VR_cells (p := (· < s.heap.length)) H.si.hh (H.op x).1 hc.2.2.1 hc.2.1 (H.op x).2
    obtain ⟨he, hs1, hrv, H1⟩ := coeF_ok H hcf hcv
    obtain ⟨Fr', cells, hF, H2, hr, hlen, hll, hcells, hw, hidx, hsf⟩ := litParts_ok parts (n + 1) s1 _ r s2 H1 hlp
    refine ⟨Fr', (a.eval x).cells.toList ++ cells, fun b hb => hF b (.inl hb), H2, ⟨_, cells, rfl, Rp_keep hF (fun _ _ => rfl) e v _ (e.pure_okN (Ty.elt_pure he)) hrv, hr⟩, ?_, ?_, ?_, ?_, ?_, fun b hb => hsf b (by rw [hs1]; exact (Kept.frz (g := true) (w := w)).safe b hb)⟩
    · rw [hlen, hs1, freeze_len]
    · simp [hll]
    · simp [hcells]
    · intro p hp
      rcases List.mem_cons.1 hp with rfl | hp
      · rw [hcv.len, hc.2.2.2]
      · exact hw p hp
    · simp only [List.map_cons, List.length_cons, List.range'_succ, hidx, hc.1]
theorem fill_lit {size : Nat} : ∀ (vs : List (Nat × Value)) (n : Nat) (cells : Array Value) (A B : List Value), cells.toList = A ++ B → A.length = n * size → B.length = vs.length * size → vs.map (·.1) = List.range' n vs.length → (∀ p ∈ vs, p.2.cells.toList.length = size) →
    ∃ r : Array Value, Instr.fill (fun i => some (i * size, size)) cells vs = some r ∧ r.toList = A ++ (vs.map fun p => p.2.cells.toList).flatten
  | [], n, cells, A, B, e, hA, hB, _, _ => by
    have : B = [] := List.eq_nil_of_length_eq_zero (by simpa using hB)
    exact ⟨cells, rfl, by rw [e, this]; rfl⟩
  | (i, v) :: vs, n, cells, A, B, e, hA, hB, hidx, hs => by
    simp only [List.map_cons, List.length_cons, List.range'_succ] at hidx
    injection hidx with hi hidx
    subst hi
    have hv : v.cells.toList.length = size := hs (i, v) (by simp)
    have hB1 : B = B.take size ++ B.drop size := (List.take_append_drop size B).symm
    have hBl : size ≤ B.length := by rw [hB, List.length_cons, Nat.succ_mul]; omega
    have hput := foldl_put (i * size) cells A (B.take size) (B.drop size) v.cells.toList (by rw [e, ← hB1]) hA (by rw [List.length_take, hv]; omega)
    obtain ⟨r, hr, hr2⟩ := fill_lit vs (i + 1) ((v.cells.toList.zipIdx 0).foldl (fun cs (x : Value × Nat) => cs.setIfInBounds (i * size + x.2) x.1) cells) (A ++ v.cells.toList) (B.drop size)
      (by rw [hput]; simp) (by rw [List.length_append, hA, hv, Nat.succ_mul]) (by rw [List.length_drop, hB, List.length_cons, Nat.succ_mul]; omega) hidx (fun p hp => hs p (List.mem_cons_of_mem _ hp))
    refine ⟨r, ?_, by rw [hr2]; simp⟩
    rw [← hr]
    have hsz : v.cells.size = size := by simpa using hv
    have hfit : ¬ (v.cells.size ≠ size ∨ i * size + v.cells.size > cells.size) := by
      have : cells.size = A.length + B.length := by
        have := congrArg List.length e; simpa using this
      omega
    conv => lhs; unfold Instr.fill
    dsimp only
    rw [if_neg (by simpa using hfit)]
    congr 1
    rw [← Array.foldl_toList, Array.toList_zipIdx]
theorem ok_buildSlice (hT : TabOK P T.tb) (H : Rep E w Fr mu s a) {fn : Nat} {o : Oper} {t n : Nat} {parts : Array (Nat × Operand)} (ho : o.op = .buildSlice t n parts) {d : Dyn} {s' : St} (h : opP T fn o s = some (true, d, s')) : StepOK P E w Fr mu s a o d s' := by
  unfold opP at h
  rw [ho] at h
  dsimp only at h
  split at h
  case h_2 => cases h
  rename_i e i hrow
  split at h
  case h_2 => cases h
  rename_i l s1 hlp
  split at h
  case isFalse => cases h
  rename_i hc
  injection h with h
  injection h with _ h
  injection h with h2 h3
  subst h2; subst h3
  obtain ⟨hu, hg, hsz, hw, hby, he, hza, _, hs4⟩ := rowT_ok hT hrow
  obtain ⟨it, hit, hs1, hb3, hzz⟩ := hg.info
  obtain ⟨zv, hz1, hz2, hz3, hz4⟩ := hzz hza
  obtain ⟨Fr', cells, hF, H2, hr, hlen, hll, hcells, hwid, hidx, hsafe⟩ := litParts_ok parts.toList 0 s Fr l s1 H hlp
  have hpn : parts.toList.length = n := by simpa using hc.1
  have hmk : ((parts.toList.map fun p => (p.1, a.eval p.2)).map fun p => p.2.cells.toList).flatten = cells := by
    rw [hcells, List.map_map]; rfl
  have hrun : ∃ r : Array Value, (Instr.buildSlice t n (parts.map fun (i, x) => (i, a.eval x))).run P w = .ok (.slice (some ⟨w.heap.size, 0, none⟩) n n) (w.alloc (.cells r e)) ∧ r.toList = cells := by
    by_cases hn : n = 0
    · have hp0 : parts.toList = [] := List.eq_nil_of_length_eq_zero (by rw [hpn, hn])
      have hp0' : parts = #[] := by apply Array.ext'; simpa using hp0
      subst hp0'
      subst hn
      refine ⟨(Array.range 0).map (fun _ => default), ?_, by rw [hcells]; simp⟩
      simp [Instr.buildSlice, run_underlying hu, sizeOf, typeInfo, hit, Instr.fill, newRow]
    · have hmul : n * it.size ≤ 16777216 := by
        have h1 : n ≤ 1000 := hc.2
        have := Nat.mul_le_mul h1 hs4
        rw [hs1]; omega
      obtain ⟨r, hr1, hr2⟩ := fill_lit (size := it.size) (parts.toList.map fun p => (p.1, a.eval p.2)) 0 ((Array.range (n * it.size)).map (zv.cells[· % zv.cells.size]!)) [] ((Array.range (n * it.size)).map (zv.cells[· % zv.cells.size]!)).toList rfl (by simp) (by simp; rw [← hpn]; simp) (by simpa [List.map_map, Function.comp_def] using hidx) (by
        intro p hp
        obtain ⟨q, hq, rfl⟩ := List.mem_map.1 hp
        rw [hwid q hq, hw, hs1])
      rw [hmk, List.nil_append] at hr2
      refine ⟨r, ?_, hr2⟩
      have hpos : ¬ n * it.size = 0 := by
        have : 0 < n * it.size := Nat.mul_pos (by omega) (by rw [hs1]; exact hsz)
        omega
      refine run_buildSlice w t e n _ r it zv hu hit hz1 (by omega) hpos ?_
      rw [← hr1]; congr 1; simp
  obtain ⟨r, hr1, hr2⟩ := hrun
  have hlen2 : l.length = n := by rw [hll, hpn]
  have hcl : cells.length = n * i.ty.width := by rw [rows_len (fun x l h => Rp_len i.ty x l (Ty.elt_cel he) h) hr, hlen2]
  have hmade : (w.alloc (.cells r e)).ownsRow 0 e i.ty.width (.slice (some ⟨w.heap.size, 0, none⟩) n n) l.length cells := by
    rw [hlen2, ← hr2]
    exact World.ownsRow_lit w _ n (Nat.zero_le _) (by have : n ≤ 1000 := hc.2; rw [maxLen_big]; omega) (by rw [← hcl, ← hr2]; simp)
  have hgr : Grow (fun _ => False) w (w.alloc (.cells r e)) := ⟨rfl, rfl, rfl, by simp, fun k hk _ => heap_alloc_old w _ k hk⟩
  refine ⟨_, _, _, Fr', _, ?_, .inl rfl, VR_own (by rw [upd_same]), ?_, new_row (L := ⟨w.heap.size, .slice (some ⟨w.heap.size, 0, none⟩) n n⟩) H2 he hgr rfl (.inr ⟨rfl, hmade⟩) (fun _ => ⟨Nat.le_refl _, by simp⟩) hr, Kept.trans ⟨hsafe, fun _ _ _ => rfl⟩ (Kept.new H2.si hgr)⟩
  · unfold execOp
    simp only [ho, Sem.run_bind, hr1, Result.andThen_ok]; rfl
  · show _ < _; simp [St.new]
end
end Go.Abs
