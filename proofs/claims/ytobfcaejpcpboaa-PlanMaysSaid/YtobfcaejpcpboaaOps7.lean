/- Places of lists, texts, functions, lengths, as the interpreter tells them. No conditions. -/
import Derived.Test.YtobfcaejpcpboaaOps6
set_option autoImplicit false
set_option linter.unusedVariables false
namespace Go.Abs

section
variable {P : Program} {T : Told} {E : Env} {w : World} {Fr : Nat → Prop} {mu : Nat → Loc} {s : St} {a : Act}

theorem andB_true {a b : Bool} (h : andB a b = true) : a = true ∧ b = true := by
  unfold andB at h; simpa using h
theorem leI_true {a b : Int} (h : leI a b = true) : a ≤ b := by unfold leI at h; simpa using h
theorem ltI_true {a b : Int} (h : ltI a b = true) : a < b := by unfold ltI at h; simpa using h
theorem eqI_true {a b : Int} (h : eqI a b = true) : a = b := by unfold eqI at h; simpa using h
theorem addr_add (b o n : Nat) : (⟨b, o, none⟩ : Addr).add n = ⟨b, o + n, none⟩ := by unfold Addr.add; split <;> simp_all
theorem run_indexSlice {t e : Nat} {ti : TI} (hu : P.underlying t = some (.slice e)) (hg : Good P e ti) {b o len cap : Nat} {k : IntKind} {n : Int} (h0 : 0 ≤ n) (h1 : n < len) :
    (Instr.indexAt t (.slice (some ⟨b, o, none⟩) len cap) (.int k n)).run P w = .ok (.pointer (some ⟨b, o + n.toNat * ti.siz, none⟩)) w := by
  have hc : (0 ≤ n ∧ n < (len : Int)) := ⟨h0, h1⟩
  simp [Instr.indexAt, asIntOf, run_underlying hu, hc, hg.size w, addr_add]
theorem ok_indexAddr (hT : TabOK P T.tb) (H : Rep E w Fr mu s a) {fn : Nat} {o : Oper} {t : Nat} {x y : Operand} (ho : o.op = .indexAddr t x y) {d : Dyn} {s' : St} (h : opP T fn o s = some (true, d, s')) : StepQ P w Fr mu s a o d s' := by
  unfold opP at h
  rw [ho] at h
  dsimp only at h
  have hx := (H.op x).1
  have hxn := (H.op x).2
  have hy := (H.op y).1
  split at h
  case h_2 => cases h
  rename_i k n hqy
  change Int at n
  rw [hqy] at hy
  have hy := VR_int hy
  have key : ∀ v, (∀ w' : World, (Instr.indexAt t (a.eval x) (.int k n)).run P w' = .ok v w') → ∀ w' : World, (execOp a.eval o).run P w' = .ok (.value v) w' := by
    intro v e w'
    have e := e w'
    unfold execOp
    simp only [ho, hy, Sem.run_bind, e, Result.andThen_ok]; rfl
  split at h
  · rename_i e eqs siz byt zer ty hti
    have hu := (hT _ _ hti).und
    split at h
    case h_2 => cases h
    rename_i ti hti'
    split at h
    · rename_i u l hq
      split at h
      case isFalse => cases h
      rename_i hc
      injection h with h
      injection h with hb h
      injection h with h2 h3
      subst h2; subst h3
      obtain ⟨hb1, hb2⟩ := andB_true hb
      have h0 := leI_true hb1
      have h1 : n < (l.length : Int) := ltI_true hb2
      rw [hq] at hx
      obtain ⟨he, ad, c, cells, e1, hlen, hr, hat⟩ := hx
      injection e1 with e1
      rcases hat with hnil | ⟨b, off, rfl, hF, hat⟩
      · have hnil : (l : List (den u)) = [] := hnil
        rw [hnil] at h1; simp at h1; omega
      have hxn : l[n.toNat]? = some (ixL u l n) := by
        unfold ixL
        rw [List.getD_eq_getElem?_getD, List.getElem?_eq_getElem (by omega)]; rfl
      obtain ⟨cc, hcc, hcl, A, B, ec, hA⟩ := rows_get (n := u.width) (fun x l h => Rp_len u x l (Ty.elt_cel he) h) hr hxn
      rw [ec] at hat
      have hat := hat.right.left
      rw [hA] at hat
      refine .mk (v := .pointer (some ⟨b, off + n.toNat * ti.siz, none⟩)) (key _ fun w' => ?_) ?_ ?_
      · rw [e1]
        exact run_indexSlice hu (hT _ _ hti') h0 h1
      · exact ⟨he, b, off + n.toNat * u.width, cc, by rw [hc.1]; rfl, hF, hcc, hat⟩
      · trivial
    · rename_i u i _ hq
      split at h
      case h_2 => cases h
      rename_i l hl
      split at h
      case isFalse => cases h
      rename_i hc
      injection h with h
      injection h with hb h
      injection h with h2 h3
      subst h2; subst h3
      obtain ⟨hb1, hb2⟩ := andB_true hb
      have h0 := leI_true hb1
      have h1 : n < (l.length : Int) := ltI_true hb2
      rw [hq] at hx hxn
      injection (show [a.eval x] = [_] from hx) with hx
      obtain ⟨e0, f0, ho0⟩ := rowOf_some hl
      obtain ⟨he, cells, hr, hcs⟩ := row_cells (H.si.obj i _ ho0)
      rcases hcs with ⟨_, _, hnil⟩ | ⟨cap, cur, hh, hn, hm, hocc, hcell, hsz, htk, hat⟩
      · rw [hnil] at h1; simp at h1; omega
      refine .mk (v := .pointer (some ⟨(mu i).loc, 0 + n.toNat * ti.siz, none⟩)) (key _ fun w' => ?_) ?_ hxn
      · rw [hx, hh]
        exact run_indexSlice hu (hT _ _ hti') h0 h1
      · exact ⟨(mu i).loc, l.length, cap, hh, h0, h1, by rw [hc.1, Nat.zero_add]; rfl⟩
    · cases h
  · rename_i m e eqs siz byt zer ty hti
    have hu := (hT _ _ hti).und
    split at h
    case h_2 => cases h
    rename_i ti hti'
    split at h
    case h_2 => cases h
    rename_i i off _ hq
    split at h
    case h_2 => cases h
    rename_i v yb hob
    split at h
    case h_2 => cases h
    rename_i m' u l hcomp
    split at h
    case isFalse => cases h
    rename_i hc
    obtain ⟨rfl, hw, hz, hm1⟩ := hc
    injection h with h
    injection h with hb h
    injection h with h2 h3
    subst h2; subst h3
    obtain ⟨hb1, hb2⟩ := andB_true hb
    have h0 := leI_true hb1
    have h1 : n < (m' : Int) := ltI_true hb2
    rw [hq] at hx hxn
    injection (show [a.eval x] = [_] from hx) with hx
    refine .mk (v := .pointer (some ⟨(mu i).loc, off + n.toNat * ti.siz, none⟩)) (key _ fun w' => ?_) ?_ hxn
    · rw [hx]
      have hcc : (0 ≤ n ∧ n < (m' : Int)) := ⟨h0, h1⟩
      have hu : P.underlying t = some (.array m' e) := hu
      simp [Instr.indexAt, asIntOf, run_underlying hu, hcc, (hT _ _ hti').size w', addr_add, Instr.sureAddr]
    · exact ⟨⟨h0, h1⟩, by rw [hw]; rfl⟩
  · cases h
theorem ok_index (hT : TabOK P T.tb) (H : Rep E w Fr mu s a) {fn : Nat} {o : Oper} {t : Nat} {x y : Operand} (ho : o.op = .index t x y) {d : Dyn} {s' : St} (h : opP T fn o s = some (true, d, s')) : StepQ P w Fr mu s a o d s' := by
  unfold opP at h
  rw [ho] at h
  dsimp only at h
  have hx := (H.op x).1
  have hy := (H.op y).1
  split at h
  case h_2 => cases h
  rename_i k n hqy
  change Int at n
  rw [hqy] at hy
  have hy := VR_int hy
  split at h
  case h_2 => cases h
  rename_i b hti hq
  injection h with h
  injection h with hb h
  injection h with h2 h3
  subst h2; subst h3
  obtain ⟨hb1, hb2⟩ := andB_true hb
  have h0 := leI_true hb1
  have h1 : n < (b.size : Int) := ltI_true hb2
  rw [hq] at hx
  have hx := VR_str hx
  have hu := (hT _ _ hti).und
  dsimp only at hu
  have hlt : n.toNat < b.size := by omega
  have hg : b[n.toNat]? = some (b.get! n.toNat) := by
    rw [getElem?_pos b n.toNat hlt]
    congr 1
    show b.data[n.toNat] = b.data[n.toNat]!
    rw [getElem!_pos]
  refine .mk (v := .int .u8 (b.get! n.toNat).toNat) (fun w' => ?_) rfl trivial
  unfold execOp
  simp [ho, hx, hy, Instr.index, asIntOf, run_underlying hu, h0, hg]
/-- The things of a tuple. -/
theorem tup_get {t : Ty} {x : den t} {vs : List Value} {a b : Ty} {y : den (.tcons a b)} (h : Rp w Fr mu (.tcons a b) y vs) (ha : a.alive = true) : ∃ u us, vs = u :: us ∧ VR w Fr mu ⟨a, y.1⟩ u ∧ Rp w Fr mu b y.2 us := by
  obtain ⟨u, us, e, h1, h2⟩ := h
  refine ⟨u, us, e, ?_, h2⟩
  unfold VR
  show (match a.vk with | .dead => _ | .agg => _ | .tup => _ | .one => _)
  revert h1
  cases a.vk
  case dead => exact id
  case tup => exact False.elim
  case one => exact id
  case agg => exact id
theorem ok_extract (H : Rep E w Fr mu s a) {fn : Nat} {o : Oper} {x : Operand} {i : Nat} (ho : o.op = .extract x i) {d : Dyn} {s' : St} (h : opP T fn o s = some (true, d, s')) : StepQ P w Fr mu s a o d s' := by
  unfold opP at h
  rw [ho] at h
  dsimp only at h
  have hx := (H.op x).1
  have hxn := (H.op x).2
  split at h
  case h_2 => cases h
  rename_i ta tb y hq
  rw [hq] at hx hxn
  obtain ⟨vs, e, hr⟩ := hx
  have key : ∀ v, vs[i]? = some v → ∀ w' : World, (execOp a.eval o).run P w' = .ok (.value v) w' := by
    intro v hv w'
    unfold execOp
    simp [ho, e, Instr.extract, hv]
  have p1 : ∀ {d d' : Dyn} {s s' : St}, put1 d s = some (true, d', s') → d.t.alive = true ∧ d' = d ∧ s' = s := by
    intro d d' s s' h
    unfold put1 at h
    split at h
    · rename_i ha
      injection h with h
      injection h with _ h
      injection h with h2 h3
      exact ⟨ha, h2.symm, h3.symm⟩
    · cases h
  split at h
  · obtain ⟨ha, rfl, rfl⟩ := p1 h
    obtain ⟨u, us, rfl, h1, _⟩ := tup_get (t := .unit) (x := ()) hr ha
    exact .mk (key u rfl) h1 hxn.1
  · obtain ⟨u0, us0, rfl, _, hr⟩ := hr
    split at h
    case h_2 => cases h
    obtain ⟨ha, rfl, rfl⟩ := p1 h
    obtain ⟨u, us, rfl, h1, _⟩ := tup_get (t := .unit) (x := ()) hr ha
    exact .mk (key u rfl) h1 hxn.2.1
  · obtain ⟨u0, us0, rfl, _, hr⟩ := hr
    split at h
    case h_2 => cases h
    obtain ⟨ha, rfl, rfl⟩ := p1 h
    obtain ⟨u1, us1, rfl, _, hr⟩ := hr
    obtain ⟨u, us, rfl, h1, _⟩ := tup_get (t := .unit) (x := ()) hr ha
    exact .mk (key u rfl) h1 hxn.2.2.1
  · obtain ⟨u0, us0, rfl, _, hr⟩ := hr
    split at h
    case h_2 => cases h
    obtain ⟨ha, rfl, rfl⟩ := p1 h
    obtain ⟨u1, us1, rfl, _, hr⟩ := hr
    obtain ⟨u2, us2, rfl, _, hr⟩ := hr
    obtain ⟨u, us, rfl, h1, _⟩ := tup_get (t := .unit) (x := ()) hr ha
    exact .mk (key u rfl) h1 hxn.2.2.2.1
  · cases h
theorem vk_tup_cel {t : Ty} (h : t.vk = .tup) : t.cel = false := by
  cases t <;> first | rfl | cases h
/-- Captured values, as a chain. -/
theorem capt_ok (H : Rep E w Fr mu s a) : ∀ (l : List Operand), (l.map s.get).all (fun d => d.t.alive && d.t.cel) = true →
    Rp w Fr mu ((l.map s.get).foldr (fun d r => (⟨.tcons d.t r.t, (d.x, r.x)⟩ : Dyn)) ⟨.tnil, ()⟩).t ((l.map s.get).foldr (fun d r => (⟨.tcons d.t r.t, (d.x, r.x)⟩ : Dyn)) ⟨.tnil, ()⟩).x (l.map a.eval) ∧
    ((l.map s.get).foldr (fun d r => (⟨.tcons d.t r.t, (d.x, r.x)⟩ : Dyn)) ⟨.tnil, ()⟩).t.okN (· < s.heap.length)
  | [], _ => ⟨rfl, trivial⟩
  | x :: l, hc => by
    simp only [List.map_cons, List.all_cons, Bool.and_eq_true] at hc
    obtain ⟨h1, h2⟩ := capt_ok H l hc.2
    refine ⟨⟨a.eval x, l.map a.eval, rfl, ?_, h1⟩, (H.op x).2, h2⟩
    have hx := (H.op x).1
    have hcel := hc.1.2
    unfold VR at hx
    show (match (s.get x).t.vk with | .dead => _ | .agg => _ | .tup => _ | .one => _)
    revert hx hcel
    cases hk : (s.get x).t.vk
    case dead => exact fun _ _ => trivial
    case agg => exact fun h _ => h
    case one => exact fun h _ => h
    case tup =>
      intro _ hcel
      rw [vk_tup_cel hk] at hcel
      cases hcel
theorem ok_makeFunc (H : Rep E w Fr mu s a) {fn : Nat} {o : Oper} {f : Nat} {first cap : Array Operand} (ho : o.op = .makeFunc (.func f) first cap) {d : Dyn} {s' : St} (h : opP T fn o s = some (true, d, s')) : StepQ P w Fr mu s a o d s' := by
  unfold opP at h
  rw [ho] at h
  dsimp only at h
  split at h
  case isFalse => cases h
  rename_i hf
  split at h
  case isFalse => cases h
  rename_i hc
  injection h with h
  injection h with _ h
  injection h with h2 h3
  subst h2; subst h3
  obtain ⟨h1, h2⟩ := capt_ok H cap.toList hc
  refine .mk (v := .func (.func f) #[] (cap.map a.eval)) (fun w' => ?_) ?_ h2
  · have : first.map a.eval = #[] := by
      apply Array.eq_empty_of_size_eq_zero; simp [hf]
    unfold execOp
    simp [ho, Instr.makeFunc, this]
  · exact ⟨cap.toList.map a.eval, by rw [← Array.toList_map, Array.toArray_toList], h1⟩
theorem lenD_ok (H : Rep E w Fr mu s a) {d : Dyn} {n : Nat} (h : lenD s d = some n) {v : Value} (hv : VR w Fr mu d v) : (d.t ≠ .str ∧ ∃ ad c, v = .slice ad n c ∧ (n ≠ 0 → ad.isNone = false)) ∨ (d.t = .str ∧ ∃ b, v = .string b ∧ n = b.size) := by
  unfold lenD at h
  split at h
  · injection h with h; subst h
    injection (show [v] = [_] from hv) with hv
    exact .inl ⟨by simp, _, _, hv, fun h => absurd rfl h⟩
  · injection h with h; subst h
    obtain ⟨he, ad, c, cells, e, _, _, hor⟩ := hv
    injection e with e
    refine .inl ⟨by simp, _, _, e, fun hn => ?_⟩
    rcases hor with h0 | ⟨b, o, e, _⟩
    · exact absurd (show lenL _ _ = 0 from congrArg List.length h0) hn
    · rw [e]; rfl
  · split at h
    · rename_i l hl
      injection h with h; subst h
      injection (show [v] = [_] from hv) with hv
      obtain ⟨e0, f0, ho0⟩ := rowOf_some hl
      obtain ⟨he, cells, hr, hcs⟩ := row_cells (H.si.obj _ _ ho0)
      rcases hcs with ⟨ad, h0, hnil⟩ | ⟨cap, cur, hh, _⟩
      · rw [h0] at hv
        refine .inl ⟨by simp, ad, 0, by rw [hv]; unfold lenL; rw [show (l : List _) = [] from hnil]; rfl, fun hn => ?_⟩
        exact absurd (by unfold lenL; rw [show (l : List _) = [] from hnil]; rfl) hn
      · rw [hh] at hv
        exact .inl ⟨by simp, _, _, hv, fun _ => rfl⟩
    · cases h
  · injection h with h; subst h
    exact .inr ⟨rfl, _, VR_str hv, rfl⟩
  · cases h
theorem ok_len (hT : TabOK P T.tb) (H : Rep E w Fr mu s a) {o : Oper} {xs : Array Operand} {ats : Array Nat} (ho : o.op = .call ⟨.builtin .len, xs, ats⟩) {d : Dyn} {s' : St} (h : builtinP T .len (xs.toList.map s.get) ats.toList s = some (true, d, s')) : StepQ P w Fr mu s a o d s' := by
  obtain ⟨xl⟩ := xs
  obtain ⟨al⟩ := ats
  unfold builtinP at h
  match xl, al, h with
  | [x], t :: ts, h =>
    dsimp only [List.map] at h
    have hx := (H.op x).1
    split at h
    case h_2 => cases h
    rename_i n hn
    have hv := lenD_ok H hn hx
    have key : ∀ r, (∀ w' : World, (Builtin.len_ (t :: ts).toArray o.type #[a.eval x]).run P w' = .ok r w') → ∀ w' : World, (execOp a.eval o).run P w' = .ok (.value r) w' := by
      intro r e w'
      have e := e w'
      unfold execOp
      simp only [ho, resolve, invoke, builtin, Sem.run_bind, Sem.run_pure, Result.andThen_ok, List.map_toArray, List.map_cons, List.map_nil, e]
    split at h
    · rename_i hti
      split at h
      · cases h
      rename_i hns
      injection h with h
      injection h with _ h
      injection h with h2 h3
      subst h2; subst h3
      have hu := (hT _ _ hti).und
      dsimp only at hu
      refine .mk (v := .int .i64 n) (key _ fun w' => ?_) rfl trivial
      rcases hv with ⟨_, ad, c, e, _⟩ | ⟨hs, b, e, e'⟩
      · simp [Builtin.len_, run_underlying hu, e, goInt]
      · exact absurd hs hns
    · rename_i hti
      split at h
      case isFalse => cases h
      rename_i hs
      injection h with h
      injection h with _ h
      injection h with h2 h3
      subst h2; subst h3
      have hu := (hT _ _ hti).und
      dsimp only at hu
      refine .mk (v := .int .i64 n) (key _ fun w' => ?_) rfl trivial
      rcases hv with ⟨hns, ad, c, e⟩ | ⟨_, b, e, e'⟩
      · exact absurd hs hns
      · simp [Builtin.len_, run_underlying hu, e, goInt, e']
    · cases h
  | [], _, h => cases h
  | _ :: _ :: _, _, h => cases h
  | [x], [], h => cases h
theorem minD_some {mx : Bool} {l : List Dyn} {d : Dyn} (h : minD mx l = some d) : ∃ k p q, l = [⟨.int k, p⟩, ⟨.int k, q⟩] ∧ d = ⟨.int k, if mx then maxI p q else minI p q⟩ := by
  unfold minD at h
  split at h
  · rename_i k p j q
    split at h
    · rename_i hk
      subst hk
      injection h with h
      exact ⟨k, p, q, rfl, h.symm⟩
    · cases h
  · cases h
theorem map_two {l : List Operand} {p q : Dyn} (h : l.map s.get = [p, q]) : ∃ x y, l = [x, y] ∧ s.get x = p ∧ s.get y = q := by
  match l, h with
  | [x, y], h => injection h with h1 h2; injection h2 with h2 _; exact ⟨x, y, rfl, h1, h2⟩
theorem ok_minmax (H : Rep E w Fr mu s a) {o : Oper} {xs : Array Operand} {ats : Array Nat} {b : Builtin} (hb : b = .min ∨ b = .max) (ho : o.op = .call ⟨.builtin b, xs, ats⟩) {d : Dyn} {s' : St} (h : builtinP T b (xs.toList.map s.get) ats.toList s = some (true, d, s')) : StepOK P E w Fr mu s a o d s' := by
  have hm : ∃ d', minD (b == .max) (xs.toList.map s.get) = some d' ∧ d = d' ∧ s' = s := by
    unfold builtinP at h
    rcases hb with rfl | rfl
    · dsimp only at h
      split at h
      · rename_i d' hd
        injection h with h
        injection h with _ h
        injection h with h2 h3
        exact ⟨d', hd, h2.symm, h3.symm⟩
      · cases h
    · dsimp only at h
      split at h
      · rename_i d' hd
        injection h with h
        injection h with _ h
        injection h with h2 h3
        exact ⟨d', hd, h2.symm, h3.symm⟩
      · cases h
  obtain ⟨d', hd, rfl, rfl⟩ := hm
  obtain ⟨k, p, q, hl, rfl⟩ := minD_some hd
  obtain ⟨x, y, hxy, hx, hy⟩ := map_two hl
  have hxv := (H.op x).1
  have hyv := (H.op y).1
  rw [hx] at hxv
  rw [hy] at hyv
  have hxv := VR_int hxv
  have hyv := VR_int hyv
  have hxs : xs = #[x, y] := by apply Array.ext'; simpa using hxy
  rcases hb with rfl | rfl
  · refine .pure H (v := .int k (minI p q)) ?_ rfl trivial
    unfold execOp
    simp only [ho, hxs, resolve, invoke, builtin, Sem.run_bind, Sem.run_pure, Result.andThen_ok, List.map_toArray, List.map_cons, List.map_nil, Builtin.min_, hxv, hyv, List.foldlM, Builtin.min2]
    rfl
  · refine .pure H (v := .int k (maxI p q)) ?_ rfl trivial
    unfold execOp
    simp only [ho, hxs, resolve, invoke, builtin, Sem.run_bind, Sem.run_pure, Result.andThen_ok, List.map_toArray, List.map_cons, List.map_nil, Builtin.max_, hxv, hyv, List.foldlM, Builtin.max2]
    rfl
end
end Go.Abs
