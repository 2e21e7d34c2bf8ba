/- A function's code, as the interpreter tells it. No conditions. -/
import Derived.Test.YtobfcaejpcpboaaCall
import Derived.Test.YtobfcaejpcpboaaOrd
set_option autoImplicit false
set_option linter.unusedVariables false
namespace Go.Abs

section
variable {P : Program} {T : Told} {C : AbsFn} {E : Env} {w : World} {Fr : Nat → Prop} {mu : Nat → Loc} {s : St} {a : Act} {R : Type} {r : R}

theorem br_some {b : Bool} {x y : Option R} (h : br b x y = some r) : (b = true ∧ x = some r) ∨ (b = false ∧ y = some r) := by
  cases b
  · exact .inr ⟨rfl, h⟩
  · exact .inl ⟨rfl, h⟩
theorem br_none {b : Bool} {x : Option R} (h : br b x none = some r) : b = true ∧ x = some r := by
  rcases br_some h with h | ⟨_, h⟩
  · exact h
  · cases h
theorem capD_ok : ∀ (t : Ty) (x : den t) (vs : List Value) (ds : List Dyn) (p : Nat → Prop), capD t x = some ds → Rp w Fr mu t x vs → t.okN p →
    ds.length = vs.length ∧ ∀ (i : Nat) (d : Dyn) (v : Value), ds[i]? = some d → vs[i]? = some v → VR w Fr mu d v ∧ d.t.okN p
  | .tnil, _, vs, ds, p, h, hr, _ => by
    injection h with h
    subst h
    cases hr
    exact ⟨rfl, fun i d v hd => by simp at hd⟩
  | .tcons a b, x, vs, ds, p, h, hr, hn => by
    unfold capD at h
    split at h
    case h_2 => cases h
    rename_i l hl
    injection h with h
    subst h
    obtain ⟨u, us, rfl, h1, h2⟩ := hr
    obtain ⟨g1, g2⟩ := capD_ok b x.2 us l p hl h2 hn.2
    refine ⟨by simp [g1], fun i d v hd hv => ?_⟩
    cases i with
    | zero =>
      simp at hd hv
      subst hd; subst hv
      refine ⟨?_, hn.1⟩
      unfold VR
      show (match a.vk with | .dead => _ | .agg => _ | .tup => _ | .one => _)
      revert h1
      cases a.vk
      case dead => exact id
      case tup => exact False.elim
      case one => exact id
      case agg => exact id
    | succ i => exact g2 i d v (by simpa using hd) (by simpa using hv)
theorem run_enter {f : Nat} (he : Enters P f) (args : Array Value) : (callFunc f args).run P w = .ok (.enter f args) w := by
  obtain ⟨fn, h1, h2, h3⟩ := he
  have h4 : fn.body ≠ none := by intro hb; rw [hb] at h2; cases h2
  unfold callFunc
  simp [h1, h3, h4]
theorem heap_put (s : St) (t : Option Tmp) (d : Dyn) : (s.put t d).heap = s.heap := by
  unfold St.put
  cases t <;> (try split) <;> rfl
theorem Kept.imp {g g' : Bool} {h h' : List AObj} {w' : World} {Fr' : Nat → Prop} {mu' : Nat → Loc} (k : Kept g w Fr mu h w' Fr' mu' h') (hg : g' = true → g = true) : Kept g' w Fr mu h w' Fr' mu' h' := ⟨k.safe, fun h => k.same (hg h)⟩
theorem growOp_store {o : Oper} (h : growOp T s o = true) : (!isStore o.op) = true := by
  unfold growOp at h
  cases ho : o.op
  case store => rw [ho] at h; cases h
  all_goals rfl
theorem growOp_same {o : Oper} {s' : St} (hg : ∀ x, s'.get x = s.get x) (hh : s'.heap = s.heap) : growOp T s o = growOp T s' o := by
  have hm : ∀ l : List Operand, l.map s'.get = l.map s.get := fun l => List.map_congr_left fun x _ => hg x
  unfold growOp plainCall
  simp only [hg, hh, hm]
theorem getT_putT (t : Nat) (v : Dyn) (u : Nat) : ∀ (l : List (Nat × Dyn)), getT (putT l t v) u = if u = t then v else getT l u
  | [] => by
    unfold putT getT
    by_cases h : t = u
    · subst h; simp
    · rw [if_neg h, if_neg (Ne.symm h)]; rfl
  | (k, d) :: l => by
    unfold putT
    split
    · by_cases h : t = u
      · subst h
        rw [if_pos rfl, getT, if_pos rfl]
      · rw [getT, if_neg h, if_neg (Ne.symm h)]
    · split
      · rename_i hk
        subst hk
        by_cases h : k = u
        · subst h
          rw [if_pos rfl, getT, if_pos rfl]
        · rw [getT, if_neg h, if_neg (Ne.symm h), getT, if_neg h]
      · rename_i hk
        rw [getT, getT, getT_putT t v u l]
        by_cases h : k = u
        · subst h
          rw [if_pos rfl, if_pos rfl, if_neg hk]
        · rw [if_neg h, if_neg h]
theorem get_same {t : Nat} {d : Dyn} (h : getT s.tmps t = d) (x : Operand) : (⟨putT s.tmps t d, s.heap⟩ : St).get x = s.get x := by
  cases x with
  | tmp u =>
    show getT (putT s.tmps t d) u = getT s.tmps u
    rw [getT_putT]
    split
    · rename_i e; rw [e, h]
    · rfl
  | _ => rfl
theorem both_some {x y : Option R} (h : both x y = some r) : x = some r ∧ y = some r := by
  unfold both at h
  split at h
  · rename_i e; exact ⟨h, e ▸ h⟩
  · cases h
theorem equalIn_slice_nil {t e : TypeId} {ad : Option Addr} {l c : Nat} (h : P.underlying t = some (.slice e)) {w : World} (d : Nat) : (Op.equalIn (d + 1) t (.slice ad l c) (.slice none 0 0)).run P w = .ok ad.isNone w := by
  cases ad <;> simp [Op.equalIn, run_underlying h]
theorem binOp_slice_nil {t e : TypeId} {ad : Option Addr} {l c : Nat} (h : P.underlying t = some (.slice e)) {w : World} : (binOp .eql t (.slice ad l c) (.slice none 0 0)).run P w = .ok (.bool ad.isNone) w := by
  have h1 : (Op.equal t (.slice ad l c) (.slice none 0 0)).run P w = .ok ad.isNone w := equalIn_slice_nil h 9999
  simp only [binOp]
  simp [h1]
theorem binOp_slice_nil' {t e : TypeId} {ad : Option Addr} {l c : Nat} (h : P.underlying t = some (.slice e)) {w : World} : (binOp .neq t (.slice ad l c) (.slice none 0 0)).run P w = .ok (.bool (!ad.isNone)) w := by
  have h1 : (Op.equal t (.slice ad l c) (.slice none 0 0)).run P w = .ok ad.isNone w := equalIn_slice_nil h 9999
  simp only [binOp]
  simp [h1]
/-- A slice against nil. -/
theorem nil_ok (hT : TabOK P T.tb) (H : Rep E w Fr mu s a) {o : Oper} {e z : Bool} (h : nilD T s o = some (e, z)) :
    (∃ op t x y u, o.op = .binOp op t x y u) ∧ ∃ v : Bool, (z = false → v = !e) ∧ ∀ w' : World, (execOp a.eval o).run P w' = .ok (.value (.bool v)) w' := by
  unfold nilD at h
  split at h
  all_goals try cases h
  all_goals
    rename_i t x u ho
    split at h
    case h_2 => cases h
    rename_i hti
    split at h
    case isTrue => cases h
    rename_i hns
    split at h
    case h_2 => cases h
    rename_i n hn
    injection h with h
    injection h with h1 h2
    subst h1
    have hu := (hT _ _ hti).und
    dsimp only at hu
    rcases lenD_ok H hn (H.op x).1 with ⟨_, ad, c, hv, hz⟩ | ⟨hs, _⟩
    case inr => exact absurd hs hns
    refine ⟨⟨_, _, _, _, _, ho⟩, ?_⟩
    have hy : a.eval (.const (.slice none 0 0)) = .slice none 0 0 := rfl
    have hzz : z = false → ad.isNone = false := by
      intro h0
      refine hz ?_
      intro hn0
      subst hn0
      subst h2
      cases h0
  · refine ⟨ad.isNone, fun h0 => hzz h0, fun w' => ?_⟩
    unfold execOp
    simp only [ho, hv, hy, Sem.run_bind, Sem.run_pure, eqGuard_plain (P := P) (w := w') (op := .eql) (t := t) (x := x) (y := .const (.slice none 0 0)) (v := .slice ad n c) (v' := .slice none 0 0) (by simp) (by simp), Result.andThen_ok, binOp_slice_nil hu]
  · refine ⟨!ad.isNone, fun h0 => by rw [hzz h0], fun w' => ?_⟩
    unfold execOp
    simp only [ho, hv, hy, Sem.run_bind, Sem.run_pure, eqGuard_plain (P := P) (w := w') (op := .neq) (t := t) (x := x) (y := .const (.slice none 0 0)) (v := .slice ad n c) (v' := .slice none 0 0) (by simp) (by simp), Result.andThen_ok, binOp_slice_nil' hu]
/-- An operation, as the interpreter tells it. -/
theorem opD_ok (hT : TabOK P T.tb) (hC : Sound P C) (H : Rep E w Fr mu s a) {fn : Nat} {o : Oper} {K : Dyn → St → Option R} (h : opD T C fn o s K = some r) {next : Act → World → Prop} {Q : Exit → Act → World → Prop}
    (hK : ∀ d s' v w' Fr' mu', K d s' = some r → VR w' Fr' mu' d v → d.t.okN (· < s'.heap.length) → Rep E w' Fr' mu' s' a → Kept (growOp T s o) w Fr mu s.heap w' Fr' mu' s'.heap → next (a.put o.dst v) w') : o.wp P a w next Q := by
  have plain : ∀ {d : Dyn} {s' : St}, StepOK P E w Fr mu s a o d s' → K d s' = some r → o.wp P a w next Q := by
    rintro d s' ⟨n, v, w', Fr', mu', hr, hn, hv, hok, H', hkept⟩ hk
    unfold Oper.wp
    rw [hr]
    rcases hn with rfl | ⟨rfl, rfl⟩
    · exact hK d s' v w' Fr' mu' hk hv hok H' (hkept.imp growOp_store)
    · exact hK d s' undef w' Fr' mu' hk hv hok H' (hkept.imp growOp_store)
  unfold opD at h
  split at h
  · rename_i c x y ho
    split at h
    case h_2 => cases h
    rename_i p hq
    have hc := (H.op c).1
    rw [hq] at hc
    have hc := VR_bool hc
    have hrun : (execOp a.eval o).run P w = .ok (.value (if p then a.eval x else a.eval y)) w := by
      unfold execOp
      simp [ho, hc, asBool]
    unfold Oper.wp
    rw [hrun]
    rcases br_some h with ⟨e, h1⟩ | ⟨e, h1⟩ <;> subst e <;> clear h
    · split at h1
      · exact hK _ s _ w Fr mu h1 (H.op x).1 (H.op x).2 H Kept.refl
      · cases h1
    · split at h1
      · exact hK _ s _ w Fr mu h1 (H.op y).1 (H.op y).2 H Kept.refl
      · cases h1
  · rename_i f args ats ho
    split at h
    case h_2 => cases h
    rename_i n cap x hq
    split at h
    case h_2 => cases h
    rename_i ds hcap
    have hf := (H.op f).1
    have hfn := (H.op f).2
    rw [hq] at hf hfn
    obtain ⟨cv, hf, hrc⟩ := hf
    injection hf with hf
    obtain ⟨c1, c2⟩ := capD_ok cap x cv ds (· < s.heap.length) hcap hrc hfn
    obtain ⟨hen, hcall⟩ := callD_ok (vs := args.toList.map a.eval ++ cv) hC H h (by simp [c1]) (by
      intro i d v hd hv
      by_cases hi : i < args.toList.length
      · rw [List.getElem?_append_left (by simpa using hi), List.getElem?_map] at hd hv
        rw [List.getElem?_eq_getElem hi] at hd hv
        injection hd with hd
        injection hv with hv
        subst hd; subst hv
        exact H.op _
      · rw [List.getElem?_append_right (by simpa using hi)] at hd hv
        simp only [List.length_map] at hd hv
        exact c2 _ d v hd hv)
    have hrun : (execOp a.eval o).run P w = .ok (.enter n (args.toList.map a.eval ++ cv).toArray) w := by
      have : (args.toList.map a.eval ++ cv).toArray = #[] ++ args.map a.eval ++ cv.toArray := by
        apply Array.ext'; simp
      unfold execOp
      simp only [ho, resolve, hf, Deferred.ofValue, Sem.run_bind, Sem.run_pure, Result.andThen_ok, invoke]
      rw [run_enter hen, this]
    unfold Oper.wp
    rw [hrun, Oper.upon_enter]
    refine Calls.mono hcall ?_
    rintro e w' ⟨v, d, s', Fr', mu', rfl, hk, hv, hok, H', hkept⟩
    refine hK d s' v w' Fr' mu' hk hv hok H' (hkept.imp fun hg => ?_)
    unfold growOp at hg
    rw [ho] at hg
    dsimp only at hg
    rw [hq] at hg
    dsimp only at hg
    rw [hcap] at hg
    exact hg
  · split at h
    · rename_i e z hnil
      obtain ⟨_, v, hz, hrun⟩ := nil_ok hT H hnil
      have hk : K ⟨.bool, v⟩ s = some r := by
        rcases br_some h with ⟨_, h⟩ | ⟨h0, h⟩
        · obtain ⟨h1, h2⟩ := both_some h
          cases v <;> assumption
        · rw [hz h0]; exact h
      unfold Oper.wp
      rw [hrun w]
      exact hK _ s _ w Fr mu hk rfl trivial H Kept.refl
    split at h
    case h_2 => cases h
    rename_i b d s' hop
    obtain ⟨rfl, h⟩ := br_none h
    exact plain (opP_ok hT H hop) h
theorem VR_undef {w : World} {Fr : Nat → Prop} {mu : Nat → Loc} : VR w Fr mu undefD undef := ⟨[], rfl, rfl⟩
theorem getT_live {l : List (Nat × Dyn)} {t : Nat} {d : Dyn} (h : getT l t = d) (hd : d.t.alive = true) : (t, d) ∈ l := by
  rcases getT_mem (l := l) (t := t) with h' | h'
  · rwa [h] at h'
  · rw [h] at h'; rw [h'] at hd; cases hd
theorem getT_bool {l : List (Nat × Dyn)} {t : Nat} {b : Bool} (h : getT l t = ⟨.bool, b⟩) : (t, (⟨.bool, b⟩ : Dyn)) ∈ l := by
  rcases getT_mem (l := l) (t := t) with h' | h'
  · rwa [h] at h'
  · rw [h] at h'; injection h' with h1 h2; cases h1
theorem Rep.slot (H : Rep E w Fr mu s a) {t : Nat} {d : Dyn} (ht : t < a.tmps.size) (hv : VR w Fr mu d (a.tmps.getD t undef)) (hn : d.t.okN (· < s.heap.length)) : Rep E w Fr mu ⟨putT s.tmps t d, s.heap⟩ a := by
  refine ⟨H.si, fun u d' hm => ?_, H.df, sorted_putT H.so⟩
  rcases mem_putT hm with ⟨rfl, rfl⟩ | hm
  · exact ⟨ht, hv, hn⟩
  · exact H.tm u d' hm
theorem stepD_ok (hT : TabOK P T.tb) (hC : Sound P C) (H : Rep E w Fr mu s a) {fn nt : Nat} (hnt : a.tmps.size = nt) {ops : Array Oper} {i : Nat} {K : St → Option R} (h : stepD T C fn nt ops i s K = some r) {next : Act → World → Prop} {Q : Exit → Act → World → Prop}
    (hK : ∀ s' a' w' Fr' mu', K s' = some r → Rep E w' Fr' mu' s' a' → a'.tmps.size = nt → (∀ o, ops[i]? = some o → Kept (growOp T s o) w Fr mu s.heap w' Fr' mu' s'.heap) → next a' w') : wpOp P ops Q i next a w := by
  unfold stepD at h
  split at h
  · cases h
  rename_i o ho
  split at h
  · cases h
  rename_i hd
  have hd' : ∀ t, o.dst = some t → t < a.tmps.size := by
    intro t ht
    simp only [Bool.not_eq_true', Bool.not_eq_false] at hd
    rw [ht] at hd
    simp only [dstOk, decide_eq_true_eq] at hd
    rw [hnt]; exact hd
  have fin : ∀ (s0 : St), Rep E w Fr mu s0 a → s0.heap = s.heap → growOp T s o = growOp T s0 o → opD T C fn o s0 (fun v s' => K (s'.put o.dst v)) = some r → o.wp P a w next Q := by
    intro s0 H0 hs0 hgr h
    refine opD_ok hT hC H0 h ?_
    intro d s' v w' Fr' mu' hk hv hn H' hkept
    refine hK _ _ _ _ _ hk (H'.put o.dst hd' hv hn) (by rw [size_put]; exact hnt) fun o' ho' => ?_
    rw [ho] at ho'
    injection ho' with ho'
    subst ho'
    rw [hgr, ← hs0, heap_put]
    exact hkept
  unfold wpOp
  rw [ho]
  dsimp only
  split at h
  · rename_i hg
    rw [if_pos (by simp [Region.wanted, hg])]
    exact .inl (fin s H rfl rfl h)
  · rename_i j want hg
    split at h
    · cases h
    rename_i t ht
    have skip : ∀ (s0 : St), Rep E w Fr mu s0 a → s0.heap = s.heap → K (s0.put o.dst undefD) = some r → next (a.put o.dst undef) w := by
      intro s0 H0 hs0 h
      exact hK _ _ _ _ _ h (H0.put o.dst hd' VR_undef trivial) (by rw [size_put]; exact hnt) fun o' _ => by rw [heap_put, hs0]; exact Kept.refl
    split at h
    case h_3 => cases h
    case h_2 hb =>
      obtain ⟨h1, ⟨vs, h2, h3⟩, _⟩ := H.tm t _ (getT_live hb rfl)
      have h3 : vs = [] := h3
      subst h3
      have hy : yielded ops a.tmps j = none := by
        unfold yielded
        rw [ht]
        have : a.tmps[t]? = some (.tuple #[]) := by
          rw [Array.getElem?_eq_getElem h1]
          congr 1
          simpa [h1] using h2
        simp [this]
      rw [if_neg (by unfold Region.wanted; rw [hg]; show ¬ (yielded ops a.tmps j == some want) = true; rw [hy]; simp)]
      exact skip s H rfl h
    rename_i b hb
    have hmem := getT_bool hb
    obtain ⟨h1, h2, _⟩ := H.tm t _ hmem
    have h2 := VR_bool h2
    have hy : yielded ops a.tmps j = some b := by
      unfold yielded
      rw [ht]
      have : a.tmps[t]? = some (.bool b) := by
        rw [Array.getElem?_eq_getElem h1]
        congr 1
        simpa [h1] using h2
      simp [this]
    have hwant : Region.wanted o (yielded ops a.tmps) = (b == want) := by
      unfold Region.wanted
      rw [hg]
      show (yielded ops a.tmps j == some want) = _
      rw [hy]
      cases b <;> cases want <;> rfl
    have hs1 : ∀ c, b = c → Rep E w Fr mu ⟨putT s.tmps t ⟨.bool, c⟩, s.heap⟩ a := by
      intro c hc
      subst hc
      exact H.slot h1 (by rw [h2]; exact rfl) trivial
    rcases br_some h with ⟨rfl, h⟩ | ⟨rfl, h⟩
    · cases want with
      | true =>
        rw [if_pos (by rw [hwant]; rfl)]
        exact .inl (fin _ (hs1 true rfl) rfl (growOp_same (get_same hb) rfl) h)
      | false =>
        rw [if_neg (by rw [hwant]; simp)]
        exact skip _ (hs1 true rfl) rfl h
    · cases want with
      | true =>
        rw [if_neg (by rw [hwant]; simp)]
        exact skip _ (hs1 false rfl) rfl h
      | false =>
        rw [if_pos (by rw [hwant]; rfl)]
        exact .inl (fin _ (hs1 false rfl) rfl (growOp_same (get_same hb) rfl) h)
theorem opsD_ok (hT : TabOK P T.tb) (hC : Sound P C) {fn nt : Nat} {ops : Array Oper} {Q : Exit → Act → World → Prop} {K : St → Option R}
    (hK : ∀ s' a' w' Fr' mu', K s' = some r → Rep E w' Fr' mu' s' a' → a'.tmps.size = nt → Q .normal a' w') :
    ∀ (l : List Nat) (s : St) (a : Act) (w : World) (Fr : Nat → Prop) (mu : Nat → Loc), Rep E w Fr mu s a → a.tmps.size = nt → opsD T C fn nt ops l s K = some r → wpOps P ops Q l a w
  | [], s, a, w, Fr, mu, H, hnt, h => hK s a w Fr mu h H hnt
  | i :: l, s, a, w, Fr, mu, H, hnt, h => by
    rw [wpOps_cons]
    exact stepD_ok hT hC H hnt (K := fun s' => opsD T C fn nt ops l s' K) h fun s' a' w' Fr' mu' hk H' hnt' _ => opsD_ok hT hC hK l s' a' w' Fr' mu' H' hnt' hk
/-- The state, its objects in an order of their own. -/
theorem norm_ok (H : Rep E w Fr mu s a) {s' : St} (h : s.norm E.m = some s') : ∃ mu', Rep E w Fr mu' s' a := by
  unfold St.norm at h
  dsimp only at h
  generalize reach s.heap 3 (s.tmps.foldl (fun l p => idsT p.2.t l) (List.range E.m)) = ids at h
  split at h
  case isFalse => cases h
  rename_i hc
  simp only [Bool.and_eq_true, decide_eq_true_eq] at hc
  obtain ⟨⟨⟨c1, c2⟩, c3⟩, c4⟩ := hc
  injection h with h
  subst h
  have hso := H.si.so.sub c1 c2 (f := fun o => (renR (posN · ids)).obj o) (fun o => .inl rfl)
  have hlen : (ids.map fun i => (renR (posN · ids)).obj (s.heap.getD i gone)).length = ids.length := by simp
  refine ⟨muOf mu ids, ⟨H.si.grow, H.si.fr0, H.si.frN, H.si.frL, hso.hh, hso.obj, hso.nm, hso.sep, ?_, ?_, ?_⟩, ?_, H.df, by simpa [Function.comp_def] using H.so⟩
  · intro j o hj ho
    obtain ⟨hlt, hm, o0, h0, rfl⟩ := sub_get (f := fun o => (renR (posN · ids)).obj o) c1 hj
    rw [occ_obj] at ho
    have a1 : occ mu (ids.getD j 0) o0 := by
      obtain ⟨t, x⟩ := o0; cases t <;> exact ho
    exact H.si.own _ o0 h0 a1
  · intro j o hjm hj
    obtain ⟨hlt, hm, o0, h0, rfl⟩ := sub_get (f := fun o => (renR (posN · ids)).obj o) c1 hj
    have e : ids.getD j 0 = j := by
      have h1 : (ids.take E.m)[j]? = (List.range E.m)[j]? := by rw [c4]
      rw [List.getElem?_take, if_pos hjm, List.getElem?_range hjm] at h1
      rw [List.getD_eq_getElem?_getD, h1]; rfl
    have hm : muOf mu ids j = mu j := by unfold muOf; rw [e]
    rw [e] at h0
    have := H.si.hand j o0 hjm h0
    rw [hm]
    obtain ⟨t, x⟩ := o0
    cases t with
    | gone => trivial
    | box t => exact this
    | row e t f => exact this
  · rw [hlen]
    have := congrArg List.length c4
    simp at this; omega
  · intro u d hm
    obtain ⟨⟨u0, d0⟩, hm0, e⟩ := List.mem_map.1 hm
    injection e with e1 e2
    subst e1; subst e2
    obtain ⟨h1, h2, h3⟩ := H.tm u0 d0 hm0
    have hn0 : d0.t.okN (· ∈ ids) := idsT_ok d0.t [] (subN_ok (List.all_eq_true.1 c3 _ hm0))
    refine ⟨h1, VR_tr (renR_T _) posR_OK hn0 h2, ?_⟩
    rw [hlen]
    exact posR_okN d0.t d0.x hn0
theorem only_ok (H : Rep E w Fr mu s a) (ks : List Nat) : Rep E w Fr mu (s.only ks) a :=
  ⟨H.si, fun u d hm => H.tm u d (List.mem_filter.1 hm).1, H.df, by
    have := H.so
    exact List.Pairwise.sublist (List.Sublist.map _ List.filter_sublist) this⟩
theorem off_ok (H : Rep E w Fr mu s a) (t : Nat) : Rep E w Fr mu ⟨offT s.tmps t, s.heap⟩ a := by
  have hsub : ∀ (l : List (Nat × Dyn)), (offT l t).Sublist l := by
    intro l
    induction l with
    | nil => exact List.Sublist.refl _
    | cons p l ih =>
      obtain ⟨u, d⟩ := p
      unfold offT
      split
      · exact ih.cons _
      · exact ih.cons_cons _
  exact ⟨H.si, fun u d hm => H.tm u d ((hsub _).subset hm), H.df, List.Pairwise.sublist (List.Sublist.map _ (hsub _)) H.so⟩

/-! ### Code -/
theorem cut_ok (H : Rep E w Fr mu s a) (fn : Nat) {t : Nat} {b : Bool} (hb : getT s.tmps t = ⟨.bool, b⟩) : Rep E w Fr mu (cutT T fn s t b) a := by
  unfold cutT
  split
  · obtain ⟨h1, h2, _⟩ := H.tm t _ (getT_bool hb)
    exact H.slot h1 h2 trivial
  · exact off_ok H t
def exitOf : Ex → Exit
  | .normal => .normal
  | .exit i => .exit i
  | .ret => .ret
/-- What is done next, told and done. -/
def KOK (E : Env) (nt : Nat) (K : Kn R) (r : R) (Q : Exit → Act → World → Prop) : Prop :=
  ∀ e s a w Fr mu, K.go e s = some r → Rep E w Fr mu s a → a.tmps.size = nt → Q (exitOf e) a w
/-- A run of a code. -/
def RunOK (P : Program) (E : Env) (nt : Nat) (R : Type) (run : Run R) (c : Code) : Prop :=
  ∀ (r : R) (K : Kn R) (Q : Exit → Act → World → Prop), KOK E nt K r Q → ∀ s a w Fr mu, Rep E w Fr mu s a → a.tmps.size = nt → run s K = some r → c.wp P Q a w
theorem quietW_ok (hT : TabOK P T.tb) (H : Rep E w Fr mu s a) {fn : Nat} {o : Oper} (hw : quiet0 s o.op = true) {d : Dyn} {s' : St} (h : opP T fn o s = some (true, d, s')) : StepQ P w Fr mu s a o d s' := by
  cases ho : o.op
  case assign x =>
    rw [ho] at hw
    unfold opP at h
    rw [ho] at h
    dsimp only at h
    split at h
    · rename_i e0 _ hq
      have hw : noNil (s.get x).t = true := hw
      rw [hq] at hw
      cases hw
    · unfold put1 at h
      split at h
      case isFalse => cases h
      injection h with h
      injection h with _ h
      injection h with h2 h3
      subst h2; subst h3
      exact ok_move (.inr ho) H
  case move x => exact ok_move' H ho h
  case build t ps => exact ok_build hT H ho h
  case nilCheck x => exact ok_nilCheck H ho h
  case binOp op xt x y yt => exact ok_binOp hT H ho h
  case unOp op xt x => exact ok_unOp H ho h
  case convert src dst x => exact ok_convert hT H ho h
  case fieldAddr t x f => exact ok_fieldAddr hT H ho h
  case field t x f => exact ok_field hT H ho h
  case indexAddr t x y => exact ok_indexAddr hT H ho h
  case index t x y => exact ok_index hT H ho h
  case extract x i => exact ok_extract H ho h
  case makeFunc f first cap =>
    cases f with
    | func f => exact ok_makeFunc H ho h
    | _ => unfold opP at h; rw [ho] at h; cases h
  case call c =>
    obtain ⟨callee, args, ats⟩ := c
    rw [ho] at hw
    unfold opP at h
    rw [ho] at h
    dsimp only at h
    cases callee with
    | builtin b =>
      dsimp only at h
      cases b <;> first
        | exact ok_len hT H ho h
        | cases hw
    | _ => cases h
  all_goals (rw [ho] at hw; cases hw)
theorem takeQ_some {o : Oper} {listed : Array Bool} {ops : Array Oper} {i : Nat} {B : List Nat} (ho : ops[i]? = some o) (hq : takeQ ops listed s i = some B) :
    (quiet0 s o.op = true ∨ quietL s o.op = true) ∧ (∀ cs b, o.op ≠ .select cs b) ∧ ∃ B', Before .any ops i B' listed ∧ (∀ j ∈ B', calm ops o j = true) ∧ (quiet0 s o.op = false → B' = B) := by
  unfold takeQ at hq
  simp only [ho] at hq
  split at hq
  case isFalse => cases hq
  rename_i hk
  split at hq
  case isFalse => cases hq
  rename_i hb
  simp only [Bool.and_eq_true, Bool.or_eq_true] at hk hb
  obtain ⟨hb1, hb2⟩ := hb
  have hsel : ∀ cs b, o.op ≠ .select cs b := by
    intro cs b e
    rw [e] at hk
    rcases hk with hk | hk <;> cases hk
  refine ⟨hk, hsel, _, befOK_ok hb1, List.all_eq_true.1 hb2, fun hw => ?_⟩
  rw [if_neg (by rw [hw]; simp)] at hq
  split at hq
  case isFalse => cases hq
  injection hq with hq
/-- An operation that may come first yields one value wherever it comes. -/
theorem quiet_ok (hT : TabOK P T.tb) (H : Rep E w Fr mu s a) {fn : Nat} {o : Oper} (hk : quiet0 s o.op = true ∨ quietL s o.op = true) {K : Dyn → St → Option R} {r : R} (h : opD T C fn o s K = some r) :
    ∃ (d : Dyn) (v : Value), K d s = some r ∧ VR w Fr mu d v ∧ d.t.okN (· < s.heap.length) ∧
      ∀ w' : World, (quiet0 s o.op = false → ∀ b, Safe Fr mu s.heap b → w'.heap[b]? = w.heap[b]?) → (execOp a.eval o).run P w' = .ok (.value v) w' := by
  have hcase : (∃ e z, nilD T s o = some (e, z) ∧ br z (both (K ⟨.bool, true⟩ s) (K ⟨.bool, false⟩ s)) (K ⟨.bool, !e⟩ s) = some r) ∨ ∃ b d s', opP T fn o s = some (b, d, s') ∧ br b (K d s') none = some r := by
    unfold opD at h
    split at h
    · rename_i e; rw [e] at hk; rcases hk with hk | hk <;> cases hk
    · rename_i e; rw [e] at hk; rcases hk with hk | hk <;> cases hk
    · split at h
      · rename_i e z hnil; exact .inl ⟨e, z, hnil, h⟩
      split at h
      · rename_i b d s' e; exact .inr ⟨b, d, s', e, h⟩
      · cases h
  rcases hcase with ⟨e, z, hnil, h⟩ | hopP
  · obtain ⟨_, v, hz, hrun⟩ := nil_ok hT H hnil
    refine ⟨⟨.bool, v⟩, .bool v, ?_, rfl, trivial, fun w' _ => hrun w'⟩
    rcases br_some h with ⟨_, h⟩ | ⟨h0, h⟩
    · obtain ⟨h1, h2⟩ := both_some h
      cases v <;> assumption
    · rw [hz h0]; exact h
  have hopP : ∃ d s', opP T fn o s = some (true, d, s') ∧ K d s' = some r := by
    obtain ⟨b, d, s', e, h⟩ := hopP
    obtain ⟨rfl, h⟩ := br_none h
    exact ⟨d, s', e, h⟩
  obtain ⟨d, s', hop, hK⟩ := hopP
  by_cases hw : quiet0 s o.op = true
  · obtain ⟨rfl, v, h1, h2, h3⟩ := quietW_ok hT H hw hop
    exact ⟨d, v, hK, h1, h2, fun w' _ => h3 w'⟩
  · have hk := hk.resolve_left hw
    have hw : quiet0 s o.op = false := by simpa using hw
    cases hoo : o.op
    case load t x =>
      rw [hoo] at hk
      obtain ⟨rfl, v, h1, h2, h3⟩ := (ok_load2 hT H hoo hop).2 hk
      exact ⟨d, v, hK, h1, h2, fun w' ha => h3 w' (ha (by rw [hoo] at hw; exact hw))⟩
    all_goals (rw [hoo] at hk; cases hk)
theorem pickQ_some {ops : Array Oper} {listed : Array Bool} : ∀ {l : List Nat} {i : Nat} {B : List Nat}, pickQ ops listed s l = some (i, B) → i ∈ l ∧ takeQ ops listed s i = some B
  | [], _, _, h => by cases h
  | j :: l, i, B, h => by
    unfold pickQ at h
    split at h
    · rename_i B' hB
      injection h with h
      injection h with h1 h2
      subst h1; subst h2
      exact ⟨List.mem_cons_self, hB⟩
    · obtain ⟨h1, h2⟩ := pickQ_some h
      exact ⟨List.mem_cons_of_mem _ h1, h2⟩
theorem boths_some : ∀ {l : List (Option R)}, boths l = some r → ∀ x ∈ l, x = some r
  | [], h, _, _ => by cases h
  | [x], h, y, hy => by
    simp only [List.mem_singleton] at hy
    subst hy; exact h
  | x :: y :: l, h, z, hz => by
    obtain ⟨h1, h2⟩ := both_some (show both x (boths (y :: l)) = some r from h)
    rcases List.mem_cons.1 hz with rfl | hz
    · exact h1
    · exact boths_some h2 z hz
theorem anyD_ok (hT : TabOK P T.tb) (hC : Sound P C) {fn nt : Nat} {ops : Array Oper} {Q : Act → World → Prop} {K : St → Option R}
    (hK : ∀ s' a' w' Fr' mu', K s' = some r → Rep E w' Fr' mu' s' a' → a'.tmps.size = nt → Q a' w') :
    ∀ (n : Nat) (listed : Array Bool) (need : List Nat) (s : St) (a : Act) (w : World) (Fr : Nat → Prop) (mu : Nat → Loc), Rep E w Fr mu s a → a.tmps.size = nt → anyD T C fn nt ops n listed need s K = some r → wpAnyX P .any ops Q n listed need (Safe Fr mu s.heap) a w := by
  intro n
  induction n with
  | zero =>
    intro listed need s a w Fr mu H hnt h
    unfold anyD at h
    split at h
    · rename_i e; exact ⟨e, hK s a w Fr mu h H hnt⟩
    · cases h
  | succ n ih =>
    intro listed need s a w Fr mu H hnt h
    unfold anyD at h
    split at h
    · rename_i e
      refine ⟨fun _ => hK s a w Fr mu h H hnt, fun i hi => ?_⟩
      rw [e] at hi; cases hi
    rename_i hne
    split at h
    · rename_i i B hq
      obtain ⟨hi, hq⟩ := pickQ_some hq
      unfold stepD at h
      split at h
      · cases h
      rename_i o ho
      split at h
      · cases h
      rename_i hd
      have hd' : ∀ t, o.dst = some t → t < a.tmps.size := by
        intro t ht
        simp only [Bool.not_eq_true', Bool.not_eq_false] at hd
        rw [ht] at hd
        simp only [dstOk, decide_eq_true_eq] at hd
        rw [hnt]; exact hd
      obtain ⟨hqk, hsel, B', hb, hcalm, hBB⟩ := takeQ_some ho hq
      have first : ∀ (s0 : St) (d : Dyn) (v : Value), s0.heap = s.heap → Rep E w Fr mu s0 a → VR w Fr mu d v → d.t.okN (· < s0.heap.length) →
          here (fun s => anyD T C fn nt ops n (listed.setIfInBounds i true) (B ++ need) s K) (s0.put o.dst d) = some r →
          ((Region.wanted o (yielded ops a.tmps) = true ∧ ∀ w' : World, (quiet0 s o.op = false → ∀ b, Safe Fr mu s0.heap b → w'.heap[b]? = w.heap[b]?) → (execOp a.eval o).run P w' = .ok (.value v) w') ∨ (Region.wanted o (yielded ops a.tmps) = false ∧ v = undef)) →
          wpAnyX P .any ops Q (n + 1) listed need (Safe Fr mu s.heap) a w := by
        intro s0 d v hs0 H0 hv hn hk hy
        have hput := ih (listed.setIfInBounds i true) (B ++ need) (s0.put o.dst d) (a.put o.dst v) w Fr mu (H0.put o.dst hd' hv hn) (by rw [size_put]; exact hnt) hk
        rw [heap_put, hs0] at hput
        rw [hs0] at hy
        refine wpAnyX_less _ _ (B ++ need) need _ _ _ (fun j hj => List.mem_append_right _ hj) ?_
        refine wpAnyX_first ho hsel (v := v) (dep := !quiet0 s o.op) (B := B') ?_ n listed _ a w hb hi (hy.imp (fun h => ⟨h.1, fun w' hw' => h.2 w' fun hwl => hw' (by rw [hwl]; rfl)⟩) id) hput
        intro j hj oj hoj
        have h1 := hcalm j hj
        unfold calm at h1
        rw [hoj] at h1
        simp only [Bool.and_eq_true] at h1
        refine ⟨h1.1, fun cs b e => ?_, fun hdep => List.mem_append_left _ ?_⟩
        · rw [e] at h1
          cases h1.2
        · rw [← hBB (by simpa using hdep)]
          exact hj
      split at h
      · rename_i hg
        obtain ⟨d, v, hk, hv, hn, hrun⟩ := quiet_ok hT H hqk h
        exact first s d v rfl H hv hn hk (.inl ⟨by simp [Region.wanted, hg], hrun⟩)
      · rename_i j want hg
        split at h
        · cases h
        rename_i t ht
        split at h
        case h_3 => cases h
        case h_2 hb =>
          obtain ⟨h1, ⟨vs, h2, h3⟩, _⟩ := H.tm t _ (getT_live hb rfl)
          have h3 : vs = [] := h3
          subst h3
          have hy : yielded ops a.tmps j = none := by
            unfold yielded
            rw [ht]
            have : a.tmps[t]? = some (.tuple #[]) := by
              rw [Array.getElem?_eq_getElem h1]
              congr 1
              simpa [h1] using h2
            simp [this]
          exact first s undefD undef rfl H VR_undef trivial h (.inr ⟨by unfold Region.wanted; rw [hg]; show (yielded ops a.tmps j == some want) = false; rw [hy]; rfl, rfl⟩)
        rename_i b hb
        have hmem := getT_bool hb
        obtain ⟨h1, h2, _⟩ := H.tm t _ hmem
        have h2 := VR_bool h2
        have hy : yielded ops a.tmps j = some b := by
          unfold yielded
          rw [ht]
          have : a.tmps[t]? = some (.bool b) := by
            rw [Array.getElem?_eq_getElem h1]
            congr 1
            simpa [h1] using h2
          simp [this]
        have hwant : Region.wanted o (yielded ops a.tmps) = (b == want) := by
          unfold Region.wanted
          rw [hg]
          show (yielded ops a.tmps j == some want) = _
          rw [hy]
          cases b <;> cases want <;> rfl
        have hs1 : ∀ c, b = c → Rep E w Fr mu ⟨putT s.tmps t ⟨.bool, c⟩, s.heap⟩ a := by
          intro c hc
          subst hc
          exact H.slot h1 (by rw [h2]; exact rfl) trivial
        have hqs : ∀ c, b = c → quiet0 ⟨putT s.tmps t ⟨.bool, c⟩, s.heap⟩ o.op = quiet0 s o.op ∧ quietL ⟨putT s.tmps t ⟨.bool, c⟩, s.heap⟩ o.op = quietL s o.op := by
          intro c hc
          subst hc
          have hg := get_same hb
          constructor
          · cases o.op <;> first | rfl | (show noNil _ = noNil _; rw [hg])
          · cases o.op <;> first | rfl | (show still _ = still _; rw [hg])
        have hq1 : ∀ c, b = c → quiet0 ⟨putT s.tmps t ⟨.bool, c⟩, s.heap⟩ o.op = true ∨ quietL ⟨putT s.tmps t ⟨.bool, c⟩, s.heap⟩ o.op = true := by
          intro c hc
          rw [(hqs c hc).1, (hqs c hc).2]
          exact hqk
        have run1 : ∀ c, b = c → opD T C fn o ⟨putT s.tmps t ⟨.bool, c⟩, s.heap⟩ (fun v s' => here (fun s => anyD T C fn nt ops n (listed.setIfInBounds i true) (B ++ need) s K) (s'.put o.dst v)) = some r → Region.wanted o (yielded ops a.tmps) = true → wpAnyX P .any ops Q (n + 1) listed need (Safe Fr mu s.heap) a w := by
          intro c hc h hw
          obtain ⟨d, v, hk, hv, hn, hrun⟩ := quiet_ok hT (hs1 c hc) (hq1 c hc) h
          exact first ⟨putT s.tmps t ⟨.bool, c⟩, s.heap⟩ d v rfl (hs1 c hc) hv hn hk (.inl ⟨hw, fun w' hw' => hrun w' fun hz => hw' ((hqs c hc).1 ▸ hz)⟩)
        have skip1 : ∀ c, b = c → here (fun s => anyD T C fn nt ops n (listed.setIfInBounds i true) (B ++ need) s K) ((⟨putT s.tmps t ⟨.bool, c⟩, s.heap⟩ : St).put o.dst undefD) = some r → Region.wanted o (yielded ops a.tmps) = false → wpAnyX P .any ops Q (n + 1) listed need (Safe Fr mu s.heap) a w := by
          intro c hc h hw
          exact first ⟨putT s.tmps t ⟨.bool, c⟩, s.heap⟩ undefD undef rfl (hs1 c hc) VR_undef trivial h (.inr ⟨hw, rfl⟩)
        rcases br_some h with ⟨rfl, h⟩ | ⟨rfl, h⟩
        · cases want with
          | true => exact run1 true rfl h (by rw [hwant]; rfl)
          | false => exact skip1 true rfl h (by rw [hwant]; rfl)
        · cases want with
          | true => exact skip1 false rfl h (by rw [hwant]; rfl)
          | false => exact run1 false rfl h (by rw [hwant]; rfl)
    · refine ⟨fun e => absurd e hne, fun i hi => ?_⟩
      have h := boths_some h _ (List.mem_map.2 ⟨i, hi, rfl⟩)
      split at h
      case h_2 => cases h
      rename_i o ho
      split at h
      · cases h
      rename_i hgr
      refine stepD_ok hT hC H hnt h ?_
      intro s' a' w' Fr' mu' hk H' hnt' hkept
      have hkept := hkept o ho
      refine ⟨Safe Fr' mu' s'.heap, hkept.safe, fun hi' => ?_, ih _ need s' a' w' Fr' mu' H' hnt' hk⟩
      refine hkept.same ?_
      simp only [Bool.and_eq_true, Bool.not_eq_true', not_and, Bool.not_eq_false] at hgr
      exact hgr (by simpa using hi')
/-- Loops are run a number of rounds at most. -/
def LoopOK (P : Program) (E : Env) (nt : Nat) (R : Type) (LP : List Nat → Run R → Run R) : Prop :=
  ∀ p body c, RunOK P E nt R body c → RunOK P E nt R (LP p body) (.loop c)
theorem runD_ok (hM : P.follows .mixedOrders = true) (hT : TabOK P T.tb) (hC : Sound P C) {fn nt : Nat} {LP : List Nat → Run R → Run R} (hL : LoopOK P E nt R LP) :
    ∀ (c : Code) (p : List Nat), RunOK P E nt R (fun s K => runD T C LP fn nt E.m p c s K) c
  | .skip, p, r, K, Q, hK, s, a, w, Fr, mu, H, hnt, h => wp_skip (hK .normal s a w Fr mu h H hnt)
  | .label _, p, r, K, Q, hK, s, a, w, Fr, mu, H, hnt, h => wp_label (hK .normal s a w Fr mu h H hnt)
  | .region i ops false, p, r, K, Q, hK, s, a, w, Fr, mu, H, hnt, h => by
    refine wp_region (opsD_ok (K := fun s' => match (s'.only (T.keep fn i)).norm E.m with | some s' => K.go .normal s' | none => none) hT hC ?_ _ s a w Fr mu H hnt h)
    intro s' a' w' Fr' mu' hk H' hnt'
    split at hk
    · rename_i s2 hs2
      obtain ⟨mu2, H2⟩ := norm_ok (only_ok H' _) hs2
      exact hK .normal s2 a' w' Fr' mu2 hk H2 hnt'
    · cases hk
  | .region i ops true, p, r, K, Q, hK, s, a, w, Fr, mu, H, hnt, h => by
    refine wp_region_any hM (wpAnyX_any _ _ _ _ _ _ (anyD_ok (Q := Q .normal) (K := fun s' => match (s'.only (T.keep fn i)).norm E.m with | some s' => K.go .normal s' | none => none) hT hC ?_ _ _ _ s a w.drew Fr mu (H.world (Grow.drew w)) hnt h))
    intro s' a' w' Fr' mu' hk H' hnt'
    split at hk
    · rename_i s2 hs2
      obtain ⟨mu2, H2⟩ := norm_ok (only_ok H' _) hs2
      exact hK .normal s2 a' w' Fr' mu2 hk H2 hnt'
    · cases hk
  | .seq c d, p, r, K, Q, hK, s, a, w, Fr, mu, H, hnt, h => by
    refine wp_seq (runD_ok hM hT hC hL c (p ++ [0]) r (seqK (T.meet fn (p ++ [1])) (p ++ [1]) (fun s K => runD T C LP fn nt E.m (p ++ [1]) d s K) K) _ ?_ s a w Fr mu H hnt h)
    intro e s' a' w' Fr' mu' hk H' hnt'
    cases e with
    | normal =>
      have hk : jn (T.meet fn (p ++ [1])) (p ++ [1]) (fun s K => runD T C LP fn nt E.m (p ++ [1]) d s K) s' K = some r := hk
      rw [jn_eq] at hk
      exact runD_ok hM hT hC hL d (p ++ [1]) r K Q hK s' a' w' Fr' mu' H' hnt' hk
    | exit i => exact hK (.exit i) s' a' w' Fr' mu' hk H' hnt'
    | ret => exact hK .ret s' a' w' Fr' mu' hk H' hnt'
  | .cond c x y, p, r, K, Q, hK, s, a, w, Fr, mu, H, hnt, h => by
    cases c with
    | tmp t =>
      have h : (match getT s.tmps t with
        | ⟨.bool, b⟩ => br b (runD T C LP fn nt E.m (p ++ [0]) x (cutT T fn s t true) K) (runD T C LP fn nt E.m (p ++ [1]) y (cutT T fn s t false) K)
        | _ => none) = some r := h
      split at h
      case h_2 => cases h
      rename_i b hb
      have hv := (H.get t).1
      rw [hb] at hv
      have hv := VR_bool hv
      rcases br_some h with ⟨rfl, h⟩ | ⟨rfl, h⟩
      · exact wp_cond_true hv (runD_ok hM hT hC hL x (p ++ [0]) r K Q hK _ a w Fr mu (cut_ok H fn hb) hnt h)
      · exact wp_cond_false hv (runD_ok hM hT hC hL y (p ++ [1]) r K Q hK _ a w Fr mu (cut_ok H fn hb) hnt h)
    | const _ => cases h
    | global _ => cases h
    | func _ => cases h
  | .block i c, p, r, K, Q, hK, s, a, w, Fr, mu, H, hnt, h => by
    refine wp_block (runD_ok hM hT hC hL c (p ++ [0]) r (blockK i K) _ ?_ s a w Fr mu H hnt h)
    intro e s' a' w' Fr' mu' hk H' hnt'
    cases e with
    | normal => exact hK .normal s' a' w' Fr' mu' hk H' hnt'
    | ret => exact hK .ret s' a' w' Fr' mu' hk H' hnt'
    | exit j =>
      show (if j = i then Q .normal a' w' else Q (.exit j) a' w')
      have hk : (if j = i then K.go .normal s' else K.go (.exit j) s') = some r := hk
      split
      · rename_i e; rw [if_pos e] at hk; exact hK .normal s' a' w' Fr' mu' hk H' hnt'
      · rename_i e; rw [if_neg e] at hk; exact hK (.exit j) s' a' w' Fr' mu' hk H' hnt'
  | .loop c, p, r, K, Q, hK, s, a, w, Fr, mu, H, hnt, h =>
    hL (p ++ [0]) _ c (runD_ok hM hT hC hL c (p ++ [0])) r K Q hK s a w Fr mu H hnt h
  | .exit i, p, r, K, Q, hK, s, a, w, Fr, mu, H, hnt, h => wp_exit (hK (.exit i) s a w Fr mu h H hnt)
  | .ret, p, r, K, Q, hK, s, a, w, Fr, mu, H, hnt, h => wp_ret (hK .ret s a w Fr mu h H hnt)
  | .rangeFunc _ _ _ _, _, _, _, _, _, _, _, _, _, _, _, _, h => by cases h
  | .scope _, _, _, _, _, _, _, _, _, _, _, _, _, h => by cases h
  | .goto _, _, _, _, _, _, _, _, _, _, _, _, _, h => by cases h
  | .refuse _, _, _, _, _, _, _, _, _, _, _, _, _, h => by cases h
theorem loopD_ok (k : Nat) {nt : Nat} : LoopOK P E nt R (fun p b s K => loopD p b k s K) := by
  intro p body c hb r K Q hK s a w Fr mu H hnt h
  -- the loop's way, by its rounds
  have key : ∀ (j : Nat) (s : St) (a : Act) (w : World) (Fr : Nat → Prop) (mu : Nat → Loc), Rep E w Fr mu s a → a.tmps.size = nt → loopD p body j s K = some r →
      ∀ (b : Frame) (k : List Item) (cs : List Frame), ∃ e a' w', Q e a' w' ∧ Arrives P (lone (b.at a (.code c :: .inLoop c :: k)) cs w) b k cs e a' w' := by
    intro j
    induction j with
    | zero => intro s a w Fr mu H hnt h; cases h
    | succ j ih =>
      intro s a w Fr mu H hnt h b k cs
      have h : body s (againK p (loopD p body j) K) = some r := h
      let Q' : Exit → Act → World → Prop := Exit.then (fun a' w' => ∃ s' Fr' mu', Rep E w' Fr' mu' s' a' ∧ a'.tmps.size = nt ∧ loopD p body j s' K = some r) Q
      have hround := hb r (againK p (loopD p body j) K) Q' (by
        intro e s' a' w' Fr' mu' hk H' hnt'
        cases e with
        | normal => exact ⟨s', Fr', mu', H', hnt', hk⟩
        | exit i => exact hK (.exit i) s' a' w' Fr' mu' hk H' hnt'
        | ret => exact hK .ret s' a' w' Fr' mu' hk H' hnt') s a w Fr mu H hnt h
      obtain ⟨e, a₁, w₁, hq, harr⟩ := hround b (.inLoop c :: k) cs
      cases e with
      | normal =>
        obtain ⟨s', Fr', mu', H', hnt', hk⟩ := hq
        obtain ⟨e₂, a₂, w₂, hq₂, harr₂⟩ := ih s' a₁ w₁ Fr' mu' H' hnt' hk b k cs
        exact ⟨e₂, a₂, w₂, hq₂, .of_steps (Steps.trans harr (.one step_inLoop)) harr₂⟩
      | exit id => exact ⟨_, a₁, w₁, hq, .pass (x := .inLoop c) rfl (fun _ _ => .inl (by simp)) harr⟩
      | goto l => exact ⟨_, a₁, w₁, hq, .pass (x := .inLoop c) rfl (fun _ _ => .inl (by simp)) harr⟩
      | ret => exact ⟨_, a₁, w₁, hq, .pass (x := .inLoop c) rfl (fun _ _ => .inl (by simp)) harr⟩
      | panic ch => exact ⟨_, a₁, w₁, hq, .pass (x := .inLoop c) rfl (fun _ _ => .inl (by simp)) harr⟩
      | outgrown => exact ⟨_, a₁, w₁, hq, .pass (x := .inLoop c) rfl (fun _ _ => .inl (by simp)) harr⟩
  intro b kk cs
  obtain ⟨e, a', w', hq, harr⟩ := key k s a w Fr mu H hnt h b kk cs
  exact ⟨e, a', w', hq, .of_steps (.one step_loop) harr⟩
end
end Go.Abs
