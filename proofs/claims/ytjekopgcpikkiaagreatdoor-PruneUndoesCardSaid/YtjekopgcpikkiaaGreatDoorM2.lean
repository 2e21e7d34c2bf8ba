/- Texts of one proof, laid together: how the interpreter's words stand for the program's code and what the functions do. No conditions but those that each lemma names. -/
import Derived.Test.YtjekopgcpikkiaaGreatDoorM1
import Derived.Scope
import Derived.ChangeSlices
import Derived.OpenShut
import Derived.WalkKit
import Derived.ProofKit
import Derived.ShutString
import Derived.ChangeOld
import Derived.Below
import Derived.SizedLaws
import Derived.WideShapes
import Derived.ChangeMaps
import Derived.Test.YtjekopgcpikkiaaGreatDoorProg
import Derived.Laws.IdiomCopy
import Derived.Lib.AppendZerosOnto
import Derived.Lib.Overlaps
import Derived.Lib.Walk
import Derived.Lib.SliceRun
import Derived.Lib.JoinLaws
import Derived.Lib.AppendZeros
import Derived.Laws.Externs
import Derived.Laws.NewBlocks
import Derived.Shelf.Spec.SlicesInsert
import Derived.Deep.RegionLaw
import Derived.Shelf.RegionOpenPlain
import Derived.Lib.SlicesDelete
import Derived.Laws.AppendOwn
set_option linter.unusedSimpArgs false
set_option autoImplicit false
set_option linter.unusedVariables false
namespace Go.Abs
section
variable {P : Program} {E : Env} {w : World} {Fr : Nat → Prop} {mu : Nat → Loc} {s : St} {a : Act} {R : Type} {nt : Nat}
theorem caught_ok (H : SI E w Fr mu s.heap) {Fl : Nat → Prop} {muY : Nat → Loc} (hF : ∀ b, Fr b → Fl b) (t : Ty) : ∀ (x : den t) (vs : List Value) (ds : List Dyn) (ids : List Nat), caught s t = some (ds, ids) → Rp w Fr mu t x vs →
    (∀ i ∈ ids, ∀ o, s.heap[i]? = some o → occ mu i o → Fl (mu i).loc) → ds.length = vs.length ∧ (∀ (i : Nat) (d : Dyn) (v : Value), ds[i]? = some d → vs[i]? = some v → VR w Fl muY d v ∧ d.t.okN (· < 1)) := by
  induction t with
  | tnil =>
    intro x vs ds ids h hr _
    injection h with h
    injection h with h1 h2
    subst h1; subst h2
    have hr : vs = [] := hr
    subst hr
    exact ⟨rfl, fun i d v hd => by simp at hd⟩
  | tcons a r _ ih =>
    intro x vs ds ids h hr hl
    cases a with
    | ptr i o =>
      cases o with
      | succ o => cases h
      | zero =>
        have h : (match s.obj i, caught s r with
          | ⟨.box u, x⟩, some (ds, ids) => if u.elt then some ((⟨.eptr u 0, x⟩ : Dyn) :: ds, i :: ids) else none
          | _, _ => none) = some (ds, ids) := h
        split at h
        case h_2 => cases h
        rename_i u y ds' ids' hobj hc
        split at h
        case isFalse => cases h
        rename_i he
        injection h with h
        injection h with h1 h2
        subst h1; subst h2
        obtain ⟨v, vs', rfl, h1, h2⟩ := hr
        have h1 : [v] = [.pointer (some ⟨(mu i).loc, 0, none⟩)] := h1
        injection h1 with h1
        subst h1
        obtain ⟨g1, g2⟩ := ih x.2 vs' ds' ids' hc h2 (fun k hk => hl k (List.mem_cons_of_mem _ hk))
        have hi : s.heap[i]? = some (⟨.box u, y⟩ : AObj) := obj_some hobj (by intro e; cases e)
        refine ⟨by simp [g1], fun k d v hd hv => ?_⟩
        cases k with
        | zero =>
          simp at hd hv
          subst hd; subst hv
          refine ⟨?_, Ty.pure_okN _ (by show u.pure = true; exact Ty.elt_pure he)⟩
          obtain ⟨hc, cells, e, h1, h2⟩ := H.obj i _ hi
          refine ⟨he, (mu i).loc, 0, cells, rfl, hl i (by simp) _ hi trivial, Rp_keep hF (fun _ _ => rfl) u y cells (u.pure_okN (Ty.elt_pure he)) h2, fun k v hk => ?_⟩
          rw [Nat.zero_add, cell_of_row w _ k _ e (0, 0) h1]
          simpa using hk
        | succ k => exact g2 k d v (by simpa using hd) (by simpa using hv)
    | _ => cases h
  | _ => intro x vs ds ids h; cases h
theorem range_ok {T : Told} {C : AbsFn} (hC : Sound P C) {fn : Nat} {p : List Nat} {LP : List Nat → Run R → Run R} {g : Operand} {ps : Array Tmp} {asg b : Code}
    (ha' : ∀ E' : Env, E'.m = E.m → RunOK P E' nt (T.it fn) R (fun s K => runD T C LP fn nt E.m (p ++ [0]) asg s K) asg)
    (hb : ∀ E' : Env, E'.m = E.m → RunOK P E' nt (T.it fn) R (fun s K => runD T C LP fn nt E.m (p ++ [1]) b s K) b) :
    RunOK P E nt (T.it fn) R (fun s K => runD T C LP fn nt E.m p (.rangeFunc g ps asg b) s K) (.rangeFunc g ps asg b) := by
  intro hc ro n A G K Q hA hAb hY hfl hK r s a w Fr mu H ha hg h
  rcases hfl with ⟨rfl, hit, hfree, hfd⟩ | hfl
  case inr => cases hfl
  have hcb : calmC asg = true ∧ calmC b = true := by
    have hc : (calmC asg && calmC b) = true := hc
    simp only [Bool.and_eq_true] at hc
    exact hc
  have h : (match s.get g with
    | ⟨.fn f cap, _⟩ => match caught s cap with
      | some (ds, ids) => match T.hint f (.own .dead 0 :: ds.map (·.t)) with
        | some ⟨.list el, [], _⟩ => if flatC asg && flatC b && el.pure && ps.toList.all (fun t => decide (t < nt)) then
            bnd (C f ((⟨.own .dead 0, ()⟩ : Dyn) :: ds) [heldO] (.list el) []) fun xs =>
              match (⟨s.tmps.filter fun q => !(wr asg ++ wr b ++ ps.toList ++ slotO g).contains q.1, goneL ids s.heap⟩ : St).norm E.m with
              | some s' => rangeD el p E.m (s'.tmps.map (·.1)) ps.toList (fun s K => runD T C LP fn nt E.m (p ++ [0]) asg s K) (fun s K => runD T C LP fn nt E.m (p ++ [1]) b s K) xs s' K
              | none => none
          else none
        | _ => none
      | none => none
    | _ => none) = some r := h
  split at h
  case h_2 => cases h
  rename_i f cap cx hq
  split at h
  case h_2 => cases h
  rename_i ds ids hca
  split at h
  case h_2 => cases h
  rename_i el hpars hhint
  split at h
  case isFalse => cases h
  rename_i hcond
  simp only [Bool.and_eq_true] at hcond
  obtain ⟨⟨⟨hfa, hflat⟩, hel⟩, hps⟩ := hcond
  unfold bnd at h
  obtain ⟨xs, hxs, h⟩ := Option.bind_eq_some_iff.1 h
  split at h
  case h_2 => cases h
  rename_i s' hnorm
  have hval := (H.reb.op g).1
  rw [hq] at hval
  obtain ⟨cv, hev, hrc⟩ := hval
  have hev : a.eval g = .func (.func f) #[] cv.toArray := by injection hev
  obtain ⟨hen, hgives⟩ := hC.seq f _ el xs hxs
  refine wpIn_rangeFunc fun yf _ => ?_
  -- the two blocks that are laid
  let L : LpF := ⟨w.heap.size + 1, w.heap.size, yf, a.tmps, ps, asg, b, w.heap.size + 2, FrL Fr mu s.heap ids, s'.tmps.map (·.1), { target := .collected w.heap.size, args := #[] } :: a.defers⟩
  let w1 : World := (w.alloc (.deferred (some []))).alloc (.loop (L.loop .ready none))
  have g1 : Grow (fun _ => False) w w1 := by
    refine ⟨rfl, rfl, rfl, by show _ ≤ ((w.alloc _).alloc _).heap.size; simp; omega, fun k hk _ => ?_⟩
    show ((w.alloc _).alloc _).heap[k]? = _
    rw [alloc_kept _ _ _ (by simp; omega), alloc_kept _ _ _ hk]
  have hs1 : w1.heap.size = w.heap.size + 2 := by show ((w.alloc _).alloc _).heap.size = _; simp
  have hl1 : w1.heap[w.heap.size + 1]? = some (.loop (L.loop .ready none)) := by
    have := World.alloc_heap_new (w.alloc (.deferred (some []))) (.loop (L.loop .ready none))
    rw [World.size_alloc] at this
    exact this
  have hD1 : w1.heap[w.heap.size]? = some (.deferred (some [])) := by
    show ((w.alloc _).alloc _).heap[w.heap.size]? = _
    rw [alloc_kept _ _ _ (by simp)]
    exact World.alloc_heap_new w _
  have S1 : SI E w1 (FrL Fr mu s.heap ids) mu (goneL ids s.heap) := (H.si.away g1 fun _ _ h => h.elim).lose ids
  have hFl : ∀ b, FrL Fr mu s.heap ids b → b < w.heap.size := by
    rintro b (hb | ⟨i, o, _, hi, ho, rfl⟩)
    · exact H.si.frL b hb
    · exact (H.si.own i o hi ho).2.2
  have R1 : Rw E w1 (FrL Fr mu s.heap ids) mu ⟨s.tmps.filter fun q => !(wr asg ++ wr b ++ ps.toList ++ slotO g).contains q.1, goneL ids s.heap⟩ { a with defers := { target := .collected w.heap.size, args := #[] } :: a.defers } := by
    refine ⟨S1, fun u d hm => ?_, ⟨fun d hd => ?_, ?_⟩, ?_⟩
    · obtain ⟨h1, h2, h3⟩ := H.tm u d (List.mem_filter.1 hm).1
      refine ⟨h1, VR_keep (fun b hb => .inl hb) (fun b hb => g1.block b (H.si.frL b hb) id) (Ty.okN_all (fun _ => rfl) _) h2, ?_⟩
      show d.t.okN (· < (goneL ids s.heap).length)
      rw [goneL_len]; exact h3
    · rcases List.mem_cons.1 hd with rfl | hd
      · exact ⟨_, rfl, hD1, H.si.grow.size, fun hf => by have := hFl _ hf; omega⟩
      · obtain ⟨D, h1, h2, h3, h4⟩ := H.df.all d hd
        refine ⟨D, h1, (g1.block D (Array.getElem?_eq_some_iff.1 h2).1 id).trans h2, h3, ?_⟩
        rintro (hf | ⟨i, o, _, hi, ho, e⟩)
        · exact h4 hf
        · obtain ⟨c, e', f', hcl⟩ := occ_cells H.si ⟨i, o, hi, ho, e⟩
          rw [h2] at hcl; cases hcl
    · refine List.pairwise_cons.2 ⟨fun d hd he => ?_, H.df.dis⟩
      obtain ⟨D, h1, h2, h3, h4⟩ := H.df.all d hd
      rw [h1] at he
      injection he with he
      have := (Array.getElem?_eq_some_iff.1 h2).1
      omega
    · have := H.so
      exact List.Pairwise.sublist (List.Sublist.map _ List.filter_sublist) this
  obtain ⟨mu', N1⟩ := norm_ok R1.reb hnorm
  obtain ⟨R2, S2⟩ := R1.back N1
  have G : LpG E nt L := by
    refine ⟨by show E.w0.heap.size ≤ w.heap.size + 2; have := H.si.grow.size; omega, by show E.w0.heap.size ≤ w.heap.size + 1; have := H.si.grow.size; omega, by show w.heap.size + 1 < w.heap.size + 2; omega, ?_, ?_, hA.size a ha, ?_, ?_⟩
    · intro d hd D' he
      show D' < w.heap.size + 2 ∧ D' ≠ w.heap.size + 1
      rcases List.mem_cons.1 hd with rfl | hd
      · injection he with he
        injection he with he
        omega
      · obtain ⟨D, h1, h2, h3, h4⟩ := H.df.all d hd
        rw [h1] at he
        injection he with he
        injection he with he
        have := (Array.getElem?_eq_some_iff.1 h2).1
        omega
    · intro hf
      have : w.heap.size + 1 < w.heap.size := hFl _ hf
      omega
    · intro u hu
      obtain ⟨⟨u0, d0⟩, hm0, rfl⟩ := List.mem_map.1 (show u ∈ s'.tmps.map (·.1) from hu)
      obtain ⟨d1, hm1⟩ := norm_names hnorm hm0
      have := (List.mem_filter.1 hm1).2
      simp only [Bool.not_eq_true', List.contains_eq_mem, List.mem_append, decide_eq_false_iff_not, not_or] at this
      exact ⟨this.1.1.1, this.1.1.2, this.1.2⟩
    · intro t ht
      have := List.all_eq_true.1 hps t ht
      simpa using this
  have LP1 : Lp E nt L .ready none (FrL Fr mu s.heap ids) (fun _ => False) w1 s' (FrL Fr mu s.heap ids) mu' := by
    refine ⟨⟨hl1, R2.si, R2.df, fun _ h => h, fun _ h => h.elim, fun b hb hm => S2.apart b hm hb, fun hf => ?_, by rw [hs1]; exact Nat.le_refl _, fun _ h => h.elim, fun _ h => .inl h, fun b hb => ?_, fun _ h => h.elim⟩, fun u d hm => ?_, R2.so⟩
    rotate_right
    · obtain ⟨h1, h2, h3⟩ := R2.tm u d hm
      have h1 : u < a.tmps.size := h1
      rw [hA.size a ha] at h1
      exact ⟨List.mem_map.2 ⟨(u, d), hm, rfl⟩, h1, h2, h3⟩
    · have := hFl _ hf
      have : w.heap.size + 1 < w.heap.size := this
      omega
    · rcases hb with hb | hb
      · have := hFl b hb; rw [hs1]; omega
      · exact hb.elim
  -- the iterator is called
  obtain ⟨c1, c2⟩ := caught_ok (Fl := FrL Fr mu s.heap ids) (muY := fun _ => ⟨0, yv (w.heap.size + 1)⟩) H.si (fun b hb => .inl hb) cap cx cv ds ids hca hrc (fun i hi o ho hoc => .inr ⟨i, o, hi, ho, hoc, rfl⟩)
  have hpre : Pre w1 (FrL Fr mu s.heap ids) (fun _ => ⟨0, yv (w.heap.size + 1)⟩) [heldO] ((⟨.own .dead 0, ()⟩ : Dyn) :: ds) (yv (w.heap.size + 1) :: cv) := by
    refine ⟨⟨fun _ => rfl, fun i o hi => ?_, fun i t x hi => ?_, fun i j o o' hi hj hne ho => ?_, fun i o hi ho => ?_⟩, fun b hb => (by have := hFl b hb; rw [hs1]; omega), by simp [c1], fun i d v hd hv => ?_, ?_⟩
    · cases i with
      | zero => injection hi with hi; subst hi; trivial
      | succ i => simp at hi
    · cases i with
      | zero => injection hi with hi; injection hi with e1 e2; cases e1
      | succ i => simp at hi
    · cases i with
      | zero => injection hi with hi; subst hi; exact ho.elim
      | succ i => simp at hi
    · cases i with
      | zero => injection hi with hi; subst hi; exact ho.elim
      | succ i => simp at hi
    · cases i with
      | zero =>
        simp at hd hv
        subst hd; subst hv
        exact ⟨rfl, Nat.zero_lt_one⟩
      | succ i =>
        obtain ⟨h1, h2⟩ := c2 i d v (by simpa using hd) (by simpa using hv)
        exact ⟨VR_keep (fun _ => id) (fun b hb => g1.block b (hFl b hb) id) (Ty.okN_all (fun _ => rfl) _) h1, h2⟩
    · exact H.si.gl.keep (fun b hb => .inl hb) (fun b hb => g1.block b (H.si.frL b hb) id)
  have hround := lp_rounds (P := P) (E := E) (nt := nt) (L := L) (K := K) (r := r) (el := el) (p := p) (ra := fun s K => runD T C LP fn nt E.m (p ++ [0]) asg s K) (rd := fun s K => runD T C LP fn nt E.m (p ++ [1]) b s K) hcb.1 hfa hcb.2 hflat G hel (by rw [← hit]; exact ha') (by rw [← hit]; exact hb)
  have hcalls := hgives w1 (FrL Fr mu s.heap ids) _ _ (w.heap.size + 1) hpre rfl (LpJ E nt L el p (fun s K => runD T C LP fn nt E.m (p ++ [0]) asg s K) (fun s K => runD T C LP fn nt E.m (p ++ [1]) b s K) K r) (LpX E nt L K r)
    (fun Fr Z xs W Fr' Z' W' ⟨s, FrC, muC, h1, h2⟩ S => ⟨s, FrC, muC, h1.side G S, h2⟩)
    (fun Fr Z _ W Fr' Z' W' ⟨e, s, FrC, muC, h0, h1, h2⟩ S => ⟨e, s, FrC, muC, h0, h1.side G S, h2⟩)
    hround ⟨s', _, mu', LP1, h⟩
  have hdef : ∀ W, (Deferred.ofValue (a.eval g) #[yv (w.heap.size + 1)]).run P W = .ok { target := .fn (.func f) cv.toArray, args := #[yv (w.heap.size + 1)] } W := by
    intro W
    rw [hev]
    simp [Deferred.ofValue]
  refine ⟨w.heap.size + 1, [{ target := .collected w.heap.size, args := #[] }], w1, { target := .fn (.func f) cv.toArray, args := #[yv (w.heap.size + 1)] }, w1, f, (yv (w.heap.size + 1) :: cv).toArray, w1, ?_, ?_, fun f' _ => fc_fn none f', ?_, fun hx => (by rw [fc_depth] at hx; cases hx), fc_calls (Calls.mono hcalls ?_)⟩
  · exact run_enterLoop_outer yf a.tmps ps asg b
  · have := hdef w1
    simpa [resolve, Act.eval, yv] using this
  · show (invoke (.fn (.func f) cv.toArray) #[yv (w.heap.size + 1)]).run P w1 = _
    have e : #[yv (w.heap.size + 1)] ++ cv.toArray = (yv (w.heap.size + 1) :: cv).toArray := by apply Array.ext'; simp
    simp only [invoke]
    rw [run_enter hen, e]
  -- behind the loop
  have fin : ∀ (st : LoopState) (pd : Option Code) (FrI Z : Nat → Prop) (W : World) (s2 : St) (FrC : Nat → Prop) (muC : Nat → Loc) (x : Ex), Lp E nt L st pd FrI Z W s2 FrC muC → K.go x s2 = some r →
      Q (exitOf x) { a with defers := [{ target := .collected w.heap.size, args := #[] }] ++ a.defers } (W.putObj L.l (.loop (L.loop .exhausted pd))) := by
    intro st pd FrI Z W s2 FrC muC x HL hgo
    have H3 := HL.put G .exhausted pd
    refine hK x r s2 _ _ FrC muC hgo ⟨H3.lc.si, fun u d hm => ?_, H3.lc.ma, H3.so⟩ (hfd a _ ha) (hfree _ _ _ _ _ _ _ hg)
    obtain ⟨h1, h2, h3, h4⟩ := H3.tm u d hm
    exact ⟨by show u < a.tmps.size; rw [hA.size a ha]; exact h2, h3, h4⟩
  rintro e W ⟨⟨v, rfl⟩, FrI, Z, hj⟩
  rcases hj with ⟨s2, FrC, muC, HL, h2⟩ | ⟨x, s2, FrC, muC, hx, HL, h2⟩
  · exact ⟨none, _, run_endLoop HL.lc.rec_ (by simp [LpF.loop]), fin _ _ _ _ _ _ _ _ .normal HL h2⟩
  · refine ⟨some (exC x), _, run_endLoop HL.lc.rec_ (by simp [LpF.loop]), ?_⟩
    have := fin _ _ _ _ _ _ _ _ x HL h2
    cases x with
    | normal => exact absurd rfl hx
    | ret => exact wpIn_ret this
    | exit i => exact wpIn_exit this
end
end Go.Abs
set_option autoImplicit false
set_option linter.unusedVariables false
namespace Go.Abs
section
variable {P : Program} {T : Told} {C : AbsFn} {E : Env} {w : World} {Fr : Nat → Prop} {mu : Nat → Loc} {s : St} {a : Act} {R : Type}
theorem norm_next {A : Act → Prop} {G : (Nat → Prop) → (Nat → Prop) → R → World → Prop} {K : Kn R} {Q : Exit → Act → World → Prop} (hG : Abides G) (hK : KOK E A G K Q) {ks : List Nat} {r : R} (H : Rw E w Fr mu s a) (hA : A a) (hg : G Fr (Mine mu s.heap) r w)
    (h : (match (s.only ks).norm E.m with | some s' => K.go .normal s' | none => none) = some r) : Q .normal a w := by
  split at h
  · rename_i s2 hs2
    have H1 := only_Rw H ks
    obtain ⟨mu2, H2⟩ := norm_ok H1.reb hs2
    obtain ⟨H3, S⟩ := H1.back H2
    exact hK .normal r s2 a w Fr mu2 h H3 hA (hG _ _ _ _ _ _ _ hg S)
  · cases h
theorem cut_Rw (H : Rw E w Fr mu s a) (fn : Nat) {t : Nat} {b : Bool} (hb : getT s.tmps t = ⟨.bool, b⟩) : Rw E w Fr mu (cutT T fn s t b) a := by
  have h := cut_ok (T := T) H.reb fn hb
  have hh : (cutT T fn s t b).heap = s.heap := by unfold cutT; split <;> rfl
  exact ⟨by rw [hh]; exact H.si, h.tm, H.df, h.so⟩
theorem cut_heap (fn : Nat) (t : Nat) (b : Bool) : (cutT T fn s t b).heap = s.heap := by unfold cutT; split <;> rfl
def LoopOK (P : Program) (E : Env) (nt : Nat) (it : Option Ty) (R : Type) (LP : List Nat → Run R → Run R) : Prop :=
  ∀ p body c, RunOK P E nt it R body c → RunOK P E nt it R (LP p body) (.loop c)
theorem runD_ok (hM : P.follows .mixedOrders = true) (hT : TabOK P T.tb) (hC : Sound P C) {fn nt m : Nat} {LP : List Nat → Run R → Run R} (hL : ∀ E, LoopOK P E nt (T.it fn) R LP) :
    ∀ (c : Code) (p : List Nat) (E : Env), E.m = m → RunOK P E nt (T.it fn) R (fun s K => runD T C LP fn nt m p c s K) c
  | .skip, p, E, hm, hc, ro, n, A, G, K, Q, hA, hG, hY, hf, hK, r, s, a, w, Fr, mu, H, ha, hg, h => wpIn_skip (hK .normal r s a w Fr mu h H ha hg)
  | .label _, p, E, hm, hc, ro, n, A, G, K, Q, hA, hG, hY, hf, hK, r, s, a, w, Fr, mu, H, ha, hg, h => wpIn_label (hK .normal r s a w Fr mu h H ha hg)
  | .region i ops false, p, E, hm, hc, ro, n, A, G, K, Q, hA, hG, hY, hf, hK, r, s, a, w, Fr, mu, H, ha, hg, h => by
    subst hm
    have h2 : (Code.region i ops false).wpIn (fc ro) n P (normQ (Q .normal)) a w := wpIn_region (opsD_ok (K := fun s' => match (s'.only (T.keep fn i)).norm E.m with | some s' => K.go .normal s' | none => none) hT hC (calmC_region hc) hA.size hA.ops hG hY
      (fun r s' a' w' Fr' mu' hk H' hA' hg' => norm_next hG hK H' hA' hg' hk) _ r s a w Fr mu H ha hg h)
    exact wpIn_mono h2 fun e a w hh => by obtain ⟨rfl, hq⟩ := hh; exact hq
  | .region i ops true, p, E, hm, hc, ro, n, A, G, K, Q, hA, hG, hY, hf, hK, r, s, a, w, Fr, mu, H, ha, hg, h => by
    subst hm
    refine region_draw_in hM hc (wpAnyX_any (Q := normQ (Q .normal)) _ _ _ _ _ _ (anyD_ok (Q := normQ (Q .normal) .normal) (K := fun s' => match (s'.only (T.keep fn i)).norm E.m with | some s' => K.go .normal s' | none => none) hT hC hA.size hA.ops ?_ _ _ _ s a w.drew Fr mu (H.reb.world (Grow.drew w)) ha h))
    intro s' a' w' Fr' mu' hk H' hA'
    obtain ⟨H2, S⟩ := H.back H'
    exact ⟨rfl, norm_next hG hK H2 hA' (hG _ _ _ _ _ _ _ hg S) hk⟩
  | .seq c d, p, E, hm, hc, ro, n, A, G, K, Q, hA, hG, hY, hf, hK, r, s, a, w, Fr, mu, H, ha, hg, h => by
    have hc : (calmC c && calmC d) = true := hc
    simp only [Bool.and_eq_true] at hc
    have hf2 : ((ro = none ∧ T.it fn = none ∧ FreeG G ∧ ∀ a d, A a → A { a with defers := d }) ∨ flatC c = true) ∧ ((ro = none ∧ T.it fn = none ∧ FreeG G ∧ ∀ a d, A a → A { a with defers := d }) ∨ flatC d = true) := by
      rcases hf with hf | hf
      · exact ⟨.inl hf, .inl hf⟩
      · have hf : (flatC c && flatC d) = true := hf
        simp only [Bool.and_eq_true] at hf
        exact ⟨.inr hf.1, .inr hf.2⟩
    refine wpIn_seq (runD_ok hM hT hC hL c (p ++ [0]) E hm hc.1 ro n A G (seqK (T.meet fn (p ++ [1])) (p ++ [1]) (fun s K => runD T C LP fn nt m (p ++ [1]) d s K) K) _ (hA.less fun u hu => List.mem_append_left _ hu) hG hY hf2.1 ?_ r s a w Fr mu H ha hg h)
    intro e r s' a' w' Fr' mu' hk H' hA' hg'
    cases e with
    | normal =>
      have hk : jn (T.meet fn (p ++ [1])) (p ++ [1]) (fun s K => runD T C LP fn nt m (p ++ [1]) d s K) s' K = some r := hk
      rw [jn_eq] at hk
      exact runD_ok hM hT hC hL d (p ++ [1]) E hm hc.2 ro n A G K Q (hA.less fun u hu => List.mem_append_right _ hu) hG hY hf2.2 hK r s' a' w' Fr' mu' H' hA' hg' hk
    | exit i => exact hK (.exit i) r s' a' w' Fr' mu' hk H' hA' hg'
    | ret => exact hK .ret r s' a' w' Fr' mu' hk H' hA' hg'
  | .cond c x y, p, E, hm, hc, ro, n, A, G, K, Q, hA, hG, hY, hf, hK, r, s, a, w, Fr, mu, H, ha, hg, h => by
    have hcx : (calmC x && calmC y) = true := hc
    simp only [Bool.and_eq_true] at hcx
    have hf2 : ((ro = none ∧ T.it fn = none ∧ FreeG G ∧ ∀ a d, A a → A { a with defers := d }) ∨ flatC x = true) ∧ ((ro = none ∧ T.it fn = none ∧ FreeG G ∧ ∀ a d, A a → A { a with defers := d }) ∨ flatC y = true) := by
      rcases hf with hf | hf
      · exact ⟨.inl hf, .inl hf⟩
      · have hf : (flatC x && flatC y) = true := hf
        simp only [Bool.and_eq_true] at hf
        exact ⟨.inr hf.1, .inr hf.2⟩
    cases c with
    | tmp t =>
      have h : (match getT s.tmps t with
        | ⟨.bool, b⟩ => br b (runD T C LP fn nt m (p ++ [0]) x (cutT T fn s t true) K) (runD T C LP fn nt m (p ++ [1]) y (cutT T fn s t false) K)
        | _ => none) = some r := h
      split at h
      case h_2 => cases h
      rename_i b hb
      have hv := (H.reb.get t).1
      rw [hb] at hv
      have hv := VR_bool hv
      rcases br_some h with ⟨rfl, h⟩ | ⟨rfl, h⟩
      · exact wpIn_cond_true hv (runD_ok hM hT hC hL x (p ++ [0]) E hm hcx.1 ro n A G K Q (hA.less fun u hu => List.mem_append_left _ hu) hG hY hf2.1 hK r _ a w Fr mu (cut_Rw H fn hb) ha (by rw [cut_heap]; exact hg) h)
      · exact wpIn_cond_false hv (runD_ok hM hT hC hL y (p ++ [1]) E hm hcx.2 ro n A G K Q (hA.less fun u hu => List.mem_append_right _ hu) hG hY hf2.2 hK r _ a w Fr mu (cut_Rw H fn hb) ha (by rw [cut_heap]; exact hg) h)
    | const _ => cases h
    | global _ => cases h
    | func _ => cases h
  | .block i c, p, E, hm, hc, ro, n, A, G, K, Q, hA, hG, hY, hf, hK, r, s, a, w, Fr, mu, H, ha, hg, h => by
    refine wpIn_block (runD_ok hM hT hC hL c (p ++ [0]) E hm hc ro n A G (blockK i K) _ hA hG hY hf ?_ r s a w Fr mu H ha hg h)
    intro e r s' a' w' Fr' mu' hk H' hA' hg'
    cases e with
    | normal => exact hK .normal r s' a' w' Fr' mu' hk H' hA' hg'
    | ret => exact hK .ret r s' a' w' Fr' mu' hk H' hA' hg'
    | exit j =>
      show (if j = i then Q .normal a' w' else Q (.exit j) a' w')
      have hk : (if j = i then K.go .normal s' else K.go (.exit j) s') = some r := hk
      split
      · rename_i e; rw [if_pos e] at hk; exact hK .normal r s' a' w' Fr' mu' hk H' hA' hg'
      · rename_i e; rw [if_neg e] at hk; exact hK (.exit j) r s' a' w' Fr' mu' hk H' hA' hg'
  | .loop c, p, E, hm, hc, ro, n, A, G, K, Q, hA, hG, hY, hf, hK, r, s, a, w, Fr, mu, H, ha, hg, h =>
    hL E (p ++ [0]) _ c (runD_ok hM hT hC hL c (p ++ [0]) E hm) hc ro n A G K Q hA hG hY hf hK r s a w Fr mu H ha hg h
  | .exit i, p, E, hm, hc, ro, n, A, G, K, Q, hA, hG, hY, hf, hK, r, s, a, w, Fr, mu, H, ha, hg, h => wpIn_exit (hK (.exit i) r s a w Fr mu h H ha hg)
  | .ret, p, E, hm, hc, ro, n, A, G, K, Q, hA, hG, hY, hf, hK, r, s, a, w, Fr, mu, H, ha, hg, h => wpIn_ret (hK .ret r s a w Fr mu h H ha hg)
  | .rangeFunc g ps asg b, p, E, hm, hc, ro, n, A, G, K, Q, hA, hG, hY, hf, hK, r, s, a, w, Fr, mu, H, ha, hg, h => by
    subst hm
    exact range_ok (p := p) (LP := LP) hC (fun E' h => runD_ok hM hT hC hL asg (p ++ [0]) E' h) (fun E' h => runD_ok hM hT hC hL b (p ++ [1]) E' h) hc ro n A G K Q hA hG hY hf hK r s a w Fr mu H ha hg h
  | .scope c, p, E, hm, hc, ro, n, A, G, K, Q, hA, hG, hY, hf, hK, r, s, a, w, Fr, mu, H, ha, hg, h => by
    rcases hf with hf | hf
    · obtain ⟨rfl, h1, h2, h3⟩ := hf
      refine wpIn_wide.2 (wp_scope_straight (wpIn_wide.1 (runD_ok hM hT hC hL c (p ++ [0]) E hm hc none n A G K (Exit.noGoto Q) hA hG hY (.inl ⟨rfl, h1, h2, h3⟩) ?_ r s a w Fr mu H ha hg h)))
      intro e r s' a' w' Fr' mu' hk H' hA' hg'
      have := hK e r s' a' w' Fr' mu' hk H' hA' hg'
      cases e <;> exact this
    · cases hf
  | .goto _, _, _, _, _, _, _, _, _, _, _, _, _, _, _, _, _, _, _, _, _, _, _, _, _, h => by cases h
  | .refuse _, _, _, _, _, _, _, _, _, _, _, _, _, _, _, _, _, _, _, _, _, _, _, _, _, h => by cases h
theorem loopD_ok (k : Nat) {nt : Nat} {it : Option Ty} : LoopOK P E nt it R (fun p b s K => loopD p b k s K) := by
  intro p body c hb hc ro n A G K Q hA hG hY hf hK r s a w Fr mu H ha hg h
  have key : ∀ (j : Nat) (r : R) (s : St) (a : Act) (w : World) (Fr : Nat → Prop) (mu : Nat → Loc), Rw E w Fr mu s a → A a → G Fr (Mine mu s.heap) r w → loopD p body j s K = some r → Code.roundsIn (fc ro) n P c Q j a w := by
    intro j
    induction j with
    | zero => intro r s a w Fr mu H ha hg h; cases h
    | succ j ih =>
      intro r s a w Fr mu H ha hg h
      have h : body s (againK p (loopD p body j) K) = some r := h
      rw [roundsIn_succ]
      refine hb hc ro n A G (againK p (loopD p body j) K) _ hA hG hY hf ?_ r s a w Fr mu H ha hg h
      intro e r s' a' w' Fr' mu' hk H' hA' hg'
      cases e with
      | normal => exact ih r s' a' w' Fr' mu' H' hA' hg' hk
      | exit i => exact hK (.exit i) r s' a' w' Fr' mu' hk H' hA' hg'
      | ret => exact hK .ret r s' a' w' Fr' mu' hk H' hA' hg'
  exact wpIn_loop_rounds k (key k r s a w Fr mu H ha hg h)
end
end Go.Abs
set_option autoImplicit false
set_option linter.unusedVariables false
namespace Go.Abs
section
variable {P : Program} {T : Told} {C : AbsFn} {E : Env} {w : World} {Fr : Nat → Prop} {mu : Nat → Loc} {s : St} {a : Act}
inductive Each (f : Dyn → Value → Prop) : List Dyn → List Value → Prop where
  | nil : Each f [] []
  | cons {d : Dyn} {v : Value} {ds : List Dyn} {vs : List Value} : f d v → Each f ds vs → Each f (d :: ds) (v :: vs)
def resF (tmps : Array Value) : ResultVar → Sem Value
  | .tmp t => Pure.pure (tmps.getD t undef)
  | .cell x t => do loadVar t (← asAddr (tmps.getD x undef))
theorem resD_ok (hT : TabOK P T.tb) (H : Rep E w Fr mu s a) : ∀ (l : List ResultVar) (ds : List Dyn), resD T s l = some ds →
    ∃ vs, (l.mapM (resF a.tmps)).run P w = .ok vs w ∧ Each (fun d v => VR w Fr mu d v ∧ d.t.okN (· < s.heap.length) ∧ d.t.cel = true) ds vs
  | [], ds, h => by
    injection h with h
    subst h
    exact ⟨[], rfl, .nil⟩
  | .tmp t :: l, ds, h => by
    unfold resD at h
    split at h
    case h_2 => cases h
    rename_i r hr
    split at h
    case isFalse => cases h
    rename_i hc
    injection h with h
    subst h
    simp only [Bool.and_eq_true] at hc
    obtain ⟨vs, h1, h2⟩ := resD_ok hT H l r hr
    exact ⟨a.tmps.getD t undef :: vs, by simp only [List.mapM_cons, Sem.run_bind, resF, Sem.run_pure, Result.andThen_ok, h1], .cons ⟨(H.get t).1, (H.get t).2, hc.2⟩ h2⟩
  | .cell x t :: l, ds, h => by
    unfold resD at h
    split at h
    · cases h
    rename_i r hr
    split at h
    case h_2 => cases h
    rename_i ti i off _ hti hq
    split at h
    case h_2 => cases h
    rename_i u y hob
    dsimp only at h
    split at h
    case isFalse => cases h
    rename_i hc
    injection h with h
    subst h
    simp only [Bool.and_eq_true, decide_eq_true_eq] at hc
    obtain ⟨vs, h1, h2⟩ := resD_ok hT H l r hr
    have hx := (H.get x).1
    rw [hq] at hx
    injection (show [a.tmps.getD x undef] = [_] from hx) with hx
    obtain ⟨cells, e, hcell, hcd, hat⟩ := box_CD H (obj_some hob (by simp))
    obtain ⟨v, g1, g2, g3⟩ := run_loadPart (o := 0) (hT _ _ hti) hcd hc.1.1 (.inl hc.1.2)
    have g1 := g1 w hat
    rw [Nat.zero_add] at g1
    refine ⟨v :: vs, ?_, .cons ⟨g2, g3, hc.2⟩ h2⟩
    simp only [List.mapM_cons, Sem.run_bind, resF, hx, asAddr, Sem.run_pure, Result.andThen_ok, g1, h1]
theorem ownAs_chain {tb : Tabs} : ∀ (u t : Ty) (x : den t) (h : List AObj), t.chain = true → (ownAs u t x tb h).1.t.chain = true := by
  intro u t x h
  fun_induction ownAs u t x tb h <;> first | (intro h; exact h) | (intro h; cases h) | (intro h; rfl)
theorem ownAs_ok {tb : Tabs} : ∀ (u t : Ty) (x : den t) (h : List AObj) (mu : Nat → Loc), SI E w Fr mu h → ∀ l, CD w Fr mu (· < h.length) ⟨t, x⟩ l →
    ∃ mu', More E w w Fr mu mu' h (ownAs u t x tb h).2 ∧ CD w Fr mu' (· < (ownAs u t x tb h).2.length) (ownAs u t x tb h).1 l := by
  intro u t x h
  fun_induction ownAs u t x tb h with
  | case1 _ _ e tb h i hi he =>
    intro mu H l hd
    have := hd.rp
    cases this
    refine ⟨upd mu h.length nilLoc, More.one H (Grow.refl _ w) rfl (OR_nil he upd_same) (fun hoc => absurd hoc (occ_nil upd_same)) (fun t x e => by cases e), rfl, ?_, ?_⟩
    · show h.length < (h ++ [_]).length; simp
    · show _ = [(upd mu h.length nilLoc h.length).hdr]; rw [upd_same]; rfl
  | case2 _ _ e tb h i hi he => intro mu H l hd; exact ⟨mu, More.refl H, hd⟩
  | case3 _ _ e tb h hi => intro mu H l hd; exact ⟨mu, More.refl H, hd⟩
  | case4 c d a b tb h x p q ih1 ih2 =>
    intro mu H l hd
    obtain ⟨l1, l2, e, r1, r2⟩ := hd.rp
    obtain ⟨c1, c2, c3⟩ := Ty.cel_pair hd.cel
    obtain ⟨mu1, m1, d1⟩ := ih1 mu H l1 ⟨c1, hd.ok.1, r1⟩
    have d2 : CD w Fr mu1 (· < p.2.length) ⟨b, x.2⟩ l2 := m1.cd ⟨c2, hd.ok.2, r2⟩
    obtain ⟨mu2, m2, d3⟩ := ih2 mu1 m1.si l2 d2
    have d4 := m2.cd d1
    exact ⟨mu2, m1.trans m2, Ty.pair_cel d4.cel d3.cel (ownAs_chain d b x.2 p.2 c3), ⟨d4.ok, d3.ok⟩, l1, l2, e, d4.rp, d3.rp⟩
  | case5 => intro mu H l hd; exact ⟨mu, More.refl H, hd⟩
theorem ownAs_vk {tb : Tabs} : ∀ (u t : Ty) (x : den t) (h : List AObj), (ownAs u t x tb h).1.t.vk = t.vk := by
  intro u t x h
  fun_induction ownAs u t x tb h <;> rfl
theorem ownAs_vr {tb : Tabs} (u : Ty) (d : Dyn) (h : List AObj) (v : Value) (H : SI E w Fr mu h) (hv : VR w Fr mu d v) (hn : d.t.okN (· < h.length)) (hc : d.t.cel = true) :
    ∃ mu', More E w w Fr mu mu' h (ownAs u d.t d.x tb h).2 ∧ VR w Fr mu' (ownAs u d.t d.x tb h).1 v ∧ (ownAs u d.t d.x tb h).1.t.okN (· < (ownAs u d.t d.x tb h).2.length) ∧ (ownAs u d.t d.x tb h).1.t.cel = true := by
  have hk := ownAs_vk (tb := tb) u d.t d.x h
  unfold VR at hv
  cases hvk : d.t.vk with
  | dead =>
    have : d.t = .dead := by revert hvk; cases d.t <;> intro h <;> first | rfl | cases h
    obtain ⟨t, x⟩ := d
    cases this
    have e : ownAs u .dead x tb h = (⟨.dead, x⟩, h) := by cases u <;> rfl
    show ∃ mu', More E w w Fr mu mu' h (ownAs u .dead x tb h).2 ∧ VR w Fr mu' (ownAs u .dead x tb h).1 v ∧ (ownAs u .dead x tb h).1.t.okN (· < (ownAs u .dead x tb h).2.length) ∧ (ownAs u .dead x tb h).1.t.cel = true
    rw [e]
    exact ⟨mu, More.refl H, trivial, hn, hc⟩
  | tup => rw [vk_tup_cel hvk] at hc; cases hc
  | agg =>
    rw [hvk] at hv
    obtain ⟨_, cs, rfl, hr⟩ := hv
    obtain ⟨mu', m, hd⟩ := ownAs_ok (tb := tb) u d.t d.x h mu H cs ⟨hc, hn, hr⟩
    refine ⟨mu', m, ?_, hd.ok, hd.cel⟩
    unfold VR
    rw [hk, hvk]
    exact ⟨hd.cel, cs, rfl, hd.rp⟩
  | one =>
    rw [hvk] at hv
    obtain ⟨mu', m, hd⟩ := ownAs_ok (tb := tb) u d.t d.x h mu H [v] ⟨hc, hn, hv⟩
    refine ⟨mu', m, ?_, hd.ok, hd.cel⟩
    unfold VR
    rw [hk, hvk]
    exact hd.rp
theorem Each.imp {f g : Dyn → Value → Prop} (hi : ∀ d v, f d v → g d v) : ∀ {ds : List Dyn} {vs : List Value}, Each f ds vs → Each g ds vs
  | _, _, .nil => .nil
  | _, _, .cons h t => .cons (hi _ _ h) (Each.imp hi t)
theorem More.each {w' : World} {mu' : Nat → Loc} {h h' : List AObj} (H : More E w w' Fr mu mu' h h') {ds : List Dyn} {vs : List Value} (he : Each (fun d v => VR w Fr mu d v ∧ d.t.okN (· < h.length) ∧ d.t.cel = true) ds vs) :
    Each (fun d v => VR w' Fr mu' d v ∧ d.t.okN (· < h'.length) ∧ d.t.cel = true) ds vs :=
  he.imp fun d v ⟨h1, h2, h3⟩ => ⟨H.vr h1 h2, Ty.okN_mono (fun i hi => Nat.lt_of_lt_of_le hi H.len) _ h2, h3⟩
theorem ownRs_ok {tb : Tabs} : ∀ (rt : Ty) (l : List Dyn) (vs : List Value) (h : List AObj) (mu : Nat → Loc), SI E w Fr mu h → Each (fun d v => VR w Fr mu d v ∧ d.t.okN (· < h.length) ∧ d.t.cel = true) l vs →
    ∃ mu', More E w w Fr mu mu' h (ownRs rt l tb h).2 ∧ Each (fun d v => VR w Fr mu' d v ∧ d.t.okN (· < (ownRs rt l tb h).2.length) ∧ d.t.cel = true) (ownRs rt l tb h).1 vs := by
  intro rt l vs h
  fun_induction ownRs rt l tb h generalizing vs with
  | case1 c r d l tb h p q ih =>
    intro mu H he
    cases he with
    | cons h1 h2 =>
      obtain ⟨mu1, m1, a1, a2, a3⟩ := ownAs_vr (tb := tb) c d h _ H h1.1 h1.2.1 h1.2.2
      obtain ⟨mu2, m2, a4⟩ := ih _ mu1 m1.si (m1.each h2)
      exact ⟨mu2, m1.trans m2, .cons ⟨m2.vr a1 a2, Ty.okN_mono (fun i hi => Nat.lt_of_lt_of_le hi m2.len) _ a2, a3⟩ a4⟩
  | case2 => intro mu H he; exact ⟨mu, More.refl H, he⟩
theorem ownOne_ok {tb : Tabs} (rt : Ty) (l : List Dyn) (vs : List Value) (h : List AObj) (mu : Nat → Loc) (H : SI E w Fr mu h) (he : Each (fun d v => VR w Fr mu d v ∧ d.t.okN (· < h.length) ∧ d.t.cel = true) l vs) :
    ∃ mu', More E w w Fr mu mu' h (ownOne rt l tb h).2 ∧ Each (fun d v => VR w Fr mu' d v ∧ d.t.okN (· < (ownOne rt l tb h).2.length) ∧ d.t.cel = true) (ownOne rt l tb h).1 vs := by
  unfold ownOne
  split
  · cases he with
    | cons h1 h2 =>
      cases h2
      obtain ⟨mu1, m1, a1, a2, a3⟩ := ownAs_vr (tb := tb) rt _ h _ H h1.1 h1.2.1 h1.2.2
      exact ⟨mu1, m1, .cons ⟨a1, a2, a3⟩ .nil⟩
  · exact ownRs_ok rt l vs h mu H he
theorem tupD_ok {p : Nat → Prop} : ∀ (ds : List Dyn) (vs : List Value), Each (fun d v => VR w Fr mu d v ∧ d.t.okN p ∧ d.t.cel = true) ds vs → VR w Fr mu (tupD ds) (.tuple vs.toArray) ∧ (tupD ds).t.okN p := by
  intro ds vs h
  have key : Rp w Fr mu (tupD ds).t (tupD ds).x vs ∧ (tupD ds).t.okN p := by
    induction h with
    | nil => exact ⟨rfl, trivial⟩
    | @cons d v ds vs h1 h2 ih =>
      refine ⟨⟨v, vs, rfl, ?_, ih.1⟩, h1.2.1, ih.2⟩
      obtain ⟨hv, _, hc⟩ := h1
      unfold VR at hv
      show (match d.t.vk with | .dead => _ | .agg => _ | .tup => _ | .one => _)
      revert hv
      cases hk : d.t.vk
      case dead => exact id
      case agg => exact id
      case one => exact id
      case tup => rw [vk_tup_cel hk] at hc; cases hc
  refine ⟨?_, key.2⟩
  cases h with
  | nil => exact ⟨[], rfl, rfl⟩
  | cons _ _ => exact ⟨_, rfl, key.1⟩
theorem asO_some {d : AObj} {t : OTy} {x : denO t} (h : d.as t = some x) : d = ⟨t, x⟩ := by
  obtain ⟨t', x'⟩ := d
  unfold AObj.as at h
  split at h
  · rename_i e
    have e : t' = t := e
    subst e
    injection h with h
    rw [← h]
  · cases h
theorem asObjs_some : ∀ (ts : List OTy) (os : List AObj) (y : denOs ts), asObjs ts os = some y → os = objsOf ts y
  | [], [], _, _ => rfl
  | [], _ :: _, _, h => by cases h
  | t :: ts, [], _, h => by cases h
  | t :: ts, o :: os, y, h => by
    unfold asObjs at h
    split at h
    case h_2 => cases h
    rename_i x hx
    split at h
    case h_2 => cases h
    rename_i z hz
    injection h with h
    subst h
    show o :: os = ⟨t, x⟩ :: objsOf ts z
    rw [asO_some hx, asObjs_some ts os z hz]
theorem loose_get : ∀ (ts : List OTy) (h : List AObj) (i : Nat) (o : AObj), (looseL ts h)[i]? = some o → h[i]? = some o ∨ ∃ (e : Nat) (t : Ty) (f : Bool) (x : List (den t)), h[i]? = some ⟨.row e t f, x⟩ ∧ o = ⟨.row e t false, x⟩
  | [], h, i, o, hi => .inl (by cases h <;> exact hi)
  | t :: ts, [], i, o, hi => by
    have : looseL (t :: ts) [] = [] := by cases t <;> (try rename_i f; cases f) <;> rfl
    rw [this] at hi; simp at hi
  | t :: ts, p :: os, i, o, hi => by
    have hc : (∃ (e : Nat) (u : Ty) (f : Bool) (x : List (den u)), p = ⟨.row e u f, x⟩ ∧ looseL (t :: ts) (p :: os) = ⟨.row e u false, x⟩ :: looseL ts os) ∨ looseL (t :: ts) (p :: os) = p :: looseL ts os := by
      obtain ⟨pt, px⟩ := p
      cases t with
      | gone => exact .inr rfl
      | held => exact .inr rfl
      | box t => exact .inr rfl
      | row e' t' f' =>
        cases f' with
        | true => exact .inr rfl
        | false =>
          cases pt with
          | gone => exact .inr rfl
          | held => exact .inr rfl
          | box t => exact .inr rfl
          | row e u f => exact .inl ⟨e, u, f, px, rfl, rfl⟩
    rcases hc with ⟨e, u, f, x, rfl, hc⟩ | hc
    · rw [hc] at hi
      cases i with
      | zero => simp at hi; exact .inr ⟨e, u, f, x, rfl, hi.symm⟩
      | succ i => exact loose_get ts os i o (by simpa using hi)
    · rw [hc] at hi
      cases i with
      | zero => exact .inl hi
      | succ i => exact loose_get ts os i o (by simpa using hi)
theorem loose_len : ∀ (ts : List OTy) (h : List AObj), (looseL ts h).length = h.length
  | [], h => by cases h <;> rfl
  | t :: ts, [] => by cases t <;> (try rename_i f; cases f) <;> rfl
  | t :: ts, p :: os => by
    have ih := loose_len ts os
    obtain ⟨pt, px⟩ := p
    cases t with
    | gone => exact congrArg (· + 1) ih
    | held => exact congrArg (· + 1) ih
    | box t => exact congrArg (· + 1) ih
    | row e' t' f' =>
      cases f' with
      | true => exact congrArg (· + 1) ih
      | false => cases pt <;> exact congrArg (· + 1) ih
theorem SI.loose {h : List AObj} (H : SI E w Fr mu h) (ts : List OTy) : SI E w Fr mu (looseL ts h) := by
  have hl := loose_len ts h
  have key : ∀ (i : Nat) (o : AObj), (looseL ts h)[i]? = some o → ∃ o', h[i]? = some o' ∧ (OR w Fr mu i o' → OR w Fr mu i o) ∧ (occ mu i o → occ mu i o') ∧ (Handed (mu i) (E.mu0 i) o' → Handed (mu i) (E.mu0 i) o) ∧ (∀ (t : Ty) (x : den t), o = ⟨.box t, x⟩ → o' = ⟨.box t, x⟩) := by
    intro i o hi
    rcases loose_get ts h i o hi with h1 | ⟨e, t, f, x, h1, rfl⟩
    · exact ⟨o, h1, id, id, id, fun _ _ => id⟩
    · exact ⟨_, h1, id, id, fun _ => trivial, fun t x e => by cases e⟩
  refine ⟨H.grow, H.fr0, H.frN, H.frL, H.hh, ?_, ?_, ?_, ?_, ?_, by rw [hl]; exact H.len, H.gl⟩
  · intro i o hi
    obtain ⟨o', h1, h2, _⟩ := key i o hi
    exact h2 (H.obj i o' h1)
  · intro i t x hi
    obtain ⟨o', h1, _, _, _, h2⟩ := key i _ hi
    rw [hl]
    exact H.nm i t x (by rw [h1, h2 t x rfl])
  · intro i j o o' hi hj hne hoi hoj
    obtain ⟨p, h1, _, h2, _⟩ := key i o hi
    obtain ⟨q, h3, _, h4, _⟩ := key j o' hj
    exact H.sep i j p q h1 h3 hne (h2 hoi) (h4 hoj)
  · intro i o hi ho
    obtain ⟨p, h1, _, h2, _⟩ := key i o hi
    exact H.own i p h1 (h2 ho)
  · intro i o him hi
    obtain ⟨p, h1, _, _, h2, _⟩ := key i o hi
    exact h2 (H.hand i p him h1)
theorem mkR_res (rt : Ty) (x : den rt) (ots : List OTy) (y : denOs ots) : resT rt ots (mkR rt x ots y) = x ∧ resO rt ots (mkR rt x ots y) = objsOf ots y := by
  cases ots <;> exact ⟨rfl, rfl⟩
def oneV : List Value → Value
  | [v] => v
  | vs => .tuple vs.toArray
theorem run_results {fn : Func} {tmps : Array Value} {vs : List Value} (h : (fn.results.toList.mapM (resF tmps)).run P w = .ok vs w) :
    (results fn tmps).run P w = .ok (oneV vs) w := by
  have e : results fn tmps = (do
      let vs ← fn.results.mapM (resF tmps)
      Pure.pure (if h : vs.size = 1 then vs[0] else .tuple vs) : Sem Value) := by
    unfold results
    congr 1
  rw [e, Array.mapM_eq_mapM_toList]
  simp only [Sem.run_bind, Sem.run_map]
  rw [h]
  simp only [Result.andThen_ok]
  match vs with
  | [] => rfl
  | [v] => rfl
  | _ :: _ :: _ => rfl
theorem finE_ok {w0 : World} {Fr0 : Nat → Prop} {mu0 : Nat → Loc} {objs : List AObj} (H : Rep (env w0 Fr0 mu0 objs) w Fr mu s a) {d : Dyn} {v : Value} (hval : VR w Fr mu d v ∧ d.t.okN (· < s.heap.length)) {rt : Ty} {ots : List OTy} {r : denR rt ots} (h : finE rt ots objs.length s d = some r) :
    ∃ Fr' mu', Post w0 Fr0 mu0 objs ⟨rt, resT rt ots r⟩ (resO rt ots r) v w Fr' mu' := by
  unfold finE at h
  dsimp only at h
  split at h
  case isFalse => cases h
  rename_i hni
  split at h
  case h_2 => cases h
  rename_i k wv hh hnorm
  split at h
  · cases h
  rename_i x hx
  split at h
  case h_2 => cases h
  rename_i y hy
  injection h with h
  have hfz := H.freeze (ptrIds ots s.heap rt d.t (coeIds rt d.t []))
  have hcv := coe_VR0 (u := rt) (Fr' := FrL Fr mu s.heap (ptrIds ots s.heap rt d.t (coeIds rt d.t []))) (q := fun i => i ∈ ptrIds ots s.heap rt d.t (coeIds rt d.t [])) H.si (fun b hb => .inl hb) (fun i o hi ho hoc => .inr ⟨i, o, hi, ho, hoc, rfl⟩) (coeIds_ok rt _ [] (fun i hi => ptrIds_mono (ots := ots) (h := s.heap) rt d.t _ i hi)) hval.1
  have hrep : Rep (env w0 Fr0 mu0 objs) w (FrL Fr mu s.heap (ptrIds ots s.heap rt d.t (coeIds rt d.t []))) mu ⟨[(0, coe s rt d.t d.x)], (s.freeze (ptrIds ots s.heap rt d.t (coeIds rt d.t []))).heap⟩ ⟨#[v], []⟩ := by
    refine ⟨hfz.si, ?_, rfl, by simp⟩
    intro u d hm
    simp only [List.mem_singleton, Prod.mk.injEq] at hm
    obtain ⟨rfl, rfl⟩ := hm
    refine ⟨by simp, hcv, ?_⟩
    rw [freeze_len]
    exact coe_okN s rt _ _ hval.2
  obtain ⟨mu2, H2⟩ := normF_ok hrep (by rw [layIds_len, List.length_range]; rfl) hnorm
  have hw := H2.tm k wv (by simp)
  have hk : k = 0 := by
    have := hw.1
    simpa using this
  subst hk
  have hvw : VR w (FrL Fr mu s.heap (ptrIds ots s.heap rt d.t (coeIds rt d.t []))) mu2 wv v := hw.2.1
  subst h
  obtain ⟨e1, e2⟩ := mkR_res rt x ots y
  refine ⟨FrL Fr mu s.heap (ptrIds ots s.heap rt d.t (coeIds rt d.t [])), mu2, ?_⟩
  rw [e1, e2, ← asObjs_some ots _ y hy]
  exact ⟨H2.si.loose ots, by rw [← as_some hx]; exact hvw, by have := hw.2.2; rw [as_some hx] at this; rw [loose_len]; exact this⟩
theorem finD_ok (hT : TabOK P T.tb) {w0 : World} {Fr0 : Nat → Prop} {mu0 : Nat → Loc} {objs : List AObj} (H : Rep (env w0 Fr0 mu0 objs) w Fr mu s a) {fn : Func} {rt : Ty} {ots : List OTy} {r : denR rt ots} (h : finD T fn rt ots objs.length s = some r) :
    ∃ v Fr' mu', (results fn a.tmps).run P w = .ok v w ∧ Post w0 Fr0 mu0 objs ⟨rt, resT rt ots r⟩ (resO rt ots r) v w Fr' mu' := by
  unfold finD at h
  split at h
  · cases h
  rename_i l0 hl0
  obtain ⟨vs, h1, h20⟩ := resD_ok hT H fn.results.toList l0 hl0
  obtain ⟨mu', hmore, h2⟩ := ownOne_ok (tb := T.tb) rt l0 vs s.heap mu H.si h20
  have hval : VR w Fr mu' (oneD (ownOne rt l0 T.tb s.heap).1) (oneV vs) ∧ (oneD (ownOne rt l0 T.tb s.heap).1).t.okN (· < (ownOne rt l0 T.tb s.heap).2.length) := by
    revert h2
    generalize (ownOne rt l0 T.tb s.heap).1 = l
    intro h2
    match l, vs, h2 with
    | [], _, .nil => exact tupD_ok [] [] .nil
    | [d], _, .cons h3 .nil => exact ⟨h3.1, h3.2.1⟩
    | d :: d' :: ds, _, .cons h3 (.cons h4 h5) => exact tupD_ok _ _ (.cons h3 (.cons h4 h5))
  obtain ⟨Fr2, mu2, hp⟩ := finE_ok (More.rep H hmore) hval h
  exact ⟨oneV vs, Fr2, mu2, run_results h1, hp⟩
theorem numD_mem : ∀ (l : List Dyn) (n u : Nat) (d : Dyn), (u, d) ∈ numD n l → n ≤ u ∧ l[u - n]? = some d
  | [], _, _, _, h => by cases h
  | x :: l, n, u, d, h => by
    rcases List.mem_cons.1 h with h | h
    · injection h with h1 h2
      subst h1; subst h2
      exact ⟨Nat.le_refl _, by simp⟩
    · obtain ⟨h1, h2⟩ := numD_mem l (n + 1) u d h
      refine ⟨by omega, ?_⟩
      rw [show u - n = (u - (n + 1)) + 1 by omega]
      simpa using h2
theorem numD_sorted : ∀ (l : List Dyn) (n : Nat), ((numD n l).map (·.1)).Pairwise (· < ·)
  | [], _ => by simp [numD]
  | x :: l, n => by
    simp only [numD, List.map_cons, List.pairwise_cons, List.mem_map]
    refine ⟨?_, numD_sorted l (n + 1)⟩
    rintro a ⟨⟨u, d⟩, hm, rfl⟩
    have := (numD_mem l (n + 1) u d hm).1
    show n < u
    omega
def PrimsOK (P : Program) (pr : Prims) : Prop := ∀ (f : Nat) (c : Prim), pr f = some c →
  ∀ (C : AbsFn), Sound P C → ∀ (args : List Dyn) (objs : List AObj) (rt : Ty) (ots : List OTy) (r : denR rt ots), c.run C f args objs rt ots = some r → Enters P f ∧
  ∀ (w : World) (Fr : Nat → Prop) (mu : Nat → Loc) (vs : List Value), Pre w Fr mu objs args vs →
    Calls P f vs.toArray w fun e w' => ∃ v Fr' mu', e = .returned v ∧ Post w Fr mu objs ⟨rt, resT rt ots r⟩ (resO rt ots r) v w' Fr' mu'
structure Fits (P : Program) (T : Told) (pr : Prims) : Prop where
  mixed : P.follows .mixedOrders = true
  tab : TabOK P T.tb
  names : ∀ (f : Nat) (fn : Func), P.funcs[f]? = some fn → fn.name ≠ "runtime.NumGoroutine"
  prims : PrimsOK P pr
theorem leave_marks {n : Nat} {fn : Func} {R : Ending → World → Prop} (tl : ∀ w', SI E w' Fr mu s.heap → (∀ u d, (u, d) ∈ s.tmps → u < a.tmps.size ∧ VR w' Fr mu d (a.tmps.getD u undef) ∧ d.t.okN (· < s.heap.length)) → LeavesIn Fence.wide n P fn a.tmps R [] .returning w') :
    ∀ (ds : List Deferred) (w : World), SI E w Fr mu s.heap → (∀ u d, (u, d) ∈ s.tmps → u < a.tmps.size ∧ VR w Fr mu d (a.tmps.getD u undef) ∧ d.t.okN (· < s.heap.length)) → Marks E w Fr ds → LeavesInM Fence.wide n P fn a.tmps R ds .returning w
  | [], w, hs, ht, _ => tl w hs ht
  | d :: ds, w, hs, ht, hm => by
    obtain ⟨D, h1, h2, h3, h4⟩ := hm.all d (by simp)
    have hdis := List.pairwise_cons.1 hm.dis
    have hO : ∀ b, b < w.heap.size → b = D → ¬ Fr b ∧ ¬ Mine mu s.heap b ∧ (E.O0 b ∨ E.w0.heap.size ≤ b) := by
      rintro b _ rfl
      refine ⟨h4, fun hmi => ?_, .inr h3⟩
      obtain ⟨c, e, f, hc⟩ := occ_cells hs hmi
      rw [h2] at hc; cases hc
    have hg := Grow.putObj w D (.deferred none)
    refine ⟨by simp, .inl ⟨D, w.putObj D (.deferred none), by rw [h1], run_takeDeferred h2, leave_marks tl ds _ (hs.away hg hO) (fun u d hm' => ?_) ⟨fun d' hd' => ?_, hdis.2⟩⟩⟩
    · obtain ⟨g1, g2, g3⟩ := ht u d hm'
      exact ⟨g1, VR_away hs.frL hg (fun b hb ho => (hO b hb ho).1) g2, g3⟩
    · obtain ⟨D', k1, k2, k3, k4⟩ := hm.all d' (List.mem_cons_of_mem _ hd')
      refine ⟨D', k1, (World.putObj_heap_other fun e => ?_).trans k2, k3, k4⟩
      have := hdis.1 d' hd'
      rw [h1, k1, e] at this
      exact this rfl
theorem body_of {f : Nat} (hb : hasBody P f = true) : ∃ fn c, P.funcs[f]? = some fn ∧ fn.body = some c ∧ funcOf P f = fn ∧ codeOf P f = c := by
  unfold hasBody at hb
  split at hb
  · cases hb
  · rename_i fn hf
    obtain ⟨c, hc⟩ := Option.isSome_iff_exists.1 hb
    refine ⟨fn, c, hf, hc, by unfold funcOf; rw [hf], by unfold codeOf; rw [hf]; dsimp only; rw [hc]⟩
theorem start_tm {objs : List AObj} {args : List Dyn} {vs : List Value} {fn : Func} (hpre : Pre w Fr mu objs args vs) (hle : args.length ≤ fn.ntmps) :
    (vs.toArray ++ Array.replicate (fn.ntmps - vs.toArray.size) undef).size = fn.ntmps ∧ ∀ u d, (u, d) ∈ numD 0 args → u < (vs.toArray ++ Array.replicate (fn.ntmps - vs.toArray.size) undef).size ∧ VR w Fr mu d ((vs.toArray ++ Array.replicate (fn.ntmps - vs.toArray.size) undef).getD u undef) ∧ d.t.okN (· < objs.length) := by
  have hsz : (vs.toArray ++ Array.replicate (fn.ntmps - vs.toArray.size) undef).size = fn.ntmps := by
    have := hpre.len
    simp; omega
  refine ⟨hsz, fun u d hm => ?_⟩
  obtain ⟨_, hd⟩ := numD_mem args 0 u d hm
  rw [Nat.sub_zero] at hd
  have hu : u < args.length := (List.getElem?_eq_some_iff.1 hd).1
  have huv : u < vs.length := by rw [← hpre.len]; exact hu
  obtain ⟨h1, h2⟩ := hpre.val u d vs[u] hd (List.getElem?_eq_getElem huv)
  refine ⟨by rw [hsz]; omega, ?_, h2⟩
  have : (vs.toArray ++ Array.replicate (fn.ntmps - vs.toArray.size) undef).getD u undef = vs[u] := by
    simp [Array.getElem?_append, huv]
  rw [this]; exact h1
theorem hand_start {objs : List AObj} {mu : Nat → Loc} (i : Nat) (o : AObj) : Handed (mu i) (mu i) o := by
  obtain ⟨t, x⟩ := o
  cases t with
  | gone => trivial
  | held => rfl
  | box t => rfl
  | row e t f => cases f <;> first | rfl | trivial
theorem yieldL_some {t : Ty} {x : den t} {kt kf : Option (List (den t))} {r : List (den t)} (h : yieldL x kt kf = some r) : kf = some [] ∧ ∃ l, kt = some l ∧ r = x :: l := by
  unfold yieldL at h
  split at h
  · split at h
    · rename_i l
      injection h with h
      exact ⟨rfl, l, rfl, h.symm⟩
    · cases h
  · cases h
theorem callB_ok {pr : Prims} (hP : Fits P T pr) (hC : Sound P C) {LP : Looper} (hL : ∀ (E : Env) (nt : Nat) (it : Option Ty) (R : Type), LoopOK P E nt it R (LP R)) : Sound P (callB P T pr C LP) where
  call := by
    intro f args objs rt ots r hni h
    unfold callB at h
    rw [if_neg (by rw [hni]; simp)] at h
    split at h
    · rename_i c hc
      exact hP.prims f c hc C hC args objs rt ots r h
    split at h
    · cases h
    rename_i hb
    split at h
    case isFalse => cases h
    rename_i hle
    obtain ⟨hit, hle, hcalm⟩ := hle
    obtain ⟨fn, c, hf, hbody, hfo, hco⟩ := body_of hb
    refine ⟨⟨fn, hf, by rw [hbody]; rfl, hP.names f fn hf⟩, ?_⟩
    intro w Fr mu vs hpre
    rw [hfo] at hle
    obtain ⟨hsz, htm⟩ := start_tm (fn := fn) hpre hle
    refine callsIn_wide.1 (callsIn_of_wp_marks (n := 0) hf hbody trivial ?_)
    have hrep0 : Rep (env w Fr mu objs) w Fr mu ⟨numD 0 args, objs⟩ { tmps := vs.toArray ++ Array.replicate (fn.ntmps - vs.toArray.size) undef, defers := [] } := by
      refine ⟨⟨Grow.refl _ w, fun _ => id, fun _ => .inl, hpre.frL, hpre.so.hh, hpre.so.obj, hpre.so.nm, hpre.so.sep, ?_, fun i o _ _ => hand_start (objs := objs) i o, Nat.le_refl _, hpre.gl⟩, htm, rfl, numD_sorted args 0⟩
      intro i o hi ho
      obtain ⟨h1, h2⟩ := hpre.so.own i o hi ho
      exact ⟨.inl ⟨i, o, hi, ho, rfl⟩, h1, h2⟩
    have hrep1 := hrep0.freeze (boxIds ots objs [])
    have hrep : Rw (env w Fr mu objs) w (FrL Fr mu objs (boxIds ots objs [])) mu (St.freeze ⟨numD 0 args, objs⟩ (boxIds ots objs [])) { tmps := vs.toArray ++ Array.replicate (fn.ntmps - vs.toArray.size) undef, defers := [] } := ⟨hrep1.si, hrep1.tm, ⟨by simp, by simp⟩, hrep1.so⟩
    unfold bodyF at h
    rw [hfo, hco] at h
    have h : runD T C (LP _) f fn.ntmps objs.length [] c (St.freeze ⟨numD 0 args, objs⟩ (boxIds ots objs [])) (finK T fn rt ots objs.length) = some r := h
    rw [hco] at hcalm
    refine runD_ok (LP := LP _) (m := objs.length) hP.mixed hP.tab hC (fun E => hL E _ _ _) c [] (env w Fr mu objs) rfl hcalm none 0 (fun a => a.tmps.size = fn.ntmps) (fun _ _ r' _ => r' = r) (finK T fn rt ots objs.length) _ ⟨fun _ => id, fun u _ a v h => by rw [size_put]; exact h⟩ (fun _ _ _ _ _ _ _ h _ => h)
      (fun el he => by have he : T.it f = some el := he; rw [hit] at he; cases he) (.inl ⟨rfl, hit, fun _ _ _ _ _ _ _ h => h, fun _ _ h => h⟩) ?_ r _ _ w _ mu hrep hsz rfl h
    intro e r' s' a' w' Fr' mu' hk H' hnt' hr'
    subst hr'
    have hfin : (∀ j, e ≠ .exit j) → LeavesInM Fence.wide 0 P fn a'.tmps (fun e w' => ∃ v Fr' mu', e = .returned v ∧ Post w Fr mu objs ⟨rt, resT rt ots r'⟩ (resO rt ots r') v w' Fr' mu') a'.defers .returning w' := by
      intro he
      refine leave_marks (E := env w Fr mu objs) (Fr := Fr') (mu := mu') (s := s') (a := a') (fun w2 hs2 ht2 => ?_) a'.defers w' H'.si H'.tm H'.df
      have H2 : Rep (env w Fr mu objs) w2 Fr' mu' s' { tmps := a'.tmps, defers := [] } := ⟨hs2, ht2, rfl, H'.so⟩
      obtain ⟨v, Fr2, mu2, h1, h2⟩ := finD_ok hP.tab H2 (fn := fn) (rt := rt) (ots := ots) (r := r') (by
        cases e with
        | normal => exact hk
        | ret => exact hk
        | exit j => exact absurd rfl (he j))
      exact ⟨v, h1, v, Fr2, mu2, rfl, h2⟩
    cases e with
    | normal => exact hfin (by simp)
    | ret => exact hfin (by simp)
    | exit j => cases hk
  seq := by
    intro f args el xs h
    unfold callB at h
    have h : (if T.it f = some el ∧ hasBody P f = true ∧ (funcOf P f).results.size = 0 ∧ args.length ≤ (funcOf P f).ntmps ∧ calmC (codeOf P f) = true ∧ flatC (codeOf P f) = true then bodyF P T C LP f 1 [] ⟨numD 0 args, [heldO]⟩ (iterK (List (den el)) []) else none) = some xs := h
    split at h
    case isFalse => cases h
    rename_i hle
    obtain ⟨hit, hb, hres, hle, hcalm, hflat⟩ := hle
    obtain ⟨fn, c, hf, hbody, hfo, hco⟩ := body_of hb
    refine ⟨⟨fn, hf, by rw [hbody]; rfl, hP.names f fn hf⟩, ?_⟩
    intro w Fr mu vs l hpre hl J Jx hJ hJx hR hJ0
    rw [hfo] at hle hres
    obtain ⟨hsz, htm⟩ := start_tm (fn := fn) hpre hle
    refine callsIn_wide.1 (callsIn_of_wp_marks (n := 0) hf hbody trivial ?_)
    have hmine : ∀ b, ¬ Mine mu [heldO] b := by
      rintro b ⟨i, o, hi, ho, _⟩
      cases i with
      | zero => injection hi with hi; subst hi; exact ho
      | succ i => simp at hi
    have hrep : Rw ⟨w, Fr, fun b => ¬ Fr b, mu, 1, []⟩ w Fr mu ⟨numD 0 args, [heldO]⟩ { tmps := vs.toArray ++ Array.replicate (fn.ntmps - vs.toArray.size) undef, defers := [] } := by
      refine ⟨⟨Grow.refl _ w, fun _ => id, fun _ => .inl, hpre.frL, hpre.so.hh, hpre.so.obj, hpre.so.nm, hpre.so.sep, ?_, fun i o _ _ => hand_start (objs := []) i o, Nat.le_refl _, hpre.gl⟩, htm, ⟨by simp, by simp⟩, numD_sorted args 0⟩
      exact fun i o hi ho => (hmine _ ⟨i, o, hi, ho, rfl⟩).elim
    unfold bodyF at h
    rw [hfo, hco] at h
    have h : runD T C (LP _) f fn.ntmps 1 [] c ⟨numD 0 args, [heldO]⟩ (iterK (List (den el)) []) = some xs := h
    rw [hco] at hcalm hflat
    refine runD_ok (LP := LP _) (m := 1) hP.mixed hP.tab hC (fun E => hL E _ _ _) c [] ⟨w, Fr, fun b => ¬ Fr b, mu, 1, []⟩ rfl hcalm none 0 (fun a => a.tmps.size = fn.ntmps ∧ a.defers = []) (fun Fr Z r w => J Fr Z r w ∨ (r = [] ∧ Jx Fr Z () w)) (iterK (List (den el)) []) _
      ⟨fun _ h => h.1, fun u _ a v h => ⟨by rw [size_put]; exact h.1, by rw [put_defers]; exact h.2⟩⟩ (fun Fr Z r w Fr' Z' w' hg S => hg.imp (fun h => hJ _ _ _ _ _ _ _ h S) fun h => ⟨h.1, hJx _ _ _ _ _ _ _ h.2 S⟩) ?_ (.inr hflat) ?_ xs _ _ w Fr mu hrep ⟨hsz, rfl⟩ ?_ h
    · intro el' he
      have he : T.it f = some el' := he
      rw [hit] at he
      injection he with he
      subst he
      refine ⟨fun b hb => Classical.not_not.1 hb, Nat.zero_lt_one, fun a h => h.2, l, hl, ?_⟩
      rintro Fr Z x kt kf r w mu vs hy hg ⟨ds, hcap, hlen, hv⟩
      rw [yieldW_eq] at hy
      obtain ⟨rfl, rest, rfl, rfl⟩ := yieldL_some hy
      rcases hg with hg | ⟨hg, _⟩
      case inr => cases hg
      obtain ⟨y1, y2, y3, y4, hrun, hround⟩ := hR Fr Z x rest w mu ds vs hg hcap hlen hv
      refine ⟨y1, y2, y3, y4, hrun, hround.mono fun e w' he => ?_⟩
      obtain ⟨hleft, he⟩ := he
      refine ⟨hleft, ?_⟩
      rcases he with ⟨he, hj⟩ | ⟨he, hj⟩
      · exact .inl ⟨he, rest, rfl, .inl hj⟩
      · exact .inr ⟨he, [], rfl, .inr ⟨rfl, hj⟩⟩
    · intro e r' s' a' w' Fr' mu' hk H' hnt' hr'
      have hfin : r' = [] → LeavesInM Fence.wide 0 P fn a'.tmps (fun e w' => (∃ v, e = .returned v) ∧ ∃ Fr' Z', J Fr' Z' [] w' ∨ Jx Fr' Z' () w') a'.defers .returning w' := by
        intro he
        subst he
        rw [hnt'.2]
        have hl0 : fn.results.toList = [] := by
          have : fn.results = #[] := Array.eq_empty_of_size_eq_zero hres
          rw [this]
        refine ⟨_, run_results (vs := []) (by rw [hl0]; rfl), ⟨_, rfl⟩, Fr', _, hr'.imp id fun h => h.2⟩
      cases e with
      | normal => injection hk with hk; exact hfin hk.symm
      | ret => injection hk with hk; exact hfin hk.symm
      | exit j => cases hk
    · refine .inl (hJ _ _ _ _ _ _ _ hJ0 ⟨Grow.refl _ _, fun _ h => h, fun _ h => .inl h, fun b hb => (hmine b hb).elim, fun b hb => (hmine b hb).elim, fun b hb => ?_⟩)
      rcases hb with hb | hb
      · exact hpre.frL b hb
      · exact (hmine b hb).elim
end
end Go.Abs
set_option autoImplicit false
set_option linter.unusedVariables false
namespace Go.Abs
section
variable {R A : Type}
structure IsLim (x : Nat → Option R) (y : Option R) : Prop where
  mono : ∀ k r, x k = some r → x (k + 1) = some r
  iff : ∀ r, y = some r ↔ ∃ k, x k = some r
theorem IsLim.const (y : Option R) : IsLim (fun _ => y) y := ⟨fun _ _ h => h, fun r => ⟨fun h => ⟨0, h⟩, fun ⟨_, h⟩ => h⟩⟩
theorem IsLim.le {x : Nat → Option R} {y : Option R} (h : IsLim x y) {k : Nat} {r : R} : ∀ (j : Nat), x k = some r → x (k + j) = some r
  | 0, e => e
  | j + 1, e => h.mono _ _ (h.le j e)
theorem IsLim.ge {x : Nat → Option R} {y : Option R} (h : IsLim x y) {k j : Nat} {r : R} (hk : k ≤ j) (e : x k = some r) : x j = some r := by
  have := h.le (j - k) e
  rwa [Nat.add_sub_cancel' hk] at this
theorem IsLim.uniq {x : Nat → Option R} {y y' : Option R} (h : IsLim x y) (h' : IsLim x y') : y = y' := by
  cases y with
  | some r => exact ((h'.iff r).2 ((h.iff r).1 rfl)).symm
  | none => cases y' with
    | none => rfl
    | some r => have := (h.iff r).2 ((h'.iff r).1 rfl); cases this
theorem IsLim.shift {x : Nat → Option R} {y : Option R} (h : IsLim x y) : IsLim (fun k => x (k + 1)) y :=
  ⟨fun k r => h.mono (k + 1) r, fun r => ⟨fun e => by obtain ⟨k, hk⟩ := (h.iff r).1 e; exact ⟨k, h.mono k r hk⟩, fun ⟨k, hk⟩ => (h.iff r).2 ⟨k + 1, hk⟩⟩⟩
theorem IsLim.br {b : Bool} {x1 x2 : Nat → Option R} {y1 y2 : Option R} (h1 : IsLim x1 y1) (h2 : IsLim x2 y2) : IsLim (fun k => br b (x1 k) (x2 k)) (br b y1 y2) := by
  cases b
  · exact h2
  · exact h1
theorem IsLim.bnd {x : Nat → Option A} {y : Option A} {K : Nat → A → Option R} {K' : A → Option R} (h : IsLim x y) (hK : ∀ a, IsLim (fun k => K k a) (K' a)) : IsLim (fun k => bnd (x k) (K k)) (bnd y K') := by
  refine ⟨fun k r e => ?_, fun r => ⟨fun e => ?_, fun ⟨k, e⟩ => ?_⟩⟩
  · unfold Abs.bnd at e ⊢
    obtain ⟨a, h1, h2⟩ := Option.bind_eq_some_iff.1 e
    exact Option.bind_eq_some_iff.2 ⟨a, h.mono k a h1, (hK a).mono k r h2⟩
  · unfold Abs.bnd at e ⊢
    obtain ⟨a, h1, h2⟩ := Option.bind_eq_some_iff.1 e
    obtain ⟨k1, g1⟩ := (h.iff a).1 h1
    obtain ⟨k2, g2⟩ := ((hK a).iff r).1 h2
    exact ⟨k1 + k2, Option.bind_eq_some_iff.2 ⟨a, h.le k2 g1, (hK a).ge (Nat.le_add_left _ _) g2⟩⟩
  · unfold Abs.bnd at e ⊢
    obtain ⟨a, h1, h2⟩ := Option.bind_eq_some_iff.1 e
    exact Option.bind_eq_some_iff.2 ⟨a, (h.iff a).2 ⟨k, h1⟩, ((hK a).iff r).2 ⟨k, h2⟩⟩
theorem both_iff {x y : Option R} {r : R} : both x y = some r ↔ x = some r ∧ y = some r := by
  refine ⟨both_some, fun ⟨h1, h2⟩ => ?_⟩
  unfold both
  rw [if_pos (h1.trans h2.symm)]
  exact h1
theorem IsLim.both {x1 x2 : Nat → Option R} {y1 y2 : Option R} (h1 : IsLim x1 y1) (h2 : IsLim x2 y2) : IsLim (fun k => both (x1 k) (x2 k)) (both y1 y2) := by
  refine ⟨fun k r e => ?_, fun r => ⟨fun e => ?_, fun ⟨k, e⟩ => ?_⟩⟩
  · have e := both_iff.1 e
    exact both_iff.2 ⟨h1.mono k r e.1, h2.mono k r e.2⟩
  · have e := both_iff.1 e
    obtain ⟨k1, g1⟩ := (h1.iff r).1 e.1
    obtain ⟨k2, g2⟩ := (h2.iff r).1 e.2
    exact ⟨k1 + k2, both_iff.2 ⟨h1.le k2 g1, h2.ge (Nat.le_add_left _ _) g2⟩⟩
  · have e := both_iff.1 e
    exact both_iff.2 ⟨(h1.iff r).2 ⟨k, e.1⟩, (h2.iff r).2 ⟨k, e.2⟩⟩
theorem yieldL_iff {t : Ty} {x : den t} {kt kf : Option (List (den t))} {r : List (den t)} : yieldL x kt kf = some r ↔ kf = some [] ∧ ∃ l, kt = some l ∧ r = x :: l := by
  refine ⟨yieldL_some, ?_⟩
  rintro ⟨rfl, l, rfl, rfl⟩
  rfl
theorem IsLim.yieldW {d : Dyn} {x1 x2 : Nat → Option R} {y1 y2 : Option R} (h1 : IsLim x1 y1) (h2 : IsLim x2 y2) : IsLim (fun k => yieldW d (x1 k) (x2 k)) (yieldW d y1 y2) := by
  by_cases h : R = List (den d.t)
  · subst h
    obtain ⟨t, x⟩ := d
    simp only [yieldW_eq]
    refine ⟨fun k r e => ?_, fun r => ⟨fun e => ?_, fun ⟨k, e⟩ => ?_⟩⟩
    · obtain ⟨e1, l, e2, e3⟩ := yieldL_iff.1 e
      exact yieldL_iff.2 ⟨h2.mono k _ e1, l, h1.mono k _ e2, e3⟩
    · obtain ⟨e1, l, e2, e3⟩ := yieldL_iff.1 e
      obtain ⟨k1, g1⟩ := (h2.iff _).1 e1
      obtain ⟨k2, g2⟩ := (h1.iff _).1 e2
      exact ⟨k1 + k2, yieldL_iff.2 ⟨h2.le k2 g1, l, h1.ge (Nat.le_add_left _ _) g2, e3⟩⟩
    · obtain ⟨e1, l, e2, e3⟩ := yieldL_iff.1 e
      exact yieldL_iff.2 ⟨(h2.iff _).2 ⟨k, e1⟩, l, (h1.iff _).2 ⟨k, e2⟩, e3⟩
  · have e : ∀ a b : Option R, Abs.yieldW d a b = none := fun a b => by unfold Abs.yieldW; rw [dif_neg h]
    simp only [e]
    exact .const _
theorem IsLim.boths {L : Type} {f : Nat → L → Option R} {g : L → Option R} (h : ∀ a, IsLim (fun k => f k a) (g a)) : ∀ (l : List L), IsLim (fun k => boths (l.map (f k))) (boths (l.map g))
  | [] => .const _
  | [a] => h a
  | a :: b :: l => IsLim.both (h a) (IsLim.boths h (b :: l))
theorem lim_ok {x : Nat → Option R} (h : ∀ k r, x k = some r → x (k + 1) = some r) : IsLim x (lim x) := by
  refine ⟨h, fun r => ⟨fun e => ?_, fun ⟨k, e⟩ => ?_⟩⟩
  · unfold lim at e
    split at e
    · exact ⟨_, e⟩
    · cases e
  · have hx : ∃ k r, x k = some r := ⟨k, r, e⟩
    unfold lim
    rw [dif_pos hx]
    obtain ⟨r', e'⟩ := Classical.choose_spec hx
    rw [e']
    have L : IsLim x (some r') := ⟨h, fun r2 => ⟨fun e2 => by injection e2 with e2; subst e2; exact ⟨_, e'⟩, fun ⟨k2, e2⟩ => ?_⟩⟩
    · exact ((L.iff r).2 ⟨k, e⟩)
    · have up : ∀ (j k : Nat) (r : R), x k = some r → x (k + j) = some r := by
        intro j
        induction j with
        | zero => intro k r e; exact e
        | succ j ih => intro k r e; exact h _ _ (ih k r e)
      have a1 := up k2 _ _ e'
      have a2 := up (Classical.choose hx) _ _ e2
      rw [Nat.add_comm] at a2
      rw [a1] at a2
      exact a2
theorem lim_some {x : Nat → Option R} {r : R} (h : lim x = some r) : ∃ k, x k = some r := by
  unfold lim at h
  split at h
  · exact ⟨_, h⟩
  · cases h
def KLim (Ks : Nat → Kn R) (K : Kn R) : Prop := ∀ e s, IsLim (fun k => (Ks k).go e s) (K.go e s)
def CLim (Cs : Nat → AbsFn) (C : AbsFn) : Prop := ∀ f args objs rt ots, IsLim (fun k => Cs k f args objs rt ots) (C f args objs rt ots)
def RLim (bs : Nat → Run R) (b : Run R) : Prop := ∀ s Ks K, KLim Ks K → IsLim (fun k => bs k s (Ks k)) (b s K)
theorem CLim.const (C : AbsFn) : CLim (fun _ => C) C := fun _ _ _ _ _ => .const _
theorem KLim.const (K : Kn R) : KLim (fun _ => K) K := fun _ _ => .const _
theorem againK_lim {p : List Nat} {ls : Nat → Run R} {l : Run R} {Ks : Nat → Kn R} {K : Kn R} (hl : ∀ s, IsLim (fun k => ls k s (Ks k)) (l s K)) (hK : KLim Ks K) : KLim (fun k => againK p (ls k) (Ks k)) (againK p l K) := by
  intro e s
  cases e with
  | normal => exact hl s
  | exit i => exact hK (.exit i) s
  | ret => exact hK .ret s
theorem seqK_lim {f : Bool} {p : List Nat} {bs : Nat → Run R} {b : Run R} {Ks : Nat → Kn R} {K : Kn R} (hb : RLim bs b) (hK : KLim Ks K) : KLim (fun k => seqK f p (bs k) (Ks k)) (seqK f p b K) := by
  intro e s
  cases e with
  | normal =>
    show IsLim (fun k => jn f p (bs k) s (Ks k)) (jn f p b s K)
    simp only [jn_eq]
    exact hb s Ks K hK
  | exit i => exact hK (.exit i) s
  | ret => exact hK .ret s
theorem blockK_lim {i : Nat} {Ks : Nat → Kn R} {K : Kn R} (hK : KLim Ks K) : KLim (fun k => blockK i (Ks k)) (blockK i K) := by
  intro e s
  cases e with
  | normal => exact hK .normal s
  | exit j =>
    show IsLim (fun k => if j = i then (Ks k).go .normal s else (Ks k).go (.exit j) s) (if j = i then K.go .normal s else K.go (.exit j) s)
    split
    · exact hK .normal s
    · exact hK (.exit j) s
  | ret => exact hK .ret s
theorem loopD_lim {p : List Nat} {bs : Nat → Run R} {b : Run R} (hb : RLim bs b) : ∀ (i : Nat), RLim (fun k => loopD p (bs k) i) (loopD p b i)
  | 0 => fun _ _ _ _ => .const _
  | i + 1 => fun s Ks K hK => hb s _ _ (againK_lim (fun s' => loopD_lim hb i s' Ks K hK) hK)
theorem RLim.up {b : Run R} (hb : RLim (fun _ => b) b) {s : St} {K K' : Kn R} (hK : ∀ e s r, K.go e s = some r → K'.go e s = some r) {r : R} (h : b s K = some r) : b s K' = some r := by
  have hl : KLim (fun k => if k = 0 then K else K') K' := by
    intro e s
    refine ⟨fun k r e => ?_, fun r => ⟨fun e => ⟨1, e⟩, fun ⟨k, e⟩ => ?_⟩⟩
    · dsimp only at e ⊢
      rw [if_neg (by omega)]
      split at e
      · exact hK _ _ _ e
      · exact e
    · dsimp only at e
      split at e
      · exact hK _ _ _ e
      · exact e
  exact (hb s _ K' hl).mono 0 r h
theorem loopD_up {p : List Nat} {b : Run R} (hb : RLim (fun _ => b) b) : ∀ (j : Nat) (s : St) (K : Kn R) (r : R), loopD p b j s K = some r → loopD p b (j + 1) s K = some r
  | 0, _, _, _, h => by cases h
  | j + 1, s, K, r, h => by
    refine hb.up (K := againK p (loopD p b j) K) ?_ h
    intro e s' r' h'
    cases e with
    | normal => exact loopD_up hb j s' K r' h'
    | exit i => exact h'
    | ret => exact h'
theorem loopW_is {p : List Nat} {b : Run R} (hb : RLim (fun _ => b) b) (s : St) (K : Kn R) : IsLim (fun j => loopD p b j s K) (loopW p b s K) := lim_ok fun k r h => loopD_up hb k s K r h
theorem loopW_lim {p : List Nat} {bs : Nat → Run R} {b : Run R} (h1 : ∀ j, RLim (fun _ => bs j) (bs j)) (h2 : RLim (fun _ => b) b) (h3 : RLim bs b) : RLim (fun k => loopW p (bs k)) (loopW p b) := by
  intro s Ks K hK
  refine ⟨fun k r e => ?_, fun r => ⟨fun e => ?_, fun ⟨k, e⟩ => ?_⟩⟩
  · obtain ⟨i, e⟩ := ((loopW_is (h1 k) s (Ks k)).iff r).1 e
    exact ((loopW_is (h1 (k + 1)) s (Ks (k + 1))).iff r).2 ⟨i, (loopD_lim h3 i s Ks K hK).mono k r e⟩
  · obtain ⟨i, e⟩ := ((loopW_is h2 s K).iff r).1 e
    obtain ⟨k, e⟩ := ((loopD_lim h3 i s Ks K hK).iff r).1 e
    exact ⟨k, ((loopW_is (h1 k) s (Ks k)).iff r).2 ⟨i, e⟩⟩
  · obtain ⟨i, e⟩ := ((loopW_is (h1 k) s (Ks k)).iff r).1 e
    exact ((loopW_is h2 s K).iff r).2 ⟨i, ((loopD_lim h3 i s Ks K hK).iff r).2 ⟨k, e⟩⟩
theorem loopW_eq {p : List Nat} {b : Run R} (hb : RLim (fun _ => b) b) (s : St) (K : Kn R) : loopW p b s K = b s (againK p (loopW p b) K) :=
  (loopW_is hb s K).shift.uniq (hb s _ _ (againK_lim (fun s' => loopW_is hb s' K) (.const K)))
variable {T : Told} {Cs : Nat → AbsFn} {C : AbsFn}
theorem callD_lim (hC : CLim Cs C) {f : Nat} {args : List Dyn} {s : St} {Ks : Nat → Dyn → St → Option R} {K : Dyn → St → Option R} (hK : ∀ d s, IsLim (fun k => Ks k d s) (K d s)) : IsLim (fun k => callD T (Cs k) f args s (Ks k)) (callD T C f args s K) := by
  unfold callD
  split
  · exact .const _
  split
  · exact .const _
  dsimp only
  split
  · exact IsLim.bnd (hC _ _ _ _ _) fun a => hK _ _
  · exact .const _
theorem opD_lim (hC : CLim Cs C) {fn : Nat} {o : Oper} {s : St} {Ks : Nat → Dyn → St → Option R} {K : Dyn → St → Option R} (hK : ∀ d s, IsLim (fun k => Ks k d s) (K d s)) : IsLim (fun k => opD T (Cs k) fn o s (Ks k)) (opD T C fn o s K) := by
  unfold opD
  split
  · split
    · refine IsLim.br ?_ ?_
      · split
        · exact hK _ _
        · exact .const _
      · split
        · exact hK _ _
        · exact .const _
    · exact .const _
  · split
    · split
      · exact callD_lim hC hK
      · exact .const _
    · exact .const _
  · split
    · exact IsLim.br (IsLim.both (hK _ _) (hK _ _)) (hK _ _)
    split
    · exact IsLim.br (hK _ _) (.const _)
    · exact .const _
theorem stepD_lim (hC : CLim Cs C) {fn nt : Nat} {all : Array Oper} {i : Nat} {s : St} {Ks : Nat → St → Option R} {K : St → Option R} (hK : ∀ s, IsLim (fun k => Ks k s) (K s)) : IsLim (fun k => stepD T (Cs k) fn nt all i s (Ks k)) (stepD T C fn nt all i s K) := by
  unfold stepD
  split
  · exact .const _
  split
  · exact .const _
  split
  · exact opD_lim hC fun d s => hK _
  · split
    · exact .const _
    split
    · refine IsLim.br ?_ ?_
      · split
        · exact opD_lim hC fun d s => hK _
        · exact hK _
      · split
        · exact opD_lim hC fun d s => hK _
        · exact hK _
    · exact hK _
    · exact .const _
theorem opsD_lim (hC : CLim Cs C) {fn nt : Nat} {all : Array Oper} {Ks : Nat → St → Option R} {K : St → Option R} (hK : ∀ s, IsLim (fun k => Ks k s) (K s)) : ∀ (l : List Nat) (s : St), IsLim (fun k => opsD T (Cs k) fn nt all l s (Ks k)) (opsD T C fn nt all l s K)
  | [], s => hK s
  | i :: l, s => by
    unfold opsD
    split
    · split
      · exact IsLim.yieldW (opsD_lim hC hK l _) (opsD_lim hC hK l _)
      · exact .const _
    · exact stepD_lim hC fun s' => opsD_lim hC hK l s'
theorem anyD_lim (hC : CLim Cs C) {fn nt : Nat} {all : Array Oper} {Ks : Nat → St → Option R} {K : St → Option R} (hK : ∀ s, IsLim (fun k => Ks k s) (K s)) : ∀ (n : Nat) (listed : Array Bool) (need : List Nat) (s : St), IsLim (fun k => anyD T (Cs k) fn nt all n listed need s (Ks k)) (anyD T C fn nt all n listed need s K) := by
  intro n
  induction n with
  | zero =>
    intro listed need s
    unfold anyD
    split
    · exact hK s
    · exact .const _
  | succ n ih =>
    intro listed need s
    unfold anyD
    split
    · exact hK s
    split
    · exact stepD_lim hC fun s' => ih _ _ _
    · refine IsLim.boths (fun i => ?_) _
      split
      · split
        · exact .const _
        · exact stepD_lim hC fun s' => ih _ _ _
      · exact .const _
theorem normK_lim {Ks : Nat → Kn R} {K : Kn R} (hK : KLim Ks K) (x : Option St) : IsLim (fun k => match x with | some s' => (Ks k).go .normal s' | none => none) (match x with | some s' => K.go .normal s' | none => none) := by
  cases x with
  | none => exact .const _
  | some s' => exact hK _ _
theorem rangeD_lim {el : Ty} {p : List Nat} {m : Nat} {ks : List Nat} {ps : List Tmp} {ras bs : Nat → Run R} {a b : Run R} (ha : RLim ras a) (hb : RLim bs b) : ∀ (xs : List (den el)), RLim (fun k => rangeD el p m ks ps (ras k) (bs k) xs) (rangeD el p m ks ps a b xs)
  | [] => fun s Ks K hK => hK .normal s
  | x :: l => fun s Ks K hK => by
    show IsLim (fun k => match capD el x with
      | some ds => if ps.length = ds.length then ras k (putL ps ds s) (asgK (bs k) (roundK m ks (rangeD el p m ks ps (ras k) (bs k) l) (Ks k))) else none
      | none => none) (match capD el x with
      | some ds => if ps.length = ds.length then a (putL ps ds s) (asgK b (roundK m ks (rangeD el p m ks ps a b l) K)) else none
      | none => none)
    split
    · split
      · refine ha _ _ _ fun e s => ?_
        unfold asgK
        cases e with
        | ret => exact .const _
        | exit i => exact .const _
        | normal =>
        refine hb _ _ _ fun e s => ?_
        unfold roundK
        dsimp only
        split
        · exact .const _
        · cases e with
          | normal => exact rangeD_lim ha hb l _ Ks K hK
          | ret => exact hK _ _
          | exit i => exact hK _ _
      · exact .const _
    · exact .const _
theorem runD_lim {fn nt m : Nat} : ∀ (c : Code) (Cs : Nat → AbsFn) (C : AbsFn) (p : List Nat), CLim Cs C → RLim (fun k s K => runD T (Cs k) (@loopW R) fn nt m p c s K) (fun s K => runD T C (@loopW R) fn nt m p c s K)
  | .skip, Cs, C, p, hC => fun s Ks K hK => hK .normal s
  | .label _, Cs, C, p, hC => fun s Ks K hK => hK .normal s
  | .region i ops false, Cs, C, p, hC => fun s Ks K hK => opsD_lim hC (fun s' => normK_lim hK _) _ s
  | .region i ops true, Cs, C, p, hC => fun s Ks K hK => anyD_lim hC (fun s' => normK_lim hK _) _ _ _ s
  | .seq c d, Cs, C, p, hC => fun s Ks K hK => runD_lim c Cs C (p ++ [0]) hC s _ _ (seqK_lim (runD_lim d Cs C (p ++ [1]) hC) hK)
  | .cond c x y, Cs, C, p, hC => fun s Ks K hK => by
    cases c with
    | tmp t =>
      show IsLim (fun k => match getT s.tmps t with
        | ⟨.bool, b⟩ => br b (runD T (Cs k) (@loopW R) fn nt m (p ++ [0]) x (cutT T fn s t true) (Ks k)) (runD T (Cs k) (@loopW R) fn nt m (p ++ [1]) y (cutT T fn s t false) (Ks k))
        | _ => none) (match getT s.tmps t with
        | ⟨.bool, b⟩ => br b (runD T C (@loopW R) fn nt m (p ++ [0]) x (cutT T fn s t true) K) (runD T C (@loopW R) fn nt m (p ++ [1]) y (cutT T fn s t false) K)
        | _ => none)
      split
      · exact IsLim.br (runD_lim x Cs C (p ++ [0]) hC _ Ks K hK) (runD_lim y Cs C (p ++ [1]) hC _ Ks K hK)
      · exact .const _
    | const _ => exact .const _
    | global _ => exact .const _
    | func _ => exact .const _
  | .block i c, Cs, C, p, hC => fun s Ks K hK => runD_lim c Cs C (p ++ [0]) hC s _ _ (blockK_lim hK)
  | .loop c, Cs, C, p, hC => fun s Ks K hK =>
    loopW_lim (fun j => runD_lim c (fun _ => Cs j) (Cs j) (p ++ [0]) (.const _)) (runD_lim c (fun _ => C) C (p ++ [0]) (.const _)) (runD_lim c Cs C (p ++ [0]) hC) s Ks K hK
  | .exit i, Cs, C, p, hC => fun s Ks K hK => hK (.exit i) s
  | .ret, Cs, C, p, hC => fun s Ks K hK => hK .ret s
  | .rangeFunc g ps a b, Cs, C, p, hC => fun s Ks K hK => by
    unfold runD
    dsimp only
    split
    · split
      · split
        · split
          · refine IsLim.bnd (hC _ _ _ _ _) fun xs => ?_
            split
            · exact rangeD_lim (runD_lim a Cs C (p ++ [0]) hC) (runD_lim b Cs C (p ++ [1]) hC) xs _ _ _ hK
            · exact .const _
          · exact .const _
        · exact .const _
      · exact .const _
    · exact .const _
  | .scope c, Cs, C, p, hC => fun s Ks K hK => runD_lim c Cs C (p ++ [0]) hC s Ks K hK
  | .goto _, _, _, _, _ => fun _ _ _ _ => .const _
  | .refuse _, _, _, _, _ => fun _ _ _ _ => .const _
variable {P : Program} {pr : Prims}
theorem partL_lim (hC : CLim Cs C) (fh fc fw : Nat) (r : Ty) (level bits : Int) : ∀ (l : List (den (.pair .str r))) (m : Int → List (den (.pair .str r))) (s : Int), IsLim (fun k => partL (Cs k) fh fc fw r level bits l m s) (partL C fh fc fw r level bits l m s)
  | [], m, s => .const _
  | p :: l, m, s => IsLim.bnd (hC _ _ _ _ _) fun h => IsLim.bnd (hC _ _ _ _ _) fun i => IsLim.bnd (hC _ _ _ _ _) fun s' => partL_lim hC fh fc fw r level bits l _ _
theorem prim_lim (hC : CLim Cs C) (p : Prim) (f : Nat) (args : List Dyn) (objs : List AObj) (rt : Ty) (ots : List OTy) : IsLim (fun k => p.run (Cs k) f args objs rt ots) (p.run C f args objs rt ots) := by
  cases p with
  | plain c => exact .const _
  | part fh fc fw r e N =>
    unfold Prim.run partP
    dsimp only
    split
    · split
      case isFalse => exact .const _
      split
      · exact IsLim.br (IsLim.bnd (partL_lim hC fh fc fw r _ _ _ _ _) fun q => .const _) (.const _)
      · exact .const _
    · exact .const _
theorem callB_lim (hC : CLim Cs C) : CLim (fun k => callB P T pr (Cs k) @loopW) (callB P T pr C @loopW) := by
  intro f args objs rt ots
  unfold callB
  dsimp only
  split
  · split
    · split
      · exact runD_lim _ Cs C [] hC _ _ _ (.const _)
      · exact .const _
    · exact .const _
  split
  · exact prim_lim hC _ _ _ _ _ _
  split
  · exact .const _
  split
  · exact runD_lim _ Cs C [] hC _ _ _ (.const _)
  · exact .const _
theorem callG_up : ∀ (k : Nat) f args objs rt ots (r : denR rt ots), callG P T pr k f args objs rt ots = some r → callG P T pr (k + 1) f args objs rt ots = some r
  | 0, f, args, objs, rt, ots, r, h => by cases h
  | k + 1, f, args, objs, rt, ots, r, h => by
    have hl : CLim (fun j => if j = 0 then callG P T pr k else callG P T pr (k + 1)) (callG P T pr (k + 1)) := by
      intro f args objs rt ots
      refine ⟨fun j r e => ?_, fun r => ⟨fun e => ⟨1, e⟩, fun ⟨j, e⟩ => ?_⟩⟩
      · dsimp only at e ⊢
        rw [if_neg (by omega)]
        split at e
        · exact callG_up k _ _ _ _ _ _ e
        · exact e
      · dsimp only at e
        split at e
        · exact callG_up k _ _ _ _ _ _ e
        · exact e
    exact (callB_lim (P := P) (T := T) (pr := pr) hl f args objs rt ots).mono 0 r h
theorem callW_is : CLim (callG P T pr) (callW P T pr) := fun f args objs rt ots => lim_ok fun k r h => callG_up k f args objs rt ots r h
theorem callW_eq (f : Nat) (args : List Dyn) (objs : List AObj) (rt : Ty) (ots : List OTy) : callW P T pr f args objs rt ots = callB P T pr (callW P T pr) @loopW f args objs rt ots :=
  (callW_is f args objs rt ots).shift.uniq (callB_lim callW_is f args objs rt ots)
theorem loopB_eq (q p : List Nat) (f m : Nat) (s : St) (K : Kn R) : loopW q (bodyF P T C @loopW f m p) s K = bodyF P T C @loopW f m p s (againK q (loopW q (bodyF P T C @loopW f m p)) K) :=
  loopW_eq (runD_lim _ _ _ _ (.const _)) s K
theorem loopW_ok {E : Env} {nt : Nat} {it : Option Ty} : LoopOK P E nt it R (@loopW R) := by
  intro p body c hb hc ro n A G K Q hA hG hY hf hK r s a w Fr mu H ha hg h
  obtain ⟨j, h⟩ := lim_some h
  exact loopD_ok j p body c hb hc ro n A G K Q hA hG hY hf hK r s a w Fr mu H ha hg h
theorem callG_ok (hP : Fits P T pr) : ∀ k, Sound P (callG P T pr k)
  | 0 => ⟨fun f args objs rt ots r _ h => (by cases h), fun f args el xs h => (by cases h)⟩
  | k + 1 => callB_ok hP (callG_ok hP k) fun _ _ _ _ => loopW_ok
theorem callW_ok (hP : Fits P T pr) : Sound P (callW P T pr) where
  call f args objs rt ots r hni h := by
    obtain ⟨k, h⟩ := lim_some h
    exact (callG_ok hP k).call f args objs rt ots r hni h
  seq f args el xs h := by
    obtain ⟨k, h⟩ := lim_some h
    exact (callG_ok hP k).seq f args el xs h
end
end Go.Abs
set_option autoImplicit false
set_option linter.unusedVariables false
namespace Go.Abs
def insG (t : Ty) (xs : List (den t)) (i : Int) (vs : List (den t)) : Bool := decide (0 ≤ i ∧ i.toNat ≤ xs.length ∧ 0 < vs.length ∧ xs.length + vs.length ≤ 1073741824)
def insL (t : Ty) (xs : List (den t)) (i : Int) (vs : List (den t)) : List (den t) := xs.take i.toNat ++ vs ++ xs.drop i.toNat
def delG (t : Ty) (xs : List (den t)) (i j : Int) : Bool := decide (0 ≤ i ∧ i ≤ j ∧ j.toNat ≤ xs.length)
def delL (t : Ty) (xs : List (den t)) (i j : Int) : List (den t) := xs.take i.toNat ++ xs.drop j.toNat
def insP (e : Nat) (t : Ty) : AbsFn := fun f args objs rt ots => match args, objs with
  | [⟨.own t1 0, _⟩, ⟨.int .i64, i⟩, ⟨.own t2 1, _⟩], [⟨.row e1 u1 f1, xs⟩, ⟨.row e2 u2 true, vs⟩] =>
    if e1 = e ∧ e2 = e then (match (⟨.list u1, xs⟩ : Dyn).as (.list t), (⟨.list u2, vs⟩ : Dyn).as (.list t) with
      | some xs, some vs => (match (⟨.own t 0, ()⟩ : Dyn).as rt, asObjs ots [⟨.row e t false, insL t xs i vs⟩, ⟨.row e t true, vs⟩] with
        | some x, some y => br (insG t xs i vs) (some (mkR rt x ots y)) none
        | _, _ => none)
      | _, _ => none) else none
  | _, _ => none
def delP (e : Nat) (t : Ty) : AbsFn := fun f args objs rt ots => match args, objs with
  | [⟨.own t1 0, _⟩, ⟨.int .i64, i⟩, ⟨.int .i64, j⟩], [⟨.row e1 u1 f1, xs⟩] =>
    if e1 = e then (match (⟨.list u1, xs⟩ : Dyn).as (.list t) with
      | some xs => (match (⟨.own t 0, ()⟩ : Dyn).as rt, asObjs ots [⟨.row e t false, delL t xs i j⟩] with
        | some x, some y => br (delG t xs i j) (some (mkR rt x ots y)) none
        | _, _ => none)
      | _ => none) else none
  | _, _ => none
end Go.Abs
set_option autoImplicit false
set_option linter.unusedVariables false
namespace Go.Abs
def cellIs : (t : Ty) → den t → Value → Bool
  | .nil _, _, v => (match v with
    | .slice none 0 0 => true
    | _ => false)
  | .nilptr, _, v => (match v with
    | .pointer none => true
    | _ => false)
  | .nilfn, _, v => (match v with
    | .nilFunc => true
    | _ => false)
  | .bool, b, v => (match v with
    | .bool c => decide (b = c)
    | _ => false)
  | .int k, n, v => (match v with
    | .int j m => decide (k = j ∧ n = m)
    | _ => false)
  | .str, s, v => (match v with
    | .string r => decide (s = r)
    | _ => false)
  | .list t, xs, v => (match v with
    | .slice none 0 0 => t.elt && xs.isEmpty
    | _ => false)
  | _, _, _ => false
theorem cellIs_ok {w : World} {Fr : Nat → Prop} {mu : Nat → Loc} {t : Ty} {x : den t} {v : Value} (h : cellIs t x v = true) : Rp w Fr mu t x [v] := by
  cases t <;> unfold cellIs at h <;> dsimp only at h <;> first | (cases h; done) | skip
  all_goals
    split at h
    case h_2 => cases h
  · rfl
  · rfl
  · rfl
  · rw [of_decide_eq_true h]; rfl
  · obtain ⟨h1, h2⟩ := of_decide_eq_true h
    rw [h1, h2]; rfl
  · rw [of_decide_eq_true h]; rfl
  · simp only [Bool.and_eq_true, List.isEmpty_iff] at h
    obtain ⟨h1, h2⟩ := h
    subst h2
    exact ⟨h1, none, 0, [], rfl, Nat.le_refl _, rfl, .inl rfl⟩
def litR : (t : Ty) → den t → List Value → Option (List Value)
  | .unit, _, l => some l
  | .pair a b, x, l => match litR a x.1 l with
    | some r => litR b x.2 r
    | none => none
  | .arr n t, xs, l => if t.elt = true ∧ xs.length = n then xs.foldl (fun (r : Option (List Value)) x => match r with
      | some r => litR t x r
      | none => none) (some l) else none
  | t, x, l => match l with
    | v :: l => if cellIs t x v then some l else none
    | [] => none
section
variable {w : World} {Fr : Nat → Prop} {mu : Nat → Loc}
theorem litRs_ok {t : Ty} (ih : ∀ (x : den t) (l r : List Value), litR t x l = some r → ∃ c, l = c ++ r ∧ Rp w Fr mu t x c) : ∀ (xs : List (den t)) (l r : List Value), xs.foldl (fun (r : Option (List Value)) x => match r with
      | some r => litR t x r
      | none => none) (some l) = some r → ∃ c, l = c ++ r ∧ rows (fun x l => Rp w Fr mu t x l) xs c
  | [], l, r, h => by injection h with h; subst h; exact ⟨[], rfl, rfl⟩
  | x :: xs, l, r, h => by
    rw [List.foldl_cons] at h
    dsimp only at h
    cases hx : litR t x l with
    | none =>
      rw [hx] at h
      exfalso
      clear hx ih
      induction xs with
      | nil => cases h
      | cons y ys ihy => exact ihy h
    | some l1 =>
      rw [hx] at h
      obtain ⟨c1, e1, h1⟩ := ih x l l1 hx
      obtain ⟨c2, e2, h2⟩ := litRs_ok ih xs l1 r h
      exact ⟨c1 ++ c2, by rw [e1, e2, List.append_assoc], c1, c2, rfl, h1, h2⟩
theorem litR_one {t : Ty} {x : den t} {l r : List Value} (h : (match l with
    | v :: l => if cellIs t x v then some l else none
    | [] => none) = some r) : ∃ c, l = c ++ r ∧ Rp w Fr mu t x c := by
  split at h
  case h_2 => cases h
  rename_i v l
  split at h
  case isFalse => cases h
  rename_i hc
  injection h with h
  subst h
  exact ⟨[v], rfl, cellIs_ok hc⟩
theorem litR_ok : ∀ (t : Ty) (x : den t) (l r : List Value), litR t x l = some r → ∃ c, l = c ++ r ∧ Rp w Fr mu t x c
  | .unit, _, l, r, h => by
    have h : some l = some r := h
    injection h with h
    subst h
    exact ⟨[], rfl, rfl⟩
  | .pair a b, x, l, r, h => by
    have h : (match litR a x.1 l with
      | some r => litR b x.2 r
      | none => none) = some r := h
    cases ha : litR a x.1 l with
    | none => rw [ha] at h; cases h
    | some l1 =>
      rw [ha] at h
      obtain ⟨c1, e1, h1⟩ := litR_ok a x.1 l l1 ha
      obtain ⟨c2, e2, h2⟩ := litR_ok b x.2 l1 r h
      exact ⟨c1 ++ c2, by rw [e1, e2, List.append_assoc], c1, c2, rfl, h1, h2⟩
  | .arr n t, xs, l, r, h => by
    unfold litR at h
    split at h
    case isFalse => cases h
    rename_i e
    obtain ⟨c, e1, h1⟩ := litRs_ok (fun x l r h => litR_ok t x l r h) xs l r h
    exact ⟨c, e1, e.1, e.2, h1⟩
  | .nil _, _, l, r, h => litR_one h
  | .nilptr, _, l, r, h => litR_one h
  | .nilfn, _, l, r, h => litR_one h
  | .bool, _, l, r, h => litR_one h
  | .int k, _, l, r, h => litR_one h
  | .str, _, l, r, h => litR_one h
  | .dead, _, l, r, h => litR_one h
  | .list _, _, l, r, h => litR_one h
  | .own _ _, _, l, r, h => litR_one h
  | .ptr _ _, _, l, r, h => litR_one h
  | .eptr _ _, _, l, r, h => litR_one h
  | .mp _, _, l, r, h => litR_one h
  | .rptr _ _ _, _, l, r, h => litR_one h
  | .aptr _ _ _ _ _, _, l, r, h => litR_one h
  | .fn _ _, _, l, r, h => litR_one h
  | .tnil, _, l, r, h => litR_one h
  | .tcons _ _, _, l, r, h => litR_one h
end
def zeroIs (d : Dyn) (z : Value) : Bool := match d.t.vk, z with
  | .one, v => (match litR d.t d.x [v] with
    | some [] => true
    | _ => false)
  | .agg, .agg cs => d.t.cel && (match litR d.t d.x cs.toList with
    | some [] => true
    | _ => false)
  | _, _ => false
theorem zeroIs_ok {d : Dyn} {z : Value} (h : zeroIs d z = true) {w : World} {Fr : Nat → Prop} {mu : Nat → Loc} : VR w Fr mu d z := by
  unfold zeroIs at h
  unfold VR
  split at h
  · rename_i hv
    rw [hv]
    dsimp only
    split at h
    case h_2 => cases h
    rename_i hl
    obtain ⟨c, e, hr⟩ := litR_ok (w := w) (Fr := Fr) (mu := mu) _ _ _ _ hl
    rw [List.append_nil] at e
    rw [e]; exact hr
  · rename_i cs hv
    rw [hv]
    dsimp only
    simp only [Bool.and_eq_true] at h
    obtain ⟨hc, h⟩ := h
    split at h
    case h_2 => cases h
    rename_i hl
    obtain ⟨c, e, hr⟩ := litR_ok (w := w) (Fr := Fr) (mu := mu) _ _ _ _ hl
    rw [List.append_nil] at e
    exact ⟨hc, c, by rw [← e], hr⟩
  · cases h
def fieldsAre : List (Nat × Nat) → List Field → Bool
  | [], [] => true
  | (o, t) :: l, f :: fs => decide (o = f.offset ∧ t = f.type) && fieldsAre l fs
  | _, _ => false
theorem fieldsAre_ok : ∀ {l : List (Nat × Nat)} {fs : List Field}, fieldsAre l fs = true → l = fs.map (fun g => (g.offset, g.type))
  | [], [], _ => rfl
  | (o, t) :: l, f :: fs, h => by
    simp only [fieldsAre, Bool.and_eq_true, decide_eq_true_eq] at h
    obtain ⟨⟨rfl, rfl⟩, h⟩ := h
    rw [List.map_cons, ← fieldsAre_ok h]
  | [], _ :: _, h => by cases h
  | _ :: _, [], h => by cases h
def undIs (d : TD) (u : Option TypeDesc) : Bool := match d, u with
  | .int k, some (.int j) => decide (k = j)
  | .str, some .string => true
  | .bool, some .bool => true
  | .slice e, some (.slice f) => decide (e = f)
  | .struct fs, some (.struct F) => fieldsAre fs F.toList
  | .array n e, some (.array m f) => decide (n = m ∧ e = f)
  | .pointer, some (.pointer _) => true
  | .map k e, some (.map k' e') => decide (k = k' ∧ e = e')
  | .other, some d => !aggDesc d
  | _, _ => false
def eqsIs (P : Program) (t : Nat) (e : Bool) : Bool := !e || (!P.stoodInHeld t && !P.eqGuardType P.depth t && match P.underlying t with
  | some (.struct F) => F.toList.all fun f => f.name != "_"
  | _ => true)
def rowIs (P : Program) (t : Nat) (ti : TI) : Bool := undIs ti.d (P.underlying t) && eqsIs P t ti.eqs && match P.info? t with
  | none => false
  | some i => decide (i.size = ti.siz) && decide (i.bytes = ti.byt) && (!ti.zer.t.alive || (ti.zer.t.pure && match i.zero with
    | none => false
    | some z => decide (z.cells.size = ti.siz) && zeroIs ti.zer z))
theorem rowIs_ok {P : Program} {t : Nat} {ti : TI} (h : rowIs P t ti = true) : Good P t ti := by
  unfold rowIs at h
  simp only [Bool.and_eq_true] at h
  obtain ⟨⟨hu, he⟩, h⟩ := h
  refine ⟨fun e => ?_, ?_, ?_⟩
  · unfold eqsIs at he
    rw [e] at he
    simp only [Bool.not_true, Bool.false_or, Bool.and_eq_true, Bool.not_eq_true'] at he
    obtain ⟨⟨h1, h2⟩, h3⟩ := he
    refine ⟨h1, h2, fun F hF f hf => ?_⟩
    rw [hF] at h3
    have := List.all_eq_true.1 h3 f hf
    simpa using this
  · split at h
    · cases h
    rename_i i hi
    simp only [Bool.and_eq_true, Bool.or_eq_true, decide_eq_true_eq, Bool.not_eq_true'] at h
    obtain ⟨⟨h1, h2⟩, h3⟩ := h
    refine ⟨i, hi, h1, h2, fun ha => ?_⟩
    rcases h3 with h3 | ⟨hp, h3⟩
    · rw [ha] at h3; cases h3
    split at h3
    · cases h3
    rename_i z hz
    simp only [Bool.and_eq_true, decide_eq_true_eq] at h3
    exact ⟨z, hz, h3.1, fun p => Ty.pure_okN _ hp, fun w Fr mu => zeroIs_ok h3.2⟩
  · generalize P.underlying t = u at hu
    generalize ti.d = d at hu
    unfold undIs at hu
    split at hu
    · rw [of_decide_eq_true hu]
    · rfl
    · rfl
    · rw [of_decide_eq_true hu]
    · exact ⟨_, rfl, fieldsAre_ok hu⟩
    · obtain ⟨e1, e2⟩ := of_decide_eq_true hu
      rw [e1, e2]
    · exact ⟨_, rfl⟩
    · obtain ⟨e1, e2⟩ := of_decide_eq_true hu
      rw [e1, e2]
    · exact ⟨_, rfl, by simpa using hu⟩
    · cases hu
def tabIs (P : Program) (tb : Tabs) : Bool := tb.all fun p => rowIs P p.1 p.2
theorem look_mem {α : Type} : ∀ {l : List (Nat × α)} {t : Nat} {a : α}, look l t = some a → (t, a) ∈ l
  | (k, b) :: l, t, a, h => by
    unfold look at h
    split at h
    · rename_i e
      injection h with h
      subst e; subst h
      exact List.mem_cons_self
    · exact List.mem_cons_of_mem _ (look_mem h)
theorem tabIs_ok {P : Program} {tb : Tabs} (h : tabIs P tb = true) : TabOK P tb := fun t ti ht => rowIs_ok (List.all_eq_true.1 h (t, ti) (look_mem ht))
end Go.Abs
set_option autoImplicit false
set_option linter.unusedVariables false
namespace Go.Abs
open Go.ChangeShapes Go.WideShapes
def wfD : (t : Ty) → den t → Prop
  | .int k, n => (Lit.int k n).wf = true
  | .str, s => s.size ≤ maxLen
  | .list t, xs => xs.length ≤ maxLen ∧ ∀ x ∈ xs, wfD t x
  | .pair a b, x => wfD a x.1 ∧ wfD b x.2
  | _, _ => True
def catTy : Ty → Ty → Ty
  | .pair a b, r => .pair a (catTy b r)
  | _, r => r
def catVal : (t : Ty) → den t → (r : Ty) → den r → den (catTy t r)
  | .pair a b, x, r, y => (x.1, catVal b x.2 r y)
  | .unit, _, _, y => y | .dead, _, _, y => y | .nil _, _, _, y => y | .nilptr, _, _, y => y | .nilfn, _, _, y => y | .bool, _, _, y => y | .int _, _, _, y => y | .str, _, _, y => y
  | .list _, _, _, y => y | .arr _ _, _, _, y => y | .mp _, _, _, y => y | .own _ _, _, _, y => y | .ptr _ _, _, _, y => y | .eptr _ _, _, _, y => y | .rptr _ _ _, _, _, y => y | .aptr _ _ _ _ _, _, _, y => y | .fn _ _, _, _, y => y | .tnil, _, _, y => y | .tcons _ _, _, _, y => y
theorem catTy_ch : ∀ (u r : Ty), u.cel = true → u.chain = true → r.cel = true → r.chain = true → (catTy u r).cel = true ∧ (catTy u r).chain = true ∧ (catTy u r).width = u.width + r.width
  | .pair a b, r, h1, _, h3, h4 => by
    simp only [Ty.cel, Bool.and_eq_true] at h1
    obtain ⟨g1, g2, g3⟩ := catTy_ch b r h1.1.2 h1.2 h3 h4
    refine ⟨?_, rfl, ?_⟩
    · show (a.cel && (catTy b r).cel && (catTy b r).chain) = true
      rw [h1.1.1, g1, g2]; rfl
    · show a.width + (catTy b r).width = a.width + b.width + r.width
      rw [g3, Nat.add_assoc]
  | .unit, r, _, _, h3, h4 => ⟨h3, h4, by show r.width = 0 + r.width; omega⟩
theorem catVal_Rp {w : World} {Fr : Nat → Prop} {mu : Nat → Loc} : ∀ (u : Ty) (x : den u) (r : Ty) (y : den r) (l m : List Value), u.cel = true → u.chain = true → Rp w Fr mu u x l → Rp w Fr mu r y m → Rp w Fr mu (catTy u r) (catVal u x r y) (l ++ m)
  | .pair a b, x, r, y, l, m, h1, _, h3, h4 => by
    simp only [Ty.cel, Bool.and_eq_true] at h1
    obtain ⟨l1, l2, rfl, g1, g2⟩ := h3
    exact ⟨l1, l2 ++ m, List.append_assoc _ _ _, g1, catVal_Rp b x.2 r y l2 m h1.1.2 h1.2 g2 h4⟩
  | .unit, x, r, y, l, m, _, _, h3, h4 => by
    have h3 : l = [] := h3
    subst h3
    exact h4
theorem catVal_wf : ∀ (u : Ty) (x : den u) (r : Ty) (y : den r), u.chain = true → u.cel = true → wfD u x → wfD r y → wfD (catTy u r) (catVal u x r y)
  | .pair a b, x, r, y, _, h1, h3, h4 => by
    simp only [Ty.cel, Bool.and_eq_true] at h1
    exact ⟨h3.1, catVal_wf b x.2 r y h1.2 h1.1.2 h3.2 h4⟩
  | .unit, x, r, y, _, _, _, h4 => h4
def opFs (P : Program) (F : TypeId → Option Ty) : Nat → List Field → Option Ty
  | _, [] => some .unit
  | n, f :: fs => if f.offset = n then (match F f.type with
    | some u => if P.cellsOf f.type = u.width ∧ u.cel = true then (match opFs P F (n + u.width) fs with
      | some r => if r.cel = true ∧ r.chain = true then some (if u.chain = true then catTy u r else .pair u r) else none
      | none => none) else none
    | none => none) else none
def opT (P : Program) : Nat → TypeId → Option Ty
  | 0, _ => none
  | d + 1, t => match P.underlying t with
    | some .bool => some .bool
    | some (.int k) => some (.int k)
    | some .string => some .str
    | some (.slice e) => (match opT P d e with
      | some u => if u.elt = true ∧ P.cellsOf e = u.width ∧ 0 < u.width then some (.list u) else none
      | none => none)
    | some (.struct fs) => (match opFs P (opT P d) 0 fs.toList with
      | some u => if P.cellsOf t = u.width then some u else none
      | none => none)
    | _ => none
section
variable {H : Type} {enc : TypeId × Value → H} {P : Program} {w : World} {base : Nat} {spare : Nat → Bool} {held : Bool} {mu : Nat → Loc}
abbrev Lt (w : World) : Nat → Prop := fun b => b < w.heap.size
theorem rows_choose {t : Ty} {b o wd : Nat} (hw : 0 < wd) : ∀ (n : Nat) (f : Nat → Prop) (k : Nat), (∀ i, k ≤ i → i < k + n → ∃ (v : den t) (cs : List Value), wfD t v ∧ Rp w (Lt w) mu t v cs ∧ cs.length = wd ∧ ∀ j u, cs[j]? = some u → w.cell? ⟨b, o + i * wd + j, none⟩ = some u) →
    ∃ (xs : List (den t)) (cells : List Value), xs.length = n ∧ (∀ x ∈ xs, wfD t x) ∧ rows (fun x l => Rp w (Lt w) mu t x l) xs cells ∧ At w b (o + k * wd) cells ∧ cells.length = n * wd
  | 0, f, k, h => ⟨[], [], rfl, fun _ h => (by cases h), rfl, At.nil, by simp⟩
  | n + 1, f, k, h => by
    obtain ⟨v, cs, h1, h2, h3, h4⟩ := h k (Nat.le_refl _) (by omega)
    obtain ⟨xs, cells, g1, g2, g3, g4, g5⟩ := rows_choose hw n f (k + 1) (fun i hi hi' => h i (by omega) (by omega))
    refine ⟨v :: xs, cs ++ cells, by simp [g1], ?_, ⟨cs, cells, rfl, h2, g3⟩, ?_, by rw [List.length_append, h3, g5, Nat.succ_mul, Nat.add_comm]⟩
    · intro x hx
      rcases List.mem_cons.1 hx with rfl | hx
      · exact h1
      · exact g2 x hx
    · refine At.of (fun j u hj => h4 j u hj) ?_
      rw [h3]
      rw [Nat.succ_mul, ← Nat.add_assoc] at g4
      exact g4
abbrev OpensT (enc : TypeId × Value → H) (P : Program) (w : World) (base : Nat) (spare : Nat → Bool) (held : Bool) (mu : Nat → Loc) (F : TypeId → Option Ty) : Prop :=
  ∀ (t : TypeId) (u : Ty), F t = some u → ∀ (fuel : Nat) (cs : List Value) (x : DataW H × List MemPlace), DataW.trod enc P w base spare held fuel t cs = some x → ∃ v : den u, Rp w (Lt w) mu u v cs ∧ wfD u v
theorem opens_fs {F : TypeId → Option Ty} (ihT : OpensT enc P w base spare held mu F) : ∀ (fs : List Field) (n : Nat) (u : Ty), opFs P F n fs = some u → ∀ (cs : List Value), cs.length = n + u.width → (∀ (i : Nat) (f : Field), fs[i]? = some f → ∃ k y, DataW.trod enc P w base spare held k f.type ((cs.drop f.offset).take (P.cellsOf f.type)) = some y) → ∃ v : den u, Rp w (Lt w) mu u v (cs.drop n) ∧ wfD u v
  | [], n, u, h, cs, hl, hf => by
    have h : some Ty.unit = some u := h
    injection h with h
    subst h
    exact ⟨(), by show cs.drop n = []; rw [List.drop_eq_nil_of_le (by rw [hl]; show n + 0 ≤ n; omega)], trivial⟩
  | f :: fs, n, u, h, cs, hl, hf => by
    unfold opFs at h
    split at h
    case isFalse => cases h
    rename_i ho
    split at h
    case h_2 => cases h
    rename_i u1 hu1
    split at h
    case isFalse => cases h
    rename_i hcc
    obtain ⟨hc1, hcel⟩ := hcc
    split at h
    case h_2 => cases h
    rename_i r hr
    split at h
    case isFalse => cases h
    rename_i hrr
    injection h with h
    obtain ⟨k, y, hy⟩ := hf 0 f rfl
    rw [ho, hc1] at hy
    obtain ⟨v1, r1, w1⟩ := ihT _ _ hu1 _ _ _ hy
    have hwid : u.width = u1.width + r.width := by
      by_cases hch : u1.chain = true
      · rw [if_pos hch] at h
        rw [← h]
        exact (catTy_ch u1 r hcel hch hrr.1 hrr.2).2.2
      · rw [if_neg hch] at h
        rw [← h]; rfl
    obtain ⟨v2, r2, w2⟩ := opens_fs ihT fs (n + u1.width) r hr cs (by rw [hl, hwid]; omega) (fun i g hi => hf (i + 1) g hi)
    have e : (cs.drop n).drop u1.width = cs.drop (n + u1.width) := by rw [List.drop_drop]
    have e2 : cs.drop n = (cs.drop n).take u1.width ++ cs.drop (n + u1.width) := by rw [← e]; exact (List.take_append_drop _ _).symm
    by_cases hch : u1.chain = true
    · rw [if_pos hch] at h
      subst h
      refine ⟨catVal u1 v1 r v2, ?_, catVal_wf u1 v1 r v2 hch hcel w1 w2⟩
      rw [e2]
      exact catVal_Rp u1 v1 r v2 _ _ hcel hch r1 r2
    · rw [if_neg hch] at h
      subst h
      exact ⟨(v1, v2), ⟨_, _, e2, r1, r2⟩, w1, w2⟩
theorem opens : ∀ (d : Nat), OpensT enc P w base spare held mu (opT P d)
  | 0 => fun t u h => (by unfold opT at h; cases h)
  | d + 1 => by
      have ihT := opens d
      intro t u h fuel cs x hx
      unfold opT at h
      split at h
      · rename_i hu
        injection h with h; subst h
        obtain ⟨n, rfl, _⟩ := DataW.trod_bool hu hx
        exact ⟨n, rfl, trivial⟩
      · rename_i k hu
        injection h with h; subst h
        obtain ⟨n, rfl, _, hw⟩ := DataW.trod_int hu hx
        exact ⟨n, rfl, hw⟩
      · rename_i hu
        injection h with h; subst h
        obtain ⟨n, rfl, _, hw⟩ := DataW.trod_string hu hx
        exact ⟨n, rfl, hw⟩
      · rename_i e hu
        split at h
        case h_2 => cases h
        rename_i u' hu'
        split at h
        case isFalse => cases h
        rename_i hc
        obtain ⟨hel, hsz, hpos⟩ := hc
        injection h with h; subst h
        rcases DataW.trod_slice hu hx with ⟨rfl, _⟩ | ⟨a, len, cap, elems, rest, n, _, rfl, _, _, hl, hm, hlen, hel', _, _⟩
        · exact ⟨[], ⟨hel, none, 0, [], rfl, Nat.le_refl _, rfl, .inl rfl⟩, by show ([] : List (den u')).length ≤ maxLen; simp, fun _ h => by cases h⟩
        · have cellsAt : ∀ i, i < len → ∃ (v : den u') (cs : List Value), wfD u' v ∧ Rp w (Lt w) mu u' v cs ∧ cs.length = u'.width ∧ ∀ j q, cs[j]? = some q → w.cell? ((a.add (i * u'.width)).add j) = some q := by
            intro i hi
            have h1 := hel' i hi
            rw [List.getElem?_eq_getElem (by omega)] at h1
            obtain ⟨cs, hcs, htr⟩ := Option.bind_eq_some_iff.1 h1
            obtain ⟨v, hv, hw⟩ := ihT e u' hu' _ _ _ htr
            obtain ⟨_, hcl, hcc⟩ := World.cells?_some hcs
            rw [hsz] at hcl hcc
            refine ⟨v, cs, hw, hv, hcl, fun j q hq => ?_⟩
            have hj : j < u'.width := by have := (List.getElem?_eq_some_iff.1 hq).1; omega
            rw [hcc j hj]; exact hq
          by_cases h0 : len = 0
          · subst h0
            exact ⟨[], ⟨hel, some a, cap, [], rfl, Nat.zero_le _, rfl, .inl rfl⟩, by show ([] : List (den u')).length ≤ maxLen; simp, fun _ h => by cases h⟩
          · obtain ⟨v0, cs0, _, _, hl0, hc0⟩ := cellsAt 0 (by omega)
            have hfirst : ∃ q, w.cell? a = some q := by
              have := hc0 0 cs0[0] (List.getElem?_eq_getElem (by omega))
              rw [Nat.zero_mul] at this
              exact ⟨_, this⟩
            obtain ⟨q, hq⟩ := hfirst
            have hspot : a.spot = none ∧ a.block < w.heap.size := by
              unfold World.cell? at hq
              split at hq
              · rename_i hb
                split at hq
                · cases hq
                · rename_i hs
                  exact ⟨by simpa using hs, (Array.getElem?_eq_some_iff.1 hb).1⟩
              · cases hq
            obtain ⟨ab, ao, asp⟩ := a
            obtain ⟨hsp, hblk⟩ := hspot
            dsimp only at hsp hblk
            subst hsp
            have hadd : ∀ (i j : Nat), ((⟨ab, ao, none⟩ : Addr).add i).add j = ⟨ab, ao + i + j, none⟩ := by
              intro i j
              unfold Addr.add
              by_cases hi : i = 0 <;> by_cases hj : j = 0 <;> simp [hi, hj]
            obtain ⟨xs, cells, g1, g2, g3, g4, g5⟩ := rows_choose (mu := mu) (w := w) (t := u') (b := ab) (o := ao) hpos len (fun _ => True) 0 (fun i _ hi => by
              obtain ⟨v, cs, k1, k2, k3, k4⟩ := cellsAt i (by omega)
              refine ⟨v, cs, k1, k2, k3, fun j q hq => ?_⟩
              have := k4 j q hq
              rw [hadd] at this
              exact this)
            rw [Nat.zero_mul, Nat.add_zero] at g4
            refine ⟨xs, ⟨hel, some ⟨ab, ao, none⟩, cap, cells, by rw [g1], by rw [g1]; exact hl, g3, .inr ⟨ab, ao, rfl, hblk, g4⟩⟩, ?_, g2⟩
            show xs.length ≤ maxLen
            rw [g1]; omega
      · rename_i fs hu
        split at h
        case h_2 => cases h
        rename_i u0 hu0
        split at h
        case isFalse => cases h
        rename_i hcz
        injection h with h
        subst h
        obtain ⟨xs, n, _, _, hl, hx', hf⟩ := DataW.trod_struct hu hx
        obtain ⟨v, h1, h2⟩ := opens_fs ihT fs.toList 0 u0 hu0 cs (by rw [hl, hcz]; omega) (fun i f hi => by
          have hi' : fs[i]? = some f := by simpa using hi
          have hlt : i < fs.size := (Array.getElem?_eq_some_iff.1 hi').1
          have h1 := hf i f hi'
          rw [List.getElem?_eq_getElem (by omega)] at h1
          exact ⟨_, _, h1⟩)
        exact ⟨v, by rwa [List.drop_zero] at h1, h2⟩
      · cases h
theorem opFs_ch {F : TypeId → Option Ty} : ∀ (fs : List Field) (n : Nat) (u : Ty), opFs P F n fs = some u → u.chain = true ∧ u.cel = true
  | [], n, u, h => by
    have h : some Ty.unit = some u := h
    injection h with h; subst h; exact ⟨rfl, rfl⟩
  | f :: fs, n, u, h => by
    unfold opFs at h
    split at h
    case isFalse => cases h
    split at h
    case h_2 => cases h
    rename_i u1 hu1
    split at h
    case isFalse => cases h
    rename_i hcc
    split at h
    case h_2 => cases h
    rename_i r hr
    split at h
    case isFalse => cases h
    rename_i hrr
    injection h with h
    subst h
    by_cases hch : u1.chain = true
    · rw [if_pos hch]
      have := catTy_ch u1 r hcc.2 hch hrr.1 hrr.2
      exact ⟨this.2.1, this.1⟩
    · rw [if_neg hch]
      exact ⟨rfl, by simp only [Ty.cel, Bool.and_eq_true]; exact ⟨⟨hcc.2, hrr.1⟩, hrr.2⟩⟩
theorem opT_vk : ∀ {d : Nat} {t : TypeId} {u : Ty}, opT P d t = some u → match P.underlying t with
    | some (.struct _) => u.chain = true ∧ u.cel = true
    | _ => u.chain = false ∧ u.vk = .one
  | 0, t, u, h => by unfold opT at h; cases h
  | d + 1, t, u, h => by
    unfold opT at h
    split at h
    · rename_i hu; rw [hu]; injection h with h; subst h; exact ⟨rfl, rfl⟩
    · rename_i hu; rw [hu]; injection h with h; subst h; exact ⟨rfl, rfl⟩
    · rename_i hu; rw [hu]; injection h with h; subst h; exact ⟨rfl, rfl⟩
    · rename_i hu
      rw [hu]
      split at h
      case h_2 => cases h
      split at h
      case isFalse => cases h
      injection h with h; subst h; exact ⟨rfl, rfl⟩
    · rename_i fs hu
      rw [hu]
      split at h
      case h_2 => cases h
      rename_i u0 hu0
      split at h
      case isFalse => cases h
      injection h with h
      subst h
      exact opFs_ch _ _ _ hu0
    · cases h
theorem vk_chain {u : Ty} (h : u.chain = true) : u.vk = .agg := by cases u <;> first | rfl | cases h
theorem openP {d : Nat} {t : TypeId} {u : Ty} (ht : opT P d t = some u) {r : Reach} {b0 : Nat} {v : Value} {x : DataW H} {ps : List MemPlace} (hv : Value.okWide P w r b0 t v) (h : DataW.Trod enc P w base spare held t v x ps) :
    ∃ y : den u, VR w (Lt w) mu ⟨u, y⟩ v ∧ wfD u y := by
  obtain ⟨fuel, hf⟩ := h
  obtain ⟨y, hr, hw⟩ := opens (mu := mu) d t u ht fuel _ _ hf
  refine ⟨y, ?_, hw⟩
  have hk := opT_vk ht
  unfold Value.okWide at hv
  cases hu : P.underlying t with
  | none => cases d <;> (unfold opT at ht; first | cases ht | (rw [hu] at ht; cases ht))
  | some de =>
    rw [hu] at hk hv
    cases de
    case struct fs =>
      obtain ⟨cs, rfl, _, _⟩ := hv
      unfold VR
      rw [vk_chain hk.1]
      exact ⟨hk.2, cs.toList, by simp, hr⟩
    all_goals first
      | (cases d <;> (unfold opT at ht; first | cases ht | (rw [hu] at ht; cases ht)); done)
      | skip
    all_goals
      unfold VR
      rw [hk.2]
      show Rp _ _ _ _ _ [v]
      have hcells : v.cells.toList = [v] := by
        cases v <;> first | rfl | skip
        simp [Cell.okWide, Cell.ok, hu] at hv
      rw [hcells] at hr
      exact hr
theorem law_calls {T : Told} {pr : Prims} (hP : Fits P T pr) {W : World} (hG : Gl W (Lt W)) {f : Nat} {args : List Dyn} {vs : List Value} (hk : callW P T pr f args [] .bool [] = some true) (hl : args.length = vs.length)
    (hv : ∀ (i : Nat) (d : Dyn) (v : Value), args[i]? = some d → vs[i]? = some v → VR W (Lt W) (fun _ => default) d v ∧ d.t.pure = true) :
    Calls P f vs.toArray W fun e W' => e = .returned (.bool true) ∧ RowKit.Below W.heap.size W W' := by
  obtain ⟨_, hc⟩ := (callW_ok hP).call f args [] .bool [] true rfl hk
  refine (hc W (Lt W) (fun _ => default) vs ⟨⟨fun _ => rfl, fun i o h => (by simp at h), fun i t x h => (by simp at h), fun i j o o' h => (by simp at h), fun i o h => (by simp at h)⟩, fun b hb => hb, hl, fun i d v h1 h2 => ⟨(hv i d v h1 h2).1, Ty.pure_okN _ (hv i d v h1 h2).2⟩, hG⟩).mono ?_
  rintro e W' ⟨v, Fr', mu', rfl, hpost⟩
  have hb : v = .bool true := by
    have := hpost.val
    injection (show [v] = [_] from this) with h
  refine ⟨by rw [hb], hpost.si.grow.os, hpost.si.grow.tape, hpost.si.grow.output, hpost.si.grow.size, fun k hk => hpost.si.grow.block k hk ?_⟩
  rintro ⟨i, o, h, _⟩
  simp at h
end
def namesB (P : Program) : Bool := P.funcs.toList.all fun g => g.name != "runtime.NumGoroutine"
theorem names_ok {P : Program} (h : namesB P = true) (f : Nat) (fn : Func) (hf : P.funcs[f]? = some fn) : fn.name ≠ "runtime.NumGoroutine" := by
  have := List.all_eq_true.1 h fn (by
    obtain ⟨hi, e⟩ := Array.getElem?_eq_some_iff.1 hf
    rw [← e]
    exact Array.getElem_mem_toList hi)
  simpa using this
end Go.Abs
set_option maxRecDepth 100000
namespace Go.Proofs.YtjekopgcpikkiaaGreatDoor.AM
open Go.Abs
noncomputable abbrev PP : Program := Go.Proofs.Tryz.prog
@[reducible] def tapiPair : Ty := (.pair .str (.pair .str .unit))
@[reducible] def tapiNode : Ty := (.pair (.int .i64) (.pair .str (.pair .str (.pair (.int .u32) (.pair (.list (.int .i64)) (.pair (.int .i64) (.pair (.list tapiPair) (.pair (.int .i64) (.pair (.int .i64) .unit)))))))))
@[reducible] def tPl (i j : Nat) : Ty := .pair (.own tapiNode i) (.pair (.int .i64) (.pair (.own (.int .i64) j) .unit))
@[reducible] def tNd (i j : Nat) : Ty := .pair (.int .i64) (.pair .str (.pair .str (.pair (.int .u32) (.pair (.own (.int .i64) i) (.pair (.int .i64) (.pair (.own tapiPair j) (.pair (.int .i64) (.pair (.int .i64) .unit))))))))
@[reducible] def tgraftstep : Ty := (.pair (.int .i64) (.pair (.int .i64) (.pair .str (.pair .str (.pair (.int .u32) (.pair (.list (.int .i64)) (.pair (.int .i64) (.pair (.list tapiPair) (.pair (.int .i64) (.pair (.int .i64) (.pair (.int .i64) .unit)))))))))))
@[reducible] def ttriemaker : Ty := (.pair (.int .i64) (.pair (.list tapiNode) .unit))
@[reducible] def tplanPlan : Ty := (.pair (.list tapiNode) (.pair (.int .i64) (.pair (.list (.int .i64)) .unit)))
@[reducible] def tgraftGraft : Ty := (.pair (.int .i64) (.pair .str (.pair .str (.pair .str (.pair (.int .i64) (.pair (.int .u64) (.pair (.int .i64) (.pair (.list tgraftstep) (.pair (.int .i64) tapiNode)))))))))
@[reducible] def tgraftGraftO : Ty := (.pair (.int .i64) (.pair .str (.pair .str (.pair .str (.pair (.int .i64) (.pair (.int .u64) (.pair (.int .i64) (.pair (.own tgraftstep 1) (.pair (.int .i64) tapiNode)))))))))
@[reducible] def tprunePrune : Ty := (.pair .str (.pair (.int .i64) (.pair (.int .u64) (.pair (.int .i64) (.pair (.list tgraftstep) (.pair (.int .i64) (.pair (.int .i64) (.pair .str (.pair .str (.pair (.int .u32) (.pair (.list (.int .i64)) (.pair (.int .i64) (.pair (.list tapiPair) (.pair (.int .i64) (.pair (.int .i64) (.pair (.int .i64) tapiNode))))))))))))))))
@[reducible] def tprunePruneO : Ty := (.pair .str (.pair (.int .i64) (.pair (.int .u64) (.pair (.int .i64) (.pair (.own tgraftstep 1) (.pair (.int .i64) (.pair (.int .i64) (.pair .str (.pair .str (.pair (.int .u32) (.pair (.list (.int .i64)) (.pair (.int .i64) (.pair (.list tapiPair) (.pair (.int .i64) (.pair (.int .i64) (.pair (.int .i64) tapiNode))))))))))))))))
def TB : Tabs := [
  (0, ⟨.other, false, 1, 0, ⟨.dead, ()⟩, .dead⟩),
  (3, ⟨(.int .i64), false, 1, 8, ⟨(.int .i64), (0 : Int)⟩, (.int .i64)⟩),
  (4, ⟨.bool, false, 1, 1, ⟨.bool, false⟩, .bool⟩),
  (5, ⟨(.int .u8), false, 1, 1, ⟨(.int .u8), (0 : Int)⟩, (.int .u8)⟩),
  (9, ⟨.str, false, 1, 16, ⟨.str, ByteArray.empty⟩, .str⟩),
  (22, ⟨(.slice 84), false, 1, 24, ⟨(.nil 84), ()⟩, (.list tapiPair)⟩),
  (23, ⟨(.slice 58), false, 1, 24, ⟨(.nil 58), ()⟩, (.list tapiNode)⟩),
  (24, ⟨(.int .i64), false, 1, 8, ⟨(.int .i64), (0 : Int)⟩, (.int .i64)⟩),
  (25, ⟨.other, false, 1, 0, ⟨.dead, ()⟩, .dead⟩),
  (29, ⟨(.int .i64), false, 1, 8, ⟨(.int .i64), (0 : Int)⟩, (.int .i64)⟩),
  (30, ⟨.other, false, 1, 0, ⟨.dead, ()⟩, .dead⟩),
  (42, ⟨.pointer, false, 1, 8, ⟨.nilptr, ()⟩, .nilptr⟩),
  (44, ⟨.other, false, 1, 0, ⟨.dead, ()⟩, .dead⟩),
  (47, ⟨.other, false, 1, 0, ⟨.dead, ()⟩, .dead⟩),
  (50, ⟨(.slice 24), false, 1, 24, ⟨(.nil 24), ()⟩, (.list (.int .i64))⟩),
  (52, ⟨(.struct [(0, 23), (1, 24), (2, 50)]), true, 3, 56, ⟨(.pair (.nil 58) (.pair (.int .i64) (.pair (.nil 24) .unit))), ((), ((0 : Int), ((), ())))⟩, tplanPlan⟩),
  (53, ⟨.other, false, 1, 0, ⟨.dead, ()⟩, .dead⟩),
  (56, ⟨(.int .u32), false, 1, 4, ⟨(.int .u32), (0 : Int)⟩, (.int .u32)⟩),
  (58, ⟨(.struct [(0, 3), (1, 9), (2, 9), (3, 56), (4, 50), (5, 24), (6, 22), (7, 3), (8, 3)]), true, 9, 120, ⟨(.pair (.int .i64) (.pair .str (.pair .str (.pair (.int .u32) (.pair (.nil 24) (.pair (.int .i64) (.pair (.nil 84) (.pair (.int .i64) (.pair (.int .i64) .unit))))))))), ((0 : Int), (ByteArray.empty, (ByteArray.empty, ((0 : Int), ((), ((0 : Int), ((), ((0 : Int), ((0 : Int), ())))))))))⟩, tapiNode⟩),
  (73, ⟨.pointer, false, 1, 8, ⟨.nilptr, ()⟩, .nilptr⟩),
  (79, ⟨.other, false, 1, 0, ⟨.dead, ()⟩, .dead⟩),
  (84, ⟨(.struct [(0, 9), (1, 9)]), true, 2, 32, ⟨tapiPair, (ByteArray.empty, (ByteArray.empty, ()))⟩, tapiPair⟩),
  (93, ⟨(.int .u64), false, 1, 8, ⟨(.int .u64), (0 : Int)⟩, (.int .u64)⟩),
  (95, ⟨(.slice 104), false, 1, 24, ⟨(.nil 104), ()⟩, (.list tgraftstep)⟩),
  (97, ⟨(.struct [(0, 3), (1, 9), (2, 9), (3, 9), (4, 3), (5, 93), (6, 24), (7, 95), (8, 24), (9, 58)]), true, 18, 232, ⟨(.pair (.int .i64) (.pair .str (.pair .str (.pair .str (.pair (.int .i64) (.pair (.int .u64) (.pair (.int .i64) (.pair (.nil 104) (.pair (.int .i64) (.pair (.int .i64) (.pair .str (.pair .str (.pair (.int .u32) (.pair (.nil 24) (.pair (.int .i64) (.pair (.nil 84) (.pair (.int .i64) (.pair (.int .i64) .unit)))))))))))))))))), ((0 : Int), (ByteArray.empty, (ByteArray.empty, (ByteArray.empty, ((0 : Int), ((0 : Int), ((0 : Int), ((), ((0 : Int), ((0 : Int), (ByteArray.empty, (ByteArray.empty, ((0 : Int), ((), ((0 : Int), ((), ((0 : Int), ((0 : Int), ()))))))))))))))))))⟩, tgraftGraft⟩),
  (98, ⟨.other, false, 1, 0, ⟨.dead, ()⟩, .dead⟩),
  (100, ⟨.other, false, 1, 8, ⟨.nilfn, ()⟩, .nilfn⟩),
  (101, ⟨.other, false, 1, 8, ⟨.nilfn, ()⟩, .nilfn⟩),
  (104, ⟨(.struct [(0, 24), (1, 58), (10, 3)]), true, 11, 136, ⟨(.pair (.int .i64) (.pair (.int .i64) (.pair .str (.pair .str (.pair (.int .u32) (.pair (.nil 24) (.pair (.int .i64) (.pair (.nil 84) (.pair (.int .i64) (.pair (.int .i64) (.pair (.int .i64) .unit))))))))))), ((0 : Int), ((0 : Int), (ByteArray.empty, (ByteArray.empty, ((0 : Int), ((), ((0 : Int), ((), ((0 : Int), ((0 : Int), ((0 : Int), ())))))))))))⟩, tgraftstep⟩),
  (114, ⟨.other, false, 1, 0, ⟨.dead, ()⟩, .dead⟩),
  (118, ⟨(.slice 127), false, 1, 24, ⟨(.nil 127), ()⟩, (.list tgraftstep)⟩),
  (120, ⟨(.struct [(0, 9), (1, 3), (2, 93), (3, 24), (4, 118), (5, 24), (6, 58), (15, 24), (16, 58)]), true, 25, 320, ⟨(.pair .str (.pair (.int .i64) (.pair (.int .u64) (.pair (.int .i64) (.pair (.nil 127) (.pair (.int .i64) (.pair (.int .i64) (.pair .str (.pair .str (.pair (.int .u32) (.pair (.nil 24) (.pair (.int .i64) (.pair (.nil 84) (.pair (.int .i64) (.pair (.int .i64) (.pair (.int .i64) (.pair (.int .i64) (.pair .str (.pair .str (.pair (.int .u32) (.pair (.nil 24) (.pair (.int .i64) (.pair (.nil 84) (.pair (.int .i64) (.pair (.int .i64) .unit))))))))))))))))))))))))), (ByteArray.empty, ((0 : Int), ((0 : Int), ((0 : Int), ((), ((0 : Int), ((0 : Int), (ByteArray.empty, (ByteArray.empty, ((0 : Int), ((), ((0 : Int), ((), ((0 : Int), ((0 : Int), ((0 : Int), ((0 : Int), (ByteArray.empty, (ByteArray.empty, ((0 : Int), ((), ((0 : Int), ((), ((0 : Int), ((0 : Int), ())))))))))))))))))))))))))⟩, tprunePrune⟩),
  (121, ⟨.other, false, 1, 0, ⟨.dead, ()⟩, .dead⟩),
  (123, ⟨.other, false, 1, 8, ⟨.nilfn, ()⟩, .nilfn⟩),
  (124, ⟨.other, false, 1, 8, ⟨.nilfn, ()⟩, .nilfn⟩),
  (127, ⟨(.struct [(0, 24), (1, 58), (10, 3)]), true, 11, 136, ⟨(.pair (.int .i64) (.pair (.int .i64) (.pair .str (.pair .str (.pair (.int .u32) (.pair (.nil 24) (.pair (.int .i64) (.pair (.nil 84) (.pair (.int .i64) (.pair (.int .i64) (.pair (.int .i64) .unit))))))))))), ((0 : Int), ((0 : Int), (ByteArray.empty, (ByteArray.empty, ((0 : Int), ((), ((0 : Int), ((), ((0 : Int), ((0 : Int), ((0 : Int), ())))))))))))⟩, tgraftstep⟩),
  (131, ⟨.other, false, 1, 0, ⟨.dead, ()⟩, .dead⟩),
  (137, ⟨.other, false, 1, 0, ⟨.dead, ()⟩, .dead⟩),
  (139, ⟨.other, false, 1, 0, ⟨.dead, ()⟩, .dead⟩),
  (144, ⟨.other, false, 1, 8, ⟨.nilfn, ()⟩, .nilfn⟩),
  (151, ⟨.other, false, 1, 8, ⟨.nilfn, ()⟩, .nilfn⟩),
  (157, ⟨.other, false, 1, 8, ⟨.nilfn, ()⟩, .nilfn⟩),
  (163, ⟨.pointer, false, 1, 8, ⟨.nilptr, ()⟩, .nilptr⟩),
  (165, ⟨(.struct [(0, 3), (1, 23)]), true, 2, 32, ⟨(.pair (.int .i64) (.pair (.nil 58) .unit)), ((0 : Int), ((), ()))⟩, ttriemaker⟩),
  (169, ⟨.other, false, 1, 8, ⟨.nilfn, ()⟩, .nilfn⟩),
  (178, ⟨.other, false, 1, 8, ⟨.nilfn, ()⟩, .nilfn⟩),
  (184, ⟨(.map 3 22), false, 1, 8, ⟨.dead, ()⟩, (.mp tapiPair)⟩),
  (185, ⟨.other, false, 1, 0, ⟨.dead, ()⟩, .dead⟩),
  (187, ⟨(.slice 3), false, 1, 24, ⟨(.nil 3), ()⟩, (.list (.int .i64))⟩),
  (192, ⟨(.int .u64), false, 1, 8, ⟨(.int .u64), (0 : Int)⟩, (.int .u64)⟩),
  (199, ⟨(.array 32 5), false, 32, 32, ⟨(.arr 32 (.int .u8)), (List.replicate 32 (0 : Int))⟩, (.arr 32 (.int .u8))⟩)]
def HT : List (Nat × Hint) := [
  (10, ⟨.bool, [], [some (.int .i64), some (.list tapiPair), some .str, some .str]⟩),
  (12, ⟨.str, [], [some .str, some (.int .i64)]⟩),
  (14, ⟨(.tcons (.list tapiNode) (.tcons (.int .i64) (.tcons (.int .i64) .tnil))), [], [some (.list tapiNode), some (.int .i64), some (.int .i64), some .str, some .str, some .str, some (.int .i64)]⟩),
  (18, ⟨.bool, [], [some (.list tapiPair), some (.list tapiPair)]⟩),
  (19, ⟨(.list tapiPair), [], [some (.list tapiPair)]⟩),
  (23, ⟨(.ptr 0 0), [(.box tgraftGraftO), (.row 104 tgraftstep false)], [some (.int .i64), some (.int .i64), some .str, some .str, some .str, some (.int .i64)]⟩),
  (25, ⟨(.int .i64), [], [some (.int .i64)]⟩),
  (27, ⟨(.tcons .str (.tcons .bool .tnil)), [], [some (.list tapiPair), some .str]⟩),
  (28, ⟨(.tcons (.pair (.own tapiNode 2) (.pair (.int .i64) (.pair (.own (.int .i64) 3) .unit))) (.tcons .bool .tnil)), [(.box tgraftGraft), .gone, (.row 58 tapiNode false), (.row 24 (.int .i64) false)], [none]⟩),
  (29, ⟨.tnil, [(.box tgraftGraftO), (.row 104 tgraftstep false)], [none, some tapiNode]⟩),
  (30, ⟨tapiNode, [], [some .str, some .str]⟩),
  (32, ⟨(.int .i64), [.held, .held], [none]⟩),
  (37, ⟨(.tcons (.list tapiPair) (.tcons (.list tapiNode) (.tcons (.int .i64) (.tcons .bool .tnil)))), [], [some (.int .i64), some (.list tapiPair)]⟩),
  (38, ⟨.bool, [], []⟩),
  (39, ⟨(.tcons (.list tapiNode) (.tcons (.int .i64) (.tcons (.int .i64) .tnil))), [], [some (.list tapiNode), some (.int .i64), some .str, some (.int .i64)]⟩),
  (41, ⟨.bool, [], [some (.list tapiPair), some .str]⟩),
  (42, ⟨(.ptr 0 0), [(.box tprunePruneO), (.row 127 tgraftstep false)], [some (.int .i64), some .str, some (.int .i64)]⟩),
  (44, ⟨(.tcons .str (.tcons .bool .tnil)), [.held, .held], [none]⟩),
  (45, ⟨(.tcons (.pair (.own tapiNode 2) (.pair (.int .i64) (.pair (.own (.int .i64) 3) .unit))) (.tcons .bool .tnil)), [(.box tprunePrune), .gone, (.row 58 tapiNode false), (.row 24 (.int .i64) false)], [none]⟩),
  (46, ⟨.tnil, [(.box tprunePruneO), (.row 127 tgraftstep false)], [none, some tapiNode]⟩),
  (47, ⟨(.int .i64), [.held, .held], [none]⟩),
  (48, ⟨.bool, [], [some (.list tapiNode), some (.int .i64), some (.list tapiNode), some (.int .i64)]⟩),
  (49, ⟨(.list tapiPair), [], [some (.list tapiPair)]⟩),
  (50, ⟨.bool, [], [some (.list tapiPair)]⟩),
  (51, ⟨(.tcons (.list tapiNode) (.tcons (.int .i64) .tnil)), [], [some (.int .i64), some (.list tapiPair)]⟩),
  (52, ⟨(.int .i64), [], [some tapiNode]⟩),
  (53, ⟨.bool, [], [some (.list tapiNode), some (.int .i64), some (.int .i64)]⟩),
  (54, ⟨(.tcons (.list tapiNode) (.tcons (.int .i64) (.tcons (.int .i64) .tnil))), [], [some (.list tapiNode), some tplanPlan]⟩),
  (55, ⟨.bool, [], [some (.list tapiNode), some (.int .i64)]⟩),
  (56, ⟨.bool, [], [some tapiNode, some tapiNode]⟩),
  (57, ⟨.bool, [], [some (.list tapiPair), some (.int .i64)]⟩),
  (58, ⟨.bool, [], [some .str, some .str]⟩),
  (60, ⟨(.list (.int .i64)), [], [some tapiNode]⟩),
  (63, ⟨(.int .u64), [], [some .str, some (.int .i64)]⟩),
  (64, ⟨(.int .i64), [], [some (.int .i64)]⟩),
  (65, ⟨(.tcons .str (.tcons .bool .tnil)), [.held, .held], [none]⟩),
  (66, ⟨.bool, [.held, .held], [none]⟩),
  (67, ⟨(.tcons (.pair (.own tapiNode 1) (.pair (.int .i64) (.pair (.own (.int .i64) 2) .unit))) (.tcons (.int .i64) .tnil)), [.held, (.row 58 tapiNode false), (.row 24 (.int .i64) false)], [none, none]⟩),
  (68, ⟨(.fn 107 (.tcons (.ptr 0 0) .tnil)), [(.box (.list tgraftstep))], [some (.list tgraftstep)]⟩),
  (69, ⟨(.tcons tplanPlan (.tcons (.int .i64) .tnil)), [], [some tplanPlan, some tapiNode]⟩),
  (70, ⟨tapiNode, [], [some tapiNode, some (.int .i64)]⟩),
  (71, ⟨tapiNode, [], [some tapiNode, some (.int .i64), some (.int .i64)]⟩),
  (72, ⟨(.int .i64), [], [some (.int .i64)]⟩),
  (73, ⟨(.int .i64), [], [some (.int .u64), some (.int .i64), some (.int .i64)]⟩),
  (74, ⟨(.int .i64), [], [some tapiNode, some (.int .i64)]⟩),
  (76, ⟨.bool, [], [some (.list tapiNode)]⟩),
  (81, ⟨(.tcons .str (.tcons .bool .tnil)), [], [some (.list tapiPair), some .str]⟩),
  (82, ⟨(.own tapiPair 0), [(.row 84 tapiPair false)], [some tapiNode]⟩),
  (83, ⟨(.tcons (.pair (.own tapiNode 1) (.pair (.int .i64) (.pair (.own (.int .i64) 2) .unit))) (.tcons (.int .i64) (.tcons .bool .tnil))), [.held, (.row 58 tapiNode false), (.row 24 (.int .i64) false)], [none, none]⟩),
  (84, ⟨(.fn 121 (.tcons (.ptr 0 0) .tnil)), [(.box (.list tgraftstep))], [some (.list tgraftstep)]⟩),
  (85, ⟨(.tcons (.pair (.own tapiNode 1) (.pair (.int .i64) (.pair (.own (.int .i64) 2) .unit))) (.tcons (.int .i64) (.tcons .bool .tnil))), [.held, (.row 58 tapiNode false), (.row 24 (.int .i64) false)], [none, none, some tgraftstep, some (.int .i64), some .bool]⟩),
  (86, ⟨(.int .i64), [.held, .held], [none]⟩),
  (87, ⟨.bool, [], [some (.list tapiNode), some (.int .i64), some (.list tapiNode), some (.int .i64)]⟩),
  (88, ⟨(.tcons (.own tapiNode 0) (.tcons (.int .i64) .tnil)), [(.row 58 tapiNode false)], [none, some (.int .i64), some (.list tapiPair), some (.int .i64)]⟩),
  (89, ⟨tapiNode, [], [some tapiNode]⟩),
  (90, ⟨.bool, [], [some tapiNode]⟩),
  (91, ⟨.bool, [], [some tapiNode, some tapiNode]⟩),
  (92, ⟨.bool, [], [some tapiNode]⟩),
  (93, ⟨(.tcons (.list tapiPair) (.tcons (.int .i64) .tnil)), [], [some (.list tapiNode), some (.int .i64)]⟩),
  (94, ⟨(.tcons (.list tapiNode) (.tcons (.int .i64) (.tcons (.int .i64) .tnil))), [], [some (.int .i64), some (.list tapiPair)]⟩),
  (95, ⟨.bool, [], [some (.list tapiNode), some (.int .i64), some (.list tapiNode), some (.int .i64)]⟩),
  (96, ⟨(.int .i64), [], [some tplanPlan]⟩),
  (97, ⟨(.int .i64), [], [some (.list tapiNode)]⟩),
  (98, ⟨.bool, [], [some (.list tapiNode), some tplanPlan]⟩),
  (99, ⟨(.pair (.int .i64) (.pair .str (.pair .str (.pair (.int .u32) (.pair (.own (.int .i64) 0) (.pair (.int .i64) (.pair (.own tapiPair 1) (.pair (.int .i64) (.pair (.int .i64) .unit))))))))), [(.row 24 (.int .i64) false), (.row 84 tapiPair false)], [some tapiNode]⟩),
  (100, ⟨(.tcons tapiNode (.tcons (.int .i64) .tnil)), [], [some tapiNode, some (.list (.int .i64))]⟩),
  (101, ⟨(.tcons (.int .i64) (.tcons (.int .i64) .tnil)), [], [some (.int .i64), some (.list (.int .i64))]⟩),
  (102, ⟨.bool, [], [some (.list (.int .i64)), some (.list (.int .i64))]⟩),
  (103, ⟨(.int .u64), [], [some (.int .u64), some (.int .i64)]⟩),
  (104, ⟨(.tcons (.pair (.own tapiNode 1) (.pair (.int .i64) (.pair (.own (.int .i64) 2) .unit))) (.tcons (.int .i64) (.tcons .bool .tnil))), [.held, (.row 58 tapiNode false), (.row 24 (.int .i64) false)], [none, none, some (.int .i64)]⟩),
  (105, ⟨tapiNode, [], [some (.list tapiPair)]⟩),
  (106, ⟨(.list tapiPair), [], [some (.list tapiPair), some .str, some .str]⟩),
  (107, ⟨(.list (.tcons (.int .i64) (.tcons tgraftstep .tnil))), [], []⟩),
  (108, ⟨(.own tapiNode 0), [(.row 58 tapiNode false)], [some (.list tapiNode)]⟩),
  (109, ⟨(.int .i64), [], [some (.int .i64)]⟩),
  (110, ⟨(.pair (.int .i64) (.pair .str (.pair .str (.pair (.int .u32) (.pair (.own (.int .i64) 0) (.pair (.int .i64) (.pair (.own tapiPair 1) (.pair (.int .i64) (.pair (.int .i64) .unit))))))))), [(.row 24 (.int .i64) false), (.row 84 tapiPair false)], [some tapiNode]⟩),
  (111, ⟨(.int .u32), [], [some (.int .u32), some (.int .i64)]⟩),
  (112, ⟨(.int .i64), [], [some (.int .u32), some (.int .i64)]⟩),
  (113, ⟨.bool, [], [some (.int .u32), some (.int .i64)]⟩),
  (114, ⟨(.own (.int .i64) 0), [(.row 24 (.int .i64) false), (.row 24 (.int .i64) true)], [none, some (.int .i64), none]⟩),
  (115, ⟨(.int .i64), [], [some (.int .i64)]⟩),
  (116, ⟨(.int .i64), [], [some tapiNode]⟩),
  (117, ⟨(.list tapiPair), [], [some (.list tapiPair)]⟩),
  (118, ⟨(.tcons (.int .i64) (.tcons .bool .tnil)), [], [some (.list tapiPair), some .str]⟩),
  (119, ⟨(.own tapiPair 0), [(.row 84 tapiPair false)], [some (.list tapiPair)]⟩),
  (120, ⟨(.list tapiPair), [], [some (.list tapiPair), some .str]⟩),
  (121, ⟨(.list (.tcons (.int .i64) (.tcons tgraftstep .tnil))), [], []⟩),
  (122, ⟨tapiNode, [], [some tapiNode, some (.int .i64)]⟩),
  (123, ⟨(.tcons (.int .i64) (.tcons .bool .tnil)), [], [some tapiNode]⟩),
  (124, ⟨(.int .i64), [], [some .str, some (.int .i64), some (.int .i64)]⟩),
  (125, ⟨tapiNode, [], [some .str, some .str]⟩),
  (126, ⟨tapiNode, [], [some (.int .u32), some (.list (.int .i64)), some (.int .i64)]⟩),
  (127, ⟨tapiNode, [], [some .str, some .str, some (.int .i64), some (.int .i64), some (.int .i64)]⟩),
  (128, ⟨tapiNode, [], [some (.int .i64)]⟩),
  (129, ⟨.bool, [], [some tapiPair]⟩),
  (130, ⟨.bool, [], [some (.list tapiPair), none]⟩),
  (131, ⟨.bool, [], [some (.list (.int .i64)), some (.list (.int .i64))]⟩),
  (132, ⟨.bool, [], [some (.list tapiPair), some (.list tapiPair)]⟩),
  (133, ⟨(.int .i64), [], [some (.int .u32)]⟩),
  (134, ⟨.bool, [], [some (.list (.int .i64)), some (.int .i64)]⟩),
  (135, ⟨.bool, [], [some (.list tapiPair)]⟩),
  (136, ⟨(.int .i64), [], [some (.list tapiNode), some (.int .i64)]⟩),
  (137, ⟨(.own tapiPair 0), [(.row 84 tapiPair false)], [some (.list tapiNode), some (.int .i64)]⟩),
  (138, ⟨(.list tapiPair), [], [some (.list tapiPair)]⟩),
  (139, ⟨(.int .i64), [(.box (.pair (.int .i64) (.pair (.own tapiNode 1) .unit))), (.row 58 tapiNode false)], [none, some (.list tapiPair), some (.int .i64)]⟩),
  (140, ⟨.bool, [], [some (.list tapiNode), some (.int .i64), some (.list tapiNode), some (.int .i64)]⟩),
  (141, ⟨.bool, [], [some (.list (.int .i64)), none]⟩),
  (142, ⟨(.list (.int .i64)), [], [some tapiNode]⟩),
  (143, ⟨.bool, [(.box (.int .i64))], [some (.int .i64), none]⟩),
  (144, ⟨.bool, [], [some (.int .i64), some (.int .i64)]⟩),
  (145, ⟨.bool, [], [some (.int .i64)]⟩),
  (146, ⟨(.own (.int .i64) 0), [(.row 24 (.int .i64) false)], [some (.list (.int .i64))]⟩),
  (147, ⟨.bool, [(.box (.list tapiNode))], [some (.int .i64), none]⟩),
  (148, ⟨.bool, [], [some (.list tapiNode), some (.int .i64)]⟩),
  (149, ⟨(.tcons (.int .i64) (.tcons .bool .tnil)), [], [some (.int .i64)]⟩),
  (150, ⟨(.own tapiPair 0), [(.row 84 tapiPair false)], [some (.list tapiPair), some tapiPair]⟩),
  (151, ⟨.bool, [], [some (.int .i64)]⟩),
  (152, ⟨(.int .i64), [], [some (.int .u32)]⟩),
  (153, ⟨(.int .u32), [], [some (.int .i64)]⟩),
  (156, ⟨.bool, [], [some tapiNode]⟩),
  (157, ⟨.bool, [], [some tapiNode]⟩),
  (158, ⟨(.tcons (.int .i64) (.tcons .bool .tnil)), [], [some (.list tapiPair), some .str, none]⟩),
  (159, ⟨(.int .i64), [], [some tapiPair, some .str]⟩),
  (160, ⟨(.int .i64), [], [some .str, some .str]⟩),
  (161, ⟨(.own tapiPair 0), [(.row 84 tapiPair false)], [none, some (.int .i64), some (.int .i64)]⟩),
  (162, ⟨(.own (.int .i64) 0), [(.row 24 (.int .i64) false)], [none, some (.int .i64), some (.int .i64)]⟩),
  (163, ⟨(.int .u32), [], [some (.int .u32), some (.int .i64)]⟩),
  (164, ⟨(.int .i64), [], [some (.int .u64), some (.int .i64), some (.int .i64)]⟩),
  (165, ⟨(.int .u64), [], [some .str, some (.int .i64)]⟩),
  (166, ⟨(.int .i64), [], [some (.list tapiPair), none]⟩),
  (167, ⟨(.int .i64), [], [some (.list (.int .i64)), some (.int .i64)]⟩),
  (168, ⟨(.int .i64), [(.box (.pair (.int .i64) (.pair (.own tapiNode 1) .unit))), (.row 58 tapiNode false)], [none, some tapiNode]⟩),
  (169, ⟨(.tcons (.mp tapiPair) (.tcons (.int .u32) .tnil)), [.held, .held], [none, some (.list tapiPair), some (.int .i64)]⟩),
  (170, ⟨(.list (.int .i64)), [], [some (.int .u32)]⟩),
  (171, ⟨tapiNode, [], [some tapiNode]⟩),
  (172, ⟨(.int .i64), [], [some (.list (.int .i64)), none]⟩),
  (173, ⟨(.int .i64), [], [some (.int .i64)]⟩),
  (174, ⟨(.own tapiPair 0), [(.row 84 tapiPair false), (.row 84 tapiPair true)], [none, some (.int .i64), none]⟩),
  (176, ⟨.bool, [], [some tapiNode, some .bool, some .bool, some .bool, some .bool]⟩),
  (177, ⟨(.list (.int .i64)), [], [some (.int .u32)]⟩),
  (178, ⟨.bool, [], [some (.list tapiPair)]⟩),
  (179, ⟨(.int .i64), [], [some .str, some .str]⟩),
  (180, ⟨(.int .i64), [], [some (.int .u64), some (.int .i64)]⟩),
  (181, ⟨(.tcons (.int .i64) (.tcons .bool .tnil)), [], [some (.int .u32), some (.int .i64)]⟩),
  (182, ⟨(.tcons (.int .i64) (.tcons (.int .i64) .tnil)), [], [some (.int .i64), some (.int .i64)]⟩),
  (186, ⟨.bool, [], [some (.int .u32), some (.int .i64)]⟩),
  (187, ⟨(.int .i64), [], [some (.int .u32)]⟩)]
def VT : List (Nat × List (Nat × Bool × Hint)) := [(126, [(1, true, ⟨(.pair (.int .i64) (.pair .str (.pair .str (.pair (.int .u32) (.pair (.own (.int .i64) 0) (.pair (.int .i64) (.pair (.own tapiPair 1) (.pair (.int .i64) (.pair (.int .i64) .unit))))))))), [(.row 24 (.int .i64) false), (.row 84 tapiPair false)], [some (.int .u32), some (.list (.int .i64)), some (.int .i64)]⟩)]), (100, [(1, false, ⟨(.tcons tapiNode (.tcons (.int .i64) .tnil)), [(.row 24 (.int .i64) true)], [some tapiNode, none]⟩)]), (28, [(0, true, ⟨(.tcons tplanPlan (.tcons .bool .tnil)), [], [none]⟩)]), (29, [(0, true, ⟨.tnil, [], [none, some tapiNode]⟩)]), (32, [(0, true, ⟨(.int .i64), [], [none]⟩)]), (44, [(0, true, ⟨(.tcons .str (.tcons .bool .tnil)), [], [none]⟩)]), (45, [(0, true, ⟨(.tcons tplanPlan (.tcons .bool .tnil)), [], [none]⟩)]), (46, [(0, true, ⟨.tnil, [], [none, some tapiNode]⟩)]), (47, [(0, true, ⟨(.int .i64), [], [none]⟩)]), (65, [(0, true, ⟨(.tcons .str (.tcons .bool .tnil)), [], [none]⟩)]), (66, [(0, true, ⟨.bool, [], [none]⟩)]), (67, [(0, true, ⟨(.tcons tplanPlan (.tcons (.int .i64) .tnil)), [], [none, some tplanPlan]⟩)]), (83, [(0, true, ⟨(.tcons tplanPlan (.tcons (.int .i64) (.tcons .bool .tnil))), [], [none, some tplanPlan]⟩)]), (85, [(0, true, ⟨(.tcons tplanPlan (.tcons (.int .i64) (.tcons .bool .tnil))), [], [none, some tplanPlan, some tgraftstep, some (.int .i64), some .bool]⟩)]), (86, [(0, true, ⟨(.int .i64), [], [none]⟩)]), (104, [(0, true, ⟨(.tcons tplanPlan (.tcons (.int .i64) (.tcons .bool .tnil))), [], [none, some tplanPlan, some (.int .i64)]⟩)]), (139, [(0, true, ⟨(.int .i64), [], [none, some (.list tapiPair), some (.int .i64)]⟩)]), (168, [(0, true, ⟨(.int .i64), [], [none, some tapiNode]⟩)]), (169, [(0, true, ⟨(.tcons (.mp tapiPair) (.tcons (.int .u32) .tnil)), [], [none, some (.list tapiPair), some (.int .i64)]⟩)]), (88, [(0, true, ⟨(.tcons (.own tapiNode 0) (.tcons (.int .i64) .tnil)), [(.row 58 tapiNode false)], [none, some (.int .i64), some (.list tapiPair), some (.int .i64)]⟩)])]
def FT : List (Nat × List OTy) := [(28, [(.box tgraftGraft)]), (29, [(.box tgraftGraft)]), (32, [(.box tgraftGraft)]), (44, [(.box tprunePrune)]), (45, [(.box tprunePrune)]), (46, [(.box tprunePrune)]), (47, [(.box tprunePrune)]), (65, [(.box tgraftGraft)]), (66, [(.box tgraftGraft)]), (67, [(.box tgraftGraft)]), (83, [(.box tprunePrune)]), (85, [(.box tprunePrune)]), (86, [(.box tprunePrune)]), (104, [(.box tgraftGraft)]), (107, [(.box (.list tgraftstep))]), (121, [(.box (.list tgraftstep))]), (139, [(.box ttriemaker)]), (143, [(.box (.int .i64))]), (147, [(.box (.list tapiNode))]), (168, [(.box ttriemaker)]), (169, [(.box ttriemaker)])]
def ET : List (Nat × List (Nat × Ty × Hint)) := [(69, [(0, (.pair (.own tapiNode 0) (.pair (.int .i64) (.pair (.own (.int .i64) 0) .unit))), ⟨(.tcons (.pair (.own tapiNode 2) (.pair (.int .i64) (.pair (.own (.int .i64) 1) .unit))) (.tcons (.int .i64) .tnil)), [.gone, (.row 24 (.int .i64) false), (.row 58 tapiNode false)], [none, some tapiNode]⟩), (0, (.pair (.nil 58) (.pair (.int .i64) (.pair (.own (.int .i64) 0) .unit))), ⟨(.tcons (.pair (.own tapiNode 1) (.pair (.int .i64) (.pair (.own (.int .i64) 0) .unit))) (.tcons (.int .i64) .tnil)), [(.row 24 (.int .i64) false), (.row 58 tapiNode false)], [none, some tapiNode]⟩), (0, (.pair (.own tapiNode 0) (.pair (.int .i64) (.pair (.nil 24) .unit))), ⟨(.tcons (.pair (.own tapiNode 1) (.pair (.int .i64) (.pair (.own (.int .i64) 2) .unit))) (.tcons (.int .i64) .tnil)), [.gone, (.row 58 tapiNode false), (.row 24 (.int .i64) false)], [none, some tapiNode]⟩), (0, (.pair (.nil 58) (.pair (.int .i64) (.pair (.nil 24) .unit))), ⟨(.tcons (.pair (.own tapiNode 0) (.pair (.int .i64) (.pair (.own (.int .i64) 1) .unit))) (.tcons (.int .i64) .tnil)), [(.row 58 tapiNode false), (.row 24 (.int .i64) false)], [none, some tapiNode]⟩)])]
def IT : List (Nat × Ty) := [(107, (.tcons (.int .i64) (.tcons tgraftstep .tnil))), (121, (.tcons (.int .i64) (.tcons tgraftstep .tnil)))]
def WH : List (Nat × List (Nat × Option Nat × Hint)) := []
def KT : List (Nat × List (List Nat)) := [
  (10, [[0, 1, 2, 3], [0, 1, 2, 3, 19], [8], [0, 1, 2, 3, 9, 10, 11], [0, 1, 2, 3, 9, 10, 11], [0, 2, 3, 9, 10, 38], [8], [0, 2, 9, 10, 12, 13, 14], [9, 10, 14, 15, 16, 17], [8]]),
  (12, [[0, 1], [4]]),
  (14, [[0, 1, 2, 3, 4, 5, 6], [0, 1, 2, 3, 4, 5, 6, 17], [0, 1, 2, 3, 4, 5, 6, 17, 25], [14, 15, 16], [0, 1, 2, 3, 4, 5, 6, 17, 32], [14, 15, 16], [0, 1, 2, 3, 4, 5, 6, 36], [14, 15, 16], [0, 1, 18], [0, 1, 18, 51], [0, 1, 18], [0, 1, 19, 20], [0, 1, 19, 66], [0, 19], [14, 15, 16]]),
  (18, [[0, 1], [0, 1, 10], [4], [0, 1, 5], [0, 1, 5, 14], [0, 1, 5], [0, 1, 5, 25], [4], [4]]),
  (19, [[0], [0, 3], [0, 3, 4], [0, 3, 4, 10], [0, 3, 4], [0, 3, 4, 16], [0, 3, 4, 5], [0, 3, 4, 5, 33], [0, 3, 4, 5], [0, 3, 4], [2]]),
  (23, [[0, 1, 2, 3, 4, 5], [12]]),
  (25, [[0], [0, 3], [0, 3, 8], [0, 3], [2]]),
  (27, [[0, 1], [0, 1, 6], [0, 1, 6, 11], [0, 1, 6], [0, 1, 6, 20], [4, 5], [4, 5]]),
  (28, [[0, 2], [0, 2, 13], [2, 3], [0, 2, 5], [0, 2, 5, 6], [0, 2, 6, 20], [0, 2, 6], [0, 2, 6, 7, 8], [2, 6, 7, 8, 31], [2, 6, 7, 8, 10], [2, 6, 7, 8, 10], [2, 6, 7, 8], [2, 7], [2, 3]]),
  (29, [[0, 3], [0, 3, 4], [0, 3, 4, 9], [0, 3, 4], [0, 3, 4, 28], [], [0, 3, 4, 5], [0, 3, 5], []]),
  (30, [[0, 1, 4], [4]]),
  (32, [[0], [0, 4], [2], [2]]),
  (37, [[0, 1], [0, 1], [0, 1, 17], [4, 5, 6, 7], [1, 8, 9], [4, 5, 6, 7]]),
  (38, [[], [1], [1, 2, 3, 4], [1, 2, 3, 4, 5, 6, 7], [1, 2, 3, 4, 5, 6, 7, 8], [2, 3, 4, 5, 6, 7, 8], [2, 3, 4, 5, 6, 7, 8, 9, 10], [2, 3, 4, 5, 6, 7, 9, 10, 11, 12], [0]]),
  (39, [[0, 1, 2, 3], [0, 1, 2, 3, 18], [8, 9, 10], [0, 1, 11], [0, 1, 11, 25], [0, 1, 11], [0, 1, 12, 13], [0, 1, 12, 40], [0, 12], [8, 9, 10]]),
  (41, [[0, 1], [6], [4]]),
  (42, [[0, 1, 2], [6]]),
  (44, [[0], [0, 28], [2, 3], [2, 3]]),
  (45, [[1, 2], [1, 2, 5], [1, 2, 17], [2, 3], [1, 2, 6, 7, 8], [1, 2, 6, 7, 8, 30], [1, 2, 6, 7, 8, 10], [1, 2, 6, 7, 8], [2, 6], [2, 3]]),
  (46, [[0, 3], [0, 3, 4], [0, 3, 4, 9], [0, 3, 4], [0, 3, 4, 5], [0, 3, 5], [], [0, 3, 4, 46], [], [0, 3, 4, 56], [0], [0], []]),
  (47, [[0], [0, 4], [2], [2]]),
  (48, [[0, 1, 2, 3], [8]]),
  (49, [[0], [0, 3], [0, 3, 4], [0, 3, 4, 13], [0, 3, 4], [0, 3, 4], [2]]),
  (50, [[0], [3], [3, 4], [3, 4, 10], [3, 4], [3, 4, 28], [2], [2]]),
  (51, [[0, 1], [4, 5]]),
  (52, [[1], [1, 3], [1, 3], [1, 3, 10], [2], [1, 3, 19], [2], [22], [2], [2]]),
  (53, [[0, 1, 2], [0, 1, 2, 7, 8], [0, 1, 2, 7, 18], [6], [0, 1, 8, 9, 10], [6]]),
  (54, [[0, 3], [0, 3, 30], [4, 5, 6], [0, 3, 7], [3, 7, 31, 32, 33], [3, 7, 31, 32, 33, 34], [3, 7, 9, 31, 32, 33], [3, 7, 31, 32, 33], [3, 7, 31, 32, 33], [3, 7, 10], [3, 7, 10, 44, 45, 46], [3, 7, 10, 44, 45, 46, 47], [3, 7, 10, 12, 44, 45, 46], [3, 7, 10, 13, 44, 45, 46], [3, 7, 10, 44, 45, 46], [3, 7, 10, 44, 45, 46], [3, 7, 10, 44, 45, 46], [7, 15, 16], [4, 5, 6]]),
  (55, [[0, 1], [4]]),
  (56, [[2, 3], [2, 3, 51], [4], [4]]),
  (57, [[0, 1], [0, 1, 5], [0, 1, 5, 11], [0, 1, 5], [0, 1, 5, 24], [4], [4]]),
  (58, [[0, 1], [0, 1, 5], [0, 1, 5, 15], [0, 1, 5], [0, 1, 5, 24], [4], [4]]),
  (60, [[1], [1, 3], [1, 3, 4], [1, 3, 4, 10], [1, 3, 4], [1, 3, 4, 18], [1, 3, 4], [1, 3, 29], [3], [2]]),
  (63, [[0, 1], [0, 1, 5], [0, 1, 5, 8, 9], [0, 1, 5, 8, 9, 10], [0, 1, 5, 6, 8, 9], [0, 1, 5, 8, 9], [0, 1, 5, 8, 9], [0, 1, 5, 8, 9], [4]]),
  (64, [[0], [0, 4], [2], [0, 6], [2], [2]]),
  (65, [[0], [0, 28], [2, 3], [2, 3]]),
  (66, [[0], [0, 13], [2], [0, 3, 4], [0, 3, 4, 22], [0, 3, 4, 22, 23], [2], [0, 3, 4, 25], [2], [2]]),
  (67, [[0, 3, 4], [0, 3, 4, 7], [0, 3, 4, 7, 8], [0, 3, 4, 7, 8], [0, 3, 4, 8, 9], [0, 3, 4, 8, 35], [0, 3, 4, 8, 9], [0, 3, 4, 8, 66], [0, 3, 4, 8, 9], [0, 3, 4, 9, 93], [3, 4, 9], [4, 5]]),
  (68, [[1], [2]]),
  (69, [[2, 3, 4], [2, 4], [4, 5]]),
  (70, [[1, 2, 4], [1, 4, 5], [1, 4, 5, 9], [4, 5], [4]]),
  (71, [[1, 2, 3, 6], [1, 2, 6, 7], [1, 2, 6, 7, 8], [1, 2, 6, 7, 8, 9], [6, 7, 8], [2, 6, 7, 8, 9, 26], [6], [2, 6, 7, 8, 9, 36], [6, 7, 8], [6, 7], [6]]),
  (72, [[0], [2]]),
  (73, [[0, 1, 2], [0, 1, 2, 14], [6], [6]]),
  (74, [[1, 2], [1, 5], [1, 5, 12], [4], [4]]),
  (76, [[0], [0, 3], [0, 3, 9], [0, 3], [0, 3, 4], [0, 3, 4, 5], [0, 3, 4, 5, 20], [0, 3, 4, 5], [0, 3, 4, 5, 35], [2], [0, 3, 41], [2], [2]]),
  (81, [[0, 1], [0, 1], [0, 6, 7], [0, 6, 17], [4, 5], [4, 5]]),
  (82, [[1], [1, 4], [1, 4, 5], [1, 4, 5], [1, 4, 5], [2], [1, 15], [2], [2]]),
  (83, [[0, 3, 4], [0, 3, 4], [0, 3, 4, 25], [4, 5, 6], [3, 4, 7], [3, 4, 7, 39], [4, 8, 9], [4, 5, 6], [3, 4, 10], [4, 5, 6]]),
  (84, [[1], [2]]),
  (85, [[0, 3, 4, 6, 7, 10], [0, 3, 4, 6, 7, 10], [0, 3, 4, 6, 7, 10, 13], [0, 3, 6, 7, 10, 13, 26], [10, 11, 12], [0, 3, 6, 7, 10, 13, 36], [10, 11, 12], [3, 6, 7, 10, 13, 59], [6, 7, 10, 13], [3, 6, 10], [10, 11, 12]]),
  (86, [[0], [0, 31], [2], [3], [4, 5], [4, 54], [2], [2]]),
  (87, [[0, 1, 2, 3], [0, 1, 2, 3, 17], [8], [0, 2, 9, 10], [0, 2, 9, 10, 40], [8], [0, 2, 9, 10, 11], [0, 2, 9, 10, 11, 45], [0, 2, 9, 10, 11], [0, 2, 9, 10, 11, 61], [8], [9, 10, 69], [8], [9, 10], [9, 10], [8]]),
  (88, [[0, 1, 2, 3], [0, 1, 2, 3, 19], [8, 9], [0, 1, 2, 3, 10], [0, 1, 2, 3, 10, 24], [0, 10], [0, 1, 2, 3, 10, 38], [0, 10], [0, 1, 2, 3, 10], [0, 1, 2, 3, 10, 11], [0, 1, 2, 3, 10, 11, 12], [0, 1, 2, 3, 10, 11, 12, 47], [0, 1, 2, 3, 10, 11, 12], [0, 1, 2, 3, 10, 11, 12, 13], [0, 1, 2, 3, 10, 11, 12, 13, 14], [0, 1, 2, 3, 10, 11, 12, 13, 14, 54], [0, 1, 2, 3, 10, 11, 12, 13, 14], [0, 1, 2, 3, 10, 11, 12, 13, 14, 66], [0, 1, 2, 3, 10, 11, 12, 13, 14], [0, 1, 2, 3, 10, 11, 12, 13, 76], [1, 2, 3, 10, 11, 12, 15, 16], [0, 1, 2, 3, 10, 11, 12, 16], [0, 1, 2, 3, 10, 11, 12], [0, 1, 2, 3, 10, 11, 12], [0, 1, 2, 3, 10, 11, 12], [0], [8, 9]]),
  (89, [[1, 2], [1, 2, 4], [1, 2, 4, 5], [2], [1, 2, 4, 12], [2], [1, 2, 4, 19], [2], [1, 2, 4, 29], [2], [1, 2, 4, 34], [1, 2, 39], [2], [1, 2, 56], [2], [2]]),
  (90, [[1], [1, 3], [2]]),
  (91, [[2, 3], [2, 3, 5], [4]]),
  (92, [[1], [1, 4], [1, 4, 5], [2], [1, 4, 20], [2], [1, 31], [2], [2]]),
  (93, [[0, 1], [0, 1, 6], [0, 1, 6, 11], [4, 5], [4, 5]]),
  (94, [[0, 1], [0, 1], [0, 1, 14, 15, 16], [0, 1, 14, 15, 16, 17], [0, 1, 8, 14, 15, 16], [0, 1, 9, 14, 15, 16], [0, 1, 9, 14, 15, 16, 27], [4, 5, 6], [0, 1, 14, 15, 16], [1, 10], [10, 11], [4, 5, 6]]),
  (95, [[0, 1, 2, 3], [8]]),
  (96, [[1], [1, 6, 7, 8], [1, 6, 7, 8, 9], [1, 3, 4, 6, 7, 8], [1, 6, 7, 8, 21], [2], [1, 6, 7, 8], [34], [2], [2]]),
  (97, [[0], [7, 8, 9], [7, 8, 9, 10], [3, 4, 7, 8, 9], [3, 4, 7, 8, 9, 16], [2], [3, 7, 8, 9, 18, 19, 20], [3, 7, 8, 9, 18, 19, 20, 21], [3, 6, 7, 8, 9, 18, 19, 20], [3, 7, 8, 9, 18, 19, 20, 30], [2], [3, 7, 8, 9, 18, 19, 20], [7, 8, 9], [2]]),
  (98, [[2, 3], [2, 3, 5], [2, 5, 16, 17, 18], [2, 5, 16, 17, 18, 19], [2, 5, 7, 16, 17, 18], [2, 5, 16, 17, 18], [2, 5, 16, 17, 18], [4]]),
  (99, [[1, 2], [1, 2], [1, 2], [2]]),
  (100, [[1, 2, 4], [1, 2, 4], [1, 2, 4, 6, 7], [1, 2, 4, 7], [1, 2, 4, 7, 24, 25, 26], [1, 2, 4, 7, 24, 25, 26, 27], [1, 2, 4, 7, 8, 9, 24, 25, 26], [1, 2, 4, 7, 8, 10, 11, 24, 25, 26], [1, 2, 4, 7, 8, 10, 11, 24, 25, 26, 38], [1, 2, 4, 7, 8, 10, 24, 25, 26], [1, 2, 4, 7, 24, 25, 26], [1, 2, 4, 7, 24, 25, 26], [2, 4, 7, 47], [4, 5], [4, 5]]),
  (101, [[0, 1], [0, 1, 6, 7], [0, 1, 6, 13], [4, 5], [1, 6, 17], [4, 5], [4, 5]]),
  (102, [[0, 1], [0, 1, 10], [4], [0, 1, 5], [0, 1, 5, 14], [0, 1, 5], [0, 1, 5, 25], [4], [4]]),
  (103, [[0, 1], [0, 1, 7], [4], [4]]),
  (104, [[0, 2, 4, 6], [0, 2, 4, 6, 26], [6, 9, 10], [6, 7, 8], [0, 2, 4, 6, 11], [0, 2, 4, 6, 11, 12], [0, 2, 4, 6, 11, 12, 13], [0, 2, 4, 6, 11, 12, 13, 81], [6, 11, 13, 14, 15, 16], [6, 14, 16, 17], [6, 7, 8], [0, 4, 6, 11, 12, 13, 18], [4, 6, 19], [6, 7, 8]]),
  (105, [[0, 2], [2, 3], [2]]),
  (106, [[0, 1, 2], [6]]),
  (107, [[0, 1, 3], [0, 1, 3, 8], [0, 1, 3], [0, 1, 3, 18]]),
  (108, [[0], [0, 4], [2], [2]]),
  (109, [[0], [0, 4], [2], [2]]),
  (110, [[1, 2], [1, 2, 10], [2], [2]]),
  (111, [[0, 1], [0, 1, 7], [4], [4]]),
  (112, [[0, 1], [4]]),
  (113, [[0, 1], [4]]),
  (114, [[0, 1, 2], [0, 1, 2], [0, 1, 2, 7], [0, 1, 2, 7, 16], [6], [0, 1, 2, 7, 8], [0, 1, 2, 7, 8, 22], [6], [0, 1, 2, 7, 8, 31], [0, 1, 2, 7, 9], [0, 1, 7, 9], [9], [6], [0, 1, 2, 7, 8], [0, 1, 2, 7, 8, 68], [0, 1, 2], [0], [6], [0, 1, 7], [0], [6]]),
  (115, [[0], [2]]),
  (116, [[1], [1, 10], [2], [1, 12], [2], [15], [2], [2]]),
  (117, [[0], [0, 4], [2], [2]]),
  (118, [[0, 1], [4, 5]]),
  (119, [[0], [0, 4], [2], [2]]),
  (120, [[0, 1], [1, 5], [5, 6, 7], [5, 6, 18], [4], [4]]),
  (121, [[0, 1, 3], [0, 1, 3, 8], [0, 1, 3], [0, 1, 3, 18]]),
  (122, [[1, 2, 4], [1, 4, 5], [1, 4, 5, 13], [4], [1, 4, 5, 6], [1, 4, 5], [4, 5], [4]]),
  (123, [[1], [4], [4, 10], [2, 3], [2, 3]]),
  (124, [[0, 1, 2], [6]]),
  (125, [[0, 1, 4], [4]]),
  (126, [[0, 1, 2, 6], [6]]),
  (127, [[0, 1, 2, 3, 4, 10], [10]]),
  (128, [[0, 2], [2]]),
  (129, [[1], [2]]),
  (130, [[0, 1], [4]]),
  (131, [[0, 1], [0, 1, 10], [4], [0, 1, 12, 13], [0, 1, 12, 13, 14], [0, 1, 5, 12, 13], [0, 1, 12, 13, 24], [4], [0, 1, 12, 13], [4]]),
  (132, [[0, 1], [0, 1, 10], [4], [0, 1, 12, 13], [0, 1, 12, 13, 14], [0, 1, 5, 12, 13], [0, 1, 12, 13, 24], [4], [0, 1, 12, 13], [4]]),
  (133, [[0], [2]]),
  (134, [[0, 1], [4]]),
  (135, [[0], [0, 5, 6], [0, 5, 6, 7], [0, 3, 5, 6], [0, 5, 6, 25], [2], [0, 5, 6], [2]]),
  (136, [[0, 1], [0, 12], [4], [4]]),
  (137, [[0, 1], [0, 1, 10], [4], [0, 5], [0, 5, 18], [4], [0, 5, 6], [0, 6, 38, 39, 40], [0, 6, 38, 39, 40, 41], [0, 6, 8, 38, 39, 40], [0, 6, 38, 39, 40], [0, 6, 38, 39, 40], [4]]),
  (138, [[0], [0, 3], [3, 6, 7, 8], [3, 6, 7, 8, 9], [3, 5, 6, 7, 8], [3, 6, 7, 8], [3, 6, 7, 8], [2]]),
  (139, [[0, 1, 2], [0, 1, 2, 12], [6], [0, 1, 2, 16], [6], [0, 1, 2, 31], [6], [0, 1, 2, 7, 8], [0, 1, 2, 7, 8, 9], [0, 1, 2, 7, 8, 9, 51, 52, 53], [0, 1, 2, 7, 8, 9, 51, 52, 53, 54], [0, 1, 2, 7, 8, 9, 11, 51, 52, 53], [0, 1, 2, 7, 8, 9, 51, 52, 53], [0, 1, 2, 7, 8, 9, 51, 52, 53], [6]]),
  (140, [[0, 1, 2, 3], [0, 1, 2, 3, 19], [8], [0, 2, 9, 10], [0, 2, 9, 10, 38], [8], [0, 2, 11, 12], [0, 2, 11, 12, 44, 45], [0, 2, 11, 12, 44, 45, 46], [0, 2, 11, 12, 13, 44, 45], [0, 2, 11, 12, 44, 45, 59], [8], [0, 2, 11, 12, 44, 45], [8]]),
  (141, [[0, 1], [4]]),
  (142, [[1], [1, 3], [3, 12, 13, 14], [3, 12, 13, 14, 15], [3, 5, 12, 13, 14], [3, 5, 12, 13, 14, 19], [3, 12, 13, 14], [3, 12, 13, 14], [2]]),
  (143, [[0, 1], [3]]),
  (144, [[0, 1], [1, 5, 6], [4]]),
  (145, [[0], [2]]),
  (146, [[0], [0, 4], [2], [2]]),
  (147, [[0, 1], [3]]),
  (148, [[0, 1], [4]]),
  (149, [[0], [0, 6], [2, 3], [2, 3]]),
  (150, [[0, 3], [0, 3, 5, 6], [0, 3, 5, 15], [3, 5, 7], [7], [4], [4]]),
  (151, [[0], [2]]),
  (152, [[0], [2]]),
  (153, [[0], [0, 3], [2], [0, 6], [2], [2]]),
  (156, [[1], [1, 3], [1, 3, 4], [1, 3, 4, 19], [1, 3, 4], [1, 3, 4], [2]]),
  (157, [[1], [1, 6], [2], [1, 8], [1, 8, 9], [1, 8, 9], [2], [1, 8, 19], [1, 3], [1, 3, 25], [1, 3], [1, 3, 33], [2], [2], [1, 8, 51], [2], [1, 74], [2], [2]]),
  (158, [[0, 1, 2], [0, 1, 2, 8], [0, 1, 2, 8, 9, 10], [0, 1, 2, 8, 9, 10, 17], [0, 1, 2, 8, 9, 10, 11], [0, 1, 2, 8, 9, 10, 11, 31], [0, 1, 2, 8, 9, 10], [0, 1, 2, 8, 9, 10], [6, 7]]),
  (159, [[1, 2], [4]]),
  (160, [[0, 1], [0, 1, 5], [0, 1, 5, 9], [4], [0, 1, 5, 20], [4], [25], [4], [4]]),
  (161, [[0, 1, 2], [0, 1, 2], [0, 1, 2, 16], [6], [0, 1, 2, 7], [0, 7], [0], [6]]),
  (162, [[0, 1, 2], [0, 1, 2], [0, 1, 2, 16], [6], [0, 1, 2, 7], [0, 7], [0], [6]]),
  (163, [[0, 1], [0, 1, 7], [4], [4]]),
  (164, [[0, 1, 2], [0, 1, 2, 17], [6], [0, 1, 2, 7, 8], [0, 1, 2, 7, 8, 9], [0, 1, 2, 7, 8, 9, 30], [0, 1, 2, 7, 8, 9], [0, 1, 2, 7, 8, 9], [0, 1, 2, 7, 8, 9], [6]]),
  (165, [[0, 1], [0, 1, 5], [0, 1, 5, 6], [0, 1, 5, 6, 13], [0, 1, 5, 6], [0, 1, 5, 6], [1, 5, 7, 8], [1, 5, 7, 8, 9], [1, 5, 7, 8, 9, 26], [1, 5, 7, 8, 9], [1, 5, 7, 8, 9], [1, 5, 7, 8, 9], [4]]),
  (166, [[0, 1], [0, 1, 7, 8], [0, 1, 7, 8, 9], [0, 1, 5, 7, 8], [0, 1, 5, 7, 8, 16], [4], [0, 1, 7, 8], [4]]),
  (167, [[0, 1], [0, 1, 7, 8], [0, 1, 7, 8, 9], [0, 1, 5, 7, 8], [0, 1, 5, 7, 8, 16], [4], [0, 1, 7, 8], [4]]),
  (168, [[0, 3], [0], [4]]),
  (169, [[0, 1, 2], [0, 1, 2, 8], [0, 1, 2, 8, 9], [0, 2, 8, 9, 14, 15, 16], [0, 2, 8, 9, 14, 15, 16, 17], [0, 2, 8, 9, 11, 14, 15, 16], [0, 2, 8, 9, 11, 12, 14, 15, 16], [0, 2, 8, 9, 12, 14, 15, 16], [0, 2, 8, 9, 14, 15, 16], [0, 2, 8, 9, 14, 15, 16], [6, 7]]),
  (170, [[0], [0, 3], [0, 3, 4], [0, 3, 5, 6], [0, 3, 5], [0, 3, 4], [0, 3, 5, 18], [2]]),
  (171, [[1, 2], [1, 2], [1, 2, 8, 9], [1, 2, 8, 9, 10], [1, 2, 3, 8, 9], [1, 2, 8, 9], [1, 2, 8, 9], [1, 2], [1, 2], [2]]),
  (172, [[0, 1], [0, 1, 7, 8], [0, 1, 7, 8, 9], [0, 1, 5, 7, 8], [0, 1, 5, 7, 8, 16], [4], [0, 1, 7, 8], [4]]),
  (173, [[0], [0, 5], [2], [0, 8], [2], [4], [20], [2], [2]]),
  (174, [[0, 1, 2], [0, 1, 2], [0, 1, 2, 7], [0, 1, 2, 7, 16], [6], [0, 1, 2, 7, 8], [0, 1, 2, 7, 8, 22], [6], [0, 1, 2, 7, 8, 31], [0, 1, 2, 7, 9], [0, 1, 7, 9], [9], [6], [0, 1, 2, 7, 8], [0, 1, 2, 7, 8, 68], [0, 1, 2], [0], [6], [0, 1, 7], [0], [6]]),
  (176, [[1, 2, 3, 4, 5], [3, 4, 5, 35], [10], [10]]),
  (177, [[0], [0, 3], [0, 3, 4], [0, 3, 4, 7], [0, 3, 4], [0, 3, 4, 12], [0, 3, 4], [2]]),
  (178, [[0], [0, 3], [0, 3, 7], [0, 3], [0, 3, 22], [2], [2]]),
  (179, [[0, 1], [0, 1, 5], [0, 1, 5, 12, 13], [0, 1, 5, 12, 13, 14], [0, 1, 5, 6, 12, 13], [0, 1, 5, 6, 12, 13, 22], [4], [0, 1, 5, 12, 13], [4]]),
  (180, [[0, 1], [0, 1, 5], [0, 1, 5, 8], [0, 1, 5], [0, 1, 5], [4]]),
  (181, [[0, 1], [0, 1, 7], [4, 5], [0], [0, 14], [4, 5], [4, 5]]),
  (182, [[0, 1], [0, 1, 6], [4, 5], [0, 1, 13], [4, 5], [4, 5]]),
  (186, [[0, 1], [0, 1, 5], [0, 1, 5, 7], [0, 1, 5], [0, 1, 5, 17], [4], [0, 1, 5], [4]]),
  (187, [[0], [0, 4], [2], [2]])]
def AT : List (Nat × List Nat) := [(82, [5]), (157, [9])]
def MT : List (Nat × List (List Nat)) := [(10, [[1, 1, 1, 1, 0, 1]]), (19, [[1, 1, 0, 1, 0, 0, 1, 0, 0, 1, 1, 0, 0, 0, 0, 1]]), (28, [[1, 1, 1, 1, 1]]), (29, [[1, 1, 1, 1, 0, 1]]), (44, [[1, 0, 1]]), (46, [[1, 1, 1, 1, 0, 1, 1, 1]]), (49, [[1, 1, 0, 1, 0, 0, 0, 1]]), (58, [[1, 0, 1, 0, 0, 0, 1]]), (67, [[1, 1, 1, 1, 0, 0, 1]]), (71, [[1, 1, 1, 1, 0, 0, 1]]), (85, [[1, 1, 1, 0, 0, 1, 1, 1], [1, 1, 1, 0, 0, 1]]), (86, [[1, 1, 1], [1, 0, 1]]), (87, [[1, 0, 1]]), (91, [[1, 1]]), (140, [[1, 0, 1]]), (157, [[1, 1, 0, 1, 0, 1]]), (160, [[1, 1, 0, 0, 1]])]
def RR : Prims := fun f => if f = 114 then some (.plain (insP 24 (.int .i64))) else if f = 174 then some (.plain (insP 84 tapiPair)) else if f = 161 then some (.plain (delP 84 tapiPair)) else if f = 162 then some (.plain (delP 24 (.int .i64))) else if f = 169 then some (.part 63 73 111 (.pair .str .unit) 58 tapiNode) else if f = 187 then some (.plain tzP) else none
def KK (f i : Nat) : List Nat := match Abs.look KT f with
  | some l => l.getD i []
  | none => []
def AG (f t : Nat) : Bool := match Abs.look AT f with
  | some l => l.contains t
  | none => false
def MM (f : Nat) (p : List Nat) : Bool := match Abs.look MT f with
  | some l => l.contains p
  | none => false
def HH (f : Nat) (ats : List Ty) : Option Hint := hintV HT VT FT ET f ats
def TT : Go.Abs.Told := ⟨TB, HH, KK, fun _ => false, AG, MM, fun f => Abs.look IT f, fun f d g => match Abs.look WH f with
  | some l => pickW d g l
  | none => none⟩
noncomputable abbrev CF : AbsFn := callW PP TT RR
noncomputable abbrev BF {R : Type} (f m : Nat) (p : List Nat) : Run R := bodyF PP TT CF @loopW f m p
noncomputable abbrev finF (f : Nat) (rt : Ty) (ots : List OTy) (m : Nat) : Kn (denR rt ots) := finK TT (funcOf PP f) rt ots m
end Go.Proofs.YtjekopgcpikkiaaGreatDoor.AM
set_option autoImplicit false
set_option linter.unusedVariables false
namespace Go.Abs
section
variable {P : Program}
theorem run_copy_k (w : World) (dT sT ty elem k : Nat) (b o dLen dCap : Nat) (a : Addr) (sLen sCap : Nat) (cs : List Value)
    (hu : P.underlying dT = some (.slice elem)) (hs : (P.info? elem).map (·.size) = some k) (hn : cs.length = Nat.min sLen dLen * k)
    (hsrc : ∀ j v, cs[j]? = some v → w.cell? (a.add j) = some v) (hc : ∀ j, j < cs.length → (w.cell? ⟨b, o + j, none⟩).isSome = true) (hf : ∀ j, j < cs.length → w.frozen? ⟨b, o + j, none⟩ = false) (h1 : ∀ v ∈ cs, v.oneCell' = true) :
    (Builtin.copy_ #[dT, sT] ty #[.slice (some ⟨b, o, none⟩) dLen dCap, .slice (some a) sLen sCap]).run P w = .ok (goInt (Nat.min sLen dLen)) (w.setCells b o cs) := by
  have hl := run_loadCells_list (P := P) w a cs hsrc
  have hst := run_storeCells_cells (P := P) b o cs 0 w (by simpa using hc) (by simpa using hf) h1
  cases hq : P.info? elem with
  | none => simp [hq] at hs
  | some i =>
    have hi : i.size = k := by simpa [hq] using hs
    simp [Builtin.copy_, run_underlying hu, Builtin.lenOf, Builtin.firstCells, sizeOf, typeInfo, hq, hi, ← hn, hl, hst]
end
theorem setCell_heap {w : World} {b o : Nat} {v : Value} {cur : Array Value} {e : TypeId} {fz : Nat × Nat} (h : w.heap[b]? = some (.cells cur e fz)) :
    (w.setCell ⟨b, o, none⟩ v).heap[b]? = some (.cells (cur.setIfInBounds o v) e fz) := by
  simp [World.setCell, Array.getElem?_modify, h]
theorem setCells_heap {b : Nat} {e : TypeId} {fz : Nat × Nat} : ∀ (vs : List Value) (o : Nat) (w : World) (cur : Array Value), w.heap[b]? = some (.cells cur e fz) → o + vs.length ≤ cur.size →
    ∃ cur', (w.setCells b o vs).heap[b]? = some (.cells cur' e fz) ∧ cur'.size = cur.size ∧ cur'.toList = cur.toList.take o ++ vs ++ cur.toList.drop (o + vs.length)
  | [], o, w, cur, h, hl => ⟨cur, h, rfl, by simp⟩
  | v :: vs, o, w, cur, h, hl => by
    have hl' : o < cur.size := by simp at hl; omega
    obtain ⟨cur', h1, h2, h3⟩ := setCells_heap vs (o + 1) (w.setCell ⟨b, o, none⟩ v) _ (setCell_heap (o := o) (v := v) h) (by simp at hl ⊢; omega)
    refine ⟨cur', h1, by rw [h2]; simp, ?_⟩
    rw [h3]
    have hs : cur.size = cur.toList.length := by simp
    simp only [Array.toList_setIfInBounds]
    generalize cur.toList = l at *
    have e1 : (l.set o v).take (o + 1) = l.take o ++ [v] := by
      rw [List.take_set, List.take_succ_eq_append_getElem (by omega), List.set_append_right _ _ (by rw [List.length_take]; omega)]
      simp [List.length_take, Nat.min_eq_left (Nat.le_of_lt (show o < l.length by omega))]
    have e2 : (l.set o v).drop (o + 1 + vs.length) = l.drop (o + (v :: vs).length) := by
      rw [List.drop_set_of_lt (by omega)]
      congr 1
      simp; omega
    rw [e1, e2]
    simp
theorem setCells_grow (b : Nat) : ∀ (vs : List Value) (o : Nat) (w : World), Grow (fun x => x = b) w (w.setCells b o vs)
  | [], _, w => Grow.refl _ w
  | v :: vs, o, w => by
    refine Grow.trans (b := w.setCell ⟨b, o, none⟩ v) ⟨rfl, rfl, rfl, by simp, fun k hk hn => ?_⟩ (setCells_grow b vs (o + 1) _) (fun k _ h => h)
    have hn : ¬ k = b := hn
    simp [World.setCell, Array.getElem?_modify, Ne.symm hn]
theorem cells_some {w : World} {b j : Nat} {cur : Array Value} {e : TypeId} {fz : Nat × Nat} (h : w.heap[b]? = some (.cells cur e fz)) (hj : j < cur.size) : (w.cell? ⟨b, j, none⟩).isSome = true := by
  simp [World.cell?, h, hj]
theorem cells_thawed {w : World} {b j : Nat} {cur : Array Value} {e : TypeId} (h : w.heap[b]? = some (.cells cur e (0, 0))) : w.frozen? ⟨b, j, none⟩ = false := by
  simp [World.frozen?, h]
theorem cells_shape {w : World} {b : Nat} {cur : Array Value} {e : TypeId} {fz : Nat × Nat} (h : w.heap[b]? = some (.cells cur e fz)) : w.shape? b = some (e, cur.size) := by
  simp [World.shape?, h]
end Go.Abs
set_option autoImplicit false
set_option linter.unusedVariables false
namespace Go.Abs
def InsWalk (P : Program) (f e k : Nat) : Prop := ∀ (w : World) (L0 L1 : Loc) (n i m : Nat) (cs vs : List Value), RowAt w L0 e k n cs → RowAt w L1 e k m vs → (L0.hdr.ownBlock = some L0.loc → L1.hdr.ownBlock = some L1.loc → L0.loc ≠ L1.loc) →
  i ≤ n → 0 < m → n + m ≤ 1073741824 → cs.length = n * k → vs.length = m * k → (∀ v ∈ cs, v.oneCell' = true) → (∀ v ∈ vs, v.oneCell' = true) →
  Calls P f #[L0.hdr, .int .i64 i, L1.hdr] w fun e' w' => ∃ L', e' = .returned L'.hdr ∧ RowAt w' L' e k (n + m) (cs.take (i * k) ++ vs ++ cs.drop (i * k)) ∧ Grow (fun b => L0.hdr.ownBlock = some L0.loc ∧ b = L0.loc) w w' ∧
    (L'.hdr.ownBlock = some L'.loc → L'.loc < w'.heap.size ∧ ((L0.hdr.ownBlock = some L0.loc ∧ L'.loc = L0.loc) ∨ w.heap.size ≤ L'.loc)) ∧ L'.hdr.oneCell' = true
def DelWalk (P : Program) (f e k : Nat) : Prop := ∀ (w : World) (L0 : Loc) (n i j : Nat) (cs : List Value), RowAt w L0 e k n cs →
  i ≤ j → j ≤ n → cs.length = n * k → (∀ v ∈ cs, v.oneCell' = true) →
  Calls P f #[L0.hdr, .int .i64 i, .int .i64 j] w fun e' w' => ∃ L', e' = .returned L'.hdr ∧ RowAt w' L' e k (n - (j - i)) (cs.take (i * k) ++ cs.drop (j * k)) ∧ Grow (fun b => L0.hdr.ownBlock = some L0.loc ∧ b = L0.loc) w w' ∧
    (L'.hdr.ownBlock = some L'.loc → L'.loc < w'.heap.size ∧ ((L0.hdr.ownBlock = some L0.loc ∧ L'.loc = L0.loc) ∨ w.heap.size ≤ L'.loc)) ∧ L'.hdr.oneCell' = true
theorem start_SI {w : World} {Fr : Nat → Prop} {mu : Nat → Loc} {objs : List AObj} {args : List Dyn} {vs : List Value} (hpre : Pre w Fr mu objs args vs) : SI (env w Fr mu objs) w Fr mu objs := by
  refine ⟨Grow.refl _ w, fun _ => id, fun _ => .inl, hpre.frL, hpre.so.hh, hpre.so.obj, hpre.so.nm, hpre.so.sep, ?_, ?_, Nat.le_refl _, hpre.gl⟩
  · intro i o hi ho
    obtain ⟨h1, h2⟩ := hpre.so.own i o hi ho
    exact ⟨.inl ⟨i, o, hi, ho, rfl⟩, h1, h2⟩
  · intro i o _ hi
    obtain ⟨t, x⟩ := o
    cases t with
    | gone => trivial
    | held => rfl
    | box t => rfl
    | row e t f => cases f <;> first | rfl | trivial
theorem insP_ok {P : Program} {f e : Nat} {t : Ty} (hen : Enters P f) (hw : InsWalk P f e t.width) (args : List Dyn) (objs : List AObj) (rt : Ty) (ots : List OTy) (r : denR rt ots) (h : insP e t f args objs rt ots = some r) : Enters P f ∧
  ∀ (w : World) (Fr : Nat → Prop) (mu : Nat → Loc) (vs : List Value), Pre w Fr mu objs args vs →
    Calls P f vs.toArray w fun e w' => ∃ v Fr' mu', e = .returned v ∧ Post w Fr mu objs ⟨rt, resT rt ots r⟩ (resO rt ots r) v w' Fr' mu' := by
  refine ⟨hen, ?_⟩
  intro w Fr mu vals hpre
  unfold insP at h
  split at h
  case h_2 => cases h
  rename_i t1 x1 i t2 x2 e1 u1 f1 xs0 e2 u2 vs0
  split at h
  case isFalse => cases h
  rename_i hee
  obtain ⟨he1, he2⟩ := hee
  subst he1
  subst he2
  split at h
  case h_2 => cases h
  rename_i xs vs hxs hvs
  split at h
  case h_2 => cases h
  rename_i x y hx hy
  obtain ⟨hg, h⟩ := br_none h
  injection h with h
  subst h
  have hso := hpre.so
  have ho0 : OR w Fr mu 0 ⟨.row e2 t f1, xs⟩ := by rw [← list_as hxs]; exact hso.obj 0 _ rfl
  have ho1 : OR w Fr mu 1 ⟨.row e2 t true, vs⟩ := by rw [← list_as hvs]; exact hso.obj 1 _ rfl
  obtain ⟨hel, cx, hrx, hown⟩ := ho0
  obtain ⟨_, cv, hrv, hown1⟩ := ho1
  -- the values
  have hlen := hpre.len
  match vals, hlen with
  | [a0, a1, a2], _ =>
  have v0 := (hpre.val 0 _ a0 rfl rfl).1
  have v1 := (hpre.val 1 _ a1 rfl rfl).1
  have v2 := (hpre.val 2 _ a2 rfl rfl).1
  injection (show [a0] = [(mu 0).hdr] from v0) with v0
  injection (show [a1] = [.int .i64 i] from v1) with v1
  injection (show [a2] = [(mu 1).hdr] from v2) with v2
  subst v0; subst v1; subst v2
  unfold insG at hg
  simp only [decide_eq_true_eq] at hg
  obtain ⟨g1, g2, g3, g4⟩ := hg
  have hi : i = ((i.toNat : Nat) : Int) := (Int.toNat_of_nonneg g1).symm
  have hcx : cx.length = xs.length * t.width := rows_len (fun x l h => Rp_len t x l (Ty.elt_cel hel) h) hrx
  have hcv : cv.length = vs.length * t.width := rows_len (fun x l h => Rp_len t x l (Ty.elt_cel hel) h) hrv
  have one : ∀ {zs : List (den t)} {c : List Value}, rows (fun x l => Rp w Fr mu t x l) zs c → ∀ u ∈ c, u.oneCell' = true := fun hr => rows_all (fun x l h => Rp_one hso.hh t x l (Ty.elt_cel hel) h) hr
  have hwalk := hw w (mu 0) (mu 1) xs.length i.toNat vs.length cx cv hown hown1 (fun h0 h1 => hso.sep 0 1 _ _ rfl rfl (by omega) h0 h1) g2 g3 g4 hcx hcv (one hrx) (one hrv)
  rw [← hi] at hwalk
  refine Calls.mono hwalk ?_
  rintro ex w' ⟨L, rfl, hr2, hr3, hr4, hr5⟩
  have hgr : Grow (fun b => occ mu 0 (⟨.row e2 u1 f1, xs0⟩ : AObj) ∧ b = (mu 0).loc) w w' := hr3
  have hj : (⟨[], [⟨.row e2 u1 f1, xs0⟩, ⟨.row e2 u2 true, vs0⟩]⟩ : St).heap[0]? = some (⟨.row e2 u1 f1, xs0⟩ : AObj) := rfl
  have HS := start_SI hpre
  have hfr : ∀ b, Fr b → w'.heap[b]? = w.heap[b]? := fun b hb => hgr.block b (hpre.frL b hb) (fun ⟨h1, h2⟩ => (hso.own 0 _ rfl h1).1 (h2 ▸ hb))
  have hrow : rows (fun x l => Rp w' Fr (upd mu 0 L) t x l) (insL t xs i vs) (cx.take (i.toNat * t.width) ++ cv ++ cx.drop (i.toNat * t.width)) := by
    have wl : ∀ (x : den t) (l : List Value), Rp w Fr mu t x l → l.length = t.width := fun x l h => Rp_len t x l (Ty.elt_cel hel) h
    have := rows_append (rows_append (Abs.rows_take wl hrx i.toNat) hrv) (rows_drop wl hrx i.toNat)
    exact rows_mono (fun x l h => Rp_keep (fun _ => id) hfr t x l (t.pure_okN (Ty.elt_pure hel)) h) this
  have hsi := SI.setObj (s := ⟨[], [⟨.row e2 u1 f1, xs0⟩, ⟨.row e2 u2 true, vs0⟩]⟩) HS (r := killR [0]) (w' := w') (L := L) (o := ⟨.row e2 t false, insL t xs i vs⟩) hj (killR_T [0])
    (killR_OK hso.hh hfr (fun k hk hne => upd_ne (by simpa using hne))) (fun t x h => killR_okN [0] t x h) hgr hr5
    (by
      refine ⟨hel, _, hrow, ?_⟩
      rw [upd_same]
      have hl : (insL t xs i vs).length = xs.length + vs.length := by
        unfold insL
        simp only [List.length_append, List.length_take, List.length_drop]
        omega
      rw [hl]
      exact hr2)
    (by
      intro hoc
      have hoc : (upd mu 0 L 0).hdr.ownBlock = some (upd mu 0 L 0).loc := hoc
      rw [upd_same] at hoc
      exact hr4 hoc)
    (fun t x e => by cases e) (fun _ => trivial)
  have hos : List.set (List.map (killR [0]).obj ([⟨.row e2 u1 f1, xs0⟩, ⟨.row e2 u2 true, vs0⟩] : List AObj)) 0 (⟨.row e2 t false, insL t xs i vs⟩ : AObj) = [⟨.row e2 t false, insL t xs i vs⟩, ⟨.row e2 t true, vs⟩] := by
    show [(⟨.row e2 t false, insL t xs i vs⟩ : AObj), ⟨.row e2 u2 true, vs0⟩] = _
    rw [list_as hvs]
  obtain ⟨m1, m2⟩ := mkR_res rt x ots y
  have hob := asObjs_some ots _ y hy
  have hxx := as_some hx
  refine ⟨_, Fr, upd mu 0 L, rfl, ?_⟩
  rw [m1, m2, ← hob, ← hxx]
  refine ⟨?_, VR_own (by rw [upd_same]), ?_⟩
  · rw [← hos]
    exact hsi
  · show 0 < 2
    omega
theorem delP_ok {P : Program} {f e : Nat} {t : Ty} (hen : Enters P f) (hw : DelWalk P f e t.width) (args : List Dyn) (objs : List AObj) (rt : Ty) (ots : List OTy) (r : denR rt ots) (h : delP e t f args objs rt ots = some r) : Enters P f ∧
  ∀ (w : World) (Fr : Nat → Prop) (mu : Nat → Loc) (vs : List Value), Pre w Fr mu objs args vs →
    Calls P f vs.toArray w fun e w' => ∃ v Fr' mu', e = .returned v ∧ Post w Fr mu objs ⟨rt, resT rt ots r⟩ (resO rt ots r) v w' Fr' mu' := by
  refine ⟨hen, ?_⟩
  intro w Fr mu vals hpre
  unfold delP at h
  split at h
  case h_2 => cases h
  rename_i t1 x1 i j e1 u1 f1 xs0
  split at h
  case isFalse => cases h
  rename_i he1
  subst he1
  split at h
  case h_2 => cases h
  rename_i xs hxs
  split at h
  case h_2 => cases h
  rename_i x y hx hy
  obtain ⟨hg, h⟩ := br_none h
  injection h with h
  subst h
  have hso := hpre.so
  have ho0 : OR w Fr mu 0 ⟨.row e1 t f1, xs⟩ := by rw [← list_as hxs]; exact hso.obj 0 _ rfl
  obtain ⟨hel, cx, hrx, hown⟩ := ho0
  have hlen := hpre.len
  match vals, hlen with
  | [a0, a1, a2], _ =>
  have v0 := (hpre.val 0 _ a0 rfl rfl).1
  have v1 := (hpre.val 1 _ a1 rfl rfl).1
  have v2 := (hpre.val 2 _ a2 rfl rfl).1
  injection (show [a0] = [(mu 0).hdr] from v0) with v0
  injection (show [a1] = [.int .i64 i] from v1) with v1
  injection (show [a2] = [.int .i64 j] from v2) with v2
  subst v0; subst v1; subst v2
  unfold delG at hg
  simp only [decide_eq_true_eq] at hg
  obtain ⟨g1, g2, g3⟩ := hg
  have hi : i = ((i.toNat : Nat) : Int) := (Int.toNat_of_nonneg g1).symm
  have hj : j = ((j.toNat : Nat) : Int) := (Int.toNat_of_nonneg (by omega)).symm
  have hcx : cx.length = xs.length * t.width := rows_len (fun x l h => Rp_len t x l (Ty.elt_cel hel) h) hrx
  have one : ∀ {zs : List (den t)} {c : List Value}, rows (fun x l => Rp w Fr mu t x l) zs c → ∀ u ∈ c, u.oneCell' = true := fun hr => rows_all (fun x l h => Rp_one hso.hh t x l (Ty.elt_cel hel) h) hr
  have hwalk := hw w (mu 0) xs.length i.toNat j.toNat cx hown (by omega) g3 hcx (one hrx)
  rw [← hi, ← hj] at hwalk
  refine Calls.mono hwalk ?_
  rintro ex w' ⟨L, rfl, hr2, hr3, hr4, hr5⟩
  have hgr : Grow (fun b => occ mu 0 (⟨.row e1 u1 f1, xs0⟩ : AObj) ∧ b = (mu 0).loc) w w' := hr3
  have hj : (⟨[], [⟨.row e1 u1 f1, xs0⟩]⟩ : St).heap[0]? = some (⟨.row e1 u1 f1, xs0⟩ : AObj) := rfl
  have HS := start_SI hpre
  have hfr : ∀ b, Fr b → w'.heap[b]? = w.heap[b]? := fun b hb => hgr.block b (hpre.frL b hb) (fun ⟨h1, h2⟩ => (hso.own 0 _ rfl h1).1 (h2 ▸ hb))
  have hrow : rows (fun x l => Rp w' Fr (upd mu 0 L) t x l) (delL t xs i j) (cx.take (i.toNat * t.width) ++ cx.drop (j.toNat * t.width)) := by
    have wl : ∀ (x : den t) (l : List Value), Rp w Fr mu t x l → l.length = t.width := fun x l h => Rp_len t x l (Ty.elt_cel hel) h
    have := rows_append (Abs.rows_take wl hrx i.toNat) (rows_drop wl hrx j.toNat)
    exact rows_mono (fun x l h => Rp_keep (fun _ => id) hfr t x l (t.pure_okN (Ty.elt_pure hel)) h) this
  have hsi := SI.setObj (s := ⟨[], [⟨.row e1 u1 f1, xs0⟩]⟩) HS (r := killR [0]) (w' := w') (L := L) (o := ⟨.row e1 t false, delL t xs i j⟩) hj (killR_T [0])
    (killR_OK hso.hh hfr (fun k hk hne => upd_ne (by simpa using hne))) (fun t x h => killR_okN [0] t x h) hgr hr5
    (by
      refine ⟨hel, _, hrow, ?_⟩
      rw [upd_same]
      have hl : (delL t xs i j).length = xs.length - (j.toNat - i.toNat) := by
        unfold delL
        simp only [List.length_append, List.length_take, List.length_drop]
        omega
      rw [hl]
      exact hr2)
    (by
      intro hoc
      have hoc : (upd mu 0 L 0).hdr.ownBlock = some (upd mu 0 L 0).loc := hoc
      rw [upd_same] at hoc
      exact hr4 hoc)
    (fun t x e => by cases e) (fun _ => trivial)
  have hos : List.set (List.map (killR [0]).obj ([⟨.row e1 u1 f1, xs0⟩] : List AObj)) 0 (⟨.row e1 t false, delL t xs i j⟩ : AObj) = [⟨.row e1 t false, delL t xs i j⟩] := rfl
  obtain ⟨m1, m2⟩ := mkR_res rt x ots y
  have hob := asObjs_some ots _ y hy
  have hxx := as_some hx
  refine ⟨_, Fr, upd mu 0 L, rfl, ?_⟩
  rw [m1, m2, ← hob, ← hxx]
  refine ⟨?_, VR_own (by rw [upd_same]), ?_⟩
  · rw [← hos]
    exact hsi
  · show 0 < 1
    omega
end Go.Abs
set_option linter.unusedVariables false
set_option linter.unusedSimpArgs false
namespace Go.Proofs.YtjekopgcpikkiaaGreatDoor.Ins114
open Go.Abs Go.RowKit Go.Lib Go.Proofs
set_option maxHeartbeats 4000000 in
set_option maxRecDepth 100000 in
theorem shift {P : Program} {k : Nat} (hf : P.funcs[114]? = some Tryz.f114) (mixed : P.follows .mixedOrders = true) (t3 : P.underlying 3 = some (.int .i64)) (t4 : P.underlying 4 = some .bool) (tS : P.underlying 50 = some (.slice 24)) (zE : ∀ w, (Go.sizeOf 24).run P w = .ok k w)
    (hsz : (P.info? 24).map (·.size) = some k) (hov0 : ∀ (w : World) (x y : Value), (callFunc 154 #[x, y]).run P w = Result.andThen ((Extern.SlicesOverlaps.overlaps #[50, 50] #[4] #[x, y]).run P w) (fun v w' => .ok (.value v) w'))
    (b n c i vb m vc : Nat) (cs vs : List Value) (w : World) (hi : i < n) (hm : 0 < m) (hroom : n + m ≤ c) (hc63 : c ≤ 9223372036854775807) (hvb : vb ≠ b) (hk : 0 < k)
    {cur cur2 : Array Value} {e e2 : TypeId} (hb : w.heap[b]? = some (.cells cur e (0, 0))) (hb2 : w.heap[vb]? = some (.cells cur2 e2 (0, 0))) (hcur : cur.size = c * k)
    (hcl : cs.length = n * k) (hvl : vs.length = m * k)
    (hcs : At w b 0 cs) (hvs : At w vb 0 vs) (h1c : ∀ v ∈ cs, v.oneCell' = true) (h1v : ∀ v ∈ vs, v.oneCell' = true) :
    Calls P 114 #[.slice (some ⟨b, 0, none⟩) n c, .int .i64 i, .slice (some ⟨vb, 0, none⟩) m vc] w fun e w' =>
      e = .returned (.slice (some ⟨b, 0, none⟩) (n + m) c) ∧ w' = (w.drew.setCells b ((i + m) * k) (cs.drop (i * k))).setCells b (i * k) vs := by
  have u3 := run_underlying t3; have u4 := run_underlying t4; have uS := run_underlying tS
  have hz1 : ¬ ((m : Int) = 0) := by omega
  have hz2 : ¬ ((i : Int) = (n : Int)) := by omega
  have hov : ∀ lb cb, (callFunc 154 #[.slice (some ⟨vb, 0, none⟩) m vc, .slice (some ⟨b, (i + m) * k, none⟩) lb cb]).run P w = .ok (.value (.bool false)) w := fun lb cb => by
    rw [hov0, Lib.run_overlaps_apart w 50 4 24 tS k zE ⟨vb, 0, none⟩ ⟨b, (i + m) * k, none⟩ m vc lb cb hvb e2 e cur2.size cur.size (cells_shape hb2) (cells_shape hb)
      (by rw [hcur]; exact Nat.ne_of_gt (Nat.mul_pos (by omega) hk)) (cells_thawed hb2) (cells_thawed hb2)]
    rfl
  have hdl : (cs.drop (i * k)).length = (n - i) * k := by rw [List.length_drop, hcl, Nat.sub_mul]
  have hw1 : IntKind.i64.wrap ((i : Int) + (m : Int)) = (i : Int) + (m : Int) := by rw [IntKind.wrap_i64]; omega
  have hb1 : (0 : Int) ≤ (i : Int) + (m : Int) := by omega
  have hin : i ≤ n := by omega
  have htn : ((i : Int) + (m : Int)).toNat = i + m := by omega
  have hb3 : (i : Int) ≤ (n : Int) + (m : Int) := by omega
  have hb4 : ¬ (c = i) := by omega
  have hb2' : ¬ (c = i + m) := by omega
  have hle : (n + m) * k ≤ c * k := Nat.mul_le_mul_right k hroom
  have hsp : ∀ j, j < (n + m) * k → (w.cell? ⟨b, j, none⟩).isSome = true := fun j hj => cells_some hb (by omega)
  have hfz : ∀ j, w.frozen? ⟨b, j, none⟩ = false := fun j => cells_thawed hb
  have e1 : (n - i) * k + (i + m) * k = (n + m) * k := by rw [← Nat.add_mul]; congr 1; omega
  have e2 : (i * k) + m * k ≤ (n + m) * k := by rw [← Nat.add_mul]; exact Nat.mul_le_mul_right k (by omega)
  have hmin1 : ∀ x y : Nat, x = n + m - i → y = n + m - (i + m) → Nat.min x y = n - i := by intro x y h1 h2; subst h1; subst h2; simp only [Nat.min_def]; split <;> omega
  have hcp1 : ∀ ty dc sc, (Builtin.copy_ #[50, 50] ty #[.slice (some ⟨b, (i + m) * k, none⟩) (n + m - (i + m)) dc, .slice (some ⟨b, i * k, none⟩) (n + m - i) sc]).run P w.drew = .ok (goInt (n - i : Nat)) (w.drew.setCells b ((i + m) * k) (cs.drop (i * k))) := fun ty dc sc => by
    have := run_copy_k (P := P) w.drew 50 50 ty 24 k b ((i + m) * k) (n + m - (i + m)) dc ⟨b, i * k, none⟩ (n + m - i) sc (cs.drop (i * k)) tS hsz (by rw [hdl, hmin1 _ _ rfl rfl])
      (fun j v hj => by rw [Addr.add_lit]; have := hcs (i * k + j) v (by rwa [List.getElem?_drop] at hj); rw [Nat.zero_add] at this; exact this)
      (fun j hj => hsp _ (by omega)) (fun j hj => hfz _) (fun v hv => h1c v (List.mem_of_mem_drop hv))
    rw [hmin1 _ _ rfl rfl] at this
    exact this
  obtain ⟨W1, hW1⟩ : ∃ W1, W1 = w.drew.setCells b ((i + m) * k) (cs.drop (i * k)) := ⟨_, rfl⟩
  have hsp1 : ∀ j, j < (n + m) * k → (W1.cell? ⟨b, j, none⟩).isSome = true := fun j hj => by
    rw [hW1]
    exact isSome_setCells b (cs.drop (i * k)) ((i + m) * k) w.drew (fun j hj => hsp _ (by rw [hdl] at hj; omega)) _ (hsp j hj)
  have hmin2 : Nat.min m (n + m - i) = m := by simp only [Nat.min_def]; split <;> omega
  have hcp2 : ∀ (W : World), (∀ x, W.cell? x = W1.cell? x) → (∀ x, W.frozen? x = W1.frozen? x) → ∀ ty dc, (Builtin.copy_ #[50, 50] ty #[.slice (some ⟨b, i * k, none⟩) (n + m - i) dc, .slice (some ⟨vb, 0, none⟩) m vc]).run P W = .ok (goInt m) (W.setCells b (i * k) vs) := fun W hWc hWf ty dc => by
    have := run_copy_k (P := P) W 50 50 ty 24 k b (i * k) (n + m - i) dc ⟨vb, 0, none⟩ m vc vs tS hsz (by rw [hvl, hmin2])
      (fun j v hj => by
        rw [Addr.add_lit, hWc, hW1, World.cell?_setCells_out b _ _ _ _ (fun h _ => absurd h hvb)]
        exact hvs j v hj)
      (fun j hj => by rw [hWc]; exact hsp1 _ (by omega)) (fun j hj => by rw [hWf, hW1, World.frozen?_setCells]; exact hfz _) h1v
    rw [hmin2] at this
    exact this
  rw [← hW1] at hcp1
  clear hcs hvs hsp1 hsp hfz hov0
  go_enter hf, Tryz.ntmps114
  go_wp2_with (simp only [hov])
  go_region_law_o (refine step_copy_runI rfl _ _ 50 50 rfl _ _ (by simp [Act.eval, Act.put]) (by simp [Act.eval, Act.put]) (hcp1 _ _ _) ?_)
  go_wp2_with (at_builtin; refine wpList_copy_runI _ rfl _ _ 50 50 rfl _ _ rfl rfl (hcp2 _ (fun _ => rfl) (fun _ => rfl) _ _) ?_)
  go_ret
  first | exact ⟨rfl, rfl⟩ | exact ⟨rfl, by rw [hW1]⟩
set_option maxHeartbeats 4000000 in
set_option maxRecDepth 100000 in
theorem atEnd {P : Program} {k : Nat} (hf : P.funcs[114]? = some Tryz.f114) (mixed : P.follows .mixedOrders = true) (t3 : P.underlying 3 = some (.int .i64)) (t4 : P.underlying 4 = some .bool) (tS : P.underlying 50 = some (.slice 24)) (zE : ∀ w, (Go.sizeOf 24).run P w = .ok k w)
    (ad : Option Addr) (n c m vc : Nat) (va : Option Addr) (w w1 : World) (r : Value) (hm : 0 < m) (hnc : n ≤ c) (hnil : ad = none → n = 0 ∧ c = 0)
    (hr : ∀ ty, (Builtin.append_ #[50, 50] ty #[.slice ad n c, .slice va m vc]).run P w = .ok r w1) :
    Calls P 114 #[.slice ad n c, .int .i64 n, .slice va m vc] w fun e w' => e = .returned r ∧ w' = w1 := by
  have u3 := run_underlying t3; have u4 := run_underlying t4; have uS := run_underlying tS
  have hz1 : ¬ ((m : Int) = 0) := by omega
  go_enter hf, Tryz.ntmps114
  cases ad with
  | none =>
    obtain ⟨rfl, rfl⟩ := hnil rfl
    go_wp2_with (at_builtin; refine Lib.wpList_append_run _ rfl _ _ _ _ rfl _ _ rfl rfl _ _ (hr _) ?_)
    go_ret
    exact ⟨rfl, rfl⟩
  | some a =>
    obtain ⟨ab, ao, asp⟩ := a
    go_wp2_with (at_builtin; refine Lib.wpList_append_run _ rfl _ _ _ _ rfl _ _ rfl rfl _ _ (hr _) ?_)
    all_goals (go_ret; exact ⟨rfl, rfl⟩)
set_option maxHeartbeats 4000000 in
set_option maxRecDepth 100000 in
theorem grow {P : Program} {k : Nat} (hf : P.funcs[114]? = some Tryz.f114) (mixed : P.follows .mixedOrders = true) (t3 : P.underlying 3 = some (.int .i64)) (t4 : P.underlying 4 = some .bool) (tS : P.underlying 50 = some (.slice 24)) (zE : ∀ w, (Go.sizeOf 24).run P w = .ok k w)
    {i0 : TypeInfo} {z : Value} (hi0 : P.info? 24 = some i0) (hz0 : i0.zero = some z) (hzs : i0.size = k) (hzc : z.cells.size = k) (hzb : i0.bytes ≤ 131072) (hk : 0 < k)
    (b n c i vb m vc : Nat) (cs vs : List Value) (w : World) (hi : i < n) (hm : 0 < m) (hnc : n ≤ c) (hroom : c < n + m) (hbig : n + m ≤ 1073741824)
    (hcl : cs.length = n * k) (hvl : vs.length = m * k)
    (hcs : At w b 0 cs) (hvs : At w vb 0 vs) (h1c : ∀ v ∈ cs, v.oneCell' = true) (h1v : ∀ v ∈ vs, v.oneCell' = true) :
    ∃ ROW : Array Value, ∃ G : Nat, n + m ≤ G ∧ G ≤ maxLen ∧ ROW.size = G * k ∧ ROW.toList.take (i * k) = cs.take (i * k) ∧
    Calls P 114 #[.slice (some ⟨b, 0, none⟩) n c, .int .i64 i, .slice (some ⟨vb, 0, none⟩) m vc] w fun e w' =>
      e = .returned (.slice (some ⟨w.heap.size, 0, none⟩) (n + m) G) ∧
      w' = (((w.alloc (.cells ROW 24)).drew.setCells w.heap.size (i * k) vs).drew).setCells w.heap.size ((i + m) * k) (cs.drop (i * k)) := by
  have u3 := run_underlying t3; have u4 := run_underlying t4; have uS := run_underlying tS
  have hz1 : ¬ ((m : Int) = 0) := by omega
  have hz2 : ¬ ((i : Int) = (n : Int)) := by omega
  have hz3 : (c : Int) < (n : Int) + (m : Int) := by omega
  have hsz : (P.info? 24).map (·.size) = some k := by rw [hi0]; simp [hzs]
  have hnk : 0 < n * k := Nat.mul_pos (by omega) hk
  have hmk : 0 < m * k := Nat.mul_pos hm hk
  have hbw : b < w.heap.size := block_lt_of_cell (hcs 0 _ (List.getElem?_eq_getElem (by omega)))
  have hvw : vb < w.heap.size := block_lt_of_cell (hvs 0 _ (List.getElem?_eq_getElem (by omega)))
  have hkk : (n : Int) + (m : Int) - (i : Int) = ((n + m - i : Nat) : Int) := by omega
  have hik : i + (n + m - i) = n + m := by omega
  have hle1 : i * k ≤ n * k := Nat.mul_le_mul_right k (by omega)
  have hold : (Builtin.firstCells i0.size i (.slice (some ⟨b, 0, none⟩) i c)).run P w.drew = .ok (cs.take (i * k)).toArray w.drew := by
    rw [hzs]
    exact run_firstCells_some w.drew k i ⟨b, 0, none⟩ i c (cs.take (i * k)) (by rw [List.length_take]; omega) (fun j v hj => by
      rw [Addr.add_lit]
      rw [List.getElem?_take] at hj
      split at hj
      · exact hcs j v hj
      · cases hj)
  have hfit : (n + m) * i0.bytes ≤ 140737488355328 := by
    have := Nat.mul_le_mul hbig hzb
    omega
  have hfit2 : (n + m - i) * i0.bytes ≤ 281474976710656 := by
    have := Nat.mul_le_mul_right i0.bytes (show n + m - i ≤ n + m by omega)
    omega
  have hrz : ∀ ty, (Builtin.append_ #[50, 3] ty #[.slice (some ⟨b, 0, none⟩) i c, .int .i64 ((n : Int) + (m : Int) - (i : Int))]).run P w =
      .ok (.slice (some ⟨w.heap.size, 0, none⟩) (n + m) (grownCap w (n + m) c 24)) (w.drew.alloc (.cells ((cs.take (i * k)).toArray ++ Builtin.zeroCells z.cells (n + m - i) ++ Builtin.zeroCells z.cells (grownCap w (n + m) c 24 - (n + m))) 24)) := fun ty => by
    have h := Lib.run_append_grow_zeros w 50 3 ty 24 i0 z .i64 .i64 tS t3 hi0 hz0 (some ⟨b, 0, none⟩) i c (cs.take (i * k)) hold (n + m - i) (by omega) (by omega) (by omega) (by omega) hfit2 (by rw [hik]; exact growslice_fits hroom hfit)
    rw [hik] at h
    rw [hkk]
    exact h
  obtain ⟨G, hG⟩ : ∃ G, G = grownCap w (n + m) c 24 := ⟨_, rfl⟩
  obtain ⟨ROW, hROW⟩ : ∃ ROW : Array Value, ROW = (cs.take (i * k)).toArray ++ Builtin.zeroCells z.cells (n + m - i) ++ Builtin.zeroCells z.cells (G - (n + m)) := ⟨_, rfl⟩
  rw [← hG] at hrz
  rw [← hROW] at hrz
  have hGn : n + m ≤ G := by rw [hG]; exact grownCap_ge w _ _ _
  have hGm : G ≤ maxLen := by rw [hG]; exact grownCap_le_maxLen w (n + m) c 24 (by unfold maxLen; omega)
  have hl1 : (cs.take (i * k)).length = i * k := by rw [List.length_take, hcl]; exact Nat.min_eq_left hle1
  have hRs : ROW.size = G * k := by
    rw [hROW]
    simp only [Array.size_append, List.size_toArray, size_zeroCells, hzc, hl1]
    rw [← Nat.add_mul, ← Nat.add_mul]
    congr 1
    omega
  have hRt : ROW.toList.take (i * k) = cs.take (i * k) := by
    rw [hROW, Array.toList_append, Array.toList_append, List.append_assoc]
    rw [List.take_append_of_le_length (by show i * k ≤ (cs.take (i * k)).length; omega)]
    show (cs.take (i * k)).take (i * k) = cs.take (i * k)
    rw [List.take_take, Nat.min_self]
  refine ⟨ROW, G, hGn, hGm, hRs, hRt, ?_⟩
  have hle2 : (n + m) * k ≤ G * k := Nat.mul_le_mul_right k hGn
  have hRl : (n + m) * k ≤ ROW.size := by omega
  obtain ⟨W1, hW1⟩ : ∃ W1, W1 = w.drew.alloc (.cells ROW 24) := ⟨_, rfl⟩
  rw [← hW1] at hrz
  have hN : ∀ j, j < (n + m) * k → (W1.cell? ⟨w.heap.size, j, none⟩).isSome = true := fun j hj => by
    rw [hW1, World.cell?_alloc_at (w := w.drew) ROW _ w.heap.size j rfl, Array.getElem?_eq_getElem (by omega)]; rfl
  have hNf : ∀ j, W1.frozen? ⟨w.heap.size, j, none⟩ = false := fun j => by rw [hW1]; exact World.frozen?_alloc_at (w := w.drew) ROW _ w.heap.size j rfl
  have hOb : ∀ j v, w.cell? ⟨b, j, none⟩ = some v → W1.cell? ⟨b, j, none⟩ = some v := fun j v h => by rw [hW1, World.cell?_alloc_past (w := w.drew) _ b j hbw]; exact h
  have hOv : ∀ j v, w.cell? ⟨vb, j, none⟩ = some v → W1.cell? ⟨vb, j, none⟩ = some v := fun j v h => by rw [hW1, World.cell?_alloc_past (w := w.drew) _ vb j hvw]; exact h
  have e1 : (n - i) * k + (i + m) * k = (n + m) * k := by rw [← Nat.add_mul]; congr 1; omega
  have e2 : (i * k) + m * k ≤ (n + m) * k := by rw [← Nat.add_mul]; exact Nat.mul_le_mul_right k (by omega)
  have hdl : (cs.drop (i * k)).length = (n - i) * k := by rw [List.length_drop, hcl, Nat.sub_mul]
  have hmin2 : Nat.min m (n + m - i) = m := by simp only [Nat.min_def]; split <;> omega
  have hmin1 : Nat.min (n - i) (n + m - (i + m)) = n - i := by simp only [Nat.min_def]; split <;> omega
  have hcpA : ∀ (W : World), (∀ x, W.cell? x = W1.cell? x) → (∀ x, W.frozen? x = W1.frozen? x) → ∀ ty dc, (Builtin.copy_ #[50, 50] ty #[.slice (some ⟨w.heap.size, i * k, none⟩) (n + m - i) dc, .slice (some ⟨vb, 0, none⟩) m vc]).run P W = .ok (goInt m) (W.setCells w.heap.size (i * k) vs) := fun W hWc hWf ty dc => by
    have := run_copy_k (P := P) W 50 50 ty 24 k w.heap.size (i * k) (n + m - i) dc ⟨vb, 0, none⟩ m vc vs tS hsz (by rw [hvl, hmin2])
      (fun j v hj => by rw [Addr.add_lit, hWc]; exact hOv _ v (hvs j v hj))
      (fun j hj => by rw [hWc]; exact hN _ (by omega)) (fun j hj => by rw [hWf]; exact hNf _) h1v
    rw [hmin2] at this
    exact this
  have hG63 : G ≤ 9223372036854775807 := by unfold maxLen at hGm; omega
  have hGi : ¬ (G = i) := by omega
  have hGim : ¬ (G = i + m) := by omega
  have hci : ¬ (c = i) := by omega
  have hbN : b ≠ w.heap.size := by omega
  have hcpB : ∀ (W : World), (∀ x, W.cell? x = (W1.setCells w.heap.size (i * k) vs).cell? x) → (∀ x, W.frozen? x = (W1.setCells w.heap.size (i * k) vs).frozen? x) → ∀ ty dc sc, (Builtin.copy_ #[50, 50] ty #[.slice (some ⟨w.heap.size, (i + m) * k, none⟩) (n + m - (i + m)) dc, .slice (some ⟨b, i * k, none⟩) (n - i) sc]).run P W = .ok (goInt (n - i : Nat)) (W.setCells w.heap.size ((i + m) * k) (cs.drop (i * k))) := fun W hWc hWf ty dc sc => by
    have := run_copy_k (P := P) W 50 50 ty 24 k w.heap.size ((i + m) * k) (n + m - (i + m)) dc ⟨b, i * k, none⟩ (n - i) sc (cs.drop (i * k)) tS hsz (by rw [hdl, hmin1])
      (fun j v hj => by
        rw [Addr.add_lit, hWc, World.cell?_setCells_out _ _ _ _ _ (fun h _ => absurd h hbN)]
        have := hcs (i * k + j) v (by rwa [List.getElem?_drop] at hj)
        rw [Nat.zero_add] at this
        exact hOb _ v this)
      (fun j hj => by rw [hWc]; exact isSome_setCells _ vs (i * k) W1 (fun t ht => hN _ (by omega)) _ (hN _ (by omega)))
      (fun j hj => by rw [hWf, World.frozen?_setCells]; exact hNf _) (fun v hv => h1c v (List.mem_of_mem_drop hv))
    rw [hmin1] at this
    exact this
  subst hW1
  have hE1 : ∀ x, ((w.alloc (.cells ROW 24)).drew).cell? x = (w.drew.alloc (.cells ROW 24)).cell? x := fun x => rfl
  have hE2 : ∀ x, ((w.alloc (.cells ROW 24)).drew).frozen? x = (w.drew.alloc (.cells ROW 24)).frozen? x := fun x => rfl
  have hF1 : ∀ x, (((w.alloc (.cells ROW 24)).drew.setCells w.heap.size (i * k) vs).drew).cell? x = ((w.drew.alloc (.cells ROW 24)).setCells w.heap.size (i * k) vs).cell? x := fun x => rfl
  have hF2 : ∀ x, (((w.alloc (.cells ROW 24)).drew.setCells w.heap.size (i * k) vs).drew).frozen? x = ((w.drew.alloc (.cells ROW 24)).setCells w.heap.size (i * k) vs).frozen? x := fun x => rfl
  have hw1 : IntKind.i64.wrap ((i : Int) + (m : Int)) = (i : Int) + (m : Int) := by rw [IntKind.wrap_i64]; omega
  have hb1 : (0 : Int) ≤ (i : Int) + (m : Int) := by omega
  have hin : i ≤ n := by omega
  have htn : ((i : Int) + (m : Int)).toNat = i + m := by omega
  have hb3 : (i : Int) ≤ (n : Int) := by omega
  clear hkk hik hold hROW hG hRl hRs hRt hcs hvs hN hNf hOb hOv hfit hfit2
  go_enter hf, Tryz.ntmps114
  go_wp2_with (first
    | (at_builtin; refine Lib.wpList_append_run _ rfl _ _ _ _ rfl _ _ rfl rfl _ _ (hrz _) ?_)
    | (at_builtin; refine wpList_copy_runI _ rfl _ _ 50 50 rfl _ _ rfl rfl (hcpA _ hE1 hE2 _ _) ?_)
    | (at_builtin; refine wpList_copy_runI _ rfl _ _ 50 50 rfl _ _ rfl rfl (hcpB _ (fun _ => rfl) (fun _ => rfl) _ _ _) ?_))
  go_region_law_o (refine step_copy_runI rfl _ _ 50 50 rfl (.slice (some ⟨w.heap.size, (i + m) * k, none⟩) (n + m - (i + m)) (G - (i + m))) (.slice (some ⟨b, i * k, none⟩) (n - i) (c - i)) (by simp [Act.eval, Act.put]) (by simp [Act.eval, Act.put]) (hcpB _ hF1 hF2 3 (G - (i + m)) (c - i)) ?_)
  go_wp2
  go_ret
  exact ⟨rfl, rfl⟩
theorem lay2 {A : Type} (C D vs cs : List A) (ik mk nk dk : Nat) (hC : C.take nk = cs) (hD : D = cs.drop ik) (hv : vs.length = mk) (hd : D.length = dk) (hi : ik ≤ nk) (hl : ik + mk + dk ≤ C.length) (hnk : nk ≤ C.length) :
    (((C.take (ik + mk) ++ D ++ C.drop (ik + mk + D.length)).take ik ++ vs ++ (C.take (ik + mk) ++ D ++ C.drop (ik + mk + D.length)).drop (ik + vs.length))).take (ik + mk + dk) = cs.take ik ++ vs ++ cs.drop ik := by
  have h1 : (C.take (ik + mk)).length = ik + mk := by rw [List.length_take]; omega
  have e1 : (C.take (ik + mk) ++ D ++ C.drop (ik + mk + D.length)).take ik = cs.take ik := by
    rw [List.append_assoc, List.take_append_of_le_length (by omega), List.take_take, Nat.min_eq_left (by omega), ← hC, List.take_take, Nat.min_eq_left hi]
  have e2 : (C.take (ik + mk) ++ D ++ C.drop (ik + mk + D.length)).drop (ik + vs.length) = D ++ C.drop (ik + mk + D.length) := by
    rw [List.append_assoc, hv, List.drop_append_of_le_length (by omega), List.drop_eq_nil_of_le (by omega), List.nil_append]
  rw [e1, e2, ← List.append_assoc, List.take_append_of_le_length, List.take_of_length_le, hD]
  · have : (cs.take ik).length = ik := by rw [List.length_take, ← hC, List.length_take]; omega
    simp only [List.length_append, this, hv, hd]
    omega
  · have : (cs.take ik).length = ik := by rw [List.length_take, ← hC, List.length_take]; omega
    simp only [List.length_append, this, hv, hd]
    omega
theorem lay3 {A : Type} (R D vs cs : List A) (ik mk nk dk : Nat) (hR : R.take ik = cs.take ik) (hcs : cs.length = nk) (hD : D = cs.drop ik) (hv : vs.length = mk) (hd : D.length = dk) (hi : ik ≤ nk) (hl : ik + mk + dk ≤ R.length) :
    ((R.take ik ++ vs ++ R.drop (ik + vs.length)).take (ik + mk) ++ D ++ (R.take ik ++ vs ++ R.drop (ik + vs.length)).drop (ik + mk + D.length)).take (ik + mk + dk) = cs.take ik ++ vs ++ cs.drop ik := by
  have h1 : (R.take ik).length = ik := by rw [List.length_take]; omega
  have h2 : (R.take ik ++ vs).length = ik + mk := by rw [List.length_append, h1, hv]
  have e1 : (R.take ik ++ vs ++ R.drop (ik + vs.length)).take (ik + mk) = cs.take ik ++ vs := by
    rw [List.take_append_of_le_length (by omega), List.take_of_length_le (by omega), hR]
  rw [e1, List.take_append_of_le_length, List.take_of_length_le, hD]
  · have : (cs.take ik).length = ik := by rw [← hR]; exact h1
    simp only [List.length_append, this, hv, hd]
    omega
  · have : (cs.take ik).length = ik := by rw [← hR]; exact h1
    simp only [List.length_append, this, hv, hd]
    omega
theorem at_block {w : World} {b n k : Nat} {cur : Array Value} {e : TypeId} {fz : Nat × Nat} {cs : List Value} (h : w.heap[b]? = some (.cells cur e fz)) (ht : cur.toList.take n = cs) : At w b 0 cs := by
  intro j v hj
  rw [Nat.zero_add]
  rw [← ht, List.getElem?_take] at hj
  split at hj
  · simp only [World.cell?, h]
    simpa using hj
  · cases hj
theorem walk {P : Program} {k : Nat} (hf : P.funcs[114]? = some Tryz.f114) (mixed : P.follows .mixedOrders = true) (t3 : P.underlying 3 = some (.int .i64)) (t4 : P.underlying 4 = some .bool) {ti : TI} (hg : Go.Abs.Good P 24 ti) (tS : P.underlying 50 = some (.slice 24))
    (hk : ti.siz = k) (hk0 : 0 < k) (hb : ti.byt ≤ 131072) (hza : ti.zer.t.alive = true)
    (hov0 : ∀ (w : World) (x y : Value), (callFunc 154 #[x, y]).run P w = Result.andThen ((Extern.SlicesOverlaps.overlaps #[50, 50] #[4] #[x, y]).run P w) (fun v w' => .ok (.value v) w')) : InsWalk P 114 24 k := by
  intro w L0 L1 n i m cs vs h0 h1 hne hi hm hfit hcl hvl h1c h1v
  have zE : ∀ w, (Go.sizeOf 24).run P w = .ok k w := fun w => by rw [← hk]; exact hg.size w
  obtain ⟨i0, hi0, hs0, hby0, hzz⟩ := hg.info
  obtain ⟨z, hz0, hzc, _⟩ := hzz hza
  have hsz : (P.info? 24).map (·.size) = some k := by rw [hi0]; simp [hs0, hk]
  -- what is laid in
  obtain ⟨g1, c1, cur1, e1, hb1, hcur1, htk1⟩ : ∃ g c cur, L1.hdr = .slice (some ⟨g, 0, none⟩) m c ∧ w.heap[g]? = some (.cells cur 24 (0, 0)) ∧ L1.loc = g ∧ cur.toList.take (m * k) = vs := by
    rcases h1 with ⟨ad, _, h, _⟩ | ⟨hb, _, ⟨h, h'⟩ | ⟨g, cap, cur, h, _, h2, _, _, _, h3⟩⟩
    · omega
    · omega
    · rw [h] at hb
      injection hb with hb
      exact ⟨g, cap, cur, h, h2, hb.symm, h3⟩
  have hvs : At w g1 0 vs := at_block (k := k) hb1 htk1
  have hy : (L1.hdr = .slice none 0 0 ∧ m = 0) ∨ ∃ ad c, L1.hdr = .slice ad m c ∧ (m = 0 ∨ ∃ b o, ad = some ⟨b, o, none⟩ ∧ At w b o vs) := .inr ⟨_, c1, e1, .inr ⟨g1, 0, rfl, hvs⟩⟩
  have atEnd' : ∀ (ad : Option Addr) (c : Nat), L0.hdr = .slice ad n c → n ≤ c → (ad = none → n = 0 ∧ c = 0) → i = n → Calls P 114 #[L0.hdr, .int .i64 i, L1.hdr] w fun e' w' => ∃ L', e' = .returned L'.hdr ∧ RowAt w' L' 24 k (n + m) (cs.take (i * k) ++ vs ++ cs.drop (i * k)) ∧ Grow (fun b => L0.hdr.ownBlock = some L0.loc ∧ b = L0.loc) w w' ∧
    (L'.hdr.ownBlock = some L'.loc → L'.loc < w'.heap.size ∧ ((L0.hdr.ownBlock = some L0.loc ∧ L'.loc = L0.loc) ∨ w.heap.size ≤ L'.loc)) ∧ L'.hdr.oneCell' = true := by
    intro ad c hh hnc hnil hin
    subst hin
    rw [← hk] at h0 hcl hvl
    have hra := fun ty => run_append (P := P) (ty := ty) tS hg (by omega) hb hza hcl h0 hy hvl h1v hfit
    obtain ⟨L, w', hr1, hr2, hr3, hr4, hr5⟩ := hra 50
    have hr1' : ∀ ty, (Builtin.append_ #[50, 50] ty #[.slice ad i c, .slice (some ⟨g1, 0, none⟩) m c1]).run P w = .ok L.hdr w' := fun ty => by
      rw [← hh, ← e1]
      exact hr1
    rw [hh, e1]
    refine Calls.mono (atEnd (k := k) hf mixed t3 t4 tS zE ad i c m c1 _ w w' L.hdr hm hnc hnil hr1') ?_
    rintro e' w'' ⟨rfl, rfl⟩
    rw [hk] at hr2 hcl
    rw [List.take_of_length_le (by omega), List.drop_eq_nil_of_le (by omega), List.append_nil]
    rw [hh] at hr3 hr4
    exact ⟨L, rfl, hr2, hr3, hr4, hr5⟩
  have h00 := h0
  rcases h0 with ⟨ad, hh, hn0, _⟩ | ⟨hob, hlen0, ⟨hh, hn0⟩ | ⟨g, cap, cur, hh, _, hcell, hnc, hcm, hcs, htk⟩⟩
  · subst hn0
    cases ad with
    | none => exact atEnd' none 0 hh (Nat.le_refl _) (fun _ => ⟨rfl, rfl⟩) (by omega)
    | some a => exact atEnd' (some a) 0 hh (Nat.le_refl _) (fun h => by cases h) (by omega)
  · rw [hh] at hob
    cases hob
  · by_cases hin : i = n
    · exact atEnd' _ cap hh hnc (fun h => by cases h) hin
    have hlt : i < n := by omega
    have hloc : L0.loc = g := by rw [hh] at hob; injection hob with hob; exact hob.symm
    have hcsat : At w g 0 cs := at_block (k := k) hcell htk
    have hgg : g1 ≠ g := by
      intro e
      refine hne hob (by rw [e1, hcur1]; rfl) ?_
      rw [hloc, hcur1, e]
    have hcurl : cur.toList.length = cap * k := by simpa using hcs
    have hik : i * k ≤ n * k := Nat.mul_le_mul_right k hi
    have hdl : (cs.drop (i * k)).length = (n - i) * k := by rw [List.length_drop, hcl, Nat.sub_mul]
    have hsum : i * k + m * k + (n - i) * k = (n + m) * k := by rw [← Nat.add_mul, ← Nat.add_mul]; congr 1; omega
    rw [hh, e1]
    by_cases hroom : n + m ≤ cap
    · refine Calls.mono (shift hf mixed t3 t4 tS zE hsz hov0 g n cap i g1 m c1 cs vs w hlt hm hroom (by unfold maxLen at hcm; omega) hgg hk0 hcell hb1 hcs hcl hvl hcsat hvs h1c h1v) ?_
      rintro e' w' ⟨rfl, rfl⟩
      have hle : (n + m) * k ≤ cap * k := Nat.mul_le_mul_right k hroom
      have hnk : n * k ≤ cap * k := Nat.mul_le_mul_right k hnc
      obtain ⟨c', q1, q2, q3⟩ := setCells_heap (b := g) (cs.drop (i * k)) ((i + m) * k) w.drew cur hcell (by rw [hdl, Nat.add_mul]; omega)
      obtain ⟨c'', r1, r2, r3⟩ := setCells_heap (b := g) vs (i * k) (w.drew.setCells g ((i + m) * k) (cs.drop (i * k))) c' q1 (by rw [q2, hcs, hvl]; omega)
      refine ⟨⟨g, .slice (some ⟨g, 0, none⟩) (n + m) cap⟩, rfl, .inr ⟨rfl, ?_, .inr ⟨g, cap, c'', rfl, Nat.zero_le _, r1, hroom, hcm, by rw [r2, q2, hcs], ?_⟩⟩, ?_, ?_, rfl⟩
      · rw [List.length_append, List.length_append, hdl, hvl, List.length_take, hcl, Nat.min_eq_left hik]; exact hsum
      · rw [r3, q3, Nat.add_mul i m k]
        have := lay2 cur.toList (cs.drop (i * k)) vs cs (i * k) (m * k) (n * k) ((n - i) * k) htk rfl hvl hdl hik (by rw [hcurl]; omega) (by rw [hcurl]; omega)
        rw [hsum] at this
        exact this
      · have hgr : Grow (fun x => x = g) w ((w.drew.setCells g ((i + m) * k) (cs.drop (i * k))).setCells g (i * k) vs) :=
          Grow.trans (b := w.drew) (Grow.drew w) (Grow.trans (setCells_grow g _ _ _) (setCells_grow g _ _ _) (fun _ _ h => h)) (fun _ _ h => h)
        exact ⟨hgr.os, hgr.tape, hgr.output, hgr.size, fun x hx hn => hgr.block x hx (fun e => hn ⟨by rw [← hh]; exact hob, by rw [hloc]; exact e⟩)⟩
      · intro _
        refine ⟨(Array.getElem?_eq_some_iff.1 r1).1, .inl ⟨by rw [← hh]; exact hob, hloc.symm⟩⟩
    · obtain ⟨ROW, G, hG1, hG2, hG3, hG4, hc⟩ := grow hf mixed t3 t4 tS zE hi0 hz0 (by rw [hs0, hk]) (by rw [hzc, hk]) (by rw [hby0]; exact hb) hk0 g n cap i g1 m c1 cs vs w hlt hm hnc (by omega) hfit hcl hvl hcsat hvs h1c h1v
      refine Calls.mono hc ?_
      rintro e' w' ⟨rfl, rfl⟩
      have hRl : ROW.toList.length = G * k := by simpa using hG3
      have hle : (n + m) * k ≤ G * k := Nat.mul_le_mul_right k hG1
      have hnew : (w.alloc (.cells ROW 24)).drew.heap[w.heap.size]? = some (.cells ROW 24 (0, 0)) := heap_alloc_new w _
      obtain ⟨c', q1, q2, q3⟩ := setCells_heap (b := w.heap.size) vs (i * k) (w.alloc (.cells ROW 24)).drew ROW hnew (by rw [hvl]; omega)
      obtain ⟨c'', r1, r2, r3⟩ := setCells_heap (b := w.heap.size) (cs.drop (i * k)) ((i + m) * k) ((w.alloc (.cells ROW 24)).drew.setCells w.heap.size (i * k) vs).drew c' q1 (by rw [q2, hG3, hdl, Nat.add_mul]; omega)
      refine ⟨⟨w.heap.size, .slice (some ⟨w.heap.size, 0, none⟩) (n + m) G⟩, rfl, .inr ⟨rfl, ?_, .inr ⟨w.heap.size, G, c'', rfl, Nat.zero_le _, r1, hG1, hG2, by rw [r2, q2, hG3], ?_⟩⟩, ?_, ?_, rfl⟩
      · rw [List.length_append, List.length_append, hdl, hvl, List.length_take, hcl, Nat.min_eq_left hik]; exact hsum
      · rw [r3, q3, Nat.add_mul i m k]
        have := lay3 ROW.toList (cs.drop (i * k)) vs cs (i * k) (m * k) (n * k) ((n - i) * k) hG4 hcl rfl hvl hdl hik (by rw [hRl]; omega)
        rw [hsum] at this
        exact this
      · have hgr : Grow (fun x => x = w.heap.size) w (((w.alloc (.cells ROW 24)).drew.setCells w.heap.size (i * k) vs).drew.setCells w.heap.size ((i + m) * k) (cs.drop (i * k))) :=
          Grow.trans (b := (w.alloc (.cells ROW 24)).drew) ⟨rfl, rfl, rfl, by simp, fun x hx _ => alloc_kept w _ x hx⟩
            (Grow.trans (setCells_grow _ _ _ _) (Grow.trans (Grow.drew _) (setCells_grow _ _ _ _) (fun _ _ h => h)) (fun _ _ h => h)) (fun _ _ h => h)
        exact ⟨hgr.os, hgr.tape, hgr.output, hgr.size, fun x hx hn => hgr.block x hx (fun e => by have : x = w.heap.size := e; omega)⟩
      · intro _
        exact ⟨(Array.getElem?_eq_some_iff.1 r1).1, .inr (Nat.le_refl _)⟩
end Go.Proofs.YtjekopgcpikkiaaGreatDoor.Ins114
set_option linter.unusedVariables false
set_option linter.unusedSimpArgs false
namespace Go.Proofs.YtjekopgcpikkiaaGreatDoor.Del161
open Go.Abs Go.RowKit Go.Lib Go.Proofs
theorem run_clear_k {P : Program} (w : World) (t e ty : TypeId) (z : Value) (k : Nat) (ht : P.underlying t = some (.slice e)) (hv : ∀ w, (zeroValue e).run P w = .ok z w) (hz : z.cells.size = k) (h1 : ∀ u ∈ z.cells.toList, u.oneCell' = true) (hk : 0 < k) (b o n c : Nat) (hn : 0 < n)
    (hc : ∀ j, j < n * k → (w.cell? ⟨b, o + j, none⟩).isSome = true) (hf : ∀ j, j < n * k → w.frozen? ⟨b, o + j, none⟩ = false) :
    (Builtin.clear_ #[t] ty #[.slice (some ⟨b, o, none⟩) n c]).run P w = .ok (.tuple #[]) (w.setCells b o (Builtin.zeroCells z.cells n).toList) := by
  have hl : (Builtin.zeroCells z.cells n).toList.length = n * k := by rw [Array.length_toList, size_zeroCells, hz]
  have h2 : ∀ u ∈ (Builtin.zeroCells z.cells n).toList, u.oneCell' = true := by
    intro u hu
    unfold Builtin.zeroCells at hu
    simp only [Array.toList_map, Array.toList_range, List.mem_map, List.mem_range] at hu
    obtain ⟨i, hi, rfl⟩ := hu
    have : i % z.cells.size < z.cells.size := Nat.mod_lt _ (by omega)
    rw [getElem!_pos z.cells _ this]
    exact h1 _ (Array.getElem_mem_toList this)
  have hst := run_storeCells_cells (P := P) b o (Builtin.zeroCells z.cells n).toList 0 w (by rw [hl]; simpa using hc) (by rw [hl]; simpa using hf) h2
  simp only [Nat.add_zero] at hst
  obtain ⟨m, rfl⟩ : ∃ m, n = m + 1 := ⟨n - 1, by omega⟩
  simp [Builtin.clear_, run_underlying ht, hv, hst]
set_option maxHeartbeats 4000000 in
set_option maxRecDepth 100000 in
theorem none_ {P : Program} {k : Nat} (hf : P.funcs[161]? = some Tryz.f161) (mixed : P.follows .mixedOrders = true) (t3 : P.underlying 3 = some (.int .i64)) (t4 : P.underlying 4 = some .bool) (tS : P.underlying 22 = some (.slice 84)) (zE : ∀ w, (Go.sizeOf 84).run P w = .ok k w)
    (ad : Option Addr) (n c i : Nat) (w : World) (hin : i ≤ n) (hnc : n ≤ c) (hc : c ≤ 9223372036854775807) (hnil : ad = none → n = 0 ∧ c = 0) :
    Calls P 161 #[.slice ad n c, .int .i64 i, .int .i64 i] w fun e w' => e = .returned (.slice ad n c) ∧ w' = w := by
  have u3 := run_underlying t3; have u4 := run_underlying t4; have uS := run_underlying tS
  go_enter hf, Tryz.ntmps161
  cases ad with
  | none =>
    obtain ⟨rfl, rfl⟩ := hnil rfl
    obtain rfl : i = 0 := by omega
    go_wp2
    all_goals (go_ret; exact ⟨rfl, rfl⟩)
  | some a =>
    obtain ⟨ab, ao, asp⟩ := a
    go_wp2
    all_goals (go_ret; exact ⟨rfl, rfl⟩)
set_option maxHeartbeats 4000000 in
set_option maxRecDepth 100000 in
theorem cut {P : Program} {k : Nat} (hf : P.funcs[161]? = some Tryz.f161) (mixed : P.follows .mixedOrders = true) (t3 : P.underlying 3 = some (.int .i64)) (t4 : P.underlying 4 = some .bool) (tS : P.underlying 22 = some (.slice 84)) (zE : ∀ w, (Go.sizeOf 84).run P w = .ok k w)
    {i0 : TypeInfo} {z : Value} {zc : Array Value} (hzq : zc = z.cells) (hi0 : P.info? 84 = some i0) (hz0 : i0.zero = some z) (hzs : i0.size = k) (hzc : z.cells.size = k) (hz1 : ∀ u ∈ z.cells.toList, u.oneCell' = true) (hk : 0 < k)
    (b n c i j : Nat) (cs : List Value) (w : World) (hij : i < j) (hj : j ≤ n) (hnc : n ≤ c) (hc63 : c ≤ 9223372036854775807) {cur : Array Value} {e : TypeId} (hb : w.heap[b]? = some (.cells cur e (0, 0))) (hcur : cur.size = c * k)
    (hcl : cs.length = n * k) (hcs : At w b 0 cs) (h1c : ∀ v ∈ cs, v.oneCell' = true) :
    Calls P 161 #[.slice (some ⟨b, 0, none⟩) n c, .int .i64 i, .int .i64 j] w fun e w' =>
      e = .returned (.slice (some ⟨b, 0, none⟩) (i + (n - j)) c) ∧ w' = (w.drew.setCells b (i * k) (cs.drop (j * k))).setCells b ((i + (n - j)) * k) (Builtin.zeroCells zc (n - (i + (n - j)))).toList := by
  have u3 := run_underlying t3; have u4 := run_underlying t4; have uS := run_underlying tS
  have hle : n * k ≤ c * k := Nat.mul_le_mul_right k hnc
  obtain ⟨news, hnews⟩ : ∃ news, news = cs.drop (j * k) := ⟨_, rfl⟩
  have hlen : news.length = (n - j) * k := by rw [hnews, List.length_drop, hcl, Nat.sub_mul]
  obtain ⟨A, hA, hsrc⟩ : ∃ A : Addr, (if c = j then some (⟨b, 0, none⟩ : Addr) else some ⟨b, j * k, none⟩) = some A ∧ Hid (∀ t u, news[t]? = some u → w.drew.cell? (A.add t) = some u) := by
    by_cases h : c = j
    · refine ⟨⟨b, 0, none⟩, by simp [h], fun t u hu => ?_⟩
      have h0 : news.length = 0 := by rw [hlen, show n - j = 0 by omega, Nat.zero_mul]
      rw [List.length_eq_zero_iff.1 h0] at hu
      simp at hu
    · refine ⟨⟨b, j * k, none⟩, by simp [h], fun t u hu => ?_⟩
      rw [hnews, List.getElem?_drop] at hu
      rw [Addr.add_lit]
      have := hcs (j * k + t) u hu
      rw [Nat.zero_add] at this
      exact this
  have s1 : Hid (news.length = (n - j) * k) := hlen
  have s2 : Hid (∀ u ∈ news, u.oneCell' = true) := by
    intro u hu
    rw [hnews] at hu
    exact h1c u (List.mem_of_mem_drop hu)
  have hik : i * k + (n - j) * k = (i + (n - j)) * k := (Nat.add_mul _ _ _).symm
  have hin : (i + (n - j)) * k ≤ n * k := Nat.mul_le_mul_right k (by omega)
  have hall : (i + (n - j)) * k + (n - (i + (n - j))) * k = n * k := by rw [← Nat.add_mul]; congr 1; omega
  have s3 : Hid (∀ t, t < news.length → (w.drew.cell? ⟨b, 0 + i * k + t, none⟩).isSome = true ∧ w.drew.frozen? ⟨b, 0 + i * k + t, none⟩ = false) := by
    intro t ht
    rw [hlen] at ht
    exact ⟨cells_some (w := w.drew) (cur := cur) (e := e) (fz := (0, 0)) hb (by omega), cells_thawed (w := w.drew) (cur := cur) (e := e) hb⟩
  obtain ⟨W1, hW1⟩ : ∃ W1, W1 = w.drew.setCells b (0 + i * k) news := ⟨_, rfl⟩
  obtain ⟨c', q1, q2, q3⟩ := setCells_heap (b := b) news (0 + i * k) w.drew cur hb (by rw [hlen]; omega)
  rw [← hW1] at q1
  have hzv : ∀ w, (zeroValue 84).run P w = .ok z w := fun w => by simp [zeroValue, typeInfo, hi0, hz0]
  have hcl' : ∀ ty, (Builtin.clear_ #[22] ty #[.slice (some ⟨b, (i + (n - j)) * k, none⟩) (n - (i + (n - j))) (c - (i + (n - j)))]).run P W1 = .ok (.tuple #[]) (W1.setCells b ((i + (n - j)) * k) (Builtin.zeroCells zc (n - (i + (n - j)))).toList) :=
    fun ty => by
      rw [hzq]
      exact run_clear_k W1 _ _ ty z k tS hzv hzc hz1 hk b _ _ _ (by omega) (fun t ht => cells_some q1 (by rw [q2]; omega)) (fun t ht => cells_thawed q1)
  have hW : Hid (W1 = w.drew.setCells b (0 + i * k) news) := hW1
  have hX : Hid (W1 = w.drew.setCells b (i * k) (cs.drop (j * k))) := by rw [hW1, hnews, Nat.zero_add]; exact rfl
  have hic : i ≤ c := by omega
  have hjc : j ≤ c := by omega
  have hin' : i ≤ n := by omega
  clear hW1 hcs hnews hlen q1 q2 q3 hzv hzq hz1 hzc hz0 hik hin hall hle hcur hcl
  go_enter hf, Tryz.ntmps161
  go_wp2_with fail
  go_region_law_o (refine step_append_room rfl (.tmp 22) (.tmp 25) 22 rfl 84 i0 k tS hi0 hzs b 0 i c (by simp [Act.eval, Act.put]) A (n - j) (c - j) news (by simp [Act.eval, Act.put]) s1.out hsrc.out s2.out (by omega) s3.out ?_; rw [← hW.out])
  go_wp2
  all_goals (go_ret; exact ⟨rfl, by rw [hX.out]⟩)
theorem lay4 {A : Type} (C Z cs : List A) (ik jk nk dk : Nat) (hC : C.take nk = cs) (hnk : nk ≤ C.length) (hi : ik ≤ jk) (hj : jk ≤ nk) (hd : (cs.drop jk).length = dk) :
    (((C.take ik ++ cs.drop jk ++ C.drop (ik + (cs.drop jk).length)).take (ik + dk) ++ Z ++ (C.take ik ++ cs.drop jk ++ C.drop (ik + (cs.drop jk).length)).drop (ik + dk + Z.length))).take (ik + dk) = cs.take ik ++ cs.drop jk := by
  have hcl : cs.length = nk := by rw [← hC, List.length_take, Nat.min_eq_left hnk]
  have h1 : (C.take ik).length = ik := by rw [List.length_take]; omega
  have e0 : C.take ik = cs.take ik := by rw [← hC, List.take_take, Nat.min_eq_left (by omega)]
  have e1 : (C.take ik ++ cs.drop jk ++ C.drop (ik + (cs.drop jk).length)).take (ik + dk) = cs.take ik ++ cs.drop jk := by
    rw [List.take_append_of_le_length (by rw [List.length_append]; omega), List.take_of_length_le (by rw [List.length_append]; omega), e0]
  have h2 : (cs.take ik ++ cs.drop jk).length = ik + dk := by rw [List.length_append, ← e0, h1, hd]
  rw [e1, List.append_assoc, List.take_append_of_le_length (by omega), List.take_of_length_le (by omega)]
theorem at_block {w : World} {b n k : Nat} {cur : Array Value} {e : TypeId} {fz : Nat × Nat} {cs : List Value} (h : w.heap[b]? = some (.cells cur e fz)) (ht : cur.toList.take n = cs) : At w b 0 cs := by
  intro j v hj
  rw [Nat.zero_add]
  rw [← ht, List.getElem?_take] at hj
  split at hj
  · simp only [World.cell?, h]
    simpa using hj
  · cases hj
theorem walk {P : Program} {k : Nat} (hf : P.funcs[161]? = some Tryz.f161) (mixed : P.follows .mixedOrders = true) (t3 : P.underlying 3 = some (.int .i64)) (t4 : P.underlying 4 = some .bool) {ti : TI} (hg : Go.Abs.Good P 84 ti) (tS : P.underlying 22 = some (.slice 84))
    (hk : ti.siz = k) (hk0 : 0 < k) (hza : ti.zer.t.alive = true) (hzc1 : ti.zer.t.cel = true) : DelWalk P 161 84 k := by
  intro w L0 n i j cs h0 hi hj hcl h1c
  have zE : ∀ w, (Go.sizeOf 84).run P w = .ok k w := fun w => by rw [← hk]; exact hg.size w
  obtain ⟨i0, hi0, hs0, hby0, hzz⟩ := hg.info
  obtain ⟨z, hz0, hzc, hzn, hzv⟩ := hzz hza
  have hz1 : ∀ u ∈ z.cells.toList, u.oneCell' = true := (VR_cells (w := w) (Fr := fun _ => False) (mu := fun _ => nilLoc) (p := fun _ => True) (fun _ => rfl) (hzv _ _ _) hzc1 hza (hzn _)).2
  have stay : ∀ (ad : Option Addr) (c : Nat), L0.hdr = .slice ad n c → n ≤ c → c ≤ 9223372036854775807 → (ad = none → n = 0 ∧ c = 0) → i = j → Calls P 161 #[L0.hdr, .int .i64 i, .int .i64 j] w fun e' w' => ∃ L', e' = .returned L'.hdr ∧ RowAt w' L' 84 k (n - (j - i)) (cs.take (i * k) ++ cs.drop (j * k)) ∧ Grow (fun b => L0.hdr.ownBlock = some L0.loc ∧ b = L0.loc) w w' ∧
    (L'.hdr.ownBlock = some L'.loc → L'.loc < w'.heap.size ∧ ((L0.hdr.ownBlock = some L0.loc ∧ L'.loc = L0.loc) ∨ w.heap.size ≤ L'.loc)) ∧ L'.hdr.oneCell' = true := by
    intro ad c hh hnc hcm hnil hij
    subst hij
    have hcall := none_ (k := k) hf mixed t3 t4 tS zE ad n c i w hj hnc hcm hnil
    rw [← hh] at hcall
    refine Calls.mono hcall ?_
    rintro e' w' ⟨rfl, rfl⟩
    rw [Nat.sub_self, Nat.sub_zero, List.take_append_drop]
    refine ⟨L0, rfl, h0, Grow.refl _ w', fun ho => ⟨?_, .inl ⟨ho, rfl⟩⟩, by rw [hh]; rfl⟩
    rcases h0 with ⟨_, _, _, hno⟩ | ⟨_, _, ⟨h, _⟩ | ⟨g, cap, cur, h, _, hcell, _⟩⟩
    · exact absurd ho hno
    · rw [h] at ho; cases ho
    · rw [h] at ho
      injection ho with ho
      have ho : g = L0.loc := ho
      rw [← ho]
      exact (Array.getElem?_eq_some_iff.1 hcell).1
  have h00 := h0
  rcases h0 with ⟨ad, hh, hn0, _⟩ | ⟨hob, hlen0, ⟨hh, hn0⟩ | ⟨g, cap, cur, hh, _, hcell, hnc, hcm, hcs, htk⟩⟩
  · subst hn0
    cases ad with
    | none => exact stay none 0 hh (Nat.le_refl _) (by omega) (fun _ => ⟨rfl, rfl⟩) (by omega)
    | some a => exact stay (some a) 0 hh (Nat.le_refl _) (by omega) (fun h => by cases h) (by omega)
  · rw [hh] at hob
    cases hob
  · by_cases hin : i = j
    · exact stay _ cap hh hnc (by unfold maxLen at hcm; omega) (fun h => by cases h) hin
    have hlt : i < j := by omega
    have hloc : L0.loc = g := by rw [hh] at hob; injection hob with hob; exact hob.symm
    have hcsat : At w g 0 cs := at_block (k := k) hcell htk
    have hcurl : cur.toList.length = cap * k := by simpa using hcs
    have hnk : n * k ≤ cap * k := Nat.mul_le_mul_right k hnc
    have hik : i * k ≤ j * k := Nat.mul_le_mul_right k hi
    have hjk : j * k ≤ n * k := Nat.mul_le_mul_right k hj
    have hdl : (cs.drop (j * k)).length = (n - j) * k := by rw [List.length_drop, hcl, Nat.sub_mul]
    have hsum : i * k + (n - j) * k = (i + (n - j)) * k := (Nat.add_mul _ _ _).symm
    have hall : (i + (n - j)) * k + (n - (i + (n - j))) * k = n * k := by rw [← Nat.add_mul]; congr 1; omega
    rw [hh]
    refine Calls.mono (cut hf mixed t3 t4 tS zE rfl hi0 hz0 (by rw [hs0, hk]) (by rw [hzc, hk]) hz1 hk0 g n cap i j cs w hlt hj hnc (by unfold maxLen at hcm; omega) hcell hcs hcl hcsat h1c) ?_
    rintro e' w' ⟨rfl, rfl⟩
    have hZl : (Builtin.zeroCells z.cells (n - (i + (n - j)))).toList.length = (n - (i + (n - j))) * k := by rw [Array.length_toList, size_zeroCells, hzc, hk]
    obtain ⟨c', q1, q2, q3⟩ := setCells_heap (b := g) (cs.drop (j * k)) (i * k) w.drew cur hcell (by rw [hdl]; omega)
    obtain ⟨c'', r1, r2, r3⟩ := setCells_heap (b := g) (Builtin.zeroCells z.cells (n - (i + (n - j)))).toList ((i + (n - j)) * k) (w.drew.setCells g (i * k) (cs.drop (j * k))) c' q1 (by rw [q2, hcs, hZl]; omega)
    have hnn : n - (j - i) = i + (n - j) := by omega
    rw [hnn]
    refine ⟨⟨g, .slice (some ⟨g, 0, none⟩) (i + (n - j)) cap⟩, rfl, .inr ⟨rfl, ?_, .inr ⟨g, cap, c'', rfl, Nat.zero_le _, r1, by omega, hcm, by rw [r2, q2, hcs], ?_⟩⟩, ?_, ?_, rfl⟩
    · rw [List.length_append, hdl, List.length_take, hcl, Nat.min_eq_left (by omega)]; exact hsum
    · rw [r3, q3, ← hsum]
      exact lay4 cur.toList _ cs (i * k) (j * k) (n * k) ((n - j) * k) htk (by rw [hcurl]; exact hnk) hik hjk hdl
    · have hgr : Grow (fun x => x = g) w ((w.drew.setCells g (i * k) (cs.drop (j * k))).setCells g ((i + (n - j)) * k) (Builtin.zeroCells z.cells (n - (i + (n - j)))).toList) :=
        Grow.trans (b := w.drew) (Grow.drew w) (Grow.trans (setCells_grow g _ _ _) (setCells_grow g _ _ _) (fun _ _ h => h)) (fun _ _ h => h)
      exact ⟨hgr.os, hgr.tape, hgr.output, hgr.size, fun x hx hn => hgr.block x hx (fun e => hn ⟨by rw [← hh]; exact hob, by rw [hloc]; exact e⟩)⟩
    · intro _
      refine ⟨(Array.getElem?_eq_some_iff.1 r1).1, .inl ⟨by rw [← hh]; exact hob, hloc.symm⟩⟩
end Go.Proofs.YtjekopgcpikkiaaGreatDoor.Del161
set_option linter.unusedVariables false
set_option linter.unusedSimpArgs false
namespace Go.Proofs.YtjekopgcpikkiaaGreatDoor.Del162
open Go.Abs Go.RowKit Go.Lib Go.Proofs
theorem run_clear_k {P : Program} (w : World) (t e ty : TypeId) (z : Value) (k : Nat) (ht : P.underlying t = some (.slice e)) (hv : ∀ w, (zeroValue e).run P w = .ok z w) (hz : z.cells.size = k) (h1 : ∀ u ∈ z.cells.toList, u.oneCell' = true) (hk : 0 < k) (b o n c : Nat) (hn : 0 < n)
    (hc : ∀ j, j < n * k → (w.cell? ⟨b, o + j, none⟩).isSome = true) (hf : ∀ j, j < n * k → w.frozen? ⟨b, o + j, none⟩ = false) :
    (Builtin.clear_ #[t] ty #[.slice (some ⟨b, o, none⟩) n c]).run P w = .ok (.tuple #[]) (w.setCells b o (Builtin.zeroCells z.cells n).toList) := by
  have hl : (Builtin.zeroCells z.cells n).toList.length = n * k := by rw [Array.length_toList, size_zeroCells, hz]
  have h2 : ∀ u ∈ (Builtin.zeroCells z.cells n).toList, u.oneCell' = true := by
    intro u hu
    unfold Builtin.zeroCells at hu
    simp only [Array.toList_map, Array.toList_range, List.mem_map, List.mem_range] at hu
    obtain ⟨i, hi, rfl⟩ := hu
    have : i % z.cells.size < z.cells.size := Nat.mod_lt _ (by omega)
    rw [getElem!_pos z.cells _ this]
    exact h1 _ (Array.getElem_mem_toList this)
  have hst := run_storeCells_cells (P := P) b o (Builtin.zeroCells z.cells n).toList 0 w (by rw [hl]; simpa using hc) (by rw [hl]; simpa using hf) h2
  simp only [Nat.add_zero] at hst
  obtain ⟨m, rfl⟩ : ∃ m, n = m + 1 := ⟨n - 1, by omega⟩
  simp [Builtin.clear_, run_underlying ht, hv, hst]
set_option maxHeartbeats 4000000 in
set_option maxRecDepth 100000 in
theorem none_ {P : Program} {k : Nat} (hf : P.funcs[162]? = some Tryz.f162) (mixed : P.follows .mixedOrders = true) (t3 : P.underlying 3 = some (.int .i64)) (t4 : P.underlying 4 = some .bool) (tS : P.underlying 50 = some (.slice 24)) (zE : ∀ w, (Go.sizeOf 24).run P w = .ok k w)
    (ad : Option Addr) (n c i : Nat) (w : World) (hin : i ≤ n) (hnc : n ≤ c) (hc : c ≤ 9223372036854775807) (hnil : ad = none → n = 0 ∧ c = 0) :
    Calls P 162 #[.slice ad n c, .int .i64 i, .int .i64 i] w fun e w' => e = .returned (.slice ad n c) ∧ w' = w := by
  have u3 := run_underlying t3; have u4 := run_underlying t4; have uS := run_underlying tS
  go_enter hf, Tryz.ntmps162
  cases ad with
  | none =>
    obtain ⟨rfl, rfl⟩ := hnil rfl
    obtain rfl : i = 0 := by omega
    go_wp2
    all_goals (go_ret; exact ⟨rfl, rfl⟩)
  | some a =>
    obtain ⟨ab, ao, asp⟩ := a
    go_wp2
    all_goals (go_ret; exact ⟨rfl, rfl⟩)
set_option maxHeartbeats 4000000 in
set_option maxRecDepth 100000 in
theorem cut {P : Program} {k : Nat} (hf : P.funcs[162]? = some Tryz.f162) (mixed : P.follows .mixedOrders = true) (t3 : P.underlying 3 = some (.int .i64)) (t4 : P.underlying 4 = some .bool) (tS : P.underlying 50 = some (.slice 24)) (zE : ∀ w, (Go.sizeOf 24).run P w = .ok k w)
    {i0 : TypeInfo} {z : Value} {zc : Array Value} (hzq : zc = z.cells) (hi0 : P.info? 24 = some i0) (hz0 : i0.zero = some z) (hzs : i0.size = k) (hzc : z.cells.size = k) (hz1 : ∀ u ∈ z.cells.toList, u.oneCell' = true) (hk : 0 < k)
    (b n c i j : Nat) (cs : List Value) (w : World) (hij : i < j) (hj : j ≤ n) (hnc : n ≤ c) (hc63 : c ≤ 9223372036854775807) {cur : Array Value} {e : TypeId} (hb : w.heap[b]? = some (.cells cur e (0, 0))) (hcur : cur.size = c * k)
    (hcl : cs.length = n * k) (hcs : At w b 0 cs) (h1c : ∀ v ∈ cs, v.oneCell' = true) :
    Calls P 162 #[.slice (some ⟨b, 0, none⟩) n c, .int .i64 i, .int .i64 j] w fun e w' =>
      e = .returned (.slice (some ⟨b, 0, none⟩) (i + (n - j)) c) ∧ w' = (w.drew.setCells b (i * k) (cs.drop (j * k))).setCells b ((i + (n - j)) * k) (Builtin.zeroCells zc (n - (i + (n - j)))).toList := by
  have u3 := run_underlying t3; have u4 := run_underlying t4; have uS := run_underlying tS
  have hle : n * k ≤ c * k := Nat.mul_le_mul_right k hnc
  obtain ⟨news, hnews⟩ : ∃ news, news = cs.drop (j * k) := ⟨_, rfl⟩
  have hlen : news.length = (n - j) * k := by rw [hnews, List.length_drop, hcl, Nat.sub_mul]
  obtain ⟨A, hA, hsrc⟩ : ∃ A : Addr, (if c = j then some (⟨b, 0, none⟩ : Addr) else some ⟨b, j * k, none⟩) = some A ∧ Hid (∀ t u, news[t]? = some u → w.drew.cell? (A.add t) = some u) := by
    by_cases h : c = j
    · refine ⟨⟨b, 0, none⟩, by simp [h], fun t u hu => ?_⟩
      have h0 : news.length = 0 := by rw [hlen, show n - j = 0 by omega, Nat.zero_mul]
      rw [List.length_eq_zero_iff.1 h0] at hu
      simp at hu
    · refine ⟨⟨b, j * k, none⟩, by simp [h], fun t u hu => ?_⟩
      rw [hnews, List.getElem?_drop] at hu
      rw [Addr.add_lit]
      have := hcs (j * k + t) u hu
      rw [Nat.zero_add] at this
      exact this
  have s1 : Hid (news.length = (n - j) * k) := hlen
  have s2 : Hid (∀ u ∈ news, u.oneCell' = true) := by
    intro u hu
    rw [hnews] at hu
    exact h1c u (List.mem_of_mem_drop hu)
  have hik : i * k + (n - j) * k = (i + (n - j)) * k := (Nat.add_mul _ _ _).symm
  have hin : (i + (n - j)) * k ≤ n * k := Nat.mul_le_mul_right k (by omega)
  have hall : (i + (n - j)) * k + (n - (i + (n - j))) * k = n * k := by rw [← Nat.add_mul]; congr 1; omega
  have s3 : Hid (∀ t, t < news.length → (w.drew.cell? ⟨b, 0 + i * k + t, none⟩).isSome = true ∧ w.drew.frozen? ⟨b, 0 + i * k + t, none⟩ = false) := by
    intro t ht
    rw [hlen] at ht
    exact ⟨cells_some (w := w.drew) (cur := cur) (e := e) (fz := (0, 0)) hb (by omega), cells_thawed (w := w.drew) (cur := cur) (e := e) hb⟩
  obtain ⟨W1, hW1⟩ : ∃ W1, W1 = w.drew.setCells b (0 + i * k) news := ⟨_, rfl⟩
  obtain ⟨c', q1, q2, q3⟩ := setCells_heap (b := b) news (0 + i * k) w.drew cur hb (by rw [hlen]; omega)
  rw [← hW1] at q1
  have hzv : ∀ w, (zeroValue 24).run P w = .ok z w := fun w => by simp [zeroValue, typeInfo, hi0, hz0]
  have hcl' : ∀ ty, (Builtin.clear_ #[50] ty #[.slice (some ⟨b, (i + (n - j)) * k, none⟩) (n - (i + (n - j))) (c - (i + (n - j)))]).run P W1 = .ok (.tuple #[]) (W1.setCells b ((i + (n - j)) * k) (Builtin.zeroCells zc (n - (i + (n - j)))).toList) :=
    fun ty => by
      rw [hzq]
      exact run_clear_k W1 _ _ ty z k tS hzv hzc hz1 hk b _ _ _ (by omega) (fun t ht => cells_some q1 (by rw [q2]; omega)) (fun t ht => cells_thawed q1)
  have hW : Hid (W1 = w.drew.setCells b (0 + i * k) news) := hW1
  have hX : Hid (W1 = w.drew.setCells b (i * k) (cs.drop (j * k))) := by rw [hW1, hnews, Nat.zero_add]; exact rfl
  have hic : i ≤ c := by omega
  have hjc : j ≤ c := by omega
  have hin' : i ≤ n := by omega
  clear hW1 hcs hnews hlen q1 q2 q3 hzv hzq hz1 hzc hz0 hik hin hall hle hcur hcl
  go_enter hf, Tryz.ntmps162
  go_wp2_with fail
  go_region_law_o (refine step_append_room rfl (.tmp 22) (.tmp 25) 50 rfl 24 i0 k tS hi0 hzs b 0 i c (by simp [Act.eval, Act.put]) A (n - j) (c - j) news (by simp [Act.eval, Act.put]) s1.out hsrc.out s2.out (by omega) s3.out ?_; rw [← hW.out])
  go_wp2
  all_goals (go_ret; exact ⟨rfl, by rw [hX.out]⟩)
theorem lay4 {A : Type} (C Z cs : List A) (ik jk nk dk : Nat) (hC : C.take nk = cs) (hnk : nk ≤ C.length) (hi : ik ≤ jk) (hj : jk ≤ nk) (hd : (cs.drop jk).length = dk) :
    (((C.take ik ++ cs.drop jk ++ C.drop (ik + (cs.drop jk).length)).take (ik + dk) ++ Z ++ (C.take ik ++ cs.drop jk ++ C.drop (ik + (cs.drop jk).length)).drop (ik + dk + Z.length))).take (ik + dk) = cs.take ik ++ cs.drop jk := by
  have hcl : cs.length = nk := by rw [← hC, List.length_take, Nat.min_eq_left hnk]
  have h1 : (C.take ik).length = ik := by rw [List.length_take]; omega
  have e0 : C.take ik = cs.take ik := by rw [← hC, List.take_take, Nat.min_eq_left (by omega)]
  have e1 : (C.take ik ++ cs.drop jk ++ C.drop (ik + (cs.drop jk).length)).take (ik + dk) = cs.take ik ++ cs.drop jk := by
    rw [List.take_append_of_le_length (by rw [List.length_append]; omega), List.take_of_length_le (by rw [List.length_append]; omega), e0]
  have h2 : (cs.take ik ++ cs.drop jk).length = ik + dk := by rw [List.length_append, ← e0, h1, hd]
  rw [e1, List.append_assoc, List.take_append_of_le_length (by omega), List.take_of_length_le (by omega)]
theorem at_block {w : World} {b n k : Nat} {cur : Array Value} {e : TypeId} {fz : Nat × Nat} {cs : List Value} (h : w.heap[b]? = some (.cells cur e fz)) (ht : cur.toList.take n = cs) : At w b 0 cs := by
  intro j v hj
  rw [Nat.zero_add]
  rw [← ht, List.getElem?_take] at hj
  split at hj
  · simp only [World.cell?, h]
    simpa using hj
  · cases hj
theorem walk {P : Program} {k : Nat} (hf : P.funcs[162]? = some Tryz.f162) (mixed : P.follows .mixedOrders = true) (t3 : P.underlying 3 = some (.int .i64)) (t4 : P.underlying 4 = some .bool) {ti : TI} (hg : Go.Abs.Good P 24 ti) (tS : P.underlying 50 = some (.slice 24))
    (hk : ti.siz = k) (hk0 : 0 < k) (hza : ti.zer.t.alive = true) (hzc1 : ti.zer.t.cel = true) : DelWalk P 162 24 k := by
  intro w L0 n i j cs h0 hi hj hcl h1c
  have zE : ∀ w, (Go.sizeOf 24).run P w = .ok k w := fun w => by rw [← hk]; exact hg.size w
  obtain ⟨i0, hi0, hs0, hby0, hzz⟩ := hg.info
  obtain ⟨z, hz0, hzc, hzn, hzv⟩ := hzz hza
  have hz1 : ∀ u ∈ z.cells.toList, u.oneCell' = true := (VR_cells (w := w) (Fr := fun _ => False) (mu := fun _ => nilLoc) (p := fun _ => True) (fun _ => rfl) (hzv _ _ _) hzc1 hza (hzn _)).2
  have stay : ∀ (ad : Option Addr) (c : Nat), L0.hdr = .slice ad n c → n ≤ c → c ≤ 9223372036854775807 → (ad = none → n = 0 ∧ c = 0) → i = j → Calls P 162 #[L0.hdr, .int .i64 i, .int .i64 j] w fun e' w' => ∃ L', e' = .returned L'.hdr ∧ RowAt w' L' 24 k (n - (j - i)) (cs.take (i * k) ++ cs.drop (j * k)) ∧ Grow (fun b => L0.hdr.ownBlock = some L0.loc ∧ b = L0.loc) w w' ∧
    (L'.hdr.ownBlock = some L'.loc → L'.loc < w'.heap.size ∧ ((L0.hdr.ownBlock = some L0.loc ∧ L'.loc = L0.loc) ∨ w.heap.size ≤ L'.loc)) ∧ L'.hdr.oneCell' = true := by
    intro ad c hh hnc hcm hnil hij
    subst hij
    have hcall := none_ (k := k) hf mixed t3 t4 tS zE ad n c i w hj hnc hcm hnil
    rw [← hh] at hcall
    refine Calls.mono hcall ?_
    rintro e' w' ⟨rfl, rfl⟩
    rw [Nat.sub_self, Nat.sub_zero, List.take_append_drop]
    refine ⟨L0, rfl, h0, Grow.refl _ w', fun ho => ⟨?_, .inl ⟨ho, rfl⟩⟩, by rw [hh]; rfl⟩
    rcases h0 with ⟨_, _, _, hno⟩ | ⟨_, _, ⟨h, _⟩ | ⟨g, cap, cur, h, _, hcell, _⟩⟩
    · exact absurd ho hno
    · rw [h] at ho; cases ho
    · rw [h] at ho
      injection ho with ho
      have ho : g = L0.loc := ho
      rw [← ho]
      exact (Array.getElem?_eq_some_iff.1 hcell).1
  have h00 := h0
  rcases h0 with ⟨ad, hh, hn0, _⟩ | ⟨hob, hlen0, ⟨hh, hn0⟩ | ⟨g, cap, cur, hh, _, hcell, hnc, hcm, hcs, htk⟩⟩
  · subst hn0
    cases ad with
    | none => exact stay none 0 hh (Nat.le_refl _) (by omega) (fun _ => ⟨rfl, rfl⟩) (by omega)
    | some a => exact stay (some a) 0 hh (Nat.le_refl _) (by omega) (fun h => by cases h) (by omega)
  · rw [hh] at hob
    cases hob
  · by_cases hin : i = j
    · exact stay _ cap hh hnc (by unfold maxLen at hcm; omega) (fun h => by cases h) hin
    have hlt : i < j := by omega
    have hloc : L0.loc = g := by rw [hh] at hob; injection hob with hob; exact hob.symm
    have hcsat : At w g 0 cs := at_block (k := k) hcell htk
    have hcurl : cur.toList.length = cap * k := by simpa using hcs
    have hnk : n * k ≤ cap * k := Nat.mul_le_mul_right k hnc
    have hik : i * k ≤ j * k := Nat.mul_le_mul_right k hi
    have hjk : j * k ≤ n * k := Nat.mul_le_mul_right k hj
    have hdl : (cs.drop (j * k)).length = (n - j) * k := by rw [List.length_drop, hcl, Nat.sub_mul]
    have hsum : i * k + (n - j) * k = (i + (n - j)) * k := (Nat.add_mul _ _ _).symm
    have hall : (i + (n - j)) * k + (n - (i + (n - j))) * k = n * k := by rw [← Nat.add_mul]; congr 1; omega
    rw [hh]
    refine Calls.mono (cut hf mixed t3 t4 tS zE rfl hi0 hz0 (by rw [hs0, hk]) (by rw [hzc, hk]) hz1 hk0 g n cap i j cs w hlt hj hnc (by unfold maxLen at hcm; omega) hcell hcs hcl hcsat h1c) ?_
    rintro e' w' ⟨rfl, rfl⟩
    have hZl : (Builtin.zeroCells z.cells (n - (i + (n - j)))).toList.length = (n - (i + (n - j))) * k := by rw [Array.length_toList, size_zeroCells, hzc, hk]
    obtain ⟨c', q1, q2, q3⟩ := setCells_heap (b := g) (cs.drop (j * k)) (i * k) w.drew cur hcell (by rw [hdl]; omega)
    obtain ⟨c'', r1, r2, r3⟩ := setCells_heap (b := g) (Builtin.zeroCells z.cells (n - (i + (n - j)))).toList ((i + (n - j)) * k) (w.drew.setCells g (i * k) (cs.drop (j * k))) c' q1 (by rw [q2, hcs, hZl]; omega)
    have hnn : n - (j - i) = i + (n - j) := by omega
    rw [hnn]
    refine ⟨⟨g, .slice (some ⟨g, 0, none⟩) (i + (n - j)) cap⟩, rfl, .inr ⟨rfl, ?_, .inr ⟨g, cap, c'', rfl, Nat.zero_le _, r1, by omega, hcm, by rw [r2, q2, hcs], ?_⟩⟩, ?_, ?_, rfl⟩
    · rw [List.length_append, hdl, List.length_take, hcl, Nat.min_eq_left (by omega)]; exact hsum
    · rw [r3, q3, ← hsum]
      exact lay4 cur.toList _ cs (i * k) (j * k) (n * k) ((n - j) * k) htk (by rw [hcurl]; exact hnk) hik hjk hdl
    · have hgr : Grow (fun x => x = g) w ((w.drew.setCells g (i * k) (cs.drop (j * k))).setCells g ((i + (n - j)) * k) (Builtin.zeroCells z.cells (n - (i + (n - j)))).toList) :=
        Grow.trans (b := w.drew) (Grow.drew w) (Grow.trans (setCells_grow g _ _ _) (setCells_grow g _ _ _) (fun _ _ h => h)) (fun _ _ h => h)
      exact ⟨hgr.os, hgr.tape, hgr.output, hgr.size, fun x hx hn => hgr.block x hx (fun e => hn ⟨by rw [← hh]; exact hob, by rw [hloc]; exact e⟩)⟩
    · intro _
      refine ⟨(Array.getElem?_eq_some_iff.1 r1).1, .inl ⟨by rw [← hh]; exact hob, hloc.symm⟩⟩
end Go.Proofs.YtjekopgcpikkiaaGreatDoor.Del162
