/- A function's end, and a call by so many calls within one another: what is told of it holds. No conditions. -/
import Derived.Test.YtobfcaejpcpboaaRun
set_option autoImplicit false
set_option linter.unusedVariables false
namespace Go.Abs

section
variable {P : Program} {T : Told} {C : AbsFn} {E : Env} {w : World} {Fr : Nat → Prop} {mu : Nat → Loc} {s : St} {a : Act}

/-- Results, one by one. -/
inductive Each (f : Dyn → Value → Prop) : List Dyn → List Value → Prop where
  | nil : Each f [] []
  | cons {d : Dyn} {v : Value} {ds : List Dyn} {vs : List Value} : f d v → Each f ds vs → Each f (d :: ds) (v :: vs)
/-- A result, as it is read. -/
def resF (tmps : Array Value) : ResultVar → Sem Value
  | .tmp t => Pure.pure (tmps.getD t undef)
  | .cell x t => do loadVar t (← asAddr (tmps.getD x undef))
theorem resD_ok (hT : TabOK P T.tb) (H : Rep E w Fr mu s a) : ∀ (l : List ResultVar) (ds : List Dyn), resD T s l = some ds →
    ∃ vs, (l.mapM (resF a.tmps)).run P w = .ok vs w ∧ Each (fun d v => VR w Fr mu d v ∧ d.t.okN (· < s.heap.length) ∧ d.t.cel = true) ds vs
  | [], ds, h => by
    injection h with h
    subst h
    exact ⟨[], rfl, .nil⟩
  | .tmp t :: l, ds, h => by
    unfold resD at h
    split at h
    case h_2 => cases h
    rename_i r hr
    split at h
    case isFalse => cases h
    rename_i hc
    injection h with h
    subst h
    simp only [Bool.and_eq_true] at hc
    obtain ⟨vs, h1, h2⟩ := resD_ok hT H l r hr
    exact ⟨a.tmps.getD t undef :: vs, by simp only [List.mapM_cons, Sem.run_bind, resF, Sem.run_pure, Result.andThen_ok, h1], .cons ⟨(H.get t).1, (H.get t).2, hc.2⟩ h2⟩
  | .cell x t :: l, ds, h => by
    unfold resD at h
    split at h
    · cases h
    rename_i r hr
    split at h
    case h_2 => cases h
    rename_i ti i off _ hti hq
    split at h
    case h_2 => cases h
    rename_i u y hob
    dsimp only at h
    split at h
    case isFalse => cases h
    rename_i hc
    injection h with h
    subst h
    simp only [Bool.and_eq_true, decide_eq_true_eq] at hc
    obtain ⟨vs, h1, h2⟩ := resD_ok hT H l r hr
    have hx := (H.get x).1
    rw [hq] at hx
    injection (show [a.tmps.getD x undef] = [_] from hx) with hx
    obtain ⟨cells, e, hcell, hcd, hat⟩ := box_CD H (obj_some hob (by simp))
    obtain ⟨v, g1, g2, g3⟩ := run_loadPart (o := 0) (hT _ _ hti) hcd hc.1.1 (.inl hc.1.2)
    have g1 := g1 w hat
    rw [Nat.zero_add] at g1
    refine ⟨v :: vs, ?_, .cons ⟨g2, g3, hc.2⟩ h2⟩
    simp only [List.mapM_cons, Sem.run_bind, resF, hx, asAddr, Sem.run_pure, Result.andThen_ok, g1, h1]
theorem tupD_ok {p : Nat → Prop} : ∀ (ds : List Dyn) (vs : List Value), Each (fun d v => VR w Fr mu d v ∧ d.t.okN p ∧ d.t.cel = true) ds vs → VR w Fr mu (tupD ds) (.tuple vs.toArray) ∧ (tupD ds).t.okN p := by
  intro ds vs h
  have key : Rp w Fr mu (tupD ds).t (tupD ds).x vs ∧ (tupD ds).t.okN p := by
    induction h with
    | nil => exact ⟨rfl, trivial⟩
    | @cons d v ds vs h1 h2 ih =>
      refine ⟨⟨v, vs, rfl, ?_, ih.1⟩, h1.2.1, ih.2⟩
      obtain ⟨hv, _, hc⟩ := h1
      unfold VR at hv
      show (match d.t.vk with | .dead => _ | .agg => _ | .tup => _ | .one => _)
      revert hv
      cases hk : d.t.vk
      case dead => exact id
      case agg => exact id
      case one => exact id
      case tup => rw [vk_tup_cel hk] at hc; cases hc
  refine ⟨?_, key.2⟩
  cases h with
  | nil => exact ⟨[], rfl, rfl⟩
  | cons _ _ => exact ⟨_, rfl, key.1⟩
theorem asO_some {d : AObj} {t : OTy} {x : denO t} (h : d.as t = some x) : d = ⟨t, x⟩ := by
  obtain ⟨t', x'⟩ := d
  unfold AObj.as at h
  split at h
  · rename_i e
    have e : t' = t := e
    subst e
    injection h with h
    rw [← h]
  · cases h
theorem asObjs_some : ∀ (ts : List OTy) (os : List AObj) (y : denOs ts), asObjs ts os = some y → os = objsOf ts y
  | [], [], _, _ => rfl
  | [], _ :: _, _, h => by cases h
  | t :: ts, [], _, h => by cases h
  | t :: ts, o :: os, y, h => by
    unfold asObjs at h
    split at h
    case h_2 => cases h
    rename_i x hx
    split at h
    case h_2 => cases h
    rename_i z hz
    injection h with h
    subst h
    show o :: os = ⟨t, x⟩ :: objsOf ts z
    rw [asO_some hx, asObjs_some ts os z hz]
theorem mkR_res (rt : Ty) (x : den rt) (ots : List OTy) (y : denOs ots) : resT rt ots (mkR rt x ots y) = x ∧ resO rt ots (mkR rt x ots y) = objsOf ots y := by
  cases ots <;> exact ⟨rfl, rfl⟩
/-- Results as one value. -/
def oneV : List Value → Value
  | [v] => v
  | vs => .tuple vs.toArray
theorem run_results {fn : Func} {tmps : Array Value} {vs : List Value} (h : (fn.results.toList.mapM (resF tmps)).run P w = .ok vs w) :
    (results fn tmps).run P w = .ok (oneV vs) w := by
  have e : results fn tmps = (do
      let vs ← fn.results.mapM (resF tmps)
      Pure.pure (if h : vs.size = 1 then vs[0] else .tuple vs) : Sem Value) := by
    unfold results
    congr 1
  rw [e, Array.mapM_eq_mapM_toList]
  simp only [Sem.run_bind, Sem.run_map]
  rw [h]
  simp only [Result.andThen_ok]
  match vs with
  | [] => rfl
  | [v] => rfl
  | _ :: _ :: _ => rfl
theorem finD_ok (hT : TabOK P T.tb) {w0 : World} {Fr0 : Nat → Prop} {mu0 : Nat → Loc} {objs : List AObj} (H : Rep (env w0 Fr0 mu0 objs) w Fr mu s a) {fn : Func} {rt : Ty} {ots : List OTy} {r : denR rt ots} (h : finD T fn rt ots objs.length s = some r) :
    ∃ v Fr' mu', (results fn a.tmps).run P w = .ok v w ∧ Post w0 Fr0 mu0 objs ⟨rt, resT rt ots r⟩ (resO rt ots r) v w Fr' mu' := by
  unfold finD at h
  split at h
  · cases h
  rename_i l hl
  dsimp only at h
  split at h
  case isFalse => cases h
  rename_i hni
  split at h
  case h_2 => cases h
  rename_i k wv hh hnorm
  split at h
  · cases h
  rename_i x hx
  split at h
  case h_2 => cases h
  rename_i y hy
  injection h with h
  obtain ⟨vs, h1, h2⟩ := resD_ok hT H fn.results.toList l hl
  have hval : VR w Fr mu (oneD l) (oneV vs) ∧ (oneD l).t.okN (· < s.heap.length) := by
    match l, vs, h2 with
    | [], _, .nil => exact tupD_ok [] [] .nil
    | [d], _, .cons h3 .nil => exact ⟨h3.1, h3.2.1⟩
    | d :: d' :: ds, _, .cons h3 (.cons h4 h5) => exact tupD_ok _ _ (.cons h3 (.cons h4 h5))
  generalize hv : oneV vs = v at hval
  have hrun := run_results h1
  rw [hv] at hrun
  have hfz := H.freeze (coeIds rt (oneD l).t [])
  have hcv := coe_VR0 (u := rt) (Fr' := FrL Fr mu s.heap (coeIds rt (oneD l).t [])) (q := fun i => i ∈ coeIds rt (oneD l).t []) H.si (fun b hb => .inl hb) (fun i o hi ho hoc => .inr ⟨i, o, hi, ho, hoc, rfl⟩) (coeIds_ok rt _ [] (fun _ => id)) hval.1
  have hrep : Rep (env w0 Fr0 mu0 objs) w (FrL Fr mu s.heap (coeIds rt (oneD l).t [])) mu ⟨[(0, coe s rt (oneD l).t (oneD l).x)], (s.freeze (coeIds rt (oneD l).t [])).heap⟩ ⟨#[v], []⟩ := by
    refine ⟨hfz.si, ?_, rfl, by simp⟩
    intro u d hm
    simp only [List.mem_singleton, Prod.mk.injEq] at hm
    obtain ⟨rfl, rfl⟩ := hm
    refine ⟨by simp, hcv, ?_⟩
    rw [freeze_len]
    exact coe_okN s rt _ _ hval.2
  obtain ⟨mu2, H2⟩ := norm_ok hrep hnorm
  have hw := H2.tm k wv (by simp)
  have hk : k = 0 := by
    have := hw.1
    simpa using this
  subst hk
  have hvw : VR w (FrL Fr mu s.heap (coeIds rt (oneD l).t [])) mu2 wv v := hw.2.1
  subst h
  obtain ⟨e1, e2⟩ := mkR_res rt x ots y
  refine ⟨v, FrL Fr mu s.heap (coeIds rt (oneD l).t []), mu2, hrun, ?_⟩
  rw [e1, e2, ← asObjs_some ots hh y hy]
  exact ⟨H2.si, by rw [← as_some hx]; exact hvw, by have := hw.2.2; rw [as_some hx] at this; exact this⟩
/-- Arguments in their slots. -/
theorem numD_mem : ∀ (l : List Dyn) (n u : Nat) (d : Dyn), (u, d) ∈ numD n l → n ≤ u ∧ l[u - n]? = some d
  | [], _, _, _, h => by cases h
  | x :: l, n, u, d, h => by
    rcases List.mem_cons.1 h with h | h
    · injection h with h1 h2
      subst h1; subst h2
      exact ⟨Nat.le_refl _, by simp⟩
    · obtain ⟨h1, h2⟩ := numD_mem l (n + 1) u d h
      refine ⟨by omega, ?_⟩
      rw [show u - n = (u - (n + 1)) + 1 by omega]
      simpa using h2
theorem numD_sorted : ∀ (l : List Dyn) (n : Nat), ((numD n l).map (·.1)).Pairwise (· < ·)
  | [], _ => by simp [numD]
  | x :: l, n => by
    simp only [numD, List.map_cons, List.pairwise_cons, List.mem_map]
    refine ⟨?_, numD_sorted l (n + 1)⟩
    rintro a ⟨⟨u, d⟩, hm, rfl⟩
    have := (numD_mem l (n + 1) u d hm).1
    show n < u
    omega
/-- Functions that are told of otherwise than by their code. -/
def PrimsOK (P : Program) (pr : Prims) : Prop := ∀ (f : Nat) (c : AbsFn), pr f = some c → ∀ (args : List Dyn) (objs : List AObj) (rt : Ty) (ots : List OTy) (r : denR rt ots), c f args objs rt ots = some r → Enters P f ∧
  ∀ (w : World) (Fr : Nat → Prop) (mu : Nat → Loc) (vs : List Value), Pre w Fr mu objs args vs →
    Calls P f vs.toArray w fun e w' => ∃ v Fr' mu', e = .returned v ∧ Post w Fr mu objs ⟨rt, resT rt ots r⟩ (resO rt ots r) v w' Fr' mu'
/-- What is asked of a program and of what is told of it. -/
structure Fits (P : Program) (T : Told) (pr : Prims) : Prop where
  mixed : P.follows .mixedOrders = true
  tab : TabOK P T.tb
  names : ∀ (f : Nat) (fn : Func), P.funcs[f]? = some fn → fn.name ≠ "runtime.NumGoroutine"
  prims : PrimsOK P pr
theorem callB_ok {pr : Prims} (hP : Fits P T pr) (hC : Sound P C) {LP : Looper} (hL : ∀ (E : Env) (nt : Nat) (R : Type), LoopOK P E nt R (LP R)) : Sound P (callB P T pr C LP) := by
  intro f args objs rt ots r h
  unfold callB at h
  split at h
  · rename_i c hc
    exact hP.prims f c hc args objs rt ots r h
  · split at h
    · cases h
    rename_i hb
    split at h
    case isFalse => cases h
    rename_i hle
    have hfn : ∃ fn c, P.funcs[f]? = some fn ∧ fn.body = some c := by
      unfold hasBody at hb
      split at hb
      · cases hb
      · rename_i fn hf
        obtain ⟨c, hc⟩ := Option.isSome_iff_exists.1 hb
        exact ⟨fn, c, hf, hc⟩
    obtain ⟨fn, c, hf, hbody⟩ := hfn
    have hfo : funcOf P f = fn := by unfold funcOf; rw [hf]
    have hco : codeOf P f = c := by unfold codeOf; rw [hf]; dsimp only; rw [hbody]
    refine ⟨⟨fn, hf, by rw [hbody]; rfl, hP.names f fn hf⟩, ?_⟩
    intro w Fr mu vs hpre
    refine calls_of_wp hf hbody ?_
    rw [hfo] at hle
    have hsz : (vs.toArray ++ Array.replicate (fn.ntmps - vs.toArray.size) undef).size = fn.ntmps := by
      have := hpre.len
      simp; omega
    have hrep : Rep (env w Fr mu objs) w Fr mu ⟨numD 0 args, objs⟩ { tmps := vs.toArray ++ Array.replicate (fn.ntmps - vs.toArray.size) undef, defers := [] } := by
      refine ⟨⟨Grow.refl _ w, fun _ => id, fun _ => .inl, hpre.frL, hpre.so.hh, hpre.so.obj, hpre.so.nm, hpre.so.sep, ?_, ?_, Nat.le_refl _⟩, ?_, rfl, numD_sorted args 0⟩
      · intro i o hi ho
        obtain ⟨h1, h2⟩ := hpre.so.own i o hi ho
        exact ⟨.inl ⟨i, o, hi, ho, rfl⟩, h1, h2⟩
      · intro i o _ hi
        obtain ⟨t, x⟩ := o
        cases t with
        | gone => trivial
        | box t => rfl
        | row e t f => cases f <;> first | rfl | trivial
      · intro u d hm
        obtain ⟨_, hd⟩ := numD_mem args 0 u d hm
        rw [Nat.sub_zero] at hd
        have hu : u < args.length := (List.getElem?_eq_some_iff.1 hd).1
        have huv : u < vs.length := by rw [← hpre.len]; exact hu
        obtain ⟨h1, h2⟩ := hpre.val u d vs[u] hd (List.getElem?_eq_getElem huv)
        refine ⟨by rw [hsz]; omega, ?_, h2⟩
        have : (vs.toArray ++ Array.replicate (fn.ntmps - vs.toArray.size) undef).getD u undef = vs[u] := by
          simp [Array.getElem?_append, huv]
        rw [this]; exact h1
    unfold bodyF at h
    rw [hfo, hco] at h
    have h : runD T C (LP _) f fn.ntmps objs.length [] c ⟨numD 0 args, objs⟩ (finK T fn rt ots objs.length) = some r := h
    refine runD_ok (E := env w Fr mu objs) (LP := LP _) hP.mixed hP.tab hC (hL _ _ _) c [] r (finK T fn rt ots objs.length) _ ?_ _ _ w Fr mu hrep hsz h
    intro e s' a' w' Fr' mu' hk H' hnt'
    have hfin : (∀ j, e ≠ .exit j) → ∃ v Fr2 mu2, (results fn a'.tmps).run P w' = .ok v w' ∧ Post w Fr mu objs ⟨rt, resT rt ots r⟩ (resO rt ots r) v w' Fr2 mu2 := by
      intro he
      refine finD_ok hP.tab H' (ots := ots) ?_
      cases e with
      | normal => exact hk
      | ret => exact hk
      | exit j => exact absurd rfl (he j)
    cases e with
    | normal =>
      obtain ⟨v, Fr2, mu2, h1, h2⟩ := hfin (by simp)
      exact ⟨H'.df, v, h1, v, Fr2, mu2, rfl, h2⟩
    | ret =>
      obtain ⟨v, Fr2, mu2, h1, h2⟩ := hfin (by simp)
      exact ⟨H'.df, v, h1, v, Fr2, mu2, rfl, h2⟩
    | exit j => cases hk
end
end Go.Abs
