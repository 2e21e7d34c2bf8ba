/- A function's end, and a call by so many calls within one another: what is told of it holds. No conditions. -/
import Derived.Test.YtobfcaejpcpboaaRun
set_option autoImplicit false
set_option linter.unusedVariables false
namespace Go.Abs

section
variable {P : Program} {T : Told} {C : AbsFn} {E : Env} {w : World} {Fr : Nat → Prop} {mu : Nat → Loc} {s : St} {a : Act}

/-- Results, one by one. -/
inductive Each (f : Dyn → Value → Prop) : List Dyn → List Value → Prop where
  | nil : Each f [] []
  | cons {d : Dyn} {v : Value} {ds : List Dyn} {vs : List Value} : f d v → Each f ds vs → Each f (d :: ds) (v :: vs)
/-- A result, as it is read. -/
def resF (tmps : Array Value) : ResultVar → Sem Value
  | .tmp t => Pure.pure (tmps.getD t undef)
  | .cell x t => do loadVar t (← asAddr (tmps.getD x undef))
theorem resD_ok (hT : TabOK P T.tb) (H : Rep E w Fr mu s a) : ∀ (l : List ResultVar) (ds : List Dyn), resD T s l = some ds →
    ∃ vs, (l.mapM (resF a.tmps)).run P w = .ok vs w ∧ Each (fun d v => VR w Fr mu d v ∧ d.t.okN (· < s.heap.length) ∧ d.t.cel = true) ds vs
  | [], ds, h => by
    injection h with h
    subst h
    exact ⟨[], rfl, .nil⟩
  | .tmp t :: l, ds, h => by
    unfold resD at h
    split at h
    case h_2 => cases h
    rename_i r hr
    split at h
    case isFalse => cases h
    rename_i hc
    injection h with h
    subst h
    simp only [Bool.and_eq_true] at hc
    obtain ⟨vs, h1, h2⟩ := resD_ok hT H l r hr
    exact ⟨a.tmps.getD t undef :: vs, by simp only [List.mapM_cons, Sem.run_bind, resF, Sem.run_pure, Result.andThen_ok, h1], .cons ⟨(H.get t).1, (H.get t).2, hc.2⟩ h2⟩
  | .cell x t :: l, ds, h => by
    unfold resD at h
    split at h
    · cases h
    rename_i r hr
    split at h
    case h_2 => cases h
    rename_i ti i off _ hti hq
    split at h
    case h_2 => cases h
    rename_i u y hob
    dsimp only at h
    split at h
    case isFalse => cases h
    rename_i hc
    injection h with h
    subst h
    simp only [Bool.and_eq_true, decide_eq_true_eq] at hc
    obtain ⟨vs, h1, h2⟩ := resD_ok hT H l r hr
    have hx := (H.get x).1
    rw [hq] at hx
    injection (show [a.tmps.getD x undef] = [_] from hx) with hx
    obtain ⟨cells, e, hcell, hcd, hat⟩ := box_CD H (obj_some hob (by simp))
    obtain ⟨v, g1, g2, g3⟩ := run_loadPart (o := 0) (hT _ _ hti) hcd hc.1.1 (.inl hc.1.2)
    have g1 := g1 w hat
    rw [Nat.zero_add] at g1
    refine ⟨v :: vs, ?_, .cons ⟨g2, g3, hc.2⟩ h2⟩
    simp only [List.mapM_cons, Sem.run_bind, resF, hx, asAddr, Sem.run_pure, Result.andThen_ok, g1, h1]
theorem ownAs_chain {tb : Tabs} : ∀ (u t : Ty) (x : den t) (h : List AObj), t.chain = true → (ownAs u t x tb h).1.t.chain = true := by
  intro u t x h
  fun_induction ownAs u t x tb h <;> first | (intro h; exact h) | (intro h; cases h) | (intro h; rfl)
theorem ownAs_ok {tb : Tabs} : ∀ (u t : Ty) (x : den t) (h : List AObj) (mu : Nat → Loc), SI E w Fr mu h → ∀ l, CD w Fr mu (· < h.length) ⟨t, x⟩ l →
    ∃ mu', More E w w Fr mu mu' h (ownAs u t x tb h).2 ∧ CD w Fr mu' (· < (ownAs u t x tb h).2.length) (ownAs u t x tb h).1 l := by
  intro u t x h
  fun_induction ownAs u t x tb h with
  | case1 _ _ e tb h i hi he =>
    intro mu H l hd
    have := hd.rp
    cases this
    refine ⟨upd mu h.length nilLoc, More.one H (Grow.refl _ w) rfl (OR_nil he upd_same) (fun hoc => absurd hoc (occ_nil upd_same)) (fun t x e => by cases e), rfl, ?_, ?_⟩
    · show h.length < (h ++ [_]).length; simp
    · show _ = [(upd mu h.length nilLoc h.length).hdr]; rw [upd_same]; rfl
  | case2 _ _ e tb h i hi he => intro mu H l hd; exact ⟨mu, More.refl H, hd⟩
  | case3 _ _ e tb h hi => intro mu H l hd; exact ⟨mu, More.refl H, hd⟩
  | case4 c d a b tb h x p q ih1 ih2 =>
    intro mu H l hd
    obtain ⟨l1, l2, e, r1, r2⟩ := hd.rp
    obtain ⟨c1, c2, c3⟩ := Ty.cel_pair hd.cel
    obtain ⟨mu1, m1, d1⟩ := ih1 mu H l1 ⟨c1, hd.ok.1, r1⟩
    have d2 : CD w Fr mu1 (· < p.2.length) ⟨b, x.2⟩ l2 := m1.cd ⟨c2, hd.ok.2, r2⟩
    obtain ⟨mu2, m2, d3⟩ := ih2 mu1 m1.si l2 d2
    have d4 := m2.cd d1
    exact ⟨mu2, m1.trans m2, Ty.pair_cel d4.cel d3.cel (ownAs_chain d b x.2 p.2 c3), ⟨d4.ok, d3.ok⟩, l1, l2, e, d4.rp, d3.rp⟩
  | case5 => intro mu H l hd; exact ⟨mu, More.refl H, hd⟩
theorem ownAs_vk {tb : Tabs} : ∀ (u t : Ty) (x : den t) (h : List AObj), (ownAs u t x tb h).1.t.vk = t.vk := by
  intro u t x h
  fun_induction ownAs u t x tb h <;> rfl
theorem ownAs_vr {tb : Tabs} (u : Ty) (d : Dyn) (h : List AObj) (v : Value) (H : SI E w Fr mu h) (hv : VR w Fr mu d v) (hn : d.t.okN (· < h.length)) (hc : d.t.cel = true) :
    ∃ mu', More E w w Fr mu mu' h (ownAs u d.t d.x tb h).2 ∧ VR w Fr mu' (ownAs u d.t d.x tb h).1 v ∧ (ownAs u d.t d.x tb h).1.t.okN (· < (ownAs u d.t d.x tb h).2.length) ∧ (ownAs u d.t d.x tb h).1.t.cel = true := by
  have hk := ownAs_vk (tb := tb) u d.t d.x h
  unfold VR at hv
  cases hvk : d.t.vk with
  | dead =>
    have : d.t = .dead := by revert hvk; cases d.t <;> intro h <;> first | rfl | cases h
    obtain ⟨t, x⟩ := d
    cases this
    have e : ownAs u .dead x tb h = (⟨.dead, x⟩, h) := by cases u <;> rfl
    show ∃ mu', More E w w Fr mu mu' h (ownAs u .dead x tb h).2 ∧ VR w Fr mu' (ownAs u .dead x tb h).1 v ∧ (ownAs u .dead x tb h).1.t.okN (· < (ownAs u .dead x tb h).2.length) ∧ (ownAs u .dead x tb h).1.t.cel = true
    rw [e]
    exact ⟨mu, More.refl H, trivial, hn, hc⟩
  | tup => rw [vk_tup_cel hvk] at hc; cases hc
  | agg =>
    rw [hvk] at hv
    obtain ⟨_, cs, rfl, hr⟩ := hv
    obtain ⟨mu', m, hd⟩ := ownAs_ok (tb := tb) u d.t d.x h mu H cs ⟨hc, hn, hr⟩
    refine ⟨mu', m, ?_, hd.ok, hd.cel⟩
    unfold VR
    rw [hk, hvk]
    exact ⟨hd.cel, cs, rfl, hd.rp⟩
  | one =>
    rw [hvk] at hv
    obtain ⟨mu', m, hd⟩ := ownAs_ok (tb := tb) u d.t d.x h mu H [v] ⟨hc, hn, hv⟩
    refine ⟨mu', m, ?_, hd.ok, hd.cel⟩
    unfold VR
    rw [hk, hvk]
    exact hd.rp
theorem Each.imp {f g : Dyn → Value → Prop} (hi : ∀ d v, f d v → g d v) : ∀ {ds : List Dyn} {vs : List Value}, Each f ds vs → Each g ds vs
  | _, _, .nil => .nil
  | _, _, .cons h t => .cons (hi _ _ h) (Each.imp hi t)
theorem More.each {w' : World} {mu' : Nat → Loc} {h h' : List AObj} (H : More E w w' Fr mu mu' h h') {ds : List Dyn} {vs : List Value} (he : Each (fun d v => VR w Fr mu d v ∧ d.t.okN (· < h.length) ∧ d.t.cel = true) ds vs) :
    Each (fun d v => VR w' Fr mu' d v ∧ d.t.okN (· < h'.length) ∧ d.t.cel = true) ds vs :=
  he.imp fun d v ⟨h1, h2, h3⟩ => ⟨H.vr h1 h2, Ty.okN_mono (fun i hi => Nat.lt_of_lt_of_le hi H.len) _ h2, h3⟩
theorem ownRs_ok {tb : Tabs} : ∀ (rt : Ty) (l : List Dyn) (vs : List Value) (h : List AObj) (mu : Nat → Loc), SI E w Fr mu h → Each (fun d v => VR w Fr mu d v ∧ d.t.okN (· < h.length) ∧ d.t.cel = true) l vs →
    ∃ mu', More E w w Fr mu mu' h (ownRs rt l tb h).2 ∧ Each (fun d v => VR w Fr mu' d v ∧ d.t.okN (· < (ownRs rt l tb h).2.length) ∧ d.t.cel = true) (ownRs rt l tb h).1 vs := by
  intro rt l vs h
  fun_induction ownRs rt l tb h generalizing vs with
  | case1 c r d l tb h p q ih =>
    intro mu H he
    cases he with
    | cons h1 h2 =>
      obtain ⟨mu1, m1, a1, a2, a3⟩ := ownAs_vr (tb := tb) c d h _ H h1.1 h1.2.1 h1.2.2
      obtain ⟨mu2, m2, a4⟩ := ih _ mu1 m1.si (m1.each h2)
      exact ⟨mu2, m1.trans m2, .cons ⟨m2.vr a1 a2, Ty.okN_mono (fun i hi => Nat.lt_of_lt_of_le hi m2.len) _ a2, a3⟩ a4⟩
  | case2 => intro mu H he; exact ⟨mu, More.refl H, he⟩
theorem ownOne_ok {tb : Tabs} (rt : Ty) (l : List Dyn) (vs : List Value) (h : List AObj) (mu : Nat → Loc) (H : SI E w Fr mu h) (he : Each (fun d v => VR w Fr mu d v ∧ d.t.okN (· < h.length) ∧ d.t.cel = true) l vs) :
    ∃ mu', More E w w Fr mu mu' h (ownOne rt l tb h).2 ∧ Each (fun d v => VR w Fr mu' d v ∧ d.t.okN (· < (ownOne rt l tb h).2.length) ∧ d.t.cel = true) (ownOne rt l tb h).1 vs := by
  unfold ownOne
  split
  · cases he with
    | cons h1 h2 =>
      cases h2
      obtain ⟨mu1, m1, a1, a2, a3⟩ := ownAs_vr (tb := tb) rt _ h _ H h1.1 h1.2.1 h1.2.2
      exact ⟨mu1, m1, .cons ⟨a1, a2, a3⟩ .nil⟩
  · exact ownRs_ok rt l vs h mu H he
theorem tupD_ok {p : Nat → Prop} : ∀ (ds : List Dyn) (vs : List Value), Each (fun d v => VR w Fr mu d v ∧ d.t.okN p ∧ d.t.cel = true) ds vs → VR w Fr mu (tupD ds) (.tuple vs.toArray) ∧ (tupD ds).t.okN p := by
  intro ds vs h
  have key : Rp w Fr mu (tupD ds).t (tupD ds).x vs ∧ (tupD ds).t.okN p := by
    induction h with
    | nil => exact ⟨rfl, trivial⟩
    | @cons d v ds vs h1 h2 ih =>
      refine ⟨⟨v, vs, rfl, ?_, ih.1⟩, h1.2.1, ih.2⟩
      obtain ⟨hv, _, hc⟩ := h1
      unfold VR at hv
      show (match d.t.vk with | .dead => _ | .agg => _ | .tup => _ | .one => _)
      revert hv
      cases hk : d.t.vk
      case dead => exact id
      case agg => exact id
      case one => exact id
      case tup => rw [vk_tup_cel hk] at hc; cases hc
  refine ⟨?_, key.2⟩
  cases h with
  | nil => exact ⟨[], rfl, rfl⟩
  | cons _ _ => exact ⟨_, rfl, key.1⟩
theorem asO_some {d : AObj} {t : OTy} {x : denO t} (h : d.as t = some x) : d = ⟨t, x⟩ := by
  obtain ⟨t', x'⟩ := d
  unfold AObj.as at h
  split at h
  · rename_i e
    have e : t' = t := e
    subst e
    injection h with h
    rw [← h]
  · cases h
theorem asObjs_some : ∀ (ts : List OTy) (os : List AObj) (y : denOs ts), asObjs ts os = some y → os = objsOf ts y
  | [], [], _, _ => rfl
  | [], _ :: _, _, h => by cases h
  | t :: ts, [], _, h => by cases h
  | t :: ts, o :: os, y, h => by
    unfold asObjs at h
    split at h
    case h_2 => cases h
    rename_i x hx
    split at h
    case h_2 => cases h
    rename_i z hz
    injection h with h
    subst h
    show o :: os = ⟨t, x⟩ :: objsOf ts z
    rw [asO_some hx, asObjs_some ts os z hz]
theorem mkR_res (rt : Ty) (x : den rt) (ots : List OTy) (y : denOs ots) : resT rt ots (mkR rt x ots y) = x ∧ resO rt ots (mkR rt x ots y) = objsOf ots y := by
  cases ots <;> exact ⟨rfl, rfl⟩
/-- Results as one value. -/
def oneV : List Value → Value
  | [v] => v
  | vs => .tuple vs.toArray
theorem run_results {fn : Func} {tmps : Array Value} {vs : List Value} (h : (fn.results.toList.mapM (resF tmps)).run P w = .ok vs w) :
    (results fn tmps).run P w = .ok (oneV vs) w := by
  have e : results fn tmps = (do
      let vs ← fn.results.mapM (resF tmps)
      Pure.pure (if h : vs.size = 1 then vs[0] else .tuple vs) : Sem Value) := by
    unfold results
    congr 1
  rw [e, Array.mapM_eq_mapM_toList]
  simp only [Sem.run_bind, Sem.run_map]
  rw [h]
  simp only [Result.andThen_ok]
  match vs with
  | [] => rfl
  | [v] => rfl
  | _ :: _ :: _ => rfl
theorem finE_ok {w0 : World} {Fr0 : Nat → Prop} {mu0 : Nat → Loc} {objs : List AObj} (H : Rep (env w0 Fr0 mu0 objs) w Fr mu s a) {d : Dyn} {v : Value} (hval : VR w Fr mu d v ∧ d.t.okN (· < s.heap.length)) {rt : Ty} {ots : List OTy} {r : denR rt ots} (h : finE rt ots objs.length s d = some r) :
    ∃ Fr' mu', Post w0 Fr0 mu0 objs ⟨rt, resT rt ots r⟩ (resO rt ots r) v w Fr' mu' := by
  unfold finE at h
  dsimp only at h
  split at h
  case isFalse => cases h
  rename_i hni
  split at h
  case h_2 => cases h
  rename_i k wv hh hnorm
  split at h
  · cases h
  rename_i x hx
  split at h
  case h_2 => cases h
  rename_i y hy
  injection h with h
  have hfz := H.freeze (coeIds rt d.t [])
  have hcv := coe_VR0 (u := rt) (Fr' := FrL Fr mu s.heap (coeIds rt d.t [])) (q := fun i => i ∈ coeIds rt d.t []) H.si (fun b hb => .inl hb) (fun i o hi ho hoc => .inr ⟨i, o, hi, ho, hoc, rfl⟩) (coeIds_ok rt _ [] (fun _ => id)) hval.1
  have hrep : Rep (env w0 Fr0 mu0 objs) w (FrL Fr mu s.heap (coeIds rt d.t [])) mu ⟨[(0, coe s rt d.t d.x)], (s.freeze (coeIds rt d.t [])).heap⟩ ⟨#[v], []⟩ := by
    refine ⟨hfz.si, ?_, rfl, by simp⟩
    intro u d hm
    simp only [List.mem_singleton, Prod.mk.injEq] at hm
    obtain ⟨rfl, rfl⟩ := hm
    refine ⟨by simp, hcv, ?_⟩
    rw [freeze_len]
    exact coe_okN s rt _ _ hval.2
  obtain ⟨mu2, H2⟩ := norm_ok hrep hnorm
  have hw := H2.tm k wv (by simp)
  have hk : k = 0 := by
    have := hw.1
    simpa using this
  subst hk
  have hvw : VR w (FrL Fr mu s.heap (coeIds rt d.t [])) mu2 wv v := hw.2.1
  subst h
  obtain ⟨e1, e2⟩ := mkR_res rt x ots y
  refine ⟨FrL Fr mu s.heap (coeIds rt d.t []), mu2, ?_⟩
  rw [e1, e2, ← asObjs_some ots hh y hy]
  exact ⟨H2.si, by rw [← as_some hx]; exact hvw, by have := hw.2.2; rw [as_some hx] at this; exact this⟩
theorem finD_ok (hT : TabOK P T.tb) {w0 : World} {Fr0 : Nat → Prop} {mu0 : Nat → Loc} {objs : List AObj} (H : Rep (env w0 Fr0 mu0 objs) w Fr mu s a) {fn : Func} {rt : Ty} {ots : List OTy} {r : denR rt ots} (h : finD T fn rt ots objs.length s = some r) :
    ∃ v Fr' mu', (results fn a.tmps).run P w = .ok v w ∧ Post w0 Fr0 mu0 objs ⟨rt, resT rt ots r⟩ (resO rt ots r) v w Fr' mu' := by
  unfold finD at h
  split at h
  · cases h
  rename_i l0 hl0
  obtain ⟨vs, h1, h20⟩ := resD_ok hT H fn.results.toList l0 hl0
  obtain ⟨mu', hmore, h2⟩ := ownOne_ok (tb := T.tb) rt l0 vs s.heap mu H.si h20
  have hval : VR w Fr mu' (oneD (ownOne rt l0 T.tb s.heap).1) (oneV vs) ∧ (oneD (ownOne rt l0 T.tb s.heap).1).t.okN (· < (ownOne rt l0 T.tb s.heap).2.length) := by
    revert h2
    generalize (ownOne rt l0 T.tb s.heap).1 = l
    intro h2
    match l, vs, h2 with
    | [], _, .nil => exact tupD_ok [] [] .nil
    | [d], _, .cons h3 .nil => exact ⟨h3.1, h3.2.1⟩
    | d :: d' :: ds, _, .cons h3 (.cons h4 h5) => exact tupD_ok _ _ (.cons h3 (.cons h4 h5))
  obtain ⟨Fr2, mu2, hp⟩ := finE_ok (More.rep H hmore) hval h
  exact ⟨oneV vs, Fr2, mu2, run_results h1, hp⟩
/-- Arguments in their slots. -/
theorem numD_mem : ∀ (l : List Dyn) (n u : Nat) (d : Dyn), (u, d) ∈ numD n l → n ≤ u ∧ l[u - n]? = some d
  | [], _, _, _, h => by cases h
  | x :: l, n, u, d, h => by
    rcases List.mem_cons.1 h with h | h
    · injection h with h1 h2
      subst h1; subst h2
      exact ⟨Nat.le_refl _, by simp⟩
    · obtain ⟨h1, h2⟩ := numD_mem l (n + 1) u d h
      refine ⟨by omega, ?_⟩
      rw [show u - n = (u - (n + 1)) + 1 by omega]
      simpa using h2
theorem numD_sorted : ∀ (l : List Dyn) (n : Nat), ((numD n l).map (·.1)).Pairwise (· < ·)
  | [], _ => by simp [numD]
  | x :: l, n => by
    simp only [numD, List.map_cons, List.pairwise_cons, List.mem_map]
    refine ⟨?_, numD_sorted l (n + 1)⟩
    rintro a ⟨⟨u, d⟩, hm, rfl⟩
    have := (numD_mem l (n + 1) u d hm).1
    show n < u
    omega
/-- Functions that are told of otherwise than by their code. -/
def PrimsOK (P : Program) (pr : Prims) : Prop := ∀ (f : Nat) (c : AbsFn), pr f = some c → ∀ (args : List Dyn) (objs : List AObj) (rt : Ty) (ots : List OTy) (r : denR rt ots), c f args objs rt ots = some r → Enters P f ∧
  ∀ (w : World) (Fr : Nat → Prop) (mu : Nat → Loc) (vs : List Value), Pre w Fr mu objs args vs →
    Calls P f vs.toArray w fun e w' => ∃ v Fr' mu', e = .returned v ∧ Post w Fr mu objs ⟨rt, resT rt ots r⟩ (resO rt ots r) v w' Fr' mu'
/-- What is asked of a program and of what is told of it. -/
structure Fits (P : Program) (T : Told) (pr : Prims) : Prop where
  mixed : P.follows .mixedOrders = true
  tab : TabOK P T.tb
  names : ∀ (f : Nat) (fn : Func), P.funcs[f]? = some fn → fn.name ≠ "runtime.NumGoroutine"
  prims : PrimsOK P pr
theorem callB_ok {pr : Prims} (hP : Fits P T pr) (hC : Sound P C) {LP : Looper} (hL : ∀ (E : Env) (nt : Nat) (R : Type), LoopOK P E nt R (LP R)) : Sound P (callB P T pr C LP) := by
  intro f args objs rt ots r h
  unfold callB at h
  split at h
  · rename_i c hc
    exact hP.prims f c hc args objs rt ots r h
  · split at h
    · cases h
    rename_i hb
    split at h
    case isFalse => cases h
    rename_i hle
    have hfn : ∃ fn c, P.funcs[f]? = some fn ∧ fn.body = some c := by
      unfold hasBody at hb
      split at hb
      · cases hb
      · rename_i fn hf
        obtain ⟨c, hc⟩ := Option.isSome_iff_exists.1 hb
        exact ⟨fn, c, hf, hc⟩
    obtain ⟨fn, c, hf, hbody⟩ := hfn
    have hfo : funcOf P f = fn := by unfold funcOf; rw [hf]
    have hco : codeOf P f = c := by unfold codeOf; rw [hf]; dsimp only; rw [hbody]
    refine ⟨⟨fn, hf, by rw [hbody]; rfl, hP.names f fn hf⟩, ?_⟩
    intro w Fr mu vs hpre
    refine calls_of_wp hf hbody ?_
    rw [hfo] at hle
    have hsz : (vs.toArray ++ Array.replicate (fn.ntmps - vs.toArray.size) undef).size = fn.ntmps := by
      have := hpre.len
      simp; omega
    have hrep : Rep (env w Fr mu objs) w Fr mu ⟨numD 0 args, objs⟩ { tmps := vs.toArray ++ Array.replicate (fn.ntmps - vs.toArray.size) undef, defers := [] } := by
      refine ⟨⟨Grow.refl _ w, fun _ => id, fun _ => .inl, hpre.frL, hpre.so.hh, hpre.so.obj, hpre.so.nm, hpre.so.sep, ?_, ?_, Nat.le_refl _⟩, ?_, rfl, numD_sorted args 0⟩
      · intro i o hi ho
        obtain ⟨h1, h2⟩ := hpre.so.own i o hi ho
        exact ⟨.inl ⟨i, o, hi, ho, rfl⟩, h1, h2⟩
      · intro i o _ hi
        obtain ⟨t, x⟩ := o
        cases t with
        | gone => trivial
        | box t => rfl
        | row e t f => cases f <;> first | rfl | trivial
      · intro u d hm
        obtain ⟨_, hd⟩ := numD_mem args 0 u d hm
        rw [Nat.sub_zero] at hd
        have hu : u < args.length := (List.getElem?_eq_some_iff.1 hd).1
        have huv : u < vs.length := by rw [← hpre.len]; exact hu
        obtain ⟨h1, h2⟩ := hpre.val u d vs[u] hd (List.getElem?_eq_getElem huv)
        refine ⟨by rw [hsz]; omega, ?_, h2⟩
        have : (vs.toArray ++ Array.replicate (fn.ntmps - vs.toArray.size) undef).getD u undef = vs[u] := by
          simp [Array.getElem?_append, huv]
        rw [this]; exact h1
    unfold bodyF at h
    rw [hfo, hco] at h
    have h : runD T C (LP _) f fn.ntmps objs.length [] c ⟨numD 0 args, objs⟩ (finK T fn rt ots objs.length) = some r := h
    refine runD_ok (E := env w Fr mu objs) (LP := LP _) hP.mixed hP.tab hC (hL _ _ _) c [] r (finK T fn rt ots objs.length) _ ?_ _ _ w Fr mu hrep hsz h
    intro e s' a' w' Fr' mu' hk H' hnt'
    have hfin : (∀ j, e ≠ .exit j) → ∃ v Fr2 mu2, (results fn a'.tmps).run P w' = .ok v w' ∧ Post w Fr mu objs ⟨rt, resT rt ots r⟩ (resO rt ots r) v w' Fr2 mu2 := by
      intro he
      refine finD_ok hP.tab H' (ots := ots) ?_
      cases e with
      | normal => exact hk
      | ret => exact hk
      | exit j => exact absurd rfl (he j)
    cases e with
    | normal =>
      obtain ⟨v, Fr2, mu2, h1, h2⟩ := hfin (by simp)
      exact ⟨H'.df, v, h1, v, Fr2, mu2, rfl, h2⟩
    | ret =>
      obtain ⟨v, Fr2, mu2, h1, h2⟩ := hfin (by simp)
      exact ⟨H'.df, v, h1, v, Fr2, mu2, rfl, h2⟩
    | exit j => cases hk
end
end Go.Abs
