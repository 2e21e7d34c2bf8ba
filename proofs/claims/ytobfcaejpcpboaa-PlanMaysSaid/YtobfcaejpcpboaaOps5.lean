/- The operations on values alone, as the interpreter tells them. No conditions. -/
import Derived.Test.YtobfcaejpcpboaaOps4
import Derived.Laws.StructEq
set_option autoImplicit false
set_option linter.unusedVariables false
namespace Go.Abs

section
variable {P : Program} {T : Told} {E : Env} {w : World} {Fr : Nat → Prop} {mu : Nat → Loc} {s : St} {a : Act}

theorem VR_int {k : IntKind} {n : Int} {v : Value} (h : VR w Fr mu ⟨.int k, n⟩ v) : v = .int k n := by injection (show [v] = [_] from h)
theorem VR_bool {n : Bool} {v : Value} (h : VR w Fr mu ⟨.bool, n⟩ v) : v = .bool n := by injection (show [v] = [_] from h)
theorem VR_str {n : ByteArray} {v : Value} (h : VR w Fr mu ⟨.str, n⟩ v) : v = .string n := by injection (show [v] = [_] from h)
theorem mkVR {d : Dyn} {v : Value} (h : d.t.vk = .one) (hr : Rp w Fr mu d.t d.x [v]) : VR w Fr mu d v := by unfold VR; rw [h]; exact hr
theorem int_ne (x y : Int) : (x != y) = notB (eqI x y) := by unfold notB eqI; show (!(x == y)) = _; congr 1
theorem run_intBin {op : BinOp} {k : IntKind} {x y : Int} {d : Dyn} (h : intBin op k x y = some (true, d)) (hs : op ≠ .shl ∧ op ≠ .shr) (xt : TypeId) :
    ∃ v, (∀ w' : World, (binOp op xt (.int k x) (.int k y)).run P w' = .ok v w') ∧ VR w Fr mu d v ∧ ∀ p, d.t.okN p := by
  cases op <;> simp only [intBin] at h <;> first | (cases h; done) | skip
  all_goals injection h with h
  all_goals injection h with hb h
  all_goals subst h
  all_goals first
    | exact ⟨_, fun w' => by simp [binOp, Op.intArith]; rfl, rfl, fun _ => trivial⟩
    | (have hy : y ≠ 0 := by (simp [notB, eqI] at hb; exact hb)
       exact ⟨_, fun w' => by simp [binOp, Op.intDiv, hy]; rfl, rfl, fun _ => trivial⟩)
    | exact ⟨_, fun w' => by simp [binOp, Op.intBits]; rfl, rfl, fun _ => trivial⟩
    | exact ⟨_, fun w' => by simp [binOp, Op.intCmp]; rfl, rfl, fun _ => trivial⟩
    | exact ⟨_, fun w' => by simp only [binOp, Op.intCmp]; simp; rfl, by rw [int_ne]; exact rfl, fun _ => trivial⟩
    | exact absurd rfl hs.1
    | exact absurd rfl hs.2
theorem run_shiftBin {op : BinOp} {k j : IntKind} {x y : Int} {d : Dyn} (hs : op = .shl ∨ op = .shr) (h : shiftBin op k x y = some (true, d)) (xt : TypeId) :
    ∃ v, (∀ w' : World, (binOp op xt (.int k x) (.int j y)).run P w' = .ok v w') ∧ VR w Fr mu d v ∧ ∀ p, d.t.okN p := by
  rcases hs with rfl | rfl
  all_goals simp only [shiftBin] at h
  all_goals injection h with h
  all_goals injection h with hb h
  all_goals subst h
  all_goals have hy : ¬ y < 0 := by (simp [leI] at hb; omega)
  all_goals exact ⟨_, fun w' => by simp [binOp, Op.shift, hy]; rfl, rfl, fun _ => trivial⟩
theorem run_strBin {op : BinOp} {x y : ByteArray} {d : Dyn} (h : strBin op x y = some (true, d)) (xt : TypeId) :
    ∃ v, (∀ w' : World, (binOp op xt (.string x) (.string y)).run P w' = .ok v w') ∧ VR w Fr mu d v ∧ ∀ p, d.t.okN p := by
  cases op <;> simp only [strBin] at h <;> first | (cases h; done) | skip
  all_goals injection h with h
  all_goals injection h with hb h
  all_goals subst h
  · have hf : ¬ ((x.size + y.size : Nat) : Int) > IntKind.i64.max := by
      simp only [fitS, decide_eq_true_eq] at hb
      have : IntKind.i64.max = 9223372036854775807 := by decide
      omega
    exact ⟨_, fun w' => by simp only [binOp, Op.stringOp]; rw [if_neg hf]; rfl, rfl, fun _ => trivial⟩
  · exact ⟨_, fun w' => by simp only [binOp, Op.stringOp]; rfl, rfl, fun _ => trivial⟩
  · exact ⟨_, fun w' => by simp only [binOp, Op.stringOp]; rfl, rfl, fun _ => trivial⟩
/-- Scalars held against each other. -/
theorem run_eqD {t : Nat} {ti : TI} (hg : Good P t ti) {u : Ty} {x : den u} {y : Dyn} {b : Bool} (hs : ti.d.scalar u = true) (h : eqD u x y = some b) {v v' : Value} (hv : Rp w Fr mu u x [v]) (hv' : Rp w Fr mu y.t y.x [v']) (n : Nat) (w' : World) :
    (Op.equalIn (n + 1) t v v').run P w' = .ok b w' := by
  have hu := hg.und
  obtain ⟨yt, yx⟩ := y
  unfold TD.scalar at hs
  split at hs
  · rename_i hd
    rw [hd] at hu
    cases yt <;> simp only [eqD] at h <;> first | (cases h; done) | skip
    injection h with h
    injection hv with hv; injection hv' with hv'
    subst hv; subst hv'; subst h
    exact run_equalIn_bool' w' n t _ _ hu
  · rename_i k j hd
    rw [hd] at hu
    cases yt <;> simp only [eqD] at h <;> first | (cases h; done) | skip
    split at h
    · rename_i hk
      injection h with h
      injection hv with hv; injection hv' with hv'
      subst hv; subst hv'; subst h; subst hk
      exact run_equalIn_int w' n t _ _ _ _ hu
    · cases h
  · rename_i hd
    rw [hd] at hu
    cases yt <;> simp only [eqD] at h <;> first | (cases h; done) | skip
    injection h with h
    injection hv with hv; injection hv' with hv'
    subst hv; subst hv'; subst h
    exact run_equalIn_string w' n t _ _ hu
  · cases hs
theorem scalar_width {d : TD} {t : Ty} (h : d.scalar t = true) : t.width = 1 ∧ t.cel = true ∧ d.agg = false := by
  unfold TD.scalar at h
  split at h <;> first | exact ⟨rfl, rfl, by simp_all [TD.agg]⟩ | cases h
theorem eqD_scalar {d : TD} {u : Ty} {x : den u} {y : Dyn} {b : Bool} (hs : d.scalar u = true) (h : eqD u x y = some b) : d.scalar y.t = true ∨ ∃ k, u = .int k ∧ y.t = .int k := by
  obtain ⟨yt, yx⟩ := y
  unfold TD.scalar at hs
  split at hs
  · cases yt <;> simp only [eqD] at h <;> first | (cases h; done) | exact .inl rfl
  · cases yt <;> simp only [eqD] at h <;> first | (cases h; done) | skip
    split at h
    · rename_i hk; exact .inr ⟨_, rfl, by rw [hk]⟩
    · cases h
  · cases yt <;> simp only [eqD] at h <;> first | (cases h; done) | exact .inl rfl
  · cases hs
theorem run_eqC {tb : Tabs} (hT : TabOK P tb) (n : Nat) (cs cs' : List Value) (w' : World) : ∀ (F : List Field) (pre : List Value) (pre' : List Value) (t : Ty) (x : den t) (y : Dyn) (l l' : List Value) (b : Bool),
    eqC tb (F.map fun g => (g.offset, g.type)) pre.length t x y = some b → pre.length = pre'.length → cs = pre ++ l → cs' = pre' ++ l' → Rp w Fr mu t x l → Rp w Fr mu y.t y.x l' → (∀ f ∈ F, f.name ≠ "_") →
    (Op.eqFields (n + 1) cs.toArray cs'.toArray F).run P w' = .ok b w'
  | [], pre, pre', t, x, y, l, l', b, h, _, _, _, _, _, _ => by
    obtain ⟨yt, yx⟩ := y
    cases t <;> cases yt <;> simp only [List.map_nil, eqC] at h <;> first | (cases h; done) | skip
    injection h with h
    subst h
    simp [Op.eqFields]
  | f :: F, pre, pre', t, x, y, l, l', b, h, hp, e, e', hr, hr', hn => by
    obtain ⟨yt, yx⟩ := y
    cases t <;> cases yt <;> simp only [List.map_cons, eqC] at h <;> first | (cases h; done) | skip
    rename_i ta tb' tc td
    split at h
    · rename_i ti hti
      split at h
      · rename_i hc
        split at h
        · rename_i p hpq
          split at h
          · rename_i q hq
            injection h with h
            obtain ⟨l1, l2, el, ra, rb⟩ := hr
            obtain ⟨l1', l2', el', ra', rb'⟩ := hr'
            obtain ⟨hw, hcel, hag⟩ := scalar_width hc.2
            have hl1 : l1.length = 1 := by rw [Rp_len _ _ _ hcel ra, hw]
            have hw' : tc.width = 1 ∧ tc.cel = true := by
              rcases eqD_scalar hc.2 hpq with h1 | ⟨k, _, h1⟩
              · exact ⟨(scalar_width h1).1, (scalar_width h1).2.1⟩
              · have h1 : tc = .int k := h1
                rw [h1]; exact ⟨rfl, rfl⟩
            have hl1' : l1'.length = 1 := by rw [Rp_len _ _ _ hw'.2 ra', hw'.1]
            obtain ⟨v, rfl⟩ : ∃ v, l1 = [v] := by match l1, hl1 with | [v], _ => exact ⟨v, rfl⟩
            obtain ⟨v', rfl⟩ : ∃ v, l1' = [v] := by match l1', hl1' with | [v], _ => exact ⟨v, rfl⟩
            have hg := hT _ _ hti
            have hagg := hg.agg w'
            rw [hag] at hagg
            have hoff : f.offset = pre.length := hc.1
            have p1 : (part f.type cs.toArray f.offset).run P w' = .ok v w' := by
              simp [part, hagg, hoff, e, el]
            have p2 : (part f.type cs'.toArray f.offset).run P w' = .ok v' w' := by
              simp [part, hagg, hoff, hp, e', el']
            have heq := run_eqD (w := w) (Fr := Fr) (mu := mu) hg hc.2 hpq ra ra' n w'
            have ih := run_eqC hT n cs cs' w' F (pre ++ [v]) (pre' ++ [v']) tb' x.2 ⟨td, yx.2⟩ l2 l2' q (by rw [List.length_append]; exact hq) (by simp [hp]) (by rw [e, el]; simp) (by rw [e', el']; simp) rb rb' (fun f hf => hn f (List.mem_cons_of_mem _ hf))
            have hname : f.name ≠ "_" := hn f (by simp)
            subst h
            cases p with
            | true => simp [Op.eqFields, hname, p1, p2, heq, ih, andB]
            | false => simp [Op.eqFields, hname, p1, p2, heq, andB]
          · cases h
        · cases h
      · cases h
    · cases h
/-- Two pointers, one of which is nil. -/
theorem run_equalIn_ptr {t e : TypeId} (hu : P.underlying t = some (.pointer e)) (n : Nat) : ∀ {p q : Option Addr}, (p = none ∨ q = none) → (Op.equalIn (n + 1) t (.pointer p) (.pointer q)).run P w = .ok (p.isNone && q.isNone) w := by
  intro p q h
  cases p <;> cases q <;> simp [Op.equalIn, run_underlying hu] at h ⊢
theorem run_eqAny {tb : Tabs} (hT : TabOK P tb) {xt : Nat} {x y : Dyn} {b : Bool} (h : eqAny tb xt x y = some b) {v v' : Value} (hv : VR w Fr mu x v) (hv' : VR w Fr mu y v') (op : BinOp) (hop : op = .eql ∨ op = .neq) (ox oy : Operand) :
    (∀ w' : World, (eqGuard op xt ox oy v v').run P w' = .ok () w') ∧ (∀ w' : World, (Op.equal xt v v').run P w' = .ok b w') ∧ (∀ s, v ≠ .string s) ∧ (∀ k n, v ≠ .int k n) ∧ (∀ k n, v ≠ .float k n) ∧ (∀ k m n, v ≠ .complex k m n) := by
  unfold eqAny at h
  split at h
  · rename_i fs siz byt zer ty hti
    have hg := hT _ _ hti
    obtain ⟨F, hu, hF⟩ := hg.und
    obtain ⟨h1, h2, h3⟩ := hg.eqs rfl
    obtain ⟨xt', xx⟩ := x
    obtain ⟨yt', yx⟩ := y
    have hFl : F.toList.map (fun g => (g.offset, g.type)) = fs := hF.symm
    have hxk : xt'.vk = .agg ∧ yt'.vk = .agg := by
      rw [← hFl] at h
      cases hFc : F.toList with
      | nil => rw [hFc] at h; cases xt' <;> cases yt' <;> simp only [List.map_nil, eqC] at h <;> first | (cases h; done) | exact ⟨rfl, rfl⟩
      | cons f F' => rw [hFc] at h; cases xt' <;> cases yt' <;> simp only [List.map_cons, eqC] at h <;> first | (cases h; done) | exact ⟨rfl, rfl⟩
    unfold VR at hv hv'
    rw [show (⟨xt', xx⟩ : Dyn).t.vk = .agg from hxk.1] at hv
    rw [show (⟨yt', yx⟩ : Dyn).t.vk = .agg from hxk.2] at hv'
    obtain ⟨_, cs, rfl, hr⟩ := hv
    obtain ⟨_, cs', rfl, hr'⟩ := hv'
    have hfo : P.fieldsOf xt = F := by simp [Program.fieldsOf, hu]
    have := fun w' => run_eqC (w := w) (Fr := Fr) (mu := mu) hT 9998 cs cs' w' F.toList [] [] xt' xx ⟨yt', yx⟩ cs cs' b (by rw [hFl]; exact h) rfl rfl rfl hr hr' (h3 F hu)
    refine ⟨fun w' => run_eqGuard_agg w' op xt ox oy _ _ h2, fun w' => ?_, by simp, by simp, by simp, by simp⟩
    show (Op.equalIn (9999 + 1) xt _ _).run P w' = _
    rw [run_equalIn_struct w' 9999 xt _ _ (by rw [hfo]; exact hu) h1, hfo]
    exact this w'
  · rename_i siz byt zer ty hti
    have hu := (hT _ _ hti).und
    split at h
    · injection h with h
      have := VR_bool hv
      have := VR_bool hv'
      subst_vars
      refine ⟨fun w' => by rcases hop with rfl | rfl <;> simp [eqGuard], fun w' => run_equalIn_bool' w' 9999 xt _ _ hu, by simp, by simp, by simp, by simp⟩
    · cases h
  · rename_i siz byt zer ty hti
    obtain ⟨e, hu⟩ := (hT _ _ hti).und
    split at h <;> first | (cases h; done) | skip
    all_goals
      injection h with h
      injection (show [v] = [_] from hv) with hv
      injection (show [v'] = [_] from hv') with hv'
      subst hv; subst hv'; subst h
      refine ⟨fun w' => by rcases hop with rfl | rfl <;> simp [eqGuard], fun w' => ?_, by simp, by simp, by simp, by simp⟩
      exact run_equalIn_ptr hu 9999 (by simp)
  · cases h
theorem StepOK.of {o : Oper} {d : Dyn} {v : Value} (H : Rep E w Fr mu s a) {e : Sem Value} (hx : (execOp a.eval o).run P w = (e.run P w).andThen fun v w => .ok (.value v) w) (hr : e.run P w = .ok v w) (hv : VR w Fr mu d v) (hn : d.t.okN (· < s.heap.length)) : StepOK P E w Fr mu s a o d s :=
  .pure H (by rw [hx, hr]; rfl) hv hn
theorem binD_any {tb : Tabs} {op : BinOp} {xt : Nat} {x y : Dyn} {b : Bool} {d : Dyn} (h : binD tb op xt x y = some (b, d)) :
    (∃ k p j q, x = ⟨.int k, p⟩ ∧ y = ⟨.int j, q⟩ ∧ ((op = .shl ∨ op = .shr) ∧ shiftBin op k p q = some (b, d) ∨ (op ≠ .shl ∧ op ≠ .shr) ∧ k = j ∧ intBin op k p q = some (b, d))) ∨
    (∃ p q, x = ⟨.str, p⟩ ∧ y = ⟨.str, q⟩ ∧ strBin op p q = some (b, d)) ∨
    (∃ r, eqAny tb xt x y = some r ∧ b = true ∧ ((op = .eql ∧ d = ⟨.bool, r⟩) ∨ (op = .neq ∧ d = ⟨.bool, notB r⟩))) := by
  unfold binD at h
  split at h
  · rename_i k p j q
    split at h
    · exact .inl ⟨k, p, j, q, rfl, rfl, .inl ⟨.inl rfl, h⟩⟩
    · exact .inl ⟨k, p, j, q, rfl, rfl, .inl ⟨.inr rfl, h⟩⟩
    · rename_i h1 h2
      split at h
      · rename_i hk
        exact .inl ⟨k, p, j, q, rfl, rfl, .inr ⟨⟨h1, h2⟩, hk, h⟩⟩
      · cases h
  · rename_i p q
    exact .inr (.inl ⟨p, q, rfl, rfl, h⟩)
  · split at h
    · split at h
      · rename_i r hr
        injection h with h
        injection h with h1 h2
        exact .inr (.inr ⟨r, hr, h1.symm, .inl ⟨rfl, h2.symm⟩⟩)
      · cases h
    · split at h
      · rename_i r hr
        injection h with h
        injection h with h1 h2
        exact .inr (.inr ⟨r, hr, h1.symm, .inr ⟨rfl, h2.symm⟩⟩)
      · cases h
    · cases h
theorem eqGuard_plain {op : BinOp} {t : TypeId} {x y : Operand} {v v' : Value} (h1 : ∀ s, v ≠ .agg s) (h2 : v ≠ .nilIface) : (eqGuard op t x y v v').run P w = .ok () w := by
  unfold eqGuard
  cases op <;> simp <;> cases v <;> first | (exact absurd rfl h2) | (exact absurd rfl (h1 _)) | rfl
theorem binOp_eql {t : TypeId} {v v' : Value} (h1 : ∀ s, v ≠ .string s) (h2 : ∀ k n, v ≠ .int k n) (h3 : ∀ k n, v ≠ .float k n) (h4 : ∀ k m n, v ≠ .complex k m n) :
    binOp .eql t v v' = (do Pure.pure (.bool (← Op.equal t v v')) : Sem Value) := by
  cases v <;> first | (exact absurd rfl (h1 _)) | (exact absurd rfl (h2 _ _)) | (exact absurd rfl (h3 _ _)) | (exact absurd rfl (h4 _ _ _)) | rfl
theorem binOp_neq {t : TypeId} {v v' : Value} (h1 : ∀ s, v ≠ .string s) (h2 : ∀ k n, v ≠ .int k n) (h3 : ∀ k n, v ≠ .float k n) (h4 : ∀ k m n, v ≠ .complex k m n) :
    binOp .neq t v v' = (do Pure.pure (.bool (!(← Op.equal t v v'))) : Sem Value) := by
  cases v <;> first | (exact absurd rfl (h1 _)) | (exact absurd rfl (h2 _ _)) | (exact absurd rfl (h3 _ _)) | (exact absurd rfl (h4 _ _ _)) | rfl
theorem ok_binOp (hT : TabOK P T.tb) (H : Rep E w Fr mu s a) {fn : Nat} {o : Oper} {op : BinOp} {xt yt : Nat} {x y : Operand} (ho : o.op = .binOp op xt x y yt) {d : Dyn} {s' : St} (h : opP T fn o s = some (true, d, s')) : StepQ P w Fr mu s a o d s' := by
  unfold opP at h
  rw [ho] at h
  dsimp only at h
  split at h
  case h_2 => cases h
  rename_i b d' hb
  injection h with h
  injection h with h1 h
  injection h with h2 h3
  subst h1; subst h2; subst h3
  have hx := (H.op x).1
  have hy := (H.op y).1
  have key : ∀ v, (∀ w' : World, (eqGuard op xt x y (a.eval x) (a.eval y)).run P w' = .ok () w') → (∀ w' : World, (binOp op xt (a.eval x) (a.eval y)).run P w' = .ok v w') → ∀ w' : World, (execOp a.eval o).run P w' = .ok (.value v) w' := by
    intro v h1 h2 w'
    unfold execOp
    simp [ho, h1 w', h2 w']
  rcases binD_any hb with ⟨k, p, j, q, ex, ey, hc⟩ | ⟨p, q, ex, ey, hc⟩ | ⟨r, hr, _, hc⟩
  · rw [ex] at hx
    rw [ey] at hy
    have hx := VR_int hx
    have hy := VR_int hy
    rw [hx, hy] at key
    have hg := fun w' => eqGuard_plain (P := P) (w := w') (op := op) (t := xt) (x := x) (y := y) (v := .int k p) (v' := .int j q) (by simp) (by simp)
    rcases hc with ⟨hs, hc⟩ | ⟨hs, rfl, hc⟩
    · obtain ⟨v, e1, e2, e3⟩ := run_shiftBin (P := P) (w := w) (Fr := Fr) (mu := mu) (j := j) hs hc xt
      exact .mk (key v hg e1) e2 (e3 _)
    · obtain ⟨v, e1, e2, e3⟩ := run_intBin (P := P) (w := w) (Fr := Fr) (mu := mu) hc hs xt
      exact .mk (key v hg e1) e2 (e3 _)
  · rw [ex] at hx
    rw [ey] at hy
    have hx := VR_str hx
    have hy := VR_str hy
    rw [hx, hy] at key
    have hg := fun w' => eqGuard_plain (P := P) (w := w') (op := op) (t := xt) (x := x) (y := y) (v := .string p) (v' := .string q) (by simp) (by simp)
    obtain ⟨v, e1, e2, e3⟩ := run_strBin (P := P) (w := w) (Fr := Fr) (mu := mu) hc xt
    exact .mk (key v hg e1) e2 (e3 _)
  · have hop : op = .eql ∨ op = .neq := hc.imp (·.1) (·.1)
    obtain ⟨g1, g2, g3, g4, g5, g6⟩ := run_eqAny (w := w) (Fr := Fr) (mu := mu) hT hr hx hy op hop x y
    rcases hc with ⟨rfl, rfl⟩ | ⟨rfl, rfl⟩
    · exact .mk (key (.bool r) g1 (fun w' => by rw [binOp_eql g3 g4 g5 g6]; simp [g2 w'])) rfl trivial
    · exact .mk (key (.bool (notB r)) g1 (fun w' => by rw [binOp_neq g3 g4 g5 g6]; simp only [Sem.run_bind, g2 w', Result.andThen_ok, Sem.run_pure]; rfl)) rfl trivial

theorem ok_unOp (H : Rep E w Fr mu s a) {fn : Nat} {o : Oper} {op : UnOp} {xt : Nat} {x : Operand} (ho : o.op = .unOp op xt x) {d : Dyn} {s' : St} (h : opP T fn o s = some (true, d, s')) : StepQ P w Fr mu s a o d s' := by
  unfold opP at h
  rw [ho] at h
  dsimp only at h
  split at h
  case h_2 => cases h
  rename_i d' hu
  injection h with h
  injection h with h1 h
  injection h with h2 h3
  subst h2; subst h3
  have hx := (H.op x).1
  unfold unD at hu
  split at hu
  · rename_i k n hq
    injection hu with hu
    subst hu
    rw [hq] at hx
    exact .mk (v := .int k (subI k 0 n)) (fun w' => by unfold execOp; simp only [ho, VR_int hx, Op.unary, Op.intArith, Sem.run_bind, Sem.run_pure, Result.andThen_ok]; rfl) rfl trivial
  · rename_i b hq
    injection hu with hu
    subst hu
    rw [hq] at hx
    exact .mk (v := .bool (notB b)) (fun w' => by unfold execOp; simp only [ho, VR_bool hx, Op.unary, Sem.run_bind, Sem.run_pure, Result.andThen_ok]; rfl) rfl trivial
  · cases hu
theorem ok_convert (hT : TabOK P T.tb) (H : Rep E w Fr mu s a) {fn : Nat} {o : Oper} {src dst : Nat} {x : Operand} (ho : o.op = .convert src dst x) {d : Dyn} {s' : St} (h : opP T fn o s = some (true, d, s')) : StepQ P w Fr mu s a o d s' := by
  unfold opP at h
  rw [ho] at h
  dsimp only at h
  split at h
  case h_2 => cases h
  rename_i h1 h2 hq
  injection h with h
  injection h with e1 h
  injection h with e2 e3
  subst e2; subst e3
  have hx := (H.op x).1
  rw [hq] at hx
  have u1 := (hT _ _ h1).und
  have u2 := (hT _ _ h2).und
  dsimp only at u1 u2
  exact .mk (fun w' => by unfold execOp; simp only [ho, VR_int hx, convert, Sem.run_bind, run_underlying u1, run_underlying u2, Result.andThen_ok, Conv.intToInt]; rfl) rfl trivial
theorem ok_nilCheck (H : Rep E w Fr mu s a) {fn : Nat} {o : Oper} {x : Operand} (ho : o.op = .nilCheck x) {d : Dyn} {s' : St} (h : opP T fn o s = some (true, d, s')) : StepQ P w Fr mu s a o d s' := by
  unfold opP at h
  rw [ho] at h
  dsimp only at h
  have hx := (H.op x).1
  have hn := (H.op x).2
  have key : ∀ ad, a.eval x = .pointer (some ad) → ∀ w' : World, (execOp a.eval o).run P w' = .ok (.value (a.eval x)) w' := by
    intro ad e w'
    unfold execOp
    simp [ho, e]
  split at h <;> first | (cases h; done) | skip
  all_goals
    rename_i hq
    injection h with h
    injection h with _ h
    injection h with h2 h3
    subst h2; subst h3
    rw [hq] at hx hn
    have hk : ∃ ad, a.eval x = .pointer (some ad) := by
      first
        | exact ⟨_, (List.cons.inj (show [a.eval x] = [_] from hx)).1⟩
        | (obtain ⟨_, b, o', cells, e, _⟩ := hx; exact ⟨_, (List.cons.inj e).1⟩)
        | (obtain ⟨b, m, c, _, _, _, e⟩ := hx; exact ⟨_, (List.cons.inj e).1⟩)
        | exact ⟨_, (List.cons.inj hx.2).1⟩
    obtain ⟨ad, e⟩ := hk
    exact .mk (key ad e) hx hn
end
end Go.Abs
