/- What the operations do, as the interpreter tells it. No conditions. -/
import Derived.Test.YtobfcaejpcpboaaCoe
set_option autoImplicit false
set_option linter.unusedVariables false
namespace Go.Abs

def aggDesc : TypeDesc → Bool
  | .struct _ => true
  | .array _ _ => true
  | _ => false
def TD.agg : TD → Bool
  | .struct _ => true
  | .array _ _ => true
  | _ => false
/-- A row of the table says what the program's type is. -/
structure Good (P : Program) (t : Nat) (ti : TI) : Prop where
  eqs : ti.eqs = true → P.stoodInHeld t = false ∧ P.eqGuardType P.depth t = false ∧ ∀ F : Array Field, P.underlying t = some (.struct F) → ∀ f ∈ F.toList, f.name ≠ "_"
  info : ∃ i, P.info? t = some i ∧ i.size = ti.siz ∧ i.bytes = ti.byt ∧
    (ti.zer.t.alive = true → ∃ z, i.zero = some z ∧ z.cells.size = ti.siz ∧ (∀ p, ti.zer.t.okN p) ∧ ∀ w Fr mu, VR w Fr mu ti.zer z)
  und : match ti.d with
    | .int k => P.underlying t = some (.int k)
    | .str => P.underlying t = some .string
    | .bool => P.underlying t = some .bool
    | .slice e => P.underlying t = some (.slice e)
    | .struct fs => ∃ F : Array Field, P.underlying t = some (.struct F) ∧ fs = F.toList.map (fun g => (g.offset, g.type))
    | .array n e => P.underlying t = some (.array n e)
    | .pointer => ∃ e, P.underlying t = some (.pointer e)
    | .other => ∃ d, P.underlying t = some d ∧ aggDesc d = false
def TabOK (P : Program) (tb : Tabs) : Prop := ∀ t ti, look tb t = some ti → Good P t ti

theorem run_isAgg {P : Program} {t : TypeId} {d : TypeDesc} (w : World) (h : P.underlying t = some d) : (isAgg t).run P w = .ok (aggDesc d) w := by
  unfold isAgg
  rw [Sem.run_bind, run_underlying h w]
  cases d <;> rfl
theorem run_sizeOf {P : Program} {t : TypeId} {i : TypeInfo} (w : World) (h : P.info? t = some i) : (sizeOf t).run P w = .ok i.size w := by
  simp [sizeOf, typeInfo, h]
theorem Good.size {P : Program} {t : Nat} {ti : TI} (h : Good P t ti) (w : World) : (sizeOf t).run P w = .ok ti.siz w := by
  obtain ⟨i, hi, hs, _⟩ := h.info
  rw [run_sizeOf w hi, hs]
theorem Good.agg {P : Program} {t : Nat} {ti : TI} (h : Good P t ti) (w : World) : (isAgg t).run P w = .ok ti.d.agg w := by
  have hu := h.und
  revert hu
  cases ti.d <;> intro hu
  case other => obtain ⟨d, hd, e⟩ := hu; rw [run_isAgg w hd, e]; rfl
  case struct fs => obtain ⟨F, hd, e⟩ := hu; rw [run_isAgg w hd]; rfl
  case pointer => obtain ⟨e, hd⟩ := hu; rw [run_isAgg w hd]; rfl
  all_goals (rw [run_isAgg w hu]; rfl)

section
variable {P : Program} {E : Env} {w : World} {Fr : Nat → Prop} {mu : Nat → Loc} {s : St} {a : Act}
/-- Blocks that no operation turns but a store: of lists for ever, and of variables. -/
def Safe (Fr : Nat → Prop) (mu : Nat → Loc) (h : List AObj) (b : Nat) : Prop := Fr b ∨ ∃ (m : Nat) (t : Ty) (x : den t), h[m]? = some (⟨.box t, x⟩ : AObj) ∧ b = (mu m).loc
structure Kept (g : Bool) (w : World) (Fr : Nat → Prop) (mu : Nat → Loc) (h : List AObj) (w' : World) (Fr' : Nat → Prop) (mu' : Nat → Loc) (h' : List AObj) : Prop where
  safe : ∀ b, Safe Fr mu h b → Safe Fr' mu' h' b
  same : g = true → ∀ b, Safe Fr mu h b → w'.heap[b]? = w.heap[b]?
theorem Kept.refl {g : Bool} {h : List AObj} : Kept g w Fr mu h w Fr mu h := ⟨fun _ => id, fun _ _ _ => rfl⟩
theorem Kept.trans {g : Bool} {h h' h'' : List AObj} {w' w'' : World} {Fr' Fr'' : Nat → Prop} {mu' mu'' : Nat → Loc} (k : Kept g w Fr mu h w' Fr' mu' h') (k' : Kept g w' Fr' mu' h' w'' Fr'' mu'' h'') : Kept g w Fr mu h w'' Fr'' mu'' h'' :=
  ⟨fun b hb => k'.safe b (k.safe b hb), fun hg b hb => (k'.same hg b (k.safe b hb)).trans (k.same hg b hb)⟩
theorem Kept.weak {g : Bool} {h h' : List AObj} {w' : World} {Fr' : Nat → Prop} {mu' : Nat → Loc} (k : Kept true w Fr mu h w' Fr' mu' h') : Kept g w Fr mu h w' Fr' mu' h' := ⟨k.safe, fun _ => k.same rfl⟩
/-- An operation that comes to its end, with a value and a state. -/
def StepOK (P : Program) (E : Env) (w : World) (Fr : Nat → Prop) (mu : Nat → Loc) (s : St) (a : Act) (o : Oper) (d : Dyn) (s' : St) : Prop :=
  ∃ n v w' Fr' mu', (execOp a.eval o).run P w = .ok n w' ∧ (n = .value v ∨ (n = .skip ∧ v = undef)) ∧ VR w' Fr' mu' d v ∧ d.t.okN (· < s'.heap.length) ∧ Rep E w' Fr' mu' s' a ∧ Kept (!isStore o.op) w Fr mu s.heap w' Fr' mu' s'.heap
theorem StepOK.pure {o : Oper} {d : Dyn} {v : Value} (H : Rep E w Fr mu s a) (hr : (execOp a.eval o).run P w = .ok (.value v) w) (hv : VR w Fr mu d v) (hn : d.t.okN (· < s.heap.length)) : StepOK P E w Fr mu s a o d s :=
  ⟨_, v, w, Fr, mu, hr, .inl rfl, hv, hn, H, Kept.refl⟩

/-- An operation on values alone: it yields the same whatever memory is. -/
def StepQ (P : Program) (w : World) (Fr : Nat → Prop) (mu : Nat → Loc) (s : St) (a : Act) (o : Oper) (d : Dyn) (s' : St) : Prop :=
  s' = s ∧ ∃ v, VR w Fr mu d v ∧ d.t.okN (· < s.heap.length) ∧ ∀ w' : World, (execOp a.eval o).run P w' = .ok (.value v) w'
theorem StepQ.ok {o : Oper} {d : Dyn} {s' : St} (H : Rep E w Fr mu s a) (h : StepQ P w Fr mu s a o d s') : StepOK P E w Fr mu s a o d s' := by
  obtain ⟨rfl, v, h1, h2, h3⟩ := h
  exact .pure H (h3 w) h1 h2
theorem StepQ.mk {o : Oper} {d : Dyn} {v : Value} (hr : ∀ w' : World, (execOp a.eval o).run P w' = .ok (.value v) w') (hv : VR w Fr mu d v) (hn : d.t.okN (· < s.heap.length)) : StepQ P w Fr mu s a o d s :=
  ⟨rfl, v, hv, hn, hr⟩

/-- A read of what no operation turns but a store. -/
def StepL (P : Program) (w : World) (Fr : Nat → Prop) (mu : Nat → Loc) (s : St) (a : Act) (o : Oper) (d : Dyn) (s' : St) : Prop :=
  s' = s ∧ ∃ v, VR w Fr mu d v ∧ d.t.okN (· < s.heap.length) ∧ ∀ w' : World, (∀ b, Safe Fr mu s.heap b → w'.heap[b]? = w.heap[b]?) → (execOp a.eval o).run P w' = .ok (.value v) w'
theorem StepL.ok {o : Oper} {d : Dyn} {s' : St} (H : Rep E w Fr mu s a) (h : StepL P w Fr mu s a o d s') : StepOK P E w Fr mu s a o d s' := by
  obtain ⟨rfl, v, h1, h2, h3⟩ := h
  exact .pure H (h3 w fun _ _ => rfl) h1 h2
theorem StepL.mk {o : Oper} {d : Dyn} {v : Value} (hr : ∀ w' : World, (∀ b, Safe Fr mu s.heap b → w'.heap[b]? = w.heap[b]?) → (execOp a.eval o).run P w' = .ok (.value v) w') (hv : VR w Fr mu d v) (hn : d.t.okN (· < s.heap.length)) : StepL P w Fr mu s a o d s :=
  ⟨rfl, v, hv, hn, hr⟩

theorem ok_move {o : Oper} {x : Operand} (ho : o.op = .move x ∨ o.op = .assign x) (H : Rep E w Fr mu s a) : StepQ P w Fr mu s a o (s.get x) s :=
  .mk (v := a.eval x) (fun w' => by unfold execOp; rcases ho with ho | ho <;> simp [ho]) (H.op x).1 (H.op x).2

/-- The cells of a variable from a place on, as the value of a type. -/
theorem run_loadVar {t : Nat} {ti : TI} (hg : Good P t ti) {b o : Nat} {d : Dyn} {l : List Value} {p : Nat → Prop} (hd : CD w Fr mu p d l) (hf : ti.fits d.t = true) :
    ∃ v, (∀ w' : World, At w' b o l → (loadVar t ⟨b, o, none⟩).run P w' = .ok v w') ∧ VR w Fr mu d v := by
  have hagg := hg.agg
  have hsz := hg.size
  have hadd : ∀ j, (⟨b, o, none⟩ : Addr).add j = ⟨b, o + j, none⟩ := by intro j; unfold Addr.add; split <;> simp_all
  have many : l.length = ti.siz → d.t.vk = .agg → ti.d.agg = true → ∃ v, (∀ w' : World, At w' b o l → (loadVar t ⟨b, o, none⟩).run P w' = .ok v w') ∧ VR w Fr mu d v := by
    intro hl hk ha
    rw [ha] at hagg
    refine ⟨.agg l.toArray, fun w' hat => ?_, ?_⟩
    · have hc := run_loadCells_list (P := P) w' ⟨b, o, none⟩ l (fun j v hv => by rw [hadd]; exact hat j v hv)
      simp [loadVar, hagg, hsz, ← hl, hc]
    unfold VR
    rw [hk]
    exact ⟨hd.cel, l, rfl, hd.rp⟩
  have one : d.t.vk = .one → ti.d.agg = false → ∃ v, (∀ w' : World, At w' b o l → (loadVar t ⟨b, o, none⟩).run P w' = .ok v w') ∧ VR w Fr mu d v := by
    intro hk ha
    rw [ha] at hagg
    have hl : l.length = 1 := by
      rw [hd.len]
      revert hk
      cases d.t <;> first | (intro h; rfl) | (intro h; cases h)
    obtain ⟨v, rfl⟩ : ∃ v, l = [v] := by
      match l, hl with
      | [v], _ => exact ⟨v, rfl⟩
    refine ⟨v, fun w' hat => ?_, ?_⟩
    · have h0 := hat 0 v rfl
      simp [loadVar, hagg, h0, show (⟨b, o, none⟩ : Addr) = ⟨b, o + 0, none⟩ from rfl]
    · unfold VR; rw [hk]; exact hd.rp
  unfold TI.fits at hf
  cases hdd : ti.d
  case struct fs =>
    rw [hdd] at hf
    simp only [Bool.and_eq_true, beq_iff_eq] at hf
    refine many (by rw [hd.len, hf.2]) ?_ (by rw [hdd]; rfl)
    revert hf
    cases d.t <;> first | (intro h; rfl) | (intro h; cases h.1)
  case array n e =>
    rw [hdd] at hf
    simp only [Bool.and_eq_true, beq_iff_eq] at hf
    refine many (by rw [hd.len, hf.2]) ?_ (by rw [hdd]; rfl)
    revert hf
    cases d.t <;> first | (intro h; rfl) | (intro h; cases h.1)
  all_goals
    rw [hdd] at hf
    refine one ?_ (by rw [hdd]; rfl)
    revert hf
    cases d.t.vk <;> first | (intro h; rfl) | (intro h; cases h)
theorem fits_alive {ti : TI} {t : Ty} (h : ti.fits t = true) : t.alive = true := by
  unfold TI.fits at h
  cases t <;> first | rfl | (cases hd : ti.d <;> rw [hd] at h <;> simp [Ty.chain, Ty.vk] at h)
theorem fits_chain {ti : TI} {t : Ty} (h : ti.fits t = true) (hs : ti.st = true) : t.chain = true ∧ t.width = ti.siz := by
  unfold TI.fits at h
  unfold TI.st at hs
  revert h hs
  cases ti.d <;> intro h hs
  case struct => simp only [Bool.and_eq_true, beq_iff_eq] at h; exact h
  all_goals cases hs
/-- A part of a variable of so many cells is read. -/
theorem run_loadPart {t : Nat} {ti : TI} (hg : Good P t ti) {b o off : Nat} {d : Dyn} {l : List Value} {p : Nat → Prop} (hd : CD w Fr mu p d l) (hf : ti.fits (d.part off ti.siz ti.st).t = true) (hz : 0 < ti.siz ∨ ti.st = false) :
    ∃ v, (∀ w' : World, At w' b o l → (loadVar t ⟨b, o + off, none⟩).run P w' = .ok v w') ∧ VR w Fr mu (d.part off ti.siz ti.st) v ∧ (d.part off ti.siz ti.st).t.okN p := by
  obtain ⟨l1, lp, l2, e, hl1, hc⟩ := part_ok hd (fits_alive hf) (fun h => hz.resolve_right (by simp [h])) (fun h => (fits_chain hf h).1)
  obtain ⟨v, h1, h2⟩ := run_loadVar (b := b) (o := o + off) hg hc hf
  refine ⟨v, fun w' hat => h1 w' ?_, h2, hc.ok⟩
  rw [e] at hat
  have := hat.right.left
  rw [hl1] at this
  exact this
theorem ex_load {o : Oper} {t : Nat} {x : Operand} (ho : o.op = .load t x) {ρ : Operand → Value} {b off : Nat} (hx : ρ x = .pointer (some ⟨b, off, none⟩)) {v : Value} (h : (loadVar t ⟨b, off, none⟩).run P w = .ok v w) :
    (execOp ρ o).run P w = .ok (.value v) w := by
  unfold execOp
  simp [ho, hx, Instr.loadAt, Instr.sureAddr, h]
theorem safe_lt (H : SI E w Fr mu s.heap) {b : Nat} (hb : Safe Fr mu s.heap b) : b < w.heap.size := by
  rcases hb with hb | ⟨m, t, x, hm, rfl⟩
  · exact H.frL b hb
  · exact (H.own m _ hm trivial).2.2
/-- One object turned. -/
theorem Kept.set (H : SI E w Fr mu s.heap) {g : Bool} {r : Tr} {w' : World} {j : Nat} {oj o : AObj} {L : Loc} (hj : s.heap[j]? = some oj) (hbox : ∀ (t : Ty) (x : den t), oj = ⟨.box t, x⟩ → (∃ (t' : Ty) (x' : den t'), o = ⟨.box t', x'⟩) ∧ L.loc = (mu j).loc)
    (hg : Grow (fun b => occ mu j oj ∧ b = (mu j).loc) w w') (hgb : g = true → ∀ (t : Ty) (x : den t), oj ≠ ⟨.box t, x⟩) : Kept g w Fr mu s.heap w' Fr (upd mu j L) ((s.heap.map r.obj).set j o) := by
  refine ⟨?_, ?_⟩
  · rintro b (hb | ⟨m, t, x, hm, rfl⟩)
    · exact .inl hb
    · by_cases hmj : m = j
      · subst hmj
        rw [hj] at hm
        injection hm with hm
        obtain ⟨⟨t', x', e⟩, hL⟩ := hbox t x hm
        refine .inr ⟨m, t', x', ?_, by rw [upd_same]; exact hL.symm⟩
        rw [List.getElem?_set_self (by simpa using (List.getElem?_eq_some_iff.1 hj).1), e]
      · refine .inr ⟨m, (r.app t x).t, (r.app t x).x, ?_, by rw [upd_ne hmj]⟩
        rw [List.getElem?_set_ne (fun e => hmj e.symm), List.getElem?_map, hm]; rfl
  · intro hgt b hb
    refine hg.block b (safe_lt H hb) ?_
    rintro ⟨hoc, e⟩
    rcases hb with hb | ⟨m, t, x, hm, rfl⟩
    · exact (H.own j oj hj hoc).2.1 (e ▸ hb)
    · by_cases hmj : m = j
      · subst hmj
        rw [hj] at hm
        injection hm with hm
        exact hgb hgt t x hm
      · exact H.sep m j _ oj hm hj hmj trivial hoc e
theorem Kept.put1 (H : SI E w Fr mu s.heap) {g : Bool} {w' : World} {j : Nat} {oj o : AObj} (hj : s.heap[j]? = some oj) (hbox : ∀ (t : Ty) (x : den t), oj = ⟨.box t, x⟩ → ∃ (t' : Ty) (x' : den t'), o = ⟨.box t', x'⟩)
    (hg : Grow (fun b => occ mu j oj ∧ b = (mu j).loc) w w') (hgb : g = true → ∀ (t : Ty) (x : den t), oj ≠ ⟨.box t, x⟩) : Kept g w Fr mu s.heap w' Fr mu (s.setObj j o).heap := by
  have hu : upd mu j (mu j) = mu := by funext i; by_cases hi : i = j
                                       · rw [hi, upd_same]
                                       · rw [upd_ne hi]
  have := Kept.set (r := idR) (o := o) (L := mu j) H hj (fun t x e => ⟨hbox t x e, rfl⟩) hg hgb
  rw [hu] at this
  have e : s.heap.map idR.obj = s.heap := by
    conv => rhs; rw [← List.map_id s.heap]
    exact List.map_congr_left fun p _ => by rw [idR_obj]; rfl
  rw [e] at this
  exact this
theorem Kept.new (H : SI E w Fr mu s.heap) {g : Bool} {w' : World} {o : AObj} {L : Loc} (hg : Grow (fun _ => False) w w') : Kept g w Fr mu s.heap w' Fr (upd mu s.heap.length L) (s.new o).heap := by
  refine ⟨?_, fun _ b hb => hg.block b (safe_lt H hb) id⟩
  rintro b (hb | ⟨m, t, x, hm, rfl⟩)
  · exact .inl hb
  · have hlt := (List.getElem?_eq_some_iff.1 hm).1
    refine .inr ⟨m, t, x, ?_, by rw [upd_ne (by omega)]⟩
    show (s.heap ++ [o])[m]? = _
    rw [List.getElem?_append_left hlt]; exact hm
theorem Kept.frz {g : Bool} {l : List Nat} : Kept g w Fr mu s.heap w (FrL Fr mu s.heap l) mu (s.freeze l).heap := by
  refine ⟨?_, fun _ _ _ => rfl⟩
  rintro b (hb | ⟨m, t, x, hm, rfl⟩)
  · exact .inl (.inl hb)
  · by_cases hl : m ∈ l
    · exact .inl (.inr ⟨m, _, hl, hm, trivial, rfl⟩)
    · by_cases hl0 : l = []
      · subst hl0; exact .inr ⟨m, t, x, hm, rfl⟩
      · have hgl : ∀ (l : List Nat) (hp : List AObj), m ∉ l → (goneL l hp)[m]? = hp[m]? := by
          intro l
          induction l with
          | nil => intro hp _; rfl
          | cons k l ih =>
            intro hp hnk
            simp only [List.mem_cons, not_or] at hnk
            show (goneL l (hp.set k gone))[m]? = _
            rw [ih _ hnk.2, List.getElem?_set_ne (fun e => hnk.1 e.symm)]
        refine .inr ⟨m, ((thawR s l).app t x).t, ((thawR s l).app t x).x, ?_, rfl⟩
        rw [freeze_eq s hl0]
        show (goneL l (s.heap.map _))[m]? = _
        rw [hgl l _ hl, List.getElem?_map, hm]; rfl
end
end Go.Abs
