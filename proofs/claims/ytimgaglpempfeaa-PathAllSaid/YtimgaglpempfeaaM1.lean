/- Texts of one proof, laid together: how the interpreter's words stand for the program's code and what the functions do. No conditions but those that each lemma names. -/
import Derived.Test.YtimgaglpempfeaaM0
import Derived.Great.BuildSlice
import Derived.Laws.MakeOwn
import Derived.OrdersIn
import Derived.RangeFuncCalls
import Derived.LoopNIn
set_option linter.unusedSimpArgs false
set_option autoImplicit false
set_option linter.unusedVariables false
namespace Go.Abs

section
variable {P : Program} {T : Told} {E : Env} {w : World} {Fr : Nat → Prop} {mu : Nat → Loc} {s : St} {a : Act}

theorem foldl_put (off : Nat) (cells : Array Value) (l1 lm l2 lv : List Value) (he : cells.toList = l1 ++ (lm ++ l2)) (h1 : l1.length = off) (hm : lm.length = lv.length) :
    ((lv.zipIdx 0).foldl (fun cs (x : Value × Nat) => cs.setIfInBounds (off + x.2) x.1) cells).toList = l1 ++ (lv ++ l2) := by
  obtain ⟨g1, g2⟩ := Great.foldl_set off lv 0 cells
  have hsz : cells.size = l1.length + lm.length + l2.length := by
    have := congrArg List.length he
    simp at this; omega
  apply List.ext_getElem?
  intro k
  rw [Array.getElem?_toList, g2 k, ← Array.getElem?_toList, he]
  by_cases hk : k < off
  · rw [if_neg (by omega), List.getElem?_append_left (by omega), List.getElem?_append_left (by omega)]
  · by_cases hk2 : k < off + lv.length
    · rw [if_pos (by omega), List.getElem?_append_right (by omega), List.getElem?_append_left (by omega)]
      congr 1; omega
    · rw [if_neg (by omega), List.getElem?_append_right (by omega), List.getElem?_append_right (by omega), List.getElem?_append_right (by omega), List.getElem?_append_right (by omega)]
      congr 1; omega
theorem layParts_ok (hT : TabOK P T.tb) (H : Rep E w Fr mu s a) {fs : List (Nat × Nat)} {places : Nat → Option (Nat × Nat)} (hpl : ∀ (i off u : Nat) (ti : TI), fs[i]? = some (off, u) → look T.tb u = some ti → places i = some (off, ti.siz)) :
    ∀ (parts : List (Nat × Operand)) (d : Dyn) (cells : Array Value), d.t.chain = true → CD w Fr mu (· < s.heap.length) d cells.toList → (layParts T fs s parts d).t.alive = true →
      ∃ r : Array Value, Instr.fill places cells (parts.map fun p => (p.1, a.eval p.2)) = some r ∧ (layParts T fs s parts d).t.chain = true ∧ CD w Fr mu (· < s.heap.length) (layParts T fs s parts d) r.toList
  | [], d, cells, hch, hd, _ => ⟨cells, rfl, hch, hd⟩
  | (i, x) :: l, d, cells, hch, hd, ha => by
    unfold layParts at ha ⊢
    split at ha
    · rename_i off u hf
      split at ha
      · rename_i ti hti
        split at ha
        · rename_i hc
          rw [if_pos hc]
          simp only [Bool.and_eq_true, decide_eq_true_eq] at hc
          obtain ⟨⟨⟨⟨c1, c2⟩, c3⟩, c4⟩, c5⟩ := hc
          obtain ⟨hcv, _⟩ := VR_cells (p := (· < s.heap.length)) H.si.hh (H.op x).1 c3 c2 (H.op x).2
          obtain ⟨l1, lm, l2, e, e1, e2, e3, e4⟩ := setPart_ok (off := off) hd hcv (chain_alive c4) c5
          have hsz : (a.eval x).cells.size = ti.siz := by
            have := hcv.len
            rw [c1] at this
            simpa using this
          have hput := foldl_put off cells l1 lm l2 (a.eval x).cells.toList e e1 e2
          have hlen : off + (a.eval x).cells.size ≤ cells.size := by
            have := congrArg List.length e
            simp at this e2; omega
          obtain ⟨r, hr, h2, h3⟩ := layParts_ok hT H hpl l (d.setPart off (s.get x)) (((a.eval x).cells.toList.zipIdx 0).foldl (fun cs (x : Value × Nat) => cs.setIfInBounds (off + x.2) x.1) cells) c4 (by rw [hput]; exact e4) ha
          refine ⟨r, ?_, h2, h3⟩
          rw [← hr]
          simp only [List.map_cons, Instr.fill, hpl i off u ti hf hti]
          rw [if_neg (by simp [hsz]; rw [hsz] at hlen; omega)]
          congr 1
          rw [← Array.foldl_toList, Array.toList_zipIdx]
        · cases ha
      · cases ha
    · cases ha
theorem mapM_some {α β : Type} {f : α → Option β} : ∀ {l : List α}, (∀ x ∈ l, (f x).isSome = true) → ∃ r : List β, l.mapM f = some r ∧ ∀ i : Nat, r[i]? = (l[i]?).bind f
  | [], _ => ⟨[], rfl, fun i => rfl⟩
  | x :: l, h => by
    obtain ⟨y, hy⟩ := Option.isSome_iff_exists.1 (h x (by simp))
    obtain ⟨r, hr, hi⟩ := mapM_some (fun x hx => h x (List.mem_cons_of_mem _ hx))
    refine ⟨y :: r, by simp [List.mapM_cons, hy, hr], fun i => ?_⟩
    cases i with
    | zero => simp [hy]
    | succ i => simpa using hi i
theorem ok_build (hT : TabOK P T.tb) (H : Rep E w Fr mu s a) {fn : Nat} {o : Oper} {t : Nat} {parts : Array (Nat × Operand)} (ho : o.op = .build t parts) {d : Dyn} {s' : St} (h : opP T fn o s = some (true, d, s')) : StepQ P w Fr mu s a o d s' := by
  unfold opP at h
  rw [ho] at h
  dsimp only at h
  split at h
  case h_2 => cases h
  rename_i fs eqs n byt z ty hti
  split at h
  case isFalse => cases h
  rename_i hc
  simp only [Bool.and_eq_true, decide_eq_true_eq] at hc
  obtain ⟨⟨⟨c1, c2⟩, c3⟩, c4⟩ := hc
  unfold put1 at h
  split at h
  case isFalse => cases h
  rename_i hal
  injection h with h
  injection h with _ h
  injection h with h2 h3
  subst h2; subst h3
  have hg := hT t _ hti
  obtain ⟨it, hit, hsz, _, hz⟩ := hg.info
  obtain ⟨zv, hzv, hzs, hzok, hzr⟩ := hz (chain_alive c1)
  obtain ⟨F, hu, hF⟩ := hg.und
  have hmap := mapM_some (f := fun f : Field => (P.info? f.type).map fun i => (f.offset, i.size)) (l := F.toList) (fun f hf => by
    have hF' : (f.offset, f.type) ∈ fs := by
      have : (f.offset, f.type) ∈ F.toList.map (fun g => (g.offset, g.type)) := List.mem_map.2 ⟨f, hf, rfl⟩
      rwa [← hF] at this
    have := List.all_eq_true.1 c4 _ hF'
    obtain ⟨ti, hti'⟩ := Option.isSome_iff_exists.1 this
    obtain ⟨i, hi, _⟩ := (hT _ _ hti').info
    simp [hi])
  obtain ⟨places, hp1, hp2⟩ := hmap
  have hpl : ∀ (i off u : Nat) (ti : TI), fs[i]? = some (off, u) → look T.tb u = some ti → places[i]? = some (off, ti.siz) := by
    intro i off u ti hf hti'
    rw [hp2 i]
    have hF : fs = F.toList.map (fun g => (g.offset, g.type)) := hF
    rw [hF, List.getElem?_map] at hf
    cases hfi : F.toList[i]? with
    | none => rw [hfi] at hf; cases hf
    | some f =>
      rw [hfi] at hf
      injection hf with hf
      injection hf with e1 e2
      obtain ⟨i', hi', hs', _⟩ := (hT _ _ hti').info
      simp only [Option.bind_some]
      rw [e2, hi', ← e1, ← hs']
      rfl
  obtain ⟨hcv, _⟩ := VR_cells (p := (· < s.heap.length)) H.si.hh (hzr w Fr mu) c2 (chain_alive c1) (hzok _)
  obtain ⟨r, hr, hch, hd⟩ := layParts_ok hT H hpl parts.toList z zv.cells c1 hcv hal
  refine .mk (v := .agg r) (fun w' => ?_) ?_ hd.ok
  · have hb : P.built t (parts.map fun (i, x) => (i, a.eval x)).toList = some r := by
      unfold Program.built
      rw [hit, hu]
      dsimp only
      rw [hzv, hp1]
      dsimp only
      rw [← hr]
      congr 1
      · funext i; simp
      · simp
    unfold execOp
    simp only [ho, Sem.run_bind, run_build w' t _ r hb, Result.andThen_ok]
    rfl
  · unfold VR
    have : (layParts T fs s parts.toList z).t.vk = .agg := by
      revert hch; cases (layParts T fs s parts.toList z).t <;> intro h <;> first | rfl | cases h
    rw [this]
    exact ⟨hd.cel, r.toList, by simp, hd.rp⟩

theorem run_place {t : Nat} {ti : TI} {f : Field} (hg : Good P f.type ti) (hz : 0 < ti.siz) (b o : Nat) : (fieldPlace ⟨b, o, none⟩ f).run P w = .ok ⟨b, o + f.offset, none⟩ w := by
  unfold fieldPlace
  have : ti.siz ≠ 0 := by omega
  have hadd : (⟨b, o, none⟩ : Addr).add f.offset = ⟨b, o + f.offset, none⟩ := by unfold Addr.add; split <;> simp_all
  simp [hg.size w, this, hadd]
theorem ok_fieldAddr (hT : TabOK P T.tb) (H : Rep E w Fr mu s a) {fn : Nat} {o : Oper} {t : Nat} {x : Operand} {f : Nat} (ho : o.op = .fieldAddr t x f) {d : Dyn} {s' : St} (h : opP T fn o s = some (true, d, s')) : StepQ P w Fr mu s a o d s' := by
  unfold opP at h
  rw [ho] at h
  dsimp only at h
  split at h
  case h_2 => cases h
  rename_i fs eqs n byt z ty hti
  split at h
  case h_2 => cases h
  rename_i off u hf
  split at h
  case h_2 => cases h
  rename_i ti hti'
  split at h
  case isFalse => cases h
  rename_i hz
  obtain ⟨F, hu, hF⟩ := (hT _ _ hti).und
  have hF : fs = F.toList.map (fun g => (g.offset, g.type)) := hF
  have hfi : ∃ g, F[f]? = some g ∧ g.offset = off ∧ g.type = u := by
    rw [hF, List.getElem?_map] at hf
    cases hfi : F.toList[f]? with
    | none => rw [hfi] at hf; cases hf
    | some g =>
      rw [hfi] at hf
      injection hf with hf
      injection hf with e1 e2
      exact ⟨g, by rw [← Array.getElem?_toList]; exact hfi, e1, e2⟩
  obtain ⟨g, hg1, rfl, rfl⟩ := hfi
  have key : ∀ b o', a.eval x = .pointer (some ⟨b, o', none⟩) → ∀ w' : World, (execOp a.eval o).run P w' = .ok (.value (.pointer (some ⟨b, o' + g.offset, none⟩))) w' := by
    intro b o' e w'
    unfold execOp
    simp [ho, Instr.fieldAt, run_underlying hu, hg1, e, Instr.sureAddr, run_place (t := 0) (hT _ _ hti') hz b o']
  have hx := (H.op x).1
  have hn := (H.op x).2
  split at h <;> first | (cases h; done) | skip
  all_goals
    rename_i hq
    injection h with h
    injection h with _ h
    injection h with h2 h3
    subst h2; subst h3
    rw [hq] at hx hn
  · injection (show [a.eval x] = [_] from hx) with hx
    exact .mk (key _ _ hx) rfl hn
  · obtain ⟨he, b, o', cells, e, hb, hr, hat⟩ := hx
    injection e with e
    exact .mk (key _ _ e) ⟨he, b, o', cells, by rw [Nat.add_assoc], hb, hr, hat⟩ hn
  · obtain ⟨b, m, c, h1, h2, h3, e⟩ := hx
    injection e with e
    exact .mk (key _ _ e) ⟨b, m, c, h1, h2, h3, by rw [Nat.add_assoc]⟩ hn
  · obtain ⟨h1, e⟩ := hx
    injection e with e
    exact .mk (key _ _ e) ⟨h1, by rw [Nat.add_assoc, Nat.add_assoc]⟩ hn
theorem run_part {t : Nat} {ti : TI} (hg : Good P t ti) {cs : List Value} {l1 lp l2 : List Value} {d : Dyn} {p : Nat → Prop} (e : cs = l1 ++ (lp ++ l2)) (hf : ti.fits d.t = true) (hd : CD w Fr mu p d lp) :
    ∃ v, (∀ w' : World, (part t cs.toArray l1.length).run P w' = .ok v w') ∧ VR w Fr mu d v := by
  have hagg := fun w' => hg.agg w'
  have hsz := fun w' => hg.size w'
  have many : lp.length = ti.siz → d.t.vk = .agg → ti.d.agg = true → ∃ v, (∀ w' : World, (part t cs.toArray l1.length).run P w' = .ok v w') ∧ VR w Fr mu d v := by
    intro hl hk ha
    simp only [ha] at hagg
    refine ⟨.agg lp.toArray, fun w' => ?_, ?_⟩
    · have : (cs.drop l1.length).take ti.siz = lp := by
        rw [e, List.drop_left' rfl, ← hl, List.take_left' rfl]
      simp [part, hagg w', hsz w', this]
    · unfold VR; rw [hk]; exact ⟨hd.cel, lp, rfl, hd.rp⟩
  have one : d.t.vk = .one → ti.d.agg = false → ∃ v, (∀ w' : World, (part t cs.toArray l1.length).run P w' = .ok v w') ∧ VR w Fr mu d v := by
    intro hk ha
    simp only [ha] at hagg
    have hl : lp.length = 1 := by
      rw [hd.len]
      revert hk
      cases d.t <;> first | (intro h; rfl) | (intro h; cases h)
    obtain ⟨v, rfl⟩ : ∃ v, lp = [v] := by match lp, hl with | [v], _ => exact ⟨v, rfl⟩
    refine ⟨v, fun w' => by simp [part, hagg w', e], ?_⟩
    unfold VR; rw [hk]; exact hd.rp
  unfold TI.fits at hf
  cases hdd : ti.d
  case struct fs =>
    rw [hdd] at hf
    simp only [Bool.and_eq_true, beq_iff_eq] at hf
    refine many (by rw [hd.len, hf.2]) ?_ (by rw [hdd]; rfl)
    revert hf
    cases d.t <;> first | (intro h; rfl) | (intro h; cases h.1)
  case array n e =>
    rw [hdd] at hf
    simp only [Bool.and_eq_true, beq_iff_eq] at hf
    refine many (by rw [hd.len, hf.2]) ?_ (by rw [hdd]; rfl)
    revert hf
    cases d.t <;> first | (intro h; rfl) | (intro h; cases h.1)
  all_goals
    rw [hdd] at hf
    refine one ?_ (by rw [hdd]; rfl)
    revert hf
    cases d.t.vk <;> first | (intro h; rfl) | (intro h; cases h)
theorem ok_field (hT : TabOK P T.tb) (H : Rep E w Fr mu s a) {fn : Nat} {o : Oper} {t : Nat} {x : Operand} {f : Nat} (ho : o.op = .field t x f) {d : Dyn} {s' : St} (h : opP T fn o s = some (true, d, s')) : StepQ P w Fr mu s a o d s' := by
  unfold opP at h
  rw [ho] at h
  dsimp only at h
  split at h
  case h_2 => cases h
  rename_i fs eqs n byt z ty hti
  split at h
  case h_2 => cases h
  rename_i off u hf
  split at h
  case h_2 => cases h
  rename_i ti hti'
  split at h
  case isFalse => cases h
  rename_i hch
  obtain ⟨hfit, hz, _, rfl, rfl⟩ := put2_some h
  obtain ⟨F, hu, hF⟩ := (hT _ _ hti).und
  have hF : fs = F.toList.map (fun g => (g.offset, g.type)) := hF
  have hfi : ∃ g, F[f]? = some g ∧ g.offset = off ∧ g.type = u := by
    rw [hF, List.getElem?_map] at hf
    cases hfi : F.toList[f]? with
    | none => rw [hfi] at hf; cases hf
    | some g =>
      rw [hfi] at hf
      injection hf with hf
      injection hf with e1 e2
      exact ⟨g, by rw [← Array.getElem?_toList]; exact hfi, e1, e2⟩
  obtain ⟨g, hg1, rfl, rfl⟩ := hfi
  have hx := (H.op x).1
  have hn := (H.op x).2
  unfold VR at hx
  have hk : (s'.get x).t.vk = .agg := by revert hch; cases (s'.get x).t <;> intro h <;> first | rfl | cases h
  rw [hk] at hx
  obtain ⟨hcel, cs, hxe, hr⟩ := hx
  have hcd : CD w Fr mu (· < s'.heap.length) (s'.get x) cs := ⟨hcel, hn, hr⟩
  obtain ⟨l1, lp, l2, e, hl1, hc⟩ := part_ok hcd (fits_alive hfit) (fun _ => hz) (fun h => (fits_chain hfit h).1)
  obtain ⟨v, h1, h2⟩ := run_part (hT _ _ hti') e hfit hc
  rw [hl1] at h1
  refine .mk (v := v) (fun w' => ?_) h2 hc.ok
  unfold execOp
  simp [ho, Instr.field, run_underlying hu, hg1, hxe, asAgg, h1 w']
end
end Go.Abs
set_option autoImplicit false
set_option linter.unusedVariables false
namespace Go.Abs

section
variable {P : Program} {T : Told} {E : Env} {w : World} {Fr : Nat → Prop} {mu : Nat → Loc} {s : St} {a : Act}

theorem andB_true {a b : Bool} (h : andB a b = true) : a = true ∧ b = true := by
  unfold andB at h; simpa using h
theorem leI_true {a b : Int} (h : leI a b = true) : a ≤ b := by unfold leI at h; simpa using h
theorem ltI_true {a b : Int} (h : ltI a b = true) : a < b := by unfold ltI at h; simpa using h
theorem eqI_true {a b : Int} (h : eqI a b = true) : a = b := by unfold eqI at h; simpa using h
theorem addr_add (b o n : Nat) : (⟨b, o, none⟩ : Addr).add n = ⟨b, o + n, none⟩ := by unfold Addr.add; split <;> simp_all
theorem run_indexSlice {t e : Nat} {ti : TI} (hu : P.underlying t = some (.slice e)) (hg : Good P e ti) {b o len cap : Nat} {k : IntKind} {n : Int} (h0 : 0 ≤ n) (h1 : n < len) :
    (Instr.indexAt t (.slice (some ⟨b, o, none⟩) len cap) (.int k n)).run P w = .ok (.pointer (some ⟨b, o + n.toNat * ti.siz, none⟩)) w := by
  have hc : (0 ≤ n ∧ n < (len : Int)) := ⟨h0, h1⟩
  simp [Instr.indexAt, asIntOf, run_underlying hu, hc, hg.size w, addr_add]
theorem ok_indexAddr (hT : TabOK P T.tb) (H : Rep E w Fr mu s a) {fn : Nat} {o : Oper} {t : Nat} {x y : Operand} (ho : o.op = .indexAddr t x y) {d : Dyn} {s' : St} (h : opP T fn o s = some (true, d, s')) : StepQ P w Fr mu s a o d s' := by
  unfold opP at h
  rw [ho] at h
  dsimp only at h
  have hx := (H.op x).1
  have hxn := (H.op x).2
  have hy := (H.op y).1
  split at h
  case h_2 => cases h
  rename_i k n hqy
  change Int at n
  rw [hqy] at hy
  have hy := VR_int hy
  have key : ∀ v, (∀ w' : World, (Instr.indexAt t (a.eval x) (.int k n)).run P w' = .ok v w') → ∀ w' : World, (execOp a.eval o).run P w' = .ok (.value v) w' := by
    intro v e w'
    have e := e w'
    unfold execOp
    simp only [ho, hy, Sem.run_bind, e, Result.andThen_ok]; rfl
  split at h
  · rename_i e eqs siz byt zer ty hti
    have hu := (hT _ _ hti).und
    split at h
    case h_2 => cases h
    rename_i ti hti'
    split at h
    · rename_i u l hq
      split at h
      case isFalse => cases h
      rename_i hc
      injection h with h
      injection h with hb h
      injection h with h2 h3
      subst h2; subst h3
      obtain ⟨hb1, hb2⟩ := andB_true hb
      have h0 := leI_true hb1
      have h1 : n < (l.length : Int) := ltI_true hb2
      rw [hq] at hx
      obtain ⟨he, ad, c, cells, e1, hlen, hr, hat⟩ := hx
      injection e1 with e1
      rcases hat with hnil | ⟨b, off, rfl, hF, hat⟩
      · have hnil : (l : List (den u)) = [] := hnil
        rw [hnil] at h1; simp at h1; omega
      have hxn : l[n.toNat]? = some (ixL u l n) := by
        unfold ixL
        rw [List.getD_eq_getElem?_getD, List.getElem?_eq_getElem (by omega)]; rfl
      obtain ⟨cc, hcc, hcl, A, B, ec, hA⟩ := rows_get (n := u.width) (fun x l h => Rp_len u x l (Ty.elt_cel he) h) hr hxn
      rw [ec] at hat
      have hat := hat.right.left
      rw [hA] at hat
      refine .mk (v := .pointer (some ⟨b, off + n.toNat * ti.siz, none⟩)) (key _ fun w' => ?_) ?_ ?_
      · rw [e1]
        exact run_indexSlice hu (hT _ _ hti') h0 h1
      · exact ⟨he, b, off + n.toNat * u.width, cc, by rw [hc.1]; rfl, hF, hcc, hat⟩
      · trivial
    · rename_i u i _ hq
      split at h
      case h_2 => cases h
      rename_i l hl
      split at h
      case isFalse => cases h
      rename_i hc
      injection h with h
      injection h with hb h
      injection h with h2 h3
      subst h2; subst h3
      obtain ⟨hb1, hb2⟩ := andB_true hb
      have h0 := leI_true hb1
      have h1 : n < (l.length : Int) := ltI_true hb2
      rw [hq] at hx hxn
      injection (show [a.eval x] = [_] from hx) with hx
      obtain ⟨e0, f0, ho0⟩ := rowOf_some hl
      obtain ⟨he, cells, hr, hcs⟩ := row_cells (H.si.obj i _ ho0)
      rcases hcs with ⟨_, _, hnil⟩ | ⟨cap, cur, hh, hn, hm, hocc, hcell, hsz, htk, hat⟩
      · rw [hnil] at h1; simp at h1; omega
      refine .mk (v := .pointer (some ⟨(mu i).loc, 0 + n.toNat * ti.siz, none⟩)) (key _ fun w' => ?_) ?_ hxn
      · rw [hx, hh]
        exact run_indexSlice hu (hT _ _ hti') h0 h1
      · exact ⟨(mu i).loc, l.length, cap, hh, h0, h1, by rw [hc.1, Nat.zero_add]; rfl⟩
    · cases h
  · rename_i m e eqs siz byt zer ty hti
    have hu := (hT _ _ hti).und
    split at h
    case h_2 => cases h
    rename_i ti hti'
    split at h
    case h_2 => cases h
    rename_i i off _ hq
    split at h
    case h_2 => cases h
    rename_i v yb hob
    split at h
    case h_2 => cases h
    rename_i m' u l hcomp
    split at h
    case isFalse => cases h
    rename_i hc
    obtain ⟨rfl, hw, hz, hm1⟩ := hc
    injection h with h
    injection h with hb h
    injection h with h2 h3
    subst h2; subst h3
    obtain ⟨hb1, hb2⟩ := andB_true hb
    have h0 := leI_true hb1
    have h1 : n < (m' : Int) := ltI_true hb2
    rw [hq] at hx hxn
    injection (show [a.eval x] = [_] from hx) with hx
    refine .mk (v := .pointer (some ⟨(mu i).loc, off + n.toNat * ti.siz, none⟩)) (key _ fun w' => ?_) ?_ hxn
    · rw [hx]
      have hcc : (0 ≤ n ∧ n < (m' : Int)) := ⟨h0, h1⟩
      have hu : P.underlying t = some (.array m' e) := hu
      simp [Instr.indexAt, asIntOf, run_underlying hu, hcc, (hT _ _ hti').size w', addr_add, Instr.sureAddr]
    · exact ⟨⟨h0, h1⟩, by rw [hw]; rfl⟩
  · cases h
theorem ok_index (hT : TabOK P T.tb) (H : Rep E w Fr mu s a) {fn : Nat} {o : Oper} {t : Nat} {x y : Operand} (ho : o.op = .index t x y) {d : Dyn} {s' : St} (h : opP T fn o s = some (true, d, s')) : StepQ P w Fr mu s a o d s' := by
  unfold opP at h
  rw [ho] at h
  dsimp only at h
  have hx := (H.op x).1
  have hy := (H.op y).1
  split at h
  case h_2 => cases h
  rename_i k n hqy
  change Int at n
  rw [hqy] at hy
  have hy := VR_int hy
  split at h
  case h_2 => cases h
  rename_i b hti hq
  injection h with h
  injection h with hb h
  injection h with h2 h3
  subst h2; subst h3
  obtain ⟨hb1, hb2⟩ := andB_true hb
  have h0 := leI_true hb1
  have h1 : n < (b.size : Int) := ltI_true hb2
  rw [hq] at hx
  have hx := VR_str hx
  have hu := (hT _ _ hti).und
  dsimp only at hu
  have hlt : n.toNat < b.size := by omega
  have hg : b[n.toNat]? = some (b.get! n.toNat) := by
    rw [getElem?_pos b n.toNat hlt]
    congr 1
    show b.data[n.toNat] = b.data[n.toNat]!
    rw [getElem!_pos]
  refine .mk (v := .int .u8 (b.get! n.toNat).toNat) (fun w' => ?_) rfl trivial
  unfold execOp
  simp [ho, hx, hy, Instr.index, asIntOf, run_underlying hu, h0, hg]
/-- The things of a tuple. -/
theorem tup_get {t : Ty} {x : den t} {vs : List Value} {a b : Ty} {y : den (.tcons a b)} (h : Rp w Fr mu (.tcons a b) y vs) (ha : a.alive = true) : ∃ u us, vs = u :: us ∧ VR w Fr mu ⟨a, y.1⟩ u ∧ Rp w Fr mu b y.2 us := by
  obtain ⟨u, us, e, h1, h2⟩ := h
  refine ⟨u, us, e, ?_, h2⟩
  unfold VR
  show (match a.vk with | .dead => _ | .agg => _ | .tup => _ | .one => _)
  revert h1
  cases a.vk
  case dead => exact id
  case tup => exact False.elim
  case one => exact id
  case agg => exact id
theorem ok_extract (H : Rep E w Fr mu s a) {fn : Nat} {o : Oper} {x : Operand} {i : Nat} (ho : o.op = .extract x i) {d : Dyn} {s' : St} (h : opP T fn o s = some (true, d, s')) : StepQ P w Fr mu s a o d s' := by
  unfold opP at h
  rw [ho] at h
  dsimp only at h
  have hx := (H.op x).1
  have hxn := (H.op x).2
  split at h
  case h_2 => cases h
  rename_i ta tb y hq
  rw [hq] at hx hxn
  obtain ⟨vs, e, hr⟩ := hx
  have key : ∀ v, vs[i]? = some v → ∀ w' : World, (execOp a.eval o).run P w' = .ok (.value v) w' := by
    intro v hv w'
    unfold execOp
    simp [ho, e, Instr.extract, hv]
  have p1 : ∀ {d d' : Dyn} {s s' : St}, put1 d s = some (true, d', s') → d.t.alive = true ∧ d' = d ∧ s' = s := by
    intro d d' s s' h
    unfold put1 at h
    split at h
    · rename_i ha
      injection h with h
      injection h with _ h
      injection h with h2 h3
      exact ⟨ha, h2.symm, h3.symm⟩
    · cases h
  split at h
  · obtain ⟨ha, rfl, rfl⟩ := p1 h
    obtain ⟨u, us, rfl, h1, _⟩ := tup_get (t := .unit) (x := ()) hr ha
    exact .mk (key u rfl) h1 hxn.1
  · obtain ⟨u0, us0, rfl, _, hr⟩ := hr
    split at h
    case h_2 => cases h
    obtain ⟨ha, rfl, rfl⟩ := p1 h
    obtain ⟨u, us, rfl, h1, _⟩ := tup_get (t := .unit) (x := ()) hr ha
    exact .mk (key u rfl) h1 hxn.2.1
  · obtain ⟨u0, us0, rfl, _, hr⟩ := hr
    split at h
    case h_2 => cases h
    obtain ⟨ha, rfl, rfl⟩ := p1 h
    obtain ⟨u1, us1, rfl, _, hr⟩ := hr
    obtain ⟨u, us, rfl, h1, _⟩ := tup_get (t := .unit) (x := ()) hr ha
    exact .mk (key u rfl) h1 hxn.2.2.1
  · obtain ⟨u0, us0, rfl, _, hr⟩ := hr
    split at h
    case h_2 => cases h
    obtain ⟨ha, rfl, rfl⟩ := p1 h
    obtain ⟨u1, us1, rfl, _, hr⟩ := hr
    obtain ⟨u2, us2, rfl, _, hr⟩ := hr
    obtain ⟨u, us, rfl, h1, _⟩ := tup_get (t := .unit) (x := ()) hr ha
    exact .mk (key u rfl) h1 hxn.2.2.2.1
  · cases h
theorem vk_tup_cel {t : Ty} (h : t.vk = .tup) : t.cel = false := by
  cases t <;> first | rfl | cases h
/-- Captured values, as a chain. -/
theorem capt_ok (H : Rep E w Fr mu s a) : ∀ (l : List Operand), (l.map s.get).all (fun d => d.t.alive && d.t.cel) = true →
    Rp w Fr mu ((l.map s.get).foldr (fun d r => (⟨.tcons d.t r.t, (d.x, r.x)⟩ : Dyn)) ⟨.tnil, ()⟩).t ((l.map s.get).foldr (fun d r => (⟨.tcons d.t r.t, (d.x, r.x)⟩ : Dyn)) ⟨.tnil, ()⟩).x (l.map a.eval) ∧
    ((l.map s.get).foldr (fun d r => (⟨.tcons d.t r.t, (d.x, r.x)⟩ : Dyn)) ⟨.tnil, ()⟩).t.okN (· < s.heap.length)
  | [], _ => ⟨rfl, trivial⟩
  | x :: l, hc => by
    simp only [List.map_cons, List.all_cons, Bool.and_eq_true] at hc
    obtain ⟨h1, h2⟩ := capt_ok H l hc.2
    refine ⟨⟨a.eval x, l.map a.eval, rfl, ?_, h1⟩, (H.op x).2, h2⟩
    have hx := (H.op x).1
    have hcel := hc.1.2
    unfold VR at hx
    show (match (s.get x).t.vk with | .dead => _ | .agg => _ | .tup => _ | .one => _)
    revert hx hcel
    cases hk : (s.get x).t.vk
    case dead => exact fun _ _ => trivial
    case agg => exact fun h _ => h
    case one => exact fun h _ => h
    case tup =>
      intro _ hcel
      rw [vk_tup_cel hk] at hcel
      cases hcel
theorem ok_makeFunc (H : Rep E w Fr mu s a) {fn : Nat} {o : Oper} {f : Nat} {first cap : Array Operand} (ho : o.op = .makeFunc (.func f) first cap) {d : Dyn} {s' : St} (h : opP T fn o s = some (true, d, s')) : StepQ P w Fr mu s a o d s' := by
  unfold opP at h
  rw [ho] at h
  dsimp only at h
  split at h
  case isFalse => cases h
  rename_i hf
  split at h
  case isFalse => cases h
  rename_i hc
  injection h with h
  injection h with _ h
  injection h with h2 h3
  subst h2; subst h3
  obtain ⟨h1, h2⟩ := capt_ok H cap.toList hc
  refine .mk (v := .func (.func f) #[] (cap.map a.eval)) (fun w' => ?_) ?_ h2
  · have : first.map a.eval = #[] := by
      apply Array.eq_empty_of_size_eq_zero; simp [hf]
    unfold execOp
    simp [ho, Instr.makeFunc, this]
  · exact ⟨cap.toList.map a.eval, by rw [← Array.toList_map, Array.toArray_toList], h1⟩
theorem lenD_ok (H : Rep E w Fr mu s a) {d : Dyn} {n : Nat} (h : lenD s d = some n) {v : Value} (hv : VR w Fr mu d v) : (d.t ≠ .str ∧ ∃ ad c, v = .slice ad n c ∧ (n ≠ 0 → ad.isNone = false)) ∨ (d.t = .str ∧ ∃ b, v = .string b ∧ n = b.size) := by
  unfold lenD at h
  split at h
  · injection h with h; subst h
    injection (show [v] = [_] from hv) with hv
    exact .inl ⟨by simp, _, _, hv, fun h => absurd rfl h⟩
  · injection h with h; subst h
    obtain ⟨he, ad, c, cells, e, _, _, hor⟩ := hv
    injection e with e
    refine .inl ⟨by simp, _, _, e, fun hn => ?_⟩
    rcases hor with h0 | ⟨b, o, e, _⟩
    · exact absurd (show lenL _ _ = 0 from congrArg List.length h0) hn
    · rw [e]; rfl
  · split at h
    · rename_i l hl
      injection h with h; subst h
      injection (show [v] = [_] from hv) with hv
      obtain ⟨e0, f0, ho0⟩ := rowOf_some hl
      obtain ⟨he, cells, hr, hcs⟩ := row_cells (H.si.obj _ _ ho0)
      rcases hcs with ⟨ad, h0, hnil⟩ | ⟨cap, cur, hh, _⟩
      · rw [h0] at hv
        refine .inl ⟨by simp, ad, 0, by rw [hv]; unfold lenL; rw [show (l : List _) = [] from hnil]; rfl, fun hn => ?_⟩
        exact absurd (by unfold lenL; rw [show (l : List _) = [] from hnil]; rfl) hn
      · rw [hh] at hv
        exact .inl ⟨by simp, _, _, hv, fun _ => rfl⟩
    · cases h
  · injection h with h; subst h
    exact .inr ⟨rfl, _, VR_str hv, rfl⟩
  · cases h
theorem ok_len (hT : TabOK P T.tb) (H : Rep E w Fr mu s a) {o : Oper} {xs : Array Operand} {ats : Array Nat} (ho : o.op = .call ⟨.builtin .len, xs, ats⟩) {d : Dyn} {s' : St} (h : builtinP T .len (xs.toList.map s.get) ats.toList s = some (true, d, s')) : StepQ P w Fr mu s a o d s' := by
  obtain ⟨xl⟩ := xs
  obtain ⟨al⟩ := ats
  unfold builtinP at h
  match xl, al, h with
  | [x], t :: ts, h =>
    dsimp only [List.map] at h
    have hx := (H.op x).1
    split at h
    case h_2 => cases h
    rename_i n hn
    have hv := lenD_ok H hn hx
    have key : ∀ r, (∀ w' : World, (Builtin.len_ (t :: ts).toArray o.type #[a.eval x]).run P w' = .ok r w') → ∀ w' : World, (execOp a.eval o).run P w' = .ok (.value r) w' := by
      intro r e w'
      have e := e w'
      unfold execOp
      simp only [ho, resolve, invoke, builtin, Sem.run_bind, Sem.run_pure, Result.andThen_ok, List.map_toArray, List.map_cons, List.map_nil, e]
    split at h
    · rename_i hti
      split at h
      · cases h
      rename_i hns
      injection h with h
      injection h with _ h
      injection h with h2 h3
      subst h2; subst h3
      have hu := (hT _ _ hti).und
      dsimp only at hu
      refine .mk (v := .int .i64 n) (key _ fun w' => ?_) rfl trivial
      rcases hv with ⟨_, ad, c, e, _⟩ | ⟨hs, b, e, e'⟩
      · simp [Builtin.len_, run_underlying hu, e, goInt]
      · exact absurd hs hns
    · rename_i hti
      split at h
      case isFalse => cases h
      rename_i hs
      injection h with h
      injection h with _ h
      injection h with h2 h3
      subst h2; subst h3
      have hu := (hT _ _ hti).und
      dsimp only at hu
      refine .mk (v := .int .i64 n) (key _ fun w' => ?_) rfl trivial
      rcases hv with ⟨hns, ad, c, e⟩ | ⟨_, b, e, e'⟩
      · exact absurd hs hns
      · simp [Builtin.len_, run_underlying hu, e, goInt, e']
    · cases h
  | [], _, h => cases h
  | _ :: _ :: _, _, h => cases h
  | [x], [], h => cases h
theorem minD_some {mx : Bool} {l : List Dyn} {d : Dyn} (h : minD mx l = some d) : ∃ k p q, l = [⟨.int k, p⟩, ⟨.int k, q⟩] ∧ d = ⟨.int k, if mx then maxI p q else minI p q⟩ := by
  unfold minD at h
  split at h
  · rename_i k p j q
    split at h
    · rename_i hk
      subst hk
      injection h with h
      exact ⟨k, p, q, rfl, h.symm⟩
    · cases h
  · cases h
theorem map_two {l : List Operand} {p q : Dyn} (h : l.map s.get = [p, q]) : ∃ x y, l = [x, y] ∧ s.get x = p ∧ s.get y = q := by
  match l, h with
  | [x, y], h => injection h with h1 h2; injection h2 with h2 _; exact ⟨x, y, rfl, h1, h2⟩
theorem ok_minmax (H : Rep E w Fr mu s a) {o : Oper} {xs : Array Operand} {ats : Array Nat} {b : Builtin} (hb : b = .min ∨ b = .max) (ho : o.op = .call ⟨.builtin b, xs, ats⟩) {d : Dyn} {s' : St} (h : builtinP T b (xs.toList.map s.get) ats.toList s = some (true, d, s')) : StepOK P E w Fr mu s a o d s' := by
  have hm : ∃ d', minD (b == .max) (xs.toList.map s.get) = some d' ∧ d = d' ∧ s' = s := by
    unfold builtinP at h
    rcases hb with rfl | rfl
    · dsimp only at h
      split at h
      · rename_i d' hd
        injection h with h
        injection h with _ h
        injection h with h2 h3
        exact ⟨d', hd, h2.symm, h3.symm⟩
      · cases h
    · dsimp only at h
      split at h
      · rename_i d' hd
        injection h with h
        injection h with _ h
        injection h with h2 h3
        exact ⟨d', hd, h2.symm, h3.symm⟩
      · cases h
  obtain ⟨d', hd, rfl, rfl⟩ := hm
  obtain ⟨k, p, q, hl, rfl⟩ := minD_some hd
  obtain ⟨x, y, hxy, hx, hy⟩ := map_two hl
  have hxv := (H.op x).1
  have hyv := (H.op y).1
  rw [hx] at hxv
  rw [hy] at hyv
  have hxv := VR_int hxv
  have hyv := VR_int hyv
  have hxs : xs = #[x, y] := by apply Array.ext'; simpa using hxy
  rcases hb with rfl | rfl
  · refine .pure H (v := .int k (minI p q)) ?_ rfl trivial
    unfold execOp
    simp only [ho, hxs, resolve, invoke, builtin, Sem.run_bind, Sem.run_pure, Result.andThen_ok, List.map_toArray, List.map_cons, List.map_nil, Builtin.min_, hxv, hyv, List.foldlM, Builtin.min2]
    rfl
  · refine .pure H (v := .int k (maxI p q)) ?_ rfl trivial
    unfold execOp
    simp only [ho, hxs, resolve, invoke, builtin, Sem.run_bind, Sem.run_pure, Result.andThen_ok, List.map_toArray, List.map_cons, List.map_nil, Builtin.max_, hxv, hyv, List.foldlM, Builtin.max2]
    rfl
end
end Go.Abs
set_option autoImplicit false
set_option linter.unusedVariables false
namespace Go.Abs

section
variable {P : Program} {T : Told} {E : Env} {w : World} {Fr : Nat → Prop} {mu : Nat → Loc} {s : St} {a : Act}

theorem rowT_ok (hT : TabOK P T.tb) {t e : Nat} {i : TI} (h : rowT T t = some (e, i)) : P.underlying t = some (.slice e) ∧ Good P e i ∧ 0 < i.siz ∧ i.ty.width = i.siz ∧ i.byt ≤ 131072 ∧ i.ty.elt = true ∧ i.zer.t.alive = true ∧ i.zer.t.cel = true ∧ i.siz ≤ 16384 := by
  unfold rowT at h
  split at h
  · rename_i e' eqs siz byt zer ty hti
    split at h
    · rename_i i' hi
      split at h
      · rename_i hc
        injection h with h
        injection h with h1 h2
        subst h1; subst h2
        exact ⟨(hT _ _ hti).und, hT _ _ hi, hc.1, hc.2.1, hc.2.2.1, hc.2.2.2.1, hc.2.2.2.2.1, hc.2.2.2.2.2.1, hc.2.2.2.2.2.2⟩
      · cases h
    · cases h
  · cases h
/-- A list that is read. -/
theorem readL_ok (H : Rep E w Fr mu s a) {t : Ty} {d : Dyn} {ys : List (den t)} (h : readL s t d = some ys) {v : Value} (hv : VR w Fr mu d v) :
    ∃ ad c cells, v = .slice ad ys.length c ∧ rows (fun x l => Rp w Fr mu t x l) ys cells ∧ ((v = .slice none 0 0 ∧ ys = []) ∨ ys = [] ∨ ∃ b o, ad = some ⟨b, o, none⟩ ∧ At w b o cells) := by
  unfold readL at h
  have h := as_some h
  obtain ⟨dt, dx⟩ := d
  have plain : (⟨dt, dx⟩ : Dyn) = ⟨.list t, ys⟩ → ∃ ad c cells, v = .slice ad ys.length c ∧ rows (fun x l => Rp w Fr mu t x l) ys cells ∧ ((v = .slice none 0 0 ∧ ys = []) ∨ ys = [] ∨ ∃ b o, ad = some ⟨b, o, none⟩ ∧ At w b o cells) := by
    intro e
    rw [e] at hv
    obtain ⟨he, ad, c, cells, e1, hlen, hr, hat⟩ := hv
    injection e1 with e1
    exact ⟨ad, c, cells, e1, hr, .inr (hat.imp id fun ⟨b, o, h1, _, h2⟩ => ⟨b, o, h1, h2⟩)⟩
  cases dt
  case nil e =>
    dsimp only [coe] at h
    split at h
    · injection h with h1 h2
      subst h2
      injection (show [v] = [_] from hv) with hv
      exact ⟨none, 0, [], hv, rfl, .inl ⟨hv, rfl⟩⟩
    · cases h
  case own u i =>
    dsimp only [coe] at h
    split at h
    · rename_i l hl
      injection h with h1 h2
      subst h2
      injection (show [v] = [_] from hv) with hv
      obtain ⟨e0, f0, ho0⟩ := rowOf_some hl
      obtain ⟨he, cells, hr, hcs⟩ := row_cells (H.si.obj _ _ ho0)
      rcases hcs with ⟨ad, h0, hnil⟩ | ⟨cap, cur, hh, hn, hm, hocc, hcell, hsz, htk, hat⟩
      · subst hnil
        exact ⟨ad, 0, cells, by rw [hv, h0]; rfl, hr, .inr (.inl rfl)⟩
      · exact ⟨_, cap, cells, by rw [hv, hh], hr, .inr (.inr ⟨_, _, rfl, hat⟩)⟩
    · cases h
  all_goals exact plain h
theorem maxLen_big : maxLen = 9223372036854775807 := rfl
/-- append, to a row or nil. -/
theorem run_append {t ty e : Nat} {i : TI} (hu : P.underlying t = some (.slice e)) (hg : Good P e i) (hz : 0 < i.siz) (hb : i.byt ≤ 131072) (hza : i.zer.t.alive = true) {L : Loc} {n : Nat} {xs : List Value} (hxl : xs.length = n * i.siz) (hown : RowAt w L e i.siz n xs)
    {y : Value} {m : Nat} {news : List Value} (hy : (y = .slice none 0 0 ∧ m = 0) ∨ ∃ ad c, y = .slice ad m c ∧ (m = 0 ∨ ∃ b o, ad = some ⟨b, o, none⟩ ∧ At w b o news)) (hl : news.length = m * i.siz) (h1 : ∀ u ∈ news, u.oneCell' = true) (hfit : n + m ≤ 1073741824) :
    ∃ L' w', (Builtin.append_ #[t, t] ty #[L.hdr, y]).run P w = .ok L'.hdr w' ∧ RowAt w' L' e i.siz (n + m) (xs ++ news) ∧ Grow (fun b => L.hdr.ownBlock = some L.loc ∧ b = L.loc) w w' ∧
      (L'.hdr.ownBlock = some L'.loc → L'.loc < w'.heap.size ∧ ((L.hdr.ownBlock = some L.loc ∧ L'.loc = L.loc) ∨ w.heap.size ≤ L'.loc)) ∧ L'.hdr.oneCell' = true := by
  obtain ⟨it, hit, hsz, hby, hzz⟩ := hg.info
  obtain ⟨z, hz1, hz2, _⟩ := hzz hza
  have hone : L.hdr.oneCell' = true := by
    rcases hown with ⟨ad, h, _⟩ | ⟨_, _, ⟨h, _⟩ | ⟨g, cap, cur, h, _⟩⟩ <;> rw [h] <;> rfl
  have hlt : L.hdr.ownBlock = some L.loc → L.loc < w.heap.size := by
    intro h
    rcases hown with ⟨ad, _, _, h'⟩ | ⟨_, h'⟩
    · exact absurd h h'
    · exact (h'.lt _ h).2
  have zero : m = 0 → news = [] := fun h => List.eq_nil_of_length_eq_zero (by rw [hl, h]; simp)
  have same : (Builtin.append_ #[t, t] ty #[L.hdr, y]).run P w = .ok L.hdr w → m = 0 → ∃ L' w', (Builtin.append_ #[t, t] ty #[L.hdr, y]).run P w = .ok L'.hdr w' ∧ RowAt w' L' e i.siz (n + m) (xs ++ news) ∧ Grow (fun b => L.hdr.ownBlock = some L.loc ∧ b = L.loc) w w' ∧
      (L'.hdr.ownBlock = some L'.loc → L'.loc < w'.heap.size ∧ ((L.hdr.ownBlock = some L.loc ∧ L'.loc = L.loc) ∨ w.heap.size ≤ L'.loc)) ∧ L'.hdr.oneCell' = true := by
    intro hr hm
    have hn := zero hm
    subst hm; subst hn
    exact ⟨L, w, hr, by simpa using hown, Grow.refl _ w, fun h => ⟨hlt h, .inl ⟨h, rfl⟩⟩, hone⟩
  -- a slice without room of its own
  have fresh : ∀ (v : Value) (w' : World), 0 < m → v.ownBlock = some w.heap.size → v.oneCell' = true → w'.ownsRow 0 e i.siz v (n + m) (xs ++ news) → Grow (fun b => L.hdr.ownBlock = some L.loc ∧ b = L.loc) w w' → (Builtin.append_ #[t, t] ty #[L.hdr, y]).run P w = .ok v w' →
      ∃ L' w', (Builtin.append_ #[t, t] ty #[L.hdr, y]).run P w = .ok L'.hdr w' ∧ RowAt w' L' e i.siz (n + m) (xs ++ news) ∧ Grow (fun b => L.hdr.ownBlock = some L.loc ∧ b = L.loc) w w' ∧
      (L'.hdr.ownBlock = some L'.loc → L'.loc < w'.heap.size ∧ ((L.hdr.ownBlock = some L.loc ∧ L'.loc = L.loc) ∨ w.heap.size ≤ L'.loc)) ∧ L'.hdr.oneCell' = true := by
    intro v w' hm hv hv1 ho hg hr
    exact ⟨⟨w.heap.size, v⟩, w', hr, .inr ⟨hv, ho⟩, hg, fun _ => ⟨(ho.lt _ hv).2, .inr (Nat.le_refl _)⟩, hv1⟩
  have h0 : ∀ (ad : Option Addr) (c : Nat), (Builtin.firstCells i.siz 0 (.slice ad 0 c)).run P w = .ok #[] w := by
    intro ad c
    cases ad <;> simp [Builtin.firstCells, loadCells, loadCellsFrom]
  have hbig : n + m ≤ maxLen := by rw [maxLen_big]; omega
  have hbyt : (n + m) * i.byt ≤ 140737488355328 := by
    have := Nat.mul_le_mul hfit hb
    omega
  rcases hown with ⟨ad0, e0, hn0, hno⟩ | ⟨hob, hown⟩
  · subst hn0
    have hxs : xs = [] := List.eq_nil_of_length_eq_zero (by rw [hxl]; simp)
    rcases hy with ⟨rfl, hm⟩ | ⟨ad, c, rfl, hm | ⟨b, o, rfl, hat⟩⟩
    · refine same ?_ hm
      rw [e0]
      cases ad0 <;> simp [Builtin.append_, run_underlying hu, sizeOf, typeInfo, hit, Builtin.lenOf, Builtin.firstCells, storeCells]
    · refine same ?_ hm
      subst hm
      rw [e0]
      cases ad0 <;> simp [Builtin.append_, run_underlying hu, sizeOf, typeInfo, hit, Builtin.lenOf, hsz, h0, storeCells]
    · by_cases hm : m = 0
      · refine same ?_ hm
        subst hm
        rw [e0]
        cases ad0 <;> simp [Builtin.append_, run_underlying hu, sizeOf, typeInfo, hit, Builtin.lenOf, hsz, h0, storeCells]
      · have hmpos : 0 < m := by omega
        have hnews : ∀ j u, news[j]? = some u → w.cell? ((⟨b, o, none⟩ : Addr).add j) = some u := fun j u hj => by rw [addr_add]; exact hat j u hj
        subst hxs
        rw [Nat.zero_add] at hbyt
        have hge := grownCap_ge w m 0 e
        have hcm : grownCap w m 0 e ≤ maxLen := grownCap_le_maxLen w m 0 e (by omega)
        have hgrow : Grow (fun b => L.hdr.ownBlock = some L.loc ∧ b = L.loc) w (w.drew.alloc (.cells (news.toArray ++ Builtin.zeroCells z.cells (grownCap w m 0 e - m)) e)) :=
          ⟨rfl, rfl, rfl, by simp, fun k hk _ => alloc_kept w.drew _ k hk⟩
        have hrow : (w.drew.alloc (.cells (news.toArray ++ Builtin.zeroCells z.cells (grownCap w m 0 e - m)) e)).ownsRow 0 e i.siz (.slice (some ⟨w.heap.size, 0, none⟩) m (grownCap w m 0 e)) (0 + m) ([] ++ news) := by
          rw [Nat.zero_add, List.nil_append]
          refine ⟨hl, .inr ⟨w.heap.size, _, _, rfl, Nat.zero_le _, heap_alloc_new w.drew _, hge, hcm, ?_, ?_⟩⟩
          · simp only [Array.size_append, List.size_toArray, size_zeroCells, hz2, hl, ← Nat.add_mul]
            congr 1
            omega
          · simp only [Array.toList_append]
            rw [← hl]
            exact List.take_left
        refine fresh _ _ hmpos rfl rfl hrow hgrow ?_
        rw [e0]
        cases ad0 with
        | none =>
          exact run_append_nil (P := P) w t ty e it z hu hit hz1 ⟨b, o, none⟩ m c news (by rw [hl, hsz]) hnews hmpos (by omega) (by rw [hby]; omega)
        | some a0 =>
          have := run_append_grow (P := P) w t ty e it z hu hit hz1 a0 0 0 [] (by simp) (by simp) ⟨b, o, none⟩ m c news (by rw [hl, hsz]) hnews (by omega) (by omega) (by
            rw [Nat.zero_add, nextslicecap_zero hmpos, hby]; omega)
          simpa using this
  · rcases hy with ⟨rfl, hm⟩ | ⟨ad, c, rfl, hm | ⟨b, o, rfl, hat⟩⟩
    · exact same (run_append_owned_none w 0 t ty e it i.siz hu hit L.hdr n xs hown) hm
    · refine same ?_ hm
      subst hm
      rcases hown.2 with ⟨h2, rfl⟩ | ⟨g, cap, cur, h2, _, _, hnc, _⟩
      · rw [h2]; simp [Builtin.append_, run_underlying hu, sizeOf, typeInfo, hit, Builtin.lenOf, hsz, h0]
      · rw [h2]; simp [Builtin.append_, run_underlying hu, sizeOf, typeInfo, hit, Builtin.lenOf, hsz, h0, hnc, storeCells]
    · obtain ⟨v', w', h2, h3, h4, _, h5⟩ := run_append_own_at (P := P) w 0 t ty e it z i.siz i.byt hu hit hz1 hsz hby hz2 hz L.hdr n xs hown ⟨b, o, none⟩ m c news hl (fun j u hj => by rw [addr_add]; exact hat j u hj) h1
        hbig hbyt (Nat.zero_le _)
      have hgr : Grow (fun b => L.hdr.ownBlock = some L.loc ∧ b = L.loc) w w' := ⟨h4.os, h4.tape, h4.output, h4.size, fun k hk hn => h4.block k hk (fun e => hn ⟨hob, by rw [hob] at e; injection e⟩)⟩
      have hv1 : v'.oneCell' = true := by rcases h3.2 with ⟨rfl, _⟩ | ⟨g, cap, cur, rfl, _⟩ <;> rfl
      rcases h5 with h5 | h5
      · exact ⟨⟨L.loc, v'⟩, w', h2, .inr ⟨by rw [← hob]; exact h5, h3⟩, hgr, fun h => ⟨(h3.lt _ h).2, .inl ⟨hob, rfl⟩⟩, hv1⟩
      · exact ⟨⟨w.heap.size, v'⟩, w', h2, .inr ⟨h5, h3⟩, hgr, fun h => ⟨(h3.lt _ h).2, .inr (Nat.le_refl _)⟩, hv1⟩
theorem killR_T (l : List Nat) : TrT (killR l) := by
  constructor
  · intro t i; show ((if l.contains i then nope else _ : Dyn).t.vk = .one ∨ _) ∧ _; unfold killR; dsimp only; split <;> simp [nope, Ty.vk, Ty.cel]
  · intro t i o x; unfold killR; dsimp only; split <;> simp [nope, Ty.vk, Ty.cel]
  · intro i o; unfold killR; dsimp only; split <;> simp [nope, Ty.vk, Ty.cel]
  · intro t m i b o x; unfold killR; dsimp only; split <;> simp [nope, Ty.vk, Ty.cel]
theorem killR_OK2 {w' : World} {Fr' : Nat → Prop} {mu' : Nat → Loc} {l : List Nat} {p : Nat → Prop} (hF : ∀ b, Fr b → Fr' b) (hh : ∀ i, (mu i).hdr.oneCell' = true) (hw : ∀ b, Fr b → w'.heap[b]? = w.heap[b]?) (hm : ∀ i, p i → i ∉ l → mu' i = mu i) : TrOK w Fr mu w' Fr' mu' (killR l) p where
  fr := hF
  wd := hw
  own t i hi := by
    unfold killR; dsimp only
    split
    · exact ⟨.inr rfl, rfl, _, rfl, hh i⟩
    · rename_i hc
      exact ⟨.inl rfl, rfl, by show _ = [(mu' i).hdr]; rw [hm i hi (by simpa using hc)]⟩
  rptr t i o x l' hi hr := by
    unfold killR; dsimp only
    split
    · obtain ⟨b, n, c, _, _, _, e⟩ := hr
      exact ⟨.inr rfl, rfl, _, e, rfl⟩
    · rename_i hc
      exact ⟨.inl rfl, rfl, Rp_keep hF hw (.rptr t i o) x l' (hm i hi (by simpa using hc)) hr⟩
  ptr i o hi := by
    unfold killR; dsimp only
    split
    · exact ⟨.inr rfl, rfl, _, rfl, rfl⟩
    · rename_i hc
      exact ⟨.inl rfl, rfl, by show _ = [Value.pointer (some ⟨(mu' i).loc, o, none⟩)]; rw [hm i hi (by simpa using hc)]⟩
  aptr t m i b o x l' hi hr := by
    unfold killR; dsimp only
    split
    · exact ⟨.inr rfl, rfl, _, hr.2, rfl⟩
    · rename_i hc
      exact ⟨.inl rfl, rfl, Rp_keep hF hw (.aptr t m i b o) x l' (hm i hi (by simpa using hc)) hr⟩
theorem killR_OK {w' : World} {mu' : Nat → Loc} {l : List Nat} {p : Nat → Prop} (hh : ∀ i, (mu i).hdr.oneCell' = true) (hw : ∀ b, Fr b → w'.heap[b]? = w.heap[b]?) (hm : ∀ i, p i → i ∉ l → mu' i = mu i) : TrOK w Fr mu w' Fr mu' (killR l) p :=
  killR_OK2 (fun _ => id) hh hw hm
theorem killR_okN (l : List Nat) {q : Nat → Prop} (t : Ty) (x : den t) (h : t.okN q) : ((killR l).app t x).t.okN q := by
  refine okN_app (r := killR l) (p := q) (q := q) ?_ ?_ ?_ ?_ t x h
  · intro t i hi; unfold killR; dsimp only; split
    · trivial
    · exact hi
  · intro t i o x hi; unfold killR; dsimp only; split
    · trivial
    · exact hi
  · intro i o hi; unfold killR; dsimp only; split
    · trivial
    · exact hi
  · intro t m i b o x hi; unfold killR; dsimp only; split
    · trivial
    · exact hi
/-- A row made anew. -/
theorem new_row (H : Rep E w Fr mu s a) {w' : World} {e : Nat} {t : Ty} {xs : List (den t)} {L : Loc} {cells : List Value} (he : t.elt = true) (hg : Grow (fun _ => False) w w') (h1 : L.hdr.oneCell' = true) (hown : RowAt w' L e t.width xs.length cells)
    (hblk : L.hdr.ownBlock = some L.loc → w.heap.size ≤ L.loc ∧ L.loc < w'.heap.size)
    (hr : rows (fun x l => Rp w Fr mu t x l) xs cells) :
    Rep E w' Fr (upd mu s.heap.length L) (s.new ⟨.row e t false, xs⟩) a := by
  refine H.newObj hg h1 ?_ ?_ (fun t x e => by cases e)
  · exact ⟨he, cells, rows_mono (fun x l h => Rp_keep (fun _ => id) (fun b hb => hg.block b (H.si.frL b hb) id) t x l (t.pure_okN (Ty.elt_pure he)) h) hr, by rw [upd_same]; exact hown⟩
  · intro hocc
    have hocc : (upd mu s.heap.length L s.heap.length).hdr.ownBlock = some (upd mu s.heap.length L s.heap.length).loc := hocc
    rw [upd_same] at hocc
    exact hblk hocc
theorem VR_own {mu : Nat → Loc} {t : Ty} {i : Nat} {v : Value} (h : (mu i).hdr = v) : VR w Fr mu ⟨.own t i, ()⟩ v := by
  show [v] = [(mu i).hdr]; rw [h]
theorem grow_of {row : Option Nat} {w' : World} {O : Nat → Prop} (h : w.grownBy w' row) (hO : ∀ k, row = some k → O k) : Grow O w w' :=
  ⟨h.os, h.tape, h.output, h.size, fun k hk hn => h.block k hk (fun e => hn (hO k e.symm))⟩
theorem ok_append (hT : TabOK P T.tb) (H : Rep E w Fr mu s a) {o : Oper} {xs : Array Operand} {ats : Array Nat} (ho : o.op = .call ⟨.builtin .append, xs, ats⟩) {d : Dyn} {s' : St} (h : builtinP T .append (xs.toList.map s.get) ats.toList s = some (true, d, s')) : StepOK P E w Fr mu s a o d s' := by
  obtain ⟨xl⟩ := xs
  obtain ⟨al⟩ := ats
  unfold builtinP at h
  match xl, al, h with
  | [x, y], [t, u], h =>
    dsimp only [List.map] at h
    split at h
    case isFalse => cases h
    rename_i htu
    subst htu
    have hx := (H.op x).1
    have hy := (H.op y).1
    have key : ∀ r w', (Builtin.append_ #[t, t] o.type #[a.eval x, a.eval y]).run P w = .ok r w' → (execOp a.eval o).run P w = .ok (.value r) w' := by
      intro r w' e
      unfold execOp
      simp only [ho, resolve, invoke, builtin, Sem.run_bind, Sem.run_pure, Result.andThen_ok, List.map_toArray, List.map_cons, List.map_nil, e]
    split at h
    · cases h
    rename_i e i hrow
    obtain ⟨hu, hg, hz, hw, hb, he, hza, _⟩ := rowT_ok hT hrow
    split at h
    · cases h
    rename_i ys hys
    obtain ⟨ad, c, cells, e1, hr, hat⟩ := readL_ok H hys hy
    have hlen : cells.length = ys.length * i.siz := by rw [rows_len (fun x l h => Rp_len i.ty x l (Ty.elt_cel he) h) hr, hw]
    have h1 : ∀ u ∈ cells, u.oneCell' = true := rows_all (fun x l h => Rp_one H.si.hh i.ty x l (Ty.elt_cel he) h) hr
    have hyy : (a.eval y = .slice none 0 0 ∧ ys.length = 0) ∨ ∃ ad c, a.eval y = .slice ad ys.length c ∧ (ys.length = 0 ∨ ∃ b o, ad = some ⟨b, o, none⟩ ∧ At w b o cells) := by
      rcases hat with ⟨h2, h3⟩ | h3 | h3
      · exact .inl ⟨h2, by rw [h3]; rfl⟩
      · exact .inr ⟨ad, c, e1, .inl (by rw [h3]; rfl)⟩
      · exact .inr ⟨ad, c, e1, .inr h3⟩
    split at h
    · rename_i e' _ hq
      injection h with h
      injection h with hf h
      injection h with h2 h3
      subst h2; subst h3
      rw [hq] at hx
      injection (show [a.eval x] = [_] from hx) with hx
      have hfit : ys.length ≤ 1073741824 := by unfold fitL at hf; simpa using hf
      have hnil : RowAt w nilLoc e i.siz 0 [] := .inl ⟨none, rfl, rfl, by simp [nilLoc, Value.ownBlock]⟩
      obtain ⟨L, w', hr1, hr2, hr3, hr4, hr5⟩ := run_append (P := P) (ty := o.type) hu hg hz hb hza (by simp) hnil hyy hlen h1 (by omega)
      rw [Nat.zero_add, List.nil_append] at hr2
      have hgr : Grow (fun _ => False) w w' := ⟨hr3.os, hr3.tape, hr3.output, hr3.size, fun k hk _ => hr3.block k hk (by simp [nilLoc, Value.ownBlock])⟩
      refine ⟨_, L.hdr, w', Fr, _, key _ _ (by rw [hx]; exact hr1), .inl rfl, VR_own (by rw [upd_same]), ?_, new_row H he hgr hr5 (by rw [hw]; exact hr2) ?_ hr, Kept.new H.si hgr⟩
      · show _ < _; simp [St.new]
      · intro hk
        obtain ⟨h2, h3⟩ := hr4 hk
        exact ⟨h3.resolve_left (by simp [nilLoc, Value.ownBlock]), h2⟩
    · rename_i u j _ hq
      split at h
      case h_2 => cases h
      rename_i e' u' f xs0 hob
      split at h
      case isFalse => cases h
      rename_i hee
      subst hee
      split at h
      case h_2 => cases h
      rename_i xs hxs
      injection h with h
      injection h with hf h
      injection h with h2 h3
      subst h2; subst h3
      have hoj := obj_some hob (by simp)
      rw [list_as hxs] at hoj
      rw [hq] at hx
      injection (show [a.eval x] = [_] from hx) with hx
      have hor := H.si.obj j _ hoj
      obtain ⟨_, cx, hrx, hown⟩ := hor
      rw [hw] at hown
      have hfit : xs.length + ys.length ≤ 1073741824 := by unfold fitL appL at hf; simpa using hf
      have hcx : cx.length = xs.length * i.siz := by rw [rows_len (fun x l h => Rp_len i.ty x l (Ty.elt_cel he) h) hrx, hw]
      obtain ⟨L, w', hr1, hr2, hr3, hr4, hr5⟩ := run_append (P := P) (ty := o.type) hu hg hz hb hza hcx hown hyy hlen h1 hfit
      have hgr : Grow (fun b => occ mu j (⟨.row e' i.ty f, xs⟩ : AObj) ∧ b = (mu j).loc) w w' := hr3
      have hfr : ∀ b, Fr b → w'.heap[b]? = w.heap[b]? := fun b hb => hgr.block b (H.si.frL b hb) (fun ⟨h1, h2⟩ => (H.si.own j _ hoj h1).2.1 (h2 ▸ hb))
      have hjl : j < s.heap.length := (List.getElem?_eq_some_iff.1 hoj).1
      have hrep := H.setObj (r := killR [j]) (w' := w') (L := L) (o := ⟨.row e' i.ty false, appL i.ty xs ys⟩) hoj (killR_T [j])
        (killR_OK H.si.hh hfr (fun k hk hne => upd_ne (by simpa using hne))) (fun t x h => killR_okN [j] t x h) hgr hr5
        (by
          refine ⟨he, cx ++ cells, ?_, ?_⟩
          · exact rows_mono (fun x l h => Rp_keep (fun _ => id) hfr i.ty x l (i.ty.pure_okN (Ty.elt_pure he)) h) (rows_append hrx hr)
          · rw [upd_same, hw]
            have : (appL i.ty xs ys).length = xs.length + ys.length := by simp [appL]
            rw [this]; exact hr2)
        (by
          intro hoc
          have hoc : (upd mu j L j).hdr.ownBlock = some (upd mu j L j).loc := hoc
          rw [upd_same] at hoc
          exact hr4 hoc)
        (fun t x e => by cases e) (fun _ => trivial)
      refine ⟨_, L.hdr, w', Fr, _, key _ _ (by rw [hx]; exact hr1), .inl rfl, VR_own (by rw [upd_same]), ?_, hrep, Kept.set H.si hoj (fun t x e => by cases e) hgr (fun _ t x e => by cases e)⟩
      show _ < _; simp [Tr.st, St.setObj]; exact hjl
    · cases h
  | [], _, h => cases h
  | [_], _, h => cases h
  | _ :: _ :: _ :: _, _, h => cases h
  | [_, _], [], h => cases h
  | [_, _], [_], h => cases h
  | [_, _], _ :: _ :: _ :: _, h => cases h
end
end Go.Abs
set_option autoImplicit false
set_option linter.unusedVariables false
namespace Go.Abs

section
variable {P : Program} {T : Told} {E : Env} {w : World} {Fr : Nat → Prop} {mu : Nat → Loc} {s : St} {a : Act}

theorem coe0_chain : ∀ (u t : Ty) (x : den t), t.chain = true → (coe0 u t x).t.chain = true := by
  intro u t x
  fun_induction coe0 u t x with
  | case1 => intro h; cases h
  | case2 => intro h; cases h
  | case3 => intro _; rfl
  | case4 => intro h; cases h
  | case5 => exact id
theorem coe0_ok : ∀ (u t : Ty) (x : den t) (l : List Value), t.cel = true → Rp w Fr mu t x l → (coe0 u t x).t.cel = true ∧ Rp w Fr mu (coe0 u t x).t (coe0 u t x).x l := by
  intro u t x
  fun_induction coe0 u t x with
  | case1 t e h x => intro l _ hr; cases hr; exact ⟨rfl, h, none, 0, [], rfl, Nat.le_refl _, rfl, .inl rfl⟩
  | case2 t e x h => intro l _ hr; cases hr; exact ⟨rfl, _, rfl, rfl⟩
  | case3 a b c d x p q ih1 ih2 =>
    rintro l hc ⟨l1, l2, e, r1, r2⟩
    obtain ⟨c1, c2, c3⟩ := Ty.cel_pair hc
    obtain ⟨g1, g2⟩ := ih1 _ c1 r1
    obtain ⟨k1, k2⟩ := ih2 _ c2 r2
    exact ⟨Ty.pair_cel g1 k1 (coe0_chain b d x.2 c3), l1, l2, e, g2, k2⟩
  | case4 => intro l hc; cases hc
  | case5 => intro l hc hr; exact ⟨hc, hr⟩
theorem made_toList {z : Array Value} (hz : 0 < z.size) : ∀ n, (madeCells z (n * z.size)).toList = (List.replicate n z.toList).flatten := by
  intro n
  have key : ∀ n, (List.range (n * z.size)).map (fun j => z[j % z.size]!) = (List.replicate n z.toList).flatten := by
    intro n
    induction n with
    | zero => simp
    | succ n ih =>
      rw [Nat.succ_mul, List.range_add, List.map_append, ih, List.replicate_succ', List.flatten_append]
      congr 1
      simp only [List.flatten_cons, List.flatten_nil, List.append_nil, List.map_map]
      apply List.ext_getElem
      · simp
      · intro k h1 h2
        have hk : k < z.size := by simpa using h2
        simp only [List.getElem_map, List.getElem_range, Function.comp, Nat.mul_add_mod', Nat.mod_eq_of_lt hk, Array.getElem_toList]
        rw [getElem!_pos z k hk]
  rw [← key n]
  simp [madeCells]
theorem ok_makeSlice (hT : TabOK P T.tb) (H : Rep E w Fr mu s a) {fn : Nat} {o : Oper} {t : Nat} {x y : Operand} (ho : o.op = .makeSlice t x y) {d : Dyn} {s' : St} (h : opP T fn o s = some (true, d, s')) : StepOK P E w Fr mu s a o d s' := by
  unfold opP at h
  rw [ho] at h
  dsimp only at h
  split at h
  case h_2 => cases h
  rename_i e i k1 n k2 m hrow hqx hqy
  change Int at n
  change Int at m
  split at h
  case h_2 => cases h
  rename_i z hz
  injection h with h
  injection h with hb h
  injection h with h2 h3
  subst h2; subst h3
  obtain ⟨hb1, hb2⟩ := andB_true hb
  have hnm : m = n := eqI_true hb2
  subst hnm
  have hn : 0 ≤ m ∧ m ≤ 1073741824 := by unfold fitN at hb1; simpa using hb1
  obtain ⟨hu, hg, hsz, hw, hby, he, hza, hzc, _⟩ := rowT_ok hT hrow
  obtain ⟨it, hit, hs1, hb3, hzz⟩ := hg.info
  obtain ⟨zv, hz1, hz2, hz3, hz4⟩ := hzz hza
  have hx := (H.op x).1
  have hy := (H.op y).1
  rw [hqx] at hx
  rw [hqy] at hy
  have hx := VR_int hx
  have hy := VR_int hy
  obtain ⟨hcv, hone⟩ := VR_cells (p := (· < s.heap.length)) H.si.hh (hz4 w Fr mu) hzc hza (hz3 _)
  obtain ⟨_, hzr⟩ := coe0_ok i.ty i.zer.t i.zer.x _ hzc hcv.rp
  rw [as_some hz] at hzr
  have hrun := run_make (P := P) w t e it zv hu hit hz1 k1 k2 m m hn.1 (Int.le_refl _) (by
    rw [hb3]
    have h1 : ((i.byt : Int)) ≤ 131072 := by omega
    have : (i.byt : Int) * m ≤ 131072 * 1073741824 := Int.mul_le_mul h1 hn.2 hn.1 (by omega)
    omega) (by omega)
  have hcells : (madeCells zv.cells (m.toNat * it.size)).toList = (List.replicate m.toNat zv.cells.toList).flatten := by
    rw [hs1, ← hz2]; exact made_toList (by rw [hz2]; exact hsz) m.toNat
  have hrows : rows (fun x l => Rp w Fr mu i.ty x l) (repL i.ty m.toNat z) (madeCells zv.cells (m.toNat * it.size)).toList := by
    rw [hcells]; exact rows_replicate hzr m.toNat
  have hmade : (w.alloc (.cells (madeCells zv.cells (m.toNat * it.size)) e)).ownsRow 0 e i.ty.width (.slice (some ⟨w.heap.size, 0, none⟩) m.toNat m.toNat) (repL i.ty m.toNat z).length (madeCells zv.cells (m.toNat * it.size)).toList := by
    rw [show (repL i.ty m.toNat z).length = m.toNat by simp [repL]]
    exact World.ownsRow_lit w _ m.toNat (Nat.zero_le _) (by rw [maxLen_big]; omega) (by rw [size_madeCells, hs1, hw])
  have hgr : Grow (fun _ => False) w (w.alloc (.cells (madeCells zv.cells (m.toNat * it.size)) e)) := ⟨rfl, rfl, rfl, by simp, fun k hk _ => alloc_kept w _ k hk⟩
  refine ⟨_, _, _, Fr, _, ?_, .inl rfl, VR_own (by rw [upd_same]), ?_, new_row (L := ⟨w.heap.size, .slice (some ⟨w.heap.size, 0, none⟩) m.toNat m.toNat⟩) H he hgr rfl (.inr ⟨rfl, hmade⟩) (fun _ => ⟨Nat.le_refl _, by simp⟩) hrows, Kept.new H.si hgr⟩
  · unfold execOp
    simp only [ho, hx, hy, Sem.run_bind, hrun, Result.andThen_ok]; rfl
  · show _ < _; simp [St.new]

/-- A literal's elements. -/
theorem litParts_ok {e : Ty} : ∀ (parts : List (Nat × Operand)) (n : Nat) (s : St) (Fr : Nat → Prop) (l : List (den e)) (s' : St), Rep E w Fr mu s a → litParts e s n parts = some (l, s') →
    ∃ Fr' cells, (∀ b, Fr b → Fr' b) ∧ Rep E w Fr' mu s' a ∧ rows (fun x l => Rp w Fr' mu e x l) l cells ∧ s'.heap.length = s.heap.length ∧ l.length = parts.length ∧ cells = (parts.map fun p => (a.eval p.2).cells.toList).flatten ∧
      (∀ p ∈ parts, (a.eval p.2).cells.toList.length = e.width) ∧ parts.map (·.1) = List.range' n parts.length ∧ (∀ b, Safe Fr mu s.heap b → Safe Fr' mu s'.heap b)
  | [], n, s, Fr, l, s', H, h => by
    unfold litParts at h
    injection h with h
    injection h with h1 h2
    subst h1; subst h2
    exact ⟨Fr, [], fun _ => id, H, rfl, rfl, rfl, rfl, by simp, rfl, fun _ => id⟩
  | (i, x) :: parts, n, s, Fr, l, s', H, h => by
    unfold litParts at h
    split at h
    case isFalse => cases h
    rename_i hc
    split at h
    case h_2 => cases h
    rename_i v s1 hcf
    split at h
    case h_2 => cases h
    rename_i r s2 hlp
    injection h with h
    injection h with h1 h2
    subst h1; subst h2
    obtain ⟨hcv, _⟩ := VR_cells (p := (· < s.heap.length)) H.si.hh (H.op x).1 hc.2.2.1 hc.2.1 (H.op x).2
    obtain ⟨he, hs1, hrv, H1⟩ := coeF_ok H hcf hcv
    obtain ⟨Fr', cells, hF, H2, hr, hlen, hll, hcells, hw, hidx, hsf⟩ := litParts_ok parts (n + 1) s1 _ r s2 H1 hlp
    refine ⟨Fr', (a.eval x).cells.toList ++ cells, fun b hb => hF b (.inl hb), H2, ⟨_, cells, rfl, Rp_keep hF (fun _ _ => rfl) e v _ (e.pure_okN (Ty.elt_pure he)) hrv, hr⟩, ?_, ?_, ?_, ?_, ?_, fun b hb => hsf b (by rw [hs1]; exact (Kept.frz (g := true) (w := w)).safe b hb)⟩
    · rw [hlen, hs1, freeze_len]
    · simp [hll]
    · simp [hcells]
    · intro p hp
      rcases List.mem_cons.1 hp with rfl | hp
      · rw [hcv.len, hc.2.2.2]
      · exact hw p hp
    · simp only [List.map_cons, List.length_cons, List.range'_succ, hidx, hc.1]
theorem fill_lit {size : Nat} : ∀ (vs : List (Nat × Value)) (n : Nat) (cells : Array Value) (A B : List Value), cells.toList = A ++ B → A.length = n * size → B.length = vs.length * size → vs.map (·.1) = List.range' n vs.length → (∀ p ∈ vs, p.2.cells.toList.length = size) →
    ∃ r : Array Value, Instr.fill (fun i => some (i * size, size)) cells vs = some r ∧ r.toList = A ++ (vs.map fun p => p.2.cells.toList).flatten
  | [], n, cells, A, B, e, hA, hB, _, _ => by
    have : B = [] := List.eq_nil_of_length_eq_zero (by simpa using hB)
    exact ⟨cells, rfl, by rw [e, this]; rfl⟩
  | (i, v) :: vs, n, cells, A, B, e, hA, hB, hidx, hs => by
    simp only [List.map_cons, List.length_cons, List.range'_succ] at hidx
    injection hidx with hi hidx
    subst hi
    have hv : v.cells.toList.length = size := hs (i, v) (by simp)
    have hB1 : B = B.take size ++ B.drop size := (List.take_append_drop size B).symm
    have hBl : size ≤ B.length := by rw [hB, List.length_cons, Nat.succ_mul]; omega
    have hput := foldl_put (i * size) cells A (B.take size) (B.drop size) v.cells.toList (by rw [e, ← hB1]) hA (by rw [List.length_take, hv]; omega)
    obtain ⟨r, hr, hr2⟩ := fill_lit vs (i + 1) ((v.cells.toList.zipIdx 0).foldl (fun cs (x : Value × Nat) => cs.setIfInBounds (i * size + x.2) x.1) cells) (A ++ v.cells.toList) (B.drop size)
      (by rw [hput]; simp) (by rw [List.length_append, hA, hv, Nat.succ_mul]) (by rw [List.length_drop, hB, List.length_cons, Nat.succ_mul]; omega) hidx (fun p hp => hs p (List.mem_cons_of_mem _ hp))
    refine ⟨r, ?_, by rw [hr2]; simp⟩
    rw [← hr]
    have hsz : v.cells.size = size := by simpa using hv
    have hfit : ¬ (v.cells.size ≠ size ∨ i * size + v.cells.size > cells.size) := by
      have : cells.size = A.length + B.length := by
        have := congrArg List.length e; simpa using this
      omega
    conv => lhs; unfold Instr.fill
    dsimp only
    rw [if_neg (by simpa using hfit)]
    congr 1
    rw [← Array.foldl_toList, Array.toList_zipIdx]
theorem ok_buildSlice (hT : TabOK P T.tb) (H : Rep E w Fr mu s a) {fn : Nat} {o : Oper} {t n : Nat} {parts : Array (Nat × Operand)} (ho : o.op = .buildSlice t n parts) {d : Dyn} {s' : St} (h : opP T fn o s = some (true, d, s')) : StepOK P E w Fr mu s a o d s' := by
  unfold opP at h
  rw [ho] at h
  dsimp only at h
  split at h
  case h_2 => cases h
  rename_i e i hrow
  split at h
  case h_2 => cases h
  rename_i l s1 hlp
  split at h
  case isFalse => cases h
  rename_i hc
  injection h with h
  injection h with _ h
  injection h with h2 h3
  subst h2; subst h3
  obtain ⟨hu, hg, hsz, hw, hby, he, hza, _, hs4⟩ := rowT_ok hT hrow
  obtain ⟨it, hit, hs1, hb3, hzz⟩ := hg.info
  obtain ⟨zv, hz1, hz2, hz3, hz4⟩ := hzz hza
  obtain ⟨Fr', cells, hF, H2, hr, hlen, hll, hcells, hwid, hidx, hsafe⟩ := litParts_ok parts.toList 0 s Fr l s1 H hlp
  have hpn : parts.toList.length = n := by simpa using hc.1
  have hmk : ((parts.toList.map fun p => (p.1, a.eval p.2)).map fun p => p.2.cells.toList).flatten = cells := by
    rw [hcells, List.map_map]; rfl
  have hrun : ∃ r : Array Value, (Instr.buildSlice t n (parts.map fun (i, x) => (i, a.eval x))).run P w = .ok (.slice (some ⟨w.heap.size, 0, none⟩) n n) (w.alloc (.cells r e)) ∧ r.toList = cells := by
    by_cases hn : n = 0
    · have hp0 : parts.toList = [] := List.eq_nil_of_length_eq_zero (by rw [hpn, hn])
      have hp0' : parts = #[] := by apply Array.ext'; simpa using hp0
      subst hp0'
      subst hn
      refine ⟨(Array.range 0).map (fun _ => default), ?_, by rw [hcells]; simp⟩
      simp [Instr.buildSlice, run_underlying hu, sizeOf, typeInfo, hit, Instr.fill, newRow]
    · have hmul : n * it.size ≤ 16777216 := by
        have h1 : n ≤ 1000 := hc.2
        have := Nat.mul_le_mul h1 hs4
        rw [hs1]; omega
      obtain ⟨r, hr1, hr2⟩ := fill_lit (size := it.size) (parts.toList.map fun p => (p.1, a.eval p.2)) 0 ((Array.range (n * it.size)).map (zv.cells[· % zv.cells.size]!)) [] ((Array.range (n * it.size)).map (zv.cells[· % zv.cells.size]!)).toList rfl (by simp) (by simp; rw [← hpn]; simp) (by simpa [List.map_map, Function.comp_def] using hidx) (by
        intro p hp
        obtain ⟨q, hq, rfl⟩ := List.mem_map.1 hp
        rw [hwid q hq, hw, hs1])
      rw [hmk, List.nil_append] at hr2
      refine ⟨r, ?_, hr2⟩
      have hpos : ¬ n * it.size = 0 := by
        have : 0 < n * it.size := Nat.mul_pos (by omega) (by rw [hs1]; exact hsz)
        omega
      refine run_buildSlice w t e n _ r it zv hu hit hz1 (by omega) hpos ?_
      rw [← hr1]; congr 1; simp
  obtain ⟨r, hr1, hr2⟩ := hrun
  have hlen2 : l.length = n := by rw [hll, hpn]
  have hcl : cells.length = n * i.ty.width := by rw [rows_len (fun x l h => Rp_len i.ty x l (Ty.elt_cel he) h) hr, hlen2]
  have hmade : (w.alloc (.cells r e)).ownsRow 0 e i.ty.width (.slice (some ⟨w.heap.size, 0, none⟩) n n) l.length cells := by
    rw [hlen2, ← hr2]
    exact World.ownsRow_lit w _ n (Nat.zero_le _) (by have : n ≤ 1000 := hc.2; rw [maxLen_big]; omega) (by rw [← hcl, ← hr2]; simp)
  have hgr : Grow (fun _ => False) w (w.alloc (.cells r e)) := ⟨rfl, rfl, rfl, by simp, fun k hk _ => alloc_kept w _ k hk⟩
  refine ⟨_, _, _, Fr', _, ?_, .inl rfl, VR_own (by rw [upd_same]), ?_, new_row (L := ⟨w.heap.size, .slice (some ⟨w.heap.size, 0, none⟩) n n⟩) H2 he hgr rfl (.inr ⟨rfl, hmade⟩) (fun _ => ⟨Nat.le_refl _, by simp⟩) hr, Kept.trans ⟨hsafe, fun _ _ _ => rfl⟩ (Kept.new H2.si hgr)⟩
  · unfold execOp
    simp only [ho, Sem.run_bind, hr1, Result.andThen_ok]; rfl
  · show _ < _; simp [St.new]
end
end Go.Abs
set_option autoImplicit false
set_option linter.unusedVariables false
namespace Go.Abs

section
variable {P : Program} {T : Told} {E : Env} {w : World} {Fr : Nat → Prop} {mu : Nat → Loc} {s : St} {a : Act}

theorem low_val (H : Rep E w Fr mu s a) {lo : Option Operand} {b : Int} (h : lowB (lo.map s.get) = some b) : (lo = none ∧ b = 0) ∨ ∃ x k, lo = some x ∧ a.eval x = .int k b := by
  cases lo with
  | none => injection h with h; exact .inl ⟨rfl, h.symm⟩
  | some x =>
    have hx := (H.op x).1
    have h : lowB (some (s.get x)) = some b := h
    unfold lowB at h
    split at h
    · rename_i k n hq
      injection h with h
      injection hq with hq
      rw [hq] at hx
      exact .inr ⟨x, _, rfl, by rw [← h]; exact VR_int hx⟩
    · cases h
    · rename_i hq; cases hq
theorem high_val (H : Rep E w Fr mu s a) {hi : Option Operand} {n : Nat} {b : Int} (h : bound (hi.map s.get) n = some b) : (hi = none ∧ b = n) ∨ ∃ x k, hi = some x ∧ a.eval x = .int k b := by
  cases hi with
  | none => injection h with h; exact .inl ⟨rfl, h.symm⟩
  | some x =>
    have hx := (H.op x).1
    have h : bound (some (s.get x)) n = some b := h
    unfold bound at h
    split at h
    · rename_i k n hq
      injection h with h
      injection hq with hq
      rw [hq] at hx
      exact .inr ⟨x, _, rfl, by rw [← h]; exact VR_int hx⟩
    · cases h
    · rename_i hq; cases hq
theorem inB_true {a b n : Int} (h : inB a b n = true) : 0 ≤ a ∧ a ≤ b ∧ b ≤ n := by
  unfold inB at h
  obtain ⟨h1, h2⟩ := andB_true h
  obtain ⟨h2, h3⟩ := andB_true h2
  exact ⟨leI_true h1, leI_true h2, leI_true h3⟩
theorem run_bounds (H : Rep E w Fr mu s a) {lo hi : Option Operand} {n cap : Nat} {b h : Int} (hl : lowB (lo.map s.get) = some b) (hh : bound (hi.map s.get) n = some h) (hin : inB b h (ofN n) = true) (hc : n ≤ cap) (sl : Bool) (w' : World) :
    (Instr.sliceBounds sl n cap (lo.map a.eval) (hi.map a.eval) none).run P w' = .ok (b.toNat, h.toNat, cap) w' := by
  obtain ⟨h0, h1, h2⟩ := inB_true hin
  have h2 : h ≤ (n : Int) := h2
  have c1 : (0 ≤ h ∧ h ≤ (cap : Int)) := ⟨by omega, by omega⟩
  have c2 : (0 ≤ b ∧ b ≤ (h.toNat : Int)) := ⟨h0, by omega⟩
  have c3 : (0 ≤ b ∧ b ≤ (n : Int)) := ⟨h0, by omega⟩
  rcases low_val H hl with ⟨rfl, rfl⟩ | ⟨x, k, rfl, hx⟩ <;> rcases high_val H hh with ⟨rfl, rfl⟩ | ⟨y, j, rfl, hy⟩
  · simp [Instr.sliceBounds]
  · simp [Instr.sliceBounds, Instr.sliceBound, asIntOf, hy, c1]
  · have : ((n : Int)).toNat = n := by omega
    simp [Instr.sliceBounds, Instr.sliceBound, asIntOf, hx, c3]
  · have c4 : ¬ (max h 0 < b) := by omega
    simp [Instr.sliceBounds, Instr.sliceBound, asIntOf, hx, hy, c1, c2, c4]
theorem ex_slice {o : Oper} {t : Nat} {x : Operand} {lo hi : Option Operand} (ho : o.op = .slice t x lo hi none) {d : TypeDesc} (hu : P.underlying t = some d) (hd : ∀ n e, d ≠ .array n e) {v : Value} (h : (Instr.slice t (a.eval x) (lo.map a.eval) (hi.map a.eval) none).run P w = .ok v w) :
    (execOp a.eval o).run P w = .ok (.value v) w := by
  have h2 : (Instr.sliceAt t (a.eval x) (lo.map a.eval) (hi.map a.eval) none).run P w = .ok v w := by
    unfold Instr.sliceAt
    rw [Sem.run_bind, run_underlying hu w]
    simp only [Result.andThen_ok]
    cases d <;> first | exact h | (exact absurd rfl (hd _ _))
  unfold execOp
  simp only [ho, Option.map_none, Sem.run_bind, h2, Result.andThen_ok]; rfl
/-- A part of a row of things. -/
theorem rows_part {A : Type} {f : A → List Value → Prop} {n : Nat} (h : ∀ x l, f x l → l.length = n) {xs : List A} {l : List Value} (hr : rows f xs l) (i j : Nat) : rows f ((xs.drop i).take (j - i)) ((l.drop (i * n)).take ((j - i) * n)) :=
  rows_take h (rows_drop h hr i) (j - i)
theorem At.part {b o : Nat} {c : List Value} (h : At w b o c) (i n : Nat) : At w b (o + i) ((c.drop i).take n) := by
  intro k v hk
  rw [List.getElem?_take] at hk
  split at hk
  · rw [List.getElem?_drop] at hk
    have := h _ v hk
    rwa [Nat.add_assoc]
  · cases hk
/-- A part of a list that lies in memory. -/
theorem part_list {t e : Nat} {ti : TI} (hu : P.underlying t = some (.slice e)) (hg : Good P e ti) (H : Rep E w Fr mu s a) {lo hi : Option Operand} {b h : Int} {u : Ty} (hw : u.width = ti.siz) {l : List (den u)} {ad : Option Addr} {c : Nat} {cells : List Value} {Fr' : Nat → Prop}
    (he : u.elt = true) (hlen : l.length ≤ c) (hr : rows (fun x l => Rp w Fr' mu u x l) l cells) (hat : l = [] ∨ ∃ b o, ad = some ⟨b, o, none⟩ ∧ Fr' b ∧ At w b o cells)
    (hl : lowB (lo.map s.get) = some b) (hh : bound (hi.map s.get) (lenL u l) = some h) (hin : inB b h (ofN (lenL u l)) = true) :
    ∃ v, (∀ w' : World, (Instr.slice t (.slice ad l.length c) (lo.map a.eval) (hi.map a.eval) none).run P w' = .ok v w') ∧ VR w Fr' mu ⟨.list u, subL u l (toN b) (toN h)⟩ v := by
  have hb := run_bounds (P := P) H hl hh hin hlen true
  have hb : ∀ w' : World, (Instr.sliceBounds true l.length c (lo.map a.eval) (hi.map a.eval) none).run P w' = .ok (b.toNat, h.toNat, c) w' := hb
  obtain ⟨h0, h1, h2⟩ := inB_true hin
  have h2 : h ≤ (l.length : Int) := h2
  refine ⟨.slice (if c = b.toNat then ad else ad.map (·.add (b.toNat * ti.siz))) (h.toNat - b.toNat) (c - b.toNat), ?_, ?_⟩
  · intro w'
    simp [Instr.slice, run_underlying hu, hb w', hg.size w']
  · have hsl : (subL u l (toN b) (toN h)).length = h.toNat - b.toNat := by
      simp only [subL, toN, List.length_take, List.length_drop]; omega
    refine ⟨he, _, c - b.toNat, (cells.drop (b.toNat * u.width)).take ((h.toNat - b.toNat) * u.width), by rw [hsl], by rw [hsl]; omega, rows_part (fun x l h => Rp_len u x l (Ty.elt_cel he) h) hr _ _, ?_⟩
    by_cases hemp : subL u l (toN b) (toN h) = []
    · exact .inl hemp
    · right
      have hlt : b.toNat < h.toNat := by
        have : 0 < (subL u l (toN b) (toN h)).length := List.length_pos_iff.2 hemp
        omega
      rcases hat with rfl | ⟨blk, off, rfl, hF, hat⟩
      · simp at h2; omega
      · refine ⟨blk, off + b.toNat * u.width, ?_, hF, hat.part _ _⟩
        rw [if_neg (by omega)]
        simp [addr_add, hw]
theorem ok_slice (hT : TabOK P T.tb) (H : Rep E w Fr mu s a) {fn : Nat} {o : Oper} {t : Nat} {x : Operand} {lo hi : Option Operand} (ho : o.op = .slice t x lo hi none) {d : Dyn} {s' : St} (h : opP T fn o s = some (true, d, s')) : StepOK P E w Fr mu s a o d s' := by
  unfold opP at h
  rw [ho] at h
  dsimp only at h
  have hx := (H.op x).1
  have hxn := (H.op x).2
  split at h
  · cases h
  rename_i b hlo
  split at h
  · rename_i hti hq
    split at h
    case h_2 => cases h
    rename_i hv hhi
    injection h with h
    injection h with hb h
    injection h with h2 h3
    subst h2; subst h3
    rw [hq] at hx
    have hx := VR_str hx
    have hu := (hT _ _ hti).und
    dsimp only at hu
    refine .pure H (v := .string (subS _ (toN b) (toN hv))) (ex_slice ho hu (by simp) ?_) rfl trivial
    have hbb := run_bounds (P := P) H hlo hhi hb (Nat.le_refl _) false w
    rw [hx]
    unfold lenS at hbb
    simp [Instr.slice, run_underlying hu, hbb]
    rfl
  · rename_i e eqs siz byt zer ty u l hti hq
    split at h
    case h_2 => cases h
    rename_i ti hv hti' hhi
    split at h
    case isFalse => cases h
    rename_i hw
    injection h with h
    injection h with hb h
    injection h with h2 h3
    subst h2; subst h3
    rw [hq] at hx
    have hu := (hT _ _ hti).und
    dsimp only at hu
    obtain ⟨he, ad, c, cells, e1, hlen, hr, hat⟩ := hx
    injection e1 with e1
    obtain ⟨v, hv1, hv2⟩ := part_list hu (hT _ _ hti') H hw he hlen hr hat hlo hhi hb
    exact .pure H (ex_slice ho hu (by simp) (by rw [e1]; exact hv1 w)) hv2 trivial
  · rename_i e eqs siz byt zer ty e' _ hti hq
    split at h
    case h_2 => cases h
    rename_i hv tie hhi hte
    injection h with h
    injection h with hb h
    injection h with h2 h3
    subst h2; subst h3
    rw [hq] at hx
    injection (show [a.eval x] = [_] from hx) with hx
    have hu := (hT _ _ hti).und
    dsimp only at hu
    have hbb := run_bounds (P := P) (n := 0) (cap := 0) H hlo hhi hb (Nat.le_refl _) true w
    obtain ⟨h0, h1, h2⟩ := inB_true hb
    have h2 : hv ≤ (0 : Int) := h2
    have eb : b.toNat = 0 := by omega
    have eh : hv.toNat = 0 := by omega
    rw [eb, eh] at hbb
    refine .pure H (v := .slice none 0 0) (ex_slice ho hu (by simp) ?_) rfl trivial
    rw [hx]
    simp [Instr.slice, run_underlying hu, hbb, (hT _ _ hte).size w]
  · rename_i e eqs siz byt zer ty u i _ hti hq
    split at h
    case h_2 => cases h
    rename_i l ti hl hti'
    split at h
    case isFalse => cases h
    rename_i hw
    split at h
    case h_2 => cases h
    rename_i hv hhi
    rw [hq] at hx hxn
    injection (show [a.eval x] = [_] from hx) with hxe
    clear hx
    have hu := (hT _ _ hti).und
    dsimp only at hu
    obtain ⟨e0, f0, ho0⟩ := rowOf_some hl
    obtain ⟨he, cells, hr, hcs⟩ := row_cells (H.si.obj i _ ho0)
    split at h
    · -- the row made shorter
      split at h
      case h_2 => cases h
      split at h
      case h_2 => cases h
      rename_i e' u' f' l' hob
      split at h
      case isFalse => cases h
      rename_i hu'
      subst hu'
      injection h with h
      injection h with hb h
      injection h with h2 h3
      subst h2; subst h3
      have hob' := obj_some hob (by simp)
      rw [ho0] at hob'
      injection hob' with hob'
      injection hob' with hob1 hob2
      injection hob1 with hob3 _ _
      subst hob3
      have hb0 : b = 0 := by
        rcases low_val H hlo with ⟨_, h⟩ | ⟨x, k, h, _⟩
        · exact h
        · cases h
      subst hb0
      obtain ⟨h0, h1, h2⟩ := inB_true hb
      have h2 : hv ≤ (l.length : Int) := h2
      have hjl : i < s.heap.length := (List.getElem?_eq_some_iff.1 ho0).1
      have hsl : (subL u' l 0 (toN hv)).length = hv.toNat := by
        simp only [subL, toN, List.drop_zero, List.length_take]; omega
      have hcl : cells.length = l.length * u'.width := rows_len (fun x l h => Rp_len u' x l (Ty.elt_cel he) h) hr
      have hrp : rows (fun x l => Rp w Fr mu u' x l) (subL u' l 0 (toN hv)) (cells.take (hv.toNat * u'.width)) := by
        have := rows_take (fun x l h => Rp_len u' x l (Ty.elt_cel he) h) hr hv.toNat
        simpa [subL, toN] using this
      -- the slice then
      have hnew : ∃ L : Loc, (Instr.slice t (mu i).hdr ((none : Option Operand).map a.eval) (hi.map a.eval) none).run P w = .ok L.hdr w ∧ L.hdr.oneCell' = true ∧ RowAt w L e0 u'.width hv.toNat (cells.take (hv.toNat * u'.width)) ∧
          (L.hdr.ownBlock = some L.loc → occ mu i (⟨.row e0 u' f0, l⟩ : AObj) ∧ L.loc = (mu i).loc ∧ L.loc < w.heap.size) := by
        obtain ⟨_, cells0, _, hat0⟩ := H.si.obj i _ ho0
        rcases hat0 with ⟨ad, h3, hn0, hno⟩ | ⟨hob1, hown⟩
        · have hnil : l = [] := List.eq_nil_of_length_eq_zero hn0
          subst hnil
          have hv0 : hv.toNat = 0 := by simp at h2; omega
          have hbb := run_bounds (P := P) (n := 0) (cap := 0) H hlo hhi hb (Nat.le_refl _) true w
          rw [hv0] at hbb
          rw [hv0]
          refine ⟨mu i, ?_, by rw [h3]; rfl, .inl ⟨ad, h3, rfl, hno⟩, fun hc => absurd hc hno⟩
          rw [h3]
          simp at hbb
          simp [Instr.slice, run_underlying hu, (hT _ _ hti').size w, hbb]
        rcases hcs with ⟨ad, h3, hnil⟩ | ⟨cap, cur, hh, hn, hm, hocc, hcell, hsz, htk, hat⟩
        · subst hnil
          have hv0 : hv.toNat = 0 := by simp at h2; omega
          have hbb := run_bounds (P := P) (n := 0) (cap := 0) H hlo hhi hb (Nat.le_refl _) true w
          rw [hv0] at hbb
          rw [hv0]
          refine ⟨mu i, ?_, by rw [h3]; rfl, .inr ⟨hob1, by
            have hown' : w.ownsRow 0 e0 u'.width (mu i).hdr 0 cells0 := hown
            have hc0 : cells0 = [] := List.eq_nil_of_length_eq_zero (by rw [hown'.1]; simp)
            rw [Nat.zero_mul, List.take_zero, ← hc0]
            exact hown'⟩, fun hc => ⟨hc, rfl, (H.si.own i _ ho0 hc).2.2⟩⟩
          rw [h3]
          simp at hbb
          simp [Instr.slice, run_underlying hu, (hT _ _ hti').size w, hbb]
        · have hbb := run_bounds (P := P) H hlo hhi hb hn true w
          refine ⟨⟨(mu i).loc, .slice (some ⟨(mu i).loc, 0, none⟩) hv.toNat cap⟩, ?_, rfl, .inr ⟨rfl, ?_⟩, fun _ => ⟨hocc, rfl, (Array.getElem?_eq_some_iff.1 hcell).1⟩⟩
          · rw [hh]
            have hbb : (Instr.sliceBounds true l.length cap ((none : Option Operand).map a.eval) (hi.map a.eval) none).run P w = .ok (0, hv.toNat, cap) w := hbb
            simp at hbb
            simp [Instr.slice, run_underlying hu, hbb, (hT _ _ hti').size w, addr_add]
          · refine ⟨?_, .inr ⟨(mu i).loc, cap, cur, rfl, Nat.zero_le _, hcell, by omega, hm, hsz, ?_⟩⟩
            · rw [List.length_take, hcl, Nat.min_eq_left (Nat.mul_le_mul_right _ (by omega))]
            · rw [← htk, List.take_take, Nat.min_eq_left (Nat.mul_le_mul_right _ (by omega))]
      obtain ⟨L, hr1, hr2, hr3, hr4⟩ := hnew
      have hrep := H.setObj (r := killR [i]) (w' := w) (L := L) (o := ⟨.row e0 u' false, subL u' l 0 (toN hv)⟩) ho0 (killR_T [i])
        (killR_OK H.si.hh (fun _ _ => rfl) (fun k hk hne => upd_ne (by simpa using hne))) (fun t x h => killR_okN [i] t x h) (Grow.refl _ w) hr2
        (by
          refine ⟨he, cells.take (hv.toNat * u'.width), ?_, ?_⟩
          · exact rows_mono (fun x l h => Rp_keep (fun _ => id) (fun _ _ => rfl) u' x l (u'.pure_okN (Ty.elt_pure he)) h) hrp
          · rw [upd_same, hsl]; exact hr3)
        (by
          intro hoc
          have hoc : (upd mu i L i).hdr.ownBlock = some (upd mu i L i).loc := hoc
          rw [upd_same] at hoc
          obtain ⟨h3, h4, h5⟩ := hr4 hoc
          exact ⟨h5, .inl ⟨h3, h4⟩⟩)
        (fun t x e => by cases e) (fun _ => trivial)
      refine ⟨_, L.hdr, w, Fr, _, ex_slice ho hu (by simp) (by rw [hxe]; exact hr1), .inl rfl, VR_own (by rw [upd_same]), ?_, hrep, Kept.set H.si ho0 (fun t x e => by cases e) (Grow.refl _ w) (fun _ t x e => by cases e)⟩
      show _ < _; simp [Tr.st, St.setObj]; exact hjl
    · -- a part for ever
      injection h with h
      injection h with hb h
      injection h with h2 h3
      subst h2; subst h3
      have hrl := row_list (Fr' := FrL Fr mu s.heap [i]) (fun b hb => .inl hb) (fun hoc => .inr ⟨i, _, by simp, ho0, hoc, rfl⟩) (H.si.obj i _ ho0)
      obtain ⟨_, ad, c, cells', e1, hlen, hr', hat⟩ := hrl
      injection e1 with e1
      obtain ⟨v, hv1, hv2⟩ := part_list hu (hT _ _ hti') H hw he hlen hr' hat hlo hhi hb
      exact ⟨_, v, w, _, mu, ex_slice ho hu (by simp) (by rw [hxe, e1]; exact hv1 w), .inl rfl, hv2, trivial, H.freeze [i], Kept.frz⟩
  · cases h
/-- Parts of texts and of lists that are read for ever: alike in every world. -/
theorem ok_sliceQ (hT : TabOK P T.tb) (H : Rep E w Fr mu s a) {fn : Nat} {o : Oper} {t : Nat} {x : Operand} {lo hi : Option Operand} (ho : o.op = .slice t x lo hi none) (hq0 : isPart (s.get x).t = true) {d : Dyn} {s' : St} (h : opP T fn o s = some (true, d, s')) : StepQ P w Fr mu s a o d s' := by
  unfold opP at h
  rw [ho] at h
  dsimp only at h
  have hx := (H.op x).1
  split at h
  · cases h
  rename_i b hlo
  split at h
  · rename_i hti hq
    split at h
    case h_2 => cases h
    rename_i hv hhi
    injection h with h
    injection h with hb h
    injection h with h2 h3
    subst h2; subst h3
    rw [hq] at hx
    have hx := VR_str hx
    have hu := (hT _ _ hti).und
    dsimp only at hu
    refine .mk (v := .string (subS _ (toN b) (toN hv))) (fun w' => ex_slice ho hu (by simp) ?_) rfl trivial
    have hbb := run_bounds (P := P) H hlo hhi hb (Nat.le_refl _) false w'
    rw [hx]
    unfold lenS at hbb
    simp [Instr.slice, run_underlying hu, hbb]
    rfl
  · rename_i e eqs siz byt zer ty u l hti hq
    split at h
    case h_2 => cases h
    rename_i ti hv hti' hhi
    split at h
    case isFalse => cases h
    rename_i hw
    injection h with h
    injection h with hb h
    injection h with h2 h3
    subst h2; subst h3
    rw [hq] at hx
    have hu := (hT _ _ hti).und
    dsimp only at hu
    obtain ⟨he, ad, c, cells, e1, hlen, hr, hat⟩ := hx
    injection e1 with e1
    obtain ⟨v, hv1, hv2⟩ := part_list hu (hT _ _ hti') H hw he hlen hr hat hlo hhi hb
    exact .mk (fun w' => ex_slice ho hu (by simp) (by rw [e1]; exact hv1 w')) hv2 trivial
  · rename_i hq
    rw [hq] at hq0; cases hq0
  · rename_i hq
    rw [hq] at hq0; cases hq0
  · cases h
end
end Go.Abs
set_option autoImplicit false
set_option linter.unusedVariables false
namespace Go.Abs

section
variable {P : Program} {T : Told} {E : Env} {w : World} {Fr : Nat → Prop} {mu : Nat → Loc} {s : St} {a : Act}

def farBlk : Option Addr → Nat
  | some b => b.block + 1
  | none => 0
theorem new_empty (H : Rep E w Fr mu s a) {o : Oper} {e : Nat} {t : Ty} (he : t.elt = true) {ad : Option Addr} (hr : (execOp a.eval o).run P w = .ok (.value (.slice ad 0 0)) w) : StepOK P E w Fr mu s a o ⟨.own t s.heap.length, ()⟩ (s.new ⟨.row e t false, []⟩) := by
  have hne : (Value.slice ad 0 0).ownBlock ≠ some (farBlk ad) := by
    cases ad <;> simp [Value.ownBlock, farBlk]
  refine ⟨_, _, w, Fr, _, hr, .inl rfl, VR_own (by rw [upd_same]), ?_, new_row (L := ⟨farBlk ad, .slice ad 0 0⟩) H he (Grow.refl _ w) rfl (.inl ⟨ad, rfl, rfl, hne⟩) (fun h => absurd h hne) (cells := []) rfl, Kept.new H.si (Grow.refl _ w)⟩
  show _ < _; simp [St.new]
theorem ok_assign (hT : TabOK P T.tb) (H : Rep E w Fr mu s a) {fn : Nat} {o : Oper} {x : Operand} (ho : o.op = .assign x) {d : Dyn} {s' : St} (h : opP T fn o s = some (true, d, s')) : StepOK P E w Fr mu s a o d s' := by
  unfold opP at h
  rw [ho] at h
  dsimp only at h
  split at h
  · rename_i e0 _ hq
    split at h
    case h_2 => cases h
    rename_i e i hrow
    injection h with h
    injection h with _ h
    injection h with h2 h3
    subst h2; subst h3
    have hx := (H.op x).1
    rw [hq] at hx
    injection (show [a.eval x] = [_] from hx) with hx
    obtain ⟨_, _, _, _, _, he, _⟩ := rowT_ok hT hrow
    exact new_empty H he (ad := none) (by unfold execOp; simp [ho, hx])
  · unfold put1 at h
    split at h
    case isFalse => cases h
    injection h with h
    injection h with _ h
    injection h with h2 h3
    subst h2; subst h3
    exact (ok_move (.inr ho) H).ok H
theorem isZero_some {x : Option Operand} (h : isZero x = true) : ∃ k, x = some (.const (.int k 0)) := by
  unfold isZero at h
  split at h
  · rename_i k n
    exact ⟨k, by simp at h; rw [h]⟩
  · cases h
theorem ok_slice3 (hT : TabOK P T.tb) (H : Rep E w Fr mu s a) {fn : Nat} {o : Oper} {t : Nat} {x mx : Operand} {lo hi : Option Operand} (ho : o.op = .slice t x lo hi (some mx)) {d : Dyn} {s' : St} (h : opP T fn o s = some (true, d, s')) : StepOK P E w Fr mu s a o d s' := by
  unfold opP at h
  rw [ho] at h
  dsimp only at h
  split at h
  case isFalse => cases h
  rename_i hz
  simp only [Bool.and_eq_true, Option.isNone_iff_eq_none] at hz
  obtain ⟨⟨rfl, hz1⟩, hz2⟩ := hz
  obtain ⟨k1, rfl⟩ := isZero_some hz1
  obtain ⟨k2, hz3⟩ := isZero_some hz2
  injection hz3 with hz3
  subst hz3
  have hx := (H.op x).1
  have key : ∀ e i, rowT T t = some (e, i) → (∃ ad n c, a.eval x = .slice ad n c) → StepOK P E w Fr mu s a o ⟨.own i.ty s.heap.length, ()⟩ (s.new ⟨.row e i.ty false, []⟩) := by
    rintro e i hrow ⟨ad, n, c, hv⟩
    obtain ⟨hu, hg, _, _, _, he, _⟩ := rowT_ok hT hrow
    refine new_empty H he (ad := ad) ?_
    have h1 : (Instr.slice t (.slice ad n c) none (some (.int k1 0)) (some (.int k2 0))).run P w = .ok (.slice ad 0 0) w := by
      simp [Instr.slice, run_underlying hu, Instr.sliceBounds, Instr.sliceBound, asIntOf, hg.size w]
    have h2 : (Instr.sliceAt t (.slice ad n c) none (some (.int k1 0)) (some (.int k2 0))).run P w = .ok (.slice ad 0 0) w := by
      unfold Instr.sliceAt
      rw [Sem.run_bind, run_underlying hu w]
      exact h1
    have h3 : ∀ k, a.eval (.const (.int k 0)) = .int k 0 := fun _ => rfl
    unfold execOp
    simp only [ho, Option.map_none, Option.map_some, hv, h3, Sem.run_bind, h2, Result.andThen_ok]; rfl
  split at h <;> first | (cases h; done) | skip
  · rename_i e i u l hrow hq
    injection h with h
    injection h with _ h
    injection h with h2 h3
    subst h2; subst h3
    rw [hq] at hx
    obtain ⟨_, ad, c, cells, e1, _⟩ := hx
    injection e1 with e1
    exact key e i hrow ⟨_, _, _, e1⟩
  · rename_i e i e' _ hrow hq
    injection h with h
    injection h with _ h
    injection h with h2 h3
    subst h2; subst h3
    rw [hq] at hx
    injection (show [a.eval x] = [_] from hx) with hx
    exact key e i hrow ⟨_, _, _, hx⟩
  · rename_i e i u j _ hrow hq
    split at h
    case h_2 => cases h
    rename_i l hl
    injection h with h
    injection h with _ h
    injection h with h2 h3
    subst h2; subst h3
    rw [hq] at hx
    injection (show [a.eval x] = [_] from hx) with hxe
    obtain ⟨e0, f0, ho0⟩ := rowOf_some hl
    obtain ⟨he, cells, hr, hcs⟩ := row_cells (H.si.obj j _ ho0)
    rcases hcs with ⟨ad, h0, hnil⟩ | ⟨cap, cur, hh, _⟩
    · exact key e i hrow ⟨_, _, _, hxe.trans h0⟩
    · exact key e i hrow ⟨_, _, _, hxe.trans hh⟩
theorem ok_move' (H : Rep E w Fr mu s a) {fn : Nat} {o : Oper} {x : Operand} (ho : o.op = .move x) {d : Dyn} {s' : St} (h : opP T fn o s = some (true, d, s')) : StepQ P w Fr mu s a o d s' := by
  unfold opP at h
  rw [ho] at h
  dsimp only at h
  unfold put1 at h
  split at h
  case isFalse => cases h
  injection h with h
  injection h with _ h
  injection h with h2 h3
  subst h2; subst h3
  exact ok_move (.inl ho) H
theorem opP_ok (hT : TabOK P T.tb) (H : Rep E w Fr mu s a) {fn : Nat} {o : Oper} {d : Dyn} {s' : St} (h : opP T fn o s = some (true, d, s')) : StepOK P E w Fr mu s a o d s' := by
  have h0 := h
  cases ho : o.op
  case move x => exact (ok_move' H ho h).ok H
  case assign x => exact ok_assign hT H ho h
  case alloc t => exact ok_alloc hT H ho h
  case box t x => exact ok_box H ho h
  case build t ps => exact (ok_build hT H ho h).ok H
  case buildSlice t n ps => exact ok_buildSlice hT H ho h
  case load t x => exact ok_load hT H ho h
  case store t x y => exact ok_store hT H ho h
  case nilCheck x => exact (ok_nilCheck H ho h).ok H
  case binOp op xt x y yt => exact (ok_binOp hT H ho h).ok H
  case unOp op xt x => exact (ok_unOp H ho h).ok H
  case convert src dst x => exact (ok_convert hT H ho h).ok H
  case fieldAddr t x f => exact (ok_fieldAddr hT H ho h).ok H
  case field t x f => exact (ok_field hT H ho h).ok H
  case indexAddr t x y => exact (ok_indexAddr hT H ho h).ok H
  case index t x y => exact (ok_index hT H ho h).ok H
  case makeSlice t x y => exact ok_makeSlice hT H ho h
  case extract x i => exact (ok_extract H ho h).ok H
  case slice t x lo hi mx =>
    cases mx with
    | none => exact ok_slice hT H ho h
    | some mx => exact ok_slice3 hT H ho h
  case makeFunc f first cap =>
    cases f with
    | func f => exact (ok_makeFunc H ho h).ok H
    | _ => unfold opP at h; rw [ho] at h; cases h
  case call c =>
    obtain ⟨callee, args, ats⟩ := c
    unfold opP at h
    rw [ho] at h
    dsimp only at h
    cases callee with
    | builtin b =>
      dsimp only at h
      cases b <;> first
        | exact (ok_len hT H ho h).ok H
        | exact ok_minmax H (.inl rfl) ho h
        | exact ok_minmax H (.inr rfl) ho h
        | exact ok_append hT H ho h
        | (exfalso; unfold builtinP at h; revert h; generalize args.toList.map s.get = l1; generalize ats.toList = l2; intro h; rcases l1 with _ | ⟨p, _ | ⟨q, l⟩⟩ <;> rcases l2 with _ | ⟨t, _ | ⟨u, _ | _⟩⟩ <;> cases h)
    | _ => cases h
  all_goals (unfold opP at h; rw [ho] at h; cases h)
end
end Go.Abs
set_option autoImplicit false
set_option linter.unusedVariables false
namespace Go.Abs

/-- What a call is handed. -/
structure Pre (w : World) (Fr : Nat → Prop) (mu : Nat → Loc) (objs : List AObj) (args : List Dyn) (vs : List Value) : Prop where
  so : SO w Fr mu objs
  frL : ∀ b, Fr b → b < w.heap.size
  len : args.length = vs.length
  val : ∀ (i : Nat) (d : Dyn) (v : Value), args[i]? = some d → vs[i]? = some v → VR w Fr mu d v ∧ d.t.okN (· < objs.length)
/-- The state in which a function begins. -/
def env (w : World) (Fr : Nat → Prop) (mu : Nat → Loc) (objs : List AObj) : Env := ⟨w, Fr, Mine mu objs, mu, objs.length⟩
/-- What a call leaves. -/
structure Post (w : World) (Fr : Nat → Prop) (mu : Nat → Loc) (objs : List AObj) (d : Dyn) (os : List AObj) (v : Value) (w' : World) (Fr' : Nat → Prop) (mu' : Nat → Loc) : Prop where
  si : SI (env w Fr mu objs) w' Fr' mu' os
  val : VR w' Fr' mu' d v
  ok : d.t.okN (· < os.length)
/-- A function that a call enters. -/
def Enters (P : Program) (f : Nat) : Prop := ∃ fn, P.funcs[f]? = some fn ∧ fn.body.isSome = true ∧ fn.name ≠ "runtime.NumGoroutine"
/-- What is told of a function by its answers holds of its calls. -/
def Sound (P : Program) (C : AbsFn) : Prop := ∀ (f : Nat) (args : List Dyn) (objs : List AObj) (rt : Ty) (ots : List OTy) (r : denR rt ots), C f args objs rt ots = some r → Enters P f ∧
  ∀ (w : World) (Fr : Nat → Prop) (mu : Nat → Loc) (vs : List Value), Pre w Fr mu objs args vs →
    Calls P f vs.toArray w fun e w' => ∃ v Fr' mu', e = .returned v ∧ Post w Fr mu objs ⟨rt, resT rt ots r⟩ (resO rt ots r) v w' Fr' mu'

/-! ### Values that bear no lists hang on no list -/
theorem Rp_free {w : World} {Fr Fr' : Nat → Prop} {mu : Nat → Loc} : ∀ (t : Ty) (x : den t) (l : List Value), t.bears = false → Rp w Fr mu t x l → Rp w Fr' mu t x l
  | .list _, _, _, hb, _ => by cases hb
  | .eptr _ _, _, _, hb, _ => by cases hb
  | .arr n t, xs, l, hb, h => ⟨h.1, h.2.1, rows_mono (fun x l h => Rp_free t x l hb h) h.2.2⟩
  | .fn f c, x, l, hb, h => by obtain ⟨vs, e, hr⟩ := h; exact ⟨vs, e, Rp_free c x vs hb hr⟩
  | .pair a b, x, l, hb, h => by
    simp only [Ty.bears, Bool.or_eq_false_iff] at hb
    obtain ⟨l1, l2, e, h1, h2⟩ := h
    exact ⟨l1, l2, e, Rp_free a _ _ hb.1 h1, Rp_free b _ _ hb.2 h2⟩
  | .tcons a b, x, l, hb, h => by
    simp only [Ty.bears, Bool.or_eq_false_iff] at hb
    obtain ⟨v, vs, e, h1, h2⟩ := h
    refine ⟨v, vs, e, ?_, Rp_free b _ _ hb.2 h2⟩
    revert h1
    cases a.vk with
    | dead => exact id
    | agg => rintro ⟨hc, cs, e, h⟩; exact ⟨hc, cs, e, Rp_free a _ _ hb.1 h⟩
    | tup => exact id
    | one => exact fun h => Rp_free a _ _ hb.1 h
  | .dead, _, _, _, h => h | .nil _, _, _, _, h => h | .nilptr, _, _, _, h => h | .nilfn, _, _, _, h => h | .bool, _, _, _, h => h | .int _, _, _, _, h => h | .str, _, _, _, h => h
  | .own _ _, _, _, _, h => h | .ptr _ _, _, _, _, h => h | .rptr _ _ _, _, _, _, h => h | .aptr _ _ _ _ _, _, _, _, h => h | .unit, _, _, _, h => h | .tnil, _, _, _, h => h
theorem VR_free {w : World} {Fr Fr' : Nat → Prop} {mu : Nat → Loc} {d : Dyn} {v : Value} (hb : d.t.bears = false) (h : VR w Fr mu d v) : VR w Fr' mu d v := by
  unfold VR at *
  split at h
  · trivial
  · obtain ⟨hc, cs, e, h⟩ := h; exact ⟨hc, cs, e, Rp_free _ _ _ hb h⟩
  · obtain ⟨cs, e, h⟩ := h; exact ⟨cs, e, Rp_free _ _ _ hb h⟩
  · exact Rp_free _ _ _ hb h
theorem OR_free {w : World} {Fr Fr' : Nat → Prop} {mu : Nat → Loc} {i : Nat} {o : AObj} (hb : o.t.bears = false) (h : OR w Fr mu i o) : OR w Fr' mu i o := by
  obtain ⟨t, x⟩ := o
  cases t with
  | gone => trivial
  | box t => obtain ⟨hc, cells, e, h1, h2⟩ := h; exact ⟨hc, cells, e, h1, Rp_free t x cells hb h2⟩
  | row e t f => obtain ⟨he, cells, h1, h2⟩ := h; exact ⟨he, cells, rows_mono (fun x l h => Rp_free t x l hb h) h1, h2⟩
theorem objsOf_types : ∀ (ts : List OTy) (x : denOs ts), (objsOf ts x).map (·.t) = ts
  | [], _ => rfl
  | t :: ts, x => by show t :: (objsOf ts x.2).map (·.t) = _; rw [objsOf_types ts x.2]
theorem resO_types (t : Ty) (ots : List OTy) (r : denR t ots) : (resO t ots r).map (·.t) = ots := by
  cases ots with
  | nil => rfl
  | cons o os => exact objsOf_types (o :: os) r.2

section
variable {P : Program} {T : Told} {C : AbsFn} {E : Env} {w : World} {Fr : Nat → Prop} {mu : Nat → Loc} {s : St} {a : Act}

/-- Arguments as they are handed. -/
theorem handArgs_ok (H : Rep E w Fr mu s a) : ∀ (ps : List (Option Ty)) (ds as : List Dyn) (vs : List Value) (ids : List Nat), handArgs s ps ds = some as → ds.length = vs.length →
    (∀ (i : Nat) (d : Dyn) (v : Value), ds[i]? = some d → vs[i]? = some v → VR w Fr mu d v ∧ d.t.okN (· < s.heap.length)) → (∀ i ∈ readIds ps ds ids, i ∈ readIds ps ds ids) →
    as.length = vs.length ∧ ∀ (i : Nat) (d : Dyn) (v : Value), as[i]? = some d → vs[i]? = some v → VR w (FrL Fr mu s.heap (readIds ps ds ids)) mu d v
  | some t :: ps, d :: ds, as, [], ids, h, hl, hv, hs => by simp at hl
  | none :: ps, d :: ds, as, [], ids, h, hl, hv, hs => by simp at hl
  | some t :: ps, d :: ds, as, v :: vs, ids, h, hl, hv, hs => by
    unfold handArgs at h
    split at h
    case h_2 => cases h
    rename_i r hr
    split at h
    case h_2 => cases h
    rename_i x hx
    split at h
    case isFalse => cases h
    injection h with h
    subst h
    obtain ⟨h1, h2⟩ := handArgs_ok H ps ds r vs (ownsT d.t ids) hr (by simpa using hl) (fun i d v hd hv' => hv (i + 1) d v (by simpa using hd) (by simpa using hv')) (fun _ => id)
    refine ⟨by simp [h1], fun i d' v' hd hv' => ?_⟩
    cases i with
    | zero =>
      simp at hd hv'
      subst hd; subst hv'
      obtain ⟨h3, h4⟩ := hv 0 d v rfl rfl
      have hmono : ∀ (ps : List (Option Ty)) (ds : List Dyn) (l : List Nat) (i : Nat), i ∈ l → i ∈ readIds ps ds l := by
        intro ps
        induction ps with
        | nil => intro ds l i hi; cases ds <;> exact hi
        | cons p ps ih =>
          intro ds l i hi
          cases ds with
          | nil => cases p <;> exact hi
          | cons d ds => cases p with
            | none => exact ih ds l i hi
            | some t => exact ih ds _ i (ownsT_mono d.t l i hi)
      have := coe_VR (u := t) (Fr' := FrL Fr mu s.heap (readIds ps ds (ownsT d.t ids))) (q := fun i => i ∈ ownsT d.t ids) H.si (fun b hb => .inl hb)
        (fun i o hi ho hoc => .inr ⟨i, o, hmono ps ds _ i hi, ho, hoc, rfl⟩) (ownsT_ok d.t ids (fun _ => id)) h3
      rw [as_some hx] at this
      exact this
    | succ i => exact h2 i d' v' (by simpa using hd) (by simpa using hv')
  | none :: ps, d :: ds, as, v :: vs, ids, h, hl, hv, hs => by
    unfold handArgs at h
    split at h
    case h_2 => cases h
    rename_i r hr
    split at h
    case isFalse => cases h
    injection h with h
    subst h
    obtain ⟨h1, h2⟩ := handArgs_ok H ps ds r vs ids hr (by simpa using hl) (fun i d v hd hv' => hv (i + 1) d v (by simpa using hd) (by simpa using hv')) (fun _ => id)
    refine ⟨by simp [h1], fun i d' v' hd hv' => ?_⟩
    cases i with
    | zero =>
      simp at hd hv'
      subst hd; subst hv'
      exact VR_keep (fun b hb => .inl hb) (fun _ _ => rfl) (Ty.okN_all (fun _ => rfl) _) (hv 0 d v rfl rfl).1
    | succ i => exact h2 i d' v' (by simpa using hd) (by simpa using hv')
  | [], ds, as, vs, ids, h, hl, hv, hs => by
    have h : (if ds.all (·.t.alive) then some ds else none) = some as := by cases ds <;> exact h
    split at h
    case isFalse => cases h
    injection h with h
    subst h
    exact ⟨hl, fun i d v hd hv' => VR_keep (fun b hb => .inl hb) (fun _ _ => rfl) (Ty.okN_all (fun _ => rfl) _) (hv i d v hd hv').1⟩
  | some _ :: _, [], as, vs, ids, h, _, _, _ => by cases h
  | none :: _, [], as, vs, ids, h, _, _, _ => by cases h
theorem posN_getD : ∀ {l : List Nat} {j : Nat}, l.Nodup → j < l.length → posN (l.getD j 0) l = j
  | i :: l, 0, _, _ => by simp [posN]
  | i :: l, j + 1, h, hj => by
    simp only [List.nodup_cons] at h
    have hj' : j < l.length := by simpa using hj
    have hm : l.getD j 0 ∈ l := by
      rw [List.getD_eq_getElem?_getD, List.getElem?_eq_getElem hj']; simp
    have hne : l.getD j 0 ≠ i := fun e => h.1 (e ▸ hm)
    show posN (l.getD j 0) (i :: l) = j + 1
    unfold posN
    rw [if_neg hne, posN_getD h.2 hj']
theorem layBack_get : ∀ (ids : List Nat) (os h : List AObj), ids.Nodup → (∀ i ∈ ids, i < h.length) → ids.length ≤ os.length →
    (layBack ids os h).length = h.length + (os.length - ids.length) ∧ ∀ i : Nat, (layBack ids os h)[i]? = if i < h.length then (if i ∈ ids then (os[posN i ids]?).map (fun o => (h.getD i gone).back o) else h[i]?) else os[i - h.length + ids.length]?
  | [], os, h, _, _, _ => by
    refine ⟨by simp [layBack], fun i => ?_⟩
    have e : layBack [] os h = h ++ os := by cases os <;> rfl
    rw [e]
    by_cases hi : i < h.length
    · rw [if_pos hi, List.getElem?_append_left hi]; simp
    · rw [if_neg hi, List.getElem?_append_right (by omega)]; simp
  | k :: ids, [], h, _, _, hl => by simp at hl
  | k :: ids, o :: os, h, hn, hb, hl => by
    simp only [List.nodup_cons] at hn
    have hkl : k < h.length := hb k (by simp)
    obtain ⟨h1, h2⟩ := layBack_get ids os (h.set k ((h.getD k gone).back o)) hn.2 (fun i hi => by simpa using hb i (List.mem_cons_of_mem _ hi)) (by simpa using hl)
    refine ⟨by show (layBack ids os _).length = _; rw [h1]; simp, fun i => ?_⟩
    show (layBack ids os (h.set k ((h.getD k gone).back o)))[i]? = _
    rw [h2 i, List.length_set]
    by_cases hi : i < h.length
    · rw [if_pos hi, if_pos hi]
      by_cases hk : i = k
      · subst hk
        rw [if_neg hn.1, if_pos (by simp), List.getElem?_set_self hkl]
        simp [posN]
      · have hmem : (i ∈ k :: ids) ↔ i ∈ ids := by simp [hk]
        by_cases hm : i ∈ ids
        · rw [if_pos hm, if_pos (hmem.2 hm)]
          have e1 : posN i (k :: ids) = posN i ids + 1 := by show (if i = k then 0 else posN i ids + 1) = _; rw [if_neg hk]
          have e2 : (h.set k ((h.getD k gone).back o)).getD i gone = h.getD i gone := by
            rw [List.getD_eq_getElem?_getD, List.getElem?_set_ne (fun e => hk e.symm), ← List.getD_eq_getElem?_getD]
          rw [e1, e2]; rfl
        · rw [if_neg hm, if_neg (fun h => hm (hmem.1 h)), List.getElem?_set_ne (fun e => hk e.symm)]
    · rw [if_neg hi, if_neg hi]
      have : i - h.length + (k :: ids).length = (i - h.length + ids.length) + 1 := by simp; omega
      rw [this]; rfl
theorem OR_back {w : World} {Fr : Nat → Prop} {mu : Nat → Loc} {i : Nat} {was o : AObj} (h : OR w Fr mu i o) : OR w Fr mu i (was.back o) := by
  obtain ⟨t, x⟩ := was
  obtain ⟨t', x'⟩ := o
  cases t <;> cases t' <;> first | exact h | exact trivial
theorem box_back {t : Ty} {x : den t} {was o : AObj} (h : (⟨.box t, x⟩ : AObj) = was.back o) : o = ⟨.box t, x⟩ := by
  obtain ⟨t1, x1⟩ := was
  obtain ⟨t', x'⟩ := o
  cases t1 <;> cases t' <;> first | exact h.symm | (injection (show (⟨.box t, x⟩ : AObj) = ⟨_, _⟩ from h) with e1 e2; cases e1)
theorem box_obj {r : Tr} {t : Ty} {x : den t} {o : AObj} (h : (⟨.box t, x⟩ : AObj) = r.obj o) : ∃ (t0 : Ty) (x0 : den t0), o = ⟨.box t0, x0⟩ ∧ t = (r.app t0 x0).t := by
  obtain ⟨t0, x0⟩ := o
  cases t0 with
  | box t0 =>
    have e' : (⟨.box t, x⟩ : AObj) = ⟨.box (r.app t0 x0).t, (r.app t0 x0).x⟩ := h
    injection e' with e1 e2
    injection e1 with e1
    exact ⟨t0, x0, rfl, e1⟩
  | row _ _ _ => injection (show (⟨.box t, x⟩ : AObj) = ⟨_, _⟩ from h) with e1 e2; cases e1
  | gone => injection (show (⟨.box t, x⟩ : AObj) = ⟨_, _⟩ from h) with e1 e2; cases e1

/-- The caller's state behind a call. -/
theorem call_back {FrB Fr2 FrC FrR : Nat → Prop} {muR : Nat → Loc} {s0 : St} (H0 : Rep E w FrB mu s0 a) {ids : List Nat} {objsC os0 : List AObj} {d : Dyn} {v : Value} {w' : World}
    (hlt : ∀ i ∈ ids, i < s0.heap.length) (hnd : ids.Nodup) (hlen : objsC.length = ids.length) (post : Post w FrC (muOf mu ids) objsC d os0 v w' FrR muR) {ts : List OTy} (hts : os0.map (·.t) = ts)
    (Q1 : ∀ (j : Nat) (o : AObj), objsC[j]? = some o → occ (muOf mu ids) j o → ∃ o0, s0.heap[ids.getD j 0]? = some o0 ∧ occ mu (ids.getD j 0) o0)
    (F1 : ∀ b, FrB b → Fr2 b) (F2 : ∀ b, Fr2 b → FrB b ∨ Mine (muOf mu ids) objsC b ∨ w.heap.size ≤ b) (F3 : ∀ b, Fr2 b → FrR b)
    (F4 : ∀ (j : Nat) (o : AObj), os0[j]? = some o → OR w' FrR muR j o → OR w' Fr2 muR j o) (F5 : VR w' FrR muR d v → VR w' Fr2 muR d v)
    (hbx : ∀ i ∈ ids, ∀ (t : Ty) (x : den t), s0.heap[i]? = some (⟨.box t, x⟩ : AObj) → ∃ (t' : Ty) (x' : den t'), os0[posN i ids]? = some (⟨.box t', x'⟩ : AObj)) :
    ∃ mu2, VR w' Fr2 mu2 ((renR fun i => if i < ids.length then ids.getD i 0 else s0.heap.length + (i - ids.length)).dyn d) v ∧
      ((renR fun i => if i < ids.length then ids.getD i 0 else s0.heap.length + (i - ids.length)).dyn d).t.okN (· < (layBack ids (os0.map (renR fun i => if i < ids.length then ids.getD i 0 else s0.heap.length + (i - ids.length)).obj) ((killR (turned ids ts)).st s0).heap).length) ∧
      Rep E w' Fr2 mu2 ⟨((killR (turned ids ts)).st s0).tmps, layBack ids (os0.map (renR fun i => if i < ids.length then ids.getD i 0 else s0.heap.length + (i - ids.length)).obj) ((killR (turned ids ts)).st s0).heap⟩ a ∧
      (∀ b, Safe FrB mu s0.heap b → Safe Fr2 mu2 (layBack ids (os0.map (renR fun i => if i < ids.length then ids.getD i 0 else s0.heap.length + (i - ids.length)).obj) ((killR (turned ids ts)).st s0).heap) b) := by
  generalize hn : s0.heap.length = n at *
  have hm : ids.length ≤ os0.length := by have := post.si.len; show _ ≤ _; simpa [env, hlen] using this
  let bk : Nat → Nat := fun i => if i < ids.length then ids.getD i 0 else n + (i - ids.length)
  let mu2 : Nat → Loc := fun i => if i < n then (if i ∈ ids then muR (posN i ids) else mu i) else muR (i - n + ids.length)
  have hmb : ∀ j, mu2 (bk j) = muR j := by
    intro j
    by_cases hj : j < ids.length
    · have hmem : ids.getD j 0 ∈ ids := by rw [List.getD_eq_getElem?_getD, List.getElem?_eq_getElem hj]; simp
      have e : bk j = ids.getD j 0 := if_pos hj
      show (if bk j < n then (if bk j ∈ ids then muR (posN (bk j) ids) else mu (bk j)) else muR (bk j - n + ids.length)) = _
      rw [e, if_pos (hlt _ hmem), if_pos hmem, posN_getD hnd hj]
    · have e : bk j = n + (j - ids.length) := if_neg hj
      show (if bk j < n then (if bk j ∈ ids then muR (posN (bk j) ids) else mu (bk j)) else muR (bk j - n + ids.length)) = _
      rw [e, if_neg (by omega)]
      congr 1; omega
  have hbl : ∀ j, j < os0.length → bk j < n + (os0.length - ids.length) := by
    intro j hj
    show (if j < ids.length then ids.getD j 0 else n + (j - ids.length)) < _
    by_cases hj' : j < ids.length
    · have hmem : ids.getD j 0 ∈ ids := by rw [List.getD_eq_getElem?_getD, List.getElem?_eq_getElem hj']; simp
      rw [if_pos hj']; have := hlt _ hmem; omega
    · rw [if_neg hj']; omega
  have hbT : TrOK w' Fr2 muR w' Fr2 mu2 (renR bk) (· < os0.length) := renR_OK fun j _ => hmb j
  -- memory
  have hMine : ∀ b, Mine (muOf mu ids) objsC b → Mine mu s0.heap b := by
    rintro b ⟨j, o, hj, ho, e⟩
    obtain ⟨o0, h0, hoc⟩ := Q1 j o hj ho
    exact ⟨ids.getD j 0, o0, h0, hoc, e⟩
  have hgrow : Grow (Mine mu s0.heap) w w' := ⟨post.si.grow.os, post.si.grow.tape, post.si.grow.output, post.si.grow.size, fun k hk hn => post.si.grow.block k hk (fun h => hn (hMine k h))⟩
  have hfr : ∀ b, FrB b → w'.heap[b]? = w.heap[b]? := fun b hb => H0.si.frKeep hgrow b hb
  -- names of rows that were turned
  have hkeep : ∀ i, i < n → i ∉ turned ids ts → mu2 i = mu i := by
    intro i hi hnt
    show (if i < n then (if i ∈ ids then _ else _) else _) = _
    rw [if_pos hi]
    by_cases hid : i ∈ ids
    · rw [if_pos hid]
      obtain ⟨hp1, hp2⟩ := posN_get hid
      have hturn : ∀ (l : List Nat) (os : List OTy), i ∈ l → i ∉ turned l os → l.Nodup → l.length ≤ os.length → (∃ e t, os[posN i l]? = some (.row e t true)) ∨ ∃ t, os[posN i l]? = some (.box t) := by
        intro l
        induction l with
        | nil => intro os h; cases h
        | cons k l ih =>
          intro os hmem hnot hnd hle
          cases os with
          | nil => simp at hle
          | cons o os =>
            simp only [List.nodup_cons] at hnd
            by_cases hk : i = k
            · subst hk
              have e : posN i (i :: l) = 0 := by simp [posN]
              rw [e]
              cases o with
              | row e t f => cases f with
                | true => exact .inl ⟨e, t, rfl⟩
                | false => exact absurd (by simp [turned]) hnot
              | box t => exact .inr ⟨t, rfl⟩
              | gone => exact absurd (by simp [turned]) hnot
            · have e : posN i (k :: l) = posN i l + 1 := by show (if i = k then 0 else _) = _; rw [if_neg hk]
              rw [e]
              have hmem' : i ∈ l := (List.mem_cons.1 hmem).resolve_left hk
              have hnot' : i ∉ turned l os := by
                intro hh
                apply hnot
                cases o with
                | row e t f => cases f with
                  | true => exact hh
                  | false => exact List.mem_cons_of_mem _ hh
                | box t => exact hh
                | gone => exact List.mem_cons_of_mem _ hh
              exact ih os hmem' hnot' hnd.2 (by simpa using hle)
      have hlts : ids.length ≤ ts.length := by rw [← hts]; simpa using hm
      have hget := hturn ids ts hid hnt hnd hlts
      rw [← hts, List.getElem?_map] at hget
      have hjo : posN i ids < os0.length := by omega
      rw [List.getElem?_eq_getElem hjo] at hget
      have hhd := post.si.hand (posN i ids) os0[posN i ids] (by show _ < objsC.length; omega) (List.getElem?_eq_getElem hjo)
      have hmc : muOf mu ids (posN i ids) = mu i := by unfold muOf; rw [hp2]
      revert hhd hget
      generalize os0[posN i ids] = oo
      obtain ⟨tt, xx⟩ := oo
      intro hget hhd
      rcases hget with ⟨e, t, hg⟩ | ⟨t, hg⟩
      · have hg : tt = .row e t true := by simpa using hg
        subst hg
        exact (show muR _ = muOf mu ids _ from hhd).trans hmc
      · have hg : tt = .box t := by simpa using hg
        subst hg
        exact (show muR _ = muOf mu ids _ from hhd).trans hmc
    · rw [if_neg hid]
  have hkT : TrOK w FrB mu w' Fr2 mu2 (killR (turned ids ts)) (· < n) := killR_OK2 F1 H0.si.hh hfr hkeep
  -- the objects then
  obtain ⟨hL1, hL2⟩ := layBack_get ids (os0.map (renR bk).obj) ((killR (turned ids ts)).st s0).heap hnd (fun i hi => by simpa [Tr.st, hn] using hlt i hi) (by simpa using hm)
  have hl0 : ((killR (turned ids ts)).st s0).heap.length = n := by simp [Tr.st, hn]
  rw [hl0] at hL1 hL2
  have hL1' : (layBack ids (os0.map (renR bk).obj) ((killR (turned ids ts)).st s0).heap).length = n + (os0.length - ids.length) := by rw [hL1]; simp
  have hcase : ∀ (i : Nat) (o' : AObj), (layBack ids (os0.map (renR bk).obj) ((killR (turned ids ts)).st s0).heap)[i]? = some o' →
      (i < n ∧ i ∉ ids ∧ mu2 i = mu i ∧ ∃ o0, s0.heap[i]? = some o0 ∧ o' = (killR (turned ids ts)).obj o0) ∨
      (∃ j o, os0[j]? = some o ∧ mu2 i = muR j ∧ bk j = i ∧ ((i < n ∧ i ∈ ids ∧ j = posN i ids ∧ o' = (((killR (turned ids ts)).st s0).heap.getD i gone).back ((renR bk).obj o)) ∨ (¬ i < n ∧ o' = (renR bk).obj o))) := by
    intro i o' hi
    rw [hL2 i] at hi
    by_cases hin : i < n
    · rw [if_pos hin] at hi
      by_cases hid : i ∈ ids
      · rw [if_pos hid] at hi
        obtain ⟨hp1, hp2⟩ := posN_get hid
        cases ho : (os0.map (renR bk).obj)[posN i ids]? with
        | none => rw [ho] at hi; cases hi
        | some o1 =>
          rw [ho] at hi
          injection hi with hi
          rw [List.getElem?_map] at ho
          cases ho2 : os0[posN i ids]? with
          | none => rw [ho2] at ho; cases ho
          | some o =>
            rw [ho2] at ho
            injection ho with ho
            refine .inr ⟨posN i ids, o, ho2, ?_, ?_, .inl ⟨hin, hid, rfl, by rw [ho]; exact hi.symm⟩⟩
            · show (if i < n then (if i ∈ ids then _ else _) else _) = _
              rw [if_pos hin, if_pos hid]
            · show (if posN i ids < ids.length then ids.getD (posN i ids) 0 else _) = i
              rw [if_pos hp1, hp2]
      · rw [if_neg hid] at hi
        obtain ⟨o0, h0, e⟩ := map_get hi
        refine .inl ⟨hin, hid, ?_, o0, h0, e⟩
        show (if i < n then (if i ∈ ids then _ else _) else _) = _
        rw [if_pos hin, if_neg hid]
    · rw [if_neg hin, List.getElem?_map] at hi
      cases ho2 : os0[i - n + ids.length]? with
      | none => rw [ho2] at hi; cases hi
      | some o =>
        rw [ho2] at hi
        injection hi with hi
        refine .inr ⟨_, o, ho2, ?_, ?_, .inr ⟨hin, hi.symm⟩⟩
        · show (if i < n then _ else _) = _
          rw [if_neg hin]
        · show (if i - n + ids.length < ids.length then _ else n + (i - n + ids.length - ids.length)) = i
          rw [if_neg (by omega)]; omega
  have hoccB : ∀ (i j : Nat) (o o' : AObj), mu2 i = muR j → ((i < n ∧ i ∈ ids ∧ j = posN i ids ∧ o' = (((killR (turned ids ts)).st s0).heap.getD i gone).back ((renR bk).obj o)) ∨ (¬ i < n ∧ o' = (renR bk).obj o)) → occ mu2 i o' → occ muR j o := by
    intro i j o o' hmu h hoc
    have : occ mu2 i ((renR bk).obj o) := by
      rcases h with ⟨_, _, _, e⟩ | ⟨_, e⟩
      · rw [e] at hoc; exact occ_back hoc
      · rw [e] at hoc; exact hoc
    rw [occ_obj] at this
    obtain ⟨t, x⟩ := o
    cases t with
    | gone => exact this
    | box t => exact this
    | row e t f =>
      have this : (mu2 i).hdr.ownBlock = some (mu2 i).loc := this
      show (muR j).hdr.ownBlock = some (muR j).loc
      rw [← hmu]; exact this
  -- a block of a callee's object is none of the others
  have hapart : ∀ (i : Nat) (o0 : AObj), s0.heap[i]? = some o0 → i ∉ ids → occ mu i o0 → ∀ b, (Mine (muOf mu ids) objsC b ∨ w.heap.size ≤ b) → (mu i).loc ≠ b := by
    intro i o0 hi hid hoc b hb
    rcases hb with ⟨j, o, hj, ho, e⟩ | hb
    · obtain ⟨o1, h1, hoc1⟩ := Q1 j o hj ho
      have hjl : j < ids.length := by rw [← hlen]; exact (List.getElem?_eq_some_iff.1 hj).1
      have hmem : ids.getD j 0 ∈ ids := by rw [List.getD_eq_getElem?_getD, List.getElem?_eq_getElem hjl]; simp
      rw [e]
      exact H0.si.sep i _ o0 o1 hi h1 (fun e => hid (e ▸ hmem)) hoc hoc1
    · have := (H0.si.own i o0 hi hoc).2.2
      omega
  have hso : SO w' Fr2 mu2 (layBack ids (os0.map (renR bk).obj) ((killR (turned ids ts)).st s0).heap) := by
    refine ⟨?_, ?_, ?_, ?_, ?_⟩
    · intro i
      show (if i < n then (if i ∈ ids then _ else _) else _ : Loc).hdr.oneCell' = true
      split
      · split
        · exact post.si.hh _
        · exact H0.si.hh _
      · exact post.si.hh _
    · intro i o' hi
      rcases hcase i o' hi with ⟨hin, hid, hmu, o0, h0, rfl⟩ | ⟨j, o, ho, hmu, hbj, hrest⟩
      · exact OR_tr (killR_T _) hkT hmu (fun t x e => by have := H0.si.nm i t x (e ▸ h0); rwa [hn] at this) (fun hoc => post.si.grow.block _ (H0.si.own i o0 h0 hoc).2.2 (fun hmi => hapart i o0 h0 hid hoc _ (.inl hmi) rfl)) (H0.si.obj i o0 h0)
      · have hor := F4 j o ho (post.si.obj j o ho)
        have := OR_tr (i' := i) (renR_T bk) hbT (i := j) hmu (fun t x e => post.si.nm j t x (e ▸ ho)) (fun _ => rfl) hor
        rcases hrest with ⟨_, _, _, e⟩ | ⟨_, e⟩
        · rw [e]; exact OR_back this
        · rw [e]; exact this
    · intro i t x hi
      rw [hL1']
      rcases hcase i _ hi with ⟨hin, hid, hmu, o0, h0, e⟩ | ⟨j, o, ho, hmu, hbj, hrest⟩
      · obtain ⟨t0, x0, rfl, rfl⟩ := box_obj e
        have := H0.si.nm i t0 x0 h0
        rw [hn] at this
        exact Ty.okN_mono (fun k hk => by omega) _ (killR_okN _ t0 x0 this)
      · have e : (⟨.box t, x⟩ : AObj) = (renR bk).obj o := by
          rcases hrest with ⟨_, _, _, e⟩ | ⟨_, e⟩
          · exact (box_back e).symm
          · exact e
        obtain ⟨t0, x0, rfl, rfl⟩ := box_obj e
        exact okN_app (r := renR bk) (p := (· < os0.length)) (q := (· < n + (os0.length - ids.length))) (fun t i hi => hbl i hi) (fun t i o x hi => hbl i hi) (fun i o hi => hbl i hi) (fun t m i b o x hi => hbl i hi) t0 x0 (post.si.nm j t0 x0 ho)
    · intro i k o1 o2 hi hk hne ho1 ho2
      rcases hcase i o1 hi with ⟨hin, hid, hmu, o0, h0, rfl⟩ | ⟨j, o, ho, hmu, hbj, hrest⟩
      · rw [occ_eq hmu, occ_obj] at ho1
        rcases hcase k o2 hk with ⟨hin', hid', hmu', o0', h0', rfl⟩ | ⟨j', o', ho', hmu', hbj', hrest'⟩
        · rw [occ_eq hmu', occ_obj] at ho2
          rw [hmu, hmu']
          exact H0.si.sep i k o0 o0' h0 h0' hne ho1 ho2
        · have hoc := hoccB k j' o' o2 hmu' hrest' ho2
          rw [hmu, hmu']
          exact hapart i o0 h0 hid ho1 _ (post.si.own j' o' ho' hoc).1
      · have hoc := hoccB i j o o1 hmu hrest ho1
        rcases hcase k o2 hk with ⟨hin', hid', hmu', o0', h0', rfl⟩ | ⟨j', o', ho', hmu', hbj', hrest'⟩
        · rw [occ_eq hmu', occ_obj] at ho2
          rw [hmu, hmu']
          exact (hapart k o0' h0' hid' ho2 _ (post.si.own j o ho hoc).1).symm
        · have hoc' := hoccB k j' o' o2 hmu' hrest' ho2
          rw [hmu, hmu']
          exact post.si.sep j j' o o' ho ho' (fun e => hne (by rw [← hbj, ← hbj', e])) hoc hoc'
    · intro i o' hi hoc
      rcases hcase i o' hi with ⟨hin, hid, hmu, o0, h0, rfl⟩ | ⟨j, o, ho, hmu, hbj, hrest⟩
      · rw [occ_eq hmu, occ_obj] at hoc
        rw [hmu]
        obtain ⟨h1, h2, h3⟩ := H0.si.own i o0 h0 hoc
        refine ⟨fun hf => ?_, Nat.lt_of_lt_of_le h3 hgrow.size⟩
        rcases F2 _ hf with hf | hf
        · exact h2 hf
        · exact hapart i o0 h0 hid hoc _ hf rfl
      · have hoc' := hoccB i j o o' hmu hrest hoc
        rw [hmu]
        obtain ⟨h1, h2, h3⟩ := post.si.own j o ho hoc'
        exact ⟨fun hf => h2 (F3 _ hf), h3⟩
  refine ⟨mu2, VR_tr (renR_T bk) hbT post.ok (F5 post.val), ?_, ⟨?_, ?_, H0.df, ?_⟩, ?_⟩
  · show ((renR bk).app d.t d.x).t.okN (· < (layBack ids (os0.map (renR bk).obj) ((killR (turned ids ts)).st s0).heap).length)
    rw [hL1']
    exact okN_app (r := renR bk) (p := (· < os0.length)) (q := (· < n + (os0.length - ids.length))) (fun t i hi => hbl i hi) (fun t i o x hi => hbl i hi) (fun i o hi => hbl i hi) (fun t m i b o x hi => hbl i hi) d.t d.x post.ok
  · refine H0.si.chg2 hgrow F1 (fun b hb => (F2 b hb).imp id (Or.imp (hMine b) id)) (fun b hb => post.si.frL b (F3 b hb)) (by rw [hn]; show n ≤ (layBack ids (os0.map (renR bk).obj) ((killR (turned ids ts)).st s0).heap).length; omega) hso ?_ ?_
    · intro i o' hi hoc
      rcases hcase i o' hi with ⟨hin, hid, hmu, o0, h0, rfl⟩ | ⟨j, o, ho, hmu, hbj, hrest⟩
      · rw [occ_eq hmu, occ_obj] at hoc
        rw [hmu]
        exact .inl ⟨i, o0, h0, hoc, rfl⟩
      · have hoc' := hoccB i j o o' hmu hrest hoc
        rw [hmu]
        exact (post.si.own j o ho hoc').1.imp (hMine _) id
    · intro i o' hiE hi
      rcases hcase i o' hi with ⟨hin, hid, hmu, o0, h0, rfl⟩ | ⟨j, o, ho, hmu, hbj, hrest⟩
      · rw [hmu]
        have := H0.si.hand i o0 hiE h0
        obtain ⟨t, x⟩ := o0
        cases t with
        | gone => trivial
        | box t => exact this
        | row e t f => exact this
      · have hin : i < n := by
          have := H0.si.len
          rw [hn] at this; omega
        rcases hrest with ⟨_, hid, hj, e⟩ | ⟨hni, _⟩
        · rw [hmu]
          obtain ⟨hp1, hp2⟩ := posN_get hid
          have hhd := post.si.hand j o (by show _ < objsC.length; omega) ho
          have hmc : muOf mu ids j = mu i := by unfold muOf; rw [hj, hp2]
          have hil : i < s0.heap.length := by omega
          have hh0 := H0.si.hand i s0.heap[i] hiE (List.getElem?_eq_getElem hil)
          have ewas : ((killR (turned ids ts)).st s0).heap.getD i gone = (killR (turned ids ts)).obj s0.heap[i] := by
            show (s0.heap.map _).getD i gone = _
            rw [List.getD_eq_getElem?_getD, List.getElem?_map, List.getElem?_eq_getElem hil]; rfl
          rw [e, ewas]
          revert hh0
          generalize s0.heap[i] = oo
          obtain ⟨tt, xx⟩ := oo
          obtain ⟨to, xo⟩ := o
          intro hh0
          have hhd : Handed (muR j) (muOf mu ids j) ⟨to, xo⟩ := hhd
          cases tt with
          | gone => cases to <;> exact trivial
          | box t =>
            cases to with
            | gone => trivial
            | box t' => exact ((show muR j = muOf mu ids j from hhd).trans hmc).trans hh0
            | row e t f => trivial
          | row e t f =>
            cases to with
            | gone => trivial
            | box t' => trivial
            | row e' t' f' =>
              cases f with
              | false => trivial
              | true => cases f' with
                | false => trivial
                | true => exact ((show muR j = muOf mu ids j from hhd).trans hmc).trans hh0
        · exact absurd hin hni
  · intro u d' hm'
    obtain ⟨⟨u0, d0⟩, hm0, e⟩ := List.mem_map.1 (show (u, d') ∈ s0.tmps.map fun p => (p.1, (killR (turned ids ts)).dyn p.2) from hm')
    injection e with e1 e2
    subst e1; subst e2
    obtain ⟨h1, h2, h3⟩ := H0.tm u0 d0 hm0
    rw [hn] at h3
    refine ⟨h1, VR_tr (killR_T _) hkT h3 h2, ?_⟩
    show ((killR (turned ids ts)).app d0.t d0.x).t.okN (· < (layBack ids (os0.map (renR bk).obj) ((killR (turned ids ts)).st s0).heap).length)
    rw [hL1']
    exact Ty.okN_mono (fun k hk => by omega) _ (killR_okN _ d0.t d0.x h3)
  · simpa [Tr.st, Function.comp_def] using H0.so
  · rintro b (hb | ⟨m, t, x, hm0, rfl⟩)
    · exact .inl (F1 b hb)
    · have hml : m < n := by rw [← hn]; exact (List.getElem?_eq_some_iff.1 hm0).1
      by_cases hid : m ∈ ids
      · obtain ⟨t', x', ho⟩ := hbx m hid t x hm0
        obtain ⟨hp1, hp2⟩ := posN_get hid
        have hhd := post.si.hand (posN m ids) _ (by show _ < objsC.length; omega) ho
        have hhd : muR (posN m ids) = muOf mu ids (posN m ids) := hhd
        have hmc : muOf mu ids (posN m ids) = mu m := by unfold muOf; rw [hp2]
        have hmu : mu2 m = mu m := by
          show (if m < n then (if m ∈ ids then muR (posN m ids) else mu m) else _) = _
          rw [if_pos hml, if_pos hid, hhd, hmc]
        refine .inr ⟨m, ((renR bk).app t' x').t, ((renR bk).app t' x').x, ?_, by rw [hmu]⟩
        have hg := hL2 m
        rw [if_pos hml, if_pos hid, List.getElem?_map, ho] at hg
        have ewas : ((killR (turned ids ts)).st s0).heap.getD m gone = (killR (turned ids ts)).obj ⟨.box t, x⟩ := by
          show (s0.heap.map _).getD m gone = _
          rw [List.getD_eq_getElem?_getD, List.getElem?_map, hm0]; rfl
        rw [ewas] at hg
        exact hg
      · have hmu : mu2 m = mu m := by
          show (if m < n then (if m ∈ ids then muR (posN m ids) else mu m) else _) = _
          rw [if_pos hml, if_neg hid]
        refine .inr ⟨m, ((killR (turned ids ts)).app t x).t, ((killR (turned ids ts)).app t x).x, ?_, by rw [hmu]⟩
        have hg := hL2 m
        rw [if_pos hml, if_neg hid] at hg
        have : ((killR (turned ids ts)).st s0).heap[m]? = some ((killR (turned ids ts)).obj ⟨.box t, x⟩) := by
          show (s0.heap.map _)[m]? = _
          rw [List.getElem?_map, hm0]; rfl
        rw [this] at hg
        exact hg
theorem noneIn_ok {l m : List Nat} (h : noneIn l m = true) : ∀ i ∈ l, i ∉ m := by
  unfold noneIn at h
  intro i hi
  simpa using List.all_eq_true.1 h i hi
/-- A call, as the interpreter tells it. -/
theorem callD_ok (hC : Sound P C) (H : Rep E w Fr mu s a) {R : Type} {f : Nat} {args : List Dyn} {K : Dyn → St → Option R} {r : R} (h : callD T C f args s K = some r) {vs : List Value} (hl : args.length = vs.length)
    (hv : ∀ (i : Nat) (d : Dyn) (v : Value), args[i]? = some d → vs[i]? = some v → VR w Fr mu d v ∧ d.t.okN (· < s.heap.length)) :
    Enters P f ∧ Calls P f vs.toArray w fun e w' => ∃ v d s' Fr' mu', e = .returned v ∧ K d s' = some r ∧ VR w' Fr' mu' d v ∧ d.t.okN (· < s'.heap.length) ∧ Rep E w' Fr' mu' s' a ∧ Kept (plainCall T s f args) w Fr mu s.heap w' Fr' mu' s'.heap := by
  unfold callD at h
  split at h
  · cases h
  rename_i hh hhint
  split at h
  · cases h
  rename_i as has
  dsimp only at h
  split at h
  case isFalse => cases h
  rename_i hc
  simp only [Bool.and_eq_true, decide_eq_true_eq] at hc
  obtain ⟨⟨⟨⟨⟨c1, c2⟩, c3⟩, c4⟩, c5⟩, c6⟩ := hc
  generalize hids : reach s.heap 3 (rawIds hh.pars args []) = ids at *
  generalize hred : readIds hh.pars args [] = red at *
  generalize hq : C f (as.map (renR (posN · ids)).dyn) (ids.map fun i => ((renR (posN · ids)).obj (s.heap.getD i gone)).handed) hh.rt hh.ots = q at h
  cases q with
  | none => cases h
  | some x =>
  have h : K _ _ = some r := h
  have hnr := noneIn_ok c1
  have hlt : ∀ i ∈ ids, i < s.heap.length := fun i hi => (closed_ok c2 i hi).1
  have hnd := distinct_ok c3
  generalize hobjs : (ids.map fun i => ((renR (posN · ids)).obj (s.heap.getD i gone)).handed) = objsC at *
  have hso0 : SO w Fr (muOf mu ids) objsC := by
    rw [← hobjs]; exact H.si.so.sub c2 c3 (f := fun o => ((renR (posN · ids)).obj o).handed) (fun o => .inr rfl)
  have hlenC : objsC.length = ids.length := by rw [← hobjs]; simp
  have hQ : ∀ (j : Nat) (o : AObj), objsC[j]? = some o → occ (muOf mu ids) j o → ∃ o0, s.heap[ids.getD j 0]? = some o0 ∧ occ mu (ids.getD j 0) o0 := by
    intro j o hj ho
    rw [← hobjs] at hj
    obtain ⟨_, hm, o0, h0, rfl⟩ := sub_get (f := fun o => ((renR (posN · ids)).obj o).handed) c2 hj
    rw [occ_handed, occ_obj] at ho
    refine ⟨o0, h0, ?_⟩
    obtain ⟨t, x⟩ := o0
    cases t <;> exact ho
  have hrl : ∀ b, (∃ (k : Nat) (ok : AObj), k ∈ red ∧ s.heap[k]? = some ok ∧ occ mu k ok ∧ b = (mu k).loc) → b < w.heap.size ∧ ¬ Fr b ∧ ¬ Mine (muOf mu ids) objsC b := by
    rintro b ⟨k, ok, hk, hko, hkoc, e⟩
    obtain ⟨h1, h2, h3⟩ := H.si.own k ok hko hkoc
    refine ⟨by rw [e]; exact h3, by rw [e]; exact h2, ?_⟩
    rintro ⟨j, o, hj, ho, e'⟩
    obtain ⟨o0, h0, hoc⟩ := hQ j o hj ho
    have hjl : j < ids.length := by rw [← hlenC]; exact (List.getElem?_eq_some_iff.1 hj).1
    have hmem : ids.getD j 0 ∈ ids := by rw [List.getD_eq_getElem?_getD, List.getElem?_eq_getElem hjl]; simp
    exact H.si.sep k _ ok o0 hko h0 (fun e => hnr k hk (e ▸ hmem)) hkoc hoc (by rw [← e]; exact e')
  obtain ⟨ha1, ha2⟩ := handArgs_ok H hh.pars args as vs [] has hl hv (fun _ => id)
  rw [hred] at ha2
  have hpre : Pre w (FrL Fr mu s.heap red) (muOf mu ids) objsC (as.map (renR (posN · ids)).dyn) vs := by
    refine ⟨⟨hso0.hh, ?_, hso0.nm, hso0.sep, ?_⟩, ?_, by simp [ha1], ?_⟩
    · intro i o hi
      exact OR_keep (fun b hb => .inl hb) (fun _ _ => rfl) rfl (fun t x _ => Ty.okN_all (fun _ => rfl) t) (fun _ => rfl) (hso0.obj i o hi)
    · intro i o hi ho
      obtain ⟨h1, h2⟩ := hso0.own i o hi ho
      refine ⟨?_, h2⟩
      rintro (hf | hf)
      · exact h1 hf
      · exact (hrl _ hf).2.2 ⟨i, o, hi, ho, rfl⟩
    · rintro b (hb | hb)
      · exact H.si.frL b hb
      · exact (hrl _ hb).1
    · intro i d v hd hv'
      rw [List.getElem?_map] at hd
      cases hai : as[i]? with
      | none => rw [hai] at hd; cases hd
      | some d0 =>
        rw [hai] at hd
        injection hd with hd
        subst hd
        have hmem : d0 ∈ as := List.mem_of_getElem? hai
        have hn0 : d0.t.okN (· ∈ ids) := idsT_ok d0.t [] (subN_ok (List.all_eq_true.1 c5 d0 hmem))
        refine ⟨VR_tr (renR_T _) (renR_OK fun i hi => by unfold muOf; rw [(posN_get hi).2]) hn0 (ha2 i d0 v hai hv'), ?_⟩
        have := posR_okN d0.t d0.x hn0
        rw [hlenC]; exact this
  obtain ⟨hen, hcall⟩ := hC f _ objsC hh.rt hh.ots x hq
  refine ⟨hen, Calls.mono (hcall w _ _ vs hpre) ?_⟩
  rintro e w' ⟨v, FrR, muR, he, post⟩
  have hts := resO_types hh.rt hh.ots x
  have hbx0 : ∀ (l : List Nat) (ts : List OTy), keptBoxes s.heap l ts = true → l.length ≤ ts.length → ∀ i ∈ l, ∀ (t : Ty) (y : den t), s.heap[i]? = some (⟨.box t, y⟩ : AObj) → ∃ t', ts[posN i l]? = some (.box t') := by
    intro l
    induction l with
    | nil => intro ts _ _ i hi; cases hi
    | cons k l ih =>
      intro ts hk hle i hi t y hb
      cases ts with
      | nil => simp at hle
      | cons o ts =>
        simp only [keptBoxes, Bool.and_eq_true] at hk
        by_cases hik : i = k
        · subst hik
          have e : posN i (i :: l) = 0 := by simp [posN]
          rw [e]
          have hg : s.heap.getD i gone = ⟨.box t, y⟩ := by rw [List.getD_eq_getElem?_getD, hb]; rfl
          rw [hg] at hk
          cases o with
          | box t' => exact ⟨t', rfl⟩
          | row _ _ _ => cases hk.1
          | gone => cases hk.1
        · have e : posN i (k :: l) = posN i l + 1 := by show (if i = k then 0 else _) = _; rw [if_neg hik]
          rw [e]
          exact ih ts hk.2 (by simpa using hle) i ((List.mem_cons.1 hi).resolve_left hik) t y hb
  have hbx : ∀ i ∈ ids, ∀ (t : Ty) (y : den t), s.heap[i]? = some (⟨.box t, y⟩ : AObj) → ∃ (t' : Ty) (x' : den t'), (resO hh.rt hh.ots x)[posN i ids]? = some (⟨.box t', x'⟩ : AObj) := by
    intro i hi t y hb
    obtain ⟨t', ht⟩ := hbx0 ids hh.ots c6 c4 i hi t y hb
    have ht : ((resO hh.rt hh.ots x).map (·.t))[posN i ids]? = some (OTy.box t') := by rw [hts]; exact ht
    rw [List.getElem?_map] at ht
    cases ho : (resO hh.rt hh.ots x)[posN i ids]? with
    | none => rw [ho] at ht; cases ht
    | some o =>
      rw [ho] at ht
      injection ht with ht
      obtain ⟨to, xo⟩ := o
      have ht : to = .box t' := ht
      subst ht
      exact ⟨t', xo, rfl⟩
  have hsame : plainCall T s f args = true → ∀ b, Safe Fr mu s.heap b → w'.heap[b]? = w.heap[b]? := by
    intro hpl b hb
    have he0 : ids = [] := by
      unfold plainCall at hpl
      rw [hhint] at hpl
      dsimp only at hpl
      rw [hids] at hpl
      simpa using hpl
    refine post.si.grow.block b (safe_lt H.si hb) ?_
    rintro ⟨j, o, hj, _⟩
    have : j < objsC.length := (List.getElem?_eq_some_iff.1 hj).1
    rw [hlenC, he0] at this
    simp at this
  cases hb : (hh.rt.bears || hh.ots.any OTy.bears) with
  | true =>
    rw [if_pos hb] at h
    have H0 := H.freeze red
    have hlen0 := freeze_len s red
    have hQ1 : ∀ (j : Nat) (o : AObj), objsC[j]? = some o → occ (muOf mu ids) j o → ∃ o0, (s.freeze red).heap[ids.getD j 0]? = some o0 ∧ occ mu (ids.getD j 0) o0 := by
      intro j o hj ho
      obtain ⟨o0, h0, hoc⟩ := hQ j o hj ho
      have hjl : j < ids.length := by rw [← hlenC]; exact (List.getElem?_eq_some_iff.1 hj).1
      have hmem : ids.getD j 0 ∈ ids := by rw [List.getD_eq_getElem?_getD, List.getElem?_eq_getElem hjl]; simp
      by_cases hr0 : red = []
      · subst hr0; exact ⟨o0, h0, hoc⟩
      · have hgl : ∀ (l : List Nat) (hp : List AObj), ids.getD j 0 ∉ l → (goneL l hp)[ids.getD j 0]? = hp[ids.getD j 0]? := by
          intro l
          induction l with
          | nil => intro hp _; rfl
          | cons k l ih =>
            intro hp hnk
            simp only [List.mem_cons, not_or] at hnk
            show (goneL l (hp.set k gone))[ids.getD j 0]? = _
            rw [ih _ hnk.2, List.getElem?_set_ne (fun e => hnk.1 e.symm)]
        refine ⟨(thawR s red).obj o0, ?_, by rw [occ_obj]; exact hoc⟩
        rw [freeze_eq s hr0]
        show (goneL red (s.heap.map _))[ids.getD j 0]? = _
        rw [hgl red _ (fun hk => hnr _ hk hmem), List.getElem?_map, h0]; rfl
    obtain ⟨mu2, g1, g2, g3, g4⟩ := call_back (Fr2 := FrR) H0 (fun i hi => by rw [hlen0]; exact hlt i hi) hnd hlenC post hts hQ1 (fun b hb => post.si.fr0 b hb)
      (fun b hb => by
        rcases post.si.frN b hb with h1 | h1 | h1
        · exact .inl h1
        · exact .inr (.inl h1)
        · exact .inr (.inr h1)) (fun _ => id) (fun _ _ _ => id) id (by
        intro i hi t y hb
        by_cases hr0 : red = []
        · subst hr0; exact hbx i hi t y hb
        · rw [freeze_eq s hr0] at hb
          rcases goneL_get _ _ _ _ hb with ⟨_, h2⟩ | ⟨_, h2⟩ | h2
          · cases h2
          · obtain ⟨o0, h0, e⟩ := map_get h2
            obtain ⟨t0, x0, rfl, _⟩ := box_obj e
            exact hbx i hi t0 x0 h0
          · cases h2)
    rw [hlen0] at g1 g2 g3 g4
    exact ⟨v, _, _, FrR, mu2, he, h, g1, g2, g3, ⟨fun b hb => g4 b ((Kept.frz (g := true) (w := w)).safe b hb), hsame⟩⟩
  | false =>
    rw [if_neg (by rw [hb]; simp)] at h
    simp only [Bool.or_eq_false_iff] at hb
    have hfo : ∀ (j : Nat) (o : AObj), (resO hh.rt hh.ots x)[j]? = some o → o.t.bears = false := by
      intro j o hj
      have : o.t ∈ hh.ots := by rw [← hts]; exact List.mem_map.2 ⟨o, List.mem_of_getElem? hj, rfl⟩
      have hall := hb.2
      simp only [List.any_eq_false] at hall
      simpa using hall _ this
    obtain ⟨mu2, g1, g2, g3, g4⟩ := call_back (Fr2 := fun b => FrR b ∧ ¬ ∃ (k : Nat) (ok : AObj), k ∈ red ∧ s.heap[k]? = some ok ∧ occ mu k ok ∧ b = (mu k).loc) H hlt hnd hlenC post hts hQ
      (fun b hb => ⟨post.si.fr0 b (.inl hb), fun hr => (hrl b hr).2.1 hb⟩)
      (fun b hb => by
        rcases post.si.frN b hb.1 with h1 | h1 | h1
        · rcases h1 with h1 | h1
          · exact .inl h1
          · exact absurd h1 hb.2
        · exact .inr (.inl h1)
        · exact .inr (.inr h1)) (fun b hb => hb.1) (fun j o hj ho => OR_free (hfo j o hj) ho) (VR_free hb.1) hbx
    exact ⟨v, _, _, _, mu2, he, h, g1, g2, g3, ⟨g4, hsame⟩⟩
end
end Go.Abs
set_option autoImplicit false
set_option linter.unusedVariables false
namespace Go.Abs

section
variable {P : Program} {ops : Array Oper} {md : Region.Mode}

theorem wpOp_monoQ {Q Q' : Exit → Act → World → Prop} (hQ : ∀ e a w, Q e a w → Q' e a w) {i : Nat} {K : Act → World → Prop} {a : Act} {w : World} (h : wpOp P ops Q i K a w) : wpOp P ops Q' i K a w := by
  unfold wpOp at *
  split
  · simp only [*] at h; exact h
  · rename_i o ho
    simp only [ho] at h
    split
    case isFalse hw => simp only [hw] at h; exact h
    rename_i hw
    simp only [hw, if_true] at h
    rcases h with h | ⟨h1, a', w', h2⟩
    · refine .inl ?_
      unfold Oper.wp at *
      generalize (execOp a.eval o).run P w = r at *
      cases r with
      | ok n w' =>
        cases n <;> simp only [Oper.upon] at h ⊢ <;>
          first
            | exact h
            | exact Calls.mono h (fun e w'' he => by cases e <;> first | exact he | exact hQ _ _ _ he | exact he.imp fun _ he => he.imp fun _ he => hQ _ _ _ he)
      | halt x w' => cases x <;> simp only [Oper.upon] at h ⊢ <;> exact hQ _ _ _ h
    · exact .inr ⟨h1, a', w', hQ _ _ _ h2⟩

/-- Only a normal end counts. -/
def normQ (Q : Act → World → Prop) : Exit → Act → World → Prop := fun e a w => e = .normal ∧ Q a w

theorem wpOp_keep {Q : Act → World → Prop} {j : Nat} {oi oj : Oper} {v : Value} (hj : ops[j]? = some oj) (hap : oi.apart ops oj = true)
    (hsi : ∀ cs b, oi.op ≠ .select cs b) (hsj : ∀ cs b, oj.op ≠ .select cs b) {K : Act → World → Prop} {a : Act} {w : World}
    (h : wpOp P ops (normQ Q) j K (a.put oi.dst v) w) :
    wpOp P ops (normQ Q) j (fun a' w' => (execOp a'.eval oi = execOp a.eval oi ∧ Region.wanted oi (yielded ops a'.tmps) = Region.wanted oi (yielded ops a.tmps)) ∧ K (a'.put oi.dst v) w') a w := by
  obtain ⟨h1, h2, h3⟩ := Oper.apart_spec hap
  have keep : ∀ (b : Act), b.eval = a.eval → b.tmps = a.tmps → ∀ u, execOp (b.put oj.dst u).eval oi = execOp a.eval oi ∧ Region.wanted oi (yielded ops (b.put oj.dst u).tmps) = Region.wanted oi (yielded ops a.tmps) := fun b hb ht u => by
    rw [execOp_put oi hsi b oj.dst u h3, hb, wanted_put oi b oj.dst u h3, ht]
    exact ⟨rfl, rfl⟩
  unfold wpOp at *
  simp only [hj] at *
  rw [wanted_put oj a oi.dst v h1] at h
  split
  · rename_i hw
    simp only [hw, if_true] at h
    rcases h with h | ⟨_, _, _, h, _⟩
    case inr => cases h
    refine .inl ?_
    unfold Oper.wp at *
    rw [execOp_put oj hsj a oi.dst v h1] at h
    generalize (execOp a.eval oj).run P w = r at *
    cases r with
    | ok n w' =>
      cases n <;> simp only [Oper.upon] at h ⊢
      case value u => exact ⟨keep a rfl rfl u, by rw [← Act.put_comm a v u h2]; exact h⟩
      case skip => exact ⟨keep a rfl rfl _, by rw [← Act.put_comm a v undef h2]; exact h⟩
      case defer d =>
        refine ⟨keep { a with defers := d :: a.defers } rfl rfl _, ?_⟩
        rw [← Act.put_comm _ v undef h2, ← Act.put_defers]
        exact h
      case enter f args =>
        refine Calls.mono h fun e w'' he => ?_
        cases e with
        | returned u => exact ⟨keep a rfl rfl u, by rw [← Act.put_comm a v u h2]; exact he⟩
        | panicked c => cases he.1
        | outgrown => exact he
      case row row args => exact Rows.mono h fun u w'' he => ⟨keep a rfl rfl u, by rw [← Act.put_comm a v u h2]; exact he⟩
    | halt x w' =>
      cases x <;> simp only [Oper.upon] at h ⊢
      case panic u => cases h.1
  · rename_i hw
    simp only [hw] at h
    exact ⟨keep a rfl rfl _, by rw [← Act.put_comm a v undef h2]; exact h⟩

/-- A region, drawn: with blocks that those needed keep. -/
def wpAnyX (P : Program) (md : Region.Mode) (ops : Array Oper) (Q : Act → World → Prop) : Nat → Array Bool → List Nat → (Nat → Prop) → Act → World → Prop
  | 0, listed, _, _, a, w => Region.ready md ops listed = [] ∧ Q a w
  | n + 1, listed, need, X, a, w => (Region.ready md ops listed = [] → Q a w) ∧
    ∀ i ∈ Region.ready md ops listed, wpOp P ops (normQ Q) i (fun a' w' => ∃ X' : Nat → Prop, (∀ b, X b → X' b) ∧ (i ∈ need → ∀ b, X b → w'.heap[b]? = w.heap[b]?) ∧
      wpAnyX P md ops Q n (listed.setIfInBounds i true) need X' a' w') a w
theorem wpAnyX_less {Q : Act → World → Prop} : ∀ (n : Nat) (listed : Array Bool) (need need' : List Nat) (X : Nat → Prop) (a : Act) (w : World), (∀ i ∈ need', i ∈ need) →
    wpAnyX P md ops Q n listed need X a w → wpAnyX P md ops Q n listed need' X a w
  | 0, _, _, _, _, _, _, _, h => h
  | n + 1, listed, need, need', X, a, w, hs, h => ⟨h.1, fun i hi => wpOp_mono (fun a' w' ⟨X', h1, h2, h3⟩ => ⟨X', h1, fun hn => h2 (hs i hn), wpAnyX_less n _ need need' X' a' w' hs h3⟩) (h.2 i hi)⟩
theorem wpAnyX_any {Q : Exit → Act → World → Prop} : ∀ (n : Nat) (listed : Array Bool) (need : List Nat) (X : Nat → Prop) (a : Act) (w : World),
    wpAnyX P md ops (Q .normal) n listed need X a w → wpAny P md ops Q n listed a w
  | 0, _, _, _, _, _, h => h
  | n + 1, listed, need, X, a, w, h => ⟨h.1, fun i hi => wpOp_mono (fun a' w' ⟨X', h1, h2, h3⟩ => wpAnyX_any n _ need X' a' w' h3) (wpOp_monoQ (fun e a w ⟨he, h⟩ => by subst he; exact h) (h.2 i hi))⟩

/-- What can come before an operation. -/
def Before (md : Region.Mode) (ops : Array Oper) (i : Nat) (B : List Nat) (listed : Array Bool) : Prop :=
  ∀ (j : Nat) (oj : Oper), ops[j]? = some oj → j ≠ i → listed.getD j true = false → (∀ e ∈ oj.after, Region.binds md e = true → listed.getD e.on false = true ∨ e.on ∈ B) → j ∈ B
theorem set_getD {listed : Array Bool} {j k : Nat} (h : (listed.setIfInBounds j true).getD k false = true) : k = j ∨ listed.getD k false = true := by
  by_cases hk : j = k
  · exact .inl hk.symm
  · rw [getD_set_ne false hk] at h; exact .inr h
theorem set_getD_un {listed : Array Bool} {j k : Nat} (h : (listed.setIfInBounds j true).getD k true = false) : listed.getD k true = false := by
  by_cases hk : j = k
  · subst hk
    rcases Nat.lt_or_ge j listed.size with h' | h'
    · simp [h'] at h
    · simp [h'] at h
  · rw [getD_set_ne true hk] at h; exact h
theorem Before.step {i j : Nat} {B : List Nat} {listed : Array Bool} (h : Before md ops i B listed) (hj : j ∈ B) : Before md ops i B (listed.setIfInBounds j true) := by
  intro k ok hk hki hun hall
  refine h k ok hk hki (set_getD_un hun) fun e he hb => ?_
  rcases hall e he hb with h1 | h1
  · rcases set_getD h1 with h2 | h2
    · rw [h2]; exact .inr hj
    · exact .inl h2
  · exact .inr h1
/-- An operation that yields one value wherever it comes may come first. -/
theorem wpAnyX_first {Q : Act → World → Prop} {i : Nat} {oi : Oper} {v : Value} {dep : Bool} {B need : List Nat} (hi : ops[i]? = some oi) (hsi : ∀ cs b, oi.op ≠ .select cs b)
    (hB : ∀ j ∈ B, ∀ oj, ops[j]? = some oj → oi.apart ops oj = true ∧ (∀ cs b, oj.op ≠ .select cs b) ∧ (dep = true → j ∈ need)) :
    ∀ (n : Nat) (listed : Array Bool) (X : Nat → Prop) (a : Act) (w : World), Before md ops i B listed → i ∈ Region.ready md ops listed →
      ((Region.wanted oi (yielded ops a.tmps) = true ∧ ∀ w' : World, (dep = true → ∀ b, X b → w'.heap[b]? = w.heap[b]?) → (execOp a.eval oi).run P w' = .ok (.value v) w') ∨ (Region.wanted oi (yielded ops a.tmps) = false ∧ v = undef)) →
      wpAnyX P md ops Q n (listed.setIfInBounds i true) need X (a.put oi.dst v) w → wpAnyX P md ops Q (n + 1) listed need X a w := by
  have own : ∀ (X : Nat → Prop) (a : Act) (w : World) (K : Act → World → Prop), ((Region.wanted oi (yielded ops a.tmps) = true ∧ ∀ w' : World, (dep = true → ∀ b, X b → w'.heap[b]? = w.heap[b]?) → (execOp a.eval oi).run P w' = .ok (.value v) w') ∨ (Region.wanted oi (yielded ops a.tmps) = false ∧ v = undef)) → K (a.put oi.dst v) w → wpOp P ops (normQ Q) i K a w := by
    intro X a w K hr hk
    unfold wpOp
    simp only [hi]
    rcases hr with ⟨hw, hr⟩ | ⟨hw, rfl⟩
    · rw [if_pos hw]
      refine .inl ?_
      unfold Oper.wp
      rw [hr w fun _ _ _ => rfl]
      exact hk
    · rw [if_neg (by rw [hw]; simp)]
      exact hk
  intro n
  induction n with
  | zero =>
    intro listed X a w hb hr hy H
    refine ⟨fun h => (by rw [h] at hr; cases hr), fun j hj => ?_⟩
    by_cases hji : j = i
    · subst hji
      exact own X a w _ hy ⟨X, fun _ => id, fun _ _ _ => rfl, H⟩
    · have := ready_mono hj hji
      rw [H.1] at this
      cases this
  | succ n ih =>
    intro listed X a w hb hr hy H
    refine ⟨fun h => (by rw [h] at hr; cases hr), fun j hj => ?_⟩
    by_cases hji : j = i
    · subst hji
      exact own X a w _ hy ⟨X, fun _ => id, fun _ _ _ => rfl, H⟩
    · have h1 := H.2 j (ready_mono hj hji)
      obtain ⟨hjun, oj, hoj, hall⟩ := mem_ready.1 hj
      have hjB : j ∈ B := hb j oj hoj hji hjun fun e he hbd => .inl (hall e he hbd)
      obtain ⟨hap, hsj, hneed⟩ := hB j hjB oj hoj
      refine wpOp_mono ?_ (wpOp_keep hoj hap hsi hsj h1)
      rintro a' w' ⟨⟨he, hwa⟩, X', hX, hkeep, H'⟩
      refine ⟨X', hX, hkeep, ih (listed.setIfInBounds j true) X' a' w' (hb.step hjB) (ready_mono hr (Ne.symm hji)) ?_ ?_⟩
      · rw [hwa]
        refine hy.imp (fun h => ⟨h.1, fun w'' hag => ?_⟩) id
        rw [he]
        exact h.2 w'' fun hd b hXb => (hag hd b (hX b hXb)).trans (hkeep (hneed hd) b hXb)
      · rw [Array.setIfInBounds_comm _ _ hji]
        exact H'

theorem befOK_ok {listed : Array Bool} {i : Nat} {B : List Nat} (h : befOK ops listed i B = true) : Before .any ops i B listed := by
  intro j oj hj hji hun hall
  simp only [befOK, List.all_eq_true, List.mem_range] at h
  have h1 := h j (Array.getElem?_eq_some_iff.1 hj).1
  simp only [hj, Bool.or_eq_true, beq_iff_eq, hji, false_or, hun, Bool.false_eq_true] at h1
  rcases h1 with h1 | h1
  · simpa using h1
  · obtain ⟨e, he, hb⟩ := Array.any_eq_true'.1 h1
    simp only [Bool.and_eq_true, Bool.not_eq_true', Bool.or_eq_false_iff] at hb
    obtain ⟨hb1, hb2, hb3⟩ := hb
    rcases hall e he hb1 with h2 | h2
    · rw [hb2] at h2; cases h2
    · rw [List.contains_iff_mem.2 h2] at hb3; cases hb3
end
end Go.Abs
set_option autoImplicit false
set_option linter.unusedVariables false
namespace Go.Abs
section
variable {P : Program} {ops : Array Oper}
/-- A fence that lets all in, within a round or not. -/
def fc : Option Nat → Fence
  | none => Fence.wide
  | some l => Fence.wide.inRound l
theorem fc_fn (ro : Option Nat) (f : FuncId) : (fc ro).fn f := by cases ro <;> exact trivial
theorem fc_depth (ro : Option Nat) : (fc ro).depth = none := by cases ro <;> rfl
theorem fc_round (ro : Option Nat) : (fc ro).round = ro := by cases ro <;> rfl
theorem fc_calls {ro : Option Nat} {n : Nat} {f : FuncId} {args : Array Value} {w : World} {R : Ending → World → Prop} (h : Calls P f args w R) : CallsIn (fc ro) n P f args w R := by
  have h := (callsIn_wide (n := n)).2 h
  cases ro with
  | none => exact h
  | some l => exact h.inRound l
/-- An operation that defers nothing. -/
def noDefer (o : Oper) : Prop := ∀ c, o.op ≠ .defer c
theorem not_out {Q : Act → World → Prop} : ¬ LetsOut (normQ Q) := by
  rintro ⟨a, w, h⟩
  cases h.1
theorem operIn {ro : Option Nat} {n : Nat} {o : Oper} (hd : noDefer o) {Q : Act → World → Prop} {a : Act} {w : World} {K K' : Act → World → Prop} (hK : ∀ a w, K a w → K' a w) (h : o.wp P a w K (normQ Q)) : o.wpIn (fc ro) n P a w K' (normQ Q) := by
  refine ⟨fun f _ => fc_fn ro f, ?_⟩
  rw [Oper.semAt_eq _ _ _ hd]
  unfold Oper.wp at h
  generalize (execOp a.eval o).run P w = r at *
  have hno : ∀ {p : Prop}, ((fc ro).depth.isSome = true → p) := fun h => by rw [fc_depth] at h; cases h
  cases r with
  | ok x w' =>
    cases x <;> simp only [Oper.upon, Oper.uponIn] at h ⊢
    case value v => exact hK _ _ h
    case skip => exact hK _ _ h
    case defer d => exact hK _ _ h
    case enter f args =>
      refine ⟨hno, fc_calls (Calls.mono h fun e w'' he => ?_)⟩
      cases e with
      | returned v => exact hK _ _ he
      | panicked c => exact he
      | outgrown => exact he
    case row row args =>
      refine ⟨hno, fun c cs _ => ?_⟩
      obtain ⟨v, w'', hv, hs⟩ := h c cs
      exact ⟨v, w'', hK _ _ hv, by cases ro <;> exact stepsIn_wide.2 hs⟩
  | halt x w' => cases x <;> simp only [Oper.upon, Oper.uponIn] at h ⊢ <;> exact h
theorem opsIn {ro : Option Nat} {n : Nat} (hd : ∀ (i : Nat) (o : Oper), ops[i]? = some o → noDefer o) {Q : Act → World → Prop} : ∀ (l : List Nat) (a : Act) (w : World), wpOps P ops (normQ Q) l a w → wpOpsIn (fc ro) n P ops (normQ Q) l a w
  | [], a, w, h => h
  | i :: l, a, w, h => by
    unfold wpOps at h
    unfold wpOpsIn
    split at h
    · rename_i ho
      simp only [ho]
      exact opsIn hd l a w h
    · rename_i o ho
      simp only [ho]
      split at h
      · rename_i hw
        rw [if_pos hw]
        rcases h with h | ⟨_, h⟩
        · exact operIn (hd i o ho) (fun a w => opsIn hd l a w) h
        · exact absurd h not_out
      · rename_i hw
        rw [if_neg hw]
        exact ⟨fun f _ => fc_fn ro f, opsIn hd l _ w h⟩
theorem calmC_region {i : Nat} {d : Bool} (h : calmC (.region i ops d) = true) : ∀ (j : Nat) (o : Oper), ops[j]? = some o → noDefer o := by
  intro j o ho c e
  have h : ops.all calmO = true := h
  rw [Array.all_eq_true] at h
  obtain ⟨hj, rfl⟩ := Array.getElem?_eq_some_iff.1 ho
  have := h j hj
  unfold calmO at this
  rw [e] at this
  cases this
theorem region_in {ro : Option Nat} {n i : Nat} (hc : calmC (.region i ops false) = true) {Q : Exit → Act → World → Prop} {a : Act} {w : World} (h : wpOps P ops (normQ (Q .normal)) (List.range ops.size) a w) : (Code.region i ops false).wpIn (fc ro) n P Q a w := by
  have h2 : (Code.region i ops false).wpIn (fc ro) n P (normQ (Q .normal)) a w := wpIn_region (opsIn (calmC_region hc) _ _ _ h)
  exact wpIn_mono h2 fun e a w hh => by obtain ⟨rfl, hq⟩ := hh; exact hq
theorem region_draw_in {ro : Option Nat} {n i : Nat} (hm : P.follows .mixedOrders = true) (hc : calmC (.region i ops true) = true) {Q : Exit → Act → World → Prop} {a : Act} {w : World}
    (h : wpAny P .any ops (normQ (Q .normal)) ops.size (Array.replicate ops.size false) a w.drew) : (Code.region i ops true).wpIn (fc ro) n P Q a w := by
  have h2 : (Code.region i ops true).wpIn (fc ro) n P (normQ (Q .normal)) a w := wpIn_region_draw fun t => by
    simp only [Region.schedule, hm, Bool.true_or, if_true]
    exact opsIn (calmC_region hc) _ _ _ (wpAny_sound _ t _ _ _ h)
  exact wpIn_mono h2 fun e a w hh => by obtain ⟨rfl, hq⟩ := hh; exact hq
end
end Go.Abs
set_option autoImplicit false
set_option linter.unusedVariables false
namespace Go.Abs

section
variable {P : Program} {T : Told} {C : AbsFn} {E : Env} {w : World} {Fr : Nat → Prop} {mu : Nat → Loc} {s : St} {a : Act} {R : Type} {r : R}

theorem br_some {b : Bool} {x y : Option R} (h : br b x y = some r) : (b = true ∧ x = some r) ∨ (b = false ∧ y = some r) := by
  cases b
  · exact .inr ⟨rfl, h⟩
  · exact .inl ⟨rfl, h⟩
theorem br_none {b : Bool} {x : Option R} (h : br b x none = some r) : b = true ∧ x = some r := by
  rcases br_some h with h | ⟨_, h⟩
  · exact h
  · cases h
theorem capD_ok : ∀ (t : Ty) (x : den t) (vs : List Value) (ds : List Dyn) (p : Nat → Prop), capD t x = some ds → Rp w Fr mu t x vs → t.okN p →
    ds.length = vs.length ∧ ∀ (i : Nat) (d : Dyn) (v : Value), ds[i]? = some d → vs[i]? = some v → VR w Fr mu d v ∧ d.t.okN p
  | .tnil, _, vs, ds, p, h, hr, _ => by
    injection h with h
    subst h
    cases hr
    exact ⟨rfl, fun i d v hd => by simp at hd⟩
  | .tcons a b, x, vs, ds, p, h, hr, hn => by
    unfold capD at h
    split at h
    case h_2 => cases h
    rename_i l hl
    injection h with h
    subst h
    obtain ⟨u, us, rfl, h1, h2⟩ := hr
    obtain ⟨g1, g2⟩ := capD_ok b x.2 us l p hl h2 hn.2
    refine ⟨by simp [g1], fun i d v hd hv => ?_⟩
    cases i with
    | zero =>
      simp at hd hv
      subst hd; subst hv
      refine ⟨?_, hn.1⟩
      unfold VR
      show (match a.vk with | .dead => _ | .agg => _ | .tup => _ | .one => _)
      revert h1
      cases a.vk
      case dead => exact id
      case tup => exact False.elim
      case one => exact id
      case agg => exact id
    | succ i => exact g2 i d v (by simpa using hd) (by simpa using hv)
theorem run_enter {f : Nat} (he : Enters P f) (args : Array Value) : (callFunc f args).run P w = .ok (.enter f args) w := by
  obtain ⟨fn, h1, h2, h3⟩ := he
  have h4 : fn.body ≠ none := by intro hb; rw [hb] at h2; cases h2
  unfold callFunc
  simp [h1, h3, h4]
theorem heap_put (s : St) (t : Option Tmp) (d : Dyn) : (s.put t d).heap = s.heap := by
  unfold St.put
  cases t <;> (try split) <;> rfl
theorem Kept.imp {g g' : Bool} {h h' : List AObj} {w' : World} {Fr' : Nat → Prop} {mu' : Nat → Loc} (k : Kept g w Fr mu h w' Fr' mu' h') (hg : g' = true → g = true) : Kept g' w Fr mu h w' Fr' mu' h' := ⟨k.safe, fun h => k.same (hg h)⟩
theorem growOp_store {o : Oper} (h : growOp T s o = true) : (!isStore o.op) = true := by
  unfold growOp at h
  cases ho : o.op
  case store => rw [ho] at h; cases h
  all_goals rfl
theorem growOp_same {o : Oper} {s' : St} (hg : ∀ x, s'.get x = s.get x) (hh : s'.heap = s.heap) : growOp T s o = growOp T s' o := by
  have hm : ∀ l : List Operand, l.map s'.get = l.map s.get := fun l => List.map_congr_left fun x _ => hg x
  unfold growOp plainCall
  simp only [hg, hh, hm]
theorem getT_putT (t : Nat) (v : Dyn) (u : Nat) : ∀ (l : List (Nat × Dyn)), getT (putT l t v) u = if u = t then v else getT l u
  | [] => by
    unfold putT getT
    by_cases h : t = u
    · subst h; simp
    · rw [if_neg h, if_neg (Ne.symm h)]; rfl
  | (k, d) :: l => by
    unfold putT
    split
    · by_cases h : t = u
      · subst h
        rw [if_pos rfl, getT, if_pos rfl]
      · rw [getT, if_neg h, if_neg (Ne.symm h)]
    · split
      · rename_i hk
        subst hk
        by_cases h : k = u
        · subst h
          rw [if_pos rfl, getT, if_pos rfl]
        · rw [getT, if_neg h, if_neg (Ne.symm h), getT, if_neg h]
      · rename_i hk
        rw [getT, getT, getT_putT t v u l]
        by_cases h : k = u
        · subst h
          rw [if_pos rfl, if_pos rfl, if_neg hk]
        · rw [if_neg h, if_neg h]
theorem get_same {t : Nat} {d : Dyn} (h : getT s.tmps t = d) (x : Operand) : (⟨putT s.tmps t d, s.heap⟩ : St).get x = s.get x := by
  cases x with
  | tmp u =>
    show getT (putT s.tmps t d) u = getT s.tmps u
    rw [getT_putT]
    split
    · rename_i e; rw [e, h]
    · rfl
  | _ => rfl
theorem both_some {x y : Option R} (h : both x y = some r) : x = some r ∧ y = some r := by
  unfold both at h
  split at h
  · rename_i e; exact ⟨h, e ▸ h⟩
  · cases h
theorem equalIn_slice_nil {t e : TypeId} {ad : Option Addr} {l c : Nat} (h : P.underlying t = some (.slice e)) {w : World} (d : Nat) : (Op.equalIn (d + 1) t (.slice ad l c) (.slice none 0 0)).run P w = .ok ad.isNone w := by
  cases ad <;> simp [Op.equalIn, run_underlying h]
theorem binOp_slice_nil {t e : TypeId} {ad : Option Addr} {l c : Nat} (h : P.underlying t = some (.slice e)) {w : World} : (binOp .eql t (.slice ad l c) (.slice none 0 0)).run P w = .ok (.bool ad.isNone) w := by
  have h1 : (Op.equal t (.slice ad l c) (.slice none 0 0)).run P w = .ok ad.isNone w := equalIn_slice_nil h 9999
  simp only [binOp]
  simp [h1]
theorem binOp_slice_nil' {t e : TypeId} {ad : Option Addr} {l c : Nat} (h : P.underlying t = some (.slice e)) {w : World} : (binOp .neq t (.slice ad l c) (.slice none 0 0)).run P w = .ok (.bool (!ad.isNone)) w := by
  have h1 : (Op.equal t (.slice ad l c) (.slice none 0 0)).run P w = .ok ad.isNone w := equalIn_slice_nil h 9999
  simp only [binOp]
  simp [h1]
/-- A slice against nil. -/
theorem nil_ok (hT : TabOK P T.tb) (H : Rep E w Fr mu s a) {o : Oper} {e z : Bool} (h : nilD T s o = some (e, z)) :
    (∃ op t x y u, o.op = .binOp op t x y u) ∧ ∃ v : Bool, (z = false → v = !e) ∧ ∀ w' : World, (execOp a.eval o).run P w' = .ok (.value (.bool v)) w' := by
  unfold nilD at h
  split at h
  all_goals try cases h
  all_goals
    rename_i t x u ho
    split at h
    case h_2 => cases h
    rename_i hti
    split at h
    case isTrue => cases h
    rename_i hns
    split at h
    case h_2 => cases h
    rename_i n hn
    injection h with h
    injection h with h1 h2
    subst h1
    have hu := (hT _ _ hti).und
    dsimp only at hu
    rcases lenD_ok H hn (H.op x).1 with ⟨_, ad, c, hv, hz⟩ | ⟨hs, _⟩
    case inr => exact absurd hs hns
    refine ⟨⟨_, _, _, _, _, ho⟩, ?_⟩
    have hy : a.eval (.const (.slice none 0 0)) = .slice none 0 0 := rfl
    have hzz : z = false → ad.isNone = false := by
      intro h0
      refine hz ?_
      intro hn0
      subst hn0
      subst h2
      cases h0
  · refine ⟨ad.isNone, fun h0 => hzz h0, fun w' => ?_⟩
    unfold execOp
    simp only [ho, hv, hy, Sem.run_bind, Sem.run_pure, eqGuard_plain (P := P) (w := w') (op := .eql) (t := t) (x := x) (y := .const (.slice none 0 0)) (v := .slice ad n c) (v' := .slice none 0 0) (by simp) (by simp), Result.andThen_ok, binOp_slice_nil hu]
  · refine ⟨!ad.isNone, fun h0 => by rw [hzz h0], fun w' => ?_⟩
    unfold execOp
    simp only [ho, hv, hy, Sem.run_bind, Sem.run_pure, eqGuard_plain (P := P) (w := w') (op := .neq) (t := t) (x := x) (y := .const (.slice none 0 0)) (v := .slice ad n c) (v' := .slice none 0 0) (by simp) (by simp), Result.andThen_ok, binOp_slice_nil' hu]
/-- An operation, as the interpreter tells it. -/
theorem opD_ok (hT : TabOK P T.tb) (hC : Sound P C) (H : Rep E w Fr mu s a) {fn : Nat} {o : Oper} {K : Dyn → St → Option R} (h : opD T C fn o s K = some r) {next : Act → World → Prop} {Q : Exit → Act → World → Prop}
    (hK : ∀ d s' v w' Fr' mu', K d s' = some r → VR w' Fr' mu' d v → d.t.okN (· < s'.heap.length) → Rep E w' Fr' mu' s' a → Kept (growOp T s o) w Fr mu s.heap w' Fr' mu' s'.heap → next (a.put o.dst v) w') : o.wp P a w next Q := by
  have plain : ∀ {d : Dyn} {s' : St}, StepOK P E w Fr mu s a o d s' → K d s' = some r → o.wp P a w next Q := by
    rintro d s' ⟨n, v, w', Fr', mu', hr, hn, hv, hok, H', hkept⟩ hk
    unfold Oper.wp
    rw [hr]
    rcases hn with rfl | ⟨rfl, rfl⟩
    · exact hK d s' v w' Fr' mu' hk hv hok H' (hkept.imp growOp_store)
    · exact hK d s' undef w' Fr' mu' hk hv hok H' (hkept.imp growOp_store)
  unfold opD at h
  split at h
  · rename_i c x y ho
    split at h
    case h_2 => cases h
    rename_i p hq
    have hc := (H.op c).1
    rw [hq] at hc
    have hc := VR_bool hc
    have hrun : (execOp a.eval o).run P w = .ok (.value (if p then a.eval x else a.eval y)) w := by
      unfold execOp
      simp [ho, hc, asBool]
    unfold Oper.wp
    rw [hrun]
    rcases br_some h with ⟨e, h1⟩ | ⟨e, h1⟩ <;> subst e <;> clear h
    · split at h1
      · exact hK _ s _ w Fr mu h1 (H.op x).1 (H.op x).2 H Kept.refl
      · cases h1
    · split at h1
      · exact hK _ s _ w Fr mu h1 (H.op y).1 (H.op y).2 H Kept.refl
      · cases h1
  · rename_i f args ats ho
    split at h
    case h_2 => cases h
    rename_i n cap x hq
    split at h
    case h_2 => cases h
    rename_i ds hcap
    have hf := (H.op f).1
    have hfn := (H.op f).2
    rw [hq] at hf hfn
    obtain ⟨cv, hf, hrc⟩ := hf
    injection hf with hf
    obtain ⟨c1, c2⟩ := capD_ok cap x cv ds (· < s.heap.length) hcap hrc hfn
    obtain ⟨hen, hcall⟩ := callD_ok (vs := args.toList.map a.eval ++ cv) hC H h (by simp [c1]) (by
      intro i d v hd hv
      by_cases hi : i < args.toList.length
      · rw [List.getElem?_append_left (by simpa using hi), List.getElem?_map] at hd hv
        rw [List.getElem?_eq_getElem hi] at hd hv
        injection hd with hd
        injection hv with hv
        subst hd; subst hv
        exact H.op _
      · rw [List.getElem?_append_right (by simpa using hi)] at hd hv
        simp only [List.length_map] at hd hv
        exact c2 _ d v hd hv)
    have hrun : (execOp a.eval o).run P w = .ok (.enter n (args.toList.map a.eval ++ cv).toArray) w := by
      have : (args.toList.map a.eval ++ cv).toArray = #[] ++ args.map a.eval ++ cv.toArray := by
        apply Array.ext'; simp
      unfold execOp
      simp only [ho, resolve, hf, Deferred.ofValue, Sem.run_bind, Sem.run_pure, Result.andThen_ok, invoke]
      rw [run_enter hen, this]
    unfold Oper.wp
    rw [hrun, Oper.upon_enter]
    refine Calls.mono hcall ?_
    rintro e w' ⟨v, d, s', Fr', mu', rfl, hk, hv, hok, H', hkept⟩
    refine hK d s' v w' Fr' mu' hk hv hok H' (hkept.imp fun hg => ?_)
    unfold growOp at hg
    rw [ho] at hg
    dsimp only at hg
    rw [hq] at hg
    dsimp only at hg
    rw [hcap] at hg
    exact hg
  · split at h
    · rename_i e z hnil
      obtain ⟨_, v, hz, hrun⟩ := nil_ok hT H hnil
      have hk : K ⟨.bool, v⟩ s = some r := by
        rcases br_some h with ⟨_, h⟩ | ⟨h0, h⟩
        · obtain ⟨h1, h2⟩ := both_some h
          cases v <;> assumption
        · rw [hz h0]; exact h
      unfold Oper.wp
      rw [hrun w]
      exact hK _ s _ w Fr mu hk rfl trivial H Kept.refl
    split at h
    case h_2 => cases h
    rename_i b d s' hop
    obtain ⟨rfl, h⟩ := br_none h
    exact plain (opP_ok hT H hop) h
theorem VR_undef {w : World} {Fr : Nat → Prop} {mu : Nat → Loc} : VR w Fr mu undefD undef := ⟨[], rfl, rfl⟩
theorem getT_live {l : List (Nat × Dyn)} {t : Nat} {d : Dyn} (h : getT l t = d) (hd : d.t.alive = true) : (t, d) ∈ l := by
  rcases getT_mem (l := l) (t := t) with h' | h'
  · rwa [h] at h'
  · rw [h] at h'; rw [h'] at hd; cases hd
theorem getT_bool {l : List (Nat × Dyn)} {t : Nat} {b : Bool} (h : getT l t = ⟨.bool, b⟩) : (t, (⟨.bool, b⟩ : Dyn)) ∈ l := by
  rcases getT_mem (l := l) (t := t) with h' | h'
  · rwa [h] at h'
  · rw [h] at h'; injection h' with h1 h2; cases h1
theorem Rep.slot (H : Rep E w Fr mu s a) {t : Nat} {d : Dyn} (ht : t < a.tmps.size) (hv : VR w Fr mu d (a.tmps.getD t undef)) (hn : d.t.okN (· < s.heap.length)) : Rep E w Fr mu ⟨putT s.tmps t d, s.heap⟩ a := by
  refine ⟨H.si, fun u d' hm => ?_, H.df, sorted_putT H.so⟩
  rcases mem_putT hm with ⟨rfl, rfl⟩ | hm
  · exact ⟨ht, hv, hn⟩
  · exact H.tm u d' hm
theorem stepD_ok (hT : TabOK P T.tb) (hC : Sound P C) (H : Rep E w Fr mu s a) {fn nt : Nat} (hnt : a.tmps.size = nt) {ops : Array Oper} {i : Nat} {K : St → Option R} (h : stepD T C fn nt ops i s K = some r) {next : Act → World → Prop} {Q : Exit → Act → World → Prop}
    (hK : ∀ s' a' w' Fr' mu', K s' = some r → Rep E w' Fr' mu' s' a' → a'.tmps.size = nt → (∀ o, ops[i]? = some o → Kept (growOp T s o) w Fr mu s.heap w' Fr' mu' s'.heap) → next a' w') : wpOp P ops Q i next a w := by
  unfold stepD at h
  split at h
  · cases h
  rename_i o ho
  split at h
  · cases h
  rename_i hd
  have hd' : ∀ t, o.dst = some t → t < a.tmps.size := by
    intro t ht
    simp only [Bool.not_eq_true', Bool.not_eq_false] at hd
    rw [ht] at hd
    simp only [dstOk, decide_eq_true_eq] at hd
    rw [hnt]; exact hd
  have fin : ∀ (s0 : St), Rep E w Fr mu s0 a → s0.heap = s.heap → growOp T s o = growOp T s0 o → opD T C fn o s0 (fun v s' => K (s'.put o.dst v)) = some r → o.wp P a w next Q := by
    intro s0 H0 hs0 hgr h
    refine opD_ok hT hC H0 h ?_
    intro d s' v w' Fr' mu' hk hv hn H' hkept
    refine hK _ _ _ _ _ hk (H'.put o.dst hd' hv hn) (by rw [size_put]; exact hnt) fun o' ho' => ?_
    rw [ho] at ho'
    injection ho' with ho'
    subst ho'
    rw [hgr, ← hs0, heap_put]
    exact hkept
  unfold wpOp
  rw [ho]
  dsimp only
  split at h
  · rename_i hg
    rw [if_pos (by simp [Region.wanted, hg])]
    exact .inl (fin s H rfl rfl h)
  · rename_i j want hg
    split at h
    · cases h
    rename_i t ht
    have skip : ∀ (s0 : St), Rep E w Fr mu s0 a → s0.heap = s.heap → K (s0.put o.dst undefD) = some r → next (a.put o.dst undef) w := by
      intro s0 H0 hs0 h
      exact hK _ _ _ _ _ h (H0.put o.dst hd' VR_undef trivial) (by rw [size_put]; exact hnt) fun o' _ => by rw [heap_put, hs0]; exact Kept.refl
    split at h
    case h_3 => cases h
    case h_2 hb =>
      obtain ⟨h1, ⟨vs, h2, h3⟩, _⟩ := H.tm t _ (getT_live hb rfl)
      have h3 : vs = [] := h3
      subst h3
      have hy : yielded ops a.tmps j = none := by
        unfold yielded
        rw [ht]
        have : a.tmps[t]? = some (.tuple #[]) := by
          rw [Array.getElem?_eq_getElem h1]
          congr 1
          simpa [h1] using h2
        simp [this]
      rw [if_neg (by unfold Region.wanted; rw [hg]; show ¬ (yielded ops a.tmps j == some want) = true; rw [hy]; simp)]
      exact skip s H rfl h
    rename_i b hb
    have hmem := getT_bool hb
    obtain ⟨h1, h2, _⟩ := H.tm t _ hmem
    have h2 := VR_bool h2
    have hy : yielded ops a.tmps j = some b := by
      unfold yielded
      rw [ht]
      have : a.tmps[t]? = some (.bool b) := by
        rw [Array.getElem?_eq_getElem h1]
        congr 1
        simpa [h1] using h2
      simp [this]
    have hwant : Region.wanted o (yielded ops a.tmps) = (b == want) := by
      unfold Region.wanted
      rw [hg]
      show (yielded ops a.tmps j == some want) = _
      rw [hy]
      cases b <;> cases want <;> rfl
    have hs1 : ∀ c, b = c → Rep E w Fr mu ⟨putT s.tmps t ⟨.bool, c⟩, s.heap⟩ a := by
      intro c hc
      subst hc
      exact H.slot h1 (by rw [h2]; exact rfl) trivial
    rcases br_some h with ⟨rfl, h⟩ | ⟨rfl, h⟩
    · cases want with
      | true =>
        rw [if_pos (by rw [hwant]; rfl)]
        exact .inl (fin _ (hs1 true rfl) rfl (growOp_same (get_same hb) rfl) h)
      | false =>
        rw [if_neg (by rw [hwant]; simp)]
        exact skip _ (hs1 true rfl) rfl h
    · cases want with
      | true =>
        rw [if_neg (by rw [hwant]; simp)]
        exact skip _ (hs1 false rfl) rfl h
      | false =>
        rw [if_pos (by rw [hwant]; rfl)]
        exact .inl (fin _ (hs1 false rfl) rfl (growOp_same (get_same hb) rfl) h)
theorem opsD_ok (hT : TabOK P T.tb) (hC : Sound P C) {fn nt : Nat} {ops : Array Oper} {Q : Exit → Act → World → Prop} {K : St → Option R}
    (hK : ∀ s' a' w' Fr' mu', K s' = some r → Rep E w' Fr' mu' s' a' → a'.tmps.size = nt → Q .normal a' w') :
    ∀ (l : List Nat) (s : St) (a : Act) (w : World) (Fr : Nat → Prop) (mu : Nat → Loc), Rep E w Fr mu s a → a.tmps.size = nt → opsD T C fn nt ops l s K = some r → wpOps P ops Q l a w
  | [], s, a, w, Fr, mu, H, hnt, h => hK s a w Fr mu h H hnt
  | i :: l, s, a, w, Fr, mu, H, hnt, h => by
    rw [wpOps_cons]
    exact stepD_ok hT hC H hnt (K := fun s' => opsD T C fn nt ops l s' K) h fun s' a' w' Fr' mu' hk H' hnt' _ => opsD_ok hT hC hK l s' a' w' Fr' mu' H' hnt' hk
/-- The state, its objects in an order of their own. -/
theorem norm_ok (H : Rep E w Fr mu s a) {s' : St} (h : s.norm E.m = some s') : ∃ mu', Rep E w Fr mu' s' a := by
  unfold St.norm at h
  dsimp only at h
  generalize reach s.heap 3 (s.tmps.foldl (fun l p => idsT p.2.t l) (List.range E.m)) = ids at h
  split at h
  case isFalse => cases h
  rename_i hc
  simp only [Bool.and_eq_true, decide_eq_true_eq] at hc
  obtain ⟨⟨⟨c1, c2⟩, c3⟩, c4⟩ := hc
  injection h with h
  subst h
  have hso := H.si.so.sub c1 c2 (f := fun o => (renR (posN · ids)).obj o) (fun o => .inl rfl)
  have hlen : (ids.map fun i => (renR (posN · ids)).obj (s.heap.getD i gone)).length = ids.length := by simp
  refine ⟨muOf mu ids, ⟨H.si.grow, H.si.fr0, H.si.frN, H.si.frL, hso.hh, hso.obj, hso.nm, hso.sep, ?_, ?_, ?_⟩, ?_, H.df, by simpa [Function.comp_def] using H.so⟩
  · intro j o hj ho
    obtain ⟨hlt, hm, o0, h0, rfl⟩ := sub_get (f := fun o => (renR (posN · ids)).obj o) c1 hj
    rw [occ_obj] at ho
    have a1 : occ mu (ids.getD j 0) o0 := by
      obtain ⟨t, x⟩ := o0; cases t <;> exact ho
    exact H.si.own _ o0 h0 a1
  · intro j o hjm hj
    obtain ⟨hlt, hm, o0, h0, rfl⟩ := sub_get (f := fun o => (renR (posN · ids)).obj o) c1 hj
    have e : ids.getD j 0 = j := by
      have h1 : (ids.take E.m)[j]? = (List.range E.m)[j]? := by rw [c4]
      rw [List.getElem?_take, if_pos hjm, List.getElem?_range hjm] at h1
      rw [List.getD_eq_getElem?_getD, h1]; rfl
    have hm : muOf mu ids j = mu j := by unfold muOf; rw [e]
    rw [e] at h0
    have := H.si.hand j o0 hjm h0
    rw [hm]
    obtain ⟨t, x⟩ := o0
    cases t with
    | gone => trivial
    | box t => exact this
    | row e t f => exact this
  · rw [hlen]
    have := congrArg List.length c4
    simp at this; omega
  · intro u d hm
    obtain ⟨⟨u0, d0⟩, hm0, e⟩ := List.mem_map.1 hm
    injection e with e1 e2
    subst e1; subst e2
    obtain ⟨h1, h2, h3⟩ := H.tm u0 d0 hm0
    have hn0 : d0.t.okN (· ∈ ids) := idsT_ok d0.t [] (subN_ok (List.all_eq_true.1 c3 _ hm0))
    refine ⟨h1, VR_tr (renR_T _) posR_OK hn0 h2, ?_⟩
    rw [hlen]
    exact posR_okN d0.t d0.x hn0
theorem only_ok (H : Rep E w Fr mu s a) (ks : List Nat) : Rep E w Fr mu (s.only ks) a :=
  ⟨H.si, fun u d hm => H.tm u d (List.mem_filter.1 hm).1, H.df, by
    have := H.so
    exact List.Pairwise.sublist (List.Sublist.map _ List.filter_sublist) this⟩
theorem off_ok (H : Rep E w Fr mu s a) (t : Nat) : Rep E w Fr mu ⟨offT s.tmps t, s.heap⟩ a := by
  have hsub : ∀ (l : List (Nat × Dyn)), (offT l t).Sublist l := by
    intro l
    induction l with
    | nil => exact List.Sublist.refl _
    | cons p l ih =>
      obtain ⟨u, d⟩ := p
      unfold offT
      split
      · exact ih.cons _
      · exact ih.cons_cons _
  exact ⟨H.si, fun u d hm => H.tm u d ((hsub _).subset hm), H.df, List.Pairwise.sublist (List.Sublist.map _ (hsub _)) H.so⟩

/-! ### Code -/
theorem cut_ok (H : Rep E w Fr mu s a) (fn : Nat) {t : Nat} {b : Bool} (hb : getT s.tmps t = ⟨.bool, b⟩) : Rep E w Fr mu (cutT T fn s t b) a := by
  unfold cutT
  split
  · obtain ⟨h1, h2, _⟩ := H.tm t _ (getT_bool hb)
    exact H.slot h1 h2 trivial
  · exact off_ok H t
def exitOf : Ex → Exit
  | .normal => .normal
  | .exit i => .exit i
  | .ret => .ret
/-- What is done next, told and done. -/
def KOK (E : Env) (nt : Nat) (K : Kn R) (r : R) (Q : Exit → Act → World → Prop) : Prop :=
  ∀ e s a w Fr mu, K.go e s = some r → Rep E w Fr mu s a → a.tmps.size = nt → Q (exitOf e) a w
/-- A run of a code. -/
def RunOK (P : Program) (E : Env) (nt : Nat) (R : Type) (run : Run R) (c : Code) : Prop :=
  calmC c = true → ∀ (ro : Option Nat) (n : Nat) (r : R) (K : Kn R) (Q : Exit → Act → World → Prop), KOK E nt K r Q → ∀ s a w Fr mu, Rep E w Fr mu s a → a.tmps.size = nt → run s K = some r → c.wpIn (fc ro) n P Q a w
theorem quietW_ok (hT : TabOK P T.tb) (H : Rep E w Fr mu s a) {fn : Nat} {o : Oper} (hw : quiet0 s o.op = true) {d : Dyn} {s' : St} (h : opP T fn o s = some (true, d, s')) : StepQ P w Fr mu s a o d s' := by
  cases ho : o.op
  case assign x =>
    rw [ho] at hw
    unfold opP at h
    rw [ho] at h
    dsimp only at h
    split at h
    · rename_i e0 _ hq
      have hw : noNil (s.get x).t = true := hw
      rw [hq] at hw
      cases hw
    · unfold put1 at h
      split at h
      case isFalse => cases h
      injection h with h
      injection h with _ h
      injection h with h2 h3
      subst h2; subst h3
      exact ok_move (.inr ho) H
  case move x => exact ok_move' H ho h
  case build t ps => exact ok_build hT H ho h
  case nilCheck x => exact ok_nilCheck H ho h
  case binOp op xt x y yt => exact ok_binOp hT H ho h
  case unOp op xt x => exact ok_unOp H ho h
  case convert src dst x => exact ok_convert hT H ho h
  case fieldAddr t x f => exact ok_fieldAddr hT H ho h
  case field t x f => exact ok_field hT H ho h
  case indexAddr t x y => exact ok_indexAddr hT H ho h
  case index t x y => exact ok_index hT H ho h
  case extract x i => exact ok_extract H ho h
  case slice t x lo hi mx =>
    cases mx with
    | none =>
      rw [ho] at hw
      exact ok_sliceQ hT H ho hw h
    | some mx => rw [ho] at hw; cases hw
  case makeFunc f first cap =>
    cases f with
    | func f => exact ok_makeFunc H ho h
    | _ => unfold opP at h; rw [ho] at h; cases h
  case call c =>
    obtain ⟨callee, args, ats⟩ := c
    rw [ho] at hw
    unfold opP at h
    rw [ho] at h
    dsimp only at h
    cases callee with
    | builtin b =>
      dsimp only at h
      cases b <;> first
        | exact ok_len hT H ho h
        | cases hw
    | _ => cases h
  all_goals (rw [ho] at hw; cases hw)
theorem takeQ_some {o : Oper} {listed : Array Bool} {ops : Array Oper} {i : Nat} {B : List Nat} (ho : ops[i]? = some o) (hq : takeQ ops listed s i = some B) :
    (quiet0 s o.op = true ∨ quietL s o.op = true) ∧ (∀ cs b, o.op ≠ .select cs b) ∧ ∃ B', Before .any ops i B' listed ∧ (∀ j ∈ B', calm ops o j = true) ∧ (quiet0 s o.op = false → B' = B) := by
  unfold takeQ at hq
  simp only [ho] at hq
  split at hq
  case isFalse => cases hq
  rename_i hk
  split at hq
  case isFalse => cases hq
  rename_i hb
  simp only [Bool.and_eq_true, Bool.or_eq_true] at hk hb
  obtain ⟨hb1, hb2⟩ := hb
  have hsel : ∀ cs b, o.op ≠ .select cs b := by
    intro cs b e
    rw [e] at hk
    rcases hk with hk | hk <;> cases hk
  refine ⟨hk, hsel, _, befOK_ok hb1, List.all_eq_true.1 hb2, fun hw => ?_⟩
  rw [if_neg (by rw [hw]; simp)] at hq
  split at hq
  case isFalse => cases hq
  injection hq with hq
/-- An operation that may come first yields one value wherever it comes. -/
theorem quiet_ok (hT : TabOK P T.tb) (H : Rep E w Fr mu s a) {fn : Nat} {o : Oper} (hk : quiet0 s o.op = true ∨ quietL s o.op = true) {K : Dyn → St → Option R} {r : R} (h : opD T C fn o s K = some r) :
    ∃ (d : Dyn) (v : Value), K d s = some r ∧ VR w Fr mu d v ∧ d.t.okN (· < s.heap.length) ∧
      ∀ w' : World, (quiet0 s o.op = false → ∀ b, Safe Fr mu s.heap b → w'.heap[b]? = w.heap[b]?) → (execOp a.eval o).run P w' = .ok (.value v) w' := by
  have hcase : (∃ e z, nilD T s o = some (e, z) ∧ br z (both (K ⟨.bool, true⟩ s) (K ⟨.bool, false⟩ s)) (K ⟨.bool, !e⟩ s) = some r) ∨ ∃ b d s', opP T fn o s = some (b, d, s') ∧ br b (K d s') none = some r := by
    unfold opD at h
    split at h
    · rename_i e; rw [e] at hk; rcases hk with hk | hk <;> cases hk
    · rename_i e; rw [e] at hk; rcases hk with hk | hk <;> cases hk
    · split at h
      · rename_i e z hnil; exact .inl ⟨e, z, hnil, h⟩
      split at h
      · rename_i b d s' e; exact .inr ⟨b, d, s', e, h⟩
      · cases h
  rcases hcase with ⟨e, z, hnil, h⟩ | hopP
  · obtain ⟨_, v, hz, hrun⟩ := nil_ok hT H hnil
    refine ⟨⟨.bool, v⟩, .bool v, ?_, rfl, trivial, fun w' _ => hrun w'⟩
    rcases br_some h with ⟨_, h⟩ | ⟨h0, h⟩
    · obtain ⟨h1, h2⟩ := both_some h
      cases v <;> assumption
    · rw [hz h0]; exact h
  have hopP : ∃ d s', opP T fn o s = some (true, d, s') ∧ K d s' = some r := by
    obtain ⟨b, d, s', e, h⟩ := hopP
    obtain ⟨rfl, h⟩ := br_none h
    exact ⟨d, s', e, h⟩
  obtain ⟨d, s', hop, hK⟩ := hopP
  by_cases hw : quiet0 s o.op = true
  · obtain ⟨rfl, v, h1, h2, h3⟩ := quietW_ok hT H hw hop
    exact ⟨d, v, hK, h1, h2, fun w' _ => h3 w'⟩
  · have hk := hk.resolve_left hw
    have hw : quiet0 s o.op = false := by simpa using hw
    cases hoo : o.op
    case load t x =>
      rw [hoo] at hk
      obtain ⟨rfl, v, h1, h2, h3⟩ := (ok_load2 hT H hoo hop).2 hk
      exact ⟨d, v, hK, h1, h2, fun w' ha => h3 w' (ha (by rw [hoo] at hw; exact hw))⟩
    all_goals (rw [hoo] at hk; cases hk)
theorem pickQ_some {ops : Array Oper} {listed : Array Bool} : ∀ {l : List Nat} {i : Nat} {B : List Nat}, pickQ ops listed s l = some (i, B) → i ∈ l ∧ takeQ ops listed s i = some B
  | [], _, _, h => by cases h
  | j :: l, i, B, h => by
    unfold pickQ at h
    split at h
    · rename_i B' hB
      injection h with h
      injection h with h1 h2
      subst h1; subst h2
      exact ⟨List.mem_cons_self, hB⟩
    · obtain ⟨h1, h2⟩ := pickQ_some h
      exact ⟨List.mem_cons_of_mem _ h1, h2⟩
theorem boths_some : ∀ {l : List (Option R)}, boths l = some r → ∀ x ∈ l, x = some r
  | [], h, _, _ => by cases h
  | [x], h, y, hy => by
    simp only [List.mem_singleton] at hy
    subst hy; exact h
  | x :: y :: l, h, z, hz => by
    obtain ⟨h1, h2⟩ := both_some (show both x (boths (y :: l)) = some r from h)
    rcases List.mem_cons.1 hz with rfl | hz
    · exact h1
    · exact boths_some h2 z hz
theorem anyD_ok (hT : TabOK P T.tb) (hC : Sound P C) {fn nt : Nat} {ops : Array Oper} {Q : Act → World → Prop} {K : St → Option R}
    (hK : ∀ s' a' w' Fr' mu', K s' = some r → Rep E w' Fr' mu' s' a' → a'.tmps.size = nt → Q a' w') :
    ∀ (n : Nat) (listed : Array Bool) (need : List Nat) (s : St) (a : Act) (w : World) (Fr : Nat → Prop) (mu : Nat → Loc), Rep E w Fr mu s a → a.tmps.size = nt → anyD T C fn nt ops n listed need s K = some r → wpAnyX P .any ops Q n listed need (Safe Fr mu s.heap) a w := by
  intro n
  induction n with
  | zero =>
    intro listed need s a w Fr mu H hnt h
    unfold anyD at h
    split at h
    · rename_i e; exact ⟨e, hK s a w Fr mu h H hnt⟩
    · cases h
  | succ n ih =>
    intro listed need s a w Fr mu H hnt h
    unfold anyD at h
    split at h
    · rename_i e
      refine ⟨fun _ => hK s a w Fr mu h H hnt, fun i hi => ?_⟩
      rw [e] at hi; cases hi
    rename_i hne
    split at h
    · rename_i i B hq
      obtain ⟨hi, hq⟩ := pickQ_some hq
      unfold stepD at h
      split at h
      · cases h
      rename_i o ho
      split at h
      · cases h
      rename_i hd
      have hd' : ∀ t, o.dst = some t → t < a.tmps.size := by
        intro t ht
        simp only [Bool.not_eq_true', Bool.not_eq_false] at hd
        rw [ht] at hd
        simp only [dstOk, decide_eq_true_eq] at hd
        rw [hnt]; exact hd
      obtain ⟨hqk, hsel, B', hb, hcalm, hBB⟩ := takeQ_some ho hq
      have first : ∀ (s0 : St) (d : Dyn) (v : Value), s0.heap = s.heap → Rep E w Fr mu s0 a → VR w Fr mu d v → d.t.okN (· < s0.heap.length) →
          here (fun s => anyD T C fn nt ops n (listed.setIfInBounds i true) (B ++ need) s K) (s0.put o.dst d) = some r →
          ((Region.wanted o (yielded ops a.tmps) = true ∧ ∀ w' : World, (quiet0 s o.op = false → ∀ b, Safe Fr mu s0.heap b → w'.heap[b]? = w.heap[b]?) → (execOp a.eval o).run P w' = .ok (.value v) w') ∨ (Region.wanted o (yielded ops a.tmps) = false ∧ v = undef)) →
          wpAnyX P .any ops Q (n + 1) listed need (Safe Fr mu s.heap) a w := by
        intro s0 d v hs0 H0 hv hn hk hy
        have hput := ih (listed.setIfInBounds i true) (B ++ need) (s0.put o.dst d) (a.put o.dst v) w Fr mu (H0.put o.dst hd' hv hn) (by rw [size_put]; exact hnt) hk
        rw [heap_put, hs0] at hput
        rw [hs0] at hy
        refine wpAnyX_less _ _ (B ++ need) need _ _ _ (fun j hj => List.mem_append_right _ hj) ?_
        refine wpAnyX_first ho hsel (v := v) (dep := !quiet0 s o.op) (B := B') ?_ n listed _ a w hb hi (hy.imp (fun h => ⟨h.1, fun w' hw' => h.2 w' fun hwl => hw' (by rw [hwl]; rfl)⟩) id) hput
        intro j hj oj hoj
        have h1 := hcalm j hj
        unfold calm at h1
        rw [hoj] at h1
        simp only [Bool.and_eq_true] at h1
        refine ⟨h1.1, fun cs b e => ?_, fun hdep => List.mem_append_left _ ?_⟩
        · rw [e] at h1
          cases h1.2
        · rw [← hBB (by simpa using hdep)]
          exact hj
      split at h
      · rename_i hg
        obtain ⟨d, v, hk, hv, hn, hrun⟩ := quiet_ok hT H hqk h
        exact first s d v rfl H hv hn hk (.inl ⟨by simp [Region.wanted, hg], hrun⟩)
      · rename_i j want hg
        split at h
        · cases h
        rename_i t ht
        split at h
        case h_3 => cases h
        case h_2 hb =>
          obtain ⟨h1, ⟨vs, h2, h3⟩, _⟩ := H.tm t _ (getT_live hb rfl)
          have h3 : vs = [] := h3
          subst h3
          have hy : yielded ops a.tmps j = none := by
            unfold yielded
            rw [ht]
            have : a.tmps[t]? = some (.tuple #[]) := by
              rw [Array.getElem?_eq_getElem h1]
              congr 1
              simpa [h1] using h2
            simp [this]
          exact first s undefD undef rfl H VR_undef trivial h (.inr ⟨by unfold Region.wanted; rw [hg]; show (yielded ops a.tmps j == some want) = false; rw [hy]; rfl, rfl⟩)
        rename_i b hb
        have hmem := getT_bool hb
        obtain ⟨h1, h2, _⟩ := H.tm t _ hmem
        have h2 := VR_bool h2
        have hy : yielded ops a.tmps j = some b := by
          unfold yielded
          rw [ht]
          have : a.tmps[t]? = some (.bool b) := by
            rw [Array.getElem?_eq_getElem h1]
            congr 1
            simpa [h1] using h2
          simp [this]
        have hwant : Region.wanted o (yielded ops a.tmps) = (b == want) := by
          unfold Region.wanted
          rw [hg]
          show (yielded ops a.tmps j == some want) = _
          rw [hy]
          cases b <;> cases want <;> rfl
        have hs1 : ∀ c, b = c → Rep E w Fr mu ⟨putT s.tmps t ⟨.bool, c⟩, s.heap⟩ a := by
          intro c hc
          subst hc
          exact H.slot h1 (by rw [h2]; exact rfl) trivial
        have hqs : ∀ c, b = c → quiet0 ⟨putT s.tmps t ⟨.bool, c⟩, s.heap⟩ o.op = quiet0 s o.op ∧ quietL ⟨putT s.tmps t ⟨.bool, c⟩, s.heap⟩ o.op = quietL s o.op := by
          intro c hc
          subst hc
          have hg := get_same hb
          constructor
          · cases o.op <;> first | rfl | (show noNil _ = noNil _; rw [hg]) | (rename_i mx; cases mx <;> first | rfl | (show isPart _ = isPart _; rw [hg]))
          · cases o.op <;> first | rfl | (show still _ = still _; rw [hg])
        have hq1 : ∀ c, b = c → quiet0 ⟨putT s.tmps t ⟨.bool, c⟩, s.heap⟩ o.op = true ∨ quietL ⟨putT s.tmps t ⟨.bool, c⟩, s.heap⟩ o.op = true := by
          intro c hc
          rw [(hqs c hc).1, (hqs c hc).2]
          exact hqk
        have run1 : ∀ c, b = c → opD T C fn o ⟨putT s.tmps t ⟨.bool, c⟩, s.heap⟩ (fun v s' => here (fun s => anyD T C fn nt ops n (listed.setIfInBounds i true) (B ++ need) s K) (s'.put o.dst v)) = some r → Region.wanted o (yielded ops a.tmps) = true → wpAnyX P .any ops Q (n + 1) listed need (Safe Fr mu s.heap) a w := by
          intro c hc h hw
          obtain ⟨d, v, hk, hv, hn, hrun⟩ := quiet_ok hT (hs1 c hc) (hq1 c hc) h
          exact first ⟨putT s.tmps t ⟨.bool, c⟩, s.heap⟩ d v rfl (hs1 c hc) hv hn hk (.inl ⟨hw, fun w' hw' => hrun w' fun hz => hw' ((hqs c hc).1 ▸ hz)⟩)
        have skip1 : ∀ c, b = c → here (fun s => anyD T C fn nt ops n (listed.setIfInBounds i true) (B ++ need) s K) ((⟨putT s.tmps t ⟨.bool, c⟩, s.heap⟩ : St).put o.dst undefD) = some r → Region.wanted o (yielded ops a.tmps) = false → wpAnyX P .any ops Q (n + 1) listed need (Safe Fr mu s.heap) a w := by
          intro c hc h hw
          exact first ⟨putT s.tmps t ⟨.bool, c⟩, s.heap⟩ undefD undef rfl (hs1 c hc) VR_undef trivial h (.inr ⟨hw, rfl⟩)
        rcases br_some h with ⟨rfl, h⟩ | ⟨rfl, h⟩
        · cases want with
          | true => exact run1 true rfl h (by rw [hwant]; rfl)
          | false => exact skip1 true rfl h (by rw [hwant]; rfl)
        · cases want with
          | true => exact skip1 false rfl h (by rw [hwant]; rfl)
          | false => exact run1 false rfl h (by rw [hwant]; rfl)
    · refine ⟨fun e => absurd e hne, fun i hi => ?_⟩
      have h := boths_some h _ (List.mem_map.2 ⟨i, hi, rfl⟩)
      split at h
      case h_2 => cases h
      rename_i o ho
      split at h
      · cases h
      rename_i hgr
      refine stepD_ok hT hC H hnt h ?_
      intro s' a' w' Fr' mu' hk H' hnt' hkept
      have hkept := hkept o ho
      refine ⟨Safe Fr' mu' s'.heap, hkept.safe, fun hi' => ?_, ih _ need s' a' w' Fr' mu' H' hnt' hk⟩
      refine hkept.same ?_
      simp only [Bool.and_eq_true, Bool.not_eq_true', not_and, Bool.not_eq_false] at hgr
      exact hgr (by simpa using hi')
/-- Loops are run a number of rounds at most. -/
def LoopOK (P : Program) (E : Env) (nt : Nat) (R : Type) (LP : List Nat → Run R → Run R) : Prop :=
  ∀ p body c, RunOK P E nt R body c → RunOK P E nt R (LP p body) (.loop c)
theorem runD_ok (hM : P.follows .mixedOrders = true) (hT : TabOK P T.tb) (hC : Sound P C) {fn nt : Nat} {LP : List Nat → Run R → Run R} (hL : LoopOK P E nt R LP) :
    ∀ (c : Code) (p : List Nat), RunOK P E nt R (fun s K => runD T C LP fn nt E.m p c s K) c
  | .skip, p, hc, ro, n, r, K, Q, hK, s, a, w, Fr, mu, H, hnt, h => wpIn_skip (hK .normal s a w Fr mu h H hnt)
  | .label _, p, hc, ro, n, r, K, Q, hK, s, a, w, Fr, mu, H, hnt, h => wpIn_label (hK .normal s a w Fr mu h H hnt)
  | .region i ops false, p, hc, ro, n, r, K, Q, hK, s, a, w, Fr, mu, H, hnt, h => by
    refine region_in hc (opsD_ok (K := fun s' => match (s'.only (T.keep fn i)).norm E.m with | some s' => K.go .normal s' | none => none) hT hC ?_ _ s a w Fr mu H hnt h)
    intro s' a' w' Fr' mu' hk H' hnt'
    split at hk
    · rename_i s2 hs2
      obtain ⟨mu2, H2⟩ := norm_ok (only_ok H' _) hs2
      exact ⟨rfl, hK .normal s2 a' w' Fr' mu2 hk H2 hnt'⟩
    · cases hk
  | .region i ops true, p, hc, ro, n, r, K, Q, hK, s, a, w, Fr, mu, H, hnt, h => by
    refine region_draw_in hM hc (wpAnyX_any (Q := normQ (Q .normal)) _ _ _ _ _ _ (anyD_ok (Q := normQ (Q .normal) .normal) (K := fun s' => match (s'.only (T.keep fn i)).norm E.m with | some s' => K.go .normal s' | none => none) hT hC ?_ _ _ _ s a w.drew Fr mu (H.world (Grow.drew w)) hnt h))
    intro s' a' w' Fr' mu' hk H' hnt'
    split at hk
    · rename_i s2 hs2
      obtain ⟨mu2, H2⟩ := norm_ok (only_ok H' _) hs2
      exact ⟨rfl, hK .normal s2 a' w' Fr' mu2 hk H2 hnt'⟩
    · cases hk
  | .seq c d, p, hc, ro, n, r, K, Q, hK, s, a, w, Fr, mu, H, hnt, h => by
    have hc : (calmC c && calmC d) = true := hc
    simp only [Bool.and_eq_true] at hc
    refine wpIn_seq (runD_ok hM hT hC hL c (p ++ [0]) hc.1 ro n r (seqK (T.meet fn (p ++ [1])) (p ++ [1]) (fun s K => runD T C LP fn nt E.m (p ++ [1]) d s K) K) _ ?_ s a w Fr mu H hnt h)
    intro e s' a' w' Fr' mu' hk H' hnt'
    cases e with
    | normal =>
      have hk : jn (T.meet fn (p ++ [1])) (p ++ [1]) (fun s K => runD T C LP fn nt E.m (p ++ [1]) d s K) s' K = some r := hk
      rw [jn_eq] at hk
      exact runD_ok hM hT hC hL d (p ++ [1]) hc.2 ro n r K Q hK s' a' w' Fr' mu' H' hnt' hk
    | exit i => exact hK (.exit i) s' a' w' Fr' mu' hk H' hnt'
    | ret => exact hK .ret s' a' w' Fr' mu' hk H' hnt'
  | .cond c x y, p, hc, ro, n, r, K, Q, hK, s, a, w, Fr, mu, H, hnt, h => by
    have hcx : (calmC x && calmC y) = true := hc
    simp only [Bool.and_eq_true] at hcx
    cases c with
    | tmp t =>
      have h : (match getT s.tmps t with
        | ⟨.bool, b⟩ => br b (runD T C LP fn nt E.m (p ++ [0]) x (cutT T fn s t true) K) (runD T C LP fn nt E.m (p ++ [1]) y (cutT T fn s t false) K)
        | _ => none) = some r := h
      split at h
      case h_2 => cases h
      rename_i b hb
      have hv := (H.get t).1
      rw [hb] at hv
      have hv := VR_bool hv
      rcases br_some h with ⟨rfl, h⟩ | ⟨rfl, h⟩
      · exact wpIn_cond_true hv (runD_ok hM hT hC hL x (p ++ [0]) hcx.1 ro n r K Q hK _ a w Fr mu (cut_ok H fn hb) hnt h)
      · exact wpIn_cond_false hv (runD_ok hM hT hC hL y (p ++ [1]) hcx.2 ro n r K Q hK _ a w Fr mu (cut_ok H fn hb) hnt h)
    | const _ => cases h
    | global _ => cases h
    | func _ => cases h
  | .block i c, p, hc, ro, n, r, K, Q, hK, s, a, w, Fr, mu, H, hnt, h => by
    refine wpIn_block (runD_ok hM hT hC hL c (p ++ [0]) hc ro n r (blockK i K) _ ?_ s a w Fr mu H hnt h)
    intro e s' a' w' Fr' mu' hk H' hnt'
    cases e with
    | normal => exact hK .normal s' a' w' Fr' mu' hk H' hnt'
    | ret => exact hK .ret s' a' w' Fr' mu' hk H' hnt'
    | exit j =>
      show (if j = i then Q .normal a' w' else Q (.exit j) a' w')
      have hk : (if j = i then K.go .normal s' else K.go (.exit j) s') = some r := hk
      split
      · rename_i e; rw [if_pos e] at hk; exact hK .normal s' a' w' Fr' mu' hk H' hnt'
      · rename_i e; rw [if_neg e] at hk; exact hK (.exit j) s' a' w' Fr' mu' hk H' hnt'
  | .loop c, p, hc, ro, n, r, K, Q, hK, s, a, w, Fr, mu, H, hnt, h =>
    hL (p ++ [0]) _ c (runD_ok hM hT hC hL c (p ++ [0])) hc ro n r K Q hK s a w Fr mu H hnt h
  | .exit i, p, hc, ro, n, r, K, Q, hK, s, a, w, Fr, mu, H, hnt, h => wpIn_exit (hK (.exit i) s a w Fr mu h H hnt)
  | .ret, p, hc, ro, n, r, K, Q, hK, s, a, w, Fr, mu, H, hnt, h => wpIn_ret (hK .ret s a w Fr mu h H hnt)
  | .rangeFunc _ _ _ _, _, _, _, _, _, _, _, _, _, _, _, _, _, _, _, h => by cases h
  | .scope _, _, _, _, _, _, _, _, _, _, _, _, _, _, _, _, h => by cases h
  | .goto _, _, _, _, _, _, _, _, _, _, _, _, _, _, _, _, h => by cases h
  | .refuse _, _, _, _, _, _, _, _, _, _, _, _, _, _, _, _, h => by cases h
theorem loopD_ok (k : Nat) {nt : Nat} : LoopOK P E nt R (fun p b s K => loopD p b k s K) := by
  intro p body c hb hc ro n r K Q hK s a w Fr mu H hnt h
  have key : ∀ (j : Nat) (s : St) (a : Act) (w : World) (Fr : Nat → Prop) (mu : Nat → Loc), Rep E w Fr mu s a → a.tmps.size = nt → loopD p body j s K = some r → Code.roundsIn (fc ro) n P c Q j a w := by
    intro j
    induction j with
    | zero => intro s a w Fr mu H hnt h; cases h
    | succ j ih =>
      intro s a w Fr mu H hnt h
      have h : body s (againK p (loopD p body j) K) = some r := h
      rw [roundsIn_succ]
      refine hb hc ro n r (againK p (loopD p body j) K) _ ?_ s a w Fr mu H hnt h
      intro e s' a' w' Fr' mu' hk H' hnt'
      cases e with
      | normal => exact ih s' a' w' Fr' mu' H' hnt' hk
      | exit i => exact hK (.exit i) s' a' w' Fr' mu' hk H' hnt'
      | ret => exact hK .ret s' a' w' Fr' mu' hk H' hnt'
  exact wpIn_loop_rounds k (key k s a w Fr mu H hnt h)
end
end Go.Abs
set_option autoImplicit false
set_option linter.unusedVariables false
namespace Go.Abs

section
variable {P : Program} {T : Told} {C : AbsFn} {E : Env} {w : World} {Fr : Nat → Prop} {mu : Nat → Loc} {s : St} {a : Act}

/-- Results, one by one. -/
inductive Each (f : Dyn → Value → Prop) : List Dyn → List Value → Prop where
  | nil : Each f [] []
  | cons {d : Dyn} {v : Value} {ds : List Dyn} {vs : List Value} : f d v → Each f ds vs → Each f (d :: ds) (v :: vs)
/-- A result, as it is read. -/
def resF (tmps : Array Value) : ResultVar → Sem Value
  | .tmp t => Pure.pure (tmps.getD t undef)
  | .cell x t => do loadVar t (← asAddr (tmps.getD x undef))
theorem resD_ok (hT : TabOK P T.tb) (H : Rep E w Fr mu s a) : ∀ (l : List ResultVar) (ds : List Dyn), resD T s l = some ds →
    ∃ vs, (l.mapM (resF a.tmps)).run P w = .ok vs w ∧ Each (fun d v => VR w Fr mu d v ∧ d.t.okN (· < s.heap.length) ∧ d.t.cel = true) ds vs
  | [], ds, h => by
    injection h with h
    subst h
    exact ⟨[], rfl, .nil⟩
  | .tmp t :: l, ds, h => by
    unfold resD at h
    split at h
    case h_2 => cases h
    rename_i r hr
    split at h
    case isFalse => cases h
    rename_i hc
    injection h with h
    subst h
    simp only [Bool.and_eq_true] at hc
    obtain ⟨vs, h1, h2⟩ := resD_ok hT H l r hr
    exact ⟨a.tmps.getD t undef :: vs, by simp only [List.mapM_cons, Sem.run_bind, resF, Sem.run_pure, Result.andThen_ok, h1], .cons ⟨(H.get t).1, (H.get t).2, hc.2⟩ h2⟩
  | .cell x t :: l, ds, h => by
    unfold resD at h
    split at h
    · cases h
    rename_i r hr
    split at h
    case h_2 => cases h
    rename_i ti i off _ hti hq
    split at h
    case h_2 => cases h
    rename_i u y hob
    dsimp only at h
    split at h
    case isFalse => cases h
    rename_i hc
    injection h with h
    subst h
    simp only [Bool.and_eq_true, decide_eq_true_eq] at hc
    obtain ⟨vs, h1, h2⟩ := resD_ok hT H l r hr
    have hx := (H.get x).1
    rw [hq] at hx
    injection (show [a.tmps.getD x undef] = [_] from hx) with hx
    obtain ⟨cells, e, hcell, hcd, hat⟩ := box_CD H (obj_some hob (by simp))
    obtain ⟨v, g1, g2, g3⟩ := run_loadPart (o := 0) (hT _ _ hti) hcd hc.1.1 (.inl hc.1.2)
    have g1 := g1 w hat
    rw [Nat.zero_add] at g1
    refine ⟨v :: vs, ?_, .cons ⟨g2, g3, hc.2⟩ h2⟩
    simp only [List.mapM_cons, Sem.run_bind, resF, hx, asAddr, Sem.run_pure, Result.andThen_ok, g1, h1]
theorem ownAs_chain {tb : Tabs} : ∀ (u t : Ty) (x : den t) (h : List AObj), t.chain = true → (ownAs u t x tb h).1.t.chain = true := by
  intro u t x h
  fun_induction ownAs u t x tb h <;> first | (intro h; exact h) | (intro h; cases h) | (intro h; rfl)
theorem ownAs_ok {tb : Tabs} : ∀ (u t : Ty) (x : den t) (h : List AObj) (mu : Nat → Loc), SI E w Fr mu h → ∀ l, CD w Fr mu (· < h.length) ⟨t, x⟩ l →
    ∃ mu', More E w w Fr mu mu' h (ownAs u t x tb h).2 ∧ CD w Fr mu' (· < (ownAs u t x tb h).2.length) (ownAs u t x tb h).1 l := by
  intro u t x h
  fun_induction ownAs u t x tb h with
  | case1 _ _ e tb h i hi he =>
    intro mu H l hd
    have := hd.rp
    cases this
    refine ⟨upd mu h.length nilLoc, More.one H (Grow.refl _ w) rfl (OR_nil he upd_same) (fun hoc => absurd hoc (occ_nil upd_same)) (fun t x e => by cases e), rfl, ?_, ?_⟩
    · show h.length < (h ++ [_]).length; simp
    · show _ = [(upd mu h.length nilLoc h.length).hdr]; rw [upd_same]; rfl
  | case2 _ _ e tb h i hi he => intro mu H l hd; exact ⟨mu, More.refl H, hd⟩
  | case3 _ _ e tb h hi => intro mu H l hd; exact ⟨mu, More.refl H, hd⟩
  | case4 c d a b tb h x p q ih1 ih2 =>
    intro mu H l hd
    obtain ⟨l1, l2, e, r1, r2⟩ := hd.rp
    obtain ⟨c1, c2, c3⟩ := Ty.cel_pair hd.cel
    obtain ⟨mu1, m1, d1⟩ := ih1 mu H l1 ⟨c1, hd.ok.1, r1⟩
    have d2 : CD w Fr mu1 (· < p.2.length) ⟨b, x.2⟩ l2 := m1.cd ⟨c2, hd.ok.2, r2⟩
    obtain ⟨mu2, m2, d3⟩ := ih2 mu1 m1.si l2 d2
    have d4 := m2.cd d1
    exact ⟨mu2, m1.trans m2, Ty.pair_cel d4.cel d3.cel (ownAs_chain d b x.2 p.2 c3), ⟨d4.ok, d3.ok⟩, l1, l2, e, d4.rp, d3.rp⟩
  | case5 => intro mu H l hd; exact ⟨mu, More.refl H, hd⟩
theorem ownAs_vk {tb : Tabs} : ∀ (u t : Ty) (x : den t) (h : List AObj), (ownAs u t x tb h).1.t.vk = t.vk := by
  intro u t x h
  fun_induction ownAs u t x tb h <;> rfl
theorem ownAs_vr {tb : Tabs} (u : Ty) (d : Dyn) (h : List AObj) (v : Value) (H : SI E w Fr mu h) (hv : VR w Fr mu d v) (hn : d.t.okN (· < h.length)) (hc : d.t.cel = true) :
    ∃ mu', More E w w Fr mu mu' h (ownAs u d.t d.x tb h).2 ∧ VR w Fr mu' (ownAs u d.t d.x tb h).1 v ∧ (ownAs u d.t d.x tb h).1.t.okN (· < (ownAs u d.t d.x tb h).2.length) ∧ (ownAs u d.t d.x tb h).1.t.cel = true := by
  have hk := ownAs_vk (tb := tb) u d.t d.x h
  unfold VR at hv
  cases hvk : d.t.vk with
  | dead =>
    have : d.t = .dead := by revert hvk; cases d.t <;> intro h <;> first | rfl | cases h
    obtain ⟨t, x⟩ := d
    cases this
    have e : ownAs u .dead x tb h = (⟨.dead, x⟩, h) := by cases u <;> rfl
    show ∃ mu', More E w w Fr mu mu' h (ownAs u .dead x tb h).2 ∧ VR w Fr mu' (ownAs u .dead x tb h).1 v ∧ (ownAs u .dead x tb h).1.t.okN (· < (ownAs u .dead x tb h).2.length) ∧ (ownAs u .dead x tb h).1.t.cel = true
    rw [e]
    exact ⟨mu, More.refl H, trivial, hn, hc⟩
  | tup => rw [vk_tup_cel hvk] at hc; cases hc
  | agg =>
    rw [hvk] at hv
    obtain ⟨_, cs, rfl, hr⟩ := hv
    obtain ⟨mu', m, hd⟩ := ownAs_ok (tb := tb) u d.t d.x h mu H cs ⟨hc, hn, hr⟩
    refine ⟨mu', m, ?_, hd.ok, hd.cel⟩
    unfold VR
    rw [hk, hvk]
    exact ⟨hd.cel, cs, rfl, hd.rp⟩
  | one =>
    rw [hvk] at hv
    obtain ⟨mu', m, hd⟩ := ownAs_ok (tb := tb) u d.t d.x h mu H [v] ⟨hc, hn, hv⟩
    refine ⟨mu', m, ?_, hd.ok, hd.cel⟩
    unfold VR
    rw [hk, hvk]
    exact hd.rp
theorem Each.imp {f g : Dyn → Value → Prop} (hi : ∀ d v, f d v → g d v) : ∀ {ds : List Dyn} {vs : List Value}, Each f ds vs → Each g ds vs
  | _, _, .nil => .nil
  | _, _, .cons h t => .cons (hi _ _ h) (Each.imp hi t)
theorem More.each {w' : World} {mu' : Nat → Loc} {h h' : List AObj} (H : More E w w' Fr mu mu' h h') {ds : List Dyn} {vs : List Value} (he : Each (fun d v => VR w Fr mu d v ∧ d.t.okN (· < h.length) ∧ d.t.cel = true) ds vs) :
    Each (fun d v => VR w' Fr mu' d v ∧ d.t.okN (· < h'.length) ∧ d.t.cel = true) ds vs :=
  he.imp fun d v ⟨h1, h2, h3⟩ => ⟨H.vr h1 h2, Ty.okN_mono (fun i hi => Nat.lt_of_lt_of_le hi H.len) _ h2, h3⟩
theorem ownRs_ok {tb : Tabs} : ∀ (rt : Ty) (l : List Dyn) (vs : List Value) (h : List AObj) (mu : Nat → Loc), SI E w Fr mu h → Each (fun d v => VR w Fr mu d v ∧ d.t.okN (· < h.length) ∧ d.t.cel = true) l vs →
    ∃ mu', More E w w Fr mu mu' h (ownRs rt l tb h).2 ∧ Each (fun d v => VR w Fr mu' d v ∧ d.t.okN (· < (ownRs rt l tb h).2.length) ∧ d.t.cel = true) (ownRs rt l tb h).1 vs := by
  intro rt l vs h
  fun_induction ownRs rt l tb h generalizing vs with
  | case1 c r d l tb h p q ih =>
    intro mu H he
    cases he with
    | cons h1 h2 =>
      obtain ⟨mu1, m1, a1, a2, a3⟩ := ownAs_vr (tb := tb) c d h _ H h1.1 h1.2.1 h1.2.2
      obtain ⟨mu2, m2, a4⟩ := ih _ mu1 m1.si (m1.each h2)
      exact ⟨mu2, m1.trans m2, .cons ⟨m2.vr a1 a2, Ty.okN_mono (fun i hi => Nat.lt_of_lt_of_le hi m2.len) _ a2, a3⟩ a4⟩
  | case2 => intro mu H he; exact ⟨mu, More.refl H, he⟩
theorem ownOne_ok {tb : Tabs} (rt : Ty) (l : List Dyn) (vs : List Value) (h : List AObj) (mu : Nat → Loc) (H : SI E w Fr mu h) (he : Each (fun d v => VR w Fr mu d v ∧ d.t.okN (· < h.length) ∧ d.t.cel = true) l vs) :
    ∃ mu', More E w w Fr mu mu' h (ownOne rt l tb h).2 ∧ Each (fun d v => VR w Fr mu' d v ∧ d.t.okN (· < (ownOne rt l tb h).2.length) ∧ d.t.cel = true) (ownOne rt l tb h).1 vs := by
  unfold ownOne
  split
  · cases he with
    | cons h1 h2 =>
      cases h2
      obtain ⟨mu1, m1, a1, a2, a3⟩ := ownAs_vr (tb := tb) rt _ h _ H h1.1 h1.2.1 h1.2.2
      exact ⟨mu1, m1, .cons ⟨a1, a2, a3⟩ .nil⟩
  · exact ownRs_ok rt l vs h mu H he
theorem tupD_ok {p : Nat → Prop} : ∀ (ds : List Dyn) (vs : List Value), Each (fun d v => VR w Fr mu d v ∧ d.t.okN p ∧ d.t.cel = true) ds vs → VR w Fr mu (tupD ds) (.tuple vs.toArray) ∧ (tupD ds).t.okN p := by
  intro ds vs h
  have key : Rp w Fr mu (tupD ds).t (tupD ds).x vs ∧ (tupD ds).t.okN p := by
    induction h with
    | nil => exact ⟨rfl, trivial⟩
    | @cons d v ds vs h1 h2 ih =>
      refine ⟨⟨v, vs, rfl, ?_, ih.1⟩, h1.2.1, ih.2⟩
      obtain ⟨hv, _, hc⟩ := h1
      unfold VR at hv
      show (match d.t.vk with | .dead => _ | .agg => _ | .tup => _ | .one => _)
      revert hv
      cases hk : d.t.vk
      case dead => exact id
      case agg => exact id
      case one => exact id
      case tup => rw [vk_tup_cel hk] at hc; cases hc
  refine ⟨?_, key.2⟩
  cases h with
  | nil => exact ⟨[], rfl, rfl⟩
  | cons _ _ => exact ⟨_, rfl, key.1⟩
theorem asO_some {d : AObj} {t : OTy} {x : denO t} (h : d.as t = some x) : d = ⟨t, x⟩ := by
  obtain ⟨t', x'⟩ := d
  unfold AObj.as at h
  split at h
  · rename_i e
    have e : t' = t := e
    subst e
    injection h with h
    rw [← h]
  · cases h
theorem asObjs_some : ∀ (ts : List OTy) (os : List AObj) (y : denOs ts), asObjs ts os = some y → os = objsOf ts y
  | [], [], _, _ => rfl
  | [], _ :: _, _, h => by cases h
  | t :: ts, [], _, h => by cases h
  | t :: ts, o :: os, y, h => by
    unfold asObjs at h
    split at h
    case h_2 => cases h
    rename_i x hx
    split at h
    case h_2 => cases h
    rename_i z hz
    injection h with h
    subst h
    show o :: os = ⟨t, x⟩ :: objsOf ts z
    rw [asO_some hx, asObjs_some ts os z hz]
theorem loose_get : ∀ (ts : List OTy) (h : List AObj) (i : Nat) (o : AObj), (looseL ts h)[i]? = some o → h[i]? = some o ∨ ∃ (e : Nat) (t : Ty) (f : Bool) (x : List (den t)), h[i]? = some ⟨.row e t f, x⟩ ∧ o = ⟨.row e t false, x⟩
  | [], h, i, o, hi => .inl (by cases h <;> exact hi)
  | t :: ts, [], i, o, hi => by
    have : looseL (t :: ts) [] = [] := by cases t <;> (try rename_i f; cases f) <;> rfl
    rw [this] at hi; simp at hi
  | t :: ts, p :: os, i, o, hi => by
    have hc : (∃ (e : Nat) (u : Ty) (f : Bool) (x : List (den u)), p = ⟨.row e u f, x⟩ ∧ looseL (t :: ts) (p :: os) = ⟨.row e u false, x⟩ :: looseL ts os) ∨ looseL (t :: ts) (p :: os) = p :: looseL ts os := by
      obtain ⟨pt, px⟩ := p
      cases t with
      | gone => exact .inr rfl
      | box t => exact .inr rfl
      | row e' t' f' =>
        cases f' with
        | true => exact .inr rfl
        | false =>
          cases pt with
          | gone => exact .inr rfl
          | box t => exact .inr rfl
          | row e u f => exact .inl ⟨e, u, f, px, rfl, rfl⟩
    rcases hc with ⟨e, u, f, x, rfl, hc⟩ | hc
    · rw [hc] at hi
      cases i with
      | zero => simp at hi; exact .inr ⟨e, u, f, x, rfl, hi.symm⟩
      | succ i => exact loose_get ts os i o (by simpa using hi)
    · rw [hc] at hi
      cases i with
      | zero => exact .inl hi
      | succ i => exact loose_get ts os i o (by simpa using hi)
theorem loose_len : ∀ (ts : List OTy) (h : List AObj), (looseL ts h).length = h.length
  | [], h => by cases h <;> rfl
  | t :: ts, [] => by cases t <;> (try rename_i f; cases f) <;> rfl
  | t :: ts, p :: os => by
    have ih := loose_len ts os
    obtain ⟨pt, px⟩ := p
    cases t with
    | gone => exact congrArg (· + 1) ih
    | box t => exact congrArg (· + 1) ih
    | row e' t' f' =>
      cases f' with
      | true => exact congrArg (· + 1) ih
      | false => cases pt <;> exact congrArg (· + 1) ih
theorem SI.loose {h : List AObj} (H : SI E w Fr mu h) (ts : List OTy) : SI E w Fr mu (looseL ts h) := by
  have hl := loose_len ts h
  have key : ∀ (i : Nat) (o : AObj), (looseL ts h)[i]? = some o → ∃ o', h[i]? = some o' ∧ (OR w Fr mu i o' → OR w Fr mu i o) ∧ (occ mu i o → occ mu i o') ∧ (Handed (mu i) (E.mu0 i) o' → Handed (mu i) (E.mu0 i) o) ∧ (∀ (t : Ty) (x : den t), o = ⟨.box t, x⟩ → o' = ⟨.box t, x⟩) := by
    intro i o hi
    rcases loose_get ts h i o hi with h1 | ⟨e, t, f, x, h1, rfl⟩
    · exact ⟨o, h1, id, id, id, fun _ _ => id⟩
    · exact ⟨_, h1, id, id, fun _ => trivial, fun t x e => by cases e⟩
  refine ⟨H.grow, H.fr0, H.frN, H.frL, H.hh, ?_, ?_, ?_, ?_, ?_, by rw [hl]; exact H.len⟩
  · intro i o hi
    obtain ⟨o', h1, h2, _⟩ := key i o hi
    exact h2 (H.obj i o' h1)
  · intro i t x hi
    obtain ⟨o', h1, _, _, _, h2⟩ := key i _ hi
    rw [hl]
    exact H.nm i t x (by rw [h1, h2 t x rfl])
  · intro i j o o' hi hj hne hoi hoj
    obtain ⟨p, h1, _, h2, _⟩ := key i o hi
    obtain ⟨q, h3, _, h4, _⟩ := key j o' hj
    exact H.sep i j p q h1 h3 hne (h2 hoi) (h4 hoj)
  · intro i o hi ho
    obtain ⟨p, h1, _, h2, _⟩ := key i o hi
    exact H.own i p h1 (h2 ho)
  · intro i o him hi
    obtain ⟨p, h1, _, _, h2, _⟩ := key i o hi
    exact h2 (H.hand i p him h1)
theorem mkR_res (rt : Ty) (x : den rt) (ots : List OTy) (y : denOs ots) : resT rt ots (mkR rt x ots y) = x ∧ resO rt ots (mkR rt x ots y) = objsOf ots y := by
  cases ots <;> exact ⟨rfl, rfl⟩
/-- Results as one value. -/
def oneV : List Value → Value
  | [v] => v
  | vs => .tuple vs.toArray
theorem run_results {fn : Func} {tmps : Array Value} {vs : List Value} (h : (fn.results.toList.mapM (resF tmps)).run P w = .ok vs w) :
    (results fn tmps).run P w = .ok (oneV vs) w := by
  have e : results fn tmps = (do
      let vs ← fn.results.mapM (resF tmps)
      Pure.pure (if h : vs.size = 1 then vs[0] else .tuple vs) : Sem Value) := by
    unfold results
    congr 1
  rw [e, Array.mapM_eq_mapM_toList]
  simp only [Sem.run_bind, Sem.run_map]
  rw [h]
  simp only [Result.andThen_ok]
  match vs with
  | [] => rfl
  | [v] => rfl
  | _ :: _ :: _ => rfl
theorem finE_ok {w0 : World} {Fr0 : Nat → Prop} {mu0 : Nat → Loc} {objs : List AObj} (H : Rep (env w0 Fr0 mu0 objs) w Fr mu s a) {d : Dyn} {v : Value} (hval : VR w Fr mu d v ∧ d.t.okN (· < s.heap.length)) {rt : Ty} {ots : List OTy} {r : denR rt ots} (h : finE rt ots objs.length s d = some r) :
    ∃ Fr' mu', Post w0 Fr0 mu0 objs ⟨rt, resT rt ots r⟩ (resO rt ots r) v w Fr' mu' := by
  unfold finE at h
  dsimp only at h
  split at h
  case isFalse => cases h
  rename_i hni
  split at h
  case h_2 => cases h
  rename_i k wv hh hnorm
  split at h
  · cases h
  rename_i x hx
  split at h
  case h_2 => cases h
  rename_i y hy
  injection h with h
  have hfz := H.freeze (coeIds rt d.t [])
  have hcv := coe_VR0 (u := rt) (Fr' := FrL Fr mu s.heap (coeIds rt d.t [])) (q := fun i => i ∈ coeIds rt d.t []) H.si (fun b hb => .inl hb) (fun i o hi ho hoc => .inr ⟨i, o, hi, ho, hoc, rfl⟩) (coeIds_ok rt _ [] (fun _ => id)) hval.1
  have hrep : Rep (env w0 Fr0 mu0 objs) w (FrL Fr mu s.heap (coeIds rt d.t [])) mu ⟨[(0, coe s rt d.t d.x)], (s.freeze (coeIds rt d.t [])).heap⟩ ⟨#[v], []⟩ := by
    refine ⟨hfz.si, ?_, rfl, by simp⟩
    intro u d hm
    simp only [List.mem_singleton, Prod.mk.injEq] at hm
    obtain ⟨rfl, rfl⟩ := hm
    refine ⟨by simp, hcv, ?_⟩
    rw [freeze_len]
    exact coe_okN s rt _ _ hval.2
  obtain ⟨mu2, H2⟩ := norm_ok hrep hnorm
  have hw := H2.tm k wv (by simp)
  have hk : k = 0 := by
    have := hw.1
    simpa using this
  subst hk
  have hvw : VR w (FrL Fr mu s.heap (coeIds rt d.t [])) mu2 wv v := hw.2.1
  subst h
  obtain ⟨e1, e2⟩ := mkR_res rt x ots y
  refine ⟨FrL Fr mu s.heap (coeIds rt d.t []), mu2, ?_⟩
  rw [e1, e2, ← asObjs_some ots _ y hy]
  exact ⟨H2.si.loose ots, by rw [← as_some hx]; exact hvw, by have := hw.2.2; rw [as_some hx] at this; rw [loose_len]; exact this⟩
theorem finD_ok (hT : TabOK P T.tb) {w0 : World} {Fr0 : Nat → Prop} {mu0 : Nat → Loc} {objs : List AObj} (H : Rep (env w0 Fr0 mu0 objs) w Fr mu s a) {fn : Func} {rt : Ty} {ots : List OTy} {r : denR rt ots} (h : finD T fn rt ots objs.length s = some r) :
    ∃ v Fr' mu', (results fn a.tmps).run P w = .ok v w ∧ Post w0 Fr0 mu0 objs ⟨rt, resT rt ots r⟩ (resO rt ots r) v w Fr' mu' := by
  unfold finD at h
  split at h
  · cases h
  rename_i l0 hl0
  obtain ⟨vs, h1, h20⟩ := resD_ok hT H fn.results.toList l0 hl0
  obtain ⟨mu', hmore, h2⟩ := ownOne_ok (tb := T.tb) rt l0 vs s.heap mu H.si h20
  have hval : VR w Fr mu' (oneD (ownOne rt l0 T.tb s.heap).1) (oneV vs) ∧ (oneD (ownOne rt l0 T.tb s.heap).1).t.okN (· < (ownOne rt l0 T.tb s.heap).2.length) := by
    revert h2
    generalize (ownOne rt l0 T.tb s.heap).1 = l
    intro h2
    match l, vs, h2 with
    | [], _, .nil => exact tupD_ok [] [] .nil
    | [d], _, .cons h3 .nil => exact ⟨h3.1, h3.2.1⟩
    | d :: d' :: ds, _, .cons h3 (.cons h4 h5) => exact tupD_ok _ _ (.cons h3 (.cons h4 h5))
  obtain ⟨Fr2, mu2, hp⟩ := finE_ok (More.rep H hmore) hval h
  exact ⟨oneV vs, Fr2, mu2, run_results h1, hp⟩
/-- Arguments in their slots. -/
theorem numD_mem : ∀ (l : List Dyn) (n u : Nat) (d : Dyn), (u, d) ∈ numD n l → n ≤ u ∧ l[u - n]? = some d
  | [], _, _, _, h => by cases h
  | x :: l, n, u, d, h => by
    rcases List.mem_cons.1 h with h | h
    · injection h with h1 h2
      subst h1; subst h2
      exact ⟨Nat.le_refl _, by simp⟩
    · obtain ⟨h1, h2⟩ := numD_mem l (n + 1) u d h
      refine ⟨by omega, ?_⟩
      rw [show u - n = (u - (n + 1)) + 1 by omega]
      simpa using h2
theorem numD_sorted : ∀ (l : List Dyn) (n : Nat), ((numD n l).map (·.1)).Pairwise (· < ·)
  | [], _ => by simp [numD]
  | x :: l, n => by
    simp only [numD, List.map_cons, List.pairwise_cons, List.mem_map]
    refine ⟨?_, numD_sorted l (n + 1)⟩
    rintro a ⟨⟨u, d⟩, hm, rfl⟩
    have := (numD_mem l (n + 1) u d hm).1
    show n < u
    omega
/-- Functions that are told of otherwise than by their code. -/
def PrimsOK (P : Program) (pr : Prims) : Prop := ∀ (f : Nat) (c : AbsFn), pr f = some c → ∀ (args : List Dyn) (objs : List AObj) (rt : Ty) (ots : List OTy) (r : denR rt ots), c f args objs rt ots = some r → Enters P f ∧
  ∀ (w : World) (Fr : Nat → Prop) (mu : Nat → Loc) (vs : List Value), Pre w Fr mu objs args vs →
    Calls P f vs.toArray w fun e w' => ∃ v Fr' mu', e = .returned v ∧ Post w Fr mu objs ⟨rt, resT rt ots r⟩ (resO rt ots r) v w' Fr' mu'
/-- What is asked of a program and of what is told of it. -/
structure Fits (P : Program) (T : Told) (pr : Prims) : Prop where
  mixed : P.follows .mixedOrders = true
  tab : TabOK P T.tb
  names : ∀ (f : Nat) (fn : Func), P.funcs[f]? = some fn → fn.name ≠ "runtime.NumGoroutine"
  prims : PrimsOK P pr
theorem callB_ok {pr : Prims} (hP : Fits P T pr) (hC : Sound P C) {LP : Looper} (hL : ∀ (E : Env) (nt : Nat) (R : Type), LoopOK P E nt R (LP R)) : Sound P (callB P T pr C LP) := by
  intro f args objs rt ots r h
  unfold callB at h
  split at h
  · rename_i c hc
    exact hP.prims f c hc args objs rt ots r h
  · split at h
    · cases h
    rename_i hb
    split at h
    case isFalse => cases h
    rename_i hle
    obtain ⟨hle, hcalm⟩ := hle
    have hfn : ∃ fn c, P.funcs[f]? = some fn ∧ fn.body = some c := by
      unfold hasBody at hb
      split at hb
      · cases hb
      · rename_i fn hf
        obtain ⟨c, hc⟩ := Option.isSome_iff_exists.1 hb
        exact ⟨fn, c, hf, hc⟩
    obtain ⟨fn, c, hf, hbody⟩ := hfn
    have hfo : funcOf P f = fn := by unfold funcOf; rw [hf]
    have hco : codeOf P f = c := by unfold codeOf; rw [hf]; dsimp only; rw [hbody]
    refine ⟨⟨fn, hf, by rw [hbody]; rfl, hP.names f fn hf⟩, ?_⟩
    intro w Fr mu vs hpre
    refine calls_of_wp hf hbody ?_
    rw [hfo] at hle
    have hsz : (vs.toArray ++ Array.replicate (fn.ntmps - vs.toArray.size) undef).size = fn.ntmps := by
      have := hpre.len
      simp; omega
    have hrep : Rep (env w Fr mu objs) w Fr mu ⟨numD 0 args, objs⟩ { tmps := vs.toArray ++ Array.replicate (fn.ntmps - vs.toArray.size) undef, defers := [] } := by
      refine ⟨⟨Grow.refl _ w, fun _ => id, fun _ => .inl, hpre.frL, hpre.so.hh, hpre.so.obj, hpre.so.nm, hpre.so.sep, ?_, ?_, Nat.le_refl _⟩, ?_, rfl, numD_sorted args 0⟩
      · intro i o hi ho
        obtain ⟨h1, h2⟩ := hpre.so.own i o hi ho
        exact ⟨.inl ⟨i, o, hi, ho, rfl⟩, h1, h2⟩
      · intro i o _ hi
        obtain ⟨t, x⟩ := o
        cases t with
        | gone => trivial
        | box t => rfl
        | row e t f => cases f <;> first | rfl | trivial
      · intro u d hm
        obtain ⟨_, hd⟩ := numD_mem args 0 u d hm
        rw [Nat.sub_zero] at hd
        have hu : u < args.length := (List.getElem?_eq_some_iff.1 hd).1
        have huv : u < vs.length := by rw [← hpre.len]; exact hu
        obtain ⟨h1, h2⟩ := hpre.val u d vs[u] hd (List.getElem?_eq_getElem huv)
        refine ⟨by rw [hsz]; omega, ?_, h2⟩
        have : (vs.toArray ++ Array.replicate (fn.ntmps - vs.toArray.size) undef).getD u undef = vs[u] := by
          simp [Array.getElem?_append, huv]
        rw [this]; exact h1
    unfold bodyF at h
    rw [hfo, hco] at h
    have h : runD T C (LP _) f fn.ntmps objs.length [] c ⟨numD 0 args, objs⟩ (finK T fn rt ots objs.length) = some r := h
    rw [hco] at hcalm
    refine (wpIn_wide (n := 0)).1 (runD_ok (E := env w Fr mu objs) (LP := LP _) hP.mixed hP.tab hC (hL _ _ _) c [] hcalm none 0 r (finK T fn rt ots objs.length) _ ?_ _ _ w Fr mu hrep hsz h)
    intro e s' a' w' Fr' mu' hk H' hnt'
    have hfin : (∀ j, e ≠ .exit j) → ∃ v Fr2 mu2, (results fn a'.tmps).run P w' = .ok v w' ∧ Post w Fr mu objs ⟨rt, resT rt ots r⟩ (resO rt ots r) v w' Fr2 mu2 := by
      intro he
      refine finD_ok hP.tab H' (ots := ots) ?_
      cases e with
      | normal => exact hk
      | ret => exact hk
      | exit j => exact absurd rfl (he j)
    cases e with
    | normal =>
      obtain ⟨v, Fr2, mu2, h1, h2⟩ := hfin (by simp)
      exact ⟨H'.df, v, h1, v, Fr2, mu2, rfl, h2⟩
    | ret =>
      obtain ⟨v, Fr2, mu2, h1, h2⟩ := hfin (by simp)
      exact ⟨H'.df, v, h1, v, Fr2, mu2, rfl, h2⟩
    | exit j => cases hk
end
end Go.Abs
set_option autoImplicit false
set_option linter.unusedVariables false
namespace Go.Abs

section
variable {R A : Type}
/-- More and more is answered, and in the end so much. -/
structure IsLim (x : Nat → Option R) (y : Option R) : Prop where
  mono : ∀ k r, x k = some r → x (k + 1) = some r
  iff : ∀ r, y = some r ↔ ∃ k, x k = some r
theorem IsLim.const (y : Option R) : IsLim (fun _ => y) y := ⟨fun _ _ h => h, fun r => ⟨fun h => ⟨0, h⟩, fun ⟨_, h⟩ => h⟩⟩
theorem IsLim.le {x : Nat → Option R} {y : Option R} (h : IsLim x y) {k : Nat} {r : R} : ∀ (j : Nat), x k = some r → x (k + j) = some r
  | 0, e => e
  | j + 1, e => h.mono _ _ (h.le j e)
theorem IsLim.ge {x : Nat → Option R} {y : Option R} (h : IsLim x y) {k j : Nat} {r : R} (hk : k ≤ j) (e : x k = some r) : x j = some r := by
  have := h.le (j - k) e
  rwa [Nat.add_sub_cancel' hk] at this
theorem IsLim.uniq {x : Nat → Option R} {y y' : Option R} (h : IsLim x y) (h' : IsLim x y') : y = y' := by
  cases y with
  | some r => exact ((h'.iff r).2 ((h.iff r).1 rfl)).symm
  | none => cases y' with
    | none => rfl
    | some r => have := (h.iff r).2 ((h'.iff r).1 rfl); cases this
theorem IsLim.shift {x : Nat → Option R} {y : Option R} (h : IsLim x y) : IsLim (fun k => x (k + 1)) y :=
  ⟨fun k r => h.mono (k + 1) r, fun r => ⟨fun e => by obtain ⟨k, hk⟩ := (h.iff r).1 e; exact ⟨k, h.mono k r hk⟩, fun ⟨k, hk⟩ => (h.iff r).2 ⟨k + 1, hk⟩⟩⟩
theorem IsLim.br {b : Bool} {x1 x2 : Nat → Option R} {y1 y2 : Option R} (h1 : IsLim x1 y1) (h2 : IsLim x2 y2) : IsLim (fun k => br b (x1 k) (x2 k)) (br b y1 y2) := by
  cases b
  · exact h2
  · exact h1
theorem IsLim.bnd {x : Nat → Option A} {y : Option A} {K : Nat → A → Option R} {K' : A → Option R} (h : IsLim x y) (hK : ∀ a, IsLim (fun k => K k a) (K' a)) : IsLim (fun k => bnd (x k) (K k)) (bnd y K') := by
  refine ⟨fun k r e => ?_, fun r => ⟨fun e => ?_, fun ⟨k, e⟩ => ?_⟩⟩
  · unfold Abs.bnd at e ⊢
    obtain ⟨a, h1, h2⟩ := Option.bind_eq_some_iff.1 e
    exact Option.bind_eq_some_iff.2 ⟨a, h.mono k a h1, (hK a).mono k r h2⟩
  · unfold Abs.bnd at e ⊢
    obtain ⟨a, h1, h2⟩ := Option.bind_eq_some_iff.1 e
    obtain ⟨k1, g1⟩ := (h.iff a).1 h1
    obtain ⟨k2, g2⟩ := ((hK a).iff r).1 h2
    exact ⟨k1 + k2, Option.bind_eq_some_iff.2 ⟨a, h.le k2 g1, (hK a).ge (Nat.le_add_left _ _) g2⟩⟩
  · unfold Abs.bnd at e ⊢
    obtain ⟨a, h1, h2⟩ := Option.bind_eq_some_iff.1 e
    exact Option.bind_eq_some_iff.2 ⟨a, (h.iff a).2 ⟨k, h1⟩, ((hK a).iff r).2 ⟨k, h2⟩⟩
theorem both_iff {x y : Option R} {r : R} : both x y = some r ↔ x = some r ∧ y = some r := by
  refine ⟨both_some, fun ⟨h1, h2⟩ => ?_⟩
  unfold both
  rw [if_pos (h1.trans h2.symm)]
  exact h1
theorem IsLim.both {x1 x2 : Nat → Option R} {y1 y2 : Option R} (h1 : IsLim x1 y1) (h2 : IsLim x2 y2) : IsLim (fun k => both (x1 k) (x2 k)) (both y1 y2) := by
  refine ⟨fun k r e => ?_, fun r => ⟨fun e => ?_, fun ⟨k, e⟩ => ?_⟩⟩
  · have e := both_iff.1 e
    exact both_iff.2 ⟨h1.mono k r e.1, h2.mono k r e.2⟩
  · have e := both_iff.1 e
    obtain ⟨k1, g1⟩ := (h1.iff r).1 e.1
    obtain ⟨k2, g2⟩ := (h2.iff r).1 e.2
    exact ⟨k1 + k2, both_iff.2 ⟨h1.le k2 g1, h2.ge (Nat.le_add_left _ _) g2⟩⟩
  · have e := both_iff.1 e
    exact both_iff.2 ⟨(h1.iff r).2 ⟨k, e.1⟩, (h2.iff r).2 ⟨k, e.2⟩⟩
theorem IsLim.boths {L : Type} {f : Nat → L → Option R} {g : L → Option R} (h : ∀ a, IsLim (fun k => f k a) (g a)) : ∀ (l : List L), IsLim (fun k => boths (l.map (f k))) (boths (l.map g))
  | [] => .const _
  | [a] => h a
  | a :: b :: l => IsLim.both (h a) (IsLim.boths h (b :: l))
theorem lim_ok {x : Nat → Option R} (h : ∀ k r, x k = some r → x (k + 1) = some r) : IsLim x (lim x) := by
  refine ⟨h, fun r => ⟨fun e => ?_, fun ⟨k, e⟩ => ?_⟩⟩
  · unfold lim at e
    split at e
    · exact ⟨_, e⟩
    · cases e
  · have hx : ∃ k r, x k = some r := ⟨k, r, e⟩
    unfold lim
    rw [dif_pos hx]
    obtain ⟨r', e'⟩ := Classical.choose_spec hx
    rw [e']
    have L : IsLim x (some r') := ⟨h, fun r2 => ⟨fun e2 => by injection e2 with e2; subst e2; exact ⟨_, e'⟩, fun ⟨k2, e2⟩ => ?_⟩⟩
    · exact ((L.iff r).2 ⟨k, e⟩)
    · have up : ∀ (j k : Nat) (r : R), x k = some r → x (k + j) = some r := by
        intro j
        induction j with
        | zero => intro k r e; exact e
        | succ j ih => intro k r e; exact h _ _ (ih k r e)
      have a1 := up k2 _ _ e'
      have a2 := up (Classical.choose hx) _ _ e2
      rw [Nat.add_comm] at a2
      rw [a1] at a2
      exact a2
theorem lim_some {x : Nat → Option R} {r : R} (h : lim x = some r) : ∃ k, x k = some r := by
  unfold lim at h
  split at h
  · exact ⟨_, h⟩
  · cases h

/-! ### Runs -/
def KLim (Ks : Nat → Kn R) (K : Kn R) : Prop := ∀ e s, IsLim (fun k => (Ks k).go e s) (K.go e s)
def CLim (Cs : Nat → AbsFn) (C : AbsFn) : Prop := ∀ f args objs rt ots, IsLim (fun k => Cs k f args objs rt ots) (C f args objs rt ots)
def RLim (bs : Nat → Run R) (b : Run R) : Prop := ∀ s Ks K, KLim Ks K → IsLim (fun k => bs k s (Ks k)) (b s K)
theorem CLim.const (C : AbsFn) : CLim (fun _ => C) C := fun _ _ _ _ _ => .const _
theorem KLim.const (K : Kn R) : KLim (fun _ => K) K := fun _ _ => .const _
theorem againK_lim {p : List Nat} {ls : Nat → Run R} {l : Run R} {Ks : Nat → Kn R} {K : Kn R} (hl : ∀ s, IsLim (fun k => ls k s (Ks k)) (l s K)) (hK : KLim Ks K) : KLim (fun k => againK p (ls k) (Ks k)) (againK p l K) := by
  intro e s
  cases e with
  | normal => exact hl s
  | exit i => exact hK (.exit i) s
  | ret => exact hK .ret s
theorem seqK_lim {f : Bool} {p : List Nat} {bs : Nat → Run R} {b : Run R} {Ks : Nat → Kn R} {K : Kn R} (hb : RLim bs b) (hK : KLim Ks K) : KLim (fun k => seqK f p (bs k) (Ks k)) (seqK f p b K) := by
  intro e s
  cases e with
  | normal =>
    show IsLim (fun k => jn f p (bs k) s (Ks k)) (jn f p b s K)
    simp only [jn_eq]
    exact hb s Ks K hK
  | exit i => exact hK (.exit i) s
  | ret => exact hK .ret s
theorem blockK_lim {i : Nat} {Ks : Nat → Kn R} {K : Kn R} (hK : KLim Ks K) : KLim (fun k => blockK i (Ks k)) (blockK i K) := by
  intro e s
  cases e with
  | normal => exact hK .normal s
  | exit j =>
    show IsLim (fun k => if j = i then (Ks k).go .normal s else (Ks k).go (.exit j) s) (if j = i then K.go .normal s else K.go (.exit j) s)
    split
    · exact hK .normal s
    · exact hK (.exit j) s
  | ret => exact hK .ret s
theorem loopD_lim {p : List Nat} {bs : Nat → Run R} {b : Run R} (hb : RLim bs b) : ∀ (i : Nat), RLim (fun k => loopD p (bs k) i) (loopD p b i)
  | 0 => fun _ _ _ _ => .const _
  | i + 1 => fun s Ks K hK => hb s _ _ (againK_lim (fun s' => loopD_lim hb i s' Ks K hK) hK)
theorem RLim.up {b : Run R} (hb : RLim (fun _ => b) b) {s : St} {K K' : Kn R} (hK : ∀ e s r, K.go e s = some r → K'.go e s = some r) {r : R} (h : b s K = some r) : b s K' = some r := by
  have hl : KLim (fun k => if k = 0 then K else K') K' := by
    intro e s
    refine ⟨fun k r e => ?_, fun r => ⟨fun e => ⟨1, e⟩, fun ⟨k, e⟩ => ?_⟩⟩
    · dsimp only at e ⊢
      rw [if_neg (by omega)]
      split at e
      · exact hK _ _ _ e
      · exact e
    · dsimp only at e
      split at e
      · exact hK _ _ _ e
      · exact e
  exact (hb s _ K' hl).mono 0 r h
theorem loopD_up {p : List Nat} {b : Run R} (hb : RLim (fun _ => b) b) : ∀ (j : Nat) (s : St) (K : Kn R) (r : R), loopD p b j s K = some r → loopD p b (j + 1) s K = some r
  | 0, _, _, _, h => by cases h
  | j + 1, s, K, r, h => by
    refine hb.up (K := againK p (loopD p b j) K) ?_ h
    intro e s' r' h'
    cases e with
    | normal => exact loopD_up hb j s' K r' h'
    | exit i => exact h'
    | ret => exact h'
theorem loopW_is {p : List Nat} {b : Run R} (hb : RLim (fun _ => b) b) (s : St) (K : Kn R) : IsLim (fun j => loopD p b j s K) (loopW p b s K) := lim_ok fun k r h => loopD_up hb k s K r h
theorem loopW_lim {p : List Nat} {bs : Nat → Run R} {b : Run R} (h1 : ∀ j, RLim (fun _ => bs j) (bs j)) (h2 : RLim (fun _ => b) b) (h3 : RLim bs b) : RLim (fun k => loopW p (bs k)) (loopW p b) := by
  intro s Ks K hK
  refine ⟨fun k r e => ?_, fun r => ⟨fun e => ?_, fun ⟨k, e⟩ => ?_⟩⟩
  · obtain ⟨i, e⟩ := ((loopW_is (h1 k) s (Ks k)).iff r).1 e
    exact ((loopW_is (h1 (k + 1)) s (Ks (k + 1))).iff r).2 ⟨i, (loopD_lim h3 i s Ks K hK).mono k r e⟩
  · obtain ⟨i, e⟩ := ((loopW_is h2 s K).iff r).1 e
    obtain ⟨k, e⟩ := ((loopD_lim h3 i s Ks K hK).iff r).1 e
    exact ⟨k, ((loopW_is (h1 k) s (Ks k)).iff r).2 ⟨i, e⟩⟩
  · obtain ⟨i, e⟩ := ((loopW_is (h1 k) s (Ks k)).iff r).1 e
    exact ((loopW_is h2 s K).iff r).2 ⟨i, ((loopD_lim h3 i s Ks K hK).iff r).2 ⟨k, e⟩⟩
/-- A loop is its body, and itself again. -/
theorem loopW_eq {p : List Nat} {b : Run R} (hb : RLim (fun _ => b) b) (s : St) (K : Kn R) : loopW p b s K = b s (againK p (loopW p b) K) :=
  (loopW_is hb s K).shift.uniq (hb s _ _ (againK_lim (fun s' => loopW_is hb s' K) (.const K)))

variable {T : Told} {Cs : Nat → AbsFn} {C : AbsFn}
theorem callD_lim (hC : CLim Cs C) {f : Nat} {args : List Dyn} {s : St} {Ks : Nat → Dyn → St → Option R} {K : Dyn → St → Option R} (hK : ∀ d s, IsLim (fun k => Ks k d s) (K d s)) : IsLim (fun k => callD T (Cs k) f args s (Ks k)) (callD T C f args s K) := by
  unfold callD
  split
  · exact .const _
  split
  · exact .const _
  dsimp only
  split
  · exact IsLim.bnd (hC _ _ _ _ _) fun a => hK _ _
  · exact .const _
theorem opD_lim (hC : CLim Cs C) {fn : Nat} {o : Oper} {s : St} {Ks : Nat → Dyn → St → Option R} {K : Dyn → St → Option R} (hK : ∀ d s, IsLim (fun k => Ks k d s) (K d s)) : IsLim (fun k => opD T (Cs k) fn o s (Ks k)) (opD T C fn o s K) := by
  unfold opD
  split
  · split
    · refine IsLim.br ?_ ?_
      · split
        · exact hK _ _
        · exact .const _
      · split
        · exact hK _ _
        · exact .const _
    · exact .const _
  · split
    · split
      · exact callD_lim hC hK
      · exact .const _
    · exact .const _
  · split
    · exact IsLim.br (IsLim.both (hK _ _) (hK _ _)) (hK _ _)
    split
    · exact IsLim.br (hK _ _) (.const _)
    · exact .const _
theorem stepD_lim (hC : CLim Cs C) {fn nt : Nat} {all : Array Oper} {i : Nat} {s : St} {Ks : Nat → St → Option R} {K : St → Option R} (hK : ∀ s, IsLim (fun k => Ks k s) (K s)) : IsLim (fun k => stepD T (Cs k) fn nt all i s (Ks k)) (stepD T C fn nt all i s K) := by
  unfold stepD
  split
  · exact .const _
  split
  · exact .const _
  split
  · exact opD_lim hC fun d s => hK _
  · split
    · exact .const _
    split
    · refine IsLim.br ?_ ?_
      · split
        · exact opD_lim hC fun d s => hK _
        · exact hK _
      · split
        · exact opD_lim hC fun d s => hK _
        · exact hK _
    · exact hK _
    · exact .const _
theorem opsD_lim (hC : CLim Cs C) {fn nt : Nat} {all : Array Oper} {Ks : Nat → St → Option R} {K : St → Option R} (hK : ∀ s, IsLim (fun k => Ks k s) (K s)) : ∀ (l : List Nat) (s : St), IsLim (fun k => opsD T (Cs k) fn nt all l s (Ks k)) (opsD T C fn nt all l s K)
  | [], s => hK s
  | i :: l, s => stepD_lim hC fun s' => opsD_lim hC hK l s'
theorem anyD_lim (hC : CLim Cs C) {fn nt : Nat} {all : Array Oper} {Ks : Nat → St → Option R} {K : St → Option R} (hK : ∀ s, IsLim (fun k => Ks k s) (K s)) : ∀ (n : Nat) (listed : Array Bool) (need : List Nat) (s : St), IsLim (fun k => anyD T (Cs k) fn nt all n listed need s (Ks k)) (anyD T C fn nt all n listed need s K) := by
  intro n
  induction n with
  | zero =>
    intro listed need s
    unfold anyD
    split
    · exact hK s
    · exact .const _
  | succ n ih =>
    intro listed need s
    unfold anyD
    split
    · exact hK s
    split
    · exact stepD_lim hC fun s' => ih _ _ _
    · refine IsLim.boths (fun i => ?_) _
      split
      · split
        · exact .const _
        · exact stepD_lim hC fun s' => ih _ _ _
      · exact .const _
theorem normK_lim {Ks : Nat → Kn R} {K : Kn R} (hK : KLim Ks K) (x : Option St) : IsLim (fun k => match x with | some s' => (Ks k).go .normal s' | none => none) (match x with | some s' => K.go .normal s' | none => none) := by
  cases x with
  | none => exact .const _
  | some s' => exact hK _ _
theorem runD_lim {fn nt m : Nat} : ∀ (c : Code) (Cs : Nat → AbsFn) (C : AbsFn) (p : List Nat), CLim Cs C → RLim (fun k s K => runD T (Cs k) (@loopW R) fn nt m p c s K) (fun s K => runD T C (@loopW R) fn nt m p c s K)
  | .skip, Cs, C, p, hC => fun s Ks K hK => hK .normal s
  | .label _, Cs, C, p, hC => fun s Ks K hK => hK .normal s
  | .region i ops false, Cs, C, p, hC => fun s Ks K hK => opsD_lim hC (fun s' => normK_lim hK _) _ s
  | .region i ops true, Cs, C, p, hC => fun s Ks K hK => anyD_lim hC (fun s' => normK_lim hK _) _ _ _ s
  | .seq c d, Cs, C, p, hC => fun s Ks K hK => runD_lim c Cs C (p ++ [0]) hC s _ _ (seqK_lim (runD_lim d Cs C (p ++ [1]) hC) hK)
  | .cond c x y, Cs, C, p, hC => fun s Ks K hK => by
    cases c with
    | tmp t =>
      show IsLim (fun k => match getT s.tmps t with
        | ⟨.bool, b⟩ => br b (runD T (Cs k) (@loopW R) fn nt m (p ++ [0]) x (cutT T fn s t true) (Ks k)) (runD T (Cs k) (@loopW R) fn nt m (p ++ [1]) y (cutT T fn s t false) (Ks k))
        | _ => none) (match getT s.tmps t with
        | ⟨.bool, b⟩ => br b (runD T C (@loopW R) fn nt m (p ++ [0]) x (cutT T fn s t true) K) (runD T C (@loopW R) fn nt m (p ++ [1]) y (cutT T fn s t false) K)
        | _ => none)
      split
      · exact IsLim.br (runD_lim x Cs C (p ++ [0]) hC _ Ks K hK) (runD_lim y Cs C (p ++ [1]) hC _ Ks K hK)
      · exact .const _
    | const _ => exact .const _
    | global _ => exact .const _
    | func _ => exact .const _
  | .block i c, Cs, C, p, hC => fun s Ks K hK => runD_lim c Cs C (p ++ [0]) hC s _ _ (blockK_lim hK)
  | .loop c, Cs, C, p, hC => fun s Ks K hK =>
    loopW_lim (fun j => runD_lim c (fun _ => Cs j) (Cs j) (p ++ [0]) (.const _)) (runD_lim c (fun _ => C) C (p ++ [0]) (.const _)) (runD_lim c Cs C (p ++ [0]) hC) s Ks K hK
  | .exit i, Cs, C, p, hC => fun s Ks K hK => hK (.exit i) s
  | .ret, Cs, C, p, hC => fun s Ks K hK => hK .ret s
  | .rangeFunc _ _ _ _, _, _, _, _ => fun _ _ _ _ => .const _
  | .scope _, _, _, _, _ => fun _ _ _ _ => .const _
  | .goto _, _, _, _, _ => fun _ _ _ _ => .const _
  | .refuse _, _, _, _, _ => fun _ _ _ _ => .const _
variable {P : Program} {pr : Prims}
theorem callB_lim (hC : CLim Cs C) : CLim (fun k => callB P T pr (Cs k) @loopW) (callB P T pr C @loopW) := by
  intro f args objs rt ots
  unfold callB
  dsimp only
  split
  · exact .const _
  split
  · exact .const _
  split
  · exact runD_lim _ Cs C [] hC _ _ _ (.const _)
  · exact .const _
theorem callG_up : ∀ (k : Nat) f args objs rt ots (r : denR rt ots), callG P T pr k f args objs rt ots = some r → callG P T pr (k + 1) f args objs rt ots = some r
  | 0, f, args, objs, rt, ots, r, h => by cases h
  | k + 1, f, args, objs, rt, ots, r, h => by
    have hl : CLim (fun j => if j = 0 then callG P T pr k else callG P T pr (k + 1)) (callG P T pr (k + 1)) := by
      intro f args objs rt ots
      refine ⟨fun j r e => ?_, fun r => ⟨fun e => ⟨1, e⟩, fun ⟨j, e⟩ => ?_⟩⟩
      · dsimp only at e ⊢
        rw [if_neg (by omega)]
        split at e
        · exact callG_up k _ _ _ _ _ _ e
        · exact e
      · dsimp only at e
        split at e
        · exact callG_up k _ _ _ _ _ _ e
        · exact e
    exact (callB_lim (P := P) (T := T) (pr := pr) hl f args objs rt ots).mono 0 r h
theorem callW_is : CLim (callG P T pr) (callW P T pr) := fun f args objs rt ots => lim_ok fun k r h => callG_up k f args objs rt ots r h
/-- A call is its code, in which it may call. -/
theorem callW_eq (f : Nat) (args : List Dyn) (objs : List AObj) (rt : Ty) (ots : List OTy) : callW P T pr f args objs rt ots = callB P T pr (callW P T pr) @loopW f args objs rt ots :=
  (callW_is f args objs rt ots).shift.uniq (callB_lim callW_is f args objs rt ots)
/-- A loop of a function's code. -/
theorem loopB_eq (q p : List Nat) (f m : Nat) (s : St) (K : Kn R) : loopW q (bodyF P T C @loopW f m p) s K = bodyF P T C @loopW f m p s (againK q (loopW q (bodyF P T C @loopW f m p)) K) :=
  loopW_eq (runD_lim _ _ _ _ (.const _)) s K
theorem loopW_ok {E : Env} {nt : Nat} : LoopOK P E nt R (@loopW R) := by
  intro p body c hb hc ro n r K Q hK s a w Fr mu H hnt h
  obtain ⟨j, h⟩ := lim_some h
  exact loopD_ok j p body c hb hc ro n r K Q hK s a w Fr mu H hnt h
theorem callG_ok (hP : Fits P T pr) : ∀ k, Sound P (callG P T pr k)
  | 0 => fun f args objs rt ots r h => by cases h
  | k + 1 => callB_ok hP (callG_ok hP k) fun _ _ _ => loopW_ok
/-- What the interpreter tells of a call holds. -/
theorem callW_ok (hP : Fits P T pr) : Sound P (callW P T pr) := by
  intro f args objs rt ots r h
  obtain ⟨k, h⟩ := lim_some h
  exact callG_ok hP k f args objs rt ots r h
end
end Go.Abs
set_option autoImplicit false
set_option linter.unusedVariables false
namespace Go.Abs
/-- May things be laid into a row at a place? -/
def insG (t : Ty) (xs : List (den t)) (i : Int) (vs : List (den t)) : Bool := decide (0 ≤ i ∧ i.toNat ≤ xs.length ∧ 0 < vs.length ∧ xs.length + vs.length ≤ 1073741824)
def insL (t : Ty) (xs : List (den t)) (i : Int) (vs : List (den t)) : List (den t) := xs.take i.toNat ++ vs ++ xs.drop i.toNat
/-- May things be taken out of a row? -/
def delG (t : Ty) (xs : List (den t)) (i j : Int) : Bool := decide (0 ≤ i ∧ i ≤ j ∧ j.toNat ≤ xs.length)
def delL (t : Ty) (xs : List (den t)) (i j : Int) : List (den t) := xs.take i.toNat ++ xs.drop j.toNat
/-- slices.Insert, on a row of one's own; what is laid in is another one. -/
def insP (e : Nat) (t : Ty) : AbsFn := fun f args objs rt ots => match args, objs with
  | [⟨.own t1 0, _⟩, ⟨.int .i64, i⟩, ⟨.own t2 1, _⟩], [⟨.row e1 u1 f1, xs⟩, ⟨.row e2 u2 true, vs⟩] =>
    if e1 = e ∧ e2 = e then (match (⟨.list u1, xs⟩ : Dyn).as (.list t), (⟨.list u2, vs⟩ : Dyn).as (.list t) with
      | some xs, some vs => (match (⟨.own t 0, ()⟩ : Dyn).as rt, asObjs ots [⟨.row e t false, insL t xs i vs⟩, ⟨.row e t true, vs⟩] with
        | some x, some y => br (insG t xs i vs) (some (mkR rt x ots y)) none
        | _, _ => none)
      | _, _ => none) else none
  | _, _ => none
/-- slices.Delete, on a row of one's own. -/
def delP (e : Nat) (t : Ty) : AbsFn := fun f args objs rt ots => match args, objs with
  | [⟨.own t1 0, _⟩, ⟨.int .i64, i⟩, ⟨.int .i64, j⟩], [⟨.row e1 u1 f1, xs⟩] =>
    if e1 = e then (match (⟨.list u1, xs⟩ : Dyn).as (.list t) with
      | some xs => (match (⟨.own t 0, ()⟩ : Dyn).as rt, asObjs ots [⟨.row e t false, delL t xs i j⟩] with
        | some x, some y => br (delG t xs i j) (some (mkR rt x ots y)) none
        | _, _ => none)
      | _ => none) else none
  | _, _ => none
end Go.Abs
set_option autoImplicit false
set_option linter.unusedVariables false
namespace Go.Abs
/-- Is a cell such a value? -/
def cellIs : (t : Ty) → den t → Value → Bool
  | .nil _, _, v => (match v with
    | .slice none 0 0 => true
    | _ => false)
  | .nilptr, _, v => (match v with
    | .pointer none => true
    | _ => false)
  | .nilfn, _, v => (match v with
    | .nilFunc => true
    | _ => false)
  | .bool, b, v => (match v with
    | .bool c => decide (b = c)
    | _ => false)
  | .int k, n, v => (match v with
    | .int j m => decide (k = j ∧ n = m)
    | _ => false)
  | .str, s, v => (match v with
    | .string r => decide (s = r)
    | _ => false)
  | _, _, _ => false
theorem cellIs_ok {w : World} {Fr : Nat → Prop} {mu : Nat → Loc} {t : Ty} {x : den t} {v : Value} (h : cellIs t x v = true) : Rp w Fr mu t x [v] := by
  cases t <;> unfold cellIs at h <;> dsimp only at h <;> first | (cases h; done) | skip
  all_goals
    split at h
    case h_2 => cases h
  · rfl
  · rfl
  · rfl
  · rw [of_decide_eq_true h]; rfl
  · obtain ⟨h1, h2⟩ := of_decide_eq_true h
    rw [h1, h2]; rfl
  · rw [of_decide_eq_true h]; rfl
/-- What is left of cells behind those that hold a value. -/
def litR : (t : Ty) → den t → List Value → Option (List Value)
  | .unit, _, l => some l
  | .pair a b, x, l => match litR a x.1 l with
    | some r => litR b x.2 r
    | none => none
  | .arr n t, xs, l => if t.elt = true ∧ xs.length = n then xs.foldl (fun (r : Option (List Value)) x => match r with
      | some r => litR t x r
      | none => none) (some l) else none
  | t, x, l => match l with
    | v :: l => if cellIs t x v then some l else none
    | [] => none
section
variable {w : World} {Fr : Nat → Prop} {mu : Nat → Loc}
theorem litRs_ok {t : Ty} (ih : ∀ (x : den t) (l r : List Value), litR t x l = some r → ∃ c, l = c ++ r ∧ Rp w Fr mu t x c) : ∀ (xs : List (den t)) (l r : List Value), xs.foldl (fun (r : Option (List Value)) x => match r with
      | some r => litR t x r
      | none => none) (some l) = some r → ∃ c, l = c ++ r ∧ rows (fun x l => Rp w Fr mu t x l) xs c
  | [], l, r, h => by injection h with h; subst h; exact ⟨[], rfl, rfl⟩
  | x :: xs, l, r, h => by
    rw [List.foldl_cons] at h
    dsimp only at h
    cases hx : litR t x l with
    | none =>
      rw [hx] at h
      exfalso
      clear hx ih
      induction xs with
      | nil => cases h
      | cons y ys ihy => exact ihy h
    | some l1 =>
      rw [hx] at h
      obtain ⟨c1, e1, h1⟩ := ih x l l1 hx
      obtain ⟨c2, e2, h2⟩ := litRs_ok ih xs l1 r h
      exact ⟨c1 ++ c2, by rw [e1, e2, List.append_assoc], c1, c2, rfl, h1, h2⟩
theorem litR_one {t : Ty} {x : den t} {l r : List Value} (h : (match l with
    | v :: l => if cellIs t x v then some l else none
    | [] => none) = some r) : ∃ c, l = c ++ r ∧ Rp w Fr mu t x c := by
  split at h
  case h_2 => cases h
  rename_i v l
  split at h
  case isFalse => cases h
  rename_i hc
  injection h with h
  subst h
  exact ⟨[v], rfl, cellIs_ok hc⟩
theorem litR_ok : ∀ (t : Ty) (x : den t) (l r : List Value), litR t x l = some r → ∃ c, l = c ++ r ∧ Rp w Fr mu t x c
  | .unit, _, l, r, h => by
    have h : some l = some r := h
    injection h with h
    subst h
    exact ⟨[], rfl, rfl⟩
  | .pair a b, x, l, r, h => by
    have h : (match litR a x.1 l with
      | some r => litR b x.2 r
      | none => none) = some r := h
    cases ha : litR a x.1 l with
    | none => rw [ha] at h; cases h
    | some l1 =>
      rw [ha] at h
      obtain ⟨c1, e1, h1⟩ := litR_ok a x.1 l l1 ha
      obtain ⟨c2, e2, h2⟩ := litR_ok b x.2 l1 r h
      exact ⟨c1 ++ c2, by rw [e1, e2, List.append_assoc], c1, c2, rfl, h1, h2⟩
  | .arr n t, xs, l, r, h => by
    unfold litR at h
    split at h
    case isFalse => cases h
    rename_i e
    obtain ⟨c, e1, h1⟩ := litRs_ok (fun x l r h => litR_ok t x l r h) xs l r h
    exact ⟨c, e1, e.1, e.2, h1⟩
  | .nil _, _, l, r, h => litR_one h
  | .nilptr, _, l, r, h => litR_one h
  | .nilfn, _, l, r, h => litR_one h
  | .bool, _, l, r, h => litR_one h
  | .int k, _, l, r, h => litR_one h
  | .str, _, l, r, h => litR_one h
  | .dead, _, l, r, h => litR_one h
  | .list _, _, l, r, h => litR_one h
  | .own _ _, _, l, r, h => litR_one h
  | .ptr _ _, _, l, r, h => litR_one h
  | .eptr _ _, _, l, r, h => litR_one h
  | .rptr _ _ _, _, l, r, h => litR_one h
  | .aptr _ _ _ _ _, _, l, r, h => litR_one h
  | .fn _ _, _, l, r, h => litR_one h
  | .tnil, _, l, r, h => litR_one h
  | .tcons _ _, _, l, r, h => litR_one h
end
/-- Does a value stand for a zero value? -/
def zeroIs (d : Dyn) (z : Value) : Bool := match d.t.vk, z with
  | .one, v => (match litR d.t d.x [v] with
    | some [] => true
    | _ => false)
  | .agg, .agg cs => d.t.cel && (match litR d.t d.x cs.toList with
    | some [] => true
    | _ => false)
  | _, _ => false
theorem zeroIs_ok {d : Dyn} {z : Value} (h : zeroIs d z = true) {w : World} {Fr : Nat → Prop} {mu : Nat → Loc} : VR w Fr mu d z := by
  unfold zeroIs at h
  unfold VR
  split at h
  · rename_i hv
    rw [hv]
    dsimp only
    split at h
    case h_2 => cases h
    rename_i hl
    obtain ⟨c, e, hr⟩ := litR_ok (w := w) (Fr := Fr) (mu := mu) _ _ _ _ hl
    rw [List.append_nil] at e
    rw [e]; exact hr
  · rename_i cs hv
    rw [hv]
    dsimp only
    simp only [Bool.and_eq_true] at h
    obtain ⟨hc, h⟩ := h
    split at h
    case h_2 => cases h
    rename_i hl
    obtain ⟨c, e, hr⟩ := litR_ok (w := w) (Fr := Fr) (mu := mu) _ _ _ _ hl
    rw [List.append_nil] at e
    exact ⟨hc, c, by rw [← e], hr⟩
  · cases h
def fieldsAre : List (Nat × Nat) → List Field → Bool
  | [], [] => true
  | (o, t) :: l, f :: fs => decide (o = f.offset ∧ t = f.type) && fieldsAre l fs
  | _, _ => false
theorem fieldsAre_ok : ∀ {l : List (Nat × Nat)} {fs : List Field}, fieldsAre l fs = true → l = fs.map (fun g => (g.offset, g.type))
  | [], [], _ => rfl
  | (o, t) :: l, f :: fs, h => by
    simp only [fieldsAre, Bool.and_eq_true, decide_eq_true_eq] at h
    obtain ⟨⟨rfl, rfl⟩, h⟩ := h
    rw [List.map_cons, ← fieldsAre_ok h]
  | [], _ :: _, h => by cases h
  | _ :: _, [], h => by cases h
def undIs (d : TD) (u : Option TypeDesc) : Bool := match d, u with
  | .int k, some (.int j) => decide (k = j)
  | .str, some .string => true
  | .bool, some .bool => true
  | .slice e, some (.slice f) => decide (e = f)
  | .struct fs, some (.struct F) => fieldsAre fs F.toList
  | .array n e, some (.array m f) => decide (n = m ∧ e = f)
  | .pointer, some (.pointer _) => true
  | .other, some d => !aggDesc d
  | _, _ => false
def eqsIs (P : Program) (t : Nat) (e : Bool) : Bool := !e || (!P.stoodInHeld t && !P.eqGuardType P.depth t && match P.underlying t with
  | some (.struct F) => F.toList.all fun f => f.name != "_"
  | _ => true)
def rowIs (P : Program) (t : Nat) (ti : TI) : Bool := undIs ti.d (P.underlying t) && eqsIs P t ti.eqs && match P.info? t with
  | none => false
  | some i => decide (i.size = ti.siz) && decide (i.bytes = ti.byt) && (!ti.zer.t.alive || (ti.zer.t.pure && match i.zero with
    | none => false
    | some z => decide (z.cells.size = ti.siz) && zeroIs ti.zer z))
theorem rowIs_ok {P : Program} {t : Nat} {ti : TI} (h : rowIs P t ti = true) : Good P t ti := by
  unfold rowIs at h
  simp only [Bool.and_eq_true] at h
  obtain ⟨⟨hu, he⟩, h⟩ := h
  refine ⟨fun e => ?_, ?_, ?_⟩
  · unfold eqsIs at he
    rw [e] at he
    simp only [Bool.not_true, Bool.false_or, Bool.and_eq_true, Bool.not_eq_true'] at he
    obtain ⟨⟨h1, h2⟩, h3⟩ := he
    refine ⟨h1, h2, fun F hF f hf => ?_⟩
    rw [hF] at h3
    have := List.all_eq_true.1 h3 f hf
    simpa using this
  · split at h
    · cases h
    rename_i i hi
    simp only [Bool.and_eq_true, Bool.or_eq_true, decide_eq_true_eq, Bool.not_eq_true'] at h
    obtain ⟨⟨h1, h2⟩, h3⟩ := h
    refine ⟨i, hi, h1, h2, fun ha => ?_⟩
    rcases h3 with h3 | ⟨hp, h3⟩
    · rw [ha] at h3; cases h3
    split at h3
    · cases h3
    rename_i z hz
    simp only [Bool.and_eq_true, decide_eq_true_eq] at h3
    exact ⟨z, hz, h3.1, fun p => Ty.pure_okN _ hp, fun w Fr mu => zeroIs_ok h3.2⟩
  · generalize P.underlying t = u at hu
    generalize ti.d = d at hu
    unfold undIs at hu
    split at hu
    · rw [of_decide_eq_true hu]
    · rfl
    · rfl
    · rw [of_decide_eq_true hu]
    · exact ⟨_, rfl, fieldsAre_ok hu⟩
    · obtain ⟨e1, e2⟩ := of_decide_eq_true hu
      rw [e1, e2]
    · exact ⟨_, rfl⟩
    · exact ⟨_, rfl, by simpa using hu⟩
    · cases hu
def tabIs (P : Program) (tb : Tabs) : Bool := tb.all fun p => rowIs P p.1 p.2
theorem look_mem {α : Type} : ∀ {l : List (Nat × α)} {t : Nat} {a : α}, look l t = some a → (t, a) ∈ l
  | (k, b) :: l, t, a, h => by
    unfold look at h
    split at h
    · rename_i e
      injection h with h
      subst e; subst h
      exact List.mem_cons_self
    · exact List.mem_cons_of_mem _ (look_mem h)
theorem tabIs_ok {P : Program} {tb : Tabs} (h : tabIs P tb = true) : TabOK P tb := fun t ti ht => rowIs_ok (List.all_eq_true.1 h (t, ti) (look_mem ht))
end Go.Abs
