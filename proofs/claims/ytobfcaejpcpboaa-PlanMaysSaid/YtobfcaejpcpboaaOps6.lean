/- Structs and their parts, functions, lengths, as the interpreter tells them. No conditions. -/
import Derived.Test.YtobfcaejpcpboaaOps5
import Derived.Great.BuildSlice
set_option autoImplicit false
set_option linter.unusedVariables false
namespace Go.Abs

section
variable {P : Program} {T : Told} {E : Env} {w : World} {Fr : Nat → Prop} {mu : Nat → Loc} {s : St} {a : Act}

theorem foldl_put (off : Nat) (cells : Array Value) (l1 lm l2 lv : List Value) (he : cells.toList = l1 ++ (lm ++ l2)) (h1 : l1.length = off) (hm : lm.length = lv.length) :
    ((lv.zipIdx 0).foldl (fun cs (x : Value × Nat) => cs.setIfInBounds (off + x.2) x.1) cells).toList = l1 ++ (lv ++ l2) := by
  obtain ⟨g1, g2⟩ := Great.foldl_set off lv 0 cells
  have hsz : cells.size = l1.length + lm.length + l2.length := by
    have := congrArg List.length he
    simp at this; omega
  apply List.ext_getElem?
  intro k
  rw [Array.getElem?_toList, g2 k, ← Array.getElem?_toList, he]
  by_cases hk : k < off
  · rw [if_neg (by omega), List.getElem?_append_left (by omega), List.getElem?_append_left (by omega)]
  · by_cases hk2 : k < off + lv.length
    · rw [if_pos (by omega), List.getElem?_append_right (by omega), List.getElem?_append_left (by omega)]
      congr 1; omega
    · rw [if_neg (by omega), List.getElem?_append_right (by omega), List.getElem?_append_right (by omega), List.getElem?_append_right (by omega), List.getElem?_append_right (by omega)]
      congr 1; omega
theorem layParts_ok (hT : TabOK P T.tb) (H : Rep E w Fr mu s a) {fs : List (Nat × Nat)} {places : Nat → Option (Nat × Nat)} (hpl : ∀ (i off u : Nat) (ti : TI), fs[i]? = some (off, u) → look T.tb u = some ti → places i = some (off, ti.siz)) :
    ∀ (parts : List (Nat × Operand)) (d : Dyn) (cells : Array Value), d.t.chain = true → CD w Fr mu (· < s.heap.length) d cells.toList → (layParts T fs s parts d).t.alive = true →
      ∃ r : Array Value, Instr.fill places cells (parts.map fun p => (p.1, a.eval p.2)) = some r ∧ (layParts T fs s parts d).t.chain = true ∧ CD w Fr mu (· < s.heap.length) (layParts T fs s parts d) r.toList
  | [], d, cells, hch, hd, _ => ⟨cells, rfl, hch, hd⟩
  | (i, x) :: l, d, cells, hch, hd, ha => by
    unfold layParts at ha ⊢
    split at ha
    · rename_i off u hf
      split at ha
      · rename_i ti hti
        split at ha
        · rename_i hc
          rw [if_pos hc]
          simp only [Bool.and_eq_true, decide_eq_true_eq] at hc
          obtain ⟨⟨⟨⟨c1, c2⟩, c3⟩, c4⟩, c5⟩ := hc
          obtain ⟨hcv, _⟩ := VR_cells (p := (· < s.heap.length)) H.si.hh (H.op x).1 c3 c2 (H.op x).2
          obtain ⟨l1, lm, l2, e, e1, e2, e3, e4⟩ := setPart_ok (off := off) hd hcv (chain_alive c4) c5
          have hsz : (a.eval x).cells.size = ti.siz := by
            have := hcv.len
            rw [c1] at this
            simpa using this
          have hput := foldl_put off cells l1 lm l2 (a.eval x).cells.toList e e1 e2
          have hlen : off + (a.eval x).cells.size ≤ cells.size := by
            have := congrArg List.length e
            simp at this e2; omega
          obtain ⟨r, hr, h2, h3⟩ := layParts_ok hT H hpl l (d.setPart off (s.get x)) (((a.eval x).cells.toList.zipIdx 0).foldl (fun cs (x : Value × Nat) => cs.setIfInBounds (off + x.2) x.1) cells) c4 (by rw [hput]; exact e4) ha
          refine ⟨r, ?_, h2, h3⟩
          rw [← hr]
          simp only [List.map_cons, Instr.fill, hpl i off u ti hf hti]
          rw [if_neg (by simp [hsz]; rw [hsz] at hlen; omega)]
          congr 1
          rw [← Array.foldl_toList, Array.toList_zipIdx]
        · cases ha
      · cases ha
    · cases ha
theorem mapM_some {α β : Type} {f : α → Option β} : ∀ {l : List α}, (∀ x ∈ l, (f x).isSome = true) → ∃ r : List β, l.mapM f = some r ∧ ∀ i : Nat, r[i]? = (l[i]?).bind f
  | [], _ => ⟨[], rfl, fun i => rfl⟩
  | x :: l, h => by
    obtain ⟨y, hy⟩ := Option.isSome_iff_exists.1 (h x (by simp))
    obtain ⟨r, hr, hi⟩ := mapM_some (fun x hx => h x (List.mem_cons_of_mem _ hx))
    refine ⟨y :: r, by simp [List.mapM_cons, hy, hr], fun i => ?_⟩
    cases i with
    | zero => simp [hy]
    | succ i => simpa using hi i
theorem ok_build (hT : TabOK P T.tb) (H : Rep E w Fr mu s a) {fn : Nat} {o : Oper} {t : Nat} {parts : Array (Nat × Operand)} (ho : o.op = .build t parts) {d : Dyn} {s' : St} (h : opP T fn o s = some (true, d, s')) : StepQ P w Fr mu s a o d s' := by
  unfold opP at h
  rw [ho] at h
  dsimp only at h
  split at h
  case h_2 => cases h
  rename_i fs eqs n byt z ty hti
  split at h
  case isFalse => cases h
  rename_i hc
  simp only [Bool.and_eq_true, decide_eq_true_eq] at hc
  obtain ⟨⟨⟨c1, c2⟩, c3⟩, c4⟩ := hc
  unfold put1 at h
  split at h
  case isFalse => cases h
  rename_i hal
  injection h with h
  injection h with _ h
  injection h with h2 h3
  subst h2; subst h3
  have hg := hT t _ hti
  obtain ⟨it, hit, hsz, _, hz⟩ := hg.info
  obtain ⟨zv, hzv, hzs, hzok, hzr⟩ := hz (chain_alive c1)
  obtain ⟨F, hu, hF⟩ := hg.und
  have hmap := mapM_some (f := fun f : Field => (P.info? f.type).map fun i => (f.offset, i.size)) (l := F.toList) (fun f hf => by
    have hF' : (f.offset, f.type) ∈ fs := by
      have : (f.offset, f.type) ∈ F.toList.map (fun g => (g.offset, g.type)) := List.mem_map.2 ⟨f, hf, rfl⟩
      rwa [← hF] at this
    have := List.all_eq_true.1 c4 _ hF'
    obtain ⟨ti, hti'⟩ := Option.isSome_iff_exists.1 this
    obtain ⟨i, hi, _⟩ := (hT _ _ hti').info
    simp [hi])
  obtain ⟨places, hp1, hp2⟩ := hmap
  have hpl : ∀ (i off u : Nat) (ti : TI), fs[i]? = some (off, u) → look T.tb u = some ti → places[i]? = some (off, ti.siz) := by
    intro i off u ti hf hti'
    rw [hp2 i]
    have hF : fs = F.toList.map (fun g => (g.offset, g.type)) := hF
    rw [hF, List.getElem?_map] at hf
    cases hfi : F.toList[i]? with
    | none => rw [hfi] at hf; cases hf
    | some f =>
      rw [hfi] at hf
      injection hf with hf
      injection hf with e1 e2
      obtain ⟨i', hi', hs', _⟩ := (hT _ _ hti').info
      simp only [Option.bind_some]
      rw [e2, hi', ← e1, ← hs']
      rfl
  obtain ⟨hcv, _⟩ := VR_cells (p := (· < s.heap.length)) H.si.hh (hzr w Fr mu) c2 (chain_alive c1) (hzok _)
  obtain ⟨r, hr, hch, hd⟩ := layParts_ok hT H hpl parts.toList z zv.cells c1 hcv hal
  refine .mk (v := .agg r) (fun w' => ?_) ?_ hd.ok
  · have hb : P.built t (parts.map fun (i, x) => (i, a.eval x)).toList = some r := by
      unfold Program.built
      rw [hit, hu]
      dsimp only
      rw [hzv, hp1]
      dsimp only
      rw [← hr]
      congr 1
      · funext i; simp
      · simp
    unfold execOp
    simp only [ho, Sem.run_bind, run_build w' t _ r hb, Result.andThen_ok]
    rfl
  · unfold VR
    have : (layParts T fs s parts.toList z).t.vk = .agg := by
      revert hch; cases (layParts T fs s parts.toList z).t <;> intro h <;> first | rfl | cases h
    rw [this]
    exact ⟨hd.cel, r.toList, by simp, hd.rp⟩

theorem run_place {t : Nat} {ti : TI} {f : Field} (hg : Good P f.type ti) (hz : 0 < ti.siz) (b o : Nat) : (fieldPlace ⟨b, o, none⟩ f).run P w = .ok ⟨b, o + f.offset, none⟩ w := by
  unfold fieldPlace
  have : ti.siz ≠ 0 := by omega
  have hadd : (⟨b, o, none⟩ : Addr).add f.offset = ⟨b, o + f.offset, none⟩ := by unfold Addr.add; split <;> simp_all
  simp [hg.size w, this, hadd]
theorem ok_fieldAddr (hT : TabOK P T.tb) (H : Rep E w Fr mu s a) {fn : Nat} {o : Oper} {t : Nat} {x : Operand} {f : Nat} (ho : o.op = .fieldAddr t x f) {d : Dyn} {s' : St} (h : opP T fn o s = some (true, d, s')) : StepQ P w Fr mu s a o d s' := by
  unfold opP at h
  rw [ho] at h
  dsimp only at h
  split at h
  case h_2 => cases h
  rename_i fs eqs n byt z ty hti
  split at h
  case h_2 => cases h
  rename_i off u hf
  split at h
  case h_2 => cases h
  rename_i ti hti'
  split at h
  case isFalse => cases h
  rename_i hz
  obtain ⟨F, hu, hF⟩ := (hT _ _ hti).und
  have hF : fs = F.toList.map (fun g => (g.offset, g.type)) := hF
  have hfi : ∃ g, F[f]? = some g ∧ g.offset = off ∧ g.type = u := by
    rw [hF, List.getElem?_map] at hf
    cases hfi : F.toList[f]? with
    | none => rw [hfi] at hf; cases hf
    | some g =>
      rw [hfi] at hf
      injection hf with hf
      injection hf with e1 e2
      exact ⟨g, by rw [← Array.getElem?_toList]; exact hfi, e1, e2⟩
  obtain ⟨g, hg1, rfl, rfl⟩ := hfi
  have key : ∀ b o', a.eval x = .pointer (some ⟨b, o', none⟩) → ∀ w' : World, (execOp a.eval o).run P w' = .ok (.value (.pointer (some ⟨b, o' + g.offset, none⟩))) w' := by
    intro b o' e w'
    unfold execOp
    simp [ho, Instr.fieldAt, run_underlying hu, hg1, e, Instr.sureAddr, run_place (t := 0) (hT _ _ hti') hz b o']
  have hx := (H.op x).1
  have hn := (H.op x).2
  split at h <;> first | (cases h; done) | skip
  all_goals
    rename_i hq
    injection h with h
    injection h with _ h
    injection h with h2 h3
    subst h2; subst h3
    rw [hq] at hx hn
  · injection (show [a.eval x] = [_] from hx) with hx
    exact .mk (key _ _ hx) rfl hn
  · obtain ⟨he, b, o', cells, e, hb, hr, hat⟩ := hx
    injection e with e
    exact .mk (key _ _ e) ⟨he, b, o', cells, by rw [Nat.add_assoc], hb, hr, hat⟩ hn
  · obtain ⟨b, m, c, h1, h2, h3, e⟩ := hx
    injection e with e
    exact .mk (key _ _ e) ⟨b, m, c, h1, h2, h3, by rw [Nat.add_assoc]⟩ hn
  · obtain ⟨h1, e⟩ := hx
    injection e with e
    exact .mk (key _ _ e) ⟨h1, by rw [Nat.add_assoc, Nat.add_assoc]⟩ hn
theorem run_part {t : Nat} {ti : TI} (hg : Good P t ti) {cs : List Value} {l1 lp l2 : List Value} {d : Dyn} {p : Nat → Prop} (e : cs = l1 ++ (lp ++ l2)) (hf : ti.fits d.t = true) (hd : CD w Fr mu p d lp) :
    ∃ v, (∀ w' : World, (part t cs.toArray l1.length).run P w' = .ok v w') ∧ VR w Fr mu d v := by
  have hagg := fun w' => hg.agg w'
  have hsz := fun w' => hg.size w'
  have many : lp.length = ti.siz → d.t.vk = .agg → ti.d.agg = true → ∃ v, (∀ w' : World, (part t cs.toArray l1.length).run P w' = .ok v w') ∧ VR w Fr mu d v := by
    intro hl hk ha
    simp only [ha] at hagg
    refine ⟨.agg lp.toArray, fun w' => ?_, ?_⟩
    · have : (cs.drop l1.length).take ti.siz = lp := by
        rw [e, List.drop_left' rfl, ← hl, List.take_left' rfl]
      simp [part, hagg w', hsz w', this]
    · unfold VR; rw [hk]; exact ⟨hd.cel, lp, rfl, hd.rp⟩
  have one : d.t.vk = .one → ti.d.agg = false → ∃ v, (∀ w' : World, (part t cs.toArray l1.length).run P w' = .ok v w') ∧ VR w Fr mu d v := by
    intro hk ha
    simp only [ha] at hagg
    have hl : lp.length = 1 := by
      rw [hd.len]
      revert hk
      cases d.t <;> first | (intro h; rfl) | (intro h; cases h)
    obtain ⟨v, rfl⟩ : ∃ v, lp = [v] := by match lp, hl with | [v], _ => exact ⟨v, rfl⟩
    refine ⟨v, fun w' => by simp [part, hagg w', e], ?_⟩
    unfold VR; rw [hk]; exact hd.rp
  unfold TI.fits at hf
  cases hdd : ti.d
  case struct fs =>
    rw [hdd] at hf
    simp only [Bool.and_eq_true, beq_iff_eq] at hf
    refine many (by rw [hd.len, hf.2]) ?_ (by rw [hdd]; rfl)
    revert hf
    cases d.t <;> first | (intro h; rfl) | (intro h; cases h.1)
  case array n e =>
    rw [hdd] at hf
    simp only [Bool.and_eq_true, beq_iff_eq] at hf
    refine many (by rw [hd.len, hf.2]) ?_ (by rw [hdd]; rfl)
    revert hf
    cases d.t <;> first | (intro h; rfl) | (intro h; cases h.1)
  all_goals
    rw [hdd] at hf
    refine one ?_ (by rw [hdd]; rfl)
    revert hf
    cases d.t.vk <;> first | (intro h; rfl) | (intro h; cases h)
theorem ok_field (hT : TabOK P T.tb) (H : Rep E w Fr mu s a) {fn : Nat} {o : Oper} {t : Nat} {x : Operand} {f : Nat} (ho : o.op = .field t x f) {d : Dyn} {s' : St} (h : opP T fn o s = some (true, d, s')) : StepQ P w Fr mu s a o d s' := by
  unfold opP at h
  rw [ho] at h
  dsimp only at h
  split at h
  case h_2 => cases h
  rename_i fs eqs n byt z ty hti
  split at h
  case h_2 => cases h
  rename_i off u hf
  split at h
  case h_2 => cases h
  rename_i ti hti'
  split at h
  case isFalse => cases h
  rename_i hch
  obtain ⟨hfit, hz, _, rfl, rfl⟩ := put2_some h
  obtain ⟨F, hu, hF⟩ := (hT _ _ hti).und
  have hF : fs = F.toList.map (fun g => (g.offset, g.type)) := hF
  have hfi : ∃ g, F[f]? = some g ∧ g.offset = off ∧ g.type = u := by
    rw [hF, List.getElem?_map] at hf
    cases hfi : F.toList[f]? with
    | none => rw [hfi] at hf; cases hf
    | some g =>
      rw [hfi] at hf
      injection hf with hf
      injection hf with e1 e2
      exact ⟨g, by rw [← Array.getElem?_toList]; exact hfi, e1, e2⟩
  obtain ⟨g, hg1, rfl, rfl⟩ := hfi
  have hx := (H.op x).1
  have hn := (H.op x).2
  unfold VR at hx
  have hk : (s'.get x).t.vk = .agg := by revert hch; cases (s'.get x).t <;> intro h <;> first | rfl | cases h
  rw [hk] at hx
  obtain ⟨hcel, cs, hxe, hr⟩ := hx
  have hcd : CD w Fr mu (· < s'.heap.length) (s'.get x) cs := ⟨hcel, hn, hr⟩
  obtain ⟨l1, lp, l2, e, hl1, hc⟩ := part_ok hcd (fits_alive hfit) (fun _ => hz) (fun h => (fits_chain hfit h).1)
  obtain ⟨v, h1, h2⟩ := run_part (hT _ _ hti') e hfit hc
  rw [hl1] at h1
  refine .mk (v := v) (fun w' => ?_) h2 hc.ok
  unfold execOp
  simp [ho, Instr.field, run_underlying hu, hg1, hxe, asAgg, h1 w']
end
end Go.Abs
