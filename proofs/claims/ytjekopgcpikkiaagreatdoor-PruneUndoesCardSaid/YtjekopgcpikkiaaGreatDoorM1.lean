/- Texts of one proof, laid together: how the interpreter's words stand for the program's code and what the functions do. No conditions but those that each lemma names. -/
import Derived.Test.YtjekopgcpikkiaaGreatDoorM0
import Derived.Great.BuildSlice
import Derived.Laws.MakeOwn
import Derived.MapKept
import Derived.RangeFuncSeq
import Derived.OrdersIn
import Derived.RangeFuncCalls
import Derived.LoopNIn
import Derived.RangeFuncRecord
set_option linter.unusedSimpArgs false
set_option autoImplicit false
set_option linter.unusedVariables false
namespace Go.Abs
section
variable {P : Program} {T : Told} {E : Env} {w : World} {Fr : Nat → Prop} {mu : Nat → Loc} {s : St} {a : Act}
theorem foldl_put (off : Nat) (cells : Array Value) (l1 lm l2 lv : List Value) (he : cells.toList = l1 ++ (lm ++ l2)) (h1 : l1.length = off) (hm : lm.length = lv.length) :
    ((lv.zipIdx 0).foldl (fun cs (x : Value × Nat) => cs.setIfInBounds (off + x.2) x.1) cells).toList = l1 ++ (lv ++ l2) := by
  obtain ⟨g1, g2⟩ := Great.foldl_set off lv 0 cells
  have hsz : cells.size = l1.length + lm.length + l2.length := by
    have := congrArg List.length he
    simp at this; omega
  apply List.ext_getElem?
  intro k
  rw [Array.getElem?_toList, g2 k, ← Array.getElem?_toList, he]
  by_cases hk : k < off
  · rw [if_neg (by omega), List.getElem?_append_left (by omega), List.getElem?_append_left (by omega)]
  · by_cases hk2 : k < off + lv.length
    · rw [if_pos (by omega), List.getElem?_append_right (by omega), List.getElem?_append_left (by omega)]
      congr 1; omega
    · rw [if_neg (by omega), List.getElem?_append_right (by omega), List.getElem?_append_right (by omega), List.getElem?_append_right (by omega), List.getElem?_append_right (by omega)]
      congr 1; omega
theorem layParts_ok (hT : TabOK P T.tb) (H : Rep E w Fr mu s a) {fs : List (Nat × Nat)} {places : Nat → Option (Nat × Nat)} (hpl : ∀ (i off u : Nat) (ti : TI), fs[i]? = some (off, u) → look T.tb u = some ti → places i = some (off, ti.siz)) :
    ∀ (parts : List (Nat × Operand)) (d : Dyn) (cells : Array Value), d.t.chain = true → CD w Fr mu (· < s.heap.length) d cells.toList → (layParts T fs s parts d).t.alive = true →
      ∃ r : Array Value, Instr.fill places cells (parts.map fun p => (p.1, a.eval p.2)) = some r ∧ (layParts T fs s parts d).t.chain = true ∧ CD w Fr mu (· < s.heap.length) (layParts T fs s parts d) r.toList
  | [], d, cells, hch, hd, _ => ⟨cells, rfl, hch, hd⟩
  | (i, x) :: l, d, cells, hch, hd, ha => by
    unfold layParts at ha ⊢
    split at ha
    · rename_i off u hf
      split at ha
      · rename_i ti hti
        split at ha
        · rename_i hc
          rw [if_pos hc]
          simp only [Bool.and_eq_true, decide_eq_true_eq] at hc
          obtain ⟨⟨⟨⟨c1, c2⟩, c3⟩, c4⟩, c5⟩ := hc
          obtain ⟨hcv, _⟩ := VR_cells (p := (· < s.heap.length)) H.si.hh (H.op x).1 c3 c2 (H.op x).2
          obtain ⟨l1, lm, l2, e, e1, e2, e3, e4⟩ := setPart_ok (off := off) hd hcv (chain_alive c4) c5
          have hsz : (a.eval x).cells.size = ti.siz := by
            have := hcv.len
            rw [c1] at this
            simpa using this
          have hput := foldl_put off cells l1 lm l2 (a.eval x).cells.toList e e1 e2
          have hlen : off + (a.eval x).cells.size ≤ cells.size := by
            have := congrArg List.length e
            simp at this e2; omega
          obtain ⟨r, hr, h2, h3⟩ := layParts_ok hT H hpl l (d.setPart off (s.get x)) (((a.eval x).cells.toList.zipIdx 0).foldl (fun cs (x : Value × Nat) => cs.setIfInBounds (off + x.2) x.1) cells) c4 (by rw [hput]; exact e4) ha
          refine ⟨r, ?_, h2, h3⟩
          rw [← hr]
          simp only [List.map_cons, Instr.fill, hpl i off u ti hf hti]
          rw [if_neg (by simp [hsz]; rw [hsz] at hlen; omega)]
          congr 1
          rw [← Array.foldl_toList, Array.toList_zipIdx]
        · cases ha
      · cases ha
    · cases ha
theorem mapM_some {α β : Type} {f : α → Option β} : ∀ {l : List α}, (∀ x ∈ l, (f x).isSome = true) → ∃ r : List β, l.mapM f = some r ∧ ∀ i : Nat, r[i]? = (l[i]?).bind f
  | [], _ => ⟨[], rfl, fun i => rfl⟩
  | x :: l, h => by
    obtain ⟨y, hy⟩ := Option.isSome_iff_exists.1 (h x (by simp))
    obtain ⟨r, hr, hi⟩ := mapM_some (fun x hx => h x (List.mem_cons_of_mem _ hx))
    refine ⟨y :: r, by simp [List.mapM_cons, hy, hr], fun i => ?_⟩
    cases i with
    | zero => simp [hy]
    | succ i => simpa using hi i
theorem run_place {t : Nat} {ti : TI} {f : Field} (hg : Good P f.type ti) (hz : 0 < ti.siz) (b o : Nat) : (fieldPlace ⟨b, o, none⟩ f).run P w = .ok ⟨b, o + f.offset, none⟩ w := by
  unfold fieldPlace
  have : ti.siz ≠ 0 := by omega
  have hadd : (⟨b, o, none⟩ : Addr).add f.offset = ⟨b, o + f.offset, none⟩ := by unfold Addr.add; split <;> simp_all
  simp [hg.size w, this, hadd]
theorem ok_fieldAddr (hT : TabOK P T.tb) (H : Rep E w Fr mu s a) {fn : Nat} {o : Oper} {t : Nat} {x : Operand} {f : Nat} (ho : o.op = .fieldAddr t x f) {d : Dyn} {s' : St} (h : opP T fn o s = some (true, d, s')) : StepQ P w Fr mu s a o d s' := by
  unfold opP at h
  rw [ho] at h
  dsimp only at h
  split at h
  case h_2 => cases h
  rename_i fs eqs n byt z ty hti
  split at h
  case h_2 => cases h
  rename_i off u hf
  split at h
  case h_2 => cases h
  rename_i ti hti'
  split at h
  case isFalse => cases h
  rename_i hz
  obtain ⟨F, hu, hF⟩ := (hT _ _ hti).und
  have hF : fs = F.toList.map (fun g => (g.offset, g.type)) := hF
  have hfi : ∃ g, F[f]? = some g ∧ g.offset = off ∧ g.type = u := by
    rw [hF, List.getElem?_map] at hf
    cases hfi : F.toList[f]? with
    | none => rw [hfi] at hf; cases hf
    | some g =>
      rw [hfi] at hf
      injection hf with hf
      injection hf with e1 e2
      exact ⟨g, by rw [← Array.getElem?_toList]; exact hfi, e1, e2⟩
  obtain ⟨g, hg1, rfl, rfl⟩ := hfi
  have key : ∀ b o', a.eval x = .pointer (some ⟨b, o', none⟩) → ∀ w' : World, (execOp a.eval o).run P w' = .ok (.value (.pointer (some ⟨b, o' + g.offset, none⟩))) w' := by
    intro b o' e w'
    unfold execOp
    simp [ho, Instr.fieldAt, run_underlying hu, hg1, e, Instr.sureAddr, run_place (t := 0) (hT _ _ hti') hz b o']
  have hx := (H.op x).1
  have hn := (H.op x).2
  split at h <;> first | (cases h; done) | skip
  all_goals
    rename_i hq
    injection h with h
    injection h with _ h
    injection h with h2 h3
    subst h2; subst h3
    rw [hq] at hx hn
  · injection (show [a.eval x] = [_] from hx) with hx
    exact .mk (key _ _ hx) rfl hn
  · obtain ⟨he, b, o', cells, e, hb, hr, hat⟩ := hx
    injection e with e
    exact .mk (key _ _ e) ⟨he, b, o', cells, by rw [Nat.add_assoc], hb, hr, hat⟩ hn
  · obtain ⟨b, m, c, h1, h2, h3, e⟩ := hx
    injection e with e
    exact .mk (key _ _ e) ⟨b, m, c, h1, h2, h3, by rw [Nat.add_assoc]⟩ hn
  · obtain ⟨h1, e⟩ := hx
    injection e with e
    exact .mk (key _ _ e) ⟨h1, by rw [Nat.add_assoc, Nat.add_assoc]⟩ hn
theorem run_part {t : Nat} {ti : TI} (hg : Good P t ti) {cs : List Value} {l1 lp l2 : List Value} {d : Dyn} {p : Nat → Prop} (e : cs = l1 ++ (lp ++ l2)) (hf : ti.fits d.t = true) (hd : CD w Fr mu p d lp) :
    ∃ v, (∀ w' : World, (part t cs.toArray l1.length).run P w' = .ok v w') ∧ VR w Fr mu d v := by
  have hagg := fun w' => hg.agg w'
  have hsz := fun w' => hg.size w'
  have many : lp.length = ti.siz → d.t.vk = .agg → ti.d.agg = true → ∃ v, (∀ w' : World, (part t cs.toArray l1.length).run P w' = .ok v w') ∧ VR w Fr mu d v := by
    intro hl hk ha
    simp only [ha] at hagg
    refine ⟨.agg lp.toArray, fun w' => ?_, ?_⟩
    · have : (cs.drop l1.length).take ti.siz = lp := by
        rw [e, List.drop_left' rfl, ← hl, List.take_left' rfl]
      simp [part, hagg w', hsz w', this]
    · unfold VR; rw [hk]; exact ⟨hd.cel, lp, rfl, hd.rp⟩
  have one : d.t.vk = .one → ti.d.agg = false → ∃ v, (∀ w' : World, (part t cs.toArray l1.length).run P w' = .ok v w') ∧ VR w Fr mu d v := by
    intro hk ha
    simp only [ha] at hagg
    have hl : lp.length = 1 := by
      rw [hd.len]
      revert hk
      cases d.t <;> first | (intro h; rfl) | (intro h; cases h)
    obtain ⟨v, rfl⟩ : ∃ v, lp = [v] := by match lp, hl with | [v], _ => exact ⟨v, rfl⟩
    refine ⟨v, fun w' => by simp [part, hagg w', e], ?_⟩
    unfold VR; rw [hk]; exact hd.rp
  unfold TI.fits at hf
  cases hdd : ti.d
  case struct fs =>
    rw [hdd] at hf
    simp only [Bool.and_eq_true, beq_iff_eq] at hf
    refine many (by rw [hd.len, hf.2]) ?_ (by rw [hdd]; rfl)
    revert hf
    cases d.t <;> first | (intro h; rfl) | (intro h; cases h.1)
  case array n e =>
    rw [hdd] at hf
    simp only [Bool.and_eq_true, beq_iff_eq] at hf
    refine many (by rw [hd.len, hf.2]) ?_ (by rw [hdd]; rfl)
    revert hf
    cases d.t <;> first | (intro h; rfl) | (intro h; cases h.1)
  all_goals
    rw [hdd] at hf
    refine one ?_ (by rw [hdd]; rfl)
    revert hf
    cases d.t.vk <;> first | (intro h; rfl) | (intro h; cases h)
theorem ok_field (hT : TabOK P T.tb) (H : Rep E w Fr mu s a) {fn : Nat} {o : Oper} {t : Nat} {x : Operand} {f : Nat} (ho : o.op = .field t x f) {d : Dyn} {s' : St} (h : opP T fn o s = some (true, d, s')) : StepQ P w Fr mu s a o d s' := by
  unfold opP at h
  rw [ho] at h
  dsimp only at h
  split at h
  case h_2 => cases h
  rename_i fs eqs n byt z ty hti
  split at h
  case h_2 => cases h
  rename_i off u hf
  split at h
  case h_2 => cases h
  rename_i ti hti'
  split at h
  case isFalse => cases h
  rename_i hch
  obtain ⟨hfit, hz, _, rfl, rfl⟩ := put2_some h
  obtain ⟨F, hu, hF⟩ := (hT _ _ hti).und
  have hF : fs = F.toList.map (fun g => (g.offset, g.type)) := hF
  have hfi : ∃ g, F[f]? = some g ∧ g.offset = off ∧ g.type = u := by
    rw [hF, List.getElem?_map] at hf
    cases hfi : F.toList[f]? with
    | none => rw [hfi] at hf; cases hf
    | some g =>
      rw [hfi] at hf
      injection hf with hf
      injection hf with e1 e2
      exact ⟨g, by rw [← Array.getElem?_toList]; exact hfi, e1, e2⟩
  obtain ⟨g, hg1, rfl, rfl⟩ := hfi
  have hx := (H.op x).1
  have hn := (H.op x).2
  unfold VR at hx
  have hk : (s'.get x).t.vk = .agg := by revert hch; cases (s'.get x).t <;> intro h <;> first | rfl | cases h
  rw [hk] at hx
  obtain ⟨hcel, cs, hxe, hr⟩ := hx
  have hcd : CD w Fr mu (· < s'.heap.length) (s'.get x) cs := ⟨hcel, hn, hr⟩
  obtain ⟨l1, lp, l2, e, hl1, hc⟩ := part_ok hcd (fits_alive hfit) (fun _ => hz) (fun h => (fits_chain hfit h).1)
  obtain ⟨v, h1, h2⟩ := run_part (hT _ _ hti') e hfit hc
  rw [hl1] at h1
  refine .mk (v := v) (fun w' => ?_) h2 hc.ok
  unfold execOp
  simp [ho, Instr.field, run_underlying hu, hg1, hxe, asAgg, h1 w']
end
end Go.Abs
set_option autoImplicit false
set_option linter.unusedVariables false
namespace Go.Abs
section
variable {P : Program} {T : Told} {E : Env} {w : World} {Fr : Nat → Prop} {mu : Nat → Loc} {s : St} {a : Act}
theorem andB_true {a b : Bool} (h : andB a b = true) : a = true ∧ b = true := by
  unfold andB at h; simpa using h
theorem leI_true {a b : Int} (h : leI a b = true) : a ≤ b := by unfold leI at h; simpa using h
theorem ltI_true {a b : Int} (h : ltI a b = true) : a < b := by unfold ltI at h; simpa using h
theorem eqI_true {a b : Int} (h : eqI a b = true) : a = b := by unfold eqI at h; simpa using h
theorem addr_add (b o n : Nat) : (⟨b, o, none⟩ : Addr).add n = ⟨b, o + n, none⟩ := by unfold Addr.add; split <;> simp_all
theorem run_indexSlice {t e : Nat} {ti : TI} (hu : P.underlying t = some (.slice e)) (hg : Good P e ti) {b o len cap : Nat} {k : IntKind} {n : Int} (h0 : 0 ≤ n) (h1 : n < len) :
    (Instr.indexAt t (.slice (some ⟨b, o, none⟩) len cap) (.int k n)).run P w = .ok (.pointer (some ⟨b, o + n.toNat * ti.siz, none⟩)) w := by
  have hc : (0 ≤ n ∧ n < (len : Int)) := ⟨h0, h1⟩
  simp [Instr.indexAt, asIntOf, run_underlying hu, hc, hg.size w, addr_add]
theorem ok_indexAddr (hT : TabOK P T.tb) (H : Rep E w Fr mu s a) {fn : Nat} {o : Oper} {t : Nat} {x y : Operand} (ho : o.op = .indexAddr t x y) {d : Dyn} {s' : St} (h : opP T fn o s = some (true, d, s')) : StepQ P w Fr mu s a o d s' := by
  unfold opP at h
  rw [ho] at h
  dsimp only at h
  have hx := (H.op x).1
  have hxn := (H.op x).2
  have hy := (H.op y).1
  split at h
  case h_2 => cases h
  rename_i k n hqy
  change Int at n
  rw [hqy] at hy
  have hy := VR_int hy
  have key : ∀ v, (∀ w' : World, (Instr.indexAt t (a.eval x) (.int k n)).run P w' = .ok v w') → ∀ w' : World, (execOp a.eval o).run P w' = .ok (.value v) w' := by
    intro v e w'
    have e := e w'
    unfold execOp
    simp only [ho, hy, Sem.run_bind, e, Result.andThen_ok]; rfl
  split at h
  · rename_i e eqs siz byt zer ty hti
    have hu := (hT _ _ hti).und
    split at h
    case h_2 => cases h
    rename_i ti hti'
    split at h
    · rename_i u l hq
      split at h
      case isFalse => cases h
      rename_i hc
      injection h with h
      injection h with hb h
      injection h with h2 h3
      subst h2; subst h3
      obtain ⟨hb1, hb2⟩ := andB_true hb
      have h0 := leI_true hb1
      have h1 : n < (l.length : Int) := ltI_true hb2
      rw [hq] at hx
      obtain ⟨he, ad, c, cells, e1, hlen, hr, hat⟩ := hx
      injection e1 with e1
      rcases hat with hnil | ⟨b, off, rfl, hF, hat⟩
      · have hnil : (l : List (den u)) = [] := hnil
        rw [hnil] at h1; simp at h1; omega
      have hxn : l[n.toNat]? = some (ixL u l n) := by
        unfold ixL
        rw [List.getD_eq_getElem?_getD, List.getElem?_eq_getElem (by omega)]; rfl
      obtain ⟨cc, hcc, hcl, A, B, ec, hA⟩ := rows_get (n := u.width) (fun x l h => Rp_len u x l (Ty.elt_cel he) h) hr hxn
      rw [ec] at hat
      have hat := hat.right.left
      rw [hA] at hat
      refine .mk (v := .pointer (some ⟨b, off + n.toNat * ti.siz, none⟩)) (key _ fun w' => ?_) ?_ ?_
      · rw [e1]
        exact run_indexSlice hu (hT _ _ hti') h0 h1
      · exact ⟨he, b, off + n.toNat * u.width, cc, by rw [hc.1]; rfl, hF, hcc, hat⟩
      · trivial
    · rename_i u i _ hq
      split at h
      case h_2 => cases h
      rename_i l hl
      split at h
      case isFalse => cases h
      rename_i hc
      injection h with h
      injection h with hb h
      injection h with h2 h3
      subst h2; subst h3
      obtain ⟨hb1, hb2⟩ := andB_true hb
      have h0 := leI_true hb1
      have h1 : n < (l.length : Int) := ltI_true hb2
      rw [hq] at hx hxn
      injection (show [a.eval x] = [_] from hx) with hx
      obtain ⟨e0, f0, ho0⟩ := rowOf_some hl
      obtain ⟨he, cells, hr, hcs⟩ := row_cells (H.si.obj i _ ho0)
      rcases hcs with ⟨_, _, hnil⟩ | ⟨cap, cur, hh, hn, hm, hocc, hcell, hsz, htk, hat⟩
      · rw [hnil] at h1; simp at h1; omega
      refine .mk (v := .pointer (some ⟨(mu i).loc, 0 + n.toNat * ti.siz, none⟩)) (key _ fun w' => ?_) ?_ hxn
      · rw [hx, hh]
        exact run_indexSlice hu (hT _ _ hti') h0 h1
      · exact ⟨(mu i).loc, l.length, cap, hh, h0, h1, by rw [hc.1, Nat.zero_add]; rfl⟩
    · cases h
  · rename_i m e eqs siz byt zer ty hti
    have hu := (hT _ _ hti).und
    split at h
    case h_2 => cases h
    rename_i ti hti'
    split at h
    case h_2 => cases h
    rename_i i off _ hq
    split at h
    case h_2 => cases h
    rename_i v yb hob
    split at h
    case h_2 => cases h
    rename_i m' u l hcomp
    split at h
    case isFalse => cases h
    rename_i hc
    obtain ⟨rfl, hw, hz, hm1⟩ := hc
    injection h with h
    injection h with hb h
    injection h with h2 h3
    subst h2; subst h3
    obtain ⟨hb1, hb2⟩ := andB_true hb
    have h0 := leI_true hb1
    have h1 : n < (m' : Int) := ltI_true hb2
    rw [hq] at hx hxn
    injection (show [a.eval x] = [_] from hx) with hx
    refine .mk (v := .pointer (some ⟨(mu i).loc, off + n.toNat * ti.siz, none⟩)) (key _ fun w' => ?_) ?_ hxn
    · rw [hx]
      have hcc : (0 ≤ n ∧ n < (m' : Int)) := ⟨h0, h1⟩
      have hu : P.underlying t = some (.array m' e) := hu
      simp [Instr.indexAt, asIntOf, run_underlying hu, hcc, (hT _ _ hti').size w', addr_add, Instr.sureAddr]
    · exact ⟨⟨h0, h1⟩, by rw [hw]; rfl⟩
  · cases h
theorem ok_index (hT : TabOK P T.tb) (H : Rep E w Fr mu s a) {fn : Nat} {o : Oper} {t : Nat} {x y : Operand} (ho : o.op = .index t x y) {d : Dyn} {s' : St} (h : opP T fn o s = some (true, d, s')) : StepQ P w Fr mu s a o d s' := by
  unfold opP at h
  rw [ho] at h
  dsimp only at h
  have hx := (H.op x).1
  have hy := (H.op y).1
  split at h
  case h_2 => cases h
  rename_i k n hqy
  change Int at n
  rw [hqy] at hy
  have hy := VR_int hy
  split at h
  case h_2 => cases h
  rename_i b hti hq
  injection h with h
  injection h with hb h
  injection h with h2 h3
  subst h2; subst h3
  obtain ⟨hb1, hb2⟩ := andB_true hb
  have h0 := leI_true hb1
  have h1 : n < (b.size : Int) := ltI_true hb2
  rw [hq] at hx
  have hx := VR_str hx
  have hu := (hT _ _ hti).und
  dsimp only at hu
  have hlt : n.toNat < b.size := by omega
  have hg : b[n.toNat]? = some (b.get! n.toNat) := by
    rw [getElem?_pos b n.toNat hlt]
    congr 1
    show b.data[n.toNat] = b.data[n.toNat]!
    rw [getElem!_pos]
  refine .mk (v := .int .u8 (b.get! n.toNat).toNat) (fun w' => ?_) rfl trivial
  unfold execOp
  simp [ho, hx, hy, Instr.index, asIntOf, run_underlying hu, h0, hg]
theorem tup_get {t : Ty} {x : den t} {vs : List Value} {a b : Ty} {y : den (.tcons a b)} (h : Rp w Fr mu (.tcons a b) y vs) (ha : a.alive = true) : ∃ u us, vs = u :: us ∧ VR w Fr mu ⟨a, y.1⟩ u ∧ Rp w Fr mu b y.2 us := by
  obtain ⟨u, us, e, h1, h2⟩ := h
  refine ⟨u, us, e, ?_, h2⟩
  unfold VR
  show (match a.vk with | .dead => _ | .agg => _ | .tup => _ | .one => _)
  revert h1
  cases a.vk
  case dead => exact id
  case tup => exact False.elim
  case one => exact id
  case agg => exact id
theorem ok_extract (H : Rep E w Fr mu s a) {fn : Nat} {o : Oper} {x : Operand} {i : Nat} (ho : o.op = .extract x i) {d : Dyn} {s' : St} (h : opP T fn o s = some (true, d, s')) : StepQ P w Fr mu s a o d s' := by
  unfold opP at h
  rw [ho] at h
  dsimp only at h
  have hx := (H.op x).1
  have hxn := (H.op x).2
  split at h
  case h_2 => cases h
  rename_i ta tb y hq
  rw [hq] at hx hxn
  obtain ⟨vs, e, hr⟩ := hx
  have key : ∀ v, vs[i]? = some v → ∀ w' : World, (execOp a.eval o).run P w' = .ok (.value v) w' := by
    intro v hv w'
    unfold execOp
    simp [ho, e, Instr.extract, hv]
  have p1 : ∀ {d d' : Dyn} {s s' : St}, put1 d s = some (true, d', s') → d.t.alive = true ∧ d' = d ∧ s' = s := by
    intro d d' s s' h
    unfold put1 at h
    split at h
    · rename_i ha
      injection h with h
      injection h with _ h
      injection h with h2 h3
      exact ⟨ha, h2.symm, h3.symm⟩
    · cases h
  split at h
  · obtain ⟨ha, rfl, rfl⟩ := p1 h
    obtain ⟨u, us, rfl, h1, _⟩ := tup_get (t := .unit) (x := ()) hr ha
    exact .mk (key u rfl) h1 hxn.1
  · obtain ⟨u0, us0, rfl, _, hr⟩ := hr
    split at h
    case h_2 => cases h
    obtain ⟨ha, rfl, rfl⟩ := p1 h
    obtain ⟨u, us, rfl, h1, _⟩ := tup_get (t := .unit) (x := ()) hr ha
    exact .mk (key u rfl) h1 hxn.2.1
  · obtain ⟨u0, us0, rfl, _, hr⟩ := hr
    split at h
    case h_2 => cases h
    obtain ⟨ha, rfl, rfl⟩ := p1 h
    obtain ⟨u1, us1, rfl, _, hr⟩ := hr
    obtain ⟨u, us, rfl, h1, _⟩ := tup_get (t := .unit) (x := ()) hr ha
    exact .mk (key u rfl) h1 hxn.2.2.1
  · obtain ⟨u0, us0, rfl, _, hr⟩ := hr
    split at h
    case h_2 => cases h
    obtain ⟨ha, rfl, rfl⟩ := p1 h
    obtain ⟨u1, us1, rfl, _, hr⟩ := hr
    obtain ⟨u2, us2, rfl, _, hr⟩ := hr
    obtain ⟨u, us, rfl, h1, _⟩ := tup_get (t := .unit) (x := ()) hr ha
    exact .mk (key u rfl) h1 hxn.2.2.2.1
  · cases h
theorem vk_tup_cel {t : Ty} (h : t.vk = .tup) : t.cel = false := by
  cases t <;> first | rfl | cases h
theorem capt_ok (H : Rep E w Fr mu s a) : ∀ (l : List Operand), (l.map s.get).all (fun d => d.t.alive && d.t.cel) = true →
    Rp w Fr mu ((l.map s.get).foldr (fun d r => (⟨.tcons d.t r.t, (d.x, r.x)⟩ : Dyn)) ⟨.tnil, ()⟩).t ((l.map s.get).foldr (fun d r => (⟨.tcons d.t r.t, (d.x, r.x)⟩ : Dyn)) ⟨.tnil, ()⟩).x (l.map a.eval) ∧
    ((l.map s.get).foldr (fun d r => (⟨.tcons d.t r.t, (d.x, r.x)⟩ : Dyn)) ⟨.tnil, ()⟩).t.okN (· < s.heap.length)
  | [], _ => ⟨rfl, trivial⟩
  | x :: l, hc => by
    simp only [List.map_cons, List.all_cons, Bool.and_eq_true] at hc
    obtain ⟨h1, h2⟩ := capt_ok H l hc.2
    refine ⟨⟨a.eval x, l.map a.eval, rfl, ?_, h1⟩, (H.op x).2, h2⟩
    have hx := (H.op x).1
    have hcel := hc.1.2
    unfold VR at hx
    show (match (s.get x).t.vk with | .dead => _ | .agg => _ | .tup => _ | .one => _)
    revert hx hcel
    cases hk : (s.get x).t.vk
    case dead => exact fun _ _ => trivial
    case agg => exact fun h _ => h
    case one => exact fun h _ => h
    case tup =>
      intro _ hcel
      rw [vk_tup_cel hk] at hcel
      cases hcel
theorem ok_makeFunc (H : Rep E w Fr mu s a) {fn : Nat} {o : Oper} {f : Nat} {first cap : Array Operand} (ho : o.op = .makeFunc (.func f) first cap) {d : Dyn} {s' : St} (h : opP T fn o s = some (true, d, s')) : StepQ P w Fr mu s a o d s' := by
  unfold opP at h
  rw [ho] at h
  dsimp only at h
  split at h
  case isFalse => cases h
  rename_i hf
  split at h
  case isFalse => cases h
  rename_i hc
  injection h with h
  injection h with _ h
  injection h with h2 h3
  subst h2; subst h3
  obtain ⟨h1, h2⟩ := capt_ok H cap.toList hc
  refine .mk (v := .func (.func f) #[] (cap.map a.eval)) (fun w' => ?_) ?_ h2
  · have : first.map a.eval = #[] := by
      apply Array.eq_empty_of_size_eq_zero; simp [hf]
    unfold execOp
    simp [ho, Instr.makeFunc, this]
  · exact ⟨cap.toList.map a.eval, by rw [← Array.toList_map, Array.toArray_toList], h1⟩
theorem lenD_ok (H : Rep E w Fr mu s a) {d : Dyn} {n : Nat} (h : lenD s d = some n) {v : Value} (hv : VR w Fr mu d v) : (d.t ≠ .str ∧ ∃ ad c, v = .slice ad n c ∧ (n ≠ 0 → ad.isNone = false)) ∨ (d.t = .str ∧ ∃ b, v = .string b ∧ n = b.size) := by
  unfold lenD at h
  split at h
  · injection h with h; subst h
    injection (show [v] = [_] from hv) with hv
    exact .inl ⟨by simp, _, _, hv, fun h => absurd rfl h⟩
  · injection h with h; subst h
    obtain ⟨he, ad, c, cells, e, _, _, hor⟩ := hv
    injection e with e
    refine .inl ⟨by simp, _, _, e, fun hn => ?_⟩
    rcases hor with h0 | ⟨b, o, e, _⟩
    · exact absurd (show lenL _ _ = 0 from congrArg List.length h0) hn
    · rw [e]; rfl
  · split at h
    · rename_i l hl
      injection h with h; subst h
      injection (show [v] = [_] from hv) with hv
      obtain ⟨e0, f0, ho0⟩ := rowOf_some hl
      obtain ⟨he, cells, hr, hcs⟩ := row_cells (H.si.obj _ _ ho0)
      rcases hcs with ⟨ad, h0, hnil⟩ | ⟨cap, cur, hh, _⟩
      · rw [h0] at hv
        refine .inl ⟨by simp, ad, 0, by rw [hv]; unfold lenL; rw [show (l : List _) = [] from hnil]; rfl, fun hn => ?_⟩
        exact absurd (by unfold lenL; rw [show (l : List _) = [] from hnil]; rfl) hn
      · rw [hh] at hv
        exact .inl ⟨by simp, _, _, hv, fun _ => rfl⟩
    · cases h
  · injection h with h; subst h
    exact .inr ⟨rfl, _, VR_str hv, rfl⟩
  · cases h
theorem ok_len (hT : TabOK P T.tb) (H : Rep E w Fr mu s a) {o : Oper} {xs : Array Operand} {ats : Array Nat} (ho : o.op = .call ⟨.builtin .len, xs, ats⟩) {d : Dyn} {s' : St} (h : builtinP T .len (xs.toList.map s.get) ats.toList s = some (true, d, s')) : StepQ P w Fr mu s a o d s' := by
  obtain ⟨xl⟩ := xs
  obtain ⟨al⟩ := ats
  unfold builtinP at h
  match xl, al, h with
  | [x], t :: ts, h =>
    dsimp only [List.map] at h
    have hx := (H.op x).1
    split at h
    case h_2 => cases h
    rename_i n hn
    have hv := lenD_ok H hn hx
    have key : ∀ r, (∀ w' : World, (Builtin.len_ (t :: ts).toArray o.type #[a.eval x]).run P w' = .ok r w') → ∀ w' : World, (execOp a.eval o).run P w' = .ok (.value r) w' := by
      intro r e w'
      have e := e w'
      unfold execOp
      simp only [ho, resolve, invoke, builtin, Sem.run_bind, Sem.run_pure, Result.andThen_ok, List.map_toArray, List.map_cons, List.map_nil, e]
    split at h
    · rename_i hti
      split at h
      · cases h
      rename_i hns
      injection h with h
      injection h with _ h
      injection h with h2 h3
      subst h2; subst h3
      have hu := (hT _ _ hti).und
      dsimp only at hu
      refine .mk (v := .int .i64 n) (key _ fun w' => ?_) rfl trivial
      rcases hv with ⟨_, ad, c, e, _⟩ | ⟨hs, b, e, e'⟩
      · simp [Builtin.len_, run_underlying hu, e, goInt]
      · exact absurd hs hns
    · rename_i hti
      split at h
      case isFalse => cases h
      rename_i hs
      injection h with h
      injection h with _ h
      injection h with h2 h3
      subst h2; subst h3
      have hu := (hT _ _ hti).und
      dsimp only at hu
      refine .mk (v := .int .i64 n) (key _ fun w' => ?_) rfl trivial
      rcases hv with ⟨hns, ad, c, e⟩ | ⟨_, b, e, e'⟩
      · exact absurd hs hns
      · simp [Builtin.len_, run_underlying hu, e, goInt, e']
    · cases h
  | [], _, h => cases h
  | _ :: _ :: _, _, h => cases h
  | [x], [], h => cases h
theorem minD_some {mx : Bool} {l : List Dyn} {d : Dyn} (h : minD mx l = some d) : ∃ k p q, l = [⟨.int k, p⟩, ⟨.int k, q⟩] ∧ d = ⟨.int k, if mx then maxI p q else minI p q⟩ := by
  unfold minD at h
  split at h
  · rename_i k p j q
    split at h
    · rename_i hk
      subst hk
      injection h with h
      exact ⟨k, p, q, rfl, h.symm⟩
    · cases h
  · cases h
theorem map_two {l : List Operand} {p q : Dyn} (h : l.map s.get = [p, q]) : ∃ x y, l = [x, y] ∧ s.get x = p ∧ s.get y = q := by
  match l, h with
  | [x, y], h => injection h with h1 h2; injection h2 with h2 _; exact ⟨x, y, rfl, h1, h2⟩
theorem ok_minmax (H : Rep E w Fr mu s a) {o : Oper} {xs : Array Operand} {ats : Array Nat} {b : Builtin} (hb : b = .min ∨ b = .max) (ho : o.op = .call ⟨.builtin b, xs, ats⟩) {d : Dyn} {s' : St} (h : builtinP T b (xs.toList.map s.get) ats.toList s = some (true, d, s')) : StepOK P E w Fr mu s a o d s' := by
  have hm : ∃ d', minD (b == .max) (xs.toList.map s.get) = some d' ∧ d = d' ∧ s' = s := by
    unfold builtinP at h
    rcases hb with rfl | rfl
    · dsimp only at h
      split at h
      · rename_i d' hd
        injection h with h
        injection h with _ h
        injection h with h2 h3
        exact ⟨d', hd, h2.symm, h3.symm⟩
      · cases h
    · dsimp only at h
      split at h
      · rename_i d' hd
        injection h with h
        injection h with _ h
        injection h with h2 h3
        exact ⟨d', hd, h2.symm, h3.symm⟩
      · cases h
  obtain ⟨d', hd, rfl, rfl⟩ := hm
  obtain ⟨k, p, q, hl, rfl⟩ := minD_some hd
  obtain ⟨x, y, hxy, hx, hy⟩ := map_two hl
  have hxv := (H.op x).1
  have hyv := (H.op y).1
  rw [hx] at hxv
  rw [hy] at hyv
  have hxv := VR_int hxv
  have hyv := VR_int hyv
  have hxs : xs = #[x, y] := by apply Array.ext'; simpa using hxy
  rcases hb with rfl | rfl
  · refine .pure H (v := .int k (minI p q)) ?_ rfl trivial
    unfold execOp
    simp only [ho, hxs, resolve, invoke, builtin, Sem.run_bind, Sem.run_pure, Result.andThen_ok, List.map_toArray, List.map_cons, List.map_nil, Builtin.min_, hxv, hyv, List.foldlM, Builtin.min2]
    rfl
  · refine .pure H (v := .int k (maxI p q)) ?_ rfl trivial
    unfold execOp
    simp only [ho, hxs, resolve, invoke, builtin, Sem.run_bind, Sem.run_pure, Result.andThen_ok, List.map_toArray, List.map_cons, List.map_nil, Builtin.max_, hxv, hyv, List.foldlM, Builtin.max2]
    rfl
end
end Go.Abs
set_option autoImplicit false
set_option linter.unusedVariables false
namespace Go.Abs
section
variable {P : Program} {T : Told} {E : Env} {w : World} {Fr : Nat → Prop} {mu : Nat → Loc} {s : St} {a : Act}
theorem rowT_ok (hT : TabOK P T.tb) {t e : Nat} {i : TI} (h : rowT T t = some (e, i)) : P.underlying t = some (.slice e) ∧ Good P e i ∧ 0 < i.siz ∧ i.ty.width = i.siz ∧ i.byt ≤ 131072 ∧ i.ty.elt = true ∧ i.zer.t.alive = true ∧ i.zer.t.cel = true ∧ i.siz ≤ 16384 := by
  unfold rowT at h
  split at h
  · rename_i e' eqs siz byt zer ty hti
    split at h
    · rename_i i' hi
      split at h
      · rename_i hc
        injection h with h
        injection h with h1 h2
        subst h1; subst h2
        exact ⟨(hT _ _ hti).und, hT _ _ hi, hc.1, hc.2.1, hc.2.2.1, hc.2.2.2.1, hc.2.2.2.2.1, hc.2.2.2.2.2.1, hc.2.2.2.2.2.2⟩
      · cases h
    · cases h
  · cases h
theorem readL_ok (H : Rep E w Fr mu s a) {t : Ty} {d : Dyn} {ys : List (den t)} (h : readL s t d = some ys) {v : Value} (hv : VR w Fr mu d v) :
    ∃ ad c cells, v = .slice ad ys.length c ∧ rows (fun x l => Rp w Fr mu t x l) ys cells ∧ ((v = .slice none 0 0 ∧ ys = []) ∨ ys = [] ∨ ∃ b o, ad = some ⟨b, o, none⟩ ∧ At w b o cells) := by
  unfold readL at h
  have h := as_some h
  obtain ⟨dt, dx⟩ := d
  have plain : (⟨dt, dx⟩ : Dyn) = ⟨.list t, ys⟩ → ∃ ad c cells, v = .slice ad ys.length c ∧ rows (fun x l => Rp w Fr mu t x l) ys cells ∧ ((v = .slice none 0 0 ∧ ys = []) ∨ ys = [] ∨ ∃ b o, ad = some ⟨b, o, none⟩ ∧ At w b o cells) := by
    intro e
    rw [e] at hv
    obtain ⟨he, ad, c, cells, e1, hlen, hr, hat⟩ := hv
    injection e1 with e1
    exact ⟨ad, c, cells, e1, hr, .inr (hat.imp id fun ⟨b, o, h1, _, h2⟩ => ⟨b, o, h1, h2⟩)⟩
  cases dt
  case nil e =>
    dsimp only [coe] at h
    split at h
    · injection h with h1 h2
      subst h2
      injection (show [v] = [_] from hv) with hv
      exact ⟨none, 0, [], hv, rfl, .inl ⟨hv, rfl⟩⟩
    · cases h
  case own u i =>
    dsimp only [coe] at h
    split at h
    · rename_i l hl
      injection h with h1 h2
      subst h2
      injection (show [v] = [_] from hv) with hv
      obtain ⟨e0, f0, ho0⟩ := rowOf_some hl
      obtain ⟨he, cells, hr, hcs⟩ := row_cells (H.si.obj _ _ ho0)
      rcases hcs with ⟨ad, h0, hnil⟩ | ⟨cap, cur, hh, hn, hm, hocc, hcell, hsz, htk, hat⟩
      · subst hnil
        exact ⟨ad, 0, cells, by rw [hv, h0]; rfl, hr, .inr (.inl rfl)⟩
      · exact ⟨_, cap, cells, by rw [hv, hh], hr, .inr (.inr ⟨_, _, rfl, hat⟩)⟩
    · cases h
  all_goals exact plain h
theorem maxLen_big : maxLen = 9223372036854775807 := rfl
theorem run_append {t ty e : Nat} {i : TI} (hu : P.underlying t = some (.slice e)) (hg : Good P e i) (hz : 0 < i.siz) (hb : i.byt ≤ 131072) (hza : i.zer.t.alive = true) {L : Loc} {n : Nat} {xs : List Value} (hxl : xs.length = n * i.siz) (hown : RowAt w L e i.siz n xs)
    {y : Value} {m : Nat} {news : List Value} (hy : (y = .slice none 0 0 ∧ m = 0) ∨ ∃ ad c, y = .slice ad m c ∧ (m = 0 ∨ ∃ b o, ad = some ⟨b, o, none⟩ ∧ At w b o news)) (hl : news.length = m * i.siz) (h1 : ∀ u ∈ news, u.oneCell' = true) (hfit : n + m ≤ 1073741824) :
    ∃ L' w', (Builtin.append_ #[t, t] ty #[L.hdr, y]).run P w = .ok L'.hdr w' ∧ RowAt w' L' e i.siz (n + m) (xs ++ news) ∧ Grow (fun b => L.hdr.ownBlock = some L.loc ∧ b = L.loc) w w' ∧
      (L'.hdr.ownBlock = some L'.loc → L'.loc < w'.heap.size ∧ ((L.hdr.ownBlock = some L.loc ∧ L'.loc = L.loc) ∨ w.heap.size ≤ L'.loc)) ∧ L'.hdr.oneCell' = true := by
  obtain ⟨it, hit, hsz, hby, hzz⟩ := hg.info
  obtain ⟨z, hz1, hz2, _⟩ := hzz hza
  have hone : L.hdr.oneCell' = true := by
    rcases hown with ⟨ad, h, _⟩ | ⟨_, _, ⟨h, _⟩ | ⟨g, cap, cur, h, _⟩⟩ <;> rw [h] <;> rfl
  have hlt : L.hdr.ownBlock = some L.loc → L.loc < w.heap.size := by
    intro h
    rcases hown with ⟨ad, _, _, h'⟩ | ⟨_, h'⟩
    · exact absurd h h'
    · exact (h'.lt _ h).2
  have zero : m = 0 → news = [] := fun h => List.eq_nil_of_length_eq_zero (by rw [hl, h]; simp)
  have same : (Builtin.append_ #[t, t] ty #[L.hdr, y]).run P w = .ok L.hdr w → m = 0 → ∃ L' w', (Builtin.append_ #[t, t] ty #[L.hdr, y]).run P w = .ok L'.hdr w' ∧ RowAt w' L' e i.siz (n + m) (xs ++ news) ∧ Grow (fun b => L.hdr.ownBlock = some L.loc ∧ b = L.loc) w w' ∧
      (L'.hdr.ownBlock = some L'.loc → L'.loc < w'.heap.size ∧ ((L.hdr.ownBlock = some L.loc ∧ L'.loc = L.loc) ∨ w.heap.size ≤ L'.loc)) ∧ L'.hdr.oneCell' = true := by
    intro hr hm
    have hn := zero hm
    subst hm; subst hn
    exact ⟨L, w, hr, by simpa using hown, Grow.refl _ w, fun h => ⟨hlt h, .inl ⟨h, rfl⟩⟩, hone⟩
  -- a slice without room of its own
  have fresh : ∀ (v : Value) (w' : World), 0 < m → v.ownBlock = some w.heap.size → v.oneCell' = true → w'.ownsRow 0 e i.siz v (n + m) (xs ++ news) → Grow (fun b => L.hdr.ownBlock = some L.loc ∧ b = L.loc) w w' → (Builtin.append_ #[t, t] ty #[L.hdr, y]).run P w = .ok v w' →
      ∃ L' w', (Builtin.append_ #[t, t] ty #[L.hdr, y]).run P w = .ok L'.hdr w' ∧ RowAt w' L' e i.siz (n + m) (xs ++ news) ∧ Grow (fun b => L.hdr.ownBlock = some L.loc ∧ b = L.loc) w w' ∧
      (L'.hdr.ownBlock = some L'.loc → L'.loc < w'.heap.size ∧ ((L.hdr.ownBlock = some L.loc ∧ L'.loc = L.loc) ∨ w.heap.size ≤ L'.loc)) ∧ L'.hdr.oneCell' = true := by
    intro v w' hm hv hv1 ho hg hr
    exact ⟨⟨w.heap.size, v⟩, w', hr, .inr ⟨hv, ho⟩, hg, fun _ => ⟨(ho.lt _ hv).2, .inr (Nat.le_refl _)⟩, hv1⟩
  have h0 : ∀ (ad : Option Addr) (c : Nat), (Builtin.firstCells i.siz 0 (.slice ad 0 c)).run P w = .ok #[] w := by
    intro ad c
    cases ad <;> simp [Builtin.firstCells, loadCells, loadCellsFrom]
  have hbig : n + m ≤ maxLen := by rw [maxLen_big]; omega
  have hbyt : (n + m) * i.byt ≤ 140737488355328 := by
    have := Nat.mul_le_mul hfit hb
    omega
  rcases hown with ⟨ad0, e0, hn0, hno⟩ | ⟨hob, hown⟩
  · subst hn0
    have hxs : xs = [] := List.eq_nil_of_length_eq_zero (by rw [hxl]; simp)
    rcases hy with ⟨rfl, hm⟩ | ⟨ad, c, rfl, hm | ⟨b, o, rfl, hat⟩⟩
    · refine same ?_ hm
      rw [e0]
      cases ad0 <;> simp [Builtin.append_, run_underlying hu, sizeOf, typeInfo, hit, Builtin.lenOf, Builtin.firstCells, storeCells]
    · refine same ?_ hm
      subst hm
      rw [e0]
      cases ad0 <;> simp [Builtin.append_, run_underlying hu, sizeOf, typeInfo, hit, Builtin.lenOf, hsz, h0, storeCells]
    · by_cases hm : m = 0
      · refine same ?_ hm
        subst hm
        rw [e0]
        cases ad0 <;> simp [Builtin.append_, run_underlying hu, sizeOf, typeInfo, hit, Builtin.lenOf, hsz, h0, storeCells]
      · have hmpos : 0 < m := by omega
        have hnews : ∀ j u, news[j]? = some u → w.cell? ((⟨b, o, none⟩ : Addr).add j) = some u := fun j u hj => by rw [addr_add]; exact hat j u hj
        subst hxs
        rw [Nat.zero_add] at hbyt
        have hge := grownCap_ge w m 0 e
        have hcm : grownCap w m 0 e ≤ maxLen := grownCap_le_maxLen w m 0 e (by omega)
        have hgrow : Grow (fun b => L.hdr.ownBlock = some L.loc ∧ b = L.loc) w (w.drew.alloc (.cells (news.toArray ++ Builtin.zeroCells z.cells (grownCap w m 0 e - m)) e)) :=
          ⟨rfl, rfl, rfl, by simp, fun k hk _ => alloc_kept w.drew _ k hk⟩
        have hrow : (w.drew.alloc (.cells (news.toArray ++ Builtin.zeroCells z.cells (grownCap w m 0 e - m)) e)).ownsRow 0 e i.siz (.slice (some ⟨w.heap.size, 0, none⟩) m (grownCap w m 0 e)) (0 + m) ([] ++ news) := by
          rw [Nat.zero_add, List.nil_append]
          refine ⟨hl, .inr ⟨w.heap.size, _, _, rfl, Nat.zero_le _, heap_alloc_new w.drew _, hge, hcm, ?_, ?_⟩⟩
          · simp only [Array.size_append, List.size_toArray, size_zeroCells, hz2, hl, ← Nat.add_mul]
            congr 1
            omega
          · simp only [Array.toList_append]
            rw [← hl]
            exact List.take_left
        refine fresh _ _ hmpos rfl rfl hrow hgrow ?_
        rw [e0]
        cases ad0 with
        | none =>
          exact run_append_nil (P := P) w t ty e it z hu hit hz1 ⟨b, o, none⟩ m c news (by rw [hl, hsz]) hnews hmpos (by omega) (by rw [hby]; omega)
        | some a0 =>
          have := run_append_grow (P := P) w t ty e it z hu hit hz1 a0 0 0 [] (by simp) (by simp) ⟨b, o, none⟩ m c news (by rw [hl, hsz]) hnews (by omega) (by omega) (by
            rw [Nat.zero_add, nextslicecap_zero hmpos, hby]; omega)
          simpa using this
  · rcases hy with ⟨rfl, hm⟩ | ⟨ad, c, rfl, hm | ⟨b, o, rfl, hat⟩⟩
    · exact same (run_append_owned_none w 0 t ty e it i.siz hu hit L.hdr n xs hown) hm
    · refine same ?_ hm
      subst hm
      rcases hown.2 with ⟨h2, rfl⟩ | ⟨g, cap, cur, h2, _, _, hnc, _⟩
      · rw [h2]; simp [Builtin.append_, run_underlying hu, sizeOf, typeInfo, hit, Builtin.lenOf, hsz, h0]
      · rw [h2]; simp [Builtin.append_, run_underlying hu, sizeOf, typeInfo, hit, Builtin.lenOf, hsz, h0, hnc, storeCells]
    · obtain ⟨v', w', h2, h3, h4, _, h5⟩ := run_append_own_at (P := P) w 0 t ty e it z i.siz i.byt hu hit hz1 hsz hby hz2 hz L.hdr n xs hown ⟨b, o, none⟩ m c news hl (fun j u hj => by rw [addr_add]; exact hat j u hj) h1
        hbig hbyt (Nat.zero_le _)
      have hgr : Grow (fun b => L.hdr.ownBlock = some L.loc ∧ b = L.loc) w w' := ⟨h4.os, h4.tape, h4.output, h4.size, fun k hk hn => h4.block k hk (fun e => hn ⟨hob, by rw [hob] at e; injection e⟩)⟩
      have hv1 : v'.oneCell' = true := by rcases h3.2 with ⟨rfl, _⟩ | ⟨g, cap, cur, rfl, _⟩ <;> rfl
      rcases h5 with h5 | h5
      · exact ⟨⟨L.loc, v'⟩, w', h2, .inr ⟨by rw [← hob]; exact h5, h3⟩, hgr, fun h => ⟨(h3.lt _ h).2, .inl ⟨hob, rfl⟩⟩, hv1⟩
      · exact ⟨⟨w.heap.size, v'⟩, w', h2, .inr ⟨h5, h3⟩, hgr, fun h => ⟨(h3.lt _ h).2, .inr (Nat.le_refl _)⟩, hv1⟩
theorem killR_T (l : List Nat) : TrT (killR l) := by
  constructor
  · intro t i; show ((if l.contains i then nope else _ : Dyn).t.vk = .one ∨ _) ∧ _; unfold killR; dsimp only; split <;> simp [nope, Ty.vk, Ty.cel]
  · intro t i o x; unfold killR; dsimp only; split <;> simp [nope, Ty.vk, Ty.cel]
  · intro i o; unfold killR; dsimp only; split <;> simp [nope, Ty.vk, Ty.cel]
  · intro t m i b o x; unfold killR; dsimp only; split <;> simp [nope, Ty.vk, Ty.cel]
theorem killR_OK2 {w' : World} {Fr' : Nat → Prop} {mu' : Nat → Loc} {l : List Nat} {p : Nat → Prop} (hF : ∀ b, Fr b → Fr' b) (hh : ∀ i, (mu i).hdr.oneCell' = true) (hw : ∀ b, Fr b → w'.heap[b]? = w.heap[b]?) (hm : ∀ i, p i → i ∉ l → mu' i = mu i) : TrOK w Fr mu w' Fr' mu' (killR l) p where
  fr := hF
  wd := hw
  own t i hi := by
    unfold killR; dsimp only
    split
    · exact ⟨.inr rfl, rfl, _, rfl, hh i⟩
    · rename_i hc
      exact ⟨.inl rfl, rfl, by show _ = [(mu' i).hdr]; rw [hm i hi (by simpa using hc)]⟩
  rptr t i o x l' hi hr := by
    unfold killR; dsimp only
    split
    · obtain ⟨b, n, c, _, _, _, e⟩ := hr
      exact ⟨.inr rfl, rfl, _, e, rfl⟩
    · rename_i hc
      exact ⟨.inl rfl, rfl, Rp_keep hF hw (.rptr t i o) x l' (hm i hi (by simpa using hc)) hr⟩
  ptr i o hi := by
    unfold killR; dsimp only
    split
    · exact ⟨.inr rfl, rfl, _, rfl, rfl⟩
    · rename_i hc
      exact ⟨.inl rfl, rfl, by show _ = [Value.pointer (some ⟨(mu' i).loc, o, none⟩)]; rw [hm i hi (by simpa using hc)]⟩
  aptr t m i b o x l' hi hr := by
    unfold killR; dsimp only
    split
    · exact ⟨.inr rfl, rfl, _, hr.2, rfl⟩
    · rename_i hc
      exact ⟨.inl rfl, rfl, Rp_keep hF hw (.aptr t m i b o) x l' (hm i hi (by simpa using hc)) hr⟩
theorem killR_OK {w' : World} {mu' : Nat → Loc} {l : List Nat} {p : Nat → Prop} (hh : ∀ i, (mu i).hdr.oneCell' = true) (hw : ∀ b, Fr b → w'.heap[b]? = w.heap[b]?) (hm : ∀ i, p i → i ∉ l → mu' i = mu i) : TrOK w Fr mu w' Fr mu' (killR l) p :=
  killR_OK2 (fun _ => id) hh hw hm
theorem killR_okN (l : List Nat) {q : Nat → Prop} (t : Ty) (x : den t) (h : t.okN q) : ((killR l).app t x).t.okN q := by
  refine okN_app (r := killR l) (p := q) (q := q) ?_ ?_ ?_ ?_ t x h
  · intro t i hi; unfold killR; dsimp only; split
    · trivial
    · exact hi
  · intro t i o x hi; unfold killR; dsimp only; split
    · trivial
    · exact hi
  · intro i o hi; unfold killR; dsimp only; split
    · trivial
    · exact hi
  · intro t m i b o x hi; unfold killR; dsimp only; split
    · trivial
    · exact hi
theorem new_row (H : Rep E w Fr mu s a) {w' : World} {e : Nat} {t : Ty} {xs : List (den t)} {L : Loc} {cells : List Value} (he : t.elt = true) (hg : Grow (fun _ => False) w w') (h1 : L.hdr.oneCell' = true) (hown : RowAt w' L e t.width xs.length cells)
    (hblk : L.hdr.ownBlock = some L.loc → w.heap.size ≤ L.loc ∧ L.loc < w'.heap.size)
    (hr : rows (fun x l => Rp w Fr mu t x l) xs cells) :
    Rep E w' Fr (upd mu s.heap.length L) (s.new ⟨.row e t false, xs⟩) a := by
  refine H.newObj hg h1 ?_ ?_ (fun t x e => by cases e)
  · exact ⟨he, cells, rows_mono (fun x l h => Rp_keep (fun _ => id) (fun b hb => hg.block b (H.si.frL b hb) id) t x l (t.pure_okN (Ty.elt_pure he)) h) hr, by rw [upd_same]; exact hown⟩
  · intro hocc
    have hocc : (upd mu s.heap.length L s.heap.length).hdr.ownBlock = some (upd mu s.heap.length L s.heap.length).loc := hocc
    rw [upd_same] at hocc
    exact hblk hocc
theorem VR_own {mu : Nat → Loc} {t : Ty} {i : Nat} {v : Value} (h : (mu i).hdr = v) : VR w Fr mu ⟨.own t i, ()⟩ v := by
  show [v] = [(mu i).hdr]; rw [h]
theorem ok_append (hT : TabOK P T.tb) (H : Rep E w Fr mu s a) {o : Oper} {xs : Array Operand} {ats : Array Nat} (ho : o.op = .call ⟨.builtin .append, xs, ats⟩) {d : Dyn} {s' : St} (h : builtinP T .append (xs.toList.map s.get) ats.toList s = some (true, d, s')) : StepOK P E w Fr mu s a o d s' := by
  obtain ⟨xl⟩ := xs
  obtain ⟨al⟩ := ats
  unfold builtinP at h
  match xl, al, h with
  | [x, y], [t, u], h =>
    dsimp only [List.map] at h
    split at h
    case isFalse => cases h
    rename_i htu
    subst htu
    have hx := (H.op x).1
    have hy := (H.op y).1
    have key : ∀ r w', (Builtin.append_ #[t, t] o.type #[a.eval x, a.eval y]).run P w = .ok r w' → (execOp a.eval o).run P w = .ok (.value r) w' := by
      intro r w' e
      unfold execOp
      simp only [ho, resolve, invoke, builtin, Sem.run_bind, Sem.run_pure, Result.andThen_ok, List.map_toArray, List.map_cons, List.map_nil, e]
    split at h
    · cases h
    rename_i e i hrow
    obtain ⟨hu, hg, hz, hw, hb, he, hza, _⟩ := rowT_ok hT hrow
    split at h
    · cases h
    rename_i ys hys
    obtain ⟨ad, c, cells, e1, hr, hat⟩ := readL_ok H hys hy
    have hlen : cells.length = ys.length * i.siz := by rw [rows_len (fun x l h => Rp_len i.ty x l (Ty.elt_cel he) h) hr, hw]
    have h1 : ∀ u ∈ cells, u.oneCell' = true := rows_all (fun x l h => Rp_one H.si.hh i.ty x l (Ty.elt_cel he) h) hr
    have hyy : (a.eval y = .slice none 0 0 ∧ ys.length = 0) ∨ ∃ ad c, a.eval y = .slice ad ys.length c ∧ (ys.length = 0 ∨ ∃ b o, ad = some ⟨b, o, none⟩ ∧ At w b o cells) := by
      rcases hat with ⟨h2, h3⟩ | h3 | h3
      · exact .inl ⟨h2, by rw [h3]; rfl⟩
      · exact .inr ⟨ad, c, e1, .inl (by rw [h3]; rfl)⟩
      · exact .inr ⟨ad, c, e1, .inr h3⟩
    split at h
    · rename_i e' _ hq
      injection h with h
      injection h with hf h
      injection h with h2 h3
      subst h2; subst h3
      rw [hq] at hx
      injection (show [a.eval x] = [_] from hx) with hx
      have hfit : ys.length ≤ 1073741824 := by unfold fitL at hf; simpa using hf
      have hnil : RowAt w nilLoc e i.siz 0 [] := .inl ⟨none, rfl, rfl, by simp [nilLoc, Value.ownBlock]⟩
      obtain ⟨L, w', hr1, hr2, hr3, hr4, hr5⟩ := run_append (P := P) (ty := o.type) hu hg hz hb hza (by simp) hnil hyy hlen h1 (by omega)
      rw [Nat.zero_add, List.nil_append] at hr2
      have hgr : Grow (fun _ => False) w w' := ⟨hr3.os, hr3.tape, hr3.output, hr3.size, fun k hk _ => hr3.block k hk (by simp [nilLoc, Value.ownBlock])⟩
      refine ⟨_, L.hdr, w', Fr, _, key _ _ (by rw [hx]; exact hr1), .inl rfl, VR_own (by rw [upd_same]), ?_, new_row H he hgr hr5 (by rw [hw]; exact hr2) ?_ hr, Kept.new H.si hgr⟩
      · show _ < _; simp [St.new]
      · intro hk
        obtain ⟨h2, h3⟩ := hr4 hk
        exact ⟨h3.resolve_left (by simp [nilLoc, Value.ownBlock]), h2⟩
    · rename_i u j _ hq
      split at h
      case h_2 => cases h
      rename_i e' u' f xs0 hob
      split at h
      case isFalse => cases h
      rename_i hee
      subst hee
      split at h
      case h_2 => cases h
      rename_i xs hxs
      injection h with h
      injection h with hf h
      injection h with h2 h3
      subst h2; subst h3
      have hoj := obj_some hob (by simp)
      rw [list_as hxs] at hoj
      rw [hq] at hx
      injection (show [a.eval x] = [_] from hx) with hx
      have hor := H.si.obj j _ hoj
      obtain ⟨_, cx, hrx, hown⟩ := hor
      rw [hw] at hown
      have hfit : xs.length + ys.length ≤ 1073741824 := by unfold fitL appL at hf; simpa using hf
      have hcx : cx.length = xs.length * i.siz := by rw [rows_len (fun x l h => Rp_len i.ty x l (Ty.elt_cel he) h) hrx, hw]
      obtain ⟨L, w', hr1, hr2, hr3, hr4, hr5⟩ := run_append (P := P) (ty := o.type) hu hg hz hb hza hcx hown hyy hlen h1 hfit
      have hgr : Grow (fun b => occ mu j (⟨.row e' i.ty f, xs⟩ : AObj) ∧ b = (mu j).loc) w w' := hr3
      have hfr : ∀ b, Fr b → w'.heap[b]? = w.heap[b]? := fun b hb => hgr.block b (H.si.frL b hb) (fun ⟨h1, h2⟩ => (H.si.own j _ hoj h1).2.1 (h2 ▸ hb))
      have hjl : j < s.heap.length := (List.getElem?_eq_some_iff.1 hoj).1
      have hrep := H.setObj (r := killR [j]) (w' := w') (L := L) (o := ⟨.row e' i.ty false, appL i.ty xs ys⟩) hoj (killR_T [j])
        (killR_OK H.si.hh hfr (fun k hk hne => upd_ne (by simpa using hne))) (fun t x h => killR_okN [j] t x h) hgr hr5
        (by
          refine ⟨he, cx ++ cells, ?_, ?_⟩
          · exact rows_mono (fun x l h => Rp_keep (fun _ => id) hfr i.ty x l (i.ty.pure_okN (Ty.elt_pure he)) h) (rows_append hrx hr)
          · rw [upd_same, hw]
            have : (appL i.ty xs ys).length = xs.length + ys.length := by simp [appL]
            rw [this]; exact hr2)
        (by
          intro hoc
          have hoc : (upd mu j L j).hdr.ownBlock = some (upd mu j L j).loc := hoc
          rw [upd_same] at hoc
          exact hr4 hoc)
        (fun t x e => by cases e) (fun _ => trivial)
      refine ⟨_, L.hdr, w', Fr, _, key _ _ (by rw [hx]; exact hr1), .inl rfl, VR_own (by rw [upd_same]), ?_, hrep, Kept.set H.si hoj (fun t x e => by cases e) hgr (fun _ t x e => by cases e)⟩
      show _ < _; simp [Tr.st, St.setObj]; exact hjl
    · cases h
  | [], _, h => cases h
  | [_], _, h => cases h
  | _ :: _ :: _ :: _, _, h => cases h
  | [_, _], [], h => cases h
  | [_, _], [_], h => cases h
  | [_, _], _ :: _ :: _ :: _, h => cases h
end
end Go.Abs
set_option autoImplicit false
set_option linter.unusedVariables false
namespace Go.Abs
section
variable {P : Program} {T : Told} {E : Env} {w : World} {Fr : Nat → Prop} {mu : Nat → Loc} {s : St} {a : Act}
theorem coe0_chain : ∀ (u t : Ty) (x : den t), t.chain = true → (coe0 u t x).t.chain = true := by
  intro u t x
  fun_induction coe0 u t x with
  | case1 => intro h; cases h
  | case2 => intro h; cases h
  | case3 => intro _; rfl
  | case4 => intro h; cases h
  | case5 => exact id
theorem coe0_ok : ∀ (u t : Ty) (x : den t) (l : List Value), t.cel = true → Rp w Fr mu t x l → (coe0 u t x).t.cel = true ∧ Rp w Fr mu (coe0 u t x).t (coe0 u t x).x l := by
  intro u t x
  fun_induction coe0 u t x with
  | case1 t e h x => intro l _ hr; cases hr; exact ⟨rfl, h, none, 0, [], rfl, Nat.le_refl _, rfl, .inl rfl⟩
  | case2 t e x h => intro l _ hr; cases hr; exact ⟨rfl, _, rfl, rfl⟩
  | case3 a b c d x p q ih1 ih2 =>
    rintro l hc ⟨l1, l2, e, r1, r2⟩
    obtain ⟨c1, c2, c3⟩ := Ty.cel_pair hc
    obtain ⟨g1, g2⟩ := ih1 _ c1 r1
    obtain ⟨k1, k2⟩ := ih2 _ c2 r2
    exact ⟨Ty.pair_cel g1 k1 (coe0_chain b d x.2 c3), l1, l2, e, g2, k2⟩
  | case4 => intro l hc; cases hc
  | case5 => intro l hc hr; exact ⟨hc, hr⟩
theorem made_toList {z : Array Value} (hz : 0 < z.size) : ∀ n, (madeCells z (n * z.size)).toList = (List.replicate n z.toList).flatten := by
  intro n
  have key : ∀ n, (List.range (n * z.size)).map (fun j => z[j % z.size]!) = (List.replicate n z.toList).flatten := by
    intro n
    induction n with
    | zero => simp
    | succ n ih =>
      rw [Nat.succ_mul, List.range_add, List.map_append, ih, List.replicate_succ', List.flatten_append]
      congr 1
      simp only [List.flatten_cons, List.flatten_nil, List.append_nil, List.map_map]
      apply List.ext_getElem
      · simp
      · intro k h1 h2
        have hk : k < z.size := by simpa using h2
        simp only [List.getElem_map, List.getElem_range, Function.comp, Nat.mul_add_mod', Nat.mod_eq_of_lt hk, Array.getElem_toList]
        rw [getElem!_pos z k hk]
  rw [← key n]
  simp [madeCells]
theorem ok_makeSlice (hT : TabOK P T.tb) (H : Rep E w Fr mu s a) {fn : Nat} {o : Oper} {t : Nat} {x y : Operand} (ho : o.op = .makeSlice t x y) {d : Dyn} {s' : St} (h : opP T fn o s = some (true, d, s')) : StepOK P E w Fr mu s a o d s' := by
  unfold opP at h
  rw [ho] at h
  dsimp only at h
  split at h
  case h_2 => cases h
  rename_i e i k1 n k2 m hrow hqx hqy
  change Int at n
  change Int at m
  split at h
  case h_2 => cases h
  rename_i z hz
  injection h with h
  injection h with hb h
  injection h with h2 h3
  subst h2; subst h3
  obtain ⟨hb1, hb2⟩ := andB_true hb
  have hnm : m = n := eqI_true hb2
  subst hnm
  have hn : 0 ≤ m ∧ m ≤ 1073741824 := by unfold fitN at hb1; simpa using hb1
  obtain ⟨hu, hg, hsz, hw, hby, he, hza, hzc, _⟩ := rowT_ok hT hrow
  obtain ⟨it, hit, hs1, hb3, hzz⟩ := hg.info
  obtain ⟨zv, hz1, hz2, hz3, hz4⟩ := hzz hza
  have hx := (H.op x).1
  have hy := (H.op y).1
  rw [hqx] at hx
  rw [hqy] at hy
  have hx := VR_int hx
  have hy := VR_int hy
  obtain ⟨hcv, hone⟩ := VR_cells (p := (· < s.heap.length)) H.si.hh (hz4 w Fr mu) hzc hza (hz3 _)
  obtain ⟨_, hzr⟩ := coe0_ok i.ty i.zer.t i.zer.x _ hzc hcv.rp
  rw [as_some hz] at hzr
  have hrun := run_make (P := P) w t e it zv hu hit hz1 k1 k2 m m hn.1 (Int.le_refl _) (by
    rw [hb3]
    have h1 : ((i.byt : Int)) ≤ 131072 := by omega
    have : (i.byt : Int) * m ≤ 131072 * 1073741824 := Int.mul_le_mul h1 hn.2 hn.1 (by omega)
    omega) (by omega)
  have hcells : (madeCells zv.cells (m.toNat * it.size)).toList = (List.replicate m.toNat zv.cells.toList).flatten := by
    rw [hs1, ← hz2]; exact made_toList (by rw [hz2]; exact hsz) m.toNat
  have hrows : rows (fun x l => Rp w Fr mu i.ty x l) (repL i.ty m.toNat z) (madeCells zv.cells (m.toNat * it.size)).toList := by
    rw [hcells]; exact rows_replicate hzr m.toNat
  have hmade : (w.alloc (.cells (madeCells zv.cells (m.toNat * it.size)) e)).ownsRow 0 e i.ty.width (.slice (some ⟨w.heap.size, 0, none⟩) m.toNat m.toNat) (repL i.ty m.toNat z).length (madeCells zv.cells (m.toNat * it.size)).toList := by
    rw [show (repL i.ty m.toNat z).length = m.toNat by simp [repL]]
    exact World.ownsRow_lit w _ m.toNat (Nat.zero_le _) (by rw [maxLen_big]; omega) (by rw [size_madeCells, hs1, hw])
  have hgr : Grow (fun _ => False) w (w.alloc (.cells (madeCells zv.cells (m.toNat * it.size)) e)) := ⟨rfl, rfl, rfl, by simp, fun k hk _ => alloc_kept w _ k hk⟩
  refine ⟨_, _, _, Fr, _, ?_, .inl rfl, VR_own (by rw [upd_same]), ?_, new_row (L := ⟨w.heap.size, .slice (some ⟨w.heap.size, 0, none⟩) m.toNat m.toNat⟩) H he hgr rfl (.inr ⟨rfl, hmade⟩) (fun _ => ⟨Nat.le_refl _, by simp⟩) hrows, Kept.new H.si hgr⟩
  · unfold execOp
    simp only [ho, hx, hy, Sem.run_bind, hrun, Result.andThen_ok]; rfl
  · show _ < _; simp [St.new]
theorem litParts_ok {e : Ty} : ∀ (parts : List (Nat × Operand)) (n : Nat) (s : St) (Fr : Nat → Prop) (l : List (den e)) (s' : St), Rep E w Fr mu s a → litParts e s n parts = some (l, s') →
    ∃ Fr' cells, (∀ b, Fr b → Fr' b) ∧ Rep E w Fr' mu s' a ∧ rows (fun x l => Rp w Fr' mu e x l) l cells ∧ s'.heap.length = s.heap.length ∧ l.length = parts.length ∧ cells = (parts.map fun p => (a.eval p.2).cells.toList).flatten ∧
      (∀ p ∈ parts, (a.eval p.2).cells.toList.length = e.width) ∧ parts.map (·.1) = List.range' n parts.length ∧ (∀ b, Safe Fr mu s.heap b → Safe Fr' mu s'.heap b)
  | [], n, s, Fr, l, s', H, h => by
    unfold litParts at h
    injection h with h
    injection h with h1 h2
    subst h1; subst h2
    exact ⟨Fr, [], fun _ => id, H, rfl, rfl, rfl, rfl, by simp, rfl, fun _ => id⟩
  | (i, x) :: parts, n, s, Fr, l, s', H, h => by
    unfold litParts at h
    split at h
    case isFalse => cases h
    rename_i hc
    split at h
    case h_2 => cases h
    rename_i v s1 hcf
    split at h
    case h_2 => cases h
    rename_i r s2 hlp
    injection h with h
    injection h with h1 h2
    subst h1; subst h2
    obtain ⟨hcv, _⟩ := VR_cells (p := (· < s.heap.length)) H.si.hh (H.op x).1 hc.2.2.1 hc.2.1 (H.op x).2
    obtain ⟨he, hs1, hrv, H1⟩ := coeF_ok H hcf hcv
    obtain ⟨Fr', cells, hF, H2, hr, hlen, hll, hcells, hw, hidx, hsf⟩ := litParts_ok parts (n + 1) s1 _ r s2 H1 hlp
    refine ⟨Fr', (a.eval x).cells.toList ++ cells, fun b hb => hF b (.inl hb), H2, ⟨_, cells, rfl, Rp_keep hF (fun _ _ => rfl) e v _ (e.pure_okN (Ty.elt_pure he)) hrv, hr⟩, ?_, ?_, ?_, ?_, ?_, fun b hb => hsf b (by rw [hs1]; exact (Kept.frz (g := true) (w := w)).safe b hb)⟩
    · rw [hlen, hs1, freeze_len]
    · simp [hll]
    · simp [hcells]
    · intro p hp
      rcases List.mem_cons.1 hp with rfl | hp
      · rw [hcv.len, hc.2.2.2]
      · exact hw p hp
    · simp only [List.map_cons, List.length_cons, List.range'_succ, hidx, hc.1]
theorem fill_lit {size : Nat} : ∀ (vs : List (Nat × Value)) (n : Nat) (cells : Array Value) (A B : List Value), cells.toList = A ++ B → A.length = n * size → B.length = vs.length * size → vs.map (·.1) = List.range' n vs.length → (∀ p ∈ vs, p.2.cells.toList.length = size) →
    ∃ r : Array Value, Instr.fill (fun i => some (i * size, size)) cells vs = some r ∧ r.toList = A ++ (vs.map fun p => p.2.cells.toList).flatten
  | [], n, cells, A, B, e, hA, hB, _, _ => by
    have : B = [] := List.eq_nil_of_length_eq_zero (by simpa using hB)
    exact ⟨cells, rfl, by rw [e, this]; rfl⟩
  | (i, v) :: vs, n, cells, A, B, e, hA, hB, hidx, hs => by
    simp only [List.map_cons, List.length_cons, List.range'_succ] at hidx
    injection hidx with hi hidx
    subst hi
    have hv : v.cells.toList.length = size := hs (i, v) (by simp)
    have hB1 : B = B.take size ++ B.drop size := (List.take_append_drop size B).symm
    have hBl : size ≤ B.length := by rw [hB, List.length_cons, Nat.succ_mul]; omega
    have hput := foldl_put (i * size) cells A (B.take size) (B.drop size) v.cells.toList (by rw [e, ← hB1]) hA (by rw [List.length_take, hv]; omega)
    obtain ⟨r, hr, hr2⟩ := fill_lit vs (i + 1) ((v.cells.toList.zipIdx 0).foldl (fun cs (x : Value × Nat) => cs.setIfInBounds (i * size + x.2) x.1) cells) (A ++ v.cells.toList) (B.drop size)
      (by rw [hput]; simp) (by rw [List.length_append, hA, hv, Nat.succ_mul]) (by rw [List.length_drop, hB, List.length_cons, Nat.succ_mul]; omega) hidx (fun p hp => hs p (List.mem_cons_of_mem _ hp))
    refine ⟨r, ?_, by rw [hr2]; simp⟩
    rw [← hr]
    have hsz : v.cells.size = size := by simpa using hv
    have hfit : ¬ (v.cells.size ≠ size ∨ i * size + v.cells.size > cells.size) := by
      have : cells.size = A.length + B.length := by
        have := congrArg List.length e; simpa using this
      omega
    conv => lhs; unfold Instr.fill
    dsimp only
    rw [if_neg (by simpa using hfit)]
    congr 1
    rw [← Array.foldl_toList, Array.toList_zipIdx]
theorem ok_buildSlice (hT : TabOK P T.tb) (H : Rep E w Fr mu s a) {fn : Nat} {o : Oper} {t n : Nat} {parts : Array (Nat × Operand)} (ho : o.op = .buildSlice t n parts) {d : Dyn} {s' : St} (h : opP T fn o s = some (true, d, s')) : StepOK P E w Fr mu s a o d s' := by
  unfold opP at h
  rw [ho] at h
  dsimp only at h
  split at h
  case h_2 => cases h
  rename_i e i hrow
  split at h
  case h_2 => cases h
  rename_i l s1 hlp
  split at h
  case isFalse => cases h
  rename_i hc
  injection h with h
  injection h with _ h
  injection h with h2 h3
  subst h2; subst h3
  obtain ⟨hu, hg, hsz, hw, hby, he, hza, _, hs4⟩ := rowT_ok hT hrow
  obtain ⟨it, hit, hs1, hb3, hzz⟩ := hg.info
  obtain ⟨zv, hz1, hz2, hz3, hz4⟩ := hzz hza
  obtain ⟨Fr', cells, hF, H2, hr, hlen, hll, hcells, hwid, hidx, hsafe⟩ := litParts_ok parts.toList 0 s Fr l s1 H hlp
  have hpn : parts.toList.length = n := by simpa using hc.1
  have hmk : ((parts.toList.map fun p => (p.1, a.eval p.2)).map fun p => p.2.cells.toList).flatten = cells := by
    rw [hcells, List.map_map]; rfl
  have hrun : ∃ r : Array Value, (Instr.buildSlice t n (parts.map fun (i, x) => (i, a.eval x))).run P w = .ok (.slice (some ⟨w.heap.size, 0, none⟩) n n) (w.alloc (.cells r e)) ∧ r.toList = cells := by
    by_cases hn : n = 0
    · have hp0 : parts.toList = [] := List.eq_nil_of_length_eq_zero (by rw [hpn, hn])
      have hp0' : parts = #[] := by apply Array.ext'; simpa using hp0
      subst hp0'
      subst hn
      refine ⟨(Array.range 0).map (fun _ => default), ?_, by rw [hcells]; simp⟩
      simp [Instr.buildSlice, run_underlying hu, sizeOf, typeInfo, hit, Instr.fill, newRow]
    · have hmul : n * it.size ≤ 16777216 := by
        have h1 : n ≤ 1000 := hc.2
        have := Nat.mul_le_mul h1 hs4
        rw [hs1]; omega
      obtain ⟨r, hr1, hr2⟩ := fill_lit (size := it.size) (parts.toList.map fun p => (p.1, a.eval p.2)) 0 ((Array.range (n * it.size)).map (zv.cells[· % zv.cells.size]!)) [] ((Array.range (n * it.size)).map (zv.cells[· % zv.cells.size]!)).toList rfl (by simp) (by simp; rw [← hpn]; simp) (by simpa [List.map_map, Function.comp_def] using hidx) (by
        intro p hp
        obtain ⟨q, hq, rfl⟩ := List.mem_map.1 hp
        rw [hwid q hq, hw, hs1])
      rw [hmk, List.nil_append] at hr2
      refine ⟨r, ?_, hr2⟩
      have hpos : ¬ n * it.size = 0 := by
        have : 0 < n * it.size := Nat.mul_pos (by omega) (by rw [hs1]; exact hsz)
        omega
      refine run_buildSlice w t e n _ r it zv hu hit hz1 (by omega) hpos ?_
      rw [← hr1]; congr 1; simp
  obtain ⟨r, hr1, hr2⟩ := hrun
  have hlen2 : l.length = n := by rw [hll, hpn]
  have hcl : cells.length = n * i.ty.width := by rw [rows_len (fun x l h => Rp_len i.ty x l (Ty.elt_cel he) h) hr, hlen2]
  have hmade : (w.alloc (.cells r e)).ownsRow 0 e i.ty.width (.slice (some ⟨w.heap.size, 0, none⟩) n n) l.length cells := by
    rw [hlen2, ← hr2]
    exact World.ownsRow_lit w _ n (Nat.zero_le _) (by have : n ≤ 1000 := hc.2; rw [maxLen_big]; omega) (by rw [← hcl, ← hr2]; simp)
  have hgr : Grow (fun _ => False) w (w.alloc (.cells r e)) := ⟨rfl, rfl, rfl, by simp, fun k hk _ => alloc_kept w _ k hk⟩
  refine ⟨_, _, _, Fr', _, ?_, .inl rfl, VR_own (by rw [upd_same]), ?_, new_row (L := ⟨w.heap.size, .slice (some ⟨w.heap.size, 0, none⟩) n n⟩) H2 he hgr rfl (.inr ⟨rfl, hmade⟩) (fun _ => ⟨Nat.le_refl _, by simp⟩) hr, Kept.trans ⟨hsafe, fun _ _ _ => rfl⟩ (Kept.new H2.si hgr)⟩
  · unfold execOp
    simp only [ho, Sem.run_bind, hr1, Result.andThen_ok]; rfl
  · show _ < _; simp [St.new]
theorem arrParts_ok {e : Ty} (he : e.elt = true) (H : Rep E w Fr mu s a) : ∀ (parts : List (Nat × Operand)) (n : Nat) (l : List (den e)), arrParts e s n parts = some l →
    ∃ cells, rows (fun x l => Rp w Fr mu e x l) l cells ∧ l.length = parts.length ∧ cells = (parts.map fun p => (a.eval p.2).cells.toList).flatten ∧
      (∀ p ∈ parts, (a.eval p.2).cells.toList.length = e.width) ∧ parts.map (·.1) = List.range' n parts.length
  | [], n, l, h => by
    unfold arrParts at h
    injection h with h
    subst h
    exact ⟨[], rfl, rfl, rfl, by simp, rfl⟩
  | (i, x) :: parts, n, l, h => by
    unfold arrParts at h
    split at h
    case isFalse => cases h
    rename_i hc
    split at h
    case h_2 => cases h
    rename_i v hv
    split at h
    case h_2 => cases h
    rename_i r hr
    injection h with h
    subst h
    obtain ⟨hcv, _⟩ := VR_cells (p := (· < s.heap.length)) H.si.hh (H.op x).1 hc.2.2.1 hc.2.1 (H.op x).2
    obtain ⟨_, hzr⟩ := coe0_ok e (s.get x).t (s.get x).x _ hc.2.2.1 hcv.rp
    rw [as_some hv] at hzr
    obtain ⟨cells, h1, h2, h3, h4, h5⟩ := arrParts_ok he H parts (n + 1) r hr
    refine ⟨(a.eval x).cells.toList ++ cells, ⟨_, cells, rfl, hzr, h1⟩, by simp [h2], by simp [h3], ?_, ?_⟩
    · intro p hp
      rcases List.mem_cons.1 hp with rfl | hp
      · rw [hcv.len, hc.2.2.2]
      · exact h4 p hp
    · simp only [List.map_cons, List.length_cons, List.range'_succ, h5, hc.1]
theorem ok_buildArr (hT : TabOK P T.tb) (H : Rep E w Fr mu s a) {o : Oper} {t : Nat} {parts : Array (Nat × Operand)} (ho : o.op = .build t parts) {d : Dyn} {s' : St} {m e : Nat} {eqs : Bool} {n byt : Nat} {z : Dyn} {ty : Ty} (h : (match look T.tb e with
      | some i => if parts.size = m ∧ i.ty.elt = true ∧ n = m * i.siz ∧ i.ty.width = i.siz ∧ z.t.alive = true then (match arrParts i.ty s 0 parts.toList with
        | some l => put1 ⟨.arr m i.ty, l⟩ s
        | none => none) else none
      | none => none) = some (true, d, s')) (hti : look T.tb t = some ⟨.array m e, eqs, n, byt, z, ty⟩) : StepQ P w Fr mu s a o d s' := by
  split at h
  case h_2 => cases h
  rename_i i hi
  split at h
  case isFalse => cases h
  rename_i hc
  obtain ⟨c1, c2, c3, c4, c5⟩ := hc
  split at h
  case h_2 => cases h
  rename_i l hl
  unfold put1 at h
  split at h
  case isFalse => cases h
  injection h with h
  injection h with _ h
  injection h with h2 h3
  subst h2; subst h3
  obtain ⟨it, hit, hsz, _, hz⟩ := (hT t _ hti).info
  obtain ⟨zv, hzv, hzs, _, _⟩ := hz c5
  have hu : P.underlying t = some (.array m e) := (hT t _ hti).und
  obtain ⟨ie, hie, hse, _, _⟩ := (hT e _ hi).info
  obtain ⟨cells, h1, h2, h3, h4, h5⟩ := arrParts_ok c2 H parts.toList 0 l hl
  have hmk : ((parts.toList.map fun p => (p.1, a.eval p.2)).map fun p => p.2.cells.toList).flatten = cells := by
    rw [h3, List.map_map]; rfl
  have hpn : parts.toList.length = m := by simpa using c1
  obtain ⟨r, hr1, hr2⟩ := fill_lit (size := ie.size) (parts.toList.map fun p => (p.1, a.eval p.2)) 0 zv.cells [] zv.cells.toList rfl (by simp) (by
    have : zv.cells.toList.length = m * ie.size := by rw [Array.length_toList, hzs, hse]; exact c3
    rw [this, List.length_map, hpn]) (by simpa [List.map_map, Function.comp_def] using h5) (by
    intro p hp
    obtain ⟨q, hq, rfl⟩ := List.mem_map.1 hp
    rw [h4 q hq, c4, hse])
  rw [hmk, List.nil_append] at hr2
  refine .mk (v := .agg r) (fun w' => ?_) ?_ trivial
  · have hb : P.built t (parts.map fun (i, x) => (i, a.eval x)).toList = some r := by
      unfold Program.built
      rw [hit, hu]
      dsimp only
      rw [hzv, hie]
      dsimp only
      rw [← hr1]
      congr 1
      simp
    unfold execOp
    simp only [ho, Sem.run_bind, run_build w' t _ r hb, Result.andThen_ok]
    rfl
  · refine ⟨Ty.elt_cel c2, r.toList, by simp, ?_⟩
    exact ⟨c2, by rw [h2, hpn], by rw [hr2]; exact h1⟩
theorem ok_build (hT : TabOK P T.tb) (H : Rep E w Fr mu s a) {fn : Nat} {o : Oper} {t : Nat} {parts : Array (Nat × Operand)} (ho : o.op = .build t parts) {d : Dyn} {s' : St} (h : opP T fn o s = some (true, d, s')) : StepQ P w Fr mu s a o d s' := by
  unfold opP at h
  rw [ho] at h
  dsimp only at h
  split at h
  case h_3 => cases h
  case h_2 m e eqs n byt z ty hti => exact ok_buildArr hT H ho h hti
  rename_i fs eqs n byt z ty hti
  split at h
  case isFalse => cases h
  rename_i hc
  simp only [Bool.and_eq_true, decide_eq_true_eq] at hc
  obtain ⟨⟨⟨c1, c2⟩, c3⟩, c4⟩ := hc
  unfold put1 at h
  split at h
  case isFalse => cases h
  rename_i hal
  injection h with h
  injection h with _ h
  injection h with h2 h3
  subst h2; subst h3
  have hg := hT t _ hti
  obtain ⟨it, hit, hsz, _, hz⟩ := hg.info
  obtain ⟨zv, hzv, hzs, hzok, hzr⟩ := hz (chain_alive c1)
  obtain ⟨F, hu, hF⟩ := hg.und
  have hmap := mapM_some (f := fun f : Field => (P.info? f.type).map fun i => (f.offset, i.size)) (l := F.toList) (fun f hf => by
    have hF' : (f.offset, f.type) ∈ fs := by
      have : (f.offset, f.type) ∈ F.toList.map (fun g => (g.offset, g.type)) := List.mem_map.2 ⟨f, hf, rfl⟩
      rwa [← hF] at this
    have := List.all_eq_true.1 c4 _ hF'
    obtain ⟨ti, hti'⟩ := Option.isSome_iff_exists.1 this
    obtain ⟨i, hi, _⟩ := (hT _ _ hti').info
    simp [hi])
  obtain ⟨places, hp1, hp2⟩ := hmap
  have hpl : ∀ (i off u : Nat) (ti : TI), fs[i]? = some (off, u) → look T.tb u = some ti → places[i]? = some (off, ti.siz) := by
    intro i off u ti hf hti'
    rw [hp2 i]
    have hF : fs = F.toList.map (fun g => (g.offset, g.type)) := hF
    rw [hF, List.getElem?_map] at hf
    cases hfi : F.toList[i]? with
    | none => rw [hfi] at hf; cases hf
    | some f =>
      rw [hfi] at hf
      injection hf with hf
      injection hf with e1 e2
      obtain ⟨i', hi', hs', _⟩ := (hT _ _ hti').info
      simp only [Option.bind_some]
      rw [e2, hi', ← e1, ← hs']
      rfl
  obtain ⟨hcv, _⟩ := VR_cells (p := (· < s.heap.length)) H.si.hh (hzr w Fr mu) c2 (chain_alive c1) (hzok _)
  obtain ⟨r, hr, hch, hd⟩ := layParts_ok hT H hpl parts.toList z zv.cells c1 hcv hal
  refine .mk (v := .agg r) (fun w' => ?_) ?_ hd.ok
  · have hb : P.built t (parts.map fun (i, x) => (i, a.eval x)).toList = some r := by
      unfold Program.built
      rw [hit, hu]
      dsimp only
      rw [hzv, hp1]
      dsimp only
      rw [← hr]
      congr 1
      · funext i; simp
      · simp
    unfold execOp
    simp only [ho, Sem.run_bind, run_build w' t _ r hb, Result.andThen_ok]
    rfl
  · unfold VR
    have : (layParts T fs s parts.toList z).t.vk = .agg := by
      revert hch; cases (layParts T fs s parts.toList z).t <;> intro h <;> first | rfl | cases h
    rw [this]
    exact ⟨hd.cel, r.toList, by simp, hd.rp⟩
end
end Go.Abs
set_option autoImplicit false
set_option linter.unusedVariables false
namespace Go.Abs
section
variable {P : Program} {T : Told} {E : Env} {w : World} {Fr : Nat → Prop} {mu : Nat → Loc} {s : St} {a : Act}
theorem low_val (H : Rep E w Fr mu s a) {lo : Option Operand} {b : Int} (h : lowB (lo.map s.get) = some b) : (lo = none ∧ b = 0) ∨ ∃ x k, lo = some x ∧ a.eval x = .int k b := by
  cases lo with
  | none => injection h with h; exact .inl ⟨rfl, h.symm⟩
  | some x =>
    have hx := (H.op x).1
    have h : lowB (some (s.get x)) = some b := h
    unfold lowB at h
    split at h
    · rename_i k n hq
      injection h with h
      injection hq with hq
      rw [hq] at hx
      exact .inr ⟨x, _, rfl, by rw [← h]; exact VR_int hx⟩
    · cases h
    · rename_i hq; cases hq
theorem high_val (H : Rep E w Fr mu s a) {hi : Option Operand} {n : Nat} {b : Int} (h : bound (hi.map s.get) n = some b) : (hi = none ∧ b = n) ∨ ∃ x k, hi = some x ∧ a.eval x = .int k b := by
  cases hi with
  | none => injection h with h; exact .inl ⟨rfl, h.symm⟩
  | some x =>
    have hx := (H.op x).1
    have h : bound (some (s.get x)) n = some b := h
    unfold bound at h
    split at h
    · rename_i k n hq
      injection h with h
      injection hq with hq
      rw [hq] at hx
      exact .inr ⟨x, _, rfl, by rw [← h]; exact VR_int hx⟩
    · cases h
    · rename_i hq; cases hq
theorem inB_true {a b n : Int} (h : inB a b n = true) : 0 ≤ a ∧ a ≤ b ∧ b ≤ n := by
  unfold inB at h
  obtain ⟨h1, h2⟩ := andB_true h
  obtain ⟨h2, h3⟩ := andB_true h2
  exact ⟨leI_true h1, leI_true h2, leI_true h3⟩
theorem run_bounds (H : Rep E w Fr mu s a) {lo hi : Option Operand} {n cap : Nat} {b h : Int} (hl : lowB (lo.map s.get) = some b) (hh : bound (hi.map s.get) n = some h) (hin : inB b h (ofN n) = true) (hc : n ≤ cap) (sl : Bool) (w' : World) :
    (Instr.sliceBounds sl n cap (lo.map a.eval) (hi.map a.eval) none).run P w' = .ok (b.toNat, h.toNat, cap) w' := by
  obtain ⟨h0, h1, h2⟩ := inB_true hin
  have h2 : h ≤ (n : Int) := h2
  have c1 : (0 ≤ h ∧ h ≤ (cap : Int)) := ⟨by omega, by omega⟩
  have c2 : (0 ≤ b ∧ b ≤ (h.toNat : Int)) := ⟨h0, by omega⟩
  have c3 : (0 ≤ b ∧ b ≤ (n : Int)) := ⟨h0, by omega⟩
  rcases low_val H hl with ⟨rfl, rfl⟩ | ⟨x, k, rfl, hx⟩ <;> rcases high_val H hh with ⟨rfl, rfl⟩ | ⟨y, j, rfl, hy⟩
  · simp [Instr.sliceBounds]
  · simp [Instr.sliceBounds, Instr.sliceBound, asIntOf, hy, c1]
  · have : ((n : Int)).toNat = n := by omega
    simp [Instr.sliceBounds, Instr.sliceBound, asIntOf, hx, c3]
  · have c4 : ¬ (max h 0 < b) := by omega
    simp [Instr.sliceBounds, Instr.sliceBound, asIntOf, hx, hy, c1, c2, c4]
theorem ex_slice {o : Oper} {t : Nat} {x : Operand} {lo hi : Option Operand} (ho : o.op = .slice t x lo hi none) {d : TypeDesc} (hu : P.underlying t = some d) (hd : ∀ n e, d ≠ .array n e) {v : Value} (h : (Instr.slice t (a.eval x) (lo.map a.eval) (hi.map a.eval) none).run P w = .ok v w) :
    (execOp a.eval o).run P w = .ok (.value v) w := by
  have h2 : (Instr.sliceAt t (a.eval x) (lo.map a.eval) (hi.map a.eval) none).run P w = .ok v w := by
    unfold Instr.sliceAt
    rw [Sem.run_bind, run_underlying hu w]
    simp only [Result.andThen_ok]
    cases d <;> first | exact h | (exact absurd rfl (hd _ _))
  unfold execOp
  simp only [ho, Option.map_none, Sem.run_bind, h2, Result.andThen_ok]; rfl
theorem rows_part {A : Type} {f : A → List Value → Prop} {n : Nat} (h : ∀ x l, f x l → l.length = n) {xs : List A} {l : List Value} (hr : rows f xs l) (i j : Nat) : rows f ((xs.drop i).take (j - i)) ((l.drop (i * n)).take ((j - i) * n)) :=
  rows_take h (rows_drop h hr i) (j - i)
theorem At.part {b o : Nat} {c : List Value} (h : At w b o c) (i n : Nat) : At w b (o + i) ((c.drop i).take n) := by
  intro k v hk
  rw [List.getElem?_take] at hk
  split at hk
  · rw [List.getElem?_drop] at hk
    have := h _ v hk
    rwa [Nat.add_assoc]
  · cases hk
theorem part_list {t e : Nat} {ti : TI} (hu : P.underlying t = some (.slice e)) (hg : Good P e ti) (H : Rep E w Fr mu s a) {lo hi : Option Operand} {b h : Int} {u : Ty} (hw : u.width = ti.siz) {l : List (den u)} {ad : Option Addr} {c : Nat} {cells : List Value} {Fr' : Nat → Prop}
    (he : u.elt = true) (hlen : l.length ≤ c) (hr : rows (fun x l => Rp w Fr' mu u x l) l cells) (hat : l = [] ∨ ∃ b o, ad = some ⟨b, o, none⟩ ∧ Fr' b ∧ At w b o cells)
    (hl : lowB (lo.map s.get) = some b) (hh : bound (hi.map s.get) (lenL u l) = some h) (hin : inB b h (ofN (lenL u l)) = true) :
    ∃ v, (∀ w' : World, (Instr.slice t (.slice ad l.length c) (lo.map a.eval) (hi.map a.eval) none).run P w' = .ok v w') ∧ VR w Fr' mu ⟨.list u, subL u l (toN b) (toN h)⟩ v := by
  have hb := run_bounds (P := P) H hl hh hin hlen true
  have hb : ∀ w' : World, (Instr.sliceBounds true l.length c (lo.map a.eval) (hi.map a.eval) none).run P w' = .ok (b.toNat, h.toNat, c) w' := hb
  obtain ⟨h0, h1, h2⟩ := inB_true hin
  have h2 : h ≤ (l.length : Int) := h2
  refine ⟨.slice (if c = b.toNat then ad else ad.map (·.add (b.toNat * ti.siz))) (h.toNat - b.toNat) (c - b.toNat), ?_, ?_⟩
  · intro w'
    simp [Instr.slice, run_underlying hu, hb w', hg.size w']
  · have hsl : (subL u l (toN b) (toN h)).length = h.toNat - b.toNat := by
      simp only [subL, toN, List.length_take, List.length_drop]; omega
    refine ⟨he, _, c - b.toNat, (cells.drop (b.toNat * u.width)).take ((h.toNat - b.toNat) * u.width), by rw [hsl], by rw [hsl]; omega, rows_part (fun x l h => Rp_len u x l (Ty.elt_cel he) h) hr _ _, ?_⟩
    by_cases hemp : subL u l (toN b) (toN h) = []
    · exact .inl hemp
    · right
      have hlt : b.toNat < h.toNat := by
        have : 0 < (subL u l (toN b) (toN h)).length := List.length_pos_iff.2 hemp
        omega
      rcases hat with rfl | ⟨blk, off, rfl, hF, hat⟩
      · simp at h2; omega
      · refine ⟨blk, off + b.toNat * u.width, ?_, hF, hat.part _ _⟩
        rw [if_neg (by omega)]
        simp [addr_add, hw]
theorem ok_slice (hT : TabOK P T.tb) (H : Rep E w Fr mu s a) {fn : Nat} {o : Oper} {t : Nat} {x : Operand} {lo hi : Option Operand} (ho : o.op = .slice t x lo hi none) {d : Dyn} {s' : St} (h : opP T fn o s = some (true, d, s')) : StepOK P E w Fr mu s a o d s' := by
  unfold opP at h
  rw [ho] at h
  dsimp only at h
  have hx := (H.op x).1
  have hxn := (H.op x).2
  split at h
  · cases h
  rename_i b hlo
  split at h
  · rename_i hti hq
    split at h
    case h_2 => cases h
    rename_i hv hhi
    injection h with h
    injection h with hb h
    injection h with h2 h3
    subst h2; subst h3
    rw [hq] at hx
    have hx := VR_str hx
    have hu := (hT _ _ hti).und
    dsimp only at hu
    refine .pure H (v := .string (subS _ (toN b) (toN hv))) (ex_slice ho hu (by simp) ?_) rfl trivial
    have hbb := run_bounds (P := P) H hlo hhi hb (Nat.le_refl _) false w
    rw [hx]
    unfold lenS at hbb
    simp [Instr.slice, run_underlying hu, hbb]
    rfl
  · rename_i e eqs siz byt zer ty u l hti hq
    split at h
    case h_2 => cases h
    rename_i ti hv hti' hhi
    split at h
    case isFalse => cases h
    rename_i hw
    injection h with h
    injection h with hb h
    injection h with h2 h3
    subst h2; subst h3
    rw [hq] at hx
    have hu := (hT _ _ hti).und
    dsimp only at hu
    obtain ⟨he, ad, c, cells, e1, hlen, hr, hat⟩ := hx
    injection e1 with e1
    obtain ⟨v, hv1, hv2⟩ := part_list hu (hT _ _ hti') H hw he hlen hr hat hlo hhi hb
    exact .pure H (ex_slice ho hu (by simp) (by rw [e1]; exact hv1 w)) hv2 trivial
  · rename_i e eqs siz byt zer ty e' _ hti hq
    split at h
    case h_2 => cases h
    rename_i hv tie hhi hte
    injection h with h
    injection h with hb h
    injection h with h2 h3
    subst h2; subst h3
    rw [hq] at hx
    injection (show [a.eval x] = [_] from hx) with hx
    have hu := (hT _ _ hti).und
    dsimp only at hu
    have hbb := run_bounds (P := P) (n := 0) (cap := 0) H hlo hhi hb (Nat.le_refl _) true w
    obtain ⟨h0, h1, h2⟩ := inB_true hb
    have h2 : hv ≤ (0 : Int) := h2
    have eb : b.toNat = 0 := by omega
    have eh : hv.toNat = 0 := by omega
    rw [eb, eh] at hbb
    refine .pure H (v := .slice none 0 0) (ex_slice ho hu (by simp) ?_) rfl trivial
    rw [hx]
    simp [Instr.slice, run_underlying hu, hbb, (hT _ _ hte).size w]
  · rename_i e eqs siz byt zer ty u i _ hti hq
    split at h
    case h_2 => cases h
    rename_i l ti hl hti'
    split at h
    case isFalse => cases h
    rename_i hw
    split at h
    case h_2 => cases h
    rename_i hv hhi
    rw [hq] at hx hxn
    injection (show [a.eval x] = [_] from hx) with hxe
    clear hx
    have hu := (hT _ _ hti).und
    dsimp only at hu
    obtain ⟨e0, f0, ho0⟩ := rowOf_some hl
    obtain ⟨he, cells, hr, hcs⟩ := row_cells (H.si.obj i _ ho0)
    split at h
    · -- the row made shorter
      split at h
      case h_2 => cases h
      split at h
      case h_2 => cases h
      rename_i e' u' f' l' hob
      split at h
      case isFalse => cases h
      rename_i hu'
      subst hu'
      injection h with h
      injection h with hb h
      injection h with h2 h3
      subst h2; subst h3
      have hob' := obj_some hob (by simp)
      rw [ho0] at hob'
      injection hob' with hob'
      injection hob' with hob1 hob2
      injection hob1 with hob3 _ _
      subst hob3
      have hb0 : b = 0 := by
        rcases low_val H hlo with ⟨_, h⟩ | ⟨x, k, h, _⟩
        · exact h
        · cases h
      subst hb0
      obtain ⟨h0, h1, h2⟩ := inB_true hb
      have h2 : hv ≤ (l.length : Int) := h2
      have hjl : i < s.heap.length := (List.getElem?_eq_some_iff.1 ho0).1
      have hsl : (subL u' l 0 (toN hv)).length = hv.toNat := by
        simp only [subL, toN, List.drop_zero, List.length_take]; omega
      have hcl : cells.length = l.length * u'.width := rows_len (fun x l h => Rp_len u' x l (Ty.elt_cel he) h) hr
      have hrp : rows (fun x l => Rp w Fr mu u' x l) (subL u' l 0 (toN hv)) (cells.take (hv.toNat * u'.width)) := by
        have := rows_take (fun x l h => Rp_len u' x l (Ty.elt_cel he) h) hr hv.toNat
        simpa [subL, toN] using this
      -- the slice then
      have hnew : ∃ L : Loc, (Instr.slice t (mu i).hdr ((none : Option Operand).map a.eval) (hi.map a.eval) none).run P w = .ok L.hdr w ∧ L.hdr.oneCell' = true ∧ RowAt w L e0 u'.width hv.toNat (cells.take (hv.toNat * u'.width)) ∧
          (L.hdr.ownBlock = some L.loc → occ mu i (⟨.row e0 u' f0, l⟩ : AObj) ∧ L.loc = (mu i).loc ∧ L.loc < w.heap.size) := by
        obtain ⟨_, cells0, _, hat0⟩ := H.si.obj i _ ho0
        rcases hat0 with ⟨ad, h3, hn0, hno⟩ | ⟨hob1, hown⟩
        · have hnil : l = [] := List.eq_nil_of_length_eq_zero hn0
          subst hnil
          have hv0 : hv.toNat = 0 := by simp at h2; omega
          have hbb := run_bounds (P := P) (n := 0) (cap := 0) H hlo hhi hb (Nat.le_refl _) true w
          rw [hv0] at hbb
          rw [hv0]
          refine ⟨mu i, ?_, by rw [h3]; rfl, .inl ⟨ad, h3, rfl, hno⟩, fun hc => absurd hc hno⟩
          rw [h3]
          simp at hbb
          simp [Instr.slice, run_underlying hu, (hT _ _ hti').size w, hbb]
        rcases hcs with ⟨ad, h3, hnil⟩ | ⟨cap, cur, hh, hn, hm, hocc, hcell, hsz, htk, hat⟩
        · subst hnil
          have hv0 : hv.toNat = 0 := by simp at h2; omega
          have hbb := run_bounds (P := P) (n := 0) (cap := 0) H hlo hhi hb (Nat.le_refl _) true w
          rw [hv0] at hbb
          rw [hv0]
          refine ⟨mu i, ?_, by rw [h3]; rfl, .inr ⟨hob1, by
            have hown' : w.ownsRow 0 e0 u'.width (mu i).hdr 0 cells0 := hown
            have hc0 : cells0 = [] := List.eq_nil_of_length_eq_zero (by rw [hown'.1]; simp)
            rw [Nat.zero_mul, List.take_zero, ← hc0]
            exact hown'⟩, fun hc => ⟨hc, rfl, (H.si.own i _ ho0 hc).2.2⟩⟩
          rw [h3]
          simp at hbb
          simp [Instr.slice, run_underlying hu, (hT _ _ hti').size w, hbb]
        · have hbb := run_bounds (P := P) H hlo hhi hb hn true w
          refine ⟨⟨(mu i).loc, .slice (some ⟨(mu i).loc, 0, none⟩) hv.toNat cap⟩, ?_, rfl, .inr ⟨rfl, ?_⟩, fun _ => ⟨hocc, rfl, (Array.getElem?_eq_some_iff.1 hcell).1⟩⟩
          · rw [hh]
            have hbb : (Instr.sliceBounds true l.length cap ((none : Option Operand).map a.eval) (hi.map a.eval) none).run P w = .ok (0, hv.toNat, cap) w := hbb
            simp at hbb
            simp [Instr.slice, run_underlying hu, hbb, (hT _ _ hti').size w, addr_add]
          · refine ⟨?_, .inr ⟨(mu i).loc, cap, cur, rfl, Nat.zero_le _, hcell, by omega, hm, hsz, ?_⟩⟩
            · rw [List.length_take, hcl, Nat.min_eq_left (Nat.mul_le_mul_right _ (by omega))]
            · rw [← htk, List.take_take, Nat.min_eq_left (Nat.mul_le_mul_right _ (by omega))]
      obtain ⟨L, hr1, hr2, hr3, hr4⟩ := hnew
      have hrep := H.setObj (r := killR [i]) (w' := w) (L := L) (o := ⟨.row e0 u' false, subL u' l 0 (toN hv)⟩) ho0 (killR_T [i])
        (killR_OK H.si.hh (fun _ _ => rfl) (fun k hk hne => upd_ne (by simpa using hne))) (fun t x h => killR_okN [i] t x h) (Grow.refl _ w) hr2
        (by
          refine ⟨he, cells.take (hv.toNat * u'.width), ?_, ?_⟩
          · exact rows_mono (fun x l h => Rp_keep (fun _ => id) (fun _ _ => rfl) u' x l (u'.pure_okN (Ty.elt_pure he)) h) hrp
          · rw [upd_same, hsl]; exact hr3)
        (by
          intro hoc
          have hoc : (upd mu i L i).hdr.ownBlock = some (upd mu i L i).loc := hoc
          rw [upd_same] at hoc
          obtain ⟨h3, h4, h5⟩ := hr4 hoc
          exact ⟨h5, .inl ⟨h3, h4⟩⟩)
        (fun t x e => by cases e) (fun _ => trivial)
      refine ⟨_, L.hdr, w, Fr, _, ex_slice ho hu (by simp) (by rw [hxe]; exact hr1), .inl rfl, VR_own (by rw [upd_same]), ?_, hrep, Kept.set H.si ho0 (fun t x e => by cases e) (Grow.refl _ w) (fun _ t x e => by cases e)⟩
      show _ < _; simp [Tr.st, St.setObj]; exact hjl
    · -- a part for ever
      injection h with h
      injection h with hb h
      injection h with h2 h3
      subst h2; subst h3
      have hrl := row_list (Fr' := FrL Fr mu s.heap [i]) (fun b hb => .inl hb) (fun hoc => .inr ⟨i, _, by simp, ho0, hoc, rfl⟩) (H.si.obj i _ ho0)
      obtain ⟨_, ad, c, cells', e1, hlen, hr', hat⟩ := hrl
      injection e1 with e1
      obtain ⟨v, hv1, hv2⟩ := part_list hu (hT _ _ hti') H hw he hlen hr' hat hlo hhi hb
      exact ⟨_, v, w, _, mu, ex_slice ho hu (by simp) (by rw [hxe, e1]; exact hv1 w), .inl rfl, hv2, trivial, H.freeze [i], Kept.frz⟩
  · cases h
theorem ok_sliceQ (hT : TabOK P T.tb) (H : Rep E w Fr mu s a) {fn : Nat} {o : Oper} {t : Nat} {x : Operand} {lo hi : Option Operand} (ho : o.op = .slice t x lo hi none) (hq0 : isPart (s.get x).t = true) {d : Dyn} {s' : St} (h : opP T fn o s = some (true, d, s')) : StepQ P w Fr mu s a o d s' := by
  unfold opP at h
  rw [ho] at h
  dsimp only at h
  have hx := (H.op x).1
  split at h
  · cases h
  rename_i b hlo
  split at h
  · rename_i hti hq
    split at h
    case h_2 => cases h
    rename_i hv hhi
    injection h with h
    injection h with hb h
    injection h with h2 h3
    subst h2; subst h3
    rw [hq] at hx
    have hx := VR_str hx
    have hu := (hT _ _ hti).und
    dsimp only at hu
    refine .mk (v := .string (subS _ (toN b) (toN hv))) (fun w' => ex_slice ho hu (by simp) ?_) rfl trivial
    have hbb := run_bounds (P := P) H hlo hhi hb (Nat.le_refl _) false w'
    rw [hx]
    unfold lenS at hbb
    simp [Instr.slice, run_underlying hu, hbb]
    rfl
  · rename_i e eqs siz byt zer ty u l hti hq
    split at h
    case h_2 => cases h
    rename_i ti hv hti' hhi
    split at h
    case isFalse => cases h
    rename_i hw
    injection h with h
    injection h with hb h
    injection h with h2 h3
    subst h2; subst h3
    rw [hq] at hx
    have hu := (hT _ _ hti).und
    dsimp only at hu
    obtain ⟨he, ad, c, cells, e1, hlen, hr, hat⟩ := hx
    injection e1 with e1
    obtain ⟨v, hv1, hv2⟩ := part_list hu (hT _ _ hti') H hw he hlen hr hat hlo hhi hb
    exact .mk (fun w' => ex_slice ho hu (by simp) (by rw [e1]; exact hv1 w')) hv2 trivial
  · rename_i hq
    rw [hq] at hq0; cases hq0
  · rename_i hq
    rw [hq] at hq0; cases hq0
  · cases h
end
end Go.Abs
set_option autoImplicit false
set_option linter.unusedVariables false
namespace Go.Abs
section
variable {P : Program} {T : Told} {E : Env} {w : World} {Fr : Nat → Prop} {mu : Nat → Loc} {s : St} {a : Act}
def farBlk : Option Addr → Nat
  | some b => b.block + 1
  | none => 0
theorem new_empty (H : Rep E w Fr mu s a) {o : Oper} {e : Nat} {t : Ty} (he : t.elt = true) {ad : Option Addr} (hr : (execOp a.eval o).run P w = .ok (.value (.slice ad 0 0)) w) : StepOK P E w Fr mu s a o ⟨.own t s.heap.length, ()⟩ (s.new ⟨.row e t false, []⟩) := by
  have hne : (Value.slice ad 0 0).ownBlock ≠ some (farBlk ad) := by
    cases ad <;> simp [Value.ownBlock, farBlk]
  refine ⟨_, _, w, Fr, _, hr, .inl rfl, VR_own (by rw [upd_same]), ?_, new_row (L := ⟨farBlk ad, .slice ad 0 0⟩) H he (Grow.refl _ w) rfl (.inl ⟨ad, rfl, rfl, hne⟩) (fun h => absurd h hne) (cells := []) rfl, Kept.new H.si (Grow.refl _ w)⟩
  show _ < _; simp [St.new]
theorem ok_assign (hT : TabOK P T.tb) (H : Rep E w Fr mu s a) {fn : Nat} {o : Oper} {x : Operand} (ho : o.op = .assign x) {d : Dyn} {s' : St} (h : opP T fn o s = some (true, d, s')) : StepOK P E w Fr mu s a o d s' := by
  unfold opP at h
  rw [ho] at h
  dsimp only at h
  split at h
  · rename_i e0 _ hq
    split at h
    case h_2 => cases h
    rename_i e i hrow
    injection h with h
    injection h with _ h
    injection h with h2 h3
    subst h2; subst h3
    have hx := (H.op x).1
    rw [hq] at hx
    injection (show [a.eval x] = [_] from hx) with hx
    obtain ⟨_, _, _, _, _, he, _⟩ := rowT_ok hT hrow
    exact new_empty H he (ad := none) (by unfold execOp; simp [ho, hx])
  · unfold put1 at h
    split at h
    case isFalse => cases h
    injection h with h
    injection h with _ h
    injection h with h2 h3
    subst h2; subst h3
    exact (ok_move (.inr ho) H).ok H
theorem isZero_some {x : Option Operand} (h : isZero x = true) : ∃ k, x = some (.const (.int k 0)) := by
  unfold isZero at h
  split at h
  · rename_i k n
    exact ⟨k, by simp at h; rw [h]⟩
  · cases h
theorem ok_slice3 (hT : TabOK P T.tb) (H : Rep E w Fr mu s a) {fn : Nat} {o : Oper} {t : Nat} {x mx : Operand} {lo hi : Option Operand} (ho : o.op = .slice t x lo hi (some mx)) {d : Dyn} {s' : St} (h : opP T fn o s = some (true, d, s')) : StepOK P E w Fr mu s a o d s' := by
  unfold opP at h
  rw [ho] at h
  dsimp only at h
  split at h
  case isFalse => cases h
  rename_i hz
  simp only [Bool.and_eq_true, Option.isNone_iff_eq_none] at hz
  obtain ⟨⟨rfl, hz1⟩, hz2⟩ := hz
  obtain ⟨k1, rfl⟩ := isZero_some hz1
  obtain ⟨k2, hz3⟩ := isZero_some hz2
  injection hz3 with hz3
  subst hz3
  have hx := (H.op x).1
  have key : ∀ e i, rowT T t = some (e, i) → (∃ ad n c, a.eval x = .slice ad n c) → StepOK P E w Fr mu s a o ⟨.own i.ty s.heap.length, ()⟩ (s.new ⟨.row e i.ty false, []⟩) := by
    rintro e i hrow ⟨ad, n, c, hv⟩
    obtain ⟨hu, hg, _, _, _, he, _⟩ := rowT_ok hT hrow
    refine new_empty H he (ad := ad) ?_
    have h1 : (Instr.slice t (.slice ad n c) none (some (.int k1 0)) (some (.int k2 0))).run P w = .ok (.slice ad 0 0) w := by
      simp [Instr.slice, run_underlying hu, Instr.sliceBounds, Instr.sliceBound, asIntOf, hg.size w]
    have h2 : (Instr.sliceAt t (.slice ad n c) none (some (.int k1 0)) (some (.int k2 0))).run P w = .ok (.slice ad 0 0) w := by
      unfold Instr.sliceAt
      rw [Sem.run_bind, run_underlying hu w]
      exact h1
    have h3 : ∀ k, a.eval (.const (.int k 0)) = .int k 0 := fun _ => rfl
    unfold execOp
    simp only [ho, Option.map_none, Option.map_some, hv, h3, Sem.run_bind, h2, Result.andThen_ok]; rfl
  split at h <;> first | (cases h; done) | skip
  · rename_i e i u l hrow hq
    injection h with h
    injection h with _ h
    injection h with h2 h3
    subst h2; subst h3
    rw [hq] at hx
    obtain ⟨_, ad, c, cells, e1, _⟩ := hx
    injection e1 with e1
    exact key e i hrow ⟨_, _, _, e1⟩
  · rename_i e i e' _ hrow hq
    injection h with h
    injection h with _ h
    injection h with h2 h3
    subst h2; subst h3
    rw [hq] at hx
    injection (show [a.eval x] = [_] from hx) with hx
    exact key e i hrow ⟨_, _, _, hx⟩
  · rename_i e i u j _ hrow hq
    split at h
    case h_2 => cases h
    rename_i l hl
    injection h with h
    injection h with _ h
    injection h with h2 h3
    subst h2; subst h3
    rw [hq] at hx
    injection (show [a.eval x] = [_] from hx) with hxe
    obtain ⟨e0, f0, ho0⟩ := rowOf_some hl
    obtain ⟨he, cells, hr, hcs⟩ := row_cells (H.si.obj j _ ho0)
    rcases hcs with ⟨ad, h0, hnil⟩ | ⟨cap, cur, hh, _⟩
    · exact key e i hrow ⟨_, _, _, hxe.trans h0⟩
    · exact key e i hrow ⟨_, _, _, hxe.trans hh⟩
theorem ok_move' (H : Rep E w Fr mu s a) {fn : Nat} {o : Oper} {x : Operand} (ho : o.op = .move x) {d : Dyn} {s' : St} (h : opP T fn o s = some (true, d, s')) : StepQ P w Fr mu s a o d s' := by
  unfold opP at h
  rw [ho] at h
  dsimp only at h
  unfold put1 at h
  split at h
  case isFalse => cases h
  injection h with h
  injection h with _ h
  injection h with h2 h3
  subst h2; subst h3
  exact ok_move (.inl ho) H
theorem findNow_int (n : Int) : ∀ (es : List MapEntry) (k : Nat), (∀ x ∈ es, ∃ i : Int, x.key = .int .i64 i) → ∃ r, Instr.findNow (.int .i64) (.int .i64 n) es k = some r ∧ ((r = none ∧ ∀ x ∈ es, x.key ≠ .int .i64 n) ∨ ∃ j x, r = some (j, x.val) ∧ x ∈ es ∧ x.key = .int .i64 n)
  | [], k, _ => ⟨none, rfl, .inl ⟨rfl, fun _ h => (by cases h)⟩⟩
  | e :: es, k, h => by
    obtain ⟨i, hi⟩ := h e List.mem_cons_self
    unfold Instr.findNow
    have hs : Instr.sameNow (.int .i64) (.int .i64 n) e.key = some (n == i) := by rw [hi]; simp [Instr.sameNow]
    rw [hs]
    by_cases q : n = i
    · subst q
      rw [show (n == n) = true by simp]
      exact ⟨_, rfl, .inr ⟨k, e, rfl, List.mem_cons_self, hi⟩⟩
    · rw [show (n == i) = false by simpa using q]
      obtain ⟨r, h1, h2⟩ := findNow_int n es (k + 1) fun x hx => h x (List.mem_cons_of_mem _ hx)
      refine ⟨r, h1, h2.imp ?_ ?_⟩
      · rintro ⟨e1, e2⟩
        refine ⟨e1, fun x hx => ?_⟩
        rcases List.mem_cons.1 hx with rfl | hx
        · rw [hi]; intro e3; injection e3 with _ e3; exact q e3.symm
        · exact e2 x hx
      · rintro ⟨j, x, e1, e2, e3⟩
        exact ⟨j, x, e1, List.mem_cons_of_mem _ e2, e3⟩
theorem ok_lookup (hT : TabOK P T.tb) (H : Rep E w Fr mu s a) {fn : Nat} {o : Oper} {t : Nat} {x y : Operand} {c : Bool} (ho : o.op = .lookup t x y c) {d : Dyn} {s' : St} (h : opP T fn o s = some (true, d, s')) : StepL P w Fr mu s a o d s' := by
  unfold opP at h
  rw [ho] at h
  dsimp only at h
  have hx := (H.op x).1
  have hy := (H.op y).1
  split at h
  case h_2 => cases h
  rename_i k e _ _ _ _ _ u m n htt hqx hqy
  change Int at n
  rw [hqy] at hy
  have hy := VR_int hy
  split at h
  case h_2 => cases h
  rename_i e2 _ _ _ z _ hk he
  split at h
  case isFalse => cases h
  rename_i hz
  injection h with h
  injection h with _ h
  injection h with h2 h3
  subst h2; subst h3
  have hu := (hT _ _ htt).und
  have hku := (hT _ _ hk).und
  dsimp only at hu hku
  obtain ⟨i, hi, hsz, hby, hzz⟩ := (hT _ _ he).info
  have hal : z.t.alive = true := by
    obtain ⟨zt, zx⟩ := z
    cases zt <;> first | rfl | cases hz
  obtain ⟨zv, hz1, hz2, _, hz3⟩ := hzz hal
  have hzv : zv = .slice none 0 0 := by
    have := hz3 w Fr mu
    obtain ⟨zt, zx⟩ := z
    cases zt <;> first | (cases hz; done) | skip
    injection (show [zv] = [_] from this)
  subst hzv
  rw [hqx] at hx
  obtain ⟨hel, b, es, ck, e1, hF, hh, m1, m2, m3⟩ := hx
  injection e1 with e1
  obtain ⟨r, hr1, hr2⟩ := findNow_int n es.toList 0 fun x hx => by obtain ⟨i, e, _⟩ := m1 x hx; exact ⟨i, e⟩
  have hrun : ∀ w' : World, (∀ b, Safe Fr mu s.heap b → w'.heap[b]? = w.heap[b]?) → (Instr.lookup t (.map (some b)) (.int .i64 n) false).run P w' = .ok ((r.map (·.2)).getD (.slice none 0 0)) w' := by
    intro w' hs
    have hb : w'.heap[b]? = some (.map es ck) := (hs b (.inl hF)).trans hh
    have hz' : (zeroValue e).run P w' = .ok (.slice none 0 0) w' := by simp [zeroValue, typeInfo, hi, hz1]
    have hck : (Instr.checkKey es.isEmpty 10000 k (.int .i64 n)).run P w' = .ok () w' := MapKept.run_checkKey hku (by rfl) _ 9999
    have hfk : (Instr.findKey k (.int .i64 n) es.toList).run P w' = .ok r w' := MapKept.run_findKey hku hr1
    cases r with
    | none => simp [Instr.lookup, run_underlying hu, MapKept.run_getObj_map hb, hck, hfk, hz', Result.andThen]
    | some p => simp [Instr.lookup, run_underlying hu, MapKept.run_getObj_map hb, hck, hfk, Result.andThen]
  refine .mk (v := (r.map (·.2)).getD (.slice none 0 0)) (fun w' hs => ?_) ?_ trivial
  · have := hrun w' hs
    unfold execOp
    simp only [ho, hy, e1, Sem.run_bind, this, Result.andThen_ok]
    rfl
  · show Rp w Fr mu (.list u) (m n) [_]
    rcases hr2 with ⟨rfl, hn⟩ | ⟨j, x, rfl, hx1, hx2⟩
    · have e0 : (m n : List (den u)) = [] := m3 n hn
      generalize (m n : List (den u)) = xs at e0 ⊢
      subst e0
      exact ⟨hel, none, 0, [], rfl, Nat.le_refl _, rfl, .inl rfl⟩
    · obtain ⟨i', e3, a', c', cells, e4, hc', hr', hat'⟩ := m1 x hx1
      rw [hx2] at e3
      injection e3 with _ e3
      subst e3
      exact ⟨hel, a', c', cells, by show [x.val] = _; rw [e4], hc', hr', hat'⟩
theorem opP_ok (hT : TabOK P T.tb) (H : Rep E w Fr mu s a) {fn : Nat} {o : Oper} {d : Dyn} {s' : St} (h : opP T fn o s = some (true, d, s')) : StepOK P E w Fr mu s a o d s' := by
  have h0 := h
  cases ho : o.op
  case move x => exact (ok_move' H ho h).ok H
  case assign x => exact ok_assign hT H ho h
  case alloc t => exact ok_alloc hT H ho h
  case box t x => exact ok_box H ho h
  case build t ps => exact (ok_build hT H ho h).ok H
  case buildSlice t n ps => exact ok_buildSlice hT H ho h
  case load t x => exact ok_load hT H ho h
  case store t x y => exact ok_store hT H ho h
  case nilCheck x => exact (ok_nilCheck H ho h).ok H
  case binOp op xt x y yt => exact (ok_binOp hT H ho h).ok H
  case unOp op xt x => exact (ok_unOp H ho h).ok H
  case convert src dst x => exact (ok_convert hT H ho h).ok H
  case fieldAddr t x f => exact (ok_fieldAddr hT H ho h).ok H
  case field t x f => exact (ok_field hT H ho h).ok H
  case indexAddr t x y => exact (ok_indexAddr hT H ho h).ok H
  case index t x y => exact (ok_index hT H ho h).ok H
  case lookup t x y c => exact (ok_lookup hT H ho h).ok H
  case makeSlice t x y => exact ok_makeSlice hT H ho h
  case extract x i => exact (ok_extract H ho h).ok H
  case slice t x lo hi mx =>
    cases mx with
    | none => exact ok_slice hT H ho h
    | some mx => exact ok_slice3 hT H ho h
  case makeFunc f first cap =>
    cases f with
    | func f => exact (ok_makeFunc H ho h).ok H
    | _ => unfold opP at h; rw [ho] at h; cases h
  case call c =>
    obtain ⟨callee, args, ats⟩ := c
    unfold opP at h
    rw [ho] at h
    dsimp only at h
    cases callee with
    | builtin b =>
      dsimp only at h
      cases b <;> first
        | exact (ok_len hT H ho h).ok H
        | exact ok_minmax H (.inl rfl) ho h
        | exact ok_minmax H (.inr rfl) ho h
        | exact ok_append hT H ho h
        | (exfalso; unfold builtinP at h; revert h; generalize args.toList.map s.get = l1; generalize ats.toList = l2; intro h; rcases l1 with _ | ⟨p, _ | ⟨q, l⟩⟩ <;> rcases l2 with _ | ⟨t, _ | ⟨u, _ | _⟩⟩ <;> cases h)
    | _ => cases h
  all_goals (unfold opP at h; rw [ho] at h; cases h)
end
end Go.Abs
set_option autoImplicit false
set_option linter.unusedVariables false
namespace Go.Abs
structure Pre (w : World) (Fr : Nat → Prop) (mu : Nat → Loc) (objs : List AObj) (args : List Dyn) (vs : List Value) : Prop where
  so : SO w Fr mu objs
  frL : ∀ b, Fr b → b < w.heap.size
  len : args.length = vs.length
  val : ∀ (i : Nat) (d : Dyn) (v : Value), args[i]? = some d → vs[i]? = some v → VR w Fr mu d v ∧ d.t.okN (· < objs.length)
  gl : Gl w Fr
def env (w : World) (Fr : Nat → Prop) (mu : Nat → Loc) (objs : List AObj) : Env := ⟨w, Fr, Mine mu objs, mu, objs.length, []⟩
structure Post (w : World) (Fr : Nat → Prop) (mu : Nat → Loc) (objs : List AObj) (d : Dyn) (os : List AObj) (v : Value) (w' : World) (Fr' : Nat → Prop) (mu' : Nat → Loc) : Prop where
  si : SI (env w Fr mu objs) w' Fr' mu' os
  val : VR w' Fr' mu' d v
  ok : d.t.okN (· < os.length)
def Enters (P : Program) (f : Nat) : Prop := ∃ fn, P.funcs[f]? = some fn ∧ fn.body.isSome = true ∧ fn.name ≠ "runtime.NumGoroutine"
structure Side (Fr Z : Nat → Prop) (w : World) (Fr' Z' : Nat → Prop) (w' : World) : Prop where
  grow : Grow Z w w'
  fr : ∀ b, Fr b → Fr' b
  frN : ∀ b, Fr' b → Fr b ∨ Z b ∨ w.heap.size ≤ b
  zN : ∀ b, Z' b → Z b ∨ w.heap.size ≤ b
  apart : ∀ b, Z' b → ¬ Fr' b
  lt : ∀ b, Fr' b ∨ Z' b → b < w'.heap.size
def Abides {R : Type} (G : (Nat → Prop) → (Nat → Prop) → R → World → Prop) : Prop := ∀ (Fr Z : Nat → Prop) (r : R) (w : World) (Fr' Z' : Nat → Prop) (w' : World), G Fr Z r w → Side Fr Z w Fr' Z' w' → G Fr' Z' r w'
def yv (l : Nat) : Value := .func (.yield l) #[] #[]
abbrev Left (Fr Z : Nat → Prop) (w w' : World) : Prop := Grow (fun b => ¬ (Fr b ∨ Z b)) w w'
def Rounds (P : Program) (F : Fence) (m l : Nat) (el : Ty) (J : (Nat → Prop) → (Nat → Prop) → List (den el) → World → Prop) (Jx : (Nat → Prop) → (Nat → Prop) → Unit → World → Prop) : Prop :=
  ∀ (Fr Z : Nat → Prop) (x : den el) (rest : List (den el)) (w : World) (mu : Nat → Loc) (ds : List Dyn) (vs : List Value), J Fr Z (x :: rest) w → capD el x = some ds → ds.length = vs.length →
    (∀ (i : Nat) (d : Dyn) (v : Value), ds[i]? = some d → vs[i]? = some v → VR w Fr mu d v) →
    YieldAt F m P l vs.toArray w fun e w' => Left Fr Z w w' ∧ ((e = .returned (.bool true) ∧ J Fr Z rest w') ∨ (e = .returned (.bool false) ∧ Jx Fr Z () w'))
def Gives (P : Program) (f l : Nat) (el : Ty) (xs : List (den el)) (w : World) (Fr : Nat → Prop) (vs : List Value) : Prop :=
  ∀ (J : (Nat → Prop) → (Nat → Prop) → List (den el) → World → Prop) (Jx : (Nat → Prop) → (Nat → Prop) → Unit → World → Prop), Abides J → Abides Jx → Rounds P Fence.wide 0 l el J Jx → J Fr (fun _ => False) xs w →
    Calls P f vs.toArray w fun e w' => (∃ v, e = .returned v) ∧ ∃ Fr' Z', J Fr' Z' [] w' ∨ Jx Fr' Z' () w'
structure Sound (P : Program) (C : AbsFn) : Prop where
  call : ∀ (f : Nat) (args : List Dyn) (objs : List AObj) (rt : Ty) (ots : List OTy) (r : denR rt ots), isIt objs = false → C f args objs rt ots = some r → Enters P f ∧
    ∀ (w : World) (Fr : Nat → Prop) (mu : Nat → Loc) (vs : List Value), Pre w Fr mu objs args vs →
      Calls P f vs.toArray w fun e w' => ∃ v Fr' mu', e = .returned v ∧ Post w Fr mu objs ⟨rt, resT rt ots r⟩ (resO rt ots r) v w' Fr' mu'
  seq : ∀ (f : Nat) (args : List Dyn) (el : Ty) (xs : List (den el)), C f args [heldO] (.list el) [] = some xs → Enters P f ∧
    ∀ (w : World) (Fr : Nat → Prop) (mu : Nat → Loc) (vs : List Value) (l : Nat), Pre w Fr mu [heldO] args vs → (mu 0).hdr = yv l → Gives P f l el xs w Fr vs
theorem Rp_free {w : World} {Fr Fr' : Nat → Prop} {mu : Nat → Loc} : ∀ (t : Ty) (x : den t) (l : List Value), t.bears = false → Rp w Fr mu t x l → Rp w Fr' mu t x l
  | .list _, _, _, hb, _ => by cases hb
  | .eptr _ _, _, _, hb, _ => by cases hb
  | .mp _, _, _, hb, _ => by cases hb
  | .arr n t, xs, l, hb, h => ⟨h.1, h.2.1, rows_mono (fun x l h => Rp_free t x l hb h) h.2.2⟩
  | .fn f c, x, l, hb, h => by obtain ⟨vs, e, hr⟩ := h; exact ⟨vs, e, Rp_free c x vs hb hr⟩
  | .pair a b, x, l, hb, h => by
    simp only [Ty.bears, Bool.or_eq_false_iff] at hb
    obtain ⟨l1, l2, e, h1, h2⟩ := h
    exact ⟨l1, l2, e, Rp_free a _ _ hb.1 h1, Rp_free b _ _ hb.2 h2⟩
  | .tcons a b, x, l, hb, h => by
    simp only [Ty.bears, Bool.or_eq_false_iff] at hb
    obtain ⟨v, vs, e, h1, h2⟩ := h
    refine ⟨v, vs, e, ?_, Rp_free b _ _ hb.2 h2⟩
    revert h1
    cases a.vk with
    | dead => exact id
    | agg => rintro ⟨hc, cs, e, h⟩; exact ⟨hc, cs, e, Rp_free a _ _ hb.1 h⟩
    | tup => exact id
    | one => exact fun h => Rp_free a _ _ hb.1 h
  | .dead, _, _, _, h => h | .nil _, _, _, _, h => h | .nilptr, _, _, _, h => h | .nilfn, _, _, _, h => h | .bool, _, _, _, h => h | .int _, _, _, _, h => h | .str, _, _, _, h => h
  | .own _ _, _, _, _, h => h | .ptr _ _, _, _, _, h => h | .rptr _ _ _, _, _, _, h => h | .aptr _ _ _ _ _, _, _, _, h => h | .unit, _, _, _, h => h | .tnil, _, _, _, h => h
theorem VR_free {w : World} {Fr Fr' : Nat → Prop} {mu : Nat → Loc} {d : Dyn} {v : Value} (hb : d.t.bears = false) (h : VR w Fr mu d v) : VR w Fr' mu d v := by
  unfold VR at *
  split at h
  · trivial
  · obtain ⟨hc, cs, e, h⟩ := h; exact ⟨hc, cs, e, Rp_free _ _ _ hb h⟩
  · obtain ⟨cs, e, h⟩ := h; exact ⟨cs, e, Rp_free _ _ _ hb h⟩
  · exact Rp_free _ _ _ hb h
theorem OR_free {w : World} {Fr Fr' : Nat → Prop} {mu : Nat → Loc} {i : Nat} {o : AObj} (hb : o.t.bears = false) (h : OR w Fr mu i o) : OR w Fr' mu i o := by
  obtain ⟨t, x⟩ := o
  cases t with
  | gone => trivial
  | held => trivial
  | box t => obtain ⟨hc, cells, e, h1, h2⟩ := h; exact ⟨hc, cells, e, h1, Rp_free t x cells hb h2⟩
  | row e t f => obtain ⟨he, cells, h1, h2⟩ := h; exact ⟨he, cells, rows_mono (fun x l h => Rp_free t x l hb h) h1, h2⟩
theorem objsOf_types : ∀ (ts : List OTy) (x : denOs ts), (objsOf ts x).map (·.t) = ts
  | [], _ => rfl
  | t :: ts, x => by show t :: (objsOf ts x.2).map (·.t) = _; rw [objsOf_types ts x.2]
theorem resO_types (t : Ty) (ots : List OTy) (r : denR t ots) : (resO t ots r).map (·.t) = ots := by
  cases ots with
  | nil => rfl
  | cons o os => exact objsOf_types (o :: os) r.2
section
variable {P : Program} {T : Told} {C : AbsFn} {E : Env} {w : World} {Fr : Nat → Prop} {mu : Nat → Loc} {s : St} {a : Act}
theorem handArgs_ok (H : Rep E w Fr mu s a) : ∀ (ps : List (Option Ty)) (ds as : List Dyn) (vs : List Value) (ids : List Nat), handArgs s ps ds = some as → ds.length = vs.length →
    (∀ (i : Nat) (d : Dyn) (v : Value), ds[i]? = some d → vs[i]? = some v → VR w Fr mu d v ∧ d.t.okN (· < s.heap.length)) → (∀ i ∈ readIds ps ds ids, i ∈ readIds ps ds ids) →
    as.length = vs.length ∧ ∀ (i : Nat) (d : Dyn) (v : Value), as[i]? = some d → vs[i]? = some v → VR w (FrL Fr mu s.heap (readIds ps ds ids)) mu d v
  | some t :: ps, d :: ds, as, [], ids, h, hl, hv, hs => by simp at hl
  | none :: ps, d :: ds, as, [], ids, h, hl, hv, hs => by simp at hl
  | some t :: ps, d :: ds, as, v :: vs, ids, h, hl, hv, hs => by
    unfold handArgs at h
    split at h
    case h_2 => cases h
    rename_i r hr
    split at h
    case h_2 => cases h
    rename_i x hx
    split at h
    case isFalse => cases h
    injection h with h
    subst h
    obtain ⟨h1, h2⟩ := handArgs_ok H ps ds r vs (ownsT d.t ids) hr (by simpa using hl) (fun i d v hd hv' => hv (i + 1) d v (by simpa using hd) (by simpa using hv')) (fun _ => id)
    refine ⟨by simp [h1], fun i d' v' hd hv' => ?_⟩
    cases i with
    | zero =>
      simp at hd hv'
      subst hd; subst hv'
      obtain ⟨h3, h4⟩ := hv 0 d v rfl rfl
      have hmono : ∀ (ps : List (Option Ty)) (ds : List Dyn) (l : List Nat) (i : Nat), i ∈ l → i ∈ readIds ps ds l := by
        intro ps
        induction ps with
        | nil => intro ds l i hi; cases ds <;> exact hi
        | cons p ps ih =>
          intro ds l i hi
          cases ds with
          | nil => cases p <;> exact hi
          | cons d ds => cases p with
            | none => exact ih ds l i hi
            | some t => exact ih ds _ i (ownsT_mono d.t l i hi)
      have := coe_VR (u := t) (Fr' := FrL Fr mu s.heap (readIds ps ds (ownsT d.t ids))) (q := fun i => i ∈ ownsT d.t ids) H.si (fun b hb => .inl hb)
        (fun i o hi ho hoc => .inr ⟨i, o, hmono ps ds _ i hi, ho, hoc, rfl⟩) (ownsT_ok d.t ids (fun _ => id)) h3
      rw [as_some hx] at this
      exact this
    | succ i => exact h2 i d' v' (by simpa using hd) (by simpa using hv')
  | none :: ps, d :: ds, as, v :: vs, ids, h, hl, hv, hs => by
    unfold handArgs at h
    split at h
    case h_2 => cases h
    rename_i r hr
    split at h
    case isFalse => cases h
    injection h with h
    subst h
    obtain ⟨h1, h2⟩ := handArgs_ok H ps ds r vs ids hr (by simpa using hl) (fun i d v hd hv' => hv (i + 1) d v (by simpa using hd) (by simpa using hv')) (fun _ => id)
    refine ⟨by simp [h1], fun i d' v' hd hv' => ?_⟩
    cases i with
    | zero =>
      simp at hd hv'
      subst hd; subst hv'
      exact VR_keep (fun b hb => .inl hb) (fun _ _ => rfl) (Ty.okN_all (fun _ => rfl) _) (hv 0 d v rfl rfl).1
    | succ i => exact h2 i d' v' (by simpa using hd) (by simpa using hv')
  | [], ds, as, vs, ids, h, hl, hv, hs => by
    have h : (if ds.all (·.t.alive) then some ds else none) = some as := by cases ds <;> exact h
    split at h
    case isFalse => cases h
    injection h with h
    subst h
    exact ⟨hl, fun i d v hd hv' => VR_keep (fun b hb => .inl hb) (fun _ _ => rfl) (Ty.okN_all (fun _ => rfl) _) (hv i d v hd hv').1⟩
  | some _ :: _, [], as, vs, ids, h, _, _, _ => by cases h
  | none :: _, [], as, vs, ids, h, _, _, _ => by cases h
theorem posN_getD : ∀ {l : List Nat} {j : Nat}, l.Nodup → j < l.length → posN (l.getD j 0) l = j
  | i :: l, 0, _, _ => by simp [posN]
  | i :: l, j + 1, h, hj => by
    simp only [List.nodup_cons] at h
    have hj' : j < l.length := by simpa using hj
    have hm : l.getD j 0 ∈ l := by
      rw [List.getD_eq_getElem?_getD, List.getElem?_eq_getElem hj']; simp
    have hne : l.getD j 0 ≠ i := fun e => h.1 (e ▸ hm)
    show posN (l.getD j 0) (i :: l) = j + 1
    unfold posN
    rw [if_neg hne, posN_getD h.2 hj']
theorem layBack_get : ∀ (ids : List Nat) (os h : List AObj), ids.Nodup → (∀ i ∈ ids, i < h.length) → ids.length ≤ os.length →
    (layBack ids os h).length = h.length + (os.length - ids.length) ∧ ∀ i : Nat, (layBack ids os h)[i]? = if i < h.length then (if i ∈ ids then (os[posN i ids]?).map (fun o => (h.getD i gone).back o) else h[i]?) else os[i - h.length + ids.length]?
  | [], os, h, _, _, _ => by
    refine ⟨by simp [layBack], fun i => ?_⟩
    have e : layBack [] os h = h ++ os := by cases os <;> rfl
    rw [e]
    by_cases hi : i < h.length
    · rw [if_pos hi, List.getElem?_append_left hi]; simp
    · rw [if_neg hi, List.getElem?_append_right (by omega)]; simp
  | k :: ids, [], h, _, _, hl => by simp at hl
  | k :: ids, o :: os, h, hn, hb, hl => by
    simp only [List.nodup_cons] at hn
    have hkl : k < h.length := hb k (by simp)
    obtain ⟨h1, h2⟩ := layBack_get ids os (h.set k ((h.getD k gone).back o)) hn.2 (fun i hi => by simpa using hb i (List.mem_cons_of_mem _ hi)) (by simpa using hl)
    refine ⟨by show (layBack ids os _).length = _; rw [h1]; simp, fun i => ?_⟩
    show (layBack ids os (h.set k ((h.getD k gone).back o)))[i]? = _
    rw [h2 i, List.length_set]
    by_cases hi : i < h.length
    · rw [if_pos hi, if_pos hi]
      by_cases hk : i = k
      · subst hk
        rw [if_neg hn.1, if_pos (by simp), List.getElem?_set_self hkl]
        simp [posN]
      · have hmem : (i ∈ k :: ids) ↔ i ∈ ids := by simp [hk]
        by_cases hm : i ∈ ids
        · rw [if_pos hm, if_pos (hmem.2 hm)]
          have e1 : posN i (k :: ids) = posN i ids + 1 := by show (if i = k then 0 else posN i ids + 1) = _; rw [if_neg hk]
          have e2 : (h.set k ((h.getD k gone).back o)).getD i gone = h.getD i gone := by
            rw [List.getD_eq_getElem?_getD, List.getElem?_set_ne (fun e => hk e.symm), ← List.getD_eq_getElem?_getD]
          rw [e1, e2]; rfl
        · rw [if_neg hm, if_neg (fun h => hm (hmem.1 h)), List.getElem?_set_ne (fun e => hk e.symm)]
    · rw [if_neg hi, if_neg hi]
      have : i - h.length + (k :: ids).length = (i - h.length + ids.length) + 1 := by simp; omega
      rw [this]; rfl
theorem OR_back {w : World} {Fr : Nat → Prop} {mu : Nat → Loc} {i : Nat} {was o : AObj} (h : OR w Fr mu i o) : OR w Fr mu i (was.back o) := by
  obtain ⟨t, x⟩ := was
  obtain ⟨t', x'⟩ := o
  cases t <;> cases t' <;> first | exact h | exact trivial
theorem box_back {t : Ty} {x : den t} {was o : AObj} (h : (⟨.box t, x⟩ : AObj) = was.back o) : o = ⟨.box t, x⟩ := by
  obtain ⟨t1, x1⟩ := was
  obtain ⟨t', x'⟩ := o
  cases t1 <;> cases t' <;> first | exact h.symm | (injection (show (⟨.box t, x⟩ : AObj) = ⟨_, _⟩ from h) with e1 e2; cases e1)
theorem box_obj {r : Tr} {t : Ty} {x : den t} {o : AObj} (h : (⟨.box t, x⟩ : AObj) = r.obj o) : ∃ (t0 : Ty) (x0 : den t0), o = ⟨.box t0, x0⟩ ∧ t = (r.app t0 x0).t := by
  obtain ⟨t0, x0⟩ := o
  cases t0 with
  | box t0 =>
    have e' : (⟨.box t, x⟩ : AObj) = ⟨.box (r.app t0 x0).t, (r.app t0 x0).x⟩ := h
    injection e' with e1 e2
    injection e1 with e1
    exact ⟨t0, x0, rfl, e1⟩
  | row _ _ _ => injection (show (⟨.box t, x⟩ : AObj) = ⟨_, _⟩ from h) with e1 e2; cases e1
  | gone => injection (show (⟨.box t, x⟩ : AObj) = ⟨_, _⟩ from h) with e1 e2; cases e1
  | held => injection (show (⟨.box t, x⟩ : AObj) = ⟨_, _⟩ from h) with e1 e2; cases e1
theorem call_back {FrB Fr2 FrC FrR : Nat → Prop} {muR : Nat → Loc} {s0 : St} (H0 : Rep E w FrB mu s0 a) {ids : List Nat} {objsC os0 : List AObj} {d : Dyn} {v : Value} {w' : World}
    (hlt : ∀ i ∈ ids, i < s0.heap.length) (hnd : ids.Nodup) (hlen : objsC.length = ids.length) (post : Post w FrC (muOf mu ids) objsC d os0 v w' FrR muR) {ts : List OTy} (hts : os0.map (·.t) = ts)
    (Q1 : ∀ (j : Nat) (o : AObj), objsC[j]? = some o → occ (muOf mu ids) j o → ∃ o0, s0.heap[ids.getD j 0]? = some o0 ∧ occ mu (ids.getD j 0) o0)
    (F1 : ∀ b, FrB b → Fr2 b) (F2 : ∀ b, Fr2 b → FrB b ∨ Mine (muOf mu ids) objsC b ∨ w.heap.size ≤ b) (F3 : ∀ b, Fr2 b → FrR b)
    (F4 : ∀ (j : Nat) (o : AObj), os0[j]? = some o → OR w' FrR muR j o → OR w' Fr2 muR j o) (F5 : VR w' FrR muR d v → VR w' Fr2 muR d v)
    (hbx : ∀ i ∈ ids, ∀ (t : Ty) (x : den t), s0.heap[i]? = some (⟨.box t, x⟩ : AObj) → ∃ (t' : Ty) (x' : den t'), os0[posN i ids]? = some (⟨.box t', x'⟩ : AObj)) :
    ∃ mu2, VR w' Fr2 mu2 ((renR fun i => if i < ids.length then ids.getD i 0 else s0.heap.length + (i - ids.length)).dyn d) v ∧
      ((renR fun i => if i < ids.length then ids.getD i 0 else s0.heap.length + (i - ids.length)).dyn d).t.okN (· < (layBack ids (os0.map (renR fun i => if i < ids.length then ids.getD i 0 else s0.heap.length + (i - ids.length)).obj) ((killR (turned ids ts)).st s0).heap).length) ∧
      Rep E w' Fr2 mu2 ⟨((killR (turned ids ts)).st s0).tmps, layBack ids (os0.map (renR fun i => if i < ids.length then ids.getD i 0 else s0.heap.length + (i - ids.length)).obj) ((killR (turned ids ts)).st s0).heap⟩ a ∧
      (∀ b, Safe FrB mu s0.heap b → Safe Fr2 mu2 (layBack ids (os0.map (renR fun i => if i < ids.length then ids.getD i 0 else s0.heap.length + (i - ids.length)).obj) ((killR (turned ids ts)).st s0).heap) b) := by
  generalize hn : s0.heap.length = n at *
  have hm : ids.length ≤ os0.length := by have := post.si.len; show _ ≤ _; simpa [env, hlen] using this
  let bk : Nat → Nat := fun i => if i < ids.length then ids.getD i 0 else n + (i - ids.length)
  let mu2 : Nat → Loc := fun i => if i < n then (if i ∈ ids then muR (posN i ids) else mu i) else muR (i - n + ids.length)
  have hmb : ∀ j, mu2 (bk j) = muR j := by
    intro j
    by_cases hj : j < ids.length
    · have hmem : ids.getD j 0 ∈ ids := by rw [List.getD_eq_getElem?_getD, List.getElem?_eq_getElem hj]; simp
      have e : bk j = ids.getD j 0 := if_pos hj
      show (if bk j < n then (if bk j ∈ ids then muR (posN (bk j) ids) else mu (bk j)) else muR (bk j - n + ids.length)) = _
      rw [e, if_pos (hlt _ hmem), if_pos hmem, posN_getD hnd hj]
    · have e : bk j = n + (j - ids.length) := if_neg hj
      show (if bk j < n then (if bk j ∈ ids then muR (posN (bk j) ids) else mu (bk j)) else muR (bk j - n + ids.length)) = _
      rw [e, if_neg (by omega)]
      congr 1; omega
  have hbl : ∀ j, j < os0.length → bk j < n + (os0.length - ids.length) := by
    intro j hj
    show (if j < ids.length then ids.getD j 0 else n + (j - ids.length)) < _
    by_cases hj' : j < ids.length
    · have hmem : ids.getD j 0 ∈ ids := by rw [List.getD_eq_getElem?_getD, List.getElem?_eq_getElem hj']; simp
      rw [if_pos hj']; have := hlt _ hmem; omega
    · rw [if_neg hj']; omega
  have hbT : TrOK w' Fr2 muR w' Fr2 mu2 (renR bk) (· < os0.length) := renR_OK fun j _ => hmb j
  -- memory
  have hMine : ∀ b, Mine (muOf mu ids) objsC b → Mine mu s0.heap b := by
    rintro b ⟨j, o, hj, ho, e⟩
    obtain ⟨o0, h0, hoc⟩ := Q1 j o hj ho
    exact ⟨ids.getD j 0, o0, h0, hoc, e⟩
  have hgrow : Grow (Mine mu s0.heap) w w' := ⟨post.si.grow.os, post.si.grow.tape, post.si.grow.output, post.si.grow.size, fun k hk hn => post.si.grow.block k hk (fun h => hn (hMine k h))⟩
  have hfr : ∀ b, FrB b → w'.heap[b]? = w.heap[b]? := fun b hb => H0.si.frKeep hgrow b hb
  -- names of rows that were turned
  have hkeep : ∀ i, i < n → i ∉ turned ids ts → mu2 i = mu i := by
    intro i hi hnt
    show (if i < n then (if i ∈ ids then _ else _) else _) = _
    rw [if_pos hi]
    by_cases hid : i ∈ ids
    · rw [if_pos hid]
      obtain ⟨hp1, hp2⟩ := posN_get hid
      have hturn : ∀ (l : List Nat) (os : List OTy), i ∈ l → i ∉ turned l os → l.Nodup → l.length ≤ os.length → (∃ e t, os[posN i l]? = some (.row e t true)) ∨ ∃ t, os[posN i l]? = some (.box t) := by
        intro l
        induction l with
        | nil => intro os h; cases h
        | cons k l ih =>
          intro os hmem hnot hnd hle
          cases os with
          | nil => simp at hle
          | cons o os =>
            simp only [List.nodup_cons] at hnd
            by_cases hk : i = k
            · subst hk
              have e : posN i (i :: l) = 0 := by simp [posN]
              rw [e]
              cases o with
              | row e t f => cases f with
                | true => exact .inl ⟨e, t, rfl⟩
                | false => exact absurd (by simp [turned]) hnot
              | box t => exact .inr ⟨t, rfl⟩
              | gone => exact absurd (by simp [turned]) hnot
              | held => exact absurd (by simp [turned]) hnot
            · have e : posN i (k :: l) = posN i l + 1 := by show (if i = k then 0 else _) = _; rw [if_neg hk]
              rw [e]
              have hmem' : i ∈ l := (List.mem_cons.1 hmem).resolve_left hk
              have hnot' : i ∉ turned l os := by
                intro hh
                apply hnot
                cases o with
                | row e t f => cases f with
                  | true => exact hh
                  | false => exact List.mem_cons_of_mem _ hh
                | box t => exact hh
                | gone => exact List.mem_cons_of_mem _ hh
                | held => exact List.mem_cons_of_mem _ hh
              exact ih os hmem' hnot' hnd.2 (by simpa using hle)
      have hlts : ids.length ≤ ts.length := by rw [← hts]; simpa using hm
      have hget := hturn ids ts hid hnt hnd hlts
      rw [← hts, List.getElem?_map] at hget
      have hjo : posN i ids < os0.length := by omega
      rw [List.getElem?_eq_getElem hjo] at hget
      have hhd := post.si.hand (posN i ids) os0[posN i ids] (by show _ < objsC.length; omega) (List.getElem?_eq_getElem hjo)
      have hmc : muOf mu ids (posN i ids) = mu i := by unfold muOf; rw [hp2]
      revert hhd hget
      generalize os0[posN i ids] = oo
      obtain ⟨tt, xx⟩ := oo
      intro hget hhd
      rcases hget with ⟨e, t, hg⟩ | ⟨t, hg⟩
      · have hg : tt = .row e t true := by simpa using hg
        subst hg
        exact (show muR _ = muOf mu ids _ from hhd).trans hmc
      · have hg : tt = .box t := by simpa using hg
        subst hg
        exact (show muR _ = muOf mu ids _ from hhd).trans hmc
    · rw [if_neg hid]
  have hkT : TrOK w FrB mu w' Fr2 mu2 (killR (turned ids ts)) (· < n) := killR_OK2 F1 H0.si.hh hfr hkeep
  -- the objects then
  obtain ⟨hL1, hL2⟩ := layBack_get ids (os0.map (renR bk).obj) ((killR (turned ids ts)).st s0).heap hnd (fun i hi => by simpa [Tr.st, hn] using hlt i hi) (by simpa using hm)
  have hl0 : ((killR (turned ids ts)).st s0).heap.length = n := by simp [Tr.st, hn]
  rw [hl0] at hL1 hL2
  have hL1' : (layBack ids (os0.map (renR bk).obj) ((killR (turned ids ts)).st s0).heap).length = n + (os0.length - ids.length) := by rw [hL1]; simp
  have hcase : ∀ (i : Nat) (o' : AObj), (layBack ids (os0.map (renR bk).obj) ((killR (turned ids ts)).st s0).heap)[i]? = some o' →
      (i < n ∧ i ∉ ids ∧ mu2 i = mu i ∧ ∃ o0, s0.heap[i]? = some o0 ∧ o' = (killR (turned ids ts)).obj o0) ∨
      (∃ j o, os0[j]? = some o ∧ mu2 i = muR j ∧ bk j = i ∧ ((i < n ∧ i ∈ ids ∧ j = posN i ids ∧ o' = (((killR (turned ids ts)).st s0).heap.getD i gone).back ((renR bk).obj o)) ∨ (¬ i < n ∧ o' = (renR bk).obj o))) := by
    intro i o' hi
    rw [hL2 i] at hi
    by_cases hin : i < n
    · rw [if_pos hin] at hi
      by_cases hid : i ∈ ids
      · rw [if_pos hid] at hi
        obtain ⟨hp1, hp2⟩ := posN_get hid
        cases ho : (os0.map (renR bk).obj)[posN i ids]? with
        | none => rw [ho] at hi; cases hi
        | some o1 =>
          rw [ho] at hi
          injection hi with hi
          rw [List.getElem?_map] at ho
          cases ho2 : os0[posN i ids]? with
          | none => rw [ho2] at ho; cases ho
          | some o =>
            rw [ho2] at ho
            injection ho with ho
            refine .inr ⟨posN i ids, o, ho2, ?_, ?_, .inl ⟨hin, hid, rfl, by rw [ho]; exact hi.symm⟩⟩
            · show (if i < n then (if i ∈ ids then _ else _) else _) = _
              rw [if_pos hin, if_pos hid]
            · show (if posN i ids < ids.length then ids.getD (posN i ids) 0 else _) = i
              rw [if_pos hp1, hp2]
      · rw [if_neg hid] at hi
        obtain ⟨o0, h0, e⟩ := map_get hi
        refine .inl ⟨hin, hid, ?_, o0, h0, e⟩
        show (if i < n then (if i ∈ ids then _ else _) else _) = _
        rw [if_pos hin, if_neg hid]
    · rw [if_neg hin, List.getElem?_map] at hi
      cases ho2 : os0[i - n + ids.length]? with
      | none => rw [ho2] at hi; cases hi
      | some o =>
        rw [ho2] at hi
        injection hi with hi
        refine .inr ⟨_, o, ho2, ?_, ?_, .inr ⟨hin, hi.symm⟩⟩
        · show (if i < n then _ else _) = _
          rw [if_neg hin]
        · show (if i - n + ids.length < ids.length then _ else n + (i - n + ids.length - ids.length)) = i
          rw [if_neg (by omega)]; omega
  have hoccB : ∀ (i j : Nat) (o o' : AObj), mu2 i = muR j → ((i < n ∧ i ∈ ids ∧ j = posN i ids ∧ o' = (((killR (turned ids ts)).st s0).heap.getD i gone).back ((renR bk).obj o)) ∨ (¬ i < n ∧ o' = (renR bk).obj o)) → occ mu2 i o' → occ muR j o := by
    intro i j o o' hmu h hoc
    have : occ mu2 i ((renR bk).obj o) := by
      rcases h with ⟨_, _, _, e⟩ | ⟨_, e⟩
      · rw [e] at hoc; exact occ_back hoc
      · rw [e] at hoc; exact hoc
    rw [occ_obj] at this
    obtain ⟨t, x⟩ := o
    cases t with
    | gone => exact this
    | held => exact this
    | box t => exact this
    | row e t f =>
      have this : (mu2 i).hdr.ownBlock = some (mu2 i).loc := this
      show (muR j).hdr.ownBlock = some (muR j).loc
      rw [← hmu]; exact this
  -- a block of a callee's object is none of the others
  have hapart : ∀ (i : Nat) (o0 : AObj), s0.heap[i]? = some o0 → i ∉ ids → occ mu i o0 → ∀ b, (Mine (muOf mu ids) objsC b ∨ w.heap.size ≤ b) → (mu i).loc ≠ b := by
    intro i o0 hi hid hoc b hb
    rcases hb with ⟨j, o, hj, ho, e⟩ | hb
    · obtain ⟨o1, h1, hoc1⟩ := Q1 j o hj ho
      have hjl : j < ids.length := by rw [← hlen]; exact (List.getElem?_eq_some_iff.1 hj).1
      have hmem : ids.getD j 0 ∈ ids := by rw [List.getD_eq_getElem?_getD, List.getElem?_eq_getElem hjl]; simp
      rw [e]
      exact H0.si.sep i _ o0 o1 hi h1 (fun e => hid (e ▸ hmem)) hoc hoc1
    · have := (H0.si.own i o0 hi hoc).2.2
      omega
  have hso : SO w' Fr2 mu2 (layBack ids (os0.map (renR bk).obj) ((killR (turned ids ts)).st s0).heap) := by
    refine ⟨?_, ?_, ?_, ?_, ?_⟩
    · intro i
      show (if i < n then (if i ∈ ids then _ else _) else _ : Loc).hdr.oneCell' = true
      split
      · split
        · exact post.si.hh _
        · exact H0.si.hh _
      · exact post.si.hh _
    · intro i o' hi
      rcases hcase i o' hi with ⟨hin, hid, hmu, o0, h0, rfl⟩ | ⟨j, o, ho, hmu, hbj, hrest⟩
      · exact OR_tr (killR_T _) hkT hmu (fun t x e => by have := H0.si.nm i t x (e ▸ h0); rwa [hn] at this) (fun hoc => post.si.grow.block _ (H0.si.own i o0 h0 hoc).2.2 (fun hmi => hapart i o0 h0 hid hoc _ (.inl hmi) rfl)) (H0.si.obj i o0 h0)
      · have hor := F4 j o ho (post.si.obj j o ho)
        have := OR_tr (i' := i) (renR_T bk) hbT (i := j) hmu (fun t x e => post.si.nm j t x (e ▸ ho)) (fun _ => rfl) hor
        rcases hrest with ⟨_, _, _, e⟩ | ⟨_, e⟩
        · rw [e]; exact OR_back this
        · rw [e]; exact this
    · intro i t x hi
      rw [hL1']
      rcases hcase i _ hi with ⟨hin, hid, hmu, o0, h0, e⟩ | ⟨j, o, ho, hmu, hbj, hrest⟩
      · obtain ⟨t0, x0, rfl, rfl⟩ := box_obj e
        have := H0.si.nm i t0 x0 h0
        rw [hn] at this
        exact Ty.okN_mono (fun k hk => by omega) _ (killR_okN _ t0 x0 this)
      · have e : (⟨.box t, x⟩ : AObj) = (renR bk).obj o := by
          rcases hrest with ⟨_, _, _, e⟩ | ⟨_, e⟩
          · exact (box_back e).symm
          · exact e
        obtain ⟨t0, x0, rfl, rfl⟩ := box_obj e
        exact okN_app (r := renR bk) (p := (· < os0.length)) (q := (· < n + (os0.length - ids.length))) (fun t i hi => hbl i hi) (fun t i o x hi => hbl i hi) (fun i o hi => hbl i hi) (fun t m i b o x hi => hbl i hi) t0 x0 (post.si.nm j t0 x0 ho)
    · intro i k o1 o2 hi hk hne ho1 ho2
      rcases hcase i o1 hi with ⟨hin, hid, hmu, o0, h0, rfl⟩ | ⟨j, o, ho, hmu, hbj, hrest⟩
      · rw [occ_eq hmu, occ_obj] at ho1
        rcases hcase k o2 hk with ⟨hin', hid', hmu', o0', h0', rfl⟩ | ⟨j', o', ho', hmu', hbj', hrest'⟩
        · rw [occ_eq hmu', occ_obj] at ho2
          rw [hmu, hmu']
          exact H0.si.sep i k o0 o0' h0 h0' hne ho1 ho2
        · have hoc := hoccB k j' o' o2 hmu' hrest' ho2
          rw [hmu, hmu']
          exact hapart i o0 h0 hid ho1 _ (post.si.own j' o' ho' hoc).1
      · have hoc := hoccB i j o o1 hmu hrest ho1
        rcases hcase k o2 hk with ⟨hin', hid', hmu', o0', h0', rfl⟩ | ⟨j', o', ho', hmu', hbj', hrest'⟩
        · rw [occ_eq hmu', occ_obj] at ho2
          rw [hmu, hmu']
          exact (hapart k o0' h0' hid' ho2 _ (post.si.own j o ho hoc).1).symm
        · have hoc' := hoccB k j' o' o2 hmu' hrest' ho2
          rw [hmu, hmu']
          exact post.si.sep j j' o o' ho ho' (fun e => hne (by rw [← hbj, ← hbj', e])) hoc hoc'
    · intro i o' hi hoc
      rcases hcase i o' hi with ⟨hin, hid, hmu, o0, h0, rfl⟩ | ⟨j, o, ho, hmu, hbj, hrest⟩
      · rw [occ_eq hmu, occ_obj] at hoc
        rw [hmu]
        obtain ⟨h1, h2, h3⟩ := H0.si.own i o0 h0 hoc
        refine ⟨fun hf => ?_, Nat.lt_of_lt_of_le h3 hgrow.size⟩
        rcases F2 _ hf with hf | hf
        · exact h2 hf
        · exact hapart i o0 h0 hid hoc _ hf rfl
      · have hoc' := hoccB i j o o' hmu hrest hoc
        rw [hmu]
        obtain ⟨h1, h2, h3⟩ := post.si.own j o ho hoc'
        exact ⟨fun hf => h2 (F3 _ hf), h3⟩
  refine ⟨mu2, VR_tr (renR_T bk) hbT post.ok (F5 post.val), ?_, ⟨?_, ?_, H0.df, ?_⟩, ?_⟩
  · show ((renR bk).app d.t d.x).t.okN (· < (layBack ids (os0.map (renR bk).obj) ((killR (turned ids ts)).st s0).heap).length)
    rw [hL1']
    exact okN_app (r := renR bk) (p := (· < os0.length)) (q := (· < n + (os0.length - ids.length))) (fun t i hi => hbl i hi) (fun t i o x hi => hbl i hi) (fun i o hi => hbl i hi) (fun t m i b o x hi => hbl i hi) d.t d.x post.ok
  · refine H0.si.chg2 hgrow F1 (fun b hb => (F2 b hb).imp id (Or.imp (hMine b) id)) (fun b hb => post.si.frL b (F3 b hb)) (by rw [hn]; show n ≤ (layBack ids (os0.map (renR bk).obj) ((killR (turned ids ts)).st s0).heap).length; omega) hso ?_ ?_
    · intro i o' hi hoc
      rcases hcase i o' hi with ⟨hin, hid, hmu, o0, h0, rfl⟩ | ⟨j, o, ho, hmu, hbj, hrest⟩
      · rw [occ_eq hmu, occ_obj] at hoc
        rw [hmu]
        exact .inl ⟨i, o0, h0, hoc, rfl⟩
      · have hoc' := hoccB i j o o' hmu hrest hoc
        rw [hmu]
        exact (post.si.own j o ho hoc').1.imp (hMine _) id
    · intro i o' hiE hi
      rcases hcase i o' hi with ⟨hin, hid, hmu, o0, h0, rfl⟩ | ⟨j, o, ho, hmu, hbj, hrest⟩
      · rw [hmu]
        have := H0.si.hand i o0 hiE h0
        obtain ⟨t, x⟩ := o0
        cases t with
        | gone => trivial
        | held => exact this
        | box t => exact this
        | row e t f => exact this
      · have hin : i < n := by
          have := H0.si.len
          rw [hn] at this; omega
        rcases hrest with ⟨_, hid, hj, e⟩ | ⟨hni, _⟩
        · rw [hmu]
          obtain ⟨hp1, hp2⟩ := posN_get hid
          have hhd := post.si.hand j o (by show _ < objsC.length; omega) ho
          have hmc : muOf mu ids j = mu i := by unfold muOf; rw [hj, hp2]
          have hil : i < s0.heap.length := by omega
          have hh0 := H0.si.hand i s0.heap[i] hiE (List.getElem?_eq_getElem hil)
          have ewas : ((killR (turned ids ts)).st s0).heap.getD i gone = (killR (turned ids ts)).obj s0.heap[i] := by
            show (s0.heap.map _).getD i gone = _
            rw [List.getD_eq_getElem?_getD, List.getElem?_map, List.getElem?_eq_getElem hil]; rfl
          rw [e, ewas]
          revert hh0
          generalize s0.heap[i] = oo
          obtain ⟨tt, xx⟩ := oo
          obtain ⟨to, xo⟩ := o
          intro hh0
          have hhd : Handed (muR j) (muOf mu ids j) ⟨to, xo⟩ := hhd
          cases tt with
          | gone => cases to <;> exact trivial
          | held => cases to <;> exact trivial
          | box t =>
            cases to with
            | gone => trivial
            | held => exact ((show muR j = muOf mu ids j from hhd).trans hmc).trans hh0
            | box t' => exact ((show muR j = muOf mu ids j from hhd).trans hmc).trans hh0
            | row e t f => trivial
          | row e t f =>
            cases to with
            | gone => trivial
            | held => trivial
            | box t' => trivial
            | row e' t' f' =>
              cases f with
              | false => trivial
              | true => cases f' with
                | false => trivial
                | true => exact ((show muR j = muOf mu ids j from hhd).trans hmc).trans hh0
        · exact absurd hin hni
  · intro u d' hm'
    obtain ⟨⟨u0, d0⟩, hm0, e⟩ := List.mem_map.1 (show (u, d') ∈ s0.tmps.map fun p => (p.1, (killR (turned ids ts)).dyn p.2) from hm')
    injection e with e1 e2
    subst e1; subst e2
    obtain ⟨h1, h2, h3⟩ := H0.tm u0 d0 hm0
    rw [hn] at h3
    refine ⟨h1, VR_tr (killR_T _) hkT h3 h2, ?_⟩
    show ((killR (turned ids ts)).app d0.t d0.x).t.okN (· < (layBack ids (os0.map (renR bk).obj) ((killR (turned ids ts)).st s0).heap).length)
    rw [hL1']
    exact Ty.okN_mono (fun k hk => by omega) _ (killR_okN _ d0.t d0.x h3)
  · simpa [Tr.st, Function.comp_def] using H0.so
  · rintro b (hb | ⟨m, t, x, hm0, rfl⟩)
    · exact .inl (F1 b hb)
    · have hml : m < n := by rw [← hn]; exact (List.getElem?_eq_some_iff.1 hm0).1
      by_cases hid : m ∈ ids
      · obtain ⟨t', x', ho⟩ := hbx m hid t x hm0
        obtain ⟨hp1, hp2⟩ := posN_get hid
        have hhd := post.si.hand (posN m ids) _ (by show _ < objsC.length; omega) ho
        have hhd : muR (posN m ids) = muOf mu ids (posN m ids) := hhd
        have hmc : muOf mu ids (posN m ids) = mu m := by unfold muOf; rw [hp2]
        have hmu : mu2 m = mu m := by
          show (if m < n then (if m ∈ ids then muR (posN m ids) else mu m) else _) = _
          rw [if_pos hml, if_pos hid, hhd, hmc]
        refine .inr ⟨m, ((renR bk).app t' x').t, ((renR bk).app t' x').x, ?_, by rw [hmu]⟩
        have hg := hL2 m
        rw [if_pos hml, if_pos hid, List.getElem?_map, ho] at hg
        have ewas : ((killR (turned ids ts)).st s0).heap.getD m gone = (killR (turned ids ts)).obj ⟨.box t, x⟩ := by
          show (s0.heap.map _).getD m gone = _
          rw [List.getD_eq_getElem?_getD, List.getElem?_map, hm0]; rfl
        rw [ewas] at hg
        exact hg
      · have hmu : mu2 m = mu m := by
          show (if m < n then (if m ∈ ids then muR (posN m ids) else mu m) else _) = _
          rw [if_pos hml, if_neg hid]
        refine .inr ⟨m, ((killR (turned ids ts)).app t x).t, ((killR (turned ids ts)).app t x).x, ?_, by rw [hmu]⟩
        have hg := hL2 m
        rw [if_pos hml, if_neg hid] at hg
        have : ((killR (turned ids ts)).st s0).heap[m]? = some ((killR (turned ids ts)).obj ⟨.box t, x⟩) := by
          show (s0.heap.map _)[m]? = _
          rw [List.getElem?_map, hm0]; rfl
        rw [this] at hg
        exact hg
theorem noneIn_ok {l m : List Nat} (h : noneIn l m = true) : ∀ i ∈ l, i ∉ m := by
  unfold noneIn at h
  intro i hi
  simpa using List.all_eq_true.1 h i hi
theorem callD_ok (hC : Sound P C) (H : Rep E w Fr mu s a) {R : Type} {f : Nat} {args : List Dyn} {K : Dyn → St → Option R} {r : R} (h : callD T C f args s K = some r) {vs : List Value} (hl : args.length = vs.length)
    (hv : ∀ (i : Nat) (d : Dyn) (v : Value), args[i]? = some d → vs[i]? = some v → VR w Fr mu d v ∧ d.t.okN (· < s.heap.length)) :
    Enters P f ∧ Calls P f vs.toArray w fun e w' => ∃ v d s' Fr' mu', e = .returned v ∧ K d s' = some r ∧ VR w' Fr' mu' d v ∧ d.t.okN (· < s'.heap.length) ∧ Rep E w' Fr' mu' s' a ∧ Kept (plainCall T s f args) w Fr mu s.heap w' Fr' mu' s'.heap := by
  unfold callD at h
  split at h
  · cases h
  rename_i hh hhint
  split at h
  · cases h
  rename_i as has
  dsimp only at h
  split at h
  case isFalse => cases h
  rename_i hc
  simp only [Bool.and_eq_true, decide_eq_true_eq] at hc
  obtain ⟨⟨⟨⟨⟨⟨c1, c2⟩, c3⟩, c4⟩, c5⟩, c6⟩, c7⟩ := hc
  generalize hids : reach s.heap 3 (rawIds hh.pars args []) = ids at *
  generalize hred : readIds hh.pars args [] = red at *
  generalize hots : asWas hh.ots ((ids.map fun i => ((renR (posN · ids)).obj (s.heap.getD i gone)).handed).map (·.t)) = ots at *
  generalize hq : C f (as.map (renR (posN · ids)).dyn) (ids.map fun i => ((renR (posN · ids)).obj (s.heap.getD i gone)).handed) hh.rt ots = q at h
  cases q with
  | none => cases h
  | some x =>
  have h : K _ _ = some r := h
  have hnr := noneIn_ok c1
  have hlt : ∀ i ∈ ids, i < s.heap.length := fun i hi => (closed_ok c2 i hi).1
  have hnd := distinct_ok c3
  generalize hobjs : (ids.map fun i => ((renR (posN · ids)).obj (s.heap.getD i gone)).handed) = objsC at *
  have hso0 : SO w Fr (muOf mu ids) objsC := by
    rw [← hobjs]; exact H.si.so.sub c2 c3 (f := fun o => ((renR (posN · ids)).obj o).handed) (fun o => .inr rfl)
  have hlenC : objsC.length = ids.length := by rw [← hobjs]; simp
  have hQ : ∀ (j : Nat) (o : AObj), objsC[j]? = some o → occ (muOf mu ids) j o → ∃ o0, s.heap[ids.getD j 0]? = some o0 ∧ occ mu (ids.getD j 0) o0 := by
    intro j o hj ho
    rw [← hobjs] at hj
    obtain ⟨_, hm, o0, h0, rfl⟩ := sub_get (f := fun o => ((renR (posN · ids)).obj o).handed) c2 hj
    rw [occ_handed, occ_obj] at ho
    refine ⟨o0, h0, ?_⟩
    obtain ⟨t, x⟩ := o0
    cases t <;> exact ho
  have hrl : ∀ b, (∃ (k : Nat) (ok : AObj), k ∈ red ∧ s.heap[k]? = some ok ∧ occ mu k ok ∧ b = (mu k).loc) → b < w.heap.size ∧ ¬ Fr b ∧ ¬ Mine (muOf mu ids) objsC b := by
    rintro b ⟨k, ok, hk, hko, hkoc, e⟩
    obtain ⟨h1, h2, h3⟩ := H.si.own k ok hko hkoc
    refine ⟨by rw [e]; exact h3, by rw [e]; exact h2, ?_⟩
    rintro ⟨j, o, hj, ho, e'⟩
    obtain ⟨o0, h0, hoc⟩ := hQ j o hj ho
    have hjl : j < ids.length := by rw [← hlenC]; exact (List.getElem?_eq_some_iff.1 hj).1
    have hmem : ids.getD j 0 ∈ ids := by rw [List.getD_eq_getElem?_getD, List.getElem?_eq_getElem hjl]; simp
    exact H.si.sep k _ ok o0 hko h0 (fun e => hnr k hk (e ▸ hmem)) hkoc hoc (by rw [← e]; exact e')
  obtain ⟨ha1, ha2⟩ := handArgs_ok H hh.pars args as vs [] has hl hv (fun _ => id)
  rw [hred] at ha2
  have hpre : Pre w (FrL Fr mu s.heap red) (muOf mu ids) objsC (as.map (renR (posN · ids)).dyn) vs := by
    refine ⟨⟨hso0.hh, ?_, hso0.nm, hso0.sep, ?_⟩, ?_, by simp [ha1], ?_, H.si.gl.keep (fun b hb => .inl hb) (fun _ _ => rfl)⟩
    · intro i o hi
      exact OR_keep (fun b hb => .inl hb) (fun _ _ => rfl) rfl (fun t x _ => Ty.okN_all (fun _ => rfl) t) (fun _ => rfl) (hso0.obj i o hi)
    · intro i o hi ho
      obtain ⟨h1, h2⟩ := hso0.own i o hi ho
      refine ⟨?_, h2⟩
      rintro (hf | hf)
      · exact h1 hf
      · exact (hrl _ hf).2.2 ⟨i, o, hi, ho, rfl⟩
    · rintro b (hb | hb)
      · exact H.si.frL b hb
      · exact (hrl _ hb).1
    · intro i d v hd hv'
      rw [List.getElem?_map] at hd
      cases hai : as[i]? with
      | none => rw [hai] at hd; cases hd
      | some d0 =>
        rw [hai] at hd
        injection hd with hd
        subst hd
        have hmem : d0 ∈ as := List.mem_of_getElem? hai
        have hn0 : d0.t.okN (· ∈ ids) := idsT_ok d0.t [] (subN_ok (List.all_eq_true.1 c5 d0 hmem))
        refine ⟨VR_tr (renR_T _) (renR_OK fun i hi => by unfold muOf; rw [(posN_get hi).2]) hn0 (ha2 i d0 v hai hv'), ?_⟩
        have := posR_okN d0.t d0.x hn0
        rw [hlenC]; exact this
  obtain ⟨hen, hcall⟩ := hC.call f _ objsC hh.rt ots x (by simpa using c7) hq
  refine ⟨hen, Calls.mono (hcall w _ _ vs hpre) ?_⟩
  rintro e w' ⟨v, FrR, muR, he, post⟩
  have hts := resO_types hh.rt ots x
  have hbx0 : ∀ (l : List Nat) (ts : List OTy), keptBoxes s.heap l ts = true → l.length ≤ ts.length → ∀ i ∈ l, ∀ (t : Ty) (y : den t), s.heap[i]? = some (⟨.box t, y⟩ : AObj) → ∃ t', ts[posN i l]? = some (.box t') := by
    intro l
    induction l with
    | nil => intro ts _ _ i hi; cases hi
    | cons k l ih =>
      intro ts hk hle i hi t y hb
      cases ts with
      | nil => simp at hle
      | cons o ts =>
        simp only [keptBoxes, Bool.and_eq_true] at hk
        by_cases hik : i = k
        · subst hik
          have e : posN i (i :: l) = 0 := by simp [posN]
          rw [e]
          have hg : s.heap.getD i gone = ⟨.box t, y⟩ := by rw [List.getD_eq_getElem?_getD, hb]; rfl
          rw [hg] at hk
          cases o with
          | box t' => exact ⟨t', rfl⟩
          | row _ _ _ => cases hk.1
          | gone => cases hk.1
          | held => cases hk.1
        · have e : posN i (k :: l) = posN i l + 1 := by show (if i = k then 0 else _) = _; rw [if_neg hik]
          rw [e]
          exact ih ts hk.2 (by simpa using hle) i ((List.mem_cons.1 hi).resolve_left hik) t y hb
  have hbx : ∀ i ∈ ids, ∀ (t : Ty) (y : den t), s.heap[i]? = some (⟨.box t, y⟩ : AObj) → ∃ (t' : Ty) (x' : den t'), (resO hh.rt ots x)[posN i ids]? = some (⟨.box t', x'⟩ : AObj) := by
    intro i hi t y hb
    obtain ⟨t', ht⟩ := hbx0 ids ots c6 c4 i hi t y hb
    have ht : ((resO hh.rt ots x).map (·.t))[posN i ids]? = some (OTy.box t') := by rw [hts]; exact ht
    rw [List.getElem?_map] at ht
    cases ho : (resO hh.rt ots x)[posN i ids]? with
    | none => rw [ho] at ht; cases ht
    | some o =>
      rw [ho] at ht
      injection ht with ht
      obtain ⟨to, xo⟩ := o
      have ht : to = .box t' := ht
      subst ht
      exact ⟨t', xo, rfl⟩
  have hsame : plainCall T s f args = true → ∀ b, Safe Fr mu s.heap b → w'.heap[b]? = w.heap[b]? := by
    intro hpl b hb
    have he0 : ids = [] := by
      unfold plainCall at hpl
      rw [hhint] at hpl
      dsimp only at hpl
      rw [hids] at hpl
      simpa using hpl
    refine post.si.grow.block b (safe_lt H.si hb) ?_
    rintro ⟨j, o, hj, _⟩
    have : j < objsC.length := (List.getElem?_eq_some_iff.1 hj).1
    rw [hlenC, he0] at this
    simp at this
  cases hb : (hh.rt.bears || ots.any OTy.bears) with
  | true =>
    rw [if_pos hb] at h
    have H0 := H.freeze red
    have hlen0 := freeze_len s red
    have hQ1 : ∀ (j : Nat) (o : AObj), objsC[j]? = some o → occ (muOf mu ids) j o → ∃ o0, (s.freeze red).heap[ids.getD j 0]? = some o0 ∧ occ mu (ids.getD j 0) o0 := by
      intro j o hj ho
      obtain ⟨o0, h0, hoc⟩ := hQ j o hj ho
      have hjl : j < ids.length := by rw [← hlenC]; exact (List.getElem?_eq_some_iff.1 hj).1
      have hmem : ids.getD j 0 ∈ ids := by rw [List.getD_eq_getElem?_getD, List.getElem?_eq_getElem hjl]; simp
      by_cases hr0 : red = []
      · subst hr0; exact ⟨o0, h0, hoc⟩
      · have hgl : ∀ (l : List Nat) (hp : List AObj), ids.getD j 0 ∉ l → (goneL l hp)[ids.getD j 0]? = hp[ids.getD j 0]? := by
          intro l
          induction l with
          | nil => intro hp _; rfl
          | cons k l ih =>
            intro hp hnk
            simp only [List.mem_cons, not_or] at hnk
            show (goneL l (hp.set k gone))[ids.getD j 0]? = _
            rw [ih _ hnk.2, List.getElem?_set_ne (fun e => hnk.1 e.symm)]
        refine ⟨(thawR s red).obj o0, ?_, by rw [occ_obj]; exact hoc⟩
        rw [freeze_eq s hr0]
        show (goneL red (s.heap.map _))[ids.getD j 0]? = _
        rw [hgl red _ (fun hk => hnr _ hk hmem), List.getElem?_map, h0]; rfl
    obtain ⟨mu2, g1, g2, g3, g4⟩ := call_back (Fr2 := FrR) H0 (fun i hi => by rw [hlen0]; exact hlt i hi) hnd hlenC post hts hQ1 (fun b hb => post.si.fr0 b hb)
      (fun b hb => by
        rcases post.si.frN b hb with h1 | h1 | h1
        · exact .inl h1
        · exact .inr (.inl h1)
        · exact .inr (.inr h1)) (fun _ => id) (fun _ _ _ => id) id (by
        intro i hi t y hb
        by_cases hr0 : red = []
        · subst hr0; exact hbx i hi t y hb
        · rw [freeze_eq s hr0] at hb
          rcases goneL_get _ _ _ _ hb with ⟨_, h2⟩ | ⟨_, h2⟩ | h2
          · cases h2
          · obtain ⟨o0, h0, e⟩ := map_get h2
            obtain ⟨t0, x0, rfl, _⟩ := box_obj e
            exact hbx i hi t0 x0 h0
          · cases h2)
    rw [hlen0] at g1 g2 g3 g4
    exact ⟨v, _, _, FrR, mu2, he, h, g1, g2, g3, ⟨fun b hb => g4 b ((Kept.frz (g := true) (w := w)).safe b hb), hsame⟩⟩
  | false =>
    rw [if_neg (by rw [hb]; simp)] at h
    simp only [Bool.or_eq_false_iff] at hb
    have hfo : ∀ (j : Nat) (o : AObj), (resO hh.rt ots x)[j]? = some o → o.t.bears = false := by
      intro j o hj
      have : o.t ∈ ots := by rw [← hts]; exact List.mem_map.2 ⟨o, List.mem_of_getElem? hj, rfl⟩
      have hall := hb.2
      simp only [List.any_eq_false] at hall
      simpa using hall _ this
    obtain ⟨mu2, g1, g2, g3, g4⟩ := call_back (Fr2 := fun b => FrR b ∧ ¬ ∃ (k : Nat) (ok : AObj), k ∈ red ∧ s.heap[k]? = some ok ∧ occ mu k ok ∧ b = (mu k).loc) H hlt hnd hlenC post hts hQ
      (fun b hb => ⟨post.si.fr0 b (.inl hb), fun hr => (hrl b hr).2.1 hb⟩)
      (fun b hb => by
        rcases post.si.frN b hb.1 with h1 | h1 | h1
        · rcases h1 with h1 | h1
          · exact .inl h1
          · exact absurd h1 hb.2
        · exact .inr (.inl h1)
        · exact .inr (.inr h1)) (fun b hb => hb.1) (fun j o hj ho => OR_free (hfo j o hj) ho) (VR_free hb.1) hbx
    exact ⟨v, _, _, _, mu2, he, h, g1, g2, g3, ⟨g4, hsame⟩⟩
end
end Go.Abs
set_option autoImplicit false
set_option linter.unusedVariables false
namespace Go.Abs
structure Marks (E : Env) (w : World) (Fr : Nat → Prop) (ds : List Deferred) : Prop where
  all : ∀ d ∈ ds, ∃ D, d = { target := .collected D, args := #[] } ∧ w.heap[D]? = some (.deferred (some [])) ∧ E.w0.heap.size ≤ D ∧ ¬ Fr D
  dis : ds.Pairwise fun d d' => d.target ≠ d'.target
structure Rw (E : Env) (w : World) (Fr : Nat → Prop) (mu : Nat → Loc) (s : St) (a : Act) : Prop where
  si : SI E w Fr mu s.heap
  tm : ∀ u d, (u, d) ∈ s.tmps → u < a.tmps.size ∧ VR w Fr mu d (a.tmps.getD u undef) ∧ d.t.okN (· < s.heap.length)
  df : Marks E w Fr a.defers
  so : (s.tmps.map (·.1)).Pairwise (· < ·)
section
variable {E : Env} {w : World} {Fr : Nat → Prop} {mu : Nat → Loc} {s : St} {a : Act}
def reb (E : Env) (w : World) (Fr : Nat → Prop) (mu : Nat → Loc) (h : List AObj) (ds : List Deferred) : Env := ⟨w, Fr, Mine mu h, E.mu0, E.m, ds⟩
theorem SI.reb {h : List AObj} (H : SI E w Fr mu h) (ds : List Deferred) : SI (Abs.reb E w Fr mu h ds) w Fr mu h where
  grow := Grow.refl _ _
  fr0 _ hb := hb
  frN _ hb := .inl hb
  frL := H.frL
  hh := H.hh
  obj := H.obj
  nm := H.nm
  sep := H.sep
  own i o hi ho := ⟨.inl ⟨i, o, hi, ho, rfl⟩, (H.own i o hi ho).2⟩
  hand := H.hand
  len := H.len
  gl := H.gl
theorem Rw.reb (H : Rw E w Fr mu s a) : Rep (Abs.reb E w Fr mu s.heap a.defers) w Fr mu s a := ⟨H.si.reb _, H.tm, rfl, H.so⟩
theorem occ_cells {h : List AObj} (H : SI E w Fr mu h) {b : Nat} (hb : Mine mu h b) : ∃ c e f, w.heap[b]? = some (.cells c e f) := by
  obtain ⟨i, o, hi, ho, rfl⟩ := hb
  have hor := H.obj i o hi
  obtain ⟨t, x⟩ := o
  cases t with
  | gone => exact ho.elim
  | held => exact ho.elim
  | box t => obtain ⟨_, cells, e, hc, _⟩ := hor; exact ⟨_, _, _, hc⟩
  | row e t f =>
    obtain ⟨_, cells, _, hat⟩ := hor
    rcases hat with ⟨ad, h1, h2, h3⟩ | ⟨h1, h2, h3⟩
    · exact absurd ho h3
    · rcases h3 with ⟨h3, _⟩ | ⟨g, cap, cur, hv, _, hg, _⟩
      · rw [h3] at h1; cases h1
      · rw [hv] at h1
        injection h1 with h1
        have h1 : g = (mu i).loc := h1
        rw [← h1]
        exact ⟨_, _, _, hg⟩
theorem SI.back {h : List AObj} (H : SI E w Fr mu h) {ds : List Deferred} {w' : World} {Fr' : Nat → Prop} {mu' : Nat → Loc} {h' : List AObj} (H' : SI (Abs.reb E w Fr mu h ds) w' Fr' mu' h') : SI E w' Fr' mu' h' := by
  refine ⟨?_, ?_, ?_, H'.frL, H'.hh, H'.obj, H'.nm, H'.sep, ?_, H'.hand, H'.len, H'.gl⟩
  · refine H.grow.trans H'.grow ?_
    rintro k hk ⟨i, o, hi, ho, e⟩
    have := (H.own i o hi ho).1
    rw [← e] at this
    exact this.resolve_right (by omega)
  · exact fun b hb => H'.fr0 b (H.fr0 b hb)
  · intro b hb
    rcases H'.frN b hb with hb | ⟨i, o, hi, ho, rfl⟩ | hb
    · exact H.frN b hb
    · exact .inr (H.own i o hi ho).1
    · exact .inr (.inr (Nat.le_trans H.grow.size hb))
  · intro i o hi ho
    refine ⟨?_, (H'.own i o hi ho).2⟩
    rcases (H'.own i o hi ho).1 with ⟨j, o0, hj, ho0, e⟩ | h3
    · rw [e]; exact (H.own j o0 hj ho0).1
    · exact .inr (Nat.le_trans H.grow.size h3)
theorem Rw.back (H : Rw E w Fr mu s a) {w' : World} {Fr' : Nat → Prop} {mu' : Nat → Loc} {s' : St} {a' : Act} (H' : Rep (Abs.reb E w Fr mu s.heap a.defers) w' Fr' mu' s' a') :
    Rw E w' Fr' mu' s' a' ∧ Side Fr (Mine mu s.heap) w Fr' (Mine mu' s'.heap) w' := by
  have S : Side Fr (Mine mu s.heap) w Fr' (Mine mu' s'.heap) w' := by
    refine ⟨H'.si.grow, H'.si.fr0, H'.si.frN, ?_, ?_, ?_⟩
    · rintro b ⟨i, o, hi, ho, rfl⟩; exact (H'.si.own i o hi ho).1
    · rintro b ⟨i, o, hi, ho, rfl⟩; exact (H'.si.own i o hi ho).2.1
    · rintro b (hb | ⟨i, o, hi, ho, rfl⟩)
      · exact H'.si.frL b hb
      · exact (H'.si.own i o hi ho).2.2
  refine ⟨⟨H.si.back H'.si, H'.tm, ?_, H'.so⟩, S⟩
  · have hd : a'.defers = a.defers := H'.df
    rw [hd]
    refine ⟨fun d hdm => ?_, H.df.dis⟩
    obtain ⟨D, h1, h2, h3, h4⟩ := H.df.all d hdm
    have hlt : D < w.heap.size := (Array.getElem?_eq_some_iff.1 h2).1
    have hnm : ¬ Mine mu s.heap D := fun hm => by
      obtain ⟨c, e, f, hc⟩ := occ_cells H.si hm
      rw [h2] at hc; cases hc
    refine ⟨D, h1, (S.grow.block D hlt hnm).trans h2, h3, fun hf => ?_⟩
    rcases S.frN D hf with hf | hf | hf
    · exact h4 hf
    · exact hnm hf
    · omega
theorem SI.away {h : List AObj} (H : SI E w Fr mu h) {O : Nat → Prop} {w' : World} (hg : Grow O w w') (hO : ∀ b, b < w.heap.size → O b → ¬ Fr b ∧ ¬ Mine mu h b ∧ (E.O0 b ∨ E.w0.heap.size ≤ b)) : SI E w' Fr mu h where
  grow := H.grow.trans hg fun k hk ho => by
    have := (hO k (Nat.lt_of_lt_of_le hk H.grow.size) ho).2.2
    exact this.resolve_right (by omega)
  fr0 := H.fr0
  frN := H.frN
  frL b hb := Nat.lt_of_lt_of_le (H.frL b hb) hg.size
  hh := H.hh
  obj i o hi := OR_keep (fun _ => id) (fun b hb => hg.block b (H.frL b hb) fun ho => (hO b (H.frL b hb) ho).1 hb) rfl (fun t x _ => Ty.okN_all (fun _ => rfl) t) (fun hoc => hg.block _ (H.own i o hi hoc).2.2 fun ho => (hO _ (H.own i o hi hoc).2.2 ho).2.1 ⟨i, o, hi, hoc, rfl⟩) (H.obj i o hi)
  nm := H.nm
  sep := H.sep
  own i o hi ho := ⟨(H.own i o hi ho).1, (H.own i o hi ho).2.1, Nat.lt_of_lt_of_le (H.own i o hi ho).2.2 hg.size⟩
  hand := H.hand
  len := H.len
  gl := H.gl.keep (fun _ => id) (fun b hb => hg.block b (H.frL b hb) fun ho => (hO b (H.frL b hb) ho).1 hb)
theorem VR_away {O : Nat → Prop} {w' : World} (hL : ∀ b, Fr b → b < w.heap.size) (hg : Grow O w w') (hO : ∀ b, b < w.heap.size → O b → ¬ Fr b) {d : Dyn} {v : Value} (h : VR w Fr mu d v) : VR w' Fr mu d v :=
  VR_keep (fun _ => id) (fun b hb => hg.block b (hL b hb) fun ho => hO b (hL b hb) ho hb) (Ty.okN_all (fun _ => rfl) _) h
theorem SI.more {h : List AObj} (H : SI E w Fr mu h) {Fr2 : Nat → Prop} (h1 : ∀ b, Fr b → Fr2 b) (h2 : ∀ b, Fr2 b → Fr b ∨ (¬ Mine mu h b ∧ b < w.heap.size ∧ (E.Fr0 b ∨ E.O0 b ∨ E.w0.heap.size ≤ b))) : SI E w Fr2 mu h where
  grow := H.grow
  fr0 b hb := h1 b (H.fr0 b hb)
  frN b hb := (h2 b hb).elim (H.frN b) fun h => h.2.2
  frL b hb := (h2 b hb).elim (H.frL b) fun h => h.2.1
  hh := H.hh
  obj i o hi := OR_keep h1 (fun _ _ => rfl) rfl (fun t x _ => Ty.okN_all (fun _ => rfl) t) (fun _ => rfl) (H.obj i o hi)
  nm := H.nm
  sep := H.sep
  own i o hi ho := ⟨(H.own i o hi ho).1, fun hf => (h2 _ hf).elim (H.own i o hi ho).2.1 fun h => h.1 ⟨i, o, hi, ho, rfl⟩, (H.own i o hi ho).2.2⟩
  hand := H.hand
  len := H.len
  gl := H.gl.keep h1 (fun _ _ => rfl)
theorem SI.lose {h : List AObj} (H : SI E w Fr mu h) (l : List Nat) : SI E w (FrL Fr mu h l) mu (goneL l h) := by
  have hlen : (goneL l h).length = h.length := goneL_len l h
  have hget : ∀ (i : Nat) (o : AObj), (goneL l h)[i]? = some o → o = gone ∨ (i ∉ l ∧ h[i]? = some o) := by
    intro i o hi
    rcases goneL_get l h i o hi with ⟨_, h2⟩ | h2 | h2
    · exact .inl h2
    · exact .inr h2
    · exact .inl h2
  have hocc : ∀ (i : Nat) (o : AObj), (goneL l h)[i]? = some o → occ mu i o → i ∉ l ∧ h[i]? = some o := by
    intro i o hi ho
    rcases hget i o hi with rfl | h2
    · exact ho.elim
    · exact h2
  refine ⟨H.grow, fun b hb => .inl (H.fr0 b hb), ?_, ?_, H.hh, ?_, ?_, ?_, ?_, ?_, by rw [hlen]; exact H.len, H.gl.keep (fun b hb => .inl hb) (fun _ _ => rfl)⟩
  · rintro b (hb | ⟨i, o, _, hi, ho, rfl⟩)
    · exact H.frN b hb
    · exact .inr (H.own i o hi ho).1
  · rintro b (hb | ⟨i, o, _, hi, ho, rfl⟩)
    · exact H.frL b hb
    · exact (H.own i o hi ho).2.2
  · intro i o hi
    rcases hget i o hi with rfl | ⟨_, h2⟩
    · trivial
    · exact OR_keep (fun b hb => .inl hb) (fun _ _ => rfl) rfl (fun t x _ => Ty.okN_all (fun _ => rfl) t) (fun _ => rfl) (H.obj i o h2)
  · intro i t x hi
    rw [hlen]
    rcases hget i _ hi with e | ⟨_, h2⟩
    · injection e with e1 e2; cases e1
    · exact H.nm i t x h2
  · intro i j o o' hi hj hne ho ho'
    exact H.sep i j o o' (hocc i o hi ho).2 (hocc j o' hj ho').2 hne ho ho'
  · intro i o hi ho
    obtain ⟨h1, h2⟩ := hocc i o hi ho
    obtain ⟨g1, g2, g3⟩ := H.own i o h2 ho
    refine ⟨g1, ?_, g3⟩
    rintro (hf | ⟨k, ok, hk, hko, hkoc, e⟩)
    · exact g2 hf
    · exact H.sep i k o ok h2 hko (fun e => h1 (e ▸ hk)) ho hkoc e
  · intro i o hm hi
    rcases hget i o hi with rfl | ⟨_, h2⟩
    · trivial
    · exact H.hand i o hm h2
end
end Go.Abs
set_option autoImplicit false
set_option linter.unusedVariables false
namespace Go.Abs
section
variable {P : Program} {ops : Array Oper} {md : Region.Mode}
theorem wpOp_monoQ {Q Q' : Exit → Act → World → Prop} (hQ : ∀ e a w, Q e a w → Q' e a w) {i : Nat} {K : Act → World → Prop} {a : Act} {w : World} (h : wpOp P ops Q i K a w) : wpOp P ops Q' i K a w := by
  unfold wpOp at *
  split
  · simp only [*] at h; exact h
  · rename_i o ho
    simp only [ho] at h
    split
    case isFalse hw => simp only [hw] at h; exact h
    rename_i hw
    simp only [hw, if_true] at h
    rcases h with h | ⟨h1, a', w', h2⟩
    · refine .inl ?_
      unfold Oper.wp at *
      generalize (execOp a.eval o).run P w = r at *
      cases r with
      | ok n w' =>
        cases n <;> simp only [Oper.upon] at h ⊢ <;>
          first
            | exact h
            | exact Calls.mono h (fun e w'' he => by cases e <;> first | exact he | exact hQ _ _ _ he | exact he.imp fun _ he => he.imp fun _ he => hQ _ _ _ he)
      | halt x w' => cases x <;> simp only [Oper.upon] at h ⊢ <;> exact hQ _ _ _ h
    · exact .inr ⟨h1, a', w', hQ _ _ _ h2⟩
def normQ (Q : Act → World → Prop) : Exit → Act → World → Prop := fun e a w => e = .normal ∧ Q a w
theorem wpOp_keep {Q : Act → World → Prop} {j : Nat} {oi oj : Oper} {v : Value} (hj : ops[j]? = some oj) (hap : oi.apart ops oj = true)
    (hsi : ∀ cs b, oi.op ≠ .select cs b) (hsj : ∀ cs b, oj.op ≠ .select cs b) {K : Act → World → Prop} {a : Act} {w : World}
    (h : wpOp P ops (normQ Q) j K (a.put oi.dst v) w) :
    wpOp P ops (normQ Q) j (fun a' w' => (execOp a'.eval oi = execOp a.eval oi ∧ Region.wanted oi (yielded ops a'.tmps) = Region.wanted oi (yielded ops a.tmps)) ∧ K (a'.put oi.dst v) w') a w := by
  obtain ⟨h1, h2, h3⟩ := Oper.apart_spec hap
  have keep : ∀ (b : Act), b.eval = a.eval → b.tmps = a.tmps → ∀ u, execOp (b.put oj.dst u).eval oi = execOp a.eval oi ∧ Region.wanted oi (yielded ops (b.put oj.dst u).tmps) = Region.wanted oi (yielded ops a.tmps) := fun b hb ht u => by
    rw [execOp_put oi hsi b oj.dst u h3, hb, wanted_put oi b oj.dst u h3, ht]
    exact ⟨rfl, rfl⟩
  unfold wpOp at *
  simp only [hj] at *
  rw [wanted_put oj a oi.dst v h1] at h
  split
  · rename_i hw
    simp only [hw, if_true] at h
    rcases h with h | ⟨_, _, _, h, _⟩
    case inr => cases h
    refine .inl ?_
    unfold Oper.wp at *
    rw [execOp_put oj hsj a oi.dst v h1] at h
    generalize (execOp a.eval oj).run P w = r at *
    cases r with
    | ok n w' =>
      cases n <;> simp only [Oper.upon] at h ⊢
      case value u => exact ⟨keep a rfl rfl u, by rw [← Act.put_comm a v u h2]; exact h⟩
      case skip => exact ⟨keep a rfl rfl _, by rw [← Act.put_comm a v undef h2]; exact h⟩
      case defer d =>
        refine ⟨keep { a with defers := d :: a.defers } rfl rfl _, ?_⟩
        rw [← Act.put_comm _ v undef h2, ← Act.put_defers]
        exact h
      case enter f args =>
        refine Calls.mono h fun e w'' he => ?_
        cases e with
        | returned u => exact ⟨keep a rfl rfl u, by rw [← Act.put_comm a v u h2]; exact he⟩
        | panicked c => cases he.1
        | outgrown => exact he
      case row row args => exact Rows.mono h fun u w'' he => ⟨keep a rfl rfl u, by rw [← Act.put_comm a v u h2]; exact he⟩
    | halt x w' =>
      cases x <;> simp only [Oper.upon] at h ⊢
      case panic u => cases h.1
  · rename_i hw
    simp only [hw] at h
    exact ⟨keep a rfl rfl _, by rw [← Act.put_comm a v undef h2]; exact h⟩
def wpAnyX (P : Program) (md : Region.Mode) (ops : Array Oper) (Q : Act → World → Prop) : Nat → Array Bool → List Nat → (Nat → Prop) → Act → World → Prop
  | 0, listed, _, _, a, w => Region.ready md ops listed = [] ∧ Q a w
  | n + 1, listed, need, X, a, w => (Region.ready md ops listed = [] → Q a w) ∧
    ∀ i ∈ Region.ready md ops listed, wpOp P ops (normQ Q) i (fun a' w' => ∃ X' : Nat → Prop, (∀ b, X b → X' b) ∧ (i ∈ need → ∀ b, X b → w'.heap[b]? = w.heap[b]?) ∧
      wpAnyX P md ops Q n (listed.setIfInBounds i true) need X' a' w') a w
theorem wpAnyX_less {Q : Act → World → Prop} : ∀ (n : Nat) (listed : Array Bool) (need need' : List Nat) (X : Nat → Prop) (a : Act) (w : World), (∀ i ∈ need', i ∈ need) →
    wpAnyX P md ops Q n listed need X a w → wpAnyX P md ops Q n listed need' X a w
  | 0, _, _, _, _, _, _, _, h => h
  | n + 1, listed, need, need', X, a, w, hs, h => ⟨h.1, fun i hi => wpOp_mono (fun a' w' ⟨X', h1, h2, h3⟩ => ⟨X', h1, fun hn => h2 (hs i hn), wpAnyX_less n _ need need' X' a' w' hs h3⟩) (h.2 i hi)⟩
theorem wpAnyX_any {Q : Exit → Act → World → Prop} : ∀ (n : Nat) (listed : Array Bool) (need : List Nat) (X : Nat → Prop) (a : Act) (w : World),
    wpAnyX P md ops (Q .normal) n listed need X a w → wpAny P md ops Q n listed a w
  | 0, _, _, _, _, _, h => h
  | n + 1, listed, need, X, a, w, h => ⟨h.1, fun i hi => wpOp_mono (fun a' w' ⟨X', h1, h2, h3⟩ => wpAnyX_any n _ need X' a' w' h3) (wpOp_monoQ (fun e a w ⟨he, h⟩ => by subst he; exact h) (h.2 i hi))⟩
def Before (md : Region.Mode) (ops : Array Oper) (i : Nat) (B : List Nat) (listed : Array Bool) : Prop :=
  ∀ (j : Nat) (oj : Oper), ops[j]? = some oj → j ≠ i → listed.getD j true = false → (∀ e ∈ oj.after, Region.binds md e = true → listed.getD e.on false = true ∨ e.on ∈ B) → j ∈ B
theorem set_getD {listed : Array Bool} {j k : Nat} (h : (listed.setIfInBounds j true).getD k false = true) : k = j ∨ listed.getD k false = true := by
  by_cases hk : j = k
  · exact .inl hk.symm
  · rw [getD_set_ne false hk] at h; exact .inr h
theorem set_getD_un {listed : Array Bool} {j k : Nat} (h : (listed.setIfInBounds j true).getD k true = false) : listed.getD k true = false := by
  by_cases hk : j = k
  · subst hk
    rcases Nat.lt_or_ge j listed.size with h' | h'
    · simp [h'] at h
    · simp [h'] at h
  · rw [getD_set_ne true hk] at h; exact h
theorem Before.step {i j : Nat} {B : List Nat} {listed : Array Bool} (h : Before md ops i B listed) (hj : j ∈ B) : Before md ops i B (listed.setIfInBounds j true) := by
  intro k ok hk hki hun hall
  refine h k ok hk hki (set_getD_un hun) fun e he hb => ?_
  rcases hall e he hb with h1 | h1
  · rcases set_getD h1 with h2 | h2
    · rw [h2]; exact .inr hj
    · exact .inl h2
  · exact .inr h1
theorem wpAnyX_first {Q : Act → World → Prop} {i : Nat} {oi : Oper} {v : Value} {dep : Bool} {B need : List Nat} (hi : ops[i]? = some oi) (hsi : ∀ cs b, oi.op ≠ .select cs b)
    (hB : ∀ j ∈ B, ∀ oj, ops[j]? = some oj → oi.apart ops oj = true ∧ (∀ cs b, oj.op ≠ .select cs b) ∧ (dep = true → j ∈ need)) :
    ∀ (n : Nat) (listed : Array Bool) (X : Nat → Prop) (a : Act) (w : World), Before md ops i B listed → i ∈ Region.ready md ops listed →
      ((Region.wanted oi (yielded ops a.tmps) = true ∧ ∀ w' : World, (dep = true → ∀ b, X b → w'.heap[b]? = w.heap[b]?) → (execOp a.eval oi).run P w' = .ok (.value v) w') ∨ (Region.wanted oi (yielded ops a.tmps) = false ∧ v = undef)) →
      wpAnyX P md ops Q n (listed.setIfInBounds i true) need X (a.put oi.dst v) w → wpAnyX P md ops Q (n + 1) listed need X a w := by
  have own : ∀ (X : Nat → Prop) (a : Act) (w : World) (K : Act → World → Prop), ((Region.wanted oi (yielded ops a.tmps) = true ∧ ∀ w' : World, (dep = true → ∀ b, X b → w'.heap[b]? = w.heap[b]?) → (execOp a.eval oi).run P w' = .ok (.value v) w') ∨ (Region.wanted oi (yielded ops a.tmps) = false ∧ v = undef)) → K (a.put oi.dst v) w → wpOp P ops (normQ Q) i K a w := by
    intro X a w K hr hk
    unfold wpOp
    simp only [hi]
    rcases hr with ⟨hw, hr⟩ | ⟨hw, rfl⟩
    · rw [if_pos hw]
      refine .inl ?_
      unfold Oper.wp
      rw [hr w fun _ _ _ => rfl]
      exact hk
    · rw [if_neg (by rw [hw]; simp)]
      exact hk
  intro n
  induction n with
  | zero =>
    intro listed X a w hb hr hy H
    refine ⟨fun h => (by rw [h] at hr; cases hr), fun j hj => ?_⟩
    by_cases hji : j = i
    · subst hji
      exact own X a w _ hy ⟨X, fun _ => id, fun _ _ _ => rfl, H⟩
    · have := ready_mono hj hji
      rw [H.1] at this
      cases this
  | succ n ih =>
    intro listed X a w hb hr hy H
    refine ⟨fun h => (by rw [h] at hr; cases hr), fun j hj => ?_⟩
    by_cases hji : j = i
    · subst hji
      exact own X a w _ hy ⟨X, fun _ => id, fun _ _ _ => rfl, H⟩
    · have h1 := H.2 j (ready_mono hj hji)
      obtain ⟨hjun, oj, hoj, hall⟩ := mem_ready.1 hj
      have hjB : j ∈ B := hb j oj hoj hji hjun fun e he hbd => .inl (hall e he hbd)
      obtain ⟨hap, hsj, hneed⟩ := hB j hjB oj hoj
      refine wpOp_mono ?_ (wpOp_keep hoj hap hsi hsj h1)
      rintro a' w' ⟨⟨he, hwa⟩, X', hX, hkeep, H'⟩
      refine ⟨X', hX, hkeep, ih (listed.setIfInBounds j true) X' a' w' (hb.step hjB) (ready_mono hr (Ne.symm hji)) ?_ ?_⟩
      · rw [hwa]
        refine hy.imp (fun h => ⟨h.1, fun w'' hag => ?_⟩) id
        rw [he]
        exact h.2 w'' fun hd b hXb => (hag hd b (hX b hXb)).trans (hkeep (hneed hd) b hXb)
      · rw [Array.setIfInBounds_comm _ _ hji]
        exact H'
theorem befOK_ok {listed : Array Bool} {i : Nat} {B : List Nat} (h : befOK ops listed i B = true) : Before .any ops i B listed := by
  intro j oj hj hji hun hall
  simp only [befOK, List.all_eq_true, List.mem_range] at h
  have h1 := h j (Array.getElem?_eq_some_iff.1 hj).1
  simp only [hj, Bool.or_eq_true, beq_iff_eq, hji, false_or, hun, Bool.false_eq_true] at h1
  rcases h1 with h1 | h1
  · simpa using h1
  · obtain ⟨e, he, hb⟩ := Array.any_eq_true'.1 h1
    simp only [Bool.and_eq_true, Bool.not_eq_true', Bool.or_eq_false_iff] at hb
    obtain ⟨hb1, hb2, hb3⟩ := hb
    rcases hall e he hb1 with h2 | h2
    · rw [hb2] at h2; cases h2
    · rw [List.contains_iff_mem.2 h2] at hb3; cases hb3
end
end Go.Abs
set_option autoImplicit false
set_option linter.unusedVariables false
namespace Go.Abs
section
variable {P : Program} {ops : Array Oper}
def fc : Option Nat → Fence
  | none => Fence.wide
  | some l => Fence.wide.inRound l
theorem fc_fn (ro : Option Nat) (f : FuncId) : (fc ro).fn f := by cases ro <;> exact trivial
theorem fc_depth (ro : Option Nat) : (fc ro).depth = none := by cases ro <;> rfl
theorem fc_calls {ro : Option Nat} {n : Nat} {f : FuncId} {args : Array Value} {w : World} {R : Ending → World → Prop} (h : Calls P f args w R) : CallsIn (fc ro) n P f args w R := by
  have h := (callsIn_wide (n := n)).2 h
  cases ro with
  | none => exact h
  | some l => exact h.inRound l
def noDefer (o : Oper) : Prop := ∀ c, o.op ≠ .defer c
theorem not_out {Q : Act → World → Prop} : ¬ LetsOut (normQ Q) := by
  rintro ⟨a, w, h⟩
  cases h.1
theorem operIn {ro : Option Nat} {n : Nat} {o : Oper} (hd : noDefer o) {Q : Act → World → Prop} {a : Act} {w : World} {K K' : Act → World → Prop} (hK : ∀ a w, K a w → K' a w) (h : o.wp P a w K (normQ Q)) : o.wpIn (fc ro) n P a w K' (normQ Q) := by
  refine ⟨fun f _ => fc_fn ro f, ?_⟩
  rw [Oper.semAt_eq _ _ _ hd]
  unfold Oper.wp at h
  generalize (execOp a.eval o).run P w = r at *
  have hno : ∀ {p : Prop}, ((fc ro).depth.isSome = true → p) := fun h => by rw [fc_depth] at h; cases h
  cases r with
  | ok x w' =>
    cases x <;> simp only [Oper.upon, Oper.uponIn] at h ⊢
    case value v => exact hK _ _ h
    case skip => exact hK _ _ h
    case defer d => exact hK _ _ h
    case enter f args =>
      refine ⟨hno, fc_calls (Calls.mono h fun e w'' he => ?_)⟩
      cases e with
      | returned v => exact hK _ _ he
      | panicked c => exact he
      | outgrown => exact he
    case row row args =>
      refine ⟨hno, fun c cs _ => ?_⟩
      obtain ⟨v, w'', hv, hs⟩ := h c cs
      exact ⟨v, w'', hK _ _ hv, by cases ro <;> exact stepsIn_wide.2 hs⟩
  | halt x w' => cases x <;> simp only [Oper.upon, Oper.uponIn] at h ⊢ <;> exact h
theorem opsIn {ro : Option Nat} {n : Nat} (hd : ∀ (i : Nat) (o : Oper), ops[i]? = some o → noDefer o) {Q : Act → World → Prop} : ∀ (l : List Nat) (a : Act) (w : World), wpOps P ops (normQ Q) l a w → wpOpsIn (fc ro) n P ops (normQ Q) l a w
  | [], a, w, h => h
  | i :: l, a, w, h => by
    unfold wpOps at h
    unfold wpOpsIn
    split at h
    · rename_i ho
      simp only [ho]
      exact opsIn hd l a w h
    · rename_i o ho
      simp only [ho]
      split at h
      · rename_i hw
        rw [if_pos hw]
        rcases h with h | ⟨_, h⟩
        · exact operIn (hd i o ho) (fun a w => opsIn hd l a w) h
        · exact absurd h not_out
      · rename_i hw
        rw [if_neg hw]
        exact ⟨fun f _ => fc_fn ro f, opsIn hd l _ w h⟩
theorem calmC_region {i : Nat} {d : Bool} (h : calmC (.region i ops d) = true) : ∀ (j : Nat) (o : Oper), ops[j]? = some o → noDefer o := by
  intro j o ho c e
  have h : ops.all calmO = true := h
  rw [Array.all_eq_true] at h
  obtain ⟨hj, rfl⟩ := Array.getElem?_eq_some_iff.1 ho
  have := h j hj
  unfold calmO at this
  rw [e] at this
  cases this
theorem region_draw_in {ro : Option Nat} {n i : Nat} (hm : P.follows .mixedOrders = true) (hc : calmC (.region i ops true) = true) {Q : Exit → Act → World → Prop} {a : Act} {w : World}
    (h : wpAny P .any ops (normQ (Q .normal)) ops.size (Array.replicate ops.size false) a w.drew) : (Code.region i ops true).wpIn (fc ro) n P Q a w := by
  have h2 : (Code.region i ops true).wpIn (fc ro) n P (normQ (Q .normal)) a w := wpIn_region_draw fun t => by
    simp only [Region.schedule, hm, Bool.true_or, if_true]
    exact opsIn (calmC_region hc) _ _ _ (wpAny_sound _ t _ _ _ h)
  exact wpIn_mono h2 fun e a w hh => by obtain ⟨rfl, hq⟩ := hh; exact hq
end
end Go.Abs
set_option autoImplicit false
set_option linter.unusedVariables false
namespace Go.Abs
section
variable {P : Program} {T : Told} {C : AbsFn} {E : Env} {w : World} {Fr : Nat → Prop} {mu : Nat → Loc} {s : St} {a : Act} {R : Type} {r : R}
theorem br_some {b : Bool} {x y : Option R} (h : br b x y = some r) : (b = true ∧ x = some r) ∨ (b = false ∧ y = some r) := by
  cases b
  · exact .inr ⟨rfl, h⟩
  · exact .inl ⟨rfl, h⟩
theorem br_none {b : Bool} {x : Option R} (h : br b x none = some r) : b = true ∧ x = some r := by
  rcases br_some h with h | ⟨_, h⟩
  · exact h
  · cases h
theorem capD_ok : ∀ (t : Ty) (x : den t) (vs : List Value) (ds : List Dyn) (p : Nat → Prop), capD t x = some ds → Rp w Fr mu t x vs → t.okN p →
    ds.length = vs.length ∧ ∀ (i : Nat) (d : Dyn) (v : Value), ds[i]? = some d → vs[i]? = some v → VR w Fr mu d v ∧ d.t.okN p
  | .tnil, _, vs, ds, p, h, hr, _ => by
    injection h with h
    subst h
    cases hr
    exact ⟨rfl, fun i d v hd => by simp at hd⟩
  | .tcons a b, x, vs, ds, p, h, hr, hn => by
    unfold capD at h
    split at h
    case h_2 => cases h
    rename_i l hl
    injection h with h
    subst h
    obtain ⟨u, us, rfl, h1, h2⟩ := hr
    obtain ⟨g1, g2⟩ := capD_ok b x.2 us l p hl h2 hn.2
    refine ⟨by simp [g1], fun i d v hd hv => ?_⟩
    cases i with
    | zero =>
      simp at hd hv
      subst hd; subst hv
      refine ⟨?_, hn.1⟩
      unfold VR
      show (match a.vk with | .dead => _ | .agg => _ | .tup => _ | .one => _)
      revert h1
      cases a.vk
      case dead => exact id
      case tup => exact False.elim
      case one => exact id
      case agg => exact id
    | succ i => exact g2 i d v (by simpa using hd) (by simpa using hv)
theorem run_enter {f : Nat} (he : Enters P f) (args : Array Value) : (callFunc f args).run P w = .ok (.enter f args) w := by
  obtain ⟨fn, h1, h2, h3⟩ := he
  have h4 : fn.body ≠ none := by intro hb; rw [hb] at h2; cases h2
  unfold callFunc
  simp [h1, h3, h4]
theorem heap_put (s : St) (t : Option Tmp) (d : Dyn) : (s.put t d).heap = s.heap := by
  unfold St.put
  cases t <;> (try split) <;> rfl
theorem Kept.imp {g g' : Bool} {h h' : List AObj} {w' : World} {Fr' : Nat → Prop} {mu' : Nat → Loc} (k : Kept g w Fr mu h w' Fr' mu' h') (hg : g' = true → g = true) : Kept g' w Fr mu h w' Fr' mu' h' := ⟨k.safe, fun h => k.same (hg h)⟩
theorem growOp_store {fn : Nat} {o : Oper} (h : growOp T fn s o = true) : (!isStore o.op) = true := by
  unfold growOp at h
  cases ho : o.op
  case store => rw [ho] at h; cases h
  all_goals rfl
theorem growOp_same {fn : Nat} {o : Oper} {s' : St} (hg : ∀ x, s'.get x = s.get x) (hh : s'.heap = s.heap) : growOp T fn s o = growOp T fn s' o := by
  have hm : ∀ l : List Operand, l.map s'.get = l.map s.get := fun l => List.map_congr_left fun x _ => hg x
  unfold growOp plainCall
  simp only [hg, hh, hm]
theorem getT_putT (t : Nat) (v : Dyn) (u : Nat) : ∀ (l : List (Nat × Dyn)), getT (putT l t v) u = if u = t then v else getT l u
  | [] => by
    unfold putT getT
    by_cases h : t = u
    · subst h; simp
    · rw [if_neg h, if_neg (Ne.symm h)]; rfl
  | (k, d) :: l => by
    unfold putT
    split
    · by_cases h : t = u
      · subst h
        rw [if_pos rfl, getT, if_pos rfl]
      · rw [getT, if_neg h, if_neg (Ne.symm h)]
    · split
      · rename_i hk
        subst hk
        by_cases h : k = u
        · subst h
          rw [if_pos rfl, getT, if_pos rfl]
        · rw [getT, if_neg h, if_neg (Ne.symm h), getT, if_neg h]
      · rename_i hk
        rw [getT, getT, getT_putT t v u l]
        by_cases h : k = u
        · subst h
          rw [if_pos rfl, if_pos rfl, if_neg hk]
        · rw [if_neg h, if_neg h]
theorem get_same {t : Nat} {d : Dyn} (h : getT s.tmps t = d) (x : Operand) : (⟨putT s.tmps t d, s.heap⟩ : St).get x = s.get x := by
  cases x with
  | tmp u =>
    show getT (putT s.tmps t d) u = getT s.tmps u
    rw [getT_putT]
    split
    · rename_i e; rw [e, h]
    · rfl
  | _ => rfl
theorem both_some {x y : Option R} (h : both x y = some r) : x = some r ∧ y = some r := by
  unfold both at h
  split at h
  · rename_i e; exact ⟨h, e ▸ h⟩
  · cases h
theorem equalIn_slice_nil {t e : TypeId} {ad : Option Addr} {l c : Nat} (h : P.underlying t = some (.slice e)) {w : World} (d : Nat) : (Op.equalIn (d + 1) t (.slice ad l c) (.slice none 0 0)).run P w = .ok ad.isNone w := by
  cases ad <;> simp [Op.equalIn, run_underlying h]
theorem binOp_slice_nil {t e : TypeId} {ad : Option Addr} {l c : Nat} (h : P.underlying t = some (.slice e)) {w : World} : (binOp .eql t (.slice ad l c) (.slice none 0 0)).run P w = .ok (.bool ad.isNone) w := by
  have h1 : (Op.equal t (.slice ad l c) (.slice none 0 0)).run P w = .ok ad.isNone w := equalIn_slice_nil h 9999
  simp only [binOp]
  simp [h1]
theorem binOp_slice_nil' {t e : TypeId} {ad : Option Addr} {l c : Nat} (h : P.underlying t = some (.slice e)) {w : World} : (binOp .neq t (.slice ad l c) (.slice none 0 0)).run P w = .ok (.bool (!ad.isNone)) w := by
  have h1 : (Op.equal t (.slice ad l c) (.slice none 0 0)).run P w = .ok ad.isNone w := equalIn_slice_nil h 9999
  simp only [binOp]
  simp [h1]
theorem nil_ok (hT : TabOK P T.tb) (H : Rep E w Fr mu s a) {o : Oper} {e z : Bool} (h : nilD T s o = some (e, z)) :
    (∃ op t x y u, o.op = .binOp op t x y u) ∧ ∃ v : Bool, (z = false → v = !e) ∧ ∀ w' : World, (execOp a.eval o).run P w' = .ok (.value (.bool v)) w' := by
  unfold nilD at h
  split at h
  all_goals try cases h
  all_goals
    rename_i t x u ho
    split at h
    case h_2 => cases h
    rename_i hti
    split at h
    case isTrue => cases h
    rename_i hns
    split at h
    case h_2 => cases h
    rename_i n hn
    injection h with h
    injection h with h1 h2
    subst h1
    have hu := (hT _ _ hti).und
    dsimp only at hu
    rcases lenD_ok H hn (H.op x).1 with ⟨_, ad, c, hv, hz⟩ | ⟨hs, _⟩
    case inr => exact absurd hs hns
    refine ⟨⟨_, _, _, _, _, ho⟩, ?_⟩
    have hy : a.eval (.const (.slice none 0 0)) = .slice none 0 0 := rfl
    have hzz : z = false → ad.isNone = false := by
      intro h0
      refine hz ?_
      intro hn0
      subst hn0
      subst h2
      cases h0
  · refine ⟨ad.isNone, fun h0 => hzz h0, fun w' => ?_⟩
    unfold execOp
    simp only [ho, hv, hy, Sem.run_bind, Sem.run_pure, eqGuard_plain (P := P) (w := w') (op := .eql) (t := t) (x := x) (y := .const (.slice none 0 0)) (v := .slice ad n c) (v' := .slice none 0 0) (by simp) (by simp), Result.andThen_ok, binOp_slice_nil hu]
  · refine ⟨!ad.isNone, fun h0 => by rw [hzz h0], fun w' => ?_⟩
    unfold execOp
    simp only [ho, hv, hy, Sem.run_bind, Sem.run_pure, eqGuard_plain (P := P) (w := w') (op := .neq) (t := t) (x := x) (y := .const (.slice none 0 0)) (v := .slice ad n c) (v' := .slice none 0 0) (by simp) (by simp), Result.andThen_ok, binOp_slice_nil' hu]
theorem opD_ok (hT : TabOK P T.tb) (hC : Sound P C) (H : Rep E w Fr mu s a) {fn : Nat} {o : Oper} {K : Dyn → St → Option R} (h : opD T C fn o s K = some r) {next : Act → World → Prop} {Q : Exit → Act → World → Prop}
    (hK : ∀ d s' v w' Fr' mu', K d s' = some r → VR w' Fr' mu' d v → d.t.okN (· < s'.heap.length) → Rep E w' Fr' mu' s' a → Kept (growOp T fn s o) w Fr mu s.heap w' Fr' mu' s'.heap → next (a.put o.dst v) w') : o.wp P a w next Q := by
  have plain : ∀ {d : Dyn} {s' : St}, StepOK P E w Fr mu s a o d s' → K d s' = some r → o.wp P a w next Q := by
    rintro d s' ⟨n, v, w', Fr', mu', hr, hn, hv, hok, H', hkept⟩ hk
    unfold Oper.wp
    rw [hr]
    rcases hn with rfl | ⟨rfl, rfl⟩
    · exact hK d s' v w' Fr' mu' hk hv hok H' (hkept.imp growOp_store)
    · exact hK d s' undef w' Fr' mu' hk hv hok H' (hkept.imp growOp_store)
  unfold opD at h
  split at h
  · rename_i c x y ho
    split at h
    case h_2 => cases h
    rename_i p hq
    have hc := (H.op c).1
    rw [hq] at hc
    have hc := VR_bool hc
    have hrun : (execOp a.eval o).run P w = .ok (.value (if p then a.eval x else a.eval y)) w := by
      unfold execOp
      simp [ho, hc, asBool]
    unfold Oper.wp
    rw [hrun]
    rcases br_some h with ⟨e, h1⟩ | ⟨e, h1⟩ <;> subst e <;> clear h
    · split at h1
      · exact hK _ s _ w Fr mu h1 (H.op x).1 (H.op x).2 H Kept.refl
      · cases h1
    · split at h1
      · exact hK _ s _ w Fr mu h1 (H.op y).1 (H.op y).2 H Kept.refl
      · cases h1
  · rename_i f args ats ho
    split at h
    case h_2 => cases h
    rename_i n cap x hq
    split at h
    case h_2 => cases h
    rename_i ds hcap
    have hf := (H.op f).1
    have hfn := (H.op f).2
    rw [hq] at hf hfn
    obtain ⟨cv, hf, hrc⟩ := hf
    injection hf with hf
    obtain ⟨c1, c2⟩ := capD_ok cap x cv ds (· < s.heap.length) hcap hrc hfn
    obtain ⟨hen, hcall⟩ := callD_ok (vs := args.toList.map a.eval ++ cv) hC H h (by simp [c1]) (by
      intro i d v hd hv
      by_cases hi : i < args.toList.length
      · rw [List.getElem?_append_left (by simpa using hi), List.getElem?_map] at hd hv
        rw [List.getElem?_eq_getElem hi] at hd hv
        injection hd with hd
        injection hv with hv
        subst hd; subst hv
        exact H.op _
      · rw [List.getElem?_append_right (by simpa using hi)] at hd hv
        simp only [List.length_map] at hd hv
        exact c2 _ d v hd hv)
    have hrun : (execOp a.eval o).run P w = .ok (.enter n (args.toList.map a.eval ++ cv).toArray) w := by
      have : (args.toList.map a.eval ++ cv).toArray = #[] ++ args.map a.eval ++ cv.toArray := by
        apply Array.ext'; simp
      unfold execOp
      simp only [ho, resolve, hf, Deferred.ofValue, Sem.run_bind, Sem.run_pure, Result.andThen_ok, invoke]
      rw [run_enter hen, this]
    unfold Oper.wp
    rw [hrun, Oper.upon_enter]
    refine Calls.mono hcall ?_
    rintro e w' ⟨v, d, s', Fr', mu', rfl, hk, hv, hok, H', hkept⟩
    refine hK d s' v w' Fr' mu' hk hv hok H' (hkept.imp fun hg => ?_)
    unfold growOp at hg
    rw [ho] at hg
    dsimp only at hg
    rw [hq] at hg
    dsimp only at hg
    rw [hcap] at hg
    exact hg
  · split at h
    · rename_i e z hnil
      obtain ⟨_, v, hz, hrun⟩ := nil_ok hT H hnil
      have hk : K ⟨.bool, v⟩ s = some r := by
        rcases br_some h with ⟨_, h⟩ | ⟨h0, h⟩
        · obtain ⟨h1, h2⟩ := both_some h
          cases v <;> assumption
        · rw [hz h0]; exact h
      unfold Oper.wp
      rw [hrun w]
      exact hK _ s _ w Fr mu hk rfl trivial H Kept.refl
    split at h
    case h_2 => cases h
    rename_i b d s' hop
    obtain ⟨rfl, h⟩ := br_none h
    exact plain (opP_ok hT H hop) h
theorem VR_undef {w : World} {Fr : Nat → Prop} {mu : Nat → Loc} : VR w Fr mu undefD undef := ⟨[], rfl, rfl⟩
theorem getT_live {l : List (Nat × Dyn)} {t : Nat} {d : Dyn} (h : getT l t = d) (hd : d.t.alive = true) : (t, d) ∈ l := by
  rcases getT_mem (l := l) (t := t) with h' | h'
  · rwa [h] at h'
  · rw [h] at h'; rw [h'] at hd; cases hd
theorem getT_bool {l : List (Nat × Dyn)} {t : Nat} {b : Bool} (h : getT l t = ⟨.bool, b⟩) : (t, (⟨.bool, b⟩ : Dyn)) ∈ l := by
  rcases getT_mem (l := l) (t := t) with h' | h'
  · rwa [h] at h'
  · rw [h] at h'; injection h' with h1 h2; cases h1
theorem Rep.slot (H : Rep E w Fr mu s a) {t : Nat} {d : Dyn} (ht : t < a.tmps.size) (hv : VR w Fr mu d (a.tmps.getD t undef)) (hn : d.t.okN (· < s.heap.length)) : Rep E w Fr mu ⟨putT s.tmps t d, s.heap⟩ a := by
  refine ⟨H.si, fun u d' hm => ?_, H.df, sorted_putT H.so⟩
  rcases mem_putT hm with ⟨rfl, rfl⟩ | hm
  · exact ⟨ht, hv, hn⟩
  · exact H.tm u d' hm
def PutOK (A : Act → Prop) (ops : Array Oper) : Prop := ∀ (i : Nat) (o : Oper), ops[i]? = some o → ∀ (a : Act) (v : Value), A a → A (a.put o.dst v)
theorem stepD_ok (hT : TabOK P T.tb) (hC : Sound P C) (H : Rep E w Fr mu s a) {fn nt : Nat} {A : Act → Prop} (hS : ∀ a, A a → a.tmps.size = nt) {ops : Array Oper} (hP : PutOK A ops) (hA : A a) {i : Nat} {K : St → Option R} (h : stepD T C fn nt ops i s K = some r) {next : Act → World → Prop} {Q : Exit → Act → World → Prop}
    (hK : ∀ s' a' w' Fr' mu', K s' = some r → Rep E w' Fr' mu' s' a' → A a' → (∀ o, ops[i]? = some o → Kept (growOp T fn s o) w Fr mu s.heap w' Fr' mu' s'.heap) → next a' w') : wpOp P ops Q i next a w := by
  unfold stepD at h
  split at h
  · cases h
  rename_i o ho
  split at h
  · cases h
  rename_i hd
  have hd' : ∀ t, o.dst = some t → t < a.tmps.size := by
    intro t ht
    simp only [Bool.not_eq_true', Bool.not_eq_false] at hd
    rw [ht] at hd
    simp only [dstOk, decide_eq_true_eq] at hd
    rw [hS _ hA]; exact hd
  have fin : ∀ (s0 : St), Rep E w Fr mu s0 a → s0.heap = s.heap → growOp T fn s o = growOp T fn s0 o → opD T C fn o s0 (fun v s' => K (s'.put o.dst v)) = some r → o.wp P a w next Q := by
    intro s0 H0 hs0 hgr h
    refine opD_ok hT hC H0 h ?_
    intro d s' v w' Fr' mu' hk hv hn H' hkept
    refine hK _ _ _ _ _ hk (H'.put o.dst hd' hv hn) (hP i o ho a _ hA) fun o' ho' => ?_
    rw [ho] at ho'
    injection ho' with ho'
    subst ho'
    rw [hgr, ← hs0, heap_put]
    exact hkept
  unfold wpOp
  rw [ho]
  dsimp only
  split at h
  · rename_i hg
    rw [if_pos (by simp [Region.wanted, hg])]
    exact .inl (fin s H rfl rfl h)
  · rename_i j want hg
    split at h
    · cases h
    rename_i t ht
    have skip : ∀ (s0 : St), Rep E w Fr mu s0 a → s0.heap = s.heap → K (s0.put o.dst undefD) = some r → next (a.put o.dst undef) w := by
      intro s0 H0 hs0 h
      exact hK _ _ _ _ _ h (H0.put o.dst hd' VR_undef trivial) (hP i o ho a _ hA) fun o' _ => by rw [heap_put, hs0]; exact Kept.refl
    split at h
    case h_3 => cases h
    case h_2 hb =>
      obtain ⟨h1, ⟨vs, h2, h3⟩, _⟩ := H.tm t _ (getT_live hb rfl)
      have h3 : vs = [] := h3
      subst h3
      have hy : yielded ops a.tmps j = none := by
        unfold yielded
        rw [ht]
        have : a.tmps[t]? = some (.tuple #[]) := by
          rw [Array.getElem?_eq_getElem h1]
          congr 1
          simpa [h1] using h2
        simp [this]
      rw [if_neg (by unfold Region.wanted; rw [hg]; show ¬ (yielded ops a.tmps j == some want) = true; rw [hy]; simp)]
      exact skip s H rfl h
    rename_i b hb
    have hmem := getT_bool hb
    obtain ⟨h1, h2, _⟩ := H.tm t _ hmem
    have h2 := VR_bool h2
    have hy : yielded ops a.tmps j = some b := by
      unfold yielded
      rw [ht]
      have : a.tmps[t]? = some (.bool b) := by
        rw [Array.getElem?_eq_getElem h1]
        congr 1
        simpa [h1] using h2
      simp [this]
    have hwant : Region.wanted o (yielded ops a.tmps) = (b == want) := by
      unfold Region.wanted
      rw [hg]
      show (yielded ops a.tmps j == some want) = _
      rw [hy]
      cases b <;> cases want <;> rfl
    have hs1 : ∀ c, b = c → Rep E w Fr mu ⟨putT s.tmps t ⟨.bool, c⟩, s.heap⟩ a := by
      intro c hc
      subst hc
      exact H.slot h1 (by rw [h2]; exact rfl) trivial
    rcases br_some h with ⟨rfl, h⟩ | ⟨rfl, h⟩
    · cases want with
      | true =>
        rw [if_pos (by rw [hwant]; rfl)]
        exact .inl (fin _ (hs1 true rfl) rfl (growOp_same (get_same hb) rfl) h)
      | false =>
        rw [if_neg (by rw [hwant]; simp)]
        exact skip _ (hs1 true rfl) rfl h
    · cases want with
      | true =>
        rw [if_neg (by rw [hwant]; simp)]
        exact skip _ (hs1 false rfl) rfl h
      | false =>
        rw [if_pos (by rw [hwant]; rfl)]
        exact .inl (fin _ (hs1 false rfl) rfl (growOp_same (get_same hb) rfl) h)
theorem norm_ok (H : Rep E w Fr mu s a) {s' : St} (h : s.norm E.m = some s') : ∃ mu', Rep E w Fr mu' s' a := by
  unfold St.norm at h
  dsimp only at h
  generalize reach s.heap 3 (s.tmps.foldl (fun l p => idsT p.2.t l) (List.range E.m)) = ids at h
  split at h
  case isFalse => cases h
  rename_i hc
  simp only [Bool.and_eq_true, decide_eq_true_eq] at hc
  obtain ⟨⟨⟨c1, c2⟩, c3⟩, c4⟩ := hc
  injection h with h
  subst h
  have hso := H.si.so.sub c1 c2 (f := fun o => (renR (posN · ids)).obj o) (fun o => .inl rfl)
  have hlen : (ids.map fun i => (renR (posN · ids)).obj (s.heap.getD i gone)).length = ids.length := by simp
  refine ⟨muOf mu ids, ⟨H.si.grow, H.si.fr0, H.si.frN, H.si.frL, hso.hh, hso.obj, hso.nm, hso.sep, ?_, ?_, ?_, H.si.gl⟩, ?_, H.df, by simpa [Function.comp_def] using H.so⟩
  · intro j o hj ho
    obtain ⟨hlt, hm, o0, h0, rfl⟩ := sub_get (f := fun o => (renR (posN · ids)).obj o) c1 hj
    rw [occ_obj] at ho
    have a1 : occ mu (ids.getD j 0) o0 := by
      obtain ⟨t, x⟩ := o0; cases t <;> exact ho
    exact H.si.own _ o0 h0 a1
  · intro j o hjm hj
    obtain ⟨hlt, hm, o0, h0, rfl⟩ := sub_get (f := fun o => (renR (posN · ids)).obj o) c1 hj
    have e : ids.getD j 0 = j := by
      have h1 : (ids.take E.m)[j]? = (List.range E.m)[j]? := by rw [c4]
      rw [List.getElem?_take, if_pos hjm, List.getElem?_range hjm] at h1
      rw [List.getD_eq_getElem?_getD, h1]; rfl
    have hm : muOf mu ids j = mu j := by unfold muOf; rw [e]
    rw [e] at h0
    have := H.si.hand j o0 hjm h0
    rw [hm]
    obtain ⟨t, x⟩ := o0
    cases t with
    | gone => trivial
    | held => exact this
    | box t => exact this
    | row e t f => exact this
  · rw [hlen]
    have := congrArg List.length c4
    simp at this; omega
  · intro u d hm
    obtain ⟨⟨u0, d0⟩, hm0, e⟩ := List.mem_map.1 hm
    injection e with e1 e2
    subst e1; subst e2
    obtain ⟨h1, h2, h3⟩ := H.tm u0 d0 hm0
    have hn0 : d0.t.okN (· ∈ ids) := idsT_ok d0.t [] (subN_ok (List.all_eq_true.1 c3 _ hm0))
    refine ⟨h1, VR_tr (renR_T _) posR_OK hn0 h2, ?_⟩
    rw [hlen]
    exact posR_okN d0.t d0.x hn0
theorem normF_ok (H : Rep E w Fr mu s a) {s' : St} {fs : List Nat} (hfs : fs.length = E.m) (h : s.normF fs = some s') : ∃ mu', Rep E w Fr mu' s' a := by
  unfold St.normF at h
  dsimp only at h
  generalize reach s.heap 3 (s.tmps.foldl (fun l p => idsT p.2.t l) fs) = ids at h
  split at h
  case isFalse => cases h
  rename_i hc
  simp only [Bool.and_eq_true, decide_eq_true_eq] at hc
  obtain ⟨⟨⟨⟨c1, c2⟩, c3⟩, c4⟩, c5⟩ := hc
  injection h with h
  subst h
  have hso := H.si.so.sub c1 c2 (f := fun o => (renR (posN · ids)).obj o) (fun o => .inl rfl)
  have hlen : (ids.map fun i => (renR (posN · ids)).obj (s.heap.getD i gone)).length = ids.length := by simp
  refine ⟨muOf mu ids, ⟨H.si.grow, H.si.fr0, H.si.frN, H.si.frL, hso.hh, hso.obj, hso.nm, hso.sep, ?_, ?_, ?_, H.si.gl⟩, ?_, H.df, by simpa [Function.comp_def] using H.so⟩
  · intro j o hj ho
    obtain ⟨hlt, hm, o0, h0, rfl⟩ := sub_get (f := fun o => (renR (posN · ids)).obj o) c1 hj
    rw [occ_obj] at ho
    have a1 : occ mu (ids.getD j 0) o0 := by
      obtain ⟨t, x⟩ := o0; cases t <;> exact ho
    exact H.si.own _ o0 h0 a1
  · intro j o hjm hj
    obtain ⟨hlt, hm, o0, h0, rfl⟩ := sub_get (f := fun o => (renR (posN · ids)).obj o) c1 hj
    have e : ids.getD j 0 = fs.getD j 0 := by
      have h1 : (ids.take fs.length)[j]? = fs[j]? := by rw [c4]
      rw [List.getElem?_take, if_pos (by omega)] at h1
      rw [List.getD_eq_getElem?_getD, List.getD_eq_getElem?_getD, h1]
    have hk := List.all_eq_true.1 c5 j (List.mem_range.2 (by omega))
    rw [Bool.or_eq_true] at hk
    rcases hk with hk | hk
    · have e2 : fs.getD j 0 = j := by simpa using hk
      rw [e2] at e
      have hm : muOf mu ids j = mu j := by unfold muOf; rw [e]
      rw [e] at h0
      have := H.si.hand j o0 hjm h0
      rw [hm]
      obtain ⟨t, x⟩ := o0
      cases t with
      | gone => trivial
      | held => exact this
      | box t => exact this
      | row e t f => exact this
    · rw [← e, List.getD_eq_getElem?_getD, h0] at hk
      obtain ⟨t, x⟩ := o0
      cases t with
      | gone => trivial
      | held => cases hk
      | box t => cases hk
      | row e t f =>
        cases f with
        | false => trivial
        | true => cases hk
  · rw [hlen]
    have := congrArg List.length c4
    simp at this; omega
  · intro u d hm
    obtain ⟨⟨u0, d0⟩, hm0, e⟩ := List.mem_map.1 hm
    injection e with e1 e2
    subst e1; subst e2
    obtain ⟨h1, h2, h3⟩ := H.tm u0 d0 hm0
    have hn0 : d0.t.okN (· ∈ ids) := idsT_ok d0.t [] (subN_ok (List.all_eq_true.1 c3 _ hm0))
    refine ⟨h1, VR_tr (renR_T _) posR_OK hn0 h2, ?_⟩
    rw [hlen]
    exact posR_okN d0.t d0.x hn0
theorem off_ok (H : Rep E w Fr mu s a) (t : Nat) : Rep E w Fr mu ⟨offT s.tmps t, s.heap⟩ a := by
  have hsub : ∀ (l : List (Nat × Dyn)), (offT l t).Sublist l := by
    intro l
    induction l with
    | nil => exact List.Sublist.refl _
    | cons p l ih =>
      obtain ⟨u, d⟩ := p
      unfold offT
      split
      · exact ih.cons _
      · exact ih.cons_cons _
  exact ⟨H.si, fun u d hm => H.tm u d ((hsub _).subset hm), H.df, List.Pairwise.sublist (List.Sublist.map _ (hsub _)) H.so⟩
theorem cut_ok (H : Rep E w Fr mu s a) (fn : Nat) {t : Nat} {b : Bool} (hb : getT s.tmps t = ⟨.bool, b⟩) : Rep E w Fr mu (cutT T fn s t b) a := by
  unfold cutT
  split
  · obtain ⟨h1, h2, _⟩ := H.tm t _ (getT_bool hb)
    exact H.slot h1 h2 trivial
  · exact off_ok H t
def exitOf : Ex → Exit
  | .normal => .normal
  | .exit i => .exit i
  | .ret => .ret
theorem quietW_ok (hT : TabOK P T.tb) (H : Rep E w Fr mu s a) {fn : Nat} {o : Oper} (hw : quiet0 s o.op = true) {d : Dyn} {s' : St} (h : opP T fn o s = some (true, d, s')) : StepQ P w Fr mu s a o d s' := by
  cases ho : o.op
  case assign x =>
    rw [ho] at hw
    unfold opP at h
    rw [ho] at h
    dsimp only at h
    split at h
    · rename_i e0 _ hq
      have hw : noNil (s.get x).t = true := hw
      rw [hq] at hw
      cases hw
    · unfold put1 at h
      split at h
      case isFalse => cases h
      injection h with h
      injection h with _ h
      injection h with h2 h3
      subst h2; subst h3
      exact ok_move (.inr ho) H
  case move x => exact ok_move' H ho h
  case build t ps => exact ok_build hT H ho h
  case nilCheck x => exact ok_nilCheck H ho h
  case binOp op xt x y yt => exact ok_binOp hT H ho h
  case unOp op xt x => exact ok_unOp H ho h
  case convert src dst x => exact ok_convert hT H ho h
  case fieldAddr t x f => exact ok_fieldAddr hT H ho h
  case field t x f => exact ok_field hT H ho h
  case indexAddr t x y => exact ok_indexAddr hT H ho h
  case index t x y => exact ok_index hT H ho h
  case extract x i => exact ok_extract H ho h
  case slice t x lo hi mx =>
    cases mx with
    | none =>
      rw [ho] at hw
      exact ok_sliceQ hT H ho hw h
    | some mx => rw [ho] at hw; cases hw
  case makeFunc f first cap =>
    cases f with
    | func f => exact ok_makeFunc H ho h
    | _ => unfold opP at h; rw [ho] at h; cases h
  case call c =>
    obtain ⟨callee, args, ats⟩ := c
    rw [ho] at hw
    unfold opP at h
    rw [ho] at h
    dsimp only at h
    cases callee with
    | builtin b =>
      dsimp only at h
      cases b <;> first
        | exact ok_len hT H ho h
        | cases hw
    | _ => cases h
  all_goals (rw [ho] at hw; cases hw)
theorem takeQ_some {o : Oper} {listed : Array Bool} {ops : Array Oper} {i : Nat} {B : List Nat} (ho : ops[i]? = some o) (hq : takeQ ops listed s i = some B) :
    (quiet0 s o.op = true ∨ quietL s o.op = true) ∧ (∀ cs b, o.op ≠ .select cs b) ∧ ∃ B', Before .any ops i B' listed ∧ (∀ j ∈ B', calm ops o j = true) ∧ (quiet0 s o.op = false → B' = B) := by
  unfold takeQ at hq
  simp only [ho] at hq
  split at hq
  case isFalse => cases hq
  rename_i hk
  split at hq
  case isFalse => cases hq
  rename_i hb
  simp only [Bool.and_eq_true, Bool.or_eq_true] at hk hb
  obtain ⟨hb1, hb2⟩ := hb
  have hsel : ∀ cs b, o.op ≠ .select cs b := by
    intro cs b e
    rw [e] at hk
    rcases hk with hk | hk <;> cases hk
  refine ⟨hk, hsel, _, befOK_ok hb1, List.all_eq_true.1 hb2, fun hw => ?_⟩
  rw [if_neg (by rw [hw]; simp)] at hq
  split at hq
  case isFalse => cases hq
  injection hq with hq
theorem quiet_ok (hT : TabOK P T.tb) (H : Rep E w Fr mu s a) {fn : Nat} {o : Oper} (hk : quiet0 s o.op = true ∨ quietL s o.op = true) {K : Dyn → St → Option R} {r : R} (h : opD T C fn o s K = some r) :
    ∃ (d : Dyn) (v : Value), K d s = some r ∧ VR w Fr mu d v ∧ d.t.okN (· < s.heap.length) ∧
      ∀ w' : World, (quiet0 s o.op = false → ∀ b, Safe Fr mu s.heap b → w'.heap[b]? = w.heap[b]?) → (execOp a.eval o).run P w' = .ok (.value v) w' := by
  have hcase : (∃ e z, nilD T s o = some (e, z) ∧ br z (both (K ⟨.bool, true⟩ s) (K ⟨.bool, false⟩ s)) (K ⟨.bool, !e⟩ s) = some r) ∨ ∃ b d s', opP T fn o s = some (b, d, s') ∧ br b (K d s') none = some r := by
    unfold opD at h
    split at h
    · rename_i e; rw [e] at hk; rcases hk with hk | hk <;> cases hk
    · rename_i e; rw [e] at hk; rcases hk with hk | hk <;> cases hk
    · split at h
      · rename_i e z hnil; exact .inl ⟨e, z, hnil, h⟩
      split at h
      · rename_i b d s' e; exact .inr ⟨b, d, s', e, h⟩
      · cases h
  rcases hcase with ⟨e, z, hnil, h⟩ | hopP
  · obtain ⟨_, v, hz, hrun⟩ := nil_ok hT H hnil
    refine ⟨⟨.bool, v⟩, .bool v, ?_, rfl, trivial, fun w' _ => hrun w'⟩
    rcases br_some h with ⟨_, h⟩ | ⟨h0, h⟩
    · obtain ⟨h1, h2⟩ := both_some h
      cases v <;> assumption
    · rw [hz h0]; exact h
  have hopP : ∃ d s', opP T fn o s = some (true, d, s') ∧ K d s' = some r := by
    obtain ⟨b, d, s', e, h⟩ := hopP
    obtain ⟨rfl, h⟩ := br_none h
    exact ⟨d, s', e, h⟩
  obtain ⟨d, s', hop, hK⟩ := hopP
  by_cases hw : quiet0 s o.op = true
  · obtain ⟨rfl, v, h1, h2, h3⟩ := quietW_ok hT H hw hop
    exact ⟨d, v, hK, h1, h2, fun w' _ => h3 w'⟩
  · have hk := hk.resolve_left hw
    have hw : quiet0 s o.op = false := by simpa using hw
    cases hoo : o.op
    case load t x =>
      rw [hoo] at hk
      obtain ⟨rfl, v, h1, h2, h3⟩ := (ok_load2 hT H hoo hop).2 hk
      exact ⟨d, v, hK, h1, h2, fun w' ha => h3 w' (ha (by rw [hoo] at hw; exact hw))⟩
    case lookup t x y c =>
      obtain ⟨rfl, v, h1, h2, h3⟩ := ok_lookup hT H hoo hop
      exact ⟨d, v, hK, h1, h2, fun w' ha => h3 w' (ha (by rw [hoo] at hw; exact hw))⟩
    all_goals (rw [hoo] at hk; cases hk)
theorem pickQ_some {ops : Array Oper} {listed : Array Bool} : ∀ {l : List Nat} {i : Nat} {B : List Nat}, pickQ ops listed s l = some (i, B) → i ∈ l ∧ takeQ ops listed s i = some B
  | [], _, _, h => by cases h
  | j :: l, i, B, h => by
    unfold pickQ at h
    split at h
    · rename_i B' hB
      injection h with h
      injection h with h1 h2
      subst h1; subst h2
      exact ⟨List.mem_cons_self, hB⟩
    · obtain ⟨h1, h2⟩ := pickQ_some h
      exact ⟨List.mem_cons_of_mem _ h1, h2⟩
theorem boths_some : ∀ {l : List (Option R)}, boths l = some r → ∀ x ∈ l, x = some r
  | [], h, _, _ => by cases h
  | [x], h, y, hy => by
    simp only [List.mem_singleton] at hy
    subst hy; exact h
  | x :: y :: l, h, z, hz => by
    obtain ⟨h1, h2⟩ := both_some (show both x (boths (y :: l)) = some r from h)
    rcases List.mem_cons.1 hz with rfl | hz
    · exact h1
    · exact boths_some h2 z hz
theorem anyD_ok (hT : TabOK P T.tb) (hC : Sound P C) {fn nt : Nat} {A : Act → Prop} (hS : ∀ a, A a → a.tmps.size = nt) {ops : Array Oper} (hP : PutOK A ops) {Q : Act → World → Prop} {K : St → Option R}
    (hK : ∀ s' a' w' Fr' mu', K s' = some r → Rep E w' Fr' mu' s' a' → A a' → Q a' w') :
    ∀ (n : Nat) (listed : Array Bool) (need : List Nat) (s : St) (a : Act) (w : World) (Fr : Nat → Prop) (mu : Nat → Loc), Rep E w Fr mu s a → A a → anyD T C fn nt ops n listed need s K = some r → wpAnyX P .any ops Q n listed need (Safe Fr mu s.heap) a w := by
  intro n
  induction n with
  | zero =>
    intro listed need s a w Fr mu H hnt h
    unfold anyD at h
    split at h
    · rename_i e; exact ⟨e, hK s a w Fr mu h H hnt⟩
    · cases h
  | succ n ih =>
    intro listed need s a w Fr mu H hnt h
    unfold anyD at h
    split at h
    · rename_i e
      refine ⟨fun _ => hK s a w Fr mu h H hnt, fun i hi => ?_⟩
      rw [e] at hi; cases hi
    rename_i hne
    split at h
    · rename_i i B hq
      obtain ⟨hi, hq⟩ := pickQ_some hq
      unfold stepD at h
      split at h
      · cases h
      rename_i o ho
      split at h
      · cases h
      rename_i hd
      have hd' : ∀ t, o.dst = some t → t < a.tmps.size := by
        intro t ht
        simp only [Bool.not_eq_true', Bool.not_eq_false] at hd
        rw [ht] at hd
        simp only [dstOk, decide_eq_true_eq] at hd
        rw [hS _ hnt]; exact hd
      obtain ⟨hqk, hsel, B', hb, hcalm, hBB⟩ := takeQ_some ho hq
      have first : ∀ (s0 : St) (d : Dyn) (v : Value), s0.heap = s.heap → Rep E w Fr mu s0 a → VR w Fr mu d v → d.t.okN (· < s0.heap.length) →
          here (fun s => anyD T C fn nt ops n (listed.setIfInBounds i true) (B ++ need) s K) (s0.put o.dst d) = some r →
          ((Region.wanted o (yielded ops a.tmps) = true ∧ ∀ w' : World, (quiet0 s o.op = false → ∀ b, Safe Fr mu s0.heap b → w'.heap[b]? = w.heap[b]?) → (execOp a.eval o).run P w' = .ok (.value v) w') ∨ (Region.wanted o (yielded ops a.tmps) = false ∧ v = undef)) →
          wpAnyX P .any ops Q (n + 1) listed need (Safe Fr mu s.heap) a w := by
        intro s0 d v hs0 H0 hv hn hk hy
        have hput := ih (listed.setIfInBounds i true) (B ++ need) (s0.put o.dst d) (a.put o.dst v) w Fr mu (H0.put o.dst hd' hv hn) (hP i o ho a _ hnt) hk
        rw [heap_put, hs0] at hput
        rw [hs0] at hy
        refine wpAnyX_less _ _ (B ++ need) need _ _ _ (fun j hj => List.mem_append_right _ hj) ?_
        refine wpAnyX_first ho hsel (v := v) (dep := !quiet0 s o.op) (B := B') ?_ n listed _ a w hb hi (hy.imp (fun h => ⟨h.1, fun w' hw' => h.2 w' fun hwl => hw' (by rw [hwl]; rfl)⟩) id) hput
        intro j hj oj hoj
        have h1 := hcalm j hj
        unfold calm at h1
        rw [hoj] at h1
        simp only [Bool.and_eq_true] at h1
        refine ⟨h1.1, fun cs b e => ?_, fun hdep => List.mem_append_left _ ?_⟩
        · rw [e] at h1
          cases h1.2
        · rw [← hBB (by simpa using hdep)]
          exact hj
      split at h
      · rename_i hg
        obtain ⟨d, v, hk, hv, hn, hrun⟩ := quiet_ok hT H hqk h
        exact first s d v rfl H hv hn hk (.inl ⟨by simp [Region.wanted, hg], hrun⟩)
      · rename_i j want hg
        split at h
        · cases h
        rename_i t ht
        split at h
        case h_3 => cases h
        case h_2 hb =>
          obtain ⟨h1, ⟨vs, h2, h3⟩, _⟩ := H.tm t _ (getT_live hb rfl)
          have h3 : vs = [] := h3
          subst h3
          have hy : yielded ops a.tmps j = none := by
            unfold yielded
            rw [ht]
            have : a.tmps[t]? = some (.tuple #[]) := by
              rw [Array.getElem?_eq_getElem h1]
              congr 1
              simpa [h1] using h2
            simp [this]
          exact first s undefD undef rfl H VR_undef trivial h (.inr ⟨by unfold Region.wanted; rw [hg]; show (yielded ops a.tmps j == some want) = false; rw [hy]; rfl, rfl⟩)
        rename_i b hb
        have hmem := getT_bool hb
        obtain ⟨h1, h2, _⟩ := H.tm t _ hmem
        have h2 := VR_bool h2
        have hy : yielded ops a.tmps j = some b := by
          unfold yielded
          rw [ht]
          have : a.tmps[t]? = some (.bool b) := by
            rw [Array.getElem?_eq_getElem h1]
            congr 1
            simpa [h1] using h2
          simp [this]
        have hwant : Region.wanted o (yielded ops a.tmps) = (b == want) := by
          unfold Region.wanted
          rw [hg]
          show (yielded ops a.tmps j == some want) = _
          rw [hy]
          cases b <;> cases want <;> rfl
        have hs1 : ∀ c, b = c → Rep E w Fr mu ⟨putT s.tmps t ⟨.bool, c⟩, s.heap⟩ a := by
          intro c hc
          subst hc
          exact H.slot h1 (by rw [h2]; exact rfl) trivial
        have hqs : ∀ c, b = c → quiet0 ⟨putT s.tmps t ⟨.bool, c⟩, s.heap⟩ o.op = quiet0 s o.op ∧ quietL ⟨putT s.tmps t ⟨.bool, c⟩, s.heap⟩ o.op = quietL s o.op := by
          intro c hc
          subst hc
          have hg := get_same hb
          constructor
          · cases o.op <;> first | rfl | (show noNil _ = noNil _; rw [hg]) | (rename_i mx; cases mx <;> first | rfl | (show isPart _ = isPart _; rw [hg]))
          · cases o.op <;> first | rfl | (show still _ = still _; rw [hg])
        have hq1 : ∀ c, b = c → quiet0 ⟨putT s.tmps t ⟨.bool, c⟩, s.heap⟩ o.op = true ∨ quietL ⟨putT s.tmps t ⟨.bool, c⟩, s.heap⟩ o.op = true := by
          intro c hc
          rw [(hqs c hc).1, (hqs c hc).2]
          exact hqk
        have run1 : ∀ c, b = c → opD T C fn o ⟨putT s.tmps t ⟨.bool, c⟩, s.heap⟩ (fun v s' => here (fun s => anyD T C fn nt ops n (listed.setIfInBounds i true) (B ++ need) s K) (s'.put o.dst v)) = some r → Region.wanted o (yielded ops a.tmps) = true → wpAnyX P .any ops Q (n + 1) listed need (Safe Fr mu s.heap) a w := by
          intro c hc h hw
          obtain ⟨d, v, hk, hv, hn, hrun⟩ := quiet_ok hT (hs1 c hc) (hq1 c hc) h
          exact first ⟨putT s.tmps t ⟨.bool, c⟩, s.heap⟩ d v rfl (hs1 c hc) hv hn hk (.inl ⟨hw, fun w' hw' => hrun w' fun hz => hw' ((hqs c hc).1 ▸ hz)⟩)
        have skip1 : ∀ c, b = c → here (fun s => anyD T C fn nt ops n (listed.setIfInBounds i true) (B ++ need) s K) ((⟨putT s.tmps t ⟨.bool, c⟩, s.heap⟩ : St).put o.dst undefD) = some r → Region.wanted o (yielded ops a.tmps) = false → wpAnyX P .any ops Q (n + 1) listed need (Safe Fr mu s.heap) a w := by
          intro c hc h hw
          exact first ⟨putT s.tmps t ⟨.bool, c⟩, s.heap⟩ undefD undef rfl (hs1 c hc) VR_undef trivial h (.inr ⟨hw, rfl⟩)
        rcases br_some h with ⟨rfl, h⟩ | ⟨rfl, h⟩
        · cases want with
          | true => exact run1 true rfl h (by rw [hwant]; rfl)
          | false => exact skip1 true rfl h (by rw [hwant]; rfl)
        · cases want with
          | true => exact skip1 false rfl h (by rw [hwant]; rfl)
          | false => exact run1 false rfl h (by rw [hwant]; rfl)
    · refine ⟨fun e => absurd e hne, fun i hi => ?_⟩
      have h := boths_some h _ (List.mem_map.2 ⟨i, hi, rfl⟩)
      split at h
      case h_2 => cases h
      rename_i o ho
      split at h
      · cases h
      rename_i hgr
      refine stepD_ok hT hC H hS hP hnt h ?_
      intro s' a' w' Fr' mu' hk H' hnt' hkept
      have hkept := hkept o ho
      refine ⟨Safe Fr' mu' s'.heap, hkept.safe, fun hi' => ?_, ih _ need s' a' w' Fr' mu' H' hnt' hk⟩
      refine hkept.same ?_
      simp only [Bool.and_eq_true, Bool.not_eq_true', not_and, Bool.not_eq_false] at hgr
      exact hgr (by simpa using hi')
structure AOK (nt : Nat) (A : Act → Prop) (l : List Nat) : Prop where
  size : ∀ a, A a → a.tmps.size = nt
  put : ∀ u ∈ l, ∀ (a : Act) (v : Value), A a → A (a.put (some u) v)
theorem AOK.less {nt : Nat} {A : Act → Prop} {l l' : List Nat} (h : AOK nt A l) (hl : ∀ u ∈ l', u ∈ l) : AOK nt A l' := ⟨h.size, fun u hu => h.put u (hl u hu)⟩
theorem AOK.ops {nt i : Nat} {d : Bool} {A : Act → Prop} {ops : Array Oper} (h : AOK nt A (wr (.region i ops d))) : PutOK A ops := by
  intro j o hj a v hA
  cases hd : o.dst with
  | none => exact hA
  | some t =>
    refine h.put t ?_ a v hA
    show t ∈ ops.toList.flatMap wrO
    refine List.mem_flatMap.2 ⟨o, ?_, by unfold wrO; rw [hd]; simp⟩
    exact Array.mem_toList_iff.2 (Array.mem_of_getElem? hj)
def FreeG (G : (Nat → Prop) → (Nat → Prop) → R → World → Prop) : Prop := ∀ (Fr Z Fr' Z' : Nat → Prop) (r : R) (w w' : World), G Fr Z r w → G Fr' Z' r w'
def KOK (E : Env) (A : Act → Prop) (G : (Nat → Prop) → (Nat → Prop) → R → World → Prop) (K : Kn R) (Q : Exit → Act → World → Prop) : Prop :=
  ∀ e r s a w Fr mu, K.go e s = some r → Rw E w Fr mu s a → A a → G Fr (Mine mu s.heap) r w → Q (exitOf e) a w
structure YOK (P : Program) (F : Fence) (m : Nat) (E : Env) (A : Act → Prop) (G : (Nat → Prop) → (Nat → Prop) → R → World → Prop) (el : Ty) : Prop where
  o0 : ∀ b, ¬ E.O0 b → E.Fr0 b
  pos : 0 < E.m
  df : ∀ a, A a → a.defers = []
  yld : ∃ l, (E.mu0 0).hdr = yv l ∧ ∀ (Fr Z : Nat → Prop) (x : den el) (kt kf : Option R) (r : R) (w : World) (mu : Nat → Loc) (vs : List Value), yieldW ⟨el, x⟩ kt kf = some r → G Fr Z r w →
    (∃ ds, capD el x = some ds ∧ ds.length = vs.length ∧ ∀ (i : Nat) (d : Dyn) (v : Value), ds[i]? = some d → vs[i]? = some v → VR w Fr mu d v) →
    YieldAt F m P l vs.toArray w fun e w' => Left Fr Z w w' ∧ ((e = .returned (.bool true) ∧ ∃ r', kt = some r' ∧ G Fr Z r' w') ∨ (e = .returned (.bool false) ∧ ∃ r', kf = some r' ∧ G Fr Z r' w'))
def RunOK (P : Program) (E : Env) (nt : Nat) (it : Option Ty) (R : Type) (run : Run R) (c : Code) : Prop :=
  calmC c = true → ∀ (ro : Option Nat) (n : Nat) (A : Act → Prop) (G : (Nat → Prop) → (Nat → Prop) → R → World → Prop) (K : Kn R) (Q : Exit → Act → World → Prop),
    AOK nt A (wr c) → Abides G → (∀ el, it = some el → YOK P (fc ro) (n - 1) E A G el) → ((ro = none ∧ it = none ∧ FreeG G ∧ ∀ a d, A a → A { a with defers := d }) ∨ flatC c = true) → KOK E A G K Q →
    ∀ r s a w Fr mu, Rw E w Fr mu s a → A a → G Fr (Mine mu s.heap) r w → run s K = some r → c.wpIn (fc ro) n P Q a w
theorem opIn {ro : Option Nat} {n i : Nat} {ops : Array Oper} {l : List Nat} (hd : ∀ (j : Nat) (o : Oper), ops[j]? = some o → noDefer o) {Q : Act → World → Prop} {a : Act} {w : World}
    (h : wpOp P ops (normQ Q) i (fun a w => wpOpsIn (fc ro) n P ops (normQ Q) l a w) a w) : wpOpsIn (fc ro) n P ops (normQ Q) (i :: l) a w := by
  unfold wpOp at h
  unfold wpOpsIn
  split at h
  · rename_i ho
    simp only [ho]
    exact h
  · rename_i o ho
    simp only [ho]
    split at h
    · rename_i hw
      rw [if_pos hw]
      rcases h with h | ⟨_, h⟩
      · exact operIn (hd i o ho) (fun a w h => h) h
      · exact absurd h not_out
    · rename_i hw
      rw [if_neg hw]
      exact ⟨fun f _ => fc_fn ro f, h⟩
theorem tupD_caps : ∀ (l : List Dyn), capD (tupD l).t (tupD l).x = some l
  | [] => rfl
  | d :: l => by
    show (match capD (tupD l).t (tupD l).x with | some l => some ((⟨d.t, d.x⟩ : Dyn) :: l) | none => none) = _
    rw [tupD_caps l]
theorem yield_some {el : Ty} {i : Nat} {ops : Array Oper} {d : Dyn} {dst : Option Tmp} (h : yieldOf el s ops i = some (d, dst)) :
    ∃ o f args ats t0, ops[i]? = some o ∧ o.op = .call ⟨.value f, args, ats⟩ ∧ o.guard = none ∧ s.get f = ⟨.own .dead 0, t0⟩ ∧ s.obj 0 = heldO ∧ d = tupD (args.toList.map s.get) ∧ d.t = el ∧ el.pure = true ∧ dst = o.dst := by
  unfold yieldOf at h
  split at h
  · cases h
  rename_i o ho
  split at h
  case h_2 => cases h
  rename_i f args ats hop hg
  split at h
  case h_2 => cases h
  rename_i t0 x0 hf hobj
  split at h
  case isFalse => cases h
  rename_i hc
  injection h with h
  injection h with h1 h2
  exact ⟨o, f, args, ats, t0, ho, hop, hg, hf, hobj, h1.symm, h1 ▸ hc.1, hc.2, h2.symm⟩
theorem run_invoke_yield {l : Nat} {args : Array Value} (w : World) : (invoke (.fn (.yield l) #[]) args).run P w = (Instr.yield l args).run P w := by
  simp [invoke]
theorem opsD_ok (hT : TabOK P T.tb) (hC : Sound P C) {fn nt n : Nat} {ro : Option Nat} {ops : Array Oper} (hd : ∀ (j : Nat) (o : Oper), ops[j]? = some o → noDefer o) {A : Act → Prop} (hS : ∀ a, A a → a.tmps.size = nt) (hP : PutOK A ops)
    {G : (Nat → Prop) → (Nat → Prop) → R → World → Prop} (hG : Abides G) (hY : ∀ el, T.it fn = some el → YOK P (fc ro) (n - 1) E A G el) {Q : Act → World → Prop} {K : St → Option R}
    (hK : ∀ r s' a' w' Fr' mu', K s' = some r → Rw E w' Fr' mu' s' a' → A a' → G Fr' (Mine mu' s'.heap) r w' → Q a' w') :
    ∀ (l : List Nat) (r : R) (s : St) (a : Act) (w : World) (Fr : Nat → Prop) (mu : Nat → Loc), Rw E w Fr mu s a → A a → G Fr (Mine mu s.heap) r w → opsD T C fn nt ops l s K = some r → wpOpsIn (fc ro) n P ops (normQ Q) l a w
  | [], r, s, a, w, Fr, mu, H, hA, hg, h => show (Exit.normal = Exit.normal ∧ Q a w) from ⟨rfl, hK r s a w Fr mu h H hA hg⟩
  | i :: l, r, s, a, w, Fr, mu, H, hA, hg, h => by
    unfold opsD at h
    split at h
    · rename_i d dst hy
      split at hy
      case h_2 => cases hy
      rename_i el hit
      obtain ⟨o, f, args, ats, t0, ho, hop, hgd, hf, hobj, rfl, hel, hpu, rfl⟩ := yield_some hy
      split at h
      case isFalse => cases h
      rename_i hdst
      obtain ⟨ho0, hpos, hdf, ln, hln, hyld⟩ := hY el hit
      have H2 := H.reb
      have hfv := (H2.op f).1
      rw [hf] at hfv
      have hmu : (mu 0).hdr = yv ln := by
        have hh : s.heap[0]? = some heldO := obj_some hobj (by intro e; cases e)
        have := H.si.hand 0 heldO hpos hh
        rw [show mu 0 = E.mu0 0 from this]
        exact hln
      have hfv : a.eval f = yv ln := by
        have h1 : [a.eval f] = [(mu 0).hdr] := hfv
        injection h1 with h1
        rw [h1, hmu]
      have hcap := tupD_caps (args.toList.map s.get)
      revert h hel hcap
      generalize tupD (args.toList.map s.get) = dd
      obtain ⟨dt, dx⟩ := dd
      intro hel h hcap
      have hel : dt = el := hel
      subst hel
      have hv : ∀ (i : Nat) (d : Dyn) (v : Value), (args.toList.map s.get)[i]? = some d → (args.toList.map a.eval)[i]? = some v → VR w Fr mu d v := by
        intro j d v hj hv
        rw [List.getElem?_map] at hj hv
        cases hx : args.toList[j]? with
        | none => rw [hx] at hj; cases hj
        | some x =>
          rw [hx] at hj hv
          injection hj with hj
          injection hv with hv
          subst hj; subst hv
          exact (H2.op x).1
      have hY1 := hyld Fr (Mine mu s.heap) dx _ _ r w mu (args.toList.map a.eval) h hg ⟨_, hcap, by simp, hv⟩
      obtain ⟨yf, yt, ya, yb, hrun, hround⟩ := hY1
      have hd' : ∀ t, o.dst = some t → t < a.tmps.size := by
        intro t ht
        rw [ht] at hdst
        rw [hS _ hA]
        simpa [dstOk] using hdst
      -- behind the yield
      have next : ∀ (v : Bool) (r' : R) (w' : World), Left Fr (Mine mu s.heap) w w' → opsD T C fn nt ops l (s.put o.dst ⟨.bool, v⟩) K = some r' → G Fr (Mine mu s.heap) r' w' → wpOpsIn (fc ro) n P ops (normQ Q) l (a.put o.dst (.bool v)) w' := by
        intro v r' w' hleft hk hg'
        have hsi : SI E w' Fr mu s.heap := by
          have hlv : ∀ b, Fr b ∨ Mine mu s.heap b → w'.heap[b]? = w.heap[b]? := by
            intro b hb
            refine hleft.block b ?_ (not_not_intro hb)
            rcases hb with hb | ⟨i, o, hi, ho, rfl⟩
            · exact H.si.frL b hb
            · exact (H.si.own i o hi ho).2.2
          refine ⟨?_, H.si.fr0, H.si.frN, fun b hb => Nat.lt_of_lt_of_le (H.si.frL b hb) hleft.size, H.si.hh, ?_, H.si.nm, H.si.sep, ?_, H.si.hand, H.si.len, H.si.gl.keep (fun _ => id) (fun b hb => hlv b (.inl hb))⟩
          · exact ⟨hleft.os.trans H.si.grow.os, hleft.tape.trans H.si.grow.tape, hleft.output.trans H.si.grow.output, Nat.le_trans H.si.grow.size hleft.size, fun k hk ho => (hlv k (.inl (H.si.fr0 k (ho0 k ho)))).trans (H.si.grow.block k hk ho)⟩
          · intro i o hi
            exact OR_keep (fun _ => id) (fun b hb => hlv b (.inl hb)) rfl (fun t x _ => Ty.okN_all (fun _ => rfl) t) (fun hoc => hlv _ (.inr ⟨i, o, hi, hoc, rfl⟩)) (H.si.obj i o hi)
          · exact fun i o hi ho => ⟨(H.si.own i o hi ho).1, (H.si.own i o hi ho).2.1, Nat.lt_of_lt_of_le (H.si.own i o hi ho).2.2 hleft.size⟩
        have H3 : Rep (Abs.reb E w' Fr mu s.heap []) w' Fr mu s a := ⟨hsi.reb _, fun u d hm => by
          obtain ⟨h1, h2, h3⟩ := H.tm u d hm
          exact ⟨h1, VR_keep (fun _ => id) (fun b hb => hleft.block b (H.si.frL b hb) (not_not_intro (.inl hb))) (Ty.okN_all (fun _ => rfl) _) h2, h3⟩, hdf a hA, H.so⟩
        have H4 := H3.put o.dst hd' (d := ⟨.bool, v⟩) (v := .bool v) rfl trivial
        have hsz : (s.put o.dst ⟨.bool, v⟩).heap = s.heap := heap_put _ _ _
        have hA' := hP i o ho a (.bool v) hA
        have H5 : Rw E w' Fr mu (s.put o.dst ⟨.bool, v⟩) (a.put o.dst (.bool v)) := ⟨by rw [hsz]; exact hsi, H4.tm, by rw [hdf _ hA']; exact ⟨by simp, by simp⟩, H4.so⟩
        exact opsD_ok hT hC hd hS hP hG hY hK l r' _ _ w' Fr mu H5 hA' (by rw [hsz]; exact hg') hk
      unfold wpOpsIn
      simp only [ho]
      rw [if_pos (by simp [Region.wanted, hgd])]
      refine ⟨fun f _ => fc_fn ro f, ?_⟩
      rw [Oper.semAt_eq _ _ _ (hd i o ho)]
      have hexec : (execOp a.eval o).run P w = .ok (.round ln yf yt ya yb) w := by
        unfold execOp
        simp only [hop, resolve, hfv, yv, Deferred.ofValue, Sem.run_bind, Sem.run_pure, Result.andThen_ok]
        rw [run_invoke_yield]
        have e1 : #[] ++ args.map a.eval = (args.toList.map a.eval).toArray := by apply Array.ext'; simp
        rw [e1]
        exact hrun
      rw [hexec, Oper.uponIn_round]
      refine ⟨fun hx => (by rw [fc_depth] at hx; cases hx), hround.mono fun e w' he => ?_⟩
      obtain ⟨hleft, he⟩ := he
      rcases he with he | he
      · obtain ⟨he, r', hk, hg'⟩ := he
        subst he
        exact next true r' w' hleft hk hg'
      · obtain ⟨he, r', hk, hg'⟩ := he
        subst he
        exact next false r' w' hleft hk hg'
    · refine opIn hd (stepD_ok hT hC H.reb hS hP hA (K := fun s' => opsD T C fn nt ops l s' K) h ?_)
      intro s' a' w' Fr' mu' hk H' hA' _
      obtain ⟨H2, hs⟩ := H.back H'
      exact opsD_ok hT hC hd hS hP hG hY hK l r s' a' w' Fr' mu' H2 hA' (hG _ _ _ _ _ _ _ hg hs) hk
end
end Go.Abs
set_option autoImplicit false
set_option linter.unusedVariables false
namespace Go.Abs
theorem Grow.putObj (w : World) (l : Nat) (o : Obj) : Grow (· = l) w (w.putObj l o) := ⟨rfl, rfl, rfl, by simp, fun k _ hk => World.putObj_heap_other hk⟩
section
variable {P : Program} {E : Env} {w : World} {Fr : Nat → Prop} {mu : Nat → Loc} {s : St} {a : Act} {R : Type} {nt : Nat}
def putA : List Tmp → List Value → Act → Act
  | t :: ps, v :: vs, a => putA ps vs (a.put (some t) v)
  | _, _, a => a
theorem putA_fold : ∀ (ps : List Tmp) (vs : List Value) (a : Act), (putA ps vs a).tmps = (ps.zip vs).foldl (fun t p => t.setIfInBounds p.1 p.2) a.tmps
  | [], _, _ => by simp [putA]
  | _ :: _, [], _ => by simp [putA]
  | t :: ps, v :: vs, a => by
    show (putA ps vs (a.put (some t) v)).tmps = _
    rw [putA_fold ps vs]; rfl
theorem putA_defers : ∀ (ps : List Tmp) (vs : List Value) (a : Act), (putA ps vs a).defers = a.defers
  | [], _, _ => rfl
  | _ :: _, [], _ => rfl
  | t :: ps, v :: vs, a => putA_defers ps vs (a.put (some t) v)
theorem putA_get {u : Nat} : ∀ (ps : List Tmp) (vs : List Value) (a : Act), u ∉ ps → (putA ps vs a).tmps.getD u undef = a.tmps.getD u undef
  | [], _, _, _ => rfl
  | _ :: _, [], _, _ => rfl
  | t :: ps, v :: vs, a, h => by
    simp only [List.mem_cons, not_or] at h
    show (putA ps vs (a.put (some t) v)).tmps.getD u undef = _
    rw [putA_get ps vs _ h.2]
    show (a.tmps.setIfInBounds t v).getD u undef = _
    rw [Array.getD_eq_getD_getElem?, Array.getD_eq_getD_getElem?, Array.getElem?_setIfInBounds_ne (Ne.symm h.1)]
theorem putA_size : ∀ (ps : List Tmp) (vs : List Value) (a : Act), (putA ps vs a).tmps.size = a.tmps.size
  | [], _, _ => rfl
  | _ :: _, [], _ => rfl
  | t :: ps, v :: vs, a => by
    show (putA ps vs (a.put (some t) v)).tmps.size = _
    rw [putA_size ps vs, size_put]
theorem putL_heap : ∀ (ps : List Tmp) (ds : List Dyn) (s : St), (putL ps ds s).heap = s.heap
  | [], _, _ => rfl
  | _ :: _, [], _ => rfl
  | t :: ps, d :: ds, s => by
    show (putL ps ds (s.put (some t) d)).heap = _
    rw [putL_heap ps ds, heap_put]
theorem putL_ok : ∀ (ps : List Tmp) (ds : List Dyn) (vs : List Value) (s : St) (a : Act), Rep E w Fr mu s a → ds.length = vs.length → (∀ t ∈ ps, t < a.tmps.size) →
    (∀ (i : Nat) (d : Dyn) (v : Value), ds[i]? = some d → vs[i]? = some v → VR w Fr mu d v ∧ d.t.okN (· < s.heap.length)) → Rep E w Fr mu (putL ps ds s) (putA ps vs a)
  | [], _, _, s, a, H, _, _, _ => by simpa [putL, putA] using H
  | _ :: _, [], [], s, a, H, _, _, _ => H
  | _ :: _, [], _ :: _, _, _, _, h, _, _ => by simp at h
  | _ :: _, _ :: _, [], _, _, _, h, _, _ => by simp at h
  | t :: ps, d :: ds, v :: vs, s, a, H, hl, hp, hv => by
    obtain ⟨h1, h2⟩ := hv 0 d v rfl rfl
    have H1 := H.put (some t) (fun t' ht => by injection ht with ht; rw [← ht]; exact hp t (by simp)) h1 h2
    refine putL_ok ps ds vs _ _ H1 (by simpa using hl) (fun t' ht => ?_) (fun i d v hd hv' => ?_)
    · rw [size_put]; exact hp t' (List.mem_cons_of_mem _ ht)
    · rw [heap_put]; exact hv (i + 1) d v (by simpa using hd) (by simpa using hv')
structure LpF where
  l : Nat
  D : Nat
  yf : Nat
  T0 : Array Value
  ps : Array Tmp
  asg : Code
  b : Code
  N : Nat
  Fl : Nat → Prop
  ks : List Nat
  dfs : List Deferred
def LpF.loop (L : LpF) (st : LoopState) (pd : Option Code) : Loop := { state := st, pending := pd, fn := L.yf, tmps := L.T0, params := L.ps, assign := L.asg, body := L.b, defers := L.D }
structure Lc (E : Env) (L : LpF) (st : LoopState) (pd : Option Code) (FrI Z : Nat → Prop) (W : World) (h : List AObj) (FrC : Nat → Prop) (muC : Nat → Loc) : Prop where
  rec_ : W.heap[L.l]? = some (.loop (L.loop st pd))
  si : SI E W FrC muC h
  ma : Marks E W FrC L.dfs
  fl : ∀ b, L.Fl b → FrC b
  zc : ∀ b, Z b → ¬ FrC b ∧ ¬ Mine muC h b
  ic : ∀ b, FrI b → ¬ Mine muC h b
  lC : ¬ FrC L.l
  nW : L.N ≤ W.heap.size
  zl : ∀ b, Z b → L.N ≤ b
  il : ∀ b, FrI b → L.Fl b ∨ L.N ≤ b
  lt : ∀ b, FrI b ∨ Z b → b < W.heap.size
  zi : ∀ b, Z b → ¬ FrI b
structure Lp (E : Env) (nt : Nat) (L : LpF) (st : LoopState) (pd : Option Code) (FrI Z : Nat → Prop) (W : World) (s : St) (FrC : Nat → Prop) (muC : Nat → Loc) : Prop where
  lc : Lc E L st pd FrI Z W s.heap FrC muC
  tm : ∀ u d, (u, d) ∈ s.tmps → u ∈ L.ks ∧ u < nt ∧ VR W FrC muC d (L.T0.getD u undef) ∧ d.t.okN (· < s.heap.length)
  so : (s.tmps.map (·.1)).Pairwise (· < ·)
structure LpG (E : Env) (nt : Nat) (L : LpF) : Prop where
  eN : E.w0.heap.size ≤ L.N
  el : E.w0.heap.size ≤ L.l
  lN : L.l < L.N
  dN : ∀ d ∈ L.dfs, ∀ D, d = { target := .collected D, args := #[] } → D < L.N ∧ D ≠ L.l
  fl : ¬ L.Fl L.l
  sz : L.T0.size = nt
  ks : ∀ u ∈ L.ks, u ∉ wr L.asg ∧ u ∉ wr L.b ∧ u ∉ L.ps.toList
  ps : ∀ t ∈ L.ps.toList, t < nt
variable {L : LpF} {st : LoopState} {pd : Option Code} {FrI Z FrC : Nat → Prop} {muC : Nat → Loc} {W : World} {h : List AObj}
theorem Lc.zO (g : LpG E nt L) (H : Lc E L st pd FrI Z W h FrC muC) : ∀ b, b < W.heap.size → Z b → ¬ FrC b ∧ ¬ Mine muC h b ∧ (E.O0 b ∨ E.w0.heap.size ≤ b) := fun b _ hb => ⟨(H.zc b hb).1, (H.zc b hb).2, .inr (Nat.le_trans g.eN (H.zl b hb))⟩
theorem Lc.lO (g : LpG E nt L) (H : Lc E L st pd FrI Z W h FrC muC) : ∀ b, b < W.heap.size → b = L.l → ¬ FrC b ∧ ¬ Mine muC h b ∧ (E.O0 b ∨ E.w0.heap.size ≤ b) := by
  rintro b _ rfl
  refine ⟨H.lC, fun hm => ?_, .inr g.el⟩
  obtain ⟨c, e, f, hc⟩ := occ_cells H.si hm
  rw [H.rec_] at hc; cases hc
theorem Lc.side (g : LpG E nt L) (H : Lc E L st pd FrI Z W h FrC muC) {FrI' Z' : Nat → Prop} {W' : World} (S : Side FrI Z W FrI' Z' W') : Lc E L st pd FrI' Z' W' h FrC muC := by
  have hmine : ∀ b, Mine muC h b → b < W.heap.size := by
    rintro b ⟨i, o, hi, ho, rfl⟩; exact (H.si.own i o hi ho).2.2
  refine ⟨?_, H.si.away S.grow (H.zO g), ⟨?_, H.ma.dis⟩, H.fl, ?_, ?_, H.lC, Nat.le_trans H.nW S.grow.size, ?_, ?_, S.lt, S.apart⟩
  · exact (S.grow.block _ (Nat.lt_of_lt_of_le g.lN H.nW) fun hz => by have := H.zl _ hz; have := g.lN; omega).trans H.rec_
  · intro d hd
    obtain ⟨D, h1, h2, h3, h4⟩ := H.ma.all d hd
    have := (g.dN d hd D h1).1
    exact ⟨D, h1, (S.grow.block _ (Array.getElem?_eq_some_iff.1 h2).1 fun hz => by have := H.zl _ hz; omega).trans h2, h3, h4⟩
  · intro b hb
    rcases S.zN b hb with hb | hb
    · exact H.zc b hb
    · exact ⟨fun hf => by have := H.si.frL b hf; omega, fun hm => by have := hmine b hm; omega⟩
  · intro b hb hm
    rcases S.frN b hb with hb | hb | hb
    · exact H.ic b hb hm
    · exact (H.zc b hb).2 hm
    · have := hmine b hm; omega
  · intro b hb
    rcases S.zN b hb with hb | hb
    · exact H.zl b hb
    · exact Nat.le_trans H.nW hb
  · intro b hb
    rcases S.frN b hb with hb | hb | hb
    · exact H.il b hb
    · exact .inr (H.zl b hb)
    · exact .inr (Nat.le_trans H.nW hb)
theorem Lp.side (g : LpG E nt L) (H : Lp E nt L st pd FrI Z W s FrC muC) {FrI' Z' : Nat → Prop} {W' : World} (S : Side FrI Z W FrI' Z' W') : Lp E nt L st pd FrI' Z' W' s FrC muC :=
  ⟨H.lc.side g S, fun u d hm => by
    obtain ⟨h1, h2, h3, h4⟩ := H.tm u d hm
    exact ⟨h1, h2, VR_away H.lc.si.frL S.grow (fun b hb ho => (H.lc.zO g b hb ho).1) h3, h4⟩, H.so⟩
theorem Lc.put (g : LpG E nt L) (H : Lc E L st pd FrI Z W h FrC muC) (st' : LoopState) (pd' : Option Code) : Lc E L st' pd' FrI Z (W.putObj L.l (.loop (L.loop st' pd'))) h FrC muC := by
  have hl : L.l < W.heap.size := Nat.lt_of_lt_of_le g.lN H.nW
  have hg := Grow.putObj W L.l (.loop (L.loop st' pd'))
  refine ⟨World.putObj_heap_same hl, H.si.away hg (H.lO g), ⟨?_, H.ma.dis⟩, H.fl, H.zc, H.ic, H.lC, by simpa using H.nW, H.zl, H.il, by simpa using H.lt, H.zi⟩
  intro d hd
  obtain ⟨D, h1, h2, h3, h4⟩ := H.ma.all d hd
  exact ⟨D, h1, (World.putObj_heap_other (g.dN d hd D h1).2).trans h2, h3, h4⟩
theorem Lp.put (g : LpG E nt L) (H : Lp E nt L st pd FrI Z W s FrC muC) (st' : LoopState) (pd' : Option Code) : Lp E nt L st' pd' FrI Z (W.putObj L.l (.loop (L.loop st' pd'))) s FrC muC :=
  ⟨H.lc.put g st' pd', fun u d hm => by
    obtain ⟨h1, h2, h3, h4⟩ := H.tm u d hm
    exact ⟨h1, h2, VR_away H.lc.si.frL (Grow.putObj W L.l _) (fun b hb ho => (H.lc.lO g b hb ho).1) h3, h4⟩, H.so⟩
theorem Lc.more (g : LpG E nt L) (H : Lc E L st pd FrI Z W h FrC muC) {F1 : Nat → Prop} (hF1 : ∀ b, F1 b ↔ FrC b ∨ FrI b) : Lc E L st pd FrI Z W h F1 muC := by
  have hlI : ¬ FrI L.l := fun hh => by
    rcases H.il _ hh with hh | hh
    · exact g.fl hh
    · have := g.lN; omega
  refine ⟨H.rec_, H.si.more (fun b hb => (hF1 b).2 (.inl hb)) fun b hb => ?_, ⟨fun d hd => ?_, H.ma.dis⟩, fun b hb => (hF1 b).2 (.inl (H.fl b hb)), fun b hb => ⟨fun hf => ?_, (H.zc b hb).2⟩, H.ic, fun hf => ?_, H.nW, H.zl, H.il, H.lt, H.zi⟩
  · rcases (hF1 b).1 hb with hb | hb
    · exact .inl hb
    · rcases H.il b hb with h1 | h1
      · exact .inl (H.fl b h1)
      · exact .inr ⟨H.ic b hb, H.lt b (.inl hb), .inr (.inr (Nat.le_trans g.eN h1))⟩
  · obtain ⟨D, h1, h2, h3, h4⟩ := H.ma.all d hd
    refine ⟨D, h1, h2, h3, fun hf => ?_⟩
    rcases (hF1 D).1 hf with hf | hf
    · exact h4 hf
    · rcases H.il D hf with hh | hh
      · exact h4 (H.fl D hh)
      · have := (g.dN d hd D h1).1; omega
  · rcases (hF1 b).1 hf with hf | hf
    · exact (H.zc b hb).1 hf
    · exact H.zi b hb hf
  · rcases (hF1 _).1 hf with hf | hf
    · exact H.lC hf
    · exact hlI hf
theorem Lc.step (g : LpG E nt L) (H : Lc E L st pd FrI Z W h FrC muC) (hI : ∀ b, FrI b → FrC b) {W2 : World} {Fr2 : Nat → Prop} {mu2 : Nat → Loc} {h2 : List AObj} {ds : List Deferred} (S : SI (Abs.reb E W FrC muC h ds) W2 Fr2 mu2 h2) :
    Lc E L st pd FrI Z W2 h2 Fr2 mu2 ∧ (∀ b, FrI b → Fr2 b) ∧ Left FrI Z W W2 := by
  have hgr : Grow (Mine muC h) W W2 := S.grow
  have hlW : L.l < W.heap.size := Nat.lt_of_lt_of_le g.lN H.nW
  have hmN : ∀ b, Mine mu2 h2 b → Mine muC h b ∨ W.heap.size ≤ b := by
    rintro b ⟨i, o, hi, ho, rfl⟩; exact (S.own i o hi ho).1
  have hlm : ¬ Mine muC h L.l := (H.lO g _ hlW rfl).2.1
  refine ⟨⟨(hgr.block _ hlW hlm).trans H.rec_, H.si.back S, ⟨?_, H.ma.dis⟩, fun b hb => S.fr0 b (H.fl b hb), ?_, ?_, ?_, Nat.le_trans H.nW hgr.size, H.zl, H.il, fun b hb => Nat.lt_of_lt_of_le (H.lt b hb) hgr.size, H.zi⟩, fun b hb => S.fr0 b (hI b hb), ⟨hgr.os, hgr.tape, hgr.output, hgr.size, fun k hk hn => ?_⟩⟩
  · intro d hd
    obtain ⟨D, h1, h2, h3, h4⟩ := H.ma.all d hd
    have hDm : ¬ Mine muC h D := fun hm => by
      obtain ⟨c, e, f, hc⟩ := occ_cells H.si hm
      rw [h2] at hc; cases hc
    have hDW := (Array.getElem?_eq_some_iff.1 h2).1
    refine ⟨D, h1, (hgr.block D hDW hDm).trans h2, h3, fun hf => ?_⟩
    rcases S.frN D hf with hh | hh | hh
    · exact h4 hh
    · exact hDm hh
    · have hh : W.heap.size ≤ D := hh
      omega
  · intro b hb
    have hbl := H.lt b (.inr hb)
    refine ⟨fun hf => ?_, fun hm => ?_⟩
    · rcases S.frN b hf with hh | hh | hh
      · exact (H.zc b hb).1 hh
      · exact (H.zc b hb).2 hh
      · have hh : W.heap.size ≤ b := hh
        omega
    · rcases hmN b hm with hh | hh
      · exact (H.zc b hb).2 hh
      · omega
  · intro b hb hm
    have hbl := H.lt b (.inl hb)
    rcases hmN b hm with hh | hh
    · exact H.ic b hb hh
    · omega
  · intro hf
    rcases S.frN _ hf with hh | hh | hh
    · exact H.lC hh
    · exact hlm hh
    · have hh : W.heap.size ≤ L.l := hh
      omega
  · refine hgr.block k hk fun hm => ?_
    rcases Classical.not_not.1 hn with hh | hh
    · exact H.ic k hh hm
    · exact (H.zc k hh).2 hm
theorem Left.trans {a b c : World} (h1 : Left FrI Z a b) (h2 : Left FrI Z b c) : Left FrI Z a c :=
  ⟨h2.os.trans h1.os, h2.tape.trans h1.tape, h2.output.trans h1.output, Nat.le_trans h1.size h2.size, fun k hk hn => (h2.block k (Nat.lt_of_lt_of_le hk h1.size) hn).trans (h1.block k hk hn)⟩
theorem Lc.left (g : LpG E nt L) (H : Lc E L st pd FrI Z W h FrC muC) (o : Obj) : Left FrI Z W (W.putObj L.l o) := by
  have hlZ : ¬ (FrI L.l ∨ Z L.l) := by
    rintro (hh | hh)
    · rcases H.il _ hh with hh | hh
      · exact g.fl hh
      · have := g.lN; omega
    · have := H.zl _ hh; have := g.lN; omega
  exact ⟨rfl, rfl, rfl, by simp, fun k hk hn => World.putObj_heap_other fun e => hlZ (e ▸ Classical.not_not.1 hn)⟩
def exC : Ex → Code
  | .exit i => .exit i
  | _ => .ret
def LpJ (E : Env) (nt : Nat) (L : LpF) (el : Ty) (p : List Nat) (ra rd : Run R) (K : Kn R) (r : R) (FrI Z : Nat → Prop) (xs : List (den el)) (W : World) : Prop :=
  ∃ s FrC muC, Lp E nt L .ready none FrI Z W s FrC muC ∧ rangeD el p E.m L.ks L.ps.toList ra rd xs s K = some r
def LpX (E : Env) (nt : Nat) (L : LpF) (K : Kn R) (r : R) (FrI Z : Nat → Prop) (_ : Unit) (W : World) : Prop :=
  ∃ e s FrC muC, e ≠ Ex.normal ∧ Lp E nt L .done (some (exC e)) FrI Z W s FrC muC ∧ K.go e s = some r
theorem only_Rw (H : Rw E w Fr mu s a) (ks : List Nat) : Rw E w Fr mu (s.only ks) a :=
  ⟨H.si, fun u d hm => H.tm u d (List.mem_filter.1 hm).1, H.df, by
    have := H.so
    exact List.Pairwise.sublist (List.Sublist.map _ List.filter_sublist) this⟩
theorem norm_names {m : Nat} {s s' : St} (h : s.norm m = some s') {u : Nat} {d : Dyn} (hm : (u, d) ∈ s'.tmps) : ∃ d0, (u, d0) ∈ s.tmps := by
  unfold St.norm at h
  dsimp only at h
  split at h
  case isFalse => cases h
  injection h with h
  subst h
  obtain ⟨⟨u0, d0⟩, hm0, e⟩ := List.mem_map.1 hm
  injection e with e1 e2
  subst e1
  exact ⟨d0, hm0⟩
abbrev LpA (nt : Nat) (L : LpF) (a : Act) : Prop := (a.tmps.size = nt ∧ a.defers = []) ∧ ∀ u ∈ L.ks, a.tmps.getD u undef = L.T0.getD u undef
theorem LpA_ok {c : Code} (hk : ∀ u ∈ L.ks, u ∉ wr c) : AOK nt (LpA nt L) (wr c) := by
  refine ⟨fun a h => h.1.1, fun u hu a v h => ⟨⟨by rw [size_put]; exact h.1.1, by rw [put_defers]; exact h.1.2⟩, fun k hk' => ?_⟩⟩
  have hne : u ≠ k := fun e => hk k hk' (e ▸ hu)
  show (a.tmps.setIfInBounds u v).getD k undef = _
  rw [Array.getD_eq_getD_getElem?, Array.getElem?_setIfInBounds_ne hne, ← Array.getD_eq_getD_getElem?]
  exact h.2 k hk'
theorem half_ok (g : LpG E nt L) {run : Run R} {c : Code} (hM : calmC c = true) (hF : flatC c = true) (hk : ∀ u ∈ L.ks, u ∉ wr c) (hb : ∀ E' : Env, E'.m = E.m → RunOK P E' nt none R run c) (H : Lc E L st pd FrI Z W s.heap FrC muC) (hI : ∀ b, FrI b → FrC b)
    (htm : ∀ u d, (u, d) ∈ s.tmps → u < a.tmps.size ∧ VR W FrC muC d (a.tmps.getD u undef) ∧ d.t.okN (· < s.heap.length)) (hso : (s.tmps.map (·.1)).Pairwise (· < ·)) (hA : LpA nt L a) {K : Kn R} {r : R} (hr : run s K = some r) {Q : Exit → Act → World → Prop}
    (hK : ∀ e s' a' W' Fr' mu', K.go e s' = some r → Lc E L st pd FrI Z W' s'.heap Fr' mu' → (∀ b, FrI b → Fr' b) → Left FrI Z W W' → Rw E W' Fr' mu' s' a' → LpA nt L a' → Q (exitOf e) a' W') :
    c.wpIn (fc (some L.l)) 0 P Q a W := by
  have hR : Rw (Abs.reb E W FrC muC s.heap []) W FrC muC s a := ⟨H.si.reb [], htm, by rw [hA.1.2]; exact ⟨by simp, by simp⟩, hso⟩
  refine hb (Abs.reb E W FrC muC s.heap []) rfl hM (some L.l) 0 (LpA nt L) (fun _ _ r' _ => r' = r) K Q (LpA_ok hk) (fun _ _ _ _ _ _ _ h _ => h) (fun _ h => by cases h) (.inr hF) ?_ r s a W FrC muC hR hA rfl hr
  intro e r' s2 a2 W2 Fr2 mu2 hgo H2 hA2 hr'
  subst hr'
  obtain ⟨h1, h2, h3⟩ := H.step g hI H2.si
  exact hK e s2 a2 W2 Fr2 mu2 hgo h1 h2 h3 ⟨H.si.back H2.si, H2.tm, by rw [hA2.1.2]; exact ⟨by simp, by simp⟩, H2.so⟩ hA2
theorem lp_rounds (hMa : calmC L.asg = true) (hFa : flatC L.asg = true) (hM : calmC L.b = true) (hF : flatC L.b = true) (g : LpG E nt L) {el : Ty} (hel : el.pure = true) {p : List Nat} {ra rd : Run R} (ha : ∀ E' : Env, E'.m = E.m → RunOK P E' nt none R ra L.asg) (hb : ∀ E' : Env, E'.m = E.m → RunOK P E' nt none R rd L.b)
    {K : Kn R} {r : R} :
    Rounds P Fence.wide 0 L.l el (LpJ E nt L el p ra rd K r) (LpX E nt L K r) := by
  rintro FrI Z x rest W mu0 ds vs ⟨s, FrC, muC, H, hr⟩ hcap hlen hv
  have hr : (match capD el x with
    | some ds => if L.ps.toList.length = ds.length then ra (putL L.ps.toList ds s) (asgK rd (roundK E.m L.ks (rangeD el p E.m L.ks L.ps.toList ra rd rest) K)) else none
    | none => none) = some r := hr
  rw [hcap] at hr
  dsimp only at hr
  split at hr
  case isFalse => cases hr
  rename_i hpl
  have hcapP : ∀ (t : Ty) (x : den t) (l : List Dyn), t.pure = true → capD t x = some l → ∀ d ∈ l, d.t.pure = true := by
    intro t
    induction t with
    | tnil => intro x l _ h d hd; injection h with h; subst h; cases hd
    | tcons a b _ ih =>
      intro x l hp h d hd
      simp only [Ty.pure, Bool.and_eq_true] at hp
      unfold capD at h
      split at h
      case h_2 => cases h
      rename_i l' hl'
      injection h with h
      subst h
      rcases List.mem_cons.1 hd with rfl | hd
      · exact hp.1
      · exact ih x.2 l' hp.2 hl' d hd
    | _ => intro x l _ h; cases h
  refine ⟨L.yf, (putA L.ps.toList vs { tmps := L.T0, defers := [] }).tmps, L.asg, L.b, ?_, ?_⟩
  · rw [run_yield H.lc.rec_ (by simp [← hlen, ← hpl, LpF.loop])]
    congr 1
    congr 1
    rw [putA_fold, ← Array.foldl_toList, Array.toList_zip]
    rfl
  -- what the iterator froze is frozen here, too
  have hF1' : ∀ b, (fun b => FrC b ∨ FrI b) b ↔ FrC b ∨ FrI b := fun b => Iff.rfl
  generalize (fun b => FrC b ∨ FrI b) = F1 at hF1'
  have H1 := H.lc.more g hF1'
  have hR0 : Rep (Abs.reb E W F1 muC s.heap []) W F1 muC s { tmps := L.T0, defers := [] } := by
    refine ⟨H1.si.reb _, fun u d hm => ?_, rfl, H.so⟩
    obtain ⟨h1, h2, h3, h4⟩ := H.tm u d hm
    exact ⟨by show u < L.T0.size; rw [g.sz]; exact h2, VR_keep (fun b hb => (hF1' b).2 (.inl hb)) (fun _ _ => rfl) (Ty.okN_all (fun _ => rfl) _) h3, h4⟩
  have hR1 := putL_ok L.ps.toList ds vs s _ hR0 hlen (fun t ht => by show t < L.T0.size; rw [g.sz]; exact g.ps t ht) fun i d v hd hv' => by
    have hp : d.t.pure = true := hcapP el x ds hel hcap d (List.mem_of_getElem? hd)
    exact ⟨VR_keep (fun b hb => (hF1' b).2 (.inr hb)) (fun b hb => rfl) (d.t.pure_okN hp) (hv i d v hd hv'), d.t.pure_okN hp⟩
  have hAp : LpA nt L (putA L.ps.toList vs { tmps := L.T0, defers := [] }) := by
    refine ⟨⟨by rw [putA_size]; exact g.sz, putA_defers _ _ _⟩, fun u hu => ?_⟩
    rw [putA_get _ _ _ (g.ks u hu).2.2]
  clear hR0
  generalize putA L.ps.toList vs { tmps := L.T0, defers := [] } = a1 at *
  obtain ⟨t1, d1⟩ := a1
  have hd1 : d1 = [] := hAp.1.2
  subst hd1
  have hph : (putL L.ps.toList ds s).heap = s.heap := putL_heap _ _ _
  refine roundIn_of_wpIn (F := Fence.wide) trivial ?_
  refine half_ok (st := .ready) (pd := none) (FrI := FrI) (Z := Z) (FrC := F1) (muC := muC) (s := putL L.ps.toList ds s) g hMa hFa (fun u hu => (g.ks u hu).1) ha (by rw [hph]; exact H1) (fun b hb => (hF1' b).2 (.inr hb)) hR1.tm hR1.so hAp hr ?_
  intro e sa aa Wa Fra mua hgo Ha hIa hLa hRa hAa
  cases e with
  | ret => cases hgo
  | exit i => cases hgo
  | normal =>
  have hgo : rd sa (roundK E.m L.ks (rangeD el p E.m L.ks L.ps.toList ra rd rest) K) = some r := hgo
  refine ⟨_, run_beginRound Ha.rec_ rfl, ?_⟩
  have Hb := Ha.put g .busy none
  have hLb : Left FrI Z W (Wa.putObj L.l (.loop (L.loop .busy none))) := hLa.trans (Ha.left g _)
  refine half_ok (st := .busy) (pd := none) (FrI := FrI) (Z := Z) (FrC := Fra) (muC := mua) (s := sa) g hM hF (fun u hu => (g.ks u hu).2.1) hb Hb hIa (fun u d hm => ?_) hRa.so hAa hgo ?_
  · obtain ⟨h1, h2, h3⟩ := hRa.tm u d hm
    exact ⟨h1, VR_away Ha.si.frL (Grow.putObj Wa L.l _) (fun b hb ho => (Ha.lO g b hb ho).1) h2, h3⟩
  -- behind the round
  intro e s2 a2 W2 Fr2 mu2 hgo H2 hI2 hL2 hR2 hA2
  have hgo : (match (s2.only L.ks).norm E.m with
    | none => none
    | some s' => match (generalizing := false) e with
      | .normal => rangeD el p E.m L.ks L.ps.toList ra rd rest s' K
      | e => K.go e s') = some r := hgo
  split at hgo
  · cases hgo
  rename_i s3 hs3
  have H2o := only_Rw hR2 L.ks
  obtain ⟨mu3, H3r⟩ := norm_ok H2o.reb hs3
  have H3i : SI (Abs.reb E W2 Fr2 mu2 s2.heap a2.defers) W2 Fr2 mu3 s3.heap := H3r.si
  obtain ⟨H3, _, _⟩ := H2.step g hI2 H3i
  have hL3 : Lp E nt L .busy none FrI Z W2 s3 Fr2 mu3 := by
    refine ⟨H3, fun u d hm => ?_, H3r.so⟩
    obtain ⟨h1, h2, h3⟩ := H3r.tm u d hm
    obtain ⟨d0, hm0⟩ := norm_names hs3 hm
    have hk : u ∈ L.ks := by
      have := (List.mem_filter.1 hm0).2
      simp only [Bool.and_eq_true] at this
      simpa using this.1
    exact ⟨hk, by rw [← hA2.1.1]; exact h1, by rw [← hA2.2 u hk]; exact h2, h3⟩
  have hleft : ∀ o, Left FrI Z W (W2.putObj L.l o) := fun o => (hLb.trans hL2).trans (H2.left g o)
  cases e with
  | normal =>
    refine ⟨_, _, run_endRound none H2.rec_, hleft _, .inl ⟨rfl, s3, Fr2, mu3, hL3.put g .ready none, hgo⟩⟩
  | ret =>
    refine ⟨_, _, run_endRound (some .ret) H2.rec_, hleft _, .inr ⟨rfl, .ret, s3, Fr2, mu3, by simp, hL3.put g .done (some .ret), hgo⟩⟩
  | exit i =>
    refine ⟨_, _, run_endRound (some (.exit i)) H2.rec_, hleft _, .inr ⟨rfl, .exit i, s3, Fr2, mu3, by simp, hL3.put g .done (some (.exit i)), hgo⟩⟩
end
end Go.Abs
