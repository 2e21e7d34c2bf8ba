/- Reads and writes, as the interpreter tells them. No conditions. -/
import Derived.Test.YtobfcaejpcpboaaOps2
set_option autoImplicit false
set_option linter.unusedVariables false
namespace Go.Abs

section
variable {P : Program} {T : Told} {E : Env} {w : World} {Fr : Nat → Prop} {mu : Nat → Loc} {s : St} {a : Act}

theorem ok_load2 (hT : TabOK P T.tb) (H : Rep E w Fr mu s a) {fn : Nat} {o : Oper} {t : Nat} {x : Operand} (ho : o.op = .load t x) {d : Dyn} {s' : St} (h : opP T fn o s = some (true, d, s')) : StepOK P E w Fr mu s a o d s' ∧ (still (s.get x).t = true → StepL P w Fr mu s a o d s') := by
  unfold opP at h
  rw [ho] at h
  dsimp only at h
  split at h
  · cases h
  rename_i ti hti
  have hg := hT t ti hti
  have hx := (H.op x).1
  have two : StepL P w Fr mu s a o d s' → StepOK P E w Fr mu s a o d s' ∧ (still (s.get x).t = true → StepL P w Fr mu s a o d s') := fun h => ⟨h.ok H, fun _ => h⟩
  split at h
  · rename_i i off _ hq
    rw [hq] at hx
    have hx : [a.eval x] = [.pointer (some ⟨(mu i).loc, off, none⟩)] := hx
    injection hx with hx
    split at h
    · rename_i u y hob
      obtain ⟨hf, hz, _, rfl, rfl⟩ := put2_some h
      obtain ⟨cells, e, hcell, hcd, hat⟩ := box_CD H (obj_some hob (by simp))
      obtain ⟨v, h1, h2, h3⟩ := run_loadPart (b := (mu i).loc) (o := 0) hg hcd hf (.inl hz)
      rw [Nat.zero_add] at h1
      exact two (.mk (fun w' ha => ex_load ho hx (h1 w' (hat.keep (ha _ (.inr ⟨i, u, y, obj_some hob (by simp), rfl⟩))))) h2 h3)
    · cases h
  · rename_i u off y hq
    rw [hq] at hx
    obtain ⟨he, b, o', cells, hx, hb, hr, hat⟩ := hx
    injection hx with hx
    obtain ⟨hf, hz, _, rfl, rfl⟩ := put2_some h
    have hcd : CD w Fr mu (· < s'.heap.length) ⟨u, y⟩ cells := ⟨Ty.elt_cel he, u.pure_okN (Ty.elt_pure he), hr⟩
    obtain ⟨v, h1, h2, h3⟩ := run_loadPart (b := b) (o := o') hg hcd hf (.inl hz)
    exact two (.mk (fun w' ha => ex_load ho hx (h1 w' (hat.keep (ha _ (.inl hb))))) h2 h3)
  · rename_i u i off n hq
    rw [hq] at hx
    split at h
    · rename_i l hl
      obtain ⟨hf, hz, _, rfl, rfl⟩ := put2_some h
      obtain ⟨cells, hcd, hat, hx, _⟩ := row_CD H hl hx
      injection hx with hx
      obtain ⟨v, h1, h2, h3⟩ := run_loadPart (b := (mu i).loc) (o := n.toNat * u.width) hg hcd hf (.inl hz)
      exact ⟨.pure H (ex_load ho hx (h1 w hat)) h2 h3, fun h => by rw [hq] at h; cases h⟩
    · cases h
  · rename_i u m i base off n hq
    rw [hq] at hx
    split at h
    · rename_i v0 y hob
      split at h
      · rename_i l hl
        obtain ⟨hf, hz, _, rfl, rfl⟩ := put2_some h
        obtain ⟨cells, e, hcell, hcd, hat⟩ := box_CD H (obj_some hob (by simp))
        obtain ⟨⟨h0, h1⟩, hx⟩ := hx
        injection hx with hx
        have hlen := (arr_CD hcd hl).2.1
        obtain ⟨A, c, B, e, hA, hcd'⟩ := arr_at (n := n) hcd hl h0 (by rw [hlen]; exact h1)
        rw [e] at hat
        have hat := hat.right.left
        rw [hA, Nat.zero_add] at hat
        obtain ⟨v, h1, h2, h3⟩ := run_loadPart (b := (mu i).loc) (o := base + n.toNat * u.width) hg hcd' hf (.inl hz)
        rw [show base + (n.toNat * u.width + off) = base + n.toNat * u.width + off by omega] at hx
        exact two (.mk (fun w' ha => ex_load ho hx (h1 w' (hat.keep (ha _ (.inr ⟨i, v0, y, obj_some hob (by simp), rfl⟩))))) h2 h3)
      · cases h
    · cases h
  · cases h

theorem ok_load (hT : TabOK P T.tb) (H : Rep E w Fr mu s a) {fn : Nat} {o : Oper} {t : Nat} {x : Operand} (ho : o.op = .load t x) {d : Dyn} {s' : St} (h : opP T fn o s = some (true, d, s')) : StepOK P E w Fr mu s a o d s' := (ok_load2 hT H ho h).1

/-- The cells of a value that is stored. -/
theorem VR_cells {p : Nat → Prop} (hh : ∀ i, (mu i).hdr.oneCell' = true) {d : Dyn} {v : Value} (hv : VR w Fr mu d v) (hc : d.t.cel = true) (ha : d.t.alive = true) (hn : d.t.okN p) :
    CD w Fr mu p d v.cells.toList ∧ ∀ u ∈ v.cells.toList, u.oneCell' = true := by
  have key : ∀ l : List Value, v.cells.toList = l → Rp w Fr mu d.t d.x l → CD w Fr mu p d v.cells.toList ∧ ∀ u ∈ v.cells.toList, u.oneCell' = true := by
    intro l e hr
    rw [e]
    exact ⟨⟨hc, hn, hr⟩, Rp_one hh _ _ _ hc hr⟩
  unfold VR at hv
  cases hk : d.t.vk
  case dead => revert hk ha; cases d.t <;> intro h1 h2 <;> first | (cases h1; done) | (cases h2; done)
  case tup => revert hk hc; cases d.t <;> intro h1 h2 <;> first | (cases h1; done) | (cases h2; done)
  case agg =>
    rw [hk] at hv
    obtain ⟨_, cs, rfl, hr⟩ := hv
    exact key cs rfl hr
  case one =>
    rw [hk] at hv
    refine key [v] ?_ hv
    have := Rp_one hh _ _ _ hc hv v (by simp)
    cases v <;> first | rfl | (simp [Value.oneCell'] at this)
theorem ex_store {o : Oper} {t : Nat} {x y : Operand} (ho : o.op = .store t x y) {ρ : Operand → Value} {ti : TI} (hg : Good P t ti) {g off : Nat} (hx : ρ x = .pointer (some ⟨g, off, none⟩)) {cur : Array Value} {e : TypeId} (hcell : w.heap[g]? = some (.cells cur e (0, 0)))
    (hsz : (ρ y).cells.toList.length = ti.siz) (h1 : ∀ u ∈ (ρ y).cells.toList, u.oneCell' = true) (hfit : off + (ρ y).cells.toList.length ≤ cur.size) :
    (execOp ρ o).run P w = .ok .skip (w.setRow g (cur.toList.take off ++ (ρ y).cells.toList ++ cur.toList.drop (off + (ρ y).cells.toList.length)).toArray) := by
  have hst := run_storeCells_at P g off e (ρ y).cells.toList 0 cur w hcell (by simpa using hfit) h1
  have hsz' : (ρ y).cells.size = ti.siz := by rw [← hsz]; simp
  unfold execOp
  simp only [Nat.add_zero] at hst
  simp [ho, hx, Instr.storeAt, Instr.sureAddr, storeVar, hg.size w, hsz', hst]
theorem grow_setRow {g : Nat} {cs : Array Value} {O : Nat → Prop} (ho : O g) : Grow O w (w.setRow g cs) :=
  ⟨rfl, rfl, rfl, by simp, fun k hk hn => setRow_other w g k cs (fun e => hn (e ▸ ho))⟩
theorem list_put (A l1 lm l2 R lv : List Value) (h : lm.length = lv.length) :
    (A ++ (l1 ++ (lm ++ l2)) ++ R).take (A.length + l1.length) ++ lv ++ (A ++ (l1 ++ (lm ++ l2)) ++ R).drop (A.length + l1.length + lv.length) = A ++ (l1 ++ (lv ++ l2)) ++ R := by
  have e : A ++ (l1 ++ (lm ++ l2)) ++ R = (A ++ l1) ++ (lm ++ (l2 ++ R)) := by simp
  rw [e, List.take_left' (by simp), ← h, ← List.append_assoc (A ++ l1) lm, List.drop_left' (by simp; omega)]
  simp

theorem CD_keep {w' : World} {Fr' : Nat → Prop} {p : Nat → Prop} {d : Dyn} {l : List Value} (hF : ∀ b, Fr b → Fr' b) (hw : ∀ b, Fr b → w'.heap[b]? = w.heap[b]?) (h : CD w Fr mu p d l) : CD w' Fr' mu p d l :=
  ⟨h.cel, h.ok, Rp_keep hF hw _ _ _ (Ty.okN_all (fun _ => rfl) _) h.rp⟩
theorem width_len {p : Nat → Prop} {d : Dyn} {l : List Value} {n : Nat} (h : CD w Fr mu p d l) (hw : d.t.width = n) : l.length = n := by rw [h.len, hw]

/-- A variable's part turned. -/
theorem ok_box_put {o : Oper} {t : Nat} {x y : Operand} (ho : o.op = .store t x y) {ti : TI} (hg : Good P t ti) (H : Rep E w Fr mu s a) {i off : Nat} (hx : a.eval x = .pointer (some ⟨(mu i).loc, off, none⟩)) {u : Ty} {b : den u}
    (hob : s.heap[i]? = some (⟨.box u, b⟩ : AObj)) {z : Dyn} {lv : List Value} (hv : (a.eval y).cells.toList = lv) (hl : lv.length = ti.siz) (h1 : ∀ u ∈ lv, u.oneCell' = true)
    (hz : ∀ cells : List Value, CD w Fr mu (· < s.heap.length) ⟨u, b⟩ cells → ∃ A lm B, cells = A ++ (lm ++ B) ∧ A.length = off ∧ lm.length = lv.length ∧ CD w Fr mu (· < s.heap.length) z (A ++ (lv ++ B))) :
    StepOK P E w Fr mu s a o nope (s.setObj i ⟨.box z.t, z.x⟩) := by
  obtain ⟨cells, e, hcell, hcd, hat⟩ := box_CD H hob
  obtain ⟨A, lm, B, ec, hA, hlm, hcdz⟩ := hz cells hcd
  have hocc : occ mu i (⟨.box u, b⟩ : AObj) := trivial
  have hst := ex_store (P := P) (w := w) (ρ := a.eval) ho hg hx hcell (by rw [hv, hl]) (by rw [hv]; exact h1) (by rw [hv, ec]; simp [hA, hlm])
  rw [hv] at hst
  have hlist : cells.toArray.toList.take off ++ lv ++ cells.toArray.toList.drop (off + lv.length) = A ++ (lv ++ B) := by
    have := list_put [] A lm B [] lv hlm
    simp only [List.nil_append, List.append_nil, List.length_nil, Nat.zero_add] at this
    rw [ec, ← hA]
    simpa using this
  rw [hlist] at hst
  have hgrow : Grow (fun b' => occ mu i (⟨.box u, b⟩ : AObj) ∧ b' = (mu i).loc) w (w.setRow (mu i).loc (A ++ (lv ++ B)).toArray) := grow_setRow ⟨hocc, rfl⟩
  have hfr : ∀ b', Fr b' → (w.setRow (mu i).loc (A ++ (lv ++ B)).toArray).heap[b']? = w.heap[b']? := fun b' hb => hgrow.block b' (H.si.frL b' hb) (fun ⟨_, e⟩ => (H.si.own i _ hob hocc).2.1 (e ▸ hb))
  refine ⟨_, undef, _, Fr, mu, hst, .inr ⟨rfl, rfl⟩, trivial, trivial, ?_, Kept.put1 H.si hob (fun t x _ => ⟨_, _, rfl⟩) hgrow (by rw [ho]; intro h; cases h)⟩
  refine H.put1 hob hgrow ?_ (fun _ => hocc) ?_ ?_
  · exact ⟨hcdz.cel, _, e, setRow_heap w _ _ _ e (0, 0) hcell, (CD_keep (fun _ => id) hfr hcdz).rp⟩
  · intro t' x' e'
    injection e' with e1 e2
    injection e1 with e1
    rw [← e1]; exact hcdz.ok
  · intro hm
    show mu i = E.mu0 i
    exact H.si.hand i _ hm hob
/-- A row is what it was behind a freezing, if it still is one. -/
theorem freeze_row {l : List Nat} {i : Nat} {e : Nat} {t : Ty} {f : Bool} {xs : List (den t)} (h : (s.freeze l).heap[i]? = some (⟨.row e t f, xs⟩ : AObj)) : s.heap[i]? = some (⟨.row e t f, xs⟩ : AObj) := by
  by_cases hl : l = []
  · subst hl; exact h
  rw [freeze_eq s hl] at h
  rcases goneL_get _ _ _ _ h with ⟨_, h2⟩ | ⟨_, h2⟩ | h2
  · cases h2
  · obtain ⟨⟨t0, x0⟩, h0, e0⟩ := map_get h2
    cases t0 with
    | row _ _ _ => rw [h0, e0]; rfl
    | box _ => injection (show (⟨.row e t f, xs⟩ : AObj) = _ from e0) with e1 e2; cases e1
    | gone => injection (show (⟨.row e t f, xs⟩ : AObj) = _ from e0) with e1 e2; cases e1
  · cases h2
theorem list_as {u u' : Ty} {l' : List (den u')} {l : List (den u)} (h : (⟨.list u', l'⟩ : Dyn).as (.list u) = some l) {e : Nat} {f : Bool} : (⟨.row e u' f, l'⟩ : AObj) = ⟨.row e u f, l⟩ := by
  have := as_some h
  injection this with h5 h6
  injection h5 with h5
  subst h5
  rw [eq_of_heq h6]

theorem ok_store_row (hT : TabOK P T.tb) (H : Rep E w Fr mu s a) {o : Oper} {t : Nat} {x y : Operand} (ho : o.op = .store t x y) {ti : TI} (hg : Good P t ti) {u : Ty} {i off : Nat} {n : Int} (hx : Rp w Fr mu (.rptr u i off) n [a.eval x])
    {v : Dyn} {lv : List Value} (hv : (a.eval y).cells.toList = lv) (hcv : CD w Fr mu (· < s.heap.length) v lv) (hl : lv.length = ti.siz) (h1 : ∀ u ∈ lv, u.oneCell' = true)
    {l : List (den u)} (hrow : rowOf s u i = some l) (hza : ((⟨u, ixL u l n⟩ : Dyn).setPart off v).t.alive = true) (hzw : ((⟨u, ixL u l n⟩ : Dyn).setPart off v).t.width = u.width)
    {z : den u} {s' : St} (hcf : coeF s u ((⟨u, ixL u l n⟩ : Dyn).setPart off v) = some (z, s')) {e : Nat} {f : Bool} {l' : List (den u)} (hob : s'.heap[i]? = some (⟨.row e u f, l'⟩ : AObj)) :
    StepOK P E w Fr mu s a o nope (s'.setObj i ⟨.row e u f, setL u l' n z⟩) := by
  obtain ⟨e0, f0, ho0⟩ := rowOf_some hrow
  obtain ⟨b, m, cc, hhdr, h0, hn, hp⟩ := hx
  injection hp with hp
  obtain ⟨he, cells, hr, hc⟩ := row_cells (H.si.obj i _ ho0)
  rcases hc with ⟨ad, hnil, _⟩ | ⟨cap, cur, hhdr', hlen, hmax, hocc, hcell, hcs, htk, hat⟩
  · rw [hnil] at hhdr
    injection hhdr with _ hh _
    have h0 : (0 : Int) ≤ n := h0
    have hn : n < (m : Int) := hn
    omega
  rw [hhdr'] at hhdr
  injection hhdr with hb hm _
  injection hb with hb
  injection hb with hb
  subst hb
  have h0 : (0 : Int) ≤ n := h0
  have hn : n < (m : Int) := hn
  have hnl : n.toNat < l.length := by omega
  have hxn : l[n.toNat]? = some (ixL u l n) := by
    unfold ixL
    rw [List.getD_eq_getElem?_getD, List.getElem?_eq_getElem hnl]; rfl
  have hwid : ∀ (x : den u) (l : List Value), Rp w Fr mu u x l → l.length = u.width := fun x l h => Rp_len u x l (Ty.elt_cel he) h
  obtain ⟨c, hc, hcl, A, B, ec, hA⟩ := rows_get hwid hr hxn
  have hcd : CD w Fr mu (· < s.heap.length) ⟨u, ixL u l n⟩ c := ⟨Ty.elt_cel he, u.pure_okN (Ty.elt_pure he), hc⟩
  obtain ⟨l1, lm, l2, el, hl1, hlm, _, hz⟩ := setPart_ok hcd hcv hza hzw
  obtain ⟨_, hs', hrz, H'⟩ := coeF_ok H hcf hz
  have hsame : l' = l ∧ e = e0 := by
    rw [hs'] at hob
    have := freeze_row hob
    rw [ho0] at this
    injection this with this
    injection this with h3 h4
    injection h3 with h5 h6 h7
    exact ⟨h4.symm, h5.symm⟩
  obtain ⟨rfl, rfl⟩ := hsame
  -- the block, and what is written
  have hcur : cur.toList = A ++ (l1 ++ (lm ++ l2)) ++ (B ++ cur.toList.drop (l'.length * u.width)) := by
    conv => lhs; rw [← List.take_append_drop (l'.length * u.width) cur.toList, htk, ec, el]
    simp
  have hfit : n.toNat * u.width + off + lv.length ≤ cur.size := by
    have : cur.size = cur.toList.length := by simp
    rw [this, hcur]
    simp only [List.length_append, hA, hl1, hlm]; omega
  have hst := ex_store (P := P) (w := w) (ρ := a.eval) ho hg hp hcell (by rw [hv, hl]) (by rw [hv]; exact h1) (by rw [hv]; exact hfit)
  rw [hv] at hst
  have hput := list_put A l1 lm l2 (B ++ cur.toList.drop (l'.length * u.width)) lv hlm
  rw [← hcur, hA, hl1] at hput
  rw [hput] at hst
  generalize hnew : (A ++ (l1 ++ (lv ++ l2)) ++ (B ++ cur.toList.drop (l'.length * u.width))) = new at hst hput
  have hgrow : Grow (fun b' => occ mu i (⟨.row e u f, l'⟩ : AObj) ∧ b' = (mu i).loc) w (w.setRow (mu i).loc new.toArray) := grow_setRow ⟨hocc, rfl⟩
  have hown := H'.si.own i _ hob hocc
  have hfr : ∀ b', FrL Fr mu s.heap (ownsT ((⟨u, ixL u l' n⟩ : Dyn).setPart off v).t []) b' → (w.setRow (mu i).loc new.toArray).heap[b']? = w.heap[b']? := fun b' hb => hgrow.block b' (H'.si.frL b' hb) (fun ⟨_, e⟩ => hown.2.1 (e ▸ hb))
  refine ⟨_, undef, _, FrL Fr mu s.heap (ownsT ((⟨u, ixL u l' n⟩ : Dyn).setPart off v).t []), mu, hst, .inr ⟨rfl, rfl⟩, trivial, trivial, ?_, Kept.trans (by rw [hs']; exact Kept.frz) (Kept.put1 H'.si hob (fun t x e => by cases e) hgrow (by rw [ho]; intro h; cases h))⟩
  have hlenz : (l1 ++ (lv ++ l2)).length = u.width := by
    rw [el] at hcl
    simp only [List.length_append] at hcl ⊢
    omega
  refine H'.put1 hob hgrow ?_ (fun _ => hocc) (fun t x e => by cases e) (fun hm => by have := H'.si.hand i _ hm hob; cases f <;> exact this)
  refine ⟨he, A ++ ((l1 ++ (lv ++ l2)) ++ B), ?_, .inr ⟨hocc, ?_, ?_⟩⟩
  · have h3 : rows (fun x l => Rp (w.setRow (mu i).loc new.toArray) (FrL Fr mu s.heap (ownsT ((⟨u, ixL u l' n⟩ : Dyn).setPart off v).t [])) mu u x l) l' cells :=
      rows_mono (fun x l h => Rp_keep (fun b hb => .inl hb) (fun b hb => hfr b (.inl hb)) u x l (Ty.okN_all (fun _ => rfl) u) h) hr
    have h4 := rows_set (n := u.width) (fun x l h => Rp_len u x l (Ty.elt_cel he) h) h3 hnl (Rp_keep (fun _ => id) hfr u z _ (Ty.okN_all (fun _ => rfl) u) hrz)
    have e1 : cells.take (n.toNat * u.width) = A := by rw [ec, ← hA, List.take_left' rfl]
    have e2 : cells.drop (n.toNat * u.width + u.width) = B := by rw [ec, ← List.append_assoc, List.drop_left' (by simp [hA, hcl])]
    rw [e1, e2] at h4
    exact h4
  · have : (setL u l' n z).length = l'.length := by simp [setL]
    rw [this]
    have h5 := rows_len hwid hr
    rw [ec] at h5
    simp only [List.length_append] at h5 hlenz ⊢
    omega
  · have hll : (setL u l' n z).length = l'.length := by simp [setL]
    refine .inr ⟨(mu i).loc, cap, new.toArray, by rw [hll]; exact hhdr', Nat.zero_le _, setRow_heap w _ _ _ _ (0, 0) hcell, by rw [hll]; exact hlen, hmax, ?_, ?_⟩
    · rw [← hcs, ← hnew]
      have : cur.size = cur.toList.length := by simp
      rw [this]; conv => rhs; rw [hcur]
      simp only [List.size_toArray, List.length_append]; omega
    · rw [hll, ← hnew]
      have h5 := rows_len hwid hr
      rw [ec] at h5
      have e3 : A ++ (l1 ++ (lv ++ l2)) ++ (B ++ cur.toList.drop (l'.length * u.width)) = (A ++ ((l1 ++ (lv ++ l2)) ++ B)) ++ cur.toList.drop (l'.length * u.width) := by simp
      rw [List.toList_toArray, e3, List.take_left']
      simp only [List.length_append] at h5 hlenz ⊢
      omega
theorem ok_store_arr (H : Rep E w Fr mu s a) {o : Oper} {t : Nat} {x y : Operand} (ho : o.op = .store t x y) {ti : TI} (hg : Good P t ti) {u : Ty} {m i base off : Nat} {n : Int} (hx : Rp w Fr mu (.aptr u m i base off) n [a.eval x])
    {v : Dyn} {lv : List Value} (hv : (a.eval y).cells.toList = lv) (hcv : CD w Fr mu (· < s.heap.length) v lv) (hl : lv.length = ti.siz) (h1 : ∀ u ∈ lv, u.oneCell' = true)
    {bt : Ty} {bx : den bt} (hbox : s.heap[i]? = some (⟨.box bt, bx⟩ : AObj)) {l : List (den u)} (harr : arrAt ⟨bt, bx⟩ base m u = some l)
    (hza : ((⟨u, ixL u l n⟩ : Dyn).setPart off v).t.alive = true) (hzw : ((⟨u, ixL u l n⟩ : Dyn).setPart off v).t.width = u.width)
    {z : den u} {s' : St} (hcf : coeF s u ((⟨u, ixL u l n⟩ : Dyn).setPart off v) = some (z, s')) {bt' : Ty} {bx' : den bt'} (hob : s'.heap[i]? = some (⟨.box bt', bx'⟩ : AObj)) {l' : List (den u)} (harr' : arrAt ⟨bt', bx'⟩ base m u = some l')
    (hwa : ((⟨bt', bx'⟩ : Dyn).setPart base ⟨.arr m u, setL u l' n z⟩).t.alive = true) (hww : ((⟨bt', bx'⟩ : Dyn).setPart base ⟨.arr m u, setL u l' n z⟩).t.width = bt'.width) :
    StepOK P E w Fr mu s a o nope (s'.setObj i ⟨.box ((⟨bt', bx'⟩ : Dyn).setPart base ⟨.arr m u, setL u l' n z⟩).t, ((⟨bt', bx'⟩ : Dyn).setPart base ⟨.arr m u, setL u l' n z⟩).x⟩) := by
  obtain ⟨⟨h0, hn⟩, hp⟩ := hx
  injection hp with hp
  have h0 : (0 : Int) ≤ n := h0
  have hn : n < (m : Int) := hn
  obtain ⟨cells, e, hcell, hcd, hat⟩ := box_CD H hbox
  have hlen := (arr_CD hcd harr).2.1
  have helt := (arr_CD hcd harr).1
  obtain ⟨A, c, B, ec, hA, hce⟩ := arr_at (n := n) hcd harr h0 (by rw [hlen]; exact hn)
  obtain ⟨x1, xm, x2, ex, hx1, hxm, _, hz⟩ := setPart_ok hce hcv hza hzw
  obtain ⟨_, hs', hrz, H'⟩ := coeF_ok H hcf hz
  generalize hFr' : FrL Fr mu s.heap (ownsT ((⟨u, ixL u l n⟩ : Dyn).setPart off v).t []) = Fr' at hrz H'
  obtain ⟨cells', e', hcell', hcd', hat'⟩ := box_CD H' hob
  have hcells : cells' = cells := by
    rw [hcell] at hcell'
    injection hcell' with h
    injection h with h2 h3 h4
    have := congrArg Array.toList h2
    simpa using this.symm
  subst hcells
  obtain ⟨helt', hlen', l1, lp, l2, e2, hl1, hrl⟩ := arr_CD hcd' harr'
  have hwid : ∀ (x : den u) (l : List Value), Rp w Fr' mu u x l → l.length = u.width := fun x l h => Rp_len u x l (Ty.elt_cel helt) h
  have hlp := rows_len hwid hrl
  have hnl : n.toNat < l'.length := by rw [hlen']; omega
  have hnm : n.toNat * u.width + u.width ≤ lp.length := by
    rw [hlp, hlen', ← Nat.succ_mul]
    exact Nat.mul_le_mul_right _ (by omega)
  -- the array's cells then
  have hnewr := rows_set (z := z) (c := x1 ++ (lv ++ x2)) hwid hrl hnl hrz
  have hcl : c.length = u.width := hce.len
  have hxl : (x1 ++ (lv ++ x2)).length = u.width := by
    rw [ex] at hcl
    simp only [List.length_append] at hcl ⊢
    omega
  have hsplit : A = l1 ++ lp.take (n.toNat * u.width) ∧ c ++ B = lp.drop (n.toNat * u.width) ++ l2 := by
    apply List.append_inj
    · rw [← ec, e2, List.append_assoc, ← List.append_assoc (lp.take _), List.take_append_drop]
    · rw [hA, List.length_append, hl1, List.length_take]; omega
  have hB : B = lp.drop (n.toNat * u.width + u.width) ++ l2 := by
    have := hsplit.2
    have h6 : (c ++ B).drop u.width = B := by rw [List.drop_left' hcl]
    rw [← h6, this, List.drop_append_of_le_length (by rw [List.length_drop]; omega), List.drop_drop]
  generalize hnl' : (lp.take (n.toNat * u.width) ++ ((x1 ++ (lv ++ x2)) ++ lp.drop (n.toNat * u.width + u.width))) = newarr at hnewr
  have hnlen : newarr.length = lp.length := by
    rw [← hnl']
    simp only [List.length_append, List.length_take, List.length_drop] at hxl ⊢
    omega
  have hcn : CD w Fr' mu (· < s'.heap.length) ⟨.arr m u, setL u l' n z⟩ newarr := ⟨Ty.elt_cel helt, trivial, helt, by rw [← hlen']; simp [setL], hnewr⟩
  obtain ⟨L1, LM, L2, eL, hL1, hLM, _, hZ⟩ := setPart_ok hcd' hcn hwa hww
  have hL : L1 = l1 ∧ L2 = l2 := by
    have h7 : L1 ++ (LM ++ L2) = l1 ++ (lp ++ l2) := by rw [← eL, e2]
    obtain ⟨h8, h9⟩ := List.append_inj h7 (by rw [hL1, hl1])
    exact ⟨h8, (List.append_inj h9 (by rw [hLM, hnlen])).2⟩
  obtain ⟨rfl, rfl⟩ := hL
  have hocc : occ mu i (⟨.box bt', bx'⟩ : AObj) := trivial
  have hfit : base + (n.toNat * u.width + off) + lv.length ≤ cells'.toArray.size := by
    have : cells'.toArray.size = cells'.length := by simp
    rw [this, ec, ex]
    simp only [List.length_append, hA, hx1, hxm]; omega
  have hst := ex_store (P := P) (w := w) (ρ := a.eval) ho hg hp hcell (by rw [hv, hl]) (by rw [hv]; exact h1) (by rw [hv]; exact hfit)
  rw [hv] at hst
  have hput := list_put A x1 xm x2 B lv hxm
  have hcur : A ++ (x1 ++ (xm ++ x2)) ++ B = cells' := by rw [ec, ex]; simp
  rw [hcur, hA, hx1] at hput
  have hres : A ++ (x1 ++ (lv ++ x2)) ++ B = L1 ++ (newarr ++ L2) := by
    rw [hsplit.1, hB, ← hnl']; simp
  rw [hres, show base + n.toNat * u.width + off = base + (n.toNat * u.width + off) by omega] at hput
  simp only [List.toList_toArray] at hst
  rw [hput] at hst
  have hgrow : Grow (fun b' => occ mu i (⟨.box bt', bx'⟩ : AObj) ∧ b' = (mu i).loc) w (w.setRow (mu i).loc (L1 ++ (newarr ++ L2)).toArray) := grow_setRow ⟨hocc, rfl⟩
  have hfr : ∀ b', Fr' b' → (w.setRow (mu i).loc (L1 ++ (newarr ++ L2)).toArray).heap[b']? = w.heap[b']? := fun b' hb => hgrow.block b' (H'.si.frL b' hb) (fun ⟨_, e⟩ => (H'.si.own i _ hob hocc).2.1 (e ▸ hb))
  refine ⟨_, undef, _, Fr', mu, hst, .inr ⟨rfl, rfl⟩, trivial, trivial, ?_, Kept.trans (by rw [hs', ← hFr']; exact Kept.frz) (Kept.put1 H'.si hob (fun t x _ => ⟨_, _, rfl⟩) hgrow (by rw [ho]; intro h; cases h))⟩
  refine H'.put1 hob hgrow ?_ (fun _ => hocc) ?_ ?_
  · exact ⟨hZ.cel, _, e, setRow_heap w _ _ _ e (0, 0) hcell, (CD_keep (fun _ => id) hfr hZ).rp⟩
  · intro t' x' e'
    injection e' with e1 e2
    injection e1 with e1
    rw [← e1]; exact hZ.ok
  · intro hm
    show mu i = E.mu0 i
    exact H'.si.hand i _ hm hob

theorem ok_store (hT : TabOK P T.tb) (H : Rep E w Fr mu s a) {fn : Nat} {o : Oper} {t : Nat} {x y : Operand} (ho : o.op = .store t x y) {d : Dyn} {s' : St} (h : opP T fn o s = some (true, d, s')) : StepOK P E w Fr mu s a o d s' := by
  unfold opP at h
  rw [ho] at h
  dsimp only at h
  split at h
  · cases h
  rename_i ti hti
  have hg := hT t ti hti
  split at h
  case isFalse => cases h
  rename_i hc
  simp only [Bool.and_eq_true, beq_iff_eq] at hc
  obtain ⟨⟨hal, hcel⟩, hwid⟩ := hc
  obtain ⟨hcv, h1⟩ := VR_cells (p := (· < s.heap.length)) H.si.hh (H.op y).1 hcel hal (H.op y).2
  have hl : (a.eval y).cells.toList.length = ti.siz := by rw [hcv.len, hwid]
  have hx := (H.op x).1
  split at h
  · rename_i i off _ hq
    rw [hq] at hx
    have hx : [a.eval x] = [.pointer (some ⟨(mu i).loc, off, none⟩)] := hx
    injection hx with hx
    split at h
    · rename_i u b hob
      split at h
      · rename_i hz
        simp only [Bool.and_eq_true, beq_iff_eq] at hz
        injection h with h
        injection h with _ h
        injection h with h2 h3
        subst h2; subst h3
        refine ok_box_put ho hg H hx (obj_some hob (by simp)) rfl hl h1 fun cells hcd => ?_
        obtain ⟨l1, lm, l2, e, e1, e2, _, e3⟩ := setPart_ok hcd hcv hz.1 hz.2
        exact ⟨l1, lm, l2, e, e1, e2, e3⟩
      · cases h
    · cases h
  · rename_i u i off n hq
    rw [hq] at hx
    split at h
    · rename_i l hrow
      split at h
      · rename_i hz
        simp only [Bool.and_eq_true, beq_iff_eq] at hz
        split at h
        · rename_i z s2 hcf
          split at h
          · rename_i e u' f l0 hob
            split at h
            · rename_i l' hl'
              injection h with h
              injection h with _ h
              injection h with h2 h3
              subst h2; subst h3
              have hob' := obj_some hob (by simp)
              rw [list_as hl'] at hob'
              exact ok_store_row hT H ho hg hx rfl hcv hl h1 hrow hz.1 hz.2 hcf hob'
            · cases h
          · cases h
        · cases h
      · cases h
    · cases h
  · rename_i u m i base off n hq
    rw [hq] at hx
    split at h
    · rename_i bt bx hbox
      split at h
      · rename_i l harr
        split at h
        · rename_i hz
          simp only [Bool.and_eq_true, beq_iff_eq] at hz
          split at h
          · rename_i z s2 hcf
            split at h
            · rename_i bt' bx' hob
              split at h
              · rename_i l' harr'
                split at h
                · rename_i hw
                  simp only [Bool.and_eq_true, beq_iff_eq] at hw
                  injection h with h
                  injection h with _ h
                  injection h with h2 h3
                  subst h2; subst h3
                  exact ok_store_arr H ho hg hx rfl hcv hl h1 (obj_some hbox (by simp)) harr hz.1 hz.2 hcf (obj_some hob (by simp)) harr' hw.1 hw.2
                · cases h
              · cases h
            · cases h
          · cases h
        · cases h
      · cases h
    · cases h
  · cases h
end
end Go.Abs
