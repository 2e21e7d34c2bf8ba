/- Rows: append, make, literals, parts, as the interpreter tells them. No conditions. -/
import Derived.Test.YtobfcaejpcpboaaOps7
set_option autoImplicit false
set_option linter.unusedVariables false
namespace Go.Abs

section
variable {P : Program} {T : Told} {E : Env} {w : World} {Fr : Nat → Prop} {mu : Nat → Loc} {s : St} {a : Act}

theorem rowT_ok (hT : TabOK P T.tb) {t e : Nat} {i : TI} (h : rowT T t = some (e, i)) : P.underlying t = some (.slice e) ∧ Good P e i ∧ 0 < i.siz ∧ i.ty.width = i.siz ∧ i.byt ≤ 131072 ∧ i.ty.elt = true ∧ i.zer.t.alive = true ∧ i.zer.t.cel = true ∧ i.siz ≤ 16384 := by
  unfold rowT at h
  split at h
  · rename_i e' eqs siz byt zer ty hti
    split at h
    · rename_i i' hi
      split at h
      · rename_i hc
        injection h with h
        injection h with h1 h2
        subst h1; subst h2
        exact ⟨(hT _ _ hti).und, hT _ _ hi, hc.1, hc.2.1, hc.2.2.1, hc.2.2.2.1, hc.2.2.2.2.1, hc.2.2.2.2.2.1, hc.2.2.2.2.2.2⟩
      · cases h
    · cases h
  · cases h
/-- A list that is read. -/
theorem readL_ok (H : Rep E w Fr mu s a) {t : Ty} {d : Dyn} {ys : List (den t)} (h : readL s t d = some ys) {v : Value} (hv : VR w Fr mu d v) :
    ∃ ad c cells, v = .slice ad ys.length c ∧ rows (fun x l => Rp w Fr mu t x l) ys cells ∧ ((v = .slice none 0 0 ∧ ys = []) ∨ ys = [] ∨ ∃ b o, ad = some ⟨b, o, none⟩ ∧ At w b o cells) := by
  unfold readL at h
  have h := as_some h
  obtain ⟨dt, dx⟩ := d
  have plain : (⟨dt, dx⟩ : Dyn) = ⟨.list t, ys⟩ → ∃ ad c cells, v = .slice ad ys.length c ∧ rows (fun x l => Rp w Fr mu t x l) ys cells ∧ ((v = .slice none 0 0 ∧ ys = []) ∨ ys = [] ∨ ∃ b o, ad = some ⟨b, o, none⟩ ∧ At w b o cells) := by
    intro e
    rw [e] at hv
    obtain ⟨he, ad, c, cells, e1, hlen, hr, hat⟩ := hv
    injection e1 with e1
    exact ⟨ad, c, cells, e1, hr, .inr (hat.imp id fun ⟨b, o, h1, _, h2⟩ => ⟨b, o, h1, h2⟩)⟩
  cases dt
  case nil e =>
    dsimp only [coe] at h
    split at h
    · injection h with h1 h2
      subst h2
      injection (show [v] = [_] from hv) with hv
      exact ⟨none, 0, [], hv, rfl, .inl ⟨hv, rfl⟩⟩
    · cases h
  case own u i =>
    dsimp only [coe] at h
    split at h
    · rename_i l hl
      injection h with h1 h2
      subst h2
      injection (show [v] = [_] from hv) with hv
      obtain ⟨e0, f0, ho0⟩ := rowOf_some hl
      obtain ⟨he, cells, hr, hcs⟩ := row_cells (H.si.obj _ _ ho0)
      rcases hcs with ⟨ad, h0, hnil⟩ | ⟨cap, cur, hh, hn, hm, hocc, hcell, hsz, htk, hat⟩
      · subst hnil
        exact ⟨ad, 0, cells, by rw [hv, h0]; rfl, hr, .inr (.inl rfl)⟩
      · exact ⟨_, cap, cells, by rw [hv, hh], hr, .inr (.inr ⟨_, _, rfl, hat⟩)⟩
    · cases h
  all_goals exact plain h
theorem maxLen_big : maxLen = 9223372036854775807 := rfl
/-- append, to a row or nil. -/
theorem run_append {t ty e : Nat} {i : TI} (hu : P.underlying t = some (.slice e)) (hg : Good P e i) (hz : 0 < i.siz) (hb : i.byt ≤ 131072) (hza : i.zer.t.alive = true) {L : Loc} {n : Nat} {xs : List Value} (hxl : xs.length = n * i.siz) (hown : RowAt w L e i.siz n xs)
    {y : Value} {m : Nat} {news : List Value} (hy : (y = .slice none 0 0 ∧ m = 0) ∨ ∃ ad c, y = .slice ad m c ∧ (m = 0 ∨ ∃ b o, ad = some ⟨b, o, none⟩ ∧ At w b o news)) (hl : news.length = m * i.siz) (h1 : ∀ u ∈ news, u.oneCell' = true) (hfit : n + m ≤ 1073741824) :
    ∃ L' w', (Builtin.append_ #[t, t] ty #[L.hdr, y]).run P w = .ok L'.hdr w' ∧ RowAt w' L' e i.siz (n + m) (xs ++ news) ∧ Grow (fun b => L.hdr.ownBlock = some L.loc ∧ b = L.loc) w w' ∧
      (L'.hdr.ownBlock = some L'.loc → L'.loc < w'.heap.size ∧ ((L.hdr.ownBlock = some L.loc ∧ L'.loc = L.loc) ∨ w.heap.size ≤ L'.loc)) ∧ L'.hdr.oneCell' = true := by
  obtain ⟨it, hit, hsz, hby, hzz⟩ := hg.info
  obtain ⟨z, hz1, hz2, _⟩ := hzz hza
  have hone : L.hdr.oneCell' = true := by
    rcases hown with ⟨ad, h, _⟩ | ⟨_, _, ⟨h, _⟩ | ⟨g, cap, cur, h, _⟩⟩ <;> rw [h] <;> rfl
  have hlt : L.hdr.ownBlock = some L.loc → L.loc < w.heap.size := by
    intro h
    rcases hown with ⟨ad, _, _, h'⟩ | ⟨_, h'⟩
    · exact absurd h h'
    · exact (h'.lt _ h).2
  have zero : m = 0 → news = [] := fun h => List.eq_nil_of_length_eq_zero (by rw [hl, h]; simp)
  have same : (Builtin.append_ #[t, t] ty #[L.hdr, y]).run P w = .ok L.hdr w → m = 0 → ∃ L' w', (Builtin.append_ #[t, t] ty #[L.hdr, y]).run P w = .ok L'.hdr w' ∧ RowAt w' L' e i.siz (n + m) (xs ++ news) ∧ Grow (fun b => L.hdr.ownBlock = some L.loc ∧ b = L.loc) w w' ∧
      (L'.hdr.ownBlock = some L'.loc → L'.loc < w'.heap.size ∧ ((L.hdr.ownBlock = some L.loc ∧ L'.loc = L.loc) ∨ w.heap.size ≤ L'.loc)) ∧ L'.hdr.oneCell' = true := by
    intro hr hm
    have hn := zero hm
    subst hm; subst hn
    exact ⟨L, w, hr, by simpa using hown, Grow.refl _ w, fun h => ⟨hlt h, .inl ⟨h, rfl⟩⟩, hone⟩
  -- a slice without room of its own
  have fresh : ∀ (v : Value) (w' : World), 0 < m → v.ownBlock = some w.heap.size → v.oneCell' = true → w'.ownsRow 0 e i.siz v (n + m) (xs ++ news) → Grow (fun b => L.hdr.ownBlock = some L.loc ∧ b = L.loc) w w' → (Builtin.append_ #[t, t] ty #[L.hdr, y]).run P w = .ok v w' →
      ∃ L' w', (Builtin.append_ #[t, t] ty #[L.hdr, y]).run P w = .ok L'.hdr w' ∧ RowAt w' L' e i.siz (n + m) (xs ++ news) ∧ Grow (fun b => L.hdr.ownBlock = some L.loc ∧ b = L.loc) w w' ∧
      (L'.hdr.ownBlock = some L'.loc → L'.loc < w'.heap.size ∧ ((L.hdr.ownBlock = some L.loc ∧ L'.loc = L.loc) ∨ w.heap.size ≤ L'.loc)) ∧ L'.hdr.oneCell' = true := by
    intro v w' hm hv hv1 ho hg hr
    exact ⟨⟨w.heap.size, v⟩, w', hr, .inr ⟨hv, ho⟩, hg, fun _ => ⟨(ho.lt _ hv).2, .inr (Nat.le_refl _)⟩, hv1⟩
  have h0 : ∀ (ad : Option Addr) (c : Nat), (Builtin.firstCells i.siz 0 (.slice ad 0 c)).run P w = .ok #[] w := by
    intro ad c
    cases ad <;> simp [Builtin.firstCells, loadCells, loadCellsFrom]
  have hbig : n + m ≤ maxLen := by rw [maxLen_big]; omega
  have hbyt : (n + m) * i.byt ≤ 140737488355328 := by
    have := Nat.mul_le_mul hfit hb
    omega
  rcases hown with ⟨ad0, e0, hn0, hno⟩ | ⟨hob, hown⟩
  · subst hn0
    have hxs : xs = [] := List.eq_nil_of_length_eq_zero (by rw [hxl]; simp)
    rcases hy with ⟨rfl, hm⟩ | ⟨ad, c, rfl, hm | ⟨b, o, rfl, hat⟩⟩
    · refine same ?_ hm
      rw [e0]
      cases ad0 <;> simp [Builtin.append_, run_underlying hu, sizeOf, typeInfo, hit, Builtin.lenOf, Builtin.firstCells, storeCells]
    · refine same ?_ hm
      subst hm
      rw [e0]
      cases ad0 <;> simp [Builtin.append_, run_underlying hu, sizeOf, typeInfo, hit, Builtin.lenOf, hsz, h0, storeCells]
    · by_cases hm : m = 0
      · refine same ?_ hm
        subst hm
        rw [e0]
        cases ad0 <;> simp [Builtin.append_, run_underlying hu, sizeOf, typeInfo, hit, Builtin.lenOf, hsz, h0, storeCells]
      · have hmpos : 0 < m := by omega
        have hnews : ∀ j u, news[j]? = some u → w.cell? ((⟨b, o, none⟩ : Addr).add j) = some u := fun j u hj => by rw [addr_add]; exact hat j u hj
        subst hxs
        rw [Nat.zero_add] at hbyt
        have hge := grownCap_ge w m 0 e
        have hcm : grownCap w m 0 e ≤ maxLen := grownCap_le_maxLen w m 0 e (by omega)
        have hgrow : Grow (fun b => L.hdr.ownBlock = some L.loc ∧ b = L.loc) w (w.drew.alloc (.cells (news.toArray ++ Builtin.zeroCells z.cells (grownCap w m 0 e - m)) e)) :=
          ⟨rfl, rfl, rfl, by simp, fun k hk _ => heap_alloc_old w.drew _ k hk⟩
        have hrow : (w.drew.alloc (.cells (news.toArray ++ Builtin.zeroCells z.cells (grownCap w m 0 e - m)) e)).ownsRow 0 e i.siz (.slice (some ⟨w.heap.size, 0, none⟩) m (grownCap w m 0 e)) (0 + m) ([] ++ news) := by
          rw [Nat.zero_add, List.nil_append]
          refine ⟨hl, .inr ⟨w.heap.size, _, _, rfl, Nat.zero_le _, heap_alloc_new w.drew _, hge, hcm, ?_, ?_⟩⟩
          · simp only [Array.size_append, List.size_toArray, size_zeroCells, hz2, hl, ← Nat.add_mul]
            congr 1
            omega
          · simp only [Array.toList_append]
            rw [← hl]
            exact List.take_left
        refine fresh _ _ hmpos rfl rfl hrow hgrow ?_
        rw [e0]
        cases ad0 with
        | none =>
          exact run_append_nil (P := P) w t ty e it z hu hit hz1 ⟨b, o, none⟩ m c news (by rw [hl, hsz]) hnews hmpos (by omega) (by rw [hby]; omega)
        | some a0 =>
          have := run_append_grow (P := P) w t ty e it z hu hit hz1 a0 0 0 [] (by simp) (by simp) ⟨b, o, none⟩ m c news (by rw [hl, hsz]) hnews (by omega) (by omega) (by
            rw [Nat.zero_add, nextslicecap_zero hmpos, hby]; omega)
          simpa using this
  · rcases hy with ⟨rfl, hm⟩ | ⟨ad, c, rfl, hm | ⟨b, o, rfl, hat⟩⟩
    · exact same (run_append_owned_none w 0 t ty e it i.siz hu hit L.hdr n xs hown) hm
    · refine same ?_ hm
      subst hm
      rcases hown.2 with ⟨h2, rfl⟩ | ⟨g, cap, cur, h2, _, _, hnc, _⟩
      · rw [h2]; simp [Builtin.append_, run_underlying hu, sizeOf, typeInfo, hit, Builtin.lenOf, hsz, h0]
      · rw [h2]; simp [Builtin.append_, run_underlying hu, sizeOf, typeInfo, hit, Builtin.lenOf, hsz, h0, hnc, storeCells]
    · obtain ⟨v', w', h2, h3, h4, _, h5⟩ := run_append_own_at (P := P) w 0 t ty e it z i.siz i.byt hu hit hz1 hsz hby hz2 hz L.hdr n xs hown ⟨b, o, none⟩ m c news hl (fun j u hj => by rw [addr_add]; exact hat j u hj) h1
        hbig hbyt (Nat.zero_le _)
      have hgr : Grow (fun b => L.hdr.ownBlock = some L.loc ∧ b = L.loc) w w' := ⟨h4.os, h4.tape, h4.output, h4.size, fun k hk hn => h4.block k hk (fun e => hn ⟨hob, by rw [hob] at e; injection e⟩)⟩
      have hv1 : v'.oneCell' = true := by rcases h3.2 with ⟨rfl, _⟩ | ⟨g, cap, cur, rfl, _⟩ <;> rfl
      rcases h5 with h5 | h5
      · exact ⟨⟨L.loc, v'⟩, w', h2, .inr ⟨by rw [← hob]; exact h5, h3⟩, hgr, fun h => ⟨(h3.lt _ h).2, .inl ⟨hob, rfl⟩⟩, hv1⟩
      · exact ⟨⟨w.heap.size, v'⟩, w', h2, .inr ⟨h5, h3⟩, hgr, fun h => ⟨(h3.lt _ h).2, .inr (Nat.le_refl _)⟩, hv1⟩
theorem killR_T (l : List Nat) : TrT (killR l) := by
  constructor
  · intro t i; show ((if l.contains i then nope else _ : Dyn).t.vk = .one ∨ _) ∧ _; unfold killR; dsimp only; split <;> simp [nope, Ty.vk, Ty.cel]
  · intro t i o x; unfold killR; dsimp only; split <;> simp [nope, Ty.vk, Ty.cel]
  · intro i o; unfold killR; dsimp only; split <;> simp [nope, Ty.vk, Ty.cel]
  · intro t m i b o x; unfold killR; dsimp only; split <;> simp [nope, Ty.vk, Ty.cel]
theorem killR_OK2 {w' : World} {Fr' : Nat → Prop} {mu' : Nat → Loc} {l : List Nat} {p : Nat → Prop} (hF : ∀ b, Fr b → Fr' b) (hh : ∀ i, (mu i).hdr.oneCell' = true) (hw : ∀ b, Fr b → w'.heap[b]? = w.heap[b]?) (hm : ∀ i, p i → i ∉ l → mu' i = mu i) : TrOK w Fr mu w' Fr' mu' (killR l) p where
  fr := hF
  wd := hw
  own t i hi := by
    unfold killR; dsimp only
    split
    · exact ⟨.inr rfl, rfl, _, rfl, hh i⟩
    · rename_i hc
      exact ⟨.inl rfl, rfl, by show _ = [(mu' i).hdr]; rw [hm i hi (by simpa using hc)]⟩
  rptr t i o x l' hi hr := by
    unfold killR; dsimp only
    split
    · obtain ⟨b, n, c, _, _, _, e⟩ := hr
      exact ⟨.inr rfl, rfl, _, e, rfl⟩
    · rename_i hc
      exact ⟨.inl rfl, rfl, Rp_keep hF hw (.rptr t i o) x l' (hm i hi (by simpa using hc)) hr⟩
  ptr i o hi := by
    unfold killR; dsimp only
    split
    · exact ⟨.inr rfl, rfl, _, rfl, rfl⟩
    · rename_i hc
      exact ⟨.inl rfl, rfl, by show _ = [Value.pointer (some ⟨(mu' i).loc, o, none⟩)]; rw [hm i hi (by simpa using hc)]⟩
  aptr t m i b o x l' hi hr := by
    unfold killR; dsimp only
    split
    · exact ⟨.inr rfl, rfl, _, hr.2, rfl⟩
    · rename_i hc
      exact ⟨.inl rfl, rfl, Rp_keep hF hw (.aptr t m i b o) x l' (hm i hi (by simpa using hc)) hr⟩
theorem killR_OK {w' : World} {mu' : Nat → Loc} {l : List Nat} {p : Nat → Prop} (hh : ∀ i, (mu i).hdr.oneCell' = true) (hw : ∀ b, Fr b → w'.heap[b]? = w.heap[b]?) (hm : ∀ i, p i → i ∉ l → mu' i = mu i) : TrOK w Fr mu w' Fr mu' (killR l) p :=
  killR_OK2 (fun _ => id) hh hw hm
theorem killR_okN (l : List Nat) {q : Nat → Prop} (t : Ty) (x : den t) (h : t.okN q) : ((killR l).app t x).t.okN q := by
  refine okN_app (r := killR l) (p := q) (q := q) ?_ ?_ ?_ ?_ t x h
  · intro t i hi; unfold killR; dsimp only; split
    · trivial
    · exact hi
  · intro t i o x hi; unfold killR; dsimp only; split
    · trivial
    · exact hi
  · intro i o hi; unfold killR; dsimp only; split
    · trivial
    · exact hi
  · intro t m i b o x hi; unfold killR; dsimp only; split
    · trivial
    · exact hi
/-- A row made anew. -/
theorem new_row (H : Rep E w Fr mu s a) {w' : World} {e : Nat} {t : Ty} {xs : List (den t)} {L : Loc} {cells : List Value} (he : t.elt = true) (hg : Grow (fun _ => False) w w') (h1 : L.hdr.oneCell' = true) (hown : RowAt w' L e t.width xs.length cells)
    (hblk : L.hdr.ownBlock = some L.loc → w.heap.size ≤ L.loc ∧ L.loc < w'.heap.size)
    (hr : rows (fun x l => Rp w Fr mu t x l) xs cells) :
    Rep E w' Fr (upd mu s.heap.length L) (s.new ⟨.row e t false, xs⟩) a := by
  refine H.newObj hg h1 ?_ ?_ (fun t x e => by cases e)
  · exact ⟨he, cells, rows_mono (fun x l h => Rp_keep (fun _ => id) (fun b hb => hg.block b (H.si.frL b hb) id) t x l (t.pure_okN (Ty.elt_pure he)) h) hr, by rw [upd_same]; exact hown⟩
  · intro hocc
    have hocc : (upd mu s.heap.length L s.heap.length).hdr.ownBlock = some (upd mu s.heap.length L s.heap.length).loc := hocc
    rw [upd_same] at hocc
    exact hblk hocc
theorem VR_own {mu : Nat → Loc} {t : Ty} {i : Nat} {v : Value} (h : (mu i).hdr = v) : VR w Fr mu ⟨.own t i, ()⟩ v := by
  show [v] = [(mu i).hdr]; rw [h]
theorem grow_of {row : Option Nat} {w' : World} {O : Nat → Prop} (h : w.grownBy w' row) (hO : ∀ k, row = some k → O k) : Grow O w w' :=
  ⟨h.os, h.tape, h.output, h.size, fun k hk hn => h.block k hk (fun e => hn (hO k e.symm))⟩
theorem ok_append (hT : TabOK P T.tb) (H : Rep E w Fr mu s a) {o : Oper} {xs : Array Operand} {ats : Array Nat} (ho : o.op = .call ⟨.builtin .append, xs, ats⟩) {d : Dyn} {s' : St} (h : builtinP T .append (xs.toList.map s.get) ats.toList s = some (true, d, s')) : StepOK P E w Fr mu s a o d s' := by
  obtain ⟨xl⟩ := xs
  obtain ⟨al⟩ := ats
  unfold builtinP at h
  match xl, al, h with
  | [x, y], [t, u], h =>
    dsimp only [List.map] at h
    split at h
    case isFalse => cases h
    rename_i htu
    subst htu
    have hx := (H.op x).1
    have hy := (H.op y).1
    have key : ∀ r w', (Builtin.append_ #[t, t] o.type #[a.eval x, a.eval y]).run P w = .ok r w' → (execOp a.eval o).run P w = .ok (.value r) w' := by
      intro r w' e
      unfold execOp
      simp only [ho, resolve, invoke, builtin, Sem.run_bind, Sem.run_pure, Result.andThen_ok, List.map_toArray, List.map_cons, List.map_nil, e]
    split at h
    · cases h
    rename_i e i hrow
    obtain ⟨hu, hg, hz, hw, hb, he, hza, _⟩ := rowT_ok hT hrow
    split at h
    · cases h
    rename_i ys hys
    obtain ⟨ad, c, cells, e1, hr, hat⟩ := readL_ok H hys hy
    have hlen : cells.length = ys.length * i.siz := by rw [rows_len (fun x l h => Rp_len i.ty x l (Ty.elt_cel he) h) hr, hw]
    have h1 : ∀ u ∈ cells, u.oneCell' = true := rows_all (fun x l h => Rp_one H.si.hh i.ty x l (Ty.elt_cel he) h) hr
    have hyy : (a.eval y = .slice none 0 0 ∧ ys.length = 0) ∨ ∃ ad c, a.eval y = .slice ad ys.length c ∧ (ys.length = 0 ∨ ∃ b o, ad = some ⟨b, o, none⟩ ∧ At w b o cells) := by
      rcases hat with ⟨h2, h3⟩ | h3 | h3
      · exact .inl ⟨h2, by rw [h3]; rfl⟩
      · exact .inr ⟨ad, c, e1, .inl (by rw [h3]; rfl)⟩
      · exact .inr ⟨ad, c, e1, .inr h3⟩
    split at h
    · rename_i e' _ hq
      injection h with h
      injection h with hf h
      injection h with h2 h3
      subst h2; subst h3
      rw [hq] at hx
      injection (show [a.eval x] = [_] from hx) with hx
      have hfit : ys.length ≤ 1073741824 := by unfold fitL at hf; simpa using hf
      have hnil : RowAt w nilLoc e i.siz 0 [] := .inl ⟨none, rfl, rfl, by simp [nilLoc, Value.ownBlock]⟩
      obtain ⟨L, w', hr1, hr2, hr3, hr4, hr5⟩ := run_append (P := P) (ty := o.type) hu hg hz hb hza (by simp) hnil hyy hlen h1 (by omega)
      rw [Nat.zero_add, List.nil_append] at hr2
      have hgr : Grow (fun _ => False) w w' := ⟨hr3.os, hr3.tape, hr3.output, hr3.size, fun k hk _ => hr3.block k hk (by simp [nilLoc, Value.ownBlock])⟩
      refine ⟨_, L.hdr, w', Fr, _, key _ _ (by rw [hx]; exact hr1), .inl rfl, VR_own (by rw [upd_same]), ?_, new_row H he hgr hr5 (by rw [hw]; exact hr2) ?_ hr, Kept.new H.si hgr⟩
      · show _ < _; simp [St.new]
      · intro hk
        obtain ⟨h2, h3⟩ := hr4 hk
        exact ⟨h3.resolve_left (by simp [nilLoc, Value.ownBlock]), h2⟩
    · rename_i u j _ hq
      split at h
      case h_2 => cases h
      rename_i e' u' f xs0 hob
      split at h
      case isFalse => cases h
      rename_i hee
      subst hee
      split at h
      case h_2 => cases h
      rename_i xs hxs
      injection h with h
      injection h with hf h
      injection h with h2 h3
      subst h2; subst h3
      have hoj := obj_some hob (by simp)
      rw [list_as hxs] at hoj
      rw [hq] at hx
      injection (show [a.eval x] = [_] from hx) with hx
      have hor := H.si.obj j _ hoj
      obtain ⟨_, cx, hrx, hown⟩ := hor
      rw [hw] at hown
      have hfit : xs.length + ys.length ≤ 1073741824 := by unfold fitL appL at hf; simpa using hf
      have hcx : cx.length = xs.length * i.siz := by rw [rows_len (fun x l h => Rp_len i.ty x l (Ty.elt_cel he) h) hrx, hw]
      obtain ⟨L, w', hr1, hr2, hr3, hr4, hr5⟩ := run_append (P := P) (ty := o.type) hu hg hz hb hza hcx hown hyy hlen h1 hfit
      have hgr : Grow (fun b => occ mu j (⟨.row e' i.ty f, xs⟩ : AObj) ∧ b = (mu j).loc) w w' := hr3
      have hfr : ∀ b, Fr b → w'.heap[b]? = w.heap[b]? := fun b hb => hgr.block b (H.si.frL b hb) (fun ⟨h1, h2⟩ => (H.si.own j _ hoj h1).2.1 (h2 ▸ hb))
      have hjl : j < s.heap.length := (List.getElem?_eq_some_iff.1 hoj).1
      have hrep := H.setObj (r := killR [j]) (w' := w') (L := L) (o := ⟨.row e' i.ty false, appL i.ty xs ys⟩) hoj (killR_T [j])
        (killR_OK H.si.hh hfr (fun k hk hne => upd_ne (by simpa using hne))) (fun t x h => killR_okN [j] t x h) hgr hr5
        (by
          refine ⟨he, cx ++ cells, ?_, ?_⟩
          · exact rows_mono (fun x l h => Rp_keep (fun _ => id) hfr i.ty x l (i.ty.pure_okN (Ty.elt_pure he)) h) (rows_append hrx hr)
          · rw [upd_same, hw]
            have : (appL i.ty xs ys).length = xs.length + ys.length := by simp [appL]
            rw [this]; exact hr2)
        (by
          intro hoc
          have hoc : (upd mu j L j).hdr.ownBlock = some (upd mu j L j).loc := hoc
          rw [upd_same] at hoc
          exact hr4 hoc)
        (fun t x e => by cases e) (fun _ => trivial)
      refine ⟨_, L.hdr, w', Fr, _, key _ _ (by rw [hx]; exact hr1), .inl rfl, VR_own (by rw [upd_same]), ?_, hrep, Kept.set H.si hoj (fun t x e => by cases e) hgr (fun _ t x e => by cases e)⟩
      show _ < _; simp [Tr.st, St.setObj]; exact hjl
    · cases h
  | [], _, h => cases h
  | [_], _, h => cases h
  | _ :: _ :: _ :: _, _, h => cases h
  | [_, _], [], h => cases h
  | [_, _], [_], h => cases h
  | [_, _], _ :: _ :: _ :: _, h => cases h
end
end Go.Abs
