/- The interpreter's values under a change of names; the state's relation to memory. No conditions. -/
import Derived.Test.YtobfcaejpcpboaaRep
set_option autoImplicit false
set_option linter.unusedVariables false
namespace Go.Abs

/-! ### Values under a change of names -/
section
variable {w w' : World} {Fr Fr' : Nat → Prop} {mu mu' : Nat → Loc}
/-- What a leaf may become. -/
def LeafOK (w : World) (Fr : Nat → Prop) (mu : Nat → Loc) (d : Dyn) (l : List Value) : Prop :=
  (d.t.vk = .one ∨ d.t = .dead) ∧ d.t.cel = true ∧ Rp w Fr mu d.t d.x l
structure TrOK (w : World) (Fr : Nat → Prop) (mu : Nat → Loc) (w' : World) (Fr' : Nat → Prop) (mu' : Nat → Loc) (r : Tr) (p : Nat → Prop) : Prop where
  fr : ∀ b, Fr b → Fr' b
  wd : ∀ b, Fr b → w'.heap[b]? = w.heap[b]?
  own : ∀ t i, p i → LeafOK w' Fr' mu' (r.own t i) [(mu i).hdr]
  rptr : ∀ t i o x l, p i → Rp w Fr mu (.rptr t i o) x l → LeafOK w' Fr' mu' (r.rptr t i o x) l
  ptr : ∀ i o, p i → LeafOK w' Fr' mu' (r.ptr i o) [.pointer (some ⟨(mu i).loc, o, none⟩)]
  aptr : ∀ t m i b o x l, p i → Rp w Fr mu (.aptr t m i b o) x l → LeafOK w' Fr' mu' (r.aptr t m i b o x) l

/-- What a change of names is to do at each name that stands in a type. -/
structure TrT (r : Tr) : Prop where
  own : ∀ t i, ((r.own t i).t.vk = .one ∨ (r.own t i).t = .dead) ∧ (r.own t i).t.cel = true
  rptr : ∀ t i o x, ((r.rptr t i o x).t.vk = .one ∨ (r.rptr t i o x).t = .dead) ∧ (r.rptr t i o x).t.cel = true
  ptr : ∀ i o, ((r.ptr i o).t.vk = .one ∨ (r.ptr i o).t = .dead) ∧ (r.ptr i o).t.cel = true
  aptr : ∀ t m i b o x, ((r.aptr t m i b o x).t.vk = .one ∨ (r.aptr t m i b o x).t = .dead) ∧ (r.aptr t m i b o x).t.cel = true
theorem vk_app {r : Tr} (h : TrT r) :
    ∀ (t : Ty) (x : den t), (r.app t x).t.vk = t.vk ∨ (t.vk = .one ∧ (r.app t x).t = .dead)
  | .own t i, _ => (h.own t i).1.imp id fun e => ⟨rfl, e⟩
  | .rptr t i o, x => (h.rptr t i o x).1.imp id fun e => ⟨rfl, e⟩
  | .ptr i o, _ => (h.ptr i o).1.imp id fun e => ⟨rfl, e⟩
  | .aptr t m i b o, x => (h.aptr t m i b o x).1.imp id fun e => ⟨rfl, e⟩
  | .fn _ _, _ => .inl rfl
  | .pair _ _, _ => .inl rfl
  | .tcons _ _, _ => .inl rfl
  | .eptr _ _, _ => .inl rfl | .list _, _ => .inl rfl | .arr _ _, _ => .inl rfl | .dead, _ => .inl rfl | .nil _, _ => .inl rfl | .nilptr, _ => .inl rfl | .nilfn, _ => .inl rfl | .bool, _ => .inl rfl | .int _, _ => .inl rfl | .str, _ => .inl rfl | .unit, _ => .inl rfl | .tnil, _ => .inl rfl
theorem chain_app (r : Tr) : ∀ (t : Ty) (x : den t), t.chain = true → (r.app t x).t.chain = true
  | .pair _ _, _, _ => rfl
  | .unit, _, _ => rfl
theorem cel_app {r : Tr} (h : TrT r) : ∀ (t : Ty) (x : den t), t.cel = true → (r.app t x).t.cel = true
  | .own t i, _, _ => (h.own t i).2
  | .rptr t i o, x, _ => (h.rptr t i o x).2
  | .ptr i o, _, _ => (h.ptr i o).2
  | .aptr t m i b o, x, _ => (h.aptr t m i b o x).2
  | .fn _ _, _, _ => rfl
  | .pair a b, x, hc => by
    simp only [Ty.cel, Bool.and_eq_true] at hc
    show ((r.app a x.1).t.cel && (r.app b x.2).t.cel && (r.app b x.2).t.chain) = true
    rw [cel_app h a _ hc.1.1, cel_app h b _ hc.1.2, chain_app r b _ hc.2]; rfl
  | .eptr _ _, _, h => h | .list _, _, h => h | .arr _ _, _, h => h | .dead, _, h => h | .nil _, _, h => h | .nilptr, _, h => h | .nilfn, _, h => h | .bool, _, h => h | .int _, _, h => h | .str, _, h => h | .unit, _, h => h

theorem Rp_tr {r : Tr} {p : Nat → Prop} (hT : TrT r) (h : TrOK w Fr mu w' Fr' mu' r p) : ∀ (t : Ty) (x : den t) (l : List Value), t.okN p → Rp w Fr mu t x l → Rp w' Fr' mu' (r.app t x).t (r.app t x).x l
  | .own t i, _, l, hn, hr => by
    cases hr
    exact (h.own t i hn).2.2
  | .rptr t i o, x, l, hn, hr => (h.rptr t i o x l hn hr).2.2
  | .ptr i o, _, l, hn, hr => by
    cases hr
    exact (h.ptr i o hn).2.2
  | .aptr t m i b o, x, l, hn, hr => (h.aptr t m i b o x l hn hr).2.2
  | .fn f c, x, l, hn, hr => by
    obtain ⟨vs, e, hr⟩ := hr
    exact ⟨vs, e, Rp_tr hT h c x vs hn hr⟩
  | .pair a b, x, l, hn, hr => by
    obtain ⟨l1, l2, e, h1, h2⟩ := hr
    exact ⟨l1, l2, e, Rp_tr hT h a _ _ hn.1 h1, Rp_tr hT h b _ _ hn.2 h2⟩
  | .tcons a b, x, l, hn, hr => by
    obtain ⟨v, vs, e, h1, h2⟩ := hr
    refine ⟨v, vs, e, ?_, Rp_tr hT h b _ _ hn.2 h2⟩
    have hv := vk_app hT a x.1
    rcases hv with hv | ⟨hv, hd⟩
    · show (match (r.app a x.1).t.vk with | .dead => True | .agg => _ | .tup => False | .one => _)
      rw [hv]
      revert h1
      cases ha : a.vk with
      | dead => exact id
      | agg => rintro ⟨hc, cs, e, h'⟩; exact ⟨cel_app hT a _ hc, cs, e, Rp_tr hT h a _ _ hn.1 h'⟩
      | tup => exact id
      | one => exact fun h' => Rp_tr hT h a _ _ hn.1 h'
    · have hd' : (r.app a x.1).t.vk = .dead := by rw [hd]; rfl
      show (match (r.app a x.1).t.vk with | .dead => True | .agg => _ | .tup => False | .one => _)
      rw [hd']; trivial
  | .list t, xs, l, hn, hr => Rp_keep h.fr h.wd (.list t) xs l trivial hr
  | .arr n t, xs, l, hn, hr => Rp_keep h.fr h.wd (.arr n t) xs l trivial hr
  | .eptr t o, x, l, hn, hr => Rp_keep h.fr h.wd (.eptr t o) x l trivial hr
  | .dead, _, l, _, hr => hr | .nil _, _, l, _, hr => hr | .nilptr, _, l, _, hr => hr | .nilfn, _, l, _, hr => hr | .bool, _, l, _, hr => hr | .int _, _, l, _, hr => hr | .str, _, l, _, hr => hr | .unit, _, l, _, hr => hr | .tnil, _, l, _, hr => hr

theorem VR_tr {r : Tr} {p : Nat → Prop} (hT : TrT r) (h : TrOK w Fr mu w' Fr' mu' r p) {d : Dyn} {v : Value} (hn : d.t.okN p) (hv : VR w Fr mu d v) : VR w' Fr' mu' (r.dyn d) v := by
  obtain ⟨t, x⟩ := d
  have hk := vk_app hT t x
  unfold VR at *
  simp only [Tr.dyn]
  rcases hk with hk | ⟨hk, hd⟩
  · rw [hk]
    revert hv
    cases ht : t.vk with
    | dead => exact id
    | agg => rintro ⟨hc, cs, e, h'⟩; exact ⟨cel_app hT t _ hc, cs, e, Rp_tr hT h t _ _ hn h'⟩
    | tup => rintro ⟨cs, e, h'⟩; exact ⟨cs, e, Rp_tr hT h t _ _ hn h'⟩
    | one => exact fun h' => Rp_tr hT h t _ _ hn h'
  · have hd' : (r.app t x).t.vk = .dead := by rw [hd]; rfl
    rw [hd']; trivial
end

/-- Names in what a change of names made. -/
theorem okN_app {r : Tr} {p q : Nat → Prop} (ho : ∀ t i, p i → (r.own t i).t.okN q) (hr : ∀ t i o x, p i → (r.rptr t i o x).t.okN q) (hp : ∀ i o, p i → (r.ptr i o).t.okN q) (ha : ∀ t m i b o x, p i → (r.aptr t m i b o x).t.okN q) :
    ∀ (t : Ty) (x : den t), t.okN p → (r.app t x).t.okN q
  | .own t i, _, h => ho t i h
  | .rptr t i o, x, h => hr t i o x h
  | .ptr i o, _, h => hp i o h
  | .aptr t m i b o, x, h => ha t m i b o x h
  | .fn _ c, x, h => okN_app ho hr hp ha c x h
  | .pair a b, x, h => ⟨okN_app ho hr hp ha a _ h.1, okN_app ho hr hp ha b _ h.2⟩
  | .tcons a b, x, h => ⟨okN_app ho hr hp ha a _ h.1, okN_app ho hr hp ha b _ h.2⟩
  | .eptr _ _, _, _ => trivial | .list _, _, _ => trivial | .arr _ _, _, _ => trivial | .dead, _, _ => trivial | .nil _, _, _ => trivial | .nilptr, _, _ => trivial | .nilfn, _, _ => trivial | .bool, _, _ => trivial | .int _, _, _ => trivial | .str, _, _ => trivial | .unit, _, _ => trivial | .tnil, _, _ => trivial

/-! ### The relation of the state to memory -/
/-- A world further on, in which of what was there only some blocks may have turned. -/
structure Grow (O : Nat → Prop) (w w' : World) : Prop where
  os : w'.os = w.os
  tape : w'.tape = w.tape
  output : w'.output = w.output
  size : w.heap.size ≤ w'.heap.size
  block : ∀ k, k < w.heap.size → ¬ O k → w'.heap[k]? = w.heap[k]?
theorem Grow.refl (O : Nat → Prop) (w : World) : Grow O w w := ⟨rfl, rfl, rfl, Nat.le_refl _, fun _ _ _ => rfl⟩
theorem Grow.trans {O : Nat → Prop} {a b c : World} {O' : Nat → Prop} (h : Grow O a b) (h' : Grow O' b c) (ho : ∀ k, k < a.heap.size → O' k → O k) : Grow O a c :=
  ⟨h'.os.trans h.os, h'.tape.trans h.tape, h'.output.trans h.output, Nat.le_trans h.size h'.size, fun k hk hn =>
    (h'.block k (Nat.lt_of_lt_of_le hk h.size) (fun hk' => hn (ho k hk hk'))).trans (h.block k hk hn)⟩
theorem Grow.drew {O : Nat → Prop} (w : World) : Grow O w w.drew := ⟨rfl, rfl, rfl, Nat.le_refl _, fun _ _ _ => rfl⟩

/-- What was there when a function was entered. -/
structure Env where
  w0 : World
  Fr0 : Nat → Prop
  O0 : Nat → Prop
  mu0 : Nat → Loc
  m : Nat
/-- What an object that was handed over keeps. -/
def Handed (L L0 : Loc) : AObj → Prop
  | ⟨.box _, _⟩ => L = L0
  | ⟨.row _ _ true, _⟩ => L = L0
  | _ => True
structure SI (E : Env) (w : World) (Fr : Nat → Prop) (mu : Nat → Loc) (h : List AObj) : Prop where
  grow : Grow E.O0 E.w0 w
  fr0 : ∀ b, E.Fr0 b → Fr b
  frN : ∀ b, Fr b → E.Fr0 b ∨ E.O0 b ∨ E.w0.heap.size ≤ b
  frL : ∀ b, Fr b → b < w.heap.size
  hh : ∀ i, (mu i).hdr.oneCell' = true
  obj : ∀ (i : Nat) (o : AObj), h[i]? = some o → OR w Fr mu i o
  nm : ∀ (i : Nat) (t : Ty) (x : den t), h[i]? = some (⟨.box t, x⟩ : AObj) → t.okN (· < h.length)
  sep : ∀ (i j : Nat) (o o' : AObj), h[i]? = some o → h[j]? = some o' → i ≠ j → occ mu i o → occ mu j o' → (mu i).loc ≠ (mu j).loc
  own : ∀ (i : Nat) (o : AObj), h[i]? = some o → occ mu i o → (E.O0 (mu i).loc ∨ E.w0.heap.size ≤ (mu i).loc) ∧ ¬ Fr (mu i).loc ∧ (mu i).loc < w.heap.size
  hand : ∀ (i : Nat) (o : AObj), i < E.m → h[i]? = some o → Handed (mu i) (E.mu0 i) o
  len : E.m ≤ h.length
structure Rep (E : Env) (w : World) (Fr : Nat → Prop) (mu : Nat → Loc) (s : St) (a : Act) : Prop where
  si : SI E w Fr mu s.heap
  tm : ∀ u d, (u, d) ∈ s.tmps → u < a.tmps.size ∧ VR w Fr mu d (a.tmps.getD u undef) ∧ d.t.okN (· < s.heap.length)
  df : a.defers = []
  so : (s.tmps.map (·.1)).Pairwise (· < ·)

theorem getT_mem : ∀ {l : List (Nat × Dyn)} {t : Nat}, (t, getT l t) ∈ l ∨ getT l t = nope
  | [], _ => .inr rfl
  | (u, d) :: l, t => by
    unfold getT
    split
    · rename_i h; subst h; exact .inl (by simp)
    · exact (getT_mem (l := l) (t := t)).imp (fun h => List.mem_cons_of_mem _ h) id
theorem mem_putT : ∀ {l : List (Nat × Dyn)} {t u : Nat} {v d : Dyn}, (u, d) ∈ putT l t v → (u = t ∧ d = v) ∨ (u, d) ∈ l
  | [], t, u, v, d, h => by simp [putT] at h; exact .inl h
  | (u', d') :: l, t, u, v, d, h => by
    unfold putT at h
    split at h
    · rcases List.mem_cons.1 h with h | h
      · left; injection h with h1 h2; exact ⟨h1, h2⟩
      · exact .inr h
    · split at h
      · rcases List.mem_cons.1 h with h | h
        · left; injection h with h1 h2; exact ⟨h1, h2⟩
        · exact .inr (List.mem_cons_of_mem _ h)
      · rcases List.mem_cons.1 h with h | h
        · exact .inr (by rw [h]; exact List.mem_cons_self)
        · exact (mem_putT h).imp id fun h => List.mem_cons_of_mem _ h
theorem mem_putT_ne : ∀ {l : List (Nat × Dyn)} {t u : Nat} {v d : Dyn}, (l.map (·.1)).Pairwise (· < ·) → (u, d) ∈ putT l t v → (u = t ∧ d = v) ∨ ((u, d) ∈ l ∧ u ≠ t)
  | [], t, u, v, d, _, h => by simp [putT] at h; exact .inl h
  | (u', d') :: l, t, u, v, d, hs, h => by
    simp only [List.map_cons, List.pairwise_cons, List.mem_map] at hs
    have hlt : ∀ p ∈ l, u' < p.1 := fun p hp => hs.1 _ ⟨p, hp, rfl⟩
    unfold putT at h
    split at h
    · rename_i htu
      rcases List.mem_cons.1 h with h | h
      · left; injection h with h1 h2; exact ⟨h1, h2⟩
      · refine .inr ⟨h, ?_⟩
        rcases List.mem_cons.1 h with h | h
        · injection h with h1 h2; omega
        · have := hlt _ h; simp at this; omega
    · rename_i hnl
      split at h
      · rename_i he
        rcases List.mem_cons.1 h with h | h
        · left; injection h with h1 h2; exact ⟨h1, h2⟩
        · refine .inr ⟨List.mem_cons_of_mem _ h, ?_⟩
          have := hlt _ h; simp at this; omega
      · rename_i hne
        rcases List.mem_cons.1 h with h | h
        · injection h with h1 h2
          exact .inr ⟨by rw [h1, h2]; exact List.mem_cons_self, by omega⟩
        · exact (mem_putT_ne hs.2 h).imp id fun h => ⟨List.mem_cons_of_mem _ h.1, h.2⟩
end Go.Abs
