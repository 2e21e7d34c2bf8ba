/- What the interpreter's values stand for in memory; what of it a step leaves as it was. No conditions. -/
import Derived.Test.YtobfcaejpcpboaaAbs
import Derived.Laws.AppendOwn
import Derived.Laws.OwnMore
import Derived.Maps.AppendAt
set_option autoImplicit false
set_option linter.unusedVariables false
namespace Go.Abs

/-- Where an object lies: its block; a row's slice as it is named. -/
structure Loc where
  loc : Nat
  hdr : Value
instance : Inhabited Loc := ⟨⟨0, .slice none 0 0⟩⟩

/-- Where a row lies: in a block of its own, or nowhere. -/
def RowAt (w : World) (L : Loc) (e : TypeId) (width n : Nat) (cells : List Value) : Prop :=
  (∃ ad, L.hdr = .slice ad 0 0 ∧ n = 0 ∧ L.hdr.ownBlock ≠ some L.loc) ∨ (L.hdr.ownBlock = some L.loc ∧ w.ownsRow 0 e width L.hdr n cells)
/-- Things one behind the other. -/
def rows {A : Type} (f : A → List Value → Prop) : List A → List Value → Prop
  | [], l => l = []
  | x :: xs, l => ∃ l1 l2, l = l1 ++ l2 ∧ f x l1 ∧ rows f xs l2

/-- Cells that lie in a block from a place on. -/
def At (w : World) (b o : Nat) (cs : List Value) : Prop := ∀ k v, cs[k]? = some v → w.cell? ⟨b, o + k, none⟩ = some v

section
variable (w : World) (Fr : Nat → Prop) (mu : Nat → Loc)
/-- A value, as the cells that hold it. -/
def Rp : (t : Ty) → den t → List Value → Prop
  | .dead, _, l => ∃ v : Value, l = [v] ∧ v.oneCell' = true
  | .nil _, _, l => l = [.slice none 0 0]
  | .nilptr, _, l => l = [.pointer none]
  | .nilfn, _, l => l = [.nilFunc]
  | .bool, b, l => l = [.bool b]
  | .int k, n, l => l = [.int k n]
  | .str, s, l => l = [.string s]
  | .list t, xs, l => t.elt = true ∧ ∃ a c cells, l = [.slice a xs.length c] ∧ xs.length ≤ c ∧ rows (fun x l => Rp t x l) xs cells ∧
      (xs = [] ∨ ∃ b o, a = some ⟨b, o, none⟩ ∧ Fr b ∧ At w b o cells)
  | .arr n t, xs, l => t.elt = true ∧ xs.length = n ∧ rows (fun x l => Rp t x l) xs l
  | .own _ i, _, l => l = [(mu i).hdr]
  | .ptr i o, _, l => l = [.pointer (some ⟨(mu i).loc, o, none⟩)]
  | .eptr t o, x, l => t.elt = true ∧ ∃ b o' cells, l = [.pointer (some ⟨b, o' + o, none⟩)] ∧ Fr b ∧ Rp t x cells ∧ At w b o' cells
  | .rptr t i o, x, l => ∃ b n c, (mu i).hdr = .slice (some ⟨b, 0, none⟩) n c ∧ 0 ≤ x ∧ x < n ∧ l = [.pointer (some ⟨b, x.toNat * t.width + o, none⟩)]
  | .aptr t m i base o, x, l => (0 ≤ x ∧ x < m) ∧ l = [.pointer (some ⟨(mu i).loc, base + (x.toNat * t.width + o), none⟩)]
  | .fn f c, x, l => ∃ vs : List Value, l = [.func (.func f) #[] vs.toArray] ∧ Rp c x vs
  | .unit, _, l => l = []
  | .pair a b, x, l => ∃ l1 l2, l = l1 ++ l2 ∧ Rp a x.1 l1 ∧ Rp b x.2 l2
  | .tnil, _, l => l = []
  | .tcons a b, x, l => ∃ v vs, l = v :: vs ∧ (match a.vk with
      | .dead => True
      | .agg => a.cel = true ∧ ∃ cs : List Value, v = .agg cs.toArray ∧ Rp a x.1 cs
      | .tup => False
      | .one => Rp a x.1 [v]) ∧ Rp b x.2 vs
/-- A value. -/
def VR (d : Dyn) (v : Value) : Prop := match d.t.vk with
  | .dead => True
  | .agg => d.t.cel = true ∧ ∃ cs : List Value, v = .agg cs.toArray ∧ Rp w Fr mu d.t d.x cs
  | .tup => ∃ vs : List Value, v = .tuple vs.toArray ∧ Rp w Fr mu d.t d.x vs
  | .one => Rp w Fr mu d.t d.x [v]
/-- An object. -/
def OR (i : Nat) : AObj → Prop
  | ⟨.gone, _⟩ => True
  | ⟨.box t, x⟩ => t.cel = true ∧ ∃ (cells : List Value) (e : TypeId), w.heap[(mu i).loc]? = some (.cells cells.toArray e (0, 0)) ∧ Rp w Fr mu t x cells
  | ⟨.row e t _, xs⟩ => t.elt = true ∧ ∃ cells, rows (fun x l => Rp w Fr mu t x l) xs cells ∧ RowAt w (mu i) e t.width xs.length cells
end
/-- Does an object have a block of its own? -/
def occ (mu : Nat → Loc) (i : Nat) : AObj → Prop
  | ⟨.gone, _⟩ => False
  | ⟨.box _, _⟩ => True
  | ⟨.row _ _ _, _⟩ => (mu i).hdr.ownBlock = some (mu i).loc

/-! ### Rows of things -/
theorem rows_mono {A : Type} {f g : A → List Value → Prop} (h : ∀ x l, f x l → g x l) : ∀ {xs : List A} {l}, rows f xs l → rows g xs l
  | [], _, hr => hr
  | _ :: _, _, ⟨l1, l2, e, h1, h2⟩ => ⟨l1, l2, e, h _ _ h1, rows_mono h h2⟩
theorem rows_append {A : Type} {f : A → List Value → Prop} : ∀ {xs ys : List A} {l m}, rows f xs l → rows f ys m → rows f (xs ++ ys) (l ++ m)
  | [], _, _, _, h, hm => by cases h; exact hm
  | _ :: _, _, _, _, ⟨l1, l2, e, h1, h2⟩, hm => ⟨l1, l2 ++ _, by rw [e, List.append_assoc], h1, rows_append h2 hm⟩
theorem rows_len {A : Type} {f : A → List Value → Prop} {n : Nat} (h : ∀ x l, f x l → l.length = n) : ∀ {xs : List A} {l}, rows f xs l → l.length = xs.length * n
  | [], _, e => by cases e; simp
  | _ :: xs, _, ⟨l1, l2, e, h1, h2⟩ => by
    rw [e, List.length_append, h _ _ h1, rows_len h h2, List.length_cons, Nat.add_mul, Nat.one_mul, Nat.add_comm]
theorem rows_all {A : Type} {f : A → List Value → Prop} {p : Value → Prop} (h : ∀ x l, f x l → ∀ v ∈ l, p v) : ∀ {xs : List A} {l}, rows f xs l → ∀ v ∈ l, p v
  | [], _, e => by cases e; simp
  | _ :: xs, _, ⟨l1, l2, e, h1, h2⟩ => by
    subst e
    intro v hv
    rcases List.mem_append.1 hv with hv | hv
    · exact h _ _ h1 v hv
    · exact rows_all h h2 v hv
/-- The cells of one thing of a row, and what is ahead of it. -/
theorem rows_get {A : Type} {f : A → List Value → Prop} {n : Nat} (h : ∀ x l, f x l → l.length = n) : ∀ {xs : List A} {l} {j : Nat} {x : A}, rows f xs l → xs[j]? = some x →
    ∃ c, f x c ∧ c.length = n ∧ ∃ a b, l = a ++ (c ++ b) ∧ a.length = j * n
  | [], _, j, _, _, hx => by simp at hx
  | y :: xs, _, 0, x, ⟨l1, l2, e, h1, h2⟩, hx => by
    simp at hx; subst hx
    exact ⟨l1, h1, h _ _ h1, [], l2, by simp [e], by simp⟩
  | y :: xs, _, j + 1, x, ⟨l1, l2, e, h1, h2⟩, hx => by
    obtain ⟨c, hc, hl, a, b, he, ha⟩ := rows_get h h2 (by simpa using hx)
    exact ⟨c, hc, hl, l1 ++ a, b, by rw [e, he]; simp, by rw [List.length_append, h _ _ h1, ha, Nat.add_mul, Nat.one_mul, Nat.add_comm]⟩
theorem rows_split {A : Type} {f : A → List Value → Prop} : ∀ {xs ys : List A} {l}, rows f (xs ++ ys) l → ∃ a b, l = a ++ b ∧ rows f xs a ∧ rows f ys b
  | [], _, l, h => ⟨[], l, rfl, rfl, h⟩
  | _ :: _, _, _, ⟨l1, l2, e, h1, h2⟩ => by
    obtain ⟨a, b, he, ha, hb⟩ := rows_split h2
    exact ⟨l1 ++ a, b, by rw [e, he]; simp, ⟨l1, a, rfl, h1, ha⟩, hb⟩
theorem rows_set {A : Type} {f : A → List Value → Prop} {n : Nat} (h : ∀ x l, f x l → l.length = n) : ∀ {xs : List A} {l} {j : Nat} {z : A} {c}, rows f xs l → j < xs.length → f z c →
    rows f (xs.set j z) (l.take (j * n) ++ (c ++ l.drop (j * n + n)))
  | [], _, j, _, _, _, hx, _ => by simp at hx
  | y :: xs, _, 0, z, c, ⟨l1, l2, e, h1, h2⟩, hx, hc => by
    subst e
    refine ⟨c, l2, ?_, hc, h2⟩
    simp [← h _ _ h1]
  | y :: xs, _, j + 1, z, c, ⟨l1, l2, e, h1, h2⟩, hx, hc => by
    subst e
    have := rows_set (z := z) (c := c) h h2 (j := j) (by simpa using hx) hc
    refine ⟨l1, _, ?_, h1, this⟩
    have e1 : (j + 1) * n = l1.length + j * n := by rw [h _ _ h1, Nat.add_mul, Nat.one_mul, Nat.add_comm]
    rw [e1, Nat.add_assoc, List.take_append, List.drop_append]
    have : l1.take (l1.length + j * n) = l1 := List.take_of_length_le (by omega)
    have h0 : l1.drop (l1.length + (j * n + n)) = [] := List.drop_of_length_le (by omega)
    simp [this, h0, Nat.add_sub_cancel_left]
theorem rows_replicate {A : Type} {f : A → List Value → Prop} {z : A} {c} (h : f z c) : ∀ n, rows f (List.replicate n z) (List.replicate n c).flatten
  | 0 => rfl
  | n + 1 => ⟨c, _, by simp [List.replicate_succ], h, rows_replicate h n⟩
theorem rows_take {A : Type} {f : A → List Value → Prop} {n : Nat} (h : ∀ x l, f x l → l.length = n) {xs : List A} {l} (hr : rows f xs l) (j : Nat) : rows f (xs.take j) (l.take (j * n)) := by
  have hr' := hr
  rw [← List.take_append_drop j xs] at hr'
  obtain ⟨a, b, e, ha, hb⟩ := rows_split hr'
  subst e
  have hl := rows_len h ha
  rw [List.length_take] at hl
  by_cases hj : j ≤ xs.length
  · rw [Nat.min_eq_left hj] at hl
    rw [← hl, List.take_left']
    · exact ha
    · rfl
  · have : xs.drop j = [] := List.drop_of_length_le (by omega)
    rw [this] at hb
    cases hb
    rw [Nat.min_eq_right (by omega)] at hl
    rw [List.append_nil, List.take_of_length_le (l := a) (by rw [hl]; exact Nat.mul_le_mul_right _ (by omega))]
    exact ha
theorem rows_drop {A : Type} {f : A → List Value → Prop} {n : Nat} (h : ∀ x l, f x l → l.length = n) {xs : List A} {l} (hr : rows f xs l) (j : Nat) : rows f (xs.drop j) (l.drop (j * n)) := by
  have hr' := hr
  rw [← List.take_append_drop j xs] at hr'
  obtain ⟨a, b, e, ha, hb⟩ := rows_split hr'
  subst e
  have hl := rows_len h ha
  rw [List.length_take] at hl
  by_cases hj : j ≤ xs.length
  · rw [Nat.min_eq_left hj] at hl
    rw [← hl, List.drop_left']
    · exact hb
    · rfl
  · have : xs.drop j = [] := List.drop_of_length_le (by omega)
    rw [this] at hb ⊢
    cases hb
    rw [Nat.min_eq_right (by omega)] at hl
    rw [List.append_nil, List.drop_of_length_le (l := a) (by rw [hl]; exact Nat.mul_le_mul_right _ (by omega))]
    exact rfl

theorem At.left {w : World} {b o : Nat} {c d : List Value} (h : At w b o (c ++ d)) : At w b o c := fun k v hk => h k v (by
  have := (List.getElem?_eq_some_iff.1 hk).1
  rw [List.getElem?_append_left this]; exact hk)
theorem At.right {w : World} {b o : Nat} {c d : List Value} (h : At w b o (c ++ d)) : At w b (o + c.length) d := fun k v hk => by
  have := h (c.length + k) v (by rw [List.getElem?_append_right (by omega)]; simpa using hk)
  rwa [Nat.add_assoc]
theorem At.of {w : World} {b o : Nat} {c d : List Value} (h1 : At w b o c) (h2 : At w b (o + c.length) d) : At w b o (c ++ d) := fun k v hk => by
  by_cases hlt : k < c.length
  · exact h1 k v (by rwa [List.getElem?_append_left hlt] at hk)
  · rw [List.getElem?_append_right (by omega)] at hk
    have := h2 _ v hk
    rwa [Nat.add_assoc, Nat.add_sub_cancel' (by omega)] at this
theorem At.keep {w w' : World} {b o : Nat} {c : List Value} (h : At w b o c) (hb : w'.heap[b]? = w.heap[b]?) : At w' b o c := fun k v hk => by
  rw [World.cell?_of_block (w := w) (by exact hb)]; exact h k v hk
theorem At.nil {w : World} {b o : Nat} : At w b o [] := fun k v hk => by simp at hk

/-! ### Cells of a value: so many, each one cell -/
theorem Rp_len {w : World} {Fr : Nat → Prop} {mu : Nat → Loc} : ∀ (t : Ty) (x : den t) (l : List Value), t.cel = true → Rp w Fr mu t x l → l.length = t.width
  | .dead, _, l, _, h => by obtain ⟨v, rfl, _⟩ := h; rfl
  | .nil _, _, l, _, h => by cases h; rfl
  | .nilptr, _, l, _, h => by cases h; rfl
  | .nilfn, _, l, _, h => by cases h; rfl
  | .bool, _, l, _, h => by cases h; rfl
  | .int _, _, l, _, h => by cases h; rfl
  | .str, _, l, _, h => by cases h; rfl
  | .list t, _, l, _, h => by obtain ⟨_, a, c, cells, rfl, _⟩ := h; rfl
  | .arr n t, xs, l, hc, h => by
    obtain ⟨_, e, h⟩ := h
    have := rows_len (fun x l h => Rp_len t x l hc h) h
    rw [this, e]; rfl
  | .own _ _, _, l, _, h => by cases h; rfl
  | .ptr _ _, _, l, _, h => by cases h; rfl
  | .eptr _ _, _, l, _, h => by obtain ⟨_, b, o, c, rfl, _⟩ := h; rfl
  | .rptr _ _ _, _, l, _, h => by obtain ⟨b, o, c, _, _, _, rfl⟩ := h; rfl
  | .aptr _ _ _ _ _, _, l, _, h => by obtain ⟨_, rfl⟩ := h; rfl
  | .fn _ _, _, l, _, h => by obtain ⟨vs, rfl, _⟩ := h; rfl
  | .unit, _, l, _, h => by cases h; rfl
  | .pair a b, x, l, hc, h => by
    simp only [Ty.cel, Bool.and_eq_true] at hc
    obtain ⟨l1, l2, rfl, h1, h2⟩ := h
    rw [List.length_append, Rp_len a _ _ hc.1.1 h1, Rp_len b _ _ hc.1.2 h2]; rfl
theorem Rp_one {w : World} {Fr : Nat → Prop} {mu : Nat → Loc} (hh : ∀ i, (mu i).hdr.oneCell' = true) : ∀ (t : Ty) (x : den t) (l : List Value), t.cel = true → Rp w Fr mu t x l → ∀ v ∈ l, v.oneCell' = true
  | .dead, _, l, _, h => by obtain ⟨v, rfl, h⟩ := h; simpa using h
  | .nil _, _, l, _, h => by cases h; simp [Value.oneCell']
  | .nilptr, _, l, _, h => by cases h; simp [Value.oneCell']
  | .nilfn, _, l, _, h => by cases h; simp [Value.oneCell']
  | .bool, _, l, _, h => by cases h; simp [Value.oneCell']
  | .int _, _, l, _, h => by cases h; simp [Value.oneCell']
  | .str, _, l, _, h => by cases h; simp [Value.oneCell']
  | .list t, _, l, _, h => by obtain ⟨_, a, c, cells, rfl, _⟩ := h; simp [Value.oneCell']
  | .arr n t, xs, l, hc, h => by
    obtain ⟨_, _, h⟩ := h
    exact rows_all (fun x l h => Rp_one hh t x l hc h) h
  | .own _ i, _, l, _, h => by cases h; simpa using hh i
  | .ptr _ _, _, l, _, h => by cases h; simp [Value.oneCell']
  | .eptr _ _, _, l, _, h => by obtain ⟨_, b, o, c, rfl, _⟩ := h; simp [Value.oneCell']
  | .rptr _ _ _, _, l, _, h => by obtain ⟨b, o, c, _, _, _, rfl⟩ := h; simp [Value.oneCell']
  | .aptr _ _ _ _ _, _, l, _, h => by obtain ⟨_, rfl⟩ := h; simp [Value.oneCell']
  | .fn _ _, _, l, _, h => by obtain ⟨vs, rfl, _⟩ := h; simp [Value.oneCell']
  | .unit, _, l, _, h => by cases h; simp
  | .pair a b, x, l, hc, h => by
    simp only [Ty.cel, Bool.and_eq_true] at hc
    obtain ⟨l1, l2, rfl, h1, h2⟩ := h
    intro v hv
    rcases List.mem_append.1 hv with hv | hv
    · exact Rp_one hh a _ _ hc.1.1 h1 v hv
    · exact Rp_one hh b _ _ hc.1.2 h2 v hv

/-! ### What a change of memory leaves -/
/-- Names of objects in a type, each of which keeps its place. -/
def Ty.okN (p : Nat → Prop) : Ty → Prop
  | .own _ i => p i
  | .ptr i _ => p i
  | .rptr _ i _ => p i
  | .aptr _ _ i _ _ => p i
  | .fn _ c => c.okN p
  | .pair a b => a.okN p ∧ b.okN p
  | .tcons a b => a.okN p ∧ b.okN p
  | _ => True
theorem Ty.okN_mono {p q : Nat → Prop} (h : ∀ i, p i → q i) : ∀ (t : Ty), t.okN p → t.okN q
  | .own _ i, hp => h i hp
  | .ptr i _, hp => h i hp
  | .rptr _ i _, hp => h i hp
  | .aptr _ _ i _ _, hp => h i hp
  | .fn _ c, hp => Ty.okN_mono h c hp
  | .pair a b, hp => ⟨Ty.okN_mono h a hp.1, Ty.okN_mono h b hp.2⟩
  | .tcons a b, hp => ⟨Ty.okN_mono h a hp.1, Ty.okN_mono h b hp.2⟩
  | .eptr _ _, _ => trivial | .list _, _ => trivial | .arr _ _, _ => trivial | .dead, _ => trivial | .nil _, _ => trivial | .nilptr, _ => trivial | .nilfn, _ => trivial | .bool, _ => trivial | .int _, _ => trivial | .str, _ => trivial | .unit, _ => trivial | .tnil, _ => trivial
theorem Ty.okN_all {p : Nat → Prop} (h : ∀ i, p i) : ∀ (t : Ty), t.okN p
  | .own _ i => h i
  | .ptr i _ => h i
  | .rptr _ i _ => h i
  | .aptr _ _ i _ _ => h i
  | .fn _ c => Ty.okN_all h c
  | .pair a b => ⟨Ty.okN_all h a, Ty.okN_all h b⟩
  | .tcons a b => ⟨Ty.okN_all h a, Ty.okN_all h b⟩
  | .eptr _ _ => trivial | .list _ => trivial | .arr _ _ => trivial | .dead => trivial | .nil _ => trivial | .nilptr => trivial | .nilfn => trivial | .bool => trivial | .int _ => trivial | .str => trivial | .unit => trivial | .tnil => trivial

theorem Ty.pure_okN {p : Nat → Prop} : ∀ (t : Ty), t.pure = true → t.okN p
  | .fn _ c, h => Ty.pure_okN c h
  | .pair a b, h => by simp only [Ty.pure, Bool.and_eq_true] at h; exact ⟨Ty.pure_okN a h.1, Ty.pure_okN b h.2⟩
  | .tcons a b, h => by simp only [Ty.pure, Bool.and_eq_true] at h; exact ⟨Ty.pure_okN a h.1, Ty.pure_okN b h.2⟩
  | .eptr _ _, _ => trivial | .list _, _ => trivial | .arr _ _, _ => trivial | .nil _, _ => trivial | .nilptr, _ => trivial | .nilfn, _ => trivial | .bool, _ => trivial | .int _, _ => trivial | .str, _ => trivial | .unit, _ => trivial | .tnil, _ => trivial
theorem Ty.elt_cel {t : Ty} (h : t.elt = true) : t.cel = true := by simp only [Ty.elt, Bool.and_eq_true] at h; exact h.1
theorem Ty.elt_pure {t : Ty} (h : t.elt = true) : t.pure = true := by simp only [Ty.elt, Bool.and_eq_true] at h; exact h.2
theorem Rp_keep {w w' : World} {Fr Fr' : Nat → Prop} {mu mu' : Nat → Loc} (hF : ∀ b, Fr b → Fr' b) (hw : ∀ b, Fr b → w'.heap[b]? = w.heap[b]?) :
    ∀ (t : Ty) (x : den t) (l : List Value), t.okN (fun i => mu' i = mu i) → Rp w Fr mu t x l → Rp w' Fr' mu' t x l
  | .dead, _, l, _, h => h
  | .nil _, _, l, _, h => h
  | .nilptr, _, l, _, h => h
  | .nilfn, _, l, _, h => h
  | .bool, _, l, _, h => h
  | .int _, _, l, _, h => h
  | .str, _, l, _, h => h
  | .list t, xs, l, hn, h => by
    obtain ⟨he, a, c, cells, e, hc, hr, hx⟩ := h
    refine ⟨he, a, c, cells, e, hc, rows_mono (fun x l h => Rp_keep hF hw t x l (t.pure_okN (Ty.elt_pure he)) h) hr, hx.imp id ?_⟩
    rintro ⟨b, o, e, hb, hat⟩
    exact ⟨b, o, e, hF b hb, hat.keep (hw b hb)⟩
  | .arr n t, xs, l, hn, h => ⟨h.1, h.2.1, rows_mono (fun x l h' => Rp_keep hF hw t x l (t.pure_okN (Ty.elt_pure h.1)) h') h.2.2⟩
  | .own _ i, _, l, hn, h => by
    have hn : mu' i = mu i := hn
    show l = _
    rw [hn]; exact h
  | .ptr i o, _, l, hn, h => by
    have hn : mu' i = mu i := hn
    show l = _
    rw [hn]; exact h
  | .eptr t o, x, l, hn, h => by
    obtain ⟨he, b, o', cells, e, hb, hr, hat⟩ := h
    exact ⟨he, b, o', cells, e, hF b hb, Rp_keep hF hw t x cells (t.pure_okN (Ty.elt_pure he)) hr, hat.keep (hw b hb)⟩
  | .rptr t i o, x, l, hn, h => by
    have hn : mu' i = mu i := hn
    obtain ⟨b, n, c, e, hh⟩ := h
    exact ⟨b, n, c, by rw [hn]; exact e, hh⟩
  | .aptr t m i b o, x, l, hn, h => by
    have hn : mu' i = mu i := hn
    refine ⟨h.1, ?_⟩
    rw [hn]; exact h.2
  | .fn f c, x, l, hn, h => by
    obtain ⟨vs, e, hr⟩ := h
    exact ⟨vs, e, Rp_keep hF hw c x vs hn hr⟩
  | .unit, _, l, _, h => h
  | .pair a b, x, l, hn, h => by
    obtain ⟨l1, l2, e, h1, h2⟩ := h
    exact ⟨l1, l2, e, Rp_keep hF hw a _ _ hn.1 h1, Rp_keep hF hw b _ _ hn.2 h2⟩
  | .tnil, _, l, _, h => h
  | .tcons a b, x, l, hn, h => by
    obtain ⟨v, vs, e, h1, h2⟩ := h
    refine ⟨v, vs, e, ?_, Rp_keep hF hw b _ _ hn.2 h2⟩
    revert h1
    cases a.vk with
    | dead => exact id
    | agg => rintro ⟨hc, cs, e, h⟩; exact ⟨hc, cs, e, Rp_keep hF hw a _ _ hn.1 h⟩
    | tup => exact id
    | one => exact fun h => Rp_keep hF hw a _ _ hn.1 h
theorem VR_keep {w w' : World} {Fr Fr' : Nat → Prop} {mu mu' : Nat → Loc} (hF : ∀ b, Fr b → Fr' b) (hw : ∀ b, Fr b → w'.heap[b]? = w.heap[b]?)
    {d : Dyn} {v : Value} (hn : d.t.okN (fun i => mu' i = mu i)) (h : VR w Fr mu d v) : VR w' Fr' mu' d v := by
  unfold VR at *
  split at h
  · trivial
  · obtain ⟨hc, cs, e, h⟩ := h; exact ⟨hc, cs, e, Rp_keep hF hw _ _ _ hn h⟩
  · obtain ⟨cs, e, h⟩ := h; exact ⟨cs, e, Rp_keep hF hw _ _ _ hn h⟩
  · exact Rp_keep hF hw _ _ _ hn h
end Go.Abs
