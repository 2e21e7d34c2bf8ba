/- Structs as chains of cells: parts read and laid. No conditions. -/
import Derived.Test.YtobfcaejpcpboaaUpd
set_option autoImplicit false
set_option linter.unusedVariables false
namespace Go.Abs

theorem Ty.cel_pair {a b : Ty} (h : (Ty.pair a b).cel = true) : a.cel = true ∧ b.cel = true ∧ b.chain = true := by
  simp only [Ty.cel, Bool.and_eq_true] at h; exact ⟨h.1.1, h.1.2, h.2⟩
theorem Ty.pair_cel {a b : Ty} (h : a.cel = true) (h' : b.cel = true) (h2 : b.chain = true) : (Ty.pair a b).cel = true := by
  simp only [Ty.cel, Bool.and_eq_true]; exact ⟨⟨h, h'⟩, h2⟩

section
variable {w : World} {Fr : Nat → Prop} {mu : Nat → Loc} {p : Nat → Prop}
/-- A value of cells, and the cells that hold it. -/
structure CD (w : World) (Fr : Nat → Prop) (mu : Nat → Loc) (p : Nat → Prop) (d : Dyn) (l : List Value) : Prop where
  cel : d.t.cel = true
  ok : d.t.okN p
  rp : Rp w Fr mu d.t d.x l
theorem CD.len {d : Dyn} {l : List Value} (h : CD w Fr mu p d l) : l.length = d.t.width := Rp_len _ _ _ h.cel h.rp

theorem dropC_pair0 (a b : Ty) (x : den (.pair a b)) : dropC 0 (.pair a b) x = ⟨.pair a b, x⟩ := by unfold dropC; rw [if_pos rfl]
theorem dropC_pair {a b : Ty} {n : Nat} (x : den (.pair a b)) (h : n ≠ 0) : dropC n (.pair a b) x = if a.width ≤ n then dropC (n - a.width) b x.2 else nope := by rw [dropC]; rw [if_neg h]
theorem dropC_unit0 (x : den .unit) : dropC 0 .unit x = ⟨.unit, x⟩ := rfl
theorem dropC_unit {n : Nat} (x : den .unit) (h : n ≠ 0) : dropC n .unit x = nope := by unfold dropC; rw [if_neg h]
theorem takeC_pair0 (a b : Ty) (x : den (.pair a b)) : takeC 0 (.pair a b) x = ⟨.unit, ()⟩ := by unfold takeC; rw [if_pos rfl]
theorem takeC_pair {a b : Ty} {n : Nat} (x : den (.pair a b)) (h : n ≠ 0) : takeC n (.pair a b) x =
    if a.width ≤ n then (if (takeC (n - a.width) b x.2).t.chain then ⟨.pair a (takeC (n - a.width) b x.2).t, (x.1, (takeC (n - a.width) b x.2).x)⟩ else nope) else nope := by rw [takeC]; rw [if_neg h]
theorem takeC_unit0 (x : den .unit) : takeC 0 .unit x = ⟨.unit, ()⟩ := rfl
theorem takeC_unit {n : Nat} (x : den .unit) (h : n ≠ 0) : takeC n .unit x = nope := by unfold takeC; rw [if_neg h]

theorem dropC_ok : ∀ (t : Ty) (n : Nat) (x : den t) (l : List Value), t.chain = true → CD w Fr mu p ⟨t, x⟩ l → (dropC n t x).t.alive = true →
    (dropC n t x).t.chain = true ∧ ∃ l1 l2, l = l1 ++ l2 ∧ l1.length = n ∧ CD w Fr mu p (dropC n t x) l2
  | .pair a b, n, x, l, hch, hr, ha => by
    obtain ⟨h1, h2, h3⟩ := Ty.cel_pair hr.cel
    by_cases h0 : n = 0
    · subst h0
      rw [dropC_pair0]
      exact ⟨rfl, [], l, rfl, rfl, hr⟩
    · rw [dropC_pair x h0] at ha ⊢
      by_cases hw : a.width ≤ n
      · rw [if_pos hw] at ha ⊢
        obtain ⟨l1, l2, e, ra, rb⟩ := hr.rp
        obtain ⟨c1, m1, m2, e2, em, rr⟩ := dropC_ok b (n - a.width) x.2 l2 h3 ⟨h2, hr.ok.2, rb⟩ ha
        refine ⟨c1, l1 ++ m1, m2, by rw [e, e2, List.append_assoc], ?_, rr⟩
        rw [List.length_append, Rp_len a _ _ h1 ra, em]; omega
      · rw [if_neg hw] at ha; cases ha
  | .unit, n, x, l, hch, hr, ha => by
    by_cases h0 : n = 0
    · subst h0
      exact ⟨rfl, [], l, rfl, rfl, hr⟩
    · rw [dropC_unit x h0] at ha; cases ha
theorem takeC_ok : ∀ (t : Ty) (n : Nat) (x : den t) (l : List Value), t.chain = true → CD w Fr mu p ⟨t, x⟩ l → (takeC n t x).t.chain = true →
    ∃ l1 l2, l = l1 ++ l2 ∧ l1.length = n ∧ CD w Fr mu p (takeC n t x) l1
  | .pair a b, n, x, l, hch, hr, ha => by
    obtain ⟨h1, h2, h3⟩ := Ty.cel_pair hr.cel
    by_cases h0 : n = 0
    · subst h0
      rw [takeC_pair0]
      exact ⟨[], l, rfl, rfl, rfl, trivial, rfl⟩
    · rw [takeC_pair x h0] at ha ⊢
      by_cases hw : a.width ≤ n
      · rw [if_pos hw] at ha ⊢
        by_cases hch' : (takeC (n - a.width) b x.2).t.chain = true
        · rw [if_pos hch'] at ha ⊢
          obtain ⟨l1, l2, e, ra, rb⟩ := hr.rp
          obtain ⟨m1, m2, e2, em, rr⟩ := takeC_ok b (n - a.width) x.2 l2 h3 ⟨h2, hr.ok.2, rb⟩ hch'
          refine ⟨l1 ++ m1, m2, by rw [e, e2, List.append_assoc], ?_, Ty.pair_cel h1 rr.cel hch', ⟨hr.ok.1, rr.ok⟩, l1, m1, rfl, ra, rr.rp⟩
          rw [List.length_append, Rp_len a _ _ h1 ra, em]; omega
        · rw [if_neg hch'] at ha; cases ha
      · rw [if_neg hw] at ha; cases ha
  | .unit, n, x, l, hch, hr, ha => by
    by_cases h0 : n = 0
    · subst h0
      exact ⟨[], l, rfl, rfl, rfl, trivial, rfl⟩
    · rw [takeC_unit x h0] at ha; cases ha
theorem catC_ok : ∀ (t : Ty) (x : den t) (l : List Value) (e : Dyn) (l' : List Value), t.chain = true → CD w Fr mu p ⟨t, x⟩ l → e.t.chain = true → CD w Fr mu p e l' →
    (catC t x e).t.chain = true ∧ CD w Fr mu p (catC t x e) (l ++ l')
  | .pair a b, x, l, e, l', hch, hr, h2, h => by
    obtain ⟨g1, g2, g3⟩ := Ty.cel_pair hr.cel
    obtain ⟨l1, l2, el, ra, rb⟩ := hr.rp
    obtain ⟨c2, c⟩ := catC_ok b x.2 l2 e l' g3 ⟨g2, hr.ok.2, rb⟩ h2 h
    exact ⟨rfl, Ty.pair_cel g1 c.cel c2, ⟨hr.ok.1, c.ok⟩, l1, l2 ++ l', by rw [el, List.append_assoc], ra, c.rp⟩
  | .unit, x, l, e, l', hch, hr, h2, h => by
    have := hr.rp
    cases this
    exact ⟨h2, h⟩
theorem headC_ok : ∀ (t : Ty) (x : den t) (l : List Value), CD w Fr mu p ⟨t, x⟩ l → (headC t x).t.alive = true →
    ∃ l1 l2, l = l1 ++ l2 ∧ CD w Fr mu p (headC t x) l1
  | .pair a b, x, l, hr, ha => by
    obtain ⟨l1, l2, el, ra, rb⟩ := hr.rp
    exact ⟨l1, l2, el, (Ty.cel_pair hr.cel).1, hr.ok.1, ra⟩
theorem toC_ok {d : Dyn} {l : List Value} (h : CD w Fr mu p d l) : d.toC.t.chain = true ∧ CD w Fr mu p d.toC l := by
  unfold Dyn.toC
  by_cases hc : d.t.chain = true
  · rw [if_pos hc]; exact ⟨hc, h⟩
  · rw [if_neg hc]; exact ⟨rfl, Ty.pair_cel h.cel rfl rfl, ⟨h.ok, trivial⟩, l, [], by simp, h.rp, rfl⟩
theorem takeC_nope {n : Nat} {x : den nope.t} : (takeC n nope.t x).t.chain = true → n = 0 := by
  by_cases h : n = 0
  · exact fun _ => h
  · unfold takeC; simp [nope, h, Ty.chain]
theorem chain_alive {t : Ty} (h : t.chain = true) : t.alive = true := by cases t <;> first | rfl | cases h
/-- A part of a value: its cells are among the value's. -/
theorem part_ok {d : Dyn} {off n : Nat} {st : Bool} {l : List Value} (h : CD w Fr mu p d l) (ha : (d.part off n st).t.alive = true) (hz : st = true → 0 < n) (hch : st = true → (d.part off n st).t.chain = true) :
    ∃ l1 lp l2, l = l1 ++ (lp ++ l2) ∧ l1.length = off ∧ CD w Fr mu p (d.part off n st) lp := by
  unfold Dyn.part at ha hch ⊢
  by_cases hc : d.t.chain = true
  · rw [if_pos hc] at ha hch ⊢
    by_cases hd : (dropC off d.t d.x).t.alive = true
    · obtain ⟨c1, l1, l2, e, el, hr⟩ := dropC_ok d.t off d.x l hc h hd
      cases st with
      | true =>
        simp only [if_true] at ha hch ⊢
        obtain ⟨m1, m2, e2, em, rr⟩ := takeC_ok _ n _ l2 c1 hr (hch trivial)
        exact ⟨l1, m1, m2, by rw [e, e2], el, rr⟩
      | false =>
        simp only [Bool.false_eq_true, if_false] at ha hch ⊢
        obtain ⟨m1, m2, e2, rr⟩ := headC_ok _ _ l2 hr ha
        exact ⟨l1, m1, m2, by rw [e, e2], el, rr⟩
    · exfalso
      have hdead : ∀ r : Dyn, r.t.alive = false → (∀ m, (takeC m r.t r.x).t.chain = true → m = 0) ∧ (headC r.t r.x).t.alive = false := by
        rintro ⟨t, x⟩ hr
        cases t <;> first | (cases hr; done) | skip
        refine ⟨fun m hm => ?_, rfl⟩
        exact takeC_nope (x := x) hm
      have := hdead (dropC off d.t d.x) (by simpa using hd)
      cases st with
      | true =>
        simp only [if_true] at hch
        have := this.1 n (hch trivial)
        have := hz rfl
        omega
      | false =>
        simp only [Bool.false_eq_true, if_false] at ha
        rw [this.2] at ha; cases ha
  · rw [if_neg hc] at ha hch ⊢
    cases st with
    | true => simp only [if_true] at hch; cases hch trivial
    | false =>
      simp only [Bool.false_eq_true, if_false] at ha ⊢
      by_cases h0 : off = 0
      · rw [if_pos h0] at ha ⊢
        exact ⟨[], l, [], by simp, by simp [h0], h⟩
      · rw [if_neg h0] at ha; cases ha
/-- A part of a value laid anew. -/
theorem setPart_ok {d v : Dyn} {off : Nat} {l lv : List Value} (h : CD w Fr mu p d l) (hv : CD w Fr mu p v lv) (ha : (d.setPart off v).t.alive = true) (hw : (d.setPart off v).t.width = d.t.width) :
    ∃ l1 lm l2, l = l1 ++ (lm ++ l2) ∧ l1.length = off ∧ lm.length = lv.length ∧ (d.setPart off v).t.chain = d.t.chain ∧ CD w Fr mu p (d.setPart off v) (l1 ++ (lv ++ l2)) := by
  unfold Dyn.setPart at ha hw ⊢
  by_cases hc : d.t.chain = true
  · rw [if_pos hc] at ha hw ⊢
    dsimp only at ha hw ⊢
    obtain ⟨hvc, hvC⟩ := toC_ok hv
    by_cases hb : ((takeC off d.t d.x).t.chain && (dropC (off + v.toC.t.width) d.t d.x).t.chain) = true
    · rw [if_pos hb] at ha hw ⊢
      simp only [Bool.and_eq_true] at hb
      obtain ⟨l1, r1, e1, n1, c1⟩ := takeC_ok d.t off d.x l hc h hb.1
      obtain ⟨_, l2, r2, e2, n2, c2⟩ := dropC_ok d.t _ d.x l hc h (chain_alive hb.2)
      obtain ⟨k1, k2⟩ := catC_ok v.toC.t v.toC.x lv (dropC (off + v.toC.t.width) d.t d.x) r2 hvc hvC hb.2 c2
      obtain ⟨j1, j2⟩ := catC_ok (takeC off d.t d.x).t (takeC off d.t d.x).x l1 (catC v.toC.t v.toC.x (dropC (off + v.toC.t.width) d.t d.x)) (lv ++ r2) hb.1 c1 k1 k2
      have hlv : lv.length = v.toC.t.width := hvC.len
      have hl2 : l2 = l1 ++ l2.drop off := by
        have : l1 = l2.take off := by
          have a1 : l.take off = l1 := by rw [e1, ← n1, List.take_left' rfl]
          have a2 : l.take off = l2.take off := by rw [e2, List.take_append_of_le_length (by omega)]
          rw [← a1, a2]
        rw [this]; exact (List.take_append_drop off l2).symm
      refine ⟨l1, l2.drop off, r2, ?_, n1, ?_, ?_, j2⟩
      · rw [e2]; conv => lhs; rw [hl2]
        rw [List.append_assoc]
      · rw [List.length_drop, n2, hlv]; omega
      · rw [j1, hc]
    · rw [if_neg hb] at ha; cases ha
  · rw [if_neg hc] at ha hw ⊢
    by_cases h0 : off = 0
    · rw [if_pos h0] at ha hw ⊢
      by_cases hvc : v.t.chain = true
      · rw [if_pos hvc] at ha; cases ha
      · rw [if_neg hvc] at ha hw ⊢
        refine ⟨[], l, [], by simp, by simp [h0], ?_, ?_, by simpa using hv⟩
        · rw [h.len, hv.len, hw]
        · simp at hc hvc; rw [hc, hvc]
    · rw [if_neg h0] at ha; cases ha
end
end Go.Abs
