/- Operations that come in any order: those that can come first do. No conditions. -/
import Derived.Test.YtobfcaejpcpboaaAbs
set_option autoImplicit false
set_option linter.unusedVariables false
namespace Go.Abs

section
variable {P : Program} {ops : Array Oper} {md : Region.Mode}

theorem wpOp_monoQ {Q Q' : Exit → Act → World → Prop} (hQ : ∀ e a w, Q e a w → Q' e a w) {i : Nat} {K : Act → World → Prop} {a : Act} {w : World} (h : wpOp P ops Q i K a w) : wpOp P ops Q' i K a w := by
  unfold wpOp at *
  split
  · simp only [*] at h; exact h
  · rename_i o ho
    simp only [ho] at h
    split
    case isFalse hw => simp only [hw] at h; exact h
    rename_i hw
    simp only [hw, if_true] at h
    rcases h with h | ⟨h1, a', w', h2⟩
    · refine .inl ?_
      unfold Oper.wp at *
      generalize (execOp a.eval o).run P w = r at *
      cases r with
      | ok n w' =>
        cases n <;> simp only [Oper.upon] at h ⊢ <;>
          first
            | exact h
            | exact Calls.mono h (fun e w'' he => by cases e <;> first | exact he | exact hQ _ _ _ he | exact he.imp fun _ he => he.imp fun _ he => hQ _ _ _ he)
      | halt x w' => cases x <;> simp only [Oper.upon] at h ⊢ <;> exact hQ _ _ _ h
    · exact .inr ⟨h1, a', w', hQ _ _ _ h2⟩

/-- Only a normal end counts. -/
def normQ (Q : Act → World → Prop) : Exit → Act → World → Prop := fun e a w => e = .normal ∧ Q a w

theorem wpOp_keep {Q : Act → World → Prop} {j : Nat} {oi oj : Oper} {v : Value} (hj : ops[j]? = some oj) (hap : oi.apart ops oj = true)
    (hsi : ∀ cs b, oi.op ≠ .select cs b) (hsj : ∀ cs b, oj.op ≠ .select cs b) {K : Act → World → Prop} {a : Act} {w : World}
    (h : wpOp P ops (normQ Q) j K (a.put oi.dst v) w) :
    wpOp P ops (normQ Q) j (fun a' w' => (execOp a'.eval oi = execOp a.eval oi ∧ Region.wanted oi (yielded ops a'.tmps) = Region.wanted oi (yielded ops a.tmps)) ∧ K (a'.put oi.dst v) w') a w := by
  obtain ⟨h1, h2, h3⟩ := Oper.apart_spec hap
  have keep : ∀ (b : Act), b.eval = a.eval → b.tmps = a.tmps → ∀ u, execOp (b.put oj.dst u).eval oi = execOp a.eval oi ∧ Region.wanted oi (yielded ops (b.put oj.dst u).tmps) = Region.wanted oi (yielded ops a.tmps) := fun b hb ht u => by
    rw [execOp_put oi hsi b oj.dst u h3, hb, wanted_put oi b oj.dst u h3, ht]
    exact ⟨rfl, rfl⟩
  unfold wpOp at *
  simp only [hj] at *
  rw [wanted_put oj a oi.dst v h1] at h
  split
  · rename_i hw
    simp only [hw, if_true] at h
    rcases h with h | ⟨_, _, _, h, _⟩
    case inr => cases h
    refine .inl ?_
    unfold Oper.wp at *
    rw [execOp_put oj hsj a oi.dst v h1] at h
    generalize (execOp a.eval oj).run P w = r at *
    cases r with
    | ok n w' =>
      cases n <;> simp only [Oper.upon] at h ⊢
      case value u => exact ⟨keep a rfl rfl u, by rw [← Act.put_comm a v u h2]; exact h⟩
      case skip => exact ⟨keep a rfl rfl _, by rw [← Act.put_comm a v undef h2]; exact h⟩
      case defer d =>
        refine ⟨keep { a with defers := d :: a.defers } rfl rfl _, ?_⟩
        rw [← Act.put_comm _ v undef h2, ← Act.put_defers]
        exact h
      case enter f args =>
        refine Calls.mono h fun e w'' he => ?_
        cases e with
        | returned u => exact ⟨keep a rfl rfl u, by rw [← Act.put_comm a v u h2]; exact he⟩
        | panicked c => cases he.1
        | outgrown => exact he
      case row row args => exact Rows.mono h fun u w'' he => ⟨keep a rfl rfl u, by rw [← Act.put_comm a v u h2]; exact he⟩
    | halt x w' =>
      cases x <;> simp only [Oper.upon] at h ⊢
      case panic u => cases h.1
  · rename_i hw
    simp only [hw] at h
    exact ⟨keep a rfl rfl _, by rw [← Act.put_comm a v undef h2]; exact h⟩

/-- A region, drawn: with blocks that those needed keep. -/
def wpAnyX (P : Program) (md : Region.Mode) (ops : Array Oper) (Q : Act → World → Prop) : Nat → Array Bool → List Nat → (Nat → Prop) → Act → World → Prop
  | 0, listed, _, _, a, w => Region.ready md ops listed = [] ∧ Q a w
  | n + 1, listed, need, X, a, w => (Region.ready md ops listed = [] → Q a w) ∧
    ∀ i ∈ Region.ready md ops listed, wpOp P ops (normQ Q) i (fun a' w' => ∃ X' : Nat → Prop, (∀ b, X b → X' b) ∧ (i ∈ need → ∀ b, X b → w'.heap[b]? = w.heap[b]?) ∧
      wpAnyX P md ops Q n (listed.setIfInBounds i true) need X' a' w') a w
theorem wpAnyX_less {Q : Act → World → Prop} : ∀ (n : Nat) (listed : Array Bool) (need need' : List Nat) (X : Nat → Prop) (a : Act) (w : World), (∀ i ∈ need', i ∈ need) →
    wpAnyX P md ops Q n listed need X a w → wpAnyX P md ops Q n listed need' X a w
  | 0, _, _, _, _, _, _, _, h => h
  | n + 1, listed, need, need', X, a, w, hs, h => ⟨h.1, fun i hi => wpOp_mono (fun a' w' ⟨X', h1, h2, h3⟩ => ⟨X', h1, fun hn => h2 (hs i hn), wpAnyX_less n _ need need' X' a' w' hs h3⟩) (h.2 i hi)⟩
theorem wpAnyX_any {Q : Exit → Act → World → Prop} : ∀ (n : Nat) (listed : Array Bool) (need : List Nat) (X : Nat → Prop) (a : Act) (w : World),
    wpAnyX P md ops (Q .normal) n listed need X a w → wpAny P md ops Q n listed a w
  | 0, _, _, _, _, _, h => h
  | n + 1, listed, need, X, a, w, h => ⟨h.1, fun i hi => wpOp_mono (fun a' w' ⟨X', h1, h2, h3⟩ => wpAnyX_any n _ need X' a' w' h3) (wpOp_monoQ (fun e a w ⟨he, h⟩ => by subst he; exact h) (h.2 i hi))⟩

/-- What can come before an operation. -/
def Before (md : Region.Mode) (ops : Array Oper) (i : Nat) (B : List Nat) (listed : Array Bool) : Prop :=
  ∀ (j : Nat) (oj : Oper), ops[j]? = some oj → j ≠ i → listed.getD j true = false → (∀ e ∈ oj.after, Region.binds md e = true → listed.getD e.on false = true ∨ e.on ∈ B) → j ∈ B
theorem set_getD {listed : Array Bool} {j k : Nat} (h : (listed.setIfInBounds j true).getD k false = true) : k = j ∨ listed.getD k false = true := by
  by_cases hk : j = k
  · exact .inl hk.symm
  · rw [getD_set_ne false hk] at h; exact .inr h
theorem set_getD_un {listed : Array Bool} {j k : Nat} (h : (listed.setIfInBounds j true).getD k true = false) : listed.getD k true = false := by
  by_cases hk : j = k
  · subst hk
    rcases Nat.lt_or_ge j listed.size with h' | h'
    · simp [h'] at h
    · simp [h'] at h
  · rw [getD_set_ne true hk] at h; exact h
theorem Before.step {i j : Nat} {B : List Nat} {listed : Array Bool} (h : Before md ops i B listed) (hj : j ∈ B) : Before md ops i B (listed.setIfInBounds j true) := by
  intro k ok hk hki hun hall
  refine h k ok hk hki (set_getD_un hun) fun e he hb => ?_
  rcases hall e he hb with h1 | h1
  · rcases set_getD h1 with h2 | h2
    · rw [h2]; exact .inr hj
    · exact .inl h2
  · exact .inr h1
/-- An operation that yields one value wherever it comes may come first. -/
theorem wpAnyX_first {Q : Act → World → Prop} {i : Nat} {oi : Oper} {v : Value} {dep : Bool} {B need : List Nat} (hi : ops[i]? = some oi) (hsi : ∀ cs b, oi.op ≠ .select cs b)
    (hB : ∀ j ∈ B, ∀ oj, ops[j]? = some oj → oi.apart ops oj = true ∧ (∀ cs b, oj.op ≠ .select cs b) ∧ (dep = true → j ∈ need)) :
    ∀ (n : Nat) (listed : Array Bool) (X : Nat → Prop) (a : Act) (w : World), Before md ops i B listed → i ∈ Region.ready md ops listed →
      ((Region.wanted oi (yielded ops a.tmps) = true ∧ ∀ w' : World, (dep = true → ∀ b, X b → w'.heap[b]? = w.heap[b]?) → (execOp a.eval oi).run P w' = .ok (.value v) w') ∨ (Region.wanted oi (yielded ops a.tmps) = false ∧ v = undef)) →
      wpAnyX P md ops Q n (listed.setIfInBounds i true) need X (a.put oi.dst v) w → wpAnyX P md ops Q (n + 1) listed need X a w := by
  have own : ∀ (X : Nat → Prop) (a : Act) (w : World) (K : Act → World → Prop), ((Region.wanted oi (yielded ops a.tmps) = true ∧ ∀ w' : World, (dep = true → ∀ b, X b → w'.heap[b]? = w.heap[b]?) → (execOp a.eval oi).run P w' = .ok (.value v) w') ∨ (Region.wanted oi (yielded ops a.tmps) = false ∧ v = undef)) → K (a.put oi.dst v) w → wpOp P ops (normQ Q) i K a w := by
    intro X a w K hr hk
    unfold wpOp
    simp only [hi]
    rcases hr with ⟨hw, hr⟩ | ⟨hw, rfl⟩
    · rw [if_pos hw]
      refine .inl ?_
      unfold Oper.wp
      rw [hr w fun _ _ _ => rfl]
      exact hk
    · rw [if_neg (by rw [hw]; simp)]
      exact hk
  intro n
  induction n with
  | zero =>
    intro listed X a w hb hr hy H
    refine ⟨fun h => (by rw [h] at hr; cases hr), fun j hj => ?_⟩
    by_cases hji : j = i
    · subst hji
      exact own X a w _ hy ⟨X, fun _ => id, fun _ _ _ => rfl, H⟩
    · have := ready_mono hj hji
      rw [H.1] at this
      cases this
  | succ n ih =>
    intro listed X a w hb hr hy H
    refine ⟨fun h => (by rw [h] at hr; cases hr), fun j hj => ?_⟩
    by_cases hji : j = i
    · subst hji
      exact own X a w _ hy ⟨X, fun _ => id, fun _ _ _ => rfl, H⟩
    · have h1 := H.2 j (ready_mono hj hji)
      obtain ⟨hjun, oj, hoj, hall⟩ := mem_ready.1 hj
      have hjB : j ∈ B := hb j oj hoj hji hjun fun e he hbd => .inl (hall e he hbd)
      obtain ⟨hap, hsj, hneed⟩ := hB j hjB oj hoj
      refine wpOp_mono ?_ (wpOp_keep hoj hap hsi hsj h1)
      rintro a' w' ⟨⟨he, hwa⟩, X', hX, hkeep, H'⟩
      refine ⟨X', hX, hkeep, ih (listed.setIfInBounds j true) X' a' w' (hb.step hjB) (ready_mono hr (Ne.symm hji)) ?_ ?_⟩
      · rw [hwa]
        refine hy.imp (fun h => ⟨h.1, fun w'' hag => ?_⟩) id
        rw [he]
        exact h.2 w'' fun hd b hXb => (hag hd b (hX b hXb)).trans (hkeep (hneed hd) b hXb)
      · rw [Array.setIfInBounds_comm _ _ hji]
        exact H'

theorem befOK_ok {listed : Array Bool} {i : Nat} {B : List Nat} (h : befOK ops listed i B = true) : Before .any ops i B listed := by
  intro j oj hj hji hun hall
  simp only [befOK, List.all_eq_true, List.mem_range] at h
  have h1 := h j (Array.getElem?_eq_some_iff.1 hj).1
  simp only [hj, Bool.or_eq_true, beq_iff_eq, hji, false_or, hun, Bool.false_eq_true] at h1
  rcases h1 with h1 | h1
  · simpa using h1
  · obtain ⟨e, he, hb⟩ := Array.any_eq_true'.1 h1
    simp only [Bool.and_eq_true, Bool.not_eq_true', Bool.or_eq_false_iff] at hb
    obtain ⟨hb1, hb2, hb3⟩ := hb
    rcases hall e he hb1 with h2 | h2
    · rw [hb2] at h2; cases h2
    · rw [List.contains_iff_mem.2 h2] at hb3; cases hb3
end
end Go.Abs
