/- The tables of types are what the program's types are, by a test. No conditions. -/
import Derived.Test.YtobfcaejpcpboaaPrim
set_option autoImplicit false
set_option linter.unusedVariables false
namespace Go.Abs
/-- Is a cell such a value? -/
def cellIs : (t : Ty) → den t → Value → Bool
  | .nil _, _, v => (match v with
    | .slice none 0 0 => true
    | _ => false)
  | .nilptr, _, v => (match v with
    | .pointer none => true
    | _ => false)
  | .nilfn, _, v => (match v with
    | .nilFunc => true
    | _ => false)
  | .bool, b, v => (match v with
    | .bool c => decide (b = c)
    | _ => false)
  | .int k, n, v => (match v with
    | .int j m => decide (k = j ∧ n = m)
    | _ => false)
  | .str, s, v => (match v with
    | .string r => decide (s = r)
    | _ => false)
  | _, _, _ => false
theorem cellIs_ok {w : World} {Fr : Nat → Prop} {mu : Nat → Loc} {t : Ty} {x : den t} {v : Value} (h : cellIs t x v = true) : Rp w Fr mu t x [v] := by
  cases t <;> unfold cellIs at h <;> dsimp only at h <;> first | (cases h; done) | skip
  all_goals
    split at h
    case h_2 => cases h
  · rfl
  · rfl
  · rfl
  · rw [of_decide_eq_true h]; rfl
  · obtain ⟨h1, h2⟩ := of_decide_eq_true h
    rw [h1, h2]; rfl
  · rw [of_decide_eq_true h]; rfl
/-- What is left of cells behind those that hold a value. -/
def litR : (t : Ty) → den t → List Value → Option (List Value)
  | .unit, _, l => some l
  | .pair a b, x, l => match litR a x.1 l with
    | some r => litR b x.2 r
    | none => none
  | .arr n t, xs, l => if t.elt = true ∧ xs.length = n then xs.foldl (fun (r : Option (List Value)) x => match r with
      | some r => litR t x r
      | none => none) (some l) else none
  | t, x, l => match l with
    | v :: l => if cellIs t x v then some l else none
    | [] => none
section
variable {w : World} {Fr : Nat → Prop} {mu : Nat → Loc}
theorem litRs_ok {t : Ty} (ih : ∀ (x : den t) (l r : List Value), litR t x l = some r → ∃ c, l = c ++ r ∧ Rp w Fr mu t x c) : ∀ (xs : List (den t)) (l r : List Value), xs.foldl (fun (r : Option (List Value)) x => match r with
      | some r => litR t x r
      | none => none) (some l) = some r → ∃ c, l = c ++ r ∧ rows (fun x l => Rp w Fr mu t x l) xs c
  | [], l, r, h => by injection h with h; subst h; exact ⟨[], rfl, rfl⟩
  | x :: xs, l, r, h => by
    rw [List.foldl_cons] at h
    dsimp only at h
    cases hx : litR t x l with
    | none =>
      rw [hx] at h
      exfalso
      clear hx ih
      induction xs with
      | nil => cases h
      | cons y ys ihy => exact ihy h
    | some l1 =>
      rw [hx] at h
      obtain ⟨c1, e1, h1⟩ := ih x l l1 hx
      obtain ⟨c2, e2, h2⟩ := litRs_ok ih xs l1 r h
      exact ⟨c1 ++ c2, by rw [e1, e2, List.append_assoc], c1, c2, rfl, h1, h2⟩
theorem litR_one {t : Ty} {x : den t} {l r : List Value} (h : (match l with
    | v :: l => if cellIs t x v then some l else none
    | [] => none) = some r) : ∃ c, l = c ++ r ∧ Rp w Fr mu t x c := by
  split at h
  case h_2 => cases h
  rename_i v l
  split at h
  case isFalse => cases h
  rename_i hc
  injection h with h
  subst h
  exact ⟨[v], rfl, cellIs_ok hc⟩
theorem litR_ok : ∀ (t : Ty) (x : den t) (l r : List Value), litR t x l = some r → ∃ c, l = c ++ r ∧ Rp w Fr mu t x c
  | .unit, _, l, r, h => by
    have h : some l = some r := h
    injection h with h
    subst h
    exact ⟨[], rfl, rfl⟩
  | .pair a b, x, l, r, h => by
    have h : (match litR a x.1 l with
      | some r => litR b x.2 r
      | none => none) = some r := h
    cases ha : litR a x.1 l with
    | none => rw [ha] at h; cases h
    | some l1 =>
      rw [ha] at h
      obtain ⟨c1, e1, h1⟩ := litR_ok a x.1 l l1 ha
      obtain ⟨c2, e2, h2⟩ := litR_ok b x.2 l1 r h
      exact ⟨c1 ++ c2, by rw [e1, e2, List.append_assoc], c1, c2, rfl, h1, h2⟩
  | .arr n t, xs, l, r, h => by
    unfold litR at h
    split at h
    case isFalse => cases h
    rename_i e
    obtain ⟨c, e1, h1⟩ := litRs_ok (fun x l r h => litR_ok t x l r h) xs l r h
    exact ⟨c, e1, e.1, e.2, h1⟩
  | .nil _, _, l, r, h => litR_one h
  | .nilptr, _, l, r, h => litR_one h
  | .nilfn, _, l, r, h => litR_one h
  | .bool, _, l, r, h => litR_one h
  | .int k, _, l, r, h => litR_one h
  | .str, _, l, r, h => litR_one h
  | .dead, _, l, r, h => litR_one h
  | .list _, _, l, r, h => litR_one h
  | .own _ _, _, l, r, h => litR_one h
  | .ptr _ _, _, l, r, h => litR_one h
  | .eptr _ _, _, l, r, h => litR_one h
  | .rptr _ _ _, _, l, r, h => litR_one h
  | .aptr _ _ _ _ _, _, l, r, h => litR_one h
  | .fn _ _, _, l, r, h => litR_one h
  | .tnil, _, l, r, h => litR_one h
  | .tcons _ _, _, l, r, h => litR_one h
end
/-- Does a value stand for a zero value? -/
def zeroIs (d : Dyn) (z : Value) : Bool := match d.t.vk, z with
  | .one, v => (match litR d.t d.x [v] with
    | some [] => true
    | _ => false)
  | .agg, .agg cs => d.t.cel && (match litR d.t d.x cs.toList with
    | some [] => true
    | _ => false)
  | _, _ => false
theorem zeroIs_ok {d : Dyn} {z : Value} (h : zeroIs d z = true) {w : World} {Fr : Nat → Prop} {mu : Nat → Loc} : VR w Fr mu d z := by
  unfold zeroIs at h
  unfold VR
  split at h
  · rename_i hv
    rw [hv]
    dsimp only
    split at h
    case h_2 => cases h
    rename_i hl
    obtain ⟨c, e, hr⟩ := litR_ok (w := w) (Fr := Fr) (mu := mu) _ _ _ _ hl
    rw [List.append_nil] at e
    rw [e]; exact hr
  · rename_i cs hv
    rw [hv]
    dsimp only
    simp only [Bool.and_eq_true] at h
    obtain ⟨hc, h⟩ := h
    split at h
    case h_2 => cases h
    rename_i hl
    obtain ⟨c, e, hr⟩ := litR_ok (w := w) (Fr := Fr) (mu := mu) _ _ _ _ hl
    rw [List.append_nil] at e
    exact ⟨hc, c, by rw [← e], hr⟩
  · cases h
def fieldsAre : List (Nat × Nat) → List Field → Bool
  | [], [] => true
  | (o, t) :: l, f :: fs => decide (o = f.offset ∧ t = f.type) && fieldsAre l fs
  | _, _ => false
theorem fieldsAre_ok : ∀ {l : List (Nat × Nat)} {fs : List Field}, fieldsAre l fs = true → l = fs.map (fun g => (g.offset, g.type))
  | [], [], _ => rfl
  | (o, t) :: l, f :: fs, h => by
    simp only [fieldsAre, Bool.and_eq_true, decide_eq_true_eq] at h
    obtain ⟨⟨rfl, rfl⟩, h⟩ := h
    rw [List.map_cons, ← fieldsAre_ok h]
  | [], _ :: _, h => by cases h
  | _ :: _, [], h => by cases h
def undIs (d : TD) (u : Option TypeDesc) : Bool := match d, u with
  | .int k, some (.int j) => decide (k = j)
  | .str, some .string => true
  | .bool, some .bool => true
  | .slice e, some (.slice f) => decide (e = f)
  | .struct fs, some (.struct F) => fieldsAre fs F.toList
  | .array n e, some (.array m f) => decide (n = m ∧ e = f)
  | .pointer, some (.pointer _) => true
  | .other, some d => !aggDesc d
  | _, _ => false
def eqsIs (P : Program) (t : Nat) (e : Bool) : Bool := !e || (!P.stoodInHeld t && !P.eqGuardType P.depth t && match P.underlying t with
  | some (.struct F) => F.toList.all fun f => f.name != "_"
  | _ => true)
def rowIs (P : Program) (t : Nat) (ti : TI) : Bool := undIs ti.d (P.underlying t) && eqsIs P t ti.eqs && match P.info? t with
  | none => false
  | some i => decide (i.size = ti.siz) && decide (i.bytes = ti.byt) && (!ti.zer.t.alive || (ti.zer.t.pure && match i.zero with
    | none => false
    | some z => decide (z.cells.size = ti.siz) && zeroIs ti.zer z))
theorem rowIs_ok {P : Program} {t : Nat} {ti : TI} (h : rowIs P t ti = true) : Good P t ti := by
  unfold rowIs at h
  simp only [Bool.and_eq_true] at h
  obtain ⟨⟨hu, he⟩, h⟩ := h
  refine ⟨fun e => ?_, ?_, ?_⟩
  · unfold eqsIs at he
    rw [e] at he
    simp only [Bool.not_true, Bool.false_or, Bool.and_eq_true, Bool.not_eq_true'] at he
    obtain ⟨⟨h1, h2⟩, h3⟩ := he
    refine ⟨h1, h2, fun F hF f hf => ?_⟩
    rw [hF] at h3
    have := List.all_eq_true.1 h3 f hf
    simpa using this
  · split at h
    · cases h
    rename_i i hi
    simp only [Bool.and_eq_true, Bool.or_eq_true, decide_eq_true_eq, Bool.not_eq_true'] at h
    obtain ⟨⟨h1, h2⟩, h3⟩ := h
    refine ⟨i, hi, h1, h2, fun ha => ?_⟩
    rcases h3 with h3 | ⟨hp, h3⟩
    · rw [ha] at h3; cases h3
    split at h3
    · cases h3
    rename_i z hz
    simp only [Bool.and_eq_true, decide_eq_true_eq] at h3
    exact ⟨z, hz, h3.1, fun p => Ty.pure_okN _ hp, fun w Fr mu => zeroIs_ok h3.2⟩
  · generalize P.underlying t = u at hu
    generalize ti.d = d at hu
    unfold undIs at hu
    split at hu
    · rw [of_decide_eq_true hu]
    · rfl
    · rfl
    · rw [of_decide_eq_true hu]
    · exact ⟨_, rfl, fieldsAre_ok hu⟩
    · obtain ⟨e1, e2⟩ := of_decide_eq_true hu
      rw [e1, e2]
    · exact ⟨_, rfl⟩
    · exact ⟨_, rfl, by simpa using hu⟩
    · cases hu
def tabIs (P : Program) (tb : Tabs) : Bool := tb.all fun p => rowIs P p.1 p.2
theorem look_mem {α : Type} : ∀ {l : List (Nat × α)} {t : Nat} {a : α}, look l t = some a → (t, a) ∈ l
  | (k, b) :: l, t, a, h => by
    unfold look at h
    split at h
    · rename_i e
      injection h with h
      subst e; subst h
      exact List.mem_cons_self
    · exact List.mem_cons_of_mem _ (look_mem h)
theorem tabIs_ok {P : Program} {tb : Tabs} (h : tabIs P tb = true) : TabOK P tb := fun t ti ht => rowIs_ok (List.all_eq_true.1 h (t, ti) (look_mem ht))
end Go.Abs
