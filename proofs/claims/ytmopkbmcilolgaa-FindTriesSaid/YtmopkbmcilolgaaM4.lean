/- Texts of one proof, laid together: how the interpreter's words stand for the program's code and what the functions do. No conditions but those that each lemma names. -/
import Derived.Test.YtmopkbmcilolgaaM2
import Derived.WideShapes
import Derived.Test.YtmopkbmcilolgaaM3
import Derived.Laws.BitsLemmas
import Derived.Lib.TrailingZeros
set_option linter.unusedSimpArgs false
set_option linter.unusedVariables false
namespace Go.Abs
/-- A byte of a text. -/
def bt (a : ByteArray) (i : Int) : Int := getS a (toN i)

/-- A text as a list of bytes. -/
abbrev bl (s : ByteArray) : List UInt8 := s.data.toList

theorem loop_eq (bs : ByteArray) : ∀ (d i : Nat) (r : List UInt8), bs.size - i = d → ByteArray.toList.loop bs i r = r.reverse ++ (bl bs).drop i := by
  intro d
  induction d with
  | zero =>
    intro i r h
    unfold ByteArray.toList.loop
    rw [if_neg (by omega), List.drop_eq_nil_of_le (by simp [bl]; show bs.size ≤ i; omega)]
    simp
  | succ d ih =>
    intro i r h
    unfold ByteArray.toList.loop
    rw [if_pos (by omega), ih (i + 1) _ (by omega)]
    have hi : i < (bl bs).length := by simp [bl]; show i < bs.size; omega
    rw [List.drop_eq_getElem_cons hi]
    have : bs.get! i = (bl bs)[i] := by
      have hi' : i < bs.data.size := by show i < bs.size; omega
      simp only [bl, ByteArray.get!]
      rw [getElem!_pos bs.data i hi']
      rfl
    rw [this]
    simp

theorem toList_eq (bs : ByteArray) : bs.toList = bl bs := by
  unfold ByteArray.toList
  rw [loop_eq bs bs.size 0 [] rfl]
  simp

theorem bl_inj {a b : ByteArray} (h : bl a = bl b) : a = b := Go.WideShapes.bytes_inj h
theorem bl_len (a : ByteArray) : (bl a).length = a.size := by
  show a.data.toList.length = a.data.size
  simp
theorem toList_iff {a b : ByteArray} : a.toList = b.toList ↔ a = b := by
  constructor
  · intro h
    rw [toList_eq, toList_eq] at h
    exact bl_inj h
  · intro h
    rw [h]
theorem toList_beq (a b : ByteArray) : (a.toList == b.toList) = decide (a = b) := by
  by_cases h : a = b
  · subst h; simp
  · have : ¬ a.toList = b.toList := fun e => h (toList_iff.1 e)
    simp [h, this]

theorem bt_get (a : ByteArray) (i : Nat) (h : i < (bl a).length) : bt a (i : Int) = ((bl a)[i].toNat : Int) := by
  have h' : i < a.data.size := h
  unfold bt getS toN
  simp only [Int.toNat_natCast, bl, ByteArray.get!]
  rw [getElem!_pos a.data i h']
  rfl

/-- Which of two lists of bytes is ahead. -/
def ltL : List UInt8 → List UInt8 → Bool
  | _, [] => false
  | [], _ :: _ => true
  | x :: xs, y :: ys => if x = y then ltL xs ys else decide (x.toNat < y.toNat)
/-- How many bytes two lists have in common. -/
def comL : List UInt8 → List UInt8 → Nat
  | x :: xs, y :: ys => if x = y then comL xs ys + 1 else 0
  | _, _ => 0
/-- Which of two texts is ahead. -/
def lt (a b : ByteArray) : Bool := ltL (bl a) (bl b)
def com (a b : ByteArray) : Nat := comL (bl a) (bl b)
/-- As Go's Compare tells it. -/
def cmp (a b : ByteArray) : Int := if a = b then 0 else if lt a b then -1 else 1

theorem byte_eq {x y : UInt8} : x = y ↔ (x.toNat : Int) = (y.toNat : Int) := by
  constructor
  · intro h; rw [h]
  · intro h; exact UInt8.toNat_inj.1 (by omega)

theorem ltL_irrefl : ∀ a, ltL a a = false
  | [] => rfl
  | x :: xs => by simp [ltL, ltL_irrefl xs]
theorem ltL_trans : ∀ a b c, ltL a b = true → ltL b c = true → ltL a c = true
  | _, _, [], _, h => by cases ‹List UInt8› <;> simp [ltL] at h
  | _, [], _ :: _, h, _ => by cases ‹List UInt8› <;> simp [ltL] at h
  | [], _ :: _, _ :: _, _, _ => rfl
  | x :: xs, y :: ys, z :: zs, h1, h2 => by
    unfold ltL at h1 h2 ⊢
    by_cases e1 : x = y <;> by_cases e2 : y = z
    · subst e1; subst e2; simp at h1 h2 ⊢; exact ltL_trans _ _ _ h1 h2
    · subst e1; simp [e2] at h2 ⊢; exact h2
    · subst e2; simp [e1] at h1 ⊢; exact h1
    · simp [e1] at h1; simp [e2] at h2
      have : x ≠ z := by intro e; subst e; omega
      simp [this]; omega
theorem ltL_total : ∀ a b, a ≠ b → ltL a b = true ∨ ltL b a = true
  | [], [], h => absurd rfl h
  | [], _ :: _, _ => .inl rfl
  | _ :: _, [], _ => .inr rfl
  | x :: xs, y :: ys, h => by
    unfold ltL
    by_cases e : x = y
    · subst e
      simp
      exact ltL_total xs ys (fun e => h (by rw [e]))
    · have e' : ¬ y = x := fun k => e k.symm
      have hn : x.toNat ≠ y.toNat := fun k => e (UInt8.toNat_inj.1 k)
      simp [e, e']
      omega

theorem lt_irrefl (a : ByteArray) : lt a a = false := ltL_irrefl _
theorem lt_trans {a b c : ByteArray} (h : lt a b = true) (k : lt b c = true) : lt a c = true := ltL_trans _ _ _ h k
theorem lt_total {a b : ByteArray} (h : a ≠ b) : lt a b = true ∨ lt b a = true := ltL_total _ _ (fun e => h (bl_inj e))
theorem lt_asymm {a b : ByteArray} (h : lt a b = true) : lt b a = false := by
  cases k : lt b a with
  | false => rfl
  | true => have := lt_trans h k; rw [lt_irrefl] at this; cases this
theorem lt_ne {a b : ByteArray} (h : lt a b = true) : a ≠ b := by
  intro e; subst e; rw [lt_irrefl] at h; cases h

theorem comL_le : ∀ a b, comL a b ≤ a.length ∧ comL a b ≤ b.length
  | [], _ => by simp [comL]
  | _ :: _, [] => by simp [comL]
  | x :: xs, y :: ys => by
    have := comL_le xs ys
    unfold comL
    split <;> simp <;> omega
theorem com_le (a b : ByteArray) : com a b ≤ a.size ∧ com a b ≤ b.size := by
  have := comL_le (bl a) (bl b)
  rw [bl_len, bl_len] at this
  exact this

theorem cmp_eq {a b : ByteArray} : cmp a b = 0 ↔ a = b := by
  unfold cmp
  by_cases h : a = b
  · simp [h]
  · simp only [h, if_false, iff_false]; split <;> omega
theorem cmp_neg {a b : ByteArray} : cmp a b < 0 ↔ lt a b = true := by
  unfold cmp
  by_cases h : a = b
  · subst h; simp [lt_irrefl]
  · simp only [h, if_false]; split <;> simp_all
theorem cmp_pos {a b : ByteArray} : 0 < cmp a b ↔ lt b a = true := by
  unfold cmp
  by_cases h : a = b
  · subst h; simp [lt_irrefl]
  · simp only [h, if_false]
    rcases lt_total h with k | k
    · simp [k, lt_asymm k]
    · simp [k, lt_asymm k]

/-- What the first bytes in which two texts differ say. -/
theorem ltL_com : ∀ a b, ltL a b = (if comL a b = b.length then false else if comL a b = a.length then true else decide ((a.getD (comL a b) 0).toNat < (b.getD (comL a b) 0).toNat))
  | _, [] => by simp [ltL, comL]
  | [], _ :: _ => by simp [ltL, comL]
  | x :: xs, y :: ys => by
    unfold ltL comL
    by_cases e : x = y
    · subst e
      simp only [if_true, List.length_cons, Nat.add_right_cancel_iff, List.getD_cons_succ]
      exact ltL_com xs ys
    · simp [e]

/-- A beginning of a list: which one is ahead of it. -/
theorem ltL_take : ∀ (a b : List UInt8) (i : Nat), ltL a b = true → (ltL a (b.take i) = true ↔ comL a b < i)
  | a, [], _, h => by cases a <;> simp [ltL] at h
  | [], y :: ys, i, _ => by cases i <;> simp [ltL, comL]
  | x :: xs, y :: ys, 0, _ => by simp [ltL]
  | x :: xs, y :: ys, i + 1, h => by
    unfold ltL at h
    simp only [List.take_succ_cons]
    unfold ltL comL
    by_cases e : x = y
    · simp only [e, if_true] at h ⊢
      rw [ltL_take xs ys i h]; omega
    · simp only [e, if_false] at h ⊢
      simp [h]
theorem ltL_take_not : ∀ (a b : List UInt8) (i : Nat), ltL a b = false → ltL a (b.take i) = false
  | _, _, 0, _ => by simp [ltL]
  | _, [], i + 1, h => by simp [ltL]
  | [], y :: ys, i + 1, h => by simp [ltL] at h
  | x :: xs, y :: ys, i + 1, h => by
    unfold ltL at h
    simp only [List.take_succ_cons]
    unfold ltL
    by_cases e : x = y
    · simp only [e, if_true] at h ⊢
      exact ltL_take_not xs ys i h
    · simp only [e, if_false] at h ⊢
      exact h
theorem ltL_len : ∀ (a b : List UInt8), ltL a b = true → comL a b < b.length
  | a, [], h => by cases a <;> simp [ltL] at h
  | [], y :: ys, _ => by simp [comL]
  | x :: xs, y :: ys, h => by
    unfold ltL at h
    unfold comL
    by_cases e : x = y
    · simp only [e, if_true] at h ⊢
      have := ltL_len xs ys h
      simp; omega
    · simp [e]
/-- What is behind a text and not behind another one is no shorter than the common beginning and one. -/
theorem ltL_short : ∀ (a b c : List UInt8), ltL a c = true → ltL b c = false → comL a b < b.length → ltL a b = true → comL a b < c.length
  | a, b, [], h, _, _, _ => by cases a <;> simp [ltL] at h
  | [], _ :: _, _ :: _, _, _, _, _ => by simp [comL]
  | _, [], _ :: _, _, _, h, _ => by simp at h
  | x :: xs, y :: ys, z :: zs, h1, h2, h3, h4 => by
    unfold ltL at h1 h2 h4
    unfold comL at h3 ⊢
    by_cases e : x = y
    · subst e
      simp only [if_true, List.length_cons] at h3 h4 ⊢
      by_cases e2 : x = z
      · subst e2
        simp only [if_true] at h1 h2
        have := ltL_short xs ys zs h1 h2 (by omega) h4
        omega
      · simp only [e2, if_false] at h1 h2
        simp_all
    · simp [e]

theorem bl_take (b : ByteArray) (i : Nat) : bl (b.extract 0 i) = (bl b).take i := by
  simp [bl]
theorem take_all (b : ByteArray) (i : Nat) (h : b.size ≤ i) : b.extract 0 i = b := by
  apply bl_inj
  rw [bl_take, List.take_of_length_le (by rw [bl_len]; exact h)]
theorem drop_cons (a : ByteArray) (i : Nat) (h : i < a.size) : ∃ x : UInt8, (bl a).drop i = x :: (bl a).drop (i + 1) ∧ bt a i = (x.toNat : Int) := by
  have h' : i < (bl a).length := by rw [bl_len]; exact h
  exact ⟨(bl a)[i], List.drop_eq_getElem_cons h', bt_get a i h'⟩
theorem comL_nil (l : List UInt8) : comL l [] = 0 := by cases l <;> rfl
theorem comL_end (a b : ByteArray) (i : Nat) (h : a.size ≤ i ∨ b.size ≤ i) : comL ((bl a).drop i) ((bl b).drop i) = 0 := by
  rcases h with h | h
  · rw [List.drop_eq_nil_of_le (by rw [bl_len]; exact h)]; rfl
  · rw [List.drop_eq_nil_of_le (show (bl b).length ≤ i by rw [bl_len]; exact h)]; exact comL_nil _
theorem comL_step (a b : ByteArray) (i : Nat) (h : i < a.size) (h' : i < b.size) :
    comL ((bl a).drop i) ((bl b).drop i) = if bt a i = bt b i then comL ((bl a).drop (i + 1)) ((bl b).drop (i + 1)) + 1 else 0 := by
  obtain ⟨x, e, hx⟩ := drop_cons a i h
  obtain ⟨y, e', hy⟩ := drop_cons b i h'
  rw [e, e', hx, hy]
  show (if x = y then _ else _) = _
  by_cases q : x = y
  · rw [if_pos q, if_pos (byte_eq.1 q)]
  · rw [if_neg q, if_neg (fun k => q (byte_eq.2 k))]
theorem ltL_step (a b : ByteArray) (i : Nat) (h : i < a.size) (h' : i < b.size) :
    ltL ((bl a).drop i) ((bl b).drop i) = if bt a i = bt b i then ltL ((bl a).drop (i + 1)) ((bl b).drop (i + 1)) else decide (bt a i < bt b i) := by
  obtain ⟨x, e, hx⟩ := drop_cons a i h
  obtain ⟨y, e', hy⟩ := drop_cons b i h'
  rw [e, e', hx, hy]
  conv => lhs; unfold ltL
  by_cases q : x = y
  · rw [if_pos q, if_pos (byte_eq.1 q)]
  · rw [if_neg q, if_neg (fun k => q (byte_eq.2 k))]
    exact decide_eq_decide.2 (by omega)
theorem ltL_nil (l : List UInt8) : ltL l [] = false := by cases l <;> rfl
theorem ltL_end (a b : ByteArray) (i : Nat) (h1 : i ≤ a.size) (h2 : i ≤ b.size) (h : a.size ≤ i ∨ b.size ≤ i) : ltL ((bl a).drop i) ((bl b).drop i) = decide (a.size < b.size) := by
  by_cases e : b.size ≤ i
  · rw [List.drop_eq_nil_of_le (show (bl b).length ≤ i by rw [bl_len]; exact e), ltL_nil]
    exact (decide_eq_false (by omega)).symm
  · have h3 : a.size ≤ i := by omega
    obtain ⟨y, e', _⟩ := drop_cons b i (by omega)
    rw [List.drop_eq_nil_of_le (by rw [bl_len]; exact h3), e']
    exact (decide_eq_true (by omega)).symm
theorem comL_self : ∀ l, comL l l = l.length
  | [] => rfl
  | x :: xs => by simp [comL, comL_self xs]
theorem com_self (a : ByteArray) : com a a = a.size := by rw [com, comL_self, bl_len]
theorem comL_full : ∀ a b, comL a b = a.length → comL a b = b.length → a = b
  | [], [], _, _ => rfl
  | [], _ :: _, _, h => by simp [comL] at h
  | _ :: _, [], h, _ => by simp [comL] at h
  | x :: xs, y :: ys, h, h' => by
    unfold comL at h h'
    by_cases e : x = y
    · simp only [e, if_true, List.length_cons, Nat.add_right_cancel_iff] at h h'
      rw [e, comL_full xs ys h h']
    · simp [e] at h
theorem com_full {a b : ByteArray} (h : com a b = a.size) (h' : com a b = b.size) : a = b :=
  bl_inj (comL_full _ _ (by rw [bl_len]; exact h) (by rw [bl_len]; exact h'))
theorem comL_ne : ∀ a b, comL a b < a.length → comL a b < b.length → a.getD (comL a b) 0 ≠ b.getD (comL a b) 0
  | [], _, h, _ => by simp at h
  | _ :: _, [], _, h => by simp at h
  | x :: xs, y :: ys, h, h' => by
    unfold comL at h h' ⊢
    by_cases e : x = y
    · simp only [e, if_true, List.length_cons] at h h' ⊢
      rw [List.getD_cons_succ, List.getD_cons_succ]
      exact comL_ne xs ys (by omega) (by omega)
    · simp only [e, if_false]
      simpa using e
theorem bt_getD (a : ByteArray) (i : Nat) (h : i < a.size) : bt a i = (((bl a).getD i 0).toNat : Int) := by
  have h' : i < (bl a).length := by rw [bl_len]; exact h
  rw [bt_get a i h', List.getD_eq_getElem?_getD, List.getElem?_eq_getElem h']
  rfl
theorem lt_com (a b : ByteArray) : lt a b = if com a b = b.size then false else if com a b = a.size then true else decide (bt a (com a b) < bt b (com a b)) := by
  have hle := com_le a b
  have h := ltL_com (bl a) (bl b)
  rw [bl_len, bl_len] at h
  show ltL (bl a) (bl b) = _
  rw [h]
  show (if com a b = b.size then _ else if com a b = a.size then _ else _) = _
  by_cases h1 : com a b = b.size
  · rw [if_pos h1, if_pos h1]
  · rw [if_neg h1, if_neg h1]
    by_cases h2 : com a b = a.size
    · rw [if_pos h2, if_pos h2]
    · rw [if_neg h2, if_neg h2, bt_getD a _ (by omega), bt_getD b _ (by omega)]
      exact decide_eq_decide.2 (by unfold com; omega)
theorem com_ne {a b : ByteArray} (h1 : com a b ≠ a.size) (h2 : com a b ≠ b.size) : bt a (com a b) ≠ bt b (com a b) := by
  have hle := com_le a b
  rw [bt_getD a _ (by omega), bt_getD b _ (by omega)]
  have h := comL_ne (bl a) (bl b) (by rw [bl_len]; show com a b < _; omega) (by rw [bl_len]; show com a b < _; omega)
  intro e
  exact h (byte_eq.2 e)
theorem cmp_com (a b : ByteArray) : cmp a b = if com a b = a.size then (if com a b = b.size then 0 else -1) else if com a b = b.size then 1 else if bt a (com a b) > bt b (com a b) then 1 else -1 := by
  by_cases e : a = b
  · subst e
    unfold cmp
    rw [if_pos rfl, if_pos (com_self a), if_pos (com_self a)]
  · unfold cmp
    rw [if_neg e, lt_com]
    by_cases h1 : com a b = a.size
    · have h2 : com a b ≠ b.size := fun k => e (com_full h1 k)
      rw [if_pos h1, if_neg h2, if_neg h2, if_pos h1, if_pos rfl]
    · rw [if_neg h1, if_neg h1]
      by_cases h2 : com a b = b.size
      · rw [if_pos h2, if_pos h2]; rfl
      · have := com_ne h1 h2
        rw [if_neg h2, if_neg h2]
        by_cases h3 : bt a (com a b) > bt b (com a b)
        · rw [if_pos h3, if_neg (by simp; omega)]
        · rw [if_neg h3, if_pos (by simp; omega)]
theorem lt_com_lt {a b : ByteArray} (h : lt a b = true) : com a b < b.size := by
  have := ltL_len (bl a) (bl b) h
  rw [bl_len] at this
  exact this
theorem lt_take {a b : ByteArray} (h : lt a b = true) (i : Nat) : lt a (b.extract 0 i) = true ↔ com a b < i := by
  unfold lt
  rw [bl_take]
  exact ltL_take _ _ i h
theorem lt_take_not {a b : ByteArray} (h : lt a b = false) (i : Nat) : lt a (b.extract 0 i) = false := by
  unfold lt
  rw [bl_take]
  exact ltL_take_not _ _ i h
theorem lt_short {a b c : ByteArray} (h1 : lt a c = true) (h2 : lt b c = false) (h4 : lt a b = true) : com a b < c.size := by
  have := ltL_short (bl a) (bl b) (bl c) h1 h2 (by rw [bl_len]; exact lt_com_lt h4) h4
  rw [bl_len] at this
  exact this
/-- What is ahead of a text with a zero byte behind it: what is ahead of the text, and the text. -/
theorem ltL_zero : ∀ a b : List UInt8, ltL b (a ++ [0]) = (ltL b a || decide (b = a))
  | [], [] => rfl
  | [], y :: ys => by
    simp only [List.nil_append]
    unfold ltL
    by_cases e : y = 0
    · subst e; cases ys <;> simp [ltL]
    · simp [e]
  | x :: xs, [] => rfl
  | x :: xs, y :: ys => by
    simp only [List.cons_append]
    unfold ltL
    by_cases e : y = x
    · subst e
      simp only [if_true, ltL_zero xs ys, List.cons.injEq, true_and]
    · simp [e]
theorem lt_zero (a b : ByteArray) : lt b (a ++ (⟨#[0]⟩ : ByteArray)) = (lt b a || decide (b = a)) := by
  have h := ltL_zero (bl a) (bl b)
  have e : bl (a ++ (⟨#[0]⟩ : ByteArray)) = bl a ++ [0] := by simp [bl]
  unfold lt
  rw [e, h]
  congr 1
  exact decide_eq_decide.2 ⟨fun q => bl_inj q, fun q => by rw [q]⟩
end Go.Abs
set_option autoImplicit false
set_option linter.unusedVariables false
namespace Go.Abs
section
variable {A R : Type}
/-- (No proofs by computing: so that the kernel doesn't unfold what stands in them.) -/
theorem bnd_some (a : A) (K : A → Option R) : bnd (some a) K = K a := by
  have h : ∀ o, o = K a → bnd (some a) K = o := fun o h => h ▸ rfl
  exact h _ rfl
theorem br_t (x y : Option R) : br true x y = x := by
  have h : ∀ o, o = x → br true x y = o := fun o h => h ▸ rfl
  exact h _ rfl
theorem br_f (x y : Option R) : br false x y = y := by
  have h : ∀ o, o = y → br false x y = o := fun o h => h ▸ rfl
  exact h _ rfl
theorem br_if (p : Prop) [Decidable p] (x y : Option R) : br (decide p) x y = if p then x else y := by
  by_cases h : p
  · rw [if_pos h, decide_eq_true h, br_t]
  · rw [if_neg h, decide_eq_false h, br_f]
theorem br_b (b : Bool) (x y : Option R) : br b x y = if b = true then x else y := by
  cases b
  · rw [br_f, if_neg (by simp)]
  · rw [br_t, if_pos rfl]
theorem both_self (x : Option R) : both x x = x := by
  unfold both
  rw [if_pos rfl]
theorem eqI_d (a b : Int) : eqI a b = decide (a = b) := rfl
theorem ltI_d (a b : Int) : ltI a b = decide (a < b) := rfl
theorem leI_d (a b : Int) : leI a b = decide (a ≤ b) := rfl
theorem notB_d (p : Prop) [Decidable p] : notB (decide p) = decide (¬ p) := by by_cases h : p <;> simp [notB, h]
theorem andB_d (p q : Prop) [Decidable p] [Decidable q] : andB (decide p) (decide q) = decide (p ∧ q) := by by_cases h : p <;> by_cases k : q <;> simp [andB, h, k]
theorem eqS_d (a b : ByteArray) : eqS a b = decide (a = b) := toList_beq a b
theorem ofN_d (n : Nat) : ofN n = (n : Int) := rfl
theorem toN_d (n : Nat) : toN (n : Int) = n := Int.toNat_natCast n
theorem lenL_d (t : Ty) (l : List (den t)) : lenL t l = l.length := rfl
theorem lenS_d (s : ByteArray) : lenS s = s.size := rfl
theorem appL_d (t : Ty) (a b : List (den t)) : appL t a b = a ++ b := rfl
theorem fitL_d (t : Ty) (l : List (den t)) : fitL t l = decide (l.length ≤ 1073741824) := rfl
theorem ixL_d (t : Ty) (l : List (den t)) (i : Nat) (h : i < l.length) : ixL t l (i : Int) = l[i] := by
  unfold ixL
  rw [Int.toNat_natCast, List.getD_eq_getElem?_getD, List.getElem?_eq_getElem h]
  rfl
theorem wrap_i64_id {x : Int} (h0 : -9223372036854775808 ≤ x) (h1 : x ≤ 9223372036854775807) : IntKind.i64.wrap x = x := by
  rw [IntKind.wrap_i64]; omega
theorem addI_d {a b : Int} (h0 : -9223372036854775808 ≤ a + b) (h1 : a + b ≤ 9223372036854775807) : addI .i64 a b = a + b := wrap_i64_id h0 h1
theorem subI_d {a b : Int} (h0 : -9223372036854775808 ≤ a - b) (h1 : a - b ≤ 9223372036854775807) : subI .i64 a b = a - b := wrap_i64_id h0 h1
theorem add1 (n : Nat) (h : n < 9223372036854775807) : addI .i64 (n : Int) 1 = ((n + 1 : Nat) : Int) := by
  rw [addI_d (by omega) (by omega)]; omega
theorem sub1 (n : Nat) (h : 0 < n) (h' : n < 9223372036854775807) : subI .i64 (n : Int) 1 = ((n - 1 : Nat) : Int) := by
  rw [subI_d (by omega) (by omega)]; omega
theorem maxI_d (a b : Int) : maxI a b = max a b := by unfold maxI; rw [Int.max_def]; split <;> split <;> omega
theorem minI_d (a b : Int) : minI a b = min a b := by unfold minI; rw [Int.min_def]; split <;> split <;> omega
theorem subL0 (t : Ty) (l : List (den t)) (j : Nat) : subL t l 0 j = l.take j := by
  unfold subL
  rw [List.drop_zero, Nat.sub_zero]
theorem getS_bt (a : ByteArray) (i : Int) : getS a (toN i) = bt a i := rfl
theorem some_int {a b : Int} (h : a = b) : (some a : Option Int) = some b := by rw [h]
theorem some_bool {a b : Bool} (h : a = b) : (some a : Option Bool) = some b := by rw [h]
theorem subS_d (a : ByteArray) (i j : Nat) : subS a i j = a.extract i j := rfl
end
end Go.Abs
set_option linter.unusedVariables false
set_option linter.unusedSimpArgs false
namespace Go.Proofs.Ytmopkbmcilolgaa.AC
open Go.Abs
theorem common_loop (a b : ByteArray) (m : Nat) (hm : m = min a.size b.size) (hs : a.size ≤ 9223372036854775806) (d : Nat) : ∀ (i : Nat), i ≤ m → m - i = d →
    order_Common.l0 a b m m i = some ((i + comL ((bl a).drop i) ((bl b).drop i) : Nat) : Int) := by
  induction d with
  | zero =>
    intro i h1 h2
    rw [order_Common.l0.eq]
    simp only [ltI_d, leI_d, ofN_d, lenS_d, andB_d, eqI_d, notB_d, br_if, getS_bt]
    rw [if_neg (by omega), comL_end a b i (by omega)]
    exact some_int (by omega)
  | succ d ih =>
    intro i h1 h2
    rw [order_Common.l0.eq]
    simp only [ltI_d, leI_d, ofN_d, lenS_d, andB_d, eqI_d, notB_d, br_if, getS_bt]
    rw [if_pos (by omega), if_pos (by omega), if_pos (by omega), comL_step a b i (by omega) (by omega)]
    by_cases e : bt a i = bt b i
    · rw [if_neg (by intro h; exact h e), if_pos e, add1 i (by omega), ih (i + 1) (by omega) (by omega)]
      exact some_int (by omega)
    · rw [if_pos e, if_neg e]
      exact some_int (by omega)
theorem common_any (a b : ByteArray) (hs : a.size ≤ 9223372036854775806) : order_Common a b = some (com a b : Int) := by
  rw [order_Common.eq]
  simp only [ofN_d, lenS_d, minI_d]
  have e : min (a.size : Int) (b.size : Int) = ((min a.size b.size : Nat) : Int) := by omega
  rw [e]
  have := common_loop a b (min a.size b.size) rfl hs (min a.size b.size) 0 (by omega) (by omega)
  simp only [List.drop_zero, Nat.zero_add, Int.ofNat_zero, Int.cast_ofNat_Int] at this
  exact this
theorem compare_any (a b : ByteArray) (hs : a.size ≤ 9223372036854775806) : order_Compare a b = some (cmp a b) := by
  have hle := com_le a b
  rw [order_Compare.eq, common_any a b hs, bnd_some]
  simp only [ofN_d, lenS_d, eqI_d, br_if]
  rw [cmp_com]
  by_cases h1 : com a b = a.size
  · rw [if_pos h1, if_pos (by omega), order_Compare.j0.eq]
    simp only [ltI_d, leI_d, ofN_d, lenS_d, andB_d, eqI_d, notB_d, br_if, getS_bt]
    by_cases h2 : com a b = b.size
    · rw [if_pos (by omega), if_pos h2]
    · rw [if_neg (by omega), if_neg h2, if_pos (by omega)]
  · rw [if_neg h1, if_neg (by omega), order_Compare.j0.eq, br_f]
    simp only [ltI_d, leI_d, ofN_d, lenS_d, andB_d, eqI_d, notB_d, br_if, getS_bt]
    rw [if_neg (by omega)]
    by_cases h2 : com a b = b.size
    · rw [if_pos (by omega), if_pos h2]
    · rw [if_neg (by omega), if_neg h2, if_pos (by omega), if_pos (by omega)]
      show (if bt b (com a b) < bt a (com a b) then _ else _) = _
      by_cases h3 : bt b (com a b) < bt a (com a b)
      · rw [if_pos h3, if_pos h3]
      · rw [if_neg h3, if_neg h3]
theorem less_loop (a b : ByteArray) (hs : a.size ≤ 9223372036854775806) (d : Nat) : ∀ (i : Nat), i ≤ a.size → i ≤ b.size → a.size - i = d →
    ref01_Less.l0 a b i = some (ltL ((bl a).drop i) ((bl b).drop i)) := by
  have stop : ∀ (i : Nat), i ≤ a.size → i ≤ b.size → (a.size ≤ i ∨ b.size ≤ i) → ref01_Less.j1 a b i false = some (ltL ((bl a).drop i) ((bl b).drop i)) := by
    intro i h1 h2 h3
    rw [ref01_Less.j1.eq, br_f, ltL_end a b i h1 h2 h3]
    simp only [ltI_d, ofN_d, lenS_d]
    exact some_bool (decide_eq_decide.2 (by omega))
  induction d with
  | zero =>
    intro i h1 h1' h2
    rw [ref01_Less.l0.eq]
    simp only [ltI_d, ofN_d, lenS_d, br_if]
    rw [if_neg (by omega)]
    exact stop i h1 h1' (.inl (by omega))
  | succ d ih =>
    intro i h1 h1' h2
    rw [ref01_Less.l0.eq]
    simp only [ltI_d, ofN_d, lenS_d, br_if]
    rw [if_pos (by omega)]
    by_cases hb : i < b.size
    · rw [show decide ((i : Int) < (b.size : Int)) = true from decide_eq_true (by omega), ref01_Less.j1.eq, br_t]
      simp only [ltI_d, leI_d, ofN_d, lenS_d, andB_d, eqI_d, notB_d, br_if, getS_bt]
      rw [if_pos (by omega), if_pos (by omega), ltL_step a b i (by omega) hb]
      by_cases e : bt a i = bt b i
      · rw [if_neg (by intro h; exact h e), if_pos e, add1 i (by omega)]
        exact ih (i + 1) (by omega) (by omega) (by omega)
      · rw [if_pos e, if_neg e, if_pos (by omega), if_pos (by omega)]
    · rw [show decide ((i : Int) < (b.size : Int)) = false from decide_eq_false (by omega)]
      exact stop i h1 h1' (.inr (by omega))
theorem less_any (a b : ByteArray) (hs : a.size ≤ 9223372036854775806) : ref01_Less a b = some (lt a b) := by
  rw [ref01_Less.eq]
  have := less_loop a b hs a.size 0 (by omega) (by omega) (by omega)
  simp only [List.drop_zero, Int.ofNat_zero, Int.cast_ofNat_Int] at this
  exact this
/-- The first bytes of a text. -/
def cut (k : Nat) (s : ByteArray) : ByteArray := s.extract 0 k
theorem cut_size (k : Nat) (s : ByteArray) : (cut k s).size = min k s.size := by
  unfold cut
  rw [ByteArray.size_extract]
  omega
theorem cut_cut (k : Nat) (s : ByteArray) : cut k (cut k s) = cut k s := by
  have h : (cut k s).size ≤ k := by rw [cut_size]; omega
  exact take_all _ _ h
theorem base_Cut_any (s : ByteArray) (k : Nat) : base_Cut s (k : Int) = some (cut k s) := by
  rw [base_Cut.eq]
  simp only [ltI_d, leI_d, ofN_d, lenS_d, andB_d, minI_d, br_if, subS_d]
  have hk : (0 : Int) ≤ (k : Int) := by omega
  rw [if_pos (by omega)]
  have e : toN (min (s.size : Int) (k : Int)) = min s.size k := by unfold toN; omega
  rw [e]
  show some (s.extract 0 (min s.size k)) = some (cut k s)
  congr 1
  by_cases h : s.size ≤ k
  · rw [show min s.size k = s.size by omega]
    unfold cut
    rw [take_all s s.size (Nat.le_refl _), take_all s k h]
  · rw [show min s.size k = k by omega]; rfl
theorem base_Cut_40 (s : ByteArray) : base_Cut s (40 : Int) = some (cut 40 s) := base_Cut_any s 40
end Go.Proofs.Ytmopkbmcilolgaa.AC
set_option linter.unusedVariables false
set_option linter.unusedSimpArgs false
namespace Go.Abs

theorem wf_u32 {a : Int} (h : (Lit.int .u32 a).wf = true) : 0 ≤ a ∧ a < 4294967296 := by
  simp [Lit.wf, IntKind.min, IntKind.max, IntKind.bits, IntKind.signed] at h
  omega
theorem wf_u8 {a : Int} (h : (Lit.int .u8 a).wf = true) : 0 ≤ a ∧ a < 256 := by
  simp [Lit.wf, IntKind.min, IntKind.max, IntKind.bits, IntKind.signed] at h
  omega
theorem wraps_u32 (n : Int) (h0 : 0 ≤ n) (h1 : n < 2 ^ 32) : IntKind.u32.wrap n = n := by rw [IntKind.wrap_u32]; omega
theorem bv32 (a : Nat) (ha : a < 4294967296) : (BitVec.ofInt 32 (a : Int)).toNat = a := by
  rw [BitVec.ofInt_natCast, BitVec.toNat_ofNat]; exact Nat.mod_eq_of_lt (by omega)
theorem and_u32 (a b : Nat) (ha : a < 4294967296) (hb : b < 4294967296) : andI .u32 a b = ((a &&& b : Nat) : Int) := by
  have hx : a &&& b < 2 ^ 32 := Nat.and_lt_two_pow _ (by omega)
  show IntKind.u32.wrap ((BitVec.ofInt 32 (a : Int) &&& BitVec.ofInt 32 (b : Int)).toNat : Int) = _
  rw [BitVec.toNat_and, bv32 a ha, bv32 b hb, IntKind.wrap_u32]
  omega
theorem or_u32 (a b : Nat) (ha : a < 4294967296) (hb : b < 4294967296) : orI .u32 a b = ((a ||| b : Nat) : Int) := by
  have hx : a ||| b < 2 ^ 32 := Nat.or_lt_two_pow (by omega) (by omega)
  show IntKind.u32.wrap ((BitVec.ofInt 32 (a : Int) ||| BitVec.ofInt 32 (b : Int)).toNat : Int) = _
  rw [BitVec.toNat_or, bv32 a ha, bv32 b hb, IntKind.wrap_u32]
  omega
theorem andNot_u32 (a b : Nat) (ha : a < 4294967296) (hb : b < 4294967296) : andNotI .u32 a b = ((a &&& (4294967295 - b) : Nat) : Int) := by
  have hx : a &&& (4294967295 - b) < 2 ^ 32 := Nat.and_lt_two_pow _ (by omega)
  show IntKind.u32.wrap ((BitVec.ofInt 32 (a : Int) &&& ~~~(BitVec.ofInt 32 (b : Int))).toNat : Int) = _
  rw [BitVec.toNat_and, BitVec.toNat_not, bv32 a ha, bv32 b hb, IntKind.wrap_u32]
  have e : 2 ^ 32 - 1 - b = 4294967295 - b := by omega
  rw [e]
  omega
theorem not_bit (b : Nat) (hb : b < 4294967296) (i : Nat) : (4294967295 - b).testBit i = (decide (i < 32) && !b.testBit i) := by
  have := Nat.testBit_two_pow_sub_succ (n := 32) (x := b) (by omega) i
  rw [← this]
  congr 1
  omega

/-- Which numbers are in a mask. -/
def allL (m : Nat) : List Nat := (List.range 32).filter fun j => m.testBit j
def allI (m : Nat) : List Int := (allL m).map fun j : Nat => (j : Int)
/-- How many of the first n numbers are there. -/
def cnt (n m : Nat) : Nat := ((List.range n).filter fun j => m.testBit j).length
theorem cnt_succ (n m : Nat) : cnt (n + 1) m = cnt n m + if m.testBit n = true then 1 else 0 := by
  unfold cnt
  rw [List.range_succ, List.filter_append, List.length_append]
  congr 1
  by_cases h : m.testBit n = true <;> simp [h]
theorem cnt_le (n m : Nat) : cnt n m ≤ n := by
  unfold cnt
  have := List.length_filter_le (fun j => m.testBit j) (List.range n)
  simpa using this
theorem cnt_all (m : Nat) : cnt 32 m = (allL m).length := rfl
theorem cnt_add (a : Nat) (m : Nat) : ∀ b, cnt (a + b) m = cnt a m + cnt b (m / 2 ^ a)
  | 0 => by simp [cnt]
  | b + 1 => by
    rw [show a + (b + 1) = (a + b) + 1 by omega, cnt_succ, cnt_succ, cnt_add a m b, Nat.testBit_div_two_pow, Nat.add_comm b a]
    omega
theorem cnt_mod (m : Nat) : ∀ b, ∀ c, b ≤ c → cnt b (m % 2 ^ c) = cnt b m
  | 0, _, _ => rfl
  | b + 1, c, h => by
    rw [cnt_succ, cnt_succ, cnt_mod m b c (by omega), Nat.testBit_mod_two_pow]
    have : decide (b < c) = true := decide_eq_true (by omega)
    rw [this, Bool.true_and]
theorem cnt_four (m : Nat) : cnt 32 m = cnt 8 (m / 16777216) + cnt 8 (m / 65536 % 256) + cnt 8 (m / 256 % 256) + cnt 8 (m % 256) := by
  have h1 := cnt_add 8 m 24
  have h2 := cnt_add 8 (m / 2 ^ 8) 16
  have h3 := cnt_add 8 (m / 2 ^ 8 / 2 ^ 8) 8
  have e1 := cnt_mod m 8 8 (by omega)
  have e2 := cnt_mod (m / 2 ^ 8) 8 8 (by omega)
  have e3 := cnt_mod (m / 2 ^ 8 / 2 ^ 8) 8 8 (by omega)
  rw [Nat.div_div_eq_div_mul] at h2 h3 e3
  rw [Nat.div_div_eq_div_mul] at h3
  simp only [Nat.reducePow, Nat.reduceMul, Nat.reduceAdd] at h1 h2 h3 e1 e2 e3
  omega
/-- The library's table: how many bits a byte has. -/
def ones : ByteArray := ByteArray.mk #[0, 1, 1, 2, 1, 2, 2, 3, 1, 2, 2, 3, 2, 3, 3, 4, 1, 2, 2, 3, 2, 3, 3, 4, 2, 3, 3, 4, 3, 4, 4, 5, 1, 2, 2, 3, 2, 3, 3, 4, 2, 3, 3, 4, 3, 4, 4, 5, 2, 3, 3, 4, 3, 4, 4, 5, 3, 4, 4, 5, 4, 5, 5, 6, 1, 2, 2, 3, 2, 3, 3, 4, 2, 3, 3, 4, 3, 4, 4, 5, 2, 3, 3, 4, 3, 4, 4, 5, 3, 4, 4, 5, 4, 5, 5, 6, 2, 3, 3, 4, 3, 4, 4, 5, 3, 4, 4, 5, 4, 5, 5, 6, 3, 4, 4, 5, 4, 5, 5, 6, 4, 5, 5, 6, 5, 6, 6, 7, 1, 2, 2, 3, 2, 3, 3, 4, 2, 3, 3, 4, 3, 4, 4, 5, 2, 3, 3, 4, 3, 4, 4, 5, 3, 4, 4, 5, 4, 5, 5, 6, 2, 3, 3, 4, 3, 4, 4, 5, 3, 4, 4, 5, 4, 5, 5, 6, 3, 4, 4, 5, 4, 5, 5, 6, 4, 5, 5, 6, 5, 6, 6, 7, 2, 3, 3, 4, 3, 4, 4, 5, 3, 4, 4, 5, 4, 5, 5, 6, 3, 4, 4, 5, 4, 5, 5, 6, 4, 5, 5, 6, 5, 6, 6, 7, 3, 4, 4, 5, 4, 5, 5, 6, 4, 5, 5, 6, 5, 6, 6, 7, 4, 5, 5, 6, 5, 6, 6, 7, 5, 6, 6, 7, 6, 7, 7, 8]
theorem ones_len : lenS ones = 256 := by decide +kernel
theorem cnt_table : ∀ i : Fin 256, bt ones ((i.val : Nat) : Int) = ((cnt 8 i.val : Nat) : Int) := by
  decide +kernel
theorem cnt_tab (i : Nat) (h : i < 256) : bt ones (i : Int) = ((cnt 8 i : Nat) : Int) := cnt_table ⟨i, h⟩

/-- How many numbers of a mask are below one. -/
def cl (i : Int) : Nat := (min (max i 0) 32).toNat
theorem cl_le (i : Int) : cl i ≤ 32 := by unfold cl; omega
def low (i : Int) : Nat := 2 ^ cl i - 1
theorem low_lt (i : Int) : low i < 4294967296 := by
  have := Nat.pow_le_pow_right (n := 2) (by omega) (cl_le i)
  unfold low
  omega
theorem low_bit (i : Int) (j : Nat) : (low i).testBit j = decide (j < cl i) := by
  unfold low
  exact Nat.testBit_two_pow_sub_one _ _
theorem cnt_low (m : Nat) (i : Int) : ∀ n, n ≤ 32 → cnt n (m &&& low i) = cnt (min n (cl i)) m
  | 0, _ => by simp [cnt]
  | n + 1, h => by
    have ih := cnt_low m i n (by omega)
    rw [cnt_succ, ih, Nat.testBit_and, low_bit]
    by_cases q : n < cl i
    · rw [Nat.min_eq_left (by omega), Nat.min_eq_left (by omega), cnt_succ]
      simp [q]
    · rw [Nat.min_eq_right (by omega), Nat.min_eq_right (by omega)]
      simp [q]
theorem filter_lt (p : Nat → Bool) (c : Nat) : ∀ n, (((List.range n).filter p).filter fun j => decide (j < c)).length = ((List.range (min n c)).filter p).length
  | 0 => by simp
  | n + 1 => by
    rw [List.range_succ, List.filter_append, List.filter_append, List.length_append, filter_lt p c n]
    by_cases q : n < c
    · rw [Nat.min_eq_left (by omega), Nat.min_eq_left (by omega), List.range_succ, List.filter_append, List.length_append]
      congr 1
      by_cases h : p n = true <;> simp [h, q]
    · rw [Nat.min_eq_right (by omega), Nat.min_eq_right (by omega)]
      by_cases h : p n = true <;> simp [h, q]
/-- How many numbers of a mask are below one, counted in the list. -/
theorem place_list (m : Nat) (i : Int) : cnt (cl i) m = ((allI m).filter fun j => decide (j < i)).length := by
  have h1 := filter_lt (fun j => m.testBit j) (cl i) 32
  have h2 : min 32 (cl i) = cl i := Nat.min_eq_right (cl_le i)
  rw [h2] at h1
  unfold cnt
  rw [← h1]
  unfold allI allL
  rw [List.filter_map, List.length_map]
  congr 1
  apply List.filter_congr
  intro j hj
  have hj' : j < 32 := by
    have := (List.mem_filter.1 hj).1
    simpa using this
  simp only [Function.comp]
  exact decide_eq_decide.2 (by unfold cl; omega)

theorem allI_mem {m : Nat} {x : Int} : x ∈ allI m ↔ ∃ j : Nat, j < 32 ∧ m.testBit j = true ∧ x = j := by
  unfold allI allL
  simp only [List.mem_map, List.mem_filter, List.mem_range]
  constructor
  · rintro ⟨j, ⟨h1, h2⟩, rfl⟩; exact ⟨j, h1, h2, rfl⟩
  · rintro ⟨j, h1, h2, rfl⟩; exact ⟨j, ⟨h1, h2⟩, rfl⟩
theorem allI_len (m : Nat) : (allI m).length = cnt 32 m := by unfold allI; rw [List.length_map]; rfl
theorem allI_sorted (m : Nat) : (allI m).Pairwise (· < ·) := by
  unfold allI allL
  rw [List.pairwise_map]
  exact (List.pairwise_lt_range.imp (fun h => by omega)).filter _
theorem sorted_tail {l : List Int} (hs : l.Pairwise (· < ·)) {i j : Int} {rest : List Int} (h : l.filter (fun x => decide (i < x)) = j :: rest) : l.filter (fun x => decide (j < x)) = rest := by
  induction l with
  | nil => simp at h
  | cons a l ih =>
    obtain ⟨h1, h2⟩ := List.pairwise_cons.1 hs
    by_cases q : i < a
    · have hall : l.filter (fun x => decide (i < x)) = l := List.filter_eq_self.2 (fun x hx => decide_eq_true (by have := h1 x hx; omega))
      rw [List.filter_cons_of_pos (by simpa using q), hall] at h
      injection h with e1 e2
      subst e1; subst e2
      rw [List.filter_cons_of_neg (by simp)]
      exact List.filter_eq_self.2 (fun x hx => decide_eq_true (h1 x hx))
    · rw [List.filter_cons_of_neg (by simpa using q)] at h
      have hj : i < j := by
        have := List.mem_filter.1 (show j ∈ l.filter (fun x => decide (i < x)) by rw [h]; simp)
        simpa using this.2
      rw [List.filter_cons_of_neg (by simp; omega)]
      exact ih h2 h
/-- The next number above one. -/
def next (m : Nat) (i : Int) : Int × Bool := match (allI m).filter (fun x => decide (i < x)) with
  | [] => (0, false)
  | j :: _ => (j, true)
theorem ctz_bit {x : Nat} (h0 : x ≠ 0) (h : x < 4294967296) : x.testBit (Lib.ctz 32 x) = true ∧ Lib.ctz 32 x < 32 ∧ ∀ j, j < Lib.ctz 32 x → x.testBit j = false := by
  obtain ⟨m, hm, hk⟩ := Lib.ctzFrom_spec 32 x (by omega) (by omega)
  have e : Lib.ctz 32 x = Lib.ctzFrom 32 x := by simp [Lib.ctz, h0]
  rw [e]
  generalize Lib.ctzFrom 32 x = c at *
  subst hm
  refine ⟨?_, hk, fun j hj => ?_⟩
  · rw [Nat.testBit_two_pow_mul]
    simp [Nat.testBit_zero]
  · rw [Nat.testBit_two_pow_mul]
    have : ¬ c ≤ j := by omega
    simp [this]
theorem filter_first {l : List Int} (hs : l.Pairwise (· < ·)) {p : Int → Bool} {c : Int} (hc : c ∈ l) (hp : p c = true) (hn : ∀ x ∈ l, x < c → p x = false) : ∃ rest, l.filter p = c :: rest := by
  induction l with
  | nil => simp at hc
  | cons a l ih =>
    obtain ⟨h1, h2⟩ := List.pairwise_cons.1 hs
    rcases List.mem_cons.1 hc with e | e
    · subst e
      exact ⟨l.filter p, List.filter_cons_of_pos hp⟩
    · rw [List.filter_cons_of_neg (by rw [hn a (by simp) (h1 c e)]; simp)]
      exact ih h2 e (fun x hx => hn x (List.mem_cons_of_mem _ hx))
/-- With and without a number. -/
def withM (m : Nat) (i : Int) : Nat := if 0 ≤ i ∧ i < 32 then m ||| 2 ^ i.toNat else m
def withoutM (m : Nat) (i : Int) : Nat := if 0 ≤ i ∧ i < 32 then m &&& (4294967295 - 2 ^ i.toNat) else m
def hasM (m : Nat) (i : Int) : Bool := decide (0 ≤ i ∧ i < 32) && m.testBit i.toNat
theorem pow_lt32 {i : Nat} (h : i < 32) : 2 ^ i < 4294967296 := by
  have := Nat.pow_le_pow_right (n := 2) (by omega) (show i ≤ 31 by omega)
  omega
theorem withM_lt {m : Nat} (hm : m < 4294967296) (i : Int) : withM m i < 4294967296 := by
  unfold withM
  split
  · exact Nat.or_lt_two_pow (n := 32) hm (pow_lt32 (by omega))
  · exact hm
theorem withoutM_lt {m : Nat} (hm : m < 4294967296) (i : Int) : withoutM m i < 4294967296 := by
  unfold withoutM
  split
  · exact Nat.lt_of_le_of_lt Nat.and_le_left hm
  · exact hm
theorem withM_bit (m : Nat) (i : Int) (j : Nat) : (withM m i).testBit j = (m.testBit j || decide (0 ≤ i ∧ i < 32 ∧ i = j)) := by
  unfold withM
  by_cases h : 0 ≤ i ∧ i < 32
  · rw [if_pos h, Nat.testBit_or, Nat.testBit_two_pow]
    congr 1
    exact decide_eq_decide.2 (by omega)
  · rw [if_neg h]
    have : ¬ (0 ≤ i ∧ i < 32 ∧ i = j) := by omega
    simp [this]
theorem withoutM_bit {m : Nat} (hm : m < 4294967296) (i : Int) (j : Nat) : (withoutM m i).testBit j = (m.testBit j && !decide (0 ≤ i ∧ i < 32 ∧ i = j)) := by
  unfold withoutM
  by_cases h : 0 ≤ i ∧ i < 32
  · rw [if_pos h, Nat.testBit_and, not_bit _ (pow_lt32 (by omega)), Nat.testBit_two_pow]
    by_cases q : j < 32
    · rw [decide_eq_true q, Bool.true_and]
      congr 2
      exact decide_eq_decide.2 (by omega)
    · have : m.testBit j = false := Nat.testBit_lt_two_pow (Nat.lt_of_lt_of_le hm (Nat.pow_le_pow_right (n := 2) (i := 32) (by omega) (by omega)))
      simp [this]
  · rw [if_neg h]
    have : ¬ (0 ≤ i ∧ i < 32 ∧ i = j) := by omega
    simp [this]
/-- The mask of some numbers. -/
def makeL (l : List Int) : Nat → Nat
  | 0 => 0
  | n + 1 => makeL l n + if (n : Int) ∈ l then 2 ^ n else 0
theorem makeL_lt (l : List Int) : ∀ n, makeL l n < 2 ^ n
  | 0 => by simp [makeL]
  | n + 1 => by
    have := makeL_lt l n
    unfold makeL
    rw [Nat.pow_succ]
    split <;> omega
theorem makeL_bit (l : List Int) (j : Nat) : ∀ n, (makeL l n).testBit j = (decide (j < n) && decide ((j : Int) ∈ l))
  | 0 => by simp [makeL]
  | n + 1 => by
    have hlt := makeL_lt l n
    have ih := makeL_bit l j n
    unfold makeL
    by_cases h : (n : Int) ∈ l
    · rw [if_pos h, Nat.add_comm]
      by_cases e : j = n
      · subst e
        rw [Nat.testBit_two_pow_add_eq, Nat.testBit_lt_two_pow hlt]
        simp [h]
      · rcases Nat.lt_or_ge j n with q | q
        · rw [Nat.testBit_two_pow_add_gt q, ih]
          have : decide (j < n + 1) = decide (j < n) := decide_eq_decide.2 (by omega)
          rw [this]
        · have hb : 2 ^ n + makeL l n < 2 ^ j := by
            have h2 := Nat.pow_le_pow_right (n := 2) (by omega) (show n + 1 ≤ j by omega)
            rw [Nat.pow_succ] at h2
            omega
          rw [Nat.testBit_lt_two_pow hb]
          have : ¬ j < n + 1 := by omega
          simp [this]
    · rw [if_neg h, Nat.add_zero, ih]
      by_cases e : j = n
      · subst e; simp [h]
      · have : decide (j < n + 1) = decide (j < n) := decide_eq_decide.2 (by omega)
        rw [this]
theorem high_bit {m : Nat} (hm : m < 4294967296) {j : Nat} (h : ¬ j < 32) : m.testBit j = false :=
  Nat.testBit_lt_two_pow (Nat.lt_of_lt_of_le hm (Nat.pow_le_pow_right (n := 2) (i := 32) (by omega) (by omega)))
theorem make_with {m : Nat} (hm : m < 4294967296) (i : Int) : makeL (allI m ++ [i]) 32 = withM m i := by
  apply Nat.eq_of_testBit_eq
  intro j
  rw [makeL_bit, withM_bit]
  by_cases q : j < 32
  · rw [decide_eq_true q, Bool.true_and]
    have : ((j : Int) ∈ allI m ++ [i]) ↔ (m.testBit j = true ∨ (0 ≤ i ∧ i < 32 ∧ i = j)) := by
      rw [List.mem_append, allI_mem, List.mem_singleton]
      constructor
      · rintro (⟨k, h1, h2, h3⟩ | h)
        · left; rw [show j = k by omega]; exact h2
        · right; omega
      · rintro (h | h)
        · left; exact ⟨j, q, h, rfl⟩
        · right; omega
    by_cases g : m.testBit j = true
    · rw [g, Bool.true_or]; exact decide_eq_true (this.2 (.inl g))
    · rw [Bool.eq_false_iff.2 g, Bool.false_or]
      exact decide_eq_decide.2 ⟨fun z => (this.1 z).resolve_left g, fun z => this.2 (.inr z)⟩
  · have : ¬ (0 ≤ i ∧ i < 32 ∧ i = j) := by omega
    rw [high_bit hm q]
    simp [q, this]
theorem make_without {m : Nat} (hm : m < 4294967296) (i : Int) : makeL ((allI m).filter fun x => !decide (x = i)) 32 = withoutM m i := by
  apply Nat.eq_of_testBit_eq
  intro j
  rw [makeL_bit, withoutM_bit hm]
  by_cases q : j < 32
  · rw [decide_eq_true q, Bool.true_and]
    have : ((j : Int) ∈ (allI m).filter fun x => !decide (x = i)) ↔ (m.testBit j = true ∧ ¬ (0 ≤ i ∧ i < 32 ∧ i = j)) := by
      rw [List.mem_filter, allI_mem]
      simp only [Bool.not_eq_true', decide_eq_false_iff_not]
      constructor
      · rintro ⟨⟨k, h1, h2, h3⟩, h4⟩
        have e : j = k := by omega
        subst e
        exact ⟨h2, by omega⟩
      · rintro ⟨h1, h2⟩
        exact ⟨⟨j, q, h1, rfl⟩, by omega⟩
    by_cases g : m.testBit j = true
    · rw [g, Bool.true_and]
      by_cases z : 0 ≤ i ∧ i < 32 ∧ i = j
      · rw [decide_eq_true z]; exact decide_eq_false (fun y => (this.1 y).2 z)
      · rw [decide_eq_false z]; exact decide_eq_true (this.2 ⟨g, z⟩)
    · rw [Bool.eq_false_iff.2 g, Bool.false_and]
      exact decide_eq_false (fun y => g (this.1 y).1)
  · rw [high_bit hm q]
    simp [q]
def rd (l : List Int) (i : Int) : Int := l.getD i.toNat 0
theorem rd_nat (l : List Int) (i : Nat) : rd l (i : Int) = l.getD i 0 := by unfold rd; rw [Int.toNat_natCast]
theorem drop_rd (l : List Int) (i : Nat) (h : i < l.length) : l.drop i = rd l (i : Int) :: l.drop (i + 1) := by
  rw [List.drop_eq_getElem_cons h, rd_nat, List.getD_eq_getElem?_getD, List.getElem?_eq_getElem h]
  rfl
theorem rd_mem (l : List Int) (i : Nat) (h : i < l.length) : rd l (i : Int) ∈ l := by
  rw [rd_nat, List.getD_eq_getElem?_getD, List.getElem?_eq_getElem h]
  simp
theorem hasM_mem {m : Nat} {x : Int} (h : x ∈ allI m) : hasM m x = true := by
  obtain ⟨j, h1, h2, rfl⟩ := allI_mem.1 h
  unfold hasM
  rw [Int.toNat_natCast, h2, decide_eq_true (by omega)]
  rfl
/-- Each number has its place in the list. -/
theorem place_at {l : List Int} (hs : l.Pairwise (· < ·)) : ∀ (i : Nat), i < l.length → (l.filter fun j => decide (j < rd l (i : Int))).length = i := by
  induction l with
  | nil => intro i h; simp at h
  | cons a l ih =>
    intro i h
    obtain ⟨h1, h2⟩ := List.pairwise_cons.1 hs
    cases i with
    | zero =>
      have e : rd (a :: l) ((0 : Nat) : Int) = a := rfl
      rw [e, List.filter_cons_of_neg (by simp)]
      rw [List.filter_eq_nil_iff.2 (fun x hx => by have := h1 x hx; simp; omega)]
      rfl
    | succ i =>
      have hi : i < l.length := by simpa using h
      have e : rd (a :: l) ((i + 1 : Nat) : Int) = rd l (i : Int) := by rw [rd_nat, rd_nat]; rfl
      rw [e, List.filter_cons_of_pos (by simpa using h1 _ (rd_mem l i hi)), List.length_cons, ih h2 i hi]
end Go.Abs
set_option linter.unusedVariables false
set_option linter.unusedSimpArgs false
namespace Go.Proofs.Ytmopkbmcilolgaa.AC
open Go.Abs
theorem shr_div (a n : Nat) (k : IntKind) (hn : n ≤ k.bits) : shrI k (a : Int) (n : Int) = ((a / 2 ^ n : Nat) : Int) := by
  unfold shrI
  rw [Int.toNat_natCast, Nat.min_eq_left hn]
  rw [Int.fdiv_eq_ediv_of_nonneg _ (by exact Int.pow_nonneg (by omega))]
  have : ((2 : Int) ^ n) = ((2 ^ n : Nat) : Int) := by simp
  rw [this]
  rfl
theorem ones_any (m : Nat) (hm : m < 4294967296) : math_bits_OnesCount32 m = some (cnt 32 m : Int) := by
  have key : math_bits_OnesCount32 (m : Int) = br (leI 0 (24 : Int)) (br (andB (leI 0 (shrI .u32 (m : Int) (24 : Int))) (ltI (shrI .u32 (m : Int) (24 : Int)) (ofN (lenS ones)))) (br (leI 0 (16 : Int)) (br (andB (leI 0 (andI .u32 (shrI .u32 (m : Int) (16 : Int)) (255 : Int))) (ltI (andI .u32 (shrI .u32 (m : Int) (16 : Int)) (255 : Int)) (ofN (lenS ones)))) (br (leI 0 (8 : Int)) (br (andB (leI 0 (andI .u32 (shrI .u32 (m : Int) (8 : Int)) (255 : Int))) (ltI (andI .u32 (shrI .u32 (m : Int) (8 : Int)) (255 : Int)) (ofN (lenS ones)))) (br (andB (leI 0 (andI .u32 (m : Int) (255 : Int))) (ltI (andI .u32 (m : Int) (255 : Int)) (ofN (lenS ones)))) (some (wrapI .i64 (addI .u8 (addI .u8 (addI .u8 (getS ones (toN (shrI .u32 (m : Int) (24 : Int)))) (getS ones (toN (andI .u32 (shrI .u32 (m : Int) (16 : Int)) (255 : Int))))) (getS ones (toN (andI .u32 (shrI .u32 (m : Int) (8 : Int)) (255 : Int))))) (getS ones (toN (andI .u32 (m : Int) (255 : Int))))))) none) none) none) none) none) none) none := math_bits_OnesCount32.eq (m : Int)
  rw [key]
  clear key
  have s24 : shrI .u32 (m : Int) (24 : Int) = ((m / 16777216 : Nat) : Int) := shr_div m 24 .u32 (by decide)
  have s16 : shrI .u32 (m : Int) (16 : Int) = ((m / 65536 : Nat) : Int) := shr_div m 16 .u32 (by decide)
  have s8 : shrI .u32 (m : Int) (8 : Int) = ((m / 256 : Nat) : Int) := shr_div m 8 .u32 (by decide)
  have e255 : (255 : Int) = ((255 : Nat) : Int) := rfl
  rw [s24, s16, s8]
  have a1 : andI .u32 ((m / 65536 : Nat) : Int) (255 : Int) = ((m / 65536 % 256 : Nat) : Int) := by
    rw [e255, and_u32 _ _ (by omega) (by omega), show (255 : Nat) = 2 ^ 8 - 1 by rfl, Nat.and_two_pow_sub_one_eq_mod]
  have a2 : andI .u32 ((m / 256 : Nat) : Int) (255 : Int) = ((m / 256 % 256 : Nat) : Int) := by
    rw [e255, and_u32 _ _ (by omega) (by omega), show (255 : Nat) = 2 ^ 8 - 1 by rfl, Nat.and_two_pow_sub_one_eq_mod]
  have a3 : andI .u32 (m : Int) (255 : Int) = ((m % 256 : Nat) : Int) := by
    rw [e255, and_u32 _ _ (by omega) (by omega), show (255 : Nat) = 2 ^ 8 - 1 by rfl, Nat.and_two_pow_sub_one_eq_mod]
  rw [a1, a2, a3]
  simp only [getS_bt]
  rw [cnt_tab _ (show m / 16777216 < 256 by omega), cnt_tab _ (show m / 65536 % 256 < 256 by omega), cnt_tab _ (show m / 256 % 256 < 256 by omega), cnt_tab _ (show m % 256 < 256 by omega)]
  simp only [ones_len, ofN_d, ltI_d, leI_d, andB_d, br_if]
  have l0 := cnt_le 8 (m / 16777216)
  have l1 := cnt_le 8 (m / 65536 % 256)
  have l2 := cnt_le 8 (m / 256 % 256)
  have l3 := cnt_le 8 (m % 256)
  have w : ∀ n : Nat, n < 256 → IntKind.u8.wrap (n : Int) = n := fun n hn => by simp [IntKind.wrap, IntKind.bits, IntKind.signed]; omega
  rw [if_pos (by omega), if_pos (by omega), if_pos (by omega), if_pos (by omega), if_pos (by omega), if_pos (by omega), if_pos (by omega)]
  refine some_int ?_
  rw [cnt_four m]
  have d1 : addI .u8 (cnt 8 (m / 16777216) : Int) (cnt 8 (m / 65536 % 256) : Int) = ((cnt 8 (m / 16777216) + cnt 8 (m / 65536 % 256) : Nat) : Int) := by
    unfold addI; rw [← Int.natCast_add, w _ (by omega)]
  rw [d1]
  have d2 : addI .u8 ((cnt 8 (m / 16777216) + cnt 8 (m / 65536 % 256) : Nat) : Int) (cnt 8 (m / 256 % 256) : Int) = ((cnt 8 (m / 16777216) + cnt 8 (m / 65536 % 256) + cnt 8 (m / 256 % 256) : Nat) : Int) := by
    unfold addI; rw [← Int.natCast_add, w _ (by omega)]
  rw [d2]
  have d3 : addI .u8 ((cnt 8 (m / 16777216) + cnt 8 (m / 65536 % 256) + cnt 8 (m / 256 % 256) : Nat) : Int) (cnt 8 (m % 256) : Int) = ((cnt 8 (m / 16777216) + cnt 8 (m / 65536 % 256) + cnt 8 (m / 256 % 256) + cnt 8 (m % 256) : Nat) : Int) := by
    unfold addI; rw [← Int.natCast_add, w _ (by omega)]
  rw [d3]
  exact wrap_i64_id (by omega) (by omega)
theorem count_any (m : Nat) (hm : m < 4294967296) : mask_Count m = some ((allI m).length : Int) := by
  rw [mask_Count.eq, ones_any m hm, bnd_some, allI_len]
theorem refhas_loop (m : Nat) (hm : m < 4294967296) (i : Int) (d : Nat) : ∀ (j : Nat), j ≤ 32 → 32 - j = d → ref06_Has.l0 ((m / 2 ^ j : Nat) : Int) i j = some (decide ((j : Int) ≤ i ∧ i < 32) && m.testBit i.toNat) := by
  induction d with
  | zero =>
    intro j hj hd
    rw [ref06_Has.l0.eq]
    simp only [ltI_d, br_if]
    rw [if_neg (by omega)]
    have : ¬ ((j : Int) ≤ i ∧ i < 32) := by omega
    simp [this]
  | succ d ih =>
    intro j hj hd
    rw [ref06_Has.l0.eq]
    simp only [ltI_d, eqI_d, notB_d, br_if]
    have hdiv : m / 2 ^ j ≤ m := Nat.div_le_self _ _
    have e1 : remI ((m / 2 ^ j : Nat) : Int) 2 = ((m / 2 ^ j % 2 : Nat) : Int) := by unfold remI; rw [Int.tmod_eq_emod_of_nonneg (Int.natCast_nonneg _)]; rfl
    have e2 : quoI .u32 ((m / 2 ^ j : Nat) : Int) 2 = ((m / 2 ^ (j + 1) : Nat) : Int) := by
      unfold quoI
      rw [Int.tdiv_eq_ediv_of_nonneg (Int.natCast_nonneg _), Nat.pow_succ, ← Nat.div_div_eq_div_mul, IntKind.wrap_u32]
      generalize m / 2 ^ j = q at hdiv ⊢
      omega
    have hb : m.testBit j = decide (m / 2 ^ j % 2 = 1) := Nat.testBit_eq_decide_div_mod_eq
    rw [if_pos (by omega), if_pos (by omega), e1, e2, add1 j (by omega), ih (j + 1) (by omega) (by omega)]
    simp only [if_pos (show ¬ (2 : Int) = 0 by omega)]
    by_cases g : m / 2 ^ j % 2 = 1
    · rw [if_pos (by omega)]
      by_cases q : (j : Int) = i
      · rw [if_pos q, ← q, Int.toNat_natCast, hb, decide_eq_true g, decide_eq_true (by omega)]
        rfl
      · rw [if_neg q]
        refine some_bool ?_
        congr 1
        exact decide_eq_decide.2 (by omega)
    · rw [if_neg (by omega)]
      by_cases q : (j : Int) = i
      · rw [← q, Int.toNat_natCast, hb, decide_eq_false g]
        simp
      · refine some_bool ?_
        congr 1
        exact decide_eq_decide.2 (by omega)
theorem refhas_any (m : Nat) (hm : m < 4294967296) (i : Int) : ref06_Has m i = some (hasM m i) := by
  rw [ref06_Has.eq]
  unfold hasM
  have := refhas_loop m hm i 32 0 (by omega) (by omega)
  simp only [Nat.pow_zero, Nat.div_one, Int.cast_ofNat_Int] at this
  exact this
theorem refall_loop (m : Nat) (hm : m < 4294967296) (d : Nat) : ∀ (j : Nat), j ≤ 32 → 32 - j = d →
    ref06_All.l0 m j (((List.range j).filter fun x => m.testBit x).map fun x : Nat => (x : Int)) = some (allI m) := by
  induction d with
  | zero =>
    intro j hj hd
    rw [ref06_All.l0.eq]
    simp only [ltI_d, br_if]
    rw [if_neg (by omega), show j = 32 by omega]
    rfl
  | succ d ih =>
    intro j hj hd
    rw [ref06_All.l0.eq]
    simp only [ltI_d, br_if]
    rw [if_pos (by omega), refhas_any m hm j, bnd_some, br_b, add1 j (by omega)]
    have := ih (j + 1) (by omega) (by omega)
    rw [List.range_succ, List.filter_append, List.map_append] at this
    have hl : (((List.range j).filter fun x => m.testBit x).map fun x : Nat => (x : Int)).length ≤ 32 := by
      rw [List.length_map]
      have := List.length_filter_le (fun x => m.testBit x) (List.range j)
      simp at this
      omega
    have hh : hasM m (j : Int) = m.testBit j := by
      unfold hasM
      rw [Int.toNat_natCast, decide_eq_true (by omega)]
      rfl
    rw [hh]
    by_cases g : m.testBit j = true
    · rw [if_pos g]
      simp only [fitL_d, appL_d, br_if]
      rw [if_pos (by rw [List.length_append]; show _ + 1 ≤ _; omega)]
      have e : [j].filter (fun x => m.testBit x) = [j] := by simp [g]
      rw [e] at this
      exact this
    · rw [if_neg g]
      have e : [j].filter (fun x => m.testBit x) = [] := by simp [g]
      rw [e] at this
      simpa using this
theorem refall_any (m : Nat) (hm : m < 4294967296) : ref06_All m = some (allI m) := by
  rw [ref06_All.eq]
  have := refall_loop m hm 32 0 (by omega) (by omega)
  simpa using this
end Go.Proofs.Ytmopkbmcilolgaa.AC
set_option linter.unusedVariables false
set_option linter.unusedSimpArgs false
namespace Go.Proofs.Ytmopkbmcilolgaa.AC
open Go.Abs
/-- A binding, and one's texts cut short. -/
abbrev PairV : Type := ByteArray × ByteArray × Unit
theorem ixP (l : List PairV) (i : Nat) (h : i < l.length) : ixL tapiPair l (i : Int) = l[i] := ixL_d tapiPair l i h
theorem ixR (l : List Int) (i : Nat) (h : i < l.length) : ixL (.int .i64) l (i : Int) = l[i] := ixL_d (.int .i64) l i h
def cutP (p : PairV) : PairV := (cut 40 p.1, (cut 40 p.2.1, ()))
def fewL (l : List PairV) : List PairV := (l.take 40).map cutP
theorem few_loop (l : List PairV) (hl : l.length ≤ 9223372036854775807) (d : Nat) : ∀ (i : Nat), i ≤ l.length → i ≤ 40 → min l.length 40 - i = d → law07_Few.l0 l i ((l.take i).map cutP) = some (fewL l) := by
  have stop : ∀ i : Nat, i ≤ l.length → i ≤ 40 → min l.length 40 = i → some ((l.take i).map cutP) = some (fewL l) := by
    intro i h1 h2 h3
    unfold fewL
    by_cases h : l.length ≤ 40
    · rw [List.take_of_length_le (show l.length ≤ i by omega), List.take_of_length_le h]
    · rw [show i = 40 by omega]
  induction d with
  | zero =>
    intro i h1 h2 h3
    rw [law07_Few.l0.eq]
    simp only [ltI_d, ofN_d, lenL_d, br_if]
    have hs := stop i h1 h2 (by omega)
    by_cases hi : i < l.length
    · rw [if_pos (by omega), show decide ((i : Int) < 40) = false from decide_eq_false (by omega), law07_Few.j1.eq, br_f]
      exact hs
    · rw [if_neg (by omega), law07_Few.j1.eq, br_f]
      exact hs
  | succ d ih =>
    intro i h1 h2 h3
    have hi : i < l.length := by omega
    rw [law07_Few.l0.eq]
    simp only [ltI_d, ofN_d, lenL_d, br_if]
    rw [if_pos (by omega), show decide ((i : Int) < 40) = true from decide_eq_true (by omega), law07_Few.j1.eq, br_t]
    simp only [ltI_d, leI_d, ofN_d, lenL_d, andB_d, br_if, fitL_d, appL_d]
    rw [if_pos (by omega), if_pos (by omega), ixP l i hi, base_Cut_40, bnd_some, base_Cut_40, bnd_some]
    have hlen : ((l.take i).map cutP).length = i := by simp; omega
    rw [if_pos (by rw [List.length_append, hlen]; show i + 1 ≤ _; omega), add1 i (by omega)]
    have := ih (i + 1) (by omega) (by omega) (by omega)
    rw [List.take_succ_eq_append_getElem hi, List.map_append] at this
    exact this
theorem few_any (l : List PairV) (hl : l.length ≤ 9223372036854775807) : law07_Few l = some (fewL l) := by
  rw [law07_Few.eq]
  have := few_loop l hl (min l.length 40) 0 (by omega) (by omega) (by omega)
  rw [List.take_zero, List.map_nil, show ((0 : Nat) : Int) = 0 from rfl] at this
  exact this
theorem fewL_len (l : List PairV) : (fewL l).length ≤ 40 := by unfold fewL; simp; omega
theorem fewL_fewL (l : List PairV) : fewL (fewL l) = fewL l := by
  unfold fewL
  rw [List.take_of_length_le (by simp; omega), List.map_map]
  refine List.map_congr_left fun p _ => ?_
  show (cut 40 (cut 40 p.1), (cut 40 (cut 40 p.2.1), ())) = (cut 40 p.1, (cut 40 p.2.1, ()))
  rw [cut_cut, cut_cut]
/-- Texts that are short enough for all that is reckoned with them. -/
def okP (p : PairV) : Prop := p.1.size ≤ 40 ∧ p.2.1.size ≤ 40
theorem fewL_ok (l : List PairV) : ∀ p ∈ fewL l, okP p := by
  intro p hp
  unfold fewL at hp
  obtain ⟨q, _, rfl⟩ := List.mem_map.1 hp
  constructor <;> (show (cut 40 _).size ≤ 40; rw [cut_size]; omega)
/-! ### In order -/
def isS : List PairV → Bool
  | a :: b :: r => lt a.1 b.1 && isS (b :: r)
  | _ => true
theorem isS_drop (l : List PairV) (i : Nat) (h0 : 0 < i) (hi : i < l.length) : isS (l.drop (i - 1)) = (lt l[i-1].1 l[i].1 && isS (l.drop i)) := by
  rw [List.drop_eq_getElem_cons (show i - 1 < l.length by omega), show i - 1 + 1 = i by omega, List.drop_eq_getElem_cons hi]
  rfl
theorem isS_end (l : List PairV) (i : Nat) (hi : l.length ≤ i + 1) : isS (l.drop i) = true := by
  have : (l.drop i).length ≤ 1 := by rw [List.length_drop]; omega
  generalize l.drop i = r at this
  match r, this with
  | [], _ => rfl
  | [a], _ => rfl
  | _ :: _ :: _, h => exact absurd h (by simp)
theorem is_loop (l : List PairV) (hl : l.length ≤ 50000000) (hs : ∀ p ∈ l, okP p) (d : Nat) : ∀ (i : Nat), 0 < i → i ≤ l.length → l.length - i = d → pair_Is.l0 l l.length i = some (isS (l.drop (i - 1))) := by
  induction d with
  | zero =>
    intro i h0 h1 h2
    rw [pair_Is.l0.eq]
    simp only [ltI_d, br_if]
    rw [if_neg (by omega), isS_end l (i - 1) (by omega)]
  | succ d ih =>
    intro i h0 h1 h2
    have hi : i < l.length := by omega
    rw [pair_Is.l0.eq]
    simp only [ltI_d, leI_d, ofN_d, lenL_d, andB_d, br_if]
    have ha := (hs _ (List.getElem_mem (show i - 1 < l.length by omega))).1
    rw [if_pos (by omega), if_pos (by omega), sub1 i h0 (by omega), if_pos (by omega), if_pos (by omega), ixP l i hi, ixP l (i - 1) (by omega), compare_any _ _ (by omega), bnd_some, add1 i (by omega), isS_drop l i h0 hi]
    by_cases hc : lt l[i-1].1 l[i].1 = true
    · rw [if_neg (by have := cmp_neg.2 hc; omega), hc, Bool.true_and]
      have := ih (i + 1) (by omega) (by omega) (by omega)
      rw [show i + 1 - 1 = i by omega] at this
      exact this
    · have hc' : lt l[i-1].1 l[i].1 = false := by simpa using hc
      rw [if_pos (by have : ¬ cmp l[i-1].1 l[i].1 < 0 := fun h => hc (cmp_neg.1 h); omega), hc', Bool.false_and]
theorem is_any (l : List PairV) (hl : l.length ≤ 50000000) (hs : ∀ p ∈ l, okP p) : pair_Is l = some (isS l) := by
  rw [pair_Is.eq]
  simp only [ofN_d, lenL_d]
  by_cases h : l.length = 0
  · rw [pair_Is.l0.eq]
    simp only [ltI_d, br_if]
    rw [if_neg (by omega), List.eq_nil_of_length_eq_zero h]
    rfl
  · rw [pair_Is.l0.eq]
    simp only [ltI_d, br_if]
    rw [if_pos (by omega), if_neg (by omega)]
    have := is_loop l hl hs (l.length - 1) 1 (by omega) (by omega) rfl
    rw [show (1 : Nat) - 1 = 0 by omega, List.drop_zero] at this
    have e : addI .i64 0 1 = ((1 : Nat) : Int) := add1 0 (by omega)
    rw [e]
    exact this
theorem refis_loop (l : List PairV) (hl : l.length ≤ 50000000) (hs : ∀ p ∈ l, okP p) (d : Nat) : ∀ (i : Nat), 0 < i → l.length - i = d → ref07_Is.l0 l i = some (isS (l.drop (i - 1))) := by
  induction d with
  | zero =>
    intro i h0 h2
    rw [ref07_Is.l0.eq]
    simp only [ltI_d, ofN_d, lenL_d, br_if]
    rw [if_neg (by omega), isS_end l (i - 1) (by omega)]
  | succ d ih =>
    intro i h0 h2
    have hi : i < l.length := by omega
    rw [ref07_Is.l0.eq]
    simp only [ltI_d, leI_d, ofN_d, lenL_d, andB_d, br_if]
    have ha := (hs _ (List.getElem_mem (show i - 1 < l.length by omega))).1
    rw [if_pos (by omega), sub1 i h0 (by omega), if_pos (by omega), if_pos (by omega), ixP l i hi, ixP l (i - 1) (by omega), less_any _ _ (by omega), bnd_some, add1 i (by omega), isS_drop l i h0 hi]
    by_cases hc : lt l[i-1].1 l[i].1 = true
    · rw [hc, Bool.true_and]
      have := ih (i + 1) (by omega) (by omega)
      rw [show i + 1 - 1 = i by omega] at this
      rw [show notB true = false from rfl, br_f]
      exact this
    · have hc' : lt l[i-1].1 l[i].1 = false := by simpa using hc
      rw [hc', Bool.false_and, show notB false = true from rfl, br_t]
theorem refis_any (l : List PairV) (hl : l.length ≤ 50000000) (hs : ∀ p ∈ l, okP p) : ref07_Is l = some (isS l) := by
  rw [ref07_Is.eq]
  have := refis_loop l hl hs (l.length - 1) 1 (by omega) rfl
  rw [show (1 : Nat) - 1 = 0 by omega, List.drop_zero] at this
  exact this
/-! ### Alike -/
theorem eq_pair (p q : PairV) : andB (eqS p.1 q.1) (andB (eqS p.2.1 q.2.1) true) = decide (p = q) := by
  obtain ⟨a, b, _⟩ := p
  obtain ⟨c, d, _⟩ := q
  rw [eqS_d, eqS_d, show (true : Bool) = decide True from rfl, andB_d, andB_d]
  refine decide_eq_decide.2 ⟨fun ⟨h1, h2, _⟩ => ?_, fun h => ?_⟩
  · have h1 : a = c := h1
    have h2 : b = d := h2
    show (a, b, ()) = (c, d, ())
    rw [h1, h2]
  · injection h with h1 h2
    injection h2 with h2 h3
    exact ⟨h1, h2, trivial⟩
theorem drop_eq_iff {A : Type} {l m : List A} {i : Nat} (hl : i < l.length) (hm : i < m.length) : l.drop i = m.drop i ↔ l[i] = m[i] ∧ l.drop (i + 1) = m.drop (i + 1) := by
  rw [List.drop_eq_getElem_cons hl, List.drop_eq_getElem_cons hm, List.cons.injEq]
theorem equalP_loop (l m : List PairV) (hl : l.length ≤ 50000000) (hm : l.length = m.length) (d : Nat) : ∀ (i : Nat), i ≤ l.length → l.length - i = d → slices_Equalapi_Pair_api_Pair.l0 l m l.length i = some (decide (l.drop i = m.drop i)) := by
  induction d with
  | zero =>
    intro i h1 h2
    rw [slices_Equalapi_Pair_api_Pair.l0.eq]
    simp only [ltI_d, br_if]
    rw [if_neg (by omega), List.drop_eq_nil_of_le (by omega), List.drop_eq_nil_of_le (by omega), decide_eq_true rfl]
  | succ d ih =>
    intro i h1 h2
    rw [slices_Equalapi_Pair_api_Pair.l0.eq]
    simp only [ltI_d, leI_d, ofN_d, lenL_d, andB_d, eq_pair, notB_d, br_if]
    rw [if_pos (by omega), if_pos (by omega), if_pos (by omega), ixP l i (by omega), ixP m i (by omega), add1 i (by omega), ih (i + 1) (by omega) (by omega)]
    by_cases e : l[i] = m[i]
    · rw [if_neg (by intro h; exact h e)]
      exact some_bool (decide_eq_decide.2 (by rw [drop_eq_iff (show i < l.length by omega) (show i < m.length by omega)]; simp [e]))
    · rw [if_pos e]
      exact some_bool (decide_eq_false (by rw [drop_eq_iff (show i < l.length by omega) (show i < m.length by omega)]; exact fun h => e h.1)).symm
theorem equalP_any (l m : List PairV) (hl : l.length ≤ 50000000) : slices_Equalapi_Pair_api_Pair l m = some (decide (l = m)) := by
  rw [slices_Equalapi_Pair_api_Pair.eq]
  simp only [ofN_d, lenL_d, eqI_d, notB_d, br_if]
  by_cases h : l.length = m.length
  · rw [if_neg (by omega)]
    exact equalP_loop l m hl h l.length 0 (by omega) (by omega)
  · rw [if_pos (by omega)]
    exact some_bool (decide_eq_false (fun e => h (by rw [e]))).symm
theorem equalR_loop (l m : List Int) (hl : l.length ≤ 50000000) (hm : l.length = m.length) (d : Nat) : ∀ (i : Nat), i ≤ l.length → l.length - i = d → slices_Equalapi_Ref_api_Ref.l0 l m l.length i = some (decide (l.drop i = m.drop i)) := by
  induction d with
  | zero =>
    intro i h1 h2
    rw [slices_Equalapi_Ref_api_Ref.l0.eq]
    simp only [ltI_d, br_if]
    rw [if_neg (by omega), List.drop_eq_nil_of_le (by omega), List.drop_eq_nil_of_le (by omega), decide_eq_true rfl]
  | succ d ih =>
    intro i h1 h2
    rw [slices_Equalapi_Ref_api_Ref.l0.eq]
    simp only [ltI_d, leI_d, ofN_d, lenL_d, andB_d, eqI_d, notB_d, br_if]
    rw [if_pos (by omega), if_pos (by omega), if_pos (by omega), ixR l i (by omega), ixR m i (by omega), add1 i (by omega), ih (i + 1) (by omega) (by omega)]
    by_cases e : l[i] = m[i]
    · rw [if_neg (by intro h; exact h e)]
      exact some_bool (decide_eq_decide.2 (by rw [drop_eq_iff (show i < l.length by omega) (show i < m.length by omega)]; simp [e]))
    · rw [if_pos e]
      exact some_bool (decide_eq_false (by rw [drop_eq_iff (show i < l.length by omega) (show i < m.length by omega)]; exact fun h => e h.1)).symm
theorem equalR_any (l m : List Int) (hl : l.length ≤ 50000000) : slices_Equalapi_Ref_api_Ref l m = some (decide (l = m)) := by
  rw [slices_Equalapi_Ref_api_Ref.eq]
  simp only [ofN_d, lenL_d, eqI_d, notB_d, br_if]
  by_cases h : l.length = m.length
  · rw [if_neg (by omega)]
    exact equalR_loop l m hl h l.length 0 (by omega) (by omega)
  · rw [if_pos (by omega)]
    exact some_bool (decide_eq_false (fun e => h (by rw [e]))).symm
/-! ### Copies -/
theorem cloneP_any (l : List PairV) (hl : l.length ≤ 50000000) : slices_Cloneapi_Pair_api_Pair l = some ((), (l, ())) := by
  rw [slices_Cloneapi_Pair_api_Pair.eq]
  simp only [ofN_d, lenL_d, eqI_d, br_if, fitL_d, appL_d, List.nil_append]
  by_cases h : l.length = 0
  · rw [if_pos (by omega), if_pos (by omega), List.eq_nil_of_length_eq_zero h, both_self]
  · rw [if_neg (by omega), if_pos (by omega)]
theorem cloneR_any (l : List Int) (hl : l.length ≤ 50000000) : slices_Cloneapi_Ref_api_Ref l = some ((), (l, ())) := by
  rw [slices_Cloneapi_Ref_api_Ref.eq]
  simp only [ofN_d, lenL_d, eqI_d, br_if, fitL_d, appL_d, List.nil_append]
  by_cases h : l.length = 0
  · rw [if_pos (by omega), if_pos (by omega), List.eq_nil_of_length_eq_zero h, both_self]
  · rw [if_neg (by omega), if_pos (by omega)]
/-! ### Is one there? -/
theorem indexR_loop (l : List Int) (x : Int) (hl : l.length ≤ 50000000) (d : Nat) : ∀ (i : Nat), i ≤ l.length → l.length - i = d → ∃ r : Int, slices_Indexapi_Ref_api_Ref.l0 l x l.length i = some r ∧ (0 ≤ r ↔ x ∈ l.drop i) := by
  induction d with
  | zero =>
    intro i h1 h2
    rw [slices_Indexapi_Ref_api_Ref.l0.eq]
    simp only [ltI_d, br_if]
    rw [if_neg (by omega), List.drop_eq_nil_of_le (by omega)]
    exact ⟨_, rfl, by simp⟩
  | succ d ih =>
    intro i h1 h2
    rw [slices_Indexapi_Ref_api_Ref.l0.eq]
    simp only [ltI_d, leI_d, ofN_d, lenL_d, andB_d, eqI_d, br_if]
    rw [if_pos (by omega), if_pos (by omega), ixR l i (by omega), add1 i (by omega), List.drop_eq_getElem_cons (show i < l.length by omega)]
    by_cases e : x = l[i]
    · rw [if_pos e]
      exact ⟨_, rfl, fun _ => by rw [e]; exact List.mem_cons_self, fun _ => Int.natCast_nonneg i⟩
    · rw [if_neg e]
      obtain ⟨r, h3, h4⟩ := ih (i + 1) (by omega) (by omega)
      exact ⟨r, h3, by rw [h4, List.mem_cons]; exact ⟨Or.inr, fun h => h.resolve_left e⟩⟩
theorem containsR_any (l : List Int) (x : Int) (hl : l.length ≤ 50000000) : slices_Containsapi_Ref_api_Ref l x = some (decide (x ∈ l)) := by
  rw [slices_Containsapi_Ref_api_Ref.eq, slices_Indexapi_Ref_api_Ref.eq]
  simp only [ofN_d, lenL_d]
  obtain ⟨r, h1, h2⟩ := indexR_loop l x hl l.length 0 (by omega) (by omega)
  rw [show ((0 : Nat) : Int) = 0 from rfl] at h1
  rw [h1, bnd_some, leI_d]
  exact some_bool (decide_eq_decide.2 (by rw [h2, List.drop_zero]))
/-- Is a text of a binding too long? -/
def longP (p : PairV) : Bool := decide (16 < p.1.size) || decide (16 < p.2.1.size)
theorem long1_any (p : PairV) : node_long_1 p = some (longP p) := by
  rw [node_long_1.eq]
  simp only [ltI_d, ofN_d, lenS_d, br_if]
  unfold longP
  by_cases h : 16 < p.1.size
  · rw [if_pos (by omega), decide_eq_true h]; rfl
  · rw [if_neg (by omega), decide_eq_false h, Bool.false_or]
    exact some_bool (decide_eq_decide.2 (by omega))
theorem indexP_loop (l : List PairV) (hl : l.length ≤ 50000000) (d : Nat) : ∀ (i : Nat), i ≤ l.length → l.length - i = d → ∃ r : Int, slices_IndexFuncapi_Pair_api_Pair.l0 l l.length i = some r ∧ (0 ≤ r ↔ (l.drop i).any longP = true) := by
  induction d with
  | zero =>
    intro i h1 h2
    rw [slices_IndexFuncapi_Pair_api_Pair.l0.eq]
    simp only [ltI_d, br_if]
    rw [if_neg (by omega), List.drop_eq_nil_of_le (by omega)]
    exact ⟨_, rfl, by simp⟩
  | succ d ih =>
    intro i h1 h2
    rw [slices_IndexFuncapi_Pair_api_Pair.l0.eq]
    simp only [ltI_d, leI_d, ofN_d, lenL_d, andB_d, eqI_d, br_if]
    rw [if_pos (by omega), if_pos (by omega), ixP l i (by omega), add1 i (by omega), List.drop_eq_getElem_cons (show i < l.length by omega), long1_any, bnd_some, br_b]
    by_cases e : longP l[i] = true
    · rw [if_pos e]
      exact ⟨_, rfl, by rw [List.any_cons, e]; simp⟩
    · rw [if_neg e]
      obtain ⟨r, h3, h4⟩ := ih (i + 1) (by omega) (by omega)
      have e' : longP l[i] = false := by simpa using e
      exact ⟨r, h3, by rw [h4, List.any_cons, e', Bool.false_or]⟩
theorem longL_any (l : List PairV) (hl : l.length ≤ 50000000) : slices_ContainsFuncapi_Pair_api_Pair l = some (l.any longP) := by
  rw [slices_ContainsFuncapi_Pair_api_Pair.eq, slices_IndexFuncapi_Pair_api_Pair.eq]
  simp only [ofN_d, lenL_d]
  obtain ⟨r, h1, h2⟩ := indexP_loop l hl l.length 0 (by omega) (by omega)
  rw [show ((0 : Nat) : Int) = 0 from rfl] at h1
  rw [h1, bnd_some, leI_d]
  refine some_bool ?_
  rw [List.drop_zero] at h2
  cases h : l.any longP with
  | true => exact decide_eq_true (h2.2 h)
  | false => exact decide_eq_false (fun h3 => by rw [h2.1 h3] at h; cases h)
end Go.Proofs.Ytmopkbmcilolgaa.AC
set_option linter.unusedVariables false
set_option linter.unusedSimpArgs false
namespace Go.Proofs.Ytmopkbmcilolgaa.AC
open Go.Abs
/-- A binding put among others in order. -/
def putS : List PairV → PairV → List PairV
  | [], p => [p]
  | q :: qs, p => if lt q.1 p.1 = true then q :: putS qs p else if q.1 = p.1 then p :: qs else p :: q :: qs
/-- Bindings put in order; the last one with a key stays. -/
def makeS (l : List PairV) : List PairV := l.foldl putS []
def Srt (l : List PairV) : Prop := l.Pairwise fun a b => lt a.1 b.1 = true
theorem putS_len (p : PairV) : ∀ l, (putS l p).length ≤ l.length + 1
  | [] => by simp [putS]
  | q :: qs => by
    have := putS_len p qs
    unfold putS
    split
    · simp; omega
    · split <;> simp
theorem putS_mem {p x : PairV} : ∀ {l : List PairV}, x ∈ putS l p → x = p ∨ x ∈ l
  | [], h => by simp [putS] at h; exact .inl h
  | q :: qs, h => by
    unfold putS at h
    split at h
    · rcases List.mem_cons.1 h with h | h
      · exact .inr (h ▸ List.mem_cons_self)
      · exact (putS_mem h).imp id (List.mem_cons_of_mem _)
    · split at h
      · rcases List.mem_cons.1 h with h | h
        · exact .inl h
        · exact .inr (List.mem_cons_of_mem _ h)
      · rcases List.mem_cons.1 h with h | h
        · exact .inl h
        · exact .inr h
theorem putS_srt (p : PairV) : ∀ {l : List PairV}, Srt l → Srt (putS l p)
  | [], _ => List.pairwise_singleton _ _
  | q :: qs, h => by
    obtain ⟨h1, h2⟩ := List.pairwise_cons.1 h
    unfold putS
    split
    · rename_i hl
      refine List.pairwise_cons.2 ⟨fun x hx => ?_, putS_srt p h2⟩
      rcases putS_mem hx with rfl | hx
      · exact hl
      · exact h1 x hx
    · rename_i hl
      split
      · rename_i he
        exact List.pairwise_cons.2 ⟨fun x hx => he ▸ h1 x hx, h2⟩
      · rename_i he
        have hlt : lt p.1 q.1 = true := (lt_total (fun e => he e.symm)).resolve_right hl
        refine List.pairwise_cons.2 ⟨fun x hx => ?_, h⟩
        rcases List.mem_cons.1 hx with rfl | hx
        · exact hlt
        · exact lt_trans hlt (h1 x hx)
/-- Where it is put. -/
theorem putS_at (p : PairV) : ∀ (l : List PairV) (i : Nat), i ≤ l.length → (∀ (a : Nat) (h : a < l.length), a < i → lt l[a].1 p.1 = true) → (∀ (h : i < l.length), lt l[i].1 p.1 = false) →
    putS l p = if ∃ h : i < l.length, l[i].1 = p.1 then l.set i p else l.take i ++ p :: l.drop i
  | [], i, h0, _, _ => by
    have : i = 0 := by simpa using h0
    subst this
    rw [if_neg (by rintro ⟨h, _⟩; simp at h)]
    rfl
  | q :: qs, 0, _, _, h2 => by
    have hq : lt q.1 p.1 = false := h2 (by simp)
    unfold putS
    rw [if_neg (by rw [hq]; simp)]
    by_cases he : q.1 = p.1
    · rw [if_pos he, if_pos ⟨by simp, he⟩]; rfl
    · rw [if_neg he, if_neg (by rintro ⟨_, h⟩; exact he h)]; rfl
  | q :: qs, i + 1, h0, h1, h2 => by
    have hq : lt q.1 p.1 = true := h1 0 (by simp) (by omega)
    unfold putS
    rw [if_pos hq, putS_at p qs i (by simpa using h0) (fun a h ha => h1 (a + 1) (by simpa using h) (by omega)) (fun h => h2 (by simpa using h))]
    by_cases he : ∃ h : i < qs.length, qs[i].1 = p.1
    · rw [if_pos he, if_pos (by obtain ⟨h, e⟩ := he; exact ⟨by simpa using h, e⟩)]; rfl
    · rw [if_neg he, if_neg (by rintro ⟨h, e⟩; exact he ⟨by simpa using h, e⟩)]; rfl
theorem srt_get {l : List PairV} (h : Srt l) {a b : Nat} (hb : b < l.length) (hab : a < b) : lt l[a].1 l[b].1 = true := List.pairwise_iff_getElem.1 h a b (by omega) hb hab
theorem wrap_u64_id {x : Int} (h0 : 0 ≤ x) (h1 : x < 18446744073709551616) : IntKind.u64.wrap x = x := by
  have : IntKind.u64.wrap x = x % 18446744073709551616 := by simp [IntKind.wrap, IntKind.bits, IntKind.signed]
  rw [this]; omega
theorem mid (i j : Nat) (h : i + j ≤ 100000000) : wrapI .i64 (shrI .u64 (wrapI .u64 (addI .i64 (i : Int) (j : Int))) 1) = (((i + j) / 2 : Nat) : Int) := by
  rw [addI_d (by omega) (by omega)]
  unfold wrapI
  rw [wrap_u64_id (by omega) (by omega), show ((i : Int) + (j : Int)) = ((i + j : Nat) : Int) by omega]
  have := shr_div (i + j) 1 .u64 (by decide)
  rw [show ((1 : Nat) : Int) = 1 from rfl, Nat.pow_one] at this
  rw [this]
  exact wrap_i64_id (by omega) (by omega)
theorem place1_any (p : PairV) (k : ByteArray) (hp : okP p) : pair_place_1 p k = some (cmp p.1 k) := by
  rw [pair_place_1.eq, compare_any _ _ (by have := hp.1; omega), bnd_some]
theorem search_loop (l : List PairV) (k : ByteArray) (hl : l.length ≤ 50000000) (hs : ∀ p ∈ l, okP p) (hS : Srt l) : ∀ (d i j : Nat), j - i ≤ d → i ≤ j → j ≤ l.length → (∀ (a : Nat) (h : a < l.length), a < i → lt l[a].1 k = true) → (∀ (a : Nat) (h : a < l.length), j ≤ a → lt l[a].1 k = false) →
    ∃ pos : Nat, slices_BinarySearchFuncapi_Pair_api_Pair_string.l0 l k l.length i j = some ((pos : Int), (decide (∃ h : pos < l.length, l[pos].1 = k), ())) ∧ pos ≤ l.length ∧ (∀ (a : Nat) (h : a < l.length), a < pos → lt l[a].1 k = true) ∧ (∀ (a : Nat) (h : a < l.length), pos ≤ a → lt l[a].1 k = false) := by
  intro d
  induction d with
  | zero =>
    intro i j h0 h1 h2 h3 h4
    have hij : j = i := by omega
    subst hij
    rw [slices_BinarySearchFuncapi_Pair_api_Pair_string.l0.eq]
    simp only [ltI_d, leI_d, ofN_d, lenL_d, andB_d, eqI_d, br_if]
    rw [if_neg (by omega)]
    by_cases hn : j < l.length
    · rw [if_pos (by omega), if_pos (by omega), ixP l j hn, place1_any _ _ (hs _ (List.getElem_mem hn)), bnd_some]
      refine ⟨j, ?_, h2, h3, h4⟩
      have : decide (cmp l[j].1 k = 0) = decide (∃ h : j < l.length, l[j].1 = k) := decide_eq_decide.2 ⟨fun h => ⟨hn, cmp_eq.1 h⟩, fun ⟨_, h⟩ => cmp_eq.2 h⟩
      rw [this]
    · rw [if_neg (by omega)]
      refine ⟨j, ?_, h2, h3, h4⟩
      have : (false : Bool) = decide (∃ h : j < l.length, l[j].1 = k) := (decide_eq_false (fun ⟨h, _⟩ => hn h)).symm
      rw [← this]
  | succ d ih =>
    intro i j h0 h1 h2 h3 h4
    by_cases hij : i = j
    · exact ih i j (by omega) h1 h2 h3 h4
    have hm := mid i j (by omega)
    have hlt : (i + j) / 2 < l.length := by omega
    rw [slices_BinarySearchFuncapi_Pair_api_Pair_string.l0.eq, hm]
    simp only [ltI_d, leI_d, ofN_d, lenL_d, andB_d, eqI_d, br_if]
    rw [if_pos (by omega), if_pos (by omega), if_pos (by omega), ixP l _ hlt, place1_any _ _ (hs _ (List.getElem_mem hlt)), bnd_some, add1 _ (by omega)]
    by_cases hc : lt l[(i + j) / 2].1 k = true
    · rw [if_pos (cmp_neg.2 hc)]
      refine ih _ j (by omega) (by omega) h2 (fun a h ha => ?_) h4
      by_cases he : a = (i + j) / 2
      · subst he; exact hc
      · exact lt_trans (srt_get hS hlt (show a < (i + j) / 2 by omega)) hc
    · rw [if_neg (fun h => hc (cmp_neg.1 h))]
      refine ih i _ (by omega) (by omega) (by omega) h3 (fun a h ha => ?_)
      cases hk : lt l[a].1 k with
      | false => rfl
      | true =>
        exfalso
        by_cases he : (i + j) / 2 = a
        · subst he; exact hc hk
        · exact hc (lt_trans (srt_get hS h (show (i + j) / 2 < a by omega)) hk)
theorem place_any (l : List PairV) (k : ByteArray) (hl : l.length ≤ 50000000) (hs : ∀ p ∈ l, okP p) (hS : Srt l) :
    ∃ pos : Nat, pair_place l k = some ((pos : Int), (decide (∃ h : pos < l.length, l[pos].1 = k), ())) ∧ pos ≤ l.length ∧ (∀ (a : Nat) (h : a < l.length), a < pos → lt l[a].1 k = true) ∧ (∀ (a : Nat) (h : a < l.length), pos ≤ a → lt l[a].1 k = false) := by
  obtain ⟨pos, h1, h2⟩ := search_loop l k hl hs hS l.length 0 l.length (by omega) (by omega) (by omega) (fun a h h' => by omega) (fun a h h' => by omega)
  refine ⟨pos, ?_, h2⟩
  rw [pair_place.eq, slices_BinarySearchFuncapi_Pair_api_Pair_string.eq]
  simp only [ofN_d, lenL_d]
  rw [show ((0 : Nat) : Int) = 0 from rfl] at h1
  rw [h1, bnd_some]
theorem put_any (l : List PairV) (p : PairV) (hl : l.length ≤ 45000000) (hs : ∀ q ∈ l, okP q) (hS : Srt l) : pair_put l p = some ((), (putS l p, ())) := by
  obtain ⟨pos, h1, h2, h3, h4⟩ := place_any l p.1 (by omega) hs hS
  have hput := putS_at p l pos h2 h3 (fun h => h4 pos h (Nat.le_refl _))
  rw [pair_put.eq, h1, bnd_some]
  simp only [br_if]
  by_cases he : ∃ h : pos < l.length, l[pos].1 = p.1
  · rw [if_pos he, cloneP_any l (by omega), bnd_some]
    simp only [ltI_d, leI_d, ofN_d, lenL_d, andB_d, br_if]
    rw [if_pos (by obtain ⟨h, _⟩ := he; omega), hput, if_pos he]
    unfold setL
    rw [Int.toNat_natCast]
  · rw [if_neg he, cloneP_any l (by omega), bnd_some, slices_Insertapi_Pair_api_Pair.eq]
    have hg : insG tapiPair l (pos : Int) [p] = true := by
      unfold insG
      refine decide_eq_true ⟨by omega, ?_, ?_, ?_⟩
      · show pos ≤ l.length; exact h2
      · show 0 < 1; omega
      · show l.length + 1 ≤ _; omega
    rw [hg, br_t, bnd_some, both_self, hput, if_neg he]
    unfold insL
    rw [Int.toNat_natCast, List.append_assoc]
    rfl
theorem putS_ok {l : List PairV} {p : PairV} (hl : ∀ q ∈ l, okP q) (hp : okP p) : ∀ q ∈ putS l p, okP q := fun q hq => by
  rcases putS_mem hq with rfl | h
  · exact hp
  · exact hl q h
theorem make_loop (l : List PairV) (hl : l.length ≤ 40000000) (hs : ∀ p ∈ l, okP p) (d : Nat) : ∀ (i : Nat) (acc : List PairV), i ≤ l.length → l.length - i = d → acc.length ≤ i → (∀ q ∈ acc, okP q) → Srt acc → pair_Make.l0 l l.length i acc = some ((l.drop i).foldl putS acc) := by
  induction d with
  | zero =>
    intro i acc h1 h2 h3 h4 h5
    rw [pair_Make.l0.eq]
    simp only [ltI_d, br_if]
    rw [if_neg (by omega), List.drop_eq_nil_of_le (by omega)]
    rfl
  | succ d ih =>
    intro i acc h1 h2 h3 h4 h5
    have hi : i < l.length := by omega
    rw [pair_Make.l0.eq]
    simp only [ltI_d, leI_d, ofN_d, lenL_d, andB_d, br_if]
    rw [if_pos (by omega), if_pos (by omega), ixP l i hi, put_any acc _ (by omega) h4 h5, bnd_some, add1 i (by omega), List.drop_eq_getElem_cons hi]
    have := putS_len l[i] acc
    exact ih (i + 1) (putS acc l[i]) (by omega) (by omega) (by omega) (putS_ok h4 (hs _ (List.getElem_mem hi))) (putS_srt _ h5)
theorem make_any (l : List PairV) (hl : l.length ≤ 40000000) (hs : ∀ p ∈ l, okP p) : pair_Make l = some (makeS l) := by
  rw [pair_Make.eq]
  simp only [ofN_d, lenL_d]
  have := make_loop l hl hs l.length 0 [] (by omega) (by omega) (by simp) (by simp) List.Pairwise.nil
  rw [List.drop_zero, show ((0 : Nat) : Int) = 0 from rfl] at this
  exact this
theorem foldl_len : ∀ (l acc : List PairV), (l.foldl putS acc).length ≤ acc.length + l.length
  | [], acc => by simp
  | p :: l, acc => by
    have h1 := foldl_len l (putS acc p)
    have h2 := putS_len p acc
    simp only [List.foldl_cons, List.length_cons]
    omega
theorem makeS_len (l : List PairV) : (makeS l).length ≤ l.length := by have := foldl_len l []; unfold makeS; simpa using this
/-- What is in order stays so. -/
theorem putS_end (p : PairV) : ∀ (l : List PairV), (∀ q ∈ l, lt q.1 p.1 = true) → putS l p = l ++ [p]
  | [], _ => rfl
  | q :: qs, h => by
    unfold putS
    rw [if_pos (h q List.mem_cons_self), putS_end p qs fun x hx => h x (List.mem_cons_of_mem _ hx)]
    rfl
theorem foldl_srt : ∀ (l acc : List PairV), Srt (acc ++ l) → l.foldl putS acc = acc ++ l
  | [], acc, _ => by simp
  | p :: l, acc, h => by
    rw [List.foldl_cons, putS_end p acc (fun q hq => (List.pairwise_append.1 h).2.2 q hq p List.mem_cons_self), foldl_srt l (acc ++ [p]) (by simpa using h)]
    simp
theorem makeS_srt {l : List PairV} (h : Srt l) : makeS l = l := by
  have := foldl_srt l [] (by simpa using h)
  simpa [makeS] using this
theorem isS_srt : ∀ {l : List PairV}, isS l = true → Srt l
  | [], _ => List.Pairwise.nil
  | [a], _ => List.pairwise_singleton _ _
  | a :: b :: r, h => by
    have h' : (lt a.1 b.1 && isS (b :: r)) = true := h
    rw [Bool.and_eq_true] at h'
    have hr := isS_srt h'.2
    refine List.pairwise_cons.2 ⟨fun x hx => ?_, hr⟩
    rcases List.mem_cons.1 hx with rfl | hx
    · exact h'.1
    · exact lt_trans h'.1 ((List.pairwise_cons.1 hr).1 x hx)
end Go.Proofs.Ytmopkbmcilolgaa.AC
set_option linter.unusedVariables false
set_option linter.unusedSimpArgs false
namespace Go.Proofs.Ytmopkbmcilolgaa.AC
open Go.Abs
abbrev NodeV : Type := Int × ByteArray × ByteArray × Int × List Int × Int × List PairV × Int × Int × Unit
def few (n : NodeV) : NodeV := (n.1, (cut 40 n.2.1, (cut 40 n.2.2.1, (n.2.2.2.1, (n.2.2.2.2.1.take 40, (n.2.2.2.2.2.1, (fewL n.2.2.2.2.2.2.1, n.2.2.2.2.2.2.2)))))))
/-- A node of not too many parts. -/
structure okN (n : NodeV) : Prop where
  key : n.2.1.size ≤ 40
  val : n.2.2.1.size ≤ 40
  map0 : 0 ≤ n.2.2.2.1
  map1 : n.2.2.2.1 < 4294967296
  kids : n.2.2.2.2.1.length ≤ 1000000
  list : n.2.2.2.2.2.2.1.length ≤ 1000000
  binds : ∀ p ∈ n.2.2.2.2.2.2.1, okP p
theorem wf_u32 {a : Int} (h : (Lit.int .u32 a).wf = true) : 0 ≤ a ∧ a < 4294967296 := by
  simp [Lit.wf, IntKind.min, IntKind.max, IntKind.bits, IntKind.signed] at h
  omega
theorem few_okN {n : NodeV} (h : wfD tapiNode n) : okN (few n) := by
  obtain ⟨_, _, _, hm, _⟩ := h
  obtain ⟨h0, h1⟩ := wf_u32 hm
  refine ⟨?_, ?_, h0, h1, ?_, Nat.le_trans (fewL_len _) (by omega), fewL_ok _⟩
  · show (cut 40 _).size ≤ 40; rw [cut_size]; omega
  · show (cut 40 _).size ≤ 40; rw [cut_size]; omega
  · show (List.take 40 _).length ≤ 1000000; rw [List.length_take]; omega
theorem few_few (n : NodeV) : few (few n) = few n := by
  unfold few
  dsimp only
  rw [cut_cut, cut_cut, fewL_fewL, List.take_take, Nat.min_self]
theorem Few_any (n : NodeV) (h1 : n.2.2.2.2.1.length ≤ 9223372036854775807) (h2 : n.2.2.2.2.2.2.1.length ≤ 9223372036854775807) : law13_Few n = some (few n) := by
  rw [law13_Few.eq, base_Cut_40, bnd_some, base_Cut_40, bnd_some]
  simp only [ltI_d, leI_d, ofN_d, lenL_d, andB_d, br_if, fitL_d, appL_d, minI_d, List.nil_append]
  have e : toN (min (n.2.2.2.2.1.length : Int) 40) = min n.2.2.2.2.1.length 40 := by unfold toN; omega
  have e0 : toN 0 = 0 := rfl
  rw [if_pos (by omega), e, e0, subL0]
  have e2 : n.2.2.2.2.1.take (min n.2.2.2.2.1.length 40) = n.2.2.2.2.1.take 40 := by
    by_cases h : n.2.2.2.2.1.length ≤ 40
    · rw [Nat.min_eq_left h, List.take_of_length_le (Nat.le_refl _), List.take_of_length_le h]
    · rw [Nat.min_eq_right (by omega)]
  rw [e2, if_pos (by rw [List.length_take]; omega), few_any _ h2, bnd_some]
  rfl
theorem Few_ok {n : NodeV} (h : okN n) : law13_Few n = some (few n) := Few_any n (by have := h.kids; omega) (by have := h.list; omega)
theorem Few_wf {n : NodeV} (h : wfD tapiNode n) : law13_Few n = some (few n) := by
  obtain ⟨_, _, _, _, hk, _, hl, _⟩ := h
  exact Few_any n hk.1 hl.1
/-! ### Alike -/
theorem node_ext {a b : NodeV} : a = b ↔ a.1 = b.1 ∧ a.2.1 = b.2.1 ∧ a.2.2.1 = b.2.2.1 ∧ a.2.2.2.1 = b.2.2.2.1 ∧ a.2.2.2.2.1 = b.2.2.2.2.1 ∧ a.2.2.2.2.2.1 = b.2.2.2.2.2.1 ∧ a.2.2.2.2.2.2.1 = b.2.2.2.2.2.2.1 ∧ a.2.2.2.2.2.2.2.1 = b.2.2.2.2.2.2.2.1 ∧ a.2.2.2.2.2.2.2.2.1 = b.2.2.2.2.2.2.2.2.1 := by
  refine ⟨fun h => by subst h; exact ⟨rfl, rfl, rfl, rfl, rfl, rfl, rfl, rfl, rfl⟩, fun ⟨h1, h2, h3, h4, h5, h6, h7, h8, h9⟩ => ?_⟩
  obtain ⟨a1, a2, a3, a4, a5, a6, a7, a8, a9, _⟩ := a
  obtain ⟨b1, b2, b3, b4, b5, b6, b7, b8, b9, _⟩ := b
  dsimp only at h1 h2 h3 h4 h5 h6 h7 h8 h9
  subst h1; subst h2; subst h3; subst h4; subst h5; subst h6; subst h7; subst h8; subst h9
  rfl
instance nodeDec : DecidableEq NodeV := fun a b => decidable_of_iff _ node_ext.symm
theorem same_j0 (c : Bool) (a b : NodeV) (h : okN a) : node_Same.j0 c a b = some (c && decide (a.2.2.2.2.2.1 = b.2.2.2.2.2.1 ∧ a.2.2.2.2.2.2.2.1 = b.2.2.2.2.2.2.2.1 ∧ a.2.2.2.2.2.2.2.2.1 = b.2.2.2.2.2.2.2.2.1 ∧ a.2.2.2.2.1 = b.2.2.2.2.1 ∧ a.2.2.2.2.2.2.1 = b.2.2.2.2.2.2.1)) := by
  have hk := h.kids
  have hl := h.list
  rw [node_Same.j0.eq]
  cases c with
  | false => rw [br_f, Bool.false_and]
  | true =>
    rw [br_t, Bool.true_and]
    simp only [eqI_d, br_if]
    by_cases h1 : a.2.2.2.2.2.1 = b.2.2.2.2.2.1
    · rw [if_pos h1]
      by_cases h2 : a.2.2.2.2.2.2.2.1 = b.2.2.2.2.2.2.2.1
      · rw [if_pos h2]
        by_cases h3 : a.2.2.2.2.2.2.2.2.1 = b.2.2.2.2.2.2.2.2.1
        · rw [if_pos h3, equalR_any _ _ (by omega), bnd_some, br_if]
          by_cases h4 : a.2.2.2.2.1 = b.2.2.2.2.1
          · rw [if_pos h4, equalP_any _ _ (by omega), bnd_some]
            exact some_bool (decide_eq_decide.2 ⟨fun h5 => ⟨h1, h2, h3, h4, h5⟩, fun h => h.2.2.2.2⟩)
          · rw [if_neg h4]; exact some_bool (decide_eq_false (fun h => h4 h.2.2.2.1)).symm
        · rw [if_neg h3]; exact some_bool (decide_eq_false (fun h => h3 h.2.2.1)).symm
      · rw [if_neg h2]; exact some_bool (decide_eq_false (fun h => h2 h.2.1)).symm
    · rw [if_neg h1]; exact some_bool (decide_eq_false (fun h => h1 h.1)).symm
theorem same_any (a b : NodeV) (h : okN a) : node_Same a b = some (decide (a = b)) := by
  rw [node_Same.eq]
  simp only [same_j0 _ a b h, eqI_d, eqS_d, br_if, Bool.false_and]
  by_cases h1 : a.1 = b.1
  · rw [if_pos h1]
    by_cases h2 : a.2.1 = b.2.1
    · rw [if_pos h2]
      by_cases h3 : a.2.2.1 = b.2.2.1
      · rw [if_pos h3]
        by_cases h4 : a.2.2.2.1 = b.2.2.2.1
        · rw [decide_eq_true h4, Bool.true_and]
          exact some_bool (decide_eq_decide.2 ⟨fun ⟨g1, g2, g3, g4, g5⟩ => node_ext.2 ⟨h1, h2, h3, h4, g4, g1, g5, g2, g3⟩, fun e => by subst e; exact ⟨rfl, rfl, rfl, rfl, rfl⟩⟩)
        · rw [decide_eq_false h4, Bool.false_and]; exact some_bool (decide_eq_false (fun e => h4 (by rw [e]))).symm
      · rw [if_neg h3]; exact some_bool (decide_eq_false (fun e => h3 (by rw [e]))).symm
    · rw [if_neg h2]; exact some_bool (decide_eq_false (fun e => h2 (by rw [e]))).symm
  · rw [if_neg h1]; exact some_bool (decide_eq_false (fun e => h1 (by rw [e]))).symm
/-! ### Too long -/
def longN (n : NodeV) : Bool := longP (n.2.1, (n.2.2.1, ())) || n.2.2.2.2.2.2.1.any longP
theorem long_any (n : NodeV) (h : okN n) : node_long n = some (longN n) := by
  rw [node_long.eq, long1_any, bnd_some, br_b]
  unfold longN
  by_cases e : longP (n.2.1, (n.2.2.1, ())) = true
  · rw [if_pos e, e]; rfl
  · have e' : longP (n.2.1, (n.2.2.1, ())) = false := by simpa using e
    rw [if_neg e, longL_any _ (by have := h.list; omega), bnd_some, e', Bool.false_or]
theorem reflong_loop (n : NodeV) (h : okN n) (d : Nat) : ∀ (i : Nat) (c : Bool), i ≤ n.2.2.2.2.2.2.1.length → n.2.2.2.2.2.2.1.length - i = d → ref13_long.l0 c i n = some (c || (n.2.2.2.2.2.2.1.drop i).any longP) := by
  have hl := h.list
  induction d with
  | zero =>
    intro i c h1 h2
    rw [ref13_long.l0.eq]
    simp only [ltI_d, ofN_d, lenL_d, br_if]
    rw [if_neg (by omega), List.drop_eq_nil_of_le (by omega)]
    simp
  | succ d ih =>
    intro i c h1 h2
    have hi : i < n.2.2.2.2.2.2.1.length := by omega
    rw [ref13_long.l0.eq]
    simp only [ltI_d, leI_d, ofN_d, lenL_d, lenS_d, andB_d, br_if]
    rw [if_pos (by omega), add1 i (by omega)]
    cases c with
    | true => rw [br_t, ih (i + 1) true (by omega) (by omega)]; simp
    | false =>
      rw [br_f, if_pos (by omega), ixP _ i hi, List.drop_eq_getElem_cons hi, List.any_cons, Bool.false_or]
      rw [show longP n.2.2.2.2.2.2.1[i] = (decide (16 < n.2.2.2.2.2.2.1[i].1.size) || decide (16 < n.2.2.2.2.2.2.1[i].2.1.size)) from rfl]
      by_cases e : 16 < n.2.2.2.2.2.2.1[i].1.size
      · rw [if_pos (by omega), ih (i + 1) true (by omega) (by omega), decide_eq_true e]
        simp
      · rw [if_neg (by omega), if_pos (by omega), ih (i + 1) _ (by omega) (by omega), decide_eq_false e, Bool.false_or]
        refine some_bool ?_
        congr 1
        exact decide_eq_decide.2 (by omega)
theorem reflong_any (n : NodeV) (h : okN n) : ref13_long n = some (longN n) := by
  rw [ref13_long.eq]
  simp only [ltI_d, ofN_d, lenS_d, br_if]
  have key : ∀ c : Bool, ref13_long.l0 c 0 n = some (c || n.2.2.2.2.2.2.1.any longP) := fun c => by
    have := reflong_loop n h n.2.2.2.2.2.2.1.length 0 c (by omega) (by omega)
    rw [List.drop_zero, show ((0 : Nat) : Int) = 0 from rfl] at this
    exact this
  unfold longN
  rw [key, key, show longP (n.2.1, (n.2.2.1, ())) = (decide (16 < n.2.1.size) || decide (16 < n.2.2.1.size)) from rfl]
  by_cases e : 16 < n.2.1.size
  · rw [if_pos (by omega), decide_eq_true e]; simp
  · rw [if_neg (by omega), decide_eq_false e, Bool.false_or]
    refine some_bool ?_
    congr 1
    exact decide_eq_decide.2 (by omega)
/-! ### Of its kind's form -/
def bareP (n : NodeV) (binding branch main list : Bool) : Prop :=
  (binding = true → n.2.1 = ByteArray.empty ∧ n.2.2.1 = ByteArray.empty) ∧ (branch = true → n.2.2.2.1 = 0 ∧ n.2.2.2.2.1 = []) ∧ (main = true → n.2.2.2.2.2.1 = 0) ∧ (list = true → n.2.2.2.2.2.2.1 = [])
instance (n : NodeV) (a b c d : Bool) : Decidable (bareP n a b c d) := by unfold bareP; infer_instance
theorem len0 {A : Type} {l : List A} : (l.length : Int) = 0 ↔ l = [] := by
  constructor
  · intro h; exact List.eq_nil_of_length_eq_zero (by omega)
  · intro h; rw [h]; rfl
theorem bare_any (n : NodeV) (a b c d : Bool) : ref13_bare n a b c d = some (decide (bareP n a b c d)) := by
  rw [ref13_bare.eq]
  unfold bareP
  simp only [eqI_d, eqS_d, ltI_d, leI_d, ofN_d, lenL_d, notB_d, br_if, br_b]
  have hk : (0 : Int) < (n.2.2.2.2.1.length : Int) ↔ ¬ n.2.2.2.2.1 = [] := by
    rw [← len0]; omega
  simp only [hk, len0]
  by_cases e1 : n.2.1 = ByteArray.empty <;> by_cases e2 : n.2.2.1 = ByteArray.empty <;> by_cases e3 : n.2.2.2.1 = 0 <;> by_cases e4 : n.2.2.2.2.1 = [] <;> by_cases e5 : n.2.2.2.2.2.1 = 0 <;> cases a <;> cases b <;> cases c <;> cases d <;> simp [e1, e2, e3, e4, e5, notB]
/-- Is a node of its kind's form? -/
def formP (n : NodeV) : Prop := 0 ≤ n.2.2.2.2.2.2.2.2.1 ∧
  if n.1 = 1 ∨ n.1 = 6 then n.2.2.2.2.2.2.2.1 = 1 ∧ bareP n false true true true
  else if n.1 = 2 then (0 : Int) ∉ n.2.2.2.2.1 ∧ n.2.2.2.2.1.length = (allI n.2.2.2.1.toNat).length ∧ 0 ≤ n.2.2.2.2.2.2.2.1 ∧ bareP n true false true true
  else if n.1 = 3 then 2 ≤ n.2.2.2.2.2.2.1.length ∧ isS n.2.2.2.2.2.2.1 = true ∧ n.2.2.2.2.2.2.2.1 = (n.2.2.2.2.2.2.1.length : Int) ∧ bareP n true true true false
  else if n.1 = 4 then n.2.2.2.1 = 0 ∧ n.2.2.2.2.1.length = 2 ∧ 1 ≤ n.2.2.2.2.2.2.2.1 ∧ bareP n false false true true
  else n.2.2.2.2.2.1 ≠ 0 ∧ n.2.2.2.2.2.2.2.1 = 0 ∧ bareP n true true false true
instance (n : NodeV) : Decidable (formP n) := by unfold formP; infer_instance
theorem kid_loop (n : NodeV) (h : okN n) (d : Nat) : ∀ (i : Nat), i ≤ n.2.2.2.2.1.length → n.2.2.2.2.1.length - i = d →
    ref13_form.l1 i n = some (decide ((0 : Int) ∉ n.2.2.2.2.1.drop i ∧ n.2.2.2.2.1.length = (allI n.2.2.2.1.toNat).length ∧ 0 ≤ n.2.2.2.2.2.2.2.1 ∧ bareP n true false true true)) := by
  have hk := h.kids
  have hm0 := h.map0
  have hm1 := h.map1
  induction d with
  | zero =>
    intro i h1 h2
    rw [ref13_form.l1.eq]
    simp only [ltI_d, leI_d, eqI_d, ofN_d, lenL_d, br_if]
    have hm : n.2.2.2.1 = ((n.2.2.2.1.toNat : Nat) : Int) := (Int.toNat_of_nonneg hm0).symm
    rw [if_neg (by omega), hm, refall_any _ (by omega), bnd_some, Int.toNat_natCast, List.drop_eq_nil_of_le (by omega), bare_any]
    by_cases e1 : n.2.2.2.2.1.length = (allI n.2.2.2.1.toNat).length
    · rw [if_pos (by omega)]
      by_cases e2 : 0 ≤ n.2.2.2.2.2.2.2.1
      · rw [if_pos e2, bnd_some]
        exact some_bool (decide_eq_decide.2 ⟨fun e3 => ⟨by simp, e1, e2, e3⟩, fun e => e.2.2.2⟩)
      · rw [if_neg e2]; exact some_bool (decide_eq_false (fun e => e2 e.2.2.1)).symm
    · rw [if_neg (by omega)]; exact some_bool (decide_eq_false (fun e => e1 e.2.1)).symm
  | succ d ih =>
    intro i h1 h2
    have hi : i < n.2.2.2.2.1.length := by omega
    rw [ref13_form.l1.eq]
    simp only [ltI_d, leI_d, eqI_d, ofN_d, lenL_d, andB_d, br_if]
    rw [if_pos (by omega), if_pos (by omega), ixR _ i hi, add1 i (by omega), ih (i + 1) (by omega) (by omega), List.drop_eq_getElem_cons hi]
    by_cases e : n.2.2.2.2.1[i] = 0
    · rw [if_pos e]
      exact some_bool (decide_eq_false (fun q => q.1 (by rw [e]; exact List.mem_cons_self))).symm
    · rw [if_neg e]
      exact some_bool (decide_eq_decide.2 ⟨fun q => ⟨fun q' => (List.mem_cons.1 q').elim (fun q2 => e q2.symm) q.1, q.2⟩, fun q => ⟨fun q' => q.1 (List.mem_cons_of_mem _ q'), q.2⟩⟩)
theorem form_any (n : NodeV) (h : okN n) (h1 : 1 ≤ n.1) (h2 : n.1 ≤ 6) : ref13_form n = some (decide (formP n)) := by
  have hl := h.list
  have hk := h.kids
  rw [ref13_form.eq]
  unfold formP
  simp only [ltI_d, eqI_d, br_if]
  by_cases hb : n.2.2.2.2.2.2.2.2.1 < 0
  · rw [if_pos hb]
    exact some_bool (decide_eq_false (fun q => absurd q.1 (by omega))).symm
  rw [if_neg hb]
  have hj : ref13_form.j0 n.1 (decide (n.1 = 1 ∨ n.1 = 6)) n = some (decide (0 ≤ n.2.2.2.2.2.2.2.2.1 ∧
      if n.1 = 1 ∨ n.1 = 6 then n.2.2.2.2.2.2.2.1 = 1 ∧ bareP n false true true true
      else if n.1 = 2 then (0 : Int) ∉ n.2.2.2.2.1 ∧ n.2.2.2.2.1.length = (allI n.2.2.2.1.toNat).length ∧ 0 ≤ n.2.2.2.2.2.2.2.1 ∧ bareP n true false true true
      else if n.1 = 3 then 2 ≤ n.2.2.2.2.2.2.1.length ∧ isS n.2.2.2.2.2.2.1 = true ∧ n.2.2.2.2.2.2.2.1 = (n.2.2.2.2.2.2.1.length : Int) ∧ bareP n true true true false
      else if n.1 = 4 then n.2.2.2.1 = 0 ∧ n.2.2.2.2.1.length = 2 ∧ 1 ≤ n.2.2.2.2.2.2.2.1 ∧ bareP n false false true true
      else n.2.2.2.2.2.1 ≠ 0 ∧ n.2.2.2.2.2.2.2.1 = 0 ∧ bareP n true true false true)) := by
    rw [ref13_form.j0.eq]
    simp only [ltI_d, leI_d, eqI_d, ofN_d, lenL_d, notB_d, br_if, bare_any, bnd_some]
    have hbb : 0 ≤ n.2.2.2.2.2.2.2.2.1 := by omega
    by_cases k1 : n.1 = 1 ∨ n.1 = 6
    · simp only [if_pos k1]
      by_cases e : n.2.2.2.2.2.2.2.1 = 1
      · rw [if_pos e]; exact some_bool (decide_eq_decide.2 ⟨fun q => ⟨hbb, e, q⟩, fun q => q.2.2⟩)
      · rw [if_neg e]; exact some_bool (decide_eq_false (fun q => e q.2.1)).symm
    simp only [if_neg k1]
    by_cases k2 : n.1 = 2
    · simp only [if_pos k2]
      have := kid_loop n h n.2.2.2.2.1.length 0 (by omega) (by omega)
      rw [List.drop_zero, show ((0 : Nat) : Int) = 0 from rfl] at this
      rw [this]
      exact some_bool (decide_eq_decide.2 ⟨fun q => ⟨hbb, q⟩, fun q => q.2⟩)
    simp only [if_neg k2]
    by_cases k3 : n.1 = 3
    · simp only [if_pos k3]
      by_cases e1 : (2 : Int) ≤ (n.2.2.2.2.2.2.1.length : Int)
      · rw [if_pos e1, refis_any _ (by omega) h.binds, bnd_some, br_b]
        by_cases e2 : isS n.2.2.2.2.2.2.1 = true
        · rw [if_pos e2]
          by_cases e3 : n.2.2.2.2.2.2.2.1 = (n.2.2.2.2.2.2.1.length : Int)
          · rw [if_pos e3]; exact some_bool (decide_eq_decide.2 ⟨fun q => ⟨hbb, by omega, e2, e3, q⟩, fun q => q.2.2.2.2⟩)
          · rw [if_neg e3]; exact some_bool (decide_eq_false (fun q => e3 q.2.2.2.1)).symm
        · rw [if_neg e2]; exact some_bool (decide_eq_false (fun q => e2 q.2.2.1)).symm
      · rw [if_neg e1]; exact some_bool (decide_eq_false (fun q => e1 (by have := q.2.1; omega))).symm
    simp only [if_neg k3]
    by_cases k4 : n.1 = 4
    · simp only [if_pos k4]
      by_cases e1 : n.2.2.2.1 = 0
      · rw [if_pos e1]
        by_cases e2 : (n.2.2.2.2.1.length : Int) = 2
        · rw [if_pos e2]
          by_cases e3 : 1 ≤ n.2.2.2.2.2.2.2.1
          · rw [if_pos e3]; exact some_bool (decide_eq_decide.2 ⟨fun q => ⟨hbb, e1, by omega, e3, q⟩, fun q => q.2.2.2.2⟩)
          · rw [if_neg e3]; exact some_bool (decide_eq_false (fun q => e3 q.2.2.2.1)).symm
        · rw [if_neg e2]; exact some_bool (decide_eq_false (fun q => e2 (by have := q.2.2.1; omega))).symm
      · rw [if_neg e1]; exact some_bool (decide_eq_false (fun q => e1 q.2.1)).symm
    simp only [if_neg k4]
    by_cases e1 : n.2.2.2.2.2.1 = 0
    · rw [if_neg (by intro q; exact q e1)]; exact some_bool (decide_eq_false (fun q => q.2.1 e1)).symm
    · rw [if_pos e1]
      by_cases e2 : n.2.2.2.2.2.2.2.1 = 0
      · rw [if_pos e2]; exact some_bool (decide_eq_decide.2 ⟨fun q => ⟨hbb, e1, e2, q⟩, fun q => q.2.2.2⟩)
      · rw [if_neg e2]; exact some_bool (decide_eq_false (fun q => e2 q.2.2.1)).symm
  by_cases k1 : n.1 = 1
  · rw [if_pos k1]
    have e : decide (n.1 = 1 ∨ n.1 = 6) = true := decide_eq_true (.inl k1)
    rw [e] at hj
    exact hj
  · rw [if_neg k1]
    have e : decide (n.1 = 1 ∨ n.1 = 6) = decide (n.1 = 6) := decide_eq_decide.2 ⟨fun q => q.resolve_left k1, .inr⟩
    rw [e] at hj
    exact hj
/-- What is wrong with a node. -/
def mayS (n : NodeV) : Int := if n.1 < 1 then 11 else if 6 < n.1 then 11 else if longN n = true then 6 else if formP n then 0 else 4
theorem refmay_any (n : NodeV) (h : okN n) : ref13_May n = some (mayS n) := by
  rw [ref13_May.eq]
  unfold mayS
  simp only [ltI_d, eqI_d, br_if]
  by_cases h1 : n.1 < 1
  · rw [if_pos h1, if_pos h1]
  · rw [if_neg h1, if_neg h1]
    by_cases h2 : 6 < n.1
    · rw [if_pos h2, if_pos h2]
    · rw [if_neg h2, if_neg h2, reflong_any n h, bnd_some, br_b]
      by_cases h3 : longN n = true
      · rw [if_pos h3, if_pos h3]
      · rw [if_neg h3, if_neg h3, form_any n h (by omega) (by omega), bnd_some, notB_d, br_if]
        by_cases h4 : formP n
        · rw [if_neg (by intro q; exact q h4), if_pos h4]
        · rw [if_pos h4, if_neg h4]
end Go.Proofs.Ytmopkbmcilolgaa.AC
set_option linter.unusedVariables false
set_option linter.unusedSimpArgs false
namespace Go.Proofs.Ytmopkbmcilolgaa.AC
open Go.Abs
def zeroN : NodeV := (0, (ByteArray.empty, (ByteArray.empty, (0, ([], (0, ([], (0, (0, ())))))))))
/-- What a node of its kind has at most. -/
def formedV (n : NodeV) : NodeV :=
  if n.1 = 1 then (1, (n.2.1, (n.2.2.1, (0, ([], (0, ([], (1, (0, ()))))))))) else
  if n.1 = 6 then (6, (n.2.1, (n.2.2.1, (0, ([], (0, ([], (1, (0, ()))))))))) else
  if n.1 = 2 then (2, (ByteArray.empty, (ByteArray.empty, (n.2.2.2.1, (n.2.2.2.2.1, (0, ([], (max n.2.2.2.2.2.2.2.1 0, (0, ()))))))))) else
  if n.1 = 3 then (3, (ByteArray.empty, (ByteArray.empty, (0, ([], (0, (makeS n.2.2.2.2.2.2.1, (((makeS n.2.2.2.2.2.2.1).length : Int), (0, ()))))))))) else
  if n.1 = 4 then (if n.2.2.2.2.1.length = 2 then (4, (n.2.1, (n.2.2.1, (0, (n.2.2.2.2.1, (0, ([], (max n.2.2.2.2.2.2.2.1 1, (0, ()))))))))) else zeroN) else
  if n.1 = 5 then (5, (ByteArray.empty, (ByteArray.empty, (0, ([], (n.2.2.2.2.2.1, ([], (0, (0, ()))))))))) else zeroN
theorem two {l : List Int} (h : l.length = 2) : [l[0], l[1]] = l := by
  match l, h with
  | [a, b], _ => rfl
theorem formed_any (n : NodeV) (h : okN n) : node_formed n = some (formedV n) := by
  have hl := h.list
  have hk := h.kids
  rw [node_formed.eq]
  unfold formedV
  simp only [ltI_d, leI_d, eqI_d, ofN_d, lenL_d, andB_d, maxI_d, br_if]
  by_cases k1 : n.1 = 1
  · rw [if_pos k1, if_pos k1, node_Leaf.eq, bnd_some]
  rw [if_neg k1, if_neg k1]
  by_cases k6 : n.1 = 6
  · rw [if_pos k6, if_pos k6, node_Tomb.eq, bnd_some]
  rw [if_neg k6, if_neg k6]
  by_cases k2 : n.1 = 2
  · rw [if_pos k2, if_pos k2, node_Branch.eq, cloneR_any _ (by omega), bnd_some, bnd_some]
  rw [if_neg k2, if_neg k2]
  by_cases k3 : n.1 = 3
  · rw [if_pos k3, if_pos k3, node_Bucket.eq, make_any _ (by omega) h.binds, bnd_some, bnd_some]
    rfl
  rw [if_neg k3, if_neg k3]
  by_cases k4 : n.1 = 4
  · rw [if_pos k4, if_pos k4]
    by_cases e : n.2.2.2.2.1.length = 2
    · rw [if_pos e, if_pos (by omega), if_pos (by omega), if_pos (by omega)]
      have i0 := ixR n.2.2.2.2.1 0 (by omega)
      have i1 := ixR n.2.2.2.2.1 1 (by omega)
      rw [show ((0 : Nat) : Int) = 0 from rfl] at i0
      rw [show ((1 : Nat) : Int) = 1 from rfl] at i1
      rw [i0, i1, node_Tree.eq, bnd_some, two e]
    · rw [if_neg e, if_neg (by omega)]
      rfl
  rw [if_neg k4, if_neg k4]
  by_cases k5 : n.1 = 5
  · rw [if_pos k5, if_pos k5, node_Inner.eq, bnd_some]
  rw [if_neg k5, if_neg k5]
  rfl
/-- Is what a node must have there? -/
def wholeP (n : NodeV) : Prop :=
  if n.1 = 2 then n.2.2.2.2.1.length = (allI n.2.2.2.1.toNat).length ∧ (0 : Int) ∉ n.2.2.2.2.1
  else if n.1 = 3 then 2 ≤ n.2.2.2.2.2.2.1.length ∧ isS n.2.2.2.2.2.2.1 = true
  else if n.1 = 5 then n.2.2.2.2.2.1 ≠ 0 else True
instance (n : NodeV) : Decidable (wholeP n) := by unfold wholeP; infer_instance
theorem whole_any (n : NodeV) (h : okN n) : node_whole n = some (decide (wholeP n)) := by
  have hl := h.list
  have hk := h.kids
  have hm0 := h.map0
  have hm1 := h.map1
  rw [node_whole.eq]
  unfold wholeP
  simp only [ltI_d, leI_d, eqI_d, ofN_d, lenL_d, andB_d, notB_d, br_if]
  by_cases k2 : n.1 = 2
  · simp only [if_pos k2]
    have hm : n.2.2.2.1 = ((n.2.2.2.1.toNat : Nat) : Int) := (Int.toNat_of_nonneg hm0).symm
    rw [hm, count_any _ (by omega), bnd_some, Int.toNat_natCast]
    by_cases e : n.2.2.2.2.1.length = (allI n.2.2.2.1.toNat).length
    · rw [if_pos (by omega), containsR_any _ _ (by omega), bnd_some, notB_d]
      exact some_bool (decide_eq_decide.2 ⟨fun q => ⟨e, q⟩, fun q => q.2⟩)
    · rw [if_neg (by omega)]; exact some_bool (decide_eq_false (fun q => e q.1)).symm
  simp only [if_neg k2]
  by_cases k3 : n.1 = 3
  · simp only [if_pos k3]
    by_cases e : 2 ≤ n.2.2.2.2.2.2.1.length
    · rw [if_pos (by omega), is_any _ (by omega) h.binds, bnd_some]
      refine some_bool ?_
      cases hs : isS n.2.2.2.2.2.2.1 with
      | true => exact (decide_eq_true ⟨e, rfl⟩).symm
      | false => exact (decide_eq_false (fun q => by cases q.2)).symm
    · rw [if_neg (by omega)]; exact some_bool (decide_eq_false (fun q => e q.1)).symm
  simp only [if_neg k3]
  by_cases k5 : n.1 = 5
  · simp only [if_pos k5]
  simp only [if_neg k5]
  exact some_bool (decide_eq_true trivial).symm
/-- With its birth, no less than nought. -/
def bornV (n : NodeV) : NodeV :=
  let f := formedV n
  (f.1, (f.2.1, (f.2.2.1, (f.2.2.2.1, (f.2.2.2.2.1, (f.2.2.2.2.2.1, (f.2.2.2.2.2.2.1, (f.2.2.2.2.2.2.2.1, (max n.2.2.2.2.2.2.2.2.1 0, ())))))))))
theorem max0 {a b : Int} : a = max a b ↔ b ≤ a := by omega
theorem form_iff (n : NodeV) (h1 : 1 ≤ n.1) (h2 : n.1 ≤ 6) : (n = bornV n ∧ wholeP n) ↔ formP n := by
  obtain ⟨k, key, val, m, ks, mn, L, sz, bi, u⟩ := n
  rw [node_ext]
  unfold bornV formedV wholeP formP bareP
  dsimp only at h1 h2 ⊢
  by_cases k1 : k = 1
  · subst k1
    simp [max0]
    constructor
    · rintro ⟨rfl, rfl, rfl, rfl, rfl, h⟩; simp [h]
    · rintro ⟨h, rfl, ⟨rfl, rfl⟩, rfl, rfl⟩; simp [h]
  by_cases k6 : k = 6
  · subst k6
    simp [max0]
    constructor
    · rintro ⟨rfl, rfl, rfl, rfl, rfl, h⟩; simp [h]
    · rintro ⟨h, rfl, ⟨rfl, rfl⟩, rfl, rfl⟩; simp [h]
  by_cases k2 : k = 2
  · subst k2
    simp [max0]
    constructor
    · rintro ⟨⟨h1, h2, h3, h4, h5, h6⟩, h7, h8⟩; exact ⟨h6, h8, h7, h5, ⟨h1, h2⟩, h3, h4⟩
    · rintro ⟨h6, h8, h7, h5, ⟨h1, h2⟩, h3, h4⟩; exact ⟨⟨h1, h2, h3, h4, h5, h6⟩, h7, h8⟩
  by_cases k3 : k = 3
  · subst k3
    simp [max0]
    constructor
    · rintro ⟨⟨h1, h2, h3, h4, h5, h6, h7, h8⟩, h9, h10⟩
      refine ⟨h8, h9, h10, ?_, ⟨h1, h2⟩, ⟨h3, h4⟩, h5⟩
      rw [h7, ← h6]
    · rintro ⟨h8, h9, h10, h7, ⟨h1, h2⟩, ⟨h3, h4⟩, h5⟩
      have := makeS_srt (isS_srt h10)
      refine ⟨⟨h1, h2, h3, h4, h5, this.symm, ?_, h8⟩, h9, h10⟩
      rw [this]; exact h7
  by_cases k4 : k = 4
  · subst k4
    by_cases e : ks.length = 2
    · simp [max0, e]
      constructor
      · rintro ⟨rfl, rfl, rfl, h, h'⟩; simp [h, h']
      · rintro ⟨h', rfl, h, rfl, rfl⟩; simp [h, h']
    · simp [max0, e, zeroN]
  have k5 : k = 5 := by omega
  subst k5
  simp [max0]
  constructor
  · rintro ⟨⟨h1, h2, h3, h4, h5, h6, h7⟩, h8⟩; exact ⟨h7, h8, h6, ⟨h1, h2⟩, ⟨h3, h4⟩, h5⟩
  · rintro ⟨h7, h8, h6, ⟨h1, h2⟩, ⟨h3, h4⟩, h5⟩; exact ⟨⟨h1, h2, h3, h4, h5, h6, h7⟩, h8⟩
theorem may_any (n : NodeV) (h : okN n) : node_May n = some (mayS n) := by
  rw [node_May.eq, formed_any n h, bnd_some]
  unfold mayS
  simp only [ltI_d, eqI_d, maxI_d, br_if]
  by_cases h1 : n.1 < 1
  · rw [if_pos h1, if_pos h1]
  rw [if_neg h1, if_neg h1]
  by_cases h2 : 6 < n.1
  · rw [if_pos h2, if_pos h2]
  rw [if_neg h2, if_neg h2, long_any n h, bnd_some, br_b]
  by_cases h3 : longN n = true
  · rw [if_pos h3, if_pos h3]
  rw [if_neg h3, if_neg h3, same_any n _ h, bnd_some, notB_d, br_if, whole_any n h, bnd_some, notB_d, br_if]
  have := form_iff n (by omega) (by omega)
  show (if ¬ n = bornV n then some (4 : Int) else if ¬ wholeP n then some 4 else some 0) = _
  by_cases h4 : n = bornV n
  · rw [if_neg (by intro q; exact q h4)]
    by_cases h5 : wholeP n
    · rw [if_neg (by intro q; exact q h5), if_pos (this.1 ⟨h4, h5⟩)]
    · rw [if_pos h5, if_neg (fun q => h5 (this.2 q).2)]
  · rw [if_pos h4, if_neg (fun q => h4 (this.2 q).1)]
def textOf (l : Array UInt8) : ByteArray := ByteArray.mk l
end Go.Proofs.Ytmopkbmcilolgaa.AC
set_option linter.unusedVariables false
set_option linter.unusedSimpArgs false
namespace Go.Proofs.Ytmopkbmcilolgaa.AC
open Go.Abs
theorem refsameP_loop (l m : List PairV) (hl : l.length ≤ 50000000) (hm : l.length = m.length) (d : Nat) : ∀ (i : Nat), i ≤ l.length → l.length - i = d → ref07_Same.l0 l m i = some (decide (l.drop i = m.drop i)) := by
  induction d with
  | zero =>
    intro i h1 h2
    rw [ref07_Same.l0.eq]
    simp only [ltI_d, ofN_d, lenL_d, br_if]
    rw [if_neg (by omega), List.drop_eq_nil_of_le (by omega), List.drop_eq_nil_of_le (by omega), decide_eq_true rfl]
  | succ d ih =>
    intro i h1 h2
    rw [ref07_Same.l0.eq]
    simp only [ltI_d, leI_d, ofN_d, lenL_d, andB_d, eq_pair, notB_d, br_if]
    rw [if_pos (by omega), if_pos (by omega), if_pos (by omega), ixP l i (by omega), ixP m i (by omega), add1 i (by omega), ih (i + 1) (by omega) (by omega)]
    by_cases e : l[i] = m[i]
    · rw [if_neg (by intro h; exact h e)]
      exact some_bool (decide_eq_decide.2 (by rw [drop_eq_iff (show i < l.length by omega) (show i < m.length by omega)]; simp [e]))
    · rw [if_pos e]
      exact some_bool (decide_eq_false (by rw [drop_eq_iff (show i < l.length by omega) (show i < m.length by omega)]; exact fun h => e h.1)).symm
theorem refsameP_any (l m : List PairV) (hl : l.length ≤ 50000000) : ref07_Same l m = some (decide (l = m)) := by
  rw [ref07_Same.eq]
  simp only [ofN_d, lenL_d, eqI_d, notB_d, br_if]
  by_cases h : l.length = m.length
  · rw [if_neg (by omega)]
    exact refsameP_loop l m hl h l.length 0 (by omega) (by omega)
  · rw [if_pos (by omega)]
    exact some_bool (decide_eq_false (fun e => h (by rw [e]))).symm
/-! ### Putting, twice -/
end Go.Proofs.Ytmopkbmcilolgaa.AC
set_option linter.unusedVariables false
set_option linter.unusedSimpArgs false
namespace Go.Proofs.Ytmopkbmcilolgaa.AC
open Go.Abs
theorem sameR_loop (l m : List Int) (hl : l.length ≤ 50000000) (hm : l.length = m.length) (d : Nat) : ∀ (i : Nat), i ≤ l.length → l.length - i = d → ref13_SameRefs.l0 l m i = some (decide (l.drop i = m.drop i)) := by
  induction d with
  | zero =>
    intro i h1 h2
    rw [ref13_SameRefs.l0.eq]
    simp only [ltI_d, ofN_d, lenL_d, br_if]
    rw [if_neg (by omega), List.drop_eq_nil_of_le (by omega), List.drop_eq_nil_of_le (by omega), decide_eq_true rfl]
  | succ d ih =>
    intro i h1 h2
    rw [ref13_SameRefs.l0.eq]
    simp only [ltI_d, leI_d, ofN_d, lenL_d, andB_d, eqI_d, notB_d, br_if]
    rw [if_pos (by omega), if_pos (by omega), if_pos (by omega), ixR l i (by omega), ixR m i (by omega), add1 i (by omega), ih (i + 1) (by omega) (by omega)]
    by_cases e : l[i] = m[i]
    · rw [if_neg (by intro h; exact h e)]
      exact some_bool (decide_eq_decide.2 (by rw [drop_eq_iff (show i < l.length by omega) (show i < m.length by omega)]; simp [e]))
    · rw [if_pos e]
      exact some_bool (decide_eq_false (by rw [drop_eq_iff (show i < l.length by omega) (show i < m.length by omega)]; exact fun h => e h.1)).symm
theorem sameR_any (l m : List Int) (hl : l.length ≤ 50000000) : ref13_SameRefs l m = some (decide (l = m)) := by
  rw [ref13_SameRefs.eq]
  simp only [ofN_d, lenL_d, eqI_d, notB_d, br_if]
  by_cases h : l.length = m.length
  · rw [if_neg (by omega)]
    exact sameR_loop l m hl h l.length 0 (by omega) (by omega)
  · rw [if_pos (by omega)]
    exact some_bool (decide_eq_false (fun e => h (by rw [e]))).symm
theorem refsame_any (a b : NodeV) (hk : a.2.2.2.2.1.length ≤ 50000000) (hl : a.2.2.2.2.2.2.1.length ≤ 50000000) : ref13_Same a b = some (decide (a = b)) := by
  rw [ref13_Same.eq]
  simp only [eqI_d, eqS_d, notB_d, br_if]
  have no : ∀ {p : Prop}, (a = b → p) → ¬ p → (some false : Option Bool) = some (decide (a = b)) := fun h n => (some_bool (decide_eq_false (fun e => n (h e)))).symm
  by_cases h1 : a.1 = b.1
  · rw [if_neg (by intro q; exact q h1)]
    by_cases h2 : a.2.1 = b.2.1
    · rw [if_neg (by intro q; exact q h2)]
      by_cases h3 : a.2.2.1 = b.2.2.1
      · rw [if_neg (by intro q; exact q h3)]
        by_cases h4 : a.2.2.2.1 = b.2.2.2.1
        · rw [if_neg (by intro q; exact q h4)]
          by_cases h5 : a.2.2.2.2.2.1 = b.2.2.2.2.2.1
          · rw [if_neg (by intro q; exact q h5)]
            by_cases h6 : a.2.2.2.2.2.2.2.1 = b.2.2.2.2.2.2.2.1
            · rw [if_neg (by intro q; exact q h6)]
              by_cases h7 : a.2.2.2.2.2.2.2.2.1 = b.2.2.2.2.2.2.2.2.1
              · rw [if_neg (by intro q; exact q h7), sameR_any _ _ hk, bnd_some, br_if]
                by_cases h8 : a.2.2.2.2.1 = b.2.2.2.2.1
                · rw [if_pos h8, refsameP_any _ _ hl, bnd_some]
                  exact some_bool (decide_eq_decide.2 ⟨fun h9 => node_ext.2 ⟨h1, h2, h3, h4, h8, h5, h9, h6, h7⟩, fun e => by rw [e]⟩)
                · rw [if_neg h8]; exact no (fun e => by rw [e]) h8
              · rw [if_pos h7]; exact no (fun e => by rw [e]) h7
            · rw [if_pos h6]; exact no (fun e => by rw [e]) h6
          · rw [if_pos h5]; exact no (fun e => by rw [e]) h5
        · rw [if_pos h4]; exact no (fun e => by rw [e]) h4
      · rw [if_pos h3]; exact no (fun e => by rw [e]) h3
    · rw [if_pos h2]; exact no (fun e => by rw [e]) h2
  · rw [if_pos h1]; exact no (fun e => by rw [e]) h1
theorem copy_any (n : NodeV) (h : okN n) : node_Copy n = some ((n.1, (n.2.1, (n.2.2.1, (n.2.2.2.1, ((), (n.2.2.2.2.2.1, ((), n.2.2.2.2.2.2.2))))))), (n.2.2.2.2.1, (n.2.2.2.2.2.2.1, ()))) := by
  have hl := h.list
  have hk := h.kids
  rw [node_Copy.eq, cloneR_any _ (by omega), bnd_some, cloneP_any _ (by omega), bnd_some]
/-! ### References, bindings -/
end Go.Proofs.Ytmopkbmcilolgaa.AC
set_option linter.unusedVariables false
set_option linter.unusedSimpArgs false
namespace Go.Proofs.Ytmopkbmcilolgaa.AC
open Go.Abs
def refsS (n : NodeV) : List Int := n.2.2.2.2.1.filter (fun r => decide (r ≠ 0)) ++ (if n.2.2.2.2.2.1 ≠ 0 then [n.2.2.2.2.2.1] else [])
theorem refsS_len (n : NodeV) : (refsS n).length ≤ n.2.2.2.2.1.length + 1 := by
  unfold refsS
  have := List.length_filter_le (fun r : Int => decide (r ≠ 0)) n.2.2.2.2.1
  rw [List.length_append]
  split <;> simp only [List.length_cons, List.length_nil] <;> omega
theorem refs_loop (l : List Int) (hl : l.length ≤ 50000000) (d : Nat) : ∀ (i : Nat) (acc : List Int), i ≤ l.length → l.length - i = d → acc.length ≤ i → node_Refs.l0 l.length i acc l = some (acc ++ (l.drop i).filter (fun r => decide (r ≠ 0))) := by
  induction d with
  | zero =>
    intro i acc h1 h2 h3
    rw [node_Refs.l0.eq]
    simp only [ltI_d, br_if]
    rw [if_neg (by omega), List.drop_eq_nil_of_le (by omega)]
    simp
  | succ d ih =>
    intro i acc h1 h2 h3
    have hi : i < l.length := by omega
    rw [node_Refs.l0.eq]
    simp only [ltI_d, leI_d, ofN_d, lenL_d, andB_d, eqI_d, notB_d, br_if, fitL_d, appL_d]
    rw [if_pos (by omega), if_pos (by omega), ixR l i hi, add1 i (by omega), List.drop_eq_getElem_cons hi]
    by_cases e : l[i] = 0
    · rw [if_neg (by intro q; exact q e), ih (i + 1) acc (by omega) (by omega) (by omega), List.filter_cons_of_neg (by simp [e])]
    · rw [if_pos e, if_pos (by rw [List.length_append]; show _ + 1 ≤ _; omega), ih (i + 1) _ (by omega) (by omega) (by rw [List.length_append]; show _ + 1 ≤ _; omega), List.filter_cons_of_pos (by simp [e]), List.append_assoc]
      rfl
theorem refs_any (n : NodeV) (h : okN n) : node_Refs n = some (refsS n) := by
  have hk := h.kids
  rw [node_Refs.eq, cloneR_any _ (by omega), bnd_some]
  simp only [ofN_d, lenL_d, fitL_d, appL_d, br_if]
  have hlen : (n.2.2.2.2.1 ++ [n.2.2.2.2.2.1]).length = n.2.2.2.2.1.length + 1 := by simp
  rw [if_pos (by rw [hlen]; omega), both_self]
  have := refs_loop (n.2.2.2.2.1 ++ [n.2.2.2.2.2.1]) (by omega) _ 0 [] (by omega) rfl (by simp)
  rw [List.drop_zero, show ((0 : Nat) : Int) = 0 from rfl, List.nil_append, List.filter_append] at this
  rw [this]
  unfold refsS
  by_cases e : n.2.2.2.2.2.1 = 0
  · rw [List.filter_cons_of_neg (by simp [e]), if_neg (by intro q; exact q e)]; rfl
  · rw [List.filter_cons_of_pos (by simp [e]), if_pos e]; rfl
theorem refrefs_loop (n : NodeV) (h : okN n) (d : Nat) : ∀ (i : Nat) (acc : List Int), i ≤ n.2.2.2.2.1.length → n.2.2.2.2.1.length - i = d → acc.length ≤ i → ref13_Refs.l0 i n acc = some (acc ++ (n.2.2.2.2.1.drop i).filter (fun r => decide (r ≠ 0)) ++ (if n.2.2.2.2.2.1 ≠ 0 then [n.2.2.2.2.2.1] else [])) := by
  have hk := h.kids
  induction d with
  | zero =>
    intro i acc h1 h2 h3
    rw [ref13_Refs.l0.eq]
    simp only [ltI_d, leI_d, ofN_d, lenL_d, andB_d, eqI_d, notB_d, br_if, fitL_d, appL_d]
    rw [if_neg (by omega), List.drop_eq_nil_of_le (by omega), List.filter_nil, List.append_nil]
    by_cases e : n.2.2.2.2.2.1 = 0
    · rw [if_neg (by intro q; exact q e), if_neg (by intro q; exact q e), List.append_nil]
    · rw [if_pos e, if_pos e, if_pos (by rw [List.length_append]; show _ + 1 ≤ _; omega)]
  | succ d ih =>
    intro i acc h1 h2 h3
    have hi : i < n.2.2.2.2.1.length := by omega
    rw [ref13_Refs.l0.eq]
    simp only [ltI_d, leI_d, ofN_d, lenL_d, andB_d, eqI_d, notB_d, br_if, fitL_d, appL_d]
    rw [if_pos (by omega), if_pos (by omega), ixR _ i hi, add1 i (by omega), List.drop_eq_getElem_cons hi]
    by_cases e : n.2.2.2.2.1[i] = 0
    · rw [if_neg (by intro q; exact q e), ih (i + 1) acc (by omega) (by omega) (by omega), List.filter_cons_of_neg (by simp [e])]
    · rw [if_pos e, if_pos (by omega), if_pos (by rw [List.length_append]; show _ + 1 ≤ _; omega), ih (i + 1) _ (by omega) (by omega) (by rw [List.length_append]; show _ + 1 ≤ _; omega), List.filter_cons_of_pos (by simp [e])]
      simp
theorem refrefs_any (n : NodeV) (h : okN n) : ref13_Refs n = some (refsS n) := by
  rw [ref13_Refs.eq]
  have := refrefs_loop n h _ 0 [] (by omega) rfl (by simp)
  rw [List.drop_zero, show ((0 : Nat) : Int) = 0 from rfl, List.nil_append] at this
  exact this
end Go.Proofs.Ytmopkbmcilolgaa.AC
set_option linter.unusedVariables false
set_option linter.unusedSimpArgs false
namespace Go.Proofs.Ytmopkbmcilolgaa.AC
open Go.Abs
def rng (x : Int) : Prop := -9223372036854775808 ≤ x ∧ x ≤ 9223372036854775807
theorem wf_rng {a : Int} (h : (Lit.int .i64 a).wf = true) : rng a := by
  simp [Lit.wf, IntKind.min, IntKind.max, IntKind.bits, IntKind.signed] at h
  unfold rng
  omega
/-- A node's references are numbers of the program. -/
def rngN (n : NodeV) : Prop := (∀ k ∈ n.2.2.2.2.1, rng k) ∧ rng n.2.2.2.2.2.1
theorem few_rng {n : NodeV} (h : wfD tapiNode n) : rngN (few n) := by
  obtain ⟨_, _, _, _, hk, hmain, _⟩ := h
  exact ⟨fun k hk' => wf_rng (hk.2 k (List.mem_of_mem_take hk')), wf_rng hmain⟩
theorem refs_rng {n : NodeV} (h : rngN n) : ∀ r ∈ refsS n, rng r := by
  intro r hr
  unfold refsS at hr
  rcases List.mem_append.1 hr with hr | hr
  · exact h.1 r (List.mem_filter.1 hr).1
  · split at hr
    · rw [List.mem_singleton.1 hr]; exact h.2
    · cases hr
theorem ixN (l : List NodeV) (i : Nat) (h : i < l.length) : ixL tapiNode l (i : Int) = l[i] := ixL_d tapiNode l i h
/-! ### Not too many nodes -/
def fewW : Nat → List NodeV → List NodeV
  | _, [] => []
  | w, n :: l => if 3000 < w * max (refsS (few n)).length 1 then [] else few n :: fewW (w * max (refsS (few n)).length 1) l
def fewH (h : List NodeV) : List NodeV := fewW 1 (h.take 12)
theorem fewW_len : ∀ (l : List NodeV) (w : Nat), (fewW w l).length ≤ l.length
  | [], _ => Nat.le_refl _
  | n :: l, w => by
    unfold fewW
    split
    · exact Nat.zero_le _
    · have := fewW_len l (w * max (refsS (few n)).length 1)
      simp only [List.length_cons]
      omega
theorem fewW_mem : ∀ (l : List NodeV) (w : Nat), ∀ x ∈ fewW w l, ∃ n ∈ l, x = few n
  | [], _, x, h => by cases h
  | n :: l, w, x, h => by
    unfold fewW at h
    split at h
    · cases h
    · rcases List.mem_cons.1 h with h | h
      · exact ⟨n, by simp, h⟩
      · obtain ⟨m, h1, h2⟩ := fewW_mem l _ x h
        exact ⟨m, by simp [h1], h2⟩
theorem fewW_cons (w : Nat) (n : NodeV) (l : List NodeV) : fewW w (n :: l) = if 3000 < w * max (refsS (few n)).length 1 then [] else few n :: fewW (w * max (refsS (few n)).length 1) l := rfl
theorem fewW_fewW : ∀ (l : List NodeV) (w : Nat), fewW w (fewW w l) = fewW w l
  | [], _ => rfl
  | n :: l, w => by
    rw [fewW_cons]
    by_cases h : 3000 < w * max (refsS (few n)).length 1
    · rw [if_pos h]
      rfl
    · rw [if_neg h, fewW_cons, few_few, if_neg h, fewW_fewW]
theorem fewH_len (h : List NodeV) : (fewH h).length ≤ 12 := by
  have := fewW_len (h.take 12) 1
  rw [List.length_take] at this
  unfold fewH
  omega
theorem fewH_mem {h : List NodeV} : ∀ x ∈ fewH h, ∃ n ∈ h, x = few n := fun x hx => by
  obtain ⟨n, h1, h2⟩ := fewW_mem _ _ x hx
  exact ⟨n, List.mem_of_mem_take h1, h2⟩
theorem fewH_fewH (h : List NodeV) : fewH (fewH h) = fewH h := by
  have := fewH_len h
  show fewW 1 ((fewH h).take 12) = fewH h
  rw [List.take_of_length_le this]
  exact fewW_fewW _ _
/-- A heap of not too many nodes. -/
structure okH (h : List NodeV) : Prop where
  len : h.length ≤ 40000000
  node : ∀ n ∈ h, okN n
  rng : ∀ n ∈ h, rngN n
theorem okH.of {h : List NodeV} (hw : wfD (.list tapiNode) h) : okH (fewH h) :=
  ⟨Nat.le_trans (fewH_len h) (by omega), fun x hx => by obtain ⟨n, h1, rfl⟩ := fewH_mem x hx; exact few_okN (hw.2 n h1), fun x hx => by obtain ⟨n, h1, rfl⟩ := fewH_mem x hx; exact few_rng (hw.2 n h1)⟩
theorem refsS_few (n : NodeV) : (refsS (few n)).length ≤ 41 := by
  have h := refsS_len (few n)
  have : (few n).2.2.2.2.1.length ≤ 40 := by show (List.take 40 _).length ≤ 40; rw [List.length_take]; omega
  omega
/-- Nodes that Few is asked of. -/
def wideN (n : NodeV) : Prop := n.2.2.2.2.1.length ≤ 9223372036854775807 ∧ n.2.2.2.2.2.2.1.length ≤ 9223372036854775807 ∧ okN (few n)
theorem fewH_loop (h : List NodeV) (hl : h.length ≤ 9223372036854775807) (hw : ∀ n ∈ h, wideN n) (d : Nat) : ∀ (i w : Nat) (acc : List NodeV), i ≤ h.length → i ≤ 12 → 1 ≤ w → w ≤ 3000 → acc.length ≤ i → 12 - i = d →
    law17_Few.l0 h w i acc = some (acc ++ fewW w ((h.take 12).drop i)) := by
  induction d with
  | zero =>
    intro i w acc hi h12 w1 w2 ha hd
    have e : (h.take 12).drop i = [] := List.drop_eq_nil_of_le (by rw [List.length_take]; omega)
    rw [law17_Few.l0.eq, law17_Few.j1.eq, law17_Few.j1.eq, e]
    simp only [ltI_d, ofN_d, lenL_d, br_if, br_f]
    have e' : acc ++ fewW w [] = acc := by unfold fewW; exact List.append_nil _
    rw [e']
    split
    · rw [if_neg (by omega)]
    · rfl
  | succ d ih =>
    intro i w acc hi h12 w1 w2 ha hd
    by_cases hil : i < h.length
    · have hin : i < (h.take 12).length := by rw [List.length_take]; omega
      have hm : h[i] ∈ h := List.getElem_mem hil
      obtain ⟨k1, k2, ho⟩ := hw _ hm
      have hr := refsS_few h[i]
      rw [law17_Few.l0.eq, law17_Few.j1.eq, ixN h i hil, Few_any _ k1 k2, bnd_some, refrefs_any _ ho, bnd_some]
      simp only [ltI_d, leI_d, ofN_d, lenL_d, andB_d, br_if, maxI_d, fitL_d, appL_d]
      have em : mulI .i64 (w : Int) (max ((refsS (few h[i])).length : Int) 1) = ((w * max (refsS (few h[i])).length 1 : Nat) : Int) := by
        have e : max ((refsS (few h[i])).length : Int) 1 = ((max (refsS (few h[i])).length 1 : Nat) : Int) := by omega
        have hle : max (refsS (few h[i])).length 1 ≤ 41 := by omega
        have hp : w * max (refsS (few h[i])).length 1 ≤ 3000 * 41 := Nat.mul_le_mul w2 hle
        unfold mulI
        rw [e, ← Int.natCast_mul]
        exact wrap_i64_id (by omega) (by omega)
      rw [if_pos (by omega), if_pos (by omega), if_pos (by omega), em, List.drop_eq_getElem_cons hin, List.getElem_take]
      by_cases hg : 3000 < w * max (refsS (few h[i])).length 1
      · rw [if_pos (by omega)]
        unfold fewW
        rw [if_pos hg, List.append_nil]
      · have hpos : 1 ≤ w * max (refsS (few h[i])).length 1 := Nat.mul_pos w1 (by omega)
        rw [if_neg (by omega), if_pos (by rw [List.length_append]; show _ + 1 ≤ _; omega), add1 i (by omega)]
        rw [ih (i + 1) _ _ (by omega) (by omega) hpos (by omega) (by rw [List.length_append]; show _ + 1 ≤ _; omega) (by omega)]
        rw [show fewW w (h[i] :: (h.take 12).drop (i + 1)) = few h[i] :: fewW (w * max (refsS (few h[i])).length 1) ((h.take 12).drop (i + 1)) by rw [fewW, if_neg hg]]
        rw [List.append_assoc]
        rfl
    · have e : (h.take 12).drop i = [] := List.drop_eq_nil_of_le (by rw [List.length_take]; omega)
      rw [law17_Few.l0.eq, law17_Few.j1.eq, law17_Few.j1.eq, e]
      simp only [ltI_d, ofN_d, lenL_d, br_if, br_f]
      rw [if_neg (by omega)]
      have e' : acc ++ fewW w [] = acc := by unfold fewW; exact List.append_nil _
      rw [e']
theorem fewH_wf {h : List NodeV} (hw : wfD (.list tapiNode) h) : law17_Few h = some (fewH h) := by
  rw [law17_Few.eq]
  have := fewH_loop h hw.1 (fun n hn => by
    obtain ⟨_, _, _, _, hk, _, hl, _⟩ := hw.2 n hn
    exact ⟨hk.1, hl.1, few_okN (hw.2 n hn)⟩) 12 0 1 [] (by omega) (by omega) (by omega) (by omega) (by simp) (by omega)
  exact this
theorem fewH_ok {h : List NodeV} (ho : okH h) : law17_Few h = some (fewH h) := by
  rw [law17_Few.eq]
  have hl := ho.len
  have := fewH_loop h (by omega) (fun n hn => by
    have o := ho.node n hn
    have h1 := o.kids
    have h2 := o.list
    refine ⟨by omega, by omega, ⟨?_, ?_, o.map0, o.map1, ?_, Nat.le_trans (fewL_len _) (by omega), fewL_ok _⟩⟩
    · show (cut 40 _).size ≤ 40; rw [cut_size]; omega
    · show (cut 40 _).size ≤ 40; rw [cut_size]; omega
    · show (List.take 40 _).length ≤ 1000000; rw [List.length_take]; omega) 12 0 1 [] (by omega) (by omega) (by omega) (by omega) (by simp) (by omega)
  exact this
/-! ### Whether a heap may be -/
def mayHL : Nat → List NodeV → Bool
  | _, [] => true
  | i, n :: l => (decide (mayS n = 0) && (refsS n).all fun r => decide (1 ≤ r ∧ r ≤ (i : Int))) && mayHL (i + 1) l
def mayH (h : List NodeV) : Bool := mayHL 0 h
theorem drop_all {p : Int → Bool} (l : List Int) (k : Nat) (h : k < l.length) : (l.drop k).all p = (p l[k] && (l.drop (k + 1)).all p) := by
  rw [List.drop_eq_getElem_cons h, List.all_cons]
theorem maych_l1 (h : List NodeV) (n i : Nat) (refs : List Int) (hr : refs.length ≤ 50000000) (d : Nat) : ∀ (k : Nat), k ≤ refs.length → refs.length - k = d →
    heap_May.l1 i h n i refs refs.length k = if ((refs.drop k).all fun r => decide (1 ≤ r ∧ r ≤ (i : Int))) = true then heap_May.l0 h n (addI .i64 i 1) else some 4 := by
  induction d with
  | zero =>
    intro k hk hd
    rw [heap_May.l1.eq]
    simp only [ltI_d, br_if]
    rw [if_neg (by omega), List.drop_eq_nil_of_le (by omega)]
    rfl
  | succ d ih =>
    intro k hk hd
    have hkl : k < refs.length := by omega
    rw [heap_May.l1.eq, ixR refs k hkl]
    simp only [ltI_d, leI_d, ofN_d, lenL_d, andB_d, br_if]
    rw [if_pos (by omega), if_pos (by omega), add1 k (by omega), ih (k + 1) (by omega) (by omega), drop_all refs k hkl]
    by_cases h1 : refs[k] < 1
    · rw [if_pos h1, decide_eq_false (by omega), Bool.false_and, if_neg (by simp)]
    · rw [if_neg h1]
      by_cases h2 : (i : Int) < refs[k]
      · rw [if_pos h2, decide_eq_false (by omega), Bool.false_and, if_neg (by simp)]
      · rw [if_neg h2, decide_eq_true (by omega), Bool.true_and]
theorem mayh_loop (h : List NodeV) (hl : h.length ≤ 50000000) (ho : ∀ n ∈ h, okN n) (d : Nat) : ∀ (i : Nat), i ≤ h.length → h.length - i = d → heap_May.l0 h h.length i = some (if mayHL i (h.drop i) = true then 0 else 4) := by
  induction d with
  | zero =>
    intro i hi hd
    rw [heap_May.l0.eq]
    simp only [ltI_d, br_if]
    rw [if_neg (by omega), List.drop_eq_nil_of_le (by omega)]
    rfl
  | succ d ih =>
    intro i hi hd
    have hil : i < h.length := by omega
    have o := ho _ (List.getElem_mem hil)
    have hrl := refsS_len h[i]
    have hkl := o.kids
    rw [heap_May.l0.eq, ixN h i hil, may_any _ o, bnd_some, refs_any _ o, bnd_some]
    simp only [ltI_d, leI_d, eqI_d, notB_d, ofN_d, lenL_d, andB_d, br_if]
    rw [if_pos (by omega), if_pos (by omega), List.drop_eq_getElem_cons hil]
    unfold mayHL
    by_cases hm : mayS h[i] = 0
    · rw [if_neg (fun q => q hm), decide_eq_true hm, Bool.true_and]
      have := maych_l1 h h.length i (refsS h[i]) (by omega) (refsS h[i]).length 0 (by omega) (by omega)
      rw [show ((0 : Nat) : Int) = 0 from rfl] at this
      rw [this, add1 i (by omega), ih (i + 1) (by omega) (by omega), List.drop_zero]
      cases (refsS h[i]).all fun r => decide (1 ≤ r ∧ r ≤ (i : Int)) with
      | true => rw [if_pos rfl, Bool.true_and]
      | false => rw [if_neg (by simp), Bool.false_and, if_neg (by simp)]
    · rw [if_pos hm, decide_eq_false hm, Bool.false_and, Bool.false_and, if_neg (by simp)]
theorem mayh_any (h : List NodeV) (ho : okH h) : heap_May h = some (if mayH h = true then 0 else 4) := by
  have hl := ho.len
  rw [heap_May.eq]
  exact mayh_loop h (by omega) ho.node h.length 0 (by omega) (by omega)
theorem refmaych_l1 (h : List NodeV) (i : Nat) (hi : i < h.length) (o : okN h[i]) (refs : List Int) (hr : refs.length ≤ 50000000) (d : Nat) : ∀ (k : Nat), k ≤ refs.length → refs.length - k = d →
    ref17_May.l1 h i refs k = if ((refs.drop k).all fun r => decide (1 ≤ r ∧ r ≤ (i : Int))) = true then (if mayS h[i] = 0 then ref17_May.l0 h (addI .i64 i 1) else some false) else some false := by
  induction d with
  | zero =>
    intro k hk hd
    rw [ref17_May.l1.eq, ixN h i hi, refmay_any _ o, bnd_some]
    simp only [ltI_d, leI_d, eqI_d, notB_d, ofN_d, lenL_d, andB_d, br_if]
    rw [if_neg (by omega), if_pos (by omega), List.drop_eq_nil_of_le (by omega), List.all_nil, if_pos rfl]
    by_cases hm : mayS h[i] = 0
    · rw [if_neg (fun q => q hm), if_pos hm]
    · rw [if_pos hm, if_neg hm]
  | succ d ih =>
    intro k hk hd
    have hkl : k < refs.length := by omega
    rw [ref17_May.l1.eq, ixR refs k hkl]
    simp only [ltI_d, leI_d, ofN_d, lenL_d, andB_d, br_if]
    rw [if_pos (by omega), if_pos (by omega), add1 k (by omega), ih (k + 1) (by omega) (by omega), drop_all refs k hkl]
    by_cases h1 : refs[k] < 1
    · rw [if_pos h1, decide_eq_false (by omega), Bool.false_and, if_neg (by simp)]
    · rw [if_neg h1, if_pos (by omega)]
      by_cases h2 : (i : Int) < refs[k]
      · rw [if_pos h2, decide_eq_false (by omega), Bool.false_and, if_neg (by simp)]
      · rw [if_neg h2, decide_eq_true (by omega), Bool.true_and]
theorem refmayh_loop (h : List NodeV) (hl : h.length ≤ 50000000) (ho : ∀ n ∈ h, okN n) (d : Nat) : ∀ (i : Nat), i ≤ h.length → h.length - i = d → ref17_May.l0 h i = some (mayHL i (h.drop i)) := by
  induction d with
  | zero =>
    intro i hi hd
    rw [ref17_May.l0.eq]
    simp only [ltI_d, ofN_d, lenL_d, br_if]
    rw [if_neg (by omega), List.drop_eq_nil_of_le (by omega)]
    rfl
  | succ d ih =>
    intro i hi hd
    have hil : i < h.length := by omega
    have o := ho _ (List.getElem_mem hil)
    have hrl := refsS_len h[i]
    have hkl := o.kids
    rw [ref17_May.l0.eq, ixN h i hil, refrefs_any _ o, bnd_some]
    simp only [ltI_d, leI_d, ofN_d, lenL_d, andB_d, br_if]
    have := refmaych_l1 h i hil o (refsS h[i]) (by omega) (refsS h[i]).length 0 (by omega) (by omega)
    rw [show ((0 : Nat) : Int) = 0 from rfl] at this
    rw [if_pos (by omega), if_pos (by omega), this, add1 i (by omega), ih (i + 1) (by omega) (by omega), List.drop_zero, List.drop_eq_getElem_cons hil]
    rw [show mayHL i (h[i] :: h.drop (i + 1)) = ((decide (mayS h[i] = 0) && (refsS h[i]).all fun r => decide (1 ≤ r ∧ r ≤ (i : Int))) && mayHL (i + 1) (h.drop (i + 1))) from rfl]
    cases (refsS h[i]).all fun r => decide (1 ≤ r ∧ r ≤ (i : Int)) with
    | true =>
      rw [if_pos rfl, Bool.and_true]
      by_cases hm : mayS h[i] = 0
      · rw [if_pos hm, decide_eq_true hm, Bool.true_and]
      · rw [if_neg hm, decide_eq_false hm, Bool.false_and]
    | false => rw [if_neg (by simp), Bool.and_false, Bool.false_and]
theorem refmayh_any (h : List NodeV) (ho : okH h) : ref17_May h = some (mayH h) := by
  have hl := ho.len
  rw [ref17_May.eq]
  exact refmayh_loop h (by omega) ho.node h.length 0 (by omega) (by omega)
end Go.Proofs.Ytmopkbmcilolgaa.AC
set_option linter.unusedVariables false
set_option linter.unusedSimpArgs false
namespace Go.Proofs.Ytmopkbmcilolgaa.AC
open Go.Abs
def bindsS (n : NodeV) : List PairV := if n.1 = 1 ∨ n.1 = 4 ∨ n.1 = 6 then [(n.2.1, (n.2.2.1, ()))] else if n.1 = 3 then n.2.2.2.2.2.2.1 else []
theorem binds_any (n : NodeV) (h : okN n) : node_Binds n = some ((), (bindsS n, ())) := by
  have hl := h.list
  rw [node_Binds.eq]
  unfold bindsS
  simp only [eqI_d, br_if]
  by_cases h1 : n.1 = 1
  · rw [if_pos h1, if_pos (.inl h1)]
  rw [if_neg h1]
  by_cases h6 : n.1 = 6
  · rw [if_pos h6, if_pos (.inr (.inr h6))]
  rw [if_neg h6]
  by_cases h4 : n.1 = 4
  · rw [if_pos h4, if_pos (.inr (.inl h4))]
  rw [if_neg h4, if_neg (show ¬ (n.1 = 1 ∨ n.1 = 4 ∨ n.1 = 6) by omega)]
  by_cases h3 : n.1 = 3
  · rw [if_pos h3, if_pos h3, cloneP_any _ (by omega), bnd_some]
  · rw [if_neg h3, if_neg h3]
theorem refbinds_any (n : NodeV) : ref13_Binds n = some (bindsS n) := by
  rw [ref13_Binds.eq]
  unfold bindsS
  simp only [eqI_d, br_if]
  by_cases h1 : n.1 = 1
  · rw [if_pos h1, if_pos (.inl h1)]
  by_cases h4 : n.1 = 4
  · rw [if_neg h1, if_pos h4, if_pos (.inr (.inl h4))]
  by_cases h6 : n.1 = 6
  · rw [if_neg h1, if_neg h4, if_pos h6, if_pos (.inr (.inr h6))]
  rw [if_neg h1, if_neg h4, if_neg h6, if_neg (show ¬ (n.1 = 1 ∨ n.1 = 4 ∨ n.1 = 6) by omega)]
  by_cases h3 : n.1 = 3
  · rw [if_pos h3, if_pos h3]
  · rw [if_neg h3, if_neg h3]
end Go.Proofs.Ytmopkbmcilolgaa.AC
set_option linter.unusedVariables false
set_option linter.unusedSimpArgs false
namespace Go.Proofs.Ytmopkbmcilolgaa.AC
open Go.Abs
/-! ### Nodes that may be -/
theorem mayS_zero {n : NodeV} (h : mayS n = 0) : 1 ≤ n.1 ∧ n.1 ≤ 6 ∧ longN n = false ∧ formP n := by
  unfold mayS at h
  by_cases h1 : n.1 < 1
  · rw [if_pos h1] at h; cases h
  rw [if_neg h1] at h
  by_cases h2 : 6 < n.1
  · rw [if_pos h2] at h; cases h
  rw [if_neg h2] at h
  by_cases h3 : longN n = true
  · rw [if_pos h3] at h; cases h
  rw [if_neg h3] at h
  by_cases h4 : formP n
  · exact ⟨by omega, by omega, by simpa using h3, h4⟩
  · rw [if_neg h4] at h; cases h
theorem form_tree {n : NodeV} (h : formP n) (h4 : n.1 = 4) : n.2.2.2.1 = 0 ∧ n.2.2.2.2.1.length = 2 ∧ 1 ≤ n.2.2.2.2.2.2.2.1 ∧ n.2.2.2.2.2.1 = 0 ∧ n.2.2.2.2.2.2.1 = [] := by
  unfold formP at h
  obtain ⟨_, h⟩ := h
  rw [if_neg (by omega), if_neg (by omega), if_neg (by omega), if_pos h4] at h
  obtain ⟨h1, h2, h3, hb⟩ := h
  unfold bareP at hb
  exact ⟨h1, h2, h3, hb.2.2.1 rfl, hb.2.2.2 rfl⟩
/-! ### All references of a node, none among them -/
def stripV (n : NodeV) : NodeV := (n.1, (n.2.1, (n.2.2.1, (n.2.2.2.1, ([], (0, (n.2.2.2.2.2.2.1, (n.2.2.2.2.2.2.2.1, (0, ())))))))))
def allK (n : NodeV) : List Int := n.2.2.2.2.1 ++ [n.2.2.2.2.2.1]
theorem refsS_all (n : NodeV) : refsS n = (allK n).filter (fun r => decide (r ≠ 0)) := by
  unfold refsS allK
  rw [List.filter_append]
  by_cases h : n.2.2.2.2.2.1 = 0
  · rw [if_neg (by intro q; exact q h), List.filter_cons_of_neg (by simp [h])]; rfl
  · rw [if_pos h, List.filter_cons_of_pos (by simp [h])]; rfl
theorem allK_len (n : NodeV) : (allK n).length = n.2.2.2.2.1.length + 1 := by unfold allK; simp
/-- A shape: what is below a reference. -/
inductive Shp where
  | nil
  | node (b : NodeV) (l : List Shp)
def getN (h : List NodeV) (r : Int) : NodeV := h.getD (r - 1).toNat zeroN
theorem getN_ix (h : List NodeV) (i : Nat) (hi : i < h.length) : getN h ((i : Int) + 1) = h[i] := by
  unfold getN
  rw [show ((i : Int) + 1 - 1).toNat = i by omega, List.getD_eq_getElem?_getD, List.getElem?_eq_getElem hi]; rfl
theorem getN_mem (h : List NodeV) (r : Int) (h1 : 1 ≤ r) (h2 : r ≤ h.length) : getN h r ∈ h := by
  obtain ⟨i, rfl⟩ : ∃ i : Nat, r = (i : Int) + 1 := ⟨(r - 1).toNat, by omega⟩
  rw [getN_ix h i (by omega)]
  exact List.getElem_mem _
theorem sub1I (r : Int) (h1 : 1 ≤ r) (h2 : r ≤ 1000000000) : subI .i64 r 1 = r - 1 := subI_d (by omega) (by omega)
theorem ixG (h : List NodeV) (r : Int) (h1 : 1 ≤ r) (h2 : r ≤ h.length) (h3 : h.length ≤ 50000000) : ixL tapiNode h (subI .i64 r 1) = getN h r := by
  obtain ⟨i, rfl⟩ : ∃ i : Nat, r = (i : Int) + 1 := ⟨(r - 1).toNat, by omega⟩
  rw [sub1I _ h1 (by omega), getN_ix h i (by omega), show ((i : Int) + 1 - 1) = (i : Int) by omega]
  exact ixN h i (by omega)
theorem inG (h : List NodeV) (r : Int) (h1 : 1 ≤ r) (h2 : r ≤ h.length) (h3 : h.length ≤ 50000000) : andB (leI 0 (subI .i64 r 1)) (ltI (subI .i64 r 1) (ofN (lenL tapiNode h))) = true := by
  rw [sub1I r h1 (by omega), leI_d, ltI_d, andB_d]
  refine decide_eq_true ⟨by omega, ?_⟩
  show r - 1 < (h.length : Int)
  omega
def unf (h : List NodeV) : Nat → Int → Shp
  | 0, _ => .nil
  | k + 1, r => if r = 0 then .nil else .node (stripV (getN h r)) ((allK (getN h r)).map (unf h k))
def U (h : List NodeV) (r : Int) : Shp := unf h r.toNat r
theorem mayHL_at : ∀ (l : List NodeV) (i : Nat), mayHL i l = true → ∀ (j : Nat) (hj : j < l.length), mayS l[j] = 0 ∧ ∀ r ∈ refsS l[j], 1 ≤ r ∧ r ≤ ((i + j : Nat) : Int)
  | n :: l, i, h, j, hj => by
    unfold mayHL at h
    simp only [Bool.and_eq_true, decide_eq_true_eq, List.all_eq_true] at h
    obtain ⟨⟨h1, h2⟩, h3⟩ := h
    cases j with
    | zero => exact ⟨h1, h2⟩
    | succ j =>
      have := mayHL_at l (i + 1) h3 j (by simpa using hj)
      rw [show i + 1 + j = i + (j + 1) by omega] at this
      exact this
theorem mayHL_of : ∀ (l : List NodeV) (i : Nat), (∀ (j : Nat) (hj : j < l.length), mayS l[j] = 0 ∧ ∀ r ∈ refsS l[j], 1 ≤ r ∧ r ≤ ((i + j : Nat) : Int)) → mayHL i l = true
  | [], _, _ => rfl
  | n :: l, i, h => by
    unfold mayHL
    simp only [Bool.and_eq_true, decide_eq_true_eq, List.all_eq_true]
    refine ⟨h 0 (by simp), mayHL_of l (i + 1) fun j hj => ?_⟩
    have := h (j + 1) (by simpa using hj)
    rw [show i + (j + 1) = i + 1 + j by omega] at this
    exact this
theorem may_node {h : List NodeV} (hm : mayH h = true) {r : Int} (h1 : 1 ≤ r) (h2 : r ≤ h.length) : mayS (getN h r) = 0 ∧ ∀ k ∈ allK (getN h r), k = 0 ∨ (1 ≤ k ∧ k ≤ r - 1) := by
  obtain ⟨i, rfl⟩ : ∃ i : Nat, r = (i : Int) + 1 := ⟨(r - 1).toNat, by omega⟩
  rw [getN_ix h i (by omega)]
  obtain ⟨a, b⟩ := mayHL_at h 0 hm i (by omega)
  refine ⟨a, fun k hk => ?_⟩
  by_cases e : k = 0
  · exact .inl e
  · have := b k (by rw [refsS_all]; exact List.mem_filter.2 ⟨hk, by simp [e]⟩)
    exact .inr ⟨this.1, by omega⟩
theorem unf_zero (h : List NodeV) (k : Nat) : unf h k 0 = .nil := by
  cases k with
  | zero => rfl
  | succ k => unfold unf; exact if_pos rfl
theorem unf_fuel {h : List NodeV} (hm : mayH h = true) : ∀ (n : Nat) (r : Int) (k k' : Nat), 0 ≤ r → r ≤ n → r ≤ h.length → r.toNat ≤ k → r.toNat ≤ k' → unf h k r = unf h k' r := by
  intro n
  induction n with
  | zero =>
    intro r k k' h0 h1 h2 h3 h4
    have : r = 0 := by omega
    subst this
    rw [unf_zero, unf_zero]
  | succ n ih =>
    intro r k k' h0 h1 h2 h3 h4
    by_cases e : r = 0
    · subst e; rw [unf_zero, unf_zero]
    obtain ⟨k, rfl⟩ : ∃ j, k = j + 1 := ⟨k - 1, by omega⟩
    obtain ⟨k', rfl⟩ : ∃ j, k' = j + 1 := ⟨k' - 1, by omega⟩
    unfold unf
    rw [if_neg e, if_neg e]
    congr 1
    refine List.map_congr_left fun x hx => ?_
    rcases (may_node hm (by omega) h2).2 x hx with rfl | ⟨g1, g2⟩
    · rw [unf_zero, unf_zero]
    · exact ih x k k' (by omega) (by omega) (by omega) (by omega) (by omega)
theorem U_zero (h : List NodeV) : U h 0 = .nil := unf_zero h _
theorem U_node {h : List NodeV} (hm : mayH h = true) {r : Int} (h1 : 1 ≤ r) (h2 : r ≤ h.length) : U h r = .node (stripV (getN h r)) ((allK (getN h r)).map (U h)) := by
  unfold U
  obtain ⟨k, hk⟩ : ∃ j, r.toNat = j + 1 := ⟨r.toNat - 1, by omega⟩
  rw [hk, unf, if_neg (by omega)]
  congr 1
  refine List.map_congr_left fun x hx => ?_
  rcases (may_node hm h1 h2).2 x hx with rfl | ⟨g1, g2⟩
  · rw [unf_zero, unf_zero]
  · exact unf_fuel hm x.toNat x k x.toNat (by omega) (by omega) (by omega) (by omega) (by omega)
theorem U_nil {h : List NodeV} (hm : mayH h = true) {r : Int} (h1 : 0 ≤ r) (h2 : r ≤ h.length) : U h r = .nil ↔ r = 0 := by
  constructor
  · intro e
    by_cases q : r = 0
    · exact q
    · rw [U_node hm (by omega) h2] at e; cases e
  · rintro rfl; exact U_zero h
/-! ### Whether heaps may be, and references fit -/
def fitH (h : List NodeV) (r : Int) : Bool := decide (0 ≤ r ∧ r ≤ h.length) && mayH h
theorem hmay_any (h : List NodeV) (ho : okH h) (r : Int) : heap_may h r = some (if fitH h r = true then 0 else 4) := by
  rw [heap_may.eq, mayh_any h ho, bnd_some]
  unfold fitH
  simp only [ltI_d, leI_d, ofN_d, lenL_d, br_if]
  by_cases h1 : r < 0
  · rw [if_pos h1, decide_eq_false (by omega), Bool.false_and, if_neg (by simp)]
  rw [if_neg h1]
  by_cases h2 : (h.length : Int) < r
  · rw [if_pos h2, decide_eq_false (by omega), Bool.false_and, if_neg (by simp)]
  rw [if_neg h2, decide_eq_true (by omega), Bool.true_and]
theorem fits_any (h : List NodeV) (ho : okH h) (r : Int) : ref17_Fits h r = some (fitH h r) := by
  rw [ref17_Fits.eq, refmayh_any h ho, bnd_some]
  unfold fitH
  simp only [ltI_d, leI_d, ofN_d, lenL_d, br_if]
  by_cases h1 : 0 ≤ r
  · rw [if_pos h1]
    by_cases h2 : r ≤ (h.length : Int)
    · rw [if_pos h2, decide_eq_true ⟨h1, h2⟩, Bool.true_and]
    · rw [if_neg h2, decide_eq_false (fun q => h2 q.2), Bool.false_and]
  · rw [if_neg h1, decide_eq_false (fun q => h1 q.1), Bool.false_and]
theorem fitH_iff {h : List NodeV} {r : Int} : fitH h r = true ↔ (0 ≤ r ∧ r ≤ h.length) ∧ mayH h = true := by
  unfold fitH; simp
/-! ### The bindings below a shape -/
mutual
def bindsT : Shp → List PairV
  | .nil => []
  | .node b l => if b.1 = 4 then (bindsL l).getD 0 [] ++ bindsS b ++ (bindsL l).getD 1 [] else bindsS b ++ (bindsL l).flatten
def bindsL : List Shp → List (List PairV)
  | [] => []
  | s :: l => bindsT s :: bindsL l
end
theorem bindsL_map : ∀ l, bindsL l = l.map bindsT
  | [] => by rw [bindsL]; rfl
  | s :: l => by rw [bindsL, bindsL_map l]; rfl
theorem bindsT_nil : bindsT .nil = [] := by rw [bindsT]
theorem bindsT_node (b : NodeV) (l : List Shp) : bindsT (.node b l) = if b.1 = 4 then ((l.map bindsT).getD 0 []) ++ bindsS b ++ ((l.map bindsT).getD 1 []) else bindsS b ++ (l.map bindsT).flatten := by
  rw [bindsT, bindsL_map]
theorem bindsS_strip (n : NodeV) : bindsS (stripV n) = bindsS n := rfl
theorem flat_refs (f : Int → List PairV) (hf : f 0 = []) : ∀ l : List Int, (l.map f).flatten = ((l.filter (fun r => decide (r ≠ 0))).map f).flatten
  | [] => rfl
  | r :: l => by
    by_cases h : r = 0
    · rw [List.filter_cons_of_neg (by simp [h]), List.map_cons, List.flatten_cons, h, hf, List.nil_append, flat_refs f hf l]
    · rw [List.filter_cons_of_pos (by simp [h]), List.map_cons, List.map_cons, List.flatten_cons, List.flatten_cons, flat_refs f hf l]
theorem bindsU_refs {h : List NodeV} (hm : mayH h = true) {r : Int} (h1 : 1 ≤ r) (h2 : r ≤ h.length) (h4 : (getN h r).1 ≠ 4) : bindsT (U h r) = bindsS (getN h r) ++ ((refsS (getN h r)).map fun x => bindsT (U h x)).flatten := by
  rw [U_node hm h1 h2, bindsT_node, if_neg (show ¬ (stripV (getN h r)).1 = 4 from h4), bindsS_strip, List.map_map, refsS_all]
  congr 1
  exact flat_refs (fun x => bindsT (U h x)) (by rw [U_zero, bindsT_nil]) _
theorem bindsU_tree {h : List NodeV} (hm : mayH h = true) {r : Int} (h1 : 1 ≤ r) (h2 : r ≤ h.length) (h4 : (getN h r).1 = 4) :
    ∃ a b : Int, (getN h r).2.2.2.2.1 = [a, b] ∧ (getN h r).2.2.2.2.2.1 = 0 ∧ (a = 0 ∨ (1 ≤ a ∧ a ≤ r - 1)) ∧ (b = 0 ∨ (1 ≤ b ∧ b ≤ r - 1)) ∧ bindsT (U h r) = bindsT (U h a) ++ bindsS (getN h r) ++ bindsT (U h b) := by
  obtain ⟨g1, g2⟩ := may_node hm h1 h2
  obtain ⟨_, k2, _, k4, _⟩ := form_tree (mayS_zero g1).2.2.2 h4
  obtain ⟨a, b, e⟩ : ∃ a b, (getN h r).2.2.2.2.1 = [a, b] := by
    match hk : (getN h r).2.2.2.2.1, k2 with
    | [a, b], _ => exact ⟨a, b, rfl⟩
  have ea : allK (getN h r) = [a, b, 0] := by unfold allK; rw [e, k4]; rfl
  refine ⟨a, b, e, k4, g2 a (by rw [ea]; simp), g2 b (by rw [ea]; simp), ?_⟩
  rw [U_node hm h1 h2, bindsT_node, if_pos (show (stripV (getN h r)).1 = 4 from h4), bindsS_strip, ea]
  rfl
theorem ix0 (l : List Int) (a b : Int) (h : l = [a, b]) : ixL (.int .i64) l 0 = a ∧ ixL (.int .i64) l 1 = b := by subst h; exact ⟨rfl, rfl⟩
theorem in01 (l : List Int) (a b : Int) (h : l = [a, b]) : andB (leI 0 0) (ltI 0 (ofN (lenL (.int .i64) l))) = true ∧ andB (leI 0 1) (ltI 1 (ofN (lenL (.int .i64) l))) = true := by
  subst h; exact ⟨rfl, rfl⟩
theorem flat_sub {l : List (List PairV)} {x : List PairV} (h : x ∈ l) : x.length ≤ l.flatten.length := by
  induction l with
  | nil => cases h
  | cons y l ih =>
    rw [List.flatten_cons, List.length_append]
    rcases List.mem_cons.1 h with rfl | h
    · omega
    · have := ih h; omega
/-- What the loops over references do. -/
theorem hbinds_loop {h : List NodeV} (ho : okH h) (refs : List Int) (hr : refs.length ≤ 50000000) (hb : ∀ x ∈ refs, heap_binds h x = some ((), (bindsT (U h x), ()))) (d : Nat) : ∀ (i : Nat) (acc : List PairV), i ≤ refs.length → refs.length - i = d →
    (acc ++ ((refs.drop i).map fun x => bindsT (U h x)).flatten).length ≤ 1000000000 → heap_binds.l0 h refs refs.length i acc = some ((), (acc ++ ((refs.drop i).map fun x => bindsT (U h x)).flatten, ())) := by
  induction d with
  | zero =>
    intro i acc h1 h2 h3
    rw [heap_binds.l0.eq]
    simp only [ltI_d, br_if]
    rw [if_neg (by omega), List.drop_eq_nil_of_le (by omega)]
    simp
  | succ d ih =>
    intro i acc h1 h2 h3
    have hi : i < refs.length := by omega
    rw [List.drop_eq_getElem_cons hi, List.map_cons, List.flatten_cons, ← List.append_assoc] at h3
    rw [heap_binds.l0.eq]
    simp only [ltI_d, leI_d, ofN_d, lenL_d, andB_d, br_if]
    rw [if_pos (by omega), if_pos (by omega), ixR refs i hi, hb _ (List.getElem_mem hi), bnd_some]
    simp only [fitL_d, appL_d, br_if]
    rw [if_pos (by rw [List.length_append] at h3; omega), add1 i (by omega), ih (i + 1) _ (by omega) (by omega) h3, List.drop_eq_getElem_cons hi, List.map_cons, List.flatten_cons, List.append_assoc]
theorem hbinds_any {h : List NodeV} (ho : okH h) (hm : mayH h = true) : ∀ (n : Nat) (r : Int), 0 ≤ r → r ≤ n → r ≤ h.length → (bindsT (U h r)).length ≤ 1000000000 → heap_binds h r = some ((), (bindsT (U h r), ())) := by
  have hlen := ho.len
  intro n
  induction n with
  | zero =>
    intro r h0 h1 h2 h3
    have : r = 0 := by omega
    subst this
    rw [heap_binds.eq, eqI_d, br_if, if_pos rfl, U_zero, bindsT_nil]
  | succ n ih =>
    intro r h0 h1 h2 h3
    by_cases e : r = 0
    · subst e
      rw [heap_binds.eq, eqI_d, br_if, if_pos rfl, U_zero, bindsT_nil]
    have hr1 : 1 ≤ r := by omega
    have o := ho.node _ (getN_mem h r hr1 h2)
    rw [heap_binds.eq, eqI_d, br_if, if_neg e, inG h r hr1 h2 (by omega), br_t, ixG h r hr1 h2 (by omega), eqI_d, br_if]
    by_cases h4 : (getN h r).1 = 4
    · obtain ⟨a, b, k1, k2, k3, k4, k5⟩ := bindsU_tree hm hr1 h2 h4
      rw [k5, List.length_append, List.length_append] at h3
      rw [if_pos h4, (in01 _ a b k1).1, br_t, (in01 _ a b k1).2, br_t, (ix0 _ a b k1).1, (ix0 _ a b k1).2, ih a (by omega) (by omega) (by omega) (by omega), bnd_some, binds_any _ o, bnd_some]
      simp only [fitL_d, appL_d, br_if]
      rw [if_pos (by rw [List.length_append]; omega), ih b (by omega) (by omega) (by omega) (by omega), bnd_some]
      simp only [fitL_d, appL_d, br_if]
      rw [if_pos (by rw [List.length_append, List.length_append]; omega), k5]
    · have k5 := bindsU_refs hm hr1 h2 h4
      have hrl := refsS_len (getN h r)
      have hkl := o.kids
      rw [k5] at h3
      have hx := (may_node hm hr1 h2).2
      have hb : ∀ x ∈ refsS (getN h r), heap_binds h x = some ((), (bindsT (U h x), ())) := by
        intro x hx'
        have hq := hx'
        rw [refsS_all] at hq
        have := hx x (List.mem_filter.1 hq).1
        refine ih x (by omega) (by omega) (by omega) ?_
        have := flat_sub (List.mem_map.2 ⟨x, hx', rfl⟩ : bindsT (U h x) ∈ (refsS (getN h r)).map fun x => bindsT (U h x))
        rw [List.length_append] at h3
        omega
      rw [if_neg h4, binds_any _ o, bnd_some, refs_any _ o, bnd_some]
      have := hbinds_loop ho (refsS (getN h r)) (by omega) hb (refsS (getN h r)).length 0 (bindsS (getN h r)) (by omega) (by omega) (by rw [List.drop_zero]; exact h3)
      rw [List.drop_zero, show ((0 : Nat) : Int) = 0 from rfl] at this
      rw [k5]
      exact this
theorem refhbinds_loop {h : List NodeV} (ho : okH h) (refs : List Int) (hr : refs.length ≤ 50000000) (hb : ∀ x ∈ refs, ref17_Binds h x = some (bindsT (U h x))) (d : Nat) : ∀ (i : Nat) (acc : List PairV), i ≤ refs.length → refs.length - i = d →
    (acc ++ ((refs.drop i).map fun x => bindsT (U h x)).flatten).length ≤ 1000000000 → ref17_Binds.l0 h refs i acc = some (acc ++ ((refs.drop i).map fun x => bindsT (U h x)).flatten) := by
  induction d with
  | zero =>
    intro i acc h1 h2 h3
    rw [ref17_Binds.l0.eq]
    simp only [ltI_d, ofN_d, lenL_d, br_if]
    rw [if_neg (by omega), List.drop_eq_nil_of_le (by omega)]
    simp
  | succ d ih =>
    intro i acc h1 h2 h3
    have hi : i < refs.length := by omega
    rw [List.drop_eq_getElem_cons hi, List.map_cons, List.flatten_cons, ← List.append_assoc] at h3
    rw [ref17_Binds.l0.eq]
    simp only [ltI_d, leI_d, ofN_d, lenL_d, andB_d, br_if]
    rw [if_pos (by omega), if_pos (by omega), ixR refs i hi, hb _ (List.getElem_mem hi), bnd_some]
    simp only [fitL_d, appL_d, br_if]
    rw [if_pos (by rw [List.length_append] at h3; omega), add1 i (by omega), ih (i + 1) _ (by omega) (by omega) h3, List.drop_eq_getElem_cons hi, List.map_cons, List.flatten_cons, List.append_assoc]
theorem refhbinds_any {h : List NodeV} (ho : okH h) (hm : mayH h = true) : ∀ (n : Nat) (r : Int), 0 ≤ r → r ≤ n → r ≤ h.length → (bindsT (U h r)).length ≤ 1000000000 → ref17_Binds h r = some (bindsT (U h r)) := by
  have hlen := ho.len
  intro n
  induction n with
  | zero =>
    intro r h0 h1 h2 h3
    have : r = 0 := by omega
    subst this
    rw [ref17_Binds.eq, eqI_d, br_if, if_pos rfl, U_zero, bindsT_nil]
  | succ n ih =>
    intro r h0 h1 h2 h3
    by_cases e : r = 0
    · subst e
      rw [ref17_Binds.eq, eqI_d, br_if, if_pos rfl, U_zero, bindsT_nil]
    have hr1 : 1 ≤ r := by omega
    have o := ho.node _ (getN_mem h r hr1 h2)
    rw [ref17_Binds.eq, eqI_d, br_if, if_neg e, inG h r hr1 h2 (by omega), br_t, ixG h r hr1 h2 (by omega), eqI_d, br_if]
    by_cases h4 : (getN h r).1 = 4
    · obtain ⟨a, b, k1, k2, k3, k4, k5⟩ := bindsU_tree hm hr1 h2 h4
      rw [k5, List.length_append, List.length_append] at h3
      rw [if_pos h4, (in01 _ a b k1).1, br_t, (in01 _ a b k1).2, (ix0 _ a b k1).1, (ix0 _ a b k1).2, ih a (by omega) (by omega) (by omega) (by omega), bnd_some]
      simp only [fitL_d, appL_d, br_if, List.nil_append]
      rw [if_pos (by omega), refbinds_any, bnd_some]
      try simp only [fitL_d, appL_d, br_if]
      rw [if_pos (by rw [List.length_append]; omega), br_t, ih b (by omega) (by omega) (by omega) (by omega), bnd_some]
      try simp only [fitL_d, appL_d, br_if]
      rw [if_pos (by rw [List.length_append, List.length_append]; omega), k5]
    · have k5 := bindsU_refs hm hr1 h2 h4
      have hrl := refsS_len (getN h r)
      have hkl := o.kids
      rw [k5] at h3
      have hx := (may_node hm hr1 h2).2
      have hb : ∀ x ∈ refsS (getN h r), ref17_Binds h x = some (bindsT (U h x)) := by
        intro x hx'
        have hq := hx'
        rw [refsS_all] at hq
        have := hx x (List.mem_filter.1 hq).1
        refine ih x (by omega) (by omega) (by omega) ?_
        have := flat_sub (List.mem_map.2 ⟨x, hx', rfl⟩ : bindsT (U h x) ∈ (refsS (getN h r)).map fun x => bindsT (U h x))
        rw [List.length_append] at h3
        omega
      rw [if_neg h4, refbinds_any, bnd_some]
      simp only [fitL_d, appL_d, br_if, List.nil_append]
      rw [if_pos (by rw [List.length_append] at h3; omega), refrefs_any _ o, bnd_some]
      have := refhbinds_loop ho (refsS (getN h r)) (by omega) hb (refsS (getN h r)).length 0 (bindsS (getN h r)) (by omega) (by omega) (by rw [List.drop_zero]; exact h3)
      rw [List.drop_zero, show ((0 : Nat) : Int) = 0 from rfl] at this
      rw [k5]
      exact this
end Go.Proofs.Ytmopkbmcilolgaa.AC
set_option linter.unusedVariables false
set_option linter.unusedSimpArgs false
namespace Go.Proofs.Ytmopkbmcilolgaa.AC
open Go.Abs
noncomputable instance shpDec : DecidableEq Shp := fun _ _ => Classical.propDecidable _
noncomputable def eqSh (a b : Shp) : Bool := decide (a = b)
theorem eqSh_iff {a b : Shp} : eqSh a b = true ↔ a = b := by unfold eqSh; exact decide_eq_true_iff
theorem eqSh_not {a b : Shp} (h : a ≠ b) : eqSh a b = false := by unfold eqSh; exact decide_eq_false h
theorem eqSh_of {a b c d : Shp} (h : (a = b) ↔ (c = d)) : eqSh a b = eqSh c d := by unfold eqSh; exact decide_eq_decide.2 h
noncomputable def eqShL (a b : List Shp) : Bool := decide (a = b)
theorem eqShL_cons (a b : Shp) (l m : List Shp) : eqShL (a :: l) (b :: m) = (eqSh a b && eqShL l m) := by
  unfold eqShL eqSh
  rw [← Bool.decide_and]
  exact decide_eq_decide.2 (by simp)
theorem eqShL_nil : eqShL [] [] = true := by unfold eqShL; exact decide_eq_true rfl
theorem eqShL_iff {a b : List Shp} : eqShL a b = true ↔ a = b := by unfold eqShL; exact decide_eq_true_iff
/-- A node without references, and birth; but whether they are there. -/
def bareV (n : NodeV) : NodeV := (n.1, (n.2.1, (n.2.2.1, (n.2.2.2.1, (n.2.2.2.2.1.map (min · 1), (min n.2.2.2.2.2.1 1, (n.2.2.2.2.2.2.1, (n.2.2.2.2.2.2.2.1, (0, ())))))))))
theorem hbare_loop (m : Nat) (d : Nat) : ∀ (i : Nat) (ks : List Int) (x2 x3) (x5 : List PairV) (x6 : List Int) (x7 : List PairV), ks.length = m → m ≤ 50000000 → i ≤ m → m - i = d →
    heap_bare.l0 (m : Int) i x2 x3 ks x5 x6 x7 = some (x2.1, (x2.2.1, (x2.2.2.1, (x2.2.2.2.1, (ks.take i ++ (ks.drop i).map (min · 1), ((min x2.2.2.2.2.2.1 1), (x5, (x2.2.2.2.2.2.2.2.1, ((0 : Int), ()))))))))) := by
  induction d with
  | zero =>
    intro i ks x2 x3 x5 x6 x7 h1 h2 h3 h4
    rw [heap_bare.l0.eq]
    simp only [ltI_d, minI_d, br_if]
    rw [if_neg (by omega), List.drop_eq_nil_of_le (by omega), List.take_of_length_le (by omega), List.map_nil, List.append_nil]
  | succ d ih =>
    intro i ks x2 x3 x5 x6 x7 h1 h2 h3 h4
    have hi : i < ks.length := by omega
    rw [heap_bare.l0.eq]
    simp only [ltI_d, leI_d, ofN_d, lenL_d, andB_d, minI_d, br_if]
    rw [if_pos (by omega), if_pos (by omega), if_pos (by omega), ixR ks i hi, add1 i (by omega)]
    have e : setL (.int .i64) ks (i : Int) (min ks[i] 1) = ks.set i (min ks[i] 1) := by unfold setL; rw [Int.toNat_natCast]
    rw [e, ih (i + 1) _ _ _ _ _ _ (by rw [List.length_set]; omega) h2 (by omega) (by omega)]
    have e1 : (ks.set i (min ks[i] 1)).take (i + 1) = ks.take i ++ [min ks[i] 1] := by
      rw [List.take_succ_eq_append_getElem (by rw [List.length_set]; exact hi), List.getElem_set_self, List.take_set_of_le (by omega)]
    have e2 : (ks.set i (min ks[i] 1)).drop (i + 1) = ks.drop (i + 1) := List.drop_set_of_lt (by omega)
    rw [e1, e2, List.drop_eq_getElem_cons hi, List.map_cons, List.append_assoc]
    rfl
theorem hbare_any (n : NodeV) (h : okN n) : heap_bare n = some (bareV n) := by
  have hk := h.kids
  rw [heap_bare.eq, copy_any n h, bnd_some]
  have := hbare_loop n.2.2.2.2.1.length n.2.2.2.2.1.length 0 n.2.2.2.2.1 (n.1, (n.2.1, (n.2.2.1, (n.2.2.2.1, ((), (n.2.2.2.2.2.1, ((), n.2.2.2.2.2.2.2))))))) ((0 : Int), (ByteArray.empty, (ByteArray.empty, ((0 : Int), ((), ((0 : Int), ((), ((0 : Int), ((0 : Int), ()))))))))) n.2.2.2.2.2.2.1 [] [] rfl (by omega) (by omega) (by omega)
  rw [List.take_zero, List.drop_zero, List.nil_append, show ((0 : Nat) : Int) = 0 from rfl] at this
  exact this
theorem bare_okN {n : NodeV} (h : okN n) : okN (bareV n) := ⟨h.key, h.val, h.map0, h.map1, by show (n.2.2.2.2.1.map (min · 1)).length ≤ _; rw [List.length_map]; exact h.kids, h.list, h.binds⟩
theorem bare_iff (a b : NodeV) : bareV a = bareV b ↔ stripV a = stripV b ∧ (allK a).map (min · 1) = (allK b).map (min · 1) := by
  rw [node_ext, node_ext]
  unfold bareV stripV allK
  dsimp only
  rw [List.map_append, List.map_append, List.map_singleton, List.map_singleton]
  constructor
  · rintro ⟨h1, h2, h3, h4, h5, h6, h7, h8, _⟩
    exact ⟨⟨h1, h2, h3, h4, rfl, rfl, h7, h8, rfl⟩, by rw [h5, h6]⟩
  · rintro ⟨⟨h1, h2, h3, h4, _, _, h7, h8, _⟩, h5⟩
    obtain ⟨h5, h6⟩ := List.append_inj' h5 rfl
    injection h6 with h6
    exact ⟨h1, h2, h3, h4, h5, h6, h7, h8, rfl⟩
/-- References, none among them, against what is below them. -/
theorem kids_iff {h g : List NodeV} (hz : ∀ k ∈ ([] : List Int), True) : ∀ (l m : List Int), (∀ k ∈ l, 0 ≤ k ∧ (U h k = .nil ↔ k = 0)) → (∀ k ∈ m, 0 ≤ k ∧ (U g k = .nil ↔ k = 0)) →
    ((l.map (min · 1) = m.map (min · 1) ∧ (l.filter (fun r => decide (r ≠ 0))).map (U h) = (m.filter (fun r => decide (r ≠ 0))).map (U g)) ↔ l.map (U h) = m.map (U g))
  | [], [], _, _ => by simp
  | [], b :: m, _, _ => by simp
  | a :: l, [], _, _ => by simp
  | a :: l, b :: m, ha, hb => by
    have ih := kids_iff hz l m (fun k hk => ha k (List.mem_cons_of_mem _ hk)) (fun k hk => hb k (List.mem_cons_of_mem _ hk))
    obtain ⟨a0, a1⟩ := ha a List.mem_cons_self
    obtain ⟨b0, b1⟩ := hb b List.mem_cons_self
    rw [List.map_cons, List.map_cons, List.map_cons, List.map_cons, List.cons.injEq, List.cons.injEq, ← ih]
    by_cases ea : a = 0
    · by_cases eb : b = 0
      · have ua := a1.2 ea
        have ub := b1.2 eb
        rw [List.filter_cons_of_neg (by simp [ea]), List.filter_cons_of_neg (by simp [eb]), ua, ub]
        constructor
        · rintro ⟨⟨_, h1⟩, h2⟩; exact ⟨rfl, h1, h2⟩
        · rintro ⟨_, h1, h2⟩; exact ⟨⟨by omega, h1⟩, h2⟩
      · constructor
        · rintro ⟨⟨h1, _⟩, _⟩; omega
        · rintro ⟨h1, _⟩
          exact absurd (b1.1 (h1.symm.trans (a1.2 ea))) eb
    · by_cases eb : b = 0
      · constructor
        · rintro ⟨⟨h1, _⟩, _⟩; omega
        · rintro ⟨h1, _⟩
          exact absurd (a1.1 (h1.trans (b1.2 eb))) ea
      · rw [List.filter_cons_of_pos (by simp [ea]), List.filter_cons_of_pos (by simp [eb]), List.map_cons, List.map_cons, List.cons.injEq]
        constructor
        · rintro ⟨⟨_, h1⟩, h2, h3⟩; exact ⟨h2, h1, h3⟩
        · rintro ⟨h2, h1, h3⟩; exact ⟨⟨by omega, h1⟩, h2, h3⟩
theorem shape_iff {h g : List NodeV} (hm : mayH h = true) (gm : mayH g = true) {r s : Int} (h1 : 1 ≤ r) (h2 : r ≤ h.length) (g1 : 1 ≤ s) (g2 : s ≤ g.length) :
    U h r = U g s ↔ bareV (getN h r) = bareV (getN g s) ∧ (refsS (getN h r)).map (U h) = (refsS (getN g s)).map (U g) := by
  rw [U_node hm h1 h2, U_node gm g1 g2, bare_iff, refsS_all, refsS_all, Shp.node.injEq, and_assoc]
  refine and_congr_right fun _ => (kids_iff (fun _ hk => by cases hk) _ _ (fun k hk => ?_) (fun k hk => ?_)).symm
  · have := (may_node hm h1 h2).2 k hk
    exact ⟨by omega, U_nil hm (by omega) (by omega)⟩
  · have := (may_node gm g1 g2).2 k hk
    exact ⟨by omega, U_nil gm (by omega) (by omega)⟩
theorem min_filter : ∀ (l m : List Int), l.map (min · 1) = m.map (min · 1) → (∀ k ∈ l, 0 ≤ k) → (∀ k ∈ m, 0 ≤ k) → (l.filter (fun r => decide (r ≠ 0))).length = (m.filter (fun r => decide (r ≠ 0))).length
  | [], [], _, _, _ => rfl
  | [], _ :: _, h, _, _ => by cases h
  | _ :: _, [], h, _, _ => by cases h
  | a :: l, b :: m, h, ha, hb => by
    rw [List.map_cons, List.map_cons, List.cons.injEq] at h
    have ih := min_filter l m h.2 (fun k hk => ha k (List.mem_cons_of_mem _ hk)) (fun k hk => hb k (List.mem_cons_of_mem _ hk))
    have a0 := ha a List.mem_cons_self
    have b0 := hb b List.mem_cons_self
    by_cases ea : a = 0
    · have eb : b = 0 := by have := h.1; omega
      rw [List.filter_cons_of_neg (by simp [ea]), List.filter_cons_of_neg (by simp [eb])]; exact ih
    · have eb : b ≠ 0 := by have := h.1; omega
      rw [List.filter_cons_of_pos (by simp [ea]), List.filter_cons_of_pos (by simp [eb]), List.length_cons, List.length_cons, ih]
theorem hsame_loop {h g : List NodeV} (x y : List Int) (hx : x.length ≤ 50000000) (hxy : x.length = y.length) (hb : ∀ (a b : Int), a ∈ x → b ∈ y → heap_same h a g b = some (eqSh (U h a) (U g b))) (d : Nat) : ∀ (i : Nat), i ≤ x.length → x.length - i = d →
    heap_same.l1 h g x y x.length i = some (eqShL ((x.drop i).map (U h)) ((y.drop i).map (U g))) := by
  induction d with
  | zero =>
    intro i h1 h2
    rw [heap_same.l1.eq]
    simp only [ltI_d, br_if]
    rw [if_neg (by omega), List.drop_eq_nil_of_le (by omega), List.drop_eq_nil_of_le (by omega), List.map_nil, List.map_nil, eqShL_nil]
  | succ d ih =>
    intro i h1 h2
    have hi : i < x.length := by omega
    have hj : i < y.length := by omega
    rw [heap_same.l1.eq]
    simp only [ltI_d, leI_d, ofN_d, lenL_d, andB_d, br_if]
    rw [if_pos (by omega), if_pos (by omega), if_pos (by omega), ixR x i hi, ixR y i hj, hb _ _ (List.getElem_mem hi) (List.getElem_mem hj), bnd_some, add1 i (by omega), ih (i + 1) (by omega) (by omega), List.drop_eq_getElem_cons hi, List.drop_eq_getElem_cons hj, List.map_cons, List.map_cons, eqShL_cons]
    cases eqSh (U h x[i]) (U g y[i]) with
    | true => rw [show notB true = false from rfl, br_f, Bool.true_and]
    | false => rw [show notB false = true from rfl, br_t, Bool.false_and]
theorem hsame_any {h g : List NodeV} (ho : okH h) (hm : mayH h = true) (go : okH g) (gm : mayH g = true) : ∀ (n : Nat) (r s : Int), 0 ≤ r → r ≤ n → r ≤ h.length → 0 ≤ s → s ≤ g.length → heap_same h r g s = some (eqSh (U h r) (U g s)) := by
  have hlen := ho.len
  have glen := go.len
  have zero : ∀ r s : Int, 0 ≤ r → r ≤ h.length → 0 ≤ s → s ≤ g.length → (r = 0 ∨ s = 0) → heap_same h r g s = some (eqSh (U h r) (U g s)) := by
    intro r s h0 h1 g0 g1 hz
    have hj : heap_same.j0 h r g s true = some (eqSh (U h r) (U g s)) := by
      rw [heap_same.j0.eq, br_t, eqI_d]
      refine some_bool ?_
      by_cases e : r = s
      · have e1 : r = 0 := by omega
        have e2 : s = 0 := by omega
        subst e1; subst e2
        rw [U_zero, U_zero, decide_eq_true rfl, eqSh_iff.2 rfl]
      · rw [decide_eq_false e, eqSh_not]
        intro q
        rcases hz with rfl | rfl
        · rw [U_zero] at q; exact e ((U_nil gm g0 g1).1 q.symm).symm
        · rw [U_zero] at q; exact e ((U_nil hm h0 h1).1 q)
    rw [heap_same.eq]
    simp only [eqI_d, br_if]
    by_cases e : r = 0
    · rw [if_pos e]; exact hj
    · rw [if_neg e, decide_eq_true (hz.resolve_left e)]; exact hj
  intro n
  induction n with
  | zero =>
    intro r s h0 h1 h2 g0 g1
    exact zero r s h0 h2 g0 g1 (.inl (by omega))
  | succ n ih =>
    intro r s h0 h1 h2 g0 g1
    by_cases er : r = 0
    · exact zero r s h0 h2 g0 g1 (.inl er)
    by_cases es : s = 0
    · exact zero r s h0 h2 g0 g1 (.inr es)
    have hr1 : 1 ≤ r := by omega
    have hs1 : 1 ≤ s := by omega
    have o := ho.node _ (getN_mem h r hr1 h2)
    have p := go.node _ (getN_mem g s hs1 g1)
    have hx := (may_node hm hr1 h2).2
    have hy := (may_node gm hs1 g1).2
    have hrl := refsS_len (getN h r)
    have hkl := o.kids
    rw [heap_same.eq, eqI_d, br_if, if_neg er, eqI_d, decide_eq_false es, heap_same.j0.eq, br_f, inG h r hr1 h2 (by omega), br_t, inG g s hs1 g1 (by omega), br_t, ixG h r hr1 h2 (by omega), ixG g s hs1 g1 (by omega)]
    simp only [both_self]
    rw [hbare_any _ o, bnd_some, hbare_any _ p, bnd_some, same_any _ _ (bare_okN o), bnd_some, notB_d, br_if, refs_any _ o, bnd_some, refs_any _ p, bnd_some]
    by_cases hb : bareV (getN h r) = bareV (getN g s)
    · rw [if_neg (by intro q; exact q hb)]
      have hl : (refsS (getN h r)).length = (refsS (getN g s)).length := by
        rw [refsS_all, refsS_all]
        refine min_filter _ _ ((bare_iff _ _).1 hb).2 (fun k hk => ?_) (fun k hk => ?_)
        · have := hx k hk; omega
        · have := hy k hk; omega
      have := hsame_loop (h := h) (g := g) (refsS (getN h r)) (refsS (getN g s)) (by omega) hl (fun a b ha hb' => by
        rw [refsS_all] at ha hb'
        have k1 := hx a (List.mem_filter.1 ha).1
        have k2 := hy b (List.mem_filter.1 hb').1
        exact ih a b (by omega) (by omega) (by omega) (by omega) (by omega)) (refsS (getN h r)).length 0 (by omega) (by omega)
      rw [List.drop_zero, List.drop_zero, show ((0 : Nat) : Int) = 0 from rfl] at this
      refine this.trans (some_bool ?_)
      rw [Bool.eq_iff_iff, eqShL_iff, eqSh_iff, shape_iff hm gm hr1 h2 hs1 g1]
      exact ⟨fun q => ⟨hb, q⟩, fun q => q.2⟩
    · rw [if_pos hb]
      refine some_bool (eqSh_not ?_).symm
      intro q
      exact hb ((shape_iff hm gm hr1 h2 hs1 g1).1 q).1
theorem hSame_any (h g : List NodeV) (ho : okH h) (go : okH g) (r s : Int) : heap_Same h r g s = some (fitH h r && (fitH g s && eqSh (U h r) (U g s))) := by
  rw [heap_Same.eq, hmay_any h ho, bnd_some, eqI_d, br_if]
  cases h1 : fitH h r with
  | false => rw [if_neg (by simp), Bool.false_and]
  | true =>
    rw [if_pos (by simp), hmay_any g go, bnd_some, eqI_d, br_if]
    cases h2 : fitH g s with
    | false => rw [if_neg (by simp)]; rfl
    | true =>
      obtain ⟨⟨a, b⟩, c⟩ := fitH_iff.1 h1
      obtain ⟨⟨a', b'⟩, c'⟩ := fitH_iff.1 h2
      rw [if_pos (by simp), hsame_any ho c go c' r.toNat r s a (by omega) b a' b', bnd_some]
      rfl
/-! ### The document's -/
theorem shp_loop {h g : List NodeV} (a b : NodeV) (oa : okN a) (ob : okN b) (hl : a.2.2.2.2.1.length = b.2.2.2.2.1.length) (hb : ∀ (x y : Int), x ∈ allK a → y ∈ allK b → ref17_shape h x g y = some (eqSh (U h x) (U g y))) (d : Nat) : ∀ (i : Nat), i ≤ a.2.2.2.2.1.length → a.2.2.2.2.1.length - i = d →
    ref17_shape.l1 h g i a b = some (eqShL ((a.2.2.2.2.1.drop i).map (U h)) ((b.2.2.2.2.1.drop i).map (U g)) && (eqSh (U h a.2.2.2.2.2.1) (U g b.2.2.2.2.2.1) && decide (stripV a = stripV b))) := by
  have ka := oa.kids
  have la := oa.list
  induction d with
  | zero =>
    intro i h1 h2
    rw [ref17_shape.l1.eq]
    simp only [ltI_d, ofN_d, lenL_d, br_if]
    rw [if_neg (by omega), hb a.2.2.2.2.2.1 b.2.2.2.2.2.1 (by unfold allK; simp) (by unfold allK; simp), bnd_some, refsame_any _ _ (by show 0 ≤ _; omega) (by show a.2.2.2.2.2.2.1.length ≤ _; omega), bnd_some, List.drop_eq_nil_of_le (by omega), List.drop_eq_nil_of_le (by omega), List.map_nil, List.map_nil, eqShL_nil, Bool.true_and]
    cases eqSh (U h a.2.2.2.2.2.1) (U g b.2.2.2.2.2.1) with
    | true => rw [show notB true = false from rfl, br_f, Bool.true_and]; rfl
    | false => rw [show notB false = true from rfl, br_t, Bool.false_and]
  | succ d ih =>
    intro i h1 h2
    have hi : i < a.2.2.2.2.1.length := by omega
    have hj : i < b.2.2.2.2.1.length := by omega
    rw [ref17_shape.l1.eq]
    simp only [ltI_d, leI_d, ofN_d, lenL_d, andB_d, br_if]
    rw [if_pos (by omega), if_pos (by omega), if_pos (by omega), ixR _ i hi, ixR _ i hj, hb _ _ (by unfold allK; exact List.mem_append_left _ (List.getElem_mem hi)) (by unfold allK; exact List.mem_append_left _ (List.getElem_mem hj)), bnd_some, add1 i (by omega), ih (i + 1) (by omega) (by omega), List.drop_eq_getElem_cons hi, List.drop_eq_getElem_cons hj, List.map_cons, List.map_cons, eqShL_cons]
    cases eqSh (U h a.2.2.2.2.1[i]) (U g b.2.2.2.2.1[i]) with
    | true => rw [show notB true = false from rfl, br_f, Bool.true_and]
    | false => rw [show notB false = true from rfl, br_t, Bool.false_and, Bool.false_and]
theorem shape_any {h g : List NodeV} (ho : okH h) (hm : mayH h = true) (go : okH g) (gm : mayH g = true) : ∀ (n : Nat) (r s : Int), 0 ≤ r → r ≤ n → r ≤ h.length → 0 ≤ s → s ≤ g.length → ref17_shape h r g s = some (eqSh (U h r) (U g s)) := by
  have hlen := ho.len
  have glen := go.len
  have zero : ∀ r s : Int, 0 ≤ r → r ≤ h.length → 0 ≤ s → s ≤ g.length → (r = 0 ∨ s = 0) → ref17_shape h r g s = some (eqSh (U h r) (U g s)) := by
    intro r s h0 h1 g0 g1 hz
    have hj : ref17_shape.j0 h r g s true = some (eqSh (U h r) (U g s)) := by
      rw [ref17_shape.j0.eq, br_t]
      simp only [eqI_d, br_if]
      by_cases e : r = 0
      · rw [if_pos e]
        subst e
        refine some_bool ?_
        rw [U_zero]
        by_cases e2 : s = 0
        · subst e2; rw [U_zero, decide_eq_true rfl, eqSh_iff.2 rfl]
        · rw [decide_eq_false e2, eqSh_not (fun q => e2 ((U_nil gm g0 g1).1 q.symm))]
      · rw [if_neg e]
        have e2 := hz.resolve_left e
        subst e2
        rw [U_zero, eqSh_not (fun q => e ((U_nil hm h0 h1).1 q))]
    rw [ref17_shape.eq]
    simp only [eqI_d, br_if]
    by_cases e : r = 0
    · rw [if_pos e]; exact hj
    · rw [if_neg e, decide_eq_true (hz.resolve_left e)]; exact hj
  intro n
  induction n with
  | zero =>
    intro r s h0 h1 h2 g0 g1
    exact zero r s h0 h2 g0 g1 (.inl (by omega))
  | succ n ih =>
    intro r s h0 h1 h2 g0 g1
    by_cases er : r = 0
    · exact zero r s h0 h2 g0 g1 (.inl er)
    by_cases es : s = 0
    · exact zero r s h0 h2 g0 g1 (.inr es)
    have hr1 : 1 ≤ r := by omega
    have hs1 : 1 ≤ s := by omega
    have o := ho.node _ (getN_mem h r hr1 h2)
    have p := go.node _ (getN_mem g s hs1 g1)
    have hx := (may_node hm hr1 h2).2
    have hy := (may_node gm hs1 g1).2
    have hkl := o.kids
    rw [ref17_shape.eq, eqI_d, br_if, if_neg er, eqI_d, decide_eq_false es, ref17_shape.j0.eq, br_f, inG h r hr1 h2 (by omega), br_t, inG g s hs1 g1 (by omega), br_t, ixG h r hr1 h2 (by omega), ixG g s hs1 g1 (by omega)]
    simp only [both_self, eqI_d, ofN_d, lenL_d, notB_d, br_if]
    by_cases hb : (getN h r).2.2.2.2.1.length = (getN g s).2.2.2.2.1.length
    · rw [if_neg (by omega)]
      have := shp_loop (h := h) (g := g) (getN h r) (getN g s) o p hb (fun a b ha hb' => by
        have k1 := hx a ha
        have k2 := hy b hb'
        exact ih a b (by omega) (by omega) (by omega) (by omega) (by omega)) (getN h r).2.2.2.2.1.length 0 (by omega) (by omega)
      rw [List.drop_zero, List.drop_zero, show ((0 : Nat) : Int) = 0 from rfl] at this
      refine this.trans (some_bool ?_)
      rw [Bool.eq_iff_iff, Bool.and_eq_true, Bool.and_eq_true, eqShL_iff, eqSh_iff, eqSh_iff, decide_eq_true_iff, U_node hm hr1 h2, U_node gm hs1 g1, Shp.node.injEq]
      unfold allK
      rw [List.map_append, List.map_append]
      constructor
      · rintro ⟨q1, q2, q3⟩
        exact ⟨q3, by rw [q1, List.map_singleton, List.map_singleton, q2]⟩
      · rintro ⟨q3, q1⟩
        obtain ⟨q1, q2⟩ := List.append_inj' q1 rfl
        injection q2 with q2
        exact ⟨q1, q2, q3⟩
    · rw [if_pos (by omega)]
      refine some_bool (eqSh_not ?_).symm
      intro q
      rw [U_node hm hr1 h2, U_node gm hs1 g1, Shp.node.injEq] at q
      have := congrArg List.length q.2
      rw [List.length_map, List.length_map, allK_len, allK_len] at this
      omega
theorem refSame_any (h g : List NodeV) (ho : okH h) (go : okH g) (r s : Int) : ref17_Same h r g s = some (fitH h r && (fitH g s && eqSh (U h r) (U g s))) := by
  rw [ref17_Same.eq, fits_any h ho, bnd_some]
  cases h1 : fitH h r with
  | false => rw [br_f, Bool.false_and]
  | true =>
    rw [br_t, fits_any g go, bnd_some]
    cases h2 : fitH g s with
    | false => rw [br_f]; rfl
    | true =>
      obtain ⟨⟨a, b⟩, c⟩ := fitH_iff.1 h1
      obtain ⟨⟨a', b'⟩, c'⟩ := fitH_iff.1 h2
      rw [br_t, shape_any ho c go c' r.toNat r s a (by omega) b a' b', bnd_some]
      rfl
end Go.Proofs.Ytmopkbmcilolgaa.AC
set_option linter.unusedVariables false
set_option linter.unusedSimpArgs false
namespace Go.Proofs.Ytmopkbmcilolgaa.AC
open Go.Abs
theorem refs_may {h : List NodeV} (hm : mayH h = true) {j : Int} (h1 : 1 ≤ j) (h2 : j ≤ h.length) {i : Int} (hi : i ∈ refsS (getN h j)) : 1 ≤ i ∧ i ≤ j - 1 := by
  rw [refsS_all] at hi
  obtain ⟨ha, hb⟩ := List.mem_filter.1 hi
  have := (may_node hm h1 h2).2 i ha
  simp at hb
  omega
/-- Is a node below a reference, or the reference's own? -/
inductive Bel (h : List NodeV) (r : Int) : Int → Prop
  | self : Bel h r r
  | step {j i : Int} : Bel h r j → i ∈ refsS (getN h j) → Bel h r i
theorem Bel.in_ {h : List NodeV} (hm : mayH h = true) {r i : Int} (h1 : 1 ≤ r) (h2 : r ≤ h.length) (b : Bel h r i) : 1 ≤ i ∧ i ≤ r := by
  induction b with
  | self => omega
  | step _ hi ih =>
    have := refs_may hm (by omega) (by omega) hi
    omega
theorem Bel.head {h : List NodeV} {r c i : Int} (hc : c ∈ refsS (getN h r)) (b : Bel h c i) : Bel h r i := by
  induction b with
  | self => exact .step .self hc
  | step _ hi ih => exact .step ih hi
theorem Bel.split {h : List NodeV} {r i : Int} : Bel h r i ↔ i = r ∨ ∃ c ∈ refsS (getN h r), Bel h c i := by
  constructor
  · intro b
    induction b with
    | self => exact .inl rfl
    | step hb0 hi ih =>
      rcases ih with rfl | ⟨c, hc, hb⟩
      · exact .inr ⟨_, hi, .self⟩
      · exact .inr ⟨c, hc, .step hb hi⟩
  · rintro (rfl | ⟨c, hc, hb⟩)
    · exact .self
    · exact Bel.head hc hb
theorem Bel.last {h : List NodeV} {r i : Int} : Bel h r i ↔ i = r ∨ ∃ j, Bel h r j ∧ i ∈ refsS (getN h j) := by
  constructor
  · intro b
    cases b with
    | self => exact .inl rfl
    | step hb hi => exact .inr ⟨_, hb, hi⟩
  · rintro (rfl | ⟨j, hb, hi⟩)
    · exact .self
    · exact .step hb hi
open Classical in
noncomputable def belB (h : List NodeV) (r i : Int) : Bool := if 1 ≤ r ∧ Bel h r i then true else false
theorem belB_iff {h : List NodeV} {r i : Int} : belB h r i = true ↔ 1 ≤ r ∧ Bel h r i := by
  unfold belB
  split <;> simp_all
/-- From so many on down. -/
def desc (p : Int → Bool) : Nat → List Int
  | 0 => []
  | n + 1 => if p ((n + 1 : Nat) : Int) = true then ((n + 1 : Nat) : Int) :: desc p n else desc p n
theorem desc_len (p : Int → Bool) : ∀ n, (desc p n).length ≤ n
  | 0 => Nat.le_refl _
  | n + 1 => by
    have := desc_len p n
    unfold desc
    split
    · rw [List.length_cons]; omega
    · omega
theorem desc_more {p : Int → Bool} {r : Nat} (hp : ∀ i : Nat, r < i → p i = false) : ∀ d, desc p (r + d) = desc p r
  | 0 => rfl
  | d + 1 => by
    show (if p ((r + d + 1 : Nat) : Int) = true then _ else _) = _
    rw [hp (r + d + 1) (by omega), if_neg (by simp)]
    exact desc_more hp d
noncomputable def belS (h : List NodeV) (r : Int) : List Int := desc (belB h r) h.length
theorem belS_r {h : List NodeV} (hm : mayH h = true) {r : Int} (h0 : 0 ≤ r) (h2 : r ≤ h.length) : belS h r = desc (belB h r) r.toNat := by
  unfold belS
  have e : h.length = r.toNat + (h.length - r.toNat) := by omega
  rw [e]
  refine desc_more (fun i hi => ?_) _
  cases hb : belB h r i with
  | false => rfl
  | true =>
    obtain ⟨h1, b⟩ := belB_iff.1 hb
    have := Bel.in_ hm h1 h2 b
    omega
/-! ### Marks -/
def setAll (l : List Bool) : List Int → List Bool
  | [] => l
  | t :: ts => setAll (l.set t.toNat true) ts
theorem setAll_len : ∀ (ts : List Int) (l : List Bool), (setAll l ts).length = l.length
  | [], _ => rfl
  | t :: ts, l => by
    show (setAll (l.set t.toNat true) ts).length = _
    rw [setAll_len ts, List.length_set]
theorem getD_set (l : List Bool) (i j : Nat) (hi : i < l.length) : (l.set i true).getD j false = (decide (i = j) || l.getD j false) := by
  rw [List.getD_eq_getElem?_getD, List.getD_eq_getElem?_getD, List.getElem?_set]
  by_cases e : i = j
  · subst e
    simp [hi]
  · rw [if_neg e, decide_eq_false e, Bool.false_or]
theorem setAll_get : ∀ (ts : List Int) (l : List Bool) (j : Nat), (∀ t ∈ ts, 0 ≤ t ∧ t < l.length) → ((setAll l ts).getD j false = true ↔ l.getD j false = true ∨ (j : Int) ∈ ts)
  | [], l, j, _ => by simp [setAll]
  | t :: ts, l, j, h => by
    show (setAll (l.set t.toNat true) ts).getD j false = true ↔ _
    have ht := h t (by simp)
    rw [setAll_get ts _ j (fun u hu => by rw [List.length_set]; exact h u (List.mem_cons_of_mem _ hu)), getD_set l _ _ (by omega)]
    simp only [Bool.or_eq_true, decide_eq_true_eq, List.mem_cons]
    constructor
    · rintro ((h1 | h1) | h1)
      · right; left; omega
      · exact .inl h1
      · exact .inr (.inr h1)
    · rintro (h1 | h1 | h1)
      · exact .inl (.inr h1)
      · left; left; omega
      · exact .inr h1
theorem ixB (l : List Bool) (i : Nat) : ixL .bool l (i : Int) = l.getD i false := by
  unfold ixL
  rw [Int.toNat_natCast]
  rfl
theorem setB (l : List Bool) (t : Int) : setL .bool l t true = l.set t.toNat true := rfl
/-! ### The references below one, as they come -/
theorem refs1_l2 {h : List NodeV} (s : Int) (refs : List Int) (hr : refs.length ≤ 50000000) (d : Nat) : ∀ (k : Nat) (l : List Bool), k ≤ refs.length → refs.length - k = d → (∀ t ∈ refs, 0 ≤ t ∧ t < l.length) →
    heap_Refs_1.l2 h s refs refs.length k l = heap_Refs_1.l0 h (subI .i64 s 1) (setAll l (refs.drop k)) := by
  induction d with
  | zero =>
    intro k l h1 h2 h3
    rw [heap_Refs_1.l2.eq]
    simp only [ltI_d, br_if]
    rw [if_neg (by omega), List.drop_eq_nil_of_le (by omega)]
    rfl
  | succ d ih =>
    intro k l h1 h2 h3
    have hk : k < refs.length := by omega
    have ht := h3 _ (List.getElem_mem hk)
    rw [heap_Refs_1.l2.eq, ixR refs k hk]
    simp only [ltI_d, leI_d, ofN_d, lenL_d, andB_d, br_if]
    rw [if_pos (by omega), if_pos (by omega), if_pos (by omega), add1 k (by omega), setB, ih (k + 1) _ (by omega) (by omega) (fun t ht' => by rw [List.length_set]; exact h3 t ht'), List.drop_eq_getElem_cons hk]
    rfl
theorem refs1_l0 {h : List NodeV} (ho : okH h) (hm : mayH h = true) {r : Nat} (h1 : 1 ≤ r) (h2 : r ≤ h.length) : ∀ (s : Nat) (l : List Bool), s ≤ r → l.length = r + 1 →
    (∀ i : Nat, 1 ≤ i → i ≤ s → (l.getD i false = true ↔ i = r ∨ ∃ j : Int, (s : Int) < j ∧ Bel h r j ∧ (i : Int) ∈ refsS (getN h j))) →
    heap_Refs_1.l0 h (s : Int) l = some ((desc (belB h r) s).map fun i => (i, ()))
  | 0, l, hs, hl, hi => by
    rw [heap_Refs_1.l0.eq]
    simp only [ltI_d, br_if]
    rw [if_neg (by omega)]
    rfl
  | s + 1, l, hs, hl, hi => by
    have hlen := ho.len
    have hb : l.getD (s + 1) false = belB h r ((s + 1 : Nat) : Int) := by
      rw [Bool.eq_iff_iff, hi (s + 1) (by omega) (by omega), belB_iff, Bel.last]
      constructor
      · rintro (e | ⟨j, hj, b, hr⟩)
        · exact ⟨by omega, .inl (by omega)⟩
        · exact ⟨by omega, .inr ⟨j, b, hr⟩⟩
      · rintro ⟨_, e | ⟨j, b, hr⟩⟩
        · left; omega
        · have hj := Bel.in_ hm (by omega) (by omega) b
          have := refs_may hm hj.1 (by omega) hr
          exact .inr ⟨j, by omega, b, hr⟩
    have es : subI .i64 ((s + 1 : Nat) : Int) 1 = (s : Int) := by rw [sub1I _ (by omega) (by omega)]; omega
    rw [heap_Refs_1.l0.eq, ixB, hb]
    simp only [ltI_d, leI_d, ofN_d, lenL_d, andB_d, br_if]
    rw [if_pos (by omega), if_pos (by rw [hl]; omega)]
    unfold desc
    cases hbl : belB h r ((s + 1 : Nat) : Int) with
    | false =>
      rw [show notB false = true from rfl, br_t, if_neg (by simp), es]
      refine refs1_l0 ho hm h1 h2 s l (by omega) hl fun i i1 i2 => ?_
      rw [hi i i1 (by omega)]
      refine or_congr_right ⟨fun ⟨j, a, b, c⟩ => ⟨j, by omega, b, c⟩, fun ⟨j, a, b, c⟩ => ⟨j, ?_, b, c⟩⟩
      by_cases e : j = ((s + 1 : Nat) : Int)
      · subst e
        rw [belB_iff.2 ⟨by omega, b⟩] at hbl
        cases hbl
      · omega
    | true =>
      have hs1 : 1 ≤ ((s + 1 : Nat) : Int) := by omega
      have hs2 : ((s + 1 : Nat) : Int) ≤ h.length := by omega
      have o := ho.node _ (getN_mem h _ hs1 hs2)
      have hrl := refsS_len (getN h ((s + 1 : Nat) : Int))
      have hkl := o.kids
      rw [show notB true = false from rfl, br_f, if_pos rfl, yieldW_eq, show notB false = true from rfl, heap_Refs_1.j1.eq, heap_Refs_1.j1.eq, br_t, br_f, inG h _ hs1 hs2 (by omega), br_t, ixG h _ hs1 hs2 (by omega), refs_any _ o, bnd_some]
      have hin : ∀ t ∈ refsS (getN h ((s + 1 : Nat) : Int)), 1 ≤ t ∧ t ≤ s := fun t ht => by
        have := refs_may hm hs1 hs2 ht
        omega
      have hin2 : ∀ t ∈ refsS (getN h ((s + 1 : Nat) : Int)), 0 ≤ t ∧ t < l.length := fun t ht => by have := hin t ht; omega
      have e2 := refs1_l2 (h := h) ((s + 1 : Nat) : Int) (refsS (getN h ((s + 1 : Nat) : Int))) (by omega) _ 0 l (by omega) rfl hin2
      rw [show ((0 : Nat) : Int) = 0 from rfl, List.drop_zero] at e2
      have e3 := refs1_l0 ho hm h1 h2 s (setAll l (refsS (getN h ((s + 1 : Nat) : Int)))) (by omega) (by rw [setAll_len]; exact hl) fun i i1 i2 => by
        rw [setAll_get _ _ _ hin2, hi i i1 (by omega)]
        constructor
        · rintro ((e | ⟨j, a, b, c⟩) | hc)
          · exact .inl e
          · exact .inr ⟨j, by omega, b, c⟩
          · exact .inr ⟨_, by omega, (belB_iff.1 hbl).2, hc⟩
        · rintro (e | ⟨j, a, b, c⟩)
          · exact .inl (.inl e)
          · by_cases e : j = ((s + 1 : Nat) : Int)
            · subst e; exact .inr c
            · exact .inl (.inr ⟨j, by omega, b, c⟩)
      show yieldL _ (heap_Refs_1.l2 h _ _ (ofN (lenL (.int .i64) _)) 0 l) _ = _
      rw [show ofN (lenL (.int .i64) (refsS (getN h ((s + 1 : Nat) : Int)))) = ((refsS (getN h ((s + 1 : Nat) : Int))).length : Int) from rfl, e2, es, e3]
      rfl
theorem refs1_any (h : List NodeV) (ho : okH h) (r : Int) : heap_Refs_1 h r = some (if fitH h r = true then (belS h r).map fun i => (i, ()) else []) := by
  have hlen := ho.len
  rw [heap_Refs_1.eq, hmay_any h ho, bnd_some, eqI_d, notB_d, br_if]
  by_cases hf : fitH h r = true
  · rw [if_pos hf, if_pos hf, if_neg (by simp), eqI_d, br_if]
    obtain ⟨⟨a, b⟩, hm⟩ := fitH_iff.1 hf
    by_cases e : r = 0
    · subst e
      rw [if_pos rfl, belS_r hm (by omega) (by omega)]
      rfl
    · rw [if_neg e, belS_r hm a b]
      obtain ⟨q, rfl⟩ : ∃ q : Nat, r = q := ⟨r.toNat, by omega⟩
      have e1 : addI .i64 (q : Int) 1 = ((q + 1 : Nat) : Int) := add1 q (by omega)
      have et : toN (((q + 1 : Nat) : Int)) = q + 1 := Int.toNat_natCast _
      have er : repL .bool (q + 1) false = List.replicate (q + 1) false := rfl
      have eg : andB (fitN (((q + 1 : Nat) : Int))) (eqI ((q + 1 : Nat) : Int) ((q + 1 : Nat) : Int)) = true := by
        unfold andB fitN eqI
        rw [decide_eq_true (by omega), decide_eq_true rfl]
        rfl
      have ei : andB (leI 0 (q : Int)) (ltI (q : Int) (ofN (lenL .bool (List.replicate (q + 1) false)))) = true := by
        unfold lenL
        rw [List.length_replicate]
        unfold andB leI ltI ofN
        rw [decide_eq_true (by omega), decide_eq_true (by omega)]
        rfl
      rw [e1, et, er, eg, br_t, ei, br_t, setB, Int.toNat_natCast]
      have h1 : 1 ≤ q := by omega
      refine refs1_l0 ho hm h1 (by omega) q _ (Nat.le_refl _) (by rw [List.length_set, List.length_replicate]) fun i i1 i2 => ?_
      have hz : (List.replicate (q + 1) false).getD i false = false := by
        rw [List.getD_eq_getElem?_getD, List.getElem?_replicate]
        split <;> rfl
      rw [getD_set _ _ _ (by rw [List.length_replicate]; omega), hz, Bool.or_false, decide_eq_true_eq]
      constructor
      · rintro rfl; exact .inl rfl
      · rintro (e | ⟨j, a, b', c⟩)
        · exact e.symm
        · have := Bel.in_ hm (by omega) b b'
          omega
  · rw [if_neg hf, if_neg hf, if_pos (by omega)]
/-! ### How many -/
theorem count_loop : ∀ (l : List Int) (n : Nat), n + l.length ≤ 50000000 → heap_Count.e0 (l.map fun i => (i, ())) (n : Int) = some (((n + l.length : Nat) : Int), ((0 : Int), ()))
  | [], n, _ => heap_Count.e0.nil _
  | x :: l, n, h => by
    have hl : n + (l.length + 1) ≤ 50000000 := h
    refine (heap_Count.e0.cons (x, ()) (l.map fun i => (i, ())) (n : Int)).trans ?_
    rw [add1 n (by omega), count_loop l (n + 1) (by omega), List.length_cons]
    have : n + 1 + l.length = n + (l.length + 1) := by omega
    rw [this]
theorem hcount_any (h : List NodeV) (ho : okH h) (r : Int) : heap_Count h r = some (if fitH h r = true then (((belS h r).length : Int), ((0 : Int), ())) else ((0 : Int), ((4 : Int), ()))) := by
  have hlen := ho.len
  rw [heap_Count.eq, hmay_any h ho, bnd_some, eqI_d, notB_d, br_if]
  by_cases hf : fitH h r = true
  · rw [if_pos hf, if_pos hf, if_neg (by simp), heap_Refs.eq, bnd_some]
    have e := refs1_any h ho r
    rw [if_pos hf] at e
    show bnd (heap_Refs_1 h r) _ = _
    rw [e, bnd_some]
    have hd := desc_len (belB h r) h.length
    have := count_loop (belS h r) 0 (by unfold belS; omega)
    rw [Nat.zero_add, show ((0 : Nat) : Int) = 0 from rfl] at this
    exact this
  · rw [if_neg hf, if_neg hf, if_pos (by omega)]
end Go.Proofs.Ytmopkbmcilolgaa.AC
set_option linter.unusedVariables false
set_option linter.unusedSimpArgs false
namespace Go.Proofs.Ytmopkbmcilolgaa.AC
open Go.Abs
mutual
def depthT : Shp → Nat
  | .nil => 0
  | .node _ l => depthL l + 1
def depthL : List Shp → Nat
  | [] => 0
  | x :: l => max (depthT x) (depthL l)
end
theorem depthT_nil : depthT .nil = 0 := by rw [depthT]
theorem depthT_node (b : NodeV) (l : List Shp) : depthT (.node b l) = depthL l + 1 := by rw [depthT]
def dep (h : List NodeV) (r : Int) : Nat := depthT (U h r)
theorem dep_zero (h : List NodeV) : dep h 0 = 0 := by unfold dep; rw [U_zero, depthT_nil]
def mxD (h : List NodeV) : List Int → Nat
  | [] => 0
  | x :: l => max (dep h x) (mxD h l)
theorem mxD_filter (h : List NodeV) : ∀ l : List Int, depthL (l.map (U h)) = mxD h (l.filter (fun r => decide (r ≠ 0)))
  | [] => by show depthL [] = 0; rw [depthL]
  | x :: l => by
    rw [List.map_cons, depthL, mxD_filter h l]
    by_cases e : x = 0
    · subst e
      rw [List.filter_cons_of_neg (by simp), U_zero, depthT_nil, Nat.zero_max]
    · rw [List.filter_cons_of_pos (by simp [e])]
      rfl
theorem dep_node {h : List NodeV} (hm : mayH h = true) {r : Int} (h1 : 1 ≤ r) (h2 : r ≤ h.length) : dep h r = mxD h (refsS (getN h r)) + 1 := by
  unfold dep
  rw [U_node hm h1 h2, depthT_node, mxD_filter, ← refsS_all]
theorem mxD_le {h : List NodeV} {m : Nat} : ∀ l : List Int, (∀ x ∈ l, dep h x ≤ m) → mxD h l ≤ m
  | [], _ => Nat.zero_le _
  | x :: l, hx => by
    have h1 := hx x (by simp)
    have h2 := mxD_le l fun y hy => hx y (List.mem_cons_of_mem _ hy)
    show max _ _ ≤ m
    omega
theorem dep_le {h : List NodeV} (hm : mayH h = true) : ∀ (n : Nat) (r : Int), 0 ≤ r → r ≤ n → r ≤ h.length → dep h r ≤ r.toNat := by
  intro n
  induction n with
  | zero =>
    intro r h0 h1 h2
    have : r = 0 := by omega
    subst this
    rw [dep_zero]; exact Nat.zero_le _
  | succ n ih =>
    intro r h0 h1 h2
    by_cases e : r = 0
    · subst e; rw [dep_zero]; exact Nat.zero_le _
    rw [dep_node hm (by omega) h2]
    have := mxD_le (h := h) (m := (r - 1).toNat) (refsS (getN h r)) fun x hx => by
      have hx := refs_may hm (by omega) h2 hx
      have := ih x (by omega) (by omega) (by omega)
      omega
    omega
theorem refdepth_loop {h : List NodeV} (refs : List Int) (hr : refs.length ≤ 50000000) (m : Nat) (hm : m ≤ 50000000) (hb : ∀ x ∈ refs, ref17_Depth h x = some (dep h x : Int) ∧ dep h x ≤ m) (d : Nat) : ∀ (k n : Nat), k ≤ refs.length → refs.length - k = d → n ≤ m →
    ref17_Depth.l0 h (n : Int) refs (k : Int) = some ((max n (mxD h (refs.drop k)) + 1 : Nat) : Int) := by
  induction d with
  | zero =>
    intro k n h1 h2 h3
    rw [ref17_Depth.l0.eq, List.drop_eq_nil_of_le (by omega)]
    simp only [ltI_d, ofN_d, lenL_d, br_if]
    rw [if_neg (by omega), add1 n (by omega)]
    show some _ = some (((max n 0 + 1 : Nat)) : Int)
    rw [Nat.max_zero]
  | succ d ih =>
    intro k n h1 h2 h3
    have hk : k < refs.length := by omega
    obtain ⟨b1, b2⟩ := hb _ (List.getElem_mem hk)
    rw [ref17_Depth.l0.eq, ixR refs k hk, b1, bnd_some]
    simp only [ltI_d, leI_d, ofN_d, lenL_d, andB_d, maxI_d, br_if]
    have e : max (n : Int) (dep h refs[k] : Int) = ((max n (dep h refs[k]) : Nat) : Int) := by omega
    rw [if_pos (by omega), if_pos (by omega), add1 k (by omega), e, ih (k + 1) _ (by omega) (by omega) (by omega), List.drop_eq_getElem_cons hk]
    show some _ = some (((max n (max (dep h refs[k]) (mxD h (refs.drop (k + 1)))) + 1 : Nat)) : Int)
    rw [Nat.max_assoc]
theorem refdepth_any {h : List NodeV} (ho : okH h) (hm : mayH h = true) : ∀ (n : Nat) (r : Int), 0 ≤ r → r ≤ n → r ≤ h.length → ref17_Depth h r = some (dep h r : Int) := by
  have hlen := ho.len
  intro n
  induction n with
  | zero =>
    intro r h0 h1 h2
    have : r = 0 := by omega
    subst this
    rw [ref17_Depth.eq, eqI_d, br_if, if_pos rfl, dep_zero]
    rfl
  | succ n ih =>
    intro r h0 h1 h2
    by_cases e : r = 0
    · subst e
      rw [ref17_Depth.eq, eqI_d, br_if, if_pos rfl, dep_zero]
      rfl
    have o := ho.node _ (getN_mem h r (by omega) h2)
    have hrl := refsS_len (getN h r)
    have hkl := o.kids
    rw [ref17_Depth.eq, eqI_d, br_if, if_neg e, inG h r (by omega) h2 (by omega), br_t, ixG h r (by omega) h2 (by omega), refrefs_any _ o, bnd_some]
    have := refdepth_loop (h := h) (refsS (getN h r)) (by omega) 50000000 (by omega) (fun x hx => by
      have hx := refs_may hm (by omega) h2 hx
      refine ⟨ih x (by omega) (by omega) (by omega), ?_⟩
      have := dep_le hm x.toNat x (by omega) (by omega) (by omega)
      omega) _ 0 0 (by omega) rfl (by omega)
    rw [show ((0 : Nat) : Int) = 0 from rfl, List.drop_zero, Nat.zero_max] at this
    rw [this, dep_node hm (by omega) h2]
/-! ### By one sweep -/
theorem ixZ (l : List Int) (i : Nat) : ixL (.int .i64) l (i : Int) = l.getD i 0 := by
  unfold ixL
  rw [Int.toNat_natCast]
  rfl
theorem setZ (l : List Int) (i : Nat) (z : Int) : setL (.int .i64) l (i : Int) z = l.set i z := by
  unfold setL
  rw [Int.toNat_natCast]
theorem getZ_set (l : List Int) (i j : Nat) (z : Int) (hi : i < l.length) : (l.set i z).getD j 0 = if i = j then z else l.getD j 0 := by
  rw [List.getD_eq_getElem?_getD, List.getD_eq_getElem?_getD, List.getElem?_set]
  by_cases e : i = j
  · subst e
    simp [hi]
  · rw [if_neg e, if_neg e]
theorem set_set (l : List Int) (i : Nat) (a b : Int) : (l.set i a).set i b = l.set i b := List.set_set ..
theorem hdepth_l1 {h : List NodeV} (r : Int) (i : Nat) (hi : i < h.length) (hl : h.length ≤ 50000000) (refs : List Int) (hr : refs.length ≤ 50000000) (hin : ∀ t ∈ refs, 1 ≤ t ∧ t ≤ i) (hd : ∀ t ∈ refs, dep h t ≤ 50000000) (d : Nat) : ∀ (k n : Nat) (l : List Int), k ≤ refs.length → refs.length - k = d → l.length = h.length + 1 → n ≤ 50000000 →
    l.getD (i + 1) 0 = (n : Int) → (∀ t ∈ refs, l.getD t.toNat 0 = (dep h t : Int)) →
    heap_Depth.l1 r (i : Int) h (h.length : Int) (i : Int) refs (refs.length : Int) (k : Int) l = heap_Depth.l0 r h (h.length : Int) ((i + 1 : Nat) : Int) (l.set (i + 1) ((max n (mxD h (refs.drop k)) + 1 : Nat) : Int)) := by
  induction d with
  | zero =>
    intro k n l h1 h2 h3 hn h4 h5
    rw [heap_Depth.l1.eq, List.drop_eq_nil_of_le (by omega), add1 i (by omega), ixZ l (i + 1), h4, add1 n (by omega)]
    simp only [ltI_d, leI_d, ofN_d, lenL_d, andB_d, br_if]
    rw [if_neg (by omega), if_pos (by omega), if_pos (by omega), setZ]
    show _ = heap_Depth.l0 _ _ _ _ (l.set (i + 1) (((max n 0 + 1 : Nat)) : Int))
    rw [Nat.max_zero]
  | succ d ih =>
    intro k n l h1 h2 h3 hn h4 h5
    have hk : k < refs.length := by omega
    have ht := hin _ (List.getElem_mem hk)
    have htd := hd _ (List.getElem_mem hk)
    obtain ⟨q, hq⟩ : ∃ q : Nat, refs[k] = q := ⟨refs[k].toNat, by omega⟩
    have h5k := h5 _ (List.getElem_mem hk)
    rw [hq, Int.toNat_natCast] at h5k
    rw [hq] at ht htd
    rw [heap_Depth.l1.eq, ixR refs k hk, hq, add1 i (by omega), ixZ l (i + 1), ixZ l q, h4, h5k, setZ, both_self]
    simp only [ltI_d, leI_d, ofN_d, lenL_d, andB_d, maxI_d, br_if]
    have e : max (n : Int) (dep h (q : Int) : Int) = ((max n (dep h (q : Int)) : Nat) : Int) := by omega
    rw [if_pos (by omega), if_pos (by omega), if_pos (by omega), if_pos (by omega), if_pos (by omega), add1 k (by omega), e]
    rw [ih (k + 1) (max n (dep h (q : Int))) (l.set (i + 1) ((max n (dep h (q : Int)) : Nat) : Int)) (by omega) (by omega) (by rw [List.length_set]; exact h3) (by omega) (by rw [getZ_set _ _ _ _ (by omega), if_pos rfl]) (fun t ht' => by
      have := hin t ht'
      rw [getZ_set _ _ _ _ (by omega), if_neg (by omega)]
      exact h5 t ht'), set_set, List.drop_eq_getElem_cons hk, hq]
    show _ = heap_Depth.l0 _ _ _ _ (l.set (i + 1) (((max n (max (dep h (q : Int)) (mxD h (refs.drop (k + 1)))) + 1 : Nat)) : Int))
    rw [Nat.max_assoc]
theorem hdepth_l0 {h : List NodeV} (ho : okH h) (hm : mayH h = true) {r : Nat} (hr : r ≤ h.length) (d : Nat) : ∀ (i : Nat) (l : List Int), i ≤ h.length → h.length - i = d → l.length = h.length + 1 → (∀ j : Nat, j ≤ h.length → l.getD j 0 = if j ≤ i then (dep h (j : Int) : Int) else 0) →
    heap_Depth.l0 (r : Int) h (h.length : Int) (i : Int) l = some ((dep h (r : Int) : Int), ((0 : Int), ())) := by
  have hlen := ho.len
  induction d with
  | zero =>
    intro i l h1 h2 h3 h4
    rw [heap_Depth.l0.eq, ixZ, h4 r hr, if_pos (by omega)]
    simp only [ltI_d, leI_d, ofN_d, lenL_d, andB_d, br_if]
    rw [if_neg (by omega), if_pos (by omega)]
  | succ d ih =>
    intro i l h1 h2 h3 h4
    have hil : i < h.length := by omega
    have o := ho.node _ (List.getElem_mem hil)
    have hrl := refsS_len h[i]
    have hkl := o.kids
    have eg : getN h ((i + 1 : Nat) : Int) = h[i] := by
      have := getN_ix h i hil
      rwa [show ((i + 1 : Nat) : Int) = (i : Int) + 1 by omega]
    have hin : ∀ t ∈ refsS h[i], 1 ≤ t ∧ t ≤ i := fun t ht => by
      have := refs_may hm (j := ((i + 1 : Nat) : Int)) (by omega) (by omega) (i := t) (by rw [eg]; exact ht)
      omega
    have hdl : ∀ t ∈ refsS h[i], dep h t ≤ 50000000 := fun t ht => by
      have h1 := hin t ht
      have := dep_le hm t.toNat t (by omega) (by omega) (by omega)
      omega
    rw [heap_Depth.l0.eq, ixN h i hil, refs_any _ o, bnd_some]
    simp only [ltI_d, leI_d, ofN_d, lenL_d, andB_d, br_if]
    rw [if_pos (by omega), if_pos (by omega)]
    have e1 := hdepth_l1 (h := h) (r : Int) i hil (by omega) (refsS h[i]) (by omega) hin hdl _ 0 0 l (by omega) rfl h3 (by omega) (by rw [h4 (i + 1) (by omega), if_neg (by omega)]; rfl) (fun t ht => by
      have h1 := hin t ht
      rw [h4 t.toNat (by omega), if_pos (by omega)]
      congr 2
      omega)
    rw [show ((0 : Nat) : Int) = 0 from rfl, List.drop_zero, Nat.zero_max] at e1
    rw [e1]
    refine ih (i + 1) _ (by omega) (by omega) (by rw [List.length_set]; exact h3) fun j hj => ?_
    rw [getZ_set _ _ _ _ (by omega)]
    by_cases e : i + 1 = j
    · subst e
      rw [if_pos rfl, if_pos (by omega), dep_node hm (by omega) (by omega), eg]
    · rw [if_neg e, h4 j hj]
      by_cases e2 : j ≤ i
      · rw [if_pos e2, if_pos (by omega)]
      · rw [if_neg e2, if_neg (by omega)]
theorem hdepth_any (h : List NodeV) (ho : okH h) (r : Int) : heap_Depth h r = some (if fitH h r = true then ((dep h r : Int), ((0 : Int), ())) else ((0 : Int), ((4 : Int), ()))) := by
  have hlen := ho.len
  rw [heap_Depth.eq, hmay_any h ho, bnd_some, eqI_d, notB_d, br_if]
  by_cases hf : fitH h r = true
  · rw [if_pos hf, if_pos hf, if_neg (by simp)]
    obtain ⟨⟨a, b⟩, hm⟩ := fitH_iff.1 hf
    obtain ⟨q, rfl⟩ : ∃ q : Nat, r = q := ⟨r.toNat, by omega⟩
    have e1 : addI .i64 (ofN (lenL tapiNode h)) 1 = ((h.length + 1 : Nat) : Int) := add1 h.length (by omega)
    have et : toN (((h.length + 1 : Nat) : Int)) = h.length + 1 := Int.toNat_natCast _
    have eg : andB (fitN (((h.length + 1 : Nat) : Int))) (eqI ((h.length + 1 : Nat) : Int) ((h.length + 1 : Nat) : Int)) = true := by
      unfold andB fitN eqI
      rw [decide_eq_true (by omega), decide_eq_true rfl]
      rfl
    rw [e1, et, eg, br_t]
    refine hdepth_l0 ho hm (by omega) h.length 0 _ (by omega) (by omega) List.length_replicate fun j hj => ?_
    have hz : (List.replicate (h.length + 1) (0 : Int)).getD j 0 = 0 := by
      rw [List.getD_eq_getElem?_getD, List.getElem?_replicate]
      split <;> rfl
    show (List.replicate (h.length + 1) (0 : Int)).getD j 0 = _
    rw [hz]
    split
    · have : j = 0 := by omega
      subst this
      show 0 = (dep h 0 : Int)
      rw [dep_zero]; rfl
    · rfl
  · rw [if_neg hf, if_neg hf, if_pos (by omega)]
end Go.Proofs.Ytmopkbmcilolgaa.AC
set_option linter.unusedVariables false
set_option linter.unusedSimpArgs false
namespace Go.Proofs.Ytmopkbmcilolgaa.AC
open Go.Abs
def waysN (n : NodeV) : Nat := max (refsS n).length 1
def prodW : List NodeV → Nat
  | [] => 1
  | n :: l => waysN n * prodW l
theorem prodW_app : ∀ a b : List NodeV, prodW (a ++ b) = prodW a * prodW b
  | [], b => by show prodW b = 1 * prodW b; omega
  | n :: a, b => by
    show waysN n * prodW (a ++ b) = waysN n * prodW a * prodW b
    rw [prodW_app a b, Nat.mul_assoc]
theorem prodW_pos : ∀ a : List NodeV, 1 ≤ prodW a
  | [] => Nat.le_refl _
  | n :: a => by
    have h := prodW_pos a
    have : 1 ≤ waysN n := by unfold waysN; omega
    exact Nat.mul_pos this h
theorem fewW_prod : ∀ (l : List NodeV) (w : Nat), w ≤ 3000 → w * prodW (fewW w l) ≤ 3000
  | [], w, h => by
    show w * 1 ≤ 3000
    omega
  | n :: l, w, h => by
    rw [fewW_cons]
    split
    · show w * 1 ≤ 3000
      omega
    · rename_i hg
      have := fewW_prod l (w * max (refsS (few n)).length 1) (by omega)
      show w * (waysN (few n) * _) ≤ 3000
      rw [← Nat.mul_assoc]
      exact this
theorem fewH_prod (h : List NodeV) : prodW (fewH h) ≤ 3000 := by
  have := fewW_prod (h.take 12) 1 (by omega)
  rw [Nat.one_mul] at this
  exact this
theorem sum_le {A : Type} (f : A → Nat) (M : Nat) : ∀ l : List A, (∀ x ∈ l, f x ≤ M) → (l.map f).sum ≤ l.length * M
  | [], _ => by simp
  | x :: l, h => by
    have ih := sum_le f M l (fun y hy => h y (List.mem_cons_of_mem _ hy))
    have hx := h x List.mem_cons_self
    rw [List.map_cons, List.sum_cons, List.length_cons, Nat.succ_mul]
    omega
theorem flat_len {A : Type} (f : A → List PairV) : ∀ l : List A, ((l.map f).flatten).length = (l.map fun x => (f x).length).sum
  | [] => rfl
  | x :: l => by rw [List.map_cons, List.flatten_cons, List.length_append, flat_len f l, List.map_cons, List.sum_cons]
theorem binds_sum {h : List NodeV} (hm : mayH h = true) {r : Int} (h1 : 1 ≤ r) (h2 : r ≤ h.length) : (bindsT (U h r)).length = (bindsS (getN h r)).length + ((refsS (getN h r)).map fun x => (bindsT (U h x)).length).sum := by
  by_cases h4 : (getN h r).1 = 4
  · obtain ⟨a, b, k1, k2, k3, k4, k5⟩ := bindsU_tree hm h1 h2 h4
    have er : refsS (getN h r) = [a, b].filter (fun r => decide (r ≠ 0)) := by
      rw [refsS_all]
      unfold allK
      rw [k1, k2, List.filter_append]
      show _ ++ [] = _
      rw [List.append_nil]
    have z : (bindsT (U h 0)).length = 0 := by rw [U_zero, bindsT_nil]; rfl
    rw [k5, er, List.length_append, List.length_append]
    by_cases ea : a = 0
    · by_cases eb : b = 0
      · subst ea; subst eb; rw [z]; simp
      · subst ea; rw [z, List.filter_cons_of_neg (by simp), List.filter_cons_of_pos (by simp [eb]), List.filter_nil]
        simp
    · by_cases eb : b = 0
      · subst eb; rw [z, List.filter_cons_of_pos (by simp [ea]), List.filter_cons_of_neg (by simp), List.filter_nil]
        simp; omega
      · rw [List.filter_cons_of_pos (by simp [ea]), List.filter_cons_of_pos (by simp [eb]), List.filter_nil]
        simp; omega
  · rw [bindsU_refs hm h1 h2 h4, List.length_append, flat_len]
theorem bound_step (k P r m : Nat) (hP : 1 ≤ P) (hk : m ≤ k) (hk1 : 1 ≤ k) (hr : 1 ≤ r) : 40 + m * (40 * (r - 1) * P) ≤ 40 * r * (P * k) := by
  obtain ⟨q, rfl⟩ : ∃ q, r = q + 1 := ⟨r - 1, by omega⟩
  rw [Nat.add_sub_cancel]
  have h1 : m * (40 * q * P) ≤ k * (40 * q * P) := Nat.mul_le_mul_right _ hk
  have h2 : 40 * (q + 1) * (P * k) = 40 * q * (P * k) + 40 * (P * k) := by rw [Nat.mul_add, Nat.add_mul]
  have h3 : k * (40 * q * P) = 40 * q * (P * k) := by rw [Nat.mul_comm k, Nat.mul_assoc]
  have h4 : 1 ≤ P * k := Nat.mul_pos hP hk1
  omega
theorem binds_bound {h : List NodeV} (hm : mayH h = true) (hs : ∀ n ∈ h, (bindsS n).length ≤ 40) : ∀ (n : Nat) (r : Int), 0 ≤ r → r ≤ n → r ≤ h.length → (bindsT (U h r)).length ≤ 40 * r.toNat * prodW (h.take r.toNat) := by
  intro n
  induction n with
  | zero =>
    intro r h0 h1 h2
    have : r = 0 := by omega
    subst this
    rw [U_zero, bindsT_nil]
    exact Nat.zero_le _
  | succ n ih =>
    intro r h0 h1 h2
    by_cases e : r = 0
    · subst e
      rw [U_zero, bindsT_nil]
      exact Nat.zero_le _
    obtain ⟨i, hi⟩ : ∃ i : Nat, r = (i : Int) + 1 := ⟨(r - 1).toNat, by omega⟩
    have hil : i < h.length := by omega
    have eg : getN h r = h[i] := by rw [hi]; exact getN_ix h i hil
    rw [binds_sum hm (by omega) h2]
    have hb := hs _ (getN_mem h r (by omega) h2)
    have hsum := sum_le (fun x => (bindsT (U h x)).length) (40 * i * prodW (h.take i)) (refsS (getN h r)) (fun x hx => by
      rw [refsS_all] at hx
      have hk := (may_node hm (by omega) h2).2 x (List.mem_filter.1 hx).1
      refine Nat.le_trans (ih x (by omega) (by omega) (by omega)) ?_
      have hxi : x.toNat ≤ i := by omega
      have hp : prodW (h.take x.toNat) ≤ prodW (h.take i) := by
        have e : h.take i = h.take x.toNat ++ (h.drop x.toNat).take (i - x.toNat) := by
          rw [← List.take_add]
          congr 1
          omega
        rw [e, prodW_app]
        exact Nat.le_mul_of_pos_right _ (prodW_pos _)
      exact Nat.mul_le_mul (Nat.mul_le_mul_left _ hxi) hp)
    have et : r.toNat = i + 1 := by omega
    have ep : prodW (h.take (i + 1)) = prodW (h.take i) * waysN (getN h r) := by
      rw [List.take_succ_eq_append_getElem hil, prodW_app, eg]
      congr 1
      show waysN h[i] * 1 = _
      omega
    rw [et, ep]
    have hstep := bound_step (waysN (getN h r)) (prodW (h.take i)) (i + 1) (refsS (getN h r)).length (prodW_pos _) (by unfold waysN; omega) (by unfold waysN; omega) (by omega)
    rw [Nat.add_sub_cancel] at hstep
    omega
theorem few_binds (n : NodeV) : (bindsS (few n)).length ≤ 40 := by
  unfold bindsS
  split
  · show 1 ≤ 40; omega
  · split
    · exact fewL_len _
    · show 0 ≤ 40; omega
theorem few_bound (h : List NodeV) (r : Int) (hf : fitH (fewH h) r = true) : (bindsT (U (fewH h) r)).length ≤ 1440000 := by
  obtain ⟨⟨a, b⟩, c⟩ := fitH_iff.1 hf
  have h1 := binds_bound c (fun n hn => by obtain ⟨m, _, rfl⟩ := fewH_mem n hn; exact few_binds m) r.toNat r a (by omega) b
  have h2 := fewH_prod h
  have h3 := fewH_len h
  have hp : prodW ((fewH h).take r.toNat) ≤ 3000 := by
    refine Nat.le_trans ?_ h2
    conv => rhs; rw [← List.take_append_drop r.toNat (fewH h), prodW_app]
    exact Nat.le_mul_of_pos_right _ (prodW_pos _)
  have h4 : 40 * r.toNat * prodW ((fewH h).take r.toNat) ≤ 480 * 3000 := Nat.mul_le_mul (by omega) hp
  omega
end Go.Proofs.Ytmopkbmcilolgaa.AC
set_option linter.unusedVariables false
set_option linter.unusedSimpArgs false
namespace Go.Proofs.Ytmopkbmcilolgaa.AC
open Go.Abs
theorem hbindsE {h : List NodeV} (ho : okH h) (r : Int) (hb : fitH h r = true → (bindsT (U h r)).length ≤ 1000000000) : heap_Binds h r = some (if fitH h r = true then (bindsT (U h r), (0, ())) else ([], (4, ()))) := by
  rw [heap_Binds.eq, hmay_any h ho, bnd_some]
  by_cases hf : fitH h r = true
  · obtain ⟨⟨a, b⟩, hm⟩ := fitH_iff.1 hf
    rw [if_pos hf, if_pos hf, hbinds_any ho hm r.toNat r a (by omega) b (hb hf), bnd_some]
    rfl
  · rw [if_neg hf, if_neg hf]
    rfl
def leafX : NodeV := (1, (ByteArray.mk #[97], (ByteArray.mk #[49], (0, ([], (0, ([], (1, (0, ())))))))))
def innX : NodeV := (5, (ByteArray.empty, (ByteArray.empty, (0, ([], (1, ([], (0, (0, ())))))))))
theorem leafX_ok : okN leafX ∧ mayS leafX = 0 ∧ refsS leafX = [] ∧ rngN leafX := by
  refine ⟨⟨by decide, by decide, by show (0 : Int) ≤ 0; omega, by show (0 : Int) < 4294967296; omega, by show 0 ≤ 1000000; omega, by show 0 ≤ 1000000; omega, fun p hp => (by cases hp)⟩, ?_, rfl, ⟨fun k hk => (by cases hk), by show rng 0; unfold rng; omega⟩⟩
  unfold mayS
  have hl : longN leafX = false := by
    show ((decide (16 < (ByteArray.mk #[97]).size) || decide (16 < (ByteArray.mk #[49]).size)) || false) = false
    rfl
  rw [if_neg (by show ¬ (1 : Int) < 1; omega), if_neg (by show ¬ (6 : Int) < 1; omega), hl, if_neg (by simp), if_pos]
  refine ⟨Int.le_refl _, ?_⟩
  rw [if_pos (.inl rfl)]
  exact ⟨rfl, fun q => (by cases q), fun _ => ⟨rfl, rfl⟩, fun _ => rfl, fun _ => rfl⟩
theorem innX_ok : okN innX ∧ mayS innX = 0 ∧ refsS innX = [1] ∧ rngN innX := by
  refine ⟨⟨by decide, by decide, by show (0 : Int) ≤ 0; omega, by show (0 : Int) < 4294967296; omega, by show 0 ≤ 1000000; omega, by show 0 ≤ 1000000; omega, fun p hp => (by cases hp)⟩, ?_, rfl, ⟨fun k hk => (by cases hk), by show rng 1; unfold rng; omega⟩⟩
  unfold mayS
  have hl : longN innX = false := by
    show ((decide (16 < (ByteArray.empty).size) || decide (16 < (ByteArray.empty).size)) || false) = false
    rfl
  rw [if_neg (by show ¬ (5 : Int) < 1; omega), if_neg (by show ¬ (6 : Int) < 5; omega), hl, if_neg (by simp), if_pos]
  refine ⟨Int.le_refl _, ?_⟩
  rw [if_neg (by show ¬ ((5 : Int) = 1 ∨ (5 : Int) = 6); omega), if_neg (by show ¬ (5 : Int) = 2; omega), if_neg (by show ¬ (5 : Int) = 3; omega), if_neg (by show ¬ (5 : Int) = 4; omega)]
  exact ⟨by show (1 : Int) ≠ 0; omega, rfl, fun _ => ⟨rfl, rfl⟩, fun _ => ⟨rfl, rfl⟩, fun q => (by cases q), fun _ => rfl⟩
theorem works17 : law17_works = some true := by
  obtain ⟨o1, m1, r1, g1⟩ := leafX_ok
  obtain ⟨o2, m2, r2, g2⟩ := innX_ok
  have l1 : node_Leaf (ByteArray.mk #[97]) (ByteArray.mk #[49]) = some leafX := node_Leaf.eq _ _
  have l2 : node_Inner 1 = some innX := node_Inner.eq _
  have hh : okH [leafX, innX] := by
    refine ⟨by show 2 ≤ 40000000; omega, fun n hn => ?_, fun n hn => ?_⟩
    · rcases List.mem_cons.1 hn with rfl | hn
      · exact o1
      · rw [List.mem_singleton.1 hn]; exact o2
    · rcases List.mem_cons.1 hn with rfl | hn
      · exact g1
      · rw [List.mem_singleton.1 hn]; exact g2
  have hm : mayH [leafX, innX] = true := by
    unfold mayH mayHL mayHL mayHL
    rw [m1, r1, m2, r2]
    rfl
  have hf : fitH [leafX, innX] 2 = true := fitH_iff.2 ⟨⟨by omega, by show (2 : Int) ≤ 2; omega⟩, hm⟩
  have e1 : getN [leafX, innX] 1 = leafX := rfl
  have e2 : getN [leafX, innX] 2 = innX := rfl
  have b2 : belB [leafX, innX] 2 2 = true := belB_iff.2 ⟨by omega, .self⟩
  have b1 : belB [leafX, innX] 2 1 = true := belB_iff.2 ⟨by omega, .step .self (by rw [e2, r2]; simp)⟩
  have hc : belS [leafX, innX] 2 = [2, 1] := by
    show desc (belB [leafX, innX] 2) 2 = _
    unfold desc
    rw [show ((1 + 1 : Nat) : Int) = 2 from rfl, if_pos b2]
    unfold desc
    rw [show ((0 + 1 : Nat) : Int) = 1 from rfl, if_pos b1]
    rfl
  have hd1 : dep [leafX, innX] 1 = 1 := by
    rw [dep_node hm (by omega) (by show (1 : Int) ≤ 2; omega), e1, r1]
    rfl
  have hd : dep [leafX, innX] 2 = 2 := by
    rw [dep_node hm (by omega) (by show (2 : Int) ≤ 2; omega), e2, r2]
    show max (dep [leafX, innX] 1) 0 + 1 = 2
    rw [hd1]
    rfl
  have hb : (bindsT (U [leafX, innX] 2)).length = 1 := by
    rw [binds_sum hm (by omega) (by show (2 : Int) ≤ 2; omega), e2, r2]
    show 0 + ((bindsT (U [leafX, innX] 1)).length + 0) = 1
    rw [binds_sum hm (by omega) (by show (1 : Int) ≤ 2; omega), e1, r1]
    rfl
  rw [law17_works.eq, l1, bnd_some, l2, bnd_some, hcount_any _ hh, bnd_some, hdepth_any _ hh, bnd_some, hbindsE hh 2 (fun _ => by rw [hb]; omega), bnd_some, if_pos hf, if_pos hf, if_pos hf, hc, hd]
  simp only [eqI_d, br_if, ofN_d, lenL_d]
  rw [if_pos (show ((([2, 1] : List Int).length : Nat) : Int) = 2 from rfl), if_pos trivial, if_pos (show ((2 : Nat) : Int) = 2 from rfl), if_pos trivial, if_pos (by rw [hb]; rfl)]
  rfl
end Go.Proofs.Ytmopkbmcilolgaa.AC
set_option linter.unusedVariables false
set_option linter.unusedSimpArgs false
namespace Go.Proofs.Ytmopkbmcilolgaa.AC
open Go.Abs
def mk (l : List Bool) (i : Int) : Bool := l.getD (i - 1).toNat false
theorem mk_in {l : List Bool} {i : Int} (h : mk l i = true) : (i - 1).toNat < l.length := by
  unfold mk at h
  rcases Nat.lt_or_ge (i - 1).toNat l.length with h1 | h1
  · exact h1
  · rw [List.getD_eq_getElem?_getD, List.getElem?_eq_none h1] at h; cases h
/-- Whatever is marked, so far up, what is below it is marked. -/
def Cl (h : List NodeV) (m : Int) (l : List Bool) : Prop := ∀ i : Int, 1 ≤ i → i ≤ m → mk l i = true → ∀ c ∈ refsS (getN h i), mk l c = true
def Mk (h : List NodeV) (r : Int) (l l' : List Bool) : Prop := l'.length = h.length ∧ ∀ i : Int, 1 ≤ i → (mk l' i = true ↔ mk l i = true ∨ (1 ≤ r ∧ Bel h r i))
theorem Mk.cl {h : List NodeV} (hm : mayH h = true) {r m : Int} (hr : r ≤ h.length) {l l' : List Bool} (hl : l.length = h.length) (k : Mk h r l l') (c : Cl h m l) : Cl h m l' := by
  intro i h1 h2 hi c' hc
  rcases (k.2 i h1).1 hi with hi | ⟨hr1, hb⟩
  · have h3 := mk_in hi
    have := refs_may hm h1 (by omega) hc
    exact (k.2 c' this.1).2 (.inl (c i h1 h2 hi c' hc))
  · have h3 := Bel.in_ hm hr1 hr hb
    have := refs_may hm h1 (by omega) hc
    exact (k.2 c' this.1).2 (.inr ⟨hr1, .step hb hc⟩)
theorem mark_loop {h : List NodeV} (ho : okH h) (hm : mayH h = true) {m : Int} (hmh : m ≤ h.length) (refs : List Int) (hr : refs.length ≤ 50000000) (hin : ∀ c ∈ refs, 1 ≤ c ∧ c ≤ m) (hb : ∀ c ∈ refs, ∀ l : List Bool, l.length = h.length → Cl h c l → ∃ l', ref17_mark_o h c l = some ((), (l', ())) ∧ Mk h c l l') (d : Nat) :
    ∀ (k : Nat) (l : List Bool), k ≤ refs.length → refs.length - k = d → l.length = h.length → Cl h m l →
      ∃ l', ref17_mark_o.l1 h refs (k : Int) l = some ((), (l', ())) ∧ l'.length = h.length ∧ ∀ i : Int, 1 ≤ i → (mk l' i = true ↔ mk l i = true ∨ ∃ c ∈ refs.drop k, Bel h c i) := by
  induction d with
  | zero =>
    intro k l h1 h2 h3 h4
    refine ⟨l, ?_, h3, fun i hi => ?_⟩
    · rw [ref17_mark_o.l1.eq]
      simp only [ltI_d, ofN_d, lenL_d, br_if]
      rw [if_neg (by omega)]
    · rw [List.drop_eq_nil_of_le (by omega)]
      simp
  | succ d ih =>
    intro k l h1 h2 h3 h4
    have hk : k < refs.length := by omega
    have hc := hin _ (List.getElem_mem hk)
    obtain ⟨l1, e1, k1⟩ := hb _ (List.getElem_mem hk) l h3 (fun i i1 i2 => h4 i i1 (by omega))
    obtain ⟨l2, e2, k2, k3⟩ := ih (k + 1) l1 (by omega) (by omega) k1.1 (k1.cl hm (by omega) h3 h4)
    refine ⟨l2, ?_, k2, fun i hi => ?_⟩
    · rw [ref17_mark_o.l1.eq, ixR refs k hk, e1, bnd_some]
      simp only [ltI_d, leI_d, ofN_d, lenL_d, andB_d, br_if]
      rw [if_pos (by omega), if_pos (by omega), add1 k (by omega)]
      exact e2
    · rw [k3 i hi, k1.2 i hi, List.drop_eq_getElem_cons hk]
      constructor
      · rintro ((h | ⟨_, h⟩) | ⟨c, hc, h⟩)
        · exact .inl h
        · exact .inr ⟨refs[k], List.mem_cons_self, h⟩
        · exact .inr ⟨c, List.mem_cons_of_mem _ hc, h⟩
      · rintro (h | ⟨c, hc', h⟩)
        · exact .inl (.inl h)
        · rcases List.mem_cons.1 hc' with rfl | hc'
          · exact .inl (.inr ⟨hc.1, h⟩)
          · exact .inr ⟨c, hc', h⟩
theorem mark_any {h : List NodeV} (ho : okH h) (hm : mayH h = true) : ∀ (n : Nat) (r : Int) (l : List Bool), 0 ≤ r → r ≤ n → r ≤ h.length → l.length = h.length → Cl h r l → ∃ l', ref17_mark_o h r l = some ((), (l', ())) ∧ Mk h r l l' := by
  have hlen := ho.len
  have zero : ∀ l : List Bool, l.length = h.length → ∃ l', ref17_mark_o h 0 l = some ((), (l', ())) ∧ Mk h 0 l l' := fun l hl => by
    refine ⟨l, ?_, hl, fun i hi => ⟨fun q => .inl q, fun q => q.elim id fun q => absurd q.1 (by omega)⟩⟩
    rw [ref17_mark_o.eq, eqI_d, br_if, if_pos rfl, ref17_mark_o.j0.eq, br_t]
  intro n
  induction n with
  | zero =>
    intro r l h0 h1 h2 h3 h4
    have : r = 0 := by omega
    subst this
    exact zero l h3
  | succ n ih =>
    intro r l h0 h1 h2 h3 h4
    by_cases e : r = 0
    · subst e; exact zero l h3
    have hr1 : 1 ≤ r := by omega
    obtain ⟨q, rfl⟩ : ∃ q : Nat, r = ((q + 1 : Nat) : Int) := ⟨(r - 1).toNat, by omega⟩
    have hq : ((q + 1 : Nat) : Int) - 1 = (q : Int) := by omega
    have es : subI .i64 ((q + 1 : Nat) : Int) 1 = (q : Int) := by rw [sub1I _ (by omega) (by omega)]; omega
    have emk : mk l ((q + 1 : Nat) : Int) = l.getD q false := by unfold mk; rw [hq, Int.toNat_natCast]
    have hinB : andB (leI 0 (q : Int)) (ltI (q : Int) (ofN (lenL .bool l))) = true := by
      unfold andB leI ltI ofN lenL
      rw [decide_eq_true (by omega), decide_eq_true (by omega)]
      rfl
    rw [ref17_mark_o.eq, eqI_d, br_if, if_neg e, es, hinB, br_t, ixB, ← emk]
    cases hk : mk l ((q + 1 : Nat) : Int) with
    | true =>
      refine ⟨l, by rw [ref17_mark_o.j0.eq, br_t], h3, fun i hi => ⟨fun q => .inl q, fun hh => hh.elim id fun hh => ?_⟩⟩
      have : ∀ i, Bel h ((q + 1 : Nat) : Int) i → mk l i = true := fun i b => by
        induction b with
        | self => exact hk
        | step b hi ih =>
          have hj := Bel.in_ hm hr1 h2 b
          exact h4 _ hj.1 hj.2 ih _ hi
      exact this i hh.2
    | false =>
      have o := ho.node _ (getN_mem h _ hr1 h2)
      have hrl := refsS_len (getN h ((q + 1 : Nat) : Int))
      have hkl := o.kids
      have hin : ∀ c ∈ refsS (getN h ((q + 1 : Nat) : Int)), 1 ≤ c ∧ c ≤ (q : Int) := fun c hc => by
        have := refs_may hm hr1 h2 hc
        omega
      have hset : ∀ i : Int, 1 ≤ i → mk (l.set q true) i = (decide (i = ((q + 1 : Nat) : Int)) || mk l i) := fun i hi => by
        unfold mk
        rw [getD_set _ _ _ (by omega)]
        congr 1
        exact decide_eq_decide.2 (by omega)
      have c1 : Cl h (q : Int) (l.set q true) := fun i i1 i2 hi c hc => by
        rw [hset i i1, decide_eq_false (by omega), Bool.false_or] at hi
        have := refs_may hm i1 (by omega) hc
        rw [hset c this.1, h4 i i1 (by omega) hi c hc, Bool.or_true]
      obtain ⟨l2, e2, k2, k3⟩ := mark_loop ho hm (m := (q : Int)) (by omega) (refsS (getN h ((q + 1 : Nat) : Int))) (by omega) hin (fun c hc l hl hcl => by
        have := hin c hc
        exact ih c l (by omega) (by omega) (by omega) hl hcl) _ 0 (l.set q true) (by omega) rfl (by rw [List.length_set]; exact h3) c1
      refine ⟨l2, ?_, k2, fun i hi => ?_⟩
      · have ein := inG h ((q + 1 : Nat) : Int) hr1 h2 (by omega)
        have eix := ixG h ((q + 1 : Nat) : Int) hr1 h2 (by omega)
        rw [es] at ein eix
        rw [ref17_mark_o.j0.eq, br_f, es, hinB, br_t, ein, br_t, eix, refrefs_any _ o, bnd_some, setB, Int.toNat_natCast]
        exact e2
      · rw [k3 i hi, hset i hi, List.drop_zero]
        simp only [Bool.or_eq_true, decide_eq_true_eq]
        rw [Bel.split]
        constructor
        · rintro ((h | h) | h)
          · exact .inr ⟨hr1, .inl h⟩
          · exact .inl h
          · exact .inr ⟨hr1, .inr h⟩
        · rintro (h | ⟨_, h | h⟩)
          · exact .inl (.inr h)
          · exact .inl (.inl h)
          · exact .inr h
theorem refRefs_loop {h : List NodeV} {r : Int} {l : List Bool} (hl : l.length ≤ 40000000) (hk : ∀ i : Int, 1 ≤ i → mk l i = belB h r i) : ∀ (s : Nat) (acc : List Int), s ≤ l.length → acc.length + s ≤ 50000000 → ref17_Refs.l0 ((s : Int) - 1) l acc = some (acc ++ desc (belB h r) s)
  | 0, acc, _, _ => by
    rw [ref17_Refs.l0.eq, leI_d, br_if, if_neg (by omega)]
    show some acc = some (acc ++ [])
    rw [List.append_nil]
  | s + 1, acc, hs, ha => by
    have e0 : ((s + 1 : Nat) : Int) - 1 = (s : Int) := by omega
    have e1 : subI .i64 (s : Int) 1 = (s : Int) - 1 := subI_d (by omega) (by omega)
    have e2 : addI .i64 (s : Int) 1 = ((s + 1 : Nat) : Int) := add1 s (by omega)
    have e3 : l.getD s false = belB h r ((s + 1 : Nat) : Int) := by
      rw [← hk _ (by omega)]
      unfold mk
      rw [e0, Int.toNat_natCast]
    rw [e0, ref17_Refs.l0.eq, ixB, e3, e1, e2]
    simp only [ltI_d, leI_d, ofN_d, lenL_d, andB_d, fitL_d, appL_d, br_if]
    rw [if_pos (by omega), if_pos (by omega)]
    unfold desc
    cases hb : belB h r ((s + 1 : Nat) : Int) with
    | false =>
      rw [br_f, if_neg (by simp)]
      exact refRefs_loop hl hk s acc (by omega) (by omega)
    | true =>
      rw [br_t, if_pos rfl, if_pos (by rw [List.length_append]; show _ + 1 ≤ _; omega), refRefs_loop hl hk s _ (by omega) (by rw [List.length_append]; show _ + 1 + s ≤ _; omega), List.append_assoc]
      rfl
theorem refRefs_any {h : List NodeV} (ho : okH h) (hm : mayH h = true) {r : Int} (h0 : 0 ≤ r) (h2 : r ≤ h.length) : ref17_Refs h r = some (belS h r) := by
  have hlen := ho.len
  have hz : ∀ i, mk (List.replicate h.length false) i = false := fun i => by
    unfold mk
    rw [List.getD_eq_getElem?_getD, List.getElem?_replicate]
    split <;> rfl
  obtain ⟨l', e, k⟩ := mark_any ho hm r.toNat r (List.replicate h.length false) h0 (by omega) h2 List.length_replicate (fun i _ _ hi => by rw [hz] at hi; cases hi)
  have hk : ∀ i : Int, 1 ≤ i → mk l' i = belB h r i := fun i hi => by
    rw [Bool.eq_iff_iff, k.2 i hi, hz, belB_iff]
    simp
  have et : toN (ofN (lenL tapiNode h)) = h.length := Int.toNat_natCast _
  have eg : andB (fitN (ofN (lenL tapiNode h))) (eqI (ofN (lenL tapiNode h)) (ofN (lenL tapiNode h))) = true := by
    unfold andB fitN eqI ofN lenL
    rw [decide_eq_true (by omega), decide_eq_true rfl]
    rfl
  have es : subI .i64 (ofN (lenL tapiNode h)) 1 = (h.length : Int) - 1 := by
    unfold ofN lenL
    exact subI_d (by omega) (by omega)
  rw [ref17_Refs.eq, eg, br_t, et, es, show repL .bool h.length false = List.replicate h.length false from rfl, e, bnd_some]
  have := refRefs_loop (h := h) (r := r) (l := l') (by rw [k.1]; exact hlen) hk h.length [] (by rw [k.1]; exact Nat.le_refl _) (by simp; omega)
  exact this
end Go.Proofs.Ytmopkbmcilolgaa.AC
set_option linter.unusedVariables false
set_option linter.unusedSimpArgs false
namespace Go.Proofs.Ytmopkbmcilolgaa.AC
open Go.Abs
theorem tri (a b : ByteArray) : (lt a b = true ∧ lt b a = false ∧ a ≠ b) ∨ (a = b ∧ lt a b = false ∧ lt b a = false) ∨ (lt b a = true ∧ lt a b = false ∧ a ≠ b) := by
  by_cases h : a = b
  · subst h; exact .inr (.inl ⟨rfl, lt_irrefl _, lt_irrefl _⟩)
  · rcases lt_total h with k | k
    · exact .inl ⟨k, lt_asymm k, h⟩
    · exact .inr (.inr ⟨k, lt_asymm k, h⟩)
theorem putS_lt {q p : PairV} {qs : List PairV} (h : lt q.1 p.1 = true) : putS (q :: qs) p = q :: putS qs p := by
  rw [putS, if_pos h]
theorem putS_eq {q p : PairV} {qs : List PairV} (h : q.1 = p.1) : putS (q :: qs) p = p :: qs := by
  rw [putS, if_neg (by rw [h, lt_irrefl]; simp), if_pos h]
theorem putS_gt {q p : PairV} {qs : List PairV} (h : lt p.1 q.1 = true) : putS (q :: qs) p = p :: q :: qs := by
  rw [putS, if_neg (by rw [lt_asymm h]; simp), if_neg (fun e => by rw [e, lt_irrefl] at h; cases h)]
theorem putS_nil (p : PairV) : putS [] p = [p] := rfl
theorem putS_same {p x : PairV} (h : p.1 = x.1) : ∀ l, putS (putS l p) x = putS l x
  | [] => by rw [putS_nil, putS_eq h, putS_nil]
  | q :: qs => by
    rcases tri q.1 p.1 with ⟨a, _⟩ | ⟨a, _⟩ | ⟨a, _⟩
    · have a' : lt q.1 x.1 = true := by rw [← h]; exact a
      rw [putS_lt a, putS_lt a', putS_lt a', putS_same h qs]
    · rw [putS_eq a, putS_eq h, putS_eq (a.trans h)]
    · have a' : lt x.1 q.1 = true := by rw [← h]; exact a
      rw [putS_gt a, putS_eq h, putS_gt a']
theorem putS_comm {p x : PairV} (h : p.1 ≠ x.1) : ∀ l, putS (putS l p) x = putS (putS l x) p
  | [] => by
    rw [putS_nil, putS_nil]
    rcases tri p.1 x.1 with ⟨c, _⟩ | ⟨c, _⟩ | ⟨c, _⟩
    · rw [putS_lt c, putS_gt c, putS_nil]
    · exact absurd c h
    · rw [putS_gt c, putS_lt c, putS_nil]
  | q :: qs => by
    rcases tri q.1 p.1 with ⟨a, _⟩ | ⟨a, _⟩ | ⟨a, _⟩
    · rcases tri q.1 x.1 with ⟨b, _⟩ | ⟨b, _⟩ | ⟨b, _⟩
      · rw [putS_lt a, putS_lt b, putS_lt b, putS_lt a, putS_comm h qs]
      · have c : lt x.1 p.1 = true := by rw [← b]; exact a
        rw [putS_lt a, putS_eq b, putS_eq b, putS_lt c]
      · rw [putS_lt a, putS_gt b, putS_gt b, putS_lt (lt_trans b a), putS_lt a]
    · rcases tri q.1 x.1 with ⟨b, _⟩ | ⟨b, _⟩ | ⟨b, _⟩
      · have c : lt p.1 x.1 = true := by rw [← a]; exact b
        rw [putS_eq a, putS_lt c, putS_lt b, putS_eq a]
      · exact absurd (a.symm.trans b) h
      · have c : lt x.1 p.1 = true := by rw [← a]; exact b
        rw [putS_eq a, putS_gt c, putS_gt b, putS_lt c, putS_eq a]
    · rcases tri q.1 x.1 with ⟨b, _⟩ | ⟨b, _⟩ | ⟨b, _⟩
      · rw [putS_gt a, putS_lt (lt_trans a b), putS_lt b, putS_gt a]
      · have c : lt p.1 x.1 = true := by rw [← b]; exact a
        rw [putS_gt a, putS_lt c, putS_eq b, putS_gt c]
      · rcases tri p.1 x.1 with ⟨c, _⟩ | ⟨c, _⟩ | ⟨c, _⟩
        · rw [putS_gt a, putS_lt c, putS_gt b, putS_gt c]
        · exact absurd c h
        · rw [putS_gt a, putS_gt c, putS_gt b, putS_lt c, putS_gt a]
theorem fold_skip {p : PairV} : ∀ (r acc : List PairV), (∃ q ∈ r, q.1 = p.1) → r.foldl putS (putS acc p) = r.foldl putS acc
  | [], _, ⟨_, h, _⟩ => by cases h
  | x :: r, acc, ⟨q, hq, e⟩ => by
    rw [List.foldl_cons, List.foldl_cons]
    by_cases hx : p.1 = x.1
    · rw [putS_same hx]
    · rw [putS_comm hx]
      refine fold_skip r _ ⟨q, ?_, e⟩
      rcases List.mem_cons.1 hq with rfl | hq
      · exact absurd e.symm hx
      · exact hq
/-! ### The document's way -/
theorem last_loop (l : List PairV) (hl : l.length ≤ 50000000) (i : Nat) (hi : i < l.length) (d : Nat) : ∀ (k : Nat), k ≤ l.length → l.length - k = d → ref07_last.l0 l i k = some ((l.drop k).all fun q => !decide (q.1 = l[i].1)) := by
  induction d with
  | zero =>
    intro k h1 h2
    rw [ref07_last.l0.eq]
    simp only [ltI_d, ofN_d, lenL_d, br_if]
    rw [if_neg (by omega), List.drop_eq_nil_of_le (by omega)]
    rfl
  | succ d ih =>
    intro k h1 h2
    have hk : k < l.length := by omega
    rw [ref07_last.l0.eq]
    simp only [ltI_d, leI_d, eqS_d, ofN_d, lenL_d, andB_d, br_if]
    rw [if_pos (by omega), if_pos (by omega), if_pos (by omega), ixP l k hk, ixP l i hi, add1 k (by omega), ih (k + 1) (by omega) (by omega), List.drop_eq_getElem_cons hk]
    rw [List.all_cons]
    by_cases e : l[k].1 = l[i].1
    · rw [if_pos e, decide_eq_true e]; rfl
    · rw [if_neg e, decide_eq_false e]; rfl
theorem last_any (l : List PairV) (hl : l.length ≤ 50000000) (i : Nat) (hi : i < l.length) : ref07_last l i = some ((l.drop (i + 1)).all fun q => !decide (q.1 = l[i].1)) := by
  rw [ref07_last.eq, add1 i (by omega)]
  exact last_loop l hl i hi _ (i + 1) (by omega) rfl
theorem insert_any (l out : List PairV) (i at_ : Nat) (hi : i < l.length) (hl : l.length ≤ 50000000) (ha : at_ ≤ out.length) (ho : out.length ≤ 50000000) :
    ref07_Make.j2 l i at_ false out = ref07_Make.l0 l ((i + 1 : Nat) : Int) (out.take at_ ++ l[i] :: out.drop at_) := by
  rw [ref07_Make.j2.eq, br_f]
  have e0 : toN 0 = 0 := rfl
  have s1 : subL tapiPair out 0 at_ = out.take at_ := subL0 _ _ _
  have s2 : subL tapiPair out at_ out.length = out.drop at_ := by
    unfold subL
    exact List.take_of_length_le (by rw [List.length_drop]; omega)
  have hx := ixP l i hi
  simp only [e0, toN_d, ofN_d, lenL_d, s1, s2, hx, appL_d, List.nil_append, add1 i (by omega)]
  have c1 : andB (leI 0 (i : Int)) (ltI (i : Int) (l.length : Int)) = true := by
    rw [leI_d, ltI_d, andB_d]; exact decide_eq_true ⟨by omega, by omega⟩
  have c2 : andB (leI 0 0) (andB (leI 0 (at_ : Int)) (leI (at_ : Int) (out.length : Int))) = true := by
    rw [leI_d, leI_d, leI_d, andB_d, andB_d]; exact decide_eq_true ⟨by omega, by omega, by omega⟩
  have c3 : fitL tapiPair (out.take at_) = true := by rw [fitL_d]; exact decide_eq_true (by rw [List.length_take]; omega)
  have c4 : fitL tapiPair (out.take at_ ++ [l[i]]) = true := by rw [fitL_d]; exact decide_eq_true (by rw [List.length_append, List.length_take]; show _ + 1 ≤ _; omega)
  have c5 : andB (leI 0 (at_ : Int)) (andB (leI (at_ : Int) (out.length : Int)) (leI (out.length : Int) (out.length : Int))) = true := by
    rw [leI_d, leI_d, leI_d, andB_d, andB_d]; exact decide_eq_true ⟨by omega, by omega, by omega⟩
  have c6 : fitL tapiPair (out.take at_ ++ [l[i]] ++ out.drop at_) = true := by rw [fitL_d]; exact decide_eq_true (by rw [List.length_append, List.length_append, List.length_take, List.length_drop]; show _ + 1 + _ ≤ _; omega)
  simp only [c1, c2, c3, c4, c5, c6, br_t, both_self]
  rw [List.append_assoc]
  rfl
theorem find_loop (l out : List PairV) (i : Nat) (hi : i < l.length) (hl : l.length ≤ 50000000) (ho : out.length ≤ 50000000) (hs : ∀ p ∈ out, okP p) (hS : Srt out) (hne : ∀ q ∈ out, q.1 ≠ l[i].1) (d : Nat) : ∀ (a : Nat), a ≤ out.length → out.length - a = d → (∀ (b : Nat) (h : b < out.length), b < a → lt out[b].1 l[i].1 = true) →
    ref07_Make.l1 l i a out = ref07_Make.l0 l ((i + 1 : Nat) : Int) (putS out l[i]) := by
  have fin : ∀ (a : Nat), a ≤ out.length → (∀ (b : Nat) (h : b < out.length), b < a → lt out[b].1 l[i].1 = true) → (∀ (h : a < out.length), lt out[a].1 l[i].1 = false) → ref07_Make.j2 l i a false out = ref07_Make.l0 l ((i + 1 : Nat) : Int) (putS out l[i]) := by
    intro a h1 h2 h3
    rw [insert_any l out i a hi hl h1 ho, putS_at l[i] out a h1 h2 h3, if_neg (by rintro ⟨h, e⟩; exact hne _ (List.getElem_mem h) e)]
  induction d with
  | zero =>
    intro a h1 h2 h3
    rw [ref07_Make.l1.eq]
    simp only [ltI_d, ofN_d, lenL_d, br_if]
    rw [if_neg (by omega)]
    exact fin a h1 h3 (fun h => by omega)
  | succ d ih =>
    intro a h1 h2 h3
    have ha : a < out.length := by omega
    rw [ref07_Make.l1.eq]
    simp only [ltI_d, leI_d, ofN_d, lenL_d, andB_d, br_if]
    rw [if_pos (by omega), if_pos (by omega), if_pos (by omega), ixP out a ha, ixP l i hi, less_any _ _ (by have := (hs _ (List.getElem_mem ha)).1; omega), bnd_some]
    cases hc : lt out[a].1 l[i].1 with
    | true =>
      rw [ref07_Make.j2.eq, br_t, add1 a (by omega)]
      refine ih (a + 1) (by omega) (by omega) (fun b h hb => ?_)
      by_cases e : b = a
      · subst e; exact hc
      · exact h3 b h (by omega)
    | false => exact fin a h1 h3 (fun _ => hc)
theorem refmake_loop (l : List PairV) (hl : l.length ≤ 40000000) (hs : ∀ p ∈ l, okP p) (d : Nat) : ∀ (i : Nat) (acc : List PairV), i ≤ l.length → l.length - i = d → acc.length ≤ i → (∀ q ∈ acc, okP q) → Srt acc → (∀ q ∈ acc, ∀ x ∈ l.drop i, q.1 ≠ x.1) →
    ref07_Make.l0 l i acc = some ((l.drop i).foldl putS acc) := by
  induction d with
  | zero =>
    intro i acc h1 h2 h3 h4 h5 h6
    rw [ref07_Make.l0.eq]
    simp only [ltI_d, ofN_d, lenL_d, br_if]
    rw [if_neg (by omega), List.drop_eq_nil_of_le (by omega)]
    rfl
  | succ d ih =>
    intro i acc h1 h2 h3 h4 h5 h6
    have hi : i < l.length := by omega
    have hd := List.drop_eq_getElem_cons hi
    rw [hd] at h6
    rw [ref07_Make.l0.eq]
    simp only [ltI_d, ofN_d, lenL_d, br_if]
    rw [if_pos (by omega), last_any l (by omega) i hi, bnd_some, hd, List.foldl_cons]
    by_cases e' : ((l.drop (i + 1)).all fun q => !decide (q.1 = l[i].1)) = true
    · have e : ∀ q ∈ l.drop (i + 1), q.1 ≠ l[i].1 := fun q hq => by simpa using List.all_eq_true.1 e' q hq
      rw [e', show notB true = false from rfl, br_f]
      have := find_loop l acc i hi (by omega) (by omega) h4 h5 (fun q hq => h6 q hq _ List.mem_cons_self) acc.length 0 (by omega) (by omega) (fun b h hb => by omega)
      rw [show ((0 : Nat) : Int) = 0 from rfl] at this
      rw [this]
      have hlen := putS_len l[i] acc
      refine ih (i + 1) _ (by omega) (by omega) (by omega) (putS_ok h4 (hs _ (List.getElem_mem hi))) (putS_srt _ h5) (fun q hq x hx => ?_)
      rcases putS_mem hq with rfl | hq
      · exact fun h => e x hx h.symm
      · exact h6 q hq x (List.mem_cons_of_mem _ hx)
    · have e : ¬ ∀ q ∈ l.drop (i + 1), q.1 ≠ l[i].1 := fun h => e' (List.all_eq_true.2 fun q hq => by simpa using h q hq)
      have e2 : ((l.drop (i + 1)).all fun q => !decide (q.1 = l[i].1)) = false := by simpa using e'
      rw [e2, show notB false = true from rfl, br_t, add1 i (by omega), ih (i + 1) acc (by omega) (by omega) (by omega) h4 h5 (fun q hq x hx => h6 q hq x (List.mem_cons_of_mem _ hx))]
      have hex : ∃ q ∈ l.drop (i + 1), q.1 = l[i].1 := by
        refine Classical.byContradiction fun h => e fun q hq he => h ⟨q, hq, he⟩
      rw [fold_skip _ _ hex]
theorem refmake_any (l : List PairV) (hl : l.length ≤ 40000000) (hs : ∀ p ∈ l, okP p) : ref07_Make l = some (makeS l) := by
  rw [ref07_Make.eq]
  have := refmake_loop l hl hs l.length 0 [] (by omega) (by omega) (by simp) (by simp) List.Pairwise.nil (by simp)
  rw [List.drop_zero, show ((0 : Nat) : Int) = 0 from rfl] at this
  exact this
end Go.Proofs.Ytmopkbmcilolgaa.AC
set_option linter.unusedVariables false
set_option linter.unusedSimpArgs false
namespace Go.Proofs.Ytmopkbmcilolgaa.AC
open Go.Abs
theorem find_put (p : PairV) (k : ByteArray) : ∀ l : List PairV, (putS l p).find? (fun q => decide (q.1 = k)) = if p.1 = k then some p else l.find? (fun q => decide (q.1 = k))
  | [] => by
    show List.find? _ [p] = _
    rw [List.find?_cons]
    by_cases h : p.1 = k
    · rw [if_pos h, decide_eq_true h]
    · rw [if_neg h, decide_eq_false h]
  | q :: qs => by
    rcases tri q.1 p.1 with ⟨h, _, hne⟩ | ⟨h, _⟩ | ⟨h, _, hne⟩
    · rw [putS_lt h, List.find?_cons, find_put p k qs, List.find?_cons]
      by_cases hq : q.1 = k
      · have hp : ¬ p.1 = k := fun e => hne (hq.trans e.symm)
        rw [decide_eq_true hq]
        show (some q : Option PairV) = if p.1 = k then some p else some q
        rw [if_neg hp]
      · rw [decide_eq_false hq]
    · rw [putS_eq h, List.find?_cons, List.find?_cons]
      by_cases hp : p.1 = k
      · rw [if_pos hp, decide_eq_true hp]
      · rw [if_neg hp, decide_eq_false hp, decide_eq_false (fun e => hp (h.symm.trans e))]
    · rw [putS_gt h, List.find?_cons]
      by_cases hp : p.1 = k
      · rw [if_pos hp, decide_eq_true hp]
      · rw [if_neg hp, decide_eq_false hp]
theorem find_fold (k : ByteArray) : ∀ (l acc : List PairV), (l.foldl putS acc).find? (fun q => decide (q.1 = k)) = (l.reverse.find? (fun q => decide (q.1 = k))).or (acc.find? (fun q => decide (q.1 = k)))
  | [], _ => rfl
  | p :: l, acc => by
    rw [List.foldl_cons, find_fold k l, find_put, List.reverse_cons, List.find?_append, Option.or_assoc]
    congr 1
    rw [List.find?_cons]
    by_cases h : p.1 = k
    · rw [if_pos h, decide_eq_true h]; rfl
    · rw [if_neg h, decide_eq_false h]; rfl
theorem find_make (k : ByteArray) (l : List PairV) : (makeS l).find? (fun q => decide (q.1 = k)) = l.reverse.find? (fun q => decide (q.1 = k)) := by
  have := find_fold k l []
  rw [List.find?_nil, Option.or_none] at this
  exact this
def valF (o : Option PairV) : ByteArray × Bool × Unit := match o with
  | some p => (p.2.1, (true, ()))
  | none => (ByteArray.empty, (false, ()))
theorem subI_nat (n : Nat) (h : n ≤ 1000000000) : subI .i64 (n : Int) 1 = (n : Int) - 1 := subI_d (by omega) (by omega)
theorem rget_loop (l : List PairV) (k : ByteArray) (hl : l.length ≤ 50000000) : ∀ (n : Nat), n ≤ l.length → ref07_Get.l0 l k ((n : Int) - 1) = some (valF ((l.take n).reverse.find? (fun q => decide (q.1 = k)))) := by
  intro n
  induction n with
  | zero =>
    intro h
    rw [ref07_Get.l0.eq, leI_d, br_if, if_neg (by omega), List.take_zero]
    rfl
  | succ n ih =>
    intro h
    have hi : n < l.length := by omega
    rw [show (((n + 1 : Nat) : Int) - 1) = (n : Int) by omega, ref07_Get.l0.eq]
    simp only [leI_d, ltI_d, ofN_d, lenL_d, andB_d, eqS_d, br_if]
    have hin : 0 ≤ (n : Int) ∧ (n : Int) < (l.length : Int) := ⟨by omega, by omega⟩
    rw [if_pos hin.1, if_pos hin, ixP l n hi, if_pos hin, subI_nat n (by omega), ih (by omega), List.take_succ_eq_append_getElem hi, List.reverse_append, List.reverse_singleton]
    show _ = some (valF (List.find? _ (l[n] :: (l.take n).reverse)))
    rw [List.find?_cons]
    by_cases e : l[n].1 = k
    · rw [if_pos e, decide_eq_true e]; rfl
    · rw [if_neg e, decide_eq_false e]
theorem rget_any (l : List PairV) (k : ByteArray) (hl : l.length ≤ 50000000) : ref07_Get l k = some (valF ((makeS l).find? (fun q => decide (q.1 = k)))) := by
  rw [ref07_Get.eq, find_make]
  simp only [ofN_d, lenL_d]
  rw [subI_nat _ (by omega), rget_loop l k hl l.length (Nat.le_refl _), List.take_length]
end Go.Proofs.Ytmopkbmcilolgaa.AC
set_option linter.unusedVariables false
set_option linter.unusedSimpArgs false
namespace Go.Proofs.Ytmopkbmcilolgaa.AC
open Go.Abs
theorem shl_one (i : Nat) (h : i < 32) : shlI .u32 1 (i : Int) = ((2 ^ i : Nat) : Int) := by
  unfold shlI
  have h1 := pow_lt32 h
  rw [Int.toNat_natCast, show IntKind.u32.bits = 32 from rfl, Nat.min_eq_left (by omega), Int.one_mul]
  have : ((2 : Int) ^ i) = ((2 ^ i : Nat) : Int) := by simp
  rw [this]
  generalize 2 ^ i = q at h1 ⊢
  exact wraps_u32 _ (by omega) (by omega)
theorem below_any (i : Int) : mask_below i = some (low i : Int) := by
  rw [mask_below.eq]
  simp only [leI_d, br_if]
  unfold low cl
  by_cases h1 : i ≤ 0
  · rw [if_pos h1, show (min (max i 0) 32).toNat = 0 by omega]
    rfl
  rw [if_neg h1]
  by_cases h2 : 32 ≤ i
  · rw [if_pos h2, show (min (max i 0) 32).toNat = 32 by omega]
    rfl
  rw [if_neg h2, if_pos (by omega), show (min (max i 0) 32).toNat = i.toNat by omega]
  have hi : i = ((i.toNat : Nat) : Int) := by omega
  have hlt : i.toNat < 32 := by omega
  generalize i.toNat = k at hi hlt
  subst hi
  rw [shl_one k hlt]
  have h3 := pow_lt32 hlt
  have h4 : 0 < 2 ^ k := Nat.two_pow_pos _
  refine some_int ?_
  generalize 2 ^ k = q at h3 h4 ⊢
  unfold subI
  rw [wraps_u32 _ (by omega) (by omega)]
  omega
theorem place_m (m : Nat) (hm : m < 4294967296) (i : Int) : mask_Place m i = some (cnt (cl i) m : Int) := by
  rw [mask_Place.eq, below_any, bnd_some, and_u32 _ _ hm (low_lt i), ones_any _ (Nat.lt_of_le_of_lt Nat.and_le_left hm), bnd_some, cnt_low m i 32 (by omega), Nat.min_eq_right (cl_le i)]
theorem in_any (i : Int) : mask_in i = some (decide (0 ≤ i ∧ i < 32)) := by
  rw [mask_in.eq]
  simp only [leI_d, ltI_d, br_if]
  by_cases h : 0 ≤ i
  · rw [if_pos h]; exact some_bool (decide_eq_decide.2 (by omega))
  · rw [if_neg h]; exact some_bool (decide_eq_false (by omega)).symm
theorem has_m (m : Nat) (hm : m < 4294967296) (i : Int) : mask_Has m i = some (hasM m i) := by
  rw [mask_Has.eq, in_any, bnd_some]
  simp only [leI_d, eqI_d, br_if]
  unfold hasM
  by_cases h : 0 ≤ i ∧ i < 32
  · rw [if_pos h, if_pos h.1, decide_eq_true h, Bool.true_and]
    have hi : i = ((i.toNat : Nat) : Int) := by omega
    have hlt : i.toNat < 32 := by omega
    generalize i.toNat = k at hi hlt
    subst hi
    rw [shr_div m k .u32 (show k ≤ 32 by omega)]
    have hd : m / 2 ^ k ≤ m := Nat.div_le_self _ _
    rw [show (1 : Int) = ((1 : Nat) : Int) from rfl, and_u32 _ _ (by omega) (by omega), Nat.and_one_is_mod]
    rw [show m.testBit k = decide (m / 2 ^ k % 2 = 1) from Nat.testBit_eq_decide_div_mod_eq]
    exact some_bool (decide_eq_decide.2 (by omega))
  · rw [if_neg h, decide_eq_false h]; rfl
end Go.Proofs.Ytmopkbmcilolgaa.AC
