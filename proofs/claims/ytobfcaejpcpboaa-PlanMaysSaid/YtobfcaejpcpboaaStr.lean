/- Plain lemmas on byte strings: the order of texts, their common beginning; for all inputs, without conditions but those that each lemma names. -/
import Derived.Test.YtobfcaejpcpboaaLim
import Derived.WideShapes
set_option linter.unusedVariables false
namespace Go.Abs
/-- A byte of a text. -/
def bt (a : ByteArray) (i : Int) : Int := getS a (toN i)

/-- A text as a list of bytes. -/
abbrev bl (s : ByteArray) : List UInt8 := s.data.toList

theorem loop_eq (bs : ByteArray) : ∀ (d i : Nat) (r : List UInt8), bs.size - i = d → ByteArray.toList.loop bs i r = r.reverse ++ (bl bs).drop i := by
  intro d
  induction d with
  | zero =>
    intro i r h
    unfold ByteArray.toList.loop
    rw [if_neg (by omega), List.drop_eq_nil_of_le (by simp [bl]; show bs.size ≤ i; omega)]
    simp
  | succ d ih =>
    intro i r h
    unfold ByteArray.toList.loop
    rw [if_pos (by omega), ih (i + 1) _ (by omega)]
    have hi : i < (bl bs).length := by simp [bl]; show i < bs.size; omega
    rw [List.drop_eq_getElem_cons hi]
    have : bs.get! i = (bl bs)[i] := by
      have hi' : i < bs.data.size := by show i < bs.size; omega
      simp only [bl, ByteArray.get!]
      rw [getElem!_pos bs.data i hi']
      rfl
    rw [this]
    simp

theorem toList_eq (bs : ByteArray) : bs.toList = bl bs := by
  unfold ByteArray.toList
  rw [loop_eq bs bs.size 0 [] rfl]
  simp

theorem bl_inj {a b : ByteArray} (h : bl a = bl b) : a = b := Go.WideShapes.bytes_inj h
theorem bl_len (a : ByteArray) : (bl a).length = a.size := by
  show a.data.toList.length = a.data.size
  simp
theorem toList_iff {a b : ByteArray} : a.toList = b.toList ↔ a = b := by
  constructor
  · intro h
    rw [toList_eq, toList_eq] at h
    exact bl_inj h
  · intro h
    rw [h]
theorem toList_beq (a b : ByteArray) : (a.toList == b.toList) = decide (a = b) := by
  by_cases h : a = b
  · subst h; simp
  · have : ¬ a.toList = b.toList := fun e => h (toList_iff.1 e)
    simp [h, this]

theorem bt_get (a : ByteArray) (i : Nat) (h : i < (bl a).length) : bt a (i : Int) = ((bl a)[i].toNat : Int) := by
  have h' : i < a.data.size := h
  unfold bt getS toN
  simp only [Int.toNat_natCast, bl, ByteArray.get!]
  rw [getElem!_pos a.data i h']
  rfl

/-- Which of two lists of bytes is ahead. -/
def ltL : List UInt8 → List UInt8 → Bool
  | _, [] => false
  | [], _ :: _ => true
  | x :: xs, y :: ys => if x = y then ltL xs ys else decide (x.toNat < y.toNat)
/-- How many bytes two lists have in common. -/
def comL : List UInt8 → List UInt8 → Nat
  | x :: xs, y :: ys => if x = y then comL xs ys + 1 else 0
  | _, _ => 0
/-- Which of two texts is ahead. -/
def lt (a b : ByteArray) : Bool := ltL (bl a) (bl b)
def com (a b : ByteArray) : Nat := comL (bl a) (bl b)
/-- As Go's Compare tells it. -/
def cmp (a b : ByteArray) : Int := if a = b then 0 else if lt a b then -1 else 1

theorem byte_eq {x y : UInt8} : x = y ↔ (x.toNat : Int) = (y.toNat : Int) := by
  constructor
  · intro h; rw [h]
  · intro h; exact UInt8.toNat_inj.1 (by omega)

theorem ltL_irrefl : ∀ a, ltL a a = false
  | [] => rfl
  | x :: xs => by simp [ltL, ltL_irrefl xs]
theorem ltL_trans : ∀ a b c, ltL a b = true → ltL b c = true → ltL a c = true
  | _, _, [], _, h => by cases ‹List UInt8› <;> simp [ltL] at h
  | _, [], _ :: _, h, _ => by cases ‹List UInt8› <;> simp [ltL] at h
  | [], _ :: _, _ :: _, _, _ => rfl
  | x :: xs, y :: ys, z :: zs, h1, h2 => by
    unfold ltL at h1 h2 ⊢
    by_cases e1 : x = y <;> by_cases e2 : y = z
    · subst e1; subst e2; simp at h1 h2 ⊢; exact ltL_trans _ _ _ h1 h2
    · subst e1; simp [e2] at h2 ⊢; exact h2
    · subst e2; simp [e1] at h1 ⊢; exact h1
    · simp [e1] at h1; simp [e2] at h2
      have : x ≠ z := by intro e; subst e; omega
      simp [this]; omega
theorem ltL_total : ∀ a b, a ≠ b → ltL a b = true ∨ ltL b a = true
  | [], [], h => absurd rfl h
  | [], _ :: _, _ => .inl rfl
  | _ :: _, [], _ => .inr rfl
  | x :: xs, y :: ys, h => by
    unfold ltL
    by_cases e : x = y
    · subst e
      simp
      exact ltL_total xs ys (fun e => h (by rw [e]))
    · have e' : ¬ y = x := fun k => e k.symm
      have hn : x.toNat ≠ y.toNat := fun k => e (UInt8.toNat_inj.1 k)
      simp [e, e']
      omega

theorem lt_irrefl (a : ByteArray) : lt a a = false := ltL_irrefl _
theorem lt_trans {a b c : ByteArray} (h : lt a b = true) (k : lt b c = true) : lt a c = true := ltL_trans _ _ _ h k
theorem lt_total {a b : ByteArray} (h : a ≠ b) : lt a b = true ∨ lt b a = true := ltL_total _ _ (fun e => h (bl_inj e))
theorem lt_asymm {a b : ByteArray} (h : lt a b = true) : lt b a = false := by
  cases k : lt b a with
  | false => rfl
  | true => have := lt_trans h k; rw [lt_irrefl] at this; cases this
theorem lt_ne {a b : ByteArray} (h : lt a b = true) : a ≠ b := by
  intro e; subst e; rw [lt_irrefl] at h; cases h

theorem comL_le : ∀ a b, comL a b ≤ a.length ∧ comL a b ≤ b.length
  | [], _ => by simp [comL]
  | _ :: _, [] => by simp [comL]
  | x :: xs, y :: ys => by
    have := comL_le xs ys
    unfold comL
    split <;> simp <;> omega
theorem com_le (a b : ByteArray) : com a b ≤ a.size ∧ com a b ≤ b.size := by
  have := comL_le (bl a) (bl b)
  rw [bl_len, bl_len] at this
  exact this

theorem cmp_eq {a b : ByteArray} : cmp a b = 0 ↔ a = b := by
  unfold cmp
  by_cases h : a = b
  · simp [h]
  · simp only [h, if_false, iff_false]; split <;> omega
theorem cmp_neg {a b : ByteArray} : cmp a b < 0 ↔ lt a b = true := by
  unfold cmp
  by_cases h : a = b
  · subst h; simp [lt_irrefl]
  · simp only [h, if_false]; split <;> simp_all
theorem cmp_pos {a b : ByteArray} : 0 < cmp a b ↔ lt b a = true := by
  unfold cmp
  by_cases h : a = b
  · subst h; simp [lt_irrefl]
  · simp only [h, if_false]
    rcases lt_total h with k | k
    · simp [k, lt_asymm k]
    · simp [k, lt_asymm k]

/-- What the first bytes in which two texts differ say. -/
theorem ltL_com : ∀ a b, ltL a b = (if comL a b = b.length then false else if comL a b = a.length then true else decide ((a.getD (comL a b) 0).toNat < (b.getD (comL a b) 0).toNat))
  | _, [] => by simp [ltL, comL]
  | [], _ :: _ => by simp [ltL, comL]
  | x :: xs, y :: ys => by
    unfold ltL comL
    by_cases e : x = y
    · subst e
      simp only [if_true, List.length_cons, Nat.add_right_cancel_iff, List.getD_cons_succ]
      exact ltL_com xs ys
    · simp [e]

/-- A beginning of a list: which one is ahead of it. -/
theorem ltL_take : ∀ (a b : List UInt8) (i : Nat), ltL a b = true → (ltL a (b.take i) = true ↔ comL a b < i)
  | a, [], _, h => by cases a <;> simp [ltL] at h
  | [], y :: ys, i, _ => by cases i <;> simp [ltL, comL]
  | x :: xs, y :: ys, 0, _ => by simp [ltL]
  | x :: xs, y :: ys, i + 1, h => by
    unfold ltL at h
    simp only [List.take_succ_cons]
    unfold ltL comL
    by_cases e : x = y
    · simp only [e, if_true] at h ⊢
      rw [ltL_take xs ys i h]; omega
    · simp only [e, if_false] at h ⊢
      simp [h]
theorem ltL_take_not : ∀ (a b : List UInt8) (i : Nat), ltL a b = false → ltL a (b.take i) = false
  | _, _, 0, _ => by simp [ltL]
  | _, [], i + 1, h => by simp [ltL]
  | [], y :: ys, i + 1, h => by simp [ltL] at h
  | x :: xs, y :: ys, i + 1, h => by
    unfold ltL at h
    simp only [List.take_succ_cons]
    unfold ltL
    by_cases e : x = y
    · simp only [e, if_true] at h ⊢
      exact ltL_take_not xs ys i h
    · simp only [e, if_false] at h ⊢
      exact h
theorem ltL_len : ∀ (a b : List UInt8), ltL a b = true → comL a b < b.length
  | a, [], h => by cases a <;> simp [ltL] at h
  | [], y :: ys, _ => by simp [comL]
  | x :: xs, y :: ys, h => by
    unfold ltL at h
    unfold comL
    by_cases e : x = y
    · simp only [e, if_true] at h ⊢
      have := ltL_len xs ys h
      simp; omega
    · simp [e]
/-- What is behind a text and not behind another one is no shorter than the common beginning and one. -/
theorem ltL_short : ∀ (a b c : List UInt8), ltL a c = true → ltL b c = false → comL a b < b.length → ltL a b = true → comL a b < c.length
  | a, b, [], h, _, _, _ => by cases a <;> simp [ltL] at h
  | [], _ :: _, _ :: _, _, _, _, _ => by simp [comL]
  | _, [], _ :: _, _, _, h, _ => by simp at h
  | x :: xs, y :: ys, z :: zs, h1, h2, h3, h4 => by
    unfold ltL at h1 h2 h4
    unfold comL at h3 ⊢
    by_cases e : x = y
    · subst e
      simp only [if_true, List.length_cons] at h3 h4 ⊢
      by_cases e2 : x = z
      · subst e2
        simp only [if_true] at h1 h2
        have := ltL_short xs ys zs h1 h2 (by omega) h4
        omega
      · simp only [e2, if_false] at h1 h2
        simp_all
    · simp [e]

theorem bl_take (b : ByteArray) (i : Nat) : bl (b.extract 0 i) = (bl b).take i := by
  simp [bl]
theorem take_all (b : ByteArray) (i : Nat) (h : b.size ≤ i) : b.extract 0 i = b := by
  apply bl_inj
  rw [bl_take, List.take_of_length_le (by rw [bl_len]; exact h)]
theorem drop_cons (a : ByteArray) (i : Nat) (h : i < a.size) : ∃ x : UInt8, (bl a).drop i = x :: (bl a).drop (i + 1) ∧ bt a i = (x.toNat : Int) := by
  have h' : i < (bl a).length := by rw [bl_len]; exact h
  exact ⟨(bl a)[i], List.drop_eq_getElem_cons h', bt_get a i h'⟩
theorem comL_nil (l : List UInt8) : comL l [] = 0 := by cases l <;> rfl
theorem comL_end (a b : ByteArray) (i : Nat) (h : a.size ≤ i ∨ b.size ≤ i) : comL ((bl a).drop i) ((bl b).drop i) = 0 := by
  rcases h with h | h
  · rw [List.drop_eq_nil_of_le (by rw [bl_len]; exact h)]; rfl
  · rw [List.drop_eq_nil_of_le (as := bl b) (by rw [bl_len]; exact h)]; exact comL_nil _
theorem comL_step (a b : ByteArray) (i : Nat) (h : i < a.size) (h' : i < b.size) :
    comL ((bl a).drop i) ((bl b).drop i) = if bt a i = bt b i then comL ((bl a).drop (i + 1)) ((bl b).drop (i + 1)) + 1 else 0 := by
  obtain ⟨x, e, hx⟩ := drop_cons a i h
  obtain ⟨y, e', hy⟩ := drop_cons b i h'
  rw [e, e', hx, hy]
  show (if x = y then _ else _) = _
  by_cases q : x = y
  · rw [if_pos q, if_pos (byte_eq.1 q)]
  · rw [if_neg q, if_neg (fun k => q (byte_eq.2 k))]
theorem ltL_step (a b : ByteArray) (i : Nat) (h : i < a.size) (h' : i < b.size) :
    ltL ((bl a).drop i) ((bl b).drop i) = if bt a i = bt b i then ltL ((bl a).drop (i + 1)) ((bl b).drop (i + 1)) else decide (bt a i < bt b i) := by
  obtain ⟨x, e, hx⟩ := drop_cons a i h
  obtain ⟨y, e', hy⟩ := drop_cons b i h'
  rw [e, e', hx, hy]
  conv => lhs; unfold ltL
  by_cases q : x = y
  · rw [if_pos q, if_pos (byte_eq.1 q)]
  · rw [if_neg q, if_neg (fun k => q (byte_eq.2 k))]
    exact decide_eq_decide.2 (by omega)
theorem ltL_nil (l : List UInt8) : ltL l [] = false := by cases l <;> rfl
theorem ltL_end (a b : ByteArray) (i : Nat) (h1 : i ≤ a.size) (h2 : i ≤ b.size) (h : a.size ≤ i ∨ b.size ≤ i) : ltL ((bl a).drop i) ((bl b).drop i) = decide (a.size < b.size) := by
  by_cases e : b.size ≤ i
  · rw [List.drop_eq_nil_of_le (as := bl b) (by rw [bl_len]; exact e), ltL_nil]
    exact (decide_eq_false (by omega)).symm
  · have h3 : a.size ≤ i := by omega
    obtain ⟨y, e', _⟩ := drop_cons b i (by omega)
    rw [List.drop_eq_nil_of_le (by rw [bl_len]; exact h3), e']
    exact (decide_eq_true (by omega)).symm
theorem comL_self : ∀ l, comL l l = l.length
  | [] => rfl
  | x :: xs => by simp [comL, comL_self xs]
theorem com_self (a : ByteArray) : com a a = a.size := by rw [com, comL_self, bl_len]
theorem comL_full : ∀ a b, comL a b = a.length → comL a b = b.length → a = b
  | [], [], _, _ => rfl
  | [], _ :: _, _, h => by simp [comL] at h
  | _ :: _, [], h, _ => by simp [comL] at h
  | x :: xs, y :: ys, h, h' => by
    unfold comL at h h'
    by_cases e : x = y
    · simp only [e, if_true, List.length_cons, Nat.add_right_cancel_iff] at h h'
      rw [e, comL_full xs ys h h']
    · simp [e] at h
theorem com_full {a b : ByteArray} (h : com a b = a.size) (h' : com a b = b.size) : a = b :=
  bl_inj (comL_full _ _ (by rw [bl_len]; exact h) (by rw [bl_len]; exact h'))
theorem comL_ne : ∀ a b, comL a b < a.length → comL a b < b.length → a.getD (comL a b) 0 ≠ b.getD (comL a b) 0
  | [], _, h, _ => by simp at h
  | _ :: _, [], _, h => by simp at h
  | x :: xs, y :: ys, h, h' => by
    unfold comL at h h' ⊢
    by_cases e : x = y
    · simp only [e, if_true, List.length_cons] at h h' ⊢
      rw [List.getD_cons_succ, List.getD_cons_succ]
      exact comL_ne xs ys (by omega) (by omega)
    · simp only [e, if_false]
      simpa using e
theorem bt_getD (a : ByteArray) (i : Nat) (h : i < a.size) : bt a i = (((bl a).getD i 0).toNat : Int) := by
  have h' : i < (bl a).length := by rw [bl_len]; exact h
  rw [bt_get a i h', List.getD_eq_getElem?_getD, List.getElem?_eq_getElem h']
  rfl
theorem lt_com (a b : ByteArray) : lt a b = if com a b = b.size then false else if com a b = a.size then true else decide (bt a (com a b) < bt b (com a b)) := by
  have hle := com_le a b
  have h := ltL_com (bl a) (bl b)
  rw [bl_len, bl_len] at h
  show ltL (bl a) (bl b) = _
  rw [h]
  show (if com a b = b.size then _ else if com a b = a.size then _ else _) = _
  by_cases h1 : com a b = b.size
  · rw [if_pos h1, if_pos h1]
  · rw [if_neg h1, if_neg h1]
    by_cases h2 : com a b = a.size
    · rw [if_pos h2, if_pos h2]
    · rw [if_neg h2, if_neg h2, bt_getD a _ (by omega), bt_getD b _ (by omega)]
      exact decide_eq_decide.2 (by unfold com; omega)
theorem com_ne {a b : ByteArray} (h1 : com a b ≠ a.size) (h2 : com a b ≠ b.size) : bt a (com a b) ≠ bt b (com a b) := by
  have hle := com_le a b
  rw [bt_getD a _ (by omega), bt_getD b _ (by omega)]
  have h := comL_ne (bl a) (bl b) (by rw [bl_len]; show com a b < _; omega) (by rw [bl_len]; show com a b < _; omega)
  intro e
  exact h (byte_eq.2 e)
theorem cmp_com (a b : ByteArray) : cmp a b = if com a b = a.size then (if com a b = b.size then 0 else -1) else if com a b = b.size then 1 else if bt a (com a b) > bt b (com a b) then 1 else -1 := by
  by_cases e : a = b
  · subst e
    unfold cmp
    rw [if_pos rfl, if_pos (com_self a), if_pos (com_self a)]
  · unfold cmp
    rw [if_neg e, lt_com]
    by_cases h1 : com a b = a.size
    · have h2 : com a b ≠ b.size := fun k => e (com_full h1 k)
      rw [if_pos h1, if_neg h2, if_neg h2, if_pos h1, if_pos rfl]
    · rw [if_neg h1, if_neg h1]
      by_cases h2 : com a b = b.size
      · rw [if_pos h2, if_pos h2]; rfl
      · have := com_ne h1 h2
        rw [if_neg h2, if_neg h2]
        by_cases h3 : bt a (com a b) > bt b (com a b)
        · rw [if_pos h3, if_neg (by simp; omega)]
        · rw [if_neg h3, if_pos (by simp; omega)]
theorem lt_com_lt {a b : ByteArray} (h : lt a b = true) : com a b < b.size := by
  have := ltL_len (bl a) (bl b) h
  rw [bl_len] at this
  exact this
theorem lt_take {a b : ByteArray} (h : lt a b = true) (i : Nat) : lt a (b.extract 0 i) = true ↔ com a b < i := by
  unfold lt
  rw [bl_take]
  exact ltL_take _ _ i h
theorem lt_take_not {a b : ByteArray} (h : lt a b = false) (i : Nat) : lt a (b.extract 0 i) = false := by
  unfold lt
  rw [bl_take]
  exact ltL_take_not _ _ i h
theorem lt_short {a b c : ByteArray} (h1 : lt a c = true) (h2 : lt b c = false) (h4 : lt a b = true) : com a b < c.size := by
  have := ltL_short (bl a) (bl b) (bl c) h1 h2 (by rw [bl_len]; exact lt_com_lt h4) h4
  rw [bl_len] at this
  exact this
/-- What is ahead of a text with a zero byte behind it: what is ahead of the text, and the text. -/
theorem ltL_zero : ∀ a b : List UInt8, ltL b (a ++ [0]) = (ltL b a || decide (b = a))
  | [], [] => rfl
  | [], y :: ys => by
    simp only [List.nil_append]
    unfold ltL
    by_cases e : y = 0
    · subst e; cases ys <;> simp [ltL]
    · simp [e]
  | x :: xs, [] => rfl
  | x :: xs, y :: ys => by
    simp only [List.cons_append]
    unfold ltL
    by_cases e : y = x
    · subst e
      simp only [if_true, ltL_zero xs ys, List.cons.injEq, true_and]
    · simp [e]
theorem lt_zero (a b : ByteArray) : lt b (a ++ (⟨#[0]⟩ : ByteArray)) = (lt b a || decide (b = a)) := by
  have h := ltL_zero (bl a) (bl b)
  have e : bl (a ++ (⟨#[0]⟩ : ByteArray)) = bl a ++ [0] := by simp [bl]
  unfold lt
  rw [e, h]
  congr 1
  exact decide_eq_decide.2 ⟨fun q => bl_inj q, fun q => by rw [q]⟩
end Go.Abs
