/- Limits: calls and loops without a count, and what they answer. No conditions. -/
import Derived.Test.YtobfcaejpcpboaaFin
set_option autoImplicit false
set_option linter.unusedVariables false
namespace Go.Abs

section
variable {R A : Type}
/-- More and more is answered, and in the end so much. -/
structure IsLim (x : Nat → Option R) (y : Option R) : Prop where
  mono : ∀ k r, x k = some r → x (k + 1) = some r
  iff : ∀ r, y = some r ↔ ∃ k, x k = some r
theorem IsLim.const (y : Option R) : IsLim (fun _ => y) y := ⟨fun _ _ h => h, fun r => ⟨fun h => ⟨0, h⟩, fun ⟨_, h⟩ => h⟩⟩
theorem IsLim.le {x : Nat → Option R} {y : Option R} (h : IsLim x y) {k : Nat} {r : R} : ∀ (j : Nat), x k = some r → x (k + j) = some r
  | 0, e => e
  | j + 1, e => h.mono _ _ (h.le j e)
theorem IsLim.ge {x : Nat → Option R} {y : Option R} (h : IsLim x y) {k j : Nat} {r : R} (hk : k ≤ j) (e : x k = some r) : x j = some r := by
  have := h.le (j - k) e
  rwa [Nat.add_sub_cancel' hk] at this
theorem IsLim.uniq {x : Nat → Option R} {y y' : Option R} (h : IsLim x y) (h' : IsLim x y') : y = y' := by
  cases y with
  | some r => exact ((h'.iff r).2 ((h.iff r).1 rfl)).symm
  | none => cases y' with
    | none => rfl
    | some r => have := (h.iff r).2 ((h'.iff r).1 rfl); cases this
theorem IsLim.shift {x : Nat → Option R} {y : Option R} (h : IsLim x y) : IsLim (fun k => x (k + 1)) y :=
  ⟨fun k r => h.mono (k + 1) r, fun r => ⟨fun e => by obtain ⟨k, hk⟩ := (h.iff r).1 e; exact ⟨k, h.mono k r hk⟩, fun ⟨k, hk⟩ => (h.iff r).2 ⟨k + 1, hk⟩⟩⟩
theorem IsLim.br {b : Bool} {x1 x2 : Nat → Option R} {y1 y2 : Option R} (h1 : IsLim x1 y1) (h2 : IsLim x2 y2) : IsLim (fun k => br b (x1 k) (x2 k)) (br b y1 y2) := by
  cases b
  · exact h2
  · exact h1
theorem IsLim.bnd {x : Nat → Option A} {y : Option A} {K : Nat → A → Option R} {K' : A → Option R} (h : IsLim x y) (hK : ∀ a, IsLim (fun k => K k a) (K' a)) : IsLim (fun k => bnd (x k) (K k)) (bnd y K') := by
  refine ⟨fun k r e => ?_, fun r => ⟨fun e => ?_, fun ⟨k, e⟩ => ?_⟩⟩
  · unfold Abs.bnd at e ⊢
    obtain ⟨a, h1, h2⟩ := Option.bind_eq_some_iff.1 e
    exact Option.bind_eq_some_iff.2 ⟨a, h.mono k a h1, (hK a).mono k r h2⟩
  · unfold Abs.bnd at e ⊢
    obtain ⟨a, h1, h2⟩ := Option.bind_eq_some_iff.1 e
    obtain ⟨k1, g1⟩ := (h.iff a).1 h1
    obtain ⟨k2, g2⟩ := ((hK a).iff r).1 h2
    exact ⟨k1 + k2, Option.bind_eq_some_iff.2 ⟨a, h.le k2 g1, (hK a).ge (Nat.le_add_left _ _) g2⟩⟩
  · unfold Abs.bnd at e ⊢
    obtain ⟨a, h1, h2⟩ := Option.bind_eq_some_iff.1 e
    exact Option.bind_eq_some_iff.2 ⟨a, (h.iff a).2 ⟨k, h1⟩, ((hK a).iff r).2 ⟨k, h2⟩⟩
theorem both_iff {x y : Option R} {r : R} : both x y = some r ↔ x = some r ∧ y = some r := by
  refine ⟨both_some, fun ⟨h1, h2⟩ => ?_⟩
  unfold both
  rw [if_pos (h1.trans h2.symm)]
  exact h1
theorem IsLim.both {x1 x2 : Nat → Option R} {y1 y2 : Option R} (h1 : IsLim x1 y1) (h2 : IsLim x2 y2) : IsLim (fun k => both (x1 k) (x2 k)) (both y1 y2) := by
  refine ⟨fun k r e => ?_, fun r => ⟨fun e => ?_, fun ⟨k, e⟩ => ?_⟩⟩
  · have e := both_iff.1 e
    exact both_iff.2 ⟨h1.mono k r e.1, h2.mono k r e.2⟩
  · have e := both_iff.1 e
    obtain ⟨k1, g1⟩ := (h1.iff r).1 e.1
    obtain ⟨k2, g2⟩ := (h2.iff r).1 e.2
    exact ⟨k1 + k2, both_iff.2 ⟨h1.le k2 g1, h2.ge (Nat.le_add_left _ _) g2⟩⟩
  · have e := both_iff.1 e
    exact both_iff.2 ⟨(h1.iff r).2 ⟨k, e.1⟩, (h2.iff r).2 ⟨k, e.2⟩⟩
theorem IsLim.boths {L : Type} {f : Nat → L → Option R} {g : L → Option R} (h : ∀ a, IsLim (fun k => f k a) (g a)) : ∀ (l : List L), IsLim (fun k => boths (l.map (f k))) (boths (l.map g))
  | [] => .const _
  | [a] => h a
  | a :: b :: l => IsLim.both (h a) (IsLim.boths h (b :: l))
theorem lim_ok {x : Nat → Option R} (h : ∀ k r, x k = some r → x (k + 1) = some r) : IsLim x (lim x) := by
  refine ⟨h, fun r => ⟨fun e => ?_, fun ⟨k, e⟩ => ?_⟩⟩
  · unfold lim at e
    split at e
    · exact ⟨_, e⟩
    · cases e
  · have hx : ∃ k r, x k = some r := ⟨k, r, e⟩
    unfold lim
    rw [dif_pos hx]
    obtain ⟨r', e'⟩ := Classical.choose_spec hx
    rw [e']
    have L : IsLim x (some r') := ⟨h, fun r2 => ⟨fun e2 => by injection e2 with e2; subst e2; exact ⟨_, e'⟩, fun ⟨k2, e2⟩ => ?_⟩⟩
    · exact ((L.iff r).2 ⟨k, e⟩)
    · have up : ∀ (j k : Nat) (r : R), x k = some r → x (k + j) = some r := by
        intro j
        induction j with
        | zero => intro k r e; exact e
        | succ j ih => intro k r e; exact h _ _ (ih k r e)
      have a1 := up k2 _ _ e'
      have a2 := up (Classical.choose hx) _ _ e2
      rw [Nat.add_comm] at a2
      rw [a1] at a2
      exact a2
theorem lim_some {x : Nat → Option R} {r : R} (h : lim x = some r) : ∃ k, x k = some r := by
  unfold lim at h
  split at h
  · exact ⟨_, h⟩
  · cases h

/-! ### Runs -/
def KLim (Ks : Nat → Kn R) (K : Kn R) : Prop := ∀ e s, IsLim (fun k => (Ks k).go e s) (K.go e s)
def CLim (Cs : Nat → AbsFn) (C : AbsFn) : Prop := ∀ f args objs rt ots, IsLim (fun k => Cs k f args objs rt ots) (C f args objs rt ots)
def RLim (bs : Nat → Run R) (b : Run R) : Prop := ∀ s Ks K, KLim Ks K → IsLim (fun k => bs k s (Ks k)) (b s K)
theorem CLim.const (C : AbsFn) : CLim (fun _ => C) C := fun _ _ _ _ _ => .const _
theorem KLim.const (K : Kn R) : KLim (fun _ => K) K := fun _ _ => .const _
theorem againK_lim {p : List Nat} {ls : Nat → Run R} {l : Run R} {Ks : Nat → Kn R} {K : Kn R} (hl : ∀ s, IsLim (fun k => ls k s (Ks k)) (l s K)) (hK : KLim Ks K) : KLim (fun k => againK p (ls k) (Ks k)) (againK p l K) := by
  intro e s
  cases e with
  | normal => exact hl s
  | exit i => exact hK (.exit i) s
  | ret => exact hK .ret s
theorem seqK_lim {f : Bool} {p : List Nat} {bs : Nat → Run R} {b : Run R} {Ks : Nat → Kn R} {K : Kn R} (hb : RLim bs b) (hK : KLim Ks K) : KLim (fun k => seqK f p (bs k) (Ks k)) (seqK f p b K) := by
  intro e s
  cases e with
  | normal =>
    show IsLim (fun k => jn f p (bs k) s (Ks k)) (jn f p b s K)
    simp only [jn_eq]
    exact hb s Ks K hK
  | exit i => exact hK (.exit i) s
  | ret => exact hK .ret s
theorem blockK_lim {i : Nat} {Ks : Nat → Kn R} {K : Kn R} (hK : KLim Ks K) : KLim (fun k => blockK i (Ks k)) (blockK i K) := by
  intro e s
  cases e with
  | normal => exact hK .normal s
  | exit j =>
    show IsLim (fun k => if j = i then (Ks k).go .normal s else (Ks k).go (.exit j) s) (if j = i then K.go .normal s else K.go (.exit j) s)
    split
    · exact hK .normal s
    · exact hK (.exit j) s
  | ret => exact hK .ret s
theorem loopD_lim {p : List Nat} {bs : Nat → Run R} {b : Run R} (hb : RLim bs b) : ∀ (i : Nat), RLim (fun k => loopD p (bs k) i) (loopD p b i)
  | 0 => fun _ _ _ _ => .const _
  | i + 1 => fun s Ks K hK => hb s _ _ (againK_lim (fun s' => loopD_lim hb i s' Ks K hK) hK)
theorem RLim.up {b : Run R} (hb : RLim (fun _ => b) b) {s : St} {K K' : Kn R} (hK : ∀ e s r, K.go e s = some r → K'.go e s = some r) {r : R} (h : b s K = some r) : b s K' = some r := by
  have hl : KLim (fun k => if k = 0 then K else K') K' := by
    intro e s
    refine ⟨fun k r e => ?_, fun r => ⟨fun e => ⟨1, e⟩, fun ⟨k, e⟩ => ?_⟩⟩
    · dsimp only at e ⊢
      rw [if_neg (by omega)]
      split at e
      · exact hK _ _ _ e
      · exact e
    · dsimp only at e
      split at e
      · exact hK _ _ _ e
      · exact e
  exact (hb s _ K' hl).mono 0 r h
theorem loopD_up {p : List Nat} {b : Run R} (hb : RLim (fun _ => b) b) : ∀ (j : Nat) (s : St) (K : Kn R) (r : R), loopD p b j s K = some r → loopD p b (j + 1) s K = some r
  | 0, _, _, _, h => by cases h
  | j + 1, s, K, r, h => by
    refine hb.up (K := againK p (loopD p b j) K) ?_ h
    intro e s' r' h'
    cases e with
    | normal => exact loopD_up hb j s' K r' h'
    | exit i => exact h'
    | ret => exact h'
theorem loopW_is {p : List Nat} {b : Run R} (hb : RLim (fun _ => b) b) (s : St) (K : Kn R) : IsLim (fun j => loopD p b j s K) (loopW p b s K) := lim_ok fun k r h => loopD_up hb k s K r h
theorem loopW_lim {p : List Nat} {bs : Nat → Run R} {b : Run R} (h1 : ∀ j, RLim (fun _ => bs j) (bs j)) (h2 : RLim (fun _ => b) b) (h3 : RLim bs b) : RLim (fun k => loopW p (bs k)) (loopW p b) := by
  intro s Ks K hK
  refine ⟨fun k r e => ?_, fun r => ⟨fun e => ?_, fun ⟨k, e⟩ => ?_⟩⟩
  · obtain ⟨i, e⟩ := ((loopW_is (h1 k) s (Ks k)).iff r).1 e
    exact ((loopW_is (h1 (k + 1)) s (Ks (k + 1))).iff r).2 ⟨i, (loopD_lim h3 i s Ks K hK).mono k r e⟩
  · obtain ⟨i, e⟩ := ((loopW_is h2 s K).iff r).1 e
    obtain ⟨k, e⟩ := ((loopD_lim h3 i s Ks K hK).iff r).1 e
    exact ⟨k, ((loopW_is (h1 k) s (Ks k)).iff r).2 ⟨i, e⟩⟩
  · obtain ⟨i, e⟩ := ((loopW_is (h1 k) s (Ks k)).iff r).1 e
    exact ((loopW_is h2 s K).iff r).2 ⟨i, ((loopD_lim h3 i s Ks K hK).iff r).2 ⟨k, e⟩⟩
/-- A loop is its body, and itself again. -/
theorem loopW_eq {p : List Nat} {b : Run R} (hb : RLim (fun _ => b) b) (s : St) (K : Kn R) : loopW p b s K = b s (againK p (loopW p b) K) :=
  (loopW_is hb s K).shift.uniq (hb s _ _ (againK_lim (fun s' => loopW_is hb s' K) (.const K)))

variable {T : Told} {Cs : Nat → AbsFn} {C : AbsFn}
theorem callD_lim (hC : CLim Cs C) {f : Nat} {args : List Dyn} {s : St} {Ks : Nat → Dyn → St → Option R} {K : Dyn → St → Option R} (hK : ∀ d s, IsLim (fun k => Ks k d s) (K d s)) : IsLim (fun k => callD T (Cs k) f args s (Ks k)) (callD T C f args s K) := by
  unfold callD
  split
  · exact .const _
  split
  · exact .const _
  dsimp only
  split
  · exact IsLim.bnd (hC _ _ _ _ _) fun a => hK _ _
  · exact .const _
theorem opD_lim (hC : CLim Cs C) {fn : Nat} {o : Oper} {s : St} {Ks : Nat → Dyn → St → Option R} {K : Dyn → St → Option R} (hK : ∀ d s, IsLim (fun k => Ks k d s) (K d s)) : IsLim (fun k => opD T (Cs k) fn o s (Ks k)) (opD T C fn o s K) := by
  unfold opD
  split
  · split
    · refine IsLim.br ?_ ?_
      · split
        · exact hK _ _
        · exact .const _
      · split
        · exact hK _ _
        · exact .const _
    · exact .const _
  · split
    · split
      · exact callD_lim hC hK
      · exact .const _
    · exact .const _
  · split
    · exact IsLim.br (IsLim.both (hK _ _) (hK _ _)) (hK _ _)
    split
    · exact IsLim.br (hK _ _) (.const _)
    · exact .const _
theorem stepD_lim (hC : CLim Cs C) {fn nt : Nat} {all : Array Oper} {i : Nat} {s : St} {Ks : Nat → St → Option R} {K : St → Option R} (hK : ∀ s, IsLim (fun k => Ks k s) (K s)) : IsLim (fun k => stepD T (Cs k) fn nt all i s (Ks k)) (stepD T C fn nt all i s K) := by
  unfold stepD
  split
  · exact .const _
  split
  · exact .const _
  split
  · exact opD_lim hC fun d s => hK _
  · split
    · exact .const _
    split
    · refine IsLim.br ?_ ?_
      · split
        · exact opD_lim hC fun d s => hK _
        · exact hK _
      · split
        · exact opD_lim hC fun d s => hK _
        · exact hK _
    · exact hK _
    · exact .const _
theorem opsD_lim (hC : CLim Cs C) {fn nt : Nat} {all : Array Oper} {Ks : Nat → St → Option R} {K : St → Option R} (hK : ∀ s, IsLim (fun k => Ks k s) (K s)) : ∀ (l : List Nat) (s : St), IsLim (fun k => opsD T (Cs k) fn nt all l s (Ks k)) (opsD T C fn nt all l s K)
  | [], s => hK s
  | i :: l, s => stepD_lim hC fun s' => opsD_lim hC hK l s'
theorem anyD_lim (hC : CLim Cs C) {fn nt : Nat} {all : Array Oper} {Ks : Nat → St → Option R} {K : St → Option R} (hK : ∀ s, IsLim (fun k => Ks k s) (K s)) : ∀ (n : Nat) (listed : Array Bool) (need : List Nat) (s : St), IsLim (fun k => anyD T (Cs k) fn nt all n listed need s (Ks k)) (anyD T C fn nt all n listed need s K) := by
  intro n
  induction n with
  | zero =>
    intro listed need s
    unfold anyD
    split
    · exact hK s
    · exact .const _
  | succ n ih =>
    intro listed need s
    unfold anyD
    split
    · exact hK s
    split
    · exact stepD_lim hC fun s' => ih _ _ _
    · refine IsLim.boths (fun i => ?_) _
      split
      · split
        · exact .const _
        · exact stepD_lim hC fun s' => ih _ _ _
      · exact .const _
theorem normK_lim {Ks : Nat → Kn R} {K : Kn R} (hK : KLim Ks K) (x : Option St) : IsLim (fun k => match x with | some s' => (Ks k).go .normal s' | none => none) (match x with | some s' => K.go .normal s' | none => none) := by
  cases x with
  | none => exact .const _
  | some s' => exact hK _ _
theorem runD_lim {fn nt m : Nat} : ∀ (c : Code) (Cs : Nat → AbsFn) (C : AbsFn) (p : List Nat), CLim Cs C → RLim (fun k s K => runD T (Cs k) (@loopW R) fn nt m p c s K) (fun s K => runD T C (@loopW R) fn nt m p c s K)
  | .skip, Cs, C, p, hC => fun s Ks K hK => hK .normal s
  | .label _, Cs, C, p, hC => fun s Ks K hK => hK .normal s
  | .region i ops false, Cs, C, p, hC => fun s Ks K hK => opsD_lim hC (fun s' => normK_lim hK _) _ s
  | .region i ops true, Cs, C, p, hC => fun s Ks K hK => anyD_lim hC (fun s' => normK_lim hK _) _ _ _ s
  | .seq c d, Cs, C, p, hC => fun s Ks K hK => runD_lim c Cs C (p ++ [0]) hC s _ _ (seqK_lim (runD_lim d Cs C (p ++ [1]) hC) hK)
  | .cond c x y, Cs, C, p, hC => fun s Ks K hK => by
    cases c with
    | tmp t =>
      show IsLim (fun k => match getT s.tmps t with
        | ⟨.bool, b⟩ => br b (runD T (Cs k) (@loopW R) fn nt m (p ++ [0]) x (cutT T fn s t true) (Ks k)) (runD T (Cs k) (@loopW R) fn nt m (p ++ [1]) y (cutT T fn s t false) (Ks k))
        | _ => none) (match getT s.tmps t with
        | ⟨.bool, b⟩ => br b (runD T C (@loopW R) fn nt m (p ++ [0]) x (cutT T fn s t true) K) (runD T C (@loopW R) fn nt m (p ++ [1]) y (cutT T fn s t false) K)
        | _ => none)
      split
      · exact IsLim.br (runD_lim x Cs C (p ++ [0]) hC _ Ks K hK) (runD_lim y Cs C (p ++ [1]) hC _ Ks K hK)
      · exact .const _
    | const _ => exact .const _
    | global _ => exact .const _
    | func _ => exact .const _
  | .block i c, Cs, C, p, hC => fun s Ks K hK => runD_lim c Cs C (p ++ [0]) hC s _ _ (blockK_lim hK)
  | .loop c, Cs, C, p, hC => fun s Ks K hK =>
    loopW_lim (fun j => runD_lim c (fun _ => Cs j) (Cs j) (p ++ [0]) (.const _)) (runD_lim c (fun _ => C) C (p ++ [0]) (.const _)) (runD_lim c Cs C (p ++ [0]) hC) s Ks K hK
  | .exit i, Cs, C, p, hC => fun s Ks K hK => hK (.exit i) s
  | .ret, Cs, C, p, hC => fun s Ks K hK => hK .ret s
  | .rangeFunc _ _ _ _, _, _, _, _ => fun _ _ _ _ => .const _
  | .scope _, _, _, _, _ => fun _ _ _ _ => .const _
  | .goto _, _, _, _, _ => fun _ _ _ _ => .const _
  | .refuse _, _, _, _, _ => fun _ _ _ _ => .const _
variable {P : Program} {pr : Prims}
theorem callB_lim (hC : CLim Cs C) : CLim (fun k => callB P T pr (Cs k) @loopW) (callB P T pr C @loopW) := by
  intro f args objs rt ots
  unfold callB
  dsimp only
  split
  · exact .const _
  split
  · exact .const _
  split
  · exact runD_lim _ Cs C [] hC _ _ _ (.const _)
  · exact .const _
theorem callG_up : ∀ (k : Nat) f args objs rt ots (r : denR rt ots), callG P T pr k f args objs rt ots = some r → callG P T pr (k + 1) f args objs rt ots = some r
  | 0, f, args, objs, rt, ots, r, h => by cases h
  | k + 1, f, args, objs, rt, ots, r, h => by
    have hl : CLim (fun j => if j = 0 then callG P T pr k else callG P T pr (k + 1)) (callG P T pr (k + 1)) := by
      intro f args objs rt ots
      refine ⟨fun j r e => ?_, fun r => ⟨fun e => ⟨1, e⟩, fun ⟨j, e⟩ => ?_⟩⟩
      · dsimp only at e ⊢
        rw [if_neg (by omega)]
        split at e
        · exact callG_up k _ _ _ _ _ _ e
        · exact e
      · dsimp only at e
        split at e
        · exact callG_up k _ _ _ _ _ _ e
        · exact e
    exact (callB_lim (P := P) (T := T) (pr := pr) hl f args objs rt ots).mono 0 r h
theorem callW_is : CLim (callG P T pr) (callW P T pr) := fun f args objs rt ots => lim_ok fun k r h => callG_up k f args objs rt ots r h
/-- A call is its code, in which it may call. -/
theorem callW_eq (f : Nat) (args : List Dyn) (objs : List AObj) (rt : Ty) (ots : List OTy) : callW P T pr f args objs rt ots = callB P T pr (callW P T pr) @loopW f args objs rt ots :=
  (callW_is f args objs rt ots).shift.uniq (callB_lim callW_is f args objs rt ots)
/-- A loop of a function's code. -/
theorem loopB_eq (q p : List Nat) (f m : Nat) (s : St) (K : Kn R) : loopW q (bodyF P T C @loopW f m p) s K = bodyF P T C @loopW f m p s (againK q (loopW q (bodyF P T C @loopW f m p)) K) :=
  loopW_eq (runD_lim _ _ _ _ (.const _)) s K
theorem loopW_ok {E : Env} {nt : Nat} : LoopOK P E nt R (@loopW R) := by
  intro p body c hb r K Q hK s a w Fr mu H hnt h
  obtain ⟨j, h⟩ := lim_some h
  exact loopD_ok j p body c hb r K Q hK s a w Fr mu H hnt h
theorem callG_ok (hP : Fits P T pr) : ∀ k, Sound P (callG P T pr k)
  | 0 => fun f args objs rt ots r h => by cases h
  | k + 1 => callB_ok hP (callG_ok hP k) fun _ _ _ => loopW_ok
/-- What the interpreter tells of a call holds. -/
theorem callW_ok (hP : Fits P T pr) : Sound P (callW P T pr) := by
  intro f args objs rt ots r h
  obtain ⟨k, h⟩ := lim_some h
  exact callG_ok hP k f args objs rt ots r h
end
end Go.Abs
