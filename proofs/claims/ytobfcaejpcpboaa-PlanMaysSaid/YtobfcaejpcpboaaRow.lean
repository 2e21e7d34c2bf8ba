/- What comes in to a statement, as the interpreter's values; a statement's row out of what the interpreter tells. No conditions. -/
import Derived.Test.YtobfcaejpcpboaaTab
import Derived.ChangeSlices
import Derived.OpenShut
import Derived.WalkKit
import Derived.ProofKit
import Derived.ShutString
import Derived.ChangeOld
import Derived.Below
import Derived.SizedLaws
import Derived.WideShapes
import Derived.ChangeMaps
set_option autoImplicit false
set_option linter.unusedVariables false
namespace Go.Abs
open Go.ChangeShapes Go.WideShapes

/-- What is known of a value that comes in. -/
def wfD : (t : Ty) → den t → Prop
  | .int k, n => (Lit.int k n).wf = true
  | .str, s => s.size ≤ maxLen
  | .list t, xs => xs.length ≤ maxLen ∧ ∀ x ∈ xs, wfD t x
  | .pair a b, x => wfD a x.1 ∧ wfD b x.2
  | _, _ => True
/-- A struct's fields, read. -/
def opFs (P : Program) (F : TypeId → Option Ty) : Nat → List Field → Option Ty
  | _, [] => some .unit
  | n, f :: fs => if f.offset = n ∧ P.cellsOf f.type = 1 then (match F f.type with
    | some u => if u.chain = false ∧ u.cel = true then (match opFs P F (n + 1) fs with
      | some r => if r.cel = true ∧ r.chain = true then some (.pair u r) else none
      | none => none) else none
    | none => none) else none
/-- A type of what comes in, read. -/
def opT (P : Program) : Nat → TypeId → Option Ty
  | 0, _ => none
  | d + 1, t => match P.underlying t with
    | some .bool => some .bool
    | some (.int k) => some (.int k)
    | some .string => some .str
    | some (.slice e) => (match opT P d e with
      | some u => if u.elt = true ∧ P.cellsOf e = u.width ∧ 0 < u.width then some (.list u) else none
      | none => none)
    | some (.struct fs) => if P.cellsOf t = fs.size then opFs P (opT P d) 0 fs.toList else none
    | _ => none
section
variable {H : Type} {enc : TypeId × Value → H} {P : Program} {w : World} {base : Nat} {spare : Nat → Bool} {held : Bool} {mu : Nat → Loc}
abbrev Lt (w : World) : Nat → Prop := fun b => b < w.heap.size
theorem rows_choose {t : Ty} {b o wd : Nat} (hw : 0 < wd) : ∀ (n : Nat) (f : Nat → Prop) (k : Nat), (∀ i, k ≤ i → i < k + n → ∃ (v : den t) (cs : List Value), wfD t v ∧ Rp w (Lt w) mu t v cs ∧ cs.length = wd ∧ ∀ j u, cs[j]? = some u → w.cell? ⟨b, o + i * wd + j, none⟩ = some u) →
    ∃ (xs : List (den t)) (cells : List Value), xs.length = n ∧ (∀ x ∈ xs, wfD t x) ∧ rows (fun x l => Rp w (Lt w) mu t x l) xs cells ∧ At w b (o + k * wd) cells ∧ cells.length = n * wd
  | 0, f, k, h => ⟨[], [], rfl, fun _ h => (by cases h), rfl, At.nil, by simp⟩
  | n + 1, f, k, h => by
    obtain ⟨v, cs, h1, h2, h3, h4⟩ := h k (Nat.le_refl _) (by omega)
    obtain ⟨xs, cells, g1, g2, g3, g4, g5⟩ := rows_choose hw n f (k + 1) (fun i hi hi' => h i (by omega) (by omega))
    refine ⟨v :: xs, cs ++ cells, by simp [g1], ?_, ⟨cs, cells, rfl, h2, g3⟩, ?_, by rw [List.length_append, h3, g5, Nat.succ_mul, Nat.add_comm]⟩
    · intro x hx
      rcases List.mem_cons.1 hx with rfl | hx
      · exact h1
      · exact g2 x hx
    · refine At.of (fun j u hj => h4 j u hj) ?_
      rw [h3]
      rw [Nat.succ_mul, ← Nat.add_assoc] at g4
      exact g4
abbrev OpensT (enc : TypeId × Value → H) (P : Program) (w : World) (base : Nat) (spare : Nat → Bool) (held : Bool) (mu : Nat → Loc) (F : TypeId → Option Ty) : Prop :=
  ∀ (t : TypeId) (u : Ty), F t = some u → ∀ (fuel : Nat) (cs : List Value) (x : DataW H × List MemPlace), DataW.trod enc P w base spare held fuel t cs = some x → ∃ v : den u, Rp w (Lt w) mu u v cs ∧ wfD u v
theorem opens_fs {F : TypeId → Option Ty} (ihT : OpensT enc P w base spare held mu F) : ∀ (fs : List Field) (n : Nat) (u : Ty), opFs P F n fs = some u → ∀ (cs : List Value), cs.length = n + fs.length → (∀ (i : Nat) (f : Field), fs[i]? = some f → ∃ k y, DataW.trod enc P w base spare held k f.type ((cs.drop f.offset).take (P.cellsOf f.type)) = some y) → ∃ v : den u, Rp w (Lt w) mu u v (cs.drop n) ∧ wfD u v
  | [], n, u, h, cs, hl, hf => by
    have h : some Ty.unit = some u := h
    injection h with h
    subst h
    exact ⟨(), by show cs.drop n = []; rw [List.drop_eq_nil_of_le (by simp at hl; omega)], trivial⟩
  | f :: fs, n, u, h, cs, hl, hf => by
    unfold opFs at h
    split at h
    case isFalse => cases h
    rename_i ho
    obtain ⟨ho, hc1⟩ := ho
    split at h
    case h_2 => cases h
    rename_i u1 hu1
    split at h
    case isFalse => cases h
    split at h
    case h_2 => cases h
    rename_i r hr
    split at h
    case isFalse => cases h
    injection h with h
    subst h
    obtain ⟨k, y, hy⟩ := hf 0 f rfl
    rw [ho, hc1] at hy
    obtain ⟨v1, r1, w1⟩ := ihT _ _ hu1 _ _ _ hy
    obtain ⟨v2, r2, w2⟩ := opens_fs ihT fs (n + 1) r hr cs (by rw [hl]; simp; omega) (fun i g hi => hf (i + 1) g hi)
    refine ⟨(v1, v2), ⟨_, _, ?_, r1, r2⟩, w1, w2⟩
    have e : (cs.drop n).drop 1 = cs.drop (n + 1) := by rw [List.drop_drop]
    rw [← e]
    exact (List.take_append_drop 1 _).symm
/-- What reads as data of a type is one of the interpreter's values. -/
theorem opens : ∀ (d : Nat), OpensT enc P w base spare held mu (opT P d)
  | 0 => fun t u h => (by unfold opT at h; cases h)
  | d + 1 => by
      have ihT := opens d
      intro t u h fuel cs x hx
      unfold opT at h
      split at h
      · rename_i hu
        injection h with h; subst h
        obtain ⟨n, rfl, _⟩ := DataW.trod_bool hu hx
        exact ⟨n, rfl, trivial⟩
      · rename_i k hu
        injection h with h; subst h
        obtain ⟨n, rfl, _, hw⟩ := DataW.trod_int hu hx
        exact ⟨n, rfl, hw⟩
      · rename_i hu
        injection h with h; subst h
        obtain ⟨n, rfl, _, hw⟩ := DataW.trod_string hu hx
        exact ⟨n, rfl, hw⟩
      · rename_i e hu
        split at h
        case h_2 => cases h
        rename_i u' hu'
        split at h
        case isFalse => cases h
        rename_i hc
        obtain ⟨hel, hsz, hpos⟩ := hc
        injection h with h; subst h
        rcases DataW.trod_slice hu hx with ⟨rfl, _⟩ | ⟨a, len, cap, elems, rest, n, _, rfl, _, _, hl, hm, hlen, hel', _, _⟩
        · exact ⟨[], ⟨hel, none, 0, [], rfl, Nat.le_refl _, rfl, .inl rfl⟩, by show ([] : List (den u')).length ≤ maxLen; simp, fun _ h => by cases h⟩
        · have cellsAt : ∀ i, i < len → ∃ (v : den u') (cs : List Value), wfD u' v ∧ Rp w (Lt w) mu u' v cs ∧ cs.length = u'.width ∧ ∀ j q, cs[j]? = some q → w.cell? ((a.add (i * u'.width)).add j) = some q := by
            intro i hi
            have h1 := hel' i hi
            rw [List.getElem?_eq_getElem (by omega)] at h1
            obtain ⟨cs, hcs, htr⟩ := Option.bind_eq_some_iff.1 h1
            obtain ⟨v, hv, hw⟩ := ihT e u' hu' _ _ _ htr
            obtain ⟨_, hcl, hcc⟩ := World.cells?_some hcs
            rw [hsz] at hcl hcc
            refine ⟨v, cs, hw, hv, hcl, fun j q hq => ?_⟩
            have hj : j < u'.width := by have := (List.getElem?_eq_some_iff.1 hq).1; omega
            rw [hcc j hj]; exact hq
          by_cases h0 : len = 0
          · subst h0
            exact ⟨[], ⟨hel, some a, cap, [], rfl, Nat.zero_le _, rfl, .inl rfl⟩, by show ([] : List (den u')).length ≤ maxLen; simp, fun _ h => by cases h⟩
          · obtain ⟨v0, cs0, _, _, hl0, hc0⟩ := cellsAt 0 (by omega)
            have hfirst : ∃ q, w.cell? a = some q := by
              have := hc0 0 cs0[0] (List.getElem?_eq_getElem (by omega))
              rw [Nat.zero_mul] at this
              exact ⟨_, this⟩
            obtain ⟨q, hq⟩ := hfirst
            have hspot : a.spot = none ∧ a.block < w.heap.size := by
              unfold World.cell? at hq
              split at hq
              · rename_i hb
                split at hq
                · cases hq
                · rename_i hs
                  exact ⟨by simpa using hs, (Array.getElem?_eq_some_iff.1 hb).1⟩
              · cases hq
            obtain ⟨ab, ao, asp⟩ := a
            obtain ⟨hsp, hblk⟩ := hspot
            dsimp only at hsp hblk
            subst hsp
            have hadd : ∀ (i j : Nat), ((⟨ab, ao, none⟩ : Addr).add i).add j = ⟨ab, ao + i + j, none⟩ := by
              intro i j
              unfold Addr.add
              by_cases hi : i = 0 <;> by_cases hj : j = 0 <;> simp [hi, hj]
            obtain ⟨xs, cells, g1, g2, g3, g4, g5⟩ := rows_choose (mu := mu) (w := w) (t := u') (b := ab) (o := ao) hpos len (fun _ => True) 0 (fun i _ hi => by
              obtain ⟨v, cs, k1, k2, k3, k4⟩ := cellsAt i (by omega)
              refine ⟨v, cs, k1, k2, k3, fun j q hq => ?_⟩
              have := k4 j q hq
              rw [hadd] at this
              exact this)
            rw [Nat.zero_mul, Nat.add_zero] at g4
            refine ⟨xs, ⟨hel, some ⟨ab, ao, none⟩, cap, cells, by rw [g1], by rw [g1]; exact hl, g3, .inr ⟨ab, ao, rfl, hblk, g4⟩⟩, ?_, g2⟩
            show xs.length ≤ maxLen
            rw [g1]; omega
      · rename_i fs hu
        split at h
        case isFalse => cases h
        rename_i hcz
        obtain ⟨xs, n, _, _, hl, hx', hf⟩ := DataW.trod_struct hu hx
        obtain ⟨v, h1, h2⟩ := opens_fs ihT fs.toList 0 u h cs (by rw [hl, hcz]; simp) (fun i f hi => by
          have hi' : fs[i]? = some f := by simpa using hi
          have hlt : i < fs.size := (Array.getElem?_eq_some_iff.1 hi').1
          have h1 := hf i f hi'
          rw [List.getElem?_eq_getElem (by omega)] at h1
          exact ⟨_, _, h1⟩)
        exact ⟨v, by rwa [List.drop_zero] at h1, h2⟩
      · cases h
theorem opFs_ch {F : TypeId → Option Ty} : ∀ (fs : List Field) (n : Nat) (u : Ty), opFs P F n fs = some u → u.chain = true ∧ u.cel = true
  | [], n, u, h => by
    have h : some Ty.unit = some u := h
    injection h with h; subst h; exact ⟨rfl, rfl⟩
  | f :: fs, n, u, h => by
    unfold opFs at h
    split at h
    case isFalse => cases h
    split at h
    case h_2 => cases h
    rename_i u1 hu1
    split at h
    case isFalse => cases h
    rename_i hcc
    split at h
    case h_2 => cases h
    rename_i r hr
    split at h
    case isFalse => cases h
    rename_i hrr
    injection h with h
    subst h
    exact ⟨rfl, by simp only [Ty.cel, Bool.and_eq_true]; exact ⟨⟨hcc.2, hrr.1⟩, hrr.2⟩⟩
theorem opT_vk : ∀ {d : Nat} {t : TypeId} {u : Ty}, opT P d t = some u → match P.underlying t with
    | some (.struct _) => u.chain = true ∧ u.cel = true
    | _ => u.chain = false ∧ u.vk = .one
  | 0, t, u, h => by unfold opT at h; cases h
  | d + 1, t, u, h => by
    unfold opT at h
    split at h
    · rename_i hu; rw [hu]; injection h with h; subst h; exact ⟨rfl, rfl⟩
    · rename_i hu; rw [hu]; injection h with h; subst h; exact ⟨rfl, rfl⟩
    · rename_i hu; rw [hu]; injection h with h; subst h; exact ⟨rfl, rfl⟩
    · rename_i hu
      rw [hu]
      split at h
      case h_2 => cases h
      split at h
      case isFalse => cases h
      injection h with h; subst h; exact ⟨rfl, rfl⟩
    · rename_i fs hu
      rw [hu]
      split at h
      case isFalse => cases h
      exact opFs_ch _ _ _ h
    · cases h
theorem vk_chain {u : Ty} (h : u.chain = true) : u.vk = .agg := by cases u <;> first | rfl | cases h
/-- A parameter. -/
theorem openP {d : Nat} {t : TypeId} {u : Ty} (ht : opT P d t = some u) {r : Reach} {b0 : Nat} {v : Value} {x : DataW H} {ps : List MemPlace} (hv : Value.okWide P w r b0 t v) (h : DataW.Trod enc P w base spare held t v x ps) :
    ∃ y : den u, VR w (Lt w) mu ⟨u, y⟩ v ∧ wfD u y := by
  obtain ⟨fuel, hf⟩ := h
  obtain ⟨y, hr, hw⟩ := opens (mu := mu) d t u ht fuel _ _ hf
  refine ⟨y, ?_, hw⟩
  have hk := opT_vk ht
  unfold Value.okWide at hv
  cases hu : P.underlying t with
  | none => cases d <;> (unfold opT at ht; first | cases ht | (rw [hu] at ht; cases ht))
  | some de =>
    rw [hu] at hk hv
    cases de
    case struct fs =>
      obtain ⟨cs, rfl, _, _⟩ := hv
      unfold VR
      rw [vk_chain hk.1]
      exact ⟨hk.2, cs.toList, by simp, hr⟩
    all_goals first
      | (cases d <;> (unfold opT at ht; first | cases ht | (rw [hu] at ht; cases ht)); done)
      | skip
    all_goals
      unfold VR
      rw [hk.2]
      show Rp _ _ _ _ _ [v]
      have hcells : v.cells.toList = [v] := by
        cases v <;> first | rfl | skip
        simp [Cell.okWide, Cell.ok, hu] at hv
      rw [hcells] at hr
      exact hr
/-- A statement's call, that the interpreter tells to be true. -/
theorem law_calls {T : Told} {pr : Prims} (hP : Fits P T pr) {f : Nat} {args : List Dyn} {vs : List Value} {W : World} (hk : callW P T pr f args [] .bool [] = some true) (hl : args.length = vs.length)
    (hv : ∀ (i : Nat) (d : Dyn) (v : Value), args[i]? = some d → vs[i]? = some v → VR W (Lt W) (fun _ => default) d v ∧ d.t.pure = true) :
    Calls P f vs.toArray W fun e W' => e = .returned (.bool true) ∧ RowKit.Below W.heap.size W W' := by
  obtain ⟨_, hc⟩ := callW_ok hP f args [] .bool [] true hk
  refine (hc W (Lt W) (fun _ => default) vs ⟨⟨fun _ => rfl, fun i o h => (by simp at h), fun i t x h => (by simp at h), fun i j o o' h => (by simp at h), fun i o h => (by simp at h)⟩, fun b hb => hb, hl, fun i d v h1 h2 => ⟨(hv i d v h1 h2).1, Ty.pure_okN _ (hv i d v h1 h2).2⟩⟩).mono ?_
  rintro e W' ⟨v, Fr', mu', rfl, hpost⟩
  have hb : v = .bool true := by
    have := hpost.val
    injection (show [v] = [_] from this) with h
  refine ⟨by rw [hb], hpost.si.grow.os, hpost.si.grow.tape, hpost.si.grow.output, hpost.si.grow.size, fun k hk => hpost.si.grow.block k hk ?_⟩
  rintro ⟨i, o, h, _⟩
  simp at h
end
/-- No function is one that the model runs by itself. -/
def namesB (P : Program) : Bool := P.funcs.toList.all fun g => g.name != "runtime.NumGoroutine"
theorem names_ok {P : Program} (h : namesB P = true) (f : Nat) (fn : Func) (hf : P.funcs[f]? = some fn) : fn.name ≠ "runtime.NumGoroutine" := by
  have := List.all_eq_true.1 h fn (by
    obtain ⟨hi, e⟩ := Array.getElem?_eq_some_iff.1 hf
    rw [← e]
    exact Array.getElem_mem_toList hi)
  simpa using this
end Go.Abs
