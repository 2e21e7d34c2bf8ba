/- Texts of one proof, laid together: how the interpreter's words stand for the program's code and what the functions do. No conditions but those that each lemma names. -/
import Derived.Test.YtimgaglpempfeaaM1
import Derived.ChangeSlices
import Derived.OpenShut
import Derived.WalkKit
import Derived.ProofKit
import Derived.ShutString
import Derived.ChangeOld
import Derived.Below
import Derived.SizedLaws
import Derived.WideShapes
import Derived.ChangeMaps
import Derived.Test.YtimgaglpempfeaaProg
import Derived.Laws.IdiomCopy
import Derived.Lib.AppendZerosOnto
import Derived.Lib.Overlaps
import Derived.Lib.Walk
import Derived.Lib.SliceRun
import Derived.Lib.JoinLaws
import Derived.Lib.AppendZeros
import Derived.Laws.Externs
import Derived.Laws.NewBlocks
import Derived.Shelf.Spec.SlicesInsert
set_option linter.unusedSimpArgs false
set_option autoImplicit false
set_option linter.unusedVariables false
namespace Go.Abs
open Go.ChangeShapes Go.WideShapes

/-- What is known of a value that comes in. -/
def wfD : (t : Ty) → den t → Prop
  | .int k, n => (Lit.int k n).wf = true
  | .str, s => s.size ≤ maxLen
  | .list t, xs => xs.length ≤ maxLen ∧ ∀ x ∈ xs, wfD t x
  | .pair a b, x => wfD a x.1 ∧ wfD b x.2
  | _, _ => True
/-- A struct's fields, read. -/
def opFs (P : Program) (F : TypeId → Option Ty) : Nat → List Field → Option Ty
  | _, [] => some .unit
  | n, f :: fs => if f.offset = n ∧ P.cellsOf f.type = 1 then (match F f.type with
    | some u => if u.chain = false ∧ u.cel = true then (match opFs P F (n + 1) fs with
      | some r => if r.cel = true ∧ r.chain = true then some (.pair u r) else none
      | none => none) else none
    | none => none) else none
/-- A type of what comes in, read. -/
def opT (P : Program) : Nat → TypeId → Option Ty
  | 0, _ => none
  | d + 1, t => match P.underlying t with
    | some .bool => some .bool
    | some (.int k) => some (.int k)
    | some .string => some .str
    | some (.slice e) => (match opT P d e with
      | some u => if u.elt = true ∧ P.cellsOf e = u.width ∧ 0 < u.width then some (.list u) else none
      | none => none)
    | some (.struct fs) => if P.cellsOf t = fs.size then opFs P (opT P d) 0 fs.toList else none
    | _ => none
section
variable {H : Type} {enc : TypeId × Value → H} {P : Program} {w : World} {base : Nat} {spare : Nat → Bool} {held : Bool} {mu : Nat → Loc}
abbrev Lt (w : World) : Nat → Prop := fun b => b < w.heap.size
theorem rows_choose {t : Ty} {b o wd : Nat} (hw : 0 < wd) : ∀ (n : Nat) (f : Nat → Prop) (k : Nat), (∀ i, k ≤ i → i < k + n → ∃ (v : den t) (cs : List Value), wfD t v ∧ Rp w (Lt w) mu t v cs ∧ cs.length = wd ∧ ∀ j u, cs[j]? = some u → w.cell? ⟨b, o + i * wd + j, none⟩ = some u) →
    ∃ (xs : List (den t)) (cells : List Value), xs.length = n ∧ (∀ x ∈ xs, wfD t x) ∧ rows (fun x l => Rp w (Lt w) mu t x l) xs cells ∧ At w b (o + k * wd) cells ∧ cells.length = n * wd
  | 0, f, k, h => ⟨[], [], rfl, fun _ h => (by cases h), rfl, At.nil, by simp⟩
  | n + 1, f, k, h => by
    obtain ⟨v, cs, h1, h2, h3, h4⟩ := h k (Nat.le_refl _) (by omega)
    obtain ⟨xs, cells, g1, g2, g3, g4, g5⟩ := rows_choose hw n f (k + 1) (fun i hi hi' => h i (by omega) (by omega))
    refine ⟨v :: xs, cs ++ cells, by simp [g1], ?_, ⟨cs, cells, rfl, h2, g3⟩, ?_, by rw [List.length_append, h3, g5, Nat.succ_mul, Nat.add_comm]⟩
    · intro x hx
      rcases List.mem_cons.1 hx with rfl | hx
      · exact h1
      · exact g2 x hx
    · refine At.of (fun j u hj => h4 j u hj) ?_
      rw [h3]
      rw [Nat.succ_mul, ← Nat.add_assoc] at g4
      exact g4
abbrev OpensT (enc : TypeId × Value → H) (P : Program) (w : World) (base : Nat) (spare : Nat → Bool) (held : Bool) (mu : Nat → Loc) (F : TypeId → Option Ty) : Prop :=
  ∀ (t : TypeId) (u : Ty), F t = some u → ∀ (fuel : Nat) (cs : List Value) (x : DataW H × List MemPlace), DataW.trod enc P w base spare held fuel t cs = some x → ∃ v : den u, Rp w (Lt w) mu u v cs ∧ wfD u v
theorem opens_fs {F : TypeId → Option Ty} (ihT : OpensT enc P w base spare held mu F) : ∀ (fs : List Field) (n : Nat) (u : Ty), opFs P F n fs = some u → ∀ (cs : List Value), cs.length = n + fs.length → (∀ (i : Nat) (f : Field), fs[i]? = some f → ∃ k y, DataW.trod enc P w base spare held k f.type ((cs.drop f.offset).take (P.cellsOf f.type)) = some y) → ∃ v : den u, Rp w (Lt w) mu u v (cs.drop n) ∧ wfD u v
  | [], n, u, h, cs, hl, hf => by
    have h : some Ty.unit = some u := h
    injection h with h
    subst h
    exact ⟨(), by show cs.drop n = []; rw [List.drop_eq_nil_of_le (by simp at hl; omega)], trivial⟩
  | f :: fs, n, u, h, cs, hl, hf => by
    unfold opFs at h
    split at h
    case isFalse => cases h
    rename_i ho
    obtain ⟨ho, hc1⟩ := ho
    split at h
    case h_2 => cases h
    rename_i u1 hu1
    split at h
    case isFalse => cases h
    split at h
    case h_2 => cases h
    rename_i r hr
    split at h
    case isFalse => cases h
    injection h with h
    subst h
    obtain ⟨k, y, hy⟩ := hf 0 f rfl
    rw [ho, hc1] at hy
    obtain ⟨v1, r1, w1⟩ := ihT _ _ hu1 _ _ _ hy
    obtain ⟨v2, r2, w2⟩ := opens_fs ihT fs (n + 1) r hr cs (by rw [hl]; simp; omega) (fun i g hi => hf (i + 1) g hi)
    refine ⟨(v1, v2), ⟨_, _, ?_, r1, r2⟩, w1, w2⟩
    have e : (cs.drop n).drop 1 = cs.drop (n + 1) := by rw [List.drop_drop]
    rw [← e]
    exact (List.take_append_drop 1 _).symm
/-- What reads as data of a type is one of the interpreter's values. -/
theorem opens : ∀ (d : Nat), OpensT enc P w base spare held mu (opT P d)
  | 0 => fun t u h => (by unfold opT at h; cases h)
  | d + 1 => by
      have ihT := opens d
      intro t u h fuel cs x hx
      unfold opT at h
      split at h
      · rename_i hu
        injection h with h; subst h
        obtain ⟨n, rfl, _⟩ := DataW.trod_bool hu hx
        exact ⟨n, rfl, trivial⟩
      · rename_i k hu
        injection h with h; subst h
        obtain ⟨n, rfl, _, hw⟩ := DataW.trod_int hu hx
        exact ⟨n, rfl, hw⟩
      · rename_i hu
        injection h with h; subst h
        obtain ⟨n, rfl, _, hw⟩ := DataW.trod_string hu hx
        exact ⟨n, rfl, hw⟩
      · rename_i e hu
        split at h
        case h_2 => cases h
        rename_i u' hu'
        split at h
        case isFalse => cases h
        rename_i hc
        obtain ⟨hel, hsz, hpos⟩ := hc
        injection h with h; subst h
        rcases DataW.trod_slice hu hx with ⟨rfl, _⟩ | ⟨a, len, cap, elems, rest, n, _, rfl, _, _, hl, hm, hlen, hel', _, _⟩
        · exact ⟨[], ⟨hel, none, 0, [], rfl, Nat.le_refl _, rfl, .inl rfl⟩, by show ([] : List (den u')).length ≤ maxLen; simp, fun _ h => by cases h⟩
        · have cellsAt : ∀ i, i < len → ∃ (v : den u') (cs : List Value), wfD u' v ∧ Rp w (Lt w) mu u' v cs ∧ cs.length = u'.width ∧ ∀ j q, cs[j]? = some q → w.cell? ((a.add (i * u'.width)).add j) = some q := by
            intro i hi
            have h1 := hel' i hi
            rw [List.getElem?_eq_getElem (by omega)] at h1
            obtain ⟨cs, hcs, htr⟩ := Option.bind_eq_some_iff.1 h1
            obtain ⟨v, hv, hw⟩ := ihT e u' hu' _ _ _ htr
            obtain ⟨_, hcl, hcc⟩ := World.cells?_some hcs
            rw [hsz] at hcl hcc
            refine ⟨v, cs, hw, hv, hcl, fun j q hq => ?_⟩
            have hj : j < u'.width := by have := (List.getElem?_eq_some_iff.1 hq).1; omega
            rw [hcc j hj]; exact hq
          by_cases h0 : len = 0
          · subst h0
            exact ⟨[], ⟨hel, some a, cap, [], rfl, Nat.zero_le _, rfl, .inl rfl⟩, by show ([] : List (den u')).length ≤ maxLen; simp, fun _ h => by cases h⟩
          · obtain ⟨v0, cs0, _, _, hl0, hc0⟩ := cellsAt 0 (by omega)
            have hfirst : ∃ q, w.cell? a = some q := by
              have := hc0 0 cs0[0] (List.getElem?_eq_getElem (by omega))
              rw [Nat.zero_mul] at this
              exact ⟨_, this⟩
            obtain ⟨q, hq⟩ := hfirst
            have hspot : a.spot = none ∧ a.block < w.heap.size := by
              unfold World.cell? at hq
              split at hq
              · rename_i hb
                split at hq
                · cases hq
                · rename_i hs
                  exact ⟨by simpa using hs, (Array.getElem?_eq_some_iff.1 hb).1⟩
              · cases hq
            obtain ⟨ab, ao, asp⟩ := a
            obtain ⟨hsp, hblk⟩ := hspot
            dsimp only at hsp hblk
            subst hsp
            have hadd : ∀ (i j : Nat), ((⟨ab, ao, none⟩ : Addr).add i).add j = ⟨ab, ao + i + j, none⟩ := by
              intro i j
              unfold Addr.add
              by_cases hi : i = 0 <;> by_cases hj : j = 0 <;> simp [hi, hj]
            obtain ⟨xs, cells, g1, g2, g3, g4, g5⟩ := rows_choose (mu := mu) (w := w) (t := u') (b := ab) (o := ao) hpos len (fun _ => True) 0 (fun i _ hi => by
              obtain ⟨v, cs, k1, k2, k3, k4⟩ := cellsAt i (by omega)
              refine ⟨v, cs, k1, k2, k3, fun j q hq => ?_⟩
              have := k4 j q hq
              rw [hadd] at this
              exact this)
            rw [Nat.zero_mul, Nat.add_zero] at g4
            refine ⟨xs, ⟨hel, some ⟨ab, ao, none⟩, cap, cells, by rw [g1], by rw [g1]; exact hl, g3, .inr ⟨ab, ao, rfl, hblk, g4⟩⟩, ?_, g2⟩
            show xs.length ≤ maxLen
            rw [g1]; omega
      · rename_i fs hu
        split at h
        case isFalse => cases h
        rename_i hcz
        obtain ⟨xs, n, _, _, hl, hx', hf⟩ := DataW.trod_struct hu hx
        obtain ⟨v, h1, h2⟩ := opens_fs ihT fs.toList 0 u h cs (by rw [hl, hcz]; simp) (fun i f hi => by
          have hi' : fs[i]? = some f := by simpa using hi
          have hlt : i < fs.size := (Array.getElem?_eq_some_iff.1 hi').1
          have h1 := hf i f hi'
          rw [List.getElem?_eq_getElem (by omega)] at h1
          exact ⟨_, _, h1⟩)
        exact ⟨v, by rwa [List.drop_zero] at h1, h2⟩
      · cases h
theorem opFs_ch {F : TypeId → Option Ty} : ∀ (fs : List Field) (n : Nat) (u : Ty), opFs P F n fs = some u → u.chain = true ∧ u.cel = true
  | [], n, u, h => by
    have h : some Ty.unit = some u := h
    injection h with h; subst h; exact ⟨rfl, rfl⟩
  | f :: fs, n, u, h => by
    unfold opFs at h
    split at h
    case isFalse => cases h
    split at h
    case h_2 => cases h
    rename_i u1 hu1
    split at h
    case isFalse => cases h
    rename_i hcc
    split at h
    case h_2 => cases h
    rename_i r hr
    split at h
    case isFalse => cases h
    rename_i hrr
    injection h with h
    subst h
    exact ⟨rfl, by simp only [Ty.cel, Bool.and_eq_true]; exact ⟨⟨hcc.2, hrr.1⟩, hrr.2⟩⟩
theorem opT_vk : ∀ {d : Nat} {t : TypeId} {u : Ty}, opT P d t = some u → match P.underlying t with
    | some (.struct _) => u.chain = true ∧ u.cel = true
    | _ => u.chain = false ∧ u.vk = .one
  | 0, t, u, h => by unfold opT at h; cases h
  | d + 1, t, u, h => by
    unfold opT at h
    split at h
    · rename_i hu; rw [hu]; injection h with h; subst h; exact ⟨rfl, rfl⟩
    · rename_i hu; rw [hu]; injection h with h; subst h; exact ⟨rfl, rfl⟩
    · rename_i hu; rw [hu]; injection h with h; subst h; exact ⟨rfl, rfl⟩
    · rename_i hu
      rw [hu]
      split at h
      case h_2 => cases h
      split at h
      case isFalse => cases h
      injection h with h; subst h; exact ⟨rfl, rfl⟩
    · rename_i fs hu
      rw [hu]
      split at h
      case isFalse => cases h
      exact opFs_ch _ _ _ h
    · cases h
theorem vk_chain {u : Ty} (h : u.chain = true) : u.vk = .agg := by cases u <;> first | rfl | cases h
/-- A parameter. -/
theorem openP {d : Nat} {t : TypeId} {u : Ty} (ht : opT P d t = some u) {r : Reach} {b0 : Nat} {v : Value} {x : DataW H} {ps : List MemPlace} (hv : Value.okWide P w r b0 t v) (h : DataW.Trod enc P w base spare held t v x ps) :
    ∃ y : den u, VR w (Lt w) mu ⟨u, y⟩ v ∧ wfD u y := by
  obtain ⟨fuel, hf⟩ := h
  obtain ⟨y, hr, hw⟩ := opens (mu := mu) d t u ht fuel _ _ hf
  refine ⟨y, ?_, hw⟩
  have hk := opT_vk ht
  unfold Value.okWide at hv
  cases hu : P.underlying t with
  | none => cases d <;> (unfold opT at ht; first | cases ht | (rw [hu] at ht; cases ht))
  | some de =>
    rw [hu] at hk hv
    cases de
    case struct fs =>
      obtain ⟨cs, rfl, _, _⟩ := hv
      unfold VR
      rw [vk_chain hk.1]
      exact ⟨hk.2, cs.toList, by simp, hr⟩
    all_goals first
      | (cases d <;> (unfold opT at ht; first | cases ht | (rw [hu] at ht; cases ht)); done)
      | skip
    all_goals
      unfold VR
      rw [hk.2]
      show Rp _ _ _ _ _ [v]
      have hcells : v.cells.toList = [v] := by
        cases v <;> first | rfl | skip
        simp [Cell.okWide, Cell.ok, hu] at hv
      rw [hcells] at hr
      exact hr
/-- A statement's call, that the interpreter tells to be true. -/
theorem law_calls {T : Told} {pr : Prims} (hP : Fits P T pr) {f : Nat} {args : List Dyn} {vs : List Value} {W : World} (hk : callW P T pr f args [] .bool [] = some true) (hl : args.length = vs.length)
    (hv : ∀ (i : Nat) (d : Dyn) (v : Value), args[i]? = some d → vs[i]? = some v → VR W (Lt W) (fun _ => default) d v ∧ d.t.pure = true) :
    Calls P f vs.toArray W fun e W' => e = .returned (.bool true) ∧ RowKit.Below W.heap.size W W' := by
  obtain ⟨_, hc⟩ := callW_ok hP f args [] .bool [] true hk
  refine (hc W (Lt W) (fun _ => default) vs ⟨⟨fun _ => rfl, fun i o h => (by simp at h), fun i t x h => (by simp at h), fun i j o o' h => (by simp at h), fun i o h => (by simp at h)⟩, fun b hb => hb, hl, fun i d v h1 h2 => ⟨(hv i d v h1 h2).1, Ty.pure_okN _ (hv i d v h1 h2).2⟩⟩).mono ?_
  rintro e W' ⟨v, Fr', mu', rfl, hpost⟩
  have hb : v = .bool true := by
    have := hpost.val
    injection (show [v] = [_] from this) with h
  refine ⟨by rw [hb], hpost.si.grow.os, hpost.si.grow.tape, hpost.si.grow.output, hpost.si.grow.size, fun k hk => hpost.si.grow.block k hk ?_⟩
  rintro ⟨i, o, h, _⟩
  simp at h
end
/-- No function is one that the model runs by itself. -/
def namesB (P : Program) : Bool := P.funcs.toList.all fun g => g.name != "runtime.NumGoroutine"
theorem names_ok {P : Program} (h : namesB P = true) (f : Nat) (fn : Func) (hf : P.funcs[f]? = some fn) : fn.name ≠ "runtime.NumGoroutine" := by
  have := List.all_eq_true.1 h fn (by
    obtain ⟨hi, e⟩ := Array.getElem?_eq_some_iff.1 hf
    rw [← e]
    exact Array.getElem_mem_toList hi)
  simpa using this
end Go.Abs
set_option maxRecDepth 100000
namespace Go.Proofs.Ytimgaglpempfeaa.AA
open Go.Abs
noncomputable abbrev PP : Program := Go.Proofs.Try.prog
@[reducible] def tapiPair : Ty := (.pair .str (.pair .str .unit))
@[reducible] def tpathPath : Ty := (.pair (.int .i64) (.pair .str (.pair (.int .i64) (.pair .str (.pair .str (.pair .bool .unit))))))
@[reducible] def tapiNode : Ty := (.pair (.int .i64) (.pair .str (.pair .str (.pair (.int .u32) (.pair (.list (.int .i64)) (.pair (.int .i64) (.pair (.list tapiPair) (.pair (.int .i64) (.pair (.int .i64) .unit)))))))))
def TB : Tabs := [
  (0, ⟨.other, false, 1, 0, ⟨.dead, ()⟩, .dead⟩),
  (3, ⟨(.int .i64), false, 1, 8, ⟨(.int .i64), (0 : Int)⟩, (.int .i64)⟩),
  (4, ⟨.bool, false, 1, 1, ⟨.bool, false⟩, .bool⟩),
  (5, ⟨(.int .u8), false, 1, 1, ⟨(.int .u8), (0 : Int)⟩, (.int .u8)⟩),
  (9, ⟨.str, false, 1, 16, ⟨.str, ByteArray.empty⟩, .str⟩),
  (22, ⟨(.slice 57), false, 1, 24, ⟨(.nil 57), ()⟩, (.list tapiNode)⟩),
  (25, ⟨(.int .i64), false, 1, 8, ⟨(.int .i64), (0 : Int)⟩, (.int .i64)⟩),
  (28, ⟨(.slice 41), false, 1, 24, ⟨(.nil 41), ()⟩, (.list tapiPair)⟩),
  (30, ⟨(.int .i64), false, 1, 8, ⟨(.int .i64), (0 : Int)⟩, (.int .i64)⟩),
  (31, ⟨.other, false, 1, 0, ⟨.dead, ()⟩, .dead⟩),
  (38, ⟨.other, false, 1, 0, ⟨.dead, ()⟩, .dead⟩),
  (41, ⟨(.struct [(0, 9), (1, 9)]), true, 2, 32, ⟨tapiPair, (ByteArray.empty, (ByteArray.empty, ()))⟩, tapiPair⟩),
  (42, ⟨.other, false, 1, 0, ⟨.dead, ()⟩, .dead⟩),
  (44, ⟨.other, false, 1, 0, ⟨.dead, ()⟩, .dead⟩),
  (49, ⟨.pointer, false, 1, 8, ⟨.nilptr, ()⟩, .nilptr⟩),
  (54, ⟨(.int .u32), false, 1, 4, ⟨(.int .u32), (0 : Int)⟩, (.int .u32)⟩),
  (55, ⟨(.slice 25), false, 1, 24, ⟨(.nil 25), ()⟩, (.list (.int .i64))⟩),
  (57, ⟨(.struct [(0, 3), (1, 9), (2, 9), (3, 54), (4, 55), (5, 25), (6, 28), (7, 3), (8, 3)]), true, 9, 120, ⟨(.pair (.int .i64) (.pair .str (.pair .str (.pair (.int .u32) (.pair (.nil 25) (.pair (.int .i64) (.pair (.nil 41) (.pair (.int .i64) (.pair (.int .i64) .unit))))))))), ((0 : Int), (ByteArray.empty, (ByteArray.empty, ((0 : Int), ((), ((0 : Int), ((), ((0 : Int), ((0 : Int), ())))))))))⟩, tapiNode⟩),
  (62, ⟨.other, false, 1, 0, ⟨.dead, ()⟩, .dead⟩),
  (72, ⟨.other, false, 1, 0, ⟨.dead, ()⟩, .dead⟩),
  (77, ⟨(.struct [(0, 3), (1, 9), (2, 25), (3, 41), (5, 4)]), true, 6, 72, ⟨tpathPath, ((0 : Int), (ByteArray.empty, ((0 : Int), (ByteArray.empty, (ByteArray.empty, (false, ()))))))⟩, tpathPath⟩),
  (80, ⟨.other, false, 1, 8, ⟨.nilfn, ()⟩, .nilfn⟩),
  (85, ⟨(.slice 9), false, 1, 24, ⟨(.nil 9), ()⟩, (.list .str)⟩),
  (89, ⟨.other, false, 1, 0, ⟨.dead, ()⟩, .dead⟩),
  (95, ⟨.other, false, 1, 8, ⟨.nilfn, ()⟩, .nilfn⟩),
  (100, ⟨(.int .u64), false, 1, 8, ⟨(.int .u64), (0 : Int)⟩, (.int .u64)⟩),
  (104, ⟨.other, false, 1, 8, ⟨.nilfn, ()⟩, .nilfn⟩),
  (111, ⟨(.slice 3), false, 1, 24, ⟨(.nil 3), ()⟩, (.list (.int .i64))⟩),
  (113, ⟨(.int .u64), false, 1, 8, ⟨(.int .u64), (0 : Int)⟩, (.int .u64)⟩)]
def HT : List (Nat × Hint) := [
  (3, ⟨.bool, [], [some (.list tapiNode), some (.int .i64)]⟩),
  (4, ⟨.bool, [], [some (.list tapiPair)]⟩),
  (5, ⟨.bool, [], [some (.list tapiPair), some (.int .i64), some .str]⟩),
  (6, ⟨.bool, [], [some (.list tapiNode), some (.int .i64), some .str]⟩),
  (7, ⟨.bool, [], [some (.list tapiPair), some (.int .u8), some .str]⟩),
  (8, ⟨.bool, [], [some (.list tapiPair)]⟩),
  (9, ⟨(.list tapiNode), [], [some (.list tapiNode)]⟩),
  (10, ⟨.bool, [], [some (.list tapiNode), some (.int .i64)]⟩),
  (11, ⟨.bool, [], [some (.list tapiNode), some (.int .i64)]⟩),
  (12, ⟨.bool, [], []⟩),
  (13, ⟨(.list tapiPair), [], [some (.list tapiPair)]⟩),
  (14, ⟨(.tcons (.list tapiNode) (.tcons (.int .i64) (.tcons (.int .i64) .tnil))), [], [some (.list tapiPair)]⟩),
  (15, ⟨.bool, [], [some (.list tapiPair)]⟩),
  (16, ⟨.bool, [], [some (.list tapiPair), some (.list tapiPair)]⟩),
  (17, ⟨(.list tapiPair), [], [some (.list tapiNode), some (.int .i64)]⟩),
  (18, ⟨(.list tapiPair), [], [some (.list tapiPair)]⟩),
  (19, ⟨(.int .i64), [], [some (.list tapiPair)]⟩),
  (20, ⟨.str, [], [some .str, some (.int .i64)]⟩),
  (21, ⟨.bool, [], []⟩),
  (22, ⟨(.tcons (.list tapiNode) (.tcons (.int .i64) .tnil)), [], [some (.list tapiPair)]⟩),
  (23, ⟨(.tcons tapiPair (.tcons .bool (.tcons (.int .i64) (.tcons (.int .i64) .tnil)))), [], [some (.list tapiNode), some (.int .i64), some (.int .i64), some .str]⟩),
  (24, ⟨(.tcons tapiPair (.tcons .bool .tnil)), [], [some (.list tapiPair), some (.int .i64), some .str]⟩),
  (25, ⟨(.int .i64), [], [some (.list tapiPair)]⟩),
  (26, ⟨(.ptr 0 0), [(.box tpathPath)], [some (.int .i64), some (.int .i64), some .str]⟩),
  (27, ⟨(.int .i64), [(.box tpathPath)], [none]⟩),
  (28, ⟨(.tcons tapiPair (.tcons .bool .tnil)), [(.box tpathPath)], [none]⟩),
  (29, ⟨.tnil, [(.box tpathPath)], [none, some tapiNode]⟩),
  (30, ⟨tapiNode, [], [some .str, some .str, some (.int .i64), some (.int .i64), some (.int .i64)]⟩),
  (31, ⟨tapiNode, [], [some tapiNode]⟩),
  (32, ⟨(.list (.int .i64)), [], [some tapiNode]⟩),
  (33, ⟨(.tcons (.list tapiPair) (.tcons (.int .i64) .tnil)), [], [some (.list tapiNode), some (.int .i64)]⟩),
  (34, ⟨.bool, [], [some (.list tapiPair)]⟩),
  (35, ⟨(.tcons (.list tapiNode) (.tcons (.int .i64) .tnil)), [], [some (.list tapiPair)]⟩),
  (36, ⟨.bool, [], [some (.list tapiNode), some (.int .i64), some (.list tapiNode), some (.int .i64)]⟩),
  (37, ⟨.bool, [], [some (.list tapiNode), some (.int .i64)]⟩),
  (38, ⟨.bool, [], [some (.list tapiNode), some (.int .i64), some (.list tapiNode), some (.int .i64)]⟩),
  (39, ⟨(.list tapiPair), [], [some (.list tapiPair)]⟩),
  (40, ⟨(.int .i64), [], [some tapiNode]⟩),
  (41, ⟨tapiNode, [], [some .str, some .str]⟩),
  (42, ⟨(.list tapiPair), [], [some tapiNode]⟩),
  (43, ⟨.bool, [], [some (.list tapiPair), some (.int .i64)]⟩),
  (44, ⟨.bool, [], [some .str, some .str]⟩),
  (45, ⟨(.int .i64), [], [some (.list tapiPair)]⟩),
  (46, ⟨(.tcons (.own tapiNode 0) (.tcons (.int .i64) .tnil)), [(.row 57 tapiNode false)], [none, some (.list tapiPair)]⟩),
  (47, ⟨(.tcons .str (.tcons .bool .tnil)), [], [some (.list tapiPair), some .str]⟩),
  (48, ⟨(.tcons tapiPair (.tcons .bool .tnil)), [], [some (.list tapiPair), some .str]⟩),
  (49, ⟨(.tcons tapiPair (.tcons .bool .tnil)), [], [some (.list tapiPair), some .str]⟩),
  (50, ⟨(.int .i64), [], [some (.list tapiNode), some (.int .i64)]⟩),
  (51, ⟨(.int .i64), [], [some .str, some .str]⟩),
  (52, ⟨.tnil, [(.box tpathPath)], [none, some tapiNode]⟩),
  (53, ⟨(.int .i64), [], [some (.list tapiNode), some (.int .i64)]⟩),
  (54, ⟨(.own tapiPair 0), [(.row 41 tapiPair false)], [some (.list tapiNode), some (.int .i64)]⟩),
  (55, ⟨(.int .i64), [(.box (.fn 55 (.tcons (.ptr 0 0) (.tcons (.ptr 1 0) .tnil)))), (.box (.own tapiNode 2)), (.row 57 tapiNode false)], [some (.list tapiPair), none, none]⟩),
  (56, ⟨.bool, [], [some (.list tapiNode), some (.int .i64), some (.list tapiNode), some (.int .i64)]⟩),
  (57, ⟨.bool, [], [some (.list tapiNode)]⟩),
  (58, ⟨.bool, [], [some (.list tapiNode), some (.int .i64), some (.list tapiNode), some (.int .i64)]⟩),
  (59, ⟨(.own tapiPair 0), [(.row 41 tapiPair false)], [some (.list tapiPair), some tapiPair]⟩),
  (60, ⟨tapiNode, [], [some tapiNode]⟩),
  (61, ⟨.bool, [], [some tapiNode]⟩),
  (62, ⟨.bool, [], [some tapiNode, some tapiNode]⟩),
  (63, ⟨.bool, [], [some tapiNode]⟩),
  (64, ⟨(.tcons .str (.tcons .bool .tnil)), [], [some (.list .str)]⟩),
  (65, ⟨(.int .i64), [], [some (.list .str), some .str]⟩),
  (66, ⟨.bool, [], [some .str, some .str]⟩),
  (67, ⟨(.int .i64), [], [some .str, some .str]⟩),
  (68, ⟨(.int .i64), [], [some (.list tapiNode)]⟩),
  (69, ⟨(.own tapiPair 0), [(.row 41 tapiPair false)], [some tapiNode]⟩),
  (70, ⟨(.list (.int .i64)), [], [some tapiNode]⟩),
  (71, ⟨tapiNode, [], [some tapiNode]⟩),
  (72, ⟨(.int .i64), [], [some tapiNode]⟩),
  (73, ⟨.bool, [], [some tapiNode, some tapiNode]⟩),
  (74, ⟨(.tcons (.int .i64) (.tcons .bool .tnil)), [], [some (.list tapiPair), some .str]⟩),
  (75, ⟨(.own tapiPair 0), [(.row 41 tapiPair false)], [some (.list tapiPair)]⟩),
  (76, ⟨(.own tapiPair 0), [(.row 41 tapiPair false), (.row 41 tapiPair true)], [none, some (.int .i64), none]⟩),
  (77, ⟨tapiNode, [], [some .str, some .str]⟩),
  (78, ⟨tapiNode, [], [some (.int .u32), some (.list (.int .i64)), some (.int .i64)]⟩),
  (79, ⟨tapiNode, [], [some (.list tapiPair)]⟩),
  (80, ⟨tapiNode, [], [some (.int .i64)]⟩),
  (81, ⟨.bool, [], [some tapiPair]⟩),
  (82, ⟨.bool, [], [some (.list tapiPair), none]⟩),
  (83, ⟨.bool, [], [some (.list (.int .i64)), some (.list (.int .i64))]⟩),
  (84, ⟨.bool, [], [some (.list tapiPair), some (.list tapiPair)]⟩),
  (85, ⟨(.int .i64), [], [some (.int .u32)]⟩),
  (86, ⟨.bool, [], [some (.list (.int .i64)), some (.int .i64)]⟩),
  (87, ⟨.bool, [], [some .str, some .str]⟩),
  (88, ⟨(.int .u64), [], [some .str]⟩),
  (89, ⟨(.own (.int .i64) 0), [(.row 25 (.int .i64) false)], [some (.list (.int .i64))]⟩),
  (90, ⟨(.pair (.int .i64) (.pair .str (.pair .str (.pair (.int .u32) (.pair (.own (.int .i64) 0) (.pair (.int .i64) (.pair (.own tapiPair 1) (.pair (.int .i64) (.pair (.int .i64) .unit))))))))), [(.row 25 (.int .i64) false), (.row 41 tapiPair false)], [some tapiNode]⟩),
  (91, ⟨.bool, [], [some tapiNode]⟩),
  (92, ⟨.bool, [], [some tapiNode]⟩),
  (93, ⟨.bool, [], [some (.list (.int .i64)), some (.list (.int .i64))]⟩),
  (94, ⟨(.tcons (.int .i64) (.tcons .bool .tnil)), [], [some (.list tapiPair), some .str, none]⟩),
  (95, ⟨(.int .i64), [], [some tapiPair, some .str]⟩),
  (98, ⟨(.int .i64), [], [some (.list tapiPair), none]⟩),
  (99, ⟨(.int .i64), [], [some (.int .u32)]⟩),
  (100, ⟨(.int .i64), [], [some (.list (.int .i64)), some (.int .i64)]⟩),
  (101, ⟨(.int .u64), [], [some .str]⟩),
  (102, ⟨(.int .u64), [], [some .str, some (.int .i64)]⟩),
  (103, ⟨(.int .u64), [], [some (.int .u64), some (.int .i64)]⟩),
  (104, ⟨.bool, [], [some tapiNode, some .bool, some .bool, some .bool, some .bool]⟩),
  (105, ⟨(.list (.int .i64)), [], [some (.int .u32)]⟩),
  (106, ⟨.bool, [], [some (.list tapiPair)]⟩),
  (108, ⟨(.int .u64), [], [some .str, some (.int .i64)]⟩),
  (109, ⟨(.int .i64), [], [some (.int .i64)]⟩),
  (110, ⟨.bool, [], [some (.int .u32), some (.int .i64)]⟩),
  (112, ⟨(.int .u64), [], [some (.int .u64), some (.int .i64)]⟩),
  (113, ⟨(.int .i64), [], [some (.int .i64)]⟩)]
def VT : List (Nat × List (Nat × Bool × Hint)) := [(78, [(1, true, ⟨(.pair (.int .i64) (.pair .str (.pair .str (.pair (.int .u32) (.pair (.own (.int .i64) 0) (.pair (.int .i64) (.pair (.own tapiPair 1) (.pair (.int .i64) (.pair (.int .i64) .unit))))))))), [(.row 25 (.int .i64) false), (.row 41 tapiPair false)], [some (.int .u32), some (.list (.int .i64)), some (.int .i64)]⟩)]), (27, [(0, true, ⟨(.int .i64), [], [none]⟩)]), (28, [(0, true, ⟨(.tcons tapiPair (.tcons .bool .tnil)), [], [none]⟩)]), (29, [(0, true, ⟨.tnil, [], [none, some tapiNode]⟩)]), (52, [(0, true, ⟨.tnil, [], [none, some tapiNode]⟩)])]
def FT : List (Nat × List OTy) := [(27, [(.box tpathPath)]), (28, [(.box tpathPath)]), (29, [(.box tpathPath)]), (52, [(.box tpathPath)]), (55, [(.box .nilfn), (.box (.list tapiNode))])]
def KT : List (Nat × List (List Nat)) := [
  (3, [[0, 1], [0, 1], [4]]),
  (4, [[0], [0, 7], [2], [0], [0, 3, 4, 5], [0, 3, 4, 17], [2], [2]]),
  (5, [[0, 1, 2], [0, 1, 2], [0, 1, 2, 20], [6], [0, 1, 2, 7, 8], [0, 1, 2, 9, 10, 11, 12], [0, 1, 2, 9, 10, 11, 12, 42], [6], [0, 9, 10, 11, 12, 13, 14], [6]]),
  (6, [[0, 1, 2], [0, 1, 2], [0, 1, 2, 7, 8, 9, 10], [0, 1, 2, 7, 8, 9, 10, 30], [6], [7, 8, 10, 11, 12], [6]]),
  (7, [[0, 1, 2], [0, 1, 2, 23], [6], [0, 1, 2], [0, 1, 2, 29], [6], [0, 1, 2, 7, 8], [0, 2, 7, 8, 9], [0, 2, 7, 9, 10], [0, 2, 7, 9, 10, 11], [0, 2, 7, 9, 10, 11, 45], [0, 2, 7, 9, 10, 11], [0, 2, 7, 9, 10, 11, 12], [0, 2, 7, 9, 10, 11, 12, 14], [0, 2, 7, 9, 10, 11, 12, 71], [6], [0, 2, 7, 9, 10, 11], [0, 2, 9, 10], [0, 2, 9, 15, 16], [2, 15, 16, 17, 18], [2, 15, 16, 17, 18, 19], [15, 16, 17, 18, 19], [15, 16, 17, 18, 19, 21], [6]]),
  (8, [[0], [0, 16], [2], [0], [0, 20], [2], [0, 3, 4], [3, 4, 5], [3, 4, 5, 6, 7], [3, 4, 5, 6, 7, 10], [3, 4, 5, 6, 10, 44], [3, 4, 5, 6, 10], [3, 4, 5, 6, 10, 11, 12], [3, 4, 5, 6, 7, 10], [2]]),
  (9, [[0], [0, 3, 4], [0, 3, 4, 5], [0, 3, 4, 5, 15], [0, 3, 4, 5], [0, 3, 4, 5, 6], [0, 3, 4, 5, 6], [0, 3, 4, 5, 6, 30], [2], [0, 3, 4, 5], [2]]),
  (10, [[0, 1], [0, 1, 5, 6], [0, 1, 5, 21], [4], [0, 1, 7, 8], [4]]),
  (11, [[0, 1], [0, 1, 10], [4], [0, 1, 5, 6], [4]]),
  (12, [[], [1, 2, 3], [0]]),
  (13, [[0], [0, 3], [0, 3, 4], [0, 3, 4, 13], [0, 3, 4], [0, 3, 4], [2]]),
  (14, [[0], [0], [0, 12, 13, 14], [0, 12, 13, 14, 15], [0, 6, 12, 13, 14], [0, 7, 12, 13, 14], [0, 7, 12, 13, 14, 25], [2, 3, 4], [0, 12, 13, 14], [8, 9], [2, 3, 4]]),
  (15, [[0], [3], [3, 4], [3, 4, 10], [3, 4], [3, 4, 28], [2], [2]]),
  (16, [[0, 1], [0, 1, 10], [4], [0, 1, 5], [0, 1, 5, 14], [0, 1, 5], [0, 1, 5, 25], [4], [4]]),
  (17, [[0, 1], [0, 1, 5], [0, 1, 5, 11], [4], [0, 5, 6], [0, 5, 6, 20], [0, 5, 6], [0, 5, 6], [4], [0, 5, 6], [0, 5, 7], [0, 5, 7, 8], [0, 5, 7, 8, 50], [0, 5, 7, 8], [0, 5, 7, 8], [4]]),
  (18, [[0], [0, 3], [0, 3, 4], [0, 3, 4, 10], [0, 3, 4], [0, 3, 4, 16], [0, 3, 4, 5], [0, 3, 4, 5, 33], [0, 3, 4, 5], [0, 3, 4], [2]]),
  (19, [[0], [0], [0, 8], [2], [0, 3], [2]]),
  (20, [[0, 1], [4]]),
  (21, [[], [1], [1, 2, 3, 4, 5], [1, 2, 3, 4, 5, 6, 7], [2, 3, 4, 5, 6, 7, 11], [0]]),
  (22, [[0], [2, 3]]),
  (23, [[0, 1, 2, 3, 8], [0, 1, 2, 3, 8, 16], [8, 9, 10, 11], [0, 1, 2, 3, 8, 24], [8, 9, 10, 11], [0, 8, 12], [0, 8, 12, 13], [0, 8, 12, 13, 36], [0, 8, 12, 13], [0, 8, 12, 13], [8, 13, 14, 15], [8, 9, 10, 11]]),
  (24, [[0, 1, 2, 6], [0, 1, 2, 6, 11], [2, 6, 8, 9], [2, 6, 8, 19], [6, 7], [6, 7], [0, 1, 2, 6, 25], [6, 7], [0, 2, 6, 32], [6, 7], [0, 6, 40], [6, 7], [6, 7]]),
  (25, [[0], [3, 4], [2]]),
  (26, [[0, 1, 2], [6]]),
  (27, [[0], [0, 4], [2], [2]]),
  (28, [[0, 2], [0, 2, 12], [2, 3], [2, 3]]),
  (29, [[0, 3], [0, 3, 9], [0, 3], [0, 3, 21], [0, 3, 4, 5], [0, 3, 4, 5, 6], [0, 3, 4, 5, 6, 40], [0, 3, 4, 5, 6, 40, 41], [], [0, 3, 4, 5, 6, 47], [], [0, 4, 5, 53], [], [0, 3, 4, 5, 6, 40, 60], [0, 3, 4, 5, 63], [], [0, 5], [], [0, 3, 4, 5, 6, 40, 75], [0, 3, 4, 5, 78], [], [0, 4], [], [0, 3, 4, 90], [0, 4], []]),
  (30, [[0, 1, 2, 3, 4, 10], [10]]),
  (31, [[1, 2], [1, 2], [1, 2], [1, 2], [2]]),
  (32, [[1], [1, 3], [1, 3, 4], [1, 3, 4, 10], [1, 3, 4], [1, 3, 4, 18], [1, 3, 4], [1, 3, 29], [3], [2]]),
  (33, [[0, 1], [0, 1, 6], [0, 1, 6, 11], [4, 5], [4, 5]]),
  (34, [[0], [0, 5, 6], [0, 5, 6, 7], [0, 3, 5, 6], [0, 5, 6, 25], [2], [0, 5, 6], [2]]),
  (35, [[0], [0, 4], [0, 4, 5], [0, 4, 5], [4, 6], [2, 3]]),
  (36, [[0, 1, 2, 3], [8]]),
  (37, [[0, 1], [4]]),
  (38, [[0, 1, 2, 3], [8]]),
  (39, [[0], [0, 3], [3, 6, 7, 8], [3, 6, 7, 8, 9], [3, 5, 6, 7, 8], [3, 6, 7, 8], [3, 6, 7, 8], [2]]),
  (40, [[1], [1, 3], [1, 3], [1, 3, 10], [2], [1, 3, 19], [2], [22], [2], [2]]),
  (41, [[0, 1, 4], [4]]),
  (42, [[1], [1, 15], [2], [1, 24], [2], [2]]),
  (43, [[0, 1], [0, 1, 5], [0, 1, 5, 11], [0, 1, 5], [0, 1, 5, 24], [4], [4]]),
  (44, [[0, 1], [0, 1, 5], [0, 1, 5, 15], [0, 1, 5], [0, 1, 5, 24], [4], [4]]),
  (45, [[0], [0, 3], [3, 8, 9, 10], [3, 8, 9, 10, 11], [3, 5, 8, 9, 10], [3, 8, 9, 10], [3, 8, 9, 10], [3, 6], [2]]),
  (46, [[0, 1], [0, 1, 12], [4, 5], [0, 1, 6], [0, 1, 6, 7], [0, 1, 6, 7, 17], [0, 1, 6, 7], [0, 1, 6, 7, 30], [0, 1, 6, 7], [0, 1, 6, 8], [0, 1, 6, 8, 9], [0], [4, 5]]),
  (47, [[0, 1], [0, 1, 6], [0, 1, 6, 11], [0, 1, 6], [0, 1, 6, 20], [4, 5], [4, 5]]),
  (48, [[0, 1, 4], [1, 4, 6], [1, 4, 6, 7], [1, 4, 6, 7, 14], [1, 4, 6, 7], [1, 4, 6, 7, 24], [4, 5], [4, 5]]),
  (49, [[0, 1, 4], [1, 4, 6], [1, 4, 6, 7], [1, 4, 6, 7, 13], [1, 4, 6, 7], [1, 4, 6, 7, 22], [4, 5], [4, 5]]),
  (50, [[0, 1], [0, 1, 9], [4], [0, 5, 6], [0, 5, 6, 7], [0, 5, 6, 7, 19], [0, 5, 6, 7], [0, 5, 6, 7], [4]]),
  (51, [[0, 1], [0, 1, 5], [0, 1, 5, 9], [4], [0, 1, 5, 20], [4], [25], [4], [4]]),
  (52, [[0, 3], []]),
  (53, [[0, 1], [0, 12], [4], [4]]),
  (54, [[0, 1], [0, 1, 10], [4], [0, 5], [0, 5, 18], [4], [0, 5, 6], [0, 6, 38, 39, 40], [0, 6, 38, 39, 40, 41], [0, 6, 8, 38, 39, 40], [0, 6, 38, 39, 40], [0, 6, 38, 39, 40], [4]]),
  (55, [[0, 1, 2], [0, 1, 2, 10], [4], [0, 1, 2, 5], [0, 2, 5, 6, 7], [2], [4]]),
  (56, [[0, 1, 2, 3], [0, 1, 2, 3, 19], [8], [0, 2, 9, 10], [0, 2, 9, 10, 38], [8], [0, 2, 11, 12], [0, 2, 11, 12, 44, 45], [0, 2, 11, 12, 44, 45, 46], [0, 2, 11, 12, 13, 44, 45], [0, 2, 11, 12, 44, 45, 59], [8], [0, 2, 11, 12, 44, 45], [8]]),
  (57, [[0], [0, 3], [0, 3, 9], [0, 3], [0, 3, 4], [0, 3, 4, 5], [0, 3, 4, 5, 20], [0, 3, 4, 5], [0, 3, 4, 5, 35], [2], [0, 3, 41], [2], [2]]),
  (58, [[0, 1, 2, 3], [0, 1, 2, 3, 17], [8], [0, 2, 9, 10], [0, 2, 9, 10, 40], [8], [0, 2, 9, 10, 11], [0, 2, 9, 10, 11, 45], [0, 2, 9, 10, 11], [0, 2, 9, 10, 11, 61], [8], [9, 10, 69], [8], [9, 10], [9, 10], [8]]),
  (59, [[0, 3], [0, 3, 5, 6], [0, 3, 5, 15], [3, 5, 7], [7], [4], [4]]),
  (60, [[1, 2], [1, 2, 4], [1, 2, 4, 5], [2], [1, 2, 4, 12], [2], [1, 2, 4, 19], [2], [1, 2, 4, 29], [2], [1, 2, 4, 34], [1, 2, 39], [2], [1, 2, 56], [2], [2]]),
  (61, [[1], [1, 3], [2]]),
  (62, [[2, 3], [2, 3, 5], [4]]),
  (63, [[1], [1, 4], [1, 4, 5], [2], [1, 4, 20], [2], [1, 31], [2], [2]]),
  (64, [[0], [0, 4], [0, 4, 7, 8, 9], [0, 4, 7, 8, 9, 10], [0, 4, 5, 6, 7, 8, 9], [0, 4, 6, 7, 8, 9, 20], [0, 4, 7, 8, 9], [0, 4, 7, 8, 9], [2, 3]]),
  (65, [[0, 1], [0, 1, 7, 8], [0, 1, 7, 8, 9], [0, 1, 5, 7, 8], [0, 1, 5, 7, 8, 16], [4], [0, 1, 7, 8], [4]]),
  (66, [[0, 1], [0, 1, 9], [4], [4]]),
  (67, [[0, 1], [0, 1, 5], [0, 1, 5, 12, 13], [0, 1, 5, 12, 13, 14], [0, 1, 5, 6, 12, 13], [0, 1, 5, 6, 12, 13, 22], [4], [0, 1, 5, 12, 13], [4]]),
  (68, [[0], [7, 8, 9], [7, 8, 9, 10], [3, 4, 7, 8, 9], [3, 4, 7, 8, 9, 16], [2], [3, 7, 8, 9, 18, 19, 20], [3, 7, 8, 9, 18, 19, 20, 21], [3, 6, 7, 8, 9, 18, 19, 20], [3, 7, 8, 9, 18, 19, 20, 30], [2], [3, 7, 8, 9, 18, 19, 20], [7, 8, 9], [2]]),
  (69, [[1], [1, 4], [1, 4, 5], [1, 4, 5], [1, 4, 5], [2], [1, 15], [2], [2]]),
  (70, [[1], [1, 3], [3, 12, 13, 14], [3, 12, 13, 14, 15], [3, 5, 12, 13, 14], [3, 5, 12, 13, 14, 19], [3, 12, 13, 14], [3, 12, 13, 14], [2]]),
  (71, [[1, 2], [1, 2], [1, 2, 8, 9], [1, 2, 8, 9, 10], [1, 2, 3, 8, 9], [1, 2, 8, 9], [1, 2, 8, 9], [1, 2], [1, 2], [2]]),
  (72, [[1], [1, 10], [2], [1, 12], [2], [15], [2], [2]]),
  (73, [[2, 3], [2, 3, 51], [4], [4]]),
  (74, [[0, 1], [4, 5]]),
  (75, [[0], [0, 4], [2], [2]]),
  (76, [[0, 1, 2], [0, 1, 2], [0, 1, 2, 7], [0, 1, 2, 7, 16], [6], [0, 1, 2, 7, 8], [0, 1, 2, 7, 8, 22], [6], [0, 1, 2, 7, 8, 31], [0, 1, 2, 7, 9], [0, 1, 7, 9], [9], [6], [0, 1, 2, 7, 8], [0, 1, 2, 7, 8, 68], [0, 1, 2], [0], [6], [0, 1, 7], [0], [6]]),
  (77, [[0, 1, 4], [4]]),
  (78, [[0, 1, 2, 6], [6]]),
  (79, [[0, 2], [2, 3], [2]]),
  (80, [[0, 2], [2]]),
  (81, [[1], [2]]),
  (82, [[0, 1], [4]]),
  (83, [[0, 1], [0, 1, 10], [4], [0, 1, 12, 13], [0, 1, 12, 13, 14], [0, 1, 5, 12, 13], [0, 1, 12, 13, 24], [4], [0, 1, 12, 13], [4]]),
  (84, [[0, 1], [0, 1, 10], [4], [0, 1, 12, 13], [0, 1, 12, 13, 14], [0, 1, 5, 12, 13], [0, 1, 12, 13, 24], [4], [0, 1, 12, 13], [4]]),
  (85, [[0], [2]]),
  (86, [[0, 1], [4]]),
  (87, [[0, 1], [0, 1, 5, 6], [4]]),
  (88, [[0], [3], [3], [3], [2]]),
  (89, [[0], [0, 4], [2], [2]]),
  (90, [[1, 2], [1, 2], [1, 2], [2]]),
  (91, [[1], [1, 3], [1, 3, 4], [1, 3, 4, 19], [1, 3, 4], [1, 3, 4], [2]]),
  (92, [[1], [1, 6], [2], [1, 8], [1, 8, 9], [1, 8, 9], [2], [1, 8, 19], [1, 3], [1, 3, 25], [1, 3], [1, 3, 33], [2], [2], [1, 8, 51], [2], [1, 74], [2], [2]]),
  (93, [[0, 1], [0, 1, 10], [4], [0, 1, 5], [0, 1, 5, 14], [0, 1, 5], [0, 1, 5, 25], [4], [4]]),
  (94, [[0, 1, 2], [0, 1, 2, 8], [0, 1, 2, 8, 9, 10], [0, 1, 2, 8, 9, 10, 17], [0, 1, 2, 8, 9, 10, 11], [0, 1, 2, 8, 9, 10, 11, 31], [0, 1, 2, 8, 9, 10], [0, 1, 2, 8, 9, 10], [6, 7]]),
  (95, [[1, 2], [4]]),
  (98, [[0, 1], [0, 1, 7, 8], [0, 1, 7, 8, 9], [0, 1, 5, 7, 8], [0, 1, 5, 7, 8, 16], [4], [0, 1, 7, 8], [4]]),
  (99, [[0], [2]]),
  (100, [[0, 1], [0, 1, 7, 8], [0, 1, 7, 8, 9], [0, 1, 5, 7, 8], [0, 1, 5, 7, 8, 16], [4], [0, 1, 7, 8], [4]]),
  (101, [[0], [3], [3], [3], [3], [3], [2]]),
  (102, [[0, 1], [0, 1, 5], [0, 1, 5, 6], [0, 1, 5, 6, 13], [0, 1, 5, 6], [0, 1, 5, 6], [1, 5, 7, 8], [1, 5, 7, 8, 9], [1, 5, 7, 8, 9, 26], [1, 5, 7, 8, 9], [1, 5, 7, 8, 9], [1, 5, 7, 8, 9], [4]]),
  (103, [[0, 1], [0, 1, 5], [0, 1, 5, 8], [0, 1, 5], [0, 1, 5], [4]]),
  (104, [[1, 2, 3, 4, 5], [3, 4, 5, 35], [10], [10]]),
  (105, [[0], [0, 3], [0, 3, 4], [0, 3, 4, 7], [0, 3, 4], [0, 3, 4, 12], [0, 3, 4], [2]]),
  (106, [[0], [0, 3], [0, 3, 7], [0, 3], [0, 3, 22], [2], [2]]),
  (108, [[0, 1], [0, 1, 5], [0, 1, 5, 8, 9], [0, 1, 5, 8, 9, 10], [0, 1, 5, 6, 8, 9], [0, 1, 5, 8, 9], [0, 1, 5, 8, 9], [0, 1, 5, 8, 9], [4]]),
  (109, [[0], [0, 4], [2], [0, 6], [2], [2]]),
  (110, [[0, 1], [0, 1, 5], [0, 1, 5, 7], [0, 1, 5], [0, 1, 5, 17], [4], [0, 1, 5], [4]]),
  (112, [[0, 1], [0, 1, 7], [4], [4]]),
  (113, [[0], [2]])]
def AT : List (Nat × List Nat) := [(69, [5]), (92, [9])]
def MT : List (Nat × List (List Nat)) := [(5, [[1, 1, 1, 1, 1, 0, 1]]), (7, [[1, 1, 1, 1, 1, 1, 1, 0, 1, 0, 0, 1, 0, 0, 1, 1, 0, 1]]), (9, [[1, 1, 0, 1, 0, 0, 0, 1]]), (13, [[1, 1, 0, 1, 0, 0, 0, 1]]), (18, [[1, 1, 0, 1, 0, 0, 1, 0, 0, 1, 1, 0, 0, 0, 0, 1]]), (29, [[1, 1, 1, 0, 1]]), (44, [[1, 0, 1, 0, 0, 0, 1]]), (51, [[1, 1, 0, 0, 1]]), (55, [[1, 1, 1, 1]]), (56, [[1, 0, 1]]), (58, [[1, 0, 1]]), (62, [[1, 1]]), (92, [[1, 1, 0, 1, 0, 1]])]
def RR : Prims := fun f => if f = 76 then some (insP 41 tapiPair) else none
def KK (f i : Nat) : List Nat := match Abs.look KT f with
  | some l => l.getD i []
  | none => []
def AG (f t : Nat) : Bool := match Abs.look AT f with
  | some l => l.contains t
  | none => false
def MM (f : Nat) (p : List Nat) : Bool := match Abs.look MT f with
  | some l => l.contains p
  | none => false
def HH (f : Nat) (ats : List Ty) : Option Hint := hintV HT VT FT f ats
def TT : Go.Abs.Told := ⟨TB, HH, KK, fun _ => false, AG, MM⟩
noncomputable abbrev CF : AbsFn := callW PP TT RR
noncomputable abbrev CB : AbsFn := callB PP TT RR CF @loopW
noncomputable abbrev BF {R : Type} (f m : Nat) (p : List Nat) : Run R := bodyF PP TT CF @loopW f m p
noncomputable abbrev finF (f : Nat) (rt : Ty) (ots : List OTy) (m : Nat) : Kn (denR rt ots) := finK TT (funcOf PP f) rt ots m
end Go.Proofs.Ytimgaglpempfeaa.AA
set_option autoImplicit false
set_option linter.unusedVariables false
namespace Go.Abs
section
variable {P : Program}
theorem run_copy_k (w : World) (dT sT ty elem k : Nat) (b o dLen dCap : Nat) (a : Addr) (sLen sCap : Nat) (cs : List Value)
    (hu : P.underlying dT = some (.slice elem)) (hs : (P.info? elem).map (·.size) = some k) (hn : cs.length = Nat.min sLen dLen * k)
    (hsrc : ∀ j v, cs[j]? = some v → w.cell? (a.add j) = some v) (hc : ∀ j, j < cs.length → (w.cell? ⟨b, o + j, none⟩).isSome = true) (hf : ∀ j, j < cs.length → w.frozen? ⟨b, o + j, none⟩ = false) (h1 : ∀ v ∈ cs, v.oneCell' = true) :
    (Builtin.copy_ #[dT, sT] ty #[.slice (some ⟨b, o, none⟩) dLen dCap, .slice (some a) sLen sCap]).run P w = .ok (goInt (Nat.min sLen dLen)) (w.setCells b o cs) := by
  have hl := run_loadCells_list (P := P) w a cs hsrc
  have hst := run_storeCells_cells (P := P) b o cs 0 w (by simpa using hc) (by simpa using hf) h1
  cases hq : P.info? elem with
  | none => simp [hq] at hs
  | some i =>
    have hi : i.size = k := by simpa [hq] using hs
    simp [Builtin.copy_, run_underlying hu, Builtin.lenOf, Builtin.firstCells, sizeOf, typeInfo, hq, hi, ← hn, hl, hst]
end
theorem setCell_heap {w : World} {b o : Nat} {v : Value} {cur : Array Value} {e : TypeId} {fz : Nat × Nat} (h : w.heap[b]? = some (.cells cur e fz)) :
    (w.setCell ⟨b, o, none⟩ v).heap[b]? = some (.cells (cur.setIfInBounds o v) e fz) := by
  simp [World.setCell, Array.getElem?_modify, h]
theorem setCells_heap {b : Nat} {e : TypeId} {fz : Nat × Nat} : ∀ (vs : List Value) (o : Nat) (w : World) (cur : Array Value), w.heap[b]? = some (.cells cur e fz) → o + vs.length ≤ cur.size →
    ∃ cur', (w.setCells b o vs).heap[b]? = some (.cells cur' e fz) ∧ cur'.size = cur.size ∧ cur'.toList = cur.toList.take o ++ vs ++ cur.toList.drop (o + vs.length)
  | [], o, w, cur, h, hl => ⟨cur, h, rfl, by simp⟩
  | v :: vs, o, w, cur, h, hl => by
    have hl' : o < cur.size := by simp at hl; omega
    obtain ⟨cur', h1, h2, h3⟩ := setCells_heap vs (o + 1) (w.setCell ⟨b, o, none⟩ v) _ (setCell_heap (o := o) (v := v) h) (by simp at hl ⊢; omega)
    refine ⟨cur', h1, by rw [h2]; simp, ?_⟩
    rw [h3]
    have hs : cur.size = cur.toList.length := by simp
    simp only [Array.toList_setIfInBounds]
    generalize cur.toList = l at *
    have e1 : (l.set o v).take (o + 1) = l.take o ++ [v] := by
      rw [List.take_set, List.take_succ_eq_append_getElem (by omega), List.set_append_right _ _ (by rw [List.length_take]; omega)]
      simp [List.length_take, Nat.min_eq_left (Nat.le_of_lt (show o < l.length by omega))]
    have e2 : (l.set o v).drop (o + 1 + vs.length) = l.drop (o + (v :: vs).length) := by
      rw [List.drop_set_of_lt (by omega)]
      congr 1
      simp; omega
    rw [e1, e2]
    simp
theorem setCells_grow (b : Nat) : ∀ (vs : List Value) (o : Nat) (w : World), Grow (fun x => x = b) w (w.setCells b o vs)
  | [], _, w => Grow.refl _ w
  | v :: vs, o, w => by
    refine Grow.trans (b := w.setCell ⟨b, o, none⟩ v) ⟨rfl, rfl, rfl, by simp, fun k hk hn => ?_⟩ (setCells_grow b vs (o + 1) _) (fun k _ h => h)
    have hn : ¬ k = b := hn
    simp [World.setCell, Array.getElem?_modify, Ne.symm hn]
theorem cells_some {w : World} {b j : Nat} {cur : Array Value} {e : TypeId} {fz : Nat × Nat} (h : w.heap[b]? = some (.cells cur e fz)) (hj : j < cur.size) : (w.cell? ⟨b, j, none⟩).isSome = true := by
  simp [World.cell?, h, hj]
theorem cells_thawed {w : World} {b j : Nat} {cur : Array Value} {e : TypeId} (h : w.heap[b]? = some (.cells cur e (0, 0))) : w.frozen? ⟨b, j, none⟩ = false := by
  simp [World.frozen?, h]
theorem cells_shape {w : World} {b : Nat} {cur : Array Value} {e : TypeId} {fz : Nat × Nat} (h : w.heap[b]? = some (.cells cur e fz)) : w.shape? b = some (e, cur.size) := by
  simp [World.shape?, h]
end Go.Abs
set_option autoImplicit false
set_option linter.unusedVariables false
namespace Go.Abs
/-- What a walk of slices.Insert shows. -/
def InsWalk (P : Program) (f e k : Nat) : Prop := ∀ (w : World) (L0 L1 : Loc) (n i m : Nat) (cs vs : List Value), RowAt w L0 e k n cs → RowAt w L1 e k m vs → (L0.hdr.ownBlock = some L0.loc → L1.hdr.ownBlock = some L1.loc → L0.loc ≠ L1.loc) →
  i ≤ n → 0 < m → n + m ≤ 1073741824 → cs.length = n * k → vs.length = m * k → (∀ v ∈ cs, v.oneCell' = true) → (∀ v ∈ vs, v.oneCell' = true) →
  Calls P f #[L0.hdr, .int .i64 i, L1.hdr] w fun e' w' => ∃ L', e' = .returned L'.hdr ∧ RowAt w' L' e k (n + m) (cs.take (i * k) ++ vs ++ cs.drop (i * k)) ∧ Grow (fun b => L0.hdr.ownBlock = some L0.loc ∧ b = L0.loc) w w' ∧
    (L'.hdr.ownBlock = some L'.loc → L'.loc < w'.heap.size ∧ ((L0.hdr.ownBlock = some L0.loc ∧ L'.loc = L0.loc) ∨ w.heap.size ≤ L'.loc)) ∧ L'.hdr.oneCell' = true
/-- What a walk of slices.Delete shows. -/
def DelWalk (P : Program) (f e k : Nat) : Prop := ∀ (w : World) (L0 : Loc) (n i j : Nat) (cs : List Value), RowAt w L0 e k n cs →
  i ≤ j → j ≤ n → cs.length = n * k → (∀ v ∈ cs, v.oneCell' = true) →
  Calls P f #[L0.hdr, .int .i64 i, .int .i64 j] w fun e' w' => ∃ L', e' = .returned L'.hdr ∧ RowAt w' L' e k (n - (j - i)) (cs.take (i * k) ++ cs.drop (j * k)) ∧ Grow (fun b => L0.hdr.ownBlock = some L0.loc ∧ b = L0.loc) w w' ∧
    (L'.hdr.ownBlock = some L'.loc → L'.loc < w'.heap.size ∧ ((L0.hdr.ownBlock = some L0.loc ∧ L'.loc = L0.loc) ∨ w.heap.size ≤ L'.loc)) ∧ L'.hdr.oneCell' = true
theorem start_SI {w : World} {Fr : Nat → Prop} {mu : Nat → Loc} {objs : List AObj} {args : List Dyn} {vs : List Value} (hpre : Pre w Fr mu objs args vs) : SI (env w Fr mu objs) w Fr mu objs := by
  refine ⟨Grow.refl _ w, fun _ => id, fun _ => .inl, hpre.frL, hpre.so.hh, hpre.so.obj, hpre.so.nm, hpre.so.sep, ?_, ?_, Nat.le_refl _⟩
  · intro i o hi ho
    obtain ⟨h1, h2⟩ := hpre.so.own i o hi ho
    exact ⟨.inl ⟨i, o, hi, ho, rfl⟩, h1, h2⟩
  · intro i o _ hi
    obtain ⟨t, x⟩ := o
    cases t with
    | gone => trivial
    | box t => rfl
    | row e t f => cases f <;> first | rfl | trivial
theorem insP_ok {P : Program} {f e : Nat} {t : Ty} (hen : Enters P f) (hw : InsWalk P f e t.width) (args : List Dyn) (objs : List AObj) (rt : Ty) (ots : List OTy) (r : denR rt ots) (h : insP e t f args objs rt ots = some r) : Enters P f ∧
  ∀ (w : World) (Fr : Nat → Prop) (mu : Nat → Loc) (vs : List Value), Pre w Fr mu objs args vs →
    Calls P f vs.toArray w fun e w' => ∃ v Fr' mu', e = .returned v ∧ Post w Fr mu objs ⟨rt, resT rt ots r⟩ (resO rt ots r) v w' Fr' mu' := by
  refine ⟨hen, ?_⟩
  intro w Fr mu vals hpre
  unfold insP at h
  split at h
  case h_2 => cases h
  rename_i t1 x1 i t2 x2 e1 u1 f1 xs0 e2 u2 vs0
  split at h
  case isFalse => cases h
  rename_i hee
  obtain ⟨he1, he2⟩ := hee
  subst he1
  subst he2
  split at h
  case h_2 => cases h
  rename_i xs vs hxs hvs
  split at h
  case h_2 => cases h
  rename_i x y hx hy
  obtain ⟨hg, h⟩ := br_none h
  injection h with h
  subst h
  have hso := hpre.so
  have ho0 : OR w Fr mu 0 ⟨.row e2 t f1, xs⟩ := by rw [← list_as hxs]; exact hso.obj 0 _ rfl
  have ho1 : OR w Fr mu 1 ⟨.row e2 t true, vs⟩ := by rw [← list_as hvs]; exact hso.obj 1 _ rfl
  obtain ⟨hel, cx, hrx, hown⟩ := ho0
  obtain ⟨_, cv, hrv, hown1⟩ := ho1
  -- the values
  have hlen := hpre.len
  match vals, hlen with
  | [a0, a1, a2], _ =>
  have v0 := (hpre.val 0 _ a0 rfl rfl).1
  have v1 := (hpre.val 1 _ a1 rfl rfl).1
  have v2 := (hpre.val 2 _ a2 rfl rfl).1
  injection (show [a0] = [(mu 0).hdr] from v0) with v0
  injection (show [a1] = [.int .i64 i] from v1) with v1
  injection (show [a2] = [(mu 1).hdr] from v2) with v2
  subst v0; subst v1; subst v2
  unfold insG at hg
  simp only [decide_eq_true_eq] at hg
  obtain ⟨g1, g2, g3, g4⟩ := hg
  have hi : i = ((i.toNat : Nat) : Int) := (Int.toNat_of_nonneg g1).symm
  have hcx : cx.length = xs.length * t.width := rows_len (fun x l h => Rp_len t x l (Ty.elt_cel hel) h) hrx
  have hcv : cv.length = vs.length * t.width := rows_len (fun x l h => Rp_len t x l (Ty.elt_cel hel) h) hrv
  have one : ∀ {zs : List (den t)} {c : List Value}, rows (fun x l => Rp w Fr mu t x l) zs c → ∀ u ∈ c, u.oneCell' = true := fun hr => rows_all (fun x l h => Rp_one hso.hh t x l (Ty.elt_cel hel) h) hr
  have hwalk := hw w (mu 0) (mu 1) xs.length i.toNat vs.length cx cv hown hown1 (fun h0 h1 => hso.sep 0 1 _ _ rfl rfl (by omega) h0 h1) g2 g3 g4 hcx hcv (one hrx) (one hrv)
  rw [← hi] at hwalk
  refine Calls.mono hwalk ?_
  rintro ex w' ⟨L, rfl, hr2, hr3, hr4, hr5⟩
  have hgr : Grow (fun b => occ mu 0 (⟨.row e2 u1 f1, xs0⟩ : AObj) ∧ b = (mu 0).loc) w w' := hr3
  have hj : (⟨[], [⟨.row e2 u1 f1, xs0⟩, ⟨.row e2 u2 true, vs0⟩]⟩ : St).heap[0]? = some (⟨.row e2 u1 f1, xs0⟩ : AObj) := rfl
  have HS := start_SI hpre
  have hfr : ∀ b, Fr b → w'.heap[b]? = w.heap[b]? := fun b hb => hgr.block b (hpre.frL b hb) (fun ⟨h1, h2⟩ => (hso.own 0 _ rfl h1).1 (h2 ▸ hb))
  have hrow : rows (fun x l => Rp w' Fr (upd mu 0 L) t x l) (insL t xs i vs) (cx.take (i.toNat * t.width) ++ cv ++ cx.drop (i.toNat * t.width)) := by
    have wl : ∀ (x : den t) (l : List Value), Rp w Fr mu t x l → l.length = t.width := fun x l h => Rp_len t x l (Ty.elt_cel hel) h
    have := rows_append (rows_append (Abs.rows_take wl hrx i.toNat) hrv) (rows_drop wl hrx i.toNat)
    exact rows_mono (fun x l h => Rp_keep (fun _ => id) hfr t x l (t.pure_okN (Ty.elt_pure hel)) h) this
  have hsi := SI.setObj (s := ⟨[], [⟨.row e2 u1 f1, xs0⟩, ⟨.row e2 u2 true, vs0⟩]⟩) HS (r := killR [0]) (w' := w') (L := L) (o := ⟨.row e2 t false, insL t xs i vs⟩) hj (killR_T [0])
    (killR_OK hso.hh hfr (fun k hk hne => upd_ne (by simpa using hne))) (fun t x h => killR_okN [0] t x h) hgr hr5
    (by
      refine ⟨hel, _, hrow, ?_⟩
      rw [upd_same]
      have hl : (insL t xs i vs).length = xs.length + vs.length := by
        unfold insL
        simp only [List.length_append, List.length_take, List.length_drop]
        omega
      rw [hl]
      exact hr2)
    (by
      intro hoc
      have hoc : (upd mu 0 L 0).hdr.ownBlock = some (upd mu 0 L 0).loc := hoc
      rw [upd_same] at hoc
      exact hr4 hoc)
    (fun t x e => by cases e) (fun _ => trivial)
  have hos : List.set (List.map (killR [0]).obj ([⟨.row e2 u1 f1, xs0⟩, ⟨.row e2 u2 true, vs0⟩] : List AObj)) 0 (⟨.row e2 t false, insL t xs i vs⟩ : AObj) = [⟨.row e2 t false, insL t xs i vs⟩, ⟨.row e2 t true, vs⟩] := by
    show [(⟨.row e2 t false, insL t xs i vs⟩ : AObj), ⟨.row e2 u2 true, vs0⟩] = _
    rw [list_as hvs]
  obtain ⟨m1, m2⟩ := mkR_res rt x ots y
  have hob := asObjs_some ots _ y hy
  have hxx := as_some hx
  refine ⟨_, Fr, upd mu 0 L, rfl, ?_⟩
  rw [m1, m2, ← hob, ← hxx]
  refine ⟨?_, VR_own (by rw [upd_same]), ?_⟩
  · rw [← hos]
    exact hsi
  · show 0 < 2
    omega
theorem delP_ok {P : Program} {f e : Nat} {t : Ty} (hen : Enters P f) (hw : DelWalk P f e t.width) (args : List Dyn) (objs : List AObj) (rt : Ty) (ots : List OTy) (r : denR rt ots) (h : delP e t f args objs rt ots = some r) : Enters P f ∧
  ∀ (w : World) (Fr : Nat → Prop) (mu : Nat → Loc) (vs : List Value), Pre w Fr mu objs args vs →
    Calls P f vs.toArray w fun e w' => ∃ v Fr' mu', e = .returned v ∧ Post w Fr mu objs ⟨rt, resT rt ots r⟩ (resO rt ots r) v w' Fr' mu' := by
  refine ⟨hen, ?_⟩
  intro w Fr mu vals hpre
  unfold delP at h
  split at h
  case h_2 => cases h
  rename_i t1 x1 i j e1 u1 f1 xs0
  split at h
  case isFalse => cases h
  rename_i he1
  subst he1
  split at h
  case h_2 => cases h
  rename_i xs hxs
  split at h
  case h_2 => cases h
  rename_i x y hx hy
  obtain ⟨hg, h⟩ := br_none h
  injection h with h
  subst h
  have hso := hpre.so
  have ho0 : OR w Fr mu 0 ⟨.row e1 t f1, xs⟩ := by rw [← list_as hxs]; exact hso.obj 0 _ rfl
  obtain ⟨hel, cx, hrx, hown⟩ := ho0
  have hlen := hpre.len
  match vals, hlen with
  | [a0, a1, a2], _ =>
  have v0 := (hpre.val 0 _ a0 rfl rfl).1
  have v1 := (hpre.val 1 _ a1 rfl rfl).1
  have v2 := (hpre.val 2 _ a2 rfl rfl).1
  injection (show [a0] = [(mu 0).hdr] from v0) with v0
  injection (show [a1] = [.int .i64 i] from v1) with v1
  injection (show [a2] = [.int .i64 j] from v2) with v2
  subst v0; subst v1; subst v2
  unfold delG at hg
  simp only [decide_eq_true_eq] at hg
  obtain ⟨g1, g2, g3⟩ := hg
  have hi : i = ((i.toNat : Nat) : Int) := (Int.toNat_of_nonneg g1).symm
  have hj : j = ((j.toNat : Nat) : Int) := (Int.toNat_of_nonneg (by omega)).symm
  have hcx : cx.length = xs.length * t.width := rows_len (fun x l h => Rp_len t x l (Ty.elt_cel hel) h) hrx
  have one : ∀ {zs : List (den t)} {c : List Value}, rows (fun x l => Rp w Fr mu t x l) zs c → ∀ u ∈ c, u.oneCell' = true := fun hr => rows_all (fun x l h => Rp_one hso.hh t x l (Ty.elt_cel hel) h) hr
  have hwalk := hw w (mu 0) xs.length i.toNat j.toNat cx hown (by omega) g3 hcx (one hrx)
  rw [← hi, ← hj] at hwalk
  refine Calls.mono hwalk ?_
  rintro ex w' ⟨L, rfl, hr2, hr3, hr4, hr5⟩
  have hgr : Grow (fun b => occ mu 0 (⟨.row e1 u1 f1, xs0⟩ : AObj) ∧ b = (mu 0).loc) w w' := hr3
  have hj : (⟨[], [⟨.row e1 u1 f1, xs0⟩]⟩ : St).heap[0]? = some (⟨.row e1 u1 f1, xs0⟩ : AObj) := rfl
  have HS := start_SI hpre
  have hfr : ∀ b, Fr b → w'.heap[b]? = w.heap[b]? := fun b hb => hgr.block b (hpre.frL b hb) (fun ⟨h1, h2⟩ => (hso.own 0 _ rfl h1).1 (h2 ▸ hb))
  have hrow : rows (fun x l => Rp w' Fr (upd mu 0 L) t x l) (delL t xs i j) (cx.take (i.toNat * t.width) ++ cx.drop (j.toNat * t.width)) := by
    have wl : ∀ (x : den t) (l : List Value), Rp w Fr mu t x l → l.length = t.width := fun x l h => Rp_len t x l (Ty.elt_cel hel) h
    have := rows_append (Abs.rows_take wl hrx i.toNat) (rows_drop wl hrx j.toNat)
    exact rows_mono (fun x l h => Rp_keep (fun _ => id) hfr t x l (t.pure_okN (Ty.elt_pure hel)) h) this
  have hsi := SI.setObj (s := ⟨[], [⟨.row e1 u1 f1, xs0⟩]⟩) HS (r := killR [0]) (w' := w') (L := L) (o := ⟨.row e1 t false, delL t xs i j⟩) hj (killR_T [0])
    (killR_OK hso.hh hfr (fun k hk hne => upd_ne (by simpa using hne))) (fun t x h => killR_okN [0] t x h) hgr hr5
    (by
      refine ⟨hel, _, hrow, ?_⟩
      rw [upd_same]
      have hl : (delL t xs i j).length = xs.length - (j.toNat - i.toNat) := by
        unfold delL
        simp only [List.length_append, List.length_take, List.length_drop]
        omega
      rw [hl]
      exact hr2)
    (by
      intro hoc
      have hoc : (upd mu 0 L 0).hdr.ownBlock = some (upd mu 0 L 0).loc := hoc
      rw [upd_same] at hoc
      exact hr4 hoc)
    (fun t x e => by cases e) (fun _ => trivial)
  have hos : List.set (List.map (killR [0]).obj ([⟨.row e1 u1 f1, xs0⟩] : List AObj)) 0 (⟨.row e1 t false, delL t xs i j⟩ : AObj) = [⟨.row e1 t false, delL t xs i j⟩] := rfl
  obtain ⟨m1, m2⟩ := mkR_res rt x ots y
  have hob := asObjs_some ots _ y hy
  have hxx := as_some hx
  refine ⟨_, Fr, upd mu 0 L, rfl, ?_⟩
  rw [m1, m2, ← hob, ← hxx]
  refine ⟨?_, VR_own (by rw [upd_same]), ?_⟩
  · rw [← hos]
    exact hsi
  · show 0 < 1
    omega
end Go.Abs
set_option linter.unusedVariables false
set_option linter.unusedSimpArgs false
namespace Go.Proofs.Ytimgaglpempfeaa.Ins76
open Go.Abs Go.RowKit Go.Lib Go.Proofs
set_option maxHeartbeats 4000000 in
set_option maxRecDepth 100000 in
/-- There is room, and it is not at the end: in place. -/
theorem shift {P : Program} {k : Nat} (hf : P.funcs[76]? = some Try.f76) (mixed : P.follows .mixedOrders = true) (t3 : P.underlying 3 = some (.int .i64)) (t4 : P.underlying 4 = some .bool) (tS : P.underlying 28 = some (.slice 41)) (zE : ∀ w, (Go.sizeOf 41).run P w = .ok k w)
    (hsz : (P.info? 41).map (·.size) = some k) (hov0 : ∀ (w : World) (x y : Value), (callFunc 96 #[x, y]).run P w = Result.andThen ((Extern.SlicesOverlaps.overlaps #[28, 28] #[4] #[x, y]).run P w) (fun v w' => .ok (.value v) w'))
    (b n c i vb m vc : Nat) (cs vs : List Value) (w : World) (hi : i < n) (hm : 0 < m) (hroom : n + m ≤ c) (hc63 : c ≤ 9223372036854775807) (hvb : vb ≠ b) (hk : 0 < k)
    {cur cur2 : Array Value} {e e2 : TypeId} (hb : w.heap[b]? = some (.cells cur e (0, 0))) (hb2 : w.heap[vb]? = some (.cells cur2 e2 (0, 0))) (hcur : cur.size = c * k)
    (hcl : cs.length = n * k) (hvl : vs.length = m * k)
    (hcs : At w b 0 cs) (hvs : At w vb 0 vs) (h1c : ∀ v ∈ cs, v.oneCell' = true) (h1v : ∀ v ∈ vs, v.oneCell' = true) :
    Calls P 76 #[.slice (some ⟨b, 0, none⟩) n c, .int .i64 i, .slice (some ⟨vb, 0, none⟩) m vc] w fun e w' =>
      e = .returned (.slice (some ⟨b, 0, none⟩) (n + m) c) ∧ w' = (w.drew.setCells b ((i + m) * k) (cs.drop (i * k))).setCells b (i * k) vs := by
  have u3 := run_underlying t3; have u4 := run_underlying t4; have uS := run_underlying tS
  have hz1 : ¬ ((m : Int) = 0) := by omega
  have hz2 : ¬ ((i : Int) = (n : Int)) := by omega
  have hov : ∀ lb cb, (callFunc 96 #[.slice (some ⟨vb, 0, none⟩) m vc, .slice (some ⟨b, (i + m) * k, none⟩) lb cb]).run P w = .ok (.value (.bool false)) w := fun lb cb => by
    rw [hov0, Lib.run_overlaps_apart w 28 4 41 tS k zE ⟨vb, 0, none⟩ ⟨b, (i + m) * k, none⟩ m vc lb cb hvb e2 e cur2.size cur.size (cells_shape hb2) (cells_shape hb)
      (by rw [hcur]; exact Nat.ne_of_gt (Nat.mul_pos (by omega) hk)) (cells_thawed hb2) (cells_thawed hb2)]
    rfl
  have hdl : (cs.drop (i * k)).length = (n - i) * k := by rw [List.length_drop, hcl, Nat.sub_mul]
  have hw1 : IntKind.i64.wrap ((i : Int) + (m : Int)) = (i : Int) + (m : Int) := by rw [IntKind.wrap_i64]; omega
  have hb1 : (0 : Int) ≤ (i : Int) + (m : Int) := by omega
  have hin : i ≤ n := by omega
  have htn : ((i : Int) + (m : Int)).toNat = i + m := by omega
  have hb3 : (i : Int) ≤ (n : Int) + (m : Int) := by omega
  have hb4 : ¬ (c = i) := by omega
  have hb2' : ¬ (c = i + m) := by omega
  have hle : (n + m) * k ≤ c * k := Nat.mul_le_mul_right k hroom
  have hsp : ∀ j, j < (n + m) * k → (w.cell? ⟨b, j, none⟩).isSome = true := fun j hj => cells_some hb (by omega)
  have hfz : ∀ j, w.frozen? ⟨b, j, none⟩ = false := fun j => cells_thawed hb
  have e1 : (n - i) * k + (i + m) * k = (n + m) * k := by rw [← Nat.add_mul]; congr 1; omega
  have e2 : (i * k) + m * k ≤ (n + m) * k := by rw [← Nat.add_mul]; exact Nat.mul_le_mul_right k (by omega)
  have hmin1 : ∀ x y : Nat, x = n + m - i → y = n + m - (i + m) → Nat.min x y = n - i := by intro x y h1 h2; subst h1; subst h2; simp only [Nat.min_def]; split <;> omega
  have hcp1 : ∀ ty dc sc, (Builtin.copy_ #[28, 28] ty #[.slice (some ⟨b, (i + m) * k, none⟩) (n + m - (i + m)) dc, .slice (some ⟨b, i * k, none⟩) (n + m - i) sc]).run P w.drew = .ok (goInt (n - i : Nat)) (w.drew.setCells b ((i + m) * k) (cs.drop (i * k))) := fun ty dc sc => by
    have := run_copy_k (P := P) w.drew 28 28 ty 41 k b ((i + m) * k) (n + m - (i + m)) dc ⟨b, i * k, none⟩ (n + m - i) sc (cs.drop (i * k)) tS hsz (by rw [hdl, hmin1 _ _ rfl rfl])
      (fun j v hj => by rw [Addr.add_lit]; have := hcs (i * k + j) v (by rwa [List.getElem?_drop] at hj); rw [Nat.zero_add] at this; exact this)
      (fun j hj => hsp _ (by omega)) (fun j hj => hfz _) (fun v hv => h1c v (List.mem_of_mem_drop hv))
    rw [hmin1 _ _ rfl rfl] at this
    exact this
  obtain ⟨W1, hW1⟩ : ∃ W1, W1 = w.drew.setCells b ((i + m) * k) (cs.drop (i * k)) := ⟨_, rfl⟩
  have hsp1 : ∀ j, j < (n + m) * k → (W1.cell? ⟨b, j, none⟩).isSome = true := fun j hj => by
    rw [hW1]
    exact isSome_setCells b (cs.drop (i * k)) ((i + m) * k) w.drew (fun j hj => hsp _ (by rw [hdl] at hj; omega)) _ (hsp j hj)
  have hmin2 : Nat.min m (n + m - i) = m := by simp only [Nat.min_def]; split <;> omega
  have hcp2 : ∀ (W : World), (∀ x, W.cell? x = W1.cell? x) → (∀ x, W.frozen? x = W1.frozen? x) → ∀ ty dc, (Builtin.copy_ #[28, 28] ty #[.slice (some ⟨b, i * k, none⟩) (n + m - i) dc, .slice (some ⟨vb, 0, none⟩) m vc]).run P W = .ok (goInt m) (W.setCells b (i * k) vs) := fun W hWc hWf ty dc => by
    have := run_copy_k (P := P) W 28 28 ty 41 k b (i * k) (n + m - i) dc ⟨vb, 0, none⟩ m vc vs tS hsz (by rw [hvl, hmin2])
      (fun j v hj => by
        rw [Addr.add_lit, hWc, hW1, World.cell?_setCells_out b _ _ _ _ (fun h _ => absurd h hvb)]
        exact hvs j v hj)
      (fun j hj => by rw [hWc]; exact hsp1 _ (by omega)) (fun j hj => by rw [hWf, hW1, World.frozen?_setCells]; exact hfz _) h1v
    rw [hmin2] at this
    exact this
  rw [← hW1] at hcp1
  clear hcs hvs hsp1 hsp hfz hov0
  go_enter hf, Try.ntmps76
  go_wp2_with (simp only [hov])
  go_region_law_o (refine step_copy_runI rfl _ _ 28 28 rfl _ _ (by simp [Act.eval, Act.put]) (by simp [Act.eval, Act.put]) (hcp1 _ _ _) ?_)
  go_wp2_with (at_builtin; refine wpList_copy_runI _ rfl _ _ 28 28 rfl _ _ rfl rfl (hcp2 _ (fun _ => rfl) (fun _ => rfl) _ _) ?_)
  go_ret
  first | exact ⟨rfl, rfl⟩ | exact ⟨rfl, by rw [hW1]⟩
set_option maxHeartbeats 4000000 in
set_option maxRecDepth 100000 in
/-- At the end: append. -/
theorem atEnd {P : Program} {k : Nat} (hf : P.funcs[76]? = some Try.f76) (mixed : P.follows .mixedOrders = true) (t3 : P.underlying 3 = some (.int .i64)) (t4 : P.underlying 4 = some .bool) (tS : P.underlying 28 = some (.slice 41)) (zE : ∀ w, (Go.sizeOf 41).run P w = .ok k w)
    (ad : Option Addr) (n c m vc : Nat) (va : Option Addr) (w w1 : World) (r : Value) (hm : 0 < m) (hnc : n ≤ c) (hnil : ad = none → n = 0 ∧ c = 0)
    (hr : ∀ ty, (Builtin.append_ #[28, 28] ty #[.slice ad n c, .slice va m vc]).run P w = .ok r w1) :
    Calls P 76 #[.slice ad n c, .int .i64 n, .slice va m vc] w fun e w' => e = .returned r ∧ w' = w1 := by
  have u3 := run_underlying t3; have u4 := run_underlying t4; have uS := run_underlying tS
  have hz1 : ¬ ((m : Int) = 0) := by omega
  go_enter hf, Try.ntmps76
  cases ad with
  | none =>
    obtain ⟨rfl, rfl⟩ := hnil rfl
    go_wp2_with (at_builtin; refine Lib.wpList_append_run _ rfl _ _ _ _ rfl _ _ rfl rfl _ _ (hr _) ?_)
    go_ret
    exact ⟨rfl, rfl⟩
  | some a =>
    obtain ⟨ab, ao, asp⟩ := a
    go_wp2_with (at_builtin; refine Lib.wpList_append_run _ rfl _ _ _ _ rfl _ _ rfl rfl _ _ (hr _) ?_)
    all_goals (go_ret; exact ⟨rfl, rfl⟩)
set_option maxHeartbeats 4000000 in
set_option maxRecDepth 100000 in
/-- No room, not at the end: a row made anew. -/
theorem grow {P : Program} {k : Nat} (hf : P.funcs[76]? = some Try.f76) (mixed : P.follows .mixedOrders = true) (t3 : P.underlying 3 = some (.int .i64)) (t4 : P.underlying 4 = some .bool) (tS : P.underlying 28 = some (.slice 41)) (zE : ∀ w, (Go.sizeOf 41).run P w = .ok k w)
    {i0 : TypeInfo} {z : Value} (hi0 : P.info? 41 = some i0) (hz0 : i0.zero = some z) (hzs : i0.size = k) (hzc : z.cells.size = k) (hzb : i0.bytes ≤ 131072) (hk : 0 < k)
    (b n c i vb m vc : Nat) (cs vs : List Value) (w : World) (hi : i < n) (hm : 0 < m) (hnc : n ≤ c) (hroom : c < n + m) (hbig : n + m ≤ 1073741824)
    (hcl : cs.length = n * k) (hvl : vs.length = m * k)
    (hcs : At w b 0 cs) (hvs : At w vb 0 vs) (h1c : ∀ v ∈ cs, v.oneCell' = true) (h1v : ∀ v ∈ vs, v.oneCell' = true) :
    ∃ ROW : Array Value, ∃ G : Nat, n + m ≤ G ∧ G ≤ maxLen ∧ ROW.size = G * k ∧ ROW.toList.take (i * k) = cs.take (i * k) ∧
    Calls P 76 #[.slice (some ⟨b, 0, none⟩) n c, .int .i64 i, .slice (some ⟨vb, 0, none⟩) m vc] w fun e w' =>
      e = .returned (.slice (some ⟨w.heap.size, 0, none⟩) (n + m) G) ∧
      w' = (((w.alloc (.cells ROW 41)).drew.setCells w.heap.size (i * k) vs).drew).setCells w.heap.size ((i + m) * k) (cs.drop (i * k)) := by
  have u3 := run_underlying t3; have u4 := run_underlying t4; have uS := run_underlying tS
  have hz1 : ¬ ((m : Int) = 0) := by omega
  have hz2 : ¬ ((i : Int) = (n : Int)) := by omega
  have hz3 : (c : Int) < (n : Int) + (m : Int) := by omega
  have hsz : (P.info? 41).map (·.size) = some k := by rw [hi0]; simp [hzs]
  have hnk : 0 < n * k := Nat.mul_pos (by omega) hk
  have hmk : 0 < m * k := Nat.mul_pos hm hk
  have hbw : b < w.heap.size := block_lt_of_cell (hcs 0 _ (List.getElem?_eq_getElem (by omega)))
  have hvw : vb < w.heap.size := block_lt_of_cell (hvs 0 _ (List.getElem?_eq_getElem (by omega)))
  have hkk : (n : Int) + (m : Int) - (i : Int) = ((n + m - i : Nat) : Int) := by omega
  have hik : i + (n + m - i) = n + m := by omega
  have hle1 : i * k ≤ n * k := Nat.mul_le_mul_right k (by omega)
  have hold : (Builtin.firstCells i0.size i (.slice (some ⟨b, 0, none⟩) i c)).run P w.drew = .ok (cs.take (i * k)).toArray w.drew := by
    rw [hzs]
    exact run_firstCells_some w.drew k i ⟨b, 0, none⟩ i c (cs.take (i * k)) (by rw [List.length_take]; omega) (fun j v hj => by
      rw [Addr.add_lit]
      rw [List.getElem?_take] at hj
      split at hj
      · exact hcs j v hj
      · cases hj)
  have hfit : (n + m) * i0.bytes ≤ 140737488355328 := by
    have := Nat.mul_le_mul hbig hzb
    omega
  have hfit2 : (n + m - i) * i0.bytes ≤ 281474976710656 := by
    have := Nat.mul_le_mul_right i0.bytes (show n + m - i ≤ n + m by omega)
    omega
  have hrz : ∀ ty, (Builtin.append_ #[28, 3] ty #[.slice (some ⟨b, 0, none⟩) i c, .int .i64 ((n : Int) + (m : Int) - (i : Int))]).run P w =
      .ok (.slice (some ⟨w.heap.size, 0, none⟩) (n + m) (grownCap w (n + m) c 41)) (w.drew.alloc (.cells ((cs.take (i * k)).toArray ++ Builtin.zeroCells z.cells (n + m - i) ++ Builtin.zeroCells z.cells (grownCap w (n + m) c 41 - (n + m))) 41)) := fun ty => by
    have h := Lib.run_append_grow_zeros w 28 3 ty 41 i0 z .i64 .i64 tS t3 hi0 hz0 (some ⟨b, 0, none⟩) i c (cs.take (i * k)) hold (n + m - i) (by omega) (by omega) (by omega) (by omega) hfit2 (by rw [hik]; exact growslice_fits hroom hfit)
    rw [hik] at h
    rw [hkk]
    exact h
  obtain ⟨G, hG⟩ : ∃ G, G = grownCap w (n + m) c 41 := ⟨_, rfl⟩
  obtain ⟨ROW, hROW⟩ : ∃ ROW : Array Value, ROW = (cs.take (i * k)).toArray ++ Builtin.zeroCells z.cells (n + m - i) ++ Builtin.zeroCells z.cells (G - (n + m)) := ⟨_, rfl⟩
  rw [← hG] at hrz
  rw [← hROW] at hrz
  have hGn : n + m ≤ G := by rw [hG]; exact grownCap_ge w _ _ _
  have hGm : G ≤ maxLen := by rw [hG]; exact grownCap_le_maxLen w (n + m) c 41 (by unfold maxLen; omega)
  have hl1 : (cs.take (i * k)).length = i * k := by rw [List.length_take, hcl]; exact Nat.min_eq_left hle1
  have hRs : ROW.size = G * k := by
    rw [hROW]
    simp only [Array.size_append, List.size_toArray, size_zeroCells, hzc, hl1]
    rw [← Nat.add_mul, ← Nat.add_mul]
    congr 1
    omega
  have hRt : ROW.toList.take (i * k) = cs.take (i * k) := by
    rw [hROW, Array.toList_append, Array.toList_append, List.append_assoc]
    rw [List.take_append_of_le_length (by show i * k ≤ (cs.take (i * k)).length; omega)]
    show (cs.take (i * k)).take (i * k) = cs.take (i * k)
    rw [List.take_take, Nat.min_self]
  refine ⟨ROW, G, hGn, hGm, hRs, hRt, ?_⟩
  have hle2 : (n + m) * k ≤ G * k := Nat.mul_le_mul_right k hGn
  have hRl : (n + m) * k ≤ ROW.size := by omega
  obtain ⟨W1, hW1⟩ : ∃ W1, W1 = w.drew.alloc (.cells ROW 41) := ⟨_, rfl⟩
  rw [← hW1] at hrz
  have hN : ∀ j, j < (n + m) * k → (W1.cell? ⟨w.heap.size, j, none⟩).isSome = true := fun j hj => by
    rw [hW1, World.cell?_alloc_at (w := w.drew) ROW _ w.heap.size j rfl, Array.getElem?_eq_getElem (by omega)]; rfl
  have hNf : ∀ j, W1.frozen? ⟨w.heap.size, j, none⟩ = false := fun j => by rw [hW1]; exact World.frozen?_alloc_at (w := w.drew) ROW _ w.heap.size j rfl
  have hOb : ∀ j v, w.cell? ⟨b, j, none⟩ = some v → W1.cell? ⟨b, j, none⟩ = some v := fun j v h => by rw [hW1, World.cell?_alloc_past (w := w.drew) _ b j hbw]; exact h
  have hOv : ∀ j v, w.cell? ⟨vb, j, none⟩ = some v → W1.cell? ⟨vb, j, none⟩ = some v := fun j v h => by rw [hW1, World.cell?_alloc_past (w := w.drew) _ vb j hvw]; exact h
  have e1 : (n - i) * k + (i + m) * k = (n + m) * k := by rw [← Nat.add_mul]; congr 1; omega
  have e2 : (i * k) + m * k ≤ (n + m) * k := by rw [← Nat.add_mul]; exact Nat.mul_le_mul_right k (by omega)
  have hdl : (cs.drop (i * k)).length = (n - i) * k := by rw [List.length_drop, hcl, Nat.sub_mul]
  have hmin2 : Nat.min m (n + m - i) = m := by simp only [Nat.min_def]; split <;> omega
  have hmin1 : Nat.min (n - i) (n + m - (i + m)) = n - i := by simp only [Nat.min_def]; split <;> omega
  have hcpA : ∀ (W : World), (∀ x, W.cell? x = W1.cell? x) → (∀ x, W.frozen? x = W1.frozen? x) → ∀ ty dc, (Builtin.copy_ #[28, 28] ty #[.slice (some ⟨w.heap.size, i * k, none⟩) (n + m - i) dc, .slice (some ⟨vb, 0, none⟩) m vc]).run P W = .ok (goInt m) (W.setCells w.heap.size (i * k) vs) := fun W hWc hWf ty dc => by
    have := run_copy_k (P := P) W 28 28 ty 41 k w.heap.size (i * k) (n + m - i) dc ⟨vb, 0, none⟩ m vc vs tS hsz (by rw [hvl, hmin2])
      (fun j v hj => by rw [Addr.add_lit, hWc]; exact hOv _ v (hvs j v hj))
      (fun j hj => by rw [hWc]; exact hN _ (by omega)) (fun j hj => by rw [hWf]; exact hNf _) h1v
    rw [hmin2] at this
    exact this
  have hG63 : G ≤ 9223372036854775807 := by unfold maxLen at hGm; omega
  have hGi : ¬ (G = i) := by omega
  have hGim : ¬ (G = i + m) := by omega
  have hci : ¬ (c = i) := by omega
  have hbN : b ≠ w.heap.size := by omega
  have hcpB : ∀ (W : World), (∀ x, W.cell? x = (W1.setCells w.heap.size (i * k) vs).cell? x) → (∀ x, W.frozen? x = (W1.setCells w.heap.size (i * k) vs).frozen? x) → ∀ ty dc sc, (Builtin.copy_ #[28, 28] ty #[.slice (some ⟨w.heap.size, (i + m) * k, none⟩) (n + m - (i + m)) dc, .slice (some ⟨b, i * k, none⟩) (n - i) sc]).run P W = .ok (goInt (n - i : Nat)) (W.setCells w.heap.size ((i + m) * k) (cs.drop (i * k))) := fun W hWc hWf ty dc sc => by
    have := run_copy_k (P := P) W 28 28 ty 41 k w.heap.size ((i + m) * k) (n + m - (i + m)) dc ⟨b, i * k, none⟩ (n - i) sc (cs.drop (i * k)) tS hsz (by rw [hdl, hmin1])
      (fun j v hj => by
        rw [Addr.add_lit, hWc, World.cell?_setCells_out _ _ _ _ _ (fun h _ => absurd h hbN)]
        have := hcs (i * k + j) v (by rwa [List.getElem?_drop] at hj)
        rw [Nat.zero_add] at this
        exact hOb _ v this)
      (fun j hj => by rw [hWc]; exact isSome_setCells _ vs (i * k) W1 (fun t ht => hN _ (by omega)) _ (hN _ (by omega)))
      (fun j hj => by rw [hWf, World.frozen?_setCells]; exact hNf _) (fun v hv => h1c v (List.mem_of_mem_drop hv))
    rw [hmin1] at this
    exact this
  subst hW1
  have hE1 : ∀ x, ((w.alloc (.cells ROW 41)).drew).cell? x = (w.drew.alloc (.cells ROW 41)).cell? x := fun x => rfl
  have hE2 : ∀ x, ((w.alloc (.cells ROW 41)).drew).frozen? x = (w.drew.alloc (.cells ROW 41)).frozen? x := fun x => rfl
  have hF1 : ∀ x, (((w.alloc (.cells ROW 41)).drew.setCells w.heap.size (i * k) vs).drew).cell? x = ((w.drew.alloc (.cells ROW 41)).setCells w.heap.size (i * k) vs).cell? x := fun x => rfl
  have hF2 : ∀ x, (((w.alloc (.cells ROW 41)).drew.setCells w.heap.size (i * k) vs).drew).frozen? x = ((w.drew.alloc (.cells ROW 41)).setCells w.heap.size (i * k) vs).frozen? x := fun x => rfl
  have hw1 : IntKind.i64.wrap ((i : Int) + (m : Int)) = (i : Int) + (m : Int) := by rw [IntKind.wrap_i64]; omega
  have hb1 : (0 : Int) ≤ (i : Int) + (m : Int) := by omega
  have hin : i ≤ n := by omega
  have htn : ((i : Int) + (m : Int)).toNat = i + m := by omega
  have hb3 : (i : Int) ≤ (n : Int) := by omega
  clear hkk hik hold hROW hG hRl hRs hRt hcs hvs hN hNf hOb hOv hfit hfit2
  go_enter hf, Try.ntmps76
  go_wp2_with (first
    | (at_builtin; refine Lib.wpList_append_run _ rfl _ _ _ _ rfl _ _ rfl rfl _ _ (hrz _) ?_)
    | (at_builtin; refine wpList_copy_runI _ rfl _ _ 28 28 rfl _ _ rfl rfl (hcpA _ hE1 hE2 _ _) ?_)
    | (at_builtin; refine wpList_copy_runI _ rfl _ _ 28 28 rfl _ _ rfl rfl (hcpB _ (fun _ => rfl) (fun _ => rfl) _ _ _) ?_))
  go_region_law_o (refine step_copy_runI rfl _ _ 28 28 rfl (.slice (some ⟨w.heap.size, (i + m) * k, none⟩) (n + m - (i + m)) (G - (i + m))) (.slice (some ⟨b, i * k, none⟩) (n - i) (c - i)) (by simp [Act.eval, Act.put]) (by simp [Act.eval, Act.put]) (hcpB _ hF1 hF2 3 (G - (i + m)) (c - i)) ?_)
  go_wp2
  go_ret
  exact ⟨rfl, rfl⟩
theorem lay2 {A : Type} (C D vs cs : List A) (ik mk nk dk : Nat) (hC : C.take nk = cs) (hD : D = cs.drop ik) (hv : vs.length = mk) (hd : D.length = dk) (hi : ik ≤ nk) (hl : ik + mk + dk ≤ C.length) (hnk : nk ≤ C.length) :
    (((C.take (ik + mk) ++ D ++ C.drop (ik + mk + D.length)).take ik ++ vs ++ (C.take (ik + mk) ++ D ++ C.drop (ik + mk + D.length)).drop (ik + vs.length))).take (ik + mk + dk) = cs.take ik ++ vs ++ cs.drop ik := by
  have h1 : (C.take (ik + mk)).length = ik + mk := by rw [List.length_take]; omega
  have e1 : (C.take (ik + mk) ++ D ++ C.drop (ik + mk + D.length)).take ik = cs.take ik := by
    rw [List.append_assoc, List.take_append_of_le_length (by omega), List.take_take, Nat.min_eq_left (by omega), ← hC, List.take_take, Nat.min_eq_left hi]
  have e2 : (C.take (ik + mk) ++ D ++ C.drop (ik + mk + D.length)).drop (ik + vs.length) = D ++ C.drop (ik + mk + D.length) := by
    rw [List.append_assoc, hv, List.drop_append_of_le_length (by omega), List.drop_eq_nil_of_le (by omega), List.nil_append]
  rw [e1, e2, ← List.append_assoc, List.take_append_of_le_length, List.take_of_length_le, hD]
  · have : (cs.take ik).length = ik := by rw [List.length_take, ← hC, List.length_take]; omega
    simp only [List.length_append, this, hv, hd]
    omega
  · have : (cs.take ik).length = ik := by rw [List.length_take, ← hC, List.length_take]; omega
    simp only [List.length_append, this, hv, hd]
    omega
theorem lay3 {A : Type} (R D vs cs : List A) (ik mk nk dk : Nat) (hR : R.take ik = cs.take ik) (hcs : cs.length = nk) (hD : D = cs.drop ik) (hv : vs.length = mk) (hd : D.length = dk) (hi : ik ≤ nk) (hl : ik + mk + dk ≤ R.length) :
    ((R.take ik ++ vs ++ R.drop (ik + vs.length)).take (ik + mk) ++ D ++ (R.take ik ++ vs ++ R.drop (ik + vs.length)).drop (ik + mk + D.length)).take (ik + mk + dk) = cs.take ik ++ vs ++ cs.drop ik := by
  have h1 : (R.take ik).length = ik := by rw [List.length_take]; omega
  have h2 : (R.take ik ++ vs).length = ik + mk := by rw [List.length_append, h1, hv]
  have e1 : (R.take ik ++ vs ++ R.drop (ik + vs.length)).take (ik + mk) = cs.take ik ++ vs := by
    rw [List.take_append_of_le_length (by omega), List.take_of_length_le (by omega), hR]
  rw [e1, List.take_append_of_le_length, List.take_of_length_le, hD]
  · have : (cs.take ik).length = ik := by rw [← hR]; exact h1
    simp only [List.length_append, this, hv, hd]
    omega
  · have : (cs.take ik).length = ik := by rw [← hR]; exact h1
    simp only [List.length_append, this, hv, hd]
    omega
theorem at_block {w : World} {b n k : Nat} {cur : Array Value} {e : TypeId} {fz : Nat × Nat} {cs : List Value} (h : w.heap[b]? = some (.cells cur e fz)) (ht : cur.toList.take n = cs) : At w b 0 cs := by
  intro j v hj
  rw [Nat.zero_add]
  rw [← ht, List.getElem?_take] at hj
  split at hj
  · simp only [World.cell?, h]
    simpa using hj
  · cases hj
theorem walk {P : Program} {k : Nat} (hf : P.funcs[76]? = some Try.f76) (mixed : P.follows .mixedOrders = true) (t3 : P.underlying 3 = some (.int .i64)) (t4 : P.underlying 4 = some .bool) {ti : TI} (hg : Go.Abs.Good P 41 ti) (tS : P.underlying 28 = some (.slice 41))
    (hk : ti.siz = k) (hk0 : 0 < k) (hb : ti.byt ≤ 131072) (hza : ti.zer.t.alive = true)
    (hov0 : ∀ (w : World) (x y : Value), (callFunc 96 #[x, y]).run P w = Result.andThen ((Extern.SlicesOverlaps.overlaps #[28, 28] #[4] #[x, y]).run P w) (fun v w' => .ok (.value v) w')) : InsWalk P 76 41 k := by
  intro w L0 L1 n i m cs vs h0 h1 hne hi hm hfit hcl hvl h1c h1v
  have zE : ∀ w, (Go.sizeOf 41).run P w = .ok k w := fun w => by rw [← hk]; exact hg.size w
  obtain ⟨i0, hi0, hs0, hby0, hzz⟩ := hg.info
  obtain ⟨z, hz0, hzc, _⟩ := hzz hza
  have hsz : (P.info? 41).map (·.size) = some k := by rw [hi0]; simp [hs0, hk]
  -- what is laid in
  obtain ⟨g1, c1, cur1, e1, hb1, hcur1, htk1⟩ : ∃ g c cur, L1.hdr = .slice (some ⟨g, 0, none⟩) m c ∧ w.heap[g]? = some (.cells cur 41 (0, 0)) ∧ L1.loc = g ∧ cur.toList.take (m * k) = vs := by
    rcases h1 with ⟨ad, _, h, _⟩ | ⟨hb, _, ⟨h, h'⟩ | ⟨g, cap, cur, h, _, h2, _, _, _, h3⟩⟩
    · omega
    · omega
    · rw [h] at hb
      injection hb with hb
      exact ⟨g, cap, cur, h, h2, hb.symm, h3⟩
  have hvs : At w g1 0 vs := at_block (k := k) hb1 htk1
  have hy : (L1.hdr = .slice none 0 0 ∧ m = 0) ∨ ∃ ad c, L1.hdr = .slice ad m c ∧ (m = 0 ∨ ∃ b o, ad = some ⟨b, o, none⟩ ∧ At w b o vs) := .inr ⟨_, c1, e1, .inr ⟨g1, 0, rfl, hvs⟩⟩
  have atEnd' : ∀ (ad : Option Addr) (c : Nat), L0.hdr = .slice ad n c → n ≤ c → (ad = none → n = 0 ∧ c = 0) → i = n → Calls P 76 #[L0.hdr, .int .i64 i, L1.hdr] w fun e' w' => ∃ L', e' = .returned L'.hdr ∧ RowAt w' L' 41 k (n + m) (cs.take (i * k) ++ vs ++ cs.drop (i * k)) ∧ Grow (fun b => L0.hdr.ownBlock = some L0.loc ∧ b = L0.loc) w w' ∧
    (L'.hdr.ownBlock = some L'.loc → L'.loc < w'.heap.size ∧ ((L0.hdr.ownBlock = some L0.loc ∧ L'.loc = L0.loc) ∨ w.heap.size ≤ L'.loc)) ∧ L'.hdr.oneCell' = true := by
    intro ad c hh hnc hnil hin
    subst hin
    rw [← hk] at h0 hcl hvl
    have hra := fun ty => run_append (P := P) (ty := ty) tS hg (by omega) hb hza hcl h0 hy hvl h1v hfit
    obtain ⟨L, w', hr1, hr2, hr3, hr4, hr5⟩ := hra 28
    have hr1' : ∀ ty, (Builtin.append_ #[28, 28] ty #[.slice ad i c, .slice (some ⟨g1, 0, none⟩) m c1]).run P w = .ok L.hdr w' := fun ty => by
      rw [← hh, ← e1]
      exact hr1
    rw [hh, e1]
    refine Calls.mono (atEnd (k := k) hf mixed t3 t4 tS zE ad i c m c1 _ w w' L.hdr hm hnc hnil hr1') ?_
    rintro e' w'' ⟨rfl, rfl⟩
    rw [hk] at hr2 hcl
    rw [List.take_of_length_le (by omega), List.drop_eq_nil_of_le (by omega), List.append_nil]
    rw [hh] at hr3 hr4
    exact ⟨L, rfl, hr2, hr3, hr4, hr5⟩
  have h00 := h0
  rcases h0 with ⟨ad, hh, hn0, _⟩ | ⟨hob, hlen0, ⟨hh, hn0⟩ | ⟨g, cap, cur, hh, _, hcell, hnc, hcm, hcs, htk⟩⟩
  · subst hn0
    cases ad with
    | none => exact atEnd' none 0 hh (Nat.le_refl _) (fun _ => ⟨rfl, rfl⟩) (by omega)
    | some a => exact atEnd' (some a) 0 hh (Nat.le_refl _) (fun h => by cases h) (by omega)
  · rw [hh] at hob
    cases hob
  · by_cases hin : i = n
    · exact atEnd' _ cap hh hnc (fun h => by cases h) hin
    have hlt : i < n := by omega
    have hloc : L0.loc = g := by rw [hh] at hob; injection hob with hob; exact hob.symm
    have hcsat : At w g 0 cs := at_block (k := k) hcell htk
    have hgg : g1 ≠ g := by
      intro e
      refine hne hob (by rw [e1, hcur1]; rfl) ?_
      rw [hloc, hcur1, e]
    have hcurl : cur.toList.length = cap * k := by simpa using hcs
    have hik : i * k ≤ n * k := Nat.mul_le_mul_right k hi
    have hdl : (cs.drop (i * k)).length = (n - i) * k := by rw [List.length_drop, hcl, Nat.sub_mul]
    have hsum : i * k + m * k + (n - i) * k = (n + m) * k := by rw [← Nat.add_mul, ← Nat.add_mul]; congr 1; omega
    rw [hh, e1]
    by_cases hroom : n + m ≤ cap
    · refine Calls.mono (shift hf mixed t3 t4 tS zE hsz hov0 g n cap i g1 m c1 cs vs w hlt hm hroom (by unfold maxLen at hcm; omega) hgg hk0 hcell hb1 hcs hcl hvl hcsat hvs h1c h1v) ?_
      rintro e' w' ⟨rfl, rfl⟩
      have hle : (n + m) * k ≤ cap * k := Nat.mul_le_mul_right k hroom
      have hnk : n * k ≤ cap * k := Nat.mul_le_mul_right k hnc
      obtain ⟨c', q1, q2, q3⟩ := setCells_heap (b := g) (cs.drop (i * k)) ((i + m) * k) w.drew cur hcell (by rw [hdl, Nat.add_mul]; omega)
      obtain ⟨c'', r1, r2, r3⟩ := setCells_heap (b := g) vs (i * k) (w.drew.setCells g ((i + m) * k) (cs.drop (i * k))) c' q1 (by rw [q2, hcs, hvl]; omega)
      refine ⟨⟨g, .slice (some ⟨g, 0, none⟩) (n + m) cap⟩, rfl, .inr ⟨rfl, ?_, .inr ⟨g, cap, c'', rfl, Nat.zero_le _, r1, hroom, hcm, by rw [r2, q2, hcs], ?_⟩⟩, ?_, ?_, rfl⟩
      · rw [List.length_append, List.length_append, hdl, hvl, List.length_take, hcl, Nat.min_eq_left hik]; exact hsum
      · rw [r3, q3, Nat.add_mul i m k]
        have := lay2 cur.toList (cs.drop (i * k)) vs cs (i * k) (m * k) (n * k) ((n - i) * k) htk rfl hvl hdl hik (by rw [hcurl]; omega) (by rw [hcurl]; omega)
        rw [hsum] at this
        exact this
      · have hgr : Grow (fun x => x = g) w ((w.drew.setCells g ((i + m) * k) (cs.drop (i * k))).setCells g (i * k) vs) :=
          Grow.trans (b := w.drew) (Grow.drew w) (Grow.trans (setCells_grow g _ _ _) (setCells_grow g _ _ _) (fun _ _ h => h)) (fun _ _ h => h)
        exact ⟨hgr.os, hgr.tape, hgr.output, hgr.size, fun x hx hn => hgr.block x hx (fun e => hn ⟨by rw [← hh]; exact hob, by rw [hloc]; exact e⟩)⟩
      · intro _
        refine ⟨(Array.getElem?_eq_some_iff.1 r1).1, .inl ⟨by rw [← hh]; exact hob, hloc.symm⟩⟩
    · obtain ⟨ROW, G, hG1, hG2, hG3, hG4, hc⟩ := grow hf mixed t3 t4 tS zE hi0 hz0 (by rw [hs0, hk]) (by rw [hzc, hk]) (by rw [hby0]; exact hb) hk0 g n cap i g1 m c1 cs vs w hlt hm hnc (by omega) hfit hcl hvl hcsat hvs h1c h1v
      refine Calls.mono hc ?_
      rintro e' w' ⟨rfl, rfl⟩
      have hRl : ROW.toList.length = G * k := by simpa using hG3
      have hle : (n + m) * k ≤ G * k := Nat.mul_le_mul_right k hG1
      have hnew : (w.alloc (.cells ROW 41)).drew.heap[w.heap.size]? = some (.cells ROW 41 (0, 0)) := heap_alloc_new w _
      obtain ⟨c', q1, q2, q3⟩ := setCells_heap (b := w.heap.size) vs (i * k) (w.alloc (.cells ROW 41)).drew ROW hnew (by rw [hvl]; omega)
      obtain ⟨c'', r1, r2, r3⟩ := setCells_heap (b := w.heap.size) (cs.drop (i * k)) ((i + m) * k) ((w.alloc (.cells ROW 41)).drew.setCells w.heap.size (i * k) vs).drew c' q1 (by rw [q2, hG3, hdl, Nat.add_mul]; omega)
      refine ⟨⟨w.heap.size, .slice (some ⟨w.heap.size, 0, none⟩) (n + m) G⟩, rfl, .inr ⟨rfl, ?_, .inr ⟨w.heap.size, G, c'', rfl, Nat.zero_le _, r1, hG1, hG2, by rw [r2, q2, hG3], ?_⟩⟩, ?_, ?_, rfl⟩
      · rw [List.length_append, List.length_append, hdl, hvl, List.length_take, hcl, Nat.min_eq_left hik]; exact hsum
      · rw [r3, q3, Nat.add_mul i m k]
        have := lay3 ROW.toList (cs.drop (i * k)) vs cs (i * k) (m * k) (n * k) ((n - i) * k) hG4 hcl rfl hvl hdl hik (by rw [hRl]; omega)
        rw [hsum] at this
        exact this
      · have hgr : Grow (fun x => x = w.heap.size) w (((w.alloc (.cells ROW 41)).drew.setCells w.heap.size (i * k) vs).drew.setCells w.heap.size ((i + m) * k) (cs.drop (i * k))) :=
          Grow.trans (b := (w.alloc (.cells ROW 41)).drew) ⟨rfl, rfl, rfl, by simp, fun x hx _ => alloc_kept w _ x hx⟩
            (Grow.trans (setCells_grow _ _ _ _) (Grow.trans (Grow.drew _) (setCells_grow _ _ _ _) (fun _ _ h => h)) (fun _ _ h => h)) (fun _ _ h => h)
        exact ⟨hgr.os, hgr.tape, hgr.output, hgr.size, fun x hx hn => hgr.block x hx (fun e => by have : x = w.heap.size := e; omega)⟩
      · intro _
        exact ⟨(Array.getElem?_eq_some_iff.1 r1).1, .inr (Nat.le_refl _)⟩
end Go.Proofs.Ytimgaglpempfeaa.Ins76
set_option maxRecDepth 100000
namespace Go.Proofs.Ytimgaglpempfeaa.AA
open Go.Abs
/-- How many cells a thing of a type has. -/
abbrev WT (e : Nat) : Nat := match Abs.look TB e with
  | some i => i.ty.width
  | none => 0
theorem mixed : PP.follows .mixedOrders = true := by kernel_rfl
theorem tabOK : TabOK PP TB := tabIs_ok (by kernel_rfl)
theorem enters76 : Abs.Enters PP 76 := ⟨Try.f76, Try.func76, by kernel_rfl, names_ok (by kernel_rfl) _ _ Try.func76⟩
theorem walk76 : InsWalk PP 76 41 (WT 41) := Ins76.walk Try.func76 mixed Try.underlying3 Try.underlying4 (tabOK 41 _ rfl) Try.underlying28 rfl (by decide) (by decide) rfl fun w x y => run_callFunc_extern Try.func96 (by kernel_rfl) (by kernel_rfl) (by kernel_rfl) (e := Extern.SlicesOverlaps.overlaps #[28, 28] #[4]) (by kernel_rfl) #[x, y] w
theorem prims : PrimsOK PP RR := by
  intro f c hc
  unfold RR at hc
  by_cases h76 : f = 76
  · rw [if_pos h76] at hc
    injection hc with hc
    subst hc; subst h76
    exact insP_ok enters76 walk76
  rw [if_neg h76] at hc
  cases hc
theorem fits : Fits PP TT RR := ⟨mixed, tabOK, names_ok (by kernel_rfl), prims⟩
end Go.Proofs.Ytimgaglpempfeaa.AA
set_option maxRecDepth 100000
set_option linter.unusedVariables false
namespace Go.Proofs.Ytimgaglpempfeaa.AA
open Go.Abs
noncomputable def law25_TreeIs (a0 : den (.list tapiNode)) (a1 : den (.int .i64)) : Option (den .bool) := CF 3 [⟨(.list tapiNode), a0⟩, ⟨(.int .i64), a1⟩] [] .bool []
noncomputable def law25_TreeHas (a0 : den (.list tapiPair)) : Option (den .bool) := CF 4 [⟨(.list tapiPair), a0⟩] [] .bool []
noncomputable def law26_PathRuns (a0 : den (.list tapiPair)) (a1 : den (.int .i64)) (a2 : den .str) : Option (den .bool) := CF 5 [⟨(.list tapiPair), a0⟩, ⟨(.int .i64), a1⟩, ⟨.str, a2⟩] [] .bool []
noncomputable def law26_PathRuns.j0 (x0 : den (.list tapiPair)) (x1 : den (.int .i64)) (x2 : den .str) (x3 : den .bool) (x4 : den (.int .i64)) (x5 : den (.int .i64)) (x6 : den .bool) (x7 : denO (.box tapiPair)) : Option (den .bool) := jnO [1, 1, 1, 1, 1, 0, 1] (BF (R := den .bool) 5 0 [1, 1, 1, 1, 1, 0, 1]) ⟨[(0, ⟨(.list tapiPair), x0⟩), (1, ⟨(.int .i64), x1⟩), (2, ⟨.str, x2⟩), (9, ⟨(.ptr 0 0), ()⟩), (10, ⟨.bool, x3⟩), (11, ⟨(.int .i64), x4⟩), (12, ⟨(.int .i64), x5⟩), (42, ⟨.bool, x6⟩)], [⟨(.box tapiPair), x7⟩]⟩ (seqK false [1, 1, 1, 1, 1, 1] (BF 5 0 [1, 1, 1, 1, 1, 1]) (finF 5 .bool [] 0))
noncomputable def law26_PathRefuses (a0 : den (.list tapiNode)) (a1 : den (.int .i64)) (a2 : den .str) : Option (den .bool) := CF 6 [⟨(.list tapiNode), a0⟩, ⟨(.int .i64), a1⟩, ⟨.str, a2⟩] [] .bool []
noncomputable def law26_PathFeeds (a0 : den (.list tapiPair)) (a1 : den (.int .u8)) (a2 : den .str) : Option (den .bool) := CF 7 [⟨(.list tapiPair), a0⟩, ⟨(.int .u8), a1⟩, ⟨.str, a2⟩] [] .bool []
noncomputable def law26_PathFeeds.l0 (x0 : den (.list tapiPair)) (x1 : den .str) (x2 : den (.list tapiNode)) (x3 : den (.int .i64)) (x4 : den (.int .i64)) (x5 : denO (.box tpathPath)) : Option (den .bool) := loopW [1, 1, 1, 1, 1, 1, 1, 0, 1, 0, 0] (BF (R := den .bool) 7 0 [1, 1, 1, 1, 1, 1, 1, 0, 1, 0, 0]) ⟨[(0, ⟨(.list tapiPair), x0⟩), (2, ⟨.str, x1⟩), (7, ⟨(.list tapiNode), x2⟩), (9, ⟨(.int .i64), x3⟩), (10, ⟨(.ptr 0 0), ()⟩), (11, ⟨(.int .i64), x4⟩)], [⟨(.box tpathPath), x5⟩]⟩ (blockK 0 (seqK false [1, 1, 1, 1, 1, 1, 1, 1] (BF 7 0 [1, 1, 1, 1, 1, 1, 1, 1]) (finF 7 .bool [] 0)))
noncomputable def law26_PathFeeds.j1 (x0 : den (.list tapiPair)) (x1 : den .str) (x2 : den (.list tapiNode)) (x3 : den (.int .i64)) (x4 : den (.int .i64)) (x5 : den (.int .i64)) (x6 : den .bool) (x7 : denO (.box tpathPath)) : Option (den .bool) := jnO [1, 1, 1, 1, 1, 1, 1, 0, 1, 0, 0, 1, 0, 0, 1, 1, 0, 1] (BF (R := den .bool) 7 0 [1, 1, 1, 1, 1, 1, 1, 0, 1, 0, 0, 1, 0, 0, 1, 1, 0, 1]) ⟨[(0, ⟨(.list tapiPair), x0⟩), (2, ⟨.str, x1⟩), (7, ⟨(.list tapiNode), x2⟩), (9, ⟨(.int .i64), x3⟩), (10, ⟨(.ptr 0 0), ()⟩), (11, ⟨(.int .i64), x4⟩), (12, ⟨(.int .i64), x5⟩), (71, ⟨.bool, x6⟩)], [⟨(.box tpathPath), x7⟩]⟩ (seqK false [1, 1, 1, 1, 1, 1, 1, 0, 1, 0, 0, 1, 0, 0, 1, 1, 1] (BF 7 0 [1, 1, 1, 1, 1, 1, 1, 0, 1, 0, 0, 1, 0, 0, 1, 1, 1]) (blockK 1 (seqK false [1, 1, 1, 1, 1, 1, 1, 0, 1, 0, 0, 1, 1] (BF 7 0 [1, 1, 1, 1, 1, 1, 1, 0, 1, 0, 0, 1, 1]) (againK [1, 1, 1, 1, 1, 1, 1, 0, 1, 0, 0] (loopW [1, 1, 1, 1, 1, 1, 1, 0, 1, 0, 0] (BF 7 0 [1, 1, 1, 1, 1, 1, 1, 0, 1, 0, 0])) (blockK 0 (seqK false [1, 1, 1, 1, 1, 1, 1, 1] (BF 7 0 [1, 1, 1, 1, 1, 1, 1, 1]) (finF 7 .bool [] 0)))))))
noncomputable def law26_PathAll (a0 : den (.list tapiPair)) : Option (den .bool) := CF 8 [⟨(.list tapiPair), a0⟩] [] .bool []
noncomputable def law26_PathAll.l0 (x0 : den (.list tapiNode)) (x1 : den (.int .i64)) (x2 : den (.list tapiPair)) (x3 : den .bool) (x4 : denO (.box tapiPair)) (x5 : denO (.row 41 tapiPair false)) : Option (den .bool) := loopW [1, 1, 1, 1, 1, 1, 1, 1, 0, 0, 0] (BF (R := den .bool) 8 0 [1, 1, 1, 1, 1, 1, 1, 1, 0, 0, 0]) ⟨[(3, ⟨(.list tapiNode), x0⟩), (4, ⟨(.int .i64), x1⟩), (5, ⟨(.list tapiPair), x2⟩), (6, ⟨(.ptr 0 0), ()⟩), (7, ⟨.bool, x3⟩), (10, ⟨(.own tapiPair 1), ()⟩)], [⟨(.box tapiPair), x4⟩, ⟨(.row 41 tapiPair false), x5⟩]⟩ (blockK 0 (seqK false [1, 1, 1, 1, 1, 1, 1, 1, 1] (BF 8 0 [1, 1, 1, 1, 1, 1, 1, 1, 1]) (finF 8 .bool [] 0)))
noncomputable def law17_Few (a0 : den (.list tapiNode)) : Option (den (.list tapiNode)) := CF 9 [⟨(.list tapiNode), a0⟩] [] (.list tapiNode) []
noncomputable def law17_Few.l0 (x0 : den (.list tapiNode)) (x1 : den (.int .i64)) (x2 : den (.int .i64)) (x3 : denO (.row 57 tapiNode false)) : Option (den (.list tapiNode)) := loopW [1, 1, 0, 1, 0, 0] (BF (R := den (.list tapiNode)) 9 0 [1, 1, 0, 1, 0, 0]) ⟨[(0, ⟨(.list tapiNode), x0⟩), (3, ⟨(.own tapiNode 0), ()⟩), (4, ⟨(.int .i64), x1⟩), (5, ⟨(.int .i64), x2⟩)], [⟨(.row 57 tapiNode false), x3⟩]⟩ (blockK 0 (seqK false [1, 1, 1] (BF 9 0 [1, 1, 1]) (finF 9 (.list tapiNode) [] 0)))
noncomputable def law17_Few.j1 (x0 : den (.list tapiNode)) (x1 : den (.int .i64)) (x2 : den (.int .i64)) (x3 : den .bool) (x4 : denO (.row 57 tapiNode false)) : Option (den (.list tapiNode)) := jnO [1, 1, 0, 1, 0, 0, 0, 1] (BF (R := den (.list tapiNode)) 9 0 [1, 1, 0, 1, 0, 0, 0, 1]) ⟨[(0, ⟨(.list tapiNode), x0⟩), (3, ⟨(.own tapiNode 0), ()⟩), (4, ⟨(.int .i64), x1⟩), (5, ⟨(.int .i64), x2⟩), (15, ⟨.bool, x3⟩)], [⟨(.row 57 tapiNode false), x4⟩]⟩ (seqK false [1, 1, 0, 1, 0, 0, 1] (BF 9 0 [1, 1, 0, 1, 0, 0, 1]) (againK [1, 1, 0, 1, 0, 0] (loopW [1, 1, 0, 1, 0, 0] (BF 9 0 [1, 1, 0, 1, 0, 0])) (blockK 0 (seqK false [1, 1, 1] (BF 9 0 [1, 1, 1]) (finF 9 (.list tapiNode) [] 0)))))
noncomputable def tree_Is (a0 : den (.list tapiNode)) (a1 : den (.int .i64)) : Option (den .bool) := CF 10 [⟨(.list tapiNode), a0⟩, ⟨(.int .i64), a1⟩] [] .bool []
noncomputable def ref25_Is (a0 : den (.list tapiNode)) (a1 : den (.int .i64)) : Option (den .bool) := CF 11 [⟨(.list tapiNode), a0⟩, ⟨(.int .i64), a1⟩] [] .bool []
noncomputable def law25_works  : Option (den .bool) := CF 12 [] [] .bool []
noncomputable def law07_Few (a0 : den (.list tapiPair)) : Option (den (.list tapiPair)) := CF 13 [⟨(.list tapiPair), a0⟩] [] (.list tapiPair) []
noncomputable def law07_Few.l0 (x0 : den (.list tapiPair)) (x1 : den (.int .i64)) (x2 : denO (.row 41 tapiPair false)) : Option (den (.list tapiPair)) := loopW [1, 1, 0, 1, 0, 0] (BF (R := den (.list tapiPair)) 13 0 [1, 1, 0, 1, 0, 0]) ⟨[(0, ⟨(.list tapiPair), x0⟩), (3, ⟨(.own tapiPair 0), ()⟩), (4, ⟨(.int .i64), x1⟩)], [⟨(.row 41 tapiPair false), x2⟩]⟩ (blockK 0 (seqK false [1, 1, 1] (BF 13 0 [1, 1, 1]) (finF 13 (.list tapiPair) [] 0)))
noncomputable def law07_Few.j1 (x0 : den (.list tapiPair)) (x1 : den (.int .i64)) (x2 : den .bool) (x3 : denO (.row 41 tapiPair false)) : Option (den (.list tapiPair)) := jnO [1, 1, 0, 1, 0, 0, 0, 1] (BF (R := den (.list tapiPair)) 13 0 [1, 1, 0, 1, 0, 0, 0, 1]) ⟨[(0, ⟨(.list tapiPair), x0⟩), (3, ⟨(.own tapiPair 0), ()⟩), (4, ⟨(.int .i64), x1⟩), (13, ⟨.bool, x2⟩)], [⟨(.row 41 tapiPair false), x3⟩]⟩ (seqK false [1, 1, 0, 1, 0, 0, 1] (BF 13 0 [1, 1, 0, 1, 0, 0, 1]) (againK [1, 1, 0, 1, 0, 0] (loopW [1, 1, 0, 1, 0, 0] (BF 13 0 [1, 1, 0, 1, 0, 0])) (blockK 0 (seqK false [1, 1, 1] (BF 13 0 [1, 1, 1]) (finF 13 (.list tapiPair) [] 0)))))
noncomputable def tree_Make (a0 : den (.list tapiPair)) : Option (den (.tcons (.list tapiNode) (.tcons (.int .i64) (.tcons (.int .i64) .tnil)))) := CF 14 [⟨(.list tapiPair), a0⟩] [] (.tcons (.list tapiNode) (.tcons (.int .i64) (.tcons (.int .i64) .tnil))) []
noncomputable def tree_Make.l0 (x0 : den (.list tapiPair)) (x1 : den (.list tapiPair)) (x2 : den (.int .i64)) (x3 : den (.int .i64)) : Option (den (.tcons (.list tapiNode) (.tcons (.int .i64) (.tcons (.int .i64) .tnil)))) := loopW [1, 1, 0, 1, 0, 0] (BF (R := den (.tcons (.list tapiNode) (.tcons (.int .i64) (.tcons (.int .i64) .tnil)))) 14 0 [1, 1, 0, 1, 0, 0]) ⟨[(0, ⟨(.list tapiPair), x0⟩), (12, ⟨(.list tapiPair), x1⟩), (13, ⟨(.int .i64), x2⟩), (14, ⟨(.int .i64), x3⟩)], []⟩ (blockK 0 (seqK false [1, 1, 1] (BF 14 0 [1, 1, 1]) (finF 14 (.tcons (.list tapiNode) (.tcons (.int .i64) (.tcons (.int .i64) .tnil))) [] 0)))
noncomputable def ref20_Long (a0 : den (.list tapiPair)) : Option (den .bool) := CF 15 [⟨(.list tapiPair), a0⟩] [] .bool []
noncomputable def ref20_Long.l0 (x0 : den (.list tapiPair)) (x1 : den (.int .i64)) : Option (den .bool) := loopW [1, 1, 0, 1, 0, 0] (BF (R := den .bool) 15 0 [1, 1, 0, 1, 0, 0]) ⟨[(3, ⟨(.list tapiPair), x0⟩), (4, ⟨(.int .i64), x1⟩)], []⟩ (blockK 0 (seqK false [1, 1, 1] (BF 15 0 [1, 1, 1]) (finF 15 .bool [] 0)))
noncomputable def ref17_Binds (a0 : den (.list tapiNode)) (a1 : den (.int .i64)) : Option (den (.list tapiPair)) := CF 17 [⟨(.list tapiNode), a0⟩, ⟨(.int .i64), a1⟩] [] (.list tapiPair) []
noncomputable def ref17_Binds.l0 (x0 : den (.list tapiNode)) (x1 : den (.list (.int .i64))) (x2 : den (.int .i64)) (x3 : denO (.row 41 tapiPair false)) : Option (den (.list tapiPair)) := loopW [1, 1, 1, 1, 1, 1, 1, 0, 1, 0, 0] (BF (R := den (.list tapiPair)) 17 0 [1, 1, 1, 1, 1, 1, 1, 0, 1, 0, 0]) ⟨[(0, ⟨(.list tapiNode), x0⟩), (5, ⟨(.own tapiPair 0), ()⟩), (7, ⟨(.list (.int .i64)), x1⟩), (8, ⟨(.int .i64), x2⟩)], [⟨(.row 41 tapiPair false), x3⟩]⟩ (blockK 0 (seqK false [1, 1, 1, 1, 1, 1, 1, 1] (BF 17 0 [1, 1, 1, 1, 1, 1, 1, 1]) (finF 17 (.list tapiPair) [] 0)))
noncomputable def ref07_Make (a0 : den (.list tapiPair)) : Option (den (.list tapiPair)) := CF 18 [⟨(.list tapiPair), a0⟩] [] (.list tapiPair) []
noncomputable def ref07_Make.l0 (x0 : den (.list tapiPair)) (x1 : den (.int .i64)) (x2 : denO (.row 41 tapiPair false)) : Option (den (.list tapiPair)) := loopW [1, 1, 0, 1, 0, 0] (BF (R := den (.list tapiPair)) 18 0 [1, 1, 0, 1, 0, 0]) ⟨[(0, ⟨(.list tapiPair), x0⟩), (3, ⟨(.own tapiPair 0), ()⟩), (4, ⟨(.int .i64), x1⟩)], [⟨(.row 41 tapiPair false), x2⟩]⟩ (blockK 0 (seqK false [1, 1, 1] (BF 18 0 [1, 1, 1]) (finF 18 (.list tapiPair) [] 0)))
noncomputable def ref07_Make.l1 (x0 : den (.list tapiPair)) (x1 : den (.int .i64)) (x2 : den (.int .i64)) (x3 : denO (.row 41 tapiPair false)) : Option (den (.list tapiPair)) := loopW [1, 1, 0, 1, 0, 0, 1, 0, 0, 1, 1, 0, 0, 0] (BF (R := den (.list tapiPair)) 18 0 [1, 1, 0, 1, 0, 0, 1, 0, 0, 1, 1, 0, 0, 0]) ⟨[(0, ⟨(.list tapiPair), x0⟩), (3, ⟨(.own tapiPair 0), ()⟩), (4, ⟨(.int .i64), x1⟩), (5, ⟨(.int .i64), x2⟩)], [⟨(.row 41 tapiPair false), x3⟩]⟩ (blockK 2 (seqK false [1, 1, 0, 1, 0, 0, 1, 0, 0, 1, 1, 1] (BF 18 0 [1, 1, 0, 1, 0, 0, 1, 0, 0, 1, 1, 1]) (blockK 1 (seqK false [1, 1, 0, 1, 0, 0, 1, 1] (BF 18 0 [1, 1, 0, 1, 0, 0, 1, 1]) (againK [1, 1, 0, 1, 0, 0] (loopW [1, 1, 0, 1, 0, 0] (BF 18 0 [1, 1, 0, 1, 0, 0])) (blockK 0 (seqK false [1, 1, 1] (BF 18 0 [1, 1, 1]) (finF 18 (.list tapiPair) [] 0))))))))
noncomputable def ref07_Make.j2 (x0 : den (.list tapiPair)) (x1 : den (.int .i64)) (x2 : den (.int .i64)) (x3 : den .bool) (x4 : denO (.row 41 tapiPair false)) : Option (den (.list tapiPair)) := jnO [1, 1, 0, 1, 0, 0, 1, 0, 0, 1, 1, 0, 0, 0, 0, 1] (BF (R := den (.list tapiPair)) 18 0 [1, 1, 0, 1, 0, 0, 1, 0, 0, 1, 1, 0, 0, 0, 0, 1]) ⟨[(0, ⟨(.list tapiPair), x0⟩), (3, ⟨(.own tapiPair 0), ()⟩), (4, ⟨(.int .i64), x1⟩), (5, ⟨(.int .i64), x2⟩), (33, ⟨.bool, x3⟩)], [⟨(.row 41 tapiPair false), x4⟩]⟩ (seqK false [1, 1, 0, 1, 0, 0, 1, 0, 0, 1, 1, 0, 0, 0, 1] (BF 18 0 [1, 1, 0, 1, 0, 0, 1, 0, 0, 1, 1, 0, 0, 0, 1]) (againK [1, 1, 0, 1, 0, 0, 1, 0, 0, 1, 1, 0, 0, 0] (loopW [1, 1, 0, 1, 0, 0, 1, 0, 0, 1, 1, 0, 0, 0] (BF 18 0 [1, 1, 0, 1, 0, 0, 1, 0, 0, 1, 1, 0, 0, 0])) (blockK 2 (seqK false [1, 1, 0, 1, 0, 0, 1, 0, 0, 1, 1, 1] (BF 18 0 [1, 1, 0, 1, 0, 0, 1, 0, 0, 1, 1, 1]) (blockK 1 (seqK false [1, 1, 0, 1, 0, 0, 1, 1] (BF 18 0 [1, 1, 0, 1, 0, 0, 1, 1]) (againK [1, 1, 0, 1, 0, 0] (loopW [1, 1, 0, 1, 0, 0] (BF 18 0 [1, 1, 0, 1, 0, 0])) (blockK 0 (seqK false [1, 1, 1] (BF 18 0 [1, 1, 1]) (finF 18 (.list tapiPair) [] 0))))))))))
noncomputable def ref07_Same (a0 : den (.list tapiPair)) (a1 : den (.list tapiPair)) : Option (den .bool) := CF 16 [⟨(.list tapiPair), a0⟩, ⟨(.list tapiPair), a1⟩] [] .bool []
noncomputable def ref07_Same.l0 (x0 : den (.list tapiPair)) (x1 : den (.list tapiPair)) (x2 : den (.int .i64)) : Option (den .bool) := loopW [1, 1, 0, 1, 0, 0] (BF (R := den .bool) 16 0 [1, 1, 0, 1, 0, 0]) ⟨[(0, ⟨(.list tapiPair), x0⟩), (1, ⟨(.list tapiPair), x1⟩), (5, ⟨(.int .i64), x2⟩)], []⟩ (blockK 0 (seqK false [1, 1, 1] (BF 16 0 [1, 1, 1]) (finF 16 .bool [] 0)))
noncomputable def tree_Depth (a0 : den (.list tapiPair)) : Option (den (.int .i64)) := CF 19 [⟨(.list tapiPair), a0⟩] [] (.int .i64) []
noncomputable def base_Cut (a0 : den .str) (a1 : den (.int .i64)) : Option (den .str) := CF 20 [⟨.str, a0⟩, ⟨(.int .i64), a1⟩] [] .str []
noncomputable def law26_works  : Option (den .bool) := CF 21 [] [] .bool []
noncomputable def ref25_Make (a0 : den (.list tapiPair)) : Option (den (.tcons (.list tapiNode) (.tcons (.int .i64) .tnil))) := CF 22 [⟨(.list tapiPair), a0⟩] [] (.tcons (.list tapiNode) (.tcons (.int .i64) .tnil)) []
noncomputable def path_Run (a0 : den (.list tapiNode)) (a1 : den (.int .i64)) (a2 : den (.int .i64)) (a3 : den .str) : Option (den (.tcons tapiPair (.tcons .bool (.tcons (.int .i64) (.tcons (.int .i64) .tnil))))) := CF 23 [⟨(.list tapiNode), a0⟩, ⟨(.int .i64), a1⟩, ⟨(.int .i64), a2⟩, ⟨.str, a3⟩] [] (.tcons tapiPair (.tcons .bool (.tcons (.int .i64) (.tcons (.int .i64) .tnil)))) []
noncomputable def path_Run.l0 (x0 : den (.list tapiNode)) (x1 : den (.int .i64)) (x2 : denO (.box tapiPair)) (x3 : denO (.box tpathPath)) : Option (den (.tcons tapiPair (.tcons .bool (.tcons (.int .i64) (.tcons (.int .i64) .tnil))))) := loopW [1, 1, 1, 1, 0, 0, 0] (BF (R := den (.tcons tapiPair (.tcons .bool (.tcons (.int .i64) (.tcons (.int .i64) .tnil))))) 23 0 [1, 1, 1, 1, 0, 0, 0]) ⟨[(0, ⟨(.list tapiNode), x0⟩), (8, ⟨(.ptr 0 0), ()⟩), (12, ⟨(.ptr 1 0), ()⟩), (13, ⟨(.int .i64), x1⟩)], [⟨(.box tapiPair), x2⟩, ⟨(.box tpathPath), x3⟩]⟩ (blockK 1 (seqK false [1, 1, 1, 1, 1] (BF 23 0 [1, 1, 1, 1, 1]) (finF 23 (.tcons tapiPair (.tcons .bool (.tcons (.int .i64) (.tcons (.int .i64) .tnil)))) [] 0)))
noncomputable def ref26_Answer (a0 : den (.list tapiPair)) (a1 : den (.int .i64)) (a2 : den .str) : Option (den (.tcons tapiPair (.tcons .bool .tnil))) := CF 24 [⟨(.list tapiPair), a0⟩, ⟨(.int .i64), a1⟩, ⟨.str, a2⟩] [] (.tcons tapiPair (.tcons .bool .tnil)) []
noncomputable def ref25_Depth (a0 : den (.list tapiPair)) : Option (den (.int .i64)) := CF 25 [⟨(.list tapiPair), a0⟩] [] (.int .i64) []
noncomputable def path_New (a0 : den (.int .i64)) (a1 : den (.int .i64)) (a2 : den .str) : Option (denR (.ptr 0 0) [(.box tpathPath)]) := CF 26 [⟨(.int .i64), a0⟩, ⟨(.int .i64), a1⟩, ⟨.str, a2⟩] [] (.ptr 0 0) [(.box tpathPath)]
noncomputable def path_Path_Want (a0 : denO (.box tpathPath)) : Option (denR (.int .i64) [(.box tpathPath)]) := CF 27 [⟨(.ptr 0 0), ()⟩] [⟨(.box tpathPath), a0⟩] (.int .i64) [(.box tpathPath)]
noncomputable def path_Path_Answer (a0 : denO (.box tpathPath)) : Option (denR (.tcons tapiPair (.tcons .bool .tnil)) [(.box tpathPath)]) := CF 28 [⟨(.ptr 0 0), ()⟩] [⟨(.box tpathPath), a0⟩] (.tcons tapiPair (.tcons .bool .tnil)) [(.box tpathPath)]
noncomputable def node_Tree (a0 : den .str) (a1 : den .str) (a2 : den (.int .i64)) (a3 : den (.int .i64)) (a4 : den (.int .i64)) : Option (den tapiNode) := CF 30 [⟨.str, a0⟩, ⟨.str, a1⟩, ⟨(.int .i64), a2⟩, ⟨(.int .i64), a3⟩, ⟨(.int .i64), a4⟩] [] tapiNode []
noncomputable def path_Path_Feed (a0 : den tapiNode) (a1 : denO (.box tpathPath)) : Option (denR .tnil [(.box tpathPath)]) := CF 29 [⟨(.ptr 0 0), ()⟩, ⟨tapiNode, a0⟩] [⟨(.box tpathPath), a1⟩] .tnil [(.box tpathPath)]
noncomputable def path_Path_Feed.j0 (x0 : den .bool) (x1 : denO (.box tpathPath)) (x2 : denO (.box tapiNode)) : Option (denR .tnil [(.box tpathPath)]) := jnO [1, 1, 1, 0, 1] (BF (R := denR .tnil [(.box tpathPath)]) 29 1 [1, 1, 1, 0, 1]) ⟨[(0, ⟨(.ptr 0 0), ()⟩), (3, ⟨(.ptr 1 0), ()⟩), (21, ⟨.bool, x0⟩)], [⟨(.box tpathPath), x1⟩, ⟨(.box tapiNode), x2⟩]⟩ (seqK false [1, 1, 1, 1] (BF 29 1 [1, 1, 1, 1]) (finF 29 .tnil [(.box tpathPath)] 1))
noncomputable def path_Path_Feed_o (a0 : den tapiNode) : Option (den .tnil) := CF 29 [⟨.nilptr, ()⟩, ⟨tapiNode, a0⟩] [] .tnil []
noncomputable def path_Path_Answer_o  : Option (den (.tcons tapiPair (.tcons .bool .tnil))) := CF 28 [⟨.nilptr, ()⟩] [] (.tcons tapiPair (.tcons .bool .tnil)) []
noncomputable def path_Path_Want_o  : Option (den (.int .i64)) := CF 27 [⟨.nilptr, ()⟩] [] (.int .i64) []
noncomputable def law13_Few (a0 : den tapiNode) : Option (den tapiNode) := CF 31 [⟨tapiNode, a0⟩] [] tapiNode []
noncomputable def ref13_Refs (a0 : den tapiNode) : Option (den (.list (.int .i64))) := CF 32 [⟨tapiNode, a0⟩] [] (.list (.int .i64)) []
noncomputable def ref13_Refs.l0 (x0 : den (.int .i64)) (x1 : denO (.box tapiNode)) (x2 : denO (.row 25 (.int .i64) false)) : Option (den (.list (.int .i64))) := loopW [1, 1, 0, 1, 0, 0] (BF (R := den (.list (.int .i64))) 32 0 [1, 1, 0, 1, 0, 0]) ⟨[(1, ⟨(.ptr 0 0), ()⟩), (3, ⟨(.own (.int .i64) 1), ()⟩), (4, ⟨(.int .i64), x0⟩)], [⟨(.box tapiNode), x1⟩, ⟨(.row 25 (.int .i64) false), x2⟩]⟩ (blockK 0 (seqK false [1, 1, 1] (BF 32 0 [1, 1, 1]) (finF 32 (.list (.int .i64)) [] 0)))
noncomputable def heap_Binds (a0 : den (.list tapiNode)) (a1 : den (.int .i64)) : Option (den (.tcons (.list tapiPair) (.tcons (.int .i64) .tnil))) := CF 33 [⟨(.list tapiNode), a0⟩, ⟨(.int .i64), a1⟩] [] (.tcons (.list tapiPair) (.tcons (.int .i64) .tnil)) []
noncomputable def pair_Is (a0 : den (.list tapiPair)) : Option (den .bool) := CF 34 [⟨(.list tapiPair), a0⟩] [] .bool []
noncomputable def pair_Is.l0 (x0 : den (.list tapiPair)) (x1 : den (.int .i64)) (x2 : den (.int .i64)) : Option (den .bool) := loopW [1, 0, 1, 0, 0] (BF (R := den .bool) 34 0 [1, 0, 1, 0, 0]) ⟨[(0, ⟨(.list tapiPair), x0⟩), (5, ⟨(.int .i64), x1⟩), (6, ⟨(.int .i64), x2⟩)], []⟩ (blockK 0 (seqK false [1, 1] (BF 34 0 [1, 1]) (finF 34 .bool [] 0)))
noncomputable def tree_nodes (a0 : den (.list tapiPair)) : Option (den (.tcons (.list tapiNode) (.tcons (.int .i64) .tnil))) := CF 35 [⟨(.list tapiPair), a0⟩] [] (.tcons (.list tapiNode) (.tcons (.int .i64) .tnil)) []
noncomputable def heap_Same (a0 : den (.list tapiNode)) (a1 : den (.int .i64)) (a2 : den (.list tapiNode)) (a3 : den (.int .i64)) : Option (den .bool) := CF 36 [⟨(.list tapiNode), a0⟩, ⟨(.int .i64), a1⟩, ⟨(.list tapiNode), a2⟩, ⟨(.int .i64), a3⟩] [] .bool []
noncomputable def ref17_Fits (a0 : den (.list tapiNode)) (a1 : den (.int .i64)) : Option (den .bool) := CF 37 [⟨(.list tapiNode), a0⟩, ⟨(.int .i64), a1⟩] [] .bool []
noncomputable def ref17_Same (a0 : den (.list tapiNode)) (a1 : den (.int .i64)) (a2 : den (.list tapiNode)) (a3 : den (.int .i64)) : Option (den .bool) := CF 38 [⟨(.list tapiNode), a0⟩, ⟨(.int .i64), a1⟩, ⟨(.list tapiNode), a2⟩, ⟨(.int .i64), a3⟩] [] .bool []
noncomputable def pair_Make (a0 : den (.list tapiPair)) : Option (den (.list tapiPair)) := CF 39 [⟨(.list tapiPair), a0⟩] [] (.list tapiPair) []
noncomputable def pair_Make.l0 (x0 : den (.list tapiPair)) (x1 : den (.int .i64)) (x2 : den (.int .i64)) (x3 : denO (.row 41 tapiPair false)) : Option (den (.list tapiPair)) := loopW [1, 1, 0, 1, 0, 0] (BF (R := den (.list tapiPair)) 39 0 [1, 1, 0, 1, 0, 0]) ⟨[(3, ⟨(.own tapiPair 0), ()⟩), (6, ⟨(.list tapiPair), x0⟩), (7, ⟨(.int .i64), x1⟩), (8, ⟨(.int .i64), x2⟩)], [⟨(.row 41 tapiPair false), x3⟩]⟩ (blockK 0 (seqK false [1, 1, 1] (BF 39 0 [1, 1, 1]) (finF 39 (.list tapiPair) [] 0)))
noncomputable def node_Leaf (a0 : den .str) (a1 : den .str) : Option (den tapiNode) := CF 41 [⟨.str, a0⟩, ⟨.str, a1⟩] [] tapiNode []
noncomputable def node_May (a0 : den tapiNode) : Option (den (.int .i64)) := CF 40 [⟨tapiNode, a0⟩] [] (.int .i64) []
noncomputable def ref13_Binds (a0 : den tapiNode) : Option (den (.list tapiPair)) := CF 42 [⟨tapiNode, a0⟩] [] (.list tapiPair) []
noncomputable def ref07_last (a0 : den (.list tapiPair)) (a1 : den (.int .i64)) : Option (den .bool) := CF 43 [⟨(.list tapiPair), a0⟩, ⟨(.int .i64), a1⟩] [] .bool []
noncomputable def ref07_last.l0 (x0 : den (.list tapiPair)) (x1 : den (.int .i64)) (x2 : den (.int .i64)) : Option (den .bool) := loopW [1, 0, 1, 0, 0] (BF (R := den .bool) 43 0 [1, 0, 1, 0, 0]) ⟨[(0, ⟨(.list tapiPair), x0⟩), (1, ⟨(.int .i64), x1⟩), (5, ⟨(.int .i64), x2⟩)], []⟩ (blockK 0 (seqK false [1, 1] (BF 43 0 [1, 1]) (finF 43 .bool [] 0)))
noncomputable def ref01_Less (a0 : den .str) (a1 : den .str) : Option (den .bool) := CF 44 [⟨.str, a0⟩, ⟨.str, a1⟩] [] .bool []
noncomputable def ref01_Less.l0 (x0 : den .str) (x1 : den .str) (x2 : den (.int .i64)) : Option (den .bool) := loopW [1, 0, 1, 0, 0] (BF (R := den .bool) 44 0 [1, 0, 1, 0, 0]) ⟨[(0, ⟨.str, x0⟩), (1, ⟨.str, x1⟩), (5, ⟨(.int .i64), x2⟩)], []⟩ (blockK 0 (seqK false [1, 1] (BF 44 0 [1, 1]) (finF 44 .bool [] 0)))
noncomputable def ref01_Less.j1 (x0 : den .str) (x1 : den .str) (x2 : den (.int .i64)) (x3 : den .bool) : Option (den .bool) := jnO [1, 0, 1, 0, 0, 0, 1] (BF (R := den .bool) 44 0 [1, 0, 1, 0, 0, 0, 1]) ⟨[(0, ⟨.str, x0⟩), (1, ⟨.str, x1⟩), (5, ⟨(.int .i64), x2⟩), (15, ⟨.bool, x3⟩)], []⟩ (seqK false [1, 0, 1, 0, 0, 1] (BF 44 0 [1, 0, 1, 0, 0, 1]) (againK [1, 0, 1, 0, 0] (loopW [1, 0, 1, 0, 0] (BF 44 0 [1, 0, 1, 0, 0])) (blockK 0 (seqK false [1, 1] (BF 44 0 [1, 1]) (finF 44 .bool [] 0)))))
noncomputable def tree_top (a0 : den (.list tapiPair)) : Option (den (.int .i64)) := CF 45 [⟨(.list tapiPair), a0⟩] [] (.int .i64) []
noncomputable def tree_top.l0 (x0 : den (.list tapiPair)) (x1 : den (.int .i64)) (x2 : den (.int .i64)) (x3 : denO (.row 9 .str false)) : Option (den (.int .i64)) := loopW [1, 1, 0, 1, 0, 0] (BF (R := den (.int .i64)) 45 0 [1, 1, 0, 1, 0, 0]) ⟨[(3, ⟨(.own .str 0), ()⟩), (8, ⟨(.list tapiPair), x0⟩), (9, ⟨(.int .i64), x1⟩), (10, ⟨(.int .i64), x2⟩)], [⟨(.row 9 .str false), x3⟩]⟩ (blockK 0 (seqK false [1, 1, 1] (BF 45 0 [1, 1, 1]) (finF 45 (.int .i64) [] 0)))
noncomputable def ref25_make1 (a0 : den (.list tapiPair)) (a1 : denO (.row 57 tapiNode true)) : Option (denR (.tcons (.own tapiNode 0) (.tcons (.int .i64) .tnil)) [(.row 57 tapiNode false)]) := CF 46 [⟨(.own tapiNode 0), ()⟩, ⟨(.list tapiPair), a0⟩] [⟨(.row 57 tapiNode true), a1⟩] (.tcons (.own tapiNode 0) (.tcons (.int .i64) .tnil)) [(.row 57 tapiNode false)]
noncomputable def ref25_make1.l0 (x0 : den (.list tapiPair)) (x1 : den (.int .i64)) (x2 : den (.int .i64)) (x3 : denO (.row 57 tapiNode true)) : Option (denR (.tcons (.own tapiNode 0) (.tcons (.int .i64) .tnil)) [(.row 57 tapiNode false)]) := loopW [1, 1, 1, 0, 1, 0, 0] (BF (R := denR (.tcons (.own tapiNode 0) (.tcons (.int .i64) .tnil)) [(.row 57 tapiNode false)]) 46 1 [1, 1, 1, 0, 1, 0, 0]) ⟨[(0, ⟨(.own tapiNode 0), ()⟩), (1, ⟨(.list tapiPair), x0⟩), (6, ⟨(.int .i64), x1⟩), (7, ⟨(.int .i64), x2⟩)], [⟨(.row 57 tapiNode true), x3⟩]⟩ (blockK 0 (seqK false [1, 1, 1, 1] (BF 46 1 [1, 1, 1, 1]) (finF 46 (.tcons (.own tapiNode 0) (.tcons (.int .i64) .tnil)) [(.row 57 tapiNode false)] 1)))
noncomputable def ref07_Get (a0 : den (.list tapiPair)) (a1 : den .str) : Option (den (.tcons .str (.tcons .bool .tnil))) := CF 47 [⟨(.list tapiPair), a0⟩, ⟨.str, a1⟩] [] (.tcons .str (.tcons .bool .tnil)) []
noncomputable def ref07_Get.l0 (x0 : den (.list tapiPair)) (x1 : den .str) (x2 : den (.int .i64)) : Option (den (.tcons .str (.tcons .bool .tnil))) := loopW [1, 0, 1, 0, 0] (BF (R := den (.tcons .str (.tcons .bool .tnil))) 47 0 [1, 0, 1, 0, 0]) ⟨[(0, ⟨(.list tapiPair), x0⟩), (1, ⟨.str, x1⟩), (6, ⟨(.int .i64), x2⟩)], []⟩ (blockK 0 (seqK false [1, 1] (BF 47 0 [1, 1]) (finF 47 (.tcons .str (.tcons .bool .tnil)) [] 0)))
noncomputable def ref07_Floor (a0 : den (.list tapiPair)) (a1 : den .str) : Option (den (.tcons tapiPair (.tcons .bool .tnil))) := CF 48 [⟨(.list tapiPair), a0⟩, ⟨.str, a1⟩] [] (.tcons tapiPair (.tcons .bool .tnil)) []
noncomputable def ref07_Floor.l0 (x0 : den .str) (x1 : den (.list tapiPair)) (x2 : den (.int .i64)) (x3 : denO (.box tapiPair)) : Option (den (.tcons tapiPair (.tcons .bool .tnil))) := loopW [1, 1, 0, 1, 0, 0] (BF (R := den (.tcons tapiPair (.tcons .bool .tnil))) 48 0 [1, 1, 0, 1, 0, 0]) ⟨[(1, ⟨.str, x0⟩), (4, ⟨(.ptr 0 0), ()⟩), (6, ⟨(.list tapiPair), x1⟩), (7, ⟨(.int .i64), x2⟩)], [⟨(.box tapiPair), x3⟩]⟩ (blockK 0 (seqK false [1, 1, 1] (BF 48 0 [1, 1, 1]) (finF 48 (.tcons tapiPair (.tcons .bool .tnil)) [] 0)))
noncomputable def ref07_After (a0 : den (.list tapiPair)) (a1 : den .str) : Option (den (.tcons tapiPair (.tcons .bool .tnil))) := CF 49 [⟨(.list tapiPair), a0⟩, ⟨.str, a1⟩] [] (.tcons tapiPair (.tcons .bool .tnil)) []
noncomputable def ref07_After.l0 (x0 : den .str) (x1 : den (.list tapiPair)) (x2 : den (.int .i64)) (x3 : denO (.box tapiPair)) : Option (den (.tcons tapiPair (.tcons .bool .tnil))) := loopW [1, 1, 0, 1, 0, 0] (BF (R := den (.tcons tapiPair (.tcons .bool .tnil))) 49 0 [1, 1, 0, 1, 0, 0]) ⟨[(1, ⟨.str, x0⟩), (4, ⟨(.ptr 0 0), ()⟩), (6, ⟨(.list tapiPair), x1⟩), (7, ⟨(.int .i64), x2⟩)], [⟨(.box tapiPair), x3⟩]⟩ (blockK 0 (seqK false [1, 1, 1] (BF 49 0 [1, 1, 1]) (finF 49 (.tcons tapiPair (.tcons .bool .tnil)) [] 0)))
noncomputable def ref17_Depth (a0 : den (.list tapiNode)) (a1 : den (.int .i64)) : Option (den (.int .i64)) := CF 50 [⟨(.list tapiNode), a0⟩, ⟨(.int .i64), a1⟩] [] (.int .i64) []
noncomputable def ref17_Depth.l0 (x0 : den (.list tapiNode)) (x1 : den (.int .i64)) (x2 : den (.list (.int .i64))) (x3 : den (.int .i64)) : Option (den (.int .i64)) := loopW [1, 1, 1, 0, 1, 0, 0] (BF (R := den (.int .i64)) 50 0 [1, 1, 1, 0, 1, 0, 0]) ⟨[(0, ⟨(.list tapiNode), x0⟩), (5, ⟨(.int .i64), x1⟩), (6, ⟨(.list (.int .i64)), x2⟩), (7, ⟨(.int .i64), x3⟩)], []⟩ (blockK 0 (seqK false [1, 1, 1, 1] (BF 50 0 [1, 1, 1, 1]) (finF 50 (.int .i64) [] 0)))
noncomputable def order_Compare (a0 : den .str) (a1 : den .str) : Option (den (.int .i64)) := CF 51 [⟨.str, a0⟩, ⟨.str, a1⟩] [] (.int .i64) []
noncomputable def order_Compare.j0 (x0 : den .str) (x1 : den .str) (x2 : den (.int .i64)) (x3 : den .bool) : Option (den (.int .i64)) := jnO [1, 1, 0, 0, 1] (BF (R := den (.int .i64)) 51 0 [1, 1, 0, 0, 1]) ⟨[(0, ⟨.str, x0⟩), (1, ⟨.str, x1⟩), (5, ⟨(.int .i64), x2⟩), (9, ⟨.bool, x3⟩)], []⟩ (blockK 0 (seqK false [1, 1, 1] (BF 51 0 [1, 1, 1]) (finF 51 (.int .i64) [] 0)))
noncomputable def path_Path_note (a0 : den tapiNode) (a1 : denO (.box tpathPath)) : Option (denR .tnil [(.box tpathPath)]) := CF 52 [⟨(.ptr 0 0), ()⟩, ⟨tapiNode, a0⟩] [⟨(.box tpathPath), a1⟩] .tnil [(.box tpathPath)]
noncomputable def heap_may (a0 : den (.list tapiNode)) (a1 : den (.int .i64)) : Option (den (.int .i64)) := CF 53 [⟨(.list tapiNode), a0⟩, ⟨(.int .i64), a1⟩] [] (.int .i64) []
noncomputable def heap_binds (a0 : den (.list tapiNode)) (a1 : den (.int .i64)) : Option (denR (.own tapiPair 0) [(.row 41 tapiPair false)]) := CF 54 [⟨(.list tapiNode), a0⟩, ⟨(.int .i64), a1⟩] [] (.own tapiPair 0) [(.row 41 tapiPair false)]
noncomputable def heap_binds.l0 (x0 : den (.list tapiNode)) (x1 : den (.list (.int .i64))) (x2 : den (.int .i64)) (x3 : den (.int .i64)) (x4 : denO (.row 41 tapiPair false)) : Option (denR (.own tapiPair 0) [(.row 41 tapiPair false)]) := loopW [1, 1, 1, 1, 1, 0, 1, 0, 0] (BF (R := denR (.own tapiPair 0) [(.row 41 tapiPair false)]) 54 0 [1, 1, 1, 1, 1, 0, 1, 0, 0]) ⟨[(0, ⟨(.list tapiNode), x0⟩), (6, ⟨(.own tapiPair 0), ()⟩), (38, ⟨(.list (.int .i64)), x1⟩), (39, ⟨(.int .i64), x2⟩), (40, ⟨(.int .i64), x3⟩)], [⟨(.row 41 tapiPair false), x4⟩]⟩ (blockK 0 (seqK false [1, 1, 1, 1, 1, 1] (BF 54 0 [1, 1, 1, 1, 1, 1]) (finF 54 (.own tapiPair 0) [(.row 41 tapiPair false)] 0)))
noncomputable def tree_nodes_1 (a0 : den (.list tapiPair)) (a1 : denO (.box (.fn 55 (.tcons (.ptr 0 0) (.tcons (.ptr 1 0) .tnil))))) (a2 : denO (.row 57 tapiNode true)) : Option (denR (.int .i64) [(.box (.fn 55 (.tcons (.ptr 0 0) (.tcons (.ptr 1 0) .tnil)))), (.box (.own tapiNode 2)), (.row 57 tapiNode false)]) := CF 55 [⟨(.list tapiPair), a0⟩, ⟨(.ptr 0 0), ()⟩, ⟨(.ptr 1 0), ()⟩] [⟨(.box (.fn 55 (.tcons (.ptr 0 0) (.tcons (.ptr 1 0) .tnil)))), a1⟩, ⟨(.box (.own tapiNode 2)), ()⟩, ⟨(.row 57 tapiNode true), a2⟩] (.int .i64) [(.box (.fn 55 (.tcons (.ptr 0 0) (.tcons (.ptr 1 0) .tnil)))), (.box (.own tapiNode 2)), (.row 57 tapiNode false)]
noncomputable def tree_nodes_1.j0 (x0 : den (.list tapiPair)) (x1 : den (.int .i64)) (x2 : den (.int .i64)) (x3 : den (.int .i64)) (x4 : denO (.box (.fn 55 (.tcons (.ptr 0 0) (.tcons (.ptr 1 0) .tnil))))) (x5 : denO (.row 57 tapiNode false)) : Option (denR (.int .i64) [(.box (.fn 55 (.tcons (.ptr 0 0) (.tcons (.ptr 1 0) .tnil)))), (.box (.own tapiNode 2)), (.row 57 tapiNode false)]) := jnO [1, 1, 1, 1] (BF (R := denR (.int .i64) [(.box (.fn 55 (.tcons (.ptr 0 0) (.tcons (.ptr 1 0) .tnil)))), (.box (.own tapiNode 2)), (.row 57 tapiNode false)]) 55 3 [1, 1, 1, 1]) ⟨[(0, ⟨(.list tapiPair), x0⟩), (2, ⟨(.ptr 1 0), ()⟩), (5, ⟨(.int .i64), x1⟩), (6, ⟨(.int .i64), x2⟩), (7, ⟨(.int .i64), x3⟩)], [⟨(.box (.fn 55 (.tcons (.ptr 0 0) (.tcons (.ptr 1 0) .tnil)))), x4⟩, ⟨(.box (.own tapiNode 2)), ()⟩, ⟨(.row 57 tapiNode false), x5⟩]⟩ (finF 55 (.int .i64) [(.box (.fn 55 (.tcons (.ptr 0 0) (.tcons (.ptr 1 0) .tnil)))), (.box (.own tapiNode 2)), (.row 57 tapiNode false)] 3)
noncomputable def heap_same (a0 : den (.list tapiNode)) (a1 : den (.int .i64)) (a2 : den (.list tapiNode)) (a3 : den (.int .i64)) : Option (den .bool) := CF 56 [⟨(.list tapiNode), a0⟩, ⟨(.int .i64), a1⟩, ⟨(.list tapiNode), a2⟩, ⟨(.int .i64), a3⟩] [] .bool []
noncomputable def heap_same.j0 (x0 : den (.list tapiNode)) (x1 : den (.int .i64)) (x2 : den (.list tapiNode)) (x3 : den (.int .i64)) (x4 : den .bool) : Option (den .bool) := jnO [1, 0, 1] (BF (R := den .bool) 56 0 [1, 0, 1]) ⟨[(0, ⟨(.list tapiNode), x0⟩), (1, ⟨(.int .i64), x1⟩), (2, ⟨(.list tapiNode), x2⟩), (3, ⟨(.int .i64), x3⟩), (19, ⟨.bool, x4⟩)], []⟩ (seqK false [1, 1] (BF 56 0 [1, 1]) (finF 56 .bool [] 0))
noncomputable def heap_same.l1 (x0 : den (.list tapiNode)) (x1 : den (.list tapiNode)) (x2 : den (.list (.int .i64))) (x3 : den (.list (.int .i64))) (x4 : den (.int .i64)) (x5 : den (.int .i64)) : Option (den .bool) := loopW [1, 1, 1, 1, 1, 0, 1, 0, 0] (BF (R := den .bool) 56 0 [1, 1, 1, 1, 1, 0, 1, 0, 0]) ⟨[(0, ⟨(.list tapiNode), x0⟩), (2, ⟨(.list tapiNode), x1⟩), (11, ⟨(.list (.int .i64)), x2⟩), (12, ⟨(.list (.int .i64)), x3⟩), (44, ⟨(.int .i64), x4⟩), (45, ⟨(.int .i64), x5⟩)], []⟩ (blockK 0 (seqK false [1, 1, 1, 1, 1, 1] (BF 56 0 [1, 1, 1, 1, 1, 1]) (finF 56 .bool [] 0)))
noncomputable def ref17_May (a0 : den (.list tapiNode)) : Option (den .bool) := CF 57 [⟨(.list tapiNode), a0⟩] [] .bool []
noncomputable def ref17_May.l0 (x0 : den (.list tapiNode)) (x1 : den (.int .i64)) : Option (den .bool) := loopW [1, 0, 1, 0, 0] (BF (R := den .bool) 57 0 [1, 0, 1, 0, 0]) ⟨[(0, ⟨(.list tapiNode), x0⟩), (3, ⟨(.int .i64), x1⟩)], []⟩ (blockK 0 (seqK false [1, 1] (BF 57 0 [1, 1]) (finF 57 .bool [] 0)))
noncomputable def ref17_May.l1 (x0 : den (.list tapiNode)) (x1 : den (.int .i64)) (x2 : den (.list (.int .i64))) (x3 : den (.int .i64)) : Option (den .bool) := loopW [1, 0, 1, 0, 0, 1, 0, 0, 1, 0, 1, 0, 0] (BF (R := den .bool) 57 0 [1, 0, 1, 0, 0, 1, 0, 0, 1, 0, 1, 0, 0]) ⟨[(0, ⟨(.list tapiNode), x0⟩), (3, ⟨(.int .i64), x1⟩), (4, ⟨(.list (.int .i64)), x2⟩), (5, ⟨(.int .i64), x3⟩)], []⟩ (blockK 2 (seqK false [1, 0, 1, 0, 0, 1, 0, 0, 1, 1] (BF 57 0 [1, 0, 1, 0, 0, 1, 0, 0, 1, 1]) (blockK 1 (seqK false [1, 0, 1, 0, 0, 1, 1] (BF 57 0 [1, 0, 1, 0, 0, 1, 1]) (againK [1, 0, 1, 0, 0] (loopW [1, 0, 1, 0, 0] (BF 57 0 [1, 0, 1, 0, 0])) (blockK 0 (seqK false [1, 1] (BF 57 0 [1, 1]) (finF 57 .bool [] 0))))))))
noncomputable def ref17_shape (a0 : den (.list tapiNode)) (a1 : den (.int .i64)) (a2 : den (.list tapiNode)) (a3 : den (.int .i64)) : Option (den .bool) := CF 58 [⟨(.list tapiNode), a0⟩, ⟨(.int .i64), a1⟩, ⟨(.list tapiNode), a2⟩, ⟨(.int .i64), a3⟩] [] .bool []
noncomputable def ref17_shape.j0 (x0 : den (.list tapiNode)) (x1 : den (.int .i64)) (x2 : den (.list tapiNode)) (x3 : den (.int .i64)) (x4 : den .bool) : Option (den .bool) := jnO [1, 0, 1] (BF (R := den .bool) 58 0 [1, 0, 1]) ⟨[(0, ⟨(.list tapiNode), x0⟩), (1, ⟨(.int .i64), x1⟩), (2, ⟨(.list tapiNode), x2⟩), (3, ⟨(.int .i64), x3⟩), (17, ⟨.bool, x4⟩)], []⟩ (seqK false [1, 1] (BF 58 0 [1, 1]) (finF 58 .bool [] 0))
noncomputable def ref17_shape.l1 (x0 : den (.list tapiNode)) (x1 : den (.list tapiNode)) (x2 : den (.int .i64)) (x3 : denO (.box tapiNode)) (x4 : denO (.box tapiNode)) : Option (den .bool) := loopW [1, 1, 1, 1, 0, 1, 0, 0] (BF (R := den .bool) 58 0 [1, 1, 1, 1, 0, 1, 0, 0]) ⟨[(0, ⟨(.list tapiNode), x0⟩), (2, ⟨(.list tapiNode), x1⟩), (9, ⟨(.ptr 0 0), ()⟩), (10, ⟨(.ptr 1 0), ()⟩), (11, ⟨(.int .i64), x2⟩)], [⟨(.box tapiNode), x3⟩, ⟨(.box tapiNode), x4⟩]⟩ (blockK 0 (seqK false [1, 1, 1, 1, 1] (BF 58 0 [1, 1, 1, 1, 1]) (finF 58 .bool [] 0)))
noncomputable def pair_put (a0 : den (.list tapiPair)) (a1 : den tapiPair) : Option (denR (.own tapiPair 0) [(.row 41 tapiPair false)]) := CF 59 [⟨(.list tapiPair), a0⟩, ⟨tapiPair, a1⟩] [] (.own tapiPair 0) [(.row 41 tapiPair false)]
noncomputable def node_formed (a0 : den tapiNode) : Option (den tapiNode) := CF 60 [⟨tapiNode, a0⟩] [] tapiNode []
noncomputable def node_long (a0 : den tapiNode) : Option (den .bool) := CF 61 [⟨tapiNode, a0⟩] [] .bool []
noncomputable def node_Same (a0 : den tapiNode) (a1 : den tapiNode) : Option (den .bool) := CF 62 [⟨tapiNode, a0⟩, ⟨tapiNode, a1⟩] [] .bool []
noncomputable def node_Same.j0 (x0 : den .bool) (x1 : denO (.box tapiNode)) (x2 : denO (.box tapiNode)) : Option (den .bool) := jnO [1, 1] (BF (R := den .bool) 62 0 [1, 1]) ⟨[(2, ⟨(.ptr 0 0), ()⟩), (3, ⟨(.ptr 1 0), ()⟩), (5, ⟨.bool, x0⟩)], [⟨(.box tapiNode), x1⟩, ⟨(.box tapiNode), x2⟩]⟩ (finF 62 .bool [] 0)
noncomputable def node_whole (a0 : den tapiNode) : Option (den .bool) := CF 63 [⟨tapiNode, a0⟩] [] .bool []
noncomputable def pri_Top (a0 : den (.list .str)) : Option (den (.tcons .str (.tcons .bool .tnil))) := CF 64 [⟨(.list .str), a0⟩] [] (.tcons .str (.tcons .bool .tnil)) []
noncomputable def pri_Top.l0 (x0 : den (.list .str)) (x1 : den .str) (x2 : den (.list .str)) (x3 : den (.int .i64)) (x4 : den (.int .i64)) : Option (den (.tcons .str (.tcons .bool .tnil))) := loopW [1, 1, 0, 1, 0, 0] (BF (R := den (.tcons .str (.tcons .bool .tnil))) 64 0 [1, 1, 0, 1, 0, 0]) ⟨[(0, ⟨(.list .str), x0⟩), (4, ⟨.str, x1⟩), (7, ⟨(.list .str), x2⟩), (8, ⟨(.int .i64), x3⟩), (9, ⟨(.int .i64), x4⟩)], []⟩ (blockK 0 (seqK false [1, 1, 1] (BF 64 0 [1, 1, 1]) (finF 64 (.tcons .str (.tcons .bool .tnil)) [] 0)))
noncomputable def slices_Indexstring_string (a0 : den (.list .str)) (a1 : den .str) : Option (den (.int .i64)) := CF 65 [⟨(.list .str), a0⟩, ⟨.str, a1⟩] [] (.int .i64) []
noncomputable def slices_Indexstring_string.l0 (x0 : den (.list .str)) (x1 : den .str) (x2 : den (.int .i64)) (x3 : den (.int .i64)) : Option (den (.int .i64)) := loopW [1, 0, 1, 0, 0] (BF (R := den (.int .i64)) 65 0 [1, 0, 1, 0, 0]) ⟨[(0, ⟨(.list .str), x0⟩), (1, ⟨.str, x1⟩), (7, ⟨(.int .i64), x2⟩), (8, ⟨(.int .i64), x3⟩)], []⟩ (blockK 0 (seqK false [1, 1] (BF 65 0 [1, 1]) (finF 65 (.int .i64) [] 0)))
noncomputable def ref05_Above (a0 : den .str) (a1 : den .str) : Option (den .bool) := CF 66 [⟨.str, a0⟩, ⟨.str, a1⟩] [] .bool []
noncomputable def order_Common (a0 : den .str) (a1 : den .str) : Option (den (.int .i64)) := CF 67 [⟨.str, a0⟩, ⟨.str, a1⟩] [] (.int .i64) []
noncomputable def order_Common.l0 (x0 : den .str) (x1 : den .str) (x2 : den (.int .i64)) (x3 : den (.int .i64)) (x4 : den (.int .i64)) : Option (den (.int .i64)) := loopW [1, 1, 0, 1, 0, 0] (BF (R := den (.int .i64)) 67 0 [1, 1, 0, 1, 0, 0]) ⟨[(0, ⟨.str, x0⟩), (1, ⟨.str, x1⟩), (5, ⟨(.int .i64), x2⟩), (12, ⟨(.int .i64), x3⟩), (13, ⟨(.int .i64), x4⟩)], []⟩ (blockK 0 (seqK false [1, 1, 1] (BF 67 0 [1, 1, 1]) (finF 67 (.int .i64) [] 0)))
noncomputable def heap_May (a0 : den (.list tapiNode)) : Option (den (.int .i64)) := CF 68 [⟨(.list tapiNode), a0⟩] [] (.int .i64) []
noncomputable def heap_May.l0 (x0 : den (.list tapiNode)) (x1 : den (.int .i64)) (x2 : den (.int .i64)) : Option (den (.int .i64)) := loopW [1, 0, 1, 0, 0] (BF (R := den (.int .i64)) 68 0 [1, 0, 1, 0, 0]) ⟨[(7, ⟨(.list tapiNode), x0⟩), (8, ⟨(.int .i64), x1⟩), (9, ⟨(.int .i64), x2⟩)], []⟩ (blockK 0 (seqK false [1, 1] (BF 68 0 [1, 1]) (finF 68 (.int .i64) [] 0)))
noncomputable def heap_May.l1 (x0 : den (.int .i64)) (x1 : den (.list tapiNode)) (x2 : den (.int .i64)) (x3 : den (.int .i64)) (x4 : den (.list (.int .i64))) (x5 : den (.int .i64)) (x6 : den (.int .i64)) : Option (den (.int .i64)) := loopW [1, 0, 1, 0, 0, 1, 1, 0, 0, 1, 1, 1, 0, 0] (BF (R := den (.int .i64)) 68 0 [1, 0, 1, 0, 0, 1, 1, 0, 0, 1, 1, 1, 0, 0]) ⟨[(3, ⟨(.int .i64), x0⟩), (7, ⟨(.list tapiNode), x1⟩), (8, ⟨(.int .i64), x2⟩), (9, ⟨(.int .i64), x3⟩), (18, ⟨(.list (.int .i64)), x4⟩), (19, ⟨(.int .i64), x5⟩), (20, ⟨(.int .i64), x6⟩)], []⟩ (blockK 2 (blockK 1 (seqK false [1, 0, 1, 0, 0, 1, 1, 1] (BF 68 0 [1, 0, 1, 0, 0, 1, 1, 1]) (againK [1, 0, 1, 0, 0] (loopW [1, 0, 1, 0, 0] (BF 68 0 [1, 0, 1, 0, 0])) (blockK 0 (seqK false [1, 1] (BF 68 0 [1, 1]) (finF 68 (.int .i64) [] 0)))))))
noncomputable def node_Binds (a0 : den tapiNode) : Option (denR (.own tapiPair 0) [(.row 41 tapiPair false)]) := CF 69 [⟨tapiNode, a0⟩] [] (.own tapiPair 0) [(.row 41 tapiPair false)]
noncomputable def node_Refs (a0 : den tapiNode) : Option (den (.list (.int .i64))) := CF 70 [⟨tapiNode, a0⟩] [] (.list (.int .i64)) []
noncomputable def node_Refs.l0 (x0 : den (.int .i64)) (x1 : den (.int .i64)) (x2 : denO (.row 25 (.int .i64) false)) (x3 : denO (.row 25 (.int .i64) false)) : Option (den (.list (.int .i64))) := loopW [1, 1, 0, 1, 0, 0] (BF (R := den (.list (.int .i64))) 70 0 [1, 1, 0, 1, 0, 0]) ⟨[(3, ⟨(.own (.int .i64) 0), ()⟩), (12, ⟨(.own (.int .i64) 1), ()⟩), (13, ⟨(.int .i64), x0⟩), (14, ⟨(.int .i64), x1⟩)], [⟨(.row 25 (.int .i64) false), x2⟩, ⟨(.row 25 (.int .i64) false), x3⟩]⟩ (blockK 0 (seqK false [1, 1, 1] (BF 70 0 [1, 1, 1]) (finF 70 (.list (.int .i64)) [] 0)))
noncomputable def heap_bare (a0 : den tapiNode) : Option (den tapiNode) := CF 71 [⟨tapiNode, a0⟩] [] tapiNode []
noncomputable def heap_bare.l0 (x0 : den (.int .i64)) (x1 : den (.int .i64)) (x2 : denO (.box (.pair (.int .i64) (.pair .str (.pair .str (.pair (.int .u32) (.pair (.own (.int .i64) 2) (.pair (.int .i64) (.pair (.own tapiPair 3) (.pair (.int .i64) (.pair (.int .i64) .unit))))))))))) (x3 : denO (.box (.pair (.int .i64) (.pair .str (.pair .str (.pair (.int .u32) (.pair (.own (.int .i64) 4) (.pair (.int .i64) (.pair (.own tapiPair 5) (.pair (.int .i64) (.pair (.int .i64) .unit))))))))))) (x4 : denO (.row 25 (.int .i64) false)) (x5 : denO (.row 41 tapiPair false)) (x6 : denO (.row 25 (.int .i64) false)) (x7 : denO (.row 41 tapiPair false)) : Option (den tapiNode) := loopW [1, 1, 0, 1, 0, 0] (BF (R := den tapiNode) 71 0 [1, 1, 0, 1, 0, 0]) ⟨[(1, ⟨(.ptr 0 0), ()⟩), (2, ⟨(.ptr 1 0), ()⟩), (8, ⟨(.int .i64), x0⟩), (9, ⟨(.int .i64), x1⟩)], [⟨(.box (.pair (.int .i64) (.pair .str (.pair .str (.pair (.int .u32) (.pair (.own (.int .i64) 2) (.pair (.int .i64) (.pair (.own tapiPair 3) (.pair (.int .i64) (.pair (.int .i64) .unit)))))))))), x2⟩, ⟨(.box (.pair (.int .i64) (.pair .str (.pair .str (.pair (.int .u32) (.pair (.own (.int .i64) 4) (.pair (.int .i64) (.pair (.own tapiPair 5) (.pair (.int .i64) (.pair (.int .i64) .unit)))))))))), x3⟩, ⟨(.row 25 (.int .i64) false), x4⟩, ⟨(.row 41 tapiPair false), x5⟩, ⟨(.row 25 (.int .i64) false), x6⟩, ⟨(.row 41 tapiPair false), x7⟩]⟩ (blockK 0 (seqK false [1, 1, 1] (BF 71 0 [1, 1, 1]) (finF 71 tapiNode [] 0)))
noncomputable def ref13_May (a0 : den tapiNode) : Option (den (.int .i64)) := CF 72 [⟨tapiNode, a0⟩] [] (.int .i64) []
noncomputable def ref13_Same (a0 : den tapiNode) (a1 : den tapiNode) : Option (den .bool) := CF 73 [⟨tapiNode, a0⟩, ⟨tapiNode, a1⟩] [] .bool []
noncomputable def pair_place (a0 : den (.list tapiPair)) (a1 : den .str) : Option (den (.tcons (.int .i64) (.tcons .bool .tnil))) := CF 74 [⟨(.list tapiPair), a0⟩, ⟨.str, a1⟩] [] (.tcons (.int .i64) (.tcons .bool .tnil)) []
noncomputable def slices_Cloneapi_Pair_api_Pair (a0 : den (.list tapiPair)) : Option (denR (.own tapiPair 0) [(.row 41 tapiPair false)]) := CF 75 [⟨(.list tapiPair), a0⟩] [] (.own tapiPair 0) [(.row 41 tapiPair false)]
noncomputable def slices_Insertapi_Pair_api_Pair (a0 : den (.int .i64)) (a1 : denO (.row 41 tapiPair true)) (a2 : denO (.row 41 tapiPair true)) : Option (denR (.own tapiPair 0) [(.row 41 tapiPair false), (.row 41 tapiPair true)]) := CF 76 [⟨(.own tapiPair 0), ()⟩, ⟨(.int .i64), a0⟩, ⟨(.own tapiPair 1), ()⟩] [⟨(.row 41 tapiPair true), a1⟩, ⟨(.row 41 tapiPair true), a2⟩] (.own tapiPair 0) [(.row 41 tapiPair false), (.row 41 tapiPair true)]
noncomputable def node_Tomb (a0 : den .str) (a1 : den .str) : Option (den tapiNode) := CF 77 [⟨.str, a0⟩, ⟨.str, a1⟩] [] tapiNode []
noncomputable def node_Branch (a0 : den (.int .u32)) (a1 : den (.list (.int .i64))) (a2 : den (.int .i64)) : Option (den tapiNode) := CF 78 [⟨(.int .u32), a0⟩, ⟨(.list (.int .i64)), a1⟩, ⟨(.int .i64), a2⟩] [] tapiNode []
noncomputable def node_Bucket (a0 : den (.list tapiPair)) : Option (den tapiNode) := CF 79 [⟨(.list tapiPair), a0⟩] [] tapiNode []
noncomputable def node_Inner (a0 : den (.int .i64)) : Option (den tapiNode) := CF 80 [⟨(.int .i64), a0⟩] [] tapiNode []
noncomputable def node_long_1 (a0 : den tapiPair) : Option (den .bool) := CF 81 [⟨tapiPair, a0⟩] [] .bool []
noncomputable def slices_ContainsFuncapi_Pair_api_Pair (a0 : den (.list tapiPair)) : Option (den .bool) := CF 82 [⟨(.list tapiPair), a0⟩, ⟨(.fn 81 .tnil), ()⟩] [] .bool []
noncomputable def slices_Equalapi_Ref_api_Ref (a0 : den (.list (.int .i64))) (a1 : den (.list (.int .i64))) : Option (den .bool) := CF 83 [⟨(.list (.int .i64)), a0⟩, ⟨(.list (.int .i64)), a1⟩] [] .bool []
noncomputable def slices_Equalapi_Ref_api_Ref.l0 (x0 : den (.list (.int .i64))) (x1 : den (.list (.int .i64))) (x2 : den (.int .i64)) (x3 : den (.int .i64)) : Option (den .bool) := loopW [1, 1, 0, 1, 0, 0] (BF (R := den .bool) 83 0 [1, 1, 0, 1, 0, 0]) ⟨[(0, ⟨(.list (.int .i64)), x0⟩), (1, ⟨(.list (.int .i64)), x1⟩), (12, ⟨(.int .i64), x2⟩), (13, ⟨(.int .i64), x3⟩)], []⟩ (blockK 0 (seqK false [1, 1, 1] (BF 83 0 [1, 1, 1]) (finF 83 .bool [] 0)))
noncomputable def slices_Equalapi_Pair_api_Pair (a0 : den (.list tapiPair)) (a1 : den (.list tapiPair)) : Option (den .bool) := CF 84 [⟨(.list tapiPair), a0⟩, ⟨(.list tapiPair), a1⟩] [] .bool []
noncomputable def slices_Equalapi_Pair_api_Pair.l0 (x0 : den (.list tapiPair)) (x1 : den (.list tapiPair)) (x2 : den (.int .i64)) (x3 : den (.int .i64)) : Option (den .bool) := loopW [1, 1, 0, 1, 0, 0] (BF (R := den .bool) 84 0 [1, 1, 0, 1, 0, 0]) ⟨[(0, ⟨(.list tapiPair), x0⟩), (1, ⟨(.list tapiPair), x1⟩), (12, ⟨(.int .i64), x2⟩), (13, ⟨(.int .i64), x3⟩)], []⟩ (blockK 0 (seqK false [1, 1, 1] (BF 84 0 [1, 1, 1]) (finF 84 .bool [] 0)))
noncomputable def mask_Count (a0 : den (.int .u32)) : Option (den (.int .i64)) := CF 85 [⟨(.int .u32), a0⟩] [] (.int .i64) []
noncomputable def slices_Containsapi_Ref_api_Ref (a0 : den (.list (.int .i64))) (a1 : den (.int .i64)) : Option (den .bool) := CF 86 [⟨(.list (.int .i64)), a0⟩, ⟨(.int .i64), a1⟩] [] .bool []
noncomputable def pri_Above (a0 : den .str) (a1 : den .str) : Option (den .bool) := CF 87 [⟨.str, a0⟩, ⟨.str, a1⟩] [] .bool []
noncomputable def ref05_Of (a0 : den .str) : Option (den (.int .u64)) := CF 88 [⟨.str, a0⟩] [] (.int .u64) []
noncomputable def slices_Cloneapi_Ref_api_Ref (a0 : den (.list (.int .i64))) : Option (denR (.own (.int .i64) 0) [(.row 25 (.int .i64) false)]) := CF 89 [⟨(.list (.int .i64)), a0⟩] [] (.own (.int .i64) 0) [(.row 25 (.int .i64) false)]
noncomputable def node_Copy (a0 : den tapiNode) : Option (denR (.pair (.int .i64) (.pair .str (.pair .str (.pair (.int .u32) (.pair (.own (.int .i64) 0) (.pair (.int .i64) (.pair (.own tapiPair 1) (.pair (.int .i64) (.pair (.int .i64) .unit))))))))) [(.row 25 (.int .i64) false), (.row 41 tapiPair false)]) := CF 90 [⟨tapiNode, a0⟩] [] (.pair (.int .i64) (.pair .str (.pair .str (.pair (.int .u32) (.pair (.own (.int .i64) 0) (.pair (.int .i64) (.pair (.own tapiPair 1) (.pair (.int .i64) (.pair (.int .i64) .unit))))))))) [(.row 25 (.int .i64) false), (.row 41 tapiPair false)]
noncomputable def ref13_long (a0 : den tapiNode) : Option (den .bool) := CF 91 [⟨tapiNode, a0⟩] [] .bool []
noncomputable def ref13_long.l0 (x0 : den .bool) (x1 : den (.int .i64)) (x2 : denO (.box tapiNode)) : Option (den .bool) := loopW [1, 1, 0, 1, 0, 0] (BF (R := den .bool) 91 0 [1, 1, 0, 1, 0, 0]) ⟨[(1, ⟨(.ptr 0 0), ()⟩), (3, ⟨.bool, x0⟩), (4, ⟨(.int .i64), x1⟩)], [⟨(.box tapiNode), x2⟩]⟩ (blockK 0 (seqK false [1, 1, 1] (BF 91 0 [1, 1, 1]) (finF 91 .bool [] 0)))
noncomputable def ref13_form (a0 : den tapiNode) : Option (den .bool) := CF 92 [⟨tapiNode, a0⟩] [] .bool []
noncomputable def ref13_form.j0 (x0 : den (.int .i64)) (x1 : den .bool) (x2 : denO (.box tapiNode)) : Option (den .bool) := jnO [1, 1, 0, 1, 0, 1] (BF (R := den .bool) 92 0 [1, 1, 0, 1, 0, 1]) ⟨[(1, ⟨(.ptr 0 0), ()⟩), (8, ⟨(.int .i64), x0⟩), (9, ⟨.bool, x1⟩)], [⟨(.box tapiNode), x2⟩]⟩ (blockK 0 (seqK false [1, 1, 1] (BF 92 0 [1, 1, 1]) (finF 92 .bool [] 0)))
noncomputable def ref13_form.l1 (x0 : den (.int .i64)) (x1 : denO (.box tapiNode)) : Option (den .bool) := loopW [1, 1, 0, 1, 0, 1, 1, 1, 0, 0, 1, 0, 0] (BF (R := den .bool) 92 0 [1, 1, 0, 1, 0, 1, 1, 1, 0, 0, 1, 0, 0]) ⟨[(1, ⟨(.ptr 0 0), ()⟩), (3, ⟨(.int .i64), x0⟩)], [⟨(.box tapiNode), x1⟩]⟩ (blockK 1 (seqK false [1, 1, 0, 1, 0, 1, 1, 1, 0, 1] (BF 92 0 [1, 1, 0, 1, 0, 1, 1, 1, 0, 1]) (blockK 0 (seqK false [1, 1, 1] (BF 92 0 [1, 1, 1]) (finF 92 .bool [] 0)))))
noncomputable def ref13_SameRefs (a0 : den (.list (.int .i64))) (a1 : den (.list (.int .i64))) : Option (den .bool) := CF 93 [⟨(.list (.int .i64)), a0⟩, ⟨(.list (.int .i64)), a1⟩] [] .bool []
noncomputable def ref13_SameRefs.l0 (x0 : den (.list (.int .i64))) (x1 : den (.list (.int .i64))) (x2 : den (.int .i64)) : Option (den .bool) := loopW [1, 1, 0, 1, 0, 0] (BF (R := den .bool) 93 0 [1, 1, 0, 1, 0, 0]) ⟨[(0, ⟨(.list (.int .i64)), x0⟩), (1, ⟨(.list (.int .i64)), x1⟩), (5, ⟨(.int .i64), x2⟩)], []⟩ (blockK 0 (seqK false [1, 1, 1] (BF 93 0 [1, 1, 1]) (finF 93 .bool [] 0)))
noncomputable def slices_BinarySearchFuncapi_Pair_api_Pair_string (a0 : den (.list tapiPair)) (a1 : den .str) : Option (den (.tcons (.int .i64) (.tcons .bool .tnil))) := CF 94 [⟨(.list tapiPair), a0⟩, ⟨.str, a1⟩, ⟨(.fn 95 .tnil), ()⟩] [] (.tcons (.int .i64) (.tcons .bool .tnil)) []
noncomputable def slices_BinarySearchFuncapi_Pair_api_Pair_string.l0 (x0 : den (.list tapiPair)) (x1 : den .str) (x2 : den (.int .i64)) (x3 : den (.int .i64)) (x4 : den (.int .i64)) : Option (den (.tcons (.int .i64) (.tcons .bool .tnil))) := loopW [1, 1, 1, 0, 0, 0] (BF (R := den (.tcons (.int .i64) (.tcons .bool .tnil))) 94 0 [1, 1, 1, 0, 0, 0]) ⟨[(0, ⟨(.list tapiPair), x0⟩), (1, ⟨.str, x1⟩), (2, ⟨(.fn 95 .tnil), ()⟩), (8, ⟨(.int .i64), x2⟩), (9, ⟨(.int .i64), x3⟩), (10, ⟨(.int .i64), x4⟩)], []⟩ (blockK 0 (seqK false [1, 1, 1, 1] (BF 94 0 [1, 1, 1, 1]) (finF 94 (.tcons (.int .i64) (.tcons .bool .tnil)) [] 0)))
noncomputable def slices_IndexFuncapi_Pair_api_Pair (a0 : den (.list tapiPair)) : Option (den (.int .i64)) := CF 98 [⟨(.list tapiPair), a0⟩, ⟨(.fn 81 .tnil), ()⟩] [] (.int .i64) []
noncomputable def slices_IndexFuncapi_Pair_api_Pair.l0 (x0 : den (.list tapiPair)) (x1 : den (.int .i64)) (x2 : den (.int .i64)) : Option (den (.int .i64)) := loopW [1, 0, 1, 0, 0] (BF (R := den (.int .i64)) 98 0 [1, 0, 1, 0, 0]) ⟨[(0, ⟨(.list tapiPair), x0⟩), (1, ⟨(.fn 81 .tnil), ()⟩), (7, ⟨(.int .i64), x1⟩), (8, ⟨(.int .i64), x2⟩)], []⟩ (blockK 0 (seqK false [1, 1] (BF 98 0 [1, 1]) (finF 98 (.int .i64) [] 0)))
noncomputable def math_bits_OnesCount32 (a0 : den (.int .u32)) : Option (den (.int .i64)) := CF 99 [⟨(.int .u32), a0⟩] [] (.int .i64) []
noncomputable def slices_Indexapi_Ref_api_Ref (a0 : den (.list (.int .i64))) (a1 : den (.int .i64)) : Option (den (.int .i64)) := CF 100 [⟨(.list (.int .i64)), a0⟩, ⟨(.int .i64), a1⟩] [] (.int .i64) []
noncomputable def slices_Indexapi_Ref_api_Ref.l0 (x0 : den (.list (.int .i64))) (x1 : den (.int .i64)) (x2 : den (.int .i64)) (x3 : den (.int .i64)) : Option (den (.int .i64)) := loopW [1, 0, 1, 0, 0] (BF (R := den (.int .i64)) 100 0 [1, 0, 1, 0, 0]) ⟨[(0, ⟨(.list (.int .i64)), x0⟩), (1, ⟨(.int .i64), x1⟩), (7, ⟨(.int .i64), x2⟩), (8, ⟨(.int .i64), x3⟩)], []⟩ (blockK 0 (seqK false [1, 1] (BF 100 0 [1, 1]) (finF 100 (.int .i64) [] 0)))
noncomputable def pri_Of (a0 : den .str) : Option (den (.int .u64)) := CF 101 [⟨.str, a0⟩] [] (.int .u64) []
noncomputable def ref04_Of (a0 : den .str) (a1 : den (.int .i64)) : Option (den (.int .u64)) := CF 102 [⟨.str, a0⟩, ⟨(.int .i64), a1⟩] [] (.int .u64) []
noncomputable def ref04_Of.l0 (x0 : den .str) (x1 : den (.int .i64)) (x2 : den (.int .u64)) (x3 : den (.int .i64)) : Option (den (.int .u64)) := loopW [1, 1, 0, 1, 0, 0] (BF (R := den (.int .u64)) 102 0 [1, 1, 0, 1, 0, 0]) ⟨[(0, ⟨.str, x0⟩), (1, ⟨(.int .i64), x1⟩), (5, ⟨(.int .u64), x2⟩), (6, ⟨(.int .i64), x3⟩)], []⟩ (blockK 0 (seqK false [1, 1, 1] (BF 102 0 [1, 1, 1]) (finF 102 (.int .u64) [] 0)))
noncomputable def ref04_Of.l1 (x0 : den (.int .i64)) (x1 : den (.int .u64)) (x2 : den (.int .u64)) (x3 : den (.int .u64)) (x4 : den (.int .i64)) : Option (den (.int .u64)) := loopW [1, 1, 1, 1, 0, 1, 0, 0] (BF (R := den (.int .u64)) 102 0 [1, 1, 1, 1, 0, 1, 0, 0]) ⟨[(1, ⟨(.int .i64), x0⟩), (5, ⟨(.int .u64), x1⟩), (7, ⟨(.int .u64), x2⟩), (8, ⟨(.int .u64), x3⟩), (9, ⟨(.int .i64), x4⟩)], []⟩ (blockK 2 (seqK false [1, 1, 1, 1, 1] (BF 102 0 [1, 1, 1, 1, 1]) (finF 102 (.int .u64) [] 0)))
noncomputable def ref05_down (a0 : den (.int .u64)) (a1 : den (.int .i64)) : Option (den (.int .u64)) := CF 103 [⟨(.int .u64), a0⟩, ⟨(.int .i64), a1⟩] [] (.int .u64) []
noncomputable def ref05_down.l0 (x0 : den (.int .u64)) (x1 : den (.int .i64)) (x2 : den (.int .i64)) : Option (den (.int .u64)) := loopW [1, 0, 1, 0, 0] (BF (R := den (.int .u64)) 103 0 [1, 0, 1, 0, 0]) ⟨[(0, ⟨(.int .u64), x0⟩), (1, ⟨(.int .i64), x1⟩), (5, ⟨(.int .i64), x2⟩)], []⟩ (blockK 0 (seqK false [1, 1] (BF 103 0 [1, 1]) (finF 103 (.int .u64) [] 0)))
noncomputable def ref13_bare (a0 : den tapiNode) (a1 : den .bool) (a2 : den .bool) (a3 : den .bool) (a4 : den .bool) : Option (den .bool) := CF 104 [⟨tapiNode, a0⟩, ⟨.bool, a1⟩, ⟨.bool, a2⟩, ⟨.bool, a3⟩, ⟨.bool, a4⟩] [] .bool []
noncomputable def ref07_Is (a0 : den (.list tapiPair)) : Option (den .bool) := CF 106 [⟨(.list tapiPair), a0⟩] [] .bool []
noncomputable def ref07_Is.l0 (x0 : den (.list tapiPair)) (x1 : den (.int .i64)) : Option (den .bool) := loopW [1, 0, 1, 0, 0] (BF (R := den .bool) 106 0 [1, 0, 1, 0, 0]) ⟨[(0, ⟨(.list tapiPair), x0⟩), (3, ⟨(.int .i64), x1⟩)], []⟩ (blockK 0 (seqK false [1, 1] (BF 106 0 [1, 1]) (finF 106 .bool [] 0)))
noncomputable def ref06_All (a0 : den (.int .u32)) : Option (den (.list (.int .i64))) := CF 105 [⟨(.int .u32), a0⟩] [] (.list (.int .i64)) []
noncomputable def ref06_All.l0 (x0 : den (.int .u32)) (x1 : den (.int .i64)) (x2 : denO (.row 3 (.int .i64) false)) : Option (den (.list (.int .i64))) := loopW [1, 1, 0, 1, 0, 0] (BF (R := den (.list (.int .i64))) 105 0 [1, 1, 0, 1, 0, 0]) ⟨[(0, ⟨(.int .u32), x0⟩), (3, ⟨(.own (.int .i64) 0), ()⟩), (4, ⟨(.int .i64), x1⟩)], [⟨(.row 3 (.int .i64) false), x2⟩]⟩ (blockK 0 (seqK false [1, 1, 1] (BF 105 0 [1, 1, 1]) (finF 105 (.list (.int .i64)) [] 0)))
noncomputable def pair_place_1 (a0 : den tapiPair) (a1 : den .str) : Option (den (.int .i64)) := CF 95 [⟨tapiPair, a0⟩, ⟨.str, a1⟩] [] (.int .i64) []
noncomputable def hash_Of (a0 : den .str) (a1 : den (.int .i64)) : Option (den (.int .u64)) := CF 108 [⟨.str, a0⟩, ⟨(.int .i64), a1⟩] [] (.int .u64) []
noncomputable def hash_Of.l0 (x0 : den .str) (x1 : den (.int .i64)) (x2 : den (.int .u64)) (x3 : den (.int .i64)) (x4 : den (.int .i64)) : Option (den (.int .u64)) := loopW [1, 1, 0, 1, 0, 0] (BF (R := den (.int .u64)) 108 0 [1, 1, 0, 1, 0, 0]) ⟨[(0, ⟨.str, x0⟩), (1, ⟨(.int .i64), x1⟩), (5, ⟨(.int .u64), x2⟩), (8, ⟨(.int .i64), x3⟩), (9, ⟨(.int .i64), x4⟩)], []⟩ (blockK 0 (seqK false [1, 1, 1] (BF 108 0 [1, 1, 1]) (finF 108 (.int .u64) [] 0)))
noncomputable def ref04_clamp (a0 : den (.int .i64)) : Option (den (.int .i64)) := CF 109 [⟨(.int .i64), a0⟩] [] (.int .i64) []
noncomputable def ref06_Has (a0 : den (.int .u32)) (a1 : den (.int .i64)) : Option (den .bool) := CF 110 [⟨(.int .u32), a0⟩, ⟨(.int .i64), a1⟩] [] .bool []
noncomputable def ref06_Has.l0 (x0 : den (.int .u32)) (x1 : den (.int .i64)) (x2 : den (.int .i64)) : Option (den .bool) := loopW [1, 0, 1, 0, 0] (BF (R := den .bool) 110 0 [1, 0, 1, 0, 0]) ⟨[(0, ⟨(.int .u32), x0⟩), (1, ⟨(.int .i64), x1⟩), (5, ⟨(.int .i64), x2⟩)], []⟩ (blockK 0 (seqK false [1, 1] (BF 110 0 [1, 1]) (finF 110 .bool [] 0)))
noncomputable def hash_cut (a0 : den (.int .u64)) (a1 : den (.int .i64)) : Option (den (.int .u64)) := CF 112 [⟨(.int .u64), a0⟩, ⟨(.int .i64), a1⟩] [] (.int .u64) []
noncomputable def hash_within (a0 : den (.int .i64)) : Option (den (.int .i64)) := CF 113 [⟨(.int .i64), a0⟩] [] (.int .i64) []
end Go.Proofs.Ytimgaglpempfeaa.AA
