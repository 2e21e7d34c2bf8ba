/- Texts of one proof, laid together: how the interpreter's words stand for the program's code and what the functions do. No conditions but those that each lemma names. -/
import Derived.Test.YtjekopgcpikkiaaDoorM2
import Derived.Test.YtjekopgcpikkiaaDoorProg
import Derived.WalkKit
import Derived.WalkMore
import Derived.Laws.BitsLemmas
import Derived.Shelf.Spec.TrailingZeros
import Derived.WideShapes
set_option linter.unusedSimpArgs false
set_option maxRecDepth 100000
set_option linter.unusedVariables false
namespace Go.Proofs.YtjekopgcpikkiaaDoor.AA.Part
open Go.Abs
/-- What is kept behind a region. -/
def pK (fn i : Nat) : List Nat := if i = 3 ∨ i = 8 ∨ i = 9 then [0, 2, 9, 14, 15, 16] else if i = 10 then [6, 7] else [0, 1, 2, 9, 11, 12, 14, 15, 16, 17]
def pT : Go.Abs.Told := ⟨TB, HH, pK, fun _ => false, fun _ _ => false, fun _ _ => false, fun _ => none, fun _ _ _ => none⟩
noncomputable def pc (p : List Nat) : Code := sub p (codeOf PP 46)
def opsOf : Code → Array Oper
  | .region _ ops _ => ops
  | _ => #[]
noncomputable abbrev rg (p : List Nat) (i : Nat) (d : Bool) : Code := .region i (opsOf (pc p)) d
abbrev pB : List Nat := [1, 1, 1, 0, 1, 0, 0]
noncomputable def bodyC : Code := .seq (rg (pB ++ [0]) 4 false) (.seq (.cond (.tmp 17) .skip (.exit 0)) (.seq (.block 1 (.seq (rg (pB ++ [1, 1, 0, 0, 0]) 5 false) (.seq (rg (pB ++ [1, 1, 0, 0, 1, 0]) 6 true) (.seq (rg (pB ++ [1, 1, 0, 0, 1, 1, 0]) 7 false) (rg (pB ++ [1, 1, 0, 0, 1, 1, 1]) 8 false))))) (rg (pB ++ [1, 1, 1]) 9 false)))
noncomputable def allC : Code := .seq (rg [0] 0 false) (.seq (rg [1, 0] 1 false) (.seq (rg [1, 1, 0] 2 false) (.seq (.seq (rg [1, 1, 1, 0, 0] 3 false) (.block 0 (.loop bodyC))) (.seq (rg [1, 1, 1, 1, 0] 10 false) .ret))))
theorem skel : codeOf PP 46 = allC := by kernel_rfl
theorem seven7 : Seven PP (opsOf (pc (pB ++ [1, 1, 0, 0, 1, 1, 0]))) 71 51 3 28 :=
  ⟨by kernel_rfl, by kernel_rfl, by kernel_rfl, by kernel_rfl, by kernel_rfl, by kernel_rfl, by kernel_rfl, by kernel_rfl, by kernel_rfl, by kernel_rfl, by kernel_rfl, by kernel_rfl⟩
section
variable (C : AbsFn) (t1 : Ty) (e1 : Nat) (t2 : Ty)
abbrev BT : Ty := .pair (.int .i64) (.pair (.own t1 1) .unit)
abbrev OB (x : den (BT t1)) (ns : List (den t2)) : List AObj := [⟨.box (BT t1), x⟩, ⟨.row e1 t2 true, ns⟩]
variable (x : den (BT t1)) (ns : List (den t2)) (l : List (den PT)) (lv : Int)
def S0 : St := ⟨[(0, ⟨.ptr 0 0, ()⟩), (1, ⟨.list PT, l⟩), (2, ⟨.int .i64, lv⟩)], OB t1 e1 t2 x ns⟩
def S1 : St := ⟨[(0, ⟨.ptr 0 0, ()⟩), (1, ⟨.list PT, l⟩), (2, ⟨.int .i64, lv⟩), (9, ⟨.int .u32, (0 : Int)⟩)], OB t1 e1 t2 x ns⟩
def SL (k sN : Int) : St := ⟨[(0, ⟨.ptr 0 0, ()⟩), (2, ⟨.int .i64, lv⟩), (9, ⟨.int .u32, sN⟩), (14, ⟨.list PT, l⟩), (15, ⟨.int .i64, ofN (lenL PT l)⟩), (16, ⟨.int .i64, k⟩)], OB t1 e1 t2 x ns⟩
def SC (k sN : Int) : St := ⟨[(0, ⟨.ptr 0 0, ()⟩), (2, ⟨.int .i64, lv⟩), (9, ⟨.int .u32, sN⟩), (14, ⟨.list PT, l⟩), (15, ⟨.int .i64, ofN (lenL PT l)⟩), (16, ⟨.int .i64, k⟩), (17, ⟨.bool, ltI k (ofN (lenL PT l))⟩)], OB t1 e1 t2 x ns⟩
def S5 (k sN : Int) : St := ⟨[(0, ⟨.ptr 0 0, ()⟩), (2, ⟨.int .i64, lv⟩), (9, ⟨.int .u32, sN⟩), (11, ⟨.ptr 2 0, ()⟩), (14, ⟨.list PT, l⟩), (15, ⟨.int .i64, ofN (lenL PT l)⟩), (16, ⟨.int .i64, k⟩)], OB t1 e1 t2 x ns ++ [⟨.box PT, ixL PT l k⟩]⟩
def S6 (k sN i : Int) : St := ⟨[(0, ⟨.ptr 0 0, ()⟩), (2, ⟨.int .i64, lv⟩), (9, ⟨.int .u32, sN⟩), (11, ⟨.ptr 2 0, ()⟩), (12, ⟨.int .i64, i⟩), (14, ⟨.list PT, l⟩), (15, ⟨.int .i64, ofN (lenL PT l)⟩), (16, ⟨.int .i64, k⟩)], OB t1 e1 t2 x ns ++ [⟨.box PT, ixL PT l k⟩]⟩
def S7 (k sN i : Int) : St := ⟨[(0, ⟨.ptr 0 0, ()⟩), (2, ⟨.int .i64, lv⟩), (9, ⟨.int .u32, sN⟩), (11, ⟨.ptr 2 0, ()⟩), (12, ⟨.int .i64, i⟩), (14, ⟨.list PT, l⟩), (15, ⟨.int .i64, ofN (lenL PT l)⟩), (16, ⟨.int .i64, k⟩), (38, ⟨PT, ixL PT l k⟩)], OB t1 e1 t2 x ns ++ [⟨.box PT, ixL PT l k⟩, ⟨.row 51 PT false, [ixL PT l k]⟩]⟩
def SZ (m : Int → List (den PT)) (sN : Int) : St := ⟨[(6, ⟨.mp PT, m⟩), (7, ⟨.int .u32, sN⟩)], OB t1 e1 t2 x ns⟩
theorem run2 : runD pT C LP0 46 47 2 [1, 1, 0] (rg [1, 1, 0] 2 false) (S0 t1 e1 t2 x ns l lv) idK = some (S1 t1 e1 t2 x ns l lv) := by kernel_rfl
theorem run3 : runD pT C LP0 46 47 2 [1, 1, 1, 0, 0] (rg [1, 1, 1, 0, 0] 3 false) (S1 t1 e1 t2 x ns l lv) idK = some (SL t1 e1 t2 x ns l lv 0 0) := by kernel_rfl
theorem run4 (k sN : Int) : runD pT C LP0 46 47 2 (pB ++ [0]) (rg (pB ++ [0]) 4 false) (SL t1 e1 t2 x ns l lv k sN) idK = some (SC t1 e1 t2 x ns l lv k sN) := by kernel_rfl
theorem cut4 (k sN : Int) : cutT pT 46 (SC t1 e1 t2 x ns l lv k sN) 17 true = SL t1 e1 t2 x ns l lv k sN ∧ cutT pT 46 (SC t1 e1 t2 x ns l lv k sN) 17 false = SL t1 e1 t2 x ns l lv k sN := ⟨by kernel_rfl, by kernel_rfl⟩
theorem run5 (k sN : Int) : runD pT C LP0 46 47 2 (pB ++ [1, 1, 0, 0, 0]) (rg (pB ++ [1, 1, 0, 0, 0]) 5 false) (SL t1 e1 t2 x ns l lv k sN) idK = br (andB (leI 0 k) (ltI k (ofN (lenL PT l)))) (some (S5 t1 e1 t2 x ns l lv k sN)) none := by kernel_rfl
theorem run6 (k sN : Int) : runD pT C LP0 46 47 2 (pB ++ [1, 1, 0, 0, 1, 0]) (rg (pB ++ [1, 1, 0, 0, 1, 0]) 6 true) (S5 t1 e1 t2 x ns l lv k sN) idK =
    bnd (C 71 [⟨.str, (ixL PT l k).1⟩, ⟨.int .i64, x.1⟩] [] (.int .u64) []) fun h => bnd (C 70 [⟨.int .u64, h⟩, ⟨.int .i64, lv⟩, ⟨.int .i64, x.1⟩] [] (.int .i64) []) fun i => some (S6 t1 e1 t2 x ns l lv k sN i) := by kernel_rfl
theorem run8 (k sN i : Int) : runD pT C LP0 46 47 2 (pB ++ [1, 1, 0, 0, 1, 1, 1]) (rg (pB ++ [1, 1, 0, 0, 1, 1, 1]) 8 false) ((S7 t1 e1 t2 x ns l lv k sN i).put (some 39) ⟨.own PT 3, ()⟩) idK =
    bnd (C 72 [⟨.int .u32, sN⟩, ⟨.int .i64, i⟩] [] (.int .u32) []) fun s => some (SL t1 e1 t2 x ns l lv k s) := by kernel_rfl
theorem run9 (k sN : Int) : runD pT C LP0 46 47 2 (pB ++ [1, 1, 1]) (rg (pB ++ [1, 1, 1]) 9 false) (SL t1 e1 t2 x ns l lv k sN) idK = some (SL t1 e1 t2 x ns l lv (addI .i64 k 1) sN) := by kernel_rfl
theorem run10 (m : Int → List (den PT)) (k sN : Int) : runD pT C LP0 46 47 2 [1, 1, 1, 1, 0] (rg [1, 1, 1, 1, 0] 10 false) ⟨putT (SL t1 e1 t2 x ns l lv k sN).tmps 8 ⟨.mp PT, m⟩, OB t1 e1 t2 x ns⟩ idK = some (SZ t1 e1 t2 x ns m sN) := by kernel_rfl
theorem h5 (k sN i : Int) : ∀ o : Oper, o.op = .load 51 (.tmp 11) → opP pT 46 o (S6 t1 e1 t2 x ns l lv k sN i) = some (true, ⟨PT, ixL PT l k⟩, S6 t1 e1 t2 x ns l lv k sN i) := by
  intro o ho
  unfold opP
  rw [ho]
  kernel_rfl
theorem h6 (k sN i : Int) : ∀ o : Oper, o.op = .buildSlice 28 1 #[(0, .tmp 38)] → opP pT 46 o ((S6 t1 e1 t2 x ns l lv k sN i).put (some 38) ⟨PT, ixL PT l k⟩) = some (true, ⟨.own PT 3, ()⟩, S7 t1 e1 t2 x ns l lv k sN i) := by
  intro o ho
  unfold opP
  rw [ho]
  kernel_rfl
end
theorem tabT : TabOK PP pT.tb := tabIs_ok (by kernel_rfl)
theorem mixed : PP.follows .mixedOrders = true := by kernel_rfl
theorem row7 : ∃ info, rowT pT 28 = some (51, info) ∧ info.ty = PT := ⟨_, rfl, rfl⟩
theorem zero7 : ∀ w, (zeroValue 28).run PP w = .ok (.slice none 0 0) w := by
  intro w
  have he : ∃ e a b c d f, Abs.look pT.tb 28 = some ⟨e, a, b, c, ⟨.nil d, ()⟩, f⟩ := ⟨_, _, _, _, _, _, rfl⟩
  obtain ⟨_, _, _, _, _, _, he⟩ := he
  obtain ⟨i, hi, hsz, hby, hzz⟩ := (tabT _ _ he).info
  obtain ⟨zv, hz1, hz2, _, hz3⟩ := hzz rfl
  have hzv : zv = .slice none 0 0 := by
    have := hz3 w (fun _ => False) (fun _ => default)
    injection (show [zv] = [_] from this)
  subst hzv
  simp [zeroValue, typeInfo, hi, hz1]
abbrev AA (mb : Nat) (a : Act) : Prop := a.tmps.size = 47 ∧ a.defers = [] ∧ a.tmps.getD 8 undef = .map (some mb)
theorem aok (mb : Nat) {c : Code} (h : (wr c).all (fun u => decide (u ≠ 8)) = true) : AOK 47 (AA mb) (wr c) :=
  ⟨fun a h => h.1, fun u hu a v ha => ⟨by rw [size_put]; exact ha.1, by rw [put_defers]; exact ha.2.1, by
    have : u ≠ 8 := by simpa using List.all_eq_true.1 h u hu
    rw [getD_put, if_neg fun e => this e.1]
    exact ha.2.2⟩⟩
theorem bnd_s {A R : Type} (a : A) (K : A → Option R) : bnd (some a) K = K a := rfl
theorem some_of_bnd {A R : Type} {x : Option A} {K : A → Option R} {r : R} (h : bnd x K = some r) : ∃ y, x = some y ∧ K y = some r := by
  cases x with
  | none => cases h
  | some y => exact ⟨y, rfl, h⟩
set_option maxHeartbeats 2000000 in
theorem loop_ok {C : AbsFn} (hC : Sound PP C) (t1 : Ty) (e1 : Nat) (t2 : Ty) (x : den (BT t1)) (ns : List (den t2)) (l : List (den PT)) (lv : Int) (hfit : l.length ≤ 1073741824) {E : Env} (hE : E.m = 2) {mb : Nat} {mF : Int → List (den PT)} {sF : Int} {n : Nat} {Q : Exit → Act → World → Prop}
    (hend : ∀ a w Fr mu es ck k, Rw E w Fr mu (SL t1 e1 t2 x ns l lv k sF) a → AA mb a → GG E.w0.heap.size 51 mb mF es ck Fr (Mine mu (SL t1 e1 t2 x ns l lv k sF).heap) w → Q (.exit 0) a w) :
    ∀ (rest done : List (den PT)) (m : Int → List (den PT)) (sN : Int), l = done ++ rest → partL C 71 70 72 (.pair .str .unit) lv x.1 rest m sN = some (mF, sF) → (∀ i, (m i).length ≤ done.length) →
      ∀ (a : Act) (w : World) (Fr : Nat → Prop) (mu : Nat → Go.Abs.Loc) (es : Array MapEntry) (ck : Nat), Rw E w Fr mu (SL t1 e1 t2 x ns l lv (done.length : Nat) sN) a → AA mb a → GG E.w0.heap.size 51 mb m es ck Fr (Mine mu (SL t1 e1 t2 x ns l lv (done.length : Nat) sN).heap) w →
        Code.roundsIn (fc none) n PP bodyC Q (rest.length + 1) a w := by
  intro rest
  induction rest with
  | nil =>
    intro done m sN hl hp hm a w Fr mu es ck H ha hg
    rw [roundsIn_succ]
    unfold bodyC
    refine wpIn_seq (seg mixed tabT hC rfl (by kernel_rfl) rfl (aok mb (by kernel_rfl)) GG.abides H ha hg hE (run4 C t1 e1 t2 x ns l lv (done.length : Nat) sN) ?_)
    intro a w Fr mu H ha hg
    have hb : getT (SC t1 e1 t2 x ns l lv (done.length : Nat) sN).tmps 17 = ⟨.bool, ltI (done.length : Nat) (ofN (lenL PT l))⟩ := rfl
    have hf : ltI (done.length : Nat) (ofN (lenL PT l)) = false := by
      rw [hl]; simp [ltI, ofN, lenL]
    rw [hf] at hb
    have hv := (H.reb.get 17).1
    rw [hb] at hv
    have H2 := cut_Rw (T := pT) H 46 hb
    rw [(cut4 t1 e1 t2 x ns l lv (done.length : Nat) sN).2] at H2
    injection hp with hp
    injection hp with h1 h2
    subst h1; subst h2
    exact wpIn_seq (wpIn_cond_false (VR_bool hv) (wpIn_exit (hend a w Fr mu es ck _ H2 ha hg)))
  | cons p rest ih =>
    intro done m sN hl hp hm a w Fr mu es ck H ha hg
    have hkl : done.length < l.length := by rw [hl]; simp
    have hix : ixL PT l (done.length : Nat) = p := by rw [hl]; simp [ixL]
    unfold partL at hp
    obtain ⟨hh, c1, hp⟩ := some_of_bnd hp
    obtain ⟨ii, c2, hp⟩ := some_of_bnd hp
    obtain ⟨ss, c3, hp⟩ := some_of_bnd hp
    rw [roundsIn_succ]
    unfold bodyC
    refine wpIn_seq (seg mixed tabT hC rfl (by kernel_rfl) rfl (aok mb (by kernel_rfl)) GG.abides H ha hg hE (run4 C t1 e1 t2 x ns l lv (done.length : Nat) sN) ?_)
    intro a w Fr mu H ha hg
    have hb : getT (SC t1 e1 t2 x ns l lv (done.length : Nat) sN).tmps 17 = ⟨.bool, ltI (done.length : Nat) (ofN (lenL PT l))⟩ := rfl
    have hf : ltI (done.length : Nat) (ofN (lenL PT l)) = true := by
      simp [ltI, ofN, lenL]; exact hkl
    rw [hf] at hb
    have hv := (H.reb.get 17).1
    rw [hb] at hv
    have H2 := cut_Rw (T := pT) H 46 hb
    rw [(cut4 t1 e1 t2 x ns l lv (done.length : Nat) sN).1] at H2
    refine wpIn_seq (wpIn_cond_true (VR_bool hv) (wpIn_skip ?_))
    refine wpIn_seq (wpIn_block ?_)
    refine wpIn_seq (seg mixed tabT hC rfl (by kernel_rfl) rfl (aok mb (by kernel_rfl)) GG.abides H2 ha hg hE (s' := S5 t1 e1 t2 x ns l lv (done.length : Nat) sN) (by
      rw [run5]
      have : andB (leI 0 (done.length : Nat)) (ltI (done.length : Nat) (ofN (lenL PT l))) = true := by rw [hf]; simp [andB, leI]
      rw [this]; rfl) ?_)
    intro a w Fr mu H ha hg
    refine wpIn_seq (seg mixed tabT hC rfl (by kernel_rfl) rfl (aok mb (by kernel_rfl)) GG.abides H ha hg hE (s' := S6 t1 e1 t2 x ns l lv (done.length : Nat) sN ii) (by
      rw [run6, hix, c1, bnd_s, c2]; rfl) ?_)
    intro a w Fr mu H ha hg
    refine wpIn_seq (wpIn_mono (Q := normQ _) (wpIn_region ?_) fun e a w hh => by obtain ⟨rfl, hq⟩ := hh; exact hq)
    obtain ⟨info, hrow, hty⟩ := row7
    refine seven (T := pT) (p := p) tabT seven7 hrow hty zero7 (fn := 46) (nt := 47) (j := 3) (i := ii) (s5 := S6 t1 e1 t2 x ns l lv (done.length : Nat) sN ii) (s6 := S7 t1 e1 t2 x ns l lv (done.length : Nat) sN ii) (Nat.le_refl _) H ha.1 ha.2.2 hg (by have := hm ii; omega) rfl ?_ ?_ ?_ ⟨rfl, rfl⟩ ?_ ?_
    · intro u hu
      simp only [List.mem_cons, List.not_mem_nil, or_false] at hu
      rcases hu with rfl | rfl | rfl | rfl | rfl | rfl <;> rfl
    · rw [← hix]; exact h5 t1 e1 t2 x ns l lv (done.length : Nat) sN ii
    · rw [← hix]; exact h6 t1 e1 t2 x ns l lv (done.length : Nat) sN ii
    · rw [← hix]; rfl
    intro a' w Fr mu es ck H hsz h8 hd hg
    have ha : AA mb a' := ⟨hsz, by rw [hd]; exact ha.2.1, h8⟩
    show Code.wpIn _ _ _ _ _ _ _
    refine seg mixed tabT hC rfl (by kernel_rfl) rfl (aok mb (by kernel_rfl)) GG.abides H ha hg hE (s' := SL t1 e1 t2 x ns l lv (done.length : Nat) ss) (by
      rw [run8, c3]; rfl) ?_
    intro a w Fr mu H ha hg
    show Code.wpIn _ _ _ _ _ _ _
    refine seg mixed tabT hC rfl (by kernel_rfl) rfl (aok mb (by kernel_rfl)) GG.abides H ha hg hE (run9 C t1 e1 t2 x ns l lv (done.length : Nat) ss) ?_
    intro a w Fr mu H ha hg
    have hk : addI .i64 (done.length : Nat) 1 = ((done ++ [p]).length : Nat) := by
      unfold addI
      rw [IntKind.wrap_i64]
      simp only [List.length_append, List.length_cons, List.length_nil]
      omega
    rw [hk] at H
    refine ih (done ++ [p]) (putM PT m ii p) ss (by rw [hl]; simp) hp (fun i => ?_) a w Fr mu es ck H ha hg
    unfold putM
    have := hm i
    split <;> simp <;> omega
theorem fin10 (x : den (BT tapiNode)) (ns : List (den tapiNode)) (m : Int → List (den PT)) (sN : Int) :
    finD pT (funcOf PP 46) (.tcons (.mp PT) (.tcons (.int .u32) .tnil)) [.box (BT tapiNode), .row 41 tapiNode true] 2 (SZ tapiNode 41 tapiNode x ns m sN) = some (mkR (.tcons (.mp PT) (.tcons (.int .u32) .tnil)) (m, (sN, ())) [.box (BT tapiNode), .row 41 tapiNode true] (x, (ns, ()))) := by kernel_rfl
theorem start (x : den (BT tapiNode)) (ns : List (den tapiNode)) (l : List (den PT)) (lv : Int) (z : Unit) : (⟨numD 0 [⟨.ptr 0 0, z⟩, ⟨.list PT, l⟩, ⟨.int .i64, lv⟩], OB tapiNode 41 tapiNode x ns⟩ : St) = S0 tapiNode 41 tapiNode x ns l lv := rfl
theorem two_objs {t u : OTy} {x : denO t} {y : denO u} : ∀ {ots : List OTy} {z : denOs ots}, [⟨t, x⟩, ⟨u, y⟩] = objsOf ots z → ots = [t, u] ∧ HEq z ((x, (y, ())) : denOs [t, u])
  | [], z, h => by cases h
  | [a], z, h => by
    have h : [⟨t, x⟩, ⟨u, y⟩] = [(⟨a, z.1⟩ : AObj)] := h
    simp at h
  | [a, b], z, h => by
    have h : [⟨t, x⟩, ⟨u, y⟩] = [(⟨a, z.1⟩ : AObj), ⟨b, z.2.1⟩] := h
    injection h with h1 h2
    injection h2 with h2 _
    cases h1
    cases h2
    exact ⟨rfl, HEq.rfl⟩
  | a :: b :: c :: l, z, h => by
    have h : [⟨t, x⟩, ⟨u, y⟩] = ((⟨a, z.1⟩ : AObj) :: ⟨b, z.2.1⟩ :: objsOf (c :: l) z.2.2) := h
    injection h with _ h
    injection h with _ h
    cases h
set_option maxHeartbeats 2000000 in
theorem part_ok (C : AbsFn) (hC : Sound PP C) (args : List Dyn) (objs : List AObj) (rt : Ty) (ots : List OTy) (r : denR rt ots) (h : (Prim.part 71 70 72 (.pair .str .unit) 41 tapiNode).run C 46 args objs rt ots = some r) : Abs.Enters PP 46 ∧
    ∀ (w : World) (Fr : Nat → Prop) (mu : Nat → Go.Abs.Loc) (vs : List Value), Pre w Fr mu objs args vs → Calls PP 46 vs.toArray w fun e w' => ∃ v Fr' mu', e = .returned v ∧ Post w Fr mu objs ⟨rt, resT rt ots r⟩ (resO rt ots r) v w' Fr' mu' := by
  refine ⟨⟨Tryd.f46, Tryd.func46, by kernel_rfl, names_ok (by kernel_rfl) _ _ Tryd.func46⟩, ?_⟩
  unfold Prim.run partP at h
  dsimp only at h
  split at h
  case h_2 => cases h
  rename_i z t l lv t1 x e1 t2 ns
  split at h
  case isFalse => cases h
  rename_i hty
  obtain ⟨rfl, rfl, rfl⟩ := hty
  split at h
  case h_2 => cases h
  rename_i l' hl
  have hl := as_some hl
  injection hl with hl1 hl2
  injection hl1 with hl1
  subst hl1
  have hl2 := eq_of_heq hl2
  subst hl2
  obtain ⟨hfit, h⟩ := br_none h
  obtain ⟨q, hq, h⟩ := some_of_bnd h
  split at h
  case h_2 => cases h
  rename_i v y hv hy
  injection h with h
  subst h
  have hv := as_some hv
  cases hv
  obtain ⟨rfl, hy⟩ := two_objs (asObjs_some _ _ _ hy)
  cases hy
  have hfit : l.length ≤ 1073741824 := by unfold fitL at hfit; simpa using hfit
  obtain ⟨mF, sF⟩ := q
  intro w Fr mu vs hpre
  obtain ⟨fn, c, hf, hbody, hfo, hco⟩ := body_of (P := PP) (f := 46) (by kernel_rfl)
  have hnt : fn.ntmps = 47 := by rw [← hfo]; kernel_rfl
  obtain ⟨hsz, htm⟩ := start_tm (fn := fn) hpre (by rw [hnt]; show 3 ≤ 47; decide)
  refine callsIn_wide.1 (callsIn_of_wp_marks (n := 0) hf hbody trivial ?_)
  rw [← hco, skel]
  have hrep0 : Rw (env w Fr mu (OB tapiNode 41 tapiNode x ns)) w Fr mu (S0 tapiNode 41 tapiNode x ns l lv) { tmps := vs.toArray ++ Array.replicate (fn.ntmps - vs.toArray.size) undef, defers := [] } := by
    rw [← start x ns l lv z]
    refine ⟨⟨Grow.refl _ w, fun _ => id, fun _ => .inl, hpre.frL, hpre.so.hh, hpre.so.obj, hpre.so.nm, hpre.so.sep, ?_, fun i o _ _ => hand_start (objs := OB tapiNode 41 tapiNode x ns) i o, Nat.le_refl _, hpre.gl⟩, htm, ⟨by simp, by simp⟩, numD_sorted _ 0⟩
    intro i o hi ho
    obtain ⟨h1, h2⟩ := hpre.so.own i o hi ho
    exact ⟨.inl ⟨i, o, hi, ho, rfl⟩, h1, h2⟩
  have hsz0 : ({ tmps := vs.toArray ++ Array.replicate (fn.ntmps - vs.toArray.size) undef, defers := [] } : Act).tmps.size = 47 := hsz.trans hnt
  have hd0 : ({ tmps := vs.toArray ++ Array.replicate (fn.ntmps - vs.toArray.size) undef, defers := [] } : Act).defers = [] := rfl
  revert hrep0 hsz0 hd0
  generalize ({ tmps := vs.toArray ++ Array.replicate (fn.ntmps - vs.toArray.size) undef, defers := [] } : Act) = a
  intro H hsz hd
  change Code.wpIn (fc none) 0 PP _ _ a w
  unfold allC
  refine wpIn_seq (wpIn_mono (Q := normQ _) (wpIn_region ?_) fun e a w hh => by obtain ⟨rfl, hq⟩ := hh; exact hq)
  rw [show (opsOf (pc [0])).size = 2 by kernel_rfl]
  show wpOpsIn (fc none) 0 PP _ _ [0, 1] a w
  refine moveI (u := 6) (x := .const (.map none)) (.inr (by kernel_rfl)) ?_
  refine moveI (u := 7) (x := .const (.int .u32 0)) (.inr (by kernel_rfl)) ?_
  refine ⟨rfl, ?_⟩
  have H := (H.skip (u := 6) rfl (a.eval (.const (.map none)))).skip (u := 7) rfl ((a.put (some 6) (a.eval (.const (.map none)))).eval (.const (.int .u32 0)))
  have hsz : ((a.put (some 6) (a.eval (.const (.map none)))).put (some 7) ((a.put (some 6) (a.eval (.const (.map none)))).eval (.const (.int .u32 0)))).tmps.size = 47 := by rw [size_put, size_put]; exact hsz
  have hd : ((a.put (some 6) (a.eval (.const (.map none)))).put (some 7) ((a.put (some 6) (a.eval (.const (.map none)))).eval (.const (.int .u32 0)))).defers = [] := hd
  revert H hsz hd
  generalize (a.put (some 6) (a.eval (.const (.map none)))).put (some 7) ((a.put (some 6) (a.eval (.const (.map none)))).eval (.const (.int .u32 0))) = a
  intro H hsz hd
  show Code.wpIn _ _ _ _ _ _ _
  refine wpIn_seq (wpIn_mono (Q := normQ _) (wpIn_region ?_) fun e a w hh => by obtain ⟨rfl, hq⟩ := hh; exact hq)
  rw [show (opsOf (pc [1, 0])).size = 2 by kernel_rfl]
  show wpOpsIn (fc none) 0 PP _ _ [0, 1] a w
  refine mapI (t := 71) (u := 13) (by kernel_rfl) H rfl H.si.grow.size 51 ?_
  intro w H hg _
  refine moveI (u := 8) (x := .tmp 13) (.inr (by kernel_rfl)) ?_
  refine ⟨rfl, ?_⟩
  rw [eval_tmp, getD_put, if_pos ⟨rfl, by omega⟩]
  revert hg H
  generalize World.heap _ = hp0
  generalize hp0.size = mb
  intro H hg
  have ha : AA mb ((a.put (some 13) (.map (some mb))).put (some 8) (.map (some mb))) := ⟨by rw [size_put, size_put]; exact hsz, hd, by rw [getD_put, if_pos ⟨rfl, by rw [size_put]; omega⟩]⟩
  have H := H.skip (u := 8) rfl (.map (some mb))
  revert H ha
  generalize (a.put (some 13) (.map (some mb))).put (some 8) (.map (some mb)) = a
  intro ha H
  show Code.wpIn _ _ _ _ _ _ _
  refine wpIn_seq (seg mixed tabT hC rfl (by kernel_rfl) rfl (aok mb (by kernel_rfl)) GG.abides H ha hg rfl (run2 C tapiNode 41 tapiNode x ns l lv) ?_)
  intro a w Fr mu H ha hg
  show Code.wpIn _ _ _ _ _ _ _
  refine wpIn_seq (wpIn_seq (seg mixed tabT hC rfl (by kernel_rfl) rfl (aok mb (by kernel_rfl)) GG.abides H ha hg rfl (run3 C tapiNode 41 tapiNode x ns l lv) ?_))
  intro a w Fr mu H ha hg
  show Code.wpIn _ _ _ _ _ _ _
  refine wpIn_block (wpIn_loop_rounds (l.length + 1) (loop_ok hC tapiNode 41 tapiNode x ns l lv hfit rfl ?_ l [] _ 0 rfl hq (fun i => Nat.le_refl _) a w Fr mu _ _ H ha hg))
  intro a w Fr mu es ck k H ha hg
  obtain ⟨Fr2, H2, hv⟩ := GG.freeze H rfl ha.2.1 hg
  have H3 := (H2.back (H2.reb.slot (t := 8) (d := ⟨.mp PT, mF⟩) (by rw [ha.1]; decide) (by rw [ha.2.2]; exact hv) trivial)).1
  show Code.wpIn _ _ _ _ _ _ _
  refine wpIn_seq (seg (A := fun a => a.tmps.size = 47 ∧ a.defers = []) (J := fun _ _ _ => True) mixed tabT hC rfl (by kernel_rfl) rfl ⟨fun a h => h.1, fun u _ a v h => ⟨by rw [size_put]; exact h.1, by rw [put_defers]; exact h.2⟩⟩ (fun _ _ _ _ _ _ _ _ _ => trivial) H3 ⟨ha.1, ha.2.1⟩ trivial rfl (run10 C tapiNode 41 tapiNode x ns l lv mF k sF) ?_)
  intro a w Fr mu H ha _
  show Code.wpIn _ _ _ _ _ _ _
  refine wpIn_ret ?_
  show LeavesInM _ _ _ _ _ _ _ _ _
  rw [ha.2]
  obtain ⟨v, Fr2, mu2, g1, g2⟩ := finD_ok tabT (fn := funcOf PP 46) (rt := .tcons (.mp PT) (.tcons (.int .u32) .tnil)) ⟨H.si, H.tm, ha.2, H.so⟩ (fin10 x ns mF sF)
  rw [hfo] at g1
  exact ⟨v, g1, v, Fr2, mu2, rfl, g2⟩
end Go.Proofs.YtjekopgcpikkiaaDoor.AA.Part
set_option linter.unusedVariables false
namespace Go.Proofs.YtjekopgcpikkiaaDoor.Tzw92
open Go.Abs Go.RowKit Go.Lib Go.Proofs
theorem zero (w : World) : Calls Tryd.prog 92 #[.int .u32 0] w fun e w' => e = .returned (.int .i64 32) ∧ w' = w := by
  go_enter Tryd.func92, Tryd.ntmps92
  go_wp2
  go_ret
  exact ⟨rfl, rfl⟩
set_option maxHeartbeats 1000000 in
theorem core (x k idx : Nat) (w : World) (hx0 : ((x : Int) == 0) = false)
    (key : bits BinOp.and IntKind.u32 (x : Int) (-(x : Int) % 4294967296) * 125613361 % 4294967296 / 134217728 = (idx : Int))
    (hi : idx < 32) (hk : k < 32) (hcell : w.cell? ⟨0, idx, none⟩ = some (.int .u8 k)) :
    Calls Tryd.prog 92 #[.int .u32 x] w fun e w' => e = .returned (.int .i64 k) ∧ w' = w := by
  go_enter Tryd.func92, Tryd.ntmps92
  go_wp2_with (simp only [key])
  go_ret
  exact ⟨rfl, rfl⟩
theorem tab {w : World} {Fr : Nat → Prop} (h : Gl w Fr) {j : Nat} (hj : j < 32) : w.cell? ⟨0, j, none⟩ = some (.int .u8 (Lib.deBruijn32tab.getD j 0 : Nat)) := by
  obtain ⟨_, hat⟩ := h (0, Lib.deBruijn32tab.map fun z : Nat => Value.int .u8 (z : Int)) List.mem_cons_self
  have hlen : Lib.deBruijn32tab.length = 32 := by decide
  have := hat j (.int .u8 (Lib.deBruijn32tab.getD j 0 : Nat)) (by
    show (Lib.deBruijn32tab.map fun z : Nat => Value.int .u8 (z : Int))[j]? = _
    rw [List.getElem?_map, List.getElem?_eq_getElem (by omega), List.getD_eq_getElem?_getD, List.getElem?_eq_getElem (by omega)]
    rfl)
  rw [Nat.zero_add] at this
  exact this
theorem tzP_ok (hen : Abs.Enters Tryd.prog 92) (args : List Dyn) (objs : List AObj) (rt : Ty) (ots : List OTy) (r : denR rt ots) (h : tzP 92 args objs rt ots = some r) : Abs.Enters Tryd.prog 92 ∧
  ∀ (w : World) (Fr : Nat → Prop) (mu : Nat → Go.Abs.Loc) (vs : List Value), Pre w Fr mu objs args vs →
    Calls Tryd.prog 92 vs.toArray w fun e w' => ∃ v Fr' mu', e = .returned v ∧ Post w Fr mu objs ⟨rt, resT rt ots r⟩ (resO rt ots r) v w' Fr' mu' := by
  refine ⟨hen, ?_⟩
  intro w Fr mu vals hpre
  unfold tzP at h
  split at h
  case h_2 => cases h
  rename_i n
  split at h
  case h_2 => cases h
  rename_i x y hx hy
  obtain ⟨hg, h⟩ := br_none h
  injection h with h
  subst h
  unfold andB leI ltI at hg
  simp only [Bool.and_eq_true, decide_eq_true_eq] at hg
  have hx := as_some hx
  cases hx
  have hy := asObjs_some _ _ _ hy
  have hots : ots = [] := by
    cases ots with
    | nil => rfl
    | cons t l => cases hy
  subst hots
  have hlen := hpre.len
  match vals, hlen with
  | [a0], _ =>
  have v0 := (hpre.val 0 _ a0 rfl rfl).1
  injection (show [a0] = [.int .u32 n] from v0) with v0
  subst v0
  have hpost : Post w Fr mu [] ⟨.int .i64, resT (.int .i64) [] (mkR (.int .i64) (ctzI n) [] y)⟩ (resO (.int .i64) [] (mkR (.int .i64) (ctzI n) [] y)) (.int .i64 (ctzI n)) w Fr mu := by
    refine ⟨⟨Grow.refl _ w, fun _ => id, fun _ => .inl, hpre.frL, hpre.so.hh, hpre.so.obj, hpre.so.nm, hpre.so.sep, fun i o hi => (by simp [resO] at hi), fun i o _ _ => hand_start (objs := []) i o, Nat.le_refl _, hpre.gl⟩, rfl, trivial⟩
  obtain ⟨k, rfl⟩ : ∃ k : Nat, n = k := ⟨Int.toNat n, (Int.toNat_of_nonneg hg.1).symm⟩
  have hk32 : k < 4294967296 := by omega
  by_cases hx0 : k = 0
  · subst hx0
    exact (zero w).mono fun e w' ⟨he, hw⟩ => ⟨_, Fr, mu, he, by subst hw; exact hpost⟩
  · obtain ⟨hlow, hk⟩ := Lib.lowest_bit 32 k hx0 hk32
    obtain ⟨hi, htab⟩ := Lib.deBruijn32_at _ hk
    have hcell := tab hpre.gl hi
    rw [htab] at hcell
    exact (core k _ _ w (by simp; omega) (tz32_key k _ hk32 hx0 hlow) hi hk hcell).mono fun e w' ⟨he, hw⟩ => ⟨_, Fr, mu, he, by subst hw; exact hpost⟩
end Go.Proofs.YtjekopgcpikkiaaDoor.Tzw92
set_option maxRecDepth 100000
namespace Go.Proofs.YtjekopgcpikkiaaDoor.AA
open Go.Abs
/-- How many cells a thing of a type has. -/
abbrev WT (e : Nat) : Nat := match Abs.look TB e with
  | some i => i.ty.width
  | none => 0
theorem mixed : PP.follows .mixedOrders = true := by kernel_rfl
theorem tabOK : TabOK PP TB := tabIs_ok (by kernel_rfl)
theorem enters59 : Abs.Enters PP 59 := ⟨Tryd.f59, Tryd.func59, by kernel_rfl, names_ok (by kernel_rfl) _ _ Tryd.func59⟩
theorem walk59 : InsWalk PP 59 51 (WT 51) := Ins59.walk Tryd.func59 mixed Tryd.underlying3 Tryd.underlying4 (tabOK 51 _ rfl) Tryd.underlying28 rfl (by decide) (by decide) rfl fun w x y => run_callFunc_extern Tryd.func84 (by kernel_rfl) (by kernel_rfl) (by kernel_rfl) (e := Extern.SlicesOverlaps.overlaps #[28, 28] #[4]) (by kernel_rfl) #[x, y] w
theorem prims : PrimsOK PP RR := by
  intro f c hc
  unfold RR at hc
  by_cases h59 : f = 59
  · rw [if_pos h59] at hc
    injection hc with hc
    subst hc; subst h59
    exact fun C _ => insP_ok enters59 walk59
  rw [if_neg h59] at hc
  by_cases h46 : f = 46
  · rw [if_pos h46] at hc
    injection hc with hc
    subst hc; subst h46
    exact fun C hC => Part.part_ok C hC
  rw [if_neg h46] at hc
  by_cases h92 : f = 92
  · rw [if_pos h92] at hc
    injection hc with hc
    subst hc; subst h92
    exact fun C _ => Tzw92.tzP_ok ⟨Tryd.f92, Tryd.func92, by kernel_rfl, names_ok (by kernel_rfl) _ _ Tryd.func92⟩
  rw [if_neg h92] at hc
  cases hc
theorem fits : Fits PP TT RR := ⟨mixed, tabOK, names_ok (by kernel_rfl), prims⟩
end Go.Proofs.YtjekopgcpikkiaaDoor.AA
set_option maxRecDepth 100000
set_option linter.unusedVariables false
namespace Go.Proofs.YtjekopgcpikkiaaDoor.AA
open Go.Abs
noncomputable def law20_TrieIs (a0 : den (.list tapiNode)) (a1 : den (.int .i64)) (a2 : den (.int .i64)) : Option (den .bool) := CF 3 [⟨(.list tapiNode), a0⟩, ⟨(.int .i64), a1⟩, ⟨(.int .i64), a2⟩] [] .bool []
noncomputable def law20_TrieHas (a0 : den (.int .i64)) (a1 : den (.list tapiPair)) (a2 : den (.int .i64)) : Option (den .bool) := CF 4 [⟨(.int .i64), a0⟩, ⟨(.list tapiPair), a1⟩, ⟨(.int .i64), a2⟩] [] .bool []
noncomputable def law20_TrieHas.j0 (x0 : den (.int .i64)) (x1 : den (.list tapiPair)) (x2 : den (.int .i64)) (x3 : den (.int .i64)) (x4 : den .bool) : Option (den .bool) := jnO [1, 1, 1, 1, 0, 1] (BF (R := den .bool) 4 0 [1, 1, 1, 1, 0, 1]) ⟨[(0, ⟨(.int .i64), x0⟩), (1, ⟨(.list tapiPair), x1⟩), (2, ⟨(.int .i64), x2⟩), (7, ⟨(.int .i64), x3⟩), (21, ⟨.bool, x4⟩)], []⟩ (seqK true [1, 1, 1, 1, 1] (BF 4 0 [1, 1, 1, 1, 1]) (finF 4 .bool [] 0))
noncomputable def law20_TrieHas.j1 (x0 : den (.int .i64)) (x1 : den (.list tapiPair)) (x2 : den (.int .i64)) (x3 : den (.int .i64)) : Option (den .bool) := jnO [1, 1, 1, 1, 1] (BF (R := den .bool) 4 0 [1, 1, 1, 1, 1]) ⟨[(0, ⟨(.int .i64), x0⟩), (1, ⟨(.list tapiPair), x1⟩), (2, ⟨(.int .i64), x2⟩), (7, ⟨(.int .i64), x3⟩)], []⟩ (finF 4 .bool [] 0)
noncomputable def law17_Few (a0 : den (.list tapiNode)) : Option (den (.list tapiNode)) := CF 5 [⟨(.list tapiNode), a0⟩] [] (.list tapiNode) []
noncomputable def law17_Few.l0 (x0 : den (.list tapiNode)) (x1 : den (.int .i64)) (x2 : den (.int .i64)) (x3 : denO (.row 41 tapiNode false)) : Option (den (.list tapiNode)) := loopW [1, 1, 0, 1, 0, 0] (BF (R := den (.list tapiNode)) 5 0 [1, 1, 0, 1, 0, 0]) ⟨[(0, ⟨(.list tapiNode), x0⟩), (3, ⟨(.own tapiNode 0), ()⟩), (4, ⟨(.int .i64), x1⟩), (5, ⟨(.int .i64), x2⟩)], [⟨(.row 41 tapiNode false), x3⟩]⟩ (blockK 0 (seqK false [1, 1, 1] (BF 5 0 [1, 1, 1]) (finF 5 (.list tapiNode) [] 0)))
noncomputable def law17_Few.j1 (x0 : den (.list tapiNode)) (x1 : den (.int .i64)) (x2 : den (.int .i64)) (x3 : den .bool) (x4 : denO (.row 41 tapiNode false)) : Option (den (.list tapiNode)) := jnO [1, 1, 0, 1, 0, 0, 0, 1] (BF (R := den (.list tapiNode)) 5 0 [1, 1, 0, 1, 0, 0, 0, 1]) ⟨[(0, ⟨(.list tapiNode), x0⟩), (3, ⟨(.own tapiNode 0), ()⟩), (4, ⟨(.int .i64), x1⟩), (5, ⟨(.int .i64), x2⟩), (15, ⟨.bool, x3⟩)], [⟨(.row 41 tapiNode false), x4⟩]⟩ (seqK false [1, 1, 0, 1, 0, 0, 1] (BF 5 0 [1, 1, 0, 1, 0, 0, 1]) (againK [1, 1, 0, 1, 0, 0] (loopW [1, 1, 0, 1, 0, 0] (BF 5 0 [1, 1, 0, 1, 0, 0])) (blockK 0 (seqK false [1, 1, 1] (BF 5 0 [1, 1, 1]) (finF 5 (.list tapiNode) [] 0)))))
noncomputable def trie_Is (a0 : den (.list tapiNode)) (a1 : den (.int .i64)) (a2 : den (.int .i64)) : Option (den .bool) := CF 6 [⟨(.list tapiNode), a0⟩, ⟨(.int .i64), a1⟩, ⟨(.int .i64), a2⟩] [] .bool []
noncomputable def ref20_Is (a0 : den (.list tapiNode)) (a1 : den (.int .i64)) (a2 : den (.int .i64)) : Option (den .bool) := CF 7 [⟨(.list tapiNode), a0⟩, ⟨(.int .i64), a1⟩, ⟨(.int .i64), a2⟩] [] .bool []
noncomputable def law20_works  : Option (den .bool) := CF 8 [] [] .bool []
noncomputable def law07_Few (a0 : den (.list tapiPair)) : Option (den (.list tapiPair)) := CF 9 [⟨(.list tapiPair), a0⟩] [] (.list tapiPair) []
noncomputable def law07_Few.l0 (x0 : den (.list tapiPair)) (x1 : den (.int .i64)) (x2 : denO (.row 51 tapiPair false)) : Option (den (.list tapiPair)) := loopW [1, 1, 0, 1, 0, 0] (BF (R := den (.list tapiPair)) 9 0 [1, 1, 0, 1, 0, 0]) ⟨[(0, ⟨(.list tapiPair), x0⟩), (3, ⟨(.own tapiPair 0), ()⟩), (4, ⟨(.int .i64), x1⟩)], [⟨(.row 51 tapiPair false), x2⟩]⟩ (blockK 0 (seqK false [1, 1, 1] (BF 9 0 [1, 1, 1]) (finF 9 (.list tapiPair) [] 0)))
noncomputable def law07_Few.j1 (x0 : den (.list tapiPair)) (x1 : den (.int .i64)) (x2 : den .bool) (x3 : denO (.row 51 tapiPair false)) : Option (den (.list tapiPair)) := jnO [1, 1, 0, 1, 0, 0, 0, 1] (BF (R := den (.list tapiPair)) 9 0 [1, 1, 0, 1, 0, 0, 0, 1]) ⟨[(0, ⟨(.list tapiPair), x0⟩), (3, ⟨(.own tapiPair 0), ()⟩), (4, ⟨(.int .i64), x1⟩), (13, ⟨.bool, x2⟩)], [⟨(.row 51 tapiPair false), x3⟩]⟩ (seqK false [1, 1, 0, 1, 0, 0, 1] (BF 9 0 [1, 1, 0, 1, 0, 0, 1]) (againK [1, 1, 0, 1, 0, 0] (loopW [1, 1, 0, 1, 0, 0] (BF 9 0 [1, 1, 0, 1, 0, 0])) (blockK 0 (seqK false [1, 1, 1] (BF 9 0 [1, 1, 1]) (finF 9 (.list tapiPair) [] 0)))))
noncomputable def ref04_Levels (a0 : den (.int .i64)) : Option (den (.int .i64)) := CF 10 [⟨(.int .i64), a0⟩] [] (.int .i64) []
noncomputable def ref04_Levels.l0 (x0 : den (.int .i64)) (x1 : den (.int .i64)) : Option (den (.int .i64)) := loopW [1, 1, 0, 0, 0] (BF (R := den (.int .i64)) 10 0 [1, 1, 0, 0, 0]) ⟨[(0, ⟨(.int .i64), x0⟩), (3, ⟨(.int .i64), x1⟩)], []⟩ (blockK 0 (seqK false [1, 1, 1] (BF 10 0 [1, 1, 1]) (finF 10 (.int .i64) [] 0)))
noncomputable def trie_Make (a0 : den (.int .i64)) (a1 : den (.list tapiPair)) : Option (den (.tcons (.list tapiNode) (.tcons (.int .i64) (.tcons (.int .i64) .tnil)))) := CF 11 [⟨(.int .i64), a0⟩, ⟨(.list tapiPair), a1⟩] [] (.tcons (.list tapiNode) (.tcons (.int .i64) (.tcons (.int .i64) .tnil))) []
noncomputable def trie_Make.l0 (x0 : den (.int .i64)) (x1 : den (.list tapiPair)) (x2 : den (.list tapiPair)) (x3 : den (.int .i64)) (x4 : den (.int .i64)) : Option (den (.tcons (.list tapiNode) (.tcons (.int .i64) (.tcons (.int .i64) .tnil)))) := loopW [1, 1, 0, 1, 0, 0] (BF (R := den (.tcons (.list tapiNode) (.tcons (.int .i64) (.tcons (.int .i64) .tnil)))) 11 0 [1, 1, 0, 1, 0, 0]) ⟨[(0, ⟨(.int .i64), x0⟩), (1, ⟨(.list tapiPair), x1⟩), (14, ⟨(.list tapiPair), x2⟩), (15, ⟨(.int .i64), x3⟩), (16, ⟨(.int .i64), x4⟩)], []⟩ (blockK 0 (seqK false [1, 1, 1] (BF 11 0 [1, 1, 1]) (finF 11 (.tcons (.list tapiNode) (.tcons (.int .i64) (.tcons (.int .i64) .tnil))) [] 0)))
noncomputable def trie_Most (a0 : den (.int .i64)) (a1 : den (.int .i64)) : Option (den (.int .i64)) := CF 12 [⟨(.int .i64), a0⟩, ⟨(.int .i64), a1⟩] [] (.int .i64) []
noncomputable def ref07_Make (a0 : den (.list tapiPair)) : Option (den (.list tapiPair)) := CF 13 [⟨(.list tapiPair), a0⟩] [] (.list tapiPair) []
noncomputable def ref07_Make.l0 (x0 : den (.list tapiPair)) (x1 : den (.int .i64)) (x2 : denO (.row 51 tapiPair false)) : Option (den (.list tapiPair)) := loopW [1, 1, 0, 1, 0, 0] (BF (R := den (.list tapiPair)) 13 0 [1, 1, 0, 1, 0, 0]) ⟨[(0, ⟨(.list tapiPair), x0⟩), (3, ⟨(.own tapiPair 0), ()⟩), (4, ⟨(.int .i64), x1⟩)], [⟨(.row 51 tapiPair false), x2⟩]⟩ (blockK 0 (seqK false [1, 1, 1] (BF 13 0 [1, 1, 1]) (finF 13 (.list tapiPair) [] 0)))
noncomputable def ref07_Make.l1 (x0 : den (.list tapiPair)) (x1 : den (.int .i64)) (x2 : den (.int .i64)) (x3 : denO (.row 51 tapiPair false)) : Option (den (.list tapiPair)) := loopW [1, 1, 0, 1, 0, 0, 1, 0, 0, 1, 1, 0, 0, 0] (BF (R := den (.list tapiPair)) 13 0 [1, 1, 0, 1, 0, 0, 1, 0, 0, 1, 1, 0, 0, 0]) ⟨[(0, ⟨(.list tapiPair), x0⟩), (3, ⟨(.own tapiPair 0), ()⟩), (4, ⟨(.int .i64), x1⟩), (5, ⟨(.int .i64), x2⟩)], [⟨(.row 51 tapiPair false), x3⟩]⟩ (blockK 2 (seqK false [1, 1, 0, 1, 0, 0, 1, 0, 0, 1, 1, 1] (BF 13 0 [1, 1, 0, 1, 0, 0, 1, 0, 0, 1, 1, 1]) (blockK 1 (seqK false [1, 1, 0, 1, 0, 0, 1, 1] (BF 13 0 [1, 1, 0, 1, 0, 0, 1, 1]) (againK [1, 1, 0, 1, 0, 0] (loopW [1, 1, 0, 1, 0, 0] (BF 13 0 [1, 1, 0, 1, 0, 0])) (blockK 0 (seqK false [1, 1, 1] (BF 13 0 [1, 1, 1]) (finF 13 (.list tapiPair) [] 0))))))))
noncomputable def ref07_Make.j2 (x0 : den (.list tapiPair)) (x1 : den (.int .i64)) (x2 : den (.int .i64)) (x3 : den .bool) (x4 : denO (.row 51 tapiPair false)) : Option (den (.list tapiPair)) := jnO [1, 1, 0, 1, 0, 0, 1, 0, 0, 1, 1, 0, 0, 0, 0, 1] (BF (R := den (.list tapiPair)) 13 0 [1, 1, 0, 1, 0, 0, 1, 0, 0, 1, 1, 0, 0, 0, 0, 1]) ⟨[(0, ⟨(.list tapiPair), x0⟩), (3, ⟨(.own tapiPair 0), ()⟩), (4, ⟨(.int .i64), x1⟩), (5, ⟨(.int .i64), x2⟩), (33, ⟨.bool, x3⟩)], [⟨(.row 51 tapiPair false), x4⟩]⟩ (seqK false [1, 1, 0, 1, 0, 0, 1, 0, 0, 1, 1, 0, 0, 0, 1] (BF 13 0 [1, 1, 0, 1, 0, 0, 1, 0, 0, 1, 1, 0, 0, 0, 1]) (againK [1, 1, 0, 1, 0, 0, 1, 0, 0, 1, 1, 0, 0, 0] (loopW [1, 1, 0, 1, 0, 0, 1, 0, 0, 1, 1, 0, 0, 0] (BF 13 0 [1, 1, 0, 1, 0, 0, 1, 0, 0, 1, 1, 0, 0, 0])) (blockK 2 (seqK false [1, 1, 0, 1, 0, 0, 1, 0, 0, 1, 1, 1] (BF 13 0 [1, 1, 0, 1, 0, 0, 1, 0, 0, 1, 1, 1]) (blockK 1 (seqK false [1, 1, 0, 1, 0, 0, 1, 1] (BF 13 0 [1, 1, 0, 1, 0, 0, 1, 1]) (againK [1, 1, 0, 1, 0, 0] (loopW [1, 1, 0, 1, 0, 0] (BF 13 0 [1, 1, 0, 1, 0, 0])) (blockK 0 (seqK false [1, 1, 1] (BF 13 0 [1, 1, 1]) (finF 13 (.list tapiPair) [] 0))))))))))
noncomputable def ref17_Binds (a0 : den (.list tapiNode)) (a1 : den (.int .i64)) : Option (den (.list tapiPair)) := CF 15 [⟨(.list tapiNode), a0⟩, ⟨(.int .i64), a1⟩] [] (.list tapiPair) []
noncomputable def ref17_Binds.l0 (x0 : den (.list tapiNode)) (x1 : den (.list (.int .i64))) (x2 : den (.int .i64)) (x3 : denO (.row 51 tapiPair false)) : Option (den (.list tapiPair)) := loopW [1, 1, 1, 1, 1, 1, 1, 0, 1, 0, 0] (BF (R := den (.list tapiPair)) 15 0 [1, 1, 1, 1, 1, 1, 1, 0, 1, 0, 0]) ⟨[(0, ⟨(.list tapiNode), x0⟩), (5, ⟨(.own tapiPair 0), ()⟩), (7, ⟨(.list (.int .i64)), x1⟩), (8, ⟨(.int .i64), x2⟩)], [⟨(.row 51 tapiPair false), x3⟩]⟩ (blockK 0 (seqK false [1, 1, 1, 1, 1, 1, 1, 1] (BF 15 0 [1, 1, 1, 1, 1, 1, 1, 1]) (finF 15 (.list tapiPair) [] 0)))
noncomputable def ref07_Same (a0 : den (.list tapiPair)) (a1 : den (.list tapiPair)) : Option (den .bool) := CF 14 [⟨(.list tapiPair), a0⟩, ⟨(.list tapiPair), a1⟩] [] .bool []
noncomputable def ref07_Same.l0 (x0 : den (.list tapiPair)) (x1 : den (.list tapiPair)) (x2 : den (.int .i64)) : Option (den .bool) := loopW [1, 1, 0, 1, 0, 0] (BF (R := den .bool) 14 0 [1, 1, 0, 1, 0, 0]) ⟨[(0, ⟨(.list tapiPair), x0⟩), (1, ⟨(.list tapiPair), x1⟩), (5, ⟨(.int .i64), x2⟩)], []⟩ (blockK 0 (seqK false [1, 1, 1] (BF 14 0 [1, 1, 1]) (finF 14 .bool [] 0)))
noncomputable def law13_Few (a0 : den tapiNode) : Option (den tapiNode) := CF 16 [⟨tapiNode, a0⟩] [] tapiNode []
noncomputable def ref13_Refs (a0 : den tapiNode) : Option (den (.list (.int .i64))) := CF 17 [⟨tapiNode, a0⟩] [] (.list (.int .i64)) []
noncomputable def ref13_Refs.l0 (x0 : den (.int .i64)) (x1 : denO (.box tapiNode)) (x2 : denO (.row 25 (.int .i64) false)) : Option (den (.list (.int .i64))) := loopW [1, 1, 0, 1, 0, 0] (BF (R := den (.list (.int .i64))) 17 0 [1, 1, 0, 1, 0, 0]) ⟨[(1, ⟨(.ptr 0 0), ()⟩), (3, ⟨(.own (.int .i64) 1), ()⟩), (4, ⟨(.int .i64), x0⟩)], [⟨(.box tapiNode), x1⟩, ⟨(.row 25 (.int .i64) false), x2⟩]⟩ (blockK 0 (seqK false [1, 1, 1] (BF 17 0 [1, 1, 1]) (finF 17 (.list (.int .i64)) [] 0)))
noncomputable def heap_Binds (a0 : den (.list tapiNode)) (a1 : den (.int .i64)) : Option (den (.tcons (.list tapiPair) (.tcons (.int .i64) .tnil))) := CF 18 [⟨(.list tapiNode), a0⟩, ⟨(.int .i64), a1⟩] [] (.tcons (.list tapiPair) (.tcons (.int .i64) .tnil)) []
noncomputable def heap_Same (a0 : den (.list tapiNode)) (a1 : den (.int .i64)) (a2 : den (.list tapiNode)) (a3 : den (.int .i64)) : Option (den .bool) := CF 19 [⟨(.list tapiNode), a0⟩, ⟨(.int .i64), a1⟩, ⟨(.list tapiNode), a2⟩, ⟨(.int .i64), a3⟩] [] .bool []
noncomputable def ref17_Fits (a0 : den (.list tapiNode)) (a1 : den (.int .i64)) : Option (den .bool) := CF 20 [⟨(.list tapiNode), a0⟩, ⟨(.int .i64), a1⟩] [] .bool []
noncomputable def ref20_Make (a0 : den (.int .i64)) (a1 : den (.list tapiPair)) : Option (den (.tcons (.list tapiNode) (.tcons (.int .i64) .tnil))) := CF 21 [⟨(.int .i64), a0⟩, ⟨(.list tapiPair), a1⟩] [] (.tcons (.list tapiNode) (.tcons (.int .i64) .tnil)) []
noncomputable def ref17_Same (a0 : den (.list tapiNode)) (a1 : den (.int .i64)) (a2 : den (.list tapiNode)) (a3 : den (.int .i64)) : Option (den .bool) := CF 22 [⟨(.list tapiNode), a0⟩, ⟨(.int .i64), a1⟩, ⟨(.list tapiNode), a2⟩, ⟨(.int .i64), a3⟩] [] .bool []
noncomputable def base_Cut (a0 : den .str) (a1 : den (.int .i64)) : Option (den .str) := CF 23 [⟨.str, a0⟩, ⟨(.int .i64), a1⟩] [] .str []
noncomputable def ref04_clamp (a0 : den (.int .i64)) : Option (den (.int .i64)) := CF 24 [⟨(.int .i64), a0⟩] [] (.int .i64) []
noncomputable def pair_Make (a0 : den (.list tapiPair)) : Option (den (.list tapiPair)) := CF 25 [⟨(.list tapiPair), a0⟩] [] (.list tapiPair) []
noncomputable def pair_Make.l0 (x0 : den (.list tapiPair)) (x1 : den (.int .i64)) (x2 : den (.int .i64)) (x3 : denO (.row 51 tapiPair false)) : Option (den (.list tapiPair)) := loopW [1, 1, 0, 1, 0, 0] (BF (R := den (.list tapiPair)) 25 0 [1, 1, 0, 1, 0, 0]) ⟨[(3, ⟨(.own tapiPair 0), ()⟩), (6, ⟨(.list tapiPair), x0⟩), (7, ⟨(.int .i64), x1⟩), (8, ⟨(.int .i64), x2⟩)], [⟨(.row 51 tapiPair false), x3⟩]⟩ (blockK 0 (seqK false [1, 1, 1] (BF 25 0 [1, 1, 1]) (finF 25 (.list tapiPair) [] 0)))
noncomputable def node_Leaf (a0 : den .str) (a1 : den .str) : Option (den tapiNode) := CF 27 [⟨.str, a0⟩, ⟨.str, a1⟩] [] tapiNode []
noncomputable def node_May (a0 : den tapiNode) : Option (den (.int .i64)) := CF 26 [⟨tapiNode, a0⟩] [] (.int .i64) []
noncomputable def trie_maker_trie (a0 : den (.list tapiPair)) (a1 : den (.int .i64)) (a2 : denO (.box (.pair (.int .i64) (.pair (.own tapiNode 1) .unit)))) (a3 : denO (.row 41 tapiNode true)) : Option (denR (.int .i64) [(.box (.pair (.int .i64) (.pair (.own tapiNode 1) .unit))), (.row 41 tapiNode false)]) := CF 28 [⟨(.ptr 0 0), ()⟩, ⟨(.list tapiPair), a0⟩, ⟨(.int .i64), a1⟩] [⟨(.box (.pair (.int .i64) (.pair (.own tapiNode 1) .unit))), a2⟩, ⟨(.row 41 tapiNode true), a3⟩] (.int .i64) [(.box (.pair (.int .i64) (.pair (.own tapiNode 1) .unit))), (.row 41 tapiNode false)]
noncomputable def trie_maker_trie.l0 (x0 : den (.list tapiPair)) (x1 : den (.int .i64)) (x2 : den (.mp tapiPair)) (x3 : den (.int .u32)) (x4 : den (.list (.int .i64))) (x5 : den (.int .i64)) (x6 : den (.int .i64)) (x7 : denO (.box (.pair (.int .i64) (.pair (.own tapiNode 1) .unit)))) (x8 : denO (.row 41 tapiNode true)) (x9 : denO (.row 25 (.int .i64) false)) : Option (denR (.int .i64) [(.box (.pair (.int .i64) (.pair (.own tapiNode 1) .unit))), (.row 41 tapiNode false)]) := loopW [1, 1, 1, 1, 0, 1, 0, 0] (BF (R := denR (.int .i64) [(.box (.pair (.int .i64) (.pair (.own tapiNode 1) .unit))), (.row 41 tapiNode false)]) 28 2 [1, 1, 1, 1, 0, 1, 0, 0]) ⟨[(0, ⟨(.ptr 0 0), ()⟩), (1, ⟨(.list tapiPair), x0⟩), (2, ⟨(.int .i64), x1⟩), (7, ⟨(.mp tapiPair), x2⟩), (8, ⟨(.int .u32), x3⟩), (9, ⟨(.own (.int .i64) 2), ()⟩), (51, ⟨(.list (.int .i64)), x4⟩), (52, ⟨(.int .i64), x5⟩), (53, ⟨(.int .i64), x6⟩)], [⟨(.box (.pair (.int .i64) (.pair (.own tapiNode 1) .unit))), x7⟩, ⟨(.row 41 tapiNode true), x8⟩, ⟨(.row 25 (.int .i64) false), x9⟩]⟩ (blockK 1 (seqK false [1, 1, 1, 1, 1] (BF 28 2 [1, 1, 1, 1, 1]) (finF 28 (.int .i64) [(.box (.pair (.int .i64) (.pair (.own tapiNode 1) .unit))), (.row 41 tapiNode false)] 2)))
noncomputable def trie_maker_trie.l1 (x0 : den (.list tapiPair)) (x1 : den (.int .i64)) (x2 : den (.mp tapiPair)) (x3 : den (.int .u32)) (x4 : den (.list (.int .i64))) (x5 : den (.int .i64)) (x6 : den (.int .i64)) (x7 : denO (.box (.pair (.int .i64) (.pair (.own tapiNode 1) .unit)))) (x8 : denO (.row 41 tapiNode false)) (x9 : denO (.row 25 (.int .i64) false)) : Option (denR (.int .i64) [(.box (.pair (.int .i64) (.pair (.own tapiNode 1) .unit))), (.row 41 tapiNode false)]) := loopW [1, 1, 1, 1, 0, 1, 0, 0] (BF (R := denR (.int .i64) [(.box (.pair (.int .i64) (.pair (.own tapiNode 1) .unit))), (.row 41 tapiNode false)]) 28 2 [1, 1, 1, 1, 0, 1, 0, 0]) ⟨[(0, ⟨(.ptr 0 0), ()⟩), (1, ⟨(.list tapiPair), x0⟩), (2, ⟨(.int .i64), x1⟩), (7, ⟨(.mp tapiPair), x2⟩), (8, ⟨(.int .u32), x3⟩), (9, ⟨(.own (.int .i64) 2), ()⟩), (51, ⟨(.list (.int .i64)), x4⟩), (52, ⟨(.int .i64), x5⟩), (53, ⟨(.int .i64), x6⟩)], [⟨(.box (.pair (.int .i64) (.pair (.own tapiNode 1) .unit))), x7⟩, ⟨(.row 41 tapiNode false), x8⟩, ⟨(.row 25 (.int .i64) false), x9⟩]⟩ (blockK 1 (seqK false [1, 1, 1, 1, 1] (BF 28 2 [1, 1, 1, 1, 1]) (finF 28 (.int .i64) [(.box (.pair (.int .i64) (.pair (.own tapiNode 1) .unit))), (.row 41 tapiNode false)] 2)))
noncomputable def hash_Levels (a0 : den (.int .i64)) : Option (den (.int .i64)) := CF 29 [⟨(.int .i64), a0⟩] [] (.int .i64) []
noncomputable def ref07_last (a0 : den (.list tapiPair)) (a1 : den (.int .i64)) : Option (den .bool) := CF 30 [⟨(.list tapiPair), a0⟩, ⟨(.int .i64), a1⟩] [] .bool []
noncomputable def ref07_last.l0 (x0 : den (.list tapiPair)) (x1 : den (.int .i64)) (x2 : den (.int .i64)) : Option (den .bool) := loopW [1, 0, 1, 0, 0] (BF (R := den .bool) 30 0 [1, 0, 1, 0, 0]) ⟨[(0, ⟨(.list tapiPair), x0⟩), (1, ⟨(.int .i64), x1⟩), (5, ⟨(.int .i64), x2⟩)], []⟩ (blockK 0 (seqK false [1, 1] (BF 30 0 [1, 1]) (finF 30 .bool [] 0)))
noncomputable def ref01_Less (a0 : den .str) (a1 : den .str) : Option (den .bool) := CF 31 [⟨.str, a0⟩, ⟨.str, a1⟩] [] .bool []
noncomputable def ref01_Less.l0 (x0 : den .str) (x1 : den .str) (x2 : den (.int .i64)) : Option (den .bool) := loopW [1, 0, 1, 0, 0] (BF (R := den .bool) 31 0 [1, 0, 1, 0, 0]) ⟨[(0, ⟨.str, x0⟩), (1, ⟨.str, x1⟩), (5, ⟨(.int .i64), x2⟩)], []⟩ (blockK 0 (seqK false [1, 1] (BF 31 0 [1, 1]) (finF 31 .bool [] 0)))
noncomputable def ref01_Less.j1 (x0 : den .str) (x1 : den .str) (x2 : den (.int .i64)) (x3 : den .bool) : Option (den .bool) := jnO [1, 0, 1, 0, 0, 0, 1] (BF (R := den .bool) 31 0 [1, 0, 1, 0, 0, 0, 1]) ⟨[(0, ⟨.str, x0⟩), (1, ⟨.str, x1⟩), (5, ⟨(.int .i64), x2⟩), (15, ⟨.bool, x3⟩)], []⟩ (seqK false [1, 0, 1, 0, 0, 1] (BF 31 0 [1, 0, 1, 0, 0, 1]) (againK [1, 0, 1, 0, 0] (loopW [1, 0, 1, 0, 0] (BF 31 0 [1, 0, 1, 0, 0])) (blockK 0 (seqK false [1, 1] (BF 31 0 [1, 1]) (finF 31 .bool [] 0)))))
noncomputable def ref13_Binds (a0 : den tapiNode) : Option (den (.list tapiPair)) := CF 32 [⟨tapiNode, a0⟩] [] (.list tapiPair) []
noncomputable def heap_may (a0 : den (.list tapiNode)) (a1 : den (.int .i64)) : Option (den (.int .i64)) := CF 33 [⟨(.list tapiNode), a0⟩, ⟨(.int .i64), a1⟩] [] (.int .i64) []
noncomputable def heap_binds (a0 : den (.list tapiNode)) (a1 : den (.int .i64)) : Option (denR (.own tapiPair 0) [(.row 51 tapiPair false)]) := CF 34 [⟨(.list tapiNode), a0⟩, ⟨(.int .i64), a1⟩] [] (.own tapiPair 0) [(.row 51 tapiPair false)]
noncomputable def heap_binds.l0 (x0 : den (.list tapiNode)) (x1 : den (.list (.int .i64))) (x2 : den (.int .i64)) (x3 : den (.int .i64)) (x4 : denO (.row 51 tapiPair false)) : Option (denR (.own tapiPair 0) [(.row 51 tapiPair false)]) := loopW [1, 1, 1, 1, 1, 0, 1, 0, 0] (BF (R := denR (.own tapiPair 0) [(.row 51 tapiPair false)]) 34 0 [1, 1, 1, 1, 1, 0, 1, 0, 0]) ⟨[(0, ⟨(.list tapiNode), x0⟩), (6, ⟨(.own tapiPair 0), ()⟩), (38, ⟨(.list (.int .i64)), x1⟩), (39, ⟨(.int .i64), x2⟩), (40, ⟨(.int .i64), x3⟩)], [⟨(.row 51 tapiPair false), x4⟩]⟩ (blockK 0 (seqK false [1, 1, 1, 1, 1, 1] (BF 34 0 [1, 1, 1, 1, 1, 1]) (finF 34 (.own tapiPair 0) [(.row 51 tapiPair false)] 0)))
noncomputable def heap_same (a0 : den (.list tapiNode)) (a1 : den (.int .i64)) (a2 : den (.list tapiNode)) (a3 : den (.int .i64)) : Option (den .bool) := CF 35 [⟨(.list tapiNode), a0⟩, ⟨(.int .i64), a1⟩, ⟨(.list tapiNode), a2⟩, ⟨(.int .i64), a3⟩] [] .bool []
noncomputable def heap_same.j0 (x0 : den (.list tapiNode)) (x1 : den (.int .i64)) (x2 : den (.list tapiNode)) (x3 : den (.int .i64)) (x4 : den .bool) : Option (den .bool) := jnO [1, 0, 1] (BF (R := den .bool) 35 0 [1, 0, 1]) ⟨[(0, ⟨(.list tapiNode), x0⟩), (1, ⟨(.int .i64), x1⟩), (2, ⟨(.list tapiNode), x2⟩), (3, ⟨(.int .i64), x3⟩), (19, ⟨.bool, x4⟩)], []⟩ (seqK false [1, 1] (BF 35 0 [1, 1]) (finF 35 .bool [] 0))
noncomputable def heap_same.l1 (x0 : den (.list tapiNode)) (x1 : den (.list tapiNode)) (x2 : den (.list (.int .i64))) (x3 : den (.list (.int .i64))) (x4 : den (.int .i64)) (x5 : den (.int .i64)) : Option (den .bool) := loopW [1, 1, 1, 1, 1, 0, 1, 0, 0] (BF (R := den .bool) 35 0 [1, 1, 1, 1, 1, 0, 1, 0, 0]) ⟨[(0, ⟨(.list tapiNode), x0⟩), (2, ⟨(.list tapiNode), x1⟩), (11, ⟨(.list (.int .i64)), x2⟩), (12, ⟨(.list (.int .i64)), x3⟩), (44, ⟨(.int .i64), x4⟩), (45, ⟨(.int .i64), x5⟩)], []⟩ (blockK 0 (seqK false [1, 1, 1, 1, 1, 1] (BF 35 0 [1, 1, 1, 1, 1, 1]) (finF 35 .bool [] 0)))
noncomputable def ref17_May (a0 : den (.list tapiNode)) : Option (den .bool) := CF 36 [⟨(.list tapiNode), a0⟩] [] .bool []
noncomputable def ref17_May.l0 (x0 : den (.list tapiNode)) (x1 : den (.int .i64)) : Option (den .bool) := loopW [1, 0, 1, 0, 0] (BF (R := den .bool) 36 0 [1, 0, 1, 0, 0]) ⟨[(0, ⟨(.list tapiNode), x0⟩), (3, ⟨(.int .i64), x1⟩)], []⟩ (blockK 0 (seqK false [1, 1] (BF 36 0 [1, 1]) (finF 36 .bool [] 0)))
noncomputable def ref17_May.l1 (x0 : den (.list tapiNode)) (x1 : den (.int .i64)) (x2 : den (.list (.int .i64))) (x3 : den (.int .i64)) : Option (den .bool) := loopW [1, 0, 1, 0, 0, 1, 0, 0, 1, 0, 1, 0, 0] (BF (R := den .bool) 36 0 [1, 0, 1, 0, 0, 1, 0, 0, 1, 0, 1, 0, 0]) ⟨[(0, ⟨(.list tapiNode), x0⟩), (3, ⟨(.int .i64), x1⟩), (4, ⟨(.list (.int .i64)), x2⟩), (5, ⟨(.int .i64), x3⟩)], []⟩ (blockK 2 (seqK false [1, 0, 1, 0, 0, 1, 0, 0, 1, 1] (BF 36 0 [1, 0, 1, 0, 0, 1, 0, 0, 1, 1]) (blockK 1 (seqK false [1, 0, 1, 0, 0, 1, 1] (BF 36 0 [1, 0, 1, 0, 0, 1, 1]) (againK [1, 0, 1, 0, 0] (loopW [1, 0, 1, 0, 0] (BF 36 0 [1, 0, 1, 0, 0])) (blockK 0 (seqK false [1, 1] (BF 36 0 [1, 1]) (finF 36 .bool [] 0))))))))
noncomputable def ref20_make1 (a0 : den (.int .i64)) (a1 : den (.list tapiPair)) (a2 : den (.int .i64)) (a3 : denO (.row 41 tapiNode true)) : Option (denR (.tcons (.own tapiNode 0) (.tcons (.int .i64) .tnil)) [(.row 41 tapiNode false)]) := CF 37 [⟨(.own tapiNode 0), ()⟩, ⟨(.int .i64), a0⟩, ⟨(.list tapiPair), a1⟩, ⟨(.int .i64), a2⟩] [⟨(.row 41 tapiNode true), a3⟩] (.tcons (.own tapiNode 0) (.tcons (.int .i64) .tnil)) [(.row 41 tapiNode false)]
noncomputable def ref20_make1.l0 (x0 : den (.int .i64)) (x1 : den (.list tapiPair)) (x2 : den (.int .i64)) (x3 : den (.int .u32)) (x4 : den (.int .i64)) (x5 : denO (.row 41 tapiNode true)) (x6 : denO (.box (.pair (.int .i64) (.pair .str (.pair .str (.pair (.int .u32) (.pair (.nil 25) (.pair (.int .i64) (.pair (.nil 51) (.pair (.int .i64) (.pair (.int .i64) .unit))))))))))) : Option (denR (.tcons (.own tapiNode 0) (.tcons (.int .i64) .tnil)) [(.row 41 tapiNode false)]) := loopW [1, 1, 1, 0, 1, 1, 1, 1, 1, 1, 1, 0, 0] (BF (R := denR (.tcons (.own tapiNode 0) (.tcons (.int .i64) .tnil)) [(.row 41 tapiNode false)]) 37 1 [1, 1, 1, 0, 1, 1, 1, 1, 1, 1, 1, 0, 0]) ⟨[(0, ⟨(.own tapiNode 0), ()⟩), (1, ⟨(.int .i64), x0⟩), (2, ⟨(.list tapiPair), x1⟩), (3, ⟨(.int .i64), x2⟩), (10, ⟨(.ptr 1 0), ()⟩), (11, ⟨(.int .u32), x3⟩), (12, ⟨(.int .i64), x4⟩)], [⟨(.row 41 tapiNode true), x5⟩, ⟨(.box (.pair (.int .i64) (.pair .str (.pair .str (.pair (.int .u32) (.pair (.nil 25) (.pair (.int .i64) (.pair (.nil 51) (.pair (.int .i64) (.pair (.int .i64) .unit)))))))))), x6⟩]⟩ (blockK 0 (seqK false [1, 1, 1, 1] (BF 37 1 [1, 1, 1, 1]) (finF 37 (.tcons (.own tapiNode 0) (.tcons (.int .i64) .tnil)) [(.row 41 tapiNode false)] 1)))
noncomputable def ref20_make1.l1 (x0 : den (.int .i64)) (x1 : den (.list tapiPair)) (x2 : den (.int .i64)) (x3 : den (.int .u32)) (x4 : den (.int .i64)) (x5 : den (.int .i64)) (x6 : denO (.row 41 tapiNode true)) (x7 : denO (.box (.pair (.int .i64) (.pair .str (.pair .str (.pair (.int .u32) (.pair (.nil 25) (.pair (.int .i64) (.pair (.nil 51) (.pair (.int .i64) (.pair (.int .i64) .unit))))))))))) (x8 : denO (.row 51 tapiPair false)) : Option (denR (.tcons (.own tapiNode 0) (.tcons (.int .i64) .tnil)) [(.row 41 tapiNode false)]) := loopW [1, 1, 1, 0, 1, 1, 1, 1, 1, 1, 1, 0, 0, 1, 0, 0, 1, 0, 1, 0, 0] (BF (R := denR (.tcons (.own tapiNode 0) (.tcons (.int .i64) .tnil)) [(.row 41 tapiNode false)]) 37 1 [1, 1, 1, 0, 1, 1, 1, 1, 1, 1, 1, 0, 0, 1, 0, 0, 1, 0, 1, 0, 0]) ⟨[(0, ⟨(.own tapiNode 0), ()⟩), (1, ⟨(.int .i64), x0⟩), (2, ⟨(.list tapiPair), x1⟩), (3, ⟨(.int .i64), x2⟩), (10, ⟨(.ptr 1 0), ()⟩), (11, ⟨(.int .u32), x3⟩), (12, ⟨(.int .i64), x4⟩), (13, ⟨(.own tapiPair 2), ()⟩), (14, ⟨(.int .i64), x5⟩)], [⟨(.row 41 tapiNode true), x6⟩, ⟨(.box (.pair (.int .i64) (.pair .str (.pair .str (.pair (.int .u32) (.pair (.nil 25) (.pair (.int .i64) (.pair (.nil 51) (.pair (.int .i64) (.pair (.int .i64) .unit)))))))))), x7⟩, ⟨(.row 51 tapiPair false), x8⟩]⟩ (blockK 2 (seqK false [1, 1, 1, 0, 1, 1, 1, 1, 1, 1, 1, 0, 0, 1, 0, 0, 1, 1] (BF 37 1 [1, 1, 1, 0, 1, 1, 1, 1, 1, 1, 1, 0, 0, 1, 0, 0, 1, 1]) (blockK 1 (seqK false [1, 1, 1, 0, 1, 1, 1, 1, 1, 1, 1, 0, 0, 1, 1] (BF 37 1 [1, 1, 1, 0, 1, 1, 1, 1, 1, 1, 1, 0, 0, 1, 1]) (againK [1, 1, 1, 0, 1, 1, 1, 1, 1, 1, 1, 0, 0] (loopW [1, 1, 1, 0, 1, 1, 1, 1, 1, 1, 1, 0, 0] (BF 37 1 [1, 1, 1, 0, 1, 1, 1, 1, 1, 1, 1, 0, 0])) (blockK 0 (seqK false [1, 1, 1, 1] (BF 37 1 [1, 1, 1, 1]) (finF 37 (.tcons (.own tapiNode 0) (.tcons (.int .i64) .tnil)) [(.row 41 tapiNode false)] 1))))))))
noncomputable def ref20_make1.l2 (x0 : den (.int .i64)) (x1 : den (.list tapiPair)) (x2 : den (.int .i64)) (x3 : den (.int .u32)) (x4 : den (.int .i64)) (x5 : denO (.row 41 tapiNode false)) (x6 : denO (.box (.pair (.int .i64) (.pair .str (.pair .str (.pair (.int .u32) (.pair (.own (.int .i64) 2) (.pair (.int .i64) (.pair (.nil 51) (.pair (.int .i64) (.pair (.int .i64) .unit))))))))))) (x7 : denO (.row 25 (.int .i64) false)) : Option (denR (.tcons (.own tapiNode 0) (.tcons (.int .i64) .tnil)) [(.row 41 tapiNode false)]) := loopW [1, 1, 1, 0, 1, 1, 1, 1, 1, 1, 1, 0, 0] (BF (R := denR (.tcons (.own tapiNode 0) (.tcons (.int .i64) .tnil)) [(.row 41 tapiNode false)]) 37 1 [1, 1, 1, 0, 1, 1, 1, 1, 1, 1, 1, 0, 0]) ⟨[(0, ⟨(.own tapiNode 0), ()⟩), (1, ⟨(.int .i64), x0⟩), (2, ⟨(.list tapiPair), x1⟩), (3, ⟨(.int .i64), x2⟩), (10, ⟨(.ptr 1 0), ()⟩), (11, ⟨(.int .u32), x3⟩), (12, ⟨(.int .i64), x4⟩)], [⟨(.row 41 tapiNode false), x5⟩, ⟨(.box (.pair (.int .i64) (.pair .str (.pair .str (.pair (.int .u32) (.pair (.own (.int .i64) 2) (.pair (.int .i64) (.pair (.nil 51) (.pair (.int .i64) (.pair (.int .i64) .unit)))))))))), x6⟩, ⟨(.row 25 (.int .i64) false), x7⟩]⟩ (blockK 0 (seqK false [1, 1, 1, 1] (BF 37 1 [1, 1, 1, 1]) (finF 37 (.tcons (.own tapiNode 0) (.tcons (.int .i64) .tnil)) [(.row 41 tapiNode false)] 1)))
noncomputable def ref20_make1.l3 (x0 : den (.int .i64)) (x1 : den (.list tapiPair)) (x2 : den (.int .i64)) (x3 : den (.int .u32)) (x4 : den (.int .i64)) (x5 : den (.int .i64)) (x6 : denO (.row 41 tapiNode false)) (x7 : denO (.box (.pair (.int .i64) (.pair .str (.pair .str (.pair (.int .u32) (.pair (.own (.int .i64) 3) (.pair (.int .i64) (.pair (.nil 51) (.pair (.int .i64) (.pair (.int .i64) .unit))))))))))) (x8 : denO (.row 51 tapiPair false)) (x9 : denO (.row 25 (.int .i64) false)) : Option (denR (.tcons (.own tapiNode 0) (.tcons (.int .i64) .tnil)) [(.row 41 tapiNode false)]) := loopW [1, 1, 1, 0, 1, 1, 1, 1, 1, 1, 1, 0, 0, 1, 0, 0, 1, 0, 1, 0, 0] (BF (R := denR (.tcons (.own tapiNode 0) (.tcons (.int .i64) .tnil)) [(.row 41 tapiNode false)]) 37 1 [1, 1, 1, 0, 1, 1, 1, 1, 1, 1, 1, 0, 0, 1, 0, 0, 1, 0, 1, 0, 0]) ⟨[(0, ⟨(.own tapiNode 0), ()⟩), (1, ⟨(.int .i64), x0⟩), (2, ⟨(.list tapiPair), x1⟩), (3, ⟨(.int .i64), x2⟩), (10, ⟨(.ptr 1 0), ()⟩), (11, ⟨(.int .u32), x3⟩), (12, ⟨(.int .i64), x4⟩), (13, ⟨(.own tapiPair 2), ()⟩), (14, ⟨(.int .i64), x5⟩)], [⟨(.row 41 tapiNode false), x6⟩, ⟨(.box (.pair (.int .i64) (.pair .str (.pair .str (.pair (.int .u32) (.pair (.own (.int .i64) 3) (.pair (.int .i64) (.pair (.nil 51) (.pair (.int .i64) (.pair (.int .i64) .unit)))))))))), x7⟩, ⟨(.row 51 tapiPair false), x8⟩, ⟨(.row 25 (.int .i64) false), x9⟩]⟩ (blockK 2 (seqK false [1, 1, 1, 0, 1, 1, 1, 1, 1, 1, 1, 0, 0, 1, 0, 0, 1, 1] (BF 37 1 [1, 1, 1, 0, 1, 1, 1, 1, 1, 1, 1, 0, 0, 1, 0, 0, 1, 1]) (blockK 1 (seqK false [1, 1, 1, 0, 1, 1, 1, 1, 1, 1, 1, 0, 0, 1, 1] (BF 37 1 [1, 1, 1, 0, 1, 1, 1, 1, 1, 1, 1, 0, 0, 1, 1]) (againK [1, 1, 1, 0, 1, 1, 1, 1, 1, 1, 1, 0, 0] (loopW [1, 1, 1, 0, 1, 1, 1, 1, 1, 1, 1, 0, 0] (BF 37 1 [1, 1, 1, 0, 1, 1, 1, 1, 1, 1, 1, 0, 0])) (blockK 0 (seqK false [1, 1, 1, 1] (BF 37 1 [1, 1, 1, 1]) (finF 37 (.tcons (.own tapiNode 0) (.tcons (.int .i64) .tnil)) [(.row 41 tapiNode false)] 1))))))))
noncomputable def ref17_shape (a0 : den (.list tapiNode)) (a1 : den (.int .i64)) (a2 : den (.list tapiNode)) (a3 : den (.int .i64)) : Option (den .bool) := CF 38 [⟨(.list tapiNode), a0⟩, ⟨(.int .i64), a1⟩, ⟨(.list tapiNode), a2⟩, ⟨(.int .i64), a3⟩] [] .bool []
noncomputable def ref17_shape.j0 (x0 : den (.list tapiNode)) (x1 : den (.int .i64)) (x2 : den (.list tapiNode)) (x3 : den (.int .i64)) (x4 : den .bool) : Option (den .bool) := jnO [1, 0, 1] (BF (R := den .bool) 38 0 [1, 0, 1]) ⟨[(0, ⟨(.list tapiNode), x0⟩), (1, ⟨(.int .i64), x1⟩), (2, ⟨(.list tapiNode), x2⟩), (3, ⟨(.int .i64), x3⟩), (17, ⟨.bool, x4⟩)], []⟩ (seqK false [1, 1] (BF 38 0 [1, 1]) (finF 38 .bool [] 0))
noncomputable def ref17_shape.l1 (x0 : den (.list tapiNode)) (x1 : den (.list tapiNode)) (x2 : den (.int .i64)) (x3 : denO (.box tapiNode)) (x4 : denO (.box tapiNode)) : Option (den .bool) := loopW [1, 1, 1, 1, 0, 1, 0, 0] (BF (R := den .bool) 38 0 [1, 1, 1, 1, 0, 1, 0, 0]) ⟨[(0, ⟨(.list tapiNode), x0⟩), (2, ⟨(.list tapiNode), x1⟩), (9, ⟨(.ptr 0 0), ()⟩), (10, ⟨(.ptr 1 0), ()⟩), (11, ⟨(.int .i64), x2⟩)], [⟨(.box tapiNode), x3⟩, ⟨(.box tapiNode), x4⟩]⟩ (blockK 0 (seqK false [1, 1, 1, 1, 1] (BF 38 0 [1, 1, 1, 1, 1]) (finF 38 .bool [] 0)))
noncomputable def pair_put (a0 : den (.list tapiPair)) (a1 : den tapiPair) : Option (denR (.own tapiPair 0) [(.row 51 tapiPair false)]) := CF 39 [⟨(.list tapiPair), a0⟩, ⟨tapiPair, a1⟩] [] (.own tapiPair 0) [(.row 51 tapiPair false)]
noncomputable def node_formed (a0 : den tapiNode) : Option (den tapiNode) := CF 40 [⟨tapiNode, a0⟩] [] tapiNode []
noncomputable def node_long (a0 : den tapiNode) : Option (den .bool) := CF 41 [⟨tapiNode, a0⟩] [] .bool []
noncomputable def node_Same (a0 : den tapiNode) (a1 : den tapiNode) : Option (den .bool) := CF 42 [⟨tapiNode, a0⟩, ⟨tapiNode, a1⟩] [] .bool []
noncomputable def node_Same.j0 (x0 : den .bool) (x1 : denO (.box tapiNode)) (x2 : denO (.box tapiNode)) : Option (den .bool) := jnO [1, 1] (BF (R := den .bool) 42 0 [1, 1]) ⟨[(2, ⟨(.ptr 0 0), ()⟩), (3, ⟨(.ptr 1 0), ()⟩), (5, ⟨.bool, x0⟩)], [⟨(.box tapiNode), x1⟩, ⟨(.box tapiNode), x2⟩]⟩ (finF 42 .bool [] 0)
noncomputable def node_whole (a0 : den tapiNode) : Option (den .bool) := CF 43 [⟨tapiNode, a0⟩] [] .bool []
noncomputable def trie_maker_add (a0 : den tapiNode) (a1 : denO (.box (.pair (.int .i64) (.pair (.own tapiNode 1) .unit)))) (a2 : denO (.row 41 tapiNode true)) : Option (denR (.int .i64) [(.box (.pair (.int .i64) (.pair (.own tapiNode 1) .unit))), (.row 41 tapiNode false)]) := CF 44 [⟨(.ptr 0 0), ()⟩, ⟨tapiNode, a0⟩] [⟨(.box (.pair (.int .i64) (.pair (.own tapiNode 1) .unit))), a1⟩, ⟨(.row 41 tapiNode true), a2⟩] (.int .i64) [(.box (.pair (.int .i64) (.pair (.own tapiNode 1) .unit))), (.row 41 tapiNode false)]
noncomputable def node_Bucket (a0 : den (.list tapiPair)) : Option (den tapiNode) := CF 45 [⟨(.list tapiPair), a0⟩] [] tapiNode []
noncomputable abbrev trie_maker_parted.go (level bits : Int) (l : List (den tapiPair)) (m : den (.mp tapiPair)) (s : Int) : Option (den (.mp tapiPair) × Int) := partL CF 71 70 72 (.pair .str .unit) level bits l m s
noncomputable def trie_maker_parted (a0 : den (.list tapiPair)) (a1 : den (.int .i64)) (a2 : denO (.box (.pair (.int .i64) (.pair (.own tapiNode 1) .unit)))) (a3 : denO (.row 41 tapiNode true)) : Option (denR (.tcons (.mp tapiPair) (.tcons (.int .u32) .tnil)) [(.box (.pair (.int .i64) (.pair (.own tapiNode 1) .unit))), (.row 41 tapiNode true)]) := CF 46 [⟨(.ptr 0 0), ()⟩, ⟨(.list tapiPair), a0⟩, ⟨(.int .i64), a1⟩] [⟨(.box (.pair (.int .i64) (.pair (.own tapiNode 1) .unit))), a2⟩, ⟨(.row 41 tapiNode true), a3⟩] (.tcons (.mp tapiPair) (.tcons (.int .u32) .tnil)) [(.box (.pair (.int .i64) (.pair (.own tapiNode 1) .unit))), (.row 41 tapiNode true)]
noncomputable def mask_All (a0 : den (.int .u32)) : Option (den (.list (.int .i64))) := CF 47 [⟨(.int .u32), a0⟩] [] (.list (.int .i64)) []
noncomputable def mask_All.l0 (x0 : den (.int .u32)) (x1 : den (.int .i64)) (x2 : denO (.row 3 (.int .i64) false)) : Option (den (.list (.int .i64))) := loopW [1, 0, 1, 1, 1, 0, 0, 0] (BF (R := den (.list (.int .i64))) 47 0 [1, 0, 1, 1, 1, 0, 0, 0]) ⟨[(0, ⟨(.int .u32), x0⟩), (3, ⟨(.own (.int .i64) 0), ()⟩), (4, ⟨(.int .i64), x1⟩)], [⟨(.row 3 (.int .i64) false), x2⟩]⟩ (blockK 0 (seqK false [1, 0, 1, 1, 1, 1] (BF 47 0 [1, 0, 1, 1, 1, 1]) (finF 47 (.list (.int .i64)) [] 0)))
noncomputable def node_Branch (a0 : den (.int .u32)) (a1 : den (.list (.int .i64))) (a2 : den (.int .i64)) : Option (den tapiNode) := CF 48 [⟨(.int .u32), a0⟩, ⟨(.list (.int .i64)), a1⟩, ⟨(.int .i64), a2⟩] [] tapiNode []
noncomputable def hash_within (a0 : den (.int .i64)) : Option (den (.int .i64)) := CF 49 [⟨(.int .i64), a0⟩] [] (.int .i64) []
noncomputable def heap_May (a0 : den (.list tapiNode)) : Option (den (.int .i64)) := CF 50 [⟨(.list tapiNode), a0⟩] [] (.int .i64) []
noncomputable def heap_May.l0 (x0 : den (.list tapiNode)) (x1 : den (.int .i64)) (x2 : den (.int .i64)) : Option (den (.int .i64)) := loopW [1, 0, 1, 0, 0] (BF (R := den (.int .i64)) 50 0 [1, 0, 1, 0, 0]) ⟨[(7, ⟨(.list tapiNode), x0⟩), (8, ⟨(.int .i64), x1⟩), (9, ⟨(.int .i64), x2⟩)], []⟩ (blockK 0 (seqK false [1, 1] (BF 50 0 [1, 1]) (finF 50 (.int .i64) [] 0)))
noncomputable def heap_May.l1 (x0 : den (.int .i64)) (x1 : den (.list tapiNode)) (x2 : den (.int .i64)) (x3 : den (.int .i64)) (x4 : den (.list (.int .i64))) (x5 : den (.int .i64)) (x6 : den (.int .i64)) : Option (den (.int .i64)) := loopW [1, 0, 1, 0, 0, 1, 1, 0, 0, 1, 1, 1, 0, 0] (BF (R := den (.int .i64)) 50 0 [1, 0, 1, 0, 0, 1, 1, 0, 0, 1, 1, 1, 0, 0]) ⟨[(3, ⟨(.int .i64), x0⟩), (7, ⟨(.list tapiNode), x1⟩), (8, ⟨(.int .i64), x2⟩), (9, ⟨(.int .i64), x3⟩), (18, ⟨(.list (.int .i64)), x4⟩), (19, ⟨(.int .i64), x5⟩), (20, ⟨(.int .i64), x6⟩)], []⟩ (blockK 2 (blockK 1 (seqK false [1, 0, 1, 0, 0, 1, 1, 1] (BF 50 0 [1, 0, 1, 0, 0, 1, 1, 1]) (againK [1, 0, 1, 0, 0] (loopW [1, 0, 1, 0, 0] (BF 50 0 [1, 0, 1, 0, 0])) (blockK 0 (seqK false [1, 1] (BF 50 0 [1, 1]) (finF 50 (.int .i64) [] 0)))))))
noncomputable def node_Binds (a0 : den tapiNode) : Option (denR (.own tapiPair 0) [(.row 51 tapiPair false)]) := CF 51 [⟨tapiNode, a0⟩] [] (.own tapiPair 0) [(.row 51 tapiPair false)]
noncomputable def node_Refs (a0 : den tapiNode) : Option (den (.list (.int .i64))) := CF 52 [⟨tapiNode, a0⟩] [] (.list (.int .i64)) []
noncomputable def node_Refs.l0 (x0 : den (.int .i64)) (x1 : den (.int .i64)) (x2 : denO (.row 25 (.int .i64) false)) (x3 : denO (.row 25 (.int .i64) false)) : Option (den (.list (.int .i64))) := loopW [1, 1, 0, 1, 0, 0] (BF (R := den (.list (.int .i64))) 52 0 [1, 1, 0, 1, 0, 0]) ⟨[(3, ⟨(.own (.int .i64) 0), ()⟩), (12, ⟨(.own (.int .i64) 1), ()⟩), (13, ⟨(.int .i64), x0⟩), (14, ⟨(.int .i64), x1⟩)], [⟨(.row 25 (.int .i64) false), x2⟩, ⟨(.row 25 (.int .i64) false), x3⟩]⟩ (blockK 0 (seqK false [1, 1, 1] (BF 52 0 [1, 1, 1]) (finF 52 (.list (.int .i64)) [] 0)))
noncomputable def heap_bare (a0 : den tapiNode) : Option (den tapiNode) := CF 53 [⟨tapiNode, a0⟩] [] tapiNode []
noncomputable def heap_bare.l0 (x0 : den (.int .i64)) (x1 : den (.int .i64)) (x2 : denO (.box (.pair (.int .i64) (.pair .str (.pair .str (.pair (.int .u32) (.pair (.own (.int .i64) 2) (.pair (.int .i64) (.pair (.own tapiPair 3) (.pair (.int .i64) (.pair (.int .i64) .unit))))))))))) (x3 : denO (.box (.pair (.int .i64) (.pair .str (.pair .str (.pair (.int .u32) (.pair (.own (.int .i64) 4) (.pair (.int .i64) (.pair (.own tapiPair 5) (.pair (.int .i64) (.pair (.int .i64) .unit))))))))))) (x4 : denO (.row 25 (.int .i64) false)) (x5 : denO (.row 51 tapiPair false)) (x6 : denO (.row 25 (.int .i64) false)) (x7 : denO (.row 51 tapiPair false)) : Option (den tapiNode) := loopW [1, 1, 0, 1, 0, 0] (BF (R := den tapiNode) 53 0 [1, 1, 0, 1, 0, 0]) ⟨[(1, ⟨(.ptr 0 0), ()⟩), (2, ⟨(.ptr 1 0), ()⟩), (8, ⟨(.int .i64), x0⟩), (9, ⟨(.int .i64), x1⟩)], [⟨(.box (.pair (.int .i64) (.pair .str (.pair .str (.pair (.int .u32) (.pair (.own (.int .i64) 2) (.pair (.int .i64) (.pair (.own tapiPair 3) (.pair (.int .i64) (.pair (.int .i64) .unit)))))))))), x2⟩, ⟨(.box (.pair (.int .i64) (.pair .str (.pair .str (.pair (.int .u32) (.pair (.own (.int .i64) 4) (.pair (.int .i64) (.pair (.own tapiPair 5) (.pair (.int .i64) (.pair (.int .i64) .unit)))))))))), x3⟩, ⟨(.row 25 (.int .i64) false), x4⟩, ⟨(.row 51 tapiPair false), x5⟩, ⟨(.row 25 (.int .i64) false), x6⟩, ⟨(.row 51 tapiPair false), x7⟩]⟩ (blockK 0 (seqK false [1, 1, 1] (BF 53 0 [1, 1, 1]) (finF 53 tapiNode [] 0)))
noncomputable def ref13_May (a0 : den tapiNode) : Option (den (.int .i64)) := CF 54 [⟨tapiNode, a0⟩] [] (.int .i64) []
noncomputable def ref20_chunk (a0 : den .str) (a1 : den (.int .i64)) (a2 : den (.int .i64)) : Option (den (.int .i64)) := CF 55 [⟨.str, a0⟩, ⟨(.int .i64), a1⟩, ⟨(.int .i64), a2⟩] [] (.int .i64) []
noncomputable def ref13_Same (a0 : den tapiNode) (a1 : den tapiNode) : Option (den .bool) := CF 56 [⟨tapiNode, a0⟩, ⟨tapiNode, a1⟩] [] .bool []
noncomputable def pair_place (a0 : den (.list tapiPair)) (a1 : den .str) : Option (den (.tcons (.int .i64) (.tcons .bool .tnil))) := CF 57 [⟨(.list tapiPair), a0⟩, ⟨.str, a1⟩] [] (.tcons (.int .i64) (.tcons .bool .tnil)) []
noncomputable def slices_Cloneapi_Pair_api_Pair (a0 : den (.list tapiPair)) : Option (denR (.own tapiPair 0) [(.row 51 tapiPair false)]) := CF 58 [⟨(.list tapiPair), a0⟩] [] (.own tapiPair 0) [(.row 51 tapiPair false)]
noncomputable def slices_Insertapi_Pair_api_Pair (a0 : den (.int .i64)) (a1 : denO (.row 51 tapiPair true)) (a2 : denO (.row 51 tapiPair true)) : Option (denR (.own tapiPair 0) [(.row 51 tapiPair false), (.row 51 tapiPair true)]) := CF 59 [⟨(.own tapiPair 0), ()⟩, ⟨(.int .i64), a0⟩, ⟨(.own tapiPair 1), ()⟩] [⟨(.row 51 tapiPair true), a1⟩, ⟨(.row 51 tapiPair true), a2⟩] (.own tapiPair 0) [(.row 51 tapiPair false), (.row 51 tapiPair true)]
noncomputable def node_Tomb (a0 : den .str) (a1 : den .str) : Option (den tapiNode) := CF 60 [⟨.str, a0⟩, ⟨.str, a1⟩] [] tapiNode []
noncomputable def node_Tree (a0 : den .str) (a1 : den .str) (a2 : den (.int .i64)) (a3 : den (.int .i64)) (a4 : den (.int .i64)) : Option (den tapiNode) := CF 61 [⟨.str, a0⟩, ⟨.str, a1⟩, ⟨(.int .i64), a2⟩, ⟨(.int .i64), a3⟩, ⟨(.int .i64), a4⟩] [] tapiNode []
noncomputable def node_Inner (a0 : den (.int .i64)) : Option (den tapiNode) := CF 62 [⟨(.int .i64), a0⟩] [] tapiNode []
noncomputable def node_long_1 (a0 : den tapiPair) : Option (den .bool) := CF 63 [⟨tapiPair, a0⟩] [] .bool []
noncomputable def slices_ContainsFuncapi_Pair_api_Pair (a0 : den (.list tapiPair)) : Option (den .bool) := CF 64 [⟨(.list tapiPair), a0⟩, ⟨(.fn 63 .tnil), ()⟩] [] .bool []
noncomputable def slices_Equalapi_Ref_api_Ref (a0 : den (.list (.int .i64))) (a1 : den (.list (.int .i64))) : Option (den .bool) := CF 65 [⟨(.list (.int .i64)), a0⟩, ⟨(.list (.int .i64)), a1⟩] [] .bool []
noncomputable def slices_Equalapi_Ref_api_Ref.l0 (x0 : den (.list (.int .i64))) (x1 : den (.list (.int .i64))) (x2 : den (.int .i64)) (x3 : den (.int .i64)) : Option (den .bool) := loopW [1, 1, 0, 1, 0, 0] (BF (R := den .bool) 65 0 [1, 1, 0, 1, 0, 0]) ⟨[(0, ⟨(.list (.int .i64)), x0⟩), (1, ⟨(.list (.int .i64)), x1⟩), (12, ⟨(.int .i64), x2⟩), (13, ⟨(.int .i64), x3⟩)], []⟩ (blockK 0 (seqK false [1, 1, 1] (BF 65 0 [1, 1, 1]) (finF 65 .bool [] 0)))
noncomputable def slices_Equalapi_Pair_api_Pair (a0 : den (.list tapiPair)) (a1 : den (.list tapiPair)) : Option (den .bool) := CF 66 [⟨(.list tapiPair), a0⟩, ⟨(.list tapiPair), a1⟩] [] .bool []
noncomputable def slices_Equalapi_Pair_api_Pair.l0 (x0 : den (.list tapiPair)) (x1 : den (.list tapiPair)) (x2 : den (.int .i64)) (x3 : den (.int .i64)) : Option (den .bool) := loopW [1, 1, 0, 1, 0, 0] (BF (R := den .bool) 66 0 [1, 1, 0, 1, 0, 0]) ⟨[(0, ⟨(.list tapiPair), x0⟩), (1, ⟨(.list tapiPair), x1⟩), (12, ⟨(.int .i64), x2⟩), (13, ⟨(.int .i64), x3⟩)], []⟩ (blockK 0 (seqK false [1, 1, 1] (BF 66 0 [1, 1, 1]) (finF 66 .bool [] 0)))
noncomputable def mask_Count (a0 : den (.int .u32)) : Option (den (.int .i64)) := CF 67 [⟨(.int .u32), a0⟩] [] (.int .i64) []
noncomputable def slices_Containsapi_Ref_api_Ref (a0 : den (.list (.int .i64))) (a1 : den (.int .i64)) : Option (den .bool) := CF 68 [⟨(.list (.int .i64)), a0⟩, ⟨(.int .i64), a1⟩] [] .bool []
noncomputable def pair_Is (a0 : den (.list tapiPair)) : Option (den .bool) := CF 69 [⟨(.list tapiPair), a0⟩] [] .bool []
noncomputable def pair_Is.l0 (x0 : den (.list tapiPair)) (x1 : den (.int .i64)) (x2 : den (.int .i64)) : Option (den .bool) := loopW [1, 0, 1, 0, 0] (BF (R := den .bool) 69 0 [1, 0, 1, 0, 0]) ⟨[(0, ⟨(.list tapiPair), x0⟩), (5, ⟨(.int .i64), x1⟩), (6, ⟨(.int .i64), x2⟩)], []⟩ (blockK 0 (seqK false [1, 1] (BF 69 0 [1, 1]) (finF 69 .bool [] 0)))
noncomputable def hash_Of (a0 : den .str) (a1 : den (.int .i64)) : Option (den (.int .u64)) := CF 71 [⟨.str, a0⟩, ⟨(.int .i64), a1⟩] [] (.int .u64) []
noncomputable def hash_Of.l0 (x0 : den .str) (x1 : den (.int .i64)) (x2 : den (.int .u64)) (x3 : den (.int .i64)) (x4 : den (.int .i64)) : Option (den (.int .u64)) := loopW [1, 1, 0, 1, 0, 0] (BF (R := den (.int .u64)) 71 0 [1, 1, 0, 1, 0, 0]) ⟨[(0, ⟨.str, x0⟩), (1, ⟨(.int .i64), x1⟩), (5, ⟨(.int .u64), x2⟩), (8, ⟨(.int .i64), x3⟩), (9, ⟨(.int .i64), x4⟩)], []⟩ (blockK 0 (seqK false [1, 1, 1] (BF 71 0 [1, 1, 1]) (finF 71 (.int .u64) [] 0)))
noncomputable def hash_Chunk (a0 : den (.int .u64)) (a1 : den (.int .i64)) (a2 : den (.int .i64)) : Option (den (.int .i64)) := CF 70 [⟨(.int .u64), a0⟩, ⟨(.int .i64), a1⟩, ⟨(.int .i64), a2⟩] [] (.int .i64) []
noncomputable def mask_With (a0 : den (.int .u32)) (a1 : den (.int .i64)) : Option (den (.int .u32)) := CF 72 [⟨(.int .u32), a0⟩, ⟨(.int .i64), a1⟩] [] (.int .u32) []
noncomputable def mask_Next (a0 : den (.int .u32)) (a1 : den (.int .i64)) : Option (den (.tcons (.int .i64) (.tcons .bool .tnil))) := CF 73 [⟨(.int .u32), a0⟩, ⟨(.int .i64), a1⟩] [] (.tcons (.int .i64) (.tcons .bool .tnil)) []
noncomputable def slices_Cloneapi_Ref_api_Ref (a0 : den (.list (.int .i64))) : Option (denR (.own (.int .i64) 0) [(.row 25 (.int .i64) false)]) := CF 74 [⟨(.list (.int .i64)), a0⟩] [] (.own (.int .i64) 0) [(.row 25 (.int .i64) false)]
noncomputable def node_Copy (a0 : den tapiNode) : Option (denR (.pair (.int .i64) (.pair .str (.pair .str (.pair (.int .u32) (.pair (.own (.int .i64) 0) (.pair (.int .i64) (.pair (.own tapiPair 1) (.pair (.int .i64) (.pair (.int .i64) .unit))))))))) [(.row 25 (.int .i64) false), (.row 51 tapiPair false)]) := CF 75 [⟨tapiNode, a0⟩] [] (.pair (.int .i64) (.pair .str (.pair .str (.pair (.int .u32) (.pair (.own (.int .i64) 0) (.pair (.int .i64) (.pair (.own tapiPair 1) (.pair (.int .i64) (.pair (.int .i64) .unit))))))))) [(.row 25 (.int .i64) false), (.row 51 tapiPair false)]
noncomputable def ref13_long (a0 : den tapiNode) : Option (den .bool) := CF 76 [⟨tapiNode, a0⟩] [] .bool []
noncomputable def ref13_long.l0 (x0 : den .bool) (x1 : den (.int .i64)) (x2 : denO (.box tapiNode)) : Option (den .bool) := loopW [1, 1, 0, 1, 0, 0] (BF (R := den .bool) 76 0 [1, 1, 0, 1, 0, 0]) ⟨[(1, ⟨(.ptr 0 0), ()⟩), (3, ⟨.bool, x0⟩), (4, ⟨(.int .i64), x1⟩)], [⟨(.box tapiNode), x2⟩]⟩ (blockK 0 (seqK false [1, 1, 1] (BF 76 0 [1, 1, 1]) (finF 76 .bool [] 0)))
noncomputable def ref13_form (a0 : den tapiNode) : Option (den .bool) := CF 77 [⟨tapiNode, a0⟩] [] .bool []
noncomputable def ref13_form.j0 (x0 : den (.int .i64)) (x1 : den .bool) (x2 : denO (.box tapiNode)) : Option (den .bool) := jnO [1, 1, 0, 1, 0, 1] (BF (R := den .bool) 77 0 [1, 1, 0, 1, 0, 1]) ⟨[(1, ⟨(.ptr 0 0), ()⟩), (8, ⟨(.int .i64), x0⟩), (9, ⟨.bool, x1⟩)], [⟨(.box tapiNode), x2⟩]⟩ (blockK 0 (seqK false [1, 1, 1] (BF 77 0 [1, 1, 1]) (finF 77 .bool [] 0)))
noncomputable def ref13_form.l1 (x0 : den (.int .i64)) (x1 : denO (.box tapiNode)) : Option (den .bool) := loopW [1, 1, 0, 1, 0, 1, 1, 1, 0, 0, 1, 0, 0] (BF (R := den .bool) 77 0 [1, 1, 0, 1, 0, 1, 1, 1, 0, 0, 1, 0, 0]) ⟨[(1, ⟨(.ptr 0 0), ()⟩), (3, ⟨(.int .i64), x0⟩)], [⟨(.box tapiNode), x1⟩]⟩ (blockK 1 (seqK false [1, 1, 0, 1, 0, 1, 1, 1, 0, 1] (BF 77 0 [1, 1, 0, 1, 0, 1, 1, 1, 0, 1]) (blockK 0 (seqK false [1, 1, 1] (BF 77 0 [1, 1, 1]) (finF 77 .bool [] 0)))))
noncomputable def ref04_Of (a0 : den .str) (a1 : den (.int .i64)) : Option (den (.int .u64)) := CF 79 [⟨.str, a0⟩, ⟨(.int .i64), a1⟩] [] (.int .u64) []
noncomputable def ref04_Of.l0 (x0 : den .str) (x1 : den (.int .i64)) (x2 : den (.int .u64)) (x3 : den (.int .i64)) : Option (den (.int .u64)) := loopW [1, 1, 0, 1, 0, 0] (BF (R := den (.int .u64)) 79 0 [1, 1, 0, 1, 0, 0]) ⟨[(0, ⟨.str, x0⟩), (1, ⟨(.int .i64), x1⟩), (5, ⟨(.int .u64), x2⟩), (6, ⟨(.int .i64), x3⟩)], []⟩ (blockK 0 (seqK false [1, 1, 1] (BF 79 0 [1, 1, 1]) (finF 79 (.int .u64) [] 0)))
noncomputable def ref04_Of.l1 (x0 : den (.int .i64)) (x1 : den (.int .u64)) (x2 : den (.int .u64)) (x3 : den (.int .u64)) (x4 : den (.int .i64)) : Option (den (.int .u64)) := loopW [1, 1, 1, 1, 0, 1, 0, 0] (BF (R := den (.int .u64)) 79 0 [1, 1, 1, 1, 0, 1, 0, 0]) ⟨[(1, ⟨(.int .i64), x0⟩), (5, ⟨(.int .u64), x1⟩), (7, ⟨(.int .u64), x2⟩), (8, ⟨(.int .u64), x3⟩), (9, ⟨(.int .i64), x4⟩)], []⟩ (blockK 2 (seqK false [1, 1, 1, 1, 1] (BF 79 0 [1, 1, 1, 1, 1]) (finF 79 (.int .u64) [] 0)))
noncomputable def ref04_Chunk (a0 : den (.int .u64)) (a1 : den (.int .i64)) (a2 : den (.int .i64)) : Option (den (.int .i64)) := CF 78 [⟨(.int .u64), a0⟩, ⟨(.int .i64), a1⟩, ⟨(.int .i64), a2⟩] [] (.int .i64) []
noncomputable def ref04_Chunk.l0 (x0 : den (.int .u64)) (x1 : den (.int .i64)) (x2 : den (.int .i64)) (x3 : den (.int .i64)) (x4 : den (.int .i64)) (x5 : den (.int .i64)) : Option (den (.int .i64)) := loopW [1, 1, 1, 0, 1, 0, 0] (BF (R := den (.int .i64)) 78 0 [1, 1, 1, 0, 1, 0, 0]) ⟨[(0, ⟨(.int .u64), x0⟩), (1, ⟨(.int .i64), x1⟩), (2, ⟨(.int .i64), x2⟩), (7, ⟨(.int .i64), x3⟩), (8, ⟨(.int .i64), x4⟩), (9, ⟨(.int .i64), x5⟩)], []⟩ (blockK 0 (seqK false [1, 1, 1, 1] (BF 78 0 [1, 1, 1, 1]) (finF 78 (.int .i64) [] 0)))
noncomputable def ref13_SameRefs (a0 : den (.list (.int .i64))) (a1 : den (.list (.int .i64))) : Option (den .bool) := CF 80 [⟨(.list (.int .i64)), a0⟩, ⟨(.list (.int .i64)), a1⟩] [] .bool []
noncomputable def ref13_SameRefs.l0 (x0 : den (.list (.int .i64))) (x1 : den (.list (.int .i64))) (x2 : den (.int .i64)) : Option (den .bool) := loopW [1, 1, 0, 1, 0, 0] (BF (R := den .bool) 80 0 [1, 1, 0, 1, 0, 0]) ⟨[(0, ⟨(.list (.int .i64)), x0⟩), (1, ⟨(.list (.int .i64)), x1⟩), (5, ⟨(.int .i64), x2⟩)], []⟩ (blockK 0 (seqK false [1, 1, 1] (BF 80 0 [1, 1, 1]) (finF 80 .bool [] 0)))
noncomputable def slices_BinarySearchFuncapi_Pair_api_Pair_string (a0 : den (.list tapiPair)) (a1 : den .str) : Option (den (.tcons (.int .i64) (.tcons .bool .tnil))) := CF 81 [⟨(.list tapiPair), a0⟩, ⟨.str, a1⟩, ⟨(.fn 82 .tnil), ()⟩] [] (.tcons (.int .i64) (.tcons .bool .tnil)) []
noncomputable def slices_BinarySearchFuncapi_Pair_api_Pair_string.l0 (x0 : den (.list tapiPair)) (x1 : den .str) (x2 : den (.int .i64)) (x3 : den (.int .i64)) (x4 : den (.int .i64)) : Option (den (.tcons (.int .i64) (.tcons .bool .tnil))) := loopW [1, 1, 1, 0, 0, 0] (BF (R := den (.tcons (.int .i64) (.tcons .bool .tnil))) 81 0 [1, 1, 1, 0, 0, 0]) ⟨[(0, ⟨(.list tapiPair), x0⟩), (1, ⟨.str, x1⟩), (2, ⟨(.fn 82 .tnil), ()⟩), (8, ⟨(.int .i64), x2⟩), (9, ⟨(.int .i64), x3⟩), (10, ⟨(.int .i64), x4⟩)], []⟩ (blockK 0 (seqK false [1, 1, 1, 1] (BF 81 0 [1, 1, 1, 1]) (finF 81 (.tcons (.int .i64) (.tcons .bool .tnil)) [] 0)))
noncomputable def slices_IndexFuncapi_Pair_api_Pair (a0 : den (.list tapiPair)) : Option (den (.int .i64)) := CF 86 [⟨(.list tapiPair), a0⟩, ⟨(.fn 63 .tnil), ()⟩] [] (.int .i64) []
noncomputable def slices_IndexFuncapi_Pair_api_Pair.l0 (x0 : den (.list tapiPair)) (x1 : den (.int .i64)) (x2 : den (.int .i64)) : Option (den (.int .i64)) := loopW [1, 0, 1, 0, 0] (BF (R := den (.int .i64)) 86 0 [1, 0, 1, 0, 0]) ⟨[(0, ⟨(.list tapiPair), x0⟩), (1, ⟨(.fn 63 .tnil), ()⟩), (7, ⟨(.int .i64), x1⟩), (8, ⟨(.int .i64), x2⟩)], []⟩ (blockK 0 (seqK false [1, 1] (BF 86 0 [1, 1]) (finF 86 (.int .i64) [] 0)))
noncomputable def math_bits_OnesCount32 (a0 : den (.int .u32)) : Option (den (.int .i64)) := CF 87 [⟨(.int .u32), a0⟩] [] (.int .i64) []
noncomputable def slices_Indexapi_Ref_api_Ref (a0 : den (.list (.int .i64))) (a1 : den (.int .i64)) : Option (den (.int .i64)) := CF 88 [⟨(.list (.int .i64)), a0⟩, ⟨(.int .i64), a1⟩] [] (.int .i64) []
noncomputable def slices_Indexapi_Ref_api_Ref.l0 (x0 : den (.list (.int .i64))) (x1 : den (.int .i64)) (x2 : den (.int .i64)) (x3 : den (.int .i64)) : Option (den (.int .i64)) := loopW [1, 0, 1, 0, 0] (BF (R := den (.int .i64)) 88 0 [1, 0, 1, 0, 0]) ⟨[(0, ⟨(.list (.int .i64)), x0⟩), (1, ⟨(.int .i64), x1⟩), (7, ⟨(.int .i64), x2⟩), (8, ⟨(.int .i64), x3⟩)], []⟩ (blockK 0 (seqK false [1, 1] (BF 88 0 [1, 1]) (finF 88 (.int .i64) [] 0)))
noncomputable def order_Compare (a0 : den .str) (a1 : den .str) : Option (den (.int .i64)) := CF 83 [⟨.str, a0⟩, ⟨.str, a1⟩] [] (.int .i64) []
noncomputable def order_Compare.j0 (x0 : den .str) (x1 : den .str) (x2 : den (.int .i64)) (x3 : den .bool) : Option (den (.int .i64)) := jnO [1, 1, 0, 0, 1] (BF (R := den (.int .i64)) 83 0 [1, 1, 0, 0, 1]) ⟨[(0, ⟨.str, x0⟩), (1, ⟨.str, x1⟩), (5, ⟨(.int .i64), x2⟩), (9, ⟨.bool, x3⟩)], []⟩ (blockK 0 (seqK false [1, 1, 1] (BF 83 0 [1, 1, 1]) (finF 83 (.int .i64) [] 0)))
noncomputable def hash_cut (a0 : den (.int .u64)) (a1 : den (.int .i64)) : Option (den (.int .u64)) := CF 89 [⟨(.int .u64), a0⟩, ⟨(.int .i64), a1⟩] [] (.int .u64) []
noncomputable def mask_in (a0 : den (.int .i64)) : Option (den .bool) := CF 90 [⟨(.int .i64), a0⟩] [] .bool []
noncomputable def mask_below (a0 : den (.int .i64)) : Option (den (.int .u32)) := CF 91 [⟨(.int .i64), a0⟩] [] (.int .u32) []
noncomputable def math_bits_TrailingZeros32 (a0 : den (.int .u32)) : Option (denR (.int .i64) []) := CF 92 [⟨(.int .u32), a0⟩] [] (.int .i64) []
noncomputable def ref13_bare (a0 : den tapiNode) (a1 : den .bool) (a2 : den .bool) (a3 : den .bool) (a4 : den .bool) : Option (den .bool) := CF 93 [⟨tapiNode, a0⟩, ⟨.bool, a1⟩, ⟨.bool, a2⟩, ⟨.bool, a3⟩, ⟨.bool, a4⟩] [] .bool []
noncomputable def ref07_Is (a0 : den (.list tapiPair)) : Option (den .bool) := CF 95 [⟨(.list tapiPair), a0⟩] [] .bool []
noncomputable def ref07_Is.l0 (x0 : den (.list tapiPair)) (x1 : den (.int .i64)) : Option (den .bool) := loopW [1, 0, 1, 0, 0] (BF (R := den .bool) 95 0 [1, 0, 1, 0, 0]) ⟨[(0, ⟨(.list tapiPair), x0⟩), (3, ⟨(.int .i64), x1⟩)], []⟩ (blockK 0 (seqK false [1, 1] (BF 95 0 [1, 1]) (finF 95 .bool [] 0)))
noncomputable def ref06_All (a0 : den (.int .u32)) : Option (den (.list (.int .i64))) := CF 94 [⟨(.int .u32), a0⟩] [] (.list (.int .i64)) []
noncomputable def ref06_All.l0 (x0 : den (.int .u32)) (x1 : den (.int .i64)) (x2 : denO (.row 3 (.int .i64) false)) : Option (den (.list (.int .i64))) := loopW [1, 1, 0, 1, 0, 0] (BF (R := den (.list (.int .i64))) 94 0 [1, 1, 0, 1, 0, 0]) ⟨[(0, ⟨(.int .u32), x0⟩), (3, ⟨(.own (.int .i64) 0), ()⟩), (4, ⟨(.int .i64), x1⟩)], [⟨(.row 3 (.int .i64) false), x2⟩]⟩ (blockK 0 (seqK false [1, 1, 1] (BF 94 0 [1, 1, 1]) (finF 94 (.list (.int .i64)) [] 0)))
noncomputable def ref04_bit (a0 : den (.int .u64)) (a1 : den (.int .i64)) : Option (den (.int .i64)) := CF 96 [⟨(.int .u64), a0⟩, ⟨(.int .i64), a1⟩] [] (.int .i64) []
noncomputable def ref04_bit.l0 (x0 : den (.int .u64)) (x1 : den (.int .i64)) (x2 : den (.int .i64)) : Option (den (.int .i64)) := loopW [1, 0, 1, 0, 0] (BF (R := den (.int .i64)) 96 0 [1, 0, 1, 0, 0]) ⟨[(0, ⟨(.int .u64), x0⟩), (1, ⟨(.int .i64), x1⟩), (5, ⟨(.int .i64), x2⟩)], []⟩ (blockK 0 (seqK false [1, 1] (BF 96 0 [1, 1]) (finF 96 (.int .i64) [] 0)))
noncomputable def pair_place_1 (a0 : den tapiPair) (a1 : den .str) : Option (den (.int .i64)) := CF 82 [⟨tapiPair, a0⟩, ⟨.str, a1⟩] [] (.int .i64) []
noncomputable def order_Common (a0 : den .str) (a1 : den .str) : Option (den (.int .i64)) := CF 97 [⟨.str, a0⟩, ⟨.str, a1⟩] [] (.int .i64) []
noncomputable def order_Common.l0 (x0 : den .str) (x1 : den .str) (x2 : den (.int .i64)) (x3 : den (.int .i64)) (x4 : den (.int .i64)) : Option (den (.int .i64)) := loopW [1, 1, 0, 1, 0, 0] (BF (R := den (.int .i64)) 97 0 [1, 1, 0, 1, 0, 0]) ⟨[(0, ⟨.str, x0⟩), (1, ⟨.str, x1⟩), (5, ⟨(.int .i64), x2⟩), (12, ⟨(.int .i64), x3⟩), (13, ⟨(.int .i64), x4⟩)], []⟩ (blockK 0 (seqK false [1, 1, 1] (BF 97 0 [1, 1, 1]) (finF 97 (.int .i64) [] 0)))
noncomputable def ref06_Has (a0 : den (.int .u32)) (a1 : den (.int .i64)) : Option (den .bool) := CF 99 [⟨(.int .u32), a0⟩, ⟨(.int .i64), a1⟩] [] .bool []
noncomputable def ref06_Has.l0 (x0 : den (.int .u32)) (x1 : den (.int .i64)) (x2 : den (.int .i64)) : Option (den .bool) := loopW [1, 0, 1, 0, 0] (BF (R := den .bool) 99 0 [1, 0, 1, 0, 0]) ⟨[(0, ⟨(.int .u32), x0⟩), (1, ⟨(.int .i64), x1⟩), (5, ⟨(.int .i64), x2⟩)], []⟩ (blockK 0 (seqK false [1, 1] (BF 99 0 [1, 1]) (finF 99 .bool [] 0)))
end Go.Proofs.YtjekopgcpikkiaaDoor.AA
set_option maxRecDepth 100000
set_option linter.unusedVariables false
namespace Go.Proofs.YtjekopgcpikkiaaDoor.AA
open Go.Abs
theorem law20_TrieIs.eq (a0 : den (.list tapiNode)) (a1 : den (.int .i64)) (a2 : den (.int .i64)) : law20_TrieIs a0 a1 a2 =
  bnd (law17_Few a0) fun r0 =>
  bnd (law17_Few r0) fun r1 =>
  bnd (trie_Is r1 a1 a2) fun r2 =>
  bnd (ref20_Is r0 a1 a2) fun r3 =>
  br (eqB r2 r3)
   (bnd (law20_works) fun r4 =>
   some r4)
   (some false) :=
  (callW_eq (P := PP) (T := TT) (pr := RR) 3 [⟨(.list tapiNode), a0⟩, ⟨(.int .i64), a1⟩, ⟨(.int .i64), a2⟩] [] .bool []).trans (by kernel_rfl)
theorem law20_TrieHas.eq (a0 : den (.int .i64)) (a1 : den (.list tapiPair)) (a2 : den (.int .i64)) : law20_TrieHas a0 a1 a2 =
  bnd (law20_works) fun r0 =>
  br (notB r0)
   (some false)
   (bnd (law07_Few a1) fun r1 =>
   br (leI (0 : Int) a2)
    (law20_TrieHas.j0 a0 r1 a2 (0 : Int) (leI a2 (1000000 : Int)))
    (law20_TrieHas.j0 a0 r1 a2 (0 : Int) false)) :=
  (callW_eq (P := PP) (T := TT) (pr := RR) 4 [⟨(.int .i64), a0⟩, ⟨(.list tapiPair), a1⟩, ⟨(.int .i64), a2⟩] [] .bool []).trans (by kernel_rfl)
theorem law20_TrieHas.j0.eq (x0 : den (.int .i64)) (x1 : den (.list tapiPair)) (x2 : den (.int .i64)) (x3 : den (.int .i64)) (x4 : den .bool) : law20_TrieHas.j0 x0 x1 x2 x3 x4 =
  br x4
   (bnd (ref04_Levels x0) fun r0 =>
   law20_TrieHas.j1 x0 x1 x2 (mulI .i64 x2 (addI .i64 r0 (1 : Int))))
   (law20_TrieHas.j1 x0 x1 x2 x3) :=
  (congrFun (congrFun (jnO_eq [1, 1, 1, 1, 0, 1] (BF (R := den .bool) 4 0 [1, 1, 1, 1, 0, 1])) ⟨[(0, ⟨(.int .i64), x0⟩), (1, ⟨(.list tapiPair), x1⟩), (2, ⟨(.int .i64), x2⟩), (7, ⟨(.int .i64), x3⟩), (21, ⟨.bool, x4⟩)], []⟩) (seqK true [1, 1, 1, 1, 1] (BF 4 0 [1, 1, 1, 1, 1]) (finF 4 .bool [] 0))).trans (by kernel_rfl)
theorem law20_TrieHas.j1.eq (x0 : den (.int .i64)) (x1 : den (.list tapiPair)) (x2 : den (.int .i64)) (x3 : den (.int .i64)) : law20_TrieHas.j1 x0 x1 x2 x3 =
  bnd (trie_Make x0 x1) fun r0 =>
  br (notB (eqI r0.2.2.1 (0 : Int)))
   (bnd (trie_Most x0 x2) fun r1 =>
   some (eqI r1 x3))
   (bnd (ref07_Make x1) fun r2 =>
   bnd (ref17_Binds r0.1 r0.2.1) fun r3 =>
   bnd (ref07_Make r3) fun r4 =>
   bnd (ref07_Same r4 r2) fun r5 =>
   br r5
    (bnd (ref17_Binds r0.1 r0.2.1) fun r6 =>
    br (eqI (ofN (lenL tapiPair r6)) (ofN (lenL tapiPair r2)))
     (bnd (trie_Is r0.1 r0.2.1 x0) fun r7 =>
     br r7
      (bnd (trie_Most x0 (ofN (lenL tapiPair r2))) fun r8 =>
      br (leI (ofN (lenL tapiNode r0.1)) r8)
       (bnd (trie_Most x0 x2) fun r9 =>
       some (eqI r9 x3))
       (some false))
      (some false))
     (some false))
    (some false)) :=
  (congrFun (congrFun (jnO_eq [1, 1, 1, 1, 1] (BF (R := den .bool) 4 0 [1, 1, 1, 1, 1])) ⟨[(0, ⟨(.int .i64), x0⟩), (1, ⟨(.list tapiPair), x1⟩), (2, ⟨(.int .i64), x2⟩), (7, ⟨(.int .i64), x3⟩)], []⟩) (finF 4 .bool [] 0)).trans (by kernel_rfl)
theorem law17_Few.eq (a0 : den (.list tapiNode)) : law17_Few a0 =
  law17_Few.l0 a0 (1 : Int) (0 : Int) [] :=
  (callW_eq (P := PP) (T := TT) (pr := RR) 5 [⟨(.list tapiNode), a0⟩] [] (.list tapiNode) []).trans (by kernel_rfl)
theorem law17_Few.l0.eq (x0 : den (.list tapiNode)) (x1 : den (.int .i64)) (x2 : den (.int .i64)) (x3 : denO (.row 41 tapiNode false)) : law17_Few.l0 x0 x1 x2 x3 =
  br (ltI x2 (ofN (lenL tapiNode x0)))
   (law17_Few.j1 x0 x1 x2 (ltI x2 (12 : Int)) x3)
   (law17_Few.j1 x0 x1 x2 false x3) :=
  (loopB_eq (P := PP) (T := TT) (C := CF) [1, 1, 0, 1, 0, 0] [1, 1, 0, 1, 0, 0] 5 0 ⟨[(0, ⟨(.list tapiNode), x0⟩), (3, ⟨(.own tapiNode 0), ()⟩), (4, ⟨(.int .i64), x1⟩), (5, ⟨(.int .i64), x2⟩)], [⟨(.row 41 tapiNode false), x3⟩]⟩ (blockK 0 (seqK false [1, 1, 1] (BF 5 0 [1, 1, 1]) (finF 5 (.list tapiNode) [] 0)))).trans (by kernel_rfl)
theorem law17_Few.j1.eq (x0 : den (.list tapiNode)) (x1 : den (.int .i64)) (x2 : den (.int .i64)) (x3 : den .bool) (x4 : denO (.row 41 tapiNode false)) : law17_Few.j1 x0 x1 x2 x3 x4 =
  br x3
   (br (andB (leI (0 : Int) x2) (ltI x2 (ofN (lenL tapiNode x0)))) (bnd (law13_Few (ixL tapiNode x0 x2)) fun r0 =>
   bnd (ref13_Refs r0) fun r1 =>
   br (ltI (3000 : Int) (mulI .i64 x1 (maxI (ofN (lenL (.int .i64) r1)) (1 : Int))))
    (some x4)
    (br (fitL tapiNode (appL tapiNode x4 (r0 :: []))) (law17_Few.l0 x0 (mulI .i64 x1 (maxI (ofN (lenL (.int .i64) r1)) (1 : Int))) (addI .i64 x2 (1 : Int)) (appL tapiNode x4 (r0 :: []))) none)) none)
   (some x4) :=
  (congrFun (congrFun (jnO_eq [1, 1, 0, 1, 0, 0, 0, 1] (BF (R := den (.list tapiNode)) 5 0 [1, 1, 0, 1, 0, 0, 0, 1])) ⟨[(0, ⟨(.list tapiNode), x0⟩), (3, ⟨(.own tapiNode 0), ()⟩), (4, ⟨(.int .i64), x1⟩), (5, ⟨(.int .i64), x2⟩), (15, ⟨.bool, x3⟩)], [⟨(.row 41 tapiNode false), x4⟩]⟩) (seqK false [1, 1, 0, 1, 0, 0, 1] (BF 5 0 [1, 1, 0, 1, 0, 0, 1]) (againK [1, 1, 0, 1, 0, 0] (loopW [1, 1, 0, 1, 0, 0] (BF 5 0 [1, 1, 0, 1, 0, 0])) (blockK 0 (seqK false [1, 1, 1] (BF 5 0 [1, 1, 1]) (finF 5 (.list tapiNode) [] 0)))))).trans (by kernel_rfl)
theorem trie_Is.eq (a0 : den (.list tapiNode)) (a1 : den (.int .i64)) (a2 : den (.int .i64)) : trie_Is a0 a1 a2 =
  bnd (heap_Binds a0 a1) fun r0 =>
  br (notB (eqI r0.2.1 (0 : Int)))
   (some false)
   (bnd (trie_Make a2 r0.1) fun r1 =>
   br (eqI r1.2.2.1 (0 : Int))
    (bnd (heap_Same a0 a1 r1.1 r1.2.1) fun r2 =>
    some r2)
    (some false)) :=
  (callW_eq (P := PP) (T := TT) (pr := RR) 6 [⟨(.list tapiNode), a0⟩, ⟨(.int .i64), a1⟩, ⟨(.int .i64), a2⟩] [] .bool []).trans (by kernel_rfl)
theorem ref20_Is.eq (a0 : den (.list tapiNode)) (a1 : den (.int .i64)) (a2 : den (.int .i64)) : ref20_Is a0 a1 a2 =
  bnd (ref17_Fits a0 a1) fun r0 =>
  br (notB r0)
   (some false)
   (bnd (ref17_Binds a0 a1) fun r1 =>
   bnd (ref20_Make a2 r1) fun r2 =>
   bnd (ref17_Same a0 a1 r2.1 r2.2.1) fun r3 =>
   some r3) :=
  (callW_eq (P := PP) (T := TT) (pr := RR) 7 [⟨(.list tapiNode), a0⟩, ⟨(.int .i64), a1⟩, ⟨(.int .i64), a2⟩] [] .bool []).trans (by kernel_rfl)
theorem law20_works.eq  : law20_works  =
  bnd (trie_Make (64 : Int) (((ByteArray.mk #[97]), ((ByteArray.mk #[49]), ())) :: [])) fun r0 =>
  bnd (trie_Make (0 : Int) (((ByteArray.mk #[97]), (ByteArray.empty, ())) :: (((ByteArray.mk #[98]), (ByteArray.empty, ())) :: []))) fun r1 =>
  br (eqI r0.2.2.1 (0 : Int))
   (br (eqI r1.2.2.1 (0 : Int))
    (br (eqI (ofN (lenL tapiNode r0.1)) (1 : Int))
     (br (eqI r0.2.1 (1 : Int))
      (br (eqI (ofN (lenL tapiNode r1.1)) (1 : Int))
       (br (eqI r1.2.1 (1 : Int))
        (br (andB (leI (0 : Int) (0 : Int)) (ltI (0 : Int) (ofN (lenL tapiNode r1.1)))) (br (eqI (ixL tapiNode r1.1 (0 : Int)).1 (3 : Int))
         (bnd (trie_Is r0.1 r0.2.1 (64 : Int)) fun r2 =>
         some r2)
         (some false)) none)
        (some false))
       (some false))
      (some false))
     (some false))
    (some false))
   (some false) :=
  (callW_eq (P := PP) (T := TT) (pr := RR) 8 [] [] .bool []).trans (by kernel_rfl)
theorem law07_Few.eq (a0 : den (.list tapiPair)) : law07_Few a0 =
  law07_Few.l0 a0 (0 : Int) [] :=
  (callW_eq (P := PP) (T := TT) (pr := RR) 9 [⟨(.list tapiPair), a0⟩] [] (.list tapiPair) []).trans (by kernel_rfl)
theorem law07_Few.l0.eq (x0 : den (.list tapiPair)) (x1 : den (.int .i64)) (x2 : denO (.row 51 tapiPair false)) : law07_Few.l0 x0 x1 x2 =
  br (ltI x1 (ofN (lenL tapiPair x0)))
   (law07_Few.j1 x0 x1 (ltI x1 (40 : Int)) x2)
   (law07_Few.j1 x0 x1 false x2) :=
  (loopB_eq (P := PP) (T := TT) (C := CF) [1, 1, 0, 1, 0, 0] [1, 1, 0, 1, 0, 0] 9 0 ⟨[(0, ⟨(.list tapiPair), x0⟩), (3, ⟨(.own tapiPair 0), ()⟩), (4, ⟨(.int .i64), x1⟩)], [⟨(.row 51 tapiPair false), x2⟩]⟩ (blockK 0 (seqK false [1, 1, 1] (BF 9 0 [1, 1, 1]) (finF 9 (.list tapiPair) [] 0)))).trans (by kernel_rfl)
theorem law07_Few.j1.eq (x0 : den (.list tapiPair)) (x1 : den (.int .i64)) (x2 : den .bool) (x3 : denO (.row 51 tapiPair false)) : law07_Few.j1 x0 x1 x2 x3 =
  br x2
   (br (andB (leI (0 : Int) x1) (ltI x1 (ofN (lenL tapiPair x0)))) (br (andB (leI (0 : Int) x1) (ltI x1 (ofN (lenL tapiPair x0)))) (bnd (base_Cut (ixL tapiPair x0 x1).1 (40 : Int)) fun r0 =>
   bnd (base_Cut (ixL tapiPair x0 x1).2.1 (40 : Int)) fun r1 =>
   br (fitL tapiPair (appL tapiPair x3 ((r0, (r1, ())) :: []))) (law07_Few.l0 x0 (addI .i64 x1 (1 : Int)) (appL tapiPair x3 ((r0, (r1, ())) :: []))) none) none) none)
   (some x3) :=
  (congrFun (congrFun (jnO_eq [1, 1, 0, 1, 0, 0, 0, 1] (BF (R := den (.list tapiPair)) 9 0 [1, 1, 0, 1, 0, 0, 0, 1])) ⟨[(0, ⟨(.list tapiPair), x0⟩), (3, ⟨(.own tapiPair 0), ()⟩), (4, ⟨(.int .i64), x1⟩), (13, ⟨.bool, x2⟩)], [⟨(.row 51 tapiPair false), x3⟩]⟩) (seqK false [1, 1, 0, 1, 0, 0, 1] (BF 9 0 [1, 1, 0, 1, 0, 0, 1]) (againK [1, 1, 0, 1, 0, 0] (loopW [1, 1, 0, 1, 0, 0] (BF 9 0 [1, 1, 0, 1, 0, 0])) (blockK 0 (seqK false [1, 1, 1] (BF 9 0 [1, 1, 1]) (finF 9 (.list tapiPair) [] 0)))))).trans (by kernel_rfl)
theorem ref04_Levels.eq (a0 : den (.int .i64)) : ref04_Levels a0 =
  ref04_Levels.l0 a0 (0 : Int) :=
  (callW_eq (P := PP) (T := TT) (pr := RR) 10 [⟨(.int .i64), a0⟩] [] (.int .i64) []).trans (by kernel_rfl)
theorem ref04_Levels.l0.eq (x0 : den (.int .i64)) (x1 : den (.int .i64)) : ref04_Levels.l0 x0 x1 =
  bnd (ref04_clamp x0) fun r0 =>
  br (ltI (mulI .i64 (5 : Int) x1) r0)
   (ref04_Levels.l0 x0 (addI .i64 x1 (1 : Int)))
   (some x1) :=
  (loopB_eq (P := PP) (T := TT) (C := CF) [1, 1, 0, 0, 0] [1, 1, 0, 0, 0] 10 0 ⟨[(0, ⟨(.int .i64), x0⟩), (3, ⟨(.int .i64), x1⟩)], []⟩ (blockK 0 (seqK false [1, 1, 1] (BF 10 0 [1, 1, 1]) (finF 10 (.int .i64) [] 0)))).trans (by kernel_rfl)
theorem trie_Make.eq (a0 : den (.int .i64)) (a1 : den (.list tapiPair)) : trie_Make a0 a1 =
  bnd (pair_Make a1) fun r0 =>
  trie_Make.l0 a0 r0 r0 (ofN (lenL tapiPair r0)) (0 : Int) :=
  (callW_eq (P := PP) (T := TT) (pr := RR) 11 [⟨(.int .i64), a0⟩, ⟨(.list tapiPair), a1⟩] [] (.tcons (.list tapiNode) (.tcons (.int .i64) (.tcons (.int .i64) .tnil))) []).trans (by kernel_rfl)
theorem trie_Make.l0.eq (x0 : den (.int .i64)) (x1 : den (.list tapiPair)) (x2 : den (.list tapiPair)) (x3 : den (.int .i64)) (x4 : den (.int .i64)) : trie_Make.l0 x0 x1 x2 x3 x4 =
  br (ltI x4 x3)
   (br (andB (leI (0 : Int) x4) (ltI x4 (ofN (lenL tapiPair x2)))) (bnd (node_Leaf (ixL tapiPair x2 x4).1 (ixL tapiPair x2 x4).2.1) fun r0 =>
   bnd (node_May r0) fun r1 =>
   br (notB (eqI r1 (0 : Int)))
    (some ([], ((0 : Int), (r1, ()))))
    (trie_Make.l0 x0 x1 x2 x3 (addI .i64 x4 (1 : Int)))) none)
   (bnd (trie_maker_trie x1 (0 : Int) (x0, ((), ())) []) fun r2 =>
   some (r2.2.2.1, (r2.1, ((0 : Int), ())))) :=
  (loopB_eq (P := PP) (T := TT) (C := CF) [1, 1, 0, 1, 0, 0] [1, 1, 0, 1, 0, 0] 11 0 ⟨[(0, ⟨(.int .i64), x0⟩), (1, ⟨(.list tapiPair), x1⟩), (14, ⟨(.list tapiPair), x2⟩), (15, ⟨(.int .i64), x3⟩), (16, ⟨(.int .i64), x4⟩)], []⟩ (blockK 0 (seqK false [1, 1, 1] (BF 11 0 [1, 1, 1]) (finF 11 (.tcons (.list tapiNode) (.tcons (.int .i64) (.tcons (.int .i64) .tnil))) [] 0)))).trans (by kernel_rfl)
theorem trie_Most.eq (a0 : den (.int .i64)) (a1 : den (.int .i64)) : trie_Most a0 a1 =
  br (ltI a1 (0 : Int))
   (some (0 : Int))
   (br (ltI (1000000 : Int) a1)
    (some (0 : Int))
    (bnd (hash_Levels a0) fun r0 =>
    some (mulI .i64 a1 (addI .i64 r0 (1 : Int))))) :=
  (callW_eq (P := PP) (T := TT) (pr := RR) 12 [⟨(.int .i64), a0⟩, ⟨(.int .i64), a1⟩] [] (.int .i64) []).trans (by kernel_rfl)
theorem ref07_Make.eq (a0 : den (.list tapiPair)) : ref07_Make a0 =
  ref07_Make.l0 a0 (0 : Int) [] :=
  (callW_eq (P := PP) (T := TT) (pr := RR) 13 [⟨(.list tapiPair), a0⟩] [] (.list tapiPair) []).trans (by kernel_rfl)
theorem ref07_Make.l0.eq (x0 : den (.list tapiPair)) (x1 : den (.int .i64)) (x2 : denO (.row 51 tapiPair false)) : ref07_Make.l0 x0 x1 x2 =
  br (ltI x1 (ofN (lenL tapiPair x0)))
   (bnd (ref07_last x0 x1) fun r0 =>
   br (notB r0)
    (ref07_Make.l0 x0 (addI .i64 x1 (1 : Int)) x2)
    (ref07_Make.l1 x0 x1 (0 : Int) x2))
   (some x2) :=
  (loopB_eq (P := PP) (T := TT) (C := CF) [1, 1, 0, 1, 0, 0] [1, 1, 0, 1, 0, 0] 13 0 ⟨[(0, ⟨(.list tapiPair), x0⟩), (3, ⟨(.own tapiPair 0), ()⟩), (4, ⟨(.int .i64), x1⟩)], [⟨(.row 51 tapiPair false), x2⟩]⟩ (blockK 0 (seqK false [1, 1, 1] (BF 13 0 [1, 1, 1]) (finF 13 (.list tapiPair) [] 0)))).trans (by kernel_rfl)
theorem ref07_Make.l1.eq (x0 : den (.list tapiPair)) (x1 : den (.int .i64)) (x2 : den (.int .i64)) (x3 : denO (.row 51 tapiPair false)) : ref07_Make.l1 x0 x1 x2 x3 =
  br (ltI x2 (ofN (lenL tapiPair x3)))
   (br (andB (leI (0 : Int) x2) (ltI x2 (ofN (lenL tapiPair x3)))) (br (andB (leI (0 : Int) x1) (ltI x1 (ofN (lenL tapiPair x0)))) (bnd (ref01_Less (ixL tapiPair x3 x2).1 (ixL tapiPair x0 x1).1) fun r0 =>
   ref07_Make.j2 x0 x1 x2 r0 x3) none) none)
   (ref07_Make.j2 x0 x1 x2 false x3) :=
  (loopB_eq (P := PP) (T := TT) (C := CF) [1, 1, 0, 1, 0, 0, 1, 0, 0, 1, 1, 0, 0, 0] [1, 1, 0, 1, 0, 0, 1, 0, 0, 1, 1, 0, 0, 0] 13 0 ⟨[(0, ⟨(.list tapiPair), x0⟩), (3, ⟨(.own tapiPair 0), ()⟩), (4, ⟨(.int .i64), x1⟩), (5, ⟨(.int .i64), x2⟩)], [⟨(.row 51 tapiPair false), x3⟩]⟩ (blockK 2 (seqK false [1, 1, 0, 1, 0, 0, 1, 0, 0, 1, 1, 1] (BF 13 0 [1, 1, 0, 1, 0, 0, 1, 0, 0, 1, 1, 1]) (blockK 1 (seqK false [1, 1, 0, 1, 0, 0, 1, 1] (BF 13 0 [1, 1, 0, 1, 0, 0, 1, 1]) (againK [1, 1, 0, 1, 0, 0] (loopW [1, 1, 0, 1, 0, 0] (BF 13 0 [1, 1, 0, 1, 0, 0])) (blockK 0 (seqK false [1, 1, 1] (BF 13 0 [1, 1, 1]) (finF 13 (.list tapiPair) [] 0))))))))).trans (by kernel_rfl)
theorem ref07_Make.j2.eq (x0 : den (.list tapiPair)) (x1 : den (.int .i64)) (x2 : den (.int .i64)) (x3 : den .bool) (x4 : denO (.row 51 tapiPair false)) : ref07_Make.j2 x0 x1 x2 x3 x4 =
  br x3
   (ref07_Make.l1 x0 x1 (addI .i64 x2 (1 : Int)) x4)
   (br (andB (leI (0 : Int) x1) (ltI x1 (ofN (lenL tapiPair x0)))) (both
    (both
     (br (andB (leI (0 : Int) (0 : Int)) (andB (leI (0 : Int) x2) (leI x2 (ofN (lenL tapiPair x4))))) (br (andB (leI (0 : Int) x2) (andB (leI x2 (ofN (lenL tapiPair x4))) (leI (ofN (lenL tapiPair x4)) (ofN (lenL tapiPair x4))))) (both
      (br (fitL tapiPair (appL tapiPair [] (subL tapiPair x4 (toN (0 : Int)) (toN x2)))) (br (fitL tapiPair (appL tapiPair (appL tapiPair [] (subL tapiPair x4 (toN (0 : Int)) (toN x2))) ((ixL tapiPair x0 x1) :: []))) (br (fitL tapiPair (appL tapiPair (appL tapiPair (appL tapiPair [] (subL tapiPair x4 (toN (0 : Int)) (toN x2))) ((ixL tapiPair x0 x1) :: [])) (subL tapiPair x4 (toN x2) (toN (ofN (lenL tapiPair x4)))))) (ref07_Make.l0 x0 (addI .i64 x1 (1 : Int)) (appL tapiPair (appL tapiPair (appL tapiPair [] (subL tapiPair x4 (toN (0 : Int)) (toN x2))) ((ixL tapiPair x0 x1) :: [])) (subL tapiPair x4 (toN x2) (toN (ofN (lenL tapiPair x4)))))) none) none) none)
      (br (fitL tapiPair (appL tapiPair [] (subL tapiPair x4 (toN (0 : Int)) (toN x2)))) (br (fitL tapiPair (appL tapiPair (appL tapiPair [] (subL tapiPair x4 (toN (0 : Int)) (toN x2))) ((ixL tapiPair x0 x1) :: []))) (br (fitL tapiPair (appL tapiPair (appL tapiPair (appL tapiPair [] (subL tapiPair x4 (toN (0 : Int)) (toN x2))) ((ixL tapiPair x0 x1) :: [])) (subL tapiPair x4 (toN x2) (toN (ofN (lenL tapiPair x4)))))) (ref07_Make.l0 x0 (addI .i64 x1 (1 : Int)) (appL tapiPair (appL tapiPair (appL tapiPair [] (subL tapiPair x4 (toN (0 : Int)) (toN x2))) ((ixL tapiPair x0 x1) :: [])) (subL tapiPair x4 (toN x2) (toN (ofN (lenL tapiPair x4)))))) none) none) none)) none) none)
     (both
      (both
       (br (andB (leI (0 : Int) (0 : Int)) (andB (leI (0 : Int) x2) (leI x2 (ofN (lenL tapiPair x4))))) (br (andB (leI (0 : Int) x2) (andB (leI x2 (ofN (lenL tapiPair x4))) (leI (ofN (lenL tapiPair x4)) (ofN (lenL tapiPair x4))))) (br (fitL tapiPair (appL tapiPair [] (subL tapiPair x4 (toN (0 : Int)) (toN x2)))) (br (fitL tapiPair (appL tapiPair (appL tapiPair [] (subL tapiPair x4 (toN (0 : Int)) (toN x2))) ((ixL tapiPair x0 x1) :: []))) (br (fitL tapiPair (appL tapiPair (appL tapiPair (appL tapiPair [] (subL tapiPair x4 (toN (0 : Int)) (toN x2))) ((ixL tapiPair x0 x1) :: [])) (subL tapiPair x4 (toN x2) (toN (ofN (lenL tapiPair x4)))))) (ref07_Make.l0 x0 (addI .i64 x1 (1 : Int)) (appL tapiPair (appL tapiPair (appL tapiPair [] (subL tapiPair x4 (toN (0 : Int)) (toN x2))) ((ixL tapiPair x0 x1) :: [])) (subL tapiPair x4 (toN x2) (toN (ofN (lenL tapiPair x4)))))) none) none) none) none) none)
       (br (andB (leI (0 : Int) x2) (andB (leI x2 (ofN (lenL tapiPair x4))) (leI (ofN (lenL tapiPair x4)) (ofN (lenL tapiPair x4))))) (br (andB (leI (0 : Int) (0 : Int)) (andB (leI (0 : Int) x2) (leI x2 (ofN (lenL tapiPair x4))))) (br (fitL tapiPair (appL tapiPair [] (subL tapiPair x4 (toN (0 : Int)) (toN x2)))) (br (fitL tapiPair (appL tapiPair (appL tapiPair [] (subL tapiPair x4 (toN (0 : Int)) (toN x2))) ((ixL tapiPair x0 x1) :: []))) (br (fitL tapiPair (appL tapiPair (appL tapiPair (appL tapiPair [] (subL tapiPair x4 (toN (0 : Int)) (toN x2))) ((ixL tapiPair x0 x1) :: [])) (subL tapiPair x4 (toN x2) (toN (ofN (lenL tapiPair x4)))))) (ref07_Make.l0 x0 (addI .i64 x1 (1 : Int)) (appL tapiPair (appL tapiPair (appL tapiPair [] (subL tapiPair x4 (toN (0 : Int)) (toN x2))) ((ixL tapiPair x0 x1) :: [])) (subL tapiPair x4 (toN x2) (toN (ofN (lenL tapiPair x4)))))) none) none) none) none) none))
      (br (andB (leI (0 : Int) x2) (andB (leI x2 (ofN (lenL tapiPair x4))) (leI (ofN (lenL tapiPair x4)) (ofN (lenL tapiPair x4))))) (br (andB (leI (0 : Int) (0 : Int)) (andB (leI (0 : Int) x2) (leI x2 (ofN (lenL tapiPair x4))))) (both
       (br (fitL tapiPair (appL tapiPair [] (subL tapiPair x4 (toN (0 : Int)) (toN x2)))) (br (fitL tapiPair (appL tapiPair (appL tapiPair [] (subL tapiPair x4 (toN (0 : Int)) (toN x2))) ((ixL tapiPair x0 x1) :: []))) (br (fitL tapiPair (appL tapiPair (appL tapiPair (appL tapiPair [] (subL tapiPair x4 (toN (0 : Int)) (toN x2))) ((ixL tapiPair x0 x1) :: [])) (subL tapiPair x4 (toN x2) (toN (ofN (lenL tapiPair x4)))))) (ref07_Make.l0 x0 (addI .i64 x1 (1 : Int)) (appL tapiPair (appL tapiPair (appL tapiPair [] (subL tapiPair x4 (toN (0 : Int)) (toN x2))) ((ixL tapiPair x0 x1) :: [])) (subL tapiPair x4 (toN x2) (toN (ofN (lenL tapiPair x4)))))) none) none) none)
       (br (fitL tapiPair (appL tapiPair [] (subL tapiPair x4 (toN (0 : Int)) (toN x2)))) (br (fitL tapiPair (appL tapiPair (appL tapiPair [] (subL tapiPair x4 (toN (0 : Int)) (toN x2))) ((ixL tapiPair x0 x1) :: []))) (br (fitL tapiPair (appL tapiPair (appL tapiPair (appL tapiPair [] (subL tapiPair x4 (toN (0 : Int)) (toN x2))) ((ixL tapiPair x0 x1) :: [])) (subL tapiPair x4 (toN x2) (toN (ofN (lenL tapiPair x4)))))) (ref07_Make.l0 x0 (addI .i64 x1 (1 : Int)) (appL tapiPair (appL tapiPair (appL tapiPair [] (subL tapiPair x4 (toN (0 : Int)) (toN x2))) ((ixL tapiPair x0 x1) :: [])) (subL tapiPair x4 (toN x2) (toN (ofN (lenL tapiPair x4)))))) none) none) none)) none) none)))
    (both
     (br (andB (leI (0 : Int) (0 : Int)) (andB (leI (0 : Int) x2) (leI x2 (ofN (lenL tapiPair x4))))) (br (andB (leI (0 : Int) x2) (andB (leI x2 (ofN (lenL tapiPair x4))) (leI (ofN (lenL tapiPair x4)) (ofN (lenL tapiPair x4))))) (both
      (both
       (br (fitL tapiPair (appL tapiPair [] (subL tapiPair x4 (toN (0 : Int)) (toN x2)))) (br (fitL tapiPair (appL tapiPair (appL tapiPair [] (subL tapiPair x4 (toN (0 : Int)) (toN x2))) ((ixL tapiPair x0 x1) :: []))) (br (fitL tapiPair (appL tapiPair (appL tapiPair (appL tapiPair [] (subL tapiPair x4 (toN (0 : Int)) (toN x2))) ((ixL tapiPair x0 x1) :: [])) (subL tapiPair x4 (toN x2) (toN (ofN (lenL tapiPair x4)))))) (ref07_Make.l0 x0 (addI .i64 x1 (1 : Int)) (appL tapiPair (appL tapiPair (appL tapiPair [] (subL tapiPair x4 (toN (0 : Int)) (toN x2))) ((ixL tapiPair x0 x1) :: [])) (subL tapiPair x4 (toN x2) (toN (ofN (lenL tapiPair x4)))))) none) none) none)
       (br (fitL tapiPair (appL tapiPair [] (subL tapiPair x4 (toN (0 : Int)) (toN x2)))) (br (fitL tapiPair (appL tapiPair (appL tapiPair [] (subL tapiPair x4 (toN (0 : Int)) (toN x2))) ((ixL tapiPair x0 x1) :: []))) (br (fitL tapiPair (appL tapiPair (appL tapiPair (appL tapiPair [] (subL tapiPair x4 (toN (0 : Int)) (toN x2))) ((ixL tapiPair x0 x1) :: [])) (subL tapiPair x4 (toN x2) (toN (ofN (lenL tapiPair x4)))))) (ref07_Make.l0 x0 (addI .i64 x1 (1 : Int)) (appL tapiPair (appL tapiPair (appL tapiPair [] (subL tapiPair x4 (toN (0 : Int)) (toN x2))) ((ixL tapiPair x0 x1) :: [])) (subL tapiPair x4 (toN x2) (toN (ofN (lenL tapiPair x4)))))) none) none) none))
      (br (fitL tapiPair (appL tapiPair [] (subL tapiPair x4 (toN (0 : Int)) (toN x2)))) (br (fitL tapiPair (appL tapiPair (appL tapiPair [] (subL tapiPair x4 (toN (0 : Int)) (toN x2))) ((ixL tapiPair x0 x1) :: []))) (br (fitL tapiPair (appL tapiPair (appL tapiPair (appL tapiPair [] (subL tapiPair x4 (toN (0 : Int)) (toN x2))) ((ixL tapiPair x0 x1) :: [])) (subL tapiPair x4 (toN x2) (toN (ofN (lenL tapiPair x4)))))) (ref07_Make.l0 x0 (addI .i64 x1 (1 : Int)) (appL tapiPair (appL tapiPair (appL tapiPair [] (subL tapiPair x4 (toN (0 : Int)) (toN x2))) ((ixL tapiPair x0 x1) :: [])) (subL tapiPair x4 (toN x2) (toN (ofN (lenL tapiPair x4)))))) none) none) none)) none) none)
     (both
      (both
       (both
        (br (andB (leI (0 : Int) (0 : Int)) (andB (leI (0 : Int) x2) (leI x2 (ofN (lenL tapiPair x4))))) (br (andB (leI (0 : Int) x2) (andB (leI x2 (ofN (lenL tapiPair x4))) (leI (ofN (lenL tapiPair x4)) (ofN (lenL tapiPair x4))))) (br (fitL tapiPair (appL tapiPair [] (subL tapiPair x4 (toN (0 : Int)) (toN x2)))) (br (fitL tapiPair (appL tapiPair (appL tapiPair [] (subL tapiPair x4 (toN (0 : Int)) (toN x2))) ((ixL tapiPair x0 x1) :: []))) (br (fitL tapiPair (appL tapiPair (appL tapiPair (appL tapiPair [] (subL tapiPair x4 (toN (0 : Int)) (toN x2))) ((ixL tapiPair x0 x1) :: [])) (subL tapiPair x4 (toN x2) (toN (ofN (lenL tapiPair x4)))))) (ref07_Make.l0 x0 (addI .i64 x1 (1 : Int)) (appL tapiPair (appL tapiPair (appL tapiPair [] (subL tapiPair x4 (toN (0 : Int)) (toN x2))) ((ixL tapiPair x0 x1) :: [])) (subL tapiPair x4 (toN x2) (toN (ofN (lenL tapiPair x4)))))) none) none) none) none) none)
        (br (andB (leI (0 : Int) x2) (andB (leI x2 (ofN (lenL tapiPair x4))) (leI (ofN (lenL tapiPair x4)) (ofN (lenL tapiPair x4))))) (br (andB (leI (0 : Int) (0 : Int)) (andB (leI (0 : Int) x2) (leI x2 (ofN (lenL tapiPair x4))))) (br (fitL tapiPair (appL tapiPair [] (subL tapiPair x4 (toN (0 : Int)) (toN x2)))) (br (fitL tapiPair (appL tapiPair (appL tapiPair [] (subL tapiPair x4 (toN (0 : Int)) (toN x2))) ((ixL tapiPair x0 x1) :: []))) (br (fitL tapiPair (appL tapiPair (appL tapiPair (appL tapiPair [] (subL tapiPair x4 (toN (0 : Int)) (toN x2))) ((ixL tapiPair x0 x1) :: [])) (subL tapiPair x4 (toN x2) (toN (ofN (lenL tapiPair x4)))))) (ref07_Make.l0 x0 (addI .i64 x1 (1 : Int)) (appL tapiPair (appL tapiPair (appL tapiPair [] (subL tapiPair x4 (toN (0 : Int)) (toN x2))) ((ixL tapiPair x0 x1) :: [])) (subL tapiPair x4 (toN x2) (toN (ofN (lenL tapiPair x4)))))) none) none) none) none) none))
       (both
        (br (andB (leI (0 : Int) (0 : Int)) (andB (leI (0 : Int) x2) (leI x2 (ofN (lenL tapiPair x4))))) (br (andB (leI (0 : Int) x2) (andB (leI x2 (ofN (lenL tapiPair x4))) (leI (ofN (lenL tapiPair x4)) (ofN (lenL tapiPair x4))))) (br (fitL tapiPair (appL tapiPair [] (subL tapiPair x4 (toN (0 : Int)) (toN x2)))) (br (fitL tapiPair (appL tapiPair (appL tapiPair [] (subL tapiPair x4 (toN (0 : Int)) (toN x2))) ((ixL tapiPair x0 x1) :: []))) (br (fitL tapiPair (appL tapiPair (appL tapiPair (appL tapiPair [] (subL tapiPair x4 (toN (0 : Int)) (toN x2))) ((ixL tapiPair x0 x1) :: [])) (subL tapiPair x4 (toN x2) (toN (ofN (lenL tapiPair x4)))))) (ref07_Make.l0 x0 (addI .i64 x1 (1 : Int)) (appL tapiPair (appL tapiPair (appL tapiPair [] (subL tapiPair x4 (toN (0 : Int)) (toN x2))) ((ixL tapiPair x0 x1) :: [])) (subL tapiPair x4 (toN x2) (toN (ofN (lenL tapiPair x4)))))) none) none) none) none) none)
        (br (andB (leI (0 : Int) x2) (andB (leI x2 (ofN (lenL tapiPair x4))) (leI (ofN (lenL tapiPair x4)) (ofN (lenL tapiPair x4))))) (br (andB (leI (0 : Int) (0 : Int)) (andB (leI (0 : Int) x2) (leI x2 (ofN (lenL tapiPair x4))))) (br (fitL tapiPair (appL tapiPair [] (subL tapiPair x4 (toN (0 : Int)) (toN x2)))) (br (fitL tapiPair (appL tapiPair (appL tapiPair [] (subL tapiPair x4 (toN (0 : Int)) (toN x2))) ((ixL tapiPair x0 x1) :: []))) (br (fitL tapiPair (appL tapiPair (appL tapiPair (appL tapiPair [] (subL tapiPair x4 (toN (0 : Int)) (toN x2))) ((ixL tapiPair x0 x1) :: [])) (subL tapiPair x4 (toN x2) (toN (ofN (lenL tapiPair x4)))))) (ref07_Make.l0 x0 (addI .i64 x1 (1 : Int)) (appL tapiPair (appL tapiPair (appL tapiPair [] (subL tapiPair x4 (toN (0 : Int)) (toN x2))) ((ixL tapiPair x0 x1) :: [])) (subL tapiPair x4 (toN x2) (toN (ofN (lenL tapiPair x4)))))) none) none) none) none) none)))
      (br (andB (leI (0 : Int) x2) (andB (leI x2 (ofN (lenL tapiPair x4))) (leI (ofN (lenL tapiPair x4)) (ofN (lenL tapiPair x4))))) (br (andB (leI (0 : Int) (0 : Int)) (andB (leI (0 : Int) x2) (leI x2 (ofN (lenL tapiPair x4))))) (both
       (both
        (br (fitL tapiPair (appL tapiPair [] (subL tapiPair x4 (toN (0 : Int)) (toN x2)))) (br (fitL tapiPair (appL tapiPair (appL tapiPair [] (subL tapiPair x4 (toN (0 : Int)) (toN x2))) ((ixL tapiPair x0 x1) :: []))) (br (fitL tapiPair (appL tapiPair (appL tapiPair (appL tapiPair [] (subL tapiPair x4 (toN (0 : Int)) (toN x2))) ((ixL tapiPair x0 x1) :: [])) (subL tapiPair x4 (toN x2) (toN (ofN (lenL tapiPair x4)))))) (ref07_Make.l0 x0 (addI .i64 x1 (1 : Int)) (appL tapiPair (appL tapiPair (appL tapiPair [] (subL tapiPair x4 (toN (0 : Int)) (toN x2))) ((ixL tapiPair x0 x1) :: [])) (subL tapiPair x4 (toN x2) (toN (ofN (lenL tapiPair x4)))))) none) none) none)
        (br (fitL tapiPair (appL tapiPair [] (subL tapiPair x4 (toN (0 : Int)) (toN x2)))) (br (fitL tapiPair (appL tapiPair (appL tapiPair [] (subL tapiPair x4 (toN (0 : Int)) (toN x2))) ((ixL tapiPair x0 x1) :: []))) (br (fitL tapiPair (appL tapiPair (appL tapiPair (appL tapiPair [] (subL tapiPair x4 (toN (0 : Int)) (toN x2))) ((ixL tapiPair x0 x1) :: [])) (subL tapiPair x4 (toN x2) (toN (ofN (lenL tapiPair x4)))))) (ref07_Make.l0 x0 (addI .i64 x1 (1 : Int)) (appL tapiPair (appL tapiPair (appL tapiPair [] (subL tapiPair x4 (toN (0 : Int)) (toN x2))) ((ixL tapiPair x0 x1) :: [])) (subL tapiPair x4 (toN x2) (toN (ofN (lenL tapiPair x4)))))) none) none) none))
       (br (fitL tapiPair (appL tapiPair [] (subL tapiPair x4 (toN (0 : Int)) (toN x2)))) (br (fitL tapiPair (appL tapiPair (appL tapiPair [] (subL tapiPair x4 (toN (0 : Int)) (toN x2))) ((ixL tapiPair x0 x1) :: []))) (br (fitL tapiPair (appL tapiPair (appL tapiPair (appL tapiPair [] (subL tapiPair x4 (toN (0 : Int)) (toN x2))) ((ixL tapiPair x0 x1) :: [])) (subL tapiPair x4 (toN x2) (toN (ofN (lenL tapiPair x4)))))) (ref07_Make.l0 x0 (addI .i64 x1 (1 : Int)) (appL tapiPair (appL tapiPair (appL tapiPair [] (subL tapiPair x4 (toN (0 : Int)) (toN x2))) ((ixL tapiPair x0 x1) :: [])) (subL tapiPair x4 (toN x2) (toN (ofN (lenL tapiPair x4)))))) none) none) none)) none) none)))) none) :=
  (congrFun (congrFun (jnO_eq [1, 1, 0, 1, 0, 0, 1, 0, 0, 1, 1, 0, 0, 0, 0, 1] (BF (R := den (.list tapiPair)) 13 0 [1, 1, 0, 1, 0, 0, 1, 0, 0, 1, 1, 0, 0, 0, 0, 1])) ⟨[(0, ⟨(.list tapiPair), x0⟩), (3, ⟨(.own tapiPair 0), ()⟩), (4, ⟨(.int .i64), x1⟩), (5, ⟨(.int .i64), x2⟩), (33, ⟨.bool, x3⟩)], [⟨(.row 51 tapiPair false), x4⟩]⟩) (seqK false [1, 1, 0, 1, 0, 0, 1, 0, 0, 1, 1, 0, 0, 0, 1] (BF 13 0 [1, 1, 0, 1, 0, 0, 1, 0, 0, 1, 1, 0, 0, 0, 1]) (againK [1, 1, 0, 1, 0, 0, 1, 0, 0, 1, 1, 0, 0, 0] (loopW [1, 1, 0, 1, 0, 0, 1, 0, 0, 1, 1, 0, 0, 0] (BF 13 0 [1, 1, 0, 1, 0, 0, 1, 0, 0, 1, 1, 0, 0, 0])) (blockK 2 (seqK false [1, 1, 0, 1, 0, 0, 1, 0, 0, 1, 1, 1] (BF 13 0 [1, 1, 0, 1, 0, 0, 1, 0, 0, 1, 1, 1]) (blockK 1 (seqK false [1, 1, 0, 1, 0, 0, 1, 1] (BF 13 0 [1, 1, 0, 1, 0, 0, 1, 1]) (againK [1, 1, 0, 1, 0, 0] (loopW [1, 1, 0, 1, 0, 0] (BF 13 0 [1, 1, 0, 1, 0, 0])) (blockK 0 (seqK false [1, 1, 1] (BF 13 0 [1, 1, 1]) (finF 13 (.list tapiPair) [] 0))))))))))).trans (by kernel_rfl)
theorem ref17_Binds.eq (a0 : den (.list tapiNode)) (a1 : den (.int .i64)) : ref17_Binds a0 a1 =
  br (eqI a1 (0 : Int))
   (some [])
   (br (andB (leI (0 : Int) (subI .i64 a1 (1 : Int))) (ltI (subI .i64 a1 (1 : Int)) (ofN (lenL tapiNode a0)))) (br (eqI (ixL tapiNode a0 (subI .i64 a1 (1 : Int))).1 (4 : Int))
    (br (andB (leI (0 : Int) (0 : Int)) (ltI (0 : Int) (ofN (lenL (.int .i64) (ixL tapiNode a0 (subI .i64 a1 (1 : Int))).2.2.2.2.1)))) (bnd (ref17_Binds a0 (ixL (.int .i64) (ixL tapiNode a0 (subI .i64 a1 (1 : Int))).2.2.2.2.1 (0 : Int))) fun r0 =>
    br (fitL tapiPair (appL tapiPair [] r0)) (bnd (ref13_Binds (ixL tapiNode a0 (subI .i64 a1 (1 : Int)))) fun r1 =>
    br (fitL tapiPair (appL tapiPair (appL tapiPair [] r0) r1)) (br (andB (leI (0 : Int) (1 : Int)) (ltI (1 : Int) (ofN (lenL (.int .i64) (ixL tapiNode a0 (subI .i64 a1 (1 : Int))).2.2.2.2.1)))) (bnd (ref17_Binds a0 (ixL (.int .i64) (ixL tapiNode a0 (subI .i64 a1 (1 : Int))).2.2.2.2.1 (1 : Int))) fun r2 =>
    br (fitL tapiPair (appL tapiPair (appL tapiPair (appL tapiPair [] r0) r1) r2)) (some (appL tapiPair (appL tapiPair (appL tapiPair [] r0) r1) r2)) none) none) none) none) none)
    (bnd (ref13_Binds (ixL tapiNode a0 (subI .i64 a1 (1 : Int)))) fun r3 =>
    br (fitL tapiPair (appL tapiPair [] r3)) (bnd (ref13_Refs (ixL tapiNode a0 (subI .i64 a1 (1 : Int)))) fun r4 =>
    ref17_Binds.l0 a0 r4 (0 : Int) (appL tapiPair [] r3)) none)) none) :=
  (callW_eq (P := PP) (T := TT) (pr := RR) 15 [⟨(.list tapiNode), a0⟩, ⟨(.int .i64), a1⟩] [] (.list tapiPair) []).trans (by kernel_rfl)
theorem ref17_Binds.l0.eq (x0 : den (.list tapiNode)) (x1 : den (.list (.int .i64))) (x2 : den (.int .i64)) (x3 : denO (.row 51 tapiPair false)) : ref17_Binds.l0 x0 x1 x2 x3 =
  br (ltI x2 (ofN (lenL (.int .i64) x1)))
   (br (andB (leI (0 : Int) x2) (ltI x2 (ofN (lenL (.int .i64) x1)))) (bnd (ref17_Binds x0 (ixL (.int .i64) x1 x2)) fun r0 =>
   br (fitL tapiPair (appL tapiPair x3 r0)) (ref17_Binds.l0 x0 x1 (addI .i64 x2 (1 : Int)) (appL tapiPair x3 r0)) none) none)
   (some x3) :=
  (loopB_eq (P := PP) (T := TT) (C := CF) [1, 1, 1, 1, 1, 1, 1, 0, 1, 0, 0] [1, 1, 1, 1, 1, 1, 1, 0, 1, 0, 0] 15 0 ⟨[(0, ⟨(.list tapiNode), x0⟩), (5, ⟨(.own tapiPair 0), ()⟩), (7, ⟨(.list (.int .i64)), x1⟩), (8, ⟨(.int .i64), x2⟩)], [⟨(.row 51 tapiPair false), x3⟩]⟩ (blockK 0 (seqK false [1, 1, 1, 1, 1, 1, 1, 1] (BF 15 0 [1, 1, 1, 1, 1, 1, 1, 1]) (finF 15 (.list tapiPair) [] 0)))).trans (by kernel_rfl)
theorem ref07_Same.eq (a0 : den (.list tapiPair)) (a1 : den (.list tapiPair)) : ref07_Same a0 a1 =
  br (notB (eqI (ofN (lenL tapiPair a0)) (ofN (lenL tapiPair a1))))
   (some false)
   (ref07_Same.l0 a0 a1 (0 : Int)) :=
  (callW_eq (P := PP) (T := TT) (pr := RR) 14 [⟨(.list tapiPair), a0⟩, ⟨(.list tapiPair), a1⟩] [] .bool []).trans (by kernel_rfl)
theorem ref07_Same.l0.eq (x0 : den (.list tapiPair)) (x1 : den (.list tapiPair)) (x2 : den (.int .i64)) : ref07_Same.l0 x0 x1 x2 =
  br (ltI x2 (ofN (lenL tapiPair x0)))
   (br (andB (leI (0 : Int) x2) (ltI x2 (ofN (lenL tapiPair x0)))) (br (andB (leI (0 : Int) x2) (ltI x2 (ofN (lenL tapiPair x1)))) (br (notB (andB (eqS (ixL tapiPair x0 x2).1 (ixL tapiPair x1 x2).1) (andB (eqS (ixL tapiPair x0 x2).2.1 (ixL tapiPair x1 x2).2.1) true)))
    (some false)
    (ref07_Same.l0 x0 x1 (addI .i64 x2 (1 : Int)))) none) none)
   (some true) :=
  (loopB_eq (P := PP) (T := TT) (C := CF) [1, 1, 0, 1, 0, 0] [1, 1, 0, 1, 0, 0] 14 0 ⟨[(0, ⟨(.list tapiPair), x0⟩), (1, ⟨(.list tapiPair), x1⟩), (5, ⟨(.int .i64), x2⟩)], []⟩ (blockK 0 (seqK false [1, 1, 1] (BF 14 0 [1, 1, 1]) (finF 14 .bool [] 0)))).trans (by kernel_rfl)
theorem law13_Few.eq (a0 : den tapiNode) : law13_Few a0 =
  bnd (base_Cut a0.2.1 (40 : Int)) fun r0 =>
  bnd (base_Cut a0.2.2.1 (40 : Int)) fun r1 =>
  br (andB (leI (0 : Int) (0 : Int)) (andB (leI (0 : Int) (minI (ofN (lenL (.int .i64) a0.2.2.2.2.1)) (40 : Int))) (leI (minI (ofN (lenL (.int .i64) a0.2.2.2.2.1)) (40 : Int)) (ofN (lenL (.int .i64) a0.2.2.2.2.1))))) (br (fitL (.int .i64) (appL (.int .i64) [] (subL (.int .i64) a0.2.2.2.2.1 (toN (0 : Int)) (toN (minI (ofN (lenL (.int .i64) a0.2.2.2.2.1)) (40 : Int)))))) (bnd (law07_Few a0.2.2.2.2.2.2.1) fun r2 =>
  some (a0.1, (r0, (r1, (a0.2.2.2.1, ((appL (.int .i64) [] (subL (.int .i64) a0.2.2.2.2.1 (toN (0 : Int)) (toN (minI (ofN (lenL (.int .i64) a0.2.2.2.2.1)) (40 : Int))))), (a0.2.2.2.2.2.1, (r2, a0.2.2.2.2.2.2.2)))))))) none) none :=
  (callW_eq (P := PP) (T := TT) (pr := RR) 16 [⟨tapiNode, a0⟩] [] tapiNode []).trans (by kernel_rfl)
theorem ref13_Refs.eq (a0 : den tapiNode) : ref13_Refs a0 =
  ref13_Refs.l0 (0 : Int) a0 [] :=
  (callW_eq (P := PP) (T := TT) (pr := RR) 17 [⟨tapiNode, a0⟩] [] (.list (.int .i64)) []).trans (by kernel_rfl)
theorem ref13_Refs.l0.eq (x0 : den (.int .i64)) (x1 : denO (.box tapiNode)) (x2 : denO (.row 25 (.int .i64) false)) : ref13_Refs.l0 x0 x1 x2 =
  br (ltI x0 (ofN (lenL (.int .i64) x1.2.2.2.2.1)))
   (br (andB (leI (0 : Int) x0) (ltI x0 (ofN (lenL (.int .i64) x1.2.2.2.2.1)))) (br (notB (eqI (ixL (.int .i64) x1.2.2.2.2.1 x0) (0 : Int)))
    (br (andB (leI (0 : Int) x0) (ltI x0 (ofN (lenL (.int .i64) x1.2.2.2.2.1)))) (br (fitL (.int .i64) (appL (.int .i64) x2 ((ixL (.int .i64) x1.2.2.2.2.1 x0) :: []))) (ref13_Refs.l0 (addI .i64 x0 (1 : Int)) x1 (appL (.int .i64) x2 ((ixL (.int .i64) x1.2.2.2.2.1 x0) :: []))) none) none)
    (ref13_Refs.l0 (addI .i64 x0 (1 : Int)) x1 x2)) none)
   (br (notB (eqI x1.2.2.2.2.2.1 (0 : Int)))
    (br (fitL (.int .i64) (appL (.int .i64) x2 (x1.2.2.2.2.2.1 :: []))) (some (appL (.int .i64) x2 (x1.2.2.2.2.2.1 :: []))) none)
    (some x2)) :=
  (loopB_eq (P := PP) (T := TT) (C := CF) [1, 1, 0, 1, 0, 0] [1, 1, 0, 1, 0, 0] 17 0 ⟨[(1, ⟨(.ptr 0 0), ()⟩), (3, ⟨(.own (.int .i64) 1), ()⟩), (4, ⟨(.int .i64), x0⟩)], [⟨(.box tapiNode), x1⟩, ⟨(.row 25 (.int .i64) false), x2⟩]⟩ (blockK 0 (seqK false [1, 1, 1] (BF 17 0 [1, 1, 1]) (finF 17 (.list (.int .i64)) [] 0)))).trans (by kernel_rfl)
theorem heap_Binds.eq (a0 : den (.list tapiNode)) (a1 : den (.int .i64)) : heap_Binds a0 a1 =
  bnd (heap_may a0 a1) fun r0 =>
  br (notB (eqI r0 (0 : Int)))
   (some ([], (r0, ())))
   (bnd (heap_binds a0 a1) fun r1 =>
   some (r1.2.1, ((0 : Int), ()))) :=
  (callW_eq (P := PP) (T := TT) (pr := RR) 18 [⟨(.list tapiNode), a0⟩, ⟨(.int .i64), a1⟩] [] (.tcons (.list tapiPair) (.tcons (.int .i64) .tnil)) []).trans (by kernel_rfl)
theorem heap_Same.eq (a0 : den (.list tapiNode)) (a1 : den (.int .i64)) (a2 : den (.list tapiNode)) (a3 : den (.int .i64)) : heap_Same a0 a1 a2 a3 =
  bnd (heap_may a0 a1) fun r0 =>
  br (eqI r0 (0 : Int))
   (bnd (heap_may a2 a3) fun r1 =>
   br (eqI r1 (0 : Int))
    (bnd (heap_same a0 a1 a2 a3) fun r2 =>
    some r2)
    (some false))
   (some false) :=
  (callW_eq (P := PP) (T := TT) (pr := RR) 19 [⟨(.list tapiNode), a0⟩, ⟨(.int .i64), a1⟩, ⟨(.list tapiNode), a2⟩, ⟨(.int .i64), a3⟩] [] .bool []).trans (by kernel_rfl)
theorem ref17_Fits.eq (a0 : den (.list tapiNode)) (a1 : den (.int .i64)) : ref17_Fits a0 a1 =
  br (leI (0 : Int) a1)
   (br (leI a1 (ofN (lenL tapiNode a0)))
    (bnd (ref17_May a0) fun r0 =>
    some r0)
    (some false))
   (some false) :=
  (callW_eq (P := PP) (T := TT) (pr := RR) 20 [⟨(.list tapiNode), a0⟩, ⟨(.int .i64), a1⟩] [] .bool []).trans (by kernel_rfl)
theorem ref20_Make.eq (a0 : den (.int .i64)) (a1 : den (.list tapiPair)) : ref20_Make a0 a1 =
  bnd (ref07_Make a1) fun r0 =>
  bnd (ref20_make1 a0 r0 (0 : Int) []) fun r1 =>
  some (r1.2.1, r1.1.2) :=
  (callW_eq (P := PP) (T := TT) (pr := RR) 21 [⟨(.int .i64), a0⟩, ⟨(.list tapiPair), a1⟩] [] (.tcons (.list tapiNode) (.tcons (.int .i64) .tnil)) []).trans (by kernel_rfl)
theorem ref17_Same.eq (a0 : den (.list tapiNode)) (a1 : den (.int .i64)) (a2 : den (.list tapiNode)) (a3 : den (.int .i64)) : ref17_Same a0 a1 a2 a3 =
  bnd (ref17_Fits a0 a1) fun r0 =>
  br r0
   (bnd (ref17_Fits a2 a3) fun r1 =>
   br r1
    (bnd (ref17_shape a0 a1 a2 a3) fun r2 =>
    some r2)
    (some false))
   (some false) :=
  (callW_eq (P := PP) (T := TT) (pr := RR) 22 [⟨(.list tapiNode), a0⟩, ⟨(.int .i64), a1⟩, ⟨(.list tapiNode), a2⟩, ⟨(.int .i64), a3⟩] [] .bool []).trans (by kernel_rfl)
theorem base_Cut.eq (a0 : den .str) (a1 : den (.int .i64)) : base_Cut a0 a1 =
  br (andB (leI (0 : Int) (0 : Int)) (andB (leI (0 : Int) (minI (ofN (lenS a0)) a1)) (leI (minI (ofN (lenS a0)) a1) (ofN (lenS a0))))) (some (subS a0 (toN (0 : Int)) (toN (minI (ofN (lenS a0)) a1)))) none :=
  (callW_eq (P := PP) (T := TT) (pr := RR) 23 [⟨.str, a0⟩, ⟨(.int .i64), a1⟩] [] .str []).trans (by kernel_rfl)
theorem ref04_clamp.eq (a0 : den (.int .i64)) : ref04_clamp a0 =
  br (ltI a0 (0 : Int))
   (some (0 : Int))
   (br (ltI (64 : Int) a0)
    (some (64 : Int))
    (some a0)) :=
  (callW_eq (P := PP) (T := TT) (pr := RR) 24 [⟨(.int .i64), a0⟩] [] (.int .i64) []).trans (by kernel_rfl)
theorem pair_Make.eq (a0 : den (.list tapiPair)) : pair_Make a0 =
  pair_Make.l0 a0 (ofN (lenL tapiPair a0)) (0 : Int) [] :=
  (callW_eq (P := PP) (T := TT) (pr := RR) 25 [⟨(.list tapiPair), a0⟩] [] (.list tapiPair) []).trans (by kernel_rfl)
theorem pair_Make.l0.eq (x0 : den (.list tapiPair)) (x1 : den (.int .i64)) (x2 : den (.int .i64)) (x3 : denO (.row 51 tapiPair false)) : pair_Make.l0 x0 x1 x2 x3 =
  br (ltI x2 x1)
   (br (andB (leI (0 : Int) x2) (ltI x2 (ofN (lenL tapiPair x0)))) (bnd (pair_put x3 (ixL tapiPair x0 x2)) fun r0 =>
   pair_Make.l0 x0 x1 (addI .i64 x2 (1 : Int)) r0.2.1) none)
   (some x3) :=
  (loopB_eq (P := PP) (T := TT) (C := CF) [1, 1, 0, 1, 0, 0] [1, 1, 0, 1, 0, 0] 25 0 ⟨[(3, ⟨(.own tapiPair 0), ()⟩), (6, ⟨(.list tapiPair), x0⟩), (7, ⟨(.int .i64), x1⟩), (8, ⟨(.int .i64), x2⟩)], [⟨(.row 51 tapiPair false), x3⟩]⟩ (blockK 0 (seqK false [1, 1, 1] (BF 25 0 [1, 1, 1]) (finF 25 (.list tapiPair) [] 0)))).trans (by kernel_rfl)
theorem node_Leaf.eq (a0 : den .str) (a1 : den .str) : node_Leaf a0 a1 =
  some ((1 : Int), (a0, (a1, ((0 : Int), ([], ((0 : Int), ([], ((1 : Int), ((0 : Int), ()))))))))) :=
  (callW_eq (P := PP) (T := TT) (pr := RR) 27 [⟨.str, a0⟩, ⟨.str, a1⟩] [] tapiNode []).trans (by kernel_rfl)
theorem node_May.eq (a0 : den tapiNode) : node_May a0 =
  bnd (node_formed a0) fun r0 =>
  br (ltI a0.1 (1 : Int))
   (some (11 : Int))
   (br (ltI (6 : Int) a0.1)
    (some (11 : Int))
    (bnd (node_long a0) fun r1 =>
    br r1
     (some (6 : Int))
     (bnd (node_Same a0 (r0.1, (r0.2.1, (r0.2.2.1, (r0.2.2.2.1, (r0.2.2.2.2.1, (r0.2.2.2.2.2.1, (r0.2.2.2.2.2.2.1, (r0.2.2.2.2.2.2.2.1, ((maxI a0.2.2.2.2.2.2.2.2.1 (0 : Int)), ())))))))))) fun r2 =>
     br (notB r2)
      (some (4 : Int))
      (bnd (node_whole a0) fun r3 =>
      br (notB r3)
       (some (4 : Int))
       (some (0 : Int)))))) :=
  (callW_eq (P := PP) (T := TT) (pr := RR) 26 [⟨tapiNode, a0⟩] [] (.int .i64) []).trans (by kernel_rfl)
theorem trie_maker_trie.eq (a0 : den (.list tapiPair)) (a1 : den (.int .i64)) (a2 : denO (.box (.pair (.int .i64) (.pair (.own tapiNode 1) .unit)))) (a3 : denO (.row 41 tapiNode true)) : trie_maker_trie a0 a1 a2 a3 =
  br (eqI (ofN (lenL tapiPair a0)) (0 : Int))
   (some ((0 : Int), ((a2.1, ((), ())), (a3, ()))))
   (br (eqI (ofN (lenL tapiPair a0)) (1 : Int))
    (br (andB (leI (0 : Int) (0 : Int)) (ltI (0 : Int) (ofN (lenL tapiPair a0)))) (br (andB (leI (0 : Int) (0 : Int)) (ltI (0 : Int) (ofN (lenL tapiPair a0)))) (bnd (node_Leaf (ixL tapiPair a0 (0 : Int)).1 (ixL tapiPair a0 (0 : Int)).2.1) fun r0 =>
    bnd (trie_maker_add r0 (a2.1, ((), ())) a3) fun r1 =>
    some (r1.1, ((r1.2.1.1, ((), ())), (r1.2.2.1, ())))) none) none)
    (bnd (hash_Levels a2.1) fun r2 =>
    br (leI r2 a1)
     (bnd (node_Bucket a0) fun r3 =>
     bnd (trie_maker_add r3 (a2.1, ((), ())) a3) fun r4 =>
     some (r4.1, ((r4.2.1.1, ((), ())), (r4.2.2.1, ()))))
     (bnd (trie_maker_parted a0 a1 (a2.1, ((), ())) a3) fun r5 =>
     bnd (mask_All r5.1.2.1) fun r6 =>
     trie_maker_trie.l0 a0 a1 r5.1.1 r5.1.2.1 r6 (ofN (lenL (.int .i64) r6)) (0 : Int) (r5.2.1.1, ((), ())) r5.2.2.1 []))) :=
  (callW_eq (P := PP) (T := TT) (pr := RR) 28 [⟨(.ptr 0 0), ()⟩, ⟨(.list tapiPair), a0⟩, ⟨(.int .i64), a1⟩] [⟨(.box (.pair (.int .i64) (.pair (.own tapiNode 1) .unit))), a2⟩, ⟨(.row 41 tapiNode true), a3⟩] (.int .i64) [(.box (.pair (.int .i64) (.pair (.own tapiNode 1) .unit))), (.row 41 tapiNode false)]).trans (by kernel_rfl)
theorem trie_maker_trie.l0.eq (x0 : den (.list tapiPair)) (x1 : den (.int .i64)) (x2 : den (.mp tapiPair)) (x3 : den (.int .u32)) (x4 : den (.list (.int .i64))) (x5 : den (.int .i64)) (x6 : den (.int .i64)) (x7 : denO (.box (.pair (.int .i64) (.pair (.own tapiNode 1) .unit)))) (x8 : denO (.row 41 tapiNode true)) (x9 : denO (.row 25 (.int .i64) false)) : trie_maker_trie.l0 x0 x1 x2 x3 x4 x5 x6 x7 x8 x9 =
  br (ltI x6 x5)
   (br (andB (leI (0 : Int) x6) (ltI x6 (ofN (lenL (.int .i64) x4)))) (bnd (trie_maker_trie (getM tapiPair x2 (ixL (.int .i64) x4 x6)) (addI .i64 x1 (1 : Int)) (x7.1, ((), ())) x8) fun r0 =>
   br (fitL (.int .i64) (appL (.int .i64) x9 (r0.1 :: []))) (trie_maker_trie.l1 x0 x1 x2 x3 x4 x5 (addI .i64 x6 (1 : Int)) (r0.2.1.1, ((), ())) r0.2.2.1 (appL (.int .i64) x9 (r0.1 :: []))) none) none)
   (bnd (node_Branch x3 x9 (ofN (lenL tapiPair x0))) fun r1 =>
   bnd (trie_maker_add r1 (x7.1, ((), ())) x8) fun r2 =>
   some (r2.1, ((r2.2.1.1, ((), ())), (r2.2.2.1, ())))) :=
  (loopB_eq (P := PP) (T := TT) (C := CF) [1, 1, 1, 1, 0, 1, 0, 0] [1, 1, 1, 1, 0, 1, 0, 0] 28 2 ⟨[(0, ⟨(.ptr 0 0), ()⟩), (1, ⟨(.list tapiPair), x0⟩), (2, ⟨(.int .i64), x1⟩), (7, ⟨(.mp tapiPair), x2⟩), (8, ⟨(.int .u32), x3⟩), (9, ⟨(.own (.int .i64) 2), ()⟩), (51, ⟨(.list (.int .i64)), x4⟩), (52, ⟨(.int .i64), x5⟩), (53, ⟨(.int .i64), x6⟩)], [⟨(.box (.pair (.int .i64) (.pair (.own tapiNode 1) .unit))), x7⟩, ⟨(.row 41 tapiNode true), x8⟩, ⟨(.row 25 (.int .i64) false), x9⟩]⟩ (blockK 1 (seqK false [1, 1, 1, 1, 1] (BF 28 2 [1, 1, 1, 1, 1]) (finF 28 (.int .i64) [(.box (.pair (.int .i64) (.pair (.own tapiNode 1) .unit))), (.row 41 tapiNode false)] 2)))).trans (by kernel_rfl)
theorem trie_maker_trie.l1.eq (x0 : den (.list tapiPair)) (x1 : den (.int .i64)) (x2 : den (.mp tapiPair)) (x3 : den (.int .u32)) (x4 : den (.list (.int .i64))) (x5 : den (.int .i64)) (x6 : den (.int .i64)) (x7 : denO (.box (.pair (.int .i64) (.pair (.own tapiNode 1) .unit)))) (x8 : denO (.row 41 tapiNode false)) (x9 : denO (.row 25 (.int .i64) false)) : trie_maker_trie.l1 x0 x1 x2 x3 x4 x5 x6 x7 x8 x9 =
  br (ltI x6 x5)
   (br (andB (leI (0 : Int) x6) (ltI x6 (ofN (lenL (.int .i64) x4)))) (bnd (trie_maker_trie (getM tapiPair x2 (ixL (.int .i64) x4 x6)) (addI .i64 x1 (1 : Int)) (x7.1, ((), ())) x8) fun r0 =>
   br (fitL (.int .i64) (appL (.int .i64) x9 (r0.1 :: []))) (trie_maker_trie.l1 x0 x1 x2 x3 x4 x5 (addI .i64 x6 (1 : Int)) (r0.2.1.1, ((), ())) r0.2.2.1 (appL (.int .i64) x9 (r0.1 :: []))) none) none)
   (bnd (node_Branch x3 x9 (ofN (lenL tapiPair x0))) fun r1 =>
   bnd (trie_maker_add r1 (x7.1, ((), ())) x8) fun r2 =>
   some (r2.1, ((r2.2.1.1, ((), ())), (r2.2.2.1, ())))) :=
  (loopB_eq (P := PP) (T := TT) (C := CF) [1, 1, 1, 1, 0, 1, 0, 0] [1, 1, 1, 1, 0, 1, 0, 0] 28 2 ⟨[(0, ⟨(.ptr 0 0), ()⟩), (1, ⟨(.list tapiPair), x0⟩), (2, ⟨(.int .i64), x1⟩), (7, ⟨(.mp tapiPair), x2⟩), (8, ⟨(.int .u32), x3⟩), (9, ⟨(.own (.int .i64) 2), ()⟩), (51, ⟨(.list (.int .i64)), x4⟩), (52, ⟨(.int .i64), x5⟩), (53, ⟨(.int .i64), x6⟩)], [⟨(.box (.pair (.int .i64) (.pair (.own tapiNode 1) .unit))), x7⟩, ⟨(.row 41 tapiNode false), x8⟩, ⟨(.row 25 (.int .i64) false), x9⟩]⟩ (blockK 1 (seqK false [1, 1, 1, 1, 1] (BF 28 2 [1, 1, 1, 1, 1]) (finF 28 (.int .i64) [(.box (.pair (.int .i64) (.pair (.own tapiNode 1) .unit))), (.row 41 tapiNode false)] 2)))).trans (by kernel_rfl)
theorem hash_Levels.eq (a0 : den (.int .i64)) : hash_Levels a0 =
  bnd (hash_within a0) fun r0 =>
  br (notB (eqI (5 : Int) (0 : Int))) (some (quoI .i64 (subI .i64 (addI .i64 r0 (5 : Int)) (1 : Int)) (5 : Int))) none :=
  (callW_eq (P := PP) (T := TT) (pr := RR) 29 [⟨(.int .i64), a0⟩] [] (.int .i64) []).trans (by kernel_rfl)
theorem ref07_last.eq (a0 : den (.list tapiPair)) (a1 : den (.int .i64)) : ref07_last a0 a1 =
  ref07_last.l0 a0 a1 (addI .i64 a1 (1 : Int)) :=
  (callW_eq (P := PP) (T := TT) (pr := RR) 30 [⟨(.list tapiPair), a0⟩, ⟨(.int .i64), a1⟩] [] .bool []).trans (by kernel_rfl)
theorem ref07_last.l0.eq (x0 : den (.list tapiPair)) (x1 : den (.int .i64)) (x2 : den (.int .i64)) : ref07_last.l0 x0 x1 x2 =
  br (ltI x2 (ofN (lenL tapiPair x0)))
   (br (andB (leI (0 : Int) x2) (ltI x2 (ofN (lenL tapiPair x0)))) (br (andB (leI (0 : Int) x1) (ltI x1 (ofN (lenL tapiPair x0)))) (br (eqS (ixL tapiPair x0 x2).1 (ixL tapiPair x0 x1).1)
    (some false)
    (ref07_last.l0 x0 x1 (addI .i64 x2 (1 : Int)))) none) none)
   (some true) :=
  (loopB_eq (P := PP) (T := TT) (C := CF) [1, 0, 1, 0, 0] [1, 0, 1, 0, 0] 30 0 ⟨[(0, ⟨(.list tapiPair), x0⟩), (1, ⟨(.int .i64), x1⟩), (5, ⟨(.int .i64), x2⟩)], []⟩ (blockK 0 (seqK false [1, 1] (BF 30 0 [1, 1]) (finF 30 .bool [] 0)))).trans (by kernel_rfl)
theorem ref01_Less.eq (a0 : den .str) (a1 : den .str) : ref01_Less a0 a1 =
  ref01_Less.l0 a0 a1 (0 : Int) :=
  (callW_eq (P := PP) (T := TT) (pr := RR) 31 [⟨.str, a0⟩, ⟨.str, a1⟩] [] .bool []).trans (by kernel_rfl)
theorem ref01_Less.l0.eq (x0 : den .str) (x1 : den .str) (x2 : den (.int .i64)) : ref01_Less.l0 x0 x1 x2 =
  br (ltI x2 (ofN (lenS x0)))
   (ref01_Less.j1 x0 x1 x2 (ltI x2 (ofN (lenS x1))))
   (ref01_Less.j1 x0 x1 x2 false) :=
  (loopB_eq (P := PP) (T := TT) (C := CF) [1, 0, 1, 0, 0] [1, 0, 1, 0, 0] 31 0 ⟨[(0, ⟨.str, x0⟩), (1, ⟨.str, x1⟩), (5, ⟨(.int .i64), x2⟩)], []⟩ (blockK 0 (seqK false [1, 1] (BF 31 0 [1, 1]) (finF 31 .bool [] 0)))).trans (by kernel_rfl)
theorem ref01_Less.j1.eq (x0 : den .str) (x1 : den .str) (x2 : den (.int .i64)) (x3 : den .bool) : ref01_Less.j1 x0 x1 x2 x3 =
  br x3
   (br (andB (leI (0 : Int) x2) (ltI x2 (ofN (lenS x0)))) (br (andB (leI (0 : Int) x2) (ltI x2 (ofN (lenS x1)))) (br (notB (eqI (getS x0 (toN x2)) (getS x1 (toN x2))))
    (br (andB (leI (0 : Int) x2) (ltI x2 (ofN (lenS x0)))) (br (andB (leI (0 : Int) x2) (ltI x2 (ofN (lenS x1)))) (some (ltI (getS x0 (toN x2)) (getS x1 (toN x2)))) none) none)
    (ref01_Less.l0 x0 x1 (addI .i64 x2 (1 : Int)))) none) none)
   (some (ltI (ofN (lenS x0)) (ofN (lenS x1)))) :=
  (congrFun (congrFun (jnO_eq [1, 0, 1, 0, 0, 0, 1] (BF (R := den .bool) 31 0 [1, 0, 1, 0, 0, 0, 1])) ⟨[(0, ⟨.str, x0⟩), (1, ⟨.str, x1⟩), (5, ⟨(.int .i64), x2⟩), (15, ⟨.bool, x3⟩)], []⟩) (seqK false [1, 0, 1, 0, 0, 1] (BF 31 0 [1, 0, 1, 0, 0, 1]) (againK [1, 0, 1, 0, 0] (loopW [1, 0, 1, 0, 0] (BF 31 0 [1, 0, 1, 0, 0])) (blockK 0 (seqK false [1, 1] (BF 31 0 [1, 1]) (finF 31 .bool [] 0)))))).trans (by kernel_rfl)
theorem ref13_Binds.eq (a0 : den tapiNode) : ref13_Binds a0 =
  br (eqI a0.1 (1 : Int))
   (some ((a0.2.1, (a0.2.2.1, ())) :: []))
   (br (eqI a0.1 (4 : Int))
    (some ((a0.2.1, (a0.2.2.1, ())) :: []))
    (br (eqI a0.1 (6 : Int))
     (some ((a0.2.1, (a0.2.2.1, ())) :: []))
     (br (eqI a0.1 (3 : Int))
      (some a0.2.2.2.2.2.2.1)
      (some [])))) :=
  (callW_eq (P := PP) (T := TT) (pr := RR) 32 [⟨tapiNode, a0⟩] [] (.list tapiPair) []).trans (by kernel_rfl)
theorem heap_may.eq (a0 : den (.list tapiNode)) (a1 : den (.int .i64)) : heap_may a0 a1 =
  br (ltI a1 (0 : Int))
   (some (4 : Int))
   (br (ltI (ofN (lenL tapiNode a0)) a1)
    (some (4 : Int))
    (bnd (heap_May a0) fun r0 =>
    some r0)) :=
  (callW_eq (P := PP) (T := TT) (pr := RR) 33 [⟨(.list tapiNode), a0⟩, ⟨(.int .i64), a1⟩] [] (.int .i64) []).trans (by kernel_rfl)
theorem heap_binds.eq (a0 : den (.list tapiNode)) (a1 : den (.int .i64)) : heap_binds a0 a1 =
  br (eqI a1 (0 : Int))
   (some ((), ([], ())))
   (br (andB (leI (0 : Int) (subI .i64 a1 (1 : Int))) (ltI (subI .i64 a1 (1 : Int)) (ofN (lenL tapiNode a0)))) (br (eqI (ixL tapiNode a0 (subI .i64 a1 (1 : Int))).1 (4 : Int))
    (br (andB (leI (0 : Int) (0 : Int)) (ltI (0 : Int) (ofN (lenL (.int .i64) (ixL tapiNode a0 (subI .i64 a1 (1 : Int))).2.2.2.2.1)))) (br (andB (leI (0 : Int) (1 : Int)) (ltI (1 : Int) (ofN (lenL (.int .i64) (ixL tapiNode a0 (subI .i64 a1 (1 : Int))).2.2.2.2.1)))) (bnd (heap_binds a0 (ixL (.int .i64) (ixL tapiNode a0 (subI .i64 a1 (1 : Int))).2.2.2.2.1 (0 : Int))) fun r0 =>
    bnd (node_Binds (ixL tapiNode a0 (subI .i64 a1 (1 : Int)))) fun r1 =>
    br (fitL tapiPair (appL tapiPair r0.2.1 r1.2.1)) (bnd (heap_binds a0 (ixL (.int .i64) (ixL tapiNode a0 (subI .i64 a1 (1 : Int))).2.2.2.2.1 (1 : Int))) fun r2 =>
    br (fitL tapiPair (appL tapiPair (appL tapiPair r0.2.1 r1.2.1) r2.2.1)) (some ((), ((appL tapiPair (appL tapiPair r0.2.1 r1.2.1) r2.2.1), ()))) none) none) none) none)
    (bnd (node_Binds (ixL tapiNode a0 (subI .i64 a1 (1 : Int)))) fun r3 =>
    bnd (node_Refs (ixL tapiNode a0 (subI .i64 a1 (1 : Int)))) fun r4 =>
    heap_binds.l0 a0 r4 (ofN (lenL (.int .i64) r4)) (0 : Int) r3.2.1)) none) :=
  (callW_eq (P := PP) (T := TT) (pr := RR) 34 [⟨(.list tapiNode), a0⟩, ⟨(.int .i64), a1⟩] [] (.own tapiPair 0) [(.row 51 tapiPair false)]).trans (by kernel_rfl)
theorem heap_binds.l0.eq (x0 : den (.list tapiNode)) (x1 : den (.list (.int .i64))) (x2 : den (.int .i64)) (x3 : den (.int .i64)) (x4 : denO (.row 51 tapiPair false)) : heap_binds.l0 x0 x1 x2 x3 x4 =
  br (ltI x3 x2)
   (br (andB (leI (0 : Int) x3) (ltI x3 (ofN (lenL (.int .i64) x1)))) (bnd (heap_binds x0 (ixL (.int .i64) x1 x3)) fun r0 =>
   br (fitL tapiPair (appL tapiPair x4 r0.2.1)) (heap_binds.l0 x0 x1 x2 (addI .i64 x3 (1 : Int)) (appL tapiPair x4 r0.2.1)) none) none)
   (some ((), (x4, ()))) :=
  (loopB_eq (P := PP) (T := TT) (C := CF) [1, 1, 1, 1, 1, 0, 1, 0, 0] [1, 1, 1, 1, 1, 0, 1, 0, 0] 34 0 ⟨[(0, ⟨(.list tapiNode), x0⟩), (6, ⟨(.own tapiPair 0), ()⟩), (38, ⟨(.list (.int .i64)), x1⟩), (39, ⟨(.int .i64), x2⟩), (40, ⟨(.int .i64), x3⟩)], [⟨(.row 51 tapiPair false), x4⟩]⟩ (blockK 0 (seqK false [1, 1, 1, 1, 1, 1] (BF 34 0 [1, 1, 1, 1, 1, 1]) (finF 34 (.own tapiPair 0) [(.row 51 tapiPair false)] 0)))).trans (by kernel_rfl)
theorem heap_same.eq (a0 : den (.list tapiNode)) (a1 : den (.int .i64)) (a2 : den (.list tapiNode)) (a3 : den (.int .i64)) : heap_same a0 a1 a2 a3 =
  br (eqI a1 (0 : Int))
   (heap_same.j0 a0 a1 a2 a3 true)
   (heap_same.j0 a0 a1 a2 a3 (eqI a3 (0 : Int))) :=
  (callW_eq (P := PP) (T := TT) (pr := RR) 35 [⟨(.list tapiNode), a0⟩, ⟨(.int .i64), a1⟩, ⟨(.list tapiNode), a2⟩, ⟨(.int .i64), a3⟩] [] .bool []).trans (by kernel_rfl)
theorem heap_same.j0.eq (x0 : den (.list tapiNode)) (x1 : den (.int .i64)) (x2 : den (.list tapiNode)) (x3 : den (.int .i64)) (x4 : den .bool) : heap_same.j0 x0 x1 x2 x3 x4 =
  br x4
   (some (eqI x1 x3))
   (br (andB (leI (0 : Int) (subI .i64 x1 (1 : Int))) (ltI (subI .i64 x1 (1 : Int)) (ofN (lenL tapiNode x0)))) (br (andB (leI (0 : Int) (subI .i64 x3 (1 : Int))) (ltI (subI .i64 x3 (1 : Int)) (ofN (lenL tapiNode x2)))) (both
    (both
     (bnd (heap_bare (ixL tapiNode x0 (subI .i64 x1 (1 : Int)))) fun r0 =>
     bnd (heap_bare (ixL tapiNode x2 (subI .i64 x3 (1 : Int)))) fun r1 =>
     bnd (node_Same r0 r1) fun r2 =>
     br (notB r2)
      (some false)
      (bnd (node_Refs (ixL tapiNode x0 (subI .i64 x1 (1 : Int)))) fun r3 =>
      bnd (node_Refs (ixL tapiNode x2 (subI .i64 x3 (1 : Int)))) fun r4 =>
      heap_same.l1 x0 x2 r3 r4 (ofN (lenL (.int .i64) r3)) (0 : Int)))
     (bnd (heap_bare (ixL tapiNode x0 (subI .i64 x1 (1 : Int)))) fun r5 =>
     bnd (heap_bare (ixL tapiNode x2 (subI .i64 x3 (1 : Int)))) fun r6 =>
     bnd (node_Same r5 r6) fun r7 =>
     br (notB r7)
      (some false)
      (bnd (node_Refs (ixL tapiNode x0 (subI .i64 x1 (1 : Int)))) fun r8 =>
      bnd (node_Refs (ixL tapiNode x2 (subI .i64 x3 (1 : Int)))) fun r9 =>
      heap_same.l1 x0 x2 r8 r9 (ofN (lenL (.int .i64) r8)) (0 : Int))))
    (both
     (both
      (bnd (heap_bare (ixL tapiNode x0 (subI .i64 x1 (1 : Int)))) fun r10 =>
      bnd (heap_bare (ixL tapiNode x2 (subI .i64 x3 (1 : Int)))) fun r11 =>
      bnd (node_Same r10 r11) fun r12 =>
      br (notB r12)
       (some false)
       (bnd (node_Refs (ixL tapiNode x0 (subI .i64 x1 (1 : Int)))) fun r13 =>
       bnd (node_Refs (ixL tapiNode x2 (subI .i64 x3 (1 : Int)))) fun r14 =>
       heap_same.l1 x0 x2 r13 r14 (ofN (lenL (.int .i64) r13)) (0 : Int)))
      (both
       (bnd (heap_bare (ixL tapiNode x0 (subI .i64 x1 (1 : Int)))) fun r15 =>
       bnd (heap_bare (ixL tapiNode x2 (subI .i64 x3 (1 : Int)))) fun r16 =>
       bnd (node_Same r15 r16) fun r17 =>
       br (notB r17)
        (some false)
        (bnd (node_Refs (ixL tapiNode x0 (subI .i64 x1 (1 : Int)))) fun r18 =>
        bnd (node_Refs (ixL tapiNode x2 (subI .i64 x3 (1 : Int)))) fun r19 =>
        heap_same.l1 x0 x2 r18 r19 (ofN (lenL (.int .i64) r18)) (0 : Int)))
       (bnd (heap_bare (ixL tapiNode x0 (subI .i64 x1 (1 : Int)))) fun r20 =>
       bnd (heap_bare (ixL tapiNode x2 (subI .i64 x3 (1 : Int)))) fun r21 =>
       bnd (node_Same r20 r21) fun r22 =>
       br (notB r22)
        (some false)
        (bnd (node_Refs (ixL tapiNode x0 (subI .i64 x1 (1 : Int)))) fun r23 =>
        bnd (node_Refs (ixL tapiNode x2 (subI .i64 x3 (1 : Int)))) fun r24 =>
        heap_same.l1 x0 x2 r23 r24 (ofN (lenL (.int .i64) r23)) (0 : Int)))))
     (both
      (bnd (heap_bare (ixL tapiNode x0 (subI .i64 x1 (1 : Int)))) fun r25 =>
      bnd (heap_bare (ixL tapiNode x2 (subI .i64 x3 (1 : Int)))) fun r26 =>
      bnd (node_Same r25 r26) fun r27 =>
      br (notB r27)
       (some false)
       (bnd (node_Refs (ixL tapiNode x0 (subI .i64 x1 (1 : Int)))) fun r28 =>
       bnd (node_Refs (ixL tapiNode x2 (subI .i64 x3 (1 : Int)))) fun r29 =>
       heap_same.l1 x0 x2 r28 r29 (ofN (lenL (.int .i64) r28)) (0 : Int)))
      (both
       (bnd (heap_bare (ixL tapiNode x0 (subI .i64 x1 (1 : Int)))) fun r30 =>
       bnd (heap_bare (ixL tapiNode x2 (subI .i64 x3 (1 : Int)))) fun r31 =>
       bnd (node_Same r30 r31) fun r32 =>
       br (notB r32)
        (some false)
        (bnd (node_Refs (ixL tapiNode x0 (subI .i64 x1 (1 : Int)))) fun r33 =>
        bnd (node_Refs (ixL tapiNode x2 (subI .i64 x3 (1 : Int)))) fun r34 =>
        heap_same.l1 x0 x2 r33 r34 (ofN (lenL (.int .i64) r33)) (0 : Int)))
       (bnd (heap_bare (ixL tapiNode x0 (subI .i64 x1 (1 : Int)))) fun r35 =>
       bnd (heap_bare (ixL tapiNode x2 (subI .i64 x3 (1 : Int)))) fun r36 =>
       bnd (node_Same r35 r36) fun r37 =>
       br (notB r37)
        (some false)
        (bnd (node_Refs (ixL tapiNode x0 (subI .i64 x1 (1 : Int)))) fun r38 =>
        bnd (node_Refs (ixL tapiNode x2 (subI .i64 x3 (1 : Int)))) fun r39 =>
        heap_same.l1 x0 x2 r38 r39 (ofN (lenL (.int .i64) r38)) (0 : Int))))))) none) none) :=
  (congrFun (congrFun (jnO_eq [1, 0, 1] (BF (R := den .bool) 35 0 [1, 0, 1])) ⟨[(0, ⟨(.list tapiNode), x0⟩), (1, ⟨(.int .i64), x1⟩), (2, ⟨(.list tapiNode), x2⟩), (3, ⟨(.int .i64), x3⟩), (19, ⟨.bool, x4⟩)], []⟩) (seqK false [1, 1] (BF 35 0 [1, 1]) (finF 35 .bool [] 0))).trans (by kernel_rfl)
theorem heap_same.l1.eq (x0 : den (.list tapiNode)) (x1 : den (.list tapiNode)) (x2 : den (.list (.int .i64))) (x3 : den (.list (.int .i64))) (x4 : den (.int .i64)) (x5 : den (.int .i64)) : heap_same.l1 x0 x1 x2 x3 x4 x5 =
  br (ltI x5 x4)
   (br (andB (leI (0 : Int) x5) (ltI x5 (ofN (lenL (.int .i64) x2)))) (br (andB (leI (0 : Int) x5) (ltI x5 (ofN (lenL (.int .i64) x3)))) (bnd (heap_same x0 (ixL (.int .i64) x2 x5) x1 (ixL (.int .i64) x3 x5)) fun r0 =>
   br (notB r0)
    (some false)
    (heap_same.l1 x0 x1 x2 x3 x4 (addI .i64 x5 (1 : Int)))) none) none)
   (some true) :=
  (loopB_eq (P := PP) (T := TT) (C := CF) [1, 1, 1, 1, 1, 0, 1, 0, 0] [1, 1, 1, 1, 1, 0, 1, 0, 0] 35 0 ⟨[(0, ⟨(.list tapiNode), x0⟩), (2, ⟨(.list tapiNode), x1⟩), (11, ⟨(.list (.int .i64)), x2⟩), (12, ⟨(.list (.int .i64)), x3⟩), (44, ⟨(.int .i64), x4⟩), (45, ⟨(.int .i64), x5⟩)], []⟩ (blockK 0 (seqK false [1, 1, 1, 1, 1, 1] (BF 35 0 [1, 1, 1, 1, 1, 1]) (finF 35 .bool [] 0)))).trans (by kernel_rfl)
theorem ref17_May.eq (a0 : den (.list tapiNode)) : ref17_May a0 =
  ref17_May.l0 a0 (0 : Int) :=
  (callW_eq (P := PP) (T := TT) (pr := RR) 36 [⟨(.list tapiNode), a0⟩] [] .bool []).trans (by kernel_rfl)
theorem ref17_May.l0.eq (x0 : den (.list tapiNode)) (x1 : den (.int .i64)) : ref17_May.l0 x0 x1 =
  br (ltI x1 (ofN (lenL tapiNode x0)))
   (br (andB (leI (0 : Int) x1) (ltI x1 (ofN (lenL tapiNode x0)))) (bnd (ref13_Refs (ixL tapiNode x0 x1)) fun r0 =>
   ref17_May.l1 x0 x1 r0 (0 : Int)) none)
   (some true) :=
  (loopB_eq (P := PP) (T := TT) (C := CF) [1, 0, 1, 0, 0] [1, 0, 1, 0, 0] 36 0 ⟨[(0, ⟨(.list tapiNode), x0⟩), (3, ⟨(.int .i64), x1⟩)], []⟩ (blockK 0 (seqK false [1, 1] (BF 36 0 [1, 1]) (finF 36 .bool [] 0)))).trans (by kernel_rfl)
theorem ref17_May.l1.eq (x0 : den (.list tapiNode)) (x1 : den (.int .i64)) (x2 : den (.list (.int .i64))) (x3 : den (.int .i64)) : ref17_May.l1 x0 x1 x2 x3 =
  br (ltI x3 (ofN (lenL (.int .i64) x2)))
   (br (andB (leI (0 : Int) x3) (ltI x3 (ofN (lenL (.int .i64) x2)))) (br (ltI (ixL (.int .i64) x2 x3) (1 : Int))
    (some false)
    (br (andB (leI (0 : Int) x3) (ltI x3 (ofN (lenL (.int .i64) x2)))) (br (ltI x1 (ixL (.int .i64) x2 x3))
     (some false)
     (ref17_May.l1 x0 x1 x2 (addI .i64 x3 (1 : Int)))) none)) none)
   (br (andB (leI (0 : Int) x1) (ltI x1 (ofN (lenL tapiNode x0)))) (bnd (ref13_May (ixL tapiNode x0 x1)) fun r0 =>
   br (notB (eqI r0 (0 : Int)))
    (some false)
    (ref17_May.l0 x0 (addI .i64 x1 (1 : Int)))) none) :=
  (loopB_eq (P := PP) (T := TT) (C := CF) [1, 0, 1, 0, 0, 1, 0, 0, 1, 0, 1, 0, 0] [1, 0, 1, 0, 0, 1, 0, 0, 1, 0, 1, 0, 0] 36 0 ⟨[(0, ⟨(.list tapiNode), x0⟩), (3, ⟨(.int .i64), x1⟩), (4, ⟨(.list (.int .i64)), x2⟩), (5, ⟨(.int .i64), x3⟩)], []⟩ (blockK 2 (seqK false [1, 0, 1, 0, 0, 1, 0, 0, 1, 1] (BF 36 0 [1, 0, 1, 0, 0, 1, 0, 0, 1, 1]) (blockK 1 (seqK false [1, 0, 1, 0, 0, 1, 1] (BF 36 0 [1, 0, 1, 0, 0, 1, 1]) (againK [1, 0, 1, 0, 0] (loopW [1, 0, 1, 0, 0] (BF 36 0 [1, 0, 1, 0, 0])) (blockK 0 (seqK false [1, 1] (BF 36 0 [1, 1]) (finF 36 .bool [] 0))))))))).trans (by kernel_rfl)
theorem ref20_make1.eq (a0 : den (.int .i64)) (a1 : den (.list tapiPair)) (a2 : den (.int .i64)) (a3 : denO (.row 41 tapiNode true)) : ref20_make1 a0 a1 a2 a3 =
  br (eqI (ofN (lenL tapiPair a1)) (0 : Int))
   (some (((), ((0 : Int), ())), (a3, ())))
   (br (eqI (ofN (lenL tapiPair a1)) (1 : Int))
    (br (andB (leI (0 : Int) (0 : Int)) (ltI (0 : Int) (ofN (lenL tapiPair a1)))) (br (andB (leI (0 : Int) (0 : Int)) (ltI (0 : Int) (ofN (lenL tapiPair a1)))) (both
     (br (fitL tapiNode (appL tapiNode a3 (((1 : Int), ((ixL tapiPair a1 (0 : Int)).1, ((ixL tapiPair a1 (0 : Int)).2.1, ((0 : Int), ([], ((0 : Int), ([], ((1 : Int), ((0 : Int), ()))))))))) :: []))) (some (((), ((ofN (lenL tapiNode (appL tapiNode a3 (((1 : Int), ((ixL tapiPair a1 (0 : Int)).1, ((ixL tapiPair a1 (0 : Int)).2.1, ((0 : Int), ([], ((0 : Int), ([], ((1 : Int), ((0 : Int), ()))))))))) :: [])))), ())), ((appL tapiNode a3 (((1 : Int), ((ixL tapiPair a1 (0 : Int)).1, ((ixL tapiPair a1 (0 : Int)).2.1, ((0 : Int), ([], ((0 : Int), ([], ((1 : Int), ((0 : Int), ()))))))))) :: [])), ()))) none)
     (br (fitL tapiNode (appL tapiNode a3 (((1 : Int), ((ixL tapiPair a1 (0 : Int)).1, ((ixL tapiPair a1 (0 : Int)).2.1, ((0 : Int), ([], ((0 : Int), ([], ((1 : Int), ((0 : Int), ()))))))))) :: []))) (some (((), ((ofN (lenL tapiNode (appL tapiNode a3 (((1 : Int), ((ixL tapiPair a1 (0 : Int)).1, ((ixL tapiPair a1 (0 : Int)).2.1, ((0 : Int), ([], ((0 : Int), ([], ((1 : Int), ((0 : Int), ()))))))))) :: [])))), ())), ((appL tapiNode a3 (((1 : Int), ((ixL tapiPair a1 (0 : Int)).1, ((ixL tapiPair a1 (0 : Int)).2.1, ((0 : Int), ([], ((0 : Int), ([], ((1 : Int), ((0 : Int), ()))))))))) :: [])), ()))) none)) none) none)
    (bnd (ref04_Levels a0) fun r0 =>
    br (leI r0 a2)
     (br (fitL tapiNode (appL tapiNode a3 (((3 : Int), (ByteArray.empty, (ByteArray.empty, ((0 : Int), ([], ((0 : Int), (a1, ((ofN (lenL tapiPair a1)), ((0 : Int), ()))))))))) :: []))) (some (((), ((ofN (lenL tapiNode (appL tapiNode a3 (((3 : Int), (ByteArray.empty, (ByteArray.empty, ((0 : Int), ([], ((0 : Int), (a1, ((ofN (lenL tapiPair a1)), ((0 : Int), ()))))))))) :: [])))), ())), ((appL tapiNode a3 (((3 : Int), (ByteArray.empty, (ByteArray.empty, ((0 : Int), ([], ((0 : Int), (a1, ((ofN (lenL tapiPair a1)), ((0 : Int), ()))))))))) :: [])), ()))) none)
     (ref20_make1.l0 a0 a1 a2 (1 : Int) (0 : Int) a3 ((2 : Int), (ByteArray.empty, (ByteArray.empty, ((0 : Int), ((), ((0 : Int), ((), ((ofN (lenL tapiPair a1)), ((0 : Int), ())))))))))))) :=
  (callW_eq (P := PP) (T := TT) (pr := RR) 37 [⟨(.own tapiNode 0), ()⟩, ⟨(.int .i64), a0⟩, ⟨(.list tapiPair), a1⟩, ⟨(.int .i64), a2⟩] [⟨(.row 41 tapiNode true), a3⟩] (.tcons (.own tapiNode 0) (.tcons (.int .i64) .tnil)) [(.row 41 tapiNode false)]).trans (by kernel_rfl)
theorem ref20_make1.l0.eq (x0 : den (.int .i64)) (x1 : den (.list tapiPair)) (x2 : den (.int .i64)) (x3 : den (.int .u32)) (x4 : den (.int .i64)) (x5 : denO (.row 41 tapiNode true)) (x6 : denO (.box (.pair (.int .i64) (.pair .str (.pair .str (.pair (.int .u32) (.pair (.nil 25) (.pair (.int .i64) (.pair (.nil 51) (.pair (.int .i64) (.pair (.int .i64) .unit))))))))))) : ref20_make1.l0 x0 x1 x2 x3 x4 x5 x6 =
  br (ltI x4 (32 : Int))
   (ref20_make1.l1 x0 x1 x2 x3 x4 (0 : Int) x5 x6 [])
   (br (fitL tapiNode (appL tapiNode x5 ((x6.1, (x6.2.1, (x6.2.2.1, (x6.2.2.2.1, ([], (x6.2.2.2.2.2.1, ([], x6.2.2.2.2.2.2.2))))))) :: []))) (some (((), ((ofN (lenL tapiNode (appL tapiNode x5 ((x6.1, (x6.2.1, (x6.2.2.1, (x6.2.2.2.1, ([], (x6.2.2.2.2.2.1, ([], x6.2.2.2.2.2.2.2))))))) :: [])))), ())), ((appL tapiNode x5 ((x6.1, (x6.2.1, (x6.2.2.1, (x6.2.2.2.1, ([], (x6.2.2.2.2.2.1, ([], x6.2.2.2.2.2.2.2))))))) :: [])), ()))) none) :=
  (loopB_eq (P := PP) (T := TT) (C := CF) [1, 1, 1, 0, 1, 1, 1, 1, 1, 1, 1, 0, 0] [1, 1, 1, 0, 1, 1, 1, 1, 1, 1, 1, 0, 0] 37 1 ⟨[(0, ⟨(.own tapiNode 0), ()⟩), (1, ⟨(.int .i64), x0⟩), (2, ⟨(.list tapiPair), x1⟩), (3, ⟨(.int .i64), x2⟩), (10, ⟨(.ptr 1 0), ()⟩), (11, ⟨(.int .u32), x3⟩), (12, ⟨(.int .i64), x4⟩)], [⟨(.row 41 tapiNode true), x5⟩, ⟨(.box (.pair (.int .i64) (.pair .str (.pair .str (.pair (.int .u32) (.pair (.nil 25) (.pair (.int .i64) (.pair (.nil 51) (.pair (.int .i64) (.pair (.int .i64) .unit)))))))))), x6⟩]⟩ (blockK 0 (seqK false [1, 1, 1, 1] (BF 37 1 [1, 1, 1, 1]) (finF 37 (.tcons (.own tapiNode 0) (.tcons (.int .i64) .tnil)) [(.row 41 tapiNode false)] 1)))).trans (by kernel_rfl)
theorem ref20_make1.l1.eq (x0 : den (.int .i64)) (x1 : den (.list tapiPair)) (x2 : den (.int .i64)) (x3 : den (.int .u32)) (x4 : den (.int .i64)) (x5 : den (.int .i64)) (x6 : denO (.row 41 tapiNode true)) (x7 : denO (.box (.pair (.int .i64) (.pair .str (.pair .str (.pair (.int .u32) (.pair (.nil 25) (.pair (.int .i64) (.pair (.nil 51) (.pair (.int .i64) (.pair (.int .i64) .unit))))))))))) (x8 : denO (.row 51 tapiPair false)) : ref20_make1.l1 x0 x1 x2 x3 x4 x5 x6 x7 x8 =
  br (ltI x5 (ofN (lenL tapiPair x1)))
   (br (andB (leI (0 : Int) x5) (ltI x5 (ofN (lenL tapiPair x1)))) (bnd (ref20_chunk (ixL tapiPair x1 x5).1 x2 x0) fun r0 =>
   br (eqI r0 x4)
    (br (andB (leI (0 : Int) x5) (ltI x5 (ofN (lenL tapiPair x1)))) (br (fitL tapiPair (appL tapiPair x8 ((ixL tapiPair x1 x5) :: []))) (ref20_make1.l1 x0 x1 x2 x3 x4 (addI .i64 x5 (1 : Int)) x6 x7 (appL tapiPair x8 ((ixL tapiPair x1 x5) :: []))) none) none)
    (ref20_make1.l1 x0 x1 x2 x3 x4 (addI .i64 x5 (1 : Int)) x6 x7 x8)) none)
   (br (ltI (0 : Int) (ofN (lenL tapiPair x8)))
    (bnd (ref20_make1 x0 x8 (addI .i64 x2 (1 : Int)) x6) fun r1 =>
    br (fitL (.int .i64) (r1.1.2.1 :: [])) (ref20_make1.l2 x0 x1 x2 (mulI .u32 (2 : Int) x3) (addI .i64 x4 (1 : Int)) r1.2.1 (x7.1, (x7.2.1, (x7.2.2.1, ((addI .u32 x7.2.2.2.1 x3), x7.2.2.2.2)))) (r1.1.2.1 :: [])) none)
    (ref20_make1.l0 x0 x1 x2 (mulI .u32 (2 : Int) x3) (addI .i64 x4 (1 : Int)) x6 x7)) :=
  (loopB_eq (P := PP) (T := TT) (C := CF) [1, 1, 1, 0, 1, 1, 1, 1, 1, 1, 1, 0, 0, 1, 0, 0, 1, 0, 1, 0, 0] [1, 1, 1, 0, 1, 1, 1, 1, 1, 1, 1, 0, 0, 1, 0, 0, 1, 0, 1, 0, 0] 37 1 ⟨[(0, ⟨(.own tapiNode 0), ()⟩), (1, ⟨(.int .i64), x0⟩), (2, ⟨(.list tapiPair), x1⟩), (3, ⟨(.int .i64), x2⟩), (10, ⟨(.ptr 1 0), ()⟩), (11, ⟨(.int .u32), x3⟩), (12, ⟨(.int .i64), x4⟩), (13, ⟨(.own tapiPair 2), ()⟩), (14, ⟨(.int .i64), x5⟩)], [⟨(.row 41 tapiNode true), x6⟩, ⟨(.box (.pair (.int .i64) (.pair .str (.pair .str (.pair (.int .u32) (.pair (.nil 25) (.pair (.int .i64) (.pair (.nil 51) (.pair (.int .i64) (.pair (.int .i64) .unit)))))))))), x7⟩, ⟨(.row 51 tapiPair false), x8⟩]⟩ (blockK 2 (seqK false [1, 1, 1, 0, 1, 1, 1, 1, 1, 1, 1, 0, 0, 1, 0, 0, 1, 1] (BF 37 1 [1, 1, 1, 0, 1, 1, 1, 1, 1, 1, 1, 0, 0, 1, 0, 0, 1, 1]) (blockK 1 (seqK false [1, 1, 1, 0, 1, 1, 1, 1, 1, 1, 1, 0, 0, 1, 1] (BF 37 1 [1, 1, 1, 0, 1, 1, 1, 1, 1, 1, 1, 0, 0, 1, 1]) (againK [1, 1, 1, 0, 1, 1, 1, 1, 1, 1, 1, 0, 0] (loopW [1, 1, 1, 0, 1, 1, 1, 1, 1, 1, 1, 0, 0] (BF 37 1 [1, 1, 1, 0, 1, 1, 1, 1, 1, 1, 1, 0, 0])) (blockK 0 (seqK false [1, 1, 1, 1] (BF 37 1 [1, 1, 1, 1]) (finF 37 (.tcons (.own tapiNode 0) (.tcons (.int .i64) .tnil)) [(.row 41 tapiNode false)] 1))))))))).trans (by kernel_rfl)
theorem ref20_make1.l2.eq (x0 : den (.int .i64)) (x1 : den (.list tapiPair)) (x2 : den (.int .i64)) (x3 : den (.int .u32)) (x4 : den (.int .i64)) (x5 : denO (.row 41 tapiNode false)) (x6 : denO (.box (.pair (.int .i64) (.pair .str (.pair .str (.pair (.int .u32) (.pair (.own (.int .i64) 2) (.pair (.int .i64) (.pair (.nil 51) (.pair (.int .i64) (.pair (.int .i64) .unit))))))))))) (x7 : denO (.row 25 (.int .i64) false)) : ref20_make1.l2 x0 x1 x2 x3 x4 x5 x6 x7 =
  br (ltI x4 (32 : Int))
   (ref20_make1.l3 x0 x1 x2 x3 x4 (0 : Int) x5 x6 [] x7)
   (br (fitL tapiNode (appL tapiNode x5 ((x6.1, (x6.2.1, (x6.2.2.1, (x6.2.2.2.1, (x7, (x6.2.2.2.2.2.1, ([], x6.2.2.2.2.2.2.2))))))) :: []))) (some (((), ((ofN (lenL tapiNode (appL tapiNode x5 ((x6.1, (x6.2.1, (x6.2.2.1, (x6.2.2.2.1, (x7, (x6.2.2.2.2.2.1, ([], x6.2.2.2.2.2.2.2))))))) :: [])))), ())), ((appL tapiNode x5 ((x6.1, (x6.2.1, (x6.2.2.1, (x6.2.2.2.1, (x7, (x6.2.2.2.2.2.1, ([], x6.2.2.2.2.2.2.2))))))) :: [])), ()))) none) :=
  (loopB_eq (P := PP) (T := TT) (C := CF) [1, 1, 1, 0, 1, 1, 1, 1, 1, 1, 1, 0, 0] [1, 1, 1, 0, 1, 1, 1, 1, 1, 1, 1, 0, 0] 37 1 ⟨[(0, ⟨(.own tapiNode 0), ()⟩), (1, ⟨(.int .i64), x0⟩), (2, ⟨(.list tapiPair), x1⟩), (3, ⟨(.int .i64), x2⟩), (10, ⟨(.ptr 1 0), ()⟩), (11, ⟨(.int .u32), x3⟩), (12, ⟨(.int .i64), x4⟩)], [⟨(.row 41 tapiNode false), x5⟩, ⟨(.box (.pair (.int .i64) (.pair .str (.pair .str (.pair (.int .u32) (.pair (.own (.int .i64) 2) (.pair (.int .i64) (.pair (.nil 51) (.pair (.int .i64) (.pair (.int .i64) .unit)))))))))), x6⟩, ⟨(.row 25 (.int .i64) false), x7⟩]⟩ (blockK 0 (seqK false [1, 1, 1, 1] (BF 37 1 [1, 1, 1, 1]) (finF 37 (.tcons (.own tapiNode 0) (.tcons (.int .i64) .tnil)) [(.row 41 tapiNode false)] 1)))).trans (by kernel_rfl)
theorem ref20_make1.l3.eq (x0 : den (.int .i64)) (x1 : den (.list tapiPair)) (x2 : den (.int .i64)) (x3 : den (.int .u32)) (x4 : den (.int .i64)) (x5 : den (.int .i64)) (x6 : denO (.row 41 tapiNode false)) (x7 : denO (.box (.pair (.int .i64) (.pair .str (.pair .str (.pair (.int .u32) (.pair (.own (.int .i64) 3) (.pair (.int .i64) (.pair (.nil 51) (.pair (.int .i64) (.pair (.int .i64) .unit))))))))))) (x8 : denO (.row 51 tapiPair false)) (x9 : denO (.row 25 (.int .i64) false)) : ref20_make1.l3 x0 x1 x2 x3 x4 x5 x6 x7 x8 x9 =
  br (ltI x5 (ofN (lenL tapiPair x1)))
   (br (andB (leI (0 : Int) x5) (ltI x5 (ofN (lenL tapiPair x1)))) (bnd (ref20_chunk (ixL tapiPair x1 x5).1 x2 x0) fun r0 =>
   br (eqI r0 x4)
    (br (andB (leI (0 : Int) x5) (ltI x5 (ofN (lenL tapiPair x1)))) (br (fitL tapiPair (appL tapiPair x8 ((ixL tapiPair x1 x5) :: []))) (ref20_make1.l3 x0 x1 x2 x3 x4 (addI .i64 x5 (1 : Int)) x6 x7 (appL tapiPair x8 ((ixL tapiPair x1 x5) :: [])) x9) none) none)
    (ref20_make1.l3 x0 x1 x2 x3 x4 (addI .i64 x5 (1 : Int)) x6 x7 x8 x9)) none)
   (br (ltI (0 : Int) (ofN (lenL tapiPair x8)))
    (bnd (ref20_make1 x0 x8 (addI .i64 x2 (1 : Int)) x6) fun r1 =>
    br (fitL (.int .i64) (appL (.int .i64) x9 (r1.1.2.1 :: []))) (ref20_make1.l2 x0 x1 x2 (mulI .u32 (2 : Int) x3) (addI .i64 x4 (1 : Int)) r1.2.1 (x7.1, (x7.2.1, (x7.2.2.1, ((addI .u32 x7.2.2.2.1 x3), x7.2.2.2.2)))) (appL (.int .i64) x9 (r1.1.2.1 :: []))) none)
    (ref20_make1.l2 x0 x1 x2 (mulI .u32 (2 : Int) x3) (addI .i64 x4 (1 : Int)) x6 x7 x9)) :=
  (loopB_eq (P := PP) (T := TT) (C := CF) [1, 1, 1, 0, 1, 1, 1, 1, 1, 1, 1, 0, 0, 1, 0, 0, 1, 0, 1, 0, 0] [1, 1, 1, 0, 1, 1, 1, 1, 1, 1, 1, 0, 0, 1, 0, 0, 1, 0, 1, 0, 0] 37 1 ⟨[(0, ⟨(.own tapiNode 0), ()⟩), (1, ⟨(.int .i64), x0⟩), (2, ⟨(.list tapiPair), x1⟩), (3, ⟨(.int .i64), x2⟩), (10, ⟨(.ptr 1 0), ()⟩), (11, ⟨(.int .u32), x3⟩), (12, ⟨(.int .i64), x4⟩), (13, ⟨(.own tapiPair 2), ()⟩), (14, ⟨(.int .i64), x5⟩)], [⟨(.row 41 tapiNode false), x6⟩, ⟨(.box (.pair (.int .i64) (.pair .str (.pair .str (.pair (.int .u32) (.pair (.own (.int .i64) 3) (.pair (.int .i64) (.pair (.nil 51) (.pair (.int .i64) (.pair (.int .i64) .unit)))))))))), x7⟩, ⟨(.row 51 tapiPair false), x8⟩, ⟨(.row 25 (.int .i64) false), x9⟩]⟩ (blockK 2 (seqK false [1, 1, 1, 0, 1, 1, 1, 1, 1, 1, 1, 0, 0, 1, 0, 0, 1, 1] (BF 37 1 [1, 1, 1, 0, 1, 1, 1, 1, 1, 1, 1, 0, 0, 1, 0, 0, 1, 1]) (blockK 1 (seqK false [1, 1, 1, 0, 1, 1, 1, 1, 1, 1, 1, 0, 0, 1, 1] (BF 37 1 [1, 1, 1, 0, 1, 1, 1, 1, 1, 1, 1, 0, 0, 1, 1]) (againK [1, 1, 1, 0, 1, 1, 1, 1, 1, 1, 1, 0, 0] (loopW [1, 1, 1, 0, 1, 1, 1, 1, 1, 1, 1, 0, 0] (BF 37 1 [1, 1, 1, 0, 1, 1, 1, 1, 1, 1, 1, 0, 0])) (blockK 0 (seqK false [1, 1, 1, 1] (BF 37 1 [1, 1, 1, 1]) (finF 37 (.tcons (.own tapiNode 0) (.tcons (.int .i64) .tnil)) [(.row 41 tapiNode false)] 1))))))))).trans (by kernel_rfl)
theorem ref17_shape.eq (a0 : den (.list tapiNode)) (a1 : den (.int .i64)) (a2 : den (.list tapiNode)) (a3 : den (.int .i64)) : ref17_shape a0 a1 a2 a3 =
  br (eqI a1 (0 : Int))
   (ref17_shape.j0 a0 a1 a2 a3 true)
   (ref17_shape.j0 a0 a1 a2 a3 (eqI a3 (0 : Int))) :=
  (callW_eq (P := PP) (T := TT) (pr := RR) 38 [⟨(.list tapiNode), a0⟩, ⟨(.int .i64), a1⟩, ⟨(.list tapiNode), a2⟩, ⟨(.int .i64), a3⟩] [] .bool []).trans (by kernel_rfl)
theorem ref17_shape.j0.eq (x0 : den (.list tapiNode)) (x1 : den (.int .i64)) (x2 : den (.list tapiNode)) (x3 : den (.int .i64)) (x4 : den .bool) : ref17_shape.j0 x0 x1 x2 x3 x4 =
  br x4
   (br (eqI x1 (0 : Int))
    (some (eqI x3 (0 : Int)))
    (some false))
   (br (andB (leI (0 : Int) (subI .i64 x1 (1 : Int))) (ltI (subI .i64 x1 (1 : Int)) (ofN (lenL tapiNode x0)))) (br (andB (leI (0 : Int) (subI .i64 x3 (1 : Int))) (ltI (subI .i64 x3 (1 : Int)) (ofN (lenL tapiNode x2)))) (both
    (both
     (br (notB (eqI (ofN (lenL (.int .i64) (ixL tapiNode x0 (subI .i64 x1 (1 : Int))).2.2.2.2.1)) (ofN (lenL (.int .i64) (ixL tapiNode x2 (subI .i64 x3 (1 : Int))).2.2.2.2.1))))
      (some false)
      (ref17_shape.l1 x0 x2 (0 : Int) (ixL tapiNode x0 (subI .i64 x1 (1 : Int))) (ixL tapiNode x2 (subI .i64 x3 (1 : Int)))))
     (br (notB (eqI (ofN (lenL (.int .i64) (ixL tapiNode x0 (subI .i64 x1 (1 : Int))).2.2.2.2.1)) (ofN (lenL (.int .i64) (ixL tapiNode x2 (subI .i64 x3 (1 : Int))).2.2.2.2.1))))
      (some false)
      (ref17_shape.l1 x0 x2 (0 : Int) (ixL tapiNode x0 (subI .i64 x1 (1 : Int))) (ixL tapiNode x2 (subI .i64 x3 (1 : Int))))))
    (both
     (both
      (br (notB (eqI (ofN (lenL (.int .i64) (ixL tapiNode x0 (subI .i64 x1 (1 : Int))).2.2.2.2.1)) (ofN (lenL (.int .i64) (ixL tapiNode x2 (subI .i64 x3 (1 : Int))).2.2.2.2.1))))
       (some false)
       (ref17_shape.l1 x0 x2 (0 : Int) (ixL tapiNode x0 (subI .i64 x1 (1 : Int))) (ixL tapiNode x2 (subI .i64 x3 (1 : Int)))))
      (both
       (br (notB (eqI (ofN (lenL (.int .i64) (ixL tapiNode x0 (subI .i64 x1 (1 : Int))).2.2.2.2.1)) (ofN (lenL (.int .i64) (ixL tapiNode x2 (subI .i64 x3 (1 : Int))).2.2.2.2.1))))
        (some false)
        (ref17_shape.l1 x0 x2 (0 : Int) (ixL tapiNode x0 (subI .i64 x1 (1 : Int))) (ixL tapiNode x2 (subI .i64 x3 (1 : Int)))))
       (br (notB (eqI (ofN (lenL (.int .i64) (ixL tapiNode x0 (subI .i64 x1 (1 : Int))).2.2.2.2.1)) (ofN (lenL (.int .i64) (ixL tapiNode x2 (subI .i64 x3 (1 : Int))).2.2.2.2.1))))
        (some false)
        (ref17_shape.l1 x0 x2 (0 : Int) (ixL tapiNode x0 (subI .i64 x1 (1 : Int))) (ixL tapiNode x2 (subI .i64 x3 (1 : Int)))))))
     (both
      (br (notB (eqI (ofN (lenL (.int .i64) (ixL tapiNode x0 (subI .i64 x1 (1 : Int))).2.2.2.2.1)) (ofN (lenL (.int .i64) (ixL tapiNode x2 (subI .i64 x3 (1 : Int))).2.2.2.2.1))))
       (some false)
       (ref17_shape.l1 x0 x2 (0 : Int) (ixL tapiNode x0 (subI .i64 x1 (1 : Int))) (ixL tapiNode x2 (subI .i64 x3 (1 : Int)))))
      (both
       (br (notB (eqI (ofN (lenL (.int .i64) (ixL tapiNode x0 (subI .i64 x1 (1 : Int))).2.2.2.2.1)) (ofN (lenL (.int .i64) (ixL tapiNode x2 (subI .i64 x3 (1 : Int))).2.2.2.2.1))))
        (some false)
        (ref17_shape.l1 x0 x2 (0 : Int) (ixL tapiNode x0 (subI .i64 x1 (1 : Int))) (ixL tapiNode x2 (subI .i64 x3 (1 : Int)))))
       (br (notB (eqI (ofN (lenL (.int .i64) (ixL tapiNode x0 (subI .i64 x1 (1 : Int))).2.2.2.2.1)) (ofN (lenL (.int .i64) (ixL tapiNode x2 (subI .i64 x3 (1 : Int))).2.2.2.2.1))))
        (some false)
        (ref17_shape.l1 x0 x2 (0 : Int) (ixL tapiNode x0 (subI .i64 x1 (1 : Int))) (ixL tapiNode x2 (subI .i64 x3 (1 : Int))))))))) none) none) :=
  (congrFun (congrFun (jnO_eq [1, 0, 1] (BF (R := den .bool) 38 0 [1, 0, 1])) ⟨[(0, ⟨(.list tapiNode), x0⟩), (1, ⟨(.int .i64), x1⟩), (2, ⟨(.list tapiNode), x2⟩), (3, ⟨(.int .i64), x3⟩), (17, ⟨.bool, x4⟩)], []⟩) (seqK false [1, 1] (BF 38 0 [1, 1]) (finF 38 .bool [] 0))).trans (by kernel_rfl)
theorem ref17_shape.l1.eq (x0 : den (.list tapiNode)) (x1 : den (.list tapiNode)) (x2 : den (.int .i64)) (x3 : denO (.box tapiNode)) (x4 : denO (.box tapiNode)) : ref17_shape.l1 x0 x1 x2 x3 x4 =
  br (ltI x2 (ofN (lenL (.int .i64) x3.2.2.2.2.1)))
   (br (andB (leI (0 : Int) x2) (ltI x2 (ofN (lenL (.int .i64) x3.2.2.2.2.1)))) (br (andB (leI (0 : Int) x2) (ltI x2 (ofN (lenL (.int .i64) x4.2.2.2.2.1)))) (bnd (ref17_shape x0 (ixL (.int .i64) x3.2.2.2.2.1 x2) x1 (ixL (.int .i64) x4.2.2.2.2.1 x2)) fun r0 =>
   br (notB r0)
    (some false)
    (ref17_shape.l1 x0 x1 (addI .i64 x2 (1 : Int)) x3 x4)) none) none)
   (bnd (ref17_shape x0 x3.2.2.2.2.2.1 x1 x4.2.2.2.2.2.1) fun r1 =>
   br (notB r1)
    (some false)
    (bnd (ref13_Same (x3.1, (x3.2.1, (x3.2.2.1, (x3.2.2.2.1, ([], ((0 : Int), (x3.2.2.2.2.2.2.1, (x3.2.2.2.2.2.2.2.1, ((0 : Int), ()))))))))) (x4.1, (x4.2.1, (x4.2.2.1, (x4.2.2.2.1, ([], ((0 : Int), (x4.2.2.2.2.2.2.1, (x4.2.2.2.2.2.2.2.1, ((0 : Int), ())))))))))) fun r2 =>
    some r2)) :=
  (loopB_eq (P := PP) (T := TT) (C := CF) [1, 1, 1, 1, 0, 1, 0, 0] [1, 1, 1, 1, 0, 1, 0, 0] 38 0 ⟨[(0, ⟨(.list tapiNode), x0⟩), (2, ⟨(.list tapiNode), x1⟩), (9, ⟨(.ptr 0 0), ()⟩), (10, ⟨(.ptr 1 0), ()⟩), (11, ⟨(.int .i64), x2⟩)], [⟨(.box tapiNode), x3⟩, ⟨(.box tapiNode), x4⟩]⟩ (blockK 0 (seqK false [1, 1, 1, 1, 1] (BF 38 0 [1, 1, 1, 1, 1]) (finF 38 .bool [] 0)))).trans (by kernel_rfl)
theorem pair_put.eq (a0 : den (.list tapiPair)) (a1 : den tapiPair) : pair_put a0 a1 =
  bnd (pair_place a0 a1.1) fun r0 =>
  br r0.2.1
   (bnd (slices_Cloneapi_Pair_api_Pair a0) fun r1 =>
   br (andB (leI (0 : Int) r0.1) (ltI r0.1 (ofN (lenL tapiPair r1.2.1)))) (some ((), ((setL tapiPair r1.2.1 r0.1 a1), ()))) none)
   (both
    (bnd (slices_Cloneapi_Pair_api_Pair a0) fun r2 =>
    bnd (slices_Insertapi_Pair_api_Pair r0.1 r2.2.1 (a1 :: [])) fun r3 =>
    some ((), (r3.2.1, ())))
    (bnd (slices_Cloneapi_Pair_api_Pair a0) fun r4 =>
    bnd (slices_Insertapi_Pair_api_Pair r0.1 r4.2.1 (a1 :: [])) fun r5 =>
    some ((), (r5.2.1, ())))) :=
  (callW_eq (P := PP) (T := TT) (pr := RR) 39 [⟨(.list tapiPair), a0⟩, ⟨tapiPair, a1⟩] [] (.own tapiPair 0) [(.row 51 tapiPair false)]).trans (by kernel_rfl)
theorem node_formed.eq (a0 : den tapiNode) : node_formed a0 =
  br (eqI a0.1 (1 : Int))
   (bnd (node_Leaf a0.2.1 a0.2.2.1) fun r0 =>
   some r0)
   (br (eqI a0.1 (6 : Int))
    (bnd (node_Tomb a0.2.1 a0.2.2.1) fun r1 =>
    some r1)
    (br (eqI a0.1 (2 : Int))
     (bnd (node_Branch a0.2.2.2.1 a0.2.2.2.2.1 (maxI a0.2.2.2.2.2.2.2.1 (0 : Int))) fun r2 =>
     some r2)
     (br (eqI a0.1 (3 : Int))
      (bnd (node_Bucket a0.2.2.2.2.2.2.1) fun r3 =>
      some r3)
      (br (eqI a0.1 (4 : Int))
       (br (eqI (ofN (lenL (.int .i64) a0.2.2.2.2.1)) (2 : Int))
        (br (andB (leI (0 : Int) (0 : Int)) (ltI (0 : Int) (ofN (lenL (.int .i64) a0.2.2.2.2.1)))) (br (andB (leI (0 : Int) (1 : Int)) (ltI (1 : Int) (ofN (lenL (.int .i64) a0.2.2.2.2.1)))) (bnd (node_Tree a0.2.1 a0.2.2.1 (ixL (.int .i64) a0.2.2.2.2.1 (0 : Int)) (ixL (.int .i64) a0.2.2.2.2.1 (1 : Int)) (maxI a0.2.2.2.2.2.2.2.1 (1 : Int))) fun r4 =>
        some r4) none) none)
        (some ((0 : Int), (ByteArray.empty, (ByteArray.empty, ((0 : Int), ([], ((0 : Int), ([], ((0 : Int), ((0 : Int), ())))))))))))
       (br (eqI a0.1 (5 : Int))
        (bnd (node_Inner a0.2.2.2.2.2.1) fun r5 =>
        some r5)
        (some ((0 : Int), (ByteArray.empty, (ByteArray.empty, ((0 : Int), ([], ((0 : Int), ([], ((0 : Int), ((0 : Int), ()))))))))))))))) :=
  (callW_eq (P := PP) (T := TT) (pr := RR) 40 [⟨tapiNode, a0⟩] [] tapiNode []).trans (by kernel_rfl)
theorem node_long.eq (a0 : den tapiNode) : node_long a0 =
  bnd (node_long_1 (a0.2.1, (a0.2.2.1, ()))) fun r0 =>
  br r0
   (some true)
   (bnd (slices_ContainsFuncapi_Pair_api_Pair a0.2.2.2.2.2.2.1) fun r1 =>
   some r1) :=
  (callW_eq (P := PP) (T := TT) (pr := RR) 41 [⟨tapiNode, a0⟩] [] .bool []).trans (by kernel_rfl)
theorem node_Same.eq (a0 : den tapiNode) (a1 : den tapiNode) : node_Same a0 a1 =
  br (eqI a0.1 a1.1)
   (br (eqS a0.2.1 a1.2.1)
    (br (eqS a0.2.2.1 a1.2.2.1)
     (node_Same.j0 (eqI a0.2.2.2.1 a1.2.2.2.1) a0 a1)
     (node_Same.j0 false a0 a1))
    (node_Same.j0 false a0 a1))
   (node_Same.j0 false a0 a1) :=
  (callW_eq (P := PP) (T := TT) (pr := RR) 42 [⟨tapiNode, a0⟩, ⟨tapiNode, a1⟩] [] .bool []).trans (by kernel_rfl)
theorem node_Same.j0.eq (x0 : den .bool) (x1 : denO (.box tapiNode)) (x2 : denO (.box tapiNode)) : node_Same.j0 x0 x1 x2 =
  br x0
   (br (eqI x1.2.2.2.2.2.1 x2.2.2.2.2.2.1)
    (br (eqI x1.2.2.2.2.2.2.2.1 x2.2.2.2.2.2.2.2.1)
     (br (eqI x1.2.2.2.2.2.2.2.2.1 x2.2.2.2.2.2.2.2.2.1)
      (bnd (slices_Equalapi_Ref_api_Ref x1.2.2.2.2.1 x2.2.2.2.2.1) fun r0 =>
      br r0
       (bnd (slices_Equalapi_Pair_api_Pair x1.2.2.2.2.2.2.1 x2.2.2.2.2.2.2.1) fun r1 =>
       some r1)
       (some false))
      (some false))
     (some false))
    (some false))
   (some false) :=
  (congrFun (congrFun (jnO_eq [1, 1] (BF (R := den .bool) 42 0 [1, 1])) ⟨[(2, ⟨(.ptr 0 0), ()⟩), (3, ⟨(.ptr 1 0), ()⟩), (5, ⟨.bool, x0⟩)], [⟨(.box tapiNode), x1⟩, ⟨(.box tapiNode), x2⟩]⟩) (finF 42 .bool [] 0)).trans (by kernel_rfl)
theorem node_whole.eq (a0 : den tapiNode) : node_whole a0 =
  br (eqI a0.1 (2 : Int))
   (bnd (mask_Count a0.2.2.2.1) fun r0 =>
   br (eqI (ofN (lenL (.int .i64) a0.2.2.2.2.1)) r0)
    (bnd (slices_Containsapi_Ref_api_Ref a0.2.2.2.2.1 (0 : Int)) fun r1 =>
    some (notB r1))
    (some false))
   (br (eqI a0.1 (3 : Int))
    (br (leI (2 : Int) (ofN (lenL tapiPair a0.2.2.2.2.2.2.1)))
     (bnd (pair_Is a0.2.2.2.2.2.2.1) fun r2 =>
     some r2)
     (some false))
    (br (eqI a0.1 (5 : Int))
     (some (notB (eqI a0.2.2.2.2.2.1 (0 : Int))))
     (some true))) :=
  (callW_eq (P := PP) (T := TT) (pr := RR) 43 [⟨tapiNode, a0⟩] [] .bool []).trans (by kernel_rfl)
theorem trie_maker_add.eq (a0 : den tapiNode) (a1 : denO (.box (.pair (.int .i64) (.pair (.own tapiNode 1) .unit)))) (a2 : denO (.row 41 tapiNode true)) : trie_maker_add a0 a1 a2 =
  br (fitL tapiNode (appL tapiNode a2 (a0 :: []))) (some ((ofN (lenL tapiNode (appL tapiNode a2 (a0 :: [])))), ((a1.1, ((), ())), ((appL tapiNode a2 (a0 :: [])), ())))) none :=
  (callW_eq (P := PP) (T := TT) (pr := RR) 44 [⟨(.ptr 0 0), ()⟩, ⟨tapiNode, a0⟩] [⟨(.box (.pair (.int .i64) (.pair (.own tapiNode 1) .unit))), a1⟩, ⟨(.row 41 tapiNode true), a2⟩] (.int .i64) [(.box (.pair (.int .i64) (.pair (.own tapiNode 1) .unit))), (.row 41 tapiNode false)]).trans (by kernel_rfl)
theorem node_Bucket.eq (a0 : den (.list tapiPair)) : node_Bucket a0 =
  bnd (pair_Make a0) fun r0 =>
  some ((3 : Int), (ByteArray.empty, (ByteArray.empty, ((0 : Int), ([], ((0 : Int), (r0, ((ofN (lenL tapiPair r0)), ((0 : Int), ()))))))))) :=
  (callW_eq (P := PP) (T := TT) (pr := RR) 45 [⟨(.list tapiPair), a0⟩] [] tapiNode []).trans (by kernel_rfl)
theorem trie_maker_parted.eq (a0 : den (.list tapiPair)) (a1 : den (.int .i64)) (a2 : denO (.box (.pair (.int .i64) (.pair (.own tapiNode 1) .unit)))) (a3 : denO (.row 41 tapiNode true)) : trie_maker_parted a0 a1 a2 a3 =
  br (fitL tapiPair a0) (bnd (trie_maker_parted.go a1 a2.1 a0 (fun _ => []) 0) fun q => some ((q.1, (q.2, ())), (a2, (a3, ())))) none :=
  (callW_eq (P := PP) (T := TT) (pr := RR) 46 [⟨(.ptr 0 0), ()⟩, ⟨(.list tapiPair), a0⟩, ⟨(.int .i64), a1⟩] [⟨(.box (.pair (.int .i64) (.pair (.own tapiNode 1) .unit))), a2⟩, ⟨(.row 41 tapiNode true), a3⟩] (.tcons (.mp tapiPair) (.tcons (.int .u32) .tnil)) [(.box (.pair (.int .i64) (.pair (.own tapiNode 1) .unit))), (.row 41 tapiNode true)]).trans (by kernel_rfl)
theorem trie_maker_parted.fin (level bits : Int) (m : den (.mp tapiPair)) (s : Int) : trie_maker_parted.go level bits [] m s = some (m, s) := rfl
theorem trie_maker_parted.step (level bits : Int) (p : den tapiPair) (l : List (den tapiPair)) (m : den (.mp tapiPair)) (s : Int) : trie_maker_parted.go level bits (p :: l) m s = bnd (hash_Of p.1 bits) fun h => bnd (hash_Chunk h level bits) fun i => bnd (mask_With s i) fun s' => trie_maker_parted.go level bits l (putM tapiPair m i p) s' := rfl
theorem mask_All.eq (a0 : den (.int .u32)) : mask_All a0 =
  mask_All.l0 a0 (-1 : Int) [] :=
  (callW_eq (P := PP) (T := TT) (pr := RR) 47 [⟨(.int .u32), a0⟩] [] (.list (.int .i64)) []).trans (by kernel_rfl)
theorem mask_All.l0.eq (x0 : den (.int .u32)) (x1 : den (.int .i64)) (x2 : denO (.row 3 (.int .i64) false)) : mask_All.l0 x0 x1 x2 =
  bnd (mask_Next x0 x1) fun r0 =>
  br (notB r0.2.1)
   (some x2)
   (br (fitL (.int .i64) (appL (.int .i64) x2 (r0.1 :: []))) (mask_All.l0 x0 r0.1 (appL (.int .i64) x2 (r0.1 :: []))) none) :=
  (loopB_eq (P := PP) (T := TT) (C := CF) [1, 0, 1, 1, 1, 0, 0, 0] [1, 0, 1, 1, 1, 0, 0, 0] 47 0 ⟨[(0, ⟨(.int .u32), x0⟩), (3, ⟨(.own (.int .i64) 0), ()⟩), (4, ⟨(.int .i64), x1⟩)], [⟨(.row 3 (.int .i64) false), x2⟩]⟩ (blockK 0 (seqK false [1, 0, 1, 1, 1, 1] (BF 47 0 [1, 0, 1, 1, 1, 1]) (finF 47 (.list (.int .i64)) [] 0)))).trans (by kernel_rfl)
theorem node_Branch.eq (a0 : den (.int .u32)) (a1 : den (.list (.int .i64))) (a2 : den (.int .i64)) : node_Branch a0 a1 a2 =
  bnd (slices_Cloneapi_Ref_api_Ref a1) fun r0 =>
  some ((2 : Int), (ByteArray.empty, (ByteArray.empty, (a0, (r0.2.1, ((0 : Int), ([], (a2, ((0 : Int), ()))))))))) :=
  (callW_eq (P := PP) (T := TT) (pr := RR) 48 [⟨(.int .u32), a0⟩, ⟨(.list (.int .i64)), a1⟩, ⟨(.int .i64), a2⟩] [] tapiNode []).trans (by kernel_rfl)
theorem hash_within.eq (a0 : den (.int .i64)) : hash_within a0 =
  some (minI (maxI a0 (0 : Int)) (64 : Int)) :=
  (callW_eq (P := PP) (T := TT) (pr := RR) 49 [⟨(.int .i64), a0⟩] [] (.int .i64) []).trans (by kernel_rfl)
theorem heap_May.eq (a0 : den (.list tapiNode)) : heap_May a0 =
  heap_May.l0 a0 (ofN (lenL tapiNode a0)) (0 : Int) :=
  (callW_eq (P := PP) (T := TT) (pr := RR) 50 [⟨(.list tapiNode), a0⟩] [] (.int .i64) []).trans (by kernel_rfl)
theorem heap_May.l0.eq (x0 : den (.list tapiNode)) (x1 : den (.int .i64)) (x2 : den (.int .i64)) : heap_May.l0 x0 x1 x2 =
  br (ltI x2 x1)
   (br (andB (leI (0 : Int) x2) (ltI x2 (ofN (lenL tapiNode x0)))) (bnd (node_May (ixL tapiNode x0 x2)) fun r0 =>
   br (notB (eqI r0 (0 : Int)))
    (some (4 : Int))
    (bnd (node_Refs (ixL tapiNode x0 x2)) fun r1 =>
    heap_May.l1 x2 x0 x1 x2 r1 (ofN (lenL (.int .i64) r1)) (0 : Int))) none)
   (some (0 : Int)) :=
  (loopB_eq (P := PP) (T := TT) (C := CF) [1, 0, 1, 0, 0] [1, 0, 1, 0, 0] 50 0 ⟨[(7, ⟨(.list tapiNode), x0⟩), (8, ⟨(.int .i64), x1⟩), (9, ⟨(.int .i64), x2⟩)], []⟩ (blockK 0 (seqK false [1, 1] (BF 50 0 [1, 1]) (finF 50 (.int .i64) [] 0)))).trans (by kernel_rfl)
theorem heap_May.l1.eq (x0 : den (.int .i64)) (x1 : den (.list tapiNode)) (x2 : den (.int .i64)) (x3 : den (.int .i64)) (x4 : den (.list (.int .i64))) (x5 : den (.int .i64)) (x6 : den (.int .i64)) : heap_May.l1 x0 x1 x2 x3 x4 x5 x6 =
  br (ltI x6 x5)
   (br (andB (leI (0 : Int) x6) (ltI x6 (ofN (lenL (.int .i64) x4)))) (br (ltI (ixL (.int .i64) x4 x6) (1 : Int))
    (some (4 : Int))
    (br (ltI x0 (ixL (.int .i64) x4 x6))
     (some (4 : Int))
     (heap_May.l1 x0 x1 x2 x3 x4 x5 (addI .i64 x6 (1 : Int))))) none)
   (heap_May.l0 x1 x2 (addI .i64 x3 (1 : Int))) :=
  (loopB_eq (P := PP) (T := TT) (C := CF) [1, 0, 1, 0, 0, 1, 1, 0, 0, 1, 1, 1, 0, 0] [1, 0, 1, 0, 0, 1, 1, 0, 0, 1, 1, 1, 0, 0] 50 0 ⟨[(3, ⟨(.int .i64), x0⟩), (7, ⟨(.list tapiNode), x1⟩), (8, ⟨(.int .i64), x2⟩), (9, ⟨(.int .i64), x3⟩), (18, ⟨(.list (.int .i64)), x4⟩), (19, ⟨(.int .i64), x5⟩), (20, ⟨(.int .i64), x6⟩)], []⟩ (blockK 2 (blockK 1 (seqK false [1, 0, 1, 0, 0, 1, 1, 1] (BF 50 0 [1, 0, 1, 0, 0, 1, 1, 1]) (againK [1, 0, 1, 0, 0] (loopW [1, 0, 1, 0, 0] (BF 50 0 [1, 0, 1, 0, 0])) (blockK 0 (seqK false [1, 1] (BF 50 0 [1, 1]) (finF 50 (.int .i64) [] 0)))))))).trans (by kernel_rfl)
theorem node_Binds.eq (a0 : den tapiNode) : node_Binds a0 =
  br (eqI a0.1 (1 : Int))
   (some ((), (((a0.2.1, (a0.2.2.1, ())) :: []), ())))
   (br (eqI a0.1 (6 : Int))
    (some ((), (((a0.2.1, (a0.2.2.1, ())) :: []), ())))
    (br (eqI a0.1 (4 : Int))
     (some ((), (((a0.2.1, (a0.2.2.1, ())) :: []), ())))
     (br (eqI a0.1 (3 : Int))
      (bnd (slices_Cloneapi_Pair_api_Pair a0.2.2.2.2.2.2.1) fun r0 =>
      some ((), (r0.2.1, ())))
      (some ((), ([], ())))))) :=
  (callW_eq (P := PP) (T := TT) (pr := RR) 51 [⟨tapiNode, a0⟩] [] (.own tapiPair 0) [(.row 51 tapiPair false)]).trans (by kernel_rfl)
theorem node_Refs.eq (a0 : den tapiNode) : node_Refs a0 =
  both
   (bnd (slices_Cloneapi_Ref_api_Ref a0.2.2.2.2.1) fun r0 =>
   br (fitL (.int .i64) (appL (.int .i64) r0.2.1 (a0.2.2.2.2.2.1 :: []))) (node_Refs.l0 (ofN (lenL (.int .i64) (appL (.int .i64) r0.2.1 (a0.2.2.2.2.2.1 :: [])))) (0 : Int) [] (appL (.int .i64) r0.2.1 (a0.2.2.2.2.2.1 :: []))) none)
   (bnd (slices_Cloneapi_Ref_api_Ref a0.2.2.2.2.1) fun r1 =>
   br (fitL (.int .i64) (appL (.int .i64) r1.2.1 (a0.2.2.2.2.2.1 :: []))) (node_Refs.l0 (ofN (lenL (.int .i64) (appL (.int .i64) r1.2.1 (a0.2.2.2.2.2.1 :: [])))) (0 : Int) [] (appL (.int .i64) r1.2.1 (a0.2.2.2.2.2.1 :: []))) none) :=
  (callW_eq (P := PP) (T := TT) (pr := RR) 52 [⟨tapiNode, a0⟩] [] (.list (.int .i64)) []).trans (by kernel_rfl)
theorem node_Refs.l0.eq (x0 : den (.int .i64)) (x1 : den (.int .i64)) (x2 : denO (.row 25 (.int .i64) false)) (x3 : denO (.row 25 (.int .i64) false)) : node_Refs.l0 x0 x1 x2 x3 =
  br (ltI x1 x0)
   (br (andB (leI (0 : Int) x1) (ltI x1 (ofN (lenL (.int .i64) x3)))) (br (notB (eqI (ixL (.int .i64) x3 x1) (0 : Int)))
    (br (fitL (.int .i64) (appL (.int .i64) x2 ((ixL (.int .i64) x3 x1) :: []))) (node_Refs.l0 x0 (addI .i64 x1 (1 : Int)) (appL (.int .i64) x2 ((ixL (.int .i64) x3 x1) :: [])) x3) none)
    (node_Refs.l0 x0 (addI .i64 x1 (1 : Int)) x2 x3)) none)
   (some x2) :=
  (loopB_eq (P := PP) (T := TT) (C := CF) [1, 1, 0, 1, 0, 0] [1, 1, 0, 1, 0, 0] 52 0 ⟨[(3, ⟨(.own (.int .i64) 0), ()⟩), (12, ⟨(.own (.int .i64) 1), ()⟩), (13, ⟨(.int .i64), x0⟩), (14, ⟨(.int .i64), x1⟩)], [⟨(.row 25 (.int .i64) false), x2⟩, ⟨(.row 25 (.int .i64) false), x3⟩]⟩ (blockK 0 (seqK false [1, 1, 1] (BF 52 0 [1, 1, 1]) (finF 52 (.list (.int .i64)) [] 0)))).trans (by kernel_rfl)
theorem heap_bare.eq (a0 : den tapiNode) : heap_bare a0 =
  bnd (node_Copy a0) fun r0 =>
  heap_bare.l0 (ofN (lenL (.int .i64) r0.2.1)) (0 : Int) r0.1 ((0 : Int), (ByteArray.empty, (ByteArray.empty, ((0 : Int), ((), ((0 : Int), ((), ((0 : Int), ((0 : Int), ()))))))))) r0.2.1 r0.2.2.1 [] [] :=
  (callW_eq (P := PP) (T := TT) (pr := RR) 53 [⟨tapiNode, a0⟩] [] tapiNode []).trans (by kernel_rfl)
theorem heap_bare.l0.eq (x0 : den (.int .i64)) (x1 : den (.int .i64)) (x2 : denO (.box (.pair (.int .i64) (.pair .str (.pair .str (.pair (.int .u32) (.pair (.own (.int .i64) 2) (.pair (.int .i64) (.pair (.own tapiPair 3) (.pair (.int .i64) (.pair (.int .i64) .unit))))))))))) (x3 : denO (.box (.pair (.int .i64) (.pair .str (.pair .str (.pair (.int .u32) (.pair (.own (.int .i64) 4) (.pair (.int .i64) (.pair (.own tapiPair 5) (.pair (.int .i64) (.pair (.int .i64) .unit))))))))))) (x4 : denO (.row 25 (.int .i64) false)) (x5 : denO (.row 51 tapiPair false)) (x6 : denO (.row 25 (.int .i64) false)) (x7 : denO (.row 51 tapiPair false)) : heap_bare.l0 x0 x1 x2 x3 x4 x5 x6 x7 =
  br (ltI x1 x0)
   (br (andB (leI (0 : Int) x1) (ltI x1 (ofN (lenL (.int .i64) x4)))) (br (andB (leI (0 : Int) x1) (ltI x1 (ofN (lenL (.int .i64) x4)))) (heap_bare.l0 x0 (addI .i64 x1 (1 : Int)) x2 x3 (setL (.int .i64) x4 x1 (minI (ixL (.int .i64) x4 x1) (1 : Int))) x5 x6 x7) none) none)
   (some (x2.1, (x2.2.1, (x2.2.2.1, (x2.2.2.2.1, (x4, ((minI x2.2.2.2.2.2.1 (1 : Int)), (x5, (x2.2.2.2.2.2.2.2.1, ((0 : Int), ())))))))))) :=
  (loopB_eq (P := PP) (T := TT) (C := CF) [1, 1, 0, 1, 0, 0] [1, 1, 0, 1, 0, 0] 53 0 ⟨[(1, ⟨(.ptr 0 0), ()⟩), (2, ⟨(.ptr 1 0), ()⟩), (8, ⟨(.int .i64), x0⟩), (9, ⟨(.int .i64), x1⟩)], [⟨(.box (.pair (.int .i64) (.pair .str (.pair .str (.pair (.int .u32) (.pair (.own (.int .i64) 2) (.pair (.int .i64) (.pair (.own tapiPair 3) (.pair (.int .i64) (.pair (.int .i64) .unit)))))))))), x2⟩, ⟨(.box (.pair (.int .i64) (.pair .str (.pair .str (.pair (.int .u32) (.pair (.own (.int .i64) 4) (.pair (.int .i64) (.pair (.own tapiPair 5) (.pair (.int .i64) (.pair (.int .i64) .unit)))))))))), x3⟩, ⟨(.row 25 (.int .i64) false), x4⟩, ⟨(.row 51 tapiPair false), x5⟩, ⟨(.row 25 (.int .i64) false), x6⟩, ⟨(.row 51 tapiPair false), x7⟩]⟩ (blockK 0 (seqK false [1, 1, 1] (BF 53 0 [1, 1, 1]) (finF 53 tapiNode [] 0)))).trans (by kernel_rfl)
theorem ref13_May.eq (a0 : den tapiNode) : ref13_May a0 =
  br (ltI a0.1 (1 : Int))
   (some (11 : Int))
   (br (ltI (6 : Int) a0.1)
    (some (11 : Int))
    (bnd (ref13_long a0) fun r0 =>
    br r0
     (some (6 : Int))
     (bnd (ref13_form a0) fun r1 =>
     br (notB r1)
      (some (4 : Int))
      (some (0 : Int))))) :=
  (callW_eq (P := PP) (T := TT) (pr := RR) 54 [⟨tapiNode, a0⟩] [] (.int .i64) []).trans (by kernel_rfl)
theorem ref20_chunk.eq (a0 : den .str) (a1 : den (.int .i64)) (a2 : den (.int .i64)) : ref20_chunk a0 a1 a2 =
  bnd (ref04_Of a0 a2) fun r0 =>
  bnd (ref04_Chunk r0 a1 a2) fun r1 =>
  some r1 :=
  (callW_eq (P := PP) (T := TT) (pr := RR) 55 [⟨.str, a0⟩, ⟨(.int .i64), a1⟩, ⟨(.int .i64), a2⟩] [] (.int .i64) []).trans (by kernel_rfl)
theorem ref13_Same.eq (a0 : den tapiNode) (a1 : den tapiNode) : ref13_Same a0 a1 =
  br (notB (eqI a0.1 a1.1))
   (some false)
   (br (notB (eqS a0.2.1 a1.2.1))
    (some false)
    (br (notB (eqS a0.2.2.1 a1.2.2.1))
     (some false)
     (br (notB (eqI a0.2.2.2.1 a1.2.2.2.1))
      (some false)
      (br (notB (eqI a0.2.2.2.2.2.1 a1.2.2.2.2.2.1))
       (some false)
       (br (notB (eqI a0.2.2.2.2.2.2.2.1 a1.2.2.2.2.2.2.2.1))
        (some false)
        (br (notB (eqI a0.2.2.2.2.2.2.2.2.1 a1.2.2.2.2.2.2.2.2.1))
         (some false)
         (bnd (ref13_SameRefs a0.2.2.2.2.1 a1.2.2.2.2.1) fun r0 =>
         br r0
          (bnd (ref07_Same a0.2.2.2.2.2.2.1 a1.2.2.2.2.2.2.1) fun r1 =>
          some r1)
          (some false)))))))) :=
  (callW_eq (P := PP) (T := TT) (pr := RR) 56 [⟨tapiNode, a0⟩, ⟨tapiNode, a1⟩] [] .bool []).trans (by kernel_rfl)
theorem pair_place.eq (a0 : den (.list tapiPair)) (a1 : den .str) : pair_place a0 a1 =
  bnd (slices_BinarySearchFuncapi_Pair_api_Pair_string a0 a1) fun r0 =>
  some r0 :=
  (callW_eq (P := PP) (T := TT) (pr := RR) 57 [⟨(.list tapiPair), a0⟩, ⟨.str, a1⟩] [] (.tcons (.int .i64) (.tcons .bool .tnil)) []).trans (by kernel_rfl)
theorem slices_Cloneapi_Pair_api_Pair.eq (a0 : den (.list tapiPair)) : slices_Cloneapi_Pair_api_Pair a0 =
  br (eqI (ofN (lenL tapiPair a0)) (0 : Int))
   (both
    (some ((), ([], ())))
    (br (fitL tapiPair (appL tapiPair [] a0)) (some ((), ((appL tapiPair [] a0), ()))) none))
   (br (fitL tapiPair (appL tapiPair [] a0)) (some ((), ((appL tapiPair [] a0), ()))) none) :=
  (callW_eq (P := PP) (T := TT) (pr := RR) 58 [⟨(.list tapiPair), a0⟩] [] (.own tapiPair 0) [(.row 51 tapiPair false)]).trans (by kernel_rfl)
theorem slices_Insertapi_Pair_api_Pair.eq (a0 : den (.int .i64)) (a1 : denO (.row 51 tapiPair true)) (a2 : denO (.row 51 tapiPair true)) : slices_Insertapi_Pair_api_Pair a0 a1 a2 =
  br (insG tapiPair a1 a0 a2) (some ((), ((insL tapiPair a1 a0 a2), (a2, ())))) none :=
  (callW_eq (P := PP) (T := TT) (pr := RR) 59 [⟨(.own tapiPair 0), ()⟩, ⟨(.int .i64), a0⟩, ⟨(.own tapiPair 1), ()⟩] [⟨(.row 51 tapiPair true), a1⟩, ⟨(.row 51 tapiPair true), a2⟩] (.own tapiPair 0) [(.row 51 tapiPair false), (.row 51 tapiPair true)]).trans (by kernel_rfl)
theorem node_Tomb.eq (a0 : den .str) (a1 : den .str) : node_Tomb a0 a1 =
  some ((6 : Int), (a0, (a1, ((0 : Int), ([], ((0 : Int), ([], ((1 : Int), ((0 : Int), ()))))))))) :=
  (callW_eq (P := PP) (T := TT) (pr := RR) 60 [⟨.str, a0⟩, ⟨.str, a1⟩] [] tapiNode []).trans (by kernel_rfl)
theorem node_Tree.eq (a0 : den .str) (a1 : den .str) (a2 : den (.int .i64)) (a3 : den (.int .i64)) (a4 : den (.int .i64)) : node_Tree a0 a1 a2 a3 a4 =
  some ((4 : Int), (a0, (a1, ((0 : Int), ((a2 :: (a3 :: [])), ((0 : Int), ([], (a4, ((0 : Int), ()))))))))) :=
  (callW_eq (P := PP) (T := TT) (pr := RR) 61 [⟨.str, a0⟩, ⟨.str, a1⟩, ⟨(.int .i64), a2⟩, ⟨(.int .i64), a3⟩, ⟨(.int .i64), a4⟩] [] tapiNode []).trans (by kernel_rfl)
theorem node_Inner.eq (a0 : den (.int .i64)) : node_Inner a0 =
  some ((5 : Int), (ByteArray.empty, (ByteArray.empty, ((0 : Int), ([], (a0, ([], ((0 : Int), ((0 : Int), ()))))))))) :=
  (callW_eq (P := PP) (T := TT) (pr := RR) 62 [⟨(.int .i64), a0⟩] [] tapiNode []).trans (by kernel_rfl)
theorem node_long_1.eq (a0 : den tapiPair) : node_long_1 a0 =
  br (ltI (16 : Int) (ofN (lenS a0.1)))
   (some true)
   (some (ltI (16 : Int) (ofN (lenS a0.2.1)))) :=
  (callW_eq (P := PP) (T := TT) (pr := RR) 63 [⟨tapiPair, a0⟩] [] .bool []).trans (by kernel_rfl)
theorem slices_ContainsFuncapi_Pair_api_Pair.eq (a0 : den (.list tapiPair)) : slices_ContainsFuncapi_Pair_api_Pair a0 =
  bnd (slices_IndexFuncapi_Pair_api_Pair a0) fun r0 =>
  some (leI (0 : Int) r0) :=
  (callW_eq (P := PP) (T := TT) (pr := RR) 64 [⟨(.list tapiPair), a0⟩, ⟨(.fn 63 .tnil), ()⟩] [] .bool []).trans (by kernel_rfl)
theorem slices_Equalapi_Ref_api_Ref.eq (a0 : den (.list (.int .i64))) (a1 : den (.list (.int .i64))) : slices_Equalapi_Ref_api_Ref a0 a1 =
  br (notB (eqI (ofN (lenL (.int .i64) a0)) (ofN (lenL (.int .i64) a1))))
   (some false)
   (slices_Equalapi_Ref_api_Ref.l0 a0 a1 (ofN (lenL (.int .i64) a0)) (0 : Int)) :=
  (callW_eq (P := PP) (T := TT) (pr := RR) 65 [⟨(.list (.int .i64)), a0⟩, ⟨(.list (.int .i64)), a1⟩] [] .bool []).trans (by kernel_rfl)
theorem slices_Equalapi_Ref_api_Ref.l0.eq (x0 : den (.list (.int .i64))) (x1 : den (.list (.int .i64))) (x2 : den (.int .i64)) (x3 : den (.int .i64)) : slices_Equalapi_Ref_api_Ref.l0 x0 x1 x2 x3 =
  br (ltI x3 x2)
   (br (andB (leI (0 : Int) x3) (ltI x3 (ofN (lenL (.int .i64) x0)))) (br (andB (leI (0 : Int) x3) (ltI x3 (ofN (lenL (.int .i64) x1)))) (br (notB (eqI (ixL (.int .i64) x0 x3) (ixL (.int .i64) x1 x3)))
    (some false)
    (slices_Equalapi_Ref_api_Ref.l0 x0 x1 x2 (addI .i64 x3 (1 : Int)))) none) none)
   (some true) :=
  (loopB_eq (P := PP) (T := TT) (C := CF) [1, 1, 0, 1, 0, 0] [1, 1, 0, 1, 0, 0] 65 0 ⟨[(0, ⟨(.list (.int .i64)), x0⟩), (1, ⟨(.list (.int .i64)), x1⟩), (12, ⟨(.int .i64), x2⟩), (13, ⟨(.int .i64), x3⟩)], []⟩ (blockK 0 (seqK false [1, 1, 1] (BF 65 0 [1, 1, 1]) (finF 65 .bool [] 0)))).trans (by kernel_rfl)
theorem slices_Equalapi_Pair_api_Pair.eq (a0 : den (.list tapiPair)) (a1 : den (.list tapiPair)) : slices_Equalapi_Pair_api_Pair a0 a1 =
  br (notB (eqI (ofN (lenL tapiPair a0)) (ofN (lenL tapiPair a1))))
   (some false)
   (slices_Equalapi_Pair_api_Pair.l0 a0 a1 (ofN (lenL tapiPair a0)) (0 : Int)) :=
  (callW_eq (P := PP) (T := TT) (pr := RR) 66 [⟨(.list tapiPair), a0⟩, ⟨(.list tapiPair), a1⟩] [] .bool []).trans (by kernel_rfl)
theorem slices_Equalapi_Pair_api_Pair.l0.eq (x0 : den (.list tapiPair)) (x1 : den (.list tapiPair)) (x2 : den (.int .i64)) (x3 : den (.int .i64)) : slices_Equalapi_Pair_api_Pair.l0 x0 x1 x2 x3 =
  br (ltI x3 x2)
   (br (andB (leI (0 : Int) x3) (ltI x3 (ofN (lenL tapiPair x0)))) (br (andB (leI (0 : Int) x3) (ltI x3 (ofN (lenL tapiPair x1)))) (br (notB (andB (eqS (ixL tapiPair x0 x3).1 (ixL tapiPair x1 x3).1) (andB (eqS (ixL tapiPair x0 x3).2.1 (ixL tapiPair x1 x3).2.1) true)))
    (some false)
    (slices_Equalapi_Pair_api_Pair.l0 x0 x1 x2 (addI .i64 x3 (1 : Int)))) none) none)
   (some true) :=
  (loopB_eq (P := PP) (T := TT) (C := CF) [1, 1, 0, 1, 0, 0] [1, 1, 0, 1, 0, 0] 66 0 ⟨[(0, ⟨(.list tapiPair), x0⟩), (1, ⟨(.list tapiPair), x1⟩), (12, ⟨(.int .i64), x2⟩), (13, ⟨(.int .i64), x3⟩)], []⟩ (blockK 0 (seqK false [1, 1, 1] (BF 66 0 [1, 1, 1]) (finF 66 .bool [] 0)))).trans (by kernel_rfl)
theorem mask_Count.eq (a0 : den (.int .u32)) : mask_Count a0 =
  bnd (math_bits_OnesCount32 a0) fun r0 =>
  some r0 :=
  (callW_eq (P := PP) (T := TT) (pr := RR) 67 [⟨(.int .u32), a0⟩] [] (.int .i64) []).trans (by kernel_rfl)
theorem slices_Containsapi_Ref_api_Ref.eq (a0 : den (.list (.int .i64))) (a1 : den (.int .i64)) : slices_Containsapi_Ref_api_Ref a0 a1 =
  bnd (slices_Indexapi_Ref_api_Ref a0 a1) fun r0 =>
  some (leI (0 : Int) r0) :=
  (callW_eq (P := PP) (T := TT) (pr := RR) 68 [⟨(.list (.int .i64)), a0⟩, ⟨(.int .i64), a1⟩] [] .bool []).trans (by kernel_rfl)
theorem pair_Is.eq (a0 : den (.list tapiPair)) : pair_Is a0 =
  pair_Is.l0 a0 (ofN (lenL tapiPair a0)) (0 : Int) :=
  (callW_eq (P := PP) (T := TT) (pr := RR) 69 [⟨(.list tapiPair), a0⟩] [] .bool []).trans (by kernel_rfl)
theorem pair_Is.l0.eq (x0 : den (.list tapiPair)) (x1 : den (.int .i64)) (x2 : den (.int .i64)) : pair_Is.l0 x0 x1 x2 =
  br (ltI x2 x1)
   (br (ltI (0 : Int) x2)
    (br (andB (leI (0 : Int) (subI .i64 x2 (1 : Int))) (ltI (subI .i64 x2 (1 : Int)) (ofN (lenL tapiPair x0)))) (br (andB (leI (0 : Int) x2) (ltI x2 (ofN (lenL tapiPair x0)))) (bnd (order_Compare (ixL tapiPair x0 (subI .i64 x2 (1 : Int))).1 (ixL tapiPair x0 x2).1) fun r0 =>
    br (leI (0 : Int) r0)
     (some false)
     (pair_Is.l0 x0 x1 (addI .i64 x2 (1 : Int)))) none) none)
    (pair_Is.l0 x0 x1 (addI .i64 x2 (1 : Int))))
   (some true) :=
  (loopB_eq (P := PP) (T := TT) (C := CF) [1, 0, 1, 0, 0] [1, 0, 1, 0, 0] 69 0 ⟨[(0, ⟨(.list tapiPair), x0⟩), (5, ⟨(.int .i64), x1⟩), (6, ⟨(.int .i64), x2⟩)], []⟩ (blockK 0 (seqK false [1, 1] (BF 69 0 [1, 1]) (finF 69 .bool [] 0)))).trans (by kernel_rfl)
theorem hash_Of.eq (a0 : den .str) (a1 : den (.int .i64)) : hash_Of a0 a1 =
  hash_Of.l0 a0 a1 (14695981039346656037 : Int) (ofN (lenS a0)) (0 : Int) :=
  (callW_eq (P := PP) (T := TT) (pr := RR) 71 [⟨.str, a0⟩, ⟨(.int .i64), a1⟩] [] (.int .u64) []).trans (by kernel_rfl)
theorem hash_Of.l0.eq (x0 : den .str) (x1 : den (.int .i64)) (x2 : den (.int .u64)) (x3 : den (.int .i64)) (x4 : den (.int .i64)) : hash_Of.l0 x0 x1 x2 x3 x4 =
  br (ltI x4 x3)
   (br (andB (leI (0 : Int) x4) (ltI x4 (ofN (lenS x0)))) (hash_Of.l0 x0 x1 (mulI .u64 (xorI .u64 x2 (wrapI .u64 (getS x0 (toN x4)))) (1099511628211 : Int)) x3 (addI .i64 x4 (1 : Int))) none)
   (bnd (hash_cut x2 x1) fun r0 =>
   some r0) :=
  (loopB_eq (P := PP) (T := TT) (C := CF) [1, 1, 0, 1, 0, 0] [1, 1, 0, 1, 0, 0] 71 0 ⟨[(0, ⟨.str, x0⟩), (1, ⟨(.int .i64), x1⟩), (5, ⟨(.int .u64), x2⟩), (8, ⟨(.int .i64), x3⟩), (9, ⟨(.int .i64), x4⟩)], []⟩ (blockK 0 (seqK false [1, 1, 1] (BF 71 0 [1, 1, 1]) (finF 71 (.int .u64) [] 0)))).trans (by kernel_rfl)
theorem hash_Chunk.eq (a0 : den (.int .u64)) (a1 : den (.int .i64)) (a2 : den (.int .i64)) : hash_Chunk a0 a1 a2 =
  br (ltI a1 (0 : Int))
   (some (0 : Int))
   (bnd (hash_Levels a2) fun r0 =>
   br (leI r0 a1)
    (some (0 : Int))
    (bnd (hash_cut a0 a2) fun r1 =>
    br (leI (0 : Int) (mulI .i64 (5 : Int) a1)) (some (wrapI .i64 (andI .u64 (shrI .u64 r1 (mulI .i64 (5 : Int) a1)) (31 : Int)))) none)) :=
  (callW_eq (P := PP) (T := TT) (pr := RR) 70 [⟨(.int .u64), a0⟩, ⟨(.int .i64), a1⟩, ⟨(.int .i64), a2⟩] [] (.int .i64) []).trans (by kernel_rfl)
theorem mask_With.eq (a0 : den (.int .u32)) (a1 : den (.int .i64)) : mask_With a0 a1 =
  bnd (mask_in a1) fun r0 =>
  br (notB r0)
   (some a0)
   (br (leI (0 : Int) a1) (some (orI .u32 a0 (shlI .u32 (1 : Int) a1))) none) :=
  (callW_eq (P := PP) (T := TT) (pr := RR) 72 [⟨(.int .u32), a0⟩, ⟨(.int .i64), a1⟩] [] (.int .u32) []).trans (by kernel_rfl)
theorem mask_Next.eq (a0 : den (.int .u32)) (a1 : den (.int .i64)) : mask_Next a0 a1 =
  br (leI (31 : Int) a1)
   (some ((0 : Int), (false, ())))
   (bnd (mask_below (addI .i64 a1 (1 : Int))) fun r0 =>
   br (eqI (andNotI .u32 a0 r0) (0 : Int))
    (some ((0 : Int), (false, ())))
    (bnd (math_bits_TrailingZeros32 (andNotI .u32 a0 r0)) fun r1 =>
    some (r1, (true, ())))) :=
  (callW_eq (P := PP) (T := TT) (pr := RR) 73 [⟨(.int .u32), a0⟩, ⟨(.int .i64), a1⟩] [] (.tcons (.int .i64) (.tcons .bool .tnil)) []).trans (by kernel_rfl)
theorem slices_Cloneapi_Ref_api_Ref.eq (a0 : den (.list (.int .i64))) : slices_Cloneapi_Ref_api_Ref a0 =
  br (eqI (ofN (lenL (.int .i64) a0)) (0 : Int))
   (both
    (some ((), ([], ())))
    (br (fitL (.int .i64) (appL (.int .i64) [] a0)) (some ((), ((appL (.int .i64) [] a0), ()))) none))
   (br (fitL (.int .i64) (appL (.int .i64) [] a0)) (some ((), ((appL (.int .i64) [] a0), ()))) none) :=
  (callW_eq (P := PP) (T := TT) (pr := RR) 74 [⟨(.list (.int .i64)), a0⟩] [] (.own (.int .i64) 0) [(.row 25 (.int .i64) false)]).trans (by kernel_rfl)
theorem node_Copy.eq (a0 : den tapiNode) : node_Copy a0 =
  bnd (slices_Cloneapi_Ref_api_Ref a0.2.2.2.2.1) fun r0 =>
  bnd (slices_Cloneapi_Pair_api_Pair a0.2.2.2.2.2.2.1) fun r1 =>
  some ((a0.1, (a0.2.1, (a0.2.2.1, (a0.2.2.2.1, ((), (a0.2.2.2.2.2.1, ((), a0.2.2.2.2.2.2.2))))))), (r0.2.1, (r1.2.1, ()))) :=
  (callW_eq (P := PP) (T := TT) (pr := RR) 75 [⟨tapiNode, a0⟩] [] (.pair (.int .i64) (.pair .str (.pair .str (.pair (.int .u32) (.pair (.own (.int .i64) 0) (.pair (.int .i64) (.pair (.own tapiPair 1) (.pair (.int .i64) (.pair (.int .i64) .unit))))))))) [(.row 25 (.int .i64) false), (.row 51 tapiPair false)]).trans (by kernel_rfl)
theorem ref13_long.eq (a0 : den tapiNode) : ref13_long a0 =
  br (ltI (16 : Int) (ofN (lenS a0.2.1)))
   (ref13_long.l0 true (0 : Int) a0)
   (ref13_long.l0 (ltI (16 : Int) (ofN (lenS a0.2.2.1))) (0 : Int) a0) :=
  (callW_eq (P := PP) (T := TT) (pr := RR) 76 [⟨tapiNode, a0⟩] [] .bool []).trans (by kernel_rfl)
theorem ref13_long.l0.eq (x0 : den .bool) (x1 : den (.int .i64)) (x2 : denO (.box tapiNode)) : ref13_long.l0 x0 x1 x2 =
  br (ltI x1 (ofN (lenL tapiPair x2.2.2.2.2.2.2.1)))
   (br x0
    (ref13_long.l0 true (addI .i64 x1 (1 : Int)) x2)
    (br (andB (leI (0 : Int) x1) (ltI x1 (ofN (lenL tapiPair x2.2.2.2.2.2.2.1)))) (br (ltI (16 : Int) (ofN (lenS (ixL tapiPair x2.2.2.2.2.2.2.1 x1).1)))
     (ref13_long.l0 true (addI .i64 x1 (1 : Int)) x2)
     (br (andB (leI (0 : Int) x1) (ltI x1 (ofN (lenL tapiPair x2.2.2.2.2.2.2.1)))) (ref13_long.l0 (ltI (16 : Int) (ofN (lenS (ixL tapiPair x2.2.2.2.2.2.2.1 x1).2.1))) (addI .i64 x1 (1 : Int)) x2) none)) none))
   (some x0) :=
  (loopB_eq (P := PP) (T := TT) (C := CF) [1, 1, 0, 1, 0, 0] [1, 1, 0, 1, 0, 0] 76 0 ⟨[(1, ⟨(.ptr 0 0), ()⟩), (3, ⟨.bool, x0⟩), (4, ⟨(.int .i64), x1⟩)], [⟨(.box tapiNode), x2⟩]⟩ (blockK 0 (seqK false [1, 1, 1] (BF 76 0 [1, 1, 1]) (finF 76 .bool [] 0)))).trans (by kernel_rfl)
theorem ref13_form.eq (a0 : den tapiNode) : ref13_form a0 =
  br (ltI a0.2.2.2.2.2.2.2.2.1 (0 : Int))
   (some false)
   (br (eqI a0.1 (1 : Int))
    (ref13_form.j0 a0.1 true a0)
    (ref13_form.j0 a0.1 (eqI a0.1 (6 : Int)) a0)) :=
  (callW_eq (P := PP) (T := TT) (pr := RR) 77 [⟨tapiNode, a0⟩] [] .bool []).trans (by kernel_rfl)
theorem ref13_form.j0.eq (x0 : den (.int .i64)) (x1 : den .bool) (x2 : denO (.box tapiNode)) : ref13_form.j0 x0 x1 x2 =
  br x1
   (br (eqI x2.2.2.2.2.2.2.2.1 (1 : Int))
    (bnd (ref13_bare x2 false true true true) fun r0 =>
    some r0)
    (some false))
   (br (eqI x0 (2 : Int))
    (ref13_form.l1 (0 : Int) x2)
    (br (eqI x0 (3 : Int))
     (br (leI (2 : Int) (ofN (lenL tapiPair x2.2.2.2.2.2.2.1)))
      (bnd (ref07_Is x2.2.2.2.2.2.2.1) fun r1 =>
      br r1
       (br (eqI x2.2.2.2.2.2.2.2.1 (ofN (lenL tapiPair x2.2.2.2.2.2.2.1)))
        (bnd (ref13_bare x2 true true true false) fun r2 =>
        some r2)
        (some false))
       (some false))
      (some false))
     (br (eqI x0 (4 : Int))
      (br (eqI x2.2.2.2.1 (0 : Int))
       (br (eqI (ofN (lenL (.int .i64) x2.2.2.2.2.1)) (2 : Int))
        (br (leI (1 : Int) x2.2.2.2.2.2.2.2.1)
         (bnd (ref13_bare x2 false false true true) fun r3 =>
         some r3)
         (some false))
        (some false))
       (some false))
      (br (notB (eqI x2.2.2.2.2.2.1 (0 : Int)))
       (br (eqI x2.2.2.2.2.2.2.2.1 (0 : Int))
        (bnd (ref13_bare x2 true true false true) fun r4 =>
        some r4)
        (some false))
       (some false))))) :=
  (congrFun (congrFun (jnO_eq [1, 1, 0, 1, 0, 1] (BF (R := den .bool) 77 0 [1, 1, 0, 1, 0, 1])) ⟨[(1, ⟨(.ptr 0 0), ()⟩), (8, ⟨(.int .i64), x0⟩), (9, ⟨.bool, x1⟩)], [⟨(.box tapiNode), x2⟩]⟩) (blockK 0 (seqK false [1, 1, 1] (BF 77 0 [1, 1, 1]) (finF 77 .bool [] 0)))).trans (by kernel_rfl)
theorem ref13_form.l1.eq (x0 : den (.int .i64)) (x1 : denO (.box tapiNode)) : ref13_form.l1 x0 x1 =
  br (ltI x0 (ofN (lenL (.int .i64) x1.2.2.2.2.1)))
   (br (andB (leI (0 : Int) x0) (ltI x0 (ofN (lenL (.int .i64) x1.2.2.2.2.1)))) (br (eqI (ixL (.int .i64) x1.2.2.2.2.1 x0) (0 : Int))
    (some false)
    (ref13_form.l1 (addI .i64 x0 (1 : Int)) x1)) none)
   (bnd (ref06_All x1.2.2.2.1) fun r0 =>
   br (eqI (ofN (lenL (.int .i64) x1.2.2.2.2.1)) (ofN (lenL (.int .i64) r0)))
    (br (leI (0 : Int) x1.2.2.2.2.2.2.2.1)
     (bnd (ref13_bare x1 true false true true) fun r1 =>
     some r1)
     (some false))
    (some false)) :=
  (loopB_eq (P := PP) (T := TT) (C := CF) [1, 1, 0, 1, 0, 1, 1, 1, 0, 0, 1, 0, 0] [1, 1, 0, 1, 0, 1, 1, 1, 0, 0, 1, 0, 0] 77 0 ⟨[(1, ⟨(.ptr 0 0), ()⟩), (3, ⟨(.int .i64), x0⟩)], [⟨(.box tapiNode), x1⟩]⟩ (blockK 1 (seqK false [1, 1, 0, 1, 0, 1, 1, 1, 0, 1] (BF 77 0 [1, 1, 0, 1, 0, 1, 1, 1, 0, 1]) (blockK 0 (seqK false [1, 1, 1] (BF 77 0 [1, 1, 1]) (finF 77 .bool [] 0)))))).trans (by kernel_rfl)
theorem ref04_Of.eq (a0 : den .str) (a1 : den (.int .i64)) : ref04_Of a0 a1 =
  ref04_Of.l0 a0 a1 (14695981039346656037 : Int) (0 : Int) :=
  (callW_eq (P := PP) (T := TT) (pr := RR) 79 [⟨.str, a0⟩, ⟨(.int .i64), a1⟩] [] (.int .u64) []).trans (by kernel_rfl)
theorem ref04_Of.l0.eq (x0 : den .str) (x1 : den (.int .i64)) (x2 : den (.int .u64)) (x3 : den (.int .i64)) : ref04_Of.l0 x0 x1 x2 x3 =
  br (ltI x3 (ofN (lenS x0)))
   (br (andB (leI (0 : Int) x3) (ltI x3 (ofN (lenS x0)))) (ref04_Of.l0 x0 x1 (mulI .u64 (xorI .u64 x2 (wrapI .u64 (getS x0 (toN x3)))) (1099511628211 : Int)) (addI .i64 x3 (1 : Int))) none)
   (ref04_Of.l1 x1 x2 (0 : Int) (1 : Int) (0 : Int)) :=
  (loopB_eq (P := PP) (T := TT) (C := CF) [1, 1, 0, 1, 0, 0] [1, 1, 0, 1, 0, 0] 79 0 ⟨[(0, ⟨.str, x0⟩), (1, ⟨(.int .i64), x1⟩), (5, ⟨(.int .u64), x2⟩), (6, ⟨(.int .i64), x3⟩)], []⟩ (blockK 0 (seqK false [1, 1, 1] (BF 79 0 [1, 1, 1]) (finF 79 (.int .u64) [] 0)))).trans (by kernel_rfl)
theorem ref04_Of.l1.eq (x0 : den (.int .i64)) (x1 : den (.int .u64)) (x2 : den (.int .u64)) (x3 : den (.int .u64)) (x4 : den (.int .i64)) : ref04_Of.l1 x0 x1 x2 x3 x4 =
  bnd (ref04_clamp x0) fun r0 =>
  br (ltI x4 r0)
   (br (notB (eqI (2 : Int) (0 : Int))) (br (notB (eqI (2 : Int) (0 : Int))) (ref04_Of.l1 x0 (quoI .u64 x1 (2 : Int)) (addI .u64 x2 (mulI .u64 x3 (remI x1 (2 : Int)))) (mulI .u64 (2 : Int) x3) (addI .i64 x4 (1 : Int))) none) none)
   (some x2) :=
  (loopB_eq (P := PP) (T := TT) (C := CF) [1, 1, 1, 1, 0, 1, 0, 0] [1, 1, 1, 1, 0, 1, 0, 0] 79 0 ⟨[(1, ⟨(.int .i64), x0⟩), (5, ⟨(.int .u64), x1⟩), (7, ⟨(.int .u64), x2⟩), (8, ⟨(.int .u64), x3⟩), (9, ⟨(.int .i64), x4⟩)], []⟩ (blockK 2 (seqK false [1, 1, 1, 1, 1] (BF 79 0 [1, 1, 1, 1, 1]) (finF 79 (.int .u64) [] 0)))).trans (by kernel_rfl)
theorem ref04_Chunk.eq (a0 : den (.int .u64)) (a1 : den (.int .i64)) (a2 : den (.int .i64)) : ref04_Chunk a0 a1 a2 =
  br (ltI a1 (0 : Int))
   (some (0 : Int))
   (bnd (ref04_Levels a2) fun r0 =>
   br (leI r0 a1)
    (some (0 : Int))
    (ref04_Chunk.l0 a0 a1 a2 (0 : Int) (1 : Int) (mulI .i64 (5 : Int) a1))) :=
  (callW_eq (P := PP) (T := TT) (pr := RR) 78 [⟨(.int .u64), a0⟩, ⟨(.int .i64), a1⟩, ⟨(.int .i64), a2⟩] [] (.int .i64) []).trans (by kernel_rfl)
theorem ref04_Chunk.l0.eq (x0 : den (.int .u64)) (x1 : den (.int .i64)) (x2 : den (.int .i64)) (x3 : den (.int .i64)) (x4 : den (.int .i64)) (x5 : den (.int .i64)) : ref04_Chunk.l0 x0 x1 x2 x3 x4 x5 =
  br (ltI x5 (addI .i64 (mulI .i64 (5 : Int) x1) (5 : Int)))
   (bnd (ref04_clamp x2) fun r0 =>
   br (ltI x5 r0)
    (bnd (ref04_bit x0 x5) fun r1 =>
    ref04_Chunk.l0 x0 x1 x2 (addI .i64 x3 (mulI .i64 x4 r1)) (mulI .i64 (2 : Int) x4) (addI .i64 x5 (1 : Int)))
    (some x3))
   (some x3) :=
  (loopB_eq (P := PP) (T := TT) (C := CF) [1, 1, 1, 0, 1, 0, 0] [1, 1, 1, 0, 1, 0, 0] 78 0 ⟨[(0, ⟨(.int .u64), x0⟩), (1, ⟨(.int .i64), x1⟩), (2, ⟨(.int .i64), x2⟩), (7, ⟨(.int .i64), x3⟩), (8, ⟨(.int .i64), x4⟩), (9, ⟨(.int .i64), x5⟩)], []⟩ (blockK 0 (seqK false [1, 1, 1, 1] (BF 78 0 [1, 1, 1, 1]) (finF 78 (.int .i64) [] 0)))).trans (by kernel_rfl)
theorem ref13_SameRefs.eq (a0 : den (.list (.int .i64))) (a1 : den (.list (.int .i64))) : ref13_SameRefs a0 a1 =
  br (notB (eqI (ofN (lenL (.int .i64) a0)) (ofN (lenL (.int .i64) a1))))
   (some false)
   (ref13_SameRefs.l0 a0 a1 (0 : Int)) :=
  (callW_eq (P := PP) (T := TT) (pr := RR) 80 [⟨(.list (.int .i64)), a0⟩, ⟨(.list (.int .i64)), a1⟩] [] .bool []).trans (by kernel_rfl)
theorem ref13_SameRefs.l0.eq (x0 : den (.list (.int .i64))) (x1 : den (.list (.int .i64))) (x2 : den (.int .i64)) : ref13_SameRefs.l0 x0 x1 x2 =
  br (ltI x2 (ofN (lenL (.int .i64) x0)))
   (br (andB (leI (0 : Int) x2) (ltI x2 (ofN (lenL (.int .i64) x0)))) (br (andB (leI (0 : Int) x2) (ltI x2 (ofN (lenL (.int .i64) x1)))) (br (notB (eqI (ixL (.int .i64) x0 x2) (ixL (.int .i64) x1 x2)))
    (some false)
    (ref13_SameRefs.l0 x0 x1 (addI .i64 x2 (1 : Int)))) none) none)
   (some true) :=
  (loopB_eq (P := PP) (T := TT) (C := CF) [1, 1, 0, 1, 0, 0] [1, 1, 0, 1, 0, 0] 80 0 ⟨[(0, ⟨(.list (.int .i64)), x0⟩), (1, ⟨(.list (.int .i64)), x1⟩), (5, ⟨(.int .i64), x2⟩)], []⟩ (blockK 0 (seqK false [1, 1, 1] (BF 80 0 [1, 1, 1]) (finF 80 .bool [] 0)))).trans (by kernel_rfl)
theorem slices_BinarySearchFuncapi_Pair_api_Pair_string.eq (a0 : den (.list tapiPair)) (a1 : den .str) : slices_BinarySearchFuncapi_Pair_api_Pair_string a0 a1 =
  slices_BinarySearchFuncapi_Pair_api_Pair_string.l0 a0 a1 (ofN (lenL tapiPair a0)) (0 : Int) (ofN (lenL tapiPair a0)) :=
  (callW_eq (P := PP) (T := TT) (pr := RR) 81 [⟨(.list tapiPair), a0⟩, ⟨.str, a1⟩, ⟨(.fn 82 .tnil), ()⟩] [] (.tcons (.int .i64) (.tcons .bool .tnil)) []).trans (by kernel_rfl)
theorem slices_BinarySearchFuncapi_Pair_api_Pair_string.l0.eq (x0 : den (.list tapiPair)) (x1 : den .str) (x2 : den (.int .i64)) (x3 : den (.int .i64)) (x4 : den (.int .i64)) : slices_BinarySearchFuncapi_Pair_api_Pair_string.l0 x0 x1 x2 x3 x4 =
  br (ltI x3 x4)
   (br (leI (0 : Int) (1 : Int)) (br (andB (leI (0 : Int) (wrapI .i64 (shrI .u64 (wrapI .u64 (addI .i64 x3 x4)) (1 : Int)))) (ltI (wrapI .i64 (shrI .u64 (wrapI .u64 (addI .i64 x3 x4)) (1 : Int))) (ofN (lenL tapiPair x0)))) (bnd (pair_place_1 (ixL tapiPair x0 (wrapI .i64 (shrI .u64 (wrapI .u64 (addI .i64 x3 x4)) (1 : Int)))) x1) fun r0 =>
   br (ltI r0 (0 : Int))
    (slices_BinarySearchFuncapi_Pair_api_Pair_string.l0 x0 x1 x2 (addI .i64 (wrapI .i64 (shrI .u64 (wrapI .u64 (addI .i64 x3 x4)) (1 : Int))) (1 : Int)) x4)
    (slices_BinarySearchFuncapi_Pair_api_Pair_string.l0 x0 x1 x2 x3 (wrapI .i64 (shrI .u64 (wrapI .u64 (addI .i64 x3 x4)) (1 : Int))))) none) none)
   (br (ltI x3 x2)
    (br (andB (leI (0 : Int) x3) (ltI x3 (ofN (lenL tapiPair x0)))) (bnd (pair_place_1 (ixL tapiPair x0 x3) x1) fun r1 =>
    some (x3, ((eqI r1 (0 : Int)), ()))) none)
    (some (x3, (false, ())))) :=
  (loopB_eq (P := PP) (T := TT) (C := CF) [1, 1, 1, 0, 0, 0] [1, 1, 1, 0, 0, 0] 81 0 ⟨[(0, ⟨(.list tapiPair), x0⟩), (1, ⟨.str, x1⟩), (2, ⟨(.fn 82 .tnil), ()⟩), (8, ⟨(.int .i64), x2⟩), (9, ⟨(.int .i64), x3⟩), (10, ⟨(.int .i64), x4⟩)], []⟩ (blockK 0 (seqK false [1, 1, 1, 1] (BF 81 0 [1, 1, 1, 1]) (finF 81 (.tcons (.int .i64) (.tcons .bool .tnil)) [] 0)))).trans (by kernel_rfl)
theorem slices_IndexFuncapi_Pair_api_Pair.eq (a0 : den (.list tapiPair)) : slices_IndexFuncapi_Pair_api_Pair a0 =
  slices_IndexFuncapi_Pair_api_Pair.l0 a0 (ofN (lenL tapiPair a0)) (0 : Int) :=
  (callW_eq (P := PP) (T := TT) (pr := RR) 86 [⟨(.list tapiPair), a0⟩, ⟨(.fn 63 .tnil), ()⟩] [] (.int .i64) []).trans (by kernel_rfl)
theorem slices_IndexFuncapi_Pair_api_Pair.l0.eq (x0 : den (.list tapiPair)) (x1 : den (.int .i64)) (x2 : den (.int .i64)) : slices_IndexFuncapi_Pair_api_Pair.l0 x0 x1 x2 =
  br (ltI x2 x1)
   (br (andB (leI (0 : Int) x2) (ltI x2 (ofN (lenL tapiPair x0)))) (bnd (node_long_1 (ixL tapiPair x0 x2)) fun r0 =>
   br r0
    (some x2)
    (slices_IndexFuncapi_Pair_api_Pair.l0 x0 x1 (addI .i64 x2 (1 : Int)))) none)
   (some (-1 : Int)) :=
  (loopB_eq (P := PP) (T := TT) (C := CF) [1, 0, 1, 0, 0] [1, 0, 1, 0, 0] 86 0 ⟨[(0, ⟨(.list tapiPair), x0⟩), (1, ⟨(.fn 63 .tnil), ()⟩), (7, ⟨(.int .i64), x1⟩), (8, ⟨(.int .i64), x2⟩)], []⟩ (blockK 0 (seqK false [1, 1] (BF 86 0 [1, 1]) (finF 86 (.int .i64) [] 0)))).trans (by kernel_rfl)
end Go.Proofs.YtjekopgcpikkiaaDoor.AA
set_option maxRecDepth 100000
set_option linter.unusedVariables false
namespace Go.Proofs.YtjekopgcpikkiaaDoor.AA
open Go.Abs
theorem math_bits_OnesCount32.eq (a0 : den (.int .u32)) : math_bits_OnesCount32 a0 =
  br (leI (0 : Int) (24 : Int)) (br (andB (leI (0 : Int) (shrI .u32 a0 (24 : Int))) (ltI (shrI .u32 a0 (24 : Int)) (ofN (lenS (ByteArray.mk #[0, 1, 1, 2, 1, 2, 2, 3, 1, 2, 2, 3, 2, 3, 3, 4, 1, 2, 2, 3, 2, 3, 3, 4, 2, 3, 3, 4, 3, 4, 4, 5, 1, 2, 2, 3, 2, 3, 3, 4, 2, 3, 3, 4, 3, 4, 4, 5, 2, 3, 3, 4, 3, 4, 4, 5, 3, 4, 4, 5, 4, 5, 5, 6, 1, 2, 2, 3, 2, 3, 3, 4, 2, 3, 3, 4, 3, 4, 4, 5, 2, 3, 3, 4, 3, 4, 4, 5, 3, 4, 4, 5, 4, 5, 5, 6, 2, 3, 3, 4, 3, 4, 4, 5, 3, 4, 4, 5, 4, 5, 5, 6, 3, 4, 4, 5, 4, 5, 5, 6, 4, 5, 5, 6, 5, 6, 6, 7, 1, 2, 2, 3, 2, 3, 3, 4, 2, 3, 3, 4, 3, 4, 4, 5, 2, 3, 3, 4, 3, 4, 4, 5, 3, 4, 4, 5, 4, 5, 5, 6, 2, 3, 3, 4, 3, 4, 4, 5, 3, 4, 4, 5, 4, 5, 5, 6, 3, 4, 4, 5, 4, 5, 5, 6, 4, 5, 5, 6, 5, 6, 6, 7, 2, 3, 3, 4, 3, 4, 4, 5, 3, 4, 4, 5, 4, 5, 5, 6, 3, 4, 4, 5, 4, 5, 5, 6, 4, 5, 5, 6, 5, 6, 6, 7, 3, 4, 4, 5, 4, 5, 5, 6, 4, 5, 5, 6, 5, 6, 6, 7, 4, 5, 5, 6, 5, 6, 6, 7, 5, 6, 6, 7, 6, 7, 7, 8]))))) (br (leI (0 : Int) (16 : Int)) (br (andB (leI (0 : Int) (andI .u32 (shrI .u32 a0 (16 : Int)) (255 : Int))) (ltI (andI .u32 (shrI .u32 a0 (16 : Int)) (255 : Int)) (ofN (lenS (ByteArray.mk #[0, 1, 1, 2, 1, 2, 2, 3, 1, 2, 2, 3, 2, 3, 3, 4, 1, 2, 2, 3, 2, 3, 3, 4, 2, 3, 3, 4, 3, 4, 4, 5, 1, 2, 2, 3, 2, 3, 3, 4, 2, 3, 3, 4, 3, 4, 4, 5, 2, 3, 3, 4, 3, 4, 4, 5, 3, 4, 4, 5, 4, 5, 5, 6, 1, 2, 2, 3, 2, 3, 3, 4, 2, 3, 3, 4, 3, 4, 4, 5, 2, 3, 3, 4, 3, 4, 4, 5, 3, 4, 4, 5, 4, 5, 5, 6, 2, 3, 3, 4, 3, 4, 4, 5, 3, 4, 4, 5, 4, 5, 5, 6, 3, 4, 4, 5, 4, 5, 5, 6, 4, 5, 5, 6, 5, 6, 6, 7, 1, 2, 2, 3, 2, 3, 3, 4, 2, 3, 3, 4, 3, 4, 4, 5, 2, 3, 3, 4, 3, 4, 4, 5, 3, 4, 4, 5, 4, 5, 5, 6, 2, 3, 3, 4, 3, 4, 4, 5, 3, 4, 4, 5, 4, 5, 5, 6, 3, 4, 4, 5, 4, 5, 5, 6, 4, 5, 5, 6, 5, 6, 6, 7, 2, 3, 3, 4, 3, 4, 4, 5, 3, 4, 4, 5, 4, 5, 5, 6, 3, 4, 4, 5, 4, 5, 5, 6, 4, 5, 5, 6, 5, 6, 6, 7, 3, 4, 4, 5, 4, 5, 5, 6, 4, 5, 5, 6, 5, 6, 6, 7, 4, 5, 5, 6, 5, 6, 6, 7, 5, 6, 6, 7, 6, 7, 7, 8]))))) (br (leI (0 : Int) (8 : Int)) (br (andB (leI (0 : Int) (andI .u32 (shrI .u32 a0 (8 : Int)) (255 : Int))) (ltI (andI .u32 (shrI .u32 a0 (8 : Int)) (255 : Int)) (ofN (lenS (ByteArray.mk #[0, 1, 1, 2, 1, 2, 2, 3, 1, 2, 2, 3, 2, 3, 3, 4, 1, 2, 2, 3, 2, 3, 3, 4, 2, 3, 3, 4, 3, 4, 4, 5, 1, 2, 2, 3, 2, 3, 3, 4, 2, 3, 3, 4, 3, 4, 4, 5, 2, 3, 3, 4, 3, 4, 4, 5, 3, 4, 4, 5, 4, 5, 5, 6, 1, 2, 2, 3, 2, 3, 3, 4, 2, 3, 3, 4, 3, 4, 4, 5, 2, 3, 3, 4, 3, 4, 4, 5, 3, 4, 4, 5, 4, 5, 5, 6, 2, 3, 3, 4, 3, 4, 4, 5, 3, 4, 4, 5, 4, 5, 5, 6, 3, 4, 4, 5, 4, 5, 5, 6, 4, 5, 5, 6, 5, 6, 6, 7, 1, 2, 2, 3, 2, 3, 3, 4, 2, 3, 3, 4, 3, 4, 4, 5, 2, 3, 3, 4, 3, 4, 4, 5, 3, 4, 4, 5, 4, 5, 5, 6, 2, 3, 3, 4, 3, 4, 4, 5, 3, 4, 4, 5, 4, 5, 5, 6, 3, 4, 4, 5, 4, 5, 5, 6, 4, 5, 5, 6, 5, 6, 6, 7, 2, 3, 3, 4, 3, 4, 4, 5, 3, 4, 4, 5, 4, 5, 5, 6, 3, 4, 4, 5, 4, 5, 5, 6, 4, 5, 5, 6, 5, 6, 6, 7, 3, 4, 4, 5, 4, 5, 5, 6, 4, 5, 5, 6, 5, 6, 6, 7, 4, 5, 5, 6, 5, 6, 6, 7, 5, 6, 6, 7, 6, 7, 7, 8]))))) (br (andB (leI (0 : Int) (andI .u32 a0 (255 : Int))) (ltI (andI .u32 a0 (255 : Int)) (ofN (lenS (ByteArray.mk #[0, 1, 1, 2, 1, 2, 2, 3, 1, 2, 2, 3, 2, 3, 3, 4, 1, 2, 2, 3, 2, 3, 3, 4, 2, 3, 3, 4, 3, 4, 4, 5, 1, 2, 2, 3, 2, 3, 3, 4, 2, 3, 3, 4, 3, 4, 4, 5, 2, 3, 3, 4, 3, 4, 4, 5, 3, 4, 4, 5, 4, 5, 5, 6, 1, 2, 2, 3, 2, 3, 3, 4, 2, 3, 3, 4, 3, 4, 4, 5, 2, 3, 3, 4, 3, 4, 4, 5, 3, 4, 4, 5, 4, 5, 5, 6, 2, 3, 3, 4, 3, 4, 4, 5, 3, 4, 4, 5, 4, 5, 5, 6, 3, 4, 4, 5, 4, 5, 5, 6, 4, 5, 5, 6, 5, 6, 6, 7, 1, 2, 2, 3, 2, 3, 3, 4, 2, 3, 3, 4, 3, 4, 4, 5, 2, 3, 3, 4, 3, 4, 4, 5, 3, 4, 4, 5, 4, 5, 5, 6, 2, 3, 3, 4, 3, 4, 4, 5, 3, 4, 4, 5, 4, 5, 5, 6, 3, 4, 4, 5, 4, 5, 5, 6, 4, 5, 5, 6, 5, 6, 6, 7, 2, 3, 3, 4, 3, 4, 4, 5, 3, 4, 4, 5, 4, 5, 5, 6, 3, 4, 4, 5, 4, 5, 5, 6, 4, 5, 5, 6, 5, 6, 6, 7, 3, 4, 4, 5, 4, 5, 5, 6, 4, 5, 5, 6, 5, 6, 6, 7, 4, 5, 5, 6, 5, 6, 6, 7, 5, 6, 6, 7, 6, 7, 7, 8]))))) (some (wrapI .i64 (addI .u8 (addI .u8 (addI .u8 (getS (ByteArray.mk #[0, 1, 1, 2, 1, 2, 2, 3, 1, 2, 2, 3, 2, 3, 3, 4, 1, 2, 2, 3, 2, 3, 3, 4, 2, 3, 3, 4, 3, 4, 4, 5, 1, 2, 2, 3, 2, 3, 3, 4, 2, 3, 3, 4, 3, 4, 4, 5, 2, 3, 3, 4, 3, 4, 4, 5, 3, 4, 4, 5, 4, 5, 5, 6, 1, 2, 2, 3, 2, 3, 3, 4, 2, 3, 3, 4, 3, 4, 4, 5, 2, 3, 3, 4, 3, 4, 4, 5, 3, 4, 4, 5, 4, 5, 5, 6, 2, 3, 3, 4, 3, 4, 4, 5, 3, 4, 4, 5, 4, 5, 5, 6, 3, 4, 4, 5, 4, 5, 5, 6, 4, 5, 5, 6, 5, 6, 6, 7, 1, 2, 2, 3, 2, 3, 3, 4, 2, 3, 3, 4, 3, 4, 4, 5, 2, 3, 3, 4, 3, 4, 4, 5, 3, 4, 4, 5, 4, 5, 5, 6, 2, 3, 3, 4, 3, 4, 4, 5, 3, 4, 4, 5, 4, 5, 5, 6, 3, 4, 4, 5, 4, 5, 5, 6, 4, 5, 5, 6, 5, 6, 6, 7, 2, 3, 3, 4, 3, 4, 4, 5, 3, 4, 4, 5, 4, 5, 5, 6, 3, 4, 4, 5, 4, 5, 5, 6, 4, 5, 5, 6, 5, 6, 6, 7, 3, 4, 4, 5, 4, 5, 5, 6, 4, 5, 5, 6, 5, 6, 6, 7, 4, 5, 5, 6, 5, 6, 6, 7, 5, 6, 6, 7, 6, 7, 7, 8]) (toN (shrI .u32 a0 (24 : Int)))) (getS (ByteArray.mk #[0, 1, 1, 2, 1, 2, 2, 3, 1, 2, 2, 3, 2, 3, 3, 4, 1, 2, 2, 3, 2, 3, 3, 4, 2, 3, 3, 4, 3, 4, 4, 5, 1, 2, 2, 3, 2, 3, 3, 4, 2, 3, 3, 4, 3, 4, 4, 5, 2, 3, 3, 4, 3, 4, 4, 5, 3, 4, 4, 5, 4, 5, 5, 6, 1, 2, 2, 3, 2, 3, 3, 4, 2, 3, 3, 4, 3, 4, 4, 5, 2, 3, 3, 4, 3, 4, 4, 5, 3, 4, 4, 5, 4, 5, 5, 6, 2, 3, 3, 4, 3, 4, 4, 5, 3, 4, 4, 5, 4, 5, 5, 6, 3, 4, 4, 5, 4, 5, 5, 6, 4, 5, 5, 6, 5, 6, 6, 7, 1, 2, 2, 3, 2, 3, 3, 4, 2, 3, 3, 4, 3, 4, 4, 5, 2, 3, 3, 4, 3, 4, 4, 5, 3, 4, 4, 5, 4, 5, 5, 6, 2, 3, 3, 4, 3, 4, 4, 5, 3, 4, 4, 5, 4, 5, 5, 6, 3, 4, 4, 5, 4, 5, 5, 6, 4, 5, 5, 6, 5, 6, 6, 7, 2, 3, 3, 4, 3, 4, 4, 5, 3, 4, 4, 5, 4, 5, 5, 6, 3, 4, 4, 5, 4, 5, 5, 6, 4, 5, 5, 6, 5, 6, 6, 7, 3, 4, 4, 5, 4, 5, 5, 6, 4, 5, 5, 6, 5, 6, 6, 7, 4, 5, 5, 6, 5, 6, 6, 7, 5, 6, 6, 7, 6, 7, 7, 8]) (toN (andI .u32 (shrI .u32 a0 (16 : Int)) (255 : Int))))) (getS (ByteArray.mk #[0, 1, 1, 2, 1, 2, 2, 3, 1, 2, 2, 3, 2, 3, 3, 4, 1, 2, 2, 3, 2, 3, 3, 4, 2, 3, 3, 4, 3, 4, 4, 5, 1, 2, 2, 3, 2, 3, 3, 4, 2, 3, 3, 4, 3, 4, 4, 5, 2, 3, 3, 4, 3, 4, 4, 5, 3, 4, 4, 5, 4, 5, 5, 6, 1, 2, 2, 3, 2, 3, 3, 4, 2, 3, 3, 4, 3, 4, 4, 5, 2, 3, 3, 4, 3, 4, 4, 5, 3, 4, 4, 5, 4, 5, 5, 6, 2, 3, 3, 4, 3, 4, 4, 5, 3, 4, 4, 5, 4, 5, 5, 6, 3, 4, 4, 5, 4, 5, 5, 6, 4, 5, 5, 6, 5, 6, 6, 7, 1, 2, 2, 3, 2, 3, 3, 4, 2, 3, 3, 4, 3, 4, 4, 5, 2, 3, 3, 4, 3, 4, 4, 5, 3, 4, 4, 5, 4, 5, 5, 6, 2, 3, 3, 4, 3, 4, 4, 5, 3, 4, 4, 5, 4, 5, 5, 6, 3, 4, 4, 5, 4, 5, 5, 6, 4, 5, 5, 6, 5, 6, 6, 7, 2, 3, 3, 4, 3, 4, 4, 5, 3, 4, 4, 5, 4, 5, 5, 6, 3, 4, 4, 5, 4, 5, 5, 6, 4, 5, 5, 6, 5, 6, 6, 7, 3, 4, 4, 5, 4, 5, 5, 6, 4, 5, 5, 6, 5, 6, 6, 7, 4, 5, 5, 6, 5, 6, 6, 7, 5, 6, 6, 7, 6, 7, 7, 8]) (toN (andI .u32 (shrI .u32 a0 (8 : Int)) (255 : Int))))) (getS (ByteArray.mk #[0, 1, 1, 2, 1, 2, 2, 3, 1, 2, 2, 3, 2, 3, 3, 4, 1, 2, 2, 3, 2, 3, 3, 4, 2, 3, 3, 4, 3, 4, 4, 5, 1, 2, 2, 3, 2, 3, 3, 4, 2, 3, 3, 4, 3, 4, 4, 5, 2, 3, 3, 4, 3, 4, 4, 5, 3, 4, 4, 5, 4, 5, 5, 6, 1, 2, 2, 3, 2, 3, 3, 4, 2, 3, 3, 4, 3, 4, 4, 5, 2, 3, 3, 4, 3, 4, 4, 5, 3, 4, 4, 5, 4, 5, 5, 6, 2, 3, 3, 4, 3, 4, 4, 5, 3, 4, 4, 5, 4, 5, 5, 6, 3, 4, 4, 5, 4, 5, 5, 6, 4, 5, 5, 6, 5, 6, 6, 7, 1, 2, 2, 3, 2, 3, 3, 4, 2, 3, 3, 4, 3, 4, 4, 5, 2, 3, 3, 4, 3, 4, 4, 5, 3, 4, 4, 5, 4, 5, 5, 6, 2, 3, 3, 4, 3, 4, 4, 5, 3, 4, 4, 5, 4, 5, 5, 6, 3, 4, 4, 5, 4, 5, 5, 6, 4, 5, 5, 6, 5, 6, 6, 7, 2, 3, 3, 4, 3, 4, 4, 5, 3, 4, 4, 5, 4, 5, 5, 6, 3, 4, 4, 5, 4, 5, 5, 6, 4, 5, 5, 6, 5, 6, 6, 7, 3, 4, 4, 5, 4, 5, 5, 6, 4, 5, 5, 6, 5, 6, 6, 7, 4, 5, 5, 6, 5, 6, 6, 7, 5, 6, 6, 7, 6, 7, 7, 8]) (toN (andI .u32 a0 (255 : Int))))))) none) none) none) none) none) none) none :=
  (callW_eq (P := PP) (T := TT) (pr := RR) 87 [⟨(.int .u32), a0⟩] [] (.int .i64) []).trans (by kernel_rfl)
theorem slices_Indexapi_Ref_api_Ref.eq (a0 : den (.list (.int .i64))) (a1 : den (.int .i64)) : slices_Indexapi_Ref_api_Ref a0 a1 =
  slices_Indexapi_Ref_api_Ref.l0 a0 a1 (ofN (lenL (.int .i64) a0)) (0 : Int) :=
  (callW_eq (P := PP) (T := TT) (pr := RR) 88 [⟨(.list (.int .i64)), a0⟩, ⟨(.int .i64), a1⟩] [] (.int .i64) []).trans (by kernel_rfl)
theorem slices_Indexapi_Ref_api_Ref.l0.eq (x0 : den (.list (.int .i64))) (x1 : den (.int .i64)) (x2 : den (.int .i64)) (x3 : den (.int .i64)) : slices_Indexapi_Ref_api_Ref.l0 x0 x1 x2 x3 =
  br (ltI x3 x2)
   (br (andB (leI (0 : Int) x3) (ltI x3 (ofN (lenL (.int .i64) x0)))) (br (eqI x1 (ixL (.int .i64) x0 x3))
    (some x3)
    (slices_Indexapi_Ref_api_Ref.l0 x0 x1 x2 (addI .i64 x3 (1 : Int)))) none)
   (some (-1 : Int)) :=
  (loopB_eq (P := PP) (T := TT) (C := CF) [1, 0, 1, 0, 0] [1, 0, 1, 0, 0] 88 0 ⟨[(0, ⟨(.list (.int .i64)), x0⟩), (1, ⟨(.int .i64), x1⟩), (7, ⟨(.int .i64), x2⟩), (8, ⟨(.int .i64), x3⟩)], []⟩ (blockK 0 (seqK false [1, 1] (BF 88 0 [1, 1]) (finF 88 (.int .i64) [] 0)))).trans (by kernel_rfl)
theorem order_Compare.eq (a0 : den .str) (a1 : den .str) : order_Compare a0 a1 =
  bnd (order_Common a0 a1) fun r0 =>
  br (eqI r0 (ofN (lenS a0)))
   (order_Compare.j0 a0 a1 r0 (eqI r0 (ofN (lenS a1))))
   (order_Compare.j0 a0 a1 r0 false) :=
  (callW_eq (P := PP) (T := TT) (pr := RR) 83 [⟨.str, a0⟩, ⟨.str, a1⟩] [] (.int .i64) []).trans (by kernel_rfl)
theorem order_Compare.j0.eq (x0 : den .str) (x1 : den .str) (x2 : den (.int .i64)) (x3 : den .bool) : order_Compare.j0 x0 x1 x2 x3 =
  br x3
   (some (0 : Int))
   (br (eqI x2 (ofN (lenS x0)))
    (some (-1 : Int))
    (br (eqI x2 (ofN (lenS x1)))
     (some (1 : Int))
     (br (andB (leI (0 : Int) x2) (ltI x2 (ofN (lenS x0)))) (br (andB (leI (0 : Int) x2) (ltI x2 (ofN (lenS x1)))) (br (ltI (getS x1 (toN x2)) (getS x0 (toN x2)))
      (some (1 : Int))
      (some (-1 : Int))) none) none))) :=
  (congrFun (congrFun (jnO_eq [1, 1, 0, 0, 1] (BF (R := den (.int .i64)) 83 0 [1, 1, 0, 0, 1])) ⟨[(0, ⟨.str, x0⟩), (1, ⟨.str, x1⟩), (5, ⟨(.int .i64), x2⟩), (9, ⟨.bool, x3⟩)], []⟩) (blockK 0 (seqK false [1, 1, 1] (BF 83 0 [1, 1, 1]) (finF 83 (.int .i64) [] 0)))).trans (by kernel_rfl)
theorem hash_cut.eq (a0 : den (.int .u64)) (a1 : den (.int .i64)) : hash_cut a0 a1 =
  bnd (hash_within a1) fun r0 =>
  br (eqI r0 (64 : Int))
   (some a0)
   (bnd (hash_within a1) fun r1 =>
   br (leI (0 : Int) r1) (some (andI .u64 a0 (subI .u64 (shlI .u64 (1 : Int) r1) (1 : Int)))) none) :=
  (callW_eq (P := PP) (T := TT) (pr := RR) 89 [⟨(.int .u64), a0⟩, ⟨(.int .i64), a1⟩] [] (.int .u64) []).trans (by kernel_rfl)
theorem mask_in.eq (a0 : den (.int .i64)) : mask_in a0 =
  br (leI (0 : Int) a0)
   (some (ltI a0 (32 : Int)))
   (some false) :=
  (callW_eq (P := PP) (T := TT) (pr := RR) 90 [⟨(.int .i64), a0⟩] [] .bool []).trans (by kernel_rfl)
theorem mask_below.eq (a0 : den (.int .i64)) : mask_below a0 =
  br (leI a0 (0 : Int))
   (some (0 : Int))
   (br (leI (32 : Int) a0)
    (some (4294967295 : Int))
    (br (leI (0 : Int) a0) (some (subI .u32 (shlI .u32 (1 : Int) a0) (1 : Int))) none)) :=
  (callW_eq (P := PP) (T := TT) (pr := RR) 91 [⟨(.int .i64), a0⟩] [] (.int .u32) []).trans (by kernel_rfl)
theorem math_bits_TrailingZeros32.eq (a0 : den (.int .u32)) : math_bits_TrailingZeros32 a0 =
  br (andB (leI 0 a0) (ltI a0 4294967296)) (some (ctzI a0)) none :=
  (callW_eq (P := PP) (T := TT) (pr := RR) 92 [⟨(.int .u32), a0⟩] [] (.int .i64) []).trans (by kernel_rfl)
theorem ref13_bare.eq (a0 : den tapiNode) (a1 : den .bool) (a2 : den .bool) (a3 : den .bool) (a4 : den .bool) : ref13_bare a0 a1 a2 a3 a4 =
  br a1
   (br (notB (eqS a0.2.1 ByteArray.empty))
    (some false)
    (br (notB (eqS a0.2.2.1 ByteArray.empty))
     (some false)
     (br a2
      (br (notB (eqI a0.2.2.2.1 (0 : Int)))
       (some false)
       (br (ltI (0 : Int) (ofN (lenL (.int .i64) a0.2.2.2.2.1)))
        (some false)
        (br (notB a3)
         (br (notB a4)
          (some true)
          (some (eqI (ofN (lenL tapiPair a0.2.2.2.2.2.2.1)) (0 : Int))))
         (br (eqI a0.2.2.2.2.2.1 (0 : Int))
          (br (notB a4)
           (some true)
           (some (eqI (ofN (lenL tapiPair a0.2.2.2.2.2.2.1)) (0 : Int))))
          (some false)))))
      (br (notB a3)
       (br (notB a4)
        (some true)
        (some (eqI (ofN (lenL tapiPair a0.2.2.2.2.2.2.1)) (0 : Int))))
       (br (eqI a0.2.2.2.2.2.1 (0 : Int))
        (br (notB a4)
         (some true)
         (some (eqI (ofN (lenL tapiPair a0.2.2.2.2.2.2.1)) (0 : Int))))
        (some false))))))
   (br a2
    (br (notB (eqI a0.2.2.2.1 (0 : Int)))
     (some false)
     (br (ltI (0 : Int) (ofN (lenL (.int .i64) a0.2.2.2.2.1)))
      (some false)
      (br (notB a3)
       (br (notB a4)
        (some true)
        (some (eqI (ofN (lenL tapiPair a0.2.2.2.2.2.2.1)) (0 : Int))))
       (br (eqI a0.2.2.2.2.2.1 (0 : Int))
        (br (notB a4)
         (some true)
         (some (eqI (ofN (lenL tapiPair a0.2.2.2.2.2.2.1)) (0 : Int))))
        (some false)))))
    (br (notB a3)
     (br (notB a4)
      (some true)
      (some (eqI (ofN (lenL tapiPair a0.2.2.2.2.2.2.1)) (0 : Int))))
     (br (eqI a0.2.2.2.2.2.1 (0 : Int))
      (br (notB a4)
       (some true)
       (some (eqI (ofN (lenL tapiPair a0.2.2.2.2.2.2.1)) (0 : Int))))
      (some false)))) :=
  (callW_eq (P := PP) (T := TT) (pr := RR) 93 [⟨tapiNode, a0⟩, ⟨.bool, a1⟩, ⟨.bool, a2⟩, ⟨.bool, a3⟩, ⟨.bool, a4⟩] [] .bool []).trans (by kernel_rfl)
theorem ref07_Is.eq (a0 : den (.list tapiPair)) : ref07_Is a0 =
  ref07_Is.l0 a0 (1 : Int) :=
  (callW_eq (P := PP) (T := TT) (pr := RR) 95 [⟨(.list tapiPair), a0⟩] [] .bool []).trans (by kernel_rfl)
theorem ref07_Is.l0.eq (x0 : den (.list tapiPair)) (x1 : den (.int .i64)) : ref07_Is.l0 x0 x1 =
  br (ltI x1 (ofN (lenL tapiPair x0)))
   (br (andB (leI (0 : Int) (subI .i64 x1 (1 : Int))) (ltI (subI .i64 x1 (1 : Int)) (ofN (lenL tapiPair x0)))) (br (andB (leI (0 : Int) x1) (ltI x1 (ofN (lenL tapiPair x0)))) (bnd (ref01_Less (ixL tapiPair x0 (subI .i64 x1 (1 : Int))).1 (ixL tapiPair x0 x1).1) fun r0 =>
   br (notB r0)
    (some false)
    (ref07_Is.l0 x0 (addI .i64 x1 (1 : Int)))) none) none)
   (some true) :=
  (loopB_eq (P := PP) (T := TT) (C := CF) [1, 0, 1, 0, 0] [1, 0, 1, 0, 0] 95 0 ⟨[(0, ⟨(.list tapiPair), x0⟩), (3, ⟨(.int .i64), x1⟩)], []⟩ (blockK 0 (seqK false [1, 1] (BF 95 0 [1, 1]) (finF 95 .bool [] 0)))).trans (by kernel_rfl)
theorem ref06_All.eq (a0 : den (.int .u32)) : ref06_All a0 =
  ref06_All.l0 a0 (0 : Int) [] :=
  (callW_eq (P := PP) (T := TT) (pr := RR) 94 [⟨(.int .u32), a0⟩] [] (.list (.int .i64)) []).trans (by kernel_rfl)
theorem ref06_All.l0.eq (x0 : den (.int .u32)) (x1 : den (.int .i64)) (x2 : denO (.row 3 (.int .i64) false)) : ref06_All.l0 x0 x1 x2 =
  br (ltI x1 (32 : Int))
   (bnd (ref06_Has x0 x1) fun r0 =>
   br r0
    (br (fitL (.int .i64) (appL (.int .i64) x2 (x1 :: []))) (ref06_All.l0 x0 (addI .i64 x1 (1 : Int)) (appL (.int .i64) x2 (x1 :: []))) none)
    (ref06_All.l0 x0 (addI .i64 x1 (1 : Int)) x2))
   (some x2) :=
  (loopB_eq (P := PP) (T := TT) (C := CF) [1, 1, 0, 1, 0, 0] [1, 1, 0, 1, 0, 0] 94 0 ⟨[(0, ⟨(.int .u32), x0⟩), (3, ⟨(.own (.int .i64) 0), ()⟩), (4, ⟨(.int .i64), x1⟩)], [⟨(.row 3 (.int .i64) false), x2⟩]⟩ (blockK 0 (seqK false [1, 1, 1] (BF 94 0 [1, 1, 1]) (finF 94 (.list (.int .i64)) [] 0)))).trans (by kernel_rfl)
theorem ref04_bit.eq (a0 : den (.int .u64)) (a1 : den (.int .i64)) : ref04_bit a0 a1 =
  ref04_bit.l0 a0 a1 (0 : Int) :=
  (callW_eq (P := PP) (T := TT) (pr := RR) 96 [⟨(.int .u64), a0⟩, ⟨(.int .i64), a1⟩] [] (.int .i64) []).trans (by kernel_rfl)
theorem ref04_bit.l0.eq (x0 : den (.int .u64)) (x1 : den (.int .i64)) (x2 : den (.int .i64)) : ref04_bit.l0 x0 x1 x2 =
  br (ltI x2 x1)
   (br (notB (eqI (2 : Int) (0 : Int))) (ref04_bit.l0 (quoI .u64 x0 (2 : Int)) x1 (addI .i64 x2 (1 : Int))) none)
   (br (notB (eqI (2 : Int) (0 : Int))) (some (wrapI .i64 (remI x0 (2 : Int)))) none) :=
  (loopB_eq (P := PP) (T := TT) (C := CF) [1, 0, 1, 0, 0] [1, 0, 1, 0, 0] 96 0 ⟨[(0, ⟨(.int .u64), x0⟩), (1, ⟨(.int .i64), x1⟩), (5, ⟨(.int .i64), x2⟩)], []⟩ (blockK 0 (seqK false [1, 1] (BF 96 0 [1, 1]) (finF 96 (.int .i64) [] 0)))).trans (by kernel_rfl)
theorem pair_place_1.eq (a0 : den tapiPair) (a1 : den .str) : pair_place_1 a0 a1 =
  bnd (order_Compare a0.1 a1) fun r0 =>
  some r0 :=
  (callW_eq (P := PP) (T := TT) (pr := RR) 82 [⟨tapiPair, a0⟩, ⟨.str, a1⟩] [] (.int .i64) []).trans (by kernel_rfl)
theorem order_Common.eq (a0 : den .str) (a1 : den .str) : order_Common a0 a1 =
  order_Common.l0 a0 a1 (minI (ofN (lenS a0)) (ofN (lenS a1))) (minI (ofN (lenS a0)) (ofN (lenS a1))) (0 : Int) :=
  (callW_eq (P := PP) (T := TT) (pr := RR) 97 [⟨.str, a0⟩, ⟨.str, a1⟩] [] (.int .i64) []).trans (by kernel_rfl)
theorem order_Common.l0.eq (x0 : den .str) (x1 : den .str) (x2 : den (.int .i64)) (x3 : den (.int .i64)) (x4 : den (.int .i64)) : order_Common.l0 x0 x1 x2 x3 x4 =
  br (ltI x4 x3)
   (br (andB (leI (0 : Int) x4) (ltI x4 (ofN (lenS x0)))) (br (andB (leI (0 : Int) x4) (ltI x4 (ofN (lenS x1)))) (br (notB (eqI (getS x0 (toN x4)) (getS x1 (toN x4))))
    (some x4)
    (order_Common.l0 x0 x1 x2 x3 (addI .i64 x4 (1 : Int)))) none) none)
   (some x2) :=
  (loopB_eq (P := PP) (T := TT) (C := CF) [1, 1, 0, 1, 0, 0] [1, 1, 0, 1, 0, 0] 97 0 ⟨[(0, ⟨.str, x0⟩), (1, ⟨.str, x1⟩), (5, ⟨(.int .i64), x2⟩), (12, ⟨(.int .i64), x3⟩), (13, ⟨(.int .i64), x4⟩)], []⟩ (blockK 0 (seqK false [1, 1, 1] (BF 97 0 [1, 1, 1]) (finF 97 (.int .i64) [] 0)))).trans (by kernel_rfl)
theorem ref06_Has.eq (a0 : den (.int .u32)) (a1 : den (.int .i64)) : ref06_Has a0 a1 =
  ref06_Has.l0 a0 a1 (0 : Int) :=
  (callW_eq (P := PP) (T := TT) (pr := RR) 99 [⟨(.int .u32), a0⟩, ⟨(.int .i64), a1⟩] [] .bool []).trans (by kernel_rfl)
theorem ref06_Has.l0.eq (x0 : den (.int .u32)) (x1 : den (.int .i64)) (x2 : den (.int .i64)) : ref06_Has.l0 x0 x1 x2 =
  br (ltI x2 (32 : Int))
   (br (notB (eqI (2 : Int) (0 : Int))) (br (eqI (remI x0 (2 : Int)) (1 : Int))
    (br (eqI x2 x1)
     (some true)
     (br (notB (eqI (2 : Int) (0 : Int))) (ref06_Has.l0 (quoI .u32 x0 (2 : Int)) x1 (addI .i64 x2 (1 : Int))) none))
    (br (notB (eqI (2 : Int) (0 : Int))) (ref06_Has.l0 (quoI .u32 x0 (2 : Int)) x1 (addI .i64 x2 (1 : Int))) none)) none)
   (some false) :=
  (loopB_eq (P := PP) (T := TT) (C := CF) [1, 0, 1, 0, 0] [1, 0, 1, 0, 0] 99 0 ⟨[(0, ⟨(.int .u32), x0⟩), (1, ⟨(.int .i64), x1⟩), (5, ⟨(.int .i64), x2⟩)], []⟩ (blockK 0 (seqK false [1, 1] (BF 99 0 [1, 1]) (finF 99 .bool [] 0)))).trans (by kernel_rfl)
end Go.Proofs.YtjekopgcpikkiaaDoor.AA

set_option linter.unusedVariables false
namespace Go.Abs
/-- A byte of a text. -/
def bt (a : ByteArray) (i : Int) : Int := getS a (toN i)

/-- A text as a list of bytes. -/
abbrev bl (s : ByteArray) : List UInt8 := s.data.toList

theorem loop_eq (bs : ByteArray) : ∀ (d i : Nat) (r : List UInt8), bs.size - i = d → ByteArray.toList.loop bs i r = r.reverse ++ (bl bs).drop i := by
  intro d
  induction d with
  | zero =>
    intro i r h
    unfold ByteArray.toList.loop
    rw [if_neg (by omega), List.drop_eq_nil_of_le (by simp [bl]; show bs.size ≤ i; omega)]
    simp
  | succ d ih =>
    intro i r h
    unfold ByteArray.toList.loop
    rw [if_pos (by omega), ih (i + 1) _ (by omega)]
    have hi : i < (bl bs).length := by simp [bl]; show i < bs.size; omega
    rw [List.drop_eq_getElem_cons hi]
    have : bs.get! i = (bl bs)[i] := by
      have hi' : i < bs.data.size := by show i < bs.size; omega
      simp only [bl, ByteArray.get!]
      rw [getElem!_pos bs.data i hi']
      rfl
    rw [this]
    simp

theorem toList_eq (bs : ByteArray) : bs.toList = bl bs := by
  unfold ByteArray.toList
  rw [loop_eq bs bs.size 0 [] rfl]
  simp

theorem bl_inj {a b : ByteArray} (h : bl a = bl b) : a = b := Go.WideShapes.bytes_inj h
theorem bl_len (a : ByteArray) : (bl a).length = a.size := by
  show a.data.toList.length = a.data.size
  simp
theorem toList_iff {a b : ByteArray} : a.toList = b.toList ↔ a = b := by
  constructor
  · intro h
    rw [toList_eq, toList_eq] at h
    exact bl_inj h
  · intro h
    rw [h]
theorem toList_beq (a b : ByteArray) : (a.toList == b.toList) = decide (a = b) := by
  by_cases h : a = b
  · subst h; simp
  · have : ¬ a.toList = b.toList := fun e => h (toList_iff.1 e)
    simp [h, this]

theorem bt_get (a : ByteArray) (i : Nat) (h : i < (bl a).length) : bt a (i : Int) = ((bl a)[i].toNat : Int) := by
  have h' : i < a.data.size := h
  unfold bt getS toN
  simp only [Int.toNat_natCast, bl, ByteArray.get!]
  rw [getElem!_pos a.data i h']
  rfl

/-- Which of two lists of bytes is ahead. -/
def ltL : List UInt8 → List UInt8 → Bool
  | _, [] => false
  | [], _ :: _ => true
  | x :: xs, y :: ys => if x = y then ltL xs ys else decide (x.toNat < y.toNat)
/-- How many bytes two lists have in common. -/
def comL : List UInt8 → List UInt8 → Nat
  | x :: xs, y :: ys => if x = y then comL xs ys + 1 else 0
  | _, _ => 0
/-- Which of two texts is ahead. -/
def lt (a b : ByteArray) : Bool := ltL (bl a) (bl b)
def com (a b : ByteArray) : Nat := comL (bl a) (bl b)
/-- As Go's Compare tells it. -/
def cmp (a b : ByteArray) : Int := if a = b then 0 else if lt a b then -1 else 1

theorem byte_eq {x y : UInt8} : x = y ↔ (x.toNat : Int) = (y.toNat : Int) := by
  constructor
  · intro h; rw [h]
  · intro h; exact UInt8.toNat_inj.1 (by omega)

theorem ltL_irrefl : ∀ a, ltL a a = false
  | [] => rfl
  | x :: xs => by simp [ltL, ltL_irrefl xs]
theorem ltL_trans : ∀ a b c, ltL a b = true → ltL b c = true → ltL a c = true
  | _, _, [], _, h => by cases ‹List UInt8› <;> simp [ltL] at h
  | _, [], _ :: _, h, _ => by cases ‹List UInt8› <;> simp [ltL] at h
  | [], _ :: _, _ :: _, _, _ => rfl
  | x :: xs, y :: ys, z :: zs, h1, h2 => by
    unfold ltL at h1 h2 ⊢
    by_cases e1 : x = y <;> by_cases e2 : y = z
    · subst e1; subst e2; simp at h1 h2 ⊢; exact ltL_trans _ _ _ h1 h2
    · subst e1; simp [e2] at h2 ⊢; exact h2
    · subst e2; simp [e1] at h1 ⊢; exact h1
    · simp [e1] at h1; simp [e2] at h2
      have : x ≠ z := by intro e; subst e; omega
      simp [this]; omega
theorem ltL_total : ∀ a b, a ≠ b → ltL a b = true ∨ ltL b a = true
  | [], [], h => absurd rfl h
  | [], _ :: _, _ => .inl rfl
  | _ :: _, [], _ => .inr rfl
  | x :: xs, y :: ys, h => by
    unfold ltL
    by_cases e : x = y
    · subst e
      simp
      exact ltL_total xs ys (fun e => h (by rw [e]))
    · have e' : ¬ y = x := fun k => e k.symm
      have hn : x.toNat ≠ y.toNat := fun k => e (UInt8.toNat_inj.1 k)
      simp [e, e']
      omega

theorem lt_irrefl (a : ByteArray) : lt a a = false := ltL_irrefl _
theorem lt_trans {a b c : ByteArray} (h : lt a b = true) (k : lt b c = true) : lt a c = true := ltL_trans _ _ _ h k
theorem lt_total {a b : ByteArray} (h : a ≠ b) : lt a b = true ∨ lt b a = true := ltL_total _ _ (fun e => h (bl_inj e))
theorem lt_asymm {a b : ByteArray} (h : lt a b = true) : lt b a = false := by
  cases k : lt b a with
  | false => rfl
  | true => have := lt_trans h k; rw [lt_irrefl] at this; cases this
theorem lt_ne {a b : ByteArray} (h : lt a b = true) : a ≠ b := by
  intro e; subst e; rw [lt_irrefl] at h; cases h

theorem comL_le : ∀ a b, comL a b ≤ a.length ∧ comL a b ≤ b.length
  | [], _ => by simp [comL]
  | _ :: _, [] => by simp [comL]
  | x :: xs, y :: ys => by
    have := comL_le xs ys
    unfold comL
    split <;> simp <;> omega
theorem com_le (a b : ByteArray) : com a b ≤ a.size ∧ com a b ≤ b.size := by
  have := comL_le (bl a) (bl b)
  rw [bl_len, bl_len] at this
  exact this

theorem cmp_eq {a b : ByteArray} : cmp a b = 0 ↔ a = b := by
  unfold cmp
  by_cases h : a = b
  · simp [h]
  · simp only [h, if_false, iff_false]; split <;> omega
theorem cmp_neg {a b : ByteArray} : cmp a b < 0 ↔ lt a b = true := by
  unfold cmp
  by_cases h : a = b
  · subst h; simp [lt_irrefl]
  · simp only [h, if_false]; split <;> simp_all
theorem cmp_pos {a b : ByteArray} : 0 < cmp a b ↔ lt b a = true := by
  unfold cmp
  by_cases h : a = b
  · subst h; simp [lt_irrefl]
  · simp only [h, if_false]
    rcases lt_total h with k | k
    · simp [k, lt_asymm k]
    · simp [k, lt_asymm k]

/-- What the first bytes in which two texts differ say. -/
theorem ltL_com : ∀ a b, ltL a b = (if comL a b = b.length then false else if comL a b = a.length then true else decide ((a.getD (comL a b) 0).toNat < (b.getD (comL a b) 0).toNat))
  | _, [] => by simp [ltL, comL]
  | [], _ :: _ => by simp [ltL, comL]
  | x :: xs, y :: ys => by
    unfold ltL comL
    by_cases e : x = y
    · subst e
      simp only [if_true, List.length_cons, Nat.add_right_cancel_iff, List.getD_cons_succ]
      exact ltL_com xs ys
    · simp [e]

/-- A beginning of a list: which one is ahead of it. -/
theorem ltL_take : ∀ (a b : List UInt8) (i : Nat), ltL a b = true → (ltL a (b.take i) = true ↔ comL a b < i)
  | a, [], _, h => by cases a <;> simp [ltL] at h
  | [], y :: ys, i, _ => by cases i <;> simp [ltL, comL]
  | x :: xs, y :: ys, 0, _ => by simp [ltL]
  | x :: xs, y :: ys, i + 1, h => by
    unfold ltL at h
    simp only [List.take_succ_cons]
    unfold ltL comL
    by_cases e : x = y
    · simp only [e, if_true] at h ⊢
      rw [ltL_take xs ys i h]; omega
    · simp only [e, if_false] at h ⊢
      simp [h]
theorem ltL_take_not : ∀ (a b : List UInt8) (i : Nat), ltL a b = false → ltL a (b.take i) = false
  | _, _, 0, _ => by simp [ltL]
  | _, [], i + 1, h => by simp [ltL]
  | [], y :: ys, i + 1, h => by simp [ltL] at h
  | x :: xs, y :: ys, i + 1, h => by
    unfold ltL at h
    simp only [List.take_succ_cons]
    unfold ltL
    by_cases e : x = y
    · simp only [e, if_true] at h ⊢
      exact ltL_take_not xs ys i h
    · simp only [e, if_false] at h ⊢
      exact h
theorem ltL_len : ∀ (a b : List UInt8), ltL a b = true → comL a b < b.length
  | a, [], h => by cases a <;> simp [ltL] at h
  | [], y :: ys, _ => by simp [comL]
  | x :: xs, y :: ys, h => by
    unfold ltL at h
    unfold comL
    by_cases e : x = y
    · simp only [e, if_true] at h ⊢
      have := ltL_len xs ys h
      simp; omega
    · simp [e]
/-- What is behind a text and not behind another one is no shorter than the common beginning and one. -/
theorem ltL_short : ∀ (a b c : List UInt8), ltL a c = true → ltL b c = false → comL a b < b.length → ltL a b = true → comL a b < c.length
  | a, b, [], h, _, _, _ => by cases a <;> simp [ltL] at h
  | [], _ :: _, _ :: _, _, _, _, _ => by simp [comL]
  | _, [], _ :: _, _, _, h, _ => by simp at h
  | x :: xs, y :: ys, z :: zs, h1, h2, h3, h4 => by
    unfold ltL at h1 h2 h4
    unfold comL at h3 ⊢
    by_cases e : x = y
    · subst e
      simp only [if_true, List.length_cons] at h3 h4 ⊢
      by_cases e2 : x = z
      · subst e2
        simp only [if_true] at h1 h2
        have := ltL_short xs ys zs h1 h2 (by omega) h4
        omega
      · simp only [e2, if_false] at h1 h2
        simp_all
    · simp [e]

theorem bl_take (b : ByteArray) (i : Nat) : bl (b.extract 0 i) = (bl b).take i := by
  simp [bl]
theorem take_all (b : ByteArray) (i : Nat) (h : b.size ≤ i) : b.extract 0 i = b := by
  apply bl_inj
  rw [bl_take, List.take_of_length_le (by rw [bl_len]; exact h)]
theorem drop_cons (a : ByteArray) (i : Nat) (h : i < a.size) : ∃ x : UInt8, (bl a).drop i = x :: (bl a).drop (i + 1) ∧ bt a i = (x.toNat : Int) := by
  have h' : i < (bl a).length := by rw [bl_len]; exact h
  exact ⟨(bl a)[i], List.drop_eq_getElem_cons h', bt_get a i h'⟩
theorem comL_nil (l : List UInt8) : comL l [] = 0 := by cases l <;> rfl
theorem comL_end (a b : ByteArray) (i : Nat) (h : a.size ≤ i ∨ b.size ≤ i) : comL ((bl a).drop i) ((bl b).drop i) = 0 := by
  rcases h with h | h
  · rw [List.drop_eq_nil_of_le (by rw [bl_len]; exact h)]; rfl
  · rw [List.drop_eq_nil_of_le (show (bl b).length ≤ i by rw [bl_len]; exact h)]; exact comL_nil _
theorem comL_step (a b : ByteArray) (i : Nat) (h : i < a.size) (h' : i < b.size) :
    comL ((bl a).drop i) ((bl b).drop i) = if bt a i = bt b i then comL ((bl a).drop (i + 1)) ((bl b).drop (i + 1)) + 1 else 0 := by
  obtain ⟨x, e, hx⟩ := drop_cons a i h
  obtain ⟨y, e', hy⟩ := drop_cons b i h'
  rw [e, e', hx, hy]
  show (if x = y then _ else _) = _
  by_cases q : x = y
  · rw [if_pos q, if_pos (byte_eq.1 q)]
  · rw [if_neg q, if_neg (fun k => q (byte_eq.2 k))]
theorem ltL_step (a b : ByteArray) (i : Nat) (h : i < a.size) (h' : i < b.size) :
    ltL ((bl a).drop i) ((bl b).drop i) = if bt a i = bt b i then ltL ((bl a).drop (i + 1)) ((bl b).drop (i + 1)) else decide (bt a i < bt b i) := by
  obtain ⟨x, e, hx⟩ := drop_cons a i h
  obtain ⟨y, e', hy⟩ := drop_cons b i h'
  rw [e, e', hx, hy]
  conv => lhs; unfold ltL
  by_cases q : x = y
  · rw [if_pos q, if_pos (byte_eq.1 q)]
  · rw [if_neg q, if_neg (fun k => q (byte_eq.2 k))]
    exact decide_eq_decide.2 (by omega)
theorem ltL_nil (l : List UInt8) : ltL l [] = false := by cases l <;> rfl
theorem ltL_end (a b : ByteArray) (i : Nat) (h1 : i ≤ a.size) (h2 : i ≤ b.size) (h : a.size ≤ i ∨ b.size ≤ i) : ltL ((bl a).drop i) ((bl b).drop i) = decide (a.size < b.size) := by
  by_cases e : b.size ≤ i
  · rw [List.drop_eq_nil_of_le (show (bl b).length ≤ i by rw [bl_len]; exact e), ltL_nil]
    exact (decide_eq_false (by omega)).symm
  · have h3 : a.size ≤ i := by omega
    obtain ⟨y, e', _⟩ := drop_cons b i (by omega)
    rw [List.drop_eq_nil_of_le (by rw [bl_len]; exact h3), e']
    exact (decide_eq_true (by omega)).symm
theorem comL_self : ∀ l, comL l l = l.length
  | [] => rfl
  | x :: xs => by simp [comL, comL_self xs]
theorem com_self (a : ByteArray) : com a a = a.size := by rw [com, comL_self, bl_len]
theorem comL_full : ∀ a b, comL a b = a.length → comL a b = b.length → a = b
  | [], [], _, _ => rfl
  | [], _ :: _, _, h => by simp [comL] at h
  | _ :: _, [], h, _ => by simp [comL] at h
  | x :: xs, y :: ys, h, h' => by
    unfold comL at h h'
    by_cases e : x = y
    · simp only [e, if_true, List.length_cons, Nat.add_right_cancel_iff] at h h'
      rw [e, comL_full xs ys h h']
    · simp [e] at h
theorem com_full {a b : ByteArray} (h : com a b = a.size) (h' : com a b = b.size) : a = b :=
  bl_inj (comL_full _ _ (by rw [bl_len]; exact h) (by rw [bl_len]; exact h'))
theorem comL_ne : ∀ a b, comL a b < a.length → comL a b < b.length → a.getD (comL a b) 0 ≠ b.getD (comL a b) 0
  | [], _, h, _ => by simp at h
  | _ :: _, [], _, h => by simp at h
  | x :: xs, y :: ys, h, h' => by
    unfold comL at h h' ⊢
    by_cases e : x = y
    · simp only [e, if_true, List.length_cons] at h h' ⊢
      rw [List.getD_cons_succ, List.getD_cons_succ]
      exact comL_ne xs ys (by omega) (by omega)
    · simp only [e, if_false]
      simpa using e
theorem bt_getD (a : ByteArray) (i : Nat) (h : i < a.size) : bt a i = (((bl a).getD i 0).toNat : Int) := by
  have h' : i < (bl a).length := by rw [bl_len]; exact h
  rw [bt_get a i h', List.getD_eq_getElem?_getD, List.getElem?_eq_getElem h']
  rfl
theorem lt_com (a b : ByteArray) : lt a b = if com a b = b.size then false else if com a b = a.size then true else decide (bt a (com a b) < bt b (com a b)) := by
  have hle := com_le a b
  have h := ltL_com (bl a) (bl b)
  rw [bl_len, bl_len] at h
  show ltL (bl a) (bl b) = _
  rw [h]
  show (if com a b = b.size then _ else if com a b = a.size then _ else _) = _
  by_cases h1 : com a b = b.size
  · rw [if_pos h1, if_pos h1]
  · rw [if_neg h1, if_neg h1]
    by_cases h2 : com a b = a.size
    · rw [if_pos h2, if_pos h2]
    · rw [if_neg h2, if_neg h2, bt_getD a _ (by omega), bt_getD b _ (by omega)]
      exact decide_eq_decide.2 (by unfold com; omega)
theorem com_ne {a b : ByteArray} (h1 : com a b ≠ a.size) (h2 : com a b ≠ b.size) : bt a (com a b) ≠ bt b (com a b) := by
  have hle := com_le a b
  rw [bt_getD a _ (by omega), bt_getD b _ (by omega)]
  have h := comL_ne (bl a) (bl b) (by rw [bl_len]; show com a b < _; omega) (by rw [bl_len]; show com a b < _; omega)
  intro e
  exact h (byte_eq.2 e)
theorem cmp_com (a b : ByteArray) : cmp a b = if com a b = a.size then (if com a b = b.size then 0 else -1) else if com a b = b.size then 1 else if bt a (com a b) > bt b (com a b) then 1 else -1 := by
  by_cases e : a = b
  · subst e
    unfold cmp
    rw [if_pos rfl, if_pos (com_self a), if_pos (com_self a)]
  · unfold cmp
    rw [if_neg e, lt_com]
    by_cases h1 : com a b = a.size
    · have h2 : com a b ≠ b.size := fun k => e (com_full h1 k)
      rw [if_pos h1, if_neg h2, if_neg h2, if_pos h1, if_pos rfl]
    · rw [if_neg h1, if_neg h1]
      by_cases h2 : com a b = b.size
      · rw [if_pos h2, if_pos h2]; rfl
      · have := com_ne h1 h2
        rw [if_neg h2, if_neg h2]
        by_cases h3 : bt a (com a b) > bt b (com a b)
        · rw [if_pos h3, if_neg (by simp; omega)]
        · rw [if_neg h3, if_pos (by simp; omega)]
theorem lt_com_lt {a b : ByteArray} (h : lt a b = true) : com a b < b.size := by
  have := ltL_len (bl a) (bl b) h
  rw [bl_len] at this
  exact this
theorem lt_take {a b : ByteArray} (h : lt a b = true) (i : Nat) : lt a (b.extract 0 i) = true ↔ com a b < i := by
  unfold lt
  rw [bl_take]
  exact ltL_take _ _ i h
theorem lt_take_not {a b : ByteArray} (h : lt a b = false) (i : Nat) : lt a (b.extract 0 i) = false := by
  unfold lt
  rw [bl_take]
  exact ltL_take_not _ _ i h
theorem lt_short {a b c : ByteArray} (h1 : lt a c = true) (h2 : lt b c = false) (h4 : lt a b = true) : com a b < c.size := by
  have := ltL_short (bl a) (bl b) (bl c) h1 h2 (by rw [bl_len]; exact lt_com_lt h4) h4
  rw [bl_len] at this
  exact this
/-- What is ahead of a text with a zero byte behind it: what is ahead of the text, and the text. -/
theorem ltL_zero : ∀ a b : List UInt8, ltL b (a ++ [0]) = (ltL b a || decide (b = a))
  | [], [] => rfl
  | [], y :: ys => by
    simp only [List.nil_append]
    unfold ltL
    by_cases e : y = 0
    · subst e; cases ys <;> simp [ltL]
    · simp [e]
  | x :: xs, [] => rfl
  | x :: xs, y :: ys => by
    simp only [List.cons_append]
    unfold ltL
    by_cases e : y = x
    · subst e
      simp only [if_true, ltL_zero xs ys, List.cons.injEq, true_and]
    · simp [e]
theorem lt_zero (a b : ByteArray) : lt b (a ++ (⟨#[0]⟩ : ByteArray)) = (lt b a || decide (b = a)) := by
  have h := ltL_zero (bl a) (bl b)
  have e : bl (a ++ (⟨#[0]⟩ : ByteArray)) = bl a ++ [0] := by simp [bl]
  unfold lt
  rw [e, h]
  congr 1
  exact decide_eq_decide.2 ⟨fun q => bl_inj q, fun q => by rw [q]⟩
end Go.Abs
set_option autoImplicit false
set_option linter.unusedVariables false
namespace Go.Abs
section
variable {A R : Type}
/-- (No proofs by computing: so that the kernel doesn't unfold what stands in them.) -/
theorem bnd_some (a : A) (K : A → Option R) : bnd (some a) K = K a := by
  have h : ∀ o, o = K a → bnd (some a) K = o := fun o h => h ▸ rfl
  exact h _ rfl
theorem br_t (x y : Option R) : br true x y = x := by
  have h : ∀ o, o = x → br true x y = o := fun o h => h ▸ rfl
  exact h _ rfl
theorem br_f (x y : Option R) : br false x y = y := by
  have h : ∀ o, o = y → br false x y = o := fun o h => h ▸ rfl
  exact h _ rfl
theorem br_if (p : Prop) [Decidable p] (x y : Option R) : br (decide p) x y = if p then x else y := by
  by_cases h : p
  · rw [if_pos h, decide_eq_true h, br_t]
  · rw [if_neg h, decide_eq_false h, br_f]
theorem br_b (b : Bool) (x y : Option R) : br b x y = if b = true then x else y := by
  cases b
  · rw [br_f, if_neg (by simp)]
  · rw [br_t, if_pos rfl]
theorem both_self (x : Option R) : both x x = x := by
  unfold both
  rw [if_pos rfl]
theorem eqI_d (a b : Int) : eqI a b = decide (a = b) := rfl
theorem ltI_d (a b : Int) : ltI a b = decide (a < b) := rfl
theorem leI_d (a b : Int) : leI a b = decide (a ≤ b) := rfl
theorem notB_d (p : Prop) [Decidable p] : notB (decide p) = decide (¬ p) := by by_cases h : p <;> simp [notB, h]
theorem andB_d (p q : Prop) [Decidable p] [Decidable q] : andB (decide p) (decide q) = decide (p ∧ q) := by by_cases h : p <;> by_cases k : q <;> simp [andB, h, k]
theorem eqS_d (a b : ByteArray) : eqS a b = decide (a = b) := toList_beq a b
theorem ofN_d (n : Nat) : ofN n = (n : Int) := rfl
theorem toN_d (n : Nat) : toN (n : Int) = n := Int.toNat_natCast n
theorem lenL_d (t : Ty) (l : List (den t)) : lenL t l = l.length := rfl
theorem lenS_d (s : ByteArray) : lenS s = s.size := rfl
theorem appL_d (t : Ty) (a b : List (den t)) : appL t a b = a ++ b := rfl
theorem fitL_d (t : Ty) (l : List (den t)) : fitL t l = decide (l.length ≤ 1073741824) := rfl
theorem ixL_d (t : Ty) (l : List (den t)) (i : Nat) (h : i < l.length) : ixL t l (i : Int) = l[i] := by
  unfold ixL
  rw [Int.toNat_natCast, List.getD_eq_getElem?_getD, List.getElem?_eq_getElem h]
  rfl
theorem wrap_i64_id {x : Int} (h0 : -9223372036854775808 ≤ x) (h1 : x ≤ 9223372036854775807) : IntKind.i64.wrap x = x := by
  rw [IntKind.wrap_i64]; omega
theorem addI_d {a b : Int} (h0 : -9223372036854775808 ≤ a + b) (h1 : a + b ≤ 9223372036854775807) : addI .i64 a b = a + b := wrap_i64_id h0 h1
theorem subI_d {a b : Int} (h0 : -9223372036854775808 ≤ a - b) (h1 : a - b ≤ 9223372036854775807) : subI .i64 a b = a - b := wrap_i64_id h0 h1
theorem add1 (n : Nat) (h : n < 9223372036854775807) : addI .i64 (n : Int) 1 = ((n + 1 : Nat) : Int) := by
  rw [addI_d (by omega) (by omega)]; omega
theorem sub1 (n : Nat) (h : 0 < n) (h' : n < 9223372036854775807) : subI .i64 (n : Int) 1 = ((n - 1 : Nat) : Int) := by
  rw [subI_d (by omega) (by omega)]; omega
theorem maxI_d (a b : Int) : maxI a b = max a b := by unfold maxI; rw [Int.max_def]; split <;> split <;> omega
theorem minI_d (a b : Int) : minI a b = min a b := by unfold minI; rw [Int.min_def]; split <;> split <;> omega
theorem subL0 (t : Ty) (l : List (den t)) (j : Nat) : subL t l 0 j = l.take j := by
  unfold subL
  rw [List.drop_zero, Nat.sub_zero]
theorem getS_bt (a : ByteArray) (i : Int) : getS a (toN i) = bt a i := rfl
theorem some_int {a b : Int} (h : a = b) : (some a : Option Int) = some b := by rw [h]
theorem some_bool {a b : Bool} (h : a = b) : (some a : Option Bool) = some b := by rw [h]
theorem subS_d (a : ByteArray) (i j : Nat) : subS a i j = a.extract i j := rfl
end
end Go.Abs
