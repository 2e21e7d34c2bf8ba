/- What the operations on memory do, as the interpreter tells it. No conditions. -/
import Derived.Test.YtobfcaejpcpboaaOps1
set_option autoImplicit false
set_option linter.unusedVariables false
namespace Go.Abs

section
variable {P : Program} {E : Env} {w : World} {Fr : Nat → Prop} {mu : Nat → Loc} {s : St} {a : Act}

theorem put2_some {ti : TI} {d d' : Dyn} {s s' : St} {b : Bool} (h : put2 ti d s = some (b, d', s')) : ti.fits d.t = true ∧ 0 < ti.siz ∧ b = true ∧ d' = d ∧ s' = s := by
  unfold put2 at h
  split at h
  · rename_i hc
    simp only [Bool.and_eq_true, decide_eq_true_eq] at hc
    injection h with h
    injection h with h1 h2
    injection h2 with h2 h3
    exact ⟨hc.1, hc.2, h1.symm, h2.symm, h3.symm⟩
  · cases h
theorem obj_some {s : St} {i : Nat} {t : OTy} {x : denO t} (h : s.obj i = ⟨t, x⟩) (hne : t ≠ .gone) : s.heap[i]? = some (⟨t, x⟩ : AObj) := getD_some h hne
theorem box_CD (H : Rep E w Fr mu s a) {i : Nat} {u : Ty} {x : den u} (h : s.heap[i]? = some (⟨.box u, x⟩ : AObj)) : ∃ (cells : List Value) (e : TypeId), w.heap[(mu i).loc]? = some (.cells cells.toArray e (0, 0)) ∧ CD w Fr mu (· < s.heap.length) ⟨u, x⟩ cells ∧ At w (mu i).loc 0 cells := by
  obtain ⟨hc, cells, e, hcell, hr⟩ := H.si.obj i _ h
  refine ⟨cells, e, hcell, ⟨hc, H.si.nm i u x h, hr⟩, fun k v hk => ?_⟩
  rw [Nat.zero_add, cell_of_row w _ k _ e (0, 0) hcell]
  simpa using hk
theorem row_CD (H : Rep E w Fr mu s a) {i : Nat} {u : Ty} {l : List (den u)} (hl : rowOf s u i = some l) {n : Int} {off : Nat} {v : List Value} (hr : Rp w Fr mu (.rptr u i off) n v) :
    ∃ cells, CD w Fr mu (· < s.heap.length) ⟨u, ixL u l n⟩ cells ∧ At w (mu i).loc (n.toNat * u.width) cells ∧ v = [.pointer (some ⟨(mu i).loc, n.toNat * u.width + off, none⟩)] ∧ 0 ≤ n ∧ n < l.length := by
  obtain ⟨e, f, ho⟩ := rowOf_some hl
  obtain ⟨b, m, c, hv, h0, h1, hp⟩ := hr
  obtain ⟨cells, h2, h3, hb, hn⟩ := row_at (Fr' := Fr) (fun _ => id) (H.si.obj i _ ho) hv h0 h1
  have he := (H.si.obj i _ ho).1
  subst hb
  exact ⟨cells, ⟨Ty.elt_cel he, u.pure_okN (Ty.elt_pure he), h2⟩, h3, hp, h0, by rw [← hn]; exact h1⟩
theorem arr_CD {p : Nat → Prop} {d : Dyn} {base : Nat} {u : Ty} {m : Nat} {l : List (den u)} {cells : List Value} (hd : CD w Fr mu p d cells) (h : arrAt d base m u = some l) :
    u.elt = true ∧ l.length = m ∧ ∃ l1 lp l2, cells = l1 ++ (lp ++ l2) ∧ l1.length = base ∧ rows (fun x l => Rp w Fr mu u x l) l lp := by
  have h' := as_some h
  unfold compAt at h'
  obtain ⟨l1, lp, l2, e, hl1, hc⟩ := part_ok (off := base) (n := 0) (st := false) hd (by rw [h']; rfl) (by simp) (by simp)
  rw [h'] at hc
  obtain ⟨he, hl, hr⟩ := hc.rp
  exact ⟨he, hl, l1, lp, l2, e, hl1, hr⟩
theorem arr_at {p : Nat → Prop} {d : Dyn} {base : Nat} {u : Ty} {m : Nat} {l : List (den u)} {cells : List Value} (hd : CD w Fr mu p d cells) (h : arrAt d base m u = some l) {n : Int} (h0 : 0 ≤ n) (h1 : n < l.length) :
    ∃ A c B, cells = A ++ (c ++ B) ∧ A.length = base + n.toNat * u.width ∧ CD w Fr mu p ⟨u, ixL u l n⟩ c := by
  obtain ⟨he, hl, l1, lp, l2, e, hl1, hr⟩ := arr_CD hd h
  have hx : l[n.toNat]? = some (ixL u l n) := by
    have : n.toNat < l.length := by omega
    unfold ixL
    rw [List.getD_eq_getElem?_getD, List.getElem?_eq_getElem this]; rfl
  obtain ⟨c, hc, hcl, A, B, e2, hA⟩ := rows_get (n := u.width) (fun x l h => Rp_len u x l (Ty.elt_cel he) h) hr hx
  exact ⟨l1 ++ A, c, B ++ l2, by rw [e, e2]; simp, by rw [List.length_append, hl1, hA], Ty.elt_cel he, u.pure_okN (Ty.elt_pure he), hc⟩

end
end Go.Abs
