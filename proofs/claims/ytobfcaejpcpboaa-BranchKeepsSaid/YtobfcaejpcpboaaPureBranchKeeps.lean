/- The plain law of the statement BranchKeeps. No conditions but what is known of whatever comes in. -/
import Derived.Test.YtobfcaejpcpboaaP19wU
set_option linter.unusedVariables false
set_option linter.unusedSimpArgs false
namespace Go.Proofs.Ytobfcaejpcpboaa.Pure
open Go.Abs Go.Proofs.Ytobfcaejpcpboaa.AU
theorem wf_u8' {a : Int} (h : (Lit.int .u8 a).wf = true) : 0 ≤ a ∧ a < 256 := by
  simp [Lit.wf, IntKind.min, IntKind.max, IntKind.bits, IntKind.signed] at h
  omega
theorem wf_u16' {a : Int} (h : (Lit.int .u16 a).wf = true) : 0 ≤ a ∧ a < 65536 := by
  simp [Lit.wf, IntKind.min, IntKind.max, IntKind.bits, IntKind.signed] at h
  omega
theorem mod32 {a : Int} (h0 : 0 ≤ a) (h1 : a < 256) : wrapI .i64 (remI a 32) = a % 32 := by
  unfold wrapI remI
  rw [Int.tmod_eq_emod_of_nonneg h0]
  exact wrap_i64_id (by omega) (by omega)
theorem BranchKeeps (a0 : den tapiNode) (a1 : den (.int .u8)) (a2 : den (.int .u8)) (a3 : den (.int .u16)) (h0 : wfD tapiNode a0) (h1 : wfD (.int .u8) a1) (h2 : wfD (.int .u8) a2) (h3 : wfD (.int .u16) a3) : law19_BranchKeeps a0 a1 a2 a3 = some true := by
  have hf := few_okN h0
  obtain ⟨p0, p1⟩ := wf_u8' h1
  obtain ⟨q0, q1⟩ := wf_u8' h2
  obtain ⟨r0, r1⟩ := wf_u16' h3
  have e1 := mod32 p0 p1
  have e2 := mod32 q0 q1
  have e3 : addI .i64 1 (wrapI .i64 a3) = 1 + a3 := by
    have : wrapI .i64 a3 = a3 := wrap_i64_id (by omega) (by omega)
    rw [this]
    exact addI_d (by omega) (by omega)
  obtain ⟨x, hx⟩ : ∃ x : Int, x = a1 % 32 := ⟨_, rfl⟩
  obtain ⟨y, hy⟩ : ∃ y : Int, y = a2 % 32 := ⟨_, rfl⟩
  obtain ⟨r, hrr⟩ : ∃ r : Int, r = 1 + a3 := ⟨_, rfl⟩
  rw [← hx] at e1
  rw [← hy] at e2
  rw [← hrr] at e3
  have hx0 : 0 ≤ x := by omega
  have hx1 : x < 32 := by omega
  have hy0 : 0 ≤ y := by omega
  have hy1 : y < 32 := by omega
  have hr : ¬ r = 0 := by omega
  clear hx hy hrr
  obtain ⟨m, ks, sz, bi, hb, hbr, hof, _⟩ := branch_spec (few a0) hf
  obtain ⟨mw, kw, hbw, hwith, _, hcw⟩ := with_spec hb hbr x r
  obtain ⟨mo, ko, hbo, hwithout, hco⟩ := without_spec hb hbr x
  have cw := fun i => child_any hbw (branch_self hbw) i
  have co := fun i => child_any hbo (branch_self hbo) i
  have cn := fun i => child_any hb hbr i
  have in32 : ∀ {m : Nat} {ks : List Int} {i : Int}, 0 ≤ i → i < 32 → chI m ks i = chAt m ks i.toNat := fun h h' => by unfold chI; rw [if_pos ⟨h, h'⟩]
  have w1 : chI mw kw x = r := by rw [in32 hx0 hx1, hcw x.toNat (by omega), if_pos ⟨by omega, hr⟩]
  have o1 : chI mo ko x = 0 := by rw [in32 hx0 hx1, hco x.toNat (by omega), if_pos (by omega)]
  have j1 : law19_BranchKeeps.j1 x y false (few a0) (bN mw kw sz bi) (bN mo ko sz bi) = some true := by
    rw [law19_BranchKeeps.j1.eq, br_f, eqI_d, br_if]
    by_cases e : x = y
    · rw [if_pos e]
    · rw [if_neg e, cw, bnd_some, cn, bnd_some, co, bnd_some, bnd_some]
      have w2 : chI mw kw y = chI m ks y := by rw [in32 hy0 hy1, in32 hy0 hy1, hcw y.toNat (by omega), if_neg (by omega)]
      have o2 : chI mo ko y = chI m ks y := by rw [in32 hy0 hy1, in32 hy0 hy1, hco y.toNat (by omega), if_neg (by omega)]
      rw [w2, o2, eqI_d, decide_eq_true rfl, br_t]
  have j0 : law19_BranchKeeps.j0 a3 x y (few a0) (bN mw kw sz bi) (bN mo ko sz bi) = some true := by
    rw [law19_BranchKeeps.j0.eq, e3, cw, bnd_some, co, bnd_some, may_any _ hbw.node, hbw.may, bnd_some, may_any _ hbo.node, hbo.may, bnd_some, w1, o1]
    have n1 : ∀ z : Int, notB (eqI z z) = false := fun z => by rw [eqI_d, decide_eq_true rfl]; rfl
    rw [n1, br_f, n1, br_f, br_f]
    exact j1
  have n32 : notB (eqI 32 0) = true := rfl
  rw [law19_BranchKeeps.eq, works19, bnd_some, show notB true = false from rfl, br_f, Few_wf h0, bnd_some, n32, br_t, br_t, e1, e2, e3]
  simp only [hwith, hwithout, bnd_some, j0, both_self]
end Go.Proofs.Ytobfcaejpcpboaa.Pure
