/- The statement InnerBinds, out of its plain law and of what the interpreter tells of the program's functions. No conditions. -/
import Derived.Test.YtimgaglpempfeaaGreatRows
import Derived.Test.YtimgaglpempfeaaGreatM2
import Derived.Test.YtimgaglpempfeaaGreatM3
import Derived.Test.YtimgaglpempfeaaGreatM5
namespace Go.Proofs.YtimgaglpempfeaaGreat.innerBinds
open Go.Abs Go.ChangeShapes Go.WideShapes Go.ChangeAt Go.RowKit Go.Proofs.YtimgaglpempfeaaGreat.AB
set_option linter.unusedVariables false
theorem own : ownKnob Tryz.prog.godebug = none := by kernel_rfl
theorem laidOut : laidOutB Tryz.prog = true := by kernel_rfl
set_option maxRecDepth 100000 in
theorem lifted (os : Os) (started : os.Started) (H : Type) (enc : TypeId × Value → H) :
    ReturnsInHanded {} Tryz.checked os 4 .any (Rows.innerBindsSpec.pre6 enc Tryz.prog Tryz.f4 Rows.innerBindsRow.domain false) (Rows.innerBindsSpec.post enc Tryz.prog Tryz.f4 false true false false) := by
  refine returnsInHanded_of_change_sized (C := Tryz.checked) own started (by kernel_rfl) Tryz.func4
    (ChangeSpec.witness6 (enc := enc) (C := Tryz.checked) false ⟨#[], #[.agg #[.int .u16 0, .int .u16 0, .int .u16 0, .int .i64 0, .string ByteArray.empty, .string ByteArray.empty, .int .u32 0, .slice none 0 0, .int .i64 0, .slice none 0 0, .int .i64 0, .int .i64 0, .int .i64 0, .string ByteArray.empty, .string ByteArray.empty, .int .u32 0, .slice none 0 0, .int .i64 0, .slice none 0 0, .int .i64 0, .int .i64 0, .int .i64 0, .string ByteArray.empty, .string ByteArray.empty, .int .u32 0, .slice none 0 0, .int .i64 0, .slice none 0 0, .int .i64 0, .int .i64 0, .string ByteArray.empty, .string ByteArray.empty, .int .i64 0, .int .i64 0]], []⟩ 8 (by kernel_rfl) (by kernel_rfl) (by kernel_rfl) (by kernel_rfl)) ?_
  intro W base args ds gs before hval0 hW hcnd hsz0 _
  have hval : ∀ (j : Nat) t v, Tryz.f4.params[j]? = some t → args[j]? = some v → Value.okWide Tryz.prog W .any base t v := hval0
  have hW' := hW
  obtain ⟨p, q, hA0, hV, rfl, hfz, hnd⟩ := hW
  have hA : DataW.TrodAll enc Tryz.prog W 0 (fun _ => true) true Tryz.f4.params.toList args.toList ds p := hA0
  rw [Tryz.params4] at hA hval
  obtain ⟨v0, vs0, d0, ds0, p0, q0, hargs, rfl, rfl, h0, r0⟩ := trodAll_cons hA
  obtain ⟨rfl, rfl, rfl⟩ := trodAll_nil r0
  obtain rfl : args = #[v0] := by cases args; simp_all
  obtain ⟨rfl, rfl⟩ := trodVars_none hV
  have lt0 : ∀ x ∈ p0, x.block < W.heap.size := by obtain ⟨m, hm⟩ := h0; exact DataW.trod_lt m _ _ _ hm
  obtain ⟨y0, k0, w0⟩ := openP (mu := fun _ => default) (show opT Tryz.prog 9 30 = some tboscagelaw29Case from by kernel_rfl) (hval 0 30 v0 rfl rfl) h0
  have hk : callW PP TT RR 4 [⟨tboscagelaw29Case, y0⟩] [] .bool [] = some true := Pure.InnerBinds y0 w0
  refine (law_calls fits (vs := [v0]) hk rfl ?_).mono fun e W' ⟨he, bel⟩ => ?_
  · intro i d v hd hv
    match i, hd, hv with
    | 0, hd, hv =>
      injection hd with hd
      injection hv with hv
      subst hd; subst hv
      exact ⟨k0, rfl⟩
    | i + 1, hd, hv => simp at hd
  subst he
  exact ⟨_, rfl, _, _, _, [], _, [], hW', trodAll_mk1 (shut_bool Tryz.underlying4 _), (trodAll_cons_mk (Below.trod laidOut (by kernel_rfl) (of_decide_eq_true (by kernel_rfl)) h0 bel lt0) trodAll_mk0), rfl, bel.frame _, fun h => by cases h⟩
theorem over : Rows.innerBindsRow.holds Tryz.pinned (OpenSpec.ofChange Rows.innerBindsSpec) :=
  OpenClaim.holds_of_wide 4 Tryz.f4 rfl rfl rfl rfl rfl rfl rfl ⟨rfl, rfl, rfl, rfl, rfl⟩ rfl rfl rfl rfl rfl (by kernel_rfl) Tryz.func4 (by kernel_rfl)
    (of_decide_eq_true (by kernel_rfl)) (by unfold Func.isWrapper; first | (rw [if_pos (by decide +kernel)]; kernel_rfl) | (rw [if_neg (by decide +kernel)]; exact ⟨rfl, rfl⟩))
    (fun os started H enc _ => lifted os started H enc)
theorem proved : Rows.InnerBindsSaid := over
#print axioms proved
end Go.Proofs.YtimgaglpempfeaaGreat.innerBinds
namespace Go.Proofs.YtimgaglpempfeaaGreat
/-- The row, under a short name, for the claim. -/
theorem innerBinds_holds : Rows.InnerBindsSaid := innerBinds.proved
end Go.Proofs.YtimgaglpempfeaaGreat
