/- The statement MergeOld, out of its plain law and of what the interpreter tells of the program's functions. No conditions. -/
import Derived.Test.YtmopkbmcilolgaaGreatRows
import Derived.Test.YtmopkbmcilolgaaGreatM2
import Derived.Test.YtmopkbmcilolgaaGreatM6
namespace Go.Proofs.YtmopkbmcilolgaaGreat.mergeOld
open Go.Abs Go.ChangeShapes Go.WideShapes Go.ChangeAt Go.RowKit Go.Proofs.YtmopkbmcilolgaaGreat.AI
set_option linter.unusedVariables false
theorem own : ownKnob Tryz.prog.godebug = none := by kernel_rfl
theorem laidOut : laidOutB Tryz.prog = true := by kernel_rfl
set_option maxRecDepth 100000 in
theorem lifted (os : Os) (started : os.Started) (H : Type) (enc : TypeId × Value → H) :
    ReturnsInHanded {} Tryz.checked os 5 .any (Rows.mergeOldSpec.pre6 enc Tryz.prog Tryz.f5 Rows.mergeOldRow.domain false) (Rows.mergeOldSpec.post enc Tryz.prog Tryz.f5 false true false false) := by
  refine returnsInHanded_of_change_sized (C := Tryz.checked) own started (by kernel_rfl) Tryz.func5
    (ChangeSpec.witness6 (enc := enc) (C := Tryz.checked) false ⟨#[], #[.slice none 0 0, .string ByteArray.empty], []⟩ 8 (by kernel_rfl) (by kernel_rfl) (by kernel_rfl) (by kernel_rfl)) ?_
  intro W base args ds gs before hval0 hW hcnd hsz0 _
  have hval : ∀ (j : Nat) t v, Tryz.f5.params[j]? = some t → args[j]? = some v → Value.okWide Tryz.prog W .any base t v := hval0
  have hW' := hW
  obtain ⟨p, q, hA0, hV, rfl, hfz, hnd⟩ := hW
  have hA : DataW.TrodAll enc Tryz.prog W 0 (fun _ => true) true Tryz.f5.params.toList args.toList ds p := hA0
  rw [Tryz.params5] at hA hval
  obtain ⟨v0, vs0, d0, ds0, p0, q0, hargs, rfl, rfl, h0, r0⟩ := trodAll_cons hA
  obtain ⟨v1, vs1, d1, ds1, p1, q1, rfl, rfl, rfl, h1, r1⟩ := trodAll_cons r0
  obtain ⟨rfl, rfl, rfl⟩ := trodAll_nil r1
  obtain rfl : args = #[v0, v1] := by cases args; simp_all
  obtain ⟨rfl, rfl⟩ := trodVars_none hV
  have lt0 : ∀ x ∈ p0, x.block < W.heap.size := by obtain ⟨m, hm⟩ := h0; exact DataW.trod_lt m _ _ _ hm
  obtain ⟨y0, k0, w0⟩ := openP (mu := fun _ => default) (show opT Tryz.prog 9 22 = some (.list tapiPair) from by kernel_rfl) (hval 0 22 v0 rfl rfl) h0
  have lt1 : ∀ x ∈ p1, x.block < W.heap.size := by obtain ⟨m, hm⟩ := h1; exact DataW.trod_lt m _ _ _ hm
  obtain ⟨y1, k1, w1⟩ := openP (mu := fun _ => default) (show opT Tryz.prog 9 9 = some .str from by kernel_rfl) (hval 1 9 v1 rfl rfl) h1
  have hk : callW PP TT RR 5 [⟨(.list tapiPair), y0⟩, ⟨.str, y1⟩] [] .bool [] = some true := Pure.MergeOld y0 y1 w0 w1
  refine (law_calls fits (vs := [v0, v1]) hk rfl ?_).mono fun e W' ⟨he, bel⟩ => ?_
  · intro i d v hd hv
    match i, hd, hv with
    | 0, hd, hv =>
      injection hd with hd
      injection hv with hv
      subst hd; subst hv
      exact ⟨k0, rfl⟩
    | 1, hd, hv =>
      injection hd with hd
      injection hv with hv
      subst hd; subst hv
      exact ⟨k1, rfl⟩
    | i + 2, hd, hv => simp at hd
  subst he
  exact ⟨_, rfl, _, _, _, [], _, [], hW', trodAll_mk1 (shut_bool Tryz.underlying4 _), (trodAll_cons_mk (Below.trod laidOut (by kernel_rfl) (of_decide_eq_true (by kernel_rfl)) h0 bel lt0) (trodAll_cons_mk (Below.trod laidOut (by kernel_rfl) (of_decide_eq_true (by kernel_rfl)) h1 bel lt1) trodAll_mk0)), rfl, bel.frame _, fun h => by cases h⟩
theorem over : Rows.mergeOldRow.holds Tryz.pinned (OpenSpec.ofChange Rows.mergeOldSpec) :=
  OpenClaim.holds_of_wide 5 Tryz.f5 rfl rfl rfl rfl rfl rfl rfl ⟨rfl, rfl, rfl, rfl, rfl⟩ rfl rfl rfl rfl rfl (by kernel_rfl) Tryz.func5 (by kernel_rfl)
    (of_decide_eq_true (by kernel_rfl)) (by unfold Func.isWrapper; first | (rw [if_pos (by decide +kernel)]; kernel_rfl) | (rw [if_neg (by decide +kernel)]; exact ⟨rfl, rfl⟩))
    (fun os started H enc _ => lifted os started H enc)
theorem proved : Rows.MergeOldSaid := over
#print axioms proved
end Go.Proofs.YtmopkbmcilolgaaGreat.mergeOld
namespace Go.Proofs.YtmopkbmcilolgaaGreat
/-- The row, under a short name, for the claim. -/
theorem mergeOld_holds : Rows.MergeOldSaid := mergeOld.proved
end Go.Proofs.YtmopkbmcilolgaaGreat
