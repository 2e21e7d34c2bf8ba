/- The statement SplitOld, out of its plain law and of what the interpreter tells of the program's functions. No conditions. -/
import Derived.Test.YtmopkbmcilolgaaGreatRows
import Derived.Test.YtmopkbmcilolgaaGreatM2
import Derived.Test.YtmopkbmcilolgaaGreatM6
namespace Go.Proofs.YtmopkbmcilolgaaGreat.splitOld
open Go.Abs Go.ChangeShapes Go.WideShapes Go.ChangeAt Go.RowKit Go.Proofs.YtmopkbmcilolgaaGreat.AH
set_option linter.unusedVariables false
theorem own : ownKnob Tryz.prog.godebug = none := by kernel_rfl
theorem laidOut : laidOutB Tryz.prog = true := by kernel_rfl
set_option maxRecDepth 100000 in
theorem lifted (os : Os) (started : os.Started) (H : Type) (enc : TypeId × Value → H) :
    ReturnsInHanded {} Tryz.checked os 8 .any (Rows.splitOldSpec.pre6 enc Tryz.prog Tryz.f8 Rows.splitOldRow.domain false) (Rows.splitOldSpec.post enc Tryz.prog Tryz.f8 false true false false) := by
  refine returnsInHanded_of_change_sized (C := Tryz.checked) own started (by kernel_rfl) Tryz.func8
    (ChangeSpec.witness6 (enc := enc) (C := Tryz.checked) false ⟨#[], #[.slice none 0 0, .int .u8 0, .string ByteArray.empty, .string ByteArray.empty, .string ByteArray.empty], []⟩ 8 (by kernel_rfl) (by kernel_rfl) (by kernel_rfl) (by kernel_rfl)) ?_
  intro W base args ds gs before hval0 hW hcnd hsz0 _
  have hval : ∀ (j : Nat) t v, Tryz.f8.params[j]? = some t → args[j]? = some v → Value.okWide Tryz.prog W .any base t v := hval0
  have hW' := hW
  obtain ⟨p, q, hA0, hV, rfl, hfz, hnd⟩ := hW
  have hA : DataW.TrodAll enc Tryz.prog W 0 (fun _ => true) true Tryz.f8.params.toList args.toList ds p := hA0
  rw [Tryz.params8] at hA hval
  obtain ⟨v0, vs0, d0, ds0, p0, q0, hargs, rfl, rfl, h0, r0⟩ := trodAll_cons hA
  obtain ⟨v1, vs1, d1, ds1, p1, q1, rfl, rfl, rfl, h1, r1⟩ := trodAll_cons r0
  obtain ⟨v2, vs2, d2, ds2, p2, q2, rfl, rfl, rfl, h2, r2⟩ := trodAll_cons r1
  obtain ⟨v3, vs3, d3, ds3, p3, q3, rfl, rfl, rfl, h3, r3⟩ := trodAll_cons r2
  obtain ⟨v4, vs4, d4, ds4, p4, q4, rfl, rfl, rfl, h4, r4⟩ := trodAll_cons r3
  obtain ⟨rfl, rfl, rfl⟩ := trodAll_nil r4
  obtain rfl : args = #[v0, v1, v2, v3, v4] := by cases args; simp_all
  obtain ⟨rfl, rfl⟩ := trodVars_none hV
  have lt0 : ∀ x ∈ p0, x.block < W.heap.size := by obtain ⟨m, hm⟩ := h0; exact DataW.trod_lt m _ _ _ hm
  obtain ⟨y0, k0, w0⟩ := openP (mu := fun _ => default) (show opT Tryz.prog 9 22 = some (.list tapiPair) from by kernel_rfl) (hval 0 22 v0 rfl rfl) h0
  have lt1 : ∀ x ∈ p1, x.block < W.heap.size := by obtain ⟨m, hm⟩ := h1; exact DataW.trod_lt m _ _ _ hm
  obtain ⟨y1, k1, w1⟩ := openP (mu := fun _ => default) (show opT Tryz.prog 9 5 = some (.int .u8) from by kernel_rfl) (hval 1 5 v1 rfl rfl) h1
  have lt2 : ∀ x ∈ p2, x.block < W.heap.size := by obtain ⟨m, hm⟩ := h2; exact DataW.trod_lt m _ _ _ hm
  obtain ⟨y2, k2, w2⟩ := openP (mu := fun _ => default) (show opT Tryz.prog 9 9 = some .str from by kernel_rfl) (hval 2 9 v2 rfl rfl) h2
  have lt3 : ∀ x ∈ p3, x.block < W.heap.size := by obtain ⟨m, hm⟩ := h3; exact DataW.trod_lt m _ _ _ hm
  obtain ⟨y3, k3, w3⟩ := openP (mu := fun _ => default) (show opT Tryz.prog 9 9 = some .str from by kernel_rfl) (hval 3 9 v3 rfl rfl) h3
  have lt4 : ∀ x ∈ p4, x.block < W.heap.size := by obtain ⟨m, hm⟩ := h4; exact DataW.trod_lt m _ _ _ hm
  obtain ⟨y4, k4, w4⟩ := openP (mu := fun _ => default) (show opT Tryz.prog 9 9 = some .str from by kernel_rfl) (hval 4 9 v4 rfl rfl) h4
  have hk : callW PP TT RR 8 [⟨(.list tapiPair), y0⟩, ⟨(.int .u8), y1⟩, ⟨.str, y2⟩, ⟨.str, y3⟩, ⟨.str, y4⟩] [] .bool [] = some true := Pure.SplitOld y0 y1 y2 y3 y4 w0 w1 w2 w3 w4
  refine (law_calls fits (vs := [v0, v1, v2, v3, v4]) hk rfl ?_).mono fun e W' ⟨he, bel⟩ => ?_
  · intro i d v hd hv
    match i, hd, hv with
    | 0, hd, hv =>
      injection hd with hd
      injection hv with hv
      subst hd; subst hv
      exact ⟨k0, rfl⟩
    | 1, hd, hv =>
      injection hd with hd
      injection hv with hv
      subst hd; subst hv
      exact ⟨k1, rfl⟩
    | 2, hd, hv =>
      injection hd with hd
      injection hv with hv
      subst hd; subst hv
      exact ⟨k2, rfl⟩
    | 3, hd, hv =>
      injection hd with hd
      injection hv with hv
      subst hd; subst hv
      exact ⟨k3, rfl⟩
    | 4, hd, hv =>
      injection hd with hd
      injection hv with hv
      subst hd; subst hv
      exact ⟨k4, rfl⟩
    | i + 5, hd, hv => simp at hd
  subst he
  exact ⟨_, rfl, _, _, _, [], _, [], hW', trodAll_mk1 (shut_bool Tryz.underlying4 _), (trodAll_cons_mk (Below.trod laidOut (by kernel_rfl) (of_decide_eq_true (by kernel_rfl)) h0 bel lt0) (trodAll_cons_mk (Below.trod laidOut (by kernel_rfl) (of_decide_eq_true (by kernel_rfl)) h1 bel lt1) (trodAll_cons_mk (Below.trod laidOut (by kernel_rfl) (of_decide_eq_true (by kernel_rfl)) h2 bel lt2) (trodAll_cons_mk (Below.trod laidOut (by kernel_rfl) (of_decide_eq_true (by kernel_rfl)) h3 bel lt3) (trodAll_cons_mk (Below.trod laidOut (by kernel_rfl) (of_decide_eq_true (by kernel_rfl)) h4 bel lt4) trodAll_mk0))))), rfl, bel.frame _, fun h => by cases h⟩
theorem over : Rows.splitOldRow.holds Tryz.pinned (OpenSpec.ofChange Rows.splitOldSpec) :=
  OpenClaim.holds_of_wide 8 Tryz.f8 rfl rfl rfl rfl rfl rfl rfl ⟨rfl, rfl, rfl, rfl, rfl⟩ rfl rfl rfl rfl rfl (by kernel_rfl) Tryz.func8 (by kernel_rfl)
    (of_decide_eq_true (by kernel_rfl)) (by unfold Func.isWrapper; first | (rw [if_pos (by decide +kernel)]; kernel_rfl) | (rw [if_neg (by decide +kernel)]; exact ⟨rfl, rfl⟩))
    (fun os started H enc _ => lifted os started H enc)
theorem proved : Rows.SplitOldSaid := over
#print axioms proved
end Go.Proofs.YtmopkbmcilolgaaGreat.splitOld
namespace Go.Proofs.YtmopkbmcilolgaaGreat
/-- The row, under a short name, for the claim. -/
theorem splitOld_holds : Rows.SplitOldSaid := splitOld.proved
end Go.Proofs.YtmopkbmcilolgaaGreat
