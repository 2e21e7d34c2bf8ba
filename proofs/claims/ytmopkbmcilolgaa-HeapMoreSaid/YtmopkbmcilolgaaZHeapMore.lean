/- The statement HeapMore, out of its plain law and of what the interpreter tells of the program's functions. No conditions. -/
import Derived.Test.YtmopkbmcilolgaaRows
import Derived.Test.YtmopkbmcilolgaaM2
import Derived.Test.YtmopkbmcilolgaaM4
namespace Go.Proofs.Ytmopkbmcilolgaa.heapMore
open Go.Abs Go.ChangeShapes Go.WideShapes Go.ChangeAt Go.RowKit Go.Proofs.Ytmopkbmcilolgaa.AD
set_option linter.unusedVariables false
theorem own : ownKnob Try.prog.godebug = none := by kernel_rfl
theorem laidOut : laidOutB Try.prog = true := by kernel_rfl
set_option maxRecDepth 100000 in
theorem lifted (os : Os) (started : os.Started) (H : Type) (enc : TypeId × Value → H) :
    ReturnsInHanded {} Try.checked os 6 .any (Rows.heapMoreSpec.pre6 enc Try.prog Try.f6 Rows.heapMoreRow.domain false) (Rows.heapMoreSpec.post enc Try.prog Try.f6 false true false false) := by
  refine returnsInHanded_of_change_sized (C := Try.checked) own started (by kernel_rfl) Try.func6
    (ChangeSpec.witness6 (enc := enc) (C := Try.checked) false ⟨#[], #[.slice none 0 0, .slice none 0 0, .int .i64 0], []⟩ 8 (by kernel_rfl) (by kernel_rfl) (by kernel_rfl) (by kernel_rfl)) ?_
  intro W base args ds gs before hval0 hW hcnd hsz0 _
  have hval : ∀ (j : Nat) t v, Try.f6.params[j]? = some t → args[j]? = some v → Value.okWide Try.prog W .any base t v := hval0
  have hW' := hW
  obtain ⟨p, q, hA0, hV, rfl, hfz, hnd⟩ := hW
  have hA : DataW.TrodAll enc Try.prog W 0 (fun _ => true) true Try.f6.params.toList args.toList ds p := hA0
  rw [Try.params6] at hA hval
  obtain ⟨v0, vs0, d0, ds0, p0, q0, hargs, rfl, rfl, h0, r0⟩ := trodAll_cons hA
  obtain ⟨v1, vs1, d1, ds1, p1, q1, rfl, rfl, rfl, h1, r1⟩ := trodAll_cons r0
  obtain ⟨v2, vs2, d2, ds2, p2, q2, rfl, rfl, rfl, h2, r2⟩ := trodAll_cons r1
  obtain ⟨rfl, rfl, rfl⟩ := trodAll_nil r2
  obtain rfl : args = #[v0, v1, v2] := by cases args; simp_all
  obtain ⟨rfl, rfl⟩ := trodVars_none hV
  have lt0 : ∀ x ∈ p0, x.block < W.heap.size := by obtain ⟨m, hm⟩ := h0; exact DataW.trod_lt m _ _ _ hm
  obtain ⟨y0, k0, w0⟩ := openP (mu := fun _ => default) (show opT Try.prog 9 22 = some (.list tapiNode) from by kernel_rfl) (hval 0 22 v0 rfl rfl) h0
  have lt1 : ∀ x ∈ p1, x.block < W.heap.size := by obtain ⟨m, hm⟩ := h1; exact DataW.trod_lt m _ _ _ hm
  obtain ⟨y1, k1, w1⟩ := openP (mu := fun _ => default) (show opT Try.prog 9 22 = some (.list tapiNode) from by kernel_rfl) (hval 1 22 v1 rfl rfl) h1
  have lt2 : ∀ x ∈ p2, x.block < W.heap.size := by obtain ⟨m, hm⟩ := h2; exact DataW.trod_lt m _ _ _ hm
  obtain ⟨y2, k2, w2⟩ := openP (mu := fun _ => default) (show opT Try.prog 9 3 = some (.int .i64) from by kernel_rfl) (hval 2 3 v2 rfl rfl) h2
  have hsz : (DataW.weightsEach Try.prog (Try.f6.params.toList ++ []) ([d0, d1, d2] ++ [])).all (· ≤ reachBytes) = true := hsz0
  rw [Try.params6] at hsz
  have lenB : List.length y1 ≤ 1172812402926 := by
    have hb : Try.prog.bytesOf 60 = 120 := by kernel_rfl
    have hu : Try.prog.underlying 22 = some (.slice 60) := by kernel_rfl
    have := list_weight hu h1 k1 fun n hn => of_decide_eq_true (List.all_eq_true.1 hsz n (by
      simp only [DataW.weightsEach, List.cons_append, List.nil_append, List.mem_append]
      exact .inr (.inl hn)))
    rw [hb] at this
    unfold reachBytes at this
    omega
  have hk : callW PP TT RR 6 [⟨(.list tapiNode), y0⟩, ⟨(.list tapiNode), y1⟩, ⟨(.int .i64), y2⟩] [] .bool [] = some true := Pure.HeapMore y0 y1 y2 w0 w1 w2 lenB
  refine (law_calls fits (vs := [v0, v1, v2]) hk rfl ?_).mono fun e W' ⟨he, bel⟩ => ?_
  · intro i d v hd hv
    match i, hd, hv with
    | 0, hd, hv =>
      injection hd with hd
      injection hv with hv
      subst hd; subst hv
      exact ⟨k0, rfl⟩
    | 1, hd, hv =>
      injection hd with hd
      injection hv with hv
      subst hd; subst hv
      exact ⟨k1, rfl⟩
    | 2, hd, hv =>
      injection hd with hd
      injection hv with hv
      subst hd; subst hv
      exact ⟨k2, rfl⟩
    | i + 3, hd, hv => simp at hd
  subst he
  exact ⟨_, rfl, _, _, _, [], _, [], hW', trodAll_mk1 (shut_bool Try.underlying4 _), (trodAll_cons_mk (Below.trod laidOut (by kernel_rfl) (of_decide_eq_true (by kernel_rfl)) h0 bel lt0) (trodAll_cons_mk (Below.trod laidOut (by kernel_rfl) (of_decide_eq_true (by kernel_rfl)) h1 bel lt1) (trodAll_cons_mk (Below.trod laidOut (by kernel_rfl) (of_decide_eq_true (by kernel_rfl)) h2 bel lt2) trodAll_mk0))), rfl, bel.frame _, fun h => by cases h⟩
theorem over : Rows.heapMoreRow.holds Try.pinned (OpenSpec.ofChange Rows.heapMoreSpec) :=
  OpenClaim.holds_of_wide 6 Try.f6 rfl rfl rfl rfl rfl rfl rfl ⟨rfl, rfl, rfl, rfl, rfl⟩ rfl rfl rfl rfl rfl (by kernel_rfl) Try.func6 (by kernel_rfl)
    (of_decide_eq_true (by kernel_rfl)) (by unfold Func.isWrapper; first | (rw [if_pos (by decide +kernel)]; kernel_rfl) | (rw [if_neg (by decide +kernel)]; exact ⟨rfl, rfl⟩))
    (fun os started H enc _ => lifted os started H enc)
theorem proved : Rows.HeapMoreSaid := over
#print axioms proved
end Go.Proofs.Ytmopkbmcilolgaa.heapMore
namespace Go.Proofs.Ytmopkbmcilolgaa
/-- The row, under a short name, for the claim. -/
theorem heapMore_holds : Rows.HeapMoreSaid := heapMore.proved
end Go.Proofs.Ytmopkbmcilolgaa
