/- The statement PruneUndoes, out of its plain law and of what the interpreter tells of the program's functions. No conditions. -/
import Derived.Test.YtjekopgcpikkiaaGreatDoorRows
import Derived.Test.YtjekopgcpikkiaaGreatDoorM2
import Derived.Test.YtjekopgcpikkiaaGreatDoorM3
import Derived.Test.YtjekopgcpikkiaaGreatDoorM6
import Derived.Test.YtjekopgcpikkiaaGreatDoorCards
import Derived.Test.YtjekopgcpikkiaaGreatDoorTie
import Derived.Lib.LaidTab
import Derived.LaidHandle
import Derived.OpenShut
import Derived.ChangeOld
import Derived.SizedLaws
namespace Go.Proofs.YtjekopgcpikkiaaGreatDoor.pruneUndoes
open Go.Abs Go.ChangeShapes Go.WideShapes Go.ChangeAt Go.RowKit Go.Proofs.YtjekopgcpikkiaaGreatDoor.AM
set_option linter.unusedVariables false
theorem own : ownKnob Tryz.prog.godebug = none := by kernel_rfl
theorem laidOut : laidOutB Tryz.prog = true := by kernel_rfl
noncomputable def laidWorld (os : Os) : World :=
  { World.holding Tryz.prog os ⟨#[], #[], []⟩ with heap := (World.holding Tryz.prog os ⟨#[], #[], []⟩).heap.modify 0 fun
      | .cells _ t frozen => .cells (Lib.deBruijn32tab.map fun z : Nat => Value.int .u8 (z : Int)).toArray t frozen
      | o => o }
theorem laid_met (os : Os) (args : Array Value) : laidMetH Tryz.prog Rows.pruneUndoesRow.laid ((laidWorld os).forCall (fun _ _ => 0) ⟨#[], args, []⟩).memory :=
  show laidMet Tryz.prog Rows.pruneUndoesRow.laid _ from laidMet_of_run' 8 (by kernel_rfl) (by kernel_rfl)
theorem gl_of_laid {W : World} (h : laidMetH Tryz.prog Rows.pruneUndoesRow.laid W) : Gl W (Lt W) := by
  have h' : laidMet Tryz.prog [("math/bits.deBruijn32tab", Lib.tabData .u8 (Lib.deBruijn32tab.map fun z : Nat => (z : Int)))] W := h
  have gN : Tryz.prog.globalNamed "math/bits.deBruijn32tab" = some 0 := by kernel_rfl
  have hT := Lib.tabIs_of_head (k := .u8) (zs := Lib.deBruijn32tab.map fun z : Nat => (z : Int)) gN (by kernel_rfl : (Tryz.prog.globals[0]?).map (·.type) = some 199) Tryz.underlying199 Tryz.underlying5 (by kernel_rfl) (by kernel_rfl) h'
  have key : ∀ i : Fin 32, (Lib.deBruijn32tab.map fun z : Nat => (z : Int)).getD i.val 0 = ((Lib.deBruijn32tab.getD i.val 0 : Nat) : Int) := by decide
  have hc : ∀ j, j < 32 → W.cell? ⟨0, j, none⟩ = some (.int .u8 (Lib.deBruijn32tab.getD j 0 : Nat)) := by
    intro j hj
    have hlen : Lib.deBruijn32tab.length = 32 := by decide
    have hc := hT.cell gN j (by simp only [List.length_map]; omega)
    rw [key ⟨j, hj⟩] at hc
    exact hc
  intro p hp
  simp only [GT, List.mem_cons, List.not_mem_nil, or_false] at hp
  subst hp
  refine ⟨World.block_lt_of_cell? W _ (hc 0 (by decide)), fun j v hj => ?_⟩
  have hlen : Lib.deBruijn32tab.length = 32 := by decide
  have hj : (Lib.deBruijn32tab.map fun z : Nat => Value.int .u8 (z : Int))[j]? = some v := hj
  have hj32 : j < 32 := by have := (List.getElem?_eq_some_iff.1 hj).1; simp only [List.length_map] at this; omega
  rw [List.getElem?_map, List.getElem?_eq_getElem (by omega)] at hj
  injection hj with hj
  subst hj
  have := hc j hj32
  rw [List.getD_eq_getElem?_getD, List.getElem?_eq_getElem (by omega)] at this
  rw [Nat.zero_add]
  exact this
set_option maxRecDepth 100000 in
theorem lifted (os : Os) (started : os.Started) (H : Type) (enc : TypeId × Value → H) :
    ReturnsInHanded {} Tryz.checked os 10 .any (fun w args => (Rows.pruneUndoesSpec.pre enc Tryz.prog Tryz.f10 [] false w args ∧ laidMetH Tryz.prog Rows.pruneUndoesRow.laid w) ∧ sizedMet enc Tryz.prog Tryz.f10 (OpenSpec.ofChange Rows.pruneUndoesSpec) false w args) (Rows.pruneUndoesSpec.post enc Tryz.prog Tryz.f10 false true false false) := by
  refine returnsInHanded_of_change_and (C := Tryz.checked) (X := fun w _ => laidMetH Tryz.prog Rows.pruneUndoesRow.laid w) (fun _ _ _ hh h => h.of_heap hh) own started (by kernel_rfl) Tryz.func10
    (ChangeSpec.witness_at (enc := enc) (C := Tryz.checked) (os := os) (X := fun w _ => laidMetH Tryz.prog Rows.pruneUndoesRow.laid w) false (laidWorld os) #[.int .i64 0, .slice none 0 0, .string ByteArray.empty, .string ByteArray.empty] 8 rfl (by kernel_rfl) (by kernel_rfl) (by kernel_rfl) (by kernel_rfl) (by kernel_rfl) (laid_met os _)) ?_
  intro W base args ds gs before hval0 hW hcnd hsz0 hL _
  have hval : ∀ (j : Nat) t v, Tryz.f10.params[j]? = some t → args[j]? = some v → Value.okWide Tryz.prog W .any base t v := hval0
  have hW' := hW
  obtain ⟨p, q, hA0, hV, rfl, hfz, hnd⟩ := hW
  have hA : DataW.TrodAll enc Tryz.prog W 0 (fun _ => true) true Tryz.f10.params.toList args.toList ds p := hA0
  rw [Tryz.params10] at hA hval
  obtain ⟨v0, vs0, d0, ds0, p0, q0, hargs, rfl, rfl, h0, r0⟩ := trodAll_cons hA
  obtain ⟨v1, vs1, d1, ds1, p1, q1, rfl, rfl, rfl, h1, r1⟩ := trodAll_cons r0
  obtain ⟨v2, vs2, d2, ds2, p2, q2, rfl, rfl, rfl, h2, r2⟩ := trodAll_cons r1
  obtain ⟨v3, vs3, d3, ds3, p3, q3, rfl, rfl, rfl, h3, r3⟩ := trodAll_cons r2
  obtain ⟨rfl, rfl, rfl⟩ := trodAll_nil r3
  obtain rfl : args = #[v0, v1, v2, v3] := by cases args; simp_all
  obtain ⟨rfl, rfl⟩ := trodVars_none hV
  have lt0 : ∀ x ∈ p0, x.block < W.heap.size := by obtain ⟨m, hm⟩ := h0; exact DataW.trod_lt m _ _ _ hm
  obtain ⟨y0, k0, w0⟩ := openP (mu := fun _ => default) (show opT Tryz.prog 9 3 = some (.int .i64) from by kernel_rfl) (hval 0 3 v0 rfl rfl) h0
  have lt1 : ∀ x ∈ p1, x.block < W.heap.size := by obtain ⟨m, hm⟩ := h1; exact DataW.trod_lt m _ _ _ hm
  obtain ⟨y1, k1, w1⟩ := openP (mu := fun _ => default) (show opT Tryz.prog 9 22 = some (.list tapiPair) from by kernel_rfl) (hval 1 22 v1 rfl rfl) h1
  have lt2 : ∀ x ∈ p2, x.block < W.heap.size := by obtain ⟨m, hm⟩ := h2; exact DataW.trod_lt m _ _ _ hm
  obtain ⟨y2, k2, w2⟩ := openP (mu := fun _ => default) (show opT Tryz.prog 9 9 = some .str from by kernel_rfl) (hval 2 9 v2 rfl rfl) h2
  have lt3 : ∀ x ∈ p3, x.block < W.heap.size := by obtain ⟨m, hm⟩ := h3; exact DataW.trod_lt m _ _ _ hm
  obtain ⟨y3, k3, w3⟩ := openP (mu := fun _ => default) (show opT Tryz.prog 9 9 = some .str from by kernel_rfl) (hval 3 9 v3 rfl rfl) h3
  have hk : callW PP TT RR 10 [⟨(.int .i64), y0⟩, ⟨(.list tapiPair), y1⟩, ⟨.str, y2⟩, ⟨.str, y3⟩] [] .bool [] = some true := Pure.PruneUndoes y0 y1 y2 y3 w0 w1 w2 w3
  refine (law_calls fits (gl_of_laid hL) (vs := [v0, v1, v2, v3]) hk rfl ?_).mono fun e W' ⟨he, bel⟩ => ?_
  · intro i d v hd hv
    match i, hd, hv with
    | 0, hd, hv =>
      injection hd with hd
      injection hv with hv
      subst hd; subst hv
      exact ⟨k0, rfl⟩
    | 1, hd, hv =>
      injection hd with hd
      injection hv with hv
      subst hd; subst hv
      exact ⟨k1, rfl⟩
    | 2, hd, hv =>
      injection hd with hd
      injection hv with hv
      subst hd; subst hv
      exact ⟨k2, rfl⟩
    | 3, hd, hv =>
      injection hd with hd
      injection hv with hv
      subst hd; subst hv
      exact ⟨k3, rfl⟩
    | i + 4, hd, hv => simp at hd
  subst he
  exact ⟨_, rfl, _, _, _, [], _, [], hW', trodAll_mk1 (shut_bool Tryz.underlying4 _), (trodAll_cons_mk (Below.trod laidOut (by kernel_rfl) (of_decide_eq_true (by kernel_rfl)) h0 bel lt0) (trodAll_cons_mk (Below.trod laidOut (by kernel_rfl) (of_decide_eq_true (by kernel_rfl)) h1 bel lt1) (trodAll_cons_mk (Below.trod laidOut (by kernel_rfl) (of_decide_eq_true (by kernel_rfl)) h2 bel lt2) (trodAll_cons_mk (Below.trod laidOut (by kernel_rfl) (of_decide_eq_true (by kernel_rfl)) h3 bel lt3) trodAll_mk0)))), rfl, bel.frame _, fun h => by cases h⟩
theorem over : Rows.pruneUndoesRow.holds Tryz.pinned (OpenSpec.ofChange Rows.pruneUndoesSpec) :=
  OpenClaim.holds_of_wide 10 Tryz.f10 rfl rfl rfl rfl rfl rfl rfl ⟨rfl, rfl, rfl, rfl, rfl⟩ rfl rfl rfl rfl rfl (by kernel_rfl) Tryz.func10 (by kernel_rfl)
    (of_decide_eq_true (by kernel_rfl)) (by unfold Func.isWrapper; first | (rw [if_pos (by decide +kernel)]; kernel_rfl) | (rw [if_neg (by decide +kernel)]; exact ⟨rfl, rfl⟩))
    (fun os started H enc _ => lifted os started H enc)
theorem proved : Rows.PruneUndoesCardSaid :=
  Claim7.holds_tied_plain_at .later [] [.data] true (true, "4982e4fb0c48da8527b5108bbef0508f495d229c5dab7c83c44229995a8e92e6") false
    over (fun _ h => by cases h) (by kernel_rfl) (fun _ h => by cases h) pruneUndoes_row_tie rfl ⟨rfl, rfl⟩ (by kernel_rfl) rfl
    (fun f fn hf hfn => by
      obtain rfl : f = 10 := Option.some.inj ((show Tryz.prog.funcNamed "boscage/boscagelaw24.PruneUndoes" = some 10 by kernel_rfl).symm.trans hf) |>.symm
      obtain rfl : fn = Tryz.f10 := (Option.some.inj (Tryz.func10.symm.trans hfn)).symm
      refine ⟨by kernel_rfl, fun j t ht => ?_⟩
      rw [Tryz.params10] at ht
      have hmem : t ∈ [3, 22, 9, 9] := by
        obtain ⟨hj, e⟩ := Array.getElem?_eq_some_iff.1 ht
        rw [← e]
        exact Array.getElem_mem_toList hj
      have hmem : t ∈ [3, 22, 9] := by simp only [List.mem_cons, List.not_mem_nil, or_false] at hmem; rcases hmem with rfl | rfl | rfl | rfl <;> simp
      simp only [List.mem_cons, List.not_mem_nil, or_false] at hmem
      rcases hmem with rfl | rfl | rfl
      · exact (show Tryz.prog.wantsStandIn 3 = false by kernel_rfl)
      · exact (show Tryz.prog.wantsStandIn 22 = false by kernel_rfl)
      · exact (show Tryz.prog.wantsStandIn 9 = false by kernel_rfl))
    (by kernel_rfl)
#print axioms proved
end Go.Proofs.YtjekopgcpikkiaaGreatDoor.pruneUndoes
namespace Go.Proofs.YtjekopgcpikkiaaGreatDoor
/-- The row, under a short name, for the claim. -/
theorem pruneUndoes_holds : Rows.PruneUndoesCardSaid := pruneUndoes.proved
end Go.Proofs.YtjekopgcpikkiaaGreatDoor
