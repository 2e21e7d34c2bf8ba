/-
  No cell of these rows narrows 'for every input' (looked for: loops, veiled, ifaces, maps, wideKeys, modest, calm, conditions, laid).
  DERIVED. THE GIVEN ROWS OF THIS SEAT. 7 by the template 'for every input the law returns true; each argument reads behind the call as it read before'; 0 by the template 'total and deterministic' (their statements: YtmopkbmcilolgaaGreatTotals.lean).
  GIVEN WITH THE SEED: the statements are not yours to turn. If you find one false, say at which input.
  Laid BY PROGRAM, IN A SANDBOX (cutbox-rows.mjs): the forced cells as the released guide's own fill.sh prints them over the translation 70bbdca8e054aed3… (all of the seat's roots in one cut). By AI agents, Wed Nov 11 2026. No macro, syntax, notation, axiom, sorry.
-/
import Derived.Test.YtmopkbmcilolgaaGreatChecked
import GoSem.Claim
import GoSem.ClaimJoined
import GoSem.ClaimMapViews
import Derived.JoinedTies
import Derived.KernelRfl
namespace Go.Proofs.YtmopkbmcilolgaaGreat
/- THE CELL 'sum', in the pinned program and in every row, IS THE sha256 OF THE DUMP (.gsa) THAT YtmopkbmcilolgaaGreatProg.lean LOADS. Nothing in Lean hashes anything: it is a label: what it is worth is what the hold of that sum in a sandbox is worth. -/
noncomputable def Tryz.pinned : Pinned := { name := "ytmopkbmcilolgaagreat", sum := "70bbdca8e054aed352a7f35fe0c42b4bcf39e8c5e664e50f7495c63ea5a0855c", checked := Tryz.checked }
namespace Rows
def none {H : Type} : Left H := { results := [], args := [] }

/-- 'boscagelaw28.MergeRuns': WHATEVER THE INPUT: true; the input reads as it did. -/
def mergeRunsSpec : ChangeSpec := { name := "mergeRuns", fn := fun _ => fun
  | [d1, d2] => { results := [.lit (.bool true)], args := [d1, d2] }
  | _ => none }
def mergeRunsRow : OpenClaim := { program := "ytmopkbmcilolgaagreat", sum := "70bbdca8e054aed352a7f35fe0c42b4bcf39e8c5e664e50f7495c63ea5a0855c", func := "boscage/boscagelaw28.MergeRuns", spec := "mergeRuns", inPlace := ["slices.overlaps[boscage/api.Pair]"], unfollowed := true, recurses := true, apart := false }
def MergeRunsSaid : Prop := mergeRunsRow.holds Tryz.pinned (OpenSpec.ofChange mergeRunsSpec)

/-- ITS FALSE NEIGHBOUR: 'it returns false'. Refute it at one input. -/
def mergeRunsWrong : ChangeSpec := { name := "mergeRuns", fn := fun _ => fun
  | [d1, d2] => { results := [.lit (.bool false)], args := [d1, d2] }
  | _ => none }
def MergeRunsWrongFalsely : Prop := mergeRunsRow.holds Tryz.pinned (OpenSpec.ofChange mergeRunsWrong)

/-- 'boscagelaw28.MergeRefuses': WHATEVER THE INPUT: true; the input reads as it did. -/
def mergeRefusesSpec : ChangeSpec := { name := "mergeRefuses", fn := fun _ => fun
  | [d1, d2, d3] => { results := [.lit (.bool true)], args := [d1, d2, d3] }
  | _ => none }
def mergeRefusesRow : OpenClaim := { program := "ytmopkbmcilolgaagreat", sum := "70bbdca8e054aed352a7f35fe0c42b4bcf39e8c5e664e50f7495c63ea5a0855c", func := "boscage/boscagelaw28.MergeRefuses", spec := "mergeRefuses", inPlace := ["slices.overlaps[boscage/api.Pair]"], unfollowed := true, recurses := true, apart := false }
def MergeRefusesSaid : Prop := mergeRefusesRow.holds Tryz.pinned (OpenSpec.ofChange mergeRefusesSpec)

/-- ITS FALSE NEIGHBOUR: 'it returns false'. Refute it at one input. -/
def mergeRefusesWrong : ChangeSpec := { name := "mergeRefuses", fn := fun _ => fun
  | [d1, d2, d3] => { results := [.lit (.bool false)], args := [d1, d2, d3] }
  | _ => none }
def MergeRefusesWrongFalsely : Prop := mergeRefusesRow.holds Tryz.pinned (OpenSpec.ofChange mergeRefusesWrong)

/-- 'boscagelaw28.MergeOld': WHATEVER THE INPUT: true; the input reads as it did. -/
def mergeOldSpec : ChangeSpec := { name := "mergeOld", fn := fun _ => fun
  | [d1, d2] => { results := [.lit (.bool true)], args := [d1, d2] }
  | _ => none }
def mergeOldRow : OpenClaim := { program := "ytmopkbmcilolgaagreat", sum := "70bbdca8e054aed352a7f35fe0c42b4bcf39e8c5e664e50f7495c63ea5a0855c", func := "boscage/boscagelaw28.MergeOld", spec := "mergeOld", inPlace := ["slices.overlaps[boscage/api.Pair]"], unfollowed := true, recurses := true, apart := false }
def MergeOldSaid : Prop := mergeOldRow.holds Tryz.pinned (OpenSpec.ofChange mergeOldSpec)

/-- ITS FALSE NEIGHBOUR: 'it returns false'. Refute it at one input. -/
def mergeOldWrong : ChangeSpec := { name := "mergeOld", fn := fun _ => fun
  | [d1, d2] => { results := [.lit (.bool false)], args := [d1, d2] }
  | _ => none }
def MergeOldWrongFalsely : Prop := mergeOldRow.holds Tryz.pinned (OpenSpec.ofChange mergeOldWrong)

/-- 'boscagelaw27.SplitRuns': WHATEVER THE INPUT: true; the input reads as it did. -/
def splitRunsSpec : ChangeSpec := { name := "splitRuns", fn := fun _ => fun
  | [d1, d2, d3, d4, d5] => { results := [.lit (.bool true)], args := [d1, d2, d3, d4, d5] }
  | _ => none }
def splitRunsRow : OpenClaim := { program := "ytmopkbmcilolgaagreat", sum := "70bbdca8e054aed352a7f35fe0c42b4bcf39e8c5e664e50f7495c63ea5a0855c", func := "boscage/boscagelaw27.SplitRuns", spec := "splitRuns", inPlace := ["slices.overlaps[boscage/api.Pair]"], unfollowed := true, recurses := true, apart := false }
def SplitRunsSaid : Prop := splitRunsRow.holds Tryz.pinned (OpenSpec.ofChange splitRunsSpec)

/-- ITS FALSE NEIGHBOUR: 'it returns false'. Refute it at one input. -/
def splitRunsWrong : ChangeSpec := { name := "splitRuns", fn := fun _ => fun
  | [d1, d2, d3, d4, d5] => { results := [.lit (.bool false)], args := [d1, d2, d3, d4, d5] }
  | _ => none }
def SplitRunsWrongFalsely : Prop := splitRunsRow.holds Tryz.pinned (OpenSpec.ofChange splitRunsWrong)

/-- 'boscagelaw27.SplitRefuses': WHATEVER THE INPUT: true; the input reads as it did. -/
def splitRefusesSpec : ChangeSpec := { name := "splitRefuses", fn := fun _ => fun
  | [d1, d2, d3] => { results := [.lit (.bool true)], args := [d1, d2, d3] }
  | _ => none }
def splitRefusesRow : OpenClaim := { program := "ytmopkbmcilolgaagreat", sum := "70bbdca8e054aed352a7f35fe0c42b4bcf39e8c5e664e50f7495c63ea5a0855c", func := "boscage/boscagelaw27.SplitRefuses", spec := "splitRefuses", inPlace := ["slices.overlaps[boscage/api.Pair]"], unfollowed := true, recurses := true, apart := false }
def SplitRefusesSaid : Prop := splitRefusesRow.holds Tryz.pinned (OpenSpec.ofChange splitRefusesSpec)

/-- ITS FALSE NEIGHBOUR: 'it returns false'. Refute it at one input. -/
def splitRefusesWrong : ChangeSpec := { name := "splitRefuses", fn := fun _ => fun
  | [d1, d2, d3] => { results := [.lit (.bool false)], args := [d1, d2, d3] }
  | _ => none }
def SplitRefusesWrongFalsely : Prop := splitRefusesRow.holds Tryz.pinned (OpenSpec.ofChange splitRefusesWrong)

/-- 'boscagelaw27.SplitOld': WHATEVER THE INPUT: true; the input reads as it did. -/
def splitOldSpec : ChangeSpec := { name := "splitOld", fn := fun _ => fun
  | [d1, d2, d3, d4, d5] => { results := [.lit (.bool true)], args := [d1, d2, d3, d4, d5] }
  | _ => none }
def splitOldRow : OpenClaim := { program := "ytmopkbmcilolgaagreat", sum := "70bbdca8e054aed352a7f35fe0c42b4bcf39e8c5e664e50f7495c63ea5a0855c", func := "boscage/boscagelaw27.SplitOld", spec := "splitOld", inPlace := ["slices.overlaps[boscage/api.Pair]"], unfollowed := true, recurses := true, apart := false }
def SplitOldSaid : Prop := splitOldRow.holds Tryz.pinned (OpenSpec.ofChange splitOldSpec)

/-- ITS FALSE NEIGHBOUR: 'it returns false'. Refute it at one input. -/
def splitOldWrong : ChangeSpec := { name := "splitOld", fn := fun _ => fun
  | [d1, d2, d3, d4, d5] => { results := [.lit (.bool false)], args := [d1, d2, d3, d4, d5] }
  | _ => none }
def SplitOldWrongFalsely : Prop := splitOldRow.holds Tryz.pinned (OpenSpec.ofChange splitOldWrong)

/-- 'boscagelaw28.MergeUndoes': WHATEVER THE INPUT: true; the input reads as it did. -/
def mergeUndoesSpec : ChangeSpec := { name := "mergeUndoes", fn := fun _ => fun
  | [d1, d2, d3] => { results := [.lit (.bool true)], args := [d1, d2, d3] }
  | _ => none }
def mergeUndoesRow : OpenClaim := { program := "ytmopkbmcilolgaagreat", sum := "70bbdca8e054aed352a7f35fe0c42b4bcf39e8c5e664e50f7495c63ea5a0855c", func := "boscage/boscagelaw28.MergeUndoes", spec := "mergeUndoes", inPlace := ["slices.overlaps[boscage/api.Pair]"], unfollowed := true, recurses := true, apart := false }
def MergeUndoesSaid : Prop := mergeUndoesRow.holds Tryz.pinned (OpenSpec.ofChange mergeUndoesSpec)

/-- ITS FALSE NEIGHBOUR: 'it returns false'. Refute it at one input. -/
def mergeUndoesWrong : ChangeSpec := { name := "mergeUndoes", fn := fun _ => fun
  | [d1, d2, d3] => { results := [.lit (.bool false)], args := [d1, d2, d3] }
  | _ => none }
def MergeUndoesWrongFalsely : Prop := mergeUndoesRow.holds Tryz.pinned (OpenSpec.ofChange mergeUndoesWrong)

/- THE SECOND FORM. 'bulk': how many values and letters a reading holds, each counted each time it is reached (what is shared counts as often as it is met; a slice's spare places count too). A statement '..UptoSaid' is the law's where the arguments, and the package variables that the reading takes, are together of bulk at most 1048576: NARROWER than '..Said'. Prove '..Said' where nothing that the law and all that it calls make is longer than what came in: it says more and counts as full. Else prove '..UptoSaid'. A law counts once. -/
mutual
def uptoBulk {H : Type} : DataW H → Nat
  | .lit (.string bytes) => bytes.length + 1
  | .lit _ => 1
  | .nil => 1
  | .ptr d => uptoBulk d + 1
  | .slice elems spare => uptoBulkAll elems + uptoBulkAll spare + 1
  | .agg parts => uptoBulkAll parts + 1
  | .iface _ d => uptoBulk d + 1
  | .map entries => uptoBulkEntries entries + 1
  | .held _ => 1
def uptoBulkAll {H : Type} : List (DataW H) → Nat
  | [] => 0
  | d :: r => uptoBulk d + uptoBulkAll r
def uptoBulkEntries {H : Type} : List (Lit × DataW H) → Nat
  | [] => 0
  | x :: r => uptoBulkEntry x + uptoBulkEntries r
def uptoBulkEntry {H : Type} : Lit × DataW H → Nat
  | (.string bytes, d) => bytes.length + uptoBulk d + 1
  | (_, d) => uptoBulk d + 1
 end
def uptoSmall : (H : Type) → List (DataW H) → Bool := fun _ ds => decide (uptoBulkAll ds ≤ 1048576)
def OpenSpec.upto (s : _root_.Go.ChangeSpec) : _root_.Go.OpenSpec := { _root_.Go.OpenSpec.ofChange s with cond := some uptoSmall }

/-- 'boscagelaw28.MergeRuns', WHERE WHAT IT READS IS OF BULK AT MOST 1048576: true; the input reads as it did. -/
def mergeRunsUptoRow : OpenClaim := { program := "ytmopkbmcilolgaagreat", sum := "70bbdca8e054aed352a7f35fe0c42b4bcf39e8c5e664e50f7495c63ea5a0855c", func := "boscage/boscagelaw28.MergeRuns", spec := "mergeRuns", inPlace := ["slices.overlaps[boscage/api.Pair]"], unfollowed := true, recurses := true, apart := false, narrowed := true }
def MergeRunsUptoSaid : Prop := mergeRunsUptoRow.holds Tryz.pinned (OpenSpec.upto mergeRunsSpec)

/-- 'boscagelaw28.MergeRefuses', WHERE WHAT IT READS IS OF BULK AT MOST 1048576: true; the input reads as it did. -/
def mergeRefusesUptoRow : OpenClaim := { program := "ytmopkbmcilolgaagreat", sum := "70bbdca8e054aed352a7f35fe0c42b4bcf39e8c5e664e50f7495c63ea5a0855c", func := "boscage/boscagelaw28.MergeRefuses", spec := "mergeRefuses", inPlace := ["slices.overlaps[boscage/api.Pair]"], unfollowed := true, recurses := true, apart := false, narrowed := true }
def MergeRefusesUptoSaid : Prop := mergeRefusesUptoRow.holds Tryz.pinned (OpenSpec.upto mergeRefusesSpec)

/-- 'boscagelaw28.MergeOld', WHERE WHAT IT READS IS OF BULK AT MOST 1048576: true; the input reads as it did. -/
def mergeOldUptoRow : OpenClaim := { program := "ytmopkbmcilolgaagreat", sum := "70bbdca8e054aed352a7f35fe0c42b4bcf39e8c5e664e50f7495c63ea5a0855c", func := "boscage/boscagelaw28.MergeOld", spec := "mergeOld", inPlace := ["slices.overlaps[boscage/api.Pair]"], unfollowed := true, recurses := true, apart := false, narrowed := true }
def MergeOldUptoSaid : Prop := mergeOldUptoRow.holds Tryz.pinned (OpenSpec.upto mergeOldSpec)

/-- 'boscagelaw27.SplitRuns', WHERE WHAT IT READS IS OF BULK AT MOST 1048576: true; the input reads as it did. -/
def splitRunsUptoRow : OpenClaim := { program := "ytmopkbmcilolgaagreat", sum := "70bbdca8e054aed352a7f35fe0c42b4bcf39e8c5e664e50f7495c63ea5a0855c", func := "boscage/boscagelaw27.SplitRuns", spec := "splitRuns", inPlace := ["slices.overlaps[boscage/api.Pair]"], unfollowed := true, recurses := true, apart := false, narrowed := true }
def SplitRunsUptoSaid : Prop := splitRunsUptoRow.holds Tryz.pinned (OpenSpec.upto splitRunsSpec)

/-- 'boscagelaw27.SplitRefuses', WHERE WHAT IT READS IS OF BULK AT MOST 1048576: true; the input reads as it did. -/
def splitRefusesUptoRow : OpenClaim := { program := "ytmopkbmcilolgaagreat", sum := "70bbdca8e054aed352a7f35fe0c42b4bcf39e8c5e664e50f7495c63ea5a0855c", func := "boscage/boscagelaw27.SplitRefuses", spec := "splitRefuses", inPlace := ["slices.overlaps[boscage/api.Pair]"], unfollowed := true, recurses := true, apart := false, narrowed := true }
def SplitRefusesUptoSaid : Prop := splitRefusesUptoRow.holds Tryz.pinned (OpenSpec.upto splitRefusesSpec)

/-- 'boscagelaw27.SplitOld', WHERE WHAT IT READS IS OF BULK AT MOST 1048576: true; the input reads as it did. -/
def splitOldUptoRow : OpenClaim := { program := "ytmopkbmcilolgaagreat", sum := "70bbdca8e054aed352a7f35fe0c42b4bcf39e8c5e664e50f7495c63ea5a0855c", func := "boscage/boscagelaw27.SplitOld", spec := "splitOld", inPlace := ["slices.overlaps[boscage/api.Pair]"], unfollowed := true, recurses := true, apart := false, narrowed := true }
def SplitOldUptoSaid : Prop := splitOldUptoRow.holds Tryz.pinned (OpenSpec.upto splitOldSpec)

/-- 'boscagelaw28.MergeUndoes', WHERE WHAT IT READS IS OF BULK AT MOST 1048576: true; the input reads as it did. -/
def mergeUndoesUptoRow : OpenClaim := { program := "ytmopkbmcilolgaagreat", sum := "70bbdca8e054aed352a7f35fe0c42b4bcf39e8c5e664e50f7495c63ea5a0855c", func := "boscage/boscagelaw28.MergeUndoes", spec := "mergeUndoes", inPlace := ["slices.overlaps[boscage/api.Pair]"], unfollowed := true, recurses := true, apart := false, narrowed := true }
def MergeUndoesUptoSaid : Prop := mergeUndoesUptoRow.holds Tryz.pinned (OpenSpec.upto mergeUndoesSpec)

end Rows
end Go.Proofs.YtmopkbmcilolgaaGreat
