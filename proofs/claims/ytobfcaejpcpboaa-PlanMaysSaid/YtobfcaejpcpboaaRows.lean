/-
  No cell of these rows narrows 'for every input' (looked for: loops, veiled, ifaces, maps, wideKeys, modest, calm, conditions, laid).
  DERIVED. THE GIVEN ROWS OF THIS SEAT. 14 by the template 'for every input the law returns true; each argument reads behind the call as it read before'; 0 by the template 'total and deterministic' (their statements: YtobfcaejpcpboaaTotals.lean).
  GIVEN WITH THE SEED: the statements are not yours to turn. If you find one false, say at which input.
  Laid BY PROGRAM, IN A SANDBOX (cutbox-rows.mjs): the forced cells as the released guide's own fill.sh prints them over the translation 62df4d05dc412012… (all of the seat's roots in one cut). By AI agents, Wed Nov 11 2026. No macro, syntax, notation, axiom, sorry.
-/
import Derived.Test.YtobfcaejpcpboaaChecked
import GoSem.Claim
import GoSem.ClaimJoined
import GoSem.ClaimMapViews
import Derived.JoinedTies
import Derived.KernelRfl
namespace Go.Proofs.Ytobfcaejpcpboaa
/- THE CELL 'sum', in the pinned program and in every row, IS THE sha256 OF THE DUMP (.gsa) THAT YtobfcaejpcpboaaProg.lean LOADS. Nothing in Lean hashes anything: it is a label: what it is worth is what the hold of that sum in a sandbox is worth. -/
noncomputable def Try.pinned : Pinned := { name := "ytobfcaejpcpboaa", sum := "62df4d05dc4120127607ccf9f943ca98f85af3d9076234e57c47cea93d91341c", checked := Try.checked }
namespace Rows
def none {H : Type} : Left H := { results := [], args := [] }

/-- 'boscagelaw13.NodeMays': WHATEVER THE INPUT: true; the input reads as it did. -/
def nodeMaysSpec : ChangeSpec := { name := "nodeMays", fn := fun _ => fun
  | [d] => { results := [.lit (.bool true)], args := [d] }
  | _ => none }
def nodeMaysRow : OpenClaim := { program := "ytobfcaejpcpboaa", sum := "62df4d05dc4120127607ccf9f943ca98f85af3d9076234e57c47cea93d91341c", func := "boscage/boscagelaw13.NodeMays", spec := "nodeMays", inPlace := ["slices.overlaps[boscage/api.Pair]"], unfollowed := true, recurses := true, apart := false }
def NodeMaysSaid : Prop := nodeMaysRow.holds Try.pinned (OpenSpec.ofChange nodeMaysSpec)

/-- ITS FALSE NEIGHBOUR: 'it returns false'. Refute it at one input. -/
def nodeMaysWrong : ChangeSpec := { name := "nodeMays", fn := fun _ => fun
  | [d] => { results := [.lit (.bool false)], args := [d] }
  | _ => none }
def NodeMaysWrongFalsely : Prop := nodeMaysRow.holds Try.pinned (OpenSpec.ofChange nodeMaysWrong)

/-- 'boscagelaw13.NodeMakes': WHATEVER THE INPUT: true; the input reads as it did. -/
def nodeMakesSpec : ChangeSpec := { name := "nodeMakes", fn := fun _ => fun
  | [d1, d2, d3, d4, d5, d6] => { results := [.lit (.bool true)], args := [d1, d2, d3, d4, d5, d6] }
  | _ => none }
def nodeMakesRow : OpenClaim := { program := "ytobfcaejpcpboaa", sum := "62df4d05dc4120127607ccf9f943ca98f85af3d9076234e57c47cea93d91341c", func := "boscage/boscagelaw13.NodeMakes", spec := "nodeMakes", inPlace := ["slices.overlaps[boscage/api.Pair]"], unfollowed := true, recurses := true, apart := false }
def NodeMakesSaid : Prop := nodeMakesRow.holds Try.pinned (OpenSpec.ofChange nodeMakesSpec)

/-- ITS FALSE NEIGHBOUR: 'it returns false'. Refute it at one input. -/
def nodeMakesWrong : ChangeSpec := { name := "nodeMakes", fn := fun _ => fun
  | [d1, d2, d3, d4, d5, d6] => { results := [.lit (.bool false)], args := [d1, d2, d3, d4, d5, d6] }
  | _ => none }
def NodeMakesWrongFalsely : Prop := nodeMakesRow.holds Try.pinned (OpenSpec.ofChange nodeMakesWrong)

/-- 'boscagelaw13.NodeCopies': WHATEVER THE INPUT: true; the input reads as it did. -/
def nodeCopiesSpec : ChangeSpec := { name := "nodeCopies", fn := fun _ => fun
  | [d] => { results := [.lit (.bool true)], args := [d] }
  | _ => none }
def nodeCopiesRow : OpenClaim := { program := "ytobfcaejpcpboaa", sum := "62df4d05dc4120127607ccf9f943ca98f85af3d9076234e57c47cea93d91341c", func := "boscage/boscagelaw13.NodeCopies", spec := "nodeCopies", inPlace := ["slices.overlaps[boscage/api.Pair]"], unfollowed := true, recurses := true, apart := false }
def NodeCopiesSaid : Prop := nodeCopiesRow.holds Try.pinned (OpenSpec.ofChange nodeCopiesSpec)

/-- ITS FALSE NEIGHBOUR: 'it returns false'. Refute it at one input. -/
def nodeCopiesWrong : ChangeSpec := { name := "nodeCopies", fn := fun _ => fun
  | [d] => { results := [.lit (.bool false)], args := [d] }
  | _ => none }
def NodeCopiesWrongFalsely : Prop := nodeCopiesRow.holds Try.pinned (OpenSpec.ofChange nodeCopiesWrong)

/-- 'boscagelaw13.NodeTells': WHATEVER THE INPUT: true; the input reads as it did. -/
def nodeTellsSpec : ChangeSpec := { name := "nodeTells", fn := fun _ => fun
  | [d1, d2] => { results := [.lit (.bool true)], args := [d1, d2] }
  | _ => none }
def nodeTellsRow : OpenClaim := { program := "ytobfcaejpcpboaa", sum := "62df4d05dc4120127607ccf9f943ca98f85af3d9076234e57c47cea93d91341c", func := "boscage/boscagelaw13.NodeTells", spec := "nodeTells", inPlace := ["slices.overlaps[boscage/api.Pair]"], unfollowed := true, recurses := true, apart := false }
def NodeTellsSaid : Prop := nodeTellsRow.holds Try.pinned (OpenSpec.ofChange nodeTellsSpec)

/-- ITS FALSE NEIGHBOUR: 'it returns false'. Refute it at one input. -/
def nodeTellsWrong : ChangeSpec := { name := "nodeTells", fn := fun _ => fun
  | [d1, d2] => { results := [.lit (.bool false)], args := [d1, d2] }
  | _ => none }
def NodeTellsWrongFalsely : Prop := nodeTellsRow.holds Try.pinned (OpenSpec.ofChange nodeTellsWrong)

/-- 'boscagelaw19.BranchTells': WHATEVER THE INPUT: true; the input reads as it did. -/
def branchTellsSpec : ChangeSpec := { name := "branchTells", fn := fun _ => fun
  | [d1, d2, d3] => { results := [.lit (.bool true)], args := [d1, d2, d3] }
  | _ => none }
def branchTellsRow : OpenClaim := { program := "ytobfcaejpcpboaa", sum := "62df4d05dc4120127607ccf9f943ca98f85af3d9076234e57c47cea93d91341c", func := "boscage/boscagelaw19.BranchTells", spec := "branchTells", inPlace := ["slices.overlaps[boscage/api.Pair]", "slices.overlaps[boscage/api.Ref]"], unfollowed := true, recurses := true, apart := false }
def BranchTellsSaid : Prop := branchTellsRow.holds Try.pinned (OpenSpec.ofChange branchTellsSpec)

/-- ITS FALSE NEIGHBOUR: 'it returns false'. Refute it at one input. -/
def branchTellsWrong : ChangeSpec := { name := "branchTells", fn := fun _ => fun
  | [d1, d2, d3] => { results := [.lit (.bool false)], args := [d1, d2, d3] }
  | _ => none }
def BranchTellsWrongFalsely : Prop := branchTellsRow.holds Try.pinned (OpenSpec.ofChange branchTellsWrong)

/-- 'boscagelaw19.BranchChanges': WHATEVER THE INPUT: true; the input reads as it did. -/
def branchChangesSpec : ChangeSpec := { name := "branchChanges", fn := fun _ => fun
  | [d1, d2, d3] => { results := [.lit (.bool true)], args := [d1, d2, d3] }
  | _ => none }
def branchChangesRow : OpenClaim := { program := "ytobfcaejpcpboaa", sum := "62df4d05dc4120127607ccf9f943ca98f85af3d9076234e57c47cea93d91341c", func := "boscage/boscagelaw19.BranchChanges", spec := "branchChanges", inPlace := ["slices.overlaps[boscage/api.Pair]", "slices.overlaps[boscage/api.Ref]"], unfollowed := true, recurses := true, apart := false }
def BranchChangesSaid : Prop := branchChangesRow.holds Try.pinned (OpenSpec.ofChange branchChangesSpec)

/-- ITS FALSE NEIGHBOUR: 'it returns false'. Refute it at one input. -/
def branchChangesWrong : ChangeSpec := { name := "branchChanges", fn := fun _ => fun
  | [d1, d2, d3] => { results := [.lit (.bool false)], args := [d1, d2, d3] }
  | _ => none }
def BranchChangesWrongFalsely : Prop := branchChangesRow.holds Try.pinned (OpenSpec.ofChange branchChangesWrong)

/-- 'boscagelaw19.BranchKeeps': WHATEVER THE INPUT: true; the input reads as it did. -/
def branchKeepsSpec : ChangeSpec := { name := "branchKeeps", fn := fun _ => fun
  | [d1, d2, d3, d4] => { results := [.lit (.bool true)], args := [d1, d2, d3, d4] }
  | _ => none }
def branchKeepsRow : OpenClaim := { program := "ytobfcaejpcpboaa", sum := "62df4d05dc4120127607ccf9f943ca98f85af3d9076234e57c47cea93d91341c", func := "boscage/boscagelaw19.BranchKeeps", spec := "branchKeeps", inPlace := ["slices.overlaps[boscage/api.Pair]", "slices.overlaps[boscage/api.Ref]"], unfollowed := true, recurses := true, apart := false }
def BranchKeepsSaid : Prop := branchKeepsRow.holds Try.pinned (OpenSpec.ofChange branchKeepsSpec)

/-- ITS FALSE NEIGHBOUR: 'it returns false'. Refute it at one input. -/
def branchKeepsWrong : ChangeSpec := { name := "branchKeeps", fn := fun _ => fun
  | [d1, d2, d3, d4] => { results := [.lit (.bool false)], args := [d1, d2, d3, d4] }
  | _ => none }
def BranchKeepsWrongFalsely : Prop := branchKeepsRow.holds Try.pinned (OpenSpec.ofChange branchKeepsWrong)

/-- 'boscagelaw17.HeapBinds': WHATEVER THE INPUT: true; the input reads as it did. -/
def heapBindsSpec : ChangeSpec := { name := "heapBinds", fn := fun _ => fun
  | [d1, d2] => { results := [.lit (.bool true)], args := [d1, d2] }
  | _ => none }
def heapBindsRow : OpenClaim := { program := "ytobfcaejpcpboaa", sum := "62df4d05dc4120127607ccf9f943ca98f85af3d9076234e57c47cea93d91341c", func := "boscage/boscagelaw17.HeapBinds", spec := "heapBinds", inPlace := ["slices.overlaps[boscage/api.Pair]"], unfollowed := true, recurses := true, apart := false }
def HeapBindsSaid : Prop := heapBindsRow.holds Try.pinned (OpenSpec.ofChange heapBindsSpec)

/-- ITS FALSE NEIGHBOUR: 'it returns false'. Refute it at one input. -/
def heapBindsWrong : ChangeSpec := { name := "heapBinds", fn := fun _ => fun
  | [d1, d2] => { results := [.lit (.bool false)], args := [d1, d2] }
  | _ => none }
def HeapBindsWrongFalsely : Prop := heapBindsRow.holds Try.pinned (OpenSpec.ofChange heapBindsWrong)

/-- 'boscagelaw17.HeapCounts': WHATEVER THE INPUT: true; the input reads as it did. -/
def heapCountsSpec : ChangeSpec := { name := "heapCounts", fn := fun _ => fun
  | [d1, d2] => { results := [.lit (.bool true)], args := [d1, d2] }
  | _ => none }
def heapCountsRow : OpenClaim := { program := "ytobfcaejpcpboaa", sum := "62df4d05dc4120127607ccf9f943ca98f85af3d9076234e57c47cea93d91341c", func := "boscage/boscagelaw17.HeapCounts", spec := "heapCounts", inPlace := ["slices.overlaps[boscage/api.Pair]"], unfollowed := true, recurses := true, apart := false }
def HeapCountsSaid : Prop := heapCountsRow.holds Try.pinned (OpenSpec.ofChange heapCountsSpec)

/-- ITS FALSE NEIGHBOUR: 'it returns false'. Refute it at one input. -/
def heapCountsWrong : ChangeSpec := { name := "heapCounts", fn := fun _ => fun
  | [d1, d2] => { results := [.lit (.bool false)], args := [d1, d2] }
  | _ => none }
def HeapCountsWrongFalsely : Prop := heapCountsRow.holds Try.pinned (OpenSpec.ofChange heapCountsWrong)

/-- 'boscagelaw18.PlanFills': WHATEVER THE INPUT: true; the input reads as it did. -/
def planFillsSpec : ChangeSpec := { name := "planFills", fn := fun _ => fun
  | [d1, d2, d3] => { results := [.lit (.bool true)], args := [d1, d2, d3] }
  | _ => none }
def planFillsRow : OpenClaim := { program := "ytobfcaejpcpboaa", sum := "62df4d05dc4120127607ccf9f943ca98f85af3d9076234e57c47cea93d91341c", func := "boscage/boscagelaw18.PlanFills", spec := "planFills", inPlace := ["slices.overlaps[boscage/api.Pair]"], unfollowed := true, recurses := true, apart := false }
def PlanFillsSaid : Prop := planFillsRow.holds Try.pinned (OpenSpec.ofChange planFillsSpec)

/-- ITS FALSE NEIGHBOUR: 'it returns false'. Refute it at one input. -/
def planFillsWrong : ChangeSpec := { name := "planFills", fn := fun _ => fun
  | [d1, d2, d3] => { results := [.lit (.bool false)], args := [d1, d2, d3] }
  | _ => none }
def PlanFillsWrongFalsely : Prop := planFillsRow.holds Try.pinned (OpenSpec.ofChange planFillsWrong)

/-- 'boscagelaw18.PlanDoes': WHATEVER THE INPUT: true; the input reads as it did. -/
def planDoesSpec : ChangeSpec := { name := "planDoes", fn := fun _ => fun
  | [d1, d2] => { results := [.lit (.bool true)], args := [d1, d2] }
  | _ => none }
def planDoesRow : OpenClaim := { program := "ytobfcaejpcpboaa", sum := "62df4d05dc4120127607ccf9f943ca98f85af3d9076234e57c47cea93d91341c", func := "boscage/boscagelaw18.PlanDoes", spec := "planDoes", inPlace := ["slices.overlaps[boscage/api.Pair]"], unfollowed := true, recurses := true, apart := false }
def PlanDoesSaid : Prop := planDoesRow.holds Try.pinned (OpenSpec.ofChange planDoesSpec)

/-- ITS FALSE NEIGHBOUR: 'it returns false'. Refute it at one input. -/
def planDoesWrong : ChangeSpec := { name := "planDoes", fn := fun _ => fun
  | [d1, d2] => { results := [.lit (.bool false)], args := [d1, d2] }
  | _ => none }
def PlanDoesWrongFalsely : Prop := planDoesRow.holds Try.pinned (OpenSpec.ofChange planDoesWrong)

/-- 'boscagelaw18.PlanStays': WHATEVER THE INPUT: true; the input reads as it did. -/
def planStaysSpec : ChangeSpec := { name := "planStays", fn := fun _ => fun
  | [d1, d2] => { results := [.lit (.bool true)], args := [d1, d2] }
  | _ => none }
def planStaysRow : OpenClaim := { program := "ytobfcaejpcpboaa", sum := "62df4d05dc4120127607ccf9f943ca98f85af3d9076234e57c47cea93d91341c", func := "boscage/boscagelaw18.PlanStays", spec := "planStays", inPlace := ["slices.overlaps[boscage/api.Pair]"], unfollowed := true, recurses := true, apart := false }
def PlanStaysSaid : Prop := planStaysRow.holds Try.pinned (OpenSpec.ofChange planStaysSpec)

/-- ITS FALSE NEIGHBOUR: 'it returns false'. Refute it at one input. -/
def planStaysWrong : ChangeSpec := { name := "planStays", fn := fun _ => fun
  | [d1, d2] => { results := [.lit (.bool false)], args := [d1, d2] }
  | _ => none }
def PlanStaysWrongFalsely : Prop := planStaysRow.holds Try.pinned (OpenSpec.ofChange planStaysWrong)

/-- 'boscagelaw18.PlanMays': WHATEVER THE INPUT: true; the input reads as it did. -/
def planMaysSpec : ChangeSpec := { name := "planMays", fn := fun _ => fun
  | [d1, d2] => { results := [.lit (.bool true)], args := [d1, d2] }
  | _ => none }
def planMaysRow : OpenClaim := { program := "ytobfcaejpcpboaa", sum := "62df4d05dc4120127607ccf9f943ca98f85af3d9076234e57c47cea93d91341c", func := "boscage/boscagelaw18.PlanMays", spec := "planMays", inPlace := ["slices.overlaps[boscage/api.Pair]"], unfollowed := true, recurses := true, apart := false }
def PlanMaysSaid : Prop := planMaysRow.holds Try.pinned (OpenSpec.ofChange planMaysSpec)

/-- ITS FALSE NEIGHBOUR: 'it returns false'. Refute it at one input. -/
def planMaysWrong : ChangeSpec := { name := "planMays", fn := fun _ => fun
  | [d1, d2] => { results := [.lit (.bool false)], args := [d1, d2] }
  | _ => none }
def PlanMaysWrongFalsely : Prop := planMaysRow.holds Try.pinned (OpenSpec.ofChange planMaysWrong)

/-- 'boscagelaw17.HeapSame': WHATEVER THE INPUT: true; the input reads as it did. -/
def heapSameSpec : ChangeSpec := { name := "heapSame", fn := fun _ => fun
  | [d1, d2, d3, d4] => { results := [.lit (.bool true)], args := [d1, d2, d3, d4] }
  | _ => none }
def heapSameRow : OpenClaim := { program := "ytobfcaejpcpboaa", sum := "62df4d05dc4120127607ccf9f943ca98f85af3d9076234e57c47cea93d91341c", func := "boscage/boscagelaw17.HeapSame", spec := "heapSame", inPlace := ["slices.overlaps[boscage/api.Pair]"], unfollowed := true, recurses := true, apart := false }
def HeapSameSaid : Prop := heapSameRow.holds Try.pinned (OpenSpec.ofChange heapSameSpec)

/-- ITS FALSE NEIGHBOUR: 'it returns false'. Refute it at one input. -/
def heapSameWrong : ChangeSpec := { name := "heapSame", fn := fun _ => fun
  | [d1, d2, d3, d4] => { results := [.lit (.bool false)], args := [d1, d2, d3, d4] }
  | _ => none }
def HeapSameWrongFalsely : Prop := heapSameRow.holds Try.pinned (OpenSpec.ofChange heapSameWrong)

/- THE SECOND FORM. 'bulk': how many values and letters a reading holds, each counted each time it is reached (what is shared counts as often as it is met; a slice's spare places count too). A statement '..UptoSaid' is the law's where the arguments, and the package variables that the reading takes, are together of bulk at most 1048576: NARROWER than '..Said'. Prove '..Said' where nothing that the law and all that it calls make is longer than what came in: it says more and counts as full. Else prove '..UptoSaid'. A law counts once. -/
mutual
def uptoBulk {H : Type} : DataW H → Nat
  | .lit (.string bytes) => bytes.length + 1
  | .lit _ => 1
  | .nil => 1
  | .ptr d => uptoBulk d + 1
  | .slice elems spare => uptoBulkAll elems + uptoBulkAll spare + 1
  | .agg parts => uptoBulkAll parts + 1
  | .iface _ d => uptoBulk d + 1
  | .map entries => uptoBulkEntries entries + 1
  | .held _ => 1
def uptoBulkAll {H : Type} : List (DataW H) → Nat
  | [] => 0
  | d :: r => uptoBulk d + uptoBulkAll r
def uptoBulkEntries {H : Type} : List (Lit × DataW H) → Nat
  | [] => 0
  | x :: r => uptoBulkEntry x + uptoBulkEntries r
def uptoBulkEntry {H : Type} : Lit × DataW H → Nat
  | (.string bytes, d) => bytes.length + uptoBulk d + 1
  | (_, d) => uptoBulk d + 1
 end
def uptoSmall : (H : Type) → List (DataW H) → Bool := fun _ ds => decide (uptoBulkAll ds ≤ 1048576)
def OpenSpec.upto (s : _root_.Go.ChangeSpec) : _root_.Go.OpenSpec := { _root_.Go.OpenSpec.ofChange s with cond := some uptoSmall }

/-- 'boscagelaw13.NodeMays', WHERE WHAT IT READS IS OF BULK AT MOST 1048576: true; the input reads as it did. -/
def nodeMaysUptoRow : OpenClaim := { program := "ytobfcaejpcpboaa", sum := "62df4d05dc4120127607ccf9f943ca98f85af3d9076234e57c47cea93d91341c", func := "boscage/boscagelaw13.NodeMays", spec := "nodeMays", inPlace := ["slices.overlaps[boscage/api.Pair]"], unfollowed := true, recurses := true, apart := false, narrowed := true }
def NodeMaysUptoSaid : Prop := nodeMaysUptoRow.holds Try.pinned (OpenSpec.upto nodeMaysSpec)

/-- 'boscagelaw13.NodeMakes', WHERE WHAT IT READS IS OF BULK AT MOST 1048576: true; the input reads as it did. -/
def nodeMakesUptoRow : OpenClaim := { program := "ytobfcaejpcpboaa", sum := "62df4d05dc4120127607ccf9f943ca98f85af3d9076234e57c47cea93d91341c", func := "boscage/boscagelaw13.NodeMakes", spec := "nodeMakes", inPlace := ["slices.overlaps[boscage/api.Pair]"], unfollowed := true, recurses := true, apart := false, narrowed := true }
def NodeMakesUptoSaid : Prop := nodeMakesUptoRow.holds Try.pinned (OpenSpec.upto nodeMakesSpec)

/-- 'boscagelaw13.NodeCopies', WHERE WHAT IT READS IS OF BULK AT MOST 1048576: true; the input reads as it did. -/
def nodeCopiesUptoRow : OpenClaim := { program := "ytobfcaejpcpboaa", sum := "62df4d05dc4120127607ccf9f943ca98f85af3d9076234e57c47cea93d91341c", func := "boscage/boscagelaw13.NodeCopies", spec := "nodeCopies", inPlace := ["slices.overlaps[boscage/api.Pair]"], unfollowed := true, recurses := true, apart := false, narrowed := true }
def NodeCopiesUptoSaid : Prop := nodeCopiesUptoRow.holds Try.pinned (OpenSpec.upto nodeCopiesSpec)

/-- 'boscagelaw13.NodeTells', WHERE WHAT IT READS IS OF BULK AT MOST 1048576: true; the input reads as it did. -/
def nodeTellsUptoRow : OpenClaim := { program := "ytobfcaejpcpboaa", sum := "62df4d05dc4120127607ccf9f943ca98f85af3d9076234e57c47cea93d91341c", func := "boscage/boscagelaw13.NodeTells", spec := "nodeTells", inPlace := ["slices.overlaps[boscage/api.Pair]"], unfollowed := true, recurses := true, apart := false, narrowed := true }
def NodeTellsUptoSaid : Prop := nodeTellsUptoRow.holds Try.pinned (OpenSpec.upto nodeTellsSpec)

/-- 'boscagelaw19.BranchTells', WHERE WHAT IT READS IS OF BULK AT MOST 1048576: true; the input reads as it did. -/
def branchTellsUptoRow : OpenClaim := { program := "ytobfcaejpcpboaa", sum := "62df4d05dc4120127607ccf9f943ca98f85af3d9076234e57c47cea93d91341c", func := "boscage/boscagelaw19.BranchTells", spec := "branchTells", inPlace := ["slices.overlaps[boscage/api.Pair]", "slices.overlaps[boscage/api.Ref]"], unfollowed := true, recurses := true, apart := false, narrowed := true }
def BranchTellsUptoSaid : Prop := branchTellsUptoRow.holds Try.pinned (OpenSpec.upto branchTellsSpec)

/-- 'boscagelaw19.BranchChanges', WHERE WHAT IT READS IS OF BULK AT MOST 1048576: true; the input reads as it did. -/
def branchChangesUptoRow : OpenClaim := { program := "ytobfcaejpcpboaa", sum := "62df4d05dc4120127607ccf9f943ca98f85af3d9076234e57c47cea93d91341c", func := "boscage/boscagelaw19.BranchChanges", spec := "branchChanges", inPlace := ["slices.overlaps[boscage/api.Pair]", "slices.overlaps[boscage/api.Ref]"], unfollowed := true, recurses := true, apart := false, narrowed := true }
def BranchChangesUptoSaid : Prop := branchChangesUptoRow.holds Try.pinned (OpenSpec.upto branchChangesSpec)

/-- 'boscagelaw19.BranchKeeps', WHERE WHAT IT READS IS OF BULK AT MOST 1048576: true; the input reads as it did. -/
def branchKeepsUptoRow : OpenClaim := { program := "ytobfcaejpcpboaa", sum := "62df4d05dc4120127607ccf9f943ca98f85af3d9076234e57c47cea93d91341c", func := "boscage/boscagelaw19.BranchKeeps", spec := "branchKeeps", inPlace := ["slices.overlaps[boscage/api.Pair]", "slices.overlaps[boscage/api.Ref]"], unfollowed := true, recurses := true, apart := false, narrowed := true }
def BranchKeepsUptoSaid : Prop := branchKeepsUptoRow.holds Try.pinned (OpenSpec.upto branchKeepsSpec)

/-- 'boscagelaw17.HeapBinds', WHERE WHAT IT READS IS OF BULK AT MOST 1048576: true; the input reads as it did. -/
def heapBindsUptoRow : OpenClaim := { program := "ytobfcaejpcpboaa", sum := "62df4d05dc4120127607ccf9f943ca98f85af3d9076234e57c47cea93d91341c", func := "boscage/boscagelaw17.HeapBinds", spec := "heapBinds", inPlace := ["slices.overlaps[boscage/api.Pair]"], unfollowed := true, recurses := true, apart := false, narrowed := true }
def HeapBindsUptoSaid : Prop := heapBindsUptoRow.holds Try.pinned (OpenSpec.upto heapBindsSpec)

/-- 'boscagelaw17.HeapCounts', WHERE WHAT IT READS IS OF BULK AT MOST 1048576: true; the input reads as it did. -/
def heapCountsUptoRow : OpenClaim := { program := "ytobfcaejpcpboaa", sum := "62df4d05dc4120127607ccf9f943ca98f85af3d9076234e57c47cea93d91341c", func := "boscage/boscagelaw17.HeapCounts", spec := "heapCounts", inPlace := ["slices.overlaps[boscage/api.Pair]"], unfollowed := true, recurses := true, apart := false, narrowed := true }
def HeapCountsUptoSaid : Prop := heapCountsUptoRow.holds Try.pinned (OpenSpec.upto heapCountsSpec)

/-- 'boscagelaw18.PlanFills', WHERE WHAT IT READS IS OF BULK AT MOST 1048576: true; the input reads as it did. -/
def planFillsUptoRow : OpenClaim := { program := "ytobfcaejpcpboaa", sum := "62df4d05dc4120127607ccf9f943ca98f85af3d9076234e57c47cea93d91341c", func := "boscage/boscagelaw18.PlanFills", spec := "planFills", inPlace := ["slices.overlaps[boscage/api.Pair]"], unfollowed := true, recurses := true, apart := false, narrowed := true }
def PlanFillsUptoSaid : Prop := planFillsUptoRow.holds Try.pinned (OpenSpec.upto planFillsSpec)

/-- 'boscagelaw18.PlanDoes', WHERE WHAT IT READS IS OF BULK AT MOST 1048576: true; the input reads as it did. -/
def planDoesUptoRow : OpenClaim := { program := "ytobfcaejpcpboaa", sum := "62df4d05dc4120127607ccf9f943ca98f85af3d9076234e57c47cea93d91341c", func := "boscage/boscagelaw18.PlanDoes", spec := "planDoes", inPlace := ["slices.overlaps[boscage/api.Pair]"], unfollowed := true, recurses := true, apart := false, narrowed := true }
def PlanDoesUptoSaid : Prop := planDoesUptoRow.holds Try.pinned (OpenSpec.upto planDoesSpec)

/-- 'boscagelaw18.PlanStays', WHERE WHAT IT READS IS OF BULK AT MOST 1048576: true; the input reads as it did. -/
def planStaysUptoRow : OpenClaim := { program := "ytobfcaejpcpboaa", sum := "62df4d05dc4120127607ccf9f943ca98f85af3d9076234e57c47cea93d91341c", func := "boscage/boscagelaw18.PlanStays", spec := "planStays", inPlace := ["slices.overlaps[boscage/api.Pair]"], unfollowed := true, recurses := true, apart := false, narrowed := true }
def PlanStaysUptoSaid : Prop := planStaysUptoRow.holds Try.pinned (OpenSpec.upto planStaysSpec)

/-- 'boscagelaw18.PlanMays', WHERE WHAT IT READS IS OF BULK AT MOST 1048576: true; the input reads as it did. -/
def planMaysUptoRow : OpenClaim := { program := "ytobfcaejpcpboaa", sum := "62df4d05dc4120127607ccf9f943ca98f85af3d9076234e57c47cea93d91341c", func := "boscage/boscagelaw18.PlanMays", spec := "planMays", inPlace := ["slices.overlaps[boscage/api.Pair]"], unfollowed := true, recurses := true, apart := false, narrowed := true }
def PlanMaysUptoSaid : Prop := planMaysUptoRow.holds Try.pinned (OpenSpec.upto planMaysSpec)

/-- 'boscagelaw17.HeapSame', WHERE WHAT IT READS IS OF BULK AT MOST 1048576: true; the input reads as it did. -/
def heapSameUptoRow : OpenClaim := { program := "ytobfcaejpcpboaa", sum := "62df4d05dc4120127607ccf9f943ca98f85af3d9076234e57c47cea93d91341c", func := "boscage/boscagelaw17.HeapSame", spec := "heapSame", inPlace := ["slices.overlaps[boscage/api.Pair]"], unfollowed := true, recurses := true, apart := false, narrowed := true }
def HeapSameUptoSaid : Prop := heapSameUptoRow.holds Try.pinned (OpenSpec.upto heapSameSpec)

end Rows
end Go.Proofs.Ytobfcaejpcpboaa
