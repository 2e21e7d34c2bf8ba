/-
  No cell of these rows narrows 'for every input' (looked for: loops, veiled, ifaces, maps, wideKeys, modest, calm, conditions, laid).
  DERIVED. THE GIVEN ROWS OF THIS SEAT. 7 by the template 'for every input the law returns true; each argument reads behind the call as it read before'; 0 by the template 'total and deterministic' (their statements: YtmopkbmcilolgaaTotals.lean).
  GIVEN WITH THE SEED: the statements are not yours to turn. If you find one false, say at which input.
  Laid BY PROGRAM, IN A SANDBOX (cutbox-rows.mjs): the forced cells as the released guide's own fill.sh prints them over the translation e26dd887bf045f60… (all of the seat's roots in one cut). By AI agents, Wed Nov 11 2026. No macro, syntax, notation, axiom, sorry.
-/
import Derived.Test.YtmopkbmcilolgaaChecked
import GoSem.Claim
import GoSem.ClaimJoined
import GoSem.ClaimMapViews
import Derived.JoinedTies
import Derived.KernelRfl
namespace Go.Proofs.Ytmopkbmcilolgaa
/- THE CELL 'sum', in the pinned program and in every row, IS THE sha256 OF THE DUMP (.gsa) THAT YtmopkbmcilolgaaProg.lean LOADS. Nothing in Lean hashes anything: it is a label: what it is worth is what the hold of that sum in a sandbox is worth. -/
noncomputable def Try.pinned : Pinned := { name := "ytmopkbmcilolgaa", sum := "e26dd887bf045f602e07be9525b725225db038ddd62eeb8d9bb6d2dadbced8ef", checked := Try.checked }
namespace Rows
def none {H : Type} : Left H := { results := [], args := [] }

/-- 'boscagelaw17.HeapBinds': WHATEVER THE INPUT: true; the input reads as it did. -/
def heapBindsSpec : ChangeSpec := { name := "heapBinds", fn := fun _ => fun
  | [d1, d2] => { results := [.lit (.bool true)], args := [d1, d2] }
  | _ => none }
def heapBindsRow : OpenClaim := { program := "ytmopkbmcilolgaa", sum := "e26dd887bf045f602e07be9525b725225db038ddd62eeb8d9bb6d2dadbced8ef", func := "boscage/boscagelaw17.HeapBinds", spec := "heapBinds", inPlace := ["slices.overlaps[boscage/api.Pair]"], unfollowed := true, recurses := true, apart := false }
def HeapBindsSaid : Prop := heapBindsRow.holds Try.pinned (OpenSpec.ofChange heapBindsSpec)

/-- ITS FALSE NEIGHBOUR: 'it returns false'. Refute it at one input. -/
def heapBindsWrong : ChangeSpec := { name := "heapBinds", fn := fun _ => fun
  | [d1, d2] => { results := [.lit (.bool false)], args := [d1, d2] }
  | _ => none }
def HeapBindsWrongFalsely : Prop := heapBindsRow.holds Try.pinned (OpenSpec.ofChange heapBindsWrong)

/-- 'boscagelaw17.HeapCounts': WHATEVER THE INPUT: true; the input reads as it did. -/
def heapCountsSpec : ChangeSpec := { name := "heapCounts", fn := fun _ => fun
  | [d1, d2] => { results := [.lit (.bool true)], args := [d1, d2] }
  | _ => none }
def heapCountsRow : OpenClaim := { program := "ytmopkbmcilolgaa", sum := "e26dd887bf045f602e07be9525b725225db038ddd62eeb8d9bb6d2dadbced8ef", func := "boscage/boscagelaw17.HeapCounts", spec := "heapCounts", inPlace := ["slices.overlaps[boscage/api.Pair]"], unfollowed := true, recurses := true, apart := false }
def HeapCountsSaid : Prop := heapCountsRow.holds Try.pinned (OpenSpec.ofChange heapCountsSpec)

/-- ITS FALSE NEIGHBOUR: 'it returns false'. Refute it at one input. -/
def heapCountsWrong : ChangeSpec := { name := "heapCounts", fn := fun _ => fun
  | [d1, d2] => { results := [.lit (.bool false)], args := [d1, d2] }
  | _ => none }
def HeapCountsWrongFalsely : Prop := heapCountsRow.holds Try.pinned (OpenSpec.ofChange heapCountsWrong)

/-- 'boscagelaw17.HeapSame': WHATEVER THE INPUT: true; the input reads as it did. -/
def heapSameSpec : ChangeSpec := { name := "heapSame", fn := fun _ => fun
  | [d1, d2, d3, d4] => { results := [.lit (.bool true)], args := [d1, d2, d3, d4] }
  | _ => none }
def heapSameRow : OpenClaim := { program := "ytmopkbmcilolgaa", sum := "e26dd887bf045f602e07be9525b725225db038ddd62eeb8d9bb6d2dadbced8ef", func := "boscage/boscagelaw17.HeapSame", spec := "heapSame", inPlace := ["slices.overlaps[boscage/api.Pair]"], unfollowed := true, recurses := true, apart := false }
def HeapSameSaid : Prop := heapSameRow.holds Try.pinned (OpenSpec.ofChange heapSameSpec)

/-- ITS FALSE NEIGHBOUR: 'it returns false'. Refute it at one input. -/
def heapSameWrong : ChangeSpec := { name := "heapSame", fn := fun _ => fun
  | [d1, d2, d3, d4] => { results := [.lit (.bool false)], args := [d1, d2, d3, d4] }
  | _ => none }
def HeapSameWrongFalsely : Prop := heapSameRow.holds Try.pinned (OpenSpec.ofChange heapSameWrong)

/-- 'boscagelaw17.HeapMore': WHATEVER THE INPUT: true; the input reads as it did. -/
def heapMoreSpec : ChangeSpec := { name := "heapMore", fn := fun _ => fun
  | [d1, d2, d3] => { results := [.lit (.bool true)], args := [d1, d2, d3] }
  | _ => none }
def heapMoreRow : OpenClaim := { program := "ytmopkbmcilolgaa", sum := "e26dd887bf045f602e07be9525b725225db038ddd62eeb8d9bb6d2dadbced8ef", func := "boscage/boscagelaw17.HeapMore", spec := "heapMore", inPlace := ["slices.overlaps[boscage/api.Pair]"], unfollowed := true, recurses := true, apart := false }
def HeapMoreSaid : Prop := heapMoreRow.holds Try.pinned (OpenSpec.ofChange heapMoreSpec)

/-- ITS FALSE NEIGHBOUR: 'it returns false'. Refute it at one input. -/
def heapMoreWrong : ChangeSpec := { name := "heapMore", fn := fun _ => fun
  | [d1, d2, d3] => { results := [.lit (.bool false)], args := [d1, d2, d3] }
  | _ => none }
def HeapMoreWrongFalsely : Prop := heapMoreRow.holds Try.pinned (OpenSpec.ofChange heapMoreWrong)

/-- 'boscagelaw21.FindRuns': WHATEVER THE INPUT: true; the input reads as it did. -/
def findRunsSpec : ChangeSpec := { name := "findRuns", fn := fun _ => fun
  | [d1, d2, d3, d4] => { results := [.lit (.bool true)], args := [d1, d2, d3, d4] }
  | _ => none }
def findRunsRow : OpenClaim := { program := "ytmopkbmcilolgaa", sum := "e26dd887bf045f602e07be9525b725225db038ddd62eeb8d9bb6d2dadbced8ef", func := "boscage/boscagelaw21.FindRuns", spec := "findRuns", inPlace := ["slices.overlaps[boscage/api.Pair]"], unfollowed := true, recurses := true, apart := false }
def FindRunsSaid : Prop := findRunsRow.holds Try.pinned (OpenSpec.ofChange findRunsSpec)

/-- ITS FALSE NEIGHBOUR: 'it returns false'. Refute it at one input. -/
def findRunsWrong : ChangeSpec := { name := "findRuns", fn := fun _ => fun
  | [d1, d2, d3, d4] => { results := [.lit (.bool false)], args := [d1, d2, d3, d4] }
  | _ => none }
def FindRunsWrongFalsely : Prop := findRunsRow.holds Try.pinned (OpenSpec.ofChange findRunsWrong)

/-- 'boscagelaw21.FindFeeds': WHATEVER THE INPUT: true; the input reads as it did. -/
def findFeedsSpec : ChangeSpec := { name := "findFeeds", fn := fun _ => fun
  | [d1, d2, d3, d4] => { results := [.lit (.bool true)], args := [d1, d2, d3, d4] }
  | _ => none }
def findFeedsRow : OpenClaim := { program := "ytmopkbmcilolgaa", sum := "e26dd887bf045f602e07be9525b725225db038ddd62eeb8d9bb6d2dadbced8ef", func := "boscage/boscagelaw21.FindFeeds", spec := "findFeeds", inPlace := ["slices.overlaps[boscage/api.Pair]"], unfollowed := true, recurses := true, apart := false }
def FindFeedsSaid : Prop := findFeedsRow.holds Try.pinned (OpenSpec.ofChange findFeedsSpec)

/-- ITS FALSE NEIGHBOUR: 'it returns false'. Refute it at one input. -/
def findFeedsWrong : ChangeSpec := { name := "findFeeds", fn := fun _ => fun
  | [d1, d2, d3, d4] => { results := [.lit (.bool false)], args := [d1, d2, d3, d4] }
  | _ => none }
def FindFeedsWrongFalsely : Prop := findFeedsRow.holds Try.pinned (OpenSpec.ofChange findFeedsWrong)

/-- 'boscagelaw21.FindTries': WHATEVER THE INPUT: true; the input reads as it did. -/
def findTriesSpec : ChangeSpec := { name := "findTries", fn := fun _ => fun
  | [d1, d2, d3] => { results := [.lit (.bool true)], args := [d1, d2, d3] }
  | _ => none }
def findTriesRow : OpenClaim := { program := "ytmopkbmcilolgaa", sum := "e26dd887bf045f602e07be9525b725225db038ddd62eeb8d9bb6d2dadbced8ef", func := "boscage/boscagelaw21.FindTries", spec := "findTries", inPlace := ["slices.overlaps[boscage/api.Pair]"], unfollowed := true, recurses := true, apart := false }
def FindTriesSaid : Prop := findTriesRow.holds Try.pinned (OpenSpec.ofChange findTriesSpec)

/-- ITS FALSE NEIGHBOUR: 'it returns false'. Refute it at one input. -/
def findTriesWrong : ChangeSpec := { name := "findTries", fn := fun _ => fun
  | [d1, d2, d3] => { results := [.lit (.bool false)], args := [d1, d2, d3] }
  | _ => none }
def FindTriesWrongFalsely : Prop := findTriesRow.holds Try.pinned (OpenSpec.ofChange findTriesWrong)

/- THE SECOND FORM. 'bulk': how many values and letters a reading holds, each counted each time it is reached (what is shared counts as often as it is met; a slice's spare places count too). A statement '..UptoSaid' is the law's where the arguments, and the package variables that the reading takes, are together of bulk at most 1048576: NARROWER than '..Said'. Prove '..Said' where nothing that the law and all that it calls make is longer than what came in: it says more and counts as full. Else prove '..UptoSaid'. A law counts once. -/
mutual
def uptoBulk {H : Type} : DataW H → Nat
  | .lit (.string bytes) => bytes.length + 1
  | .lit _ => 1
  | .nil => 1
  | .ptr d => uptoBulk d + 1
  | .slice elems spare => uptoBulkAll elems + uptoBulkAll spare + 1
  | .agg parts => uptoBulkAll parts + 1
  | .iface _ d => uptoBulk d + 1
  | .map entries => uptoBulkEntries entries + 1
  | .held _ => 1
def uptoBulkAll {H : Type} : List (DataW H) → Nat
  | [] => 0
  | d :: r => uptoBulk d + uptoBulkAll r
def uptoBulkEntries {H : Type} : List (Lit × DataW H) → Nat
  | [] => 0
  | x :: r => uptoBulkEntry x + uptoBulkEntries r
def uptoBulkEntry {H : Type} : Lit × DataW H → Nat
  | (.string bytes, d) => bytes.length + uptoBulk d + 1
  | (_, d) => uptoBulk d + 1
 end
def uptoSmall : (H : Type) → List (DataW H) → Bool := fun _ ds => decide (uptoBulkAll ds ≤ 1048576)
def OpenSpec.upto (s : _root_.Go.ChangeSpec) : _root_.Go.OpenSpec := { _root_.Go.OpenSpec.ofChange s with cond := some uptoSmall }

/-- 'boscagelaw17.HeapBinds', WHERE WHAT IT READS IS OF BULK AT MOST 1048576: true; the input reads as it did. -/
def heapBindsUptoRow : OpenClaim := { program := "ytmopkbmcilolgaa", sum := "e26dd887bf045f602e07be9525b725225db038ddd62eeb8d9bb6d2dadbced8ef", func := "boscage/boscagelaw17.HeapBinds", spec := "heapBinds", inPlace := ["slices.overlaps[boscage/api.Pair]"], unfollowed := true, recurses := true, apart := false, narrowed := true }
def HeapBindsUptoSaid : Prop := heapBindsUptoRow.holds Try.pinned (OpenSpec.upto heapBindsSpec)

/-- 'boscagelaw17.HeapCounts', WHERE WHAT IT READS IS OF BULK AT MOST 1048576: true; the input reads as it did. -/
def heapCountsUptoRow : OpenClaim := { program := "ytmopkbmcilolgaa", sum := "e26dd887bf045f602e07be9525b725225db038ddd62eeb8d9bb6d2dadbced8ef", func := "boscage/boscagelaw17.HeapCounts", spec := "heapCounts", inPlace := ["slices.overlaps[boscage/api.Pair]"], unfollowed := true, recurses := true, apart := false, narrowed := true }
def HeapCountsUptoSaid : Prop := heapCountsUptoRow.holds Try.pinned (OpenSpec.upto heapCountsSpec)

/-- 'boscagelaw17.HeapSame', WHERE WHAT IT READS IS OF BULK AT MOST 1048576: true; the input reads as it did. -/
def heapSameUptoRow : OpenClaim := { program := "ytmopkbmcilolgaa", sum := "e26dd887bf045f602e07be9525b725225db038ddd62eeb8d9bb6d2dadbced8ef", func := "boscage/boscagelaw17.HeapSame", spec := "heapSame", inPlace := ["slices.overlaps[boscage/api.Pair]"], unfollowed := true, recurses := true, apart := false, narrowed := true }
def HeapSameUptoSaid : Prop := heapSameUptoRow.holds Try.pinned (OpenSpec.upto heapSameSpec)

/-- 'boscagelaw17.HeapMore', WHERE WHAT IT READS IS OF BULK AT MOST 1048576: true; the input reads as it did. -/
def heapMoreUptoRow : OpenClaim := { program := "ytmopkbmcilolgaa", sum := "e26dd887bf045f602e07be9525b725225db038ddd62eeb8d9bb6d2dadbced8ef", func := "boscage/boscagelaw17.HeapMore", spec := "heapMore", inPlace := ["slices.overlaps[boscage/api.Pair]"], unfollowed := true, recurses := true, apart := false, narrowed := true }
def HeapMoreUptoSaid : Prop := heapMoreUptoRow.holds Try.pinned (OpenSpec.upto heapMoreSpec)

/-- 'boscagelaw21.FindRuns', WHERE WHAT IT READS IS OF BULK AT MOST 1048576: true; the input reads as it did. -/
def findRunsUptoRow : OpenClaim := { program := "ytmopkbmcilolgaa", sum := "e26dd887bf045f602e07be9525b725225db038ddd62eeb8d9bb6d2dadbced8ef", func := "boscage/boscagelaw21.FindRuns", spec := "findRuns", inPlace := ["slices.overlaps[boscage/api.Pair]"], unfollowed := true, recurses := true, apart := false, narrowed := true }
def FindRunsUptoSaid : Prop := findRunsUptoRow.holds Try.pinned (OpenSpec.upto findRunsSpec)

/-- 'boscagelaw21.FindFeeds', WHERE WHAT IT READS IS OF BULK AT MOST 1048576: true; the input reads as it did. -/
def findFeedsUptoRow : OpenClaim := { program := "ytmopkbmcilolgaa", sum := "e26dd887bf045f602e07be9525b725225db038ddd62eeb8d9bb6d2dadbced8ef", func := "boscage/boscagelaw21.FindFeeds", spec := "findFeeds", inPlace := ["slices.overlaps[boscage/api.Pair]"], unfollowed := true, recurses := true, apart := false, narrowed := true }
def FindFeedsUptoSaid : Prop := findFeedsUptoRow.holds Try.pinned (OpenSpec.upto findFeedsSpec)

/-- 'boscagelaw21.FindTries', WHERE WHAT IT READS IS OF BULK AT MOST 1048576: true; the input reads as it did. -/
def findTriesUptoRow : OpenClaim := { program := "ytmopkbmcilolgaa", sum := "e26dd887bf045f602e07be9525b725225db038ddd62eeb8d9bb6d2dadbced8ef", func := "boscage/boscagelaw21.FindTries", spec := "findTries", inPlace := ["slices.overlaps[boscage/api.Pair]"], unfollowed := true, recurses := true, apart := false, narrowed := true }
def FindTriesUptoSaid : Prop := findTriesUptoRow.holds Try.pinned (OpenSpec.upto findTriesSpec)

end Rows
end Go.Proofs.Ytmopkbmcilolgaa
