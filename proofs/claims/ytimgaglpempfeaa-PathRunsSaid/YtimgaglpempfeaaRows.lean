/-
  No cell of these rows narrows 'for every input' (looked for: loops, veiled, ifaces, maps, wideKeys, modest, calm, conditions, laid).
  DERIVED. THE GIVEN ROWS OF THIS SEAT. 6 by the template 'for every input the law returns true; each argument reads behind the call as it read before'; 0 by the template 'total and deterministic' (their statements: YtimgaglpempfeaaTotals.lean).
  GIVEN WITH THE SEED: the statements are not yours to turn. If you find one false, say at which input.
  Laid BY PROGRAM, IN A SANDBOX (cutbox-rows.mjs): the forced cells as the released guide's own fill.sh prints them over the translation 759c718e32c95a25… (all of the seat's roots in one cut). By AI agents, Wed Nov 11 2026. No macro, syntax, notation, axiom, sorry.
-/
import Derived.Test.YtimgaglpempfeaaChecked
import GoSem.Claim
import GoSem.ClaimJoined
import GoSem.ClaimMapViews
import Derived.JoinedTies
import Derived.KernelRfl
namespace Go.Proofs.Ytimgaglpempfeaa
/- THE CELL 'sum', in the pinned program and in every row, IS THE sha256 OF THE DUMP (.gsa) THAT YtimgaglpempfeaaProg.lean LOADS. Nothing in Lean hashes anything: it is a label: what it is worth is what the hold of that sum in a sandbox is worth. -/
noncomputable def Try.pinned : Pinned := { name := "ytimgaglpempfeaa", sum := "759c718e32c95a253a18a6357bef43fbc35236285fad11fc1f156321e25f68f7", checked := Try.checked }
namespace Rows
def none {H : Type} : Left H := { results := [], args := [] }

/-- 'boscagelaw25.TreeIs': WHATEVER THE INPUT: true; the input reads as it did. -/
def treeIsSpec : ChangeSpec := { name := "treeIs", fn := fun _ => fun
  | [d1, d2] => { results := [.lit (.bool true)], args := [d1, d2] }
  | _ => none }
def treeIsRow : OpenClaim := { program := "ytimgaglpempfeaa", sum := "759c718e32c95a253a18a6357bef43fbc35236285fad11fc1f156321e25f68f7", func := "boscage/boscagelaw25.TreeIs", spec := "treeIs", inPlace := ["slices.overlaps[boscage/api.Pair]"], unfollowed := true, recurses := true, apart := false }
def TreeIsSaid : Prop := treeIsRow.holds Try.pinned (OpenSpec.ofChange treeIsSpec)

/-- ITS FALSE NEIGHBOUR: 'it returns false'. Refute it at one input. -/
def treeIsWrong : ChangeSpec := { name := "treeIs", fn := fun _ => fun
  | [d1, d2] => { results := [.lit (.bool false)], args := [d1, d2] }
  | _ => none }
def TreeIsWrongFalsely : Prop := treeIsRow.holds Try.pinned (OpenSpec.ofChange treeIsWrong)

/-- 'boscagelaw25.TreeHas': WHATEVER THE INPUT: true; the input reads as it did. -/
def treeHasSpec : ChangeSpec := { name := "treeHas", fn := fun _ => fun
  | [d] => { results := [.lit (.bool true)], args := [d] }
  | _ => none }
def treeHasRow : OpenClaim := { program := "ytimgaglpempfeaa", sum := "759c718e32c95a253a18a6357bef43fbc35236285fad11fc1f156321e25f68f7", func := "boscage/boscagelaw25.TreeHas", spec := "treeHas", inPlace := ["slices.overlaps[boscage/api.Pair]"], unfollowed := true, recurses := true, apart := false }
def TreeHasSaid : Prop := treeHasRow.holds Try.pinned (OpenSpec.ofChange treeHasSpec)

/-- ITS FALSE NEIGHBOUR: 'it returns false'. Refute it at one input. -/
def treeHasWrong : ChangeSpec := { name := "treeHas", fn := fun _ => fun
  | [d] => { results := [.lit (.bool false)], args := [d] }
  | _ => none }
def TreeHasWrongFalsely : Prop := treeHasRow.holds Try.pinned (OpenSpec.ofChange treeHasWrong)

/-- 'boscagelaw26.PathRuns': WHATEVER THE INPUT: true; the input reads as it did. -/
def pathRunsSpec : ChangeSpec := { name := "pathRuns", fn := fun _ => fun
  | [d1, d2, d3] => { results := [.lit (.bool true)], args := [d1, d2, d3] }
  | _ => none }
def pathRunsRow : OpenClaim := { program := "ytimgaglpempfeaa", sum := "759c718e32c95a253a18a6357bef43fbc35236285fad11fc1f156321e25f68f7", func := "boscage/boscagelaw26.PathRuns", spec := "pathRuns", inPlace := ["slices.overlaps[boscage/api.Pair]"], unfollowed := true, recurses := true, apart := false }
def PathRunsSaid : Prop := pathRunsRow.holds Try.pinned (OpenSpec.ofChange pathRunsSpec)

/-- ITS FALSE NEIGHBOUR: 'it returns false'. Refute it at one input. -/
def pathRunsWrong : ChangeSpec := { name := "pathRuns", fn := fun _ => fun
  | [d1, d2, d3] => { results := [.lit (.bool false)], args := [d1, d2, d3] }
  | _ => none }
def PathRunsWrongFalsely : Prop := pathRunsRow.holds Try.pinned (OpenSpec.ofChange pathRunsWrong)

/-- 'boscagelaw26.PathRefuses': WHATEVER THE INPUT: true; the input reads as it did. -/
def pathRefusesSpec : ChangeSpec := { name := "pathRefuses", fn := fun _ => fun
  | [d1, d2, d3] => { results := [.lit (.bool true)], args := [d1, d2, d3] }
  | _ => none }
def pathRefusesRow : OpenClaim := { program := "ytimgaglpempfeaa", sum := "759c718e32c95a253a18a6357bef43fbc35236285fad11fc1f156321e25f68f7", func := "boscage/boscagelaw26.PathRefuses", spec := "pathRefuses", inPlace := ["slices.overlaps[boscage/api.Pair]"], unfollowed := true, recurses := true, apart := false }
def PathRefusesSaid : Prop := pathRefusesRow.holds Try.pinned (OpenSpec.ofChange pathRefusesSpec)

/-- ITS FALSE NEIGHBOUR: 'it returns false'. Refute it at one input. -/
def pathRefusesWrong : ChangeSpec := { name := "pathRefuses", fn := fun _ => fun
  | [d1, d2, d3] => { results := [.lit (.bool false)], args := [d1, d2, d3] }
  | _ => none }
def PathRefusesWrongFalsely : Prop := pathRefusesRow.holds Try.pinned (OpenSpec.ofChange pathRefusesWrong)

/-- 'boscagelaw26.PathFeeds': WHATEVER THE INPUT: true; the input reads as it did. -/
def pathFeedsSpec : ChangeSpec := { name := "pathFeeds", fn := fun _ => fun
  | [d1, d2, d3] => { results := [.lit (.bool true)], args := [d1, d2, d3] }
  | _ => none }
def pathFeedsRow : OpenClaim := { program := "ytimgaglpempfeaa", sum := "759c718e32c95a253a18a6357bef43fbc35236285fad11fc1f156321e25f68f7", func := "boscage/boscagelaw26.PathFeeds", spec := "pathFeeds", inPlace := ["slices.overlaps[boscage/api.Pair]"], unfollowed := true, recurses := true, apart := false }
def PathFeedsSaid : Prop := pathFeedsRow.holds Try.pinned (OpenSpec.ofChange pathFeedsSpec)

/-- ITS FALSE NEIGHBOUR: 'it returns false'. Refute it at one input. -/
def pathFeedsWrong : ChangeSpec := { name := "pathFeeds", fn := fun _ => fun
  | [d1, d2, d3] => { results := [.lit (.bool false)], args := [d1, d2, d3] }
  | _ => none }
def PathFeedsWrongFalsely : Prop := pathFeedsRow.holds Try.pinned (OpenSpec.ofChange pathFeedsWrong)

/-- 'boscagelaw26.PathAll': WHATEVER THE INPUT: true; the input reads as it did. -/
def pathAllSpec : ChangeSpec := { name := "pathAll", fn := fun _ => fun
  | [d] => { results := [.lit (.bool true)], args := [d] }
  | _ => none }
def pathAllRow : OpenClaim := { program := "ytimgaglpempfeaa", sum := "759c718e32c95a253a18a6357bef43fbc35236285fad11fc1f156321e25f68f7", func := "boscage/boscagelaw26.PathAll", spec := "pathAll", inPlace := ["slices.overlaps[boscage/api.Pair]"], unfollowed := true, recurses := true, apart := false }
def PathAllSaid : Prop := pathAllRow.holds Try.pinned (OpenSpec.ofChange pathAllSpec)

/-- ITS FALSE NEIGHBOUR: 'it returns false'. Refute it at one input. -/
def pathAllWrong : ChangeSpec := { name := "pathAll", fn := fun _ => fun
  | [d] => { results := [.lit (.bool false)], args := [d] }
  | _ => none }
def PathAllWrongFalsely : Prop := pathAllRow.holds Try.pinned (OpenSpec.ofChange pathAllWrong)

/- THE SECOND FORM. 'bulk': how many values and letters a reading holds, each counted each time it is reached (what is shared counts as often as it is met; a slice's spare places count too). A statement '..UptoSaid' is the law's where the arguments, and the package variables that the reading takes, are together of bulk at most 1048576: NARROWER than '..Said'. Prove '..Said' where nothing that the law and all that it calls make is longer than what came in: it says more and counts as full. Else prove '..UptoSaid'. A law counts once. -/
mutual
def uptoBulk {H : Type} : DataW H → Nat
  | .lit (.string bytes) => bytes.length + 1
  | .lit _ => 1
  | .nil => 1
  | .ptr d => uptoBulk d + 1
  | .slice elems spare => uptoBulkAll elems + uptoBulkAll spare + 1
  | .agg parts => uptoBulkAll parts + 1
  | .iface _ d => uptoBulk d + 1
  | .map entries => uptoBulkEntries entries + 1
  | .held _ => 1
def uptoBulkAll {H : Type} : List (DataW H) → Nat
  | [] => 0
  | d :: r => uptoBulk d + uptoBulkAll r
def uptoBulkEntries {H : Type} : List (Lit × DataW H) → Nat
  | [] => 0
  | x :: r => uptoBulkEntry x + uptoBulkEntries r
def uptoBulkEntry {H : Type} : Lit × DataW H → Nat
  | (.string bytes, d) => bytes.length + uptoBulk d + 1
  | (_, d) => uptoBulk d + 1
 end
def uptoSmall : (H : Type) → List (DataW H) → Bool := fun _ ds => decide (uptoBulkAll ds ≤ 1048576)
def OpenSpec.upto (s : _root_.Go.ChangeSpec) : _root_.Go.OpenSpec := { _root_.Go.OpenSpec.ofChange s with cond := some uptoSmall }

/-- 'boscagelaw25.TreeIs', WHERE WHAT IT READS IS OF BULK AT MOST 1048576: true; the input reads as it did. -/
def treeIsUptoRow : OpenClaim := { program := "ytimgaglpempfeaa", sum := "759c718e32c95a253a18a6357bef43fbc35236285fad11fc1f156321e25f68f7", func := "boscage/boscagelaw25.TreeIs", spec := "treeIs", inPlace := ["slices.overlaps[boscage/api.Pair]"], unfollowed := true, recurses := true, apart := false, narrowed := true }
def TreeIsUptoSaid : Prop := treeIsUptoRow.holds Try.pinned (OpenSpec.upto treeIsSpec)

/-- 'boscagelaw25.TreeHas', WHERE WHAT IT READS IS OF BULK AT MOST 1048576: true; the input reads as it did. -/
def treeHasUptoRow : OpenClaim := { program := "ytimgaglpempfeaa", sum := "759c718e32c95a253a18a6357bef43fbc35236285fad11fc1f156321e25f68f7", func := "boscage/boscagelaw25.TreeHas", spec := "treeHas", inPlace := ["slices.overlaps[boscage/api.Pair]"], unfollowed := true, recurses := true, apart := false, narrowed := true }
def TreeHasUptoSaid : Prop := treeHasUptoRow.holds Try.pinned (OpenSpec.upto treeHasSpec)

/-- 'boscagelaw26.PathRuns', WHERE WHAT IT READS IS OF BULK AT MOST 1048576: true; the input reads as it did. -/
def pathRunsUptoRow : OpenClaim := { program := "ytimgaglpempfeaa", sum := "759c718e32c95a253a18a6357bef43fbc35236285fad11fc1f156321e25f68f7", func := "boscage/boscagelaw26.PathRuns", spec := "pathRuns", inPlace := ["slices.overlaps[boscage/api.Pair]"], unfollowed := true, recurses := true, apart := false, narrowed := true }
def PathRunsUptoSaid : Prop := pathRunsUptoRow.holds Try.pinned (OpenSpec.upto pathRunsSpec)

/-- 'boscagelaw26.PathRefuses', WHERE WHAT IT READS IS OF BULK AT MOST 1048576: true; the input reads as it did. -/
def pathRefusesUptoRow : OpenClaim := { program := "ytimgaglpempfeaa", sum := "759c718e32c95a253a18a6357bef43fbc35236285fad11fc1f156321e25f68f7", func := "boscage/boscagelaw26.PathRefuses", spec := "pathRefuses", inPlace := ["slices.overlaps[boscage/api.Pair]"], unfollowed := true, recurses := true, apart := false, narrowed := true }
def PathRefusesUptoSaid : Prop := pathRefusesUptoRow.holds Try.pinned (OpenSpec.upto pathRefusesSpec)

/-- 'boscagelaw26.PathFeeds', WHERE WHAT IT READS IS OF BULK AT MOST 1048576: true; the input reads as it did. -/
def pathFeedsUptoRow : OpenClaim := { program := "ytimgaglpempfeaa", sum := "759c718e32c95a253a18a6357bef43fbc35236285fad11fc1f156321e25f68f7", func := "boscage/boscagelaw26.PathFeeds", spec := "pathFeeds", inPlace := ["slices.overlaps[boscage/api.Pair]"], unfollowed := true, recurses := true, apart := false, narrowed := true }
def PathFeedsUptoSaid : Prop := pathFeedsUptoRow.holds Try.pinned (OpenSpec.upto pathFeedsSpec)

/-- 'boscagelaw26.PathAll', WHERE WHAT IT READS IS OF BULK AT MOST 1048576: true; the input reads as it did. -/
def pathAllUptoRow : OpenClaim := { program := "ytimgaglpempfeaa", sum := "759c718e32c95a253a18a6357bef43fbc35236285fad11fc1f156321e25f68f7", func := "boscage/boscagelaw26.PathAll", spec := "pathAll", inPlace := ["slices.overlaps[boscage/api.Pair]"], unfollowed := true, recurses := true, apart := false, narrowed := true }
def PathAllUptoSaid : Prop := pathAllUptoRow.holds Try.pinned (OpenSpec.upto pathAllSpec)

end Rows
end Go.Proofs.Ytimgaglpempfeaa
