/-
  NARROWER THAN 'FOR EVERY INPUT', by the rows' own cells (each row's printed sentence says how): GraftRuns: laid · GraftRefuses: laid · GraftPlans: laid · GraftOld: laid · PruneRuns: laid · PruneRefuses: laid · PruneOld: laid · PruneUndoes: laid.
  DERIVED. THE GIVEN ROWS OF THIS SEAT. 8 by the template 'for every input the law returns true; each argument reads behind the call as it read before'; 0 by the template 'total and deterministic' (their statements: YtjekopgcpikkiaaGreatDoorTotals.lean).
  GIVEN WITH THE SEED: the statements are not yours to turn. If you find one false, say at which input.
  Laid BY PROGRAM, IN A SANDBOX (cutbox-rows.mjs): the forced cells as the released guide's own fill.sh prints them over the translation 15f1cc63726ea327… (all of the seat's roots in one cut). By AI agents, Wed Nov 11 2026. No macro, syntax, notation, axiom, sorry.
-/
import Derived.Test.YtjekopgcpikkiaaGreatDoorChecked
import GoSem.Claim
import GoSem.ClaimJoined
import GoSem.ClaimMapViews
import Derived.JoinedTies
import Derived.KernelRfl
namespace Go.Proofs.YtjekopgcpikkiaaGreatDoor
/- THE CELL 'sum', in the pinned program and in every row, IS THE sha256 OF THE DUMP (.gsa) THAT YtjekopgcpikkiaaGreatDoorProg.lean LOADS. Nothing in Lean hashes anything: it is a label: what it is worth is what the hold of that sum in a sandbox is worth. -/
noncomputable def Tryz.pinned : Pinned := { name := "ytjekopgcpikkiaagreatdoor", sum := "15f1cc63726ea327761ca8eb0fc27e5d89c70bd2c65c576217f72b312351e6e1", checked := Tryz.checked }
namespace Rows
def none {H : Type} : Left H := { results := [], args := [] }

/- WHAT THE LISTED PACKAGE-LEVEL VARIABLES READ AS WHEN THE CALL BEGINS. Each datum BY PROGRAM (the guide's laid-datum.mjs) off the statement by which the dump's own 'gosem.cut.vars' lays the variable. In a bare row this is a premise. The card (YtjekopgcpikkiaaGreatDoorCards.lean) ties it to the program's text. -/
def laid_math_bits_deBruijn32tab {H : Type} : DataW H := .agg [.lit (.int .u8 0), .lit (.int .u8 1), .lit (.int .u8 28), .lit (.int .u8 2), .lit (.int .u8 29), .lit (.int .u8 14), .lit (.int .u8 24), .lit (.int .u8 3), .lit (.int .u8 30), .lit (.int .u8 22), .lit (.int .u8 20), .lit (.int .u8 15), .lit (.int .u8 25), .lit (.int .u8 17), .lit (.int .u8 4), .lit (.int .u8 8), .lit (.int .u8 31), .lit (.int .u8 27), .lit (.int .u8 13), .lit (.int .u8 23), .lit (.int .u8 21), .lit (.int .u8 19), .lit (.int .u8 16), .lit (.int .u8 7), .lit (.int .u8 26), .lit (.int .u8 12), .lit (.int .u8 18), .lit (.int .u8 6), .lit (.int .u8 11), .lit (.int .u8 5), .lit (.int .u8 10), .lit (.int .u8 9)]

/-- 'boscagelaw23.GraftRuns': WHATEVER THE INPUT: true; the input reads as it did. -/
def graftRunsSpec : ChangeSpec := { name := "graftRuns", fn := fun _ => fun
  | [d1, d2, d3, d4, d5, d6] => { results := [.lit (.bool true)], args := [d1, d2, d3, d4, d5, d6] }
  | _ => none }
def graftRunsRow : OpenClaim := { program := "ytjekopgcpikkiaagreatdoor", sum := "15f1cc63726ea327761ca8eb0fc27e5d89c70bd2c65c576217f72b312351e6e1", func := "boscage/boscagelaw23.GraftRuns", spec := "graftRuns", inPlace := ["slices.overlaps[boscage/api.Pair]", "slices.overlaps[boscage/api.Ref]"], unfollowed := true, recurses := true, named := ["math/bits.deBruijn32tab"], apart := false, laid := [("math/bits.deBruijn32tab", laid_math_bits_deBruijn32tab)] }
def GraftRunsSaid : Prop := graftRunsRow.holds Tryz.pinned (OpenSpec.ofChange graftRunsSpec)

/-- ITS FALSE NEIGHBOUR: 'it returns false'. Refute it at one input. -/
def graftRunsWrong : ChangeSpec := { name := "graftRuns", fn := fun _ => fun
  | [d1, d2, d3, d4, d5, d6] => { results := [.lit (.bool false)], args := [d1, d2, d3, d4, d5, d6] }
  | _ => none }
def GraftRunsWrongFalsely : Prop := graftRunsRow.holds Tryz.pinned (OpenSpec.ofChange graftRunsWrong)

/-- 'boscagelaw23.GraftRefuses': WHATEVER THE INPUT: true; the input reads as it did. -/
def graftRefusesSpec : ChangeSpec := { name := "graftRefuses", fn := fun _ => fun
  | [d1, d2, d3, d4] => { results := [.lit (.bool true)], args := [d1, d2, d3, d4] }
  | _ => none }
def graftRefusesRow : OpenClaim := { program := "ytjekopgcpikkiaagreatdoor", sum := "15f1cc63726ea327761ca8eb0fc27e5d89c70bd2c65c576217f72b312351e6e1", func := "boscage/boscagelaw23.GraftRefuses", spec := "graftRefuses", inPlace := ["slices.overlaps[boscage/api.Pair]", "slices.overlaps[boscage/api.Ref]"], unfollowed := true, recurses := true, named := ["math/bits.deBruijn32tab"], apart := false, laid := [("math/bits.deBruijn32tab", laid_math_bits_deBruijn32tab)] }
def GraftRefusesSaid : Prop := graftRefusesRow.holds Tryz.pinned (OpenSpec.ofChange graftRefusesSpec)

/-- ITS FALSE NEIGHBOUR: 'it returns false'. Refute it at one input. -/
def graftRefusesWrong : ChangeSpec := { name := "graftRefuses", fn := fun _ => fun
  | [d1, d2, d3, d4] => { results := [.lit (.bool false)], args := [d1, d2, d3, d4] }
  | _ => none }
def GraftRefusesWrongFalsely : Prop := graftRefusesRow.holds Tryz.pinned (OpenSpec.ofChange graftRefusesWrong)

/-- 'boscagelaw23.GraftPlans': WHATEVER THE INPUT: true; the input reads as it did. -/
def graftPlansSpec : ChangeSpec := { name := "graftPlans", fn := fun _ => fun
  | [d1, d2, d3, d4, d5, d6] => { results := [.lit (.bool true)], args := [d1, d2, d3, d4, d5, d6] }
  | _ => none }
def graftPlansRow : OpenClaim := { program := "ytjekopgcpikkiaagreatdoor", sum := "15f1cc63726ea327761ca8eb0fc27e5d89c70bd2c65c576217f72b312351e6e1", func := "boscage/boscagelaw23.GraftPlans", spec := "graftPlans", inPlace := ["slices.overlaps[boscage/api.Pair]", "slices.overlaps[boscage/api.Ref]"], unfollowed := true, recurses := true, named := ["math/bits.deBruijn32tab"], apart := false, laid := [("math/bits.deBruijn32tab", laid_math_bits_deBruijn32tab)] }
def GraftPlansSaid : Prop := graftPlansRow.holds Tryz.pinned (OpenSpec.ofChange graftPlansSpec)

/-- ITS FALSE NEIGHBOUR: 'it returns false'. Refute it at one input. -/
def graftPlansWrong : ChangeSpec := { name := "graftPlans", fn := fun _ => fun
  | [d1, d2, d3, d4, d5, d6] => { results := [.lit (.bool false)], args := [d1, d2, d3, d4, d5, d6] }
  | _ => none }
def GraftPlansWrongFalsely : Prop := graftPlansRow.holds Tryz.pinned (OpenSpec.ofChange graftPlansWrong)

/-- 'boscagelaw23.GraftOld': WHATEVER THE INPUT: true; the input reads as it did. -/
def graftOldSpec : ChangeSpec := { name := "graftOld", fn := fun _ => fun
  | [d1, d2, d3, d4, d5, d6] => { results := [.lit (.bool true)], args := [d1, d2, d3, d4, d5, d6] }
  | _ => none }
def graftOldRow : OpenClaim := { program := "ytjekopgcpikkiaagreatdoor", sum := "15f1cc63726ea327761ca8eb0fc27e5d89c70bd2c65c576217f72b312351e6e1", func := "boscage/boscagelaw23.GraftOld", spec := "graftOld", inPlace := ["slices.overlaps[boscage/api.Pair]", "slices.overlaps[boscage/api.Ref]"], unfollowed := true, recurses := true, named := ["math/bits.deBruijn32tab"], apart := false, laid := [("math/bits.deBruijn32tab", laid_math_bits_deBruijn32tab)] }
def GraftOldSaid : Prop := graftOldRow.holds Tryz.pinned (OpenSpec.ofChange graftOldSpec)

/-- ITS FALSE NEIGHBOUR: 'it returns false'. Refute it at one input. -/
def graftOldWrong : ChangeSpec := { name := "graftOld", fn := fun _ => fun
  | [d1, d2, d3, d4, d5, d6] => { results := [.lit (.bool false)], args := [d1, d2, d3, d4, d5, d6] }
  | _ => none }
def GraftOldWrongFalsely : Prop := graftOldRow.holds Tryz.pinned (OpenSpec.ofChange graftOldWrong)

/-- 'boscagelaw24.PruneRuns': WHATEVER THE INPUT: true; the input reads as it did. -/
def pruneRunsSpec : ChangeSpec := { name := "pruneRuns", fn := fun _ => fun
  | [d1, d2, d3] => { results := [.lit (.bool true)], args := [d1, d2, d3] }
  | _ => none }
def pruneRunsRow : OpenClaim := { program := "ytjekopgcpikkiaagreatdoor", sum := "15f1cc63726ea327761ca8eb0fc27e5d89c70bd2c65c576217f72b312351e6e1", func := "boscage/boscagelaw24.PruneRuns", spec := "pruneRuns", inPlace := ["slices.overlaps[boscage/api.Pair]", "slices.overlaps[boscage/api.Ref]"], unfollowed := true, recurses := true, named := ["math/bits.deBruijn32tab"], apart := false, laid := [("math/bits.deBruijn32tab", laid_math_bits_deBruijn32tab)] }
def PruneRunsSaid : Prop := pruneRunsRow.holds Tryz.pinned (OpenSpec.ofChange pruneRunsSpec)

/-- ITS FALSE NEIGHBOUR: 'it returns false'. Refute it at one input. -/
def pruneRunsWrong : ChangeSpec := { name := "pruneRuns", fn := fun _ => fun
  | [d1, d2, d3] => { results := [.lit (.bool false)], args := [d1, d2, d3] }
  | _ => none }
def PruneRunsWrongFalsely : Prop := pruneRunsRow.holds Tryz.pinned (OpenSpec.ofChange pruneRunsWrong)

/-- 'boscagelaw24.PruneRefuses': WHATEVER THE INPUT: true; the input reads as it did. -/
def pruneRefusesSpec : ChangeSpec := { name := "pruneRefuses", fn := fun _ => fun
  | [d1, d2, d3, d4] => { results := [.lit (.bool true)], args := [d1, d2, d3, d4] }
  | _ => none }
def pruneRefusesRow : OpenClaim := { program := "ytjekopgcpikkiaagreatdoor", sum := "15f1cc63726ea327761ca8eb0fc27e5d89c70bd2c65c576217f72b312351e6e1", func := "boscage/boscagelaw24.PruneRefuses", spec := "pruneRefuses", inPlace := ["slices.overlaps[boscage/api.Pair]", "slices.overlaps[boscage/api.Ref]"], unfollowed := true, recurses := true, named := ["math/bits.deBruijn32tab"], apart := false, laid := [("math/bits.deBruijn32tab", laid_math_bits_deBruijn32tab)] }
def PruneRefusesSaid : Prop := pruneRefusesRow.holds Tryz.pinned (OpenSpec.ofChange pruneRefusesSpec)

/-- ITS FALSE NEIGHBOUR: 'it returns false'. Refute it at one input. -/
def pruneRefusesWrong : ChangeSpec := { name := "pruneRefuses", fn := fun _ => fun
  | [d1, d2, d3, d4] => { results := [.lit (.bool false)], args := [d1, d2, d3, d4] }
  | _ => none }
def PruneRefusesWrongFalsely : Prop := pruneRefusesRow.holds Tryz.pinned (OpenSpec.ofChange pruneRefusesWrong)

/-- 'boscagelaw24.PruneOld': WHATEVER THE INPUT: true; the input reads as it did. -/
def pruneOldSpec : ChangeSpec := { name := "pruneOld", fn := fun _ => fun
  | [d1, d2, d3] => { results := [.lit (.bool true)], args := [d1, d2, d3] }
  | _ => none }
def pruneOldRow : OpenClaim := { program := "ytjekopgcpikkiaagreatdoor", sum := "15f1cc63726ea327761ca8eb0fc27e5d89c70bd2c65c576217f72b312351e6e1", func := "boscage/boscagelaw24.PruneOld", spec := "pruneOld", inPlace := ["slices.overlaps[boscage/api.Pair]", "slices.overlaps[boscage/api.Ref]"], unfollowed := true, recurses := true, named := ["math/bits.deBruijn32tab"], apart := false, laid := [("math/bits.deBruijn32tab", laid_math_bits_deBruijn32tab)] }
def PruneOldSaid : Prop := pruneOldRow.holds Tryz.pinned (OpenSpec.ofChange pruneOldSpec)

/-- ITS FALSE NEIGHBOUR: 'it returns false'. Refute it at one input. -/
def pruneOldWrong : ChangeSpec := { name := "pruneOld", fn := fun _ => fun
  | [d1, d2, d3] => { results := [.lit (.bool false)], args := [d1, d2, d3] }
  | _ => none }
def PruneOldWrongFalsely : Prop := pruneOldRow.holds Tryz.pinned (OpenSpec.ofChange pruneOldWrong)

/-- 'boscagelaw24.PruneUndoes': WHATEVER THE INPUT: true; the input reads as it did. -/
def pruneUndoesSpec : ChangeSpec := { name := "pruneUndoes", fn := fun _ => fun
  | [d1, d2, d3, d4] => { results := [.lit (.bool true)], args := [d1, d2, d3, d4] }
  | _ => none }
def pruneUndoesRow : OpenClaim := { program := "ytjekopgcpikkiaagreatdoor", sum := "15f1cc63726ea327761ca8eb0fc27e5d89c70bd2c65c576217f72b312351e6e1", func := "boscage/boscagelaw24.PruneUndoes", spec := "pruneUndoes", inPlace := ["slices.overlaps[boscage/api.Pair]", "slices.overlaps[boscage/api.Ref]"], unfollowed := true, recurses := true, named := ["math/bits.deBruijn32tab"], apart := false, laid := [("math/bits.deBruijn32tab", laid_math_bits_deBruijn32tab)] }
def PruneUndoesSaid : Prop := pruneUndoesRow.holds Tryz.pinned (OpenSpec.ofChange pruneUndoesSpec)

/-- ITS FALSE NEIGHBOUR: 'it returns false'. Refute it at one input. -/
def pruneUndoesWrong : ChangeSpec := { name := "pruneUndoes", fn := fun _ => fun
  | [d1, d2, d3, d4] => { results := [.lit (.bool false)], args := [d1, d2, d3, d4] }
  | _ => none }
def PruneUndoesWrongFalsely : Prop := pruneUndoesRow.holds Tryz.pinned (OpenSpec.ofChange pruneUndoesWrong)

/- THE SECOND FORM. 'bulk': how many values and letters a reading holds, each counted each time it is reached (what is shared counts as often as it is met; a slice's spare places count too). A statement '..UptoSaid' is the law's where the arguments, and the package variables that the reading takes, are together of bulk at most 1048576: NARROWER than '..Said'. Prove '..Said' where nothing that the law and all that it calls make is longer than what came in: it says more and counts as full. Else prove '..UptoSaid'. A law counts once. -/
mutual
def uptoBulk {H : Type} : DataW H → Nat
  | .lit (.string bytes) => bytes.length + 1
  | .lit _ => 1
  | .nil => 1
  | .ptr d => uptoBulk d + 1
  | .slice elems spare => uptoBulkAll elems + uptoBulkAll spare + 1
  | .agg parts => uptoBulkAll parts + 1
  | .iface _ d => uptoBulk d + 1
  | .map entries => uptoBulkEntries entries + 1
  | .held _ => 1
def uptoBulkAll {H : Type} : List (DataW H) → Nat
  | [] => 0
  | d :: r => uptoBulk d + uptoBulkAll r
def uptoBulkEntries {H : Type} : List (Lit × DataW H) → Nat
  | [] => 0
  | x :: r => uptoBulkEntry x + uptoBulkEntries r
def uptoBulkEntry {H : Type} : Lit × DataW H → Nat
  | (.string bytes, d) => bytes.length + uptoBulk d + 1
  | (_, d) => uptoBulk d + 1
 end
def uptoSmall : (H : Type) → List (DataW H) → Bool := fun _ ds => decide (uptoBulkAll ds ≤ 1048576)
def OpenSpec.upto (s : _root_.Go.ChangeSpec) : _root_.Go.OpenSpec := { _root_.Go.OpenSpec.ofChange s with cond := some uptoSmall }

/-- 'boscagelaw23.GraftRuns', WHERE WHAT IT READS IS OF BULK AT MOST 1048576: true; the input reads as it did. -/
def graftRunsUptoRow : OpenClaim := { program := "ytjekopgcpikkiaagreatdoor", sum := "15f1cc63726ea327761ca8eb0fc27e5d89c70bd2c65c576217f72b312351e6e1", func := "boscage/boscagelaw23.GraftRuns", spec := "graftRuns", inPlace := ["slices.overlaps[boscage/api.Pair]", "slices.overlaps[boscage/api.Ref]"], unfollowed := true, recurses := true, named := ["math/bits.deBruijn32tab"], apart := false, laid := [("math/bits.deBruijn32tab", laid_math_bits_deBruijn32tab)], narrowed := true }
def GraftRunsUptoSaid : Prop := graftRunsUptoRow.holds Tryz.pinned (OpenSpec.upto graftRunsSpec)

/-- 'boscagelaw23.GraftRefuses', WHERE WHAT IT READS IS OF BULK AT MOST 1048576: true; the input reads as it did. -/
def graftRefusesUptoRow : OpenClaim := { program := "ytjekopgcpikkiaagreatdoor", sum := "15f1cc63726ea327761ca8eb0fc27e5d89c70bd2c65c576217f72b312351e6e1", func := "boscage/boscagelaw23.GraftRefuses", spec := "graftRefuses", inPlace := ["slices.overlaps[boscage/api.Pair]", "slices.overlaps[boscage/api.Ref]"], unfollowed := true, recurses := true, named := ["math/bits.deBruijn32tab"], apart := false, laid := [("math/bits.deBruijn32tab", laid_math_bits_deBruijn32tab)], narrowed := true }
def GraftRefusesUptoSaid : Prop := graftRefusesUptoRow.holds Tryz.pinned (OpenSpec.upto graftRefusesSpec)

/-- 'boscagelaw23.GraftPlans', WHERE WHAT IT READS IS OF BULK AT MOST 1048576: true; the input reads as it did. -/
def graftPlansUptoRow : OpenClaim := { program := "ytjekopgcpikkiaagreatdoor", sum := "15f1cc63726ea327761ca8eb0fc27e5d89c70bd2c65c576217f72b312351e6e1", func := "boscage/boscagelaw23.GraftPlans", spec := "graftPlans", inPlace := ["slices.overlaps[boscage/api.Pair]", "slices.overlaps[boscage/api.Ref]"], unfollowed := true, recurses := true, named := ["math/bits.deBruijn32tab"], apart := false, laid := [("math/bits.deBruijn32tab", laid_math_bits_deBruijn32tab)], narrowed := true }
def GraftPlansUptoSaid : Prop := graftPlansUptoRow.holds Tryz.pinned (OpenSpec.upto graftPlansSpec)

/-- 'boscagelaw23.GraftOld', WHERE WHAT IT READS IS OF BULK AT MOST 1048576: true; the input reads as it did. -/
def graftOldUptoRow : OpenClaim := { program := "ytjekopgcpikkiaagreatdoor", sum := "15f1cc63726ea327761ca8eb0fc27e5d89c70bd2c65c576217f72b312351e6e1", func := "boscage/boscagelaw23.GraftOld", spec := "graftOld", inPlace := ["slices.overlaps[boscage/api.Pair]", "slices.overlaps[boscage/api.Ref]"], unfollowed := true, recurses := true, named := ["math/bits.deBruijn32tab"], apart := false, laid := [("math/bits.deBruijn32tab", laid_math_bits_deBruijn32tab)], narrowed := true }
def GraftOldUptoSaid : Prop := graftOldUptoRow.holds Tryz.pinned (OpenSpec.upto graftOldSpec)

/-- 'boscagelaw24.PruneRuns', WHERE WHAT IT READS IS OF BULK AT MOST 1048576: true; the input reads as it did. -/
def pruneRunsUptoRow : OpenClaim := { program := "ytjekopgcpikkiaagreatdoor", sum := "15f1cc63726ea327761ca8eb0fc27e5d89c70bd2c65c576217f72b312351e6e1", func := "boscage/boscagelaw24.PruneRuns", spec := "pruneRuns", inPlace := ["slices.overlaps[boscage/api.Pair]", "slices.overlaps[boscage/api.Ref]"], unfollowed := true, recurses := true, named := ["math/bits.deBruijn32tab"], apart := false, laid := [("math/bits.deBruijn32tab", laid_math_bits_deBruijn32tab)], narrowed := true }
def PruneRunsUptoSaid : Prop := pruneRunsUptoRow.holds Tryz.pinned (OpenSpec.upto pruneRunsSpec)

/-- 'boscagelaw24.PruneRefuses', WHERE WHAT IT READS IS OF BULK AT MOST 1048576: true; the input reads as it did. -/
def pruneRefusesUptoRow : OpenClaim := { program := "ytjekopgcpikkiaagreatdoor", sum := "15f1cc63726ea327761ca8eb0fc27e5d89c70bd2c65c576217f72b312351e6e1", func := "boscage/boscagelaw24.PruneRefuses", spec := "pruneRefuses", inPlace := ["slices.overlaps[boscage/api.Pair]", "slices.overlaps[boscage/api.Ref]"], unfollowed := true, recurses := true, named := ["math/bits.deBruijn32tab"], apart := false, laid := [("math/bits.deBruijn32tab", laid_math_bits_deBruijn32tab)], narrowed := true }
def PruneRefusesUptoSaid : Prop := pruneRefusesUptoRow.holds Tryz.pinned (OpenSpec.upto pruneRefusesSpec)

/-- 'boscagelaw24.PruneOld', WHERE WHAT IT READS IS OF BULK AT MOST 1048576: true; the input reads as it did. -/
def pruneOldUptoRow : OpenClaim := { program := "ytjekopgcpikkiaagreatdoor", sum := "15f1cc63726ea327761ca8eb0fc27e5d89c70bd2c65c576217f72b312351e6e1", func := "boscage/boscagelaw24.PruneOld", spec := "pruneOld", inPlace := ["slices.overlaps[boscage/api.Pair]", "slices.overlaps[boscage/api.Ref]"], unfollowed := true, recurses := true, named := ["math/bits.deBruijn32tab"], apart := false, laid := [("math/bits.deBruijn32tab", laid_math_bits_deBruijn32tab)], narrowed := true }
def PruneOldUptoSaid : Prop := pruneOldUptoRow.holds Tryz.pinned (OpenSpec.upto pruneOldSpec)

/-- 'boscagelaw24.PruneUndoes', WHERE WHAT IT READS IS OF BULK AT MOST 1048576: true; the input reads as it did. -/
def pruneUndoesUptoRow : OpenClaim := { program := "ytjekopgcpikkiaagreatdoor", sum := "15f1cc63726ea327761ca8eb0fc27e5d89c70bd2c65c576217f72b312351e6e1", func := "boscage/boscagelaw24.PruneUndoes", spec := "pruneUndoes", inPlace := ["slices.overlaps[boscage/api.Pair]", "slices.overlaps[boscage/api.Ref]"], unfollowed := true, recurses := true, named := ["math/bits.deBruijn32tab"], apart := false, laid := [("math/bits.deBruijn32tab", laid_math_bits_deBruijn32tab)], narrowed := true }
def PruneUndoesUptoSaid : Prop := pruneUndoesUptoRow.holds Tryz.pinned (OpenSpec.upto pruneUndoesSpec)

end Rows
end Go.Proofs.YtjekopgcpikkiaaGreatDoor
