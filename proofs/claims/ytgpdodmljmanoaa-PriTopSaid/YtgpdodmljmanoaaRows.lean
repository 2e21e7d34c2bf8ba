/-
  No cell of these rows narrows 'for every input' (looked for: loops, veiled, ifaces, maps, wideKeys, modest, calm, conditions, laid).
  DERIVED. THE GIVEN ROWS OF THIS SEAT. 10 by the template 'for every input the law returns true; each argument reads behind the call as it read before'; 0 by the template 'total and deterministic' (their statements: YtgpdodmljmanoaaTotals.lean).
  GIVEN WITH THE SEED: the statements are not yours to turn. If you find one false, say at which input.
  Laid BY PROGRAM, IN A SANDBOX (cutbox-rows.mjs): the forced cells as the released guide's own fill.sh prints them over the translation 00b5b1a87adf04c2… (all of the seat's roots in one cut). By AI agents, Wed Nov 11 2026. No macro, syntax, notation, axiom, sorry.
-/
import Derived.Test.YtgpdodmljmanoaaChecked
import GoSem.Claim
import GoSem.ClaimJoined
import GoSem.ClaimMapViews
import Derived.JoinedTies
import Derived.KernelRfl
namespace Go.Proofs.Ytgpdodmljmanoaa
/- THE CELL 'sum', in the pinned program and in every row, IS THE sha256 OF THE DUMP (.gsa) THAT YtgpdodmljmanoaaProg.lean LOADS. Nothing in Lean hashes anything: it is a label: what it is worth is what the hold of that sum in a sandbox is worth. -/
noncomputable def Try.pinned : Pinned := { name := "ytgpdodmljmanoaa", sum := "00b5b1a87adf04c2e42d45e1cf6fcef8775bba292a3869a3c61bd63433ff541f", checked := Try.checked }
namespace Rows
def none {H : Type} : Left H := { results := [], args := [] }

/-- 'boscagelaw01.OrderMiddle': WHATEVER THE INPUT: true; the input reads as it did. -/
def orderMiddleSpec : ChangeSpec := { name := "orderMiddle", fn := fun _ => fun
  | [d1, d2] => { results := [.lit (.bool true)], args := [d1, d2] }
  | _ => none }
def orderMiddleRow : OpenClaim := { program := "ytgpdodmljmanoaa", sum := "00b5b1a87adf04c2e42d45e1cf6fcef8775bba292a3869a3c61bd63433ff541f", func := "boscage/boscagelaw01.OrderMiddle", spec := "orderMiddle", apart := false }
def OrderMiddleSaid : Prop := orderMiddleRow.holds Try.pinned (OpenSpec.ofChange orderMiddleSpec)

/-- ITS FALSE NEIGHBOUR: 'it returns false'. Refute it at one input. -/
def orderMiddleWrong : ChangeSpec := { name := "orderMiddle", fn := fun _ => fun
  | [d1, d2] => { results := [.lit (.bool false)], args := [d1, d2] }
  | _ => none }
def OrderMiddleWrongFalsely : Prop := orderMiddleRow.holds Try.pinned (OpenSpec.ofChange orderMiddleWrong)

/-- 'boscagelaw01.OrderShort': WHATEVER THE INPUT: true; the input reads as it did. -/
def orderShortSpec : ChangeSpec := { name := "orderShort", fn := fun _ => fun
  | [d1, d2, d3] => { results := [.lit (.bool true)], args := [d1, d2, d3] }
  | _ => none }
def orderShortRow : OpenClaim := { program := "ytgpdodmljmanoaa", sum := "00b5b1a87adf04c2e42d45e1cf6fcef8775bba292a3869a3c61bd63433ff541f", func := "boscage/boscagelaw01.OrderShort", spec := "orderShort", apart := false }
def OrderShortSaid : Prop := orderShortRow.holds Try.pinned (OpenSpec.ofChange orderShortSpec)

/-- ITS FALSE NEIGHBOUR: 'it returns false'. Refute it at one input. -/
def orderShortWrong : ChangeSpec := { name := "orderShort", fn := fun _ => fun
  | [d1, d2, d3] => { results := [.lit (.bool false)], args := [d1, d2, d3] }
  | _ => none }
def OrderShortWrongFalsely : Prop := orderShortRow.holds Try.pinned (OpenSpec.ofChange orderShortWrong)

/-- 'boscagelaw01.OrderCompares': WHATEVER THE INPUT: true; the input reads as it did. -/
def orderComparesSpec : ChangeSpec := { name := "orderCompares", fn := fun _ => fun
  | [d1, d2, d3] => { results := [.lit (.bool true)], args := [d1, d2, d3] }
  | _ => none }
def orderComparesRow : OpenClaim := { program := "ytgpdodmljmanoaa", sum := "00b5b1a87adf04c2e42d45e1cf6fcef8775bba292a3869a3c61bd63433ff541f", func := "boscage/boscagelaw01.OrderCompares", spec := "orderCompares", apart := false }
def OrderComparesSaid : Prop := orderComparesRow.holds Try.pinned (OpenSpec.ofChange orderComparesSpec)

/-- ITS FALSE NEIGHBOUR: 'it returns false'. Refute it at one input. -/
def orderComparesWrong : ChangeSpec := { name := "orderCompares", fn := fun _ => fun
  | [d1, d2, d3] => { results := [.lit (.bool false)], args := [d1, d2, d3] }
  | _ => none }
def OrderComparesWrongFalsely : Prop := orderComparesRow.holds Try.pinned (OpenSpec.ofChange orderComparesWrong)

/-- 'boscagelaw01.OrderNext': WHATEVER THE INPUT: true; the input reads as it did. -/
def orderNextSpec : ChangeSpec := { name := "orderNext", fn := fun _ => fun
  | [d1, d2] => { results := [.lit (.bool true)], args := [d1, d2] }
  | _ => none }
def orderNextRow : OpenClaim := { program := "ytgpdodmljmanoaa", sum := "00b5b1a87adf04c2e42d45e1cf6fcef8775bba292a3869a3c61bd63433ff541f", func := "boscage/boscagelaw01.OrderNext", spec := "orderNext", apart := false }
def OrderNextSaid : Prop := orderNextRow.holds Try.pinned (OpenSpec.ofChange orderNextSpec)

/-- ITS FALSE NEIGHBOUR: 'it returns false'. Refute it at one input. -/
def orderNextWrong : ChangeSpec := { name := "orderNext", fn := fun _ => fun
  | [d1, d2] => { results := [.lit (.bool false)], args := [d1, d2] }
  | _ => none }
def OrderNextWrongFalsely : Prop := orderNextRow.holds Try.pinned (OpenSpec.ofChange orderNextWrong)

/-- 'boscagelaw04.HashOf': WHATEVER THE INPUT: true; the input reads as it did. -/
def hashOfSpec : ChangeSpec := { name := "hashOf", fn := fun _ => fun
  | [d1, d2] => { results := [.lit (.bool true)], args := [d1, d2] }
  | _ => none }
def hashOfRow : OpenClaim := { program := "ytgpdodmljmanoaa", sum := "00b5b1a87adf04c2e42d45e1cf6fcef8775bba292a3869a3c61bd63433ff541f", func := "boscage/boscagelaw04.HashOf", spec := "hashOf", apart := false }
def HashOfSaid : Prop := hashOfRow.holds Try.pinned (OpenSpec.ofChange hashOfSpec)

/-- ITS FALSE NEIGHBOUR: 'it returns false'. Refute it at one input. -/
def hashOfWrong : ChangeSpec := { name := "hashOf", fn := fun _ => fun
  | [d1, d2] => { results := [.lit (.bool false)], args := [d1, d2] }
  | _ => none }
def HashOfWrongFalsely : Prop := hashOfRow.holds Try.pinned (OpenSpec.ofChange hashOfWrong)

/-- 'boscagelaw04.HashChunks': WHATEVER THE INPUT: true; the input reads as it did. -/
def hashChunksSpec : ChangeSpec := { name := "hashChunks", fn := fun _ => fun
  | [d1, d2, d3, d4] => { results := [.lit (.bool true)], args := [d1, d2, d3, d4] }
  | _ => none }
def hashChunksRow : OpenClaim := { program := "ytgpdodmljmanoaa", sum := "00b5b1a87adf04c2e42d45e1cf6fcef8775bba292a3869a3c61bd63433ff541f", func := "boscage/boscagelaw04.HashChunks", spec := "hashChunks", apart := false }
def HashChunksSaid : Prop := hashChunksRow.holds Try.pinned (OpenSpec.ofChange hashChunksSpec)

/-- ITS FALSE NEIGHBOUR: 'it returns false'. Refute it at one input. -/
def hashChunksWrong : ChangeSpec := { name := "hashChunks", fn := fun _ => fun
  | [d1, d2, d3, d4] => { results := [.lit (.bool false)], args := [d1, d2, d3, d4] }
  | _ => none }
def HashChunksWrongFalsely : Prop := hashChunksRow.holds Try.pinned (OpenSpec.ofChange hashChunksWrong)

/-- 'boscagelaw04.HashOrder': WHATEVER THE INPUT: true; the input reads as it did. -/
def hashOrderSpec : ChangeSpec := { name := "hashOrder", fn := fun _ => fun
  | [d1, d2, d3] => { results := [.lit (.bool true)], args := [d1, d2, d3] }
  | _ => none }
def hashOrderRow : OpenClaim := { program := "ytgpdodmljmanoaa", sum := "00b5b1a87adf04c2e42d45e1cf6fcef8775bba292a3869a3c61bd63433ff541f", func := "boscage/boscagelaw04.HashOrder", spec := "hashOrder", apart := false }
def HashOrderSaid : Prop := hashOrderRow.holds Try.pinned (OpenSpec.ofChange hashOrderSpec)

/-- ITS FALSE NEIGHBOUR: 'it returns false'. Refute it at one input. -/
def hashOrderWrong : ChangeSpec := { name := "hashOrder", fn := fun _ => fun
  | [d1, d2, d3] => { results := [.lit (.bool false)], args := [d1, d2, d3] }
  | _ => none }
def HashOrderWrongFalsely : Prop := hashOrderRow.holds Try.pinned (OpenSpec.ofChange hashOrderWrong)

/-- 'boscagelaw05.PriOf': WHATEVER THE INPUT: true; the input reads as it did. -/
def priOfSpec : ChangeSpec := { name := "priOf", fn := fun _ => fun
  | [d1, d2] => { results := [.lit (.bool true)], args := [d1, d2] }
  | _ => none }
def priOfRow : OpenClaim := { program := "ytgpdodmljmanoaa", sum := "00b5b1a87adf04c2e42d45e1cf6fcef8775bba292a3869a3c61bd63433ff541f", func := "boscage/boscagelaw05.PriOf", spec := "priOf", apart := false }
def PriOfSaid : Prop := priOfRow.holds Try.pinned (OpenSpec.ofChange priOfSpec)

/-- ITS FALSE NEIGHBOUR: 'it returns false'. Refute it at one input. -/
def priOfWrong : ChangeSpec := { name := "priOf", fn := fun _ => fun
  | [d1, d2] => { results := [.lit (.bool false)], args := [d1, d2] }
  | _ => none }
def PriOfWrongFalsely : Prop := priOfRow.holds Try.pinned (OpenSpec.ofChange priOfWrong)

/-- 'boscagelaw05.PriTop': WHATEVER THE INPUT: true; the input reads as it did. -/
def priTopSpec : ChangeSpec := { name := "priTop", fn := fun _ => fun
  | [d] => { results := [.lit (.bool true)], args := [d] }
  | _ => none }
def priTopRow : OpenClaim := { program := "ytgpdodmljmanoaa", sum := "00b5b1a87adf04c2e42d45e1cf6fcef8775bba292a3869a3c61bd63433ff541f", func := "boscage/boscagelaw05.PriTop", spec := "priTop", apart := false }
def PriTopSaid : Prop := priTopRow.holds Try.pinned (OpenSpec.ofChange priTopSpec)

/-- ITS FALSE NEIGHBOUR: 'it returns false'. Refute it at one input. -/
def priTopWrong : ChangeSpec := { name := "priTop", fn := fun _ => fun
  | [d] => { results := [.lit (.bool false)], args := [d] }
  | _ => none }
def PriTopWrongFalsely : Prop := priTopRow.holds Try.pinned (OpenSpec.ofChange priTopWrong)

/-- 'boscagelaw05.PriTotal': WHATEVER THE INPUT: true; the input reads as it did. -/
def priTotalSpec : ChangeSpec := { name := "priTotal", fn := fun _ => fun
  | [d1, d2, d3] => { results := [.lit (.bool true)], args := [d1, d2, d3] }
  | _ => none }
def priTotalRow : OpenClaim := { program := "ytgpdodmljmanoaa", sum := "00b5b1a87adf04c2e42d45e1cf6fcef8775bba292a3869a3c61bd63433ff541f", func := "boscage/boscagelaw05.PriTotal", spec := "priTotal", apart := false }
def PriTotalSaid : Prop := priTotalRow.holds Try.pinned (OpenSpec.ofChange priTotalSpec)

/-- ITS FALSE NEIGHBOUR: 'it returns false'. Refute it at one input. -/
def priTotalWrong : ChangeSpec := { name := "priTotal", fn := fun _ => fun
  | [d1, d2, d3] => { results := [.lit (.bool false)], args := [d1, d2, d3] }
  | _ => none }
def PriTotalWrongFalsely : Prop := priTotalRow.holds Try.pinned (OpenSpec.ofChange priTotalWrong)

/- THE SECOND FORM. 'bulk': how many values and letters a reading holds, each counted each time it is reached (what is shared counts as often as it is met; a slice's spare places count too). A statement '..UptoSaid' is the law's where the arguments, and the package variables that the reading takes, are together of bulk at most 1048576: NARROWER than '..Said'. Prove '..Said' where nothing that the law and all that it calls make is longer than what came in: it says more and counts as full. Else prove '..UptoSaid'. A law counts once. -/
mutual
def uptoBulk {H : Type} : DataW H → Nat
  | .lit (.string bytes) => bytes.length + 1
  | .lit _ => 1
  | .nil => 1
  | .ptr d => uptoBulk d + 1
  | .slice elems spare => uptoBulkAll elems + uptoBulkAll spare + 1
  | .agg parts => uptoBulkAll parts + 1
  | .iface _ d => uptoBulk d + 1
  | .map entries => uptoBulkEntries entries + 1
  | .held _ => 1
def uptoBulkAll {H : Type} : List (DataW H) → Nat
  | [] => 0
  | d :: r => uptoBulk d + uptoBulkAll r
def uptoBulkEntries {H : Type} : List (Lit × DataW H) → Nat
  | [] => 0
  | x :: r => uptoBulkEntry x + uptoBulkEntries r
def uptoBulkEntry {H : Type} : Lit × DataW H → Nat
  | (.string bytes, d) => bytes.length + uptoBulk d + 1
  | (_, d) => uptoBulk d + 1
 end
def uptoSmall : (H : Type) → List (DataW H) → Bool := fun _ ds => decide (uptoBulkAll ds ≤ 1048576)
def OpenSpec.upto (s : _root_.Go.ChangeSpec) : _root_.Go.OpenSpec := { _root_.Go.OpenSpec.ofChange s with cond := some uptoSmall }

/-- 'boscagelaw01.OrderMiddle', WHERE WHAT IT READS IS OF BULK AT MOST 1048576: true; the input reads as it did. -/
def orderMiddleUptoRow : OpenClaim := { program := "ytgpdodmljmanoaa", sum := "00b5b1a87adf04c2e42d45e1cf6fcef8775bba292a3869a3c61bd63433ff541f", func := "boscage/boscagelaw01.OrderMiddle", spec := "orderMiddle", apart := false, narrowed := true }
def OrderMiddleUptoSaid : Prop := orderMiddleUptoRow.holds Try.pinned (OpenSpec.upto orderMiddleSpec)

/-- 'boscagelaw01.OrderShort', WHERE WHAT IT READS IS OF BULK AT MOST 1048576: true; the input reads as it did. -/
def orderShortUptoRow : OpenClaim := { program := "ytgpdodmljmanoaa", sum := "00b5b1a87adf04c2e42d45e1cf6fcef8775bba292a3869a3c61bd63433ff541f", func := "boscage/boscagelaw01.OrderShort", spec := "orderShort", apart := false, narrowed := true }
def OrderShortUptoSaid : Prop := orderShortUptoRow.holds Try.pinned (OpenSpec.upto orderShortSpec)

/-- 'boscagelaw01.OrderCompares', WHERE WHAT IT READS IS OF BULK AT MOST 1048576: true; the input reads as it did. -/
def orderComparesUptoRow : OpenClaim := { program := "ytgpdodmljmanoaa", sum := "00b5b1a87adf04c2e42d45e1cf6fcef8775bba292a3869a3c61bd63433ff541f", func := "boscage/boscagelaw01.OrderCompares", spec := "orderCompares", apart := false, narrowed := true }
def OrderComparesUptoSaid : Prop := orderComparesUptoRow.holds Try.pinned (OpenSpec.upto orderComparesSpec)

/-- 'boscagelaw01.OrderNext', WHERE WHAT IT READS IS OF BULK AT MOST 1048576: true; the input reads as it did. -/
def orderNextUptoRow : OpenClaim := { program := "ytgpdodmljmanoaa", sum := "00b5b1a87adf04c2e42d45e1cf6fcef8775bba292a3869a3c61bd63433ff541f", func := "boscage/boscagelaw01.OrderNext", spec := "orderNext", apart := false, narrowed := true }
def OrderNextUptoSaid : Prop := orderNextUptoRow.holds Try.pinned (OpenSpec.upto orderNextSpec)

/-- 'boscagelaw04.HashOf', WHERE WHAT IT READS IS OF BULK AT MOST 1048576: true; the input reads as it did. -/
def hashOfUptoRow : OpenClaim := { program := "ytgpdodmljmanoaa", sum := "00b5b1a87adf04c2e42d45e1cf6fcef8775bba292a3869a3c61bd63433ff541f", func := "boscage/boscagelaw04.HashOf", spec := "hashOf", apart := false, narrowed := true }
def HashOfUptoSaid : Prop := hashOfUptoRow.holds Try.pinned (OpenSpec.upto hashOfSpec)

/-- 'boscagelaw04.HashChunks', WHERE WHAT IT READS IS OF BULK AT MOST 1048576: true; the input reads as it did. -/
def hashChunksUptoRow : OpenClaim := { program := "ytgpdodmljmanoaa", sum := "00b5b1a87adf04c2e42d45e1cf6fcef8775bba292a3869a3c61bd63433ff541f", func := "boscage/boscagelaw04.HashChunks", spec := "hashChunks", apart := false, narrowed := true }
def HashChunksUptoSaid : Prop := hashChunksUptoRow.holds Try.pinned (OpenSpec.upto hashChunksSpec)

/-- 'boscagelaw04.HashOrder', WHERE WHAT IT READS IS OF BULK AT MOST 1048576: true; the input reads as it did. -/
def hashOrderUptoRow : OpenClaim := { program := "ytgpdodmljmanoaa", sum := "00b5b1a87adf04c2e42d45e1cf6fcef8775bba292a3869a3c61bd63433ff541f", func := "boscage/boscagelaw04.HashOrder", spec := "hashOrder", apart := false, narrowed := true }
def HashOrderUptoSaid : Prop := hashOrderUptoRow.holds Try.pinned (OpenSpec.upto hashOrderSpec)

/-- 'boscagelaw05.PriOf', WHERE WHAT IT READS IS OF BULK AT MOST 1048576: true; the input reads as it did. -/
def priOfUptoRow : OpenClaim := { program := "ytgpdodmljmanoaa", sum := "00b5b1a87adf04c2e42d45e1cf6fcef8775bba292a3869a3c61bd63433ff541f", func := "boscage/boscagelaw05.PriOf", spec := "priOf", apart := false, narrowed := true }
def PriOfUptoSaid : Prop := priOfUptoRow.holds Try.pinned (OpenSpec.upto priOfSpec)

/-- 'boscagelaw05.PriTop', WHERE WHAT IT READS IS OF BULK AT MOST 1048576: true; the input reads as it did. -/
def priTopUptoRow : OpenClaim := { program := "ytgpdodmljmanoaa", sum := "00b5b1a87adf04c2e42d45e1cf6fcef8775bba292a3869a3c61bd63433ff541f", func := "boscage/boscagelaw05.PriTop", spec := "priTop", apart := false, narrowed := true }
def PriTopUptoSaid : Prop := priTopUptoRow.holds Try.pinned (OpenSpec.upto priTopSpec)

/-- 'boscagelaw05.PriTotal', WHERE WHAT IT READS IS OF BULK AT MOST 1048576: true; the input reads as it did. -/
def priTotalUptoRow : OpenClaim := { program := "ytgpdodmljmanoaa", sum := "00b5b1a87adf04c2e42d45e1cf6fcef8775bba292a3869a3c61bd63433ff541f", func := "boscage/boscagelaw05.PriTotal", spec := "priTotal", apart := false, narrowed := true }
def PriTotalUptoSaid : Prop := priTotalUptoRow.holds Try.pinned (OpenSpec.upto priTotalSpec)

end Rows
end Go.Proofs.Ytgpdodmljmanoaa
