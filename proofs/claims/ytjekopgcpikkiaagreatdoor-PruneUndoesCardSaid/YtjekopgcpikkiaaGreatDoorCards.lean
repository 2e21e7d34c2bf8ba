/-
  DERIVED. GIVEN WITH THE SEED: THE CARDS: each row of YtjekopgcpikkiaaGreatDoorRows.lean that lists a variable, with what it lists TIED to the program's text (the seventh form; the later family's looks); each row that meets fmt, with fmt's text TOLD by the authors' own Lean function (tested against real Go, not proved from fmt's source: count such statements apart). THE CARD IS WHAT COUNTS. Prove the row's statement (the work); the ties are given (YtjekopgcpikkiaaGreatDoorTie.lean); close each card by the builder's one call (the guide's Derived/Test/ToyasCard.lean, 'card_holds'). Laid BY PROGRAM, IN A SANDBOX (cutbox-door.mjs). By AI agents, Wed Nov 11 2026. No macro, syntax, notation, axiom, sorry.
-/
import Derived.Test.YtjekopgcpikkiaaGreatDoorRows
import GoSem.ClaimSeven
namespace Go.Proofs.YtjekopgcpikkiaaGreatDoor
namespace Rows

/-- THE TIED CARD OF 'boscagelaw23.GraftRuns'. -/
def graftRunsCard : Claim7 := { stood := { row := graftRunsRow, standIns := [], harness := (true, "4982e4fb0c48da8527b5108bbef0508f495d229c5dab7c83c44229995a8e92e6"), looks := false }, kinds := [], alts := [], laidByText := true, laidKinds := [.data], laidTests := true, laidLooks := .later }
def GraftRunsCardSaid : Prop := Claim7.holds Tryz.pinned (.plain (OpenSpec.ofChange graftRunsSpec)) graftRunsCard

/-- THE TIED CARD OF 'boscagelaw23.GraftRefuses'. -/
def graftRefusesCard : Claim7 := { stood := { row := graftRefusesRow, standIns := [], harness := (true, "4982e4fb0c48da8527b5108bbef0508f495d229c5dab7c83c44229995a8e92e6"), looks := false }, kinds := [], alts := [], laidByText := true, laidKinds := [.data], laidTests := true, laidLooks := .later }
def GraftRefusesCardSaid : Prop := Claim7.holds Tryz.pinned (.plain (OpenSpec.ofChange graftRefusesSpec)) graftRefusesCard

/-- THE TIED CARD OF 'boscagelaw23.GraftPlans'. -/
def graftPlansCard : Claim7 := { stood := { row := graftPlansRow, standIns := [], harness := (true, "4982e4fb0c48da8527b5108bbef0508f495d229c5dab7c83c44229995a8e92e6"), looks := false }, kinds := [], alts := [], laidByText := true, laidKinds := [.data], laidTests := true, laidLooks := .later }
def GraftPlansCardSaid : Prop := Claim7.holds Tryz.pinned (.plain (OpenSpec.ofChange graftPlansSpec)) graftPlansCard

/-- THE TIED CARD OF 'boscagelaw23.GraftOld'. -/
def graftOldCard : Claim7 := { stood := { row := graftOldRow, standIns := [], harness := (true, "4982e4fb0c48da8527b5108bbef0508f495d229c5dab7c83c44229995a8e92e6"), looks := false }, kinds := [], alts := [], laidByText := true, laidKinds := [.data], laidTests := true, laidLooks := .later }
def GraftOldCardSaid : Prop := Claim7.holds Tryz.pinned (.plain (OpenSpec.ofChange graftOldSpec)) graftOldCard

/-- THE TIED CARD OF 'boscagelaw24.PruneRuns'. -/
def pruneRunsCard : Claim7 := { stood := { row := pruneRunsRow, standIns := [], harness := (true, "4982e4fb0c48da8527b5108bbef0508f495d229c5dab7c83c44229995a8e92e6"), looks := false }, kinds := [], alts := [], laidByText := true, laidKinds := [.data], laidTests := true, laidLooks := .later }
def PruneRunsCardSaid : Prop := Claim7.holds Tryz.pinned (.plain (OpenSpec.ofChange pruneRunsSpec)) pruneRunsCard

/-- THE TIED CARD OF 'boscagelaw24.PruneRefuses'. -/
def pruneRefusesCard : Claim7 := { stood := { row := pruneRefusesRow, standIns := [], harness := (true, "4982e4fb0c48da8527b5108bbef0508f495d229c5dab7c83c44229995a8e92e6"), looks := false }, kinds := [], alts := [], laidByText := true, laidKinds := [.data], laidTests := true, laidLooks := .later }
def PruneRefusesCardSaid : Prop := Claim7.holds Tryz.pinned (.plain (OpenSpec.ofChange pruneRefusesSpec)) pruneRefusesCard

/-- THE TIED CARD OF 'boscagelaw24.PruneOld'. -/
def pruneOldCard : Claim7 := { stood := { row := pruneOldRow, standIns := [], harness := (true, "4982e4fb0c48da8527b5108bbef0508f495d229c5dab7c83c44229995a8e92e6"), looks := false }, kinds := [], alts := [], laidByText := true, laidKinds := [.data], laidTests := true, laidLooks := .later }
def PruneOldCardSaid : Prop := Claim7.holds Tryz.pinned (.plain (OpenSpec.ofChange pruneOldSpec)) pruneOldCard

/-- THE TIED CARD OF 'boscagelaw24.PruneUndoes'. -/
def pruneUndoesCard : Claim7 := { stood := { row := pruneUndoesRow, standIns := [], harness := (true, "4982e4fb0c48da8527b5108bbef0508f495d229c5dab7c83c44229995a8e92e6"), looks := false }, kinds := [], alts := [], laidByText := true, laidKinds := [.data], laidTests := true, laidLooks := .later }
def PruneUndoesCardSaid : Prop := Claim7.holds Tryz.pinned (.plain (OpenSpec.ofChange pruneUndoesSpec)) pruneUndoesCard

/-- THE SECOND FORM's CARD OF 'boscagelaw23.GraftRuns'. -/
def graftRunsUptoCard : Claim7 := { stood := { row := graftRunsUptoRow, standIns := [], harness := (true, "4982e4fb0c48da8527b5108bbef0508f495d229c5dab7c83c44229995a8e92e6"), looks := false }, kinds := [], alts := [], laidByText := true, laidKinds := [.data], laidTests := true, laidLooks := .later }
def GraftRunsUptoCardSaid : Prop := Claim7.holds Tryz.pinned (.plain (OpenSpec.upto graftRunsSpec)) graftRunsUptoCard

/-- THE SECOND FORM's CARD OF 'boscagelaw23.GraftRefuses'. -/
def graftRefusesUptoCard : Claim7 := { stood := { row := graftRefusesUptoRow, standIns := [], harness := (true, "4982e4fb0c48da8527b5108bbef0508f495d229c5dab7c83c44229995a8e92e6"), looks := false }, kinds := [], alts := [], laidByText := true, laidKinds := [.data], laidTests := true, laidLooks := .later }
def GraftRefusesUptoCardSaid : Prop := Claim7.holds Tryz.pinned (.plain (OpenSpec.upto graftRefusesSpec)) graftRefusesUptoCard

/-- THE SECOND FORM's CARD OF 'boscagelaw23.GraftPlans'. -/
def graftPlansUptoCard : Claim7 := { stood := { row := graftPlansUptoRow, standIns := [], harness := (true, "4982e4fb0c48da8527b5108bbef0508f495d229c5dab7c83c44229995a8e92e6"), looks := false }, kinds := [], alts := [], laidByText := true, laidKinds := [.data], laidTests := true, laidLooks := .later }
def GraftPlansUptoCardSaid : Prop := Claim7.holds Tryz.pinned (.plain (OpenSpec.upto graftPlansSpec)) graftPlansUptoCard

/-- THE SECOND FORM's CARD OF 'boscagelaw23.GraftOld'. -/
def graftOldUptoCard : Claim7 := { stood := { row := graftOldUptoRow, standIns := [], harness := (true, "4982e4fb0c48da8527b5108bbef0508f495d229c5dab7c83c44229995a8e92e6"), looks := false }, kinds := [], alts := [], laidByText := true, laidKinds := [.data], laidTests := true, laidLooks := .later }
def GraftOldUptoCardSaid : Prop := Claim7.holds Tryz.pinned (.plain (OpenSpec.upto graftOldSpec)) graftOldUptoCard

/-- THE SECOND FORM's CARD OF 'boscagelaw24.PruneRuns'. -/
def pruneRunsUptoCard : Claim7 := { stood := { row := pruneRunsUptoRow, standIns := [], harness := (true, "4982e4fb0c48da8527b5108bbef0508f495d229c5dab7c83c44229995a8e92e6"), looks := false }, kinds := [], alts := [], laidByText := true, laidKinds := [.data], laidTests := true, laidLooks := .later }
def PruneRunsUptoCardSaid : Prop := Claim7.holds Tryz.pinned (.plain (OpenSpec.upto pruneRunsSpec)) pruneRunsUptoCard

/-- THE SECOND FORM's CARD OF 'boscagelaw24.PruneRefuses'. -/
def pruneRefusesUptoCard : Claim7 := { stood := { row := pruneRefusesUptoRow, standIns := [], harness := (true, "4982e4fb0c48da8527b5108bbef0508f495d229c5dab7c83c44229995a8e92e6"), looks := false }, kinds := [], alts := [], laidByText := true, laidKinds := [.data], laidTests := true, laidLooks := .later }
def PruneRefusesUptoCardSaid : Prop := Claim7.holds Tryz.pinned (.plain (OpenSpec.upto pruneRefusesSpec)) pruneRefusesUptoCard

/-- THE SECOND FORM's CARD OF 'boscagelaw24.PruneOld'. -/
def pruneOldUptoCard : Claim7 := { stood := { row := pruneOldUptoRow, standIns := [], harness := (true, "4982e4fb0c48da8527b5108bbef0508f495d229c5dab7c83c44229995a8e92e6"), looks := false }, kinds := [], alts := [], laidByText := true, laidKinds := [.data], laidTests := true, laidLooks := .later }
def PruneOldUptoCardSaid : Prop := Claim7.holds Tryz.pinned (.plain (OpenSpec.upto pruneOldSpec)) pruneOldUptoCard

/-- THE SECOND FORM's CARD OF 'boscagelaw24.PruneUndoes'. -/
def pruneUndoesUptoCard : Claim7 := { stood := { row := pruneUndoesUptoRow, standIns := [], harness := (true, "4982e4fb0c48da8527b5108bbef0508f495d229c5dab7c83c44229995a8e92e6"), looks := false }, kinds := [], alts := [], laidByText := true, laidKinds := [.data], laidTests := true, laidLooks := .later }
def PruneUndoesUptoCardSaid : Prop := Claim7.holds Tryz.pinned (.plain (OpenSpec.upto pruneUndoesSpec)) pruneUndoesUptoCard
end Rows
end Go.Proofs.YtjekopgcpikkiaaGreatDoor
