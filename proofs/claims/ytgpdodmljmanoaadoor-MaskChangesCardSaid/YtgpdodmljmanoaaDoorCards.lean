/-
  DERIVED. GIVEN WITH THE SEED: THE CARDS: each row of YtgpdodmljmanoaaDoorRows.lean that lists a variable, with what it lists TIED to the program's text (the seventh form; the later family's looks); each row that meets fmt, with fmt's text TOLD by the authors' own Lean function (tested against real Go, not proved from fmt's source: count such statements apart). THE CARD IS WHAT COUNTS. Prove the row's statement (the work); the ties are given (YtgpdodmljmanoaaDoorTie.lean); close each card by the builder's one call (the guide's Derived/Test/ToyasCard.lean, 'card_holds'). Laid BY PROGRAM, IN A SANDBOX (cutbox-door.mjs). By AI agents, Wed Nov 11 2026. No macro, syntax, notation, axiom, sorry.
-/
import Derived.Test.YtgpdodmljmanoaaDoorRows
import GoSem.ClaimSeven
namespace Go.Proofs.YtgpdodmljmanoaaDoor
namespace Rows

/-- THE TIED CARD OF 'boscagelaw06.MaskGoes'. -/
def maskGoesCard : Claim7 := { stood := { row := maskGoesRow, standIns := [], harness := (true, "202e390961c97ddccb7470c459e0c652116e5de0e640d13eebf490826b57e578"), looks := false }, kinds := [], alts := [], laidByText := true, laidKinds := [.data], laidTests := true, laidLooks := .later }
def MaskGoesCardSaid : Prop := Claim7.holds Tryd.pinned (.plain (OpenSpec.ofChange maskGoesSpec)) maskGoesCard

/-- THE TIED CARD OF 'boscagelaw06.MaskTells'. -/
def maskTellsCard : Claim7 := { stood := { row := maskTellsRow, standIns := [], harness := (true, "202e390961c97ddccb7470c459e0c652116e5de0e640d13eebf490826b57e578"), looks := false }, kinds := [], alts := [], laidByText := true, laidKinds := [.data], laidTests := true, laidLooks := .later }
def MaskTellsCardSaid : Prop := Claim7.holds Tryd.pinned (.plain (OpenSpec.ofChange maskTellsSpec)) maskTellsCard

/-- THE TIED CARD OF 'boscagelaw06.MaskChanges'. -/
def maskChangesCard : Claim7 := { stood := { row := maskChangesRow, standIns := [], harness := (true, "202e390961c97ddccb7470c459e0c652116e5de0e640d13eebf490826b57e578"), looks := false }, kinds := [], alts := [], laidByText := true, laidKinds := [.data], laidTests := true, laidLooks := .later }
def MaskChangesCardSaid : Prop := Claim7.holds Tryd.pinned (.plain (OpenSpec.ofChange maskChangesSpec)) maskChangesCard

/-- THE SECOND FORM's CARD OF 'boscagelaw06.MaskGoes'. -/
def maskGoesUptoCard : Claim7 := { stood := { row := maskGoesUptoRow, standIns := [], harness := (true, "202e390961c97ddccb7470c459e0c652116e5de0e640d13eebf490826b57e578"), looks := false }, kinds := [], alts := [], laidByText := true, laidKinds := [.data], laidTests := true, laidLooks := .later }
def MaskGoesUptoCardSaid : Prop := Claim7.holds Tryd.pinned (.plain (OpenSpec.upto maskGoesSpec)) maskGoesUptoCard

/-- THE SECOND FORM's CARD OF 'boscagelaw06.MaskTells'. -/
def maskTellsUptoCard : Claim7 := { stood := { row := maskTellsUptoRow, standIns := [], harness := (true, "202e390961c97ddccb7470c459e0c652116e5de0e640d13eebf490826b57e578"), looks := false }, kinds := [], alts := [], laidByText := true, laidKinds := [.data], laidTests := true, laidLooks := .later }
def MaskTellsUptoCardSaid : Prop := Claim7.holds Tryd.pinned (.plain (OpenSpec.upto maskTellsSpec)) maskTellsUptoCard

/-- THE SECOND FORM's CARD OF 'boscagelaw06.MaskChanges'. -/
def maskChangesUptoCard : Claim7 := { stood := { row := maskChangesUptoRow, standIns := [], harness := (true, "202e390961c97ddccb7470c459e0c652116e5de0e640d13eebf490826b57e578"), looks := false }, kinds := [], alts := [], laidByText := true, laidKinds := [.data], laidTests := true, laidLooks := .later }
def MaskChangesUptoCardSaid : Prop := Claim7.holds Tryd.pinned (.plain (OpenSpec.upto maskChangesSpec)) maskChangesUptoCard
end Rows
end Go.Proofs.YtgpdodmljmanoaaDoor
