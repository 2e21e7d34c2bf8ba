/-
  DERIVED. GIVEN WITH THE SEED: THE CARDS: each row of YtjekopgcpikkiaaDoorRows.lean that lists a variable, with what it lists TIED to the program's text (the seventh form; the later family's looks); each row that meets fmt, with fmt's text TOLD by the authors' own Lean function (tested against real Go, not proved from fmt's source: count such statements apart). THE CARD IS WHAT COUNTS. Prove the row's statement (the work); the ties are given (YtjekopgcpikkiaaDoorTie.lean); close each card by the builder's one call (the guide's Derived/Test/ToyasCard.lean, 'card_holds'). Laid BY PROGRAM, IN A SANDBOX (cutbox-door.mjs). By AI agents, Wed Nov 11 2026. No macro, syntax, notation, axiom, sorry.
-/
import Derived.Test.YtjekopgcpikkiaaDoorRows
import GoSem.ClaimSeven
namespace Go.Proofs.YtjekopgcpikkiaaDoor
namespace Rows

/-- THE TIED CARD OF 'boscagelaw20.TrieIs'. -/
def trieIsCard : Claim7 := { stood := { row := trieIsRow, standIns := [], harness := (true, "2e47ca3c7ef52670169200c7d50321cc71b4dda993db29ef6ec000c9d6d9d9be"), looks := false }, kinds := [], alts := [], laidByText := true, laidKinds := [.data], laidTests := true, laidLooks := .later }
def TrieIsCardSaid : Prop := Claim7.holds Tryd.pinned (.plain (OpenSpec.ofChange trieIsSpec)) trieIsCard

/-- THE TIED CARD OF 'boscagelaw20.TrieHas'. -/
def trieHasCard : Claim7 := { stood := { row := trieHasRow, standIns := [], harness := (true, "2e47ca3c7ef52670169200c7d50321cc71b4dda993db29ef6ec000c9d6d9d9be"), looks := false }, kinds := [], alts := [], laidByText := true, laidKinds := [.data], laidTests := true, laidLooks := .later }
def TrieHasCardSaid : Prop := Claim7.holds Tryd.pinned (.plain (OpenSpec.ofChange trieHasSpec)) trieHasCard

/-- THE SECOND FORM's CARD OF 'boscagelaw20.TrieIs'. -/
def trieIsUptoCard : Claim7 := { stood := { row := trieIsUptoRow, standIns := [], harness := (true, "2e47ca3c7ef52670169200c7d50321cc71b4dda993db29ef6ec000c9d6d9d9be"), looks := false }, kinds := [], alts := [], laidByText := true, laidKinds := [.data], laidTests := true, laidLooks := .later }
def TrieIsUptoCardSaid : Prop := Claim7.holds Tryd.pinned (.plain (OpenSpec.upto trieIsSpec)) trieIsUptoCard

/-- THE SECOND FORM's CARD OF 'boscagelaw20.TrieHas'. -/
def trieHasUptoCard : Claim7 := { stood := { row := trieHasUptoRow, standIns := [], harness := (true, "2e47ca3c7ef52670169200c7d50321cc71b4dda993db29ef6ec000c9d6d9d9be"), looks := false }, kinds := [], alts := [], laidByText := true, laidKinds := [.data], laidTests := true, laidLooks := .later }
def TrieHasUptoCardSaid : Prop := Claim7.holds Tryd.pinned (.plain (OpenSpec.upto trieHasSpec)) trieHasUptoCard
end Rows
end Go.Proofs.YtjekopgcpikkiaaDoor
