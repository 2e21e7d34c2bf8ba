/- The library's table of trailing zeros, as its initialiser lays it: that a world holds it, and holds it still behind a call that leaves alone what was there; for all worlds. -/
import Derived.Test.YtgpdodmljmanoaaDoorWMore
import Derived.Shelf.Spec.TrailingZeros
import Derived.Lib.LaidTab
namespace Go.Proofs.YtgpdodmljmanoaaDoor.Tab
open Go.RowKit

/-- The table stands in the first package-level variable. -/
structure Tab (w : World) : Prop where
  out : TabAt 0 Lib.deBruijn32tab w
theorem Tab.below {w w1 : World} (h : Tab w) (hb : Below w.heap.size w w1) : Tab w1 := ⟨fun j hj => by
  have hc := h.out j hj
  rw [hb.cell (World.block_lt_of_cell? w _ hc)]
  exact hc⟩
end Go.Proofs.YtgpdodmljmanoaaDoor.Tab
