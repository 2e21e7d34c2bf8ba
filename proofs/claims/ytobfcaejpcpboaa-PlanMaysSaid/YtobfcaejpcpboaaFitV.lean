/- The program is what the interpreter asks for. No conditions. -/
import Derived.Test.YtobfcaejpcpboaaSeatV
import Derived.Test.YtobfcaejpcpboaaRow
import Derived.Test.YtobfcaejpcpboaaPrm
import Derived.Test.YtobfcaejpcpboaaIns134
set_option maxRecDepth 100000
namespace Go.Proofs.Ytobfcaejpcpboaa.AV
open Go.Abs
/-- How many cells a thing of a type has. -/
abbrev WT (e : Nat) : Nat := match Abs.look TB e with
  | some i => i.ty.width
  | none => 0
theorem mixed : PP.follows .mixedOrders = true := by kernel_rfl
theorem tabOK : TabOK PP TB := tabIs_ok (by kernel_rfl)
theorem enters134 : Abs.Enters PP 134 := ⟨Try.f134, Try.func134, by kernel_rfl, names_ok (by kernel_rfl) _ _ Try.func134⟩
theorem walk134 : InsWalk PP 134 43 (WT 43) := Ins134.walk Try.func134 mixed Try.underlying3 Try.underlying4 (tabOK 43 _ rfl) Try.underlying25 rfl (by decide) (by decide) rfl fun w x y => run_callFunc_extern Try.func140 (by kernel_rfl) (by kernel_rfl) (by kernel_rfl) (e := Extern.SlicesOverlaps.overlaps #[25, 25] #[4]) (by kernel_rfl) #[x, y] w
theorem prims : PrimsOK PP RR := by
  intro f c hc
  unfold RR at hc
  by_cases h134 : f = 134
  · rw [if_pos h134] at hc
    injection hc with hc
    subst hc; subst h134
    exact insP_ok enters134 walk134
  rw [if_neg h134] at hc
  cases hc
theorem fits : Fits PP TT RR := ⟨mixed, tabOK, names_ok (by kernel_rfl), prims⟩
end Go.Proofs.Ytobfcaejpcpboaa.AV
