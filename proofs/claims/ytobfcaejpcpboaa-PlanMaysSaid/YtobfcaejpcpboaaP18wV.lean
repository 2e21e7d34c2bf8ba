/- Chapter 18's example. No conditions. -/
import Derived.Test.YtobfcaejpcpboaaP18dV
set_option linter.unusedVariables false
set_option linter.unusedSimpArgs false
namespace Go.Proofs.Ytobfcaejpcpboaa.AV
open Go.Abs
def leafV (k v : ByteArray) : NodeV := (1, (k, (v, (0, ([], (0, ([], (1, (0, ())))))))))
theorem leaf_ok {k v : ByteArray} (hk : k.size ≤ 16) (hv : v.size ≤ 16) : okN (leafV k v) ∧ mayS (leafV k v) = 0 ∧ refsS (leafV k v) = [] ∧ rngN (leafV k v) := by
  refine ⟨⟨by show k.size ≤ 40; omega, by show v.size ≤ 40; omega, by show (0 : Int) ≤ 0; omega, by show (0 : Int) < 4294967296; omega, by show 0 ≤ 40; omega, by show 0 ≤ 40; omega, fun p hp => (by cases hp)⟩, ?_, rfl, ⟨fun k hk => (by cases hk), by show rng 0; unfold rng; omega⟩⟩
  unfold mayS
  have hl : longN (leafV k v) = false := by
    show ((decide (16 < k.size) || decide (16 < v.size)) || false) = false
    rw [decide_eq_false (by omega), decide_eq_false (by omega)]
    rfl
  rw [if_neg (by show ¬ (1 : Int) < 1; omega), if_neg (by show ¬ (6 : Int) < 1; omega), hl, if_neg (by simp), if_pos]
  refine ⟨Int.le_refl _, ?_⟩
  rw [if_pos (.inl rfl)]
  exact ⟨rfl, fun q => (by cases q), fun _ => ⟨rfl, rfl⟩, fun _ => rfl, fun _ => rfl⟩
theorem works18 : law18_works = some true := by
  obtain ⟨o1, m1, r1, g1⟩ := leaf_ok (k := ByteArray.mk #[97]) (v := ByteArray.mk #[49]) (by decide) (by decide)
  obtain ⟨o2, m2, r2, g2⟩ := leaf_ok (k := ByteArray.mk #[98]) (v := ByteArray.mk #[50]) (by decide) (by decide)
  obtain ⟨o3, m3, r3, g3⟩ := leaf_ok (k := ByteArray.mk #[99]) (v := ByteArray.mk #[51]) (by decide) (by decide)
  have l1 : node_Leaf (ByteArray.mk #[97]) (ByteArray.mk #[49]) = some (leafV (ByteArray.mk #[97]) (ByteArray.mk #[49])) := node_Leaf.eq _ _
  have l2 : node_Leaf (ByteArray.mk #[98]) (ByteArray.mk #[50]) = some (leafV (ByteArray.mk #[98]) (ByteArray.mk #[50])) := node_Leaf.eq _ _
  have l3 : node_Leaf (ByteArray.mk #[99]) (ByteArray.mk #[51]) = some (leafV (ByteArray.mk #[99]) (ByteArray.mk #[51])) := node_Leaf.eq _ _
  have hh : okH [leafV (ByteArray.mk #[97]) (ByteArray.mk #[49]), leafV (ByteArray.mk #[98]) (ByteArray.mk #[50])] := by
    refine ⟨by show 2 ≤ 12; omega, fun n hn => ?_, fun n hn => ?_⟩
    · rcases List.mem_cons.1 hn with rfl | hn
      · exact o1
      · rw [List.mem_singleton.1 hn]; exact o2
    · rcases List.mem_cons.1 hn with rfl | hn
      · exact g1
      · rw [List.mem_singleton.1 hn]; exact g2
  have hp : okPl ([leafV (ByteArray.mk #[99]) (ByteArray.mk #[51])], ((-1 : Int), ([], ()))) := by
    refine ⟨by show 1 ≤ 12; omega, fun n hn => ?_, fun n hn => ?_, by show rng (-1); unfold rng; omega, by show 0 ≤ 20; omega, fun r hr => (by cases hr)⟩
    · rw [List.mem_singleton.1 hn]; exact o3
    · rw [List.mem_singleton.1 hn]; exact g3
  have hd := do_any _ hh _ hp
  have hc : (mayP ([leafV (ByteArray.mk #[99]) (ByteArray.mk #[51])], ((-1 : Int), ([], ()))) && (mayH [leafV (ByteArray.mk #[97]) (ByteArray.mk #[49]), leafV (ByteArray.mk #[98]) (ByteArray.mk #[50])] && fitsP [leafV (ByteArray.mk #[97]) (ByteArray.mk #[49]), leafV (ByteArray.mk #[98]) (ByteArray.mk #[50])] ([leafV (ByteArray.mk #[99]) (ByteArray.mk #[51])], ((-1 : Int), ([], ()))))) = true := by
    unfold mayP mayH mayPL mayHL mayPL mayHL mayHL fitsP refsL
    rw [m1, m2, m3, r1, r2, r3, List.flatMap_cons, r3]
    rfl
  rw [hc, if_pos rfl] at hd
  rw [law18_works.eq, l1, bnd_some, l2, bnd_some, l3, bnd_some, hd, bnd_some]
  have e0 : fillS [] (leafV (ByteArray.mk #[99]) (ByteArray.mk #[51])) = leafV (ByteArray.mk #[99]) (ByteArray.mk #[51]) := rfl
  have ed : doS [leafV (ByteArray.mk #[97]) (ByteArray.mk #[49]), leafV (ByteArray.mk #[98]) (ByteArray.mk #[50])] ([leafV (ByteArray.mk #[99]) (ByteArray.mk #[51])], ((-1 : Int), ([], ()))) = ([leafV (ByteArray.mk #[97]) (ByteArray.mk #[49]), leafV (ByteArray.mk #[98]) (ByteArray.mk #[50]), leafV (ByteArray.mk #[99]) (ByteArray.mk #[51])], [3]) := by
    unfold doS doL doL
    rw [e0]
    rfl
  rw [ed]
  have er : refD [3] (-1) = 3 := rfl
  rw [er]
  have i2 := ixN [leafV (ByteArray.mk #[97]) (ByteArray.mk #[49]), leafV (ByteArray.mk #[98]) (ByteArray.mk #[50]), leafV (ByteArray.mk #[99]) (ByteArray.mk #[51])] 2 (by show 2 < 3; omega)
  rw [show ((2 : Nat) : Int) = 2 from rfl] at i2
  rw [i2]
  show br true (br true (br true (br true (some (eqS (ByteArray.mk #[99]) (ByteArray.mk #[99]))) none) (some false)) (some false)) (some false) = some true
  rw [br_t, br_t, br_t, br_t, eqS_d]
  exact some_bool (decide_eq_true rfl)
end Go.Proofs.Ytobfcaejpcpboaa.AV
