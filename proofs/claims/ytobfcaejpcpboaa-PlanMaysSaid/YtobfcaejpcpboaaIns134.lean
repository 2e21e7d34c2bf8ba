/- slices.Insert, walked: the function 134 of the program, whatever it reads. No conditions. -/
import Derived.Test.YtobfcaejpcpboaaProg
import Derived.Test.YtobfcaejpcpboaaPrm
import Derived.WalkKit
import Derived.Lib.Walk
import Derived.Lib.SliceRun
import Derived.Lib.JoinLaws
import Derived.Lib.AppendZeros
import Derived.Lib.Overlaps
import Derived.Laws.Externs
import Derived.Laws.IdiomCopy
import Derived.Laws.NewBlocks
import Derived.Shelf.Spec.SlicesInsert
set_option linter.unusedVariables false
set_option linter.unusedSimpArgs false
namespace Go.Proofs.Ytobfcaejpcpboaa.Ins134
open Go.Abs Go.RowKit Go.Lib Go.Proofs
set_option maxHeartbeats 4000000 in
set_option maxRecDepth 100000 in
/-- There is room, and it is not at the end: in place. -/
theorem shift {P : Program} {k : Nat} (hf : P.funcs[134]? = some Try.f134) (mixed : P.follows .mixedOrders = true) (t3 : P.underlying 3 = some (.int .i64)) (t4 : P.underlying 4 = some .bool) (tS : P.underlying 25 = some (.slice 43)) (zE : ∀ w, (Go.sizeOf 43).run P w = .ok k w)
    (hsz : (P.info? 43).map (·.size) = some k) (hov0 : ∀ (w : World) (x y : Value), (callFunc 140 #[x, y]).run P w = Result.andThen ((Extern.SlicesOverlaps.overlaps #[25, 25] #[4] #[x, y]).run P w) (fun v w' => .ok (.value v) w'))
    (b n c i vb m vc : Nat) (cs vs : List Value) (w : World) (hi : i < n) (hm : 0 < m) (hroom : n + m ≤ c) (hc63 : c ≤ 9223372036854775807) (hvb : vb ≠ b) (hk : 0 < k)
    {cur cur2 : Array Value} {e e2 : TypeId} (hb : w.heap[b]? = some (.cells cur e (0, 0))) (hb2 : w.heap[vb]? = some (.cells cur2 e2 (0, 0))) (hcur : cur.size = c * k)
    (hcl : cs.length = n * k) (hvl : vs.length = m * k)
    (hcs : At w b 0 cs) (hvs : At w vb 0 vs) (h1c : ∀ v ∈ cs, v.oneCell' = true) (h1v : ∀ v ∈ vs, v.oneCell' = true) :
    Calls P 134 #[.slice (some ⟨b, 0, none⟩) n c, .int .i64 i, .slice (some ⟨vb, 0, none⟩) m vc] w fun e w' =>
      e = .returned (.slice (some ⟨b, 0, none⟩) (n + m) c) ∧ w' = (w.drew.setCells b ((i + m) * k) (cs.drop (i * k))).setCells b (i * k) vs := by
  have u3 := run_underlying t3; have u4 := run_underlying t4; have uS := run_underlying tS
  have hz1 : ¬ ((m : Int) = 0) := by omega
  have hz2 : ¬ ((i : Int) = (n : Int)) := by omega
  have hov : ∀ lb cb, (callFunc 140 #[.slice (some ⟨vb, 0, none⟩) m vc, .slice (some ⟨b, (i + m) * k, none⟩) lb cb]).run P w = .ok (.value (.bool false)) w := fun lb cb => by
    rw [hov0, Lib.run_overlaps_apart w 25 4 43 tS k zE ⟨vb, 0, none⟩ ⟨b, (i + m) * k, none⟩ m vc lb cb hvb e2 e cur2.size cur.size (cells_shape hb2) (cells_shape hb)
      (by rw [hcur]; exact Nat.ne_of_gt (Nat.mul_pos (by omega) hk)) (cells_thawed hb2) (cells_thawed hb2)]
    rfl
  have hdl : (cs.drop (i * k)).length = (n - i) * k := by rw [List.length_drop, hcl, Nat.sub_mul]
  have hw1 : IntKind.i64.wrap ((i : Int) + (m : Int)) = (i : Int) + (m : Int) := by rw [IntKind.wrap_i64]; omega
  have hb1 : (0 : Int) ≤ (i : Int) + (m : Int) := by omega
  have hin : i ≤ n := by omega
  have htn : ((i : Int) + (m : Int)).toNat = i + m := by omega
  have hb3 : (i : Int) ≤ (n : Int) + (m : Int) := by omega
  have hb4 : ¬ (c = i) := by omega
  have hb2' : ¬ (c = i + m) := by omega
  have hle : (n + m) * k ≤ c * k := Nat.mul_le_mul_right k hroom
  have hsp : ∀ j, j < (n + m) * k → (w.cell? ⟨b, j, none⟩).isSome = true := fun j hj => cells_some hb (by omega)
  have hfz : ∀ j, w.frozen? ⟨b, j, none⟩ = false := fun j => cells_thawed hb
  have e1 : (n - i) * k + (i + m) * k = (n + m) * k := by rw [← Nat.add_mul]; congr 1; omega
  have e2 : (i * k) + m * k ≤ (n + m) * k := by rw [← Nat.add_mul]; exact Nat.mul_le_mul_right k (by omega)
  have hmin1 : ∀ x y : Nat, x = n + m - i → y = n + m - (i + m) → Nat.min x y = n - i := by intro x y h1 h2; subst h1; subst h2; simp only [Nat.min_def]; split <;> omega
  have hcp1 : ∀ ty dc sc, (Builtin.copy_ #[25, 25] ty #[.slice (some ⟨b, (i + m) * k, none⟩) (n + m - (i + m)) dc, .slice (some ⟨b, i * k, none⟩) (n + m - i) sc]).run P w.drew = .ok (goInt (n - i : Nat)) (w.drew.setCells b ((i + m) * k) (cs.drop (i * k))) := fun ty dc sc => by
    have := run_copy_k (P := P) w.drew 25 25 ty 43 k b ((i + m) * k) (n + m - (i + m)) dc ⟨b, i * k, none⟩ (n + m - i) sc (cs.drop (i * k)) tS hsz (by rw [hdl, hmin1 _ _ rfl rfl])
      (fun j v hj => by rw [Addr.add_lit]; have := hcs (i * k + j) v (by rwa [List.getElem?_drop] at hj); rw [Nat.zero_add] at this; exact this)
      (fun j hj => hsp _ (by omega)) (fun j hj => hfz _) (fun v hv => h1c v (List.mem_of_mem_drop hv))
    rw [hmin1 _ _ rfl rfl] at this
    exact this
  obtain ⟨W1, hW1⟩ : ∃ W1, W1 = w.drew.setCells b ((i + m) * k) (cs.drop (i * k)) := ⟨_, rfl⟩
  have hsp1 : ∀ j, j < (n + m) * k → (W1.cell? ⟨b, j, none⟩).isSome = true := fun j hj => by
    rw [hW1]
    exact isSome_setCells b (cs.drop (i * k)) ((i + m) * k) w.drew (fun j hj => hsp _ (by rw [hdl] at hj; omega)) _ (hsp j hj)
  have hmin2 : Nat.min m (n + m - i) = m := by simp only [Nat.min_def]; split <;> omega
  have hcp2 : ∀ (W : World), (∀ x, W.cell? x = W1.cell? x) → (∀ x, W.frozen? x = W1.frozen? x) → ∀ ty dc, (Builtin.copy_ #[25, 25] ty #[.slice (some ⟨b, i * k, none⟩) (n + m - i) dc, .slice (some ⟨vb, 0, none⟩) m vc]).run P W = .ok (goInt m) (W.setCells b (i * k) vs) := fun W hWc hWf ty dc => by
    have := run_copy_k (P := P) W 25 25 ty 43 k b (i * k) (n + m - i) dc ⟨vb, 0, none⟩ m vc vs tS hsz (by rw [hvl, hmin2])
      (fun j v hj => by
        rw [Addr.add_lit, hWc, hW1, World.cell?_setCells_out b _ _ _ _ (fun h _ => absurd h hvb)]
        exact hvs j v hj)
      (fun j hj => by rw [hWc]; exact hsp1 _ (by omega)) (fun j hj => by rw [hWf, hW1, World.frozen?_setCells]; exact hfz _) h1v
    rw [hmin2] at this
    exact this
  rw [← hW1] at hcp1
  clear hcs hvs hsp1 hsp hfz hov0
  go_enter hf, Try.ntmps134
  go_wp2_with (simp only [hov])
  go_region_law_o (refine step_copy_runI rfl _ _ 25 25 rfl _ _ (by simp [Act.eval, Act.put]) (by simp [Act.eval, Act.put]) (hcp1 _ _ _) ?_)
  go_wp2_with (at_builtin; refine wpList_copy_runI _ rfl _ _ 25 25 rfl _ _ rfl rfl (hcp2 _ (fun _ => rfl) (fun _ => rfl) _ _) ?_)
  go_ret
  first | exact ⟨rfl, rfl⟩ | exact ⟨rfl, by rw [hW1]⟩
set_option maxHeartbeats 4000000 in
set_option maxRecDepth 100000 in
/-- At the end: append. -/
theorem atEnd {P : Program} {k : Nat} (hf : P.funcs[134]? = some Try.f134) (mixed : P.follows .mixedOrders = true) (t3 : P.underlying 3 = some (.int .i64)) (t4 : P.underlying 4 = some .bool) (tS : P.underlying 25 = some (.slice 43)) (zE : ∀ w, (Go.sizeOf 43).run P w = .ok k w)
    (ad : Option Addr) (n c m vc : Nat) (va : Option Addr) (w w1 : World) (r : Value) (hm : 0 < m) (hnc : n ≤ c) (hnil : ad = none → n = 0 ∧ c = 0)
    (hr : ∀ ty, (Builtin.append_ #[25, 25] ty #[.slice ad n c, .slice va m vc]).run P w = .ok r w1) :
    Calls P 134 #[.slice ad n c, .int .i64 n, .slice va m vc] w fun e w' => e = .returned r ∧ w' = w1 := by
  have u3 := run_underlying t3; have u4 := run_underlying t4; have uS := run_underlying tS
  have hz1 : ¬ ((m : Int) = 0) := by omega
  go_enter hf, Try.ntmps134
  cases ad with
  | none =>
    obtain ⟨rfl, rfl⟩ := hnil rfl
    go_wp2_with (at_builtin; refine Lib.wpList_append_run _ rfl _ _ _ _ rfl _ _ rfl rfl _ _ (hr _) ?_)
    go_ret
    exact ⟨rfl, rfl⟩
  | some a =>
    obtain ⟨ab, ao, asp⟩ := a
    go_wp2_with (at_builtin; refine Lib.wpList_append_run _ rfl _ _ _ _ rfl _ _ rfl rfl _ _ (hr _) ?_)
    all_goals (go_ret; exact ⟨rfl, rfl⟩)
set_option maxHeartbeats 4000000 in
set_option maxRecDepth 100000 in
/-- No room, not at the end: a row made anew. -/
theorem grow {P : Program} {k : Nat} (hf : P.funcs[134]? = some Try.f134) (mixed : P.follows .mixedOrders = true) (t3 : P.underlying 3 = some (.int .i64)) (t4 : P.underlying 4 = some .bool) (tS : P.underlying 25 = some (.slice 43)) (zE : ∀ w, (Go.sizeOf 43).run P w = .ok k w)
    {i0 : TypeInfo} {z : Value} (hi0 : P.info? 43 = some i0) (hz0 : i0.zero = some z) (hzs : i0.size = k) (hzc : z.cells.size = k) (hzb : i0.bytes ≤ 131072) (hk : 0 < k)
    (b n c i vb m vc : Nat) (cs vs : List Value) (w : World) (hi : i < n) (hm : 0 < m) (hnc : n ≤ c) (hroom : c < n + m) (hbig : n + m ≤ 1073741824)
    (hcl : cs.length = n * k) (hvl : vs.length = m * k)
    (hcs : At w b 0 cs) (hvs : At w vb 0 vs) (h1c : ∀ v ∈ cs, v.oneCell' = true) (h1v : ∀ v ∈ vs, v.oneCell' = true) :
    ∃ ROW : Array Value, ∃ G : Nat, n + m ≤ G ∧ G ≤ maxLen ∧ ROW.size = G * k ∧ ROW.toList.take (i * k) = cs.take (i * k) ∧
    Calls P 134 #[.slice (some ⟨b, 0, none⟩) n c, .int .i64 i, .slice (some ⟨vb, 0, none⟩) m vc] w fun e w' =>
      e = .returned (.slice (some ⟨w.heap.size, 0, none⟩) (n + m) G) ∧
      w' = (((w.alloc (.cells ROW 43)).drew.setCells w.heap.size (i * k) vs).drew).setCells w.heap.size ((i + m) * k) (cs.drop (i * k)) := by
  have u3 := run_underlying t3; have u4 := run_underlying t4; have uS := run_underlying tS
  have hz1 : ¬ ((m : Int) = 0) := by omega
  have hz2 : ¬ ((i : Int) = (n : Int)) := by omega
  have hz3 : (c : Int) < (n : Int) + (m : Int) := by omega
  have hsz : (P.info? 43).map (·.size) = some k := by rw [hi0]; simp [hzs]
  have hnk : 0 < n * k := Nat.mul_pos (by omega) hk
  have hmk : 0 < m * k := Nat.mul_pos hm hk
  have hbw : b < w.heap.size := block_lt_of_cell (hcs 0 _ (List.getElem?_eq_getElem (by omega)))
  have hvw : vb < w.heap.size := block_lt_of_cell (hvs 0 _ (List.getElem?_eq_getElem (by omega)))
  have hkk : (n : Int) + (m : Int) - (i : Int) = ((n + m - i : Nat) : Int) := by omega
  have hik : i + (n + m - i) = n + m := by omega
  have hle1 : i * k ≤ n * k := Nat.mul_le_mul_right k (by omega)
  have hold : (Builtin.firstCells i0.size i (.slice (some ⟨b, 0, none⟩) i c)).run P w.drew = .ok (cs.take (i * k)).toArray w.drew := by
    rw [hzs]
    exact run_firstCells_some w.drew k i ⟨b, 0, none⟩ i c (cs.take (i * k)) (by rw [List.length_take]; omega) (fun j v hj => by
      rw [Addr.add_lit]
      rw [List.getElem?_take] at hj
      split at hj
      · exact hcs j v hj
      · cases hj)
  have hfit : (n + m) * i0.bytes ≤ 140737488355328 := by
    have := Nat.mul_le_mul hbig hzb
    omega
  have hfit2 : (n + m - i) * i0.bytes ≤ 281474976710656 := by
    have := Nat.mul_le_mul_right i0.bytes (show n + m - i ≤ n + m by omega)
    omega
  have hrz : ∀ ty, (Builtin.append_ #[25, 3] ty #[.slice (some ⟨b, 0, none⟩) i c, .int .i64 ((n : Int) + (m : Int) - (i : Int))]).run P w =
      .ok (.slice (some ⟨w.heap.size, 0, none⟩) (n + m) (grownCap w (n + m) c 43)) (w.drew.alloc (.cells ((cs.take (i * k)).toArray ++ Builtin.zeroCells z.cells (n + m - i) ++ Builtin.zeroCells z.cells (grownCap w (n + m) c 43 - (n + m))) 43)) := fun ty => by
    have h := Lib.run_append_grow_zeros w 25 3 ty 43 i0 z .i64 .i64 tS t3 hi0 hz0 (some ⟨b, 0, none⟩) i c (cs.take (i * k)) hold (n + m - i) (by omega) (by omega) (by omega) (by omega) hfit2 (by rw [hik]; exact growslice_fits hroom hfit)
    rw [hik] at h
    rw [hkk]
    exact h
  obtain ⟨G, hG⟩ : ∃ G, G = grownCap w (n + m) c 43 := ⟨_, rfl⟩
  obtain ⟨ROW, hROW⟩ : ∃ ROW : Array Value, ROW = (cs.take (i * k)).toArray ++ Builtin.zeroCells z.cells (n + m - i) ++ Builtin.zeroCells z.cells (G - (n + m)) := ⟨_, rfl⟩
  rw [← hG] at hrz
  rw [← hROW] at hrz
  have hGn : n + m ≤ G := by rw [hG]; exact grownCap_ge w _ _ _
  have hGm : G ≤ maxLen := by rw [hG]; exact grownCap_le_maxLen w (n + m) c 43 (by unfold maxLen; omega)
  have hl1 : (cs.take (i * k)).length = i * k := by rw [List.length_take, hcl]; exact Nat.min_eq_left hle1
  have hRs : ROW.size = G * k := by
    rw [hROW]
    simp only [Array.size_append, List.size_toArray, size_zeroCells, hzc, hl1]
    rw [← Nat.add_mul, ← Nat.add_mul]
    congr 1
    omega
  have hRt : ROW.toList.take (i * k) = cs.take (i * k) := by
    rw [hROW, Array.toList_append, Array.toList_append, List.append_assoc]
    rw [List.take_append_of_le_length (by show i * k ≤ (cs.take (i * k)).length; omega)]
    show (cs.take (i * k)).take (i * k) = cs.take (i * k)
    rw [List.take_take, Nat.min_self]
  refine ⟨ROW, G, hGn, hGm, hRs, hRt, ?_⟩
  have hle2 : (n + m) * k ≤ G * k := Nat.mul_le_mul_right k hGn
  have hRl : (n + m) * k ≤ ROW.size := by omega
  obtain ⟨W1, hW1⟩ : ∃ W1, W1 = w.drew.alloc (.cells ROW 43) := ⟨_, rfl⟩
  rw [← hW1] at hrz
  have hN : ∀ j, j < (n + m) * k → (W1.cell? ⟨w.heap.size, j, none⟩).isSome = true := fun j hj => by
    rw [hW1, World.cell?_alloc_at (w := w.drew) ROW _ w.heap.size j rfl, Array.getElem?_eq_getElem (by omega)]; rfl
  have hNf : ∀ j, W1.frozen? ⟨w.heap.size, j, none⟩ = false := fun j => by rw [hW1]; exact World.frozen?_alloc_at (w := w.drew) ROW _ w.heap.size j rfl
  have hOb : ∀ j v, w.cell? ⟨b, j, none⟩ = some v → W1.cell? ⟨b, j, none⟩ = some v := fun j v h => by rw [hW1, World.cell?_alloc_past (w := w.drew) _ b j hbw]; exact h
  have hOv : ∀ j v, w.cell? ⟨vb, j, none⟩ = some v → W1.cell? ⟨vb, j, none⟩ = some v := fun j v h => by rw [hW1, World.cell?_alloc_past (w := w.drew) _ vb j hvw]; exact h
  have e1 : (n - i) * k + (i + m) * k = (n + m) * k := by rw [← Nat.add_mul]; congr 1; omega
  have e2 : (i * k) + m * k ≤ (n + m) * k := by rw [← Nat.add_mul]; exact Nat.mul_le_mul_right k (by omega)
  have hdl : (cs.drop (i * k)).length = (n - i) * k := by rw [List.length_drop, hcl, Nat.sub_mul]
  have hmin2 : Nat.min m (n + m - i) = m := by simp only [Nat.min_def]; split <;> omega
  have hmin1 : Nat.min (n - i) (n + m - (i + m)) = n - i := by simp only [Nat.min_def]; split <;> omega
  have hcpA : ∀ (W : World), (∀ x, W.cell? x = W1.cell? x) → (∀ x, W.frozen? x = W1.frozen? x) → ∀ ty dc, (Builtin.copy_ #[25, 25] ty #[.slice (some ⟨w.heap.size, i * k, none⟩) (n + m - i) dc, .slice (some ⟨vb, 0, none⟩) m vc]).run P W = .ok (goInt m) (W.setCells w.heap.size (i * k) vs) := fun W hWc hWf ty dc => by
    have := run_copy_k (P := P) W 25 25 ty 43 k w.heap.size (i * k) (n + m - i) dc ⟨vb, 0, none⟩ m vc vs tS hsz (by rw [hvl, hmin2])
      (fun j v hj => by rw [Addr.add_lit, hWc]; exact hOv _ v (hvs j v hj))
      (fun j hj => by rw [hWc]; exact hN _ (by omega)) (fun j hj => by rw [hWf]; exact hNf _) h1v
    rw [hmin2] at this
    exact this
  have hG63 : G ≤ 9223372036854775807 := by unfold maxLen at hGm; omega
  have hGi : ¬ (G = i) := by omega
  have hGim : ¬ (G = i + m) := by omega
  have hci : ¬ (c = i) := by omega
  have hbN : b ≠ w.heap.size := by omega
  have hcpB : ∀ (W : World), (∀ x, W.cell? x = (W1.setCells w.heap.size (i * k) vs).cell? x) → (∀ x, W.frozen? x = (W1.setCells w.heap.size (i * k) vs).frozen? x) → ∀ ty dc sc, (Builtin.copy_ #[25, 25] ty #[.slice (some ⟨w.heap.size, (i + m) * k, none⟩) (n + m - (i + m)) dc, .slice (some ⟨b, i * k, none⟩) (n - i) sc]).run P W = .ok (goInt (n - i : Nat)) (W.setCells w.heap.size ((i + m) * k) (cs.drop (i * k))) := fun W hWc hWf ty dc sc => by
    have := run_copy_k (P := P) W 25 25 ty 43 k w.heap.size ((i + m) * k) (n + m - (i + m)) dc ⟨b, i * k, none⟩ (n - i) sc (cs.drop (i * k)) tS hsz (by rw [hdl, hmin1])
      (fun j v hj => by
        rw [Addr.add_lit, hWc, World.cell?_setCells_out _ _ _ _ _ (fun h _ => absurd h hbN)]
        have := hcs (i * k + j) v (by rwa [List.getElem?_drop] at hj)
        rw [Nat.zero_add] at this
        exact hOb _ v this)
      (fun j hj => by rw [hWc]; exact isSome_setCells _ vs (i * k) W1 (fun t ht => hN _ (by omega)) _ (hN _ (by omega)))
      (fun j hj => by rw [hWf, World.frozen?_setCells]; exact hNf _) (fun v hv => h1c v (List.mem_of_mem_drop hv))
    rw [hmin1] at this
    exact this
  subst hW1
  have hE1 : ∀ x, ((w.alloc (.cells ROW 43)).drew).cell? x = (w.drew.alloc (.cells ROW 43)).cell? x := fun x => rfl
  have hE2 : ∀ x, ((w.alloc (.cells ROW 43)).drew).frozen? x = (w.drew.alloc (.cells ROW 43)).frozen? x := fun x => rfl
  have hF1 : ∀ x, (((w.alloc (.cells ROW 43)).drew.setCells w.heap.size (i * k) vs).drew).cell? x = ((w.drew.alloc (.cells ROW 43)).setCells w.heap.size (i * k) vs).cell? x := fun x => rfl
  have hF2 : ∀ x, (((w.alloc (.cells ROW 43)).drew.setCells w.heap.size (i * k) vs).drew).frozen? x = ((w.drew.alloc (.cells ROW 43)).setCells w.heap.size (i * k) vs).frozen? x := fun x => rfl
  have hw1 : IntKind.i64.wrap ((i : Int) + (m : Int)) = (i : Int) + (m : Int) := by rw [IntKind.wrap_i64]; omega
  have hb1 : (0 : Int) ≤ (i : Int) + (m : Int) := by omega
  have hin : i ≤ n := by omega
  have htn : ((i : Int) + (m : Int)).toNat = i + m := by omega
  have hb3 : (i : Int) ≤ (n : Int) := by omega
  clear hkk hik hold hROW hG hRl hRs hRt hcs hvs hN hNf hOb hOv hfit hfit2
  go_enter hf, Try.ntmps134
  go_wp2_with (first
    | (at_builtin; refine Lib.wpList_append_run _ rfl _ _ _ _ rfl _ _ rfl rfl _ _ (hrz _) ?_)
    | (at_builtin; refine wpList_copy_runI _ rfl _ _ 25 25 rfl _ _ rfl rfl (hcpA _ hE1 hE2 _ _) ?_)
    | (at_builtin; refine wpList_copy_runI _ rfl _ _ 25 25 rfl _ _ rfl rfl (hcpB _ (fun _ => rfl) (fun _ => rfl) _ _ _) ?_))
  go_region_law_o (refine step_copy_runI rfl _ _ 25 25 rfl (.slice (some ⟨w.heap.size, (i + m) * k, none⟩) (n + m - (i + m)) (G - (i + m))) (.slice (some ⟨b, i * k, none⟩) (n - i) (c - i)) (by simp [Act.eval, Act.put]) (by simp [Act.eval, Act.put]) (hcpB _ hF1 hF2 3 (G - (i + m)) (c - i)) ?_)
  go_wp2
  go_ret
  exact ⟨rfl, rfl⟩
theorem lay2 {A : Type} (C D vs cs : List A) (ik mk nk dk : Nat) (hC : C.take nk = cs) (hD : D = cs.drop ik) (hv : vs.length = mk) (hd : D.length = dk) (hi : ik ≤ nk) (hl : ik + mk + dk ≤ C.length) (hnk : nk ≤ C.length) :
    (((C.take (ik + mk) ++ D ++ C.drop (ik + mk + D.length)).take ik ++ vs ++ (C.take (ik + mk) ++ D ++ C.drop (ik + mk + D.length)).drop (ik + vs.length))).take (ik + mk + dk) = cs.take ik ++ vs ++ cs.drop ik := by
  have h1 : (C.take (ik + mk)).length = ik + mk := by rw [List.length_take]; omega
  have e1 : (C.take (ik + mk) ++ D ++ C.drop (ik + mk + D.length)).take ik = cs.take ik := by
    rw [List.append_assoc, List.take_append_of_le_length (by omega), List.take_take, Nat.min_eq_left (by omega), ← hC, List.take_take, Nat.min_eq_left hi]
  have e2 : (C.take (ik + mk) ++ D ++ C.drop (ik + mk + D.length)).drop (ik + vs.length) = D ++ C.drop (ik + mk + D.length) := by
    rw [List.append_assoc, hv, List.drop_append_of_le_length (by omega), List.drop_eq_nil_of_le (by omega), List.nil_append]
  rw [e1, e2, ← List.append_assoc, List.take_append_of_le_length, List.take_of_length_le, hD]
  · have : (cs.take ik).length = ik := by rw [List.length_take, ← hC, List.length_take]; omega
    simp only [List.length_append, this, hv, hd]
    omega
  · have : (cs.take ik).length = ik := by rw [List.length_take, ← hC, List.length_take]; omega
    simp only [List.length_append, this, hv, hd]
    omega
theorem lay3 {A : Type} (R D vs cs : List A) (ik mk nk dk : Nat) (hR : R.take ik = cs.take ik) (hcs : cs.length = nk) (hD : D = cs.drop ik) (hv : vs.length = mk) (hd : D.length = dk) (hi : ik ≤ nk) (hl : ik + mk + dk ≤ R.length) :
    ((R.take ik ++ vs ++ R.drop (ik + vs.length)).take (ik + mk) ++ D ++ (R.take ik ++ vs ++ R.drop (ik + vs.length)).drop (ik + mk + D.length)).take (ik + mk + dk) = cs.take ik ++ vs ++ cs.drop ik := by
  have h1 : (R.take ik).length = ik := by rw [List.length_take]; omega
  have h2 : (R.take ik ++ vs).length = ik + mk := by rw [List.length_append, h1, hv]
  have e1 : (R.take ik ++ vs ++ R.drop (ik + vs.length)).take (ik + mk) = cs.take ik ++ vs := by
    rw [List.take_append_of_le_length (by omega), List.take_of_length_le (by omega), hR]
  rw [e1, List.take_append_of_le_length, List.take_of_length_le, hD]
  · have : (cs.take ik).length = ik := by rw [← hR]; exact h1
    simp only [List.length_append, this, hv, hd]
    omega
  · have : (cs.take ik).length = ik := by rw [← hR]; exact h1
    simp only [List.length_append, this, hv, hd]
    omega
theorem at_block {w : World} {b n k : Nat} {cur : Array Value} {e : TypeId} {fz : Nat × Nat} {cs : List Value} (h : w.heap[b]? = some (.cells cur e fz)) (ht : cur.toList.take n = cs) : At w b 0 cs := by
  intro j v hj
  rw [Nat.zero_add]
  rw [← ht, List.getElem?_take] at hj
  split at hj
  · simp only [World.cell?, h]
    simpa using hj
  · cases hj
theorem walk {P : Program} {k : Nat} (hf : P.funcs[134]? = some Try.f134) (mixed : P.follows .mixedOrders = true) (t3 : P.underlying 3 = some (.int .i64)) (t4 : P.underlying 4 = some .bool) {ti : TI} (hg : Go.Abs.Good P 43 ti) (tS : P.underlying 25 = some (.slice 43))
    (hk : ti.siz = k) (hk0 : 0 < k) (hb : ti.byt ≤ 131072) (hza : ti.zer.t.alive = true)
    (hov0 : ∀ (w : World) (x y : Value), (callFunc 140 #[x, y]).run P w = Result.andThen ((Extern.SlicesOverlaps.overlaps #[25, 25] #[4] #[x, y]).run P w) (fun v w' => .ok (.value v) w')) : InsWalk P 134 43 k := by
  intro w L0 L1 n i m cs vs h0 h1 hne hi hm hfit hcl hvl h1c h1v
  have zE : ∀ w, (Go.sizeOf 43).run P w = .ok k w := fun w => by rw [← hk]; exact hg.size w
  obtain ⟨i0, hi0, hs0, hby0, hzz⟩ := hg.info
  obtain ⟨z, hz0, hzc, _⟩ := hzz hza
  have hsz : (P.info? 43).map (·.size) = some k := by rw [hi0]; simp [hs0, hk]
  -- what is laid in
  obtain ⟨g1, c1, cur1, e1, hb1, hcur1, htk1⟩ : ∃ g c cur, L1.hdr = .slice (some ⟨g, 0, none⟩) m c ∧ w.heap[g]? = some (.cells cur 43 (0, 0)) ∧ L1.loc = g ∧ cur.toList.take (m * k) = vs := by
    rcases h1 with ⟨ad, _, h, _⟩ | ⟨hb, _, ⟨h, h'⟩ | ⟨g, cap, cur, h, _, h2, _, _, _, h3⟩⟩
    · omega
    · omega
    · rw [h] at hb
      injection hb with hb
      exact ⟨g, cap, cur, h, h2, hb.symm, h3⟩
  have hvs : At w g1 0 vs := at_block (k := k) hb1 htk1
  have hy : (L1.hdr = .slice none 0 0 ∧ m = 0) ∨ ∃ ad c, L1.hdr = .slice ad m c ∧ (m = 0 ∨ ∃ b o, ad = some ⟨b, o, none⟩ ∧ At w b o vs) := .inr ⟨_, c1, e1, .inr ⟨g1, 0, rfl, hvs⟩⟩
  have atEnd' : ∀ (ad : Option Addr) (c : Nat), L0.hdr = .slice ad n c → n ≤ c → (ad = none → n = 0 ∧ c = 0) → i = n → Calls P 134 #[L0.hdr, .int .i64 i, L1.hdr] w fun e' w' => ∃ L', e' = .returned L'.hdr ∧ RowAt w' L' 43 k (n + m) (cs.take (i * k) ++ vs ++ cs.drop (i * k)) ∧ Grow (fun b => L0.hdr.ownBlock = some L0.loc ∧ b = L0.loc) w w' ∧
    (L'.hdr.ownBlock = some L'.loc → L'.loc < w'.heap.size ∧ ((L0.hdr.ownBlock = some L0.loc ∧ L'.loc = L0.loc) ∨ w.heap.size ≤ L'.loc)) ∧ L'.hdr.oneCell' = true := by
    intro ad c hh hnc hnil hin
    subst hin
    rw [← hk] at h0 hcl hvl
    have hra := fun ty => run_append (P := P) (ty := ty) tS hg (by omega) hb hza hcl h0 hy hvl h1v hfit
    obtain ⟨L, w', hr1, hr2, hr3, hr4, hr5⟩ := hra 25
    have hr1' : ∀ ty, (Builtin.append_ #[25, 25] ty #[.slice ad i c, .slice (some ⟨g1, 0, none⟩) m c1]).run P w = .ok L.hdr w' := fun ty => by
      rw [← hh, ← e1]
      exact hr1
    rw [hh, e1]
    refine Calls.mono (atEnd (k := k) hf mixed t3 t4 tS zE ad i c m c1 _ w w' L.hdr hm hnc hnil hr1') ?_
    rintro e' w'' ⟨rfl, rfl⟩
    rw [hk] at hr2 hcl
    rw [List.take_of_length_le (by omega), List.drop_eq_nil_of_le (by omega), List.append_nil]
    rw [hh] at hr3 hr4
    exact ⟨L, rfl, hr2, hr3, hr4, hr5⟩
  have h00 := h0
  rcases h0 with ⟨ad, hh, hn0, _⟩ | ⟨hob, hlen0, ⟨hh, hn0⟩ | ⟨g, cap, cur, hh, _, hcell, hnc, hcm, hcs, htk⟩⟩
  · subst hn0
    cases ad with
    | none => exact atEnd' none 0 hh (Nat.le_refl _) (fun _ => ⟨rfl, rfl⟩) (by omega)
    | some a => exact atEnd' (some a) 0 hh (Nat.le_refl _) (fun h => by cases h) (by omega)
  · rw [hh] at hob
    cases hob
  · by_cases hin : i = n
    · exact atEnd' _ cap hh hnc (fun h => by cases h) hin
    have hlt : i < n := by omega
    have hloc : L0.loc = g := by rw [hh] at hob; injection hob with hob; exact hob.symm
    have hcsat : At w g 0 cs := at_block (k := k) hcell htk
    have hgg : g1 ≠ g := by
      intro e
      refine hne hob (by rw [e1, hcur1]; rfl) ?_
      rw [hloc, hcur1, e]
    have hcurl : cur.toList.length = cap * k := by simpa using hcs
    have hik : i * k ≤ n * k := Nat.mul_le_mul_right k hi
    have hdl : (cs.drop (i * k)).length = (n - i) * k := by rw [List.length_drop, hcl, Nat.sub_mul]
    have hsum : i * k + m * k + (n - i) * k = (n + m) * k := by rw [← Nat.add_mul, ← Nat.add_mul]; congr 1; omega
    rw [hh, e1]
    by_cases hroom : n + m ≤ cap
    · refine Calls.mono (shift hf mixed t3 t4 tS zE hsz hov0 g n cap i g1 m c1 cs vs w hlt hm hroom (by unfold maxLen at hcm; omega) hgg hk0 hcell hb1 hcs hcl hvl hcsat hvs h1c h1v) ?_
      rintro e' w' ⟨rfl, rfl⟩
      have hle : (n + m) * k ≤ cap * k := Nat.mul_le_mul_right k hroom
      have hnk : n * k ≤ cap * k := Nat.mul_le_mul_right k hnc
      obtain ⟨c', q1, q2, q3⟩ := setCells_heap (b := g) (cs.drop (i * k)) ((i + m) * k) w.drew cur hcell (by rw [hdl, Nat.add_mul]; omega)
      obtain ⟨c'', r1, r2, r3⟩ := setCells_heap (b := g) vs (i * k) (w.drew.setCells g ((i + m) * k) (cs.drop (i * k))) c' q1 (by rw [q2, hcs, hvl]; omega)
      refine ⟨⟨g, .slice (some ⟨g, 0, none⟩) (n + m) cap⟩, rfl, .inr ⟨rfl, ?_, .inr ⟨g, cap, c'', rfl, Nat.zero_le _, r1, hroom, hcm, by rw [r2, q2, hcs], ?_⟩⟩, ?_, ?_, rfl⟩
      · rw [List.length_append, List.length_append, hdl, hvl, List.length_take, hcl, Nat.min_eq_left hik]; exact hsum
      · rw [r3, q3, Nat.add_mul i m k]
        have := lay2 cur.toList (cs.drop (i * k)) vs cs (i * k) (m * k) (n * k) ((n - i) * k) htk rfl hvl hdl hik (by rw [hcurl]; omega) (by rw [hcurl]; omega)
        rw [hsum] at this
        exact this
      · have hgr : Grow (fun x => x = g) w ((w.drew.setCells g ((i + m) * k) (cs.drop (i * k))).setCells g (i * k) vs) :=
          Grow.trans (b := w.drew) (Grow.drew w) (Grow.trans (setCells_grow g _ _ _) (setCells_grow g _ _ _) (fun _ _ h => h)) (fun _ _ h => h)
        exact ⟨hgr.os, hgr.tape, hgr.output, hgr.size, fun x hx hn => hgr.block x hx (fun e => hn ⟨by rw [← hh]; exact hob, by rw [hloc]; exact e⟩)⟩
      · intro _
        refine ⟨(Array.getElem?_eq_some_iff.1 r1).1, .inl ⟨by rw [← hh]; exact hob, hloc.symm⟩⟩
    · obtain ⟨ROW, G, hG1, hG2, hG3, hG4, hc⟩ := grow hf mixed t3 t4 tS zE hi0 hz0 (by rw [hs0, hk]) (by rw [hzc, hk]) (by rw [hby0]; exact hb) hk0 g n cap i g1 m c1 cs vs w hlt hm hnc (by omega) hfit hcl hvl hcsat hvs h1c h1v
      refine Calls.mono hc ?_
      rintro e' w' ⟨rfl, rfl⟩
      have hRl : ROW.toList.length = G * k := by simpa using hG3
      have hle : (n + m) * k ≤ G * k := Nat.mul_le_mul_right k hG1
      have hnew : (w.alloc (.cells ROW 43)).drew.heap[w.heap.size]? = some (.cells ROW 43 (0, 0)) := heap_alloc_new w _
      obtain ⟨c', q1, q2, q3⟩ := setCells_heap (b := w.heap.size) vs (i * k) (w.alloc (.cells ROW 43)).drew ROW hnew (by rw [hvl]; omega)
      obtain ⟨c'', r1, r2, r3⟩ := setCells_heap (b := w.heap.size) (cs.drop (i * k)) ((i + m) * k) ((w.alloc (.cells ROW 43)).drew.setCells w.heap.size (i * k) vs).drew c' q1 (by rw [q2, hG3, hdl, Nat.add_mul]; omega)
      refine ⟨⟨w.heap.size, .slice (some ⟨w.heap.size, 0, none⟩) (n + m) G⟩, rfl, .inr ⟨rfl, ?_, .inr ⟨w.heap.size, G, c'', rfl, Nat.zero_le _, r1, hG1, hG2, by rw [r2, q2, hG3], ?_⟩⟩, ?_, ?_, rfl⟩
      · rw [List.length_append, List.length_append, hdl, hvl, List.length_take, hcl, Nat.min_eq_left hik]; exact hsum
      · rw [r3, q3, Nat.add_mul i m k]
        have := lay3 ROW.toList (cs.drop (i * k)) vs cs (i * k) (m * k) (n * k) ((n - i) * k) hG4 hcl rfl hvl hdl hik (by rw [hRl]; omega)
        rw [hsum] at this
        exact this
      · have hgr : Grow (fun x => x = w.heap.size) w (((w.alloc (.cells ROW 43)).drew.setCells w.heap.size (i * k) vs).drew.setCells w.heap.size ((i + m) * k) (cs.drop (i * k))) :=
          Grow.trans (b := (w.alloc (.cells ROW 43)).drew) ⟨rfl, rfl, rfl, by simp, fun x hx _ => heap_alloc_old w _ hx⟩
            (Grow.trans (setCells_grow _ _ _ _) (Grow.trans (Grow.drew _) (setCells_grow _ _ _ _) (fun _ _ h => h)) (fun _ _ h => h)) (fun _ _ h => h)
        exact ⟨hgr.os, hgr.tape, hgr.output, hgr.size, fun x hx hn => hgr.block x hx (fun e => by have : x = w.heap.size := e; omega)⟩
      · intro _
        exact ⟨(Array.getElem?_eq_some_iff.1 r1).1, .inr (Nat.le_refl _)⟩
end Go.Proofs.Ytobfcaejpcpboaa.Ins134
