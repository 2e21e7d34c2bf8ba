/- Texts of one proof, laid together: how the interpreter's words stand for the program's code and what the functions do. No conditions but those that each lemma names. -/
import Derived.Test.YtimgaglpempfeaaGreatProg
import Derived.Test.YtimgaglpempfeaaGreatM2
import Derived.WalkKit
import Derived.Lib.Walk
import Derived.Lib.SliceRun
import Derived.Lib.JoinLaws
import Derived.Lib.AppendZeros
import Derived.Lib.Overlaps
import Derived.Laws.Externs
import Derived.Laws.IdiomCopy
import Derived.Laws.NewBlocks
import Derived.Shelf.Spec.SlicesInsert
set_option linter.unusedSimpArgs false
set_option linter.unusedVariables false
set_option linter.unusedSimpArgs false
namespace Go.Proofs.YtimgaglpempfeaaGreat.Ins104
open Go.Abs Go.RowKit Go.Lib Go.Proofs
set_option maxHeartbeats 4000000 in
set_option maxRecDepth 100000 in
/-- There is room, and it is not at the end: in place. -/
theorem shift {P : Program} {k : Nat} (hf : P.funcs[104]? = some Tryz.f104) (mixed : P.follows .mixedOrders = true) (t3 : P.underlying 3 = some (.int .i64)) (t4 : P.underlying 4 = some .bool) (tS : P.underlying 26 = some (.slice 52)) (zE : ∀ w, (Go.sizeOf 52).run P w = .ok k w)
    (hsz : (P.info? 52).map (·.size) = some k) (hov0 : ∀ (w : World) (x y : Value), (callFunc 127 #[x, y]).run P w = Result.andThen ((Extern.SlicesOverlaps.overlaps #[26, 26] #[4] #[x, y]).run P w) (fun v w' => .ok (.value v) w'))
    (b n c i vb m vc : Nat) (cs vs : List Value) (w : World) (hi : i < n) (hm : 0 < m) (hroom : n + m ≤ c) (hc63 : c ≤ 9223372036854775807) (hvb : vb ≠ b) (hk : 0 < k)
    {cur cur2 : Array Value} {e e2 : TypeId} (hb : w.heap[b]? = some (.cells cur e (0, 0))) (hb2 : w.heap[vb]? = some (.cells cur2 e2 (0, 0))) (hcur : cur.size = c * k)
    (hcl : cs.length = n * k) (hvl : vs.length = m * k)
    (hcs : At w b 0 cs) (hvs : At w vb 0 vs) (h1c : ∀ v ∈ cs, v.oneCell' = true) (h1v : ∀ v ∈ vs, v.oneCell' = true) :
    Calls P 104 #[.slice (some ⟨b, 0, none⟩) n c, .int .i64 i, .slice (some ⟨vb, 0, none⟩) m vc] w fun e w' =>
      e = .returned (.slice (some ⟨b, 0, none⟩) (n + m) c) ∧ w' = (w.drew.setCells b ((i + m) * k) (cs.drop (i * k))).setCells b (i * k) vs := by
  have u3 := run_underlying t3; have u4 := run_underlying t4; have uS := run_underlying tS
  have hz1 : ¬ ((m : Int) = 0) := by omega
  have hz2 : ¬ ((i : Int) = (n : Int)) := by omega
  have hov : ∀ lb cb, (callFunc 127 #[.slice (some ⟨vb, 0, none⟩) m vc, .slice (some ⟨b, (i + m) * k, none⟩) lb cb]).run P w = .ok (.value (.bool false)) w := fun lb cb => by
    rw [hov0, Lib.run_overlaps_apart w 26 4 52 tS k zE ⟨vb, 0, none⟩ ⟨b, (i + m) * k, none⟩ m vc lb cb hvb e2 e cur2.size cur.size (cells_shape hb2) (cells_shape hb)
      (by rw [hcur]; exact Nat.ne_of_gt (Nat.mul_pos (by omega) hk)) (cells_thawed hb2) (cells_thawed hb2)]
    rfl
  have hdl : (cs.drop (i * k)).length = (n - i) * k := by rw [List.length_drop, hcl, Nat.sub_mul]
  have hw1 : IntKind.i64.wrap ((i : Int) + (m : Int)) = (i : Int) + (m : Int) := by rw [IntKind.wrap_i64]; omega
  have hb1 : (0 : Int) ≤ (i : Int) + (m : Int) := by omega
  have hin : i ≤ n := by omega
  have htn : ((i : Int) + (m : Int)).toNat = i + m := by omega
  have hb3 : (i : Int) ≤ (n : Int) + (m : Int) := by omega
  have hb4 : ¬ (c = i) := by omega
  have hb2' : ¬ (c = i + m) := by omega
  have hle : (n + m) * k ≤ c * k := Nat.mul_le_mul_right k hroom
  have hsp : ∀ j, j < (n + m) * k → (w.cell? ⟨b, j, none⟩).isSome = true := fun j hj => cells_some hb (by omega)
  have hfz : ∀ j, w.frozen? ⟨b, j, none⟩ = false := fun j => cells_thawed hb
  have e1 : (n - i) * k + (i + m) * k = (n + m) * k := by rw [← Nat.add_mul]; congr 1; omega
  have e2 : (i * k) + m * k ≤ (n + m) * k := by rw [← Nat.add_mul]; exact Nat.mul_le_mul_right k (by omega)
  have hmin1 : ∀ x y : Nat, x = n + m - i → y = n + m - (i + m) → Nat.min x y = n - i := by intro x y h1 h2; subst h1; subst h2; simp only [Nat.min_def]; split <;> omega
  have hcp1 : ∀ ty dc sc, (Builtin.copy_ #[26, 26] ty #[.slice (some ⟨b, (i + m) * k, none⟩) (n + m - (i + m)) dc, .slice (some ⟨b, i * k, none⟩) (n + m - i) sc]).run P w.drew = .ok (goInt (n - i : Nat)) (w.drew.setCells b ((i + m) * k) (cs.drop (i * k))) := fun ty dc sc => by
    have := run_copy_k (P := P) w.drew 26 26 ty 52 k b ((i + m) * k) (n + m - (i + m)) dc ⟨b, i * k, none⟩ (n + m - i) sc (cs.drop (i * k)) tS hsz (by rw [hdl, hmin1 _ _ rfl rfl])
      (fun j v hj => by rw [Addr.add_lit]; have := hcs (i * k + j) v (by rwa [List.getElem?_drop] at hj); rw [Nat.zero_add] at this; exact this)
      (fun j hj => hsp _ (by omega)) (fun j hj => hfz _) (fun v hv => h1c v (List.mem_of_mem_drop hv))
    rw [hmin1 _ _ rfl rfl] at this
    exact this
  obtain ⟨W1, hW1⟩ : ∃ W1, W1 = w.drew.setCells b ((i + m) * k) (cs.drop (i * k)) := ⟨_, rfl⟩
  have hsp1 : ∀ j, j < (n + m) * k → (W1.cell? ⟨b, j, none⟩).isSome = true := fun j hj => by
    rw [hW1]
    exact isSome_setCells b (cs.drop (i * k)) ((i + m) * k) w.drew (fun j hj => hsp _ (by rw [hdl] at hj; omega)) _ (hsp j hj)
  have hmin2 : Nat.min m (n + m - i) = m := by simp only [Nat.min_def]; split <;> omega
  have hcp2 : ∀ (W : World), (∀ x, W.cell? x = W1.cell? x) → (∀ x, W.frozen? x = W1.frozen? x) → ∀ ty dc, (Builtin.copy_ #[26, 26] ty #[.slice (some ⟨b, i * k, none⟩) (n + m - i) dc, .slice (some ⟨vb, 0, none⟩) m vc]).run P W = .ok (goInt m) (W.setCells b (i * k) vs) := fun W hWc hWf ty dc => by
    have := run_copy_k (P := P) W 26 26 ty 52 k b (i * k) (n + m - i) dc ⟨vb, 0, none⟩ m vc vs tS hsz (by rw [hvl, hmin2])
      (fun j v hj => by
        rw [Addr.add_lit, hWc, hW1, World.cell?_setCells_out b _ _ _ _ (fun h _ => absurd h hvb)]
        exact hvs j v hj)
      (fun j hj => by rw [hWc]; exact hsp1 _ (by omega)) (fun j hj => by rw [hWf, hW1, World.frozen?_setCells]; exact hfz _) h1v
    rw [hmin2] at this
    exact this
  rw [← hW1] at hcp1
  clear hcs hvs hsp1 hsp hfz hov0
  go_enter hf, Tryz.ntmps104
  go_wp2_with (simp only [hov])
  go_region_law_o (refine step_copy_runI rfl _ _ 26 26 rfl _ _ (by simp [Act.eval, Act.put]) (by simp [Act.eval, Act.put]) (hcp1 _ _ _) ?_)
  go_wp2_with (at_builtin; refine wpList_copy_runI _ rfl _ _ 26 26 rfl _ _ rfl rfl (hcp2 _ (fun _ => rfl) (fun _ => rfl) _ _) ?_)
  go_ret
  first | exact ⟨rfl, rfl⟩ | exact ⟨rfl, by rw [hW1]⟩
set_option maxHeartbeats 4000000 in
set_option maxRecDepth 100000 in
/-- At the end: append. -/
theorem atEnd {P : Program} {k : Nat} (hf : P.funcs[104]? = some Tryz.f104) (mixed : P.follows .mixedOrders = true) (t3 : P.underlying 3 = some (.int .i64)) (t4 : P.underlying 4 = some .bool) (tS : P.underlying 26 = some (.slice 52)) (zE : ∀ w, (Go.sizeOf 52).run P w = .ok k w)
    (ad : Option Addr) (n c m vc : Nat) (va : Option Addr) (w w1 : World) (r : Value) (hm : 0 < m) (hnc : n ≤ c) (hnil : ad = none → n = 0 ∧ c = 0)
    (hr : ∀ ty, (Builtin.append_ #[26, 26] ty #[.slice ad n c, .slice va m vc]).run P w = .ok r w1) :
    Calls P 104 #[.slice ad n c, .int .i64 n, .slice va m vc] w fun e w' => e = .returned r ∧ w' = w1 := by
  have u3 := run_underlying t3; have u4 := run_underlying t4; have uS := run_underlying tS
  have hz1 : ¬ ((m : Int) = 0) := by omega
  go_enter hf, Tryz.ntmps104
  cases ad with
  | none =>
    obtain ⟨rfl, rfl⟩ := hnil rfl
    go_wp2_with (at_builtin; refine Lib.wpList_append_run _ rfl _ _ _ _ rfl _ _ rfl rfl _ _ (hr _) ?_)
    go_ret
    exact ⟨rfl, rfl⟩
  | some a =>
    obtain ⟨ab, ao, asp⟩ := a
    go_wp2_with (at_builtin; refine Lib.wpList_append_run _ rfl _ _ _ _ rfl _ _ rfl rfl _ _ (hr _) ?_)
    all_goals (go_ret; exact ⟨rfl, rfl⟩)
set_option maxHeartbeats 4000000 in
set_option maxRecDepth 100000 in
/-- No room, not at the end: a row made anew. -/
theorem grow {P : Program} {k : Nat} (hf : P.funcs[104]? = some Tryz.f104) (mixed : P.follows .mixedOrders = true) (t3 : P.underlying 3 = some (.int .i64)) (t4 : P.underlying 4 = some .bool) (tS : P.underlying 26 = some (.slice 52)) (zE : ∀ w, (Go.sizeOf 52).run P w = .ok k w)
    {i0 : TypeInfo} {z : Value} (hi0 : P.info? 52 = some i0) (hz0 : i0.zero = some z) (hzs : i0.size = k) (hzc : z.cells.size = k) (hzb : i0.bytes ≤ 131072) (hk : 0 < k)
    (b n c i vb m vc : Nat) (cs vs : List Value) (w : World) (hi : i < n) (hm : 0 < m) (hnc : n ≤ c) (hroom : c < n + m) (hbig : n + m ≤ 1073741824)
    (hcl : cs.length = n * k) (hvl : vs.length = m * k)
    (hcs : At w b 0 cs) (hvs : At w vb 0 vs) (h1c : ∀ v ∈ cs, v.oneCell' = true) (h1v : ∀ v ∈ vs, v.oneCell' = true) :
    ∃ ROW : Array Value, ∃ G : Nat, n + m ≤ G ∧ G ≤ maxLen ∧ ROW.size = G * k ∧ ROW.toList.take (i * k) = cs.take (i * k) ∧
    Calls P 104 #[.slice (some ⟨b, 0, none⟩) n c, .int .i64 i, .slice (some ⟨vb, 0, none⟩) m vc] w fun e w' =>
      e = .returned (.slice (some ⟨w.heap.size, 0, none⟩) (n + m) G) ∧
      w' = (((w.alloc (.cells ROW 52)).drew.setCells w.heap.size (i * k) vs).drew).setCells w.heap.size ((i + m) * k) (cs.drop (i * k)) := by
  have u3 := run_underlying t3; have u4 := run_underlying t4; have uS := run_underlying tS
  have hz1 : ¬ ((m : Int) = 0) := by omega
  have hz2 : ¬ ((i : Int) = (n : Int)) := by omega
  have hz3 : (c : Int) < (n : Int) + (m : Int) := by omega
  have hsz : (P.info? 52).map (·.size) = some k := by rw [hi0]; simp [hzs]
  have hnk : 0 < n * k := Nat.mul_pos (by omega) hk
  have hmk : 0 < m * k := Nat.mul_pos hm hk
  have hbw : b < w.heap.size := block_lt_of_cell (hcs 0 _ (List.getElem?_eq_getElem (by omega)))
  have hvw : vb < w.heap.size := block_lt_of_cell (hvs 0 _ (List.getElem?_eq_getElem (by omega)))
  have hkk : (n : Int) + (m : Int) - (i : Int) = ((n + m - i : Nat) : Int) := by omega
  have hik : i + (n + m - i) = n + m := by omega
  have hle1 : i * k ≤ n * k := Nat.mul_le_mul_right k (by omega)
  have hold : (Builtin.firstCells i0.size i (.slice (some ⟨b, 0, none⟩) i c)).run P w.drew = .ok (cs.take (i * k)).toArray w.drew := by
    rw [hzs]
    exact run_firstCells_some w.drew k i ⟨b, 0, none⟩ i c (cs.take (i * k)) (by rw [List.length_take]; omega) (fun j v hj => by
      rw [Addr.add_lit]
      rw [List.getElem?_take] at hj
      split at hj
      · exact hcs j v hj
      · cases hj)
  have hfit : (n + m) * i0.bytes ≤ 140737488355328 := by
    have := Nat.mul_le_mul hbig hzb
    omega
  have hfit2 : (n + m - i) * i0.bytes ≤ 281474976710656 := by
    have := Nat.mul_le_mul_right i0.bytes (show n + m - i ≤ n + m by omega)
    omega
  have hrz : ∀ ty, (Builtin.append_ #[26, 3] ty #[.slice (some ⟨b, 0, none⟩) i c, .int .i64 ((n : Int) + (m : Int) - (i : Int))]).run P w =
      .ok (.slice (some ⟨w.heap.size, 0, none⟩) (n + m) (grownCap w (n + m) c 52)) (w.drew.alloc (.cells ((cs.take (i * k)).toArray ++ Builtin.zeroCells z.cells (n + m - i) ++ Builtin.zeroCells z.cells (grownCap w (n + m) c 52 - (n + m))) 52)) := fun ty => by
    have h := Lib.run_append_grow_zeros w 26 3 ty 52 i0 z .i64 .i64 tS t3 hi0 hz0 (some ⟨b, 0, none⟩) i c (cs.take (i * k)) hold (n + m - i) (by omega) (by omega) (by omega) (by omega) hfit2 (by rw [hik]; exact growslice_fits hroom hfit)
    rw [hik] at h
    rw [hkk]
    exact h
  obtain ⟨G, hG⟩ : ∃ G, G = grownCap w (n + m) c 52 := ⟨_, rfl⟩
  obtain ⟨ROW, hROW⟩ : ∃ ROW : Array Value, ROW = (cs.take (i * k)).toArray ++ Builtin.zeroCells z.cells (n + m - i) ++ Builtin.zeroCells z.cells (G - (n + m)) := ⟨_, rfl⟩
  rw [← hG] at hrz
  rw [← hROW] at hrz
  have hGn : n + m ≤ G := by rw [hG]; exact grownCap_ge w _ _ _
  have hGm : G ≤ maxLen := by rw [hG]; exact grownCap_le_maxLen w (n + m) c 52 (by unfold maxLen; omega)
  have hl1 : (cs.take (i * k)).length = i * k := by rw [List.length_take, hcl]; exact Nat.min_eq_left hle1
  have hRs : ROW.size = G * k := by
    rw [hROW]
    simp only [Array.size_append, List.size_toArray, size_zeroCells, hzc, hl1]
    rw [← Nat.add_mul, ← Nat.add_mul]
    congr 1
    omega
  have hRt : ROW.toList.take (i * k) = cs.take (i * k) := by
    rw [hROW, Array.toList_append, Array.toList_append, List.append_assoc]
    rw [List.take_append_of_le_length (by show i * k ≤ (cs.take (i * k)).length; omega)]
    show (cs.take (i * k)).take (i * k) = cs.take (i * k)
    rw [List.take_take, Nat.min_self]
  refine ⟨ROW, G, hGn, hGm, hRs, hRt, ?_⟩
  have hle2 : (n + m) * k ≤ G * k := Nat.mul_le_mul_right k hGn
  have hRl : (n + m) * k ≤ ROW.size := by omega
  obtain ⟨W1, hW1⟩ : ∃ W1, W1 = w.drew.alloc (.cells ROW 52) := ⟨_, rfl⟩
  rw [← hW1] at hrz
  have hN : ∀ j, j < (n + m) * k → (W1.cell? ⟨w.heap.size, j, none⟩).isSome = true := fun j hj => by
    rw [hW1, World.cell?_alloc_at (w := w.drew) ROW _ w.heap.size j rfl, Array.getElem?_eq_getElem (by omega)]; rfl
  have hNf : ∀ j, W1.frozen? ⟨w.heap.size, j, none⟩ = false := fun j => by rw [hW1]; exact World.frozen?_alloc_at (w := w.drew) ROW _ w.heap.size j rfl
  have hOb : ∀ j v, w.cell? ⟨b, j, none⟩ = some v → W1.cell? ⟨b, j, none⟩ = some v := fun j v h => by rw [hW1, World.cell?_alloc_past (w := w.drew) _ b j hbw]; exact h
  have hOv : ∀ j v, w.cell? ⟨vb, j, none⟩ = some v → W1.cell? ⟨vb, j, none⟩ = some v := fun j v h => by rw [hW1, World.cell?_alloc_past (w := w.drew) _ vb j hvw]; exact h
  have e1 : (n - i) * k + (i + m) * k = (n + m) * k := by rw [← Nat.add_mul]; congr 1; omega
  have e2 : (i * k) + m * k ≤ (n + m) * k := by rw [← Nat.add_mul]; exact Nat.mul_le_mul_right k (by omega)
  have hdl : (cs.drop (i * k)).length = (n - i) * k := by rw [List.length_drop, hcl, Nat.sub_mul]
  have hmin2 : Nat.min m (n + m - i) = m := by simp only [Nat.min_def]; split <;> omega
  have hmin1 : Nat.min (n - i) (n + m - (i + m)) = n - i := by simp only [Nat.min_def]; split <;> omega
  have hcpA : ∀ (W : World), (∀ x, W.cell? x = W1.cell? x) → (∀ x, W.frozen? x = W1.frozen? x) → ∀ ty dc, (Builtin.copy_ #[26, 26] ty #[.slice (some ⟨w.heap.size, i * k, none⟩) (n + m - i) dc, .slice (some ⟨vb, 0, none⟩) m vc]).run P W = .ok (goInt m) (W.setCells w.heap.size (i * k) vs) := fun W hWc hWf ty dc => by
    have := run_copy_k (P := P) W 26 26 ty 52 k w.heap.size (i * k) (n + m - i) dc ⟨vb, 0, none⟩ m vc vs tS hsz (by rw [hvl, hmin2])
      (fun j v hj => by rw [Addr.add_lit, hWc]; exact hOv _ v (hvs j v hj))
      (fun j hj => by rw [hWc]; exact hN _ (by omega)) (fun j hj => by rw [hWf]; exact hNf _) h1v
    rw [hmin2] at this
    exact this
  have hG63 : G ≤ 9223372036854775807 := by unfold maxLen at hGm; omega
  have hGi : ¬ (G = i) := by omega
  have hGim : ¬ (G = i + m) := by omega
  have hci : ¬ (c = i) := by omega
  have hbN : b ≠ w.heap.size := by omega
  have hcpB : ∀ (W : World), (∀ x, W.cell? x = (W1.setCells w.heap.size (i * k) vs).cell? x) → (∀ x, W.frozen? x = (W1.setCells w.heap.size (i * k) vs).frozen? x) → ∀ ty dc sc, (Builtin.copy_ #[26, 26] ty #[.slice (some ⟨w.heap.size, (i + m) * k, none⟩) (n + m - (i + m)) dc, .slice (some ⟨b, i * k, none⟩) (n - i) sc]).run P W = .ok (goInt (n - i : Nat)) (W.setCells w.heap.size ((i + m) * k) (cs.drop (i * k))) := fun W hWc hWf ty dc sc => by
    have := run_copy_k (P := P) W 26 26 ty 52 k w.heap.size ((i + m) * k) (n + m - (i + m)) dc ⟨b, i * k, none⟩ (n - i) sc (cs.drop (i * k)) tS hsz (by rw [hdl, hmin1])
      (fun j v hj => by
        rw [Addr.add_lit, hWc, World.cell?_setCells_out _ _ _ _ _ (fun h _ => absurd h hbN)]
        have := hcs (i * k + j) v (by rwa [List.getElem?_drop] at hj)
        rw [Nat.zero_add] at this
        exact hOb _ v this)
      (fun j hj => by rw [hWc]; exact isSome_setCells _ vs (i * k) W1 (fun t ht => hN _ (by omega)) _ (hN _ (by omega)))
      (fun j hj => by rw [hWf, World.frozen?_setCells]; exact hNf _) (fun v hv => h1c v (List.mem_of_mem_drop hv))
    rw [hmin1] at this
    exact this
  subst hW1
  have hE1 : ∀ x, ((w.alloc (.cells ROW 52)).drew).cell? x = (w.drew.alloc (.cells ROW 52)).cell? x := fun x => rfl
  have hE2 : ∀ x, ((w.alloc (.cells ROW 52)).drew).frozen? x = (w.drew.alloc (.cells ROW 52)).frozen? x := fun x => rfl
  have hF1 : ∀ x, (((w.alloc (.cells ROW 52)).drew.setCells w.heap.size (i * k) vs).drew).cell? x = ((w.drew.alloc (.cells ROW 52)).setCells w.heap.size (i * k) vs).cell? x := fun x => rfl
  have hF2 : ∀ x, (((w.alloc (.cells ROW 52)).drew.setCells w.heap.size (i * k) vs).drew).frozen? x = ((w.drew.alloc (.cells ROW 52)).setCells w.heap.size (i * k) vs).frozen? x := fun x => rfl
  have hw1 : IntKind.i64.wrap ((i : Int) + (m : Int)) = (i : Int) + (m : Int) := by rw [IntKind.wrap_i64]; omega
  have hb1 : (0 : Int) ≤ (i : Int) + (m : Int) := by omega
  have hin : i ≤ n := by omega
  have htn : ((i : Int) + (m : Int)).toNat = i + m := by omega
  have hb3 : (i : Int) ≤ (n : Int) := by omega
  clear hkk hik hold hROW hG hRl hRs hRt hcs hvs hN hNf hOb hOv hfit hfit2
  go_enter hf, Tryz.ntmps104
  go_wp2_with (first
    | (at_builtin; refine Lib.wpList_append_run _ rfl _ _ _ _ rfl _ _ rfl rfl _ _ (hrz _) ?_)
    | (at_builtin; refine wpList_copy_runI _ rfl _ _ 26 26 rfl _ _ rfl rfl (hcpA _ hE1 hE2 _ _) ?_)
    | (at_builtin; refine wpList_copy_runI _ rfl _ _ 26 26 rfl _ _ rfl rfl (hcpB _ (fun _ => rfl) (fun _ => rfl) _ _ _) ?_))
  go_region_law_o (refine step_copy_runI rfl _ _ 26 26 rfl (.slice (some ⟨w.heap.size, (i + m) * k, none⟩) (n + m - (i + m)) (G - (i + m))) (.slice (some ⟨b, i * k, none⟩) (n - i) (c - i)) (by simp [Act.eval, Act.put]) (by simp [Act.eval, Act.put]) (hcpB _ hF1 hF2 3 (G - (i + m)) (c - i)) ?_)
  go_wp2
  go_ret
  exact ⟨rfl, rfl⟩
theorem lay2 {A : Type} (C D vs cs : List A) (ik mk nk dk : Nat) (hC : C.take nk = cs) (hD : D = cs.drop ik) (hv : vs.length = mk) (hd : D.length = dk) (hi : ik ≤ nk) (hl : ik + mk + dk ≤ C.length) (hnk : nk ≤ C.length) :
    (((C.take (ik + mk) ++ D ++ C.drop (ik + mk + D.length)).take ik ++ vs ++ (C.take (ik + mk) ++ D ++ C.drop (ik + mk + D.length)).drop (ik + vs.length))).take (ik + mk + dk) = cs.take ik ++ vs ++ cs.drop ik := by
  have h1 : (C.take (ik + mk)).length = ik + mk := by rw [List.length_take]; omega
  have e1 : (C.take (ik + mk) ++ D ++ C.drop (ik + mk + D.length)).take ik = cs.take ik := by
    rw [List.append_assoc, List.take_append_of_le_length (by omega), List.take_take, Nat.min_eq_left (by omega), ← hC, List.take_take, Nat.min_eq_left hi]
  have e2 : (C.take (ik + mk) ++ D ++ C.drop (ik + mk + D.length)).drop (ik + vs.length) = D ++ C.drop (ik + mk + D.length) := by
    rw [List.append_assoc, hv, List.drop_append_of_le_length (by omega), List.drop_eq_nil_of_le (by omega), List.nil_append]
  rw [e1, e2, ← List.append_assoc, List.take_append_of_le_length, List.take_of_length_le, hD]
  · have : (cs.take ik).length = ik := by rw [List.length_take, ← hC, List.length_take]; omega
    simp only [List.length_append, this, hv, hd]
    omega
  · have : (cs.take ik).length = ik := by rw [List.length_take, ← hC, List.length_take]; omega
    simp only [List.length_append, this, hv, hd]
    omega
theorem lay3 {A : Type} (R D vs cs : List A) (ik mk nk dk : Nat) (hR : R.take ik = cs.take ik) (hcs : cs.length = nk) (hD : D = cs.drop ik) (hv : vs.length = mk) (hd : D.length = dk) (hi : ik ≤ nk) (hl : ik + mk + dk ≤ R.length) :
    ((R.take ik ++ vs ++ R.drop (ik + vs.length)).take (ik + mk) ++ D ++ (R.take ik ++ vs ++ R.drop (ik + vs.length)).drop (ik + mk + D.length)).take (ik + mk + dk) = cs.take ik ++ vs ++ cs.drop ik := by
  have h1 : (R.take ik).length = ik := by rw [List.length_take]; omega
  have h2 : (R.take ik ++ vs).length = ik + mk := by rw [List.length_append, h1, hv]
  have e1 : (R.take ik ++ vs ++ R.drop (ik + vs.length)).take (ik + mk) = cs.take ik ++ vs := by
    rw [List.take_append_of_le_length (by omega), List.take_of_length_le (by omega), hR]
  rw [e1, List.take_append_of_le_length, List.take_of_length_le, hD]
  · have : (cs.take ik).length = ik := by rw [← hR]; exact h1
    simp only [List.length_append, this, hv, hd]
    omega
  · have : (cs.take ik).length = ik := by rw [← hR]; exact h1
    simp only [List.length_append, this, hv, hd]
    omega
theorem at_block {w : World} {b n k : Nat} {cur : Array Value} {e : TypeId} {fz : Nat × Nat} {cs : List Value} (h : w.heap[b]? = some (.cells cur e fz)) (ht : cur.toList.take n = cs) : At w b 0 cs := by
  intro j v hj
  rw [Nat.zero_add]
  rw [← ht, List.getElem?_take] at hj
  split at hj
  · simp only [World.cell?, h]
    simpa using hj
  · cases hj
theorem walk {P : Program} {k : Nat} (hf : P.funcs[104]? = some Tryz.f104) (mixed : P.follows .mixedOrders = true) (t3 : P.underlying 3 = some (.int .i64)) (t4 : P.underlying 4 = some .bool) {ti : TI} (hg : Go.Abs.Good P 52 ti) (tS : P.underlying 26 = some (.slice 52))
    (hk : ti.siz = k) (hk0 : 0 < k) (hb : ti.byt ≤ 131072) (hza : ti.zer.t.alive = true)
    (hov0 : ∀ (w : World) (x y : Value), (callFunc 127 #[x, y]).run P w = Result.andThen ((Extern.SlicesOverlaps.overlaps #[26, 26] #[4] #[x, y]).run P w) (fun v w' => .ok (.value v) w')) : InsWalk P 104 52 k := by
  intro w L0 L1 n i m cs vs h0 h1 hne hi hm hfit hcl hvl h1c h1v
  have zE : ∀ w, (Go.sizeOf 52).run P w = .ok k w := fun w => by rw [← hk]; exact hg.size w
  obtain ⟨i0, hi0, hs0, hby0, hzz⟩ := hg.info
  obtain ⟨z, hz0, hzc, _⟩ := hzz hza
  have hsz : (P.info? 52).map (·.size) = some k := by rw [hi0]; simp [hs0, hk]
  -- what is laid in
  obtain ⟨g1, c1, cur1, e1, hb1, hcur1, htk1⟩ : ∃ g c cur, L1.hdr = .slice (some ⟨g, 0, none⟩) m c ∧ w.heap[g]? = some (.cells cur 52 (0, 0)) ∧ L1.loc = g ∧ cur.toList.take (m * k) = vs := by
    rcases h1 with ⟨ad, _, h, _⟩ | ⟨hb, _, ⟨h, h'⟩ | ⟨g, cap, cur, h, _, h2, _, _, _, h3⟩⟩
    · omega
    · omega
    · rw [h] at hb
      injection hb with hb
      exact ⟨g, cap, cur, h, h2, hb.symm, h3⟩
  have hvs : At w g1 0 vs := at_block (k := k) hb1 htk1
  have hy : (L1.hdr = .slice none 0 0 ∧ m = 0) ∨ ∃ ad c, L1.hdr = .slice ad m c ∧ (m = 0 ∨ ∃ b o, ad = some ⟨b, o, none⟩ ∧ At w b o vs) := .inr ⟨_, c1, e1, .inr ⟨g1, 0, rfl, hvs⟩⟩
  have atEnd' : ∀ (ad : Option Addr) (c : Nat), L0.hdr = .slice ad n c → n ≤ c → (ad = none → n = 0 ∧ c = 0) → i = n → Calls P 104 #[L0.hdr, .int .i64 i, L1.hdr] w fun e' w' => ∃ L', e' = .returned L'.hdr ∧ RowAt w' L' 52 k (n + m) (cs.take (i * k) ++ vs ++ cs.drop (i * k)) ∧ Grow (fun b => L0.hdr.ownBlock = some L0.loc ∧ b = L0.loc) w w' ∧
    (L'.hdr.ownBlock = some L'.loc → L'.loc < w'.heap.size ∧ ((L0.hdr.ownBlock = some L0.loc ∧ L'.loc = L0.loc) ∨ w.heap.size ≤ L'.loc)) ∧ L'.hdr.oneCell' = true := by
    intro ad c hh hnc hnil hin
    subst hin
    rw [← hk] at h0 hcl hvl
    have hra := fun ty => run_append (P := P) (ty := ty) tS hg (by omega) hb hza hcl h0 hy hvl h1v hfit
    obtain ⟨L, w', hr1, hr2, hr3, hr4, hr5⟩ := hra 26
    have hr1' : ∀ ty, (Builtin.append_ #[26, 26] ty #[.slice ad i c, .slice (some ⟨g1, 0, none⟩) m c1]).run P w = .ok L.hdr w' := fun ty => by
      rw [← hh, ← e1]
      exact hr1
    rw [hh, e1]
    refine Calls.mono (atEnd (k := k) hf mixed t3 t4 tS zE ad i c m c1 _ w w' L.hdr hm hnc hnil hr1') ?_
    rintro e' w'' ⟨rfl, rfl⟩
    rw [hk] at hr2 hcl
    rw [List.take_of_length_le (by omega), List.drop_eq_nil_of_le (by omega), List.append_nil]
    rw [hh] at hr3 hr4
    exact ⟨L, rfl, hr2, hr3, hr4, hr5⟩
  have h00 := h0
  rcases h0 with ⟨ad, hh, hn0, _⟩ | ⟨hob, hlen0, ⟨hh, hn0⟩ | ⟨g, cap, cur, hh, _, hcell, hnc, hcm, hcs, htk⟩⟩
  · subst hn0
    cases ad with
    | none => exact atEnd' none 0 hh (Nat.le_refl _) (fun _ => ⟨rfl, rfl⟩) (by omega)
    | some a => exact atEnd' (some a) 0 hh (Nat.le_refl _) (fun h => by cases h) (by omega)
  · rw [hh] at hob
    cases hob
  · by_cases hin : i = n
    · exact atEnd' _ cap hh hnc (fun h => by cases h) hin
    have hlt : i < n := by omega
    have hloc : L0.loc = g := by rw [hh] at hob; injection hob with hob; exact hob.symm
    have hcsat : At w g 0 cs := at_block (k := k) hcell htk
    have hgg : g1 ≠ g := by
      intro e
      refine hne hob (by rw [e1, hcur1]; rfl) ?_
      rw [hloc, hcur1, e]
    have hcurl : cur.toList.length = cap * k := by simpa using hcs
    have hik : i * k ≤ n * k := Nat.mul_le_mul_right k hi
    have hdl : (cs.drop (i * k)).length = (n - i) * k := by rw [List.length_drop, hcl, Nat.sub_mul]
    have hsum : i * k + m * k + (n - i) * k = (n + m) * k := by rw [← Nat.add_mul, ← Nat.add_mul]; congr 1; omega
    rw [hh, e1]
    by_cases hroom : n + m ≤ cap
    · refine Calls.mono (shift hf mixed t3 t4 tS zE hsz hov0 g n cap i g1 m c1 cs vs w hlt hm hroom (by unfold maxLen at hcm; omega) hgg hk0 hcell hb1 hcs hcl hvl hcsat hvs h1c h1v) ?_
      rintro e' w' ⟨rfl, rfl⟩
      have hle : (n + m) * k ≤ cap * k := Nat.mul_le_mul_right k hroom
      have hnk : n * k ≤ cap * k := Nat.mul_le_mul_right k hnc
      obtain ⟨c', q1, q2, q3⟩ := setCells_heap (b := g) (cs.drop (i * k)) ((i + m) * k) w.drew cur hcell (by rw [hdl, Nat.add_mul]; omega)
      obtain ⟨c'', r1, r2, r3⟩ := setCells_heap (b := g) vs (i * k) (w.drew.setCells g ((i + m) * k) (cs.drop (i * k))) c' q1 (by rw [q2, hcs, hvl]; omega)
      refine ⟨⟨g, .slice (some ⟨g, 0, none⟩) (n + m) cap⟩, rfl, .inr ⟨rfl, ?_, .inr ⟨g, cap, c'', rfl, Nat.zero_le _, r1, hroom, hcm, by rw [r2, q2, hcs], ?_⟩⟩, ?_, ?_, rfl⟩
      · rw [List.length_append, List.length_append, hdl, hvl, List.length_take, hcl, Nat.min_eq_left hik]; exact hsum
      · rw [r3, q3, Nat.add_mul i m k]
        have := lay2 cur.toList (cs.drop (i * k)) vs cs (i * k) (m * k) (n * k) ((n - i) * k) htk rfl hvl hdl hik (by rw [hcurl]; omega) (by rw [hcurl]; omega)
        rw [hsum] at this
        exact this
      · have hgr : Grow (fun x => x = g) w ((w.drew.setCells g ((i + m) * k) (cs.drop (i * k))).setCells g (i * k) vs) :=
          Grow.trans (b := w.drew) (Grow.drew w) (Grow.trans (setCells_grow g _ _ _) (setCells_grow g _ _ _) (fun _ _ h => h)) (fun _ _ h => h)
        exact ⟨hgr.os, hgr.tape, hgr.output, hgr.size, fun x hx hn => hgr.block x hx (fun e => hn ⟨by rw [← hh]; exact hob, by rw [hloc]; exact e⟩)⟩
      · intro _
        refine ⟨(Array.getElem?_eq_some_iff.1 r1).1, .inl ⟨by rw [← hh]; exact hob, hloc.symm⟩⟩
    · obtain ⟨ROW, G, hG1, hG2, hG3, hG4, hc⟩ := grow hf mixed t3 t4 tS zE hi0 hz0 (by rw [hs0, hk]) (by rw [hzc, hk]) (by rw [hby0]; exact hb) hk0 g n cap i g1 m c1 cs vs w hlt hm hnc (by omega) hfit hcl hvl hcsat hvs h1c h1v
      refine Calls.mono hc ?_
      rintro e' w' ⟨rfl, rfl⟩
      have hRl : ROW.toList.length = G * k := by simpa using hG3
      have hle : (n + m) * k ≤ G * k := Nat.mul_le_mul_right k hG1
      have hnew : (w.alloc (.cells ROW 52)).drew.heap[w.heap.size]? = some (.cells ROW 52 (0, 0)) := heap_alloc_new w _
      obtain ⟨c', q1, q2, q3⟩ := setCells_heap (b := w.heap.size) vs (i * k) (w.alloc (.cells ROW 52)).drew ROW hnew (by rw [hvl]; omega)
      obtain ⟨c'', r1, r2, r3⟩ := setCells_heap (b := w.heap.size) (cs.drop (i * k)) ((i + m) * k) ((w.alloc (.cells ROW 52)).drew.setCells w.heap.size (i * k) vs).drew c' q1 (by rw [q2, hG3, hdl, Nat.add_mul]; omega)
      refine ⟨⟨w.heap.size, .slice (some ⟨w.heap.size, 0, none⟩) (n + m) G⟩, rfl, .inr ⟨rfl, ?_, .inr ⟨w.heap.size, G, c'', rfl, Nat.zero_le _, r1, hG1, hG2, by rw [r2, q2, hG3], ?_⟩⟩, ?_, ?_, rfl⟩
      · rw [List.length_append, List.length_append, hdl, hvl, List.length_take, hcl, Nat.min_eq_left hik]; exact hsum
      · rw [r3, q3, Nat.add_mul i m k]
        have := lay3 ROW.toList (cs.drop (i * k)) vs cs (i * k) (m * k) (n * k) ((n - i) * k) hG4 hcl rfl hvl hdl hik (by rw [hRl]; omega)
        rw [hsum] at this
        exact this
      · have hgr : Grow (fun x => x = w.heap.size) w (((w.alloc (.cells ROW 52)).drew.setCells w.heap.size (i * k) vs).drew.setCells w.heap.size ((i + m) * k) (cs.drop (i * k))) :=
          Grow.trans (b := (w.alloc (.cells ROW 52)).drew) ⟨rfl, rfl, rfl, by simp, fun x hx _ => alloc_kept w _ x hx⟩
            (Grow.trans (setCells_grow _ _ _ _) (Grow.trans (Grow.drew _) (setCells_grow _ _ _ _) (fun _ _ h => h)) (fun _ _ h => h)) (fun _ _ h => h)
        exact ⟨hgr.os, hgr.tape, hgr.output, hgr.size, fun x hx hn => hgr.block x hx (fun e => by have : x = w.heap.size := e; omega)⟩
      · intro _
        exact ⟨(Array.getElem?_eq_some_iff.1 r1).1, .inr (Nat.le_refl _)⟩
end Go.Proofs.YtimgaglpempfeaaGreat.Ins104
set_option maxRecDepth 100000
namespace Go.Proofs.YtimgaglpempfeaaGreat.AB
open Go.Abs
/-- How many cells a thing of a type has. -/
abbrev WT (e : Nat) : Nat := match Abs.look TB e with
  | some i => i.ty.width
  | none => 0
theorem mixed : PP.follows .mixedOrders = true := by kernel_rfl
theorem tabOK : TabOK PP TB := tabIs_ok (by kernel_rfl)
theorem enters79 : Abs.Enters PP 79 := ⟨Tryz.f79, Tryz.func79, by kernel_rfl, names_ok (by kernel_rfl) _ _ Tryz.func79⟩
theorem walk79 : InsWalk PP 79 25 (WT 25) := Ins79.walk Tryz.func79 mixed Tryz.underlying3 Tryz.underlying4 (tabOK 25 _ rfl) Tryz.underlying24 rfl (by decide) (by decide) rfl fun w x y => run_callFunc_extern Tryz.func109 (by kernel_rfl) (by kernel_rfl) (by kernel_rfl) (e := Extern.SlicesOverlaps.overlaps #[24, 24] #[4]) (by kernel_rfl) #[x, y] w
theorem enters97 : Abs.Enters PP 97 := ⟨Tryz.f97, Tryz.func97, by kernel_rfl, names_ok (by kernel_rfl) _ _ Tryz.func97⟩
theorem walk97 : DelWalk PP 97 52 (WT 52) := Del97.walk Tryz.func97 mixed Tryz.underlying3 Tryz.underlying4 (tabOK 52 _ rfl) Tryz.underlying26 rfl (by decide) rfl rfl
theorem enters99 : Abs.Enters PP 99 := ⟨Tryz.f99, Tryz.func99, by kernel_rfl, names_ok (by kernel_rfl) _ _ Tryz.func99⟩
theorem walk99 : DelWalk PP 99 25 (WT 25) := Del99.walk Tryz.func99 mixed Tryz.underlying3 Tryz.underlying4 (tabOK 25 _ rfl) Tryz.underlying24 rfl (by decide) rfl rfl
theorem enters104 : Abs.Enters PP 104 := ⟨Tryz.f104, Tryz.func104, by kernel_rfl, names_ok (by kernel_rfl) _ _ Tryz.func104⟩
theorem walk104 : InsWalk PP 104 52 (WT 52) := Ins104.walk Tryz.func104 mixed Tryz.underlying3 Tryz.underlying4 (tabOK 52 _ rfl) Tryz.underlying26 rfl (by decide) (by decide) rfl fun w x y => run_callFunc_extern Tryz.func127 (by kernel_rfl) (by kernel_rfl) (by kernel_rfl) (e := Extern.SlicesOverlaps.overlaps #[26, 26] #[4]) (by kernel_rfl) #[x, y] w
theorem prims : PrimsOK PP RR := by
  intro f c hc
  unfold RR at hc
  by_cases h79 : f = 79
  · rw [if_pos h79] at hc
    injection hc with hc
    subst hc; subst h79
    exact insP_ok enters79 walk79
  rw [if_neg h79] at hc
  by_cases h104 : f = 104
  · rw [if_pos h104] at hc
    injection hc with hc
    subst hc; subst h104
    exact insP_ok enters104 walk104
  rw [if_neg h104] at hc
  by_cases h97 : f = 97
  · rw [if_pos h97] at hc
    injection hc with hc
    subst hc; subst h97
    exact delP_ok enters97 walk97
  rw [if_neg h97] at hc
  by_cases h99 : f = 99
  · rw [if_pos h99] at hc
    injection hc with hc
    subst hc; subst h99
    exact delP_ok enters99 walk99
  rw [if_neg h99] at hc
  cases hc
theorem fits : Fits PP TT RR := ⟨mixed, tabOK, names_ok (by kernel_rfl), prims⟩
end Go.Proofs.YtimgaglpempfeaaGreat.AB
set_option maxRecDepth 100000
set_option linter.unusedVariables false
namespace Go.Proofs.YtimgaglpempfeaaGreat.AB
open Go.Abs
noncomputable def law29_InnerPuts (a0 : den tboscagelaw29Case) : Option (den .bool) := CF 3 [⟨tboscagelaw29Case, a0⟩] [] .bool []
noncomputable def law29_InnerPuts.j0 (x0 : den (.int .i64)) (x1 : denO (.box tboscagelaw29Case)) (x2 : denO (.box tplanPlan)) : Option (den .bool) := jnO [1, 1, 1] (BF (R := den .bool) 3 0 [1, 1, 1]) ⟨[(1, ⟨(.ptr 0 0), ()⟩), (3, ⟨(.ptr 1 0), ()⟩), (4, ⟨(.int .i64), x0⟩)], [⟨(.box tboscagelaw29Case), x1⟩, ⟨(.box tplanPlan), x2⟩]⟩ (finF 3 .bool [] 0)
noncomputable def law29_InnerPuts.j1 (x0 : den (.int .i64)) (x1 : den .bool) (x2 : denO (.box tboscagelaw29Case)) (x3 : denO (.box tplanPlan)) (x4 : denO (.box tplanPlan)) : Option (den .bool) := jnO [1, 1, 1, 1] (BF (R := den .bool) 3 0 [1, 1, 1, 1]) ⟨[(1, ⟨(.ptr 0 0), ()⟩), (3, ⟨(.ptr 1 0), ()⟩), (4, ⟨(.int .i64), x0⟩), (5, ⟨(.ptr 2 0), ()⟩), (6, ⟨.bool, x1⟩)], [⟨(.box tboscagelaw29Case), x2⟩, ⟨(.box tplanPlan), x3⟩, ⟨(.box tplanPlan), x4⟩]⟩ (finF 3 .bool [] 0)
noncomputable def law29_InnerBinds (a0 : den tboscagelaw29Case) : Option (den .bool) := CF 4 [⟨tboscagelaw29Case, a0⟩] [] .bool []
noncomputable def law29_InnerBinds.j0 (x0 : den (.int .i64)) (x1 : denO (.box tboscagelaw29Case)) (x2 : denO (.box tplanPlan)) : Option (den .bool) := jnO [1, 1, 1, 1] (BF (R := den .bool) 4 0 [1, 1, 1, 1]) ⟨[(1, ⟨(.ptr 0 0), ()⟩), (3, ⟨(.ptr 1 0), ()⟩), (4, ⟨(.int .i64), x0⟩)], [⟨(.box tboscagelaw29Case), x1⟩, ⟨(.box tplanPlan), x2⟩]⟩ (finF 4 .bool [] 0)
noncomputable def law29_InnerBinds.j1 (x0 : den .bool) (x1 : denO (.box tboscagelaw29Case)) (x2 : denO (.box tplanPlan)) : Option (den .bool) := jnO [1, 1, 1, 1, 0, 1] (BF (R := den .bool) 4 0 [1, 1, 1, 1, 0, 1]) ⟨[(1, ⟨(.ptr 0 0), ()⟩), (3, ⟨(.ptr 1 0), ()⟩), (41, ⟨.bool, x0⟩)], [⟨(.box tboscagelaw29Case), x1⟩, ⟨(.box tplanPlan), x2⟩]⟩ (seqK false [1, 1, 1, 1, 1] (BF 4 0 [1, 1, 1, 1, 1]) (finF 4 .bool [] 0))
noncomputable def law29_InnerBinds.j2 (x0 : den .bool) (x1 : denO (.box tboscagelaw29Case)) : Option (den .bool) := jnO [1, 1, 1, 1, 0, 1, 0, 1, 1, 1] (BF (R := den .bool) 4 0 [1, 1, 1, 1, 0, 1, 0, 1, 1, 1]) ⟨[(1, ⟨(.ptr 0 0), ()⟩), (82, ⟨.bool, x0⟩)], [⟨(.box tboscagelaw29Case), x1⟩]⟩ (seqK false [1, 1, 1, 1, 1] (BF 4 0 [1, 1, 1, 1, 1]) (finF 4 .bool [] 0))
noncomputable def law29_InnerBinds.j3 (x0 : den .bool) (x1 : denO (.box tboscagelaw29Case)) : Option (den .bool) := jnO [1, 1, 1, 1, 1, 0, 1] (BF (R := den .bool) 4 0 [1, 1, 1, 1, 1, 0, 1]) ⟨[(1, ⟨(.ptr 0 0), ()⟩), (86, ⟨.bool, x0⟩)], [⟨(.box tboscagelaw29Case), x1⟩]⟩ (seqK false [1, 1, 1, 1, 1, 1] (BF 4 0 [1, 1, 1, 1, 1, 1]) (finF 4 .bool [] 0))
noncomputable def law29_InnerBinds.j4 (x0 : den (.int .i64)) (x1 : denO (.box tboscagelaw29Case)) (x2 : denO (.box tplanPlan)) : Option (den .bool) := jnO [1, 1, 1, 1, 1, 1, 1] (BF (R := den .bool) 4 0 [1, 1, 1, 1, 1, 1, 1]) ⟨[(1, ⟨(.ptr 0 0), ()⟩), (4, ⟨(.int .i64), x0⟩), (7, ⟨(.ptr 1 0), ()⟩)], [⟨(.box tboscagelaw29Case), x1⟩, ⟨(.box tplanPlan), x2⟩]⟩ (finF 4 .bool [] 0)
noncomputable def law29_InnerBinds.j5 (x0 : den (.int .i64)) (x1 : den (.int .i64)) (x2 : denO (.box tboscagelaw29Case)) (x3 : denO (.box tplanPlan)) (x4 : denO (.box tplanPlan)) : Option (den .bool) := jnO [1, 1, 1, 1, 1, 1, 1, 1] (BF (R := den .bool) 4 0 [1, 1, 1, 1, 1, 1, 1, 1]) ⟨[(1, ⟨(.ptr 0 0), ()⟩), (4, ⟨(.int .i64), x0⟩), (7, ⟨(.ptr 1 0), ()⟩), (8, ⟨(.ptr 2 0), ()⟩), (9, ⟨(.int .i64), x1⟩)], [⟨(.box tboscagelaw29Case), x2⟩, ⟨(.box tplanPlan), x3⟩, ⟨(.box tplanPlan), x4⟩]⟩ (finF 4 .bool [] 0)
noncomputable def law29_InnerBinds.j6 (x0 : den (.int .i64)) (x1 : den .bool) (x2 : denO (.box tboscagelaw29Case)) (x3 : denO (.box tplanPlan)) : Option (den .bool) := jnO [1, 1, 1, 1, 1, 1, 1, 1, 0, 1] (BF (R := den .bool) 4 0 [1, 1, 1, 1, 1, 1, 1, 1, 0, 1]) ⟨[(1, ⟨(.ptr 0 0), ()⟩), (8, ⟨(.ptr 1 0), ()⟩), (9, ⟨(.int .i64), x0⟩), (142, ⟨.bool, x1⟩)], [⟨(.box tboscagelaw29Case), x2⟩, ⟨(.box tplanPlan), x3⟩]⟩ (seqK false [1, 1, 1, 1, 1, 1, 1, 1, 1] (BF 4 0 [1, 1, 1, 1, 1, 1, 1, 1, 1]) (finF 4 .bool [] 0))
noncomputable def law29_few (a0 : den tboscagelaw29Case) : Option (den tboscagelaw29Case) := CF 5 [⟨tboscagelaw29Case, a0⟩] [] tboscagelaw29Case []
noncomputable def law29_few.l0 (x0 : den (.int .i64)) (x1 : denO (.box (.pair (.int .u16) (.pair (.int .u16) (.pair (.int .u16) (.pair (.int .i64) (.pair .str (.pair .str (.pair (.int .u32) (.pair (.own (.int .i64) 2) (.pair (.int .i64) (.pair (.list tapiPair) (.pair (.int .i64) (.pair (.int .i64) (.pair (.int .i64) (.pair .str (.pair .str (.pair (.int .u32) (.pair (.own (.int .i64) 3) (.pair (.int .i64) (.pair (.list tapiPair) (.pair (.int .i64) (.pair (.int .i64) (.pair (.int .i64) (.pair .str (.pair .str (.pair (.int .u32) (.pair (.own (.int .i64) 4) (.pair (.int .i64) (.pair (.list tapiPair) (.pair (.int .i64) (.pair (.int .i64) (.pair .str (.pair .str (.pair (.int .i64) (.pair (.int .i64) .unit)))))))))))))))))))))))))))))))))))) (x2 : denO (.box (.pair (.int .u16) (.pair (.int .u16) (.pair (.int .u16) (.pair (.int .i64) (.pair .str (.pair .str (.pair (.int .u32) (.pair (.own (.int .i64) 5) (.pair (.int .i64) (.pair (.own tapiPair 6) (.pair (.int .i64) (.pair (.int .i64) (.pair (.int .i64) (.pair .str (.pair .str (.pair (.int .u32) (.pair (.own (.int .i64) 7) (.pair (.int .i64) (.pair (.own tapiPair 8) (.pair (.int .i64) (.pair (.int .i64) (.pair (.int .i64) (.pair .str (.pair .str (.pair (.int .u32) (.pair (.own (.int .i64) 9) (.pair (.int .i64) (.pair (.own tapiPair 10) (.pair (.int .i64) (.pair (.int .i64) (.pair .str (.pair .str (.pair (.int .i64) (.pair (.int .i64) .unit)))))))))))))))))))))))))))))))))))) (x3 : denO (.row 25 (.int .i64) false)) (x4 : denO (.row 25 (.int .i64) false)) (x5 : denO (.row 25 (.int .i64) false)) (x6 : denO (.row 25 (.int .i64) false)) (x7 : denO (.row 52 tapiPair false)) (x8 : denO (.row 25 (.int .i64) false)) (x9 : denO (.row 52 tapiPair false)) (x10 : denO (.row 25 (.int .i64) false)) (x11 : denO (.row 52 tapiPair false)) : Option (den tboscagelaw29Case) := loopW [1, 1, 0, 1, 0, 0] (BF (R := den tboscagelaw29Case) 5 0 [1, 1, 0, 1, 0, 0]) ⟨[(1, ⟨(.ptr 0 0), ()⟩), (2, ⟨(.ptr 1 0), ()⟩), (3, ⟨(.int .i64), x0⟩)], [⟨(.box (.pair (.int .u16) (.pair (.int .u16) (.pair (.int .u16) (.pair (.int .i64) (.pair .str (.pair .str (.pair (.int .u32) (.pair (.own (.int .i64) 2) (.pair (.int .i64) (.pair (.list tapiPair) (.pair (.int .i64) (.pair (.int .i64) (.pair (.int .i64) (.pair .str (.pair .str (.pair (.int .u32) (.pair (.own (.int .i64) 3) (.pair (.int .i64) (.pair (.list tapiPair) (.pair (.int .i64) (.pair (.int .i64) (.pair (.int .i64) (.pair .str (.pair .str (.pair (.int .u32) (.pair (.own (.int .i64) 4) (.pair (.int .i64) (.pair (.list tapiPair) (.pair (.int .i64) (.pair (.int .i64) (.pair .str (.pair .str (.pair (.int .i64) (.pair (.int .i64) .unit))))))))))))))))))))))))))))))))))), x1⟩, ⟨(.box (.pair (.int .u16) (.pair (.int .u16) (.pair (.int .u16) (.pair (.int .i64) (.pair .str (.pair .str (.pair (.int .u32) (.pair (.own (.int .i64) 5) (.pair (.int .i64) (.pair (.own tapiPair 6) (.pair (.int .i64) (.pair (.int .i64) (.pair (.int .i64) (.pair .str (.pair .str (.pair (.int .u32) (.pair (.own (.int .i64) 7) (.pair (.int .i64) (.pair (.own tapiPair 8) (.pair (.int .i64) (.pair (.int .i64) (.pair (.int .i64) (.pair .str (.pair .str (.pair (.int .u32) (.pair (.own (.int .i64) 9) (.pair (.int .i64) (.pair (.own tapiPair 10) (.pair (.int .i64) (.pair (.int .i64) (.pair .str (.pair .str (.pair (.int .i64) (.pair (.int .i64) .unit))))))))))))))))))))))))))))))))))), x2⟩, ⟨(.row 25 (.int .i64) false), x3⟩, ⟨(.row 25 (.int .i64) false), x4⟩, ⟨(.row 25 (.int .i64) false), x5⟩, ⟨(.row 25 (.int .i64) false), x6⟩, ⟨(.row 52 tapiPair false), x7⟩, ⟨(.row 25 (.int .i64) false), x8⟩, ⟨(.row 52 tapiPair false), x9⟩, ⟨(.row 25 (.int .i64) false), x10⟩, ⟨(.row 52 tapiPair false), x11⟩]⟩ (blockK 0 (seqK false [1, 1, 1] (BF 5 0 [1, 1, 1]) (finF 5 tboscagelaw29Case [] 0)))
noncomputable def law29_ref1 (a0 : den (.int .u16)) : Option (den (.int .i64)) := CF 7 [⟨(.int .u16), a0⟩] [] (.int .i64) []
noncomputable def inner_Two (a0 : den (.int .i64)) (a1 : den tapiNode) (a2 : den .str) (a3 : den .str) (a4 : den (.int .i64)) (a5 : den (.int .i64)) : Option (den (.tcons tplanPlan (.tcons (.int .i64) .tnil))) := CF 6 [⟨(.int .i64), a0⟩, ⟨tapiNode, a1⟩, ⟨.str, a2⟩, ⟨.str, a3⟩, ⟨(.int .i64), a4⟩, ⟨(.int .i64), a5⟩] [] (.tcons tplanPlan (.tcons (.int .i64) .tnil)) []
noncomputable def ref29_Two (a0 : den (.int .i64)) (a1 : den tapiNode) (a2 : den .str) (a3 : den .str) (a4 : den (.int .i64)) (a5 : den (.int .i64)) : Option (den (.tcons tplanPlan (.tcons .bool .tnil))) := CF 8 [⟨(.int .i64), a0⟩, ⟨tapiNode, a1⟩, ⟨.str, a2⟩, ⟨.str, a3⟩, ⟨(.int .i64), a4⟩, ⟨(.int .i64), a5⟩] [] (.tcons tplanPlan (.tcons .bool .tnil)) []
noncomputable def ref29_Two.j0 (x0 : den (.int .i64)) (x1 : den .str) (x2 : den .str) (x3 : den (.int .i64)) (x4 : den (.int .i64)) (x5 : den .bool) (x6 : denO (.box tapiNode)) (x7 : denO (.box (.pair (.own tapiNode 2) (.pair (.int .i64) (.pair (.own (.int .i64) 3) .unit))))) (x8 : denO (.row 28 tapiNode false)) (x9 : denO (.row 25 (.int .i64) false)) : Option (den (.tcons tplanPlan (.tcons .bool .tnil))) := jnO [1, 0, 1] (BF (R := den (.tcons tplanPlan (.tcons .bool .tnil))) 8 0 [1, 0, 1]) ⟨[(0, ⟨(.int .i64), x0⟩), (2, ⟨.str, x1⟩), (3, ⟨.str, x2⟩), (4, ⟨(.int .i64), x3⟩), (5, ⟨(.int .i64), x4⟩), (7, ⟨(.ptr 0 0), ()⟩), (12, ⟨(.ptr 1 0), ()⟩), (24, ⟨.bool, x5⟩)], [⟨(.box tapiNode), x6⟩, ⟨(.box (.pair (.own tapiNode 2) (.pair (.int .i64) (.pair (.own (.int .i64) 3) .unit)))), x7⟩, ⟨(.row 28 tapiNode false), x8⟩, ⟨(.row 25 (.int .i64) false), x9⟩]⟩ (seqK false [1, 1] (BF 8 0 [1, 1]) (finF 8 (.tcons tplanPlan (.tcons .bool .tnil)) [] 0))
noncomputable def law29_told (a0 : den tplanPlan) (a1 : den (.int .i64)) (a2 : den tplanPlan) (a3 : den .bool) : Option (den .bool) := CF 9 [⟨tplanPlan, a0⟩, ⟨(.int .i64), a1⟩, ⟨tplanPlan, a2⟩, ⟨.bool, a3⟩] [] .bool []
noncomputable def law29_ref0 (a0 : den (.int .u16)) : Option (den (.int .i64)) := CF 11 [⟨(.int .u16), a0⟩] [] (.int .i64) []
noncomputable def inner_Put (a0 : den (.int .i64)) (a1 : den tapiNode) (a2 : den (.int .i64)) (a3 : den tapiNode) (a4 : den .str) (a5 : den .str) (a6 : den (.int .i64)) (a7 : den (.int .i64)) : Option (den (.tcons tplanPlan (.tcons (.int .i64) .tnil))) := CF 10 [⟨(.int .i64), a0⟩, ⟨tapiNode, a1⟩, ⟨(.int .i64), a2⟩, ⟨tapiNode, a3⟩, ⟨.str, a4⟩, ⟨.str, a5⟩, ⟨(.int .i64), a6⟩, ⟨(.int .i64), a7⟩] [] (.tcons tplanPlan (.tcons (.int .i64) .tnil)) []
noncomputable def inner_Put.j0 (x0 : den (.int .i64)) (x1 : den .str) (x2 : den .str) (x3 : den (.int .i64)) (x4 : den (.int .i64)) (x5 : den .bool) (x6 : denO (.box tapiNode)) (x7 : denO (.box tapiNode)) (x8 : denO (.box (.pair (.own tapiNode 4) (.pair (.int .i64) (.pair (.own (.int .i64) 5) .unit))))) (x9 : denO (.box (.pair (.nil 28) (.pair (.int .i64) (.pair (.own (.int .i64) 6) .unit))))) (x10 : denO (.row 28 tapiNode false)) (x11 : denO (.row 25 (.int .i64) false)) (x12 : denO (.row 25 (.int .i64) false)) : Option (den (.tcons tplanPlan (.tcons (.int .i64) .tnil))) := jnO [1, 1, 0, 0, 1, 1, 1] (BF (R := den (.tcons tplanPlan (.tcons (.int .i64) .tnil))) 10 0 [1, 1, 0, 0, 1, 1, 1]) ⟨[(2, ⟨(.int .i64), x0⟩), (4, ⟨.str, x1⟩), (5, ⟨.str, x2⟩), (6, ⟨(.int .i64), x3⟩), (7, ⟨(.int .i64), x4⟩), (9, ⟨(.ptr 0 0), ()⟩), (11, ⟨(.ptr 1 0), ()⟩), (16, ⟨(.ptr 2 0), ()⟩), (18, ⟨(.ptr 3 0), ()⟩), (41, ⟨.bool, x5⟩)], [⟨(.box tapiNode), x6⟩, ⟨(.box tapiNode), x7⟩, ⟨(.box (.pair (.own tapiNode 4) (.pair (.int .i64) (.pair (.own (.int .i64) 5) .unit)))), x8⟩, ⟨(.box (.pair (.nil 28) (.pair (.int .i64) (.pair (.own (.int .i64) 6) .unit)))), x9⟩, ⟨(.row 28 tapiNode false), x10⟩, ⟨(.row 25 (.int .i64) false), x11⟩, ⟨(.row 25 (.int .i64) false), x12⟩]⟩ (blockK 0 (seqK false [1, 1, 1] (BF 10 0 [1, 1, 1]) (finF 10 (.tcons tplanPlan (.tcons (.int .i64) .tnil)) [] 0)))
noncomputable def inner_Put.j1 (x0 : den (.int .i64)) (x1 : den .str) (x2 : den .str) (x3 : den (.int .i64)) (x4 : den (.int .i64)) (x5 : den .bool) (x6 : denO (.box tapiNode)) (x7 : denO (.box tapiNode)) (x8 : denO (.box (.pair (.own tapiNode 4) (.pair (.int .i64) (.pair (.own (.int .i64) 5) .unit))))) (x9 : denO (.box (.pair (.nil 28) (.pair (.int .i64) (.pair (.own (.int .i64) 6) .unit))))) (x10 : denO (.row 28 tapiNode false)) (x11 : denO (.row 25 (.int .i64) false)) (x12 : denO (.row 25 (.int .i64) false)) : Option (den (.tcons tplanPlan (.tcons (.int .i64) .tnil))) := jnO [1, 1, 1, 1, 0, 1] (BF (R := den (.tcons tplanPlan (.tcons (.int .i64) .tnil))) 10 0 [1, 1, 1, 1, 0, 1]) ⟨[(2, ⟨(.int .i64), x0⟩), (4, ⟨.str, x1⟩), (5, ⟨.str, x2⟩), (6, ⟨(.int .i64), x3⟩), (7, ⟨(.int .i64), x4⟩), (9, ⟨(.ptr 0 0), ()⟩), (11, ⟨(.ptr 1 0), ()⟩), (16, ⟨(.ptr 2 0), ()⟩), (18, ⟨(.ptr 3 0), ()⟩), (62, ⟨.bool, x5⟩)], [⟨(.box tapiNode), x6⟩, ⟨(.box tapiNode), x7⟩, ⟨(.box (.pair (.own tapiNode 4) (.pair (.int .i64) (.pair (.own (.int .i64) 5) .unit)))), x8⟩, ⟨(.box (.pair (.nil 28) (.pair (.int .i64) (.pair (.own (.int .i64) 6) .unit)))), x9⟩, ⟨(.row 28 tapiNode false), x10⟩, ⟨(.row 25 (.int .i64) false), x11⟩, ⟨(.row 25 (.int .i64) false), x12⟩]⟩ (seqK false [1, 1, 1, 1, 1] (BF 10 0 [1, 1, 1, 1, 1]) (finF 10 (.tcons tplanPlan (.tcons (.int .i64) .tnil)) [] 0))
noncomputable def ref29_Put (a0 : den (.int .i64)) (a1 : den tapiNode) (a2 : den (.int .i64)) (a3 : den tapiNode) (a4 : den .str) (a5 : den .str) (a6 : den (.int .i64)) (a7 : den (.int .i64)) : Option (den (.tcons tplanPlan (.tcons .bool .tnil))) := CF 12 [⟨(.int .i64), a0⟩, ⟨tapiNode, a1⟩, ⟨(.int .i64), a2⟩, ⟨tapiNode, a3⟩, ⟨.str, a4⟩, ⟨.str, a5⟩, ⟨(.int .i64), a6⟩, ⟨(.int .i64), a7⟩] [] (.tcons tplanPlan (.tcons .bool .tnil)) []
noncomputable def ref29_Put.j0 (x0 : den (.int .i64)) (x1 : den (.int .i64)) (x2 : den .str) (x3 : den .str) (x4 : den (.int .i64)) (x5 : den (.int .i64)) (x6 : den .bool) (x7 : denO (.box tapiNode)) (x8 : denO (.box tapiNode)) (x9 : denO (.box (.pair (.own tapiNode 3) (.pair (.int .i64) (.pair (.own (.int .i64) 4) .unit))))) (x10 : denO (.row 28 tapiNode false)) (x11 : denO (.row 25 (.int .i64) false)) : Option (den (.tcons tplanPlan (.tcons .bool .tnil))) := jnO [1, 1, 0, 1] (BF (R := den (.tcons tplanPlan (.tcons .bool .tnil))) 12 0 [1, 1, 0, 1]) ⟨[(0, ⟨(.int .i64), x0⟩), (2, ⟨(.int .i64), x1⟩), (4, ⟨.str, x2⟩), (5, ⟨.str, x3⟩), (6, ⟨(.int .i64), x4⟩), (7, ⟨(.int .i64), x5⟩), (9, ⟨(.ptr 0 0), ()⟩), (11, ⟨(.ptr 1 0), ()⟩), (16, ⟨(.ptr 2 0), ()⟩), (51, ⟨.bool, x6⟩)], [⟨(.box tapiNode), x7⟩, ⟨(.box tapiNode), x8⟩, ⟨(.box (.pair (.own tapiNode 3) (.pair (.int .i64) (.pair (.own (.int .i64) 4) .unit)))), x9⟩, ⟨(.row 28 tapiNode false), x10⟩, ⟨(.row 25 (.int .i64) false), x11⟩]⟩ (seqK false [1, 1, 1] (BF 12 0 [1, 1, 1]) (finF 12 (.tcons tplanPlan (.tcons .bool .tnil)) [] 0))
noncomputable def ref29_Put.j1 (x0 : den (.int .i64)) (x1 : den (.int .i64)) (x2 : den .str) (x3 : den .str) (x4 : den (.int .i64)) (x5 : den (.int .i64)) (x6 : den (.int .i64)) (x7 : den .bool) (x8 : denO (.box tapiNode)) (x9 : denO (.box (.pair (.own tapiNode 3) (.pair (.int .i64) (.pair (.own (.int .i64) 4) .unit))))) (x10 : denO (.box tboscageref19Branch)) (x11 : denO (.row 28 tapiNode false)) (x12 : denO (.row 25 (.int .i64) false)) : Option (den (.tcons tplanPlan (.tcons .bool .tnil))) := jnO [1, 1, 1, 1, 0, 1] (BF (R := den (.tcons tplanPlan (.tcons .bool .tnil))) 12 0 [1, 1, 1, 1, 0, 1]) ⟨[(0, ⟨(.int .i64), x0⟩), (2, ⟨(.int .i64), x1⟩), (4, ⟨.str, x2⟩), (5, ⟨.str, x3⟩), (6, ⟨(.int .i64), x4⟩), (7, ⟨(.int .i64), x5⟩), (11, ⟨(.ptr 0 0), ()⟩), (16, ⟨(.ptr 1 0), ()⟩), (19, ⟨(.ptr 2 0), ()⟩), (20, ⟨(.int .i64), x6⟩), (66, ⟨.bool, x7⟩)], [⟨(.box tapiNode), x8⟩, ⟨(.box (.pair (.own tapiNode 3) (.pair (.int .i64) (.pair (.own (.int .i64) 4) .unit)))), x9⟩, ⟨(.box tboscageref19Branch), x10⟩, ⟨(.row 28 tapiNode false), x11⟩, ⟨(.row 25 (.int .i64) false), x12⟩]⟩ (seqK false [1, 1, 1, 1, 1] (BF 12 0 [1, 1, 1, 1, 1]) (finF 12 (.tcons tplanPlan (.tcons .bool .tnil)) [] 0))
noncomputable def law29_works  : Option (den .bool) := CF 13 [] [] .bool []
noncomputable def base_Cut (a0 : den .str) (a1 : den (.int .i64)) : Option (den .str) := CF 14 [⟨.str, a0⟩, ⟨(.int .i64), a1⟩] [] .str []
noncomputable def ref13_May (a0 : den tapiNode) : Option (den (.int .i64)) := CF 15 [⟨tapiNode, a0⟩] [] (.int .i64) []
noncomputable def law29_below (a0 : den (.list tapiNode)) (a1 : den (.int .i64)) (a2 : den (.int .i64)) (a3 : den tapiNode) (a4 : den (.int .i64)) : Option (den (.list tapiPair)) := CF 16 [⟨(.list tapiNode), a0⟩, ⟨(.int .i64), a1⟩, ⟨(.int .i64), a2⟩, ⟨tapiNode, a3⟩, ⟨(.int .i64), a4⟩] [] (.list tapiPair) []
noncomputable def law29_below.j0 (x0 : den (.list tapiNode)) (x1 : den (.int .i64)) (x2 : den (.int .i64)) (x3 : den (.int .i64)) (x4 : den .bool) (x5 : denO (.box tapiNode)) (x6 : denO (.box (.pair (.int .i64) (.pair .str (.pair .str (.pair (.int .u32) (.pair (.nil 25) (.pair (.int .i64) (.pair (.nil 52) (.pair (.int .i64) (.pair (.int .i64) .unit))))))))))) : Option (den (.list tapiPair)) := jnO [1, 1, 0, 1] (BF (R := den (.list tapiPair)) 16 0 [1, 1, 0, 1]) ⟨[(0, ⟨(.list tapiNode), x0⟩), (1, ⟨(.int .i64), x1⟩), (2, ⟨(.int .i64), x2⟩), (4, ⟨(.int .i64), x3⟩), (8, ⟨(.ptr 0 0), ()⟩), (11, ⟨(.ptr 1 0), ()⟩), (24, ⟨.bool, x4⟩)], [⟨(.box tapiNode), x5⟩, ⟨(.box (.pair (.int .i64) (.pair .str (.pair .str (.pair (.int .u32) (.pair (.nil 25) (.pair (.int .i64) (.pair (.nil 52) (.pair (.int .i64) (.pair (.int .i64) .unit)))))))))), x6⟩]⟩ (seqK false [1, 1, 1] (BF 16 0 [1, 1, 1]) (finF 16 (.list tapiPair) [] 0))
noncomputable def law29_below.l1 (x0 : den (.list tapiNode)) (x1 : den (.int .i64)) (x2 : den (.int .i64)) (x3 : den (.list (.int .i64))) (x4 : den (.int .i64)) (x5 : denO (.box tapiNode)) (x6 : denO (.row 52 tapiPair false)) : Option (den (.list tapiPair)) := loopW [1, 1, 1, 1, 1, 1, 0, 1, 0, 0] (BF (R := den (.list tapiPair)) 16 0 [1, 1, 1, 1, 1, 1, 0, 1, 0, 0]) ⟨[(0, ⟨(.list tapiNode), x0⟩), (2, ⟨(.int .i64), x1⟩), (4, ⟨(.int .i64), x2⟩), (8, ⟨(.ptr 0 0), ()⟩), (12, ⟨(.own tapiPair 1), ()⟩), (13, ⟨(.list (.int .i64)), x3⟩), (14, ⟨(.int .i64), x4⟩)], [⟨(.box tapiNode), x5⟩, ⟨(.row 52 tapiPair false), x6⟩]⟩ (blockK 0 (seqK false [1, 1, 1, 1, 1, 1, 1] (BF 16 0 [1, 1, 1, 1, 1, 1, 1]) (finF 16 (.list tapiPair) [] 0)))
noncomputable def law29_below.j2 (x0 : den (.list tapiNode)) (x1 : den (.int .i64)) (x2 : den (.int .i64)) (x3 : den (.list (.int .i64))) (x4 : den (.int .i64)) (x5 : den .bool) (x6 : denO (.box tapiNode)) (x7 : denO (.row 52 tapiPair false)) : Option (den (.list tapiPair)) := jnO [1, 1, 1, 1, 1, 1, 0, 1, 0, 0, 0, 1] (BF (R := den (.list tapiPair)) 16 0 [1, 1, 1, 1, 1, 1, 0, 1, 0, 0, 0, 1]) ⟨[(0, ⟨(.list tapiNode), x0⟩), (2, ⟨(.int .i64), x1⟩), (4, ⟨(.int .i64), x2⟩), (8, ⟨(.ptr 0 0), ()⟩), (12, ⟨(.own tapiPair 1), ()⟩), (13, ⟨(.list (.int .i64)), x3⟩), (14, ⟨(.int .i64), x4⟩), (48, ⟨.bool, x5⟩)], [⟨(.box tapiNode), x6⟩, ⟨(.row 52 tapiPair false), x7⟩]⟩ (seqK false [1, 1, 1, 1, 1, 1, 0, 1, 0, 0, 1] (BF 16 0 [1, 1, 1, 1, 1, 1, 0, 1, 0, 0, 1]) (againK [1, 1, 1, 1, 1, 1, 0, 1, 0, 0] (loopW [1, 1, 1, 1, 1, 1, 0, 1, 0, 0] (BF 16 0 [1, 1, 1, 1, 1, 1, 0, 1, 0, 0])) (blockK 0 (seqK false [1, 1, 1, 1, 1, 1, 1] (BF 16 0 [1, 1, 1, 1, 1, 1, 1]) (finF 16 (.list tapiPair) [] 0)))))
noncomputable def ref07_Make (a0 : den (.list tapiPair)) : Option (den (.list tapiPair)) := CF 17 [⟨(.list tapiPair), a0⟩] [] (.list tapiPair) []
noncomputable def ref07_Make.l0 (x0 : den (.list tapiPair)) (x1 : den (.int .i64)) (x2 : denO (.row 52 tapiPair false)) : Option (den (.list tapiPair)) := loopW [1, 1, 0, 1, 0, 0] (BF (R := den (.list tapiPair)) 17 0 [1, 1, 0, 1, 0, 0]) ⟨[(0, ⟨(.list tapiPair), x0⟩), (3, ⟨(.own tapiPair 0), ()⟩), (4, ⟨(.int .i64), x1⟩)], [⟨(.row 52 tapiPair false), x2⟩]⟩ (blockK 0 (seqK false [1, 1, 1] (BF 17 0 [1, 1, 1]) (finF 17 (.list tapiPair) [] 0)))
noncomputable def ref07_Make.l1 (x0 : den (.list tapiPair)) (x1 : den (.int .i64)) (x2 : den (.int .i64)) (x3 : denO (.row 52 tapiPair false)) : Option (den (.list tapiPair)) := loopW [1, 1, 0, 1, 0, 0, 1, 0, 0, 1, 1, 0, 0, 0] (BF (R := den (.list tapiPair)) 17 0 [1, 1, 0, 1, 0, 0, 1, 0, 0, 1, 1, 0, 0, 0]) ⟨[(0, ⟨(.list tapiPair), x0⟩), (3, ⟨(.own tapiPair 0), ()⟩), (4, ⟨(.int .i64), x1⟩), (5, ⟨(.int .i64), x2⟩)], [⟨(.row 52 tapiPair false), x3⟩]⟩ (blockK 2 (seqK false [1, 1, 0, 1, 0, 0, 1, 0, 0, 1, 1, 1] (BF 17 0 [1, 1, 0, 1, 0, 0, 1, 0, 0, 1, 1, 1]) (blockK 1 (seqK false [1, 1, 0, 1, 0, 0, 1, 1] (BF 17 0 [1, 1, 0, 1, 0, 0, 1, 1]) (againK [1, 1, 0, 1, 0, 0] (loopW [1, 1, 0, 1, 0, 0] (BF 17 0 [1, 1, 0, 1, 0, 0])) (blockK 0 (seqK false [1, 1, 1] (BF 17 0 [1, 1, 1]) (finF 17 (.list tapiPair) [] 0))))))))
noncomputable def ref07_Make.j2 (x0 : den (.list tapiPair)) (x1 : den (.int .i64)) (x2 : den (.int .i64)) (x3 : den .bool) (x4 : denO (.row 52 tapiPair false)) : Option (den (.list tapiPair)) := jnO [1, 1, 0, 1, 0, 0, 1, 0, 0, 1, 1, 0, 0, 0, 0, 1] (BF (R := den (.list tapiPair)) 17 0 [1, 1, 0, 1, 0, 0, 1, 0, 0, 1, 1, 0, 0, 0, 0, 1]) ⟨[(0, ⟨(.list tapiPair), x0⟩), (3, ⟨(.own tapiPair 0), ()⟩), (4, ⟨(.int .i64), x1⟩), (5, ⟨(.int .i64), x2⟩), (33, ⟨.bool, x3⟩)], [⟨(.row 52 tapiPair false), x4⟩]⟩ (seqK false [1, 1, 0, 1, 0, 0, 1, 0, 0, 1, 1, 0, 0, 0, 1] (BF 17 0 [1, 1, 0, 1, 0, 0, 1, 0, 0, 1, 1, 0, 0, 0, 1]) (againK [1, 1, 0, 1, 0, 0, 1, 0, 0, 1, 1, 0, 0, 0] (loopW [1, 1, 0, 1, 0, 0, 1, 0, 0, 1, 1, 0, 0, 0] (BF 17 0 [1, 1, 0, 1, 0, 0, 1, 0, 0, 1, 1, 0, 0, 0])) (blockK 2 (seqK false [1, 1, 0, 1, 0, 0, 1, 0, 0, 1, 1, 1] (BF 17 0 [1, 1, 0, 1, 0, 0, 1, 0, 0, 1, 1, 1]) (blockK 1 (seqK false [1, 1, 0, 1, 0, 0, 1, 1] (BF 17 0 [1, 1, 0, 1, 0, 0, 1, 1]) (againK [1, 1, 0, 1, 0, 0] (loopW [1, 1, 0, 1, 0, 0] (BF 17 0 [1, 1, 0, 1, 0, 0])) (blockK 0 (seqK false [1, 1, 1] (BF 17 0 [1, 1, 1]) (finF 17 (.list tapiPair) [] 0))))))))))
noncomputable def ref07_Same (a0 : den (.list tapiPair)) (a1 : den (.list tapiPair)) : Option (den .bool) := CF 18 [⟨(.list tapiPair), a0⟩, ⟨(.list tapiPair), a1⟩] [] .bool []
noncomputable def ref07_Same.l0 (x0 : den (.list tapiPair)) (x1 : den (.list tapiPair)) (x2 : den (.int .i64)) : Option (den .bool) := loopW [1, 1, 0, 1, 0, 0] (BF (R := den .bool) 18 0 [1, 1, 0, 1, 0, 0]) ⟨[(0, ⟨(.list tapiPair), x0⟩), (1, ⟨(.list tapiPair), x1⟩), (5, ⟨(.int .i64), x2⟩)], []⟩ (blockK 0 (seqK false [1, 1, 1] (BF 18 0 [1, 1, 1]) (finF 18 .bool [] 0)))
noncomputable def plan_May (a0 : den tplanPlan) : Option (den (.int .i64)) := CF 19 [⟨tplanPlan, a0⟩] [] (.int .i64) []
noncomputable def plan_May.l0 (x0 : den (.list tapiNode)) (x1 : den (.int .i64)) (x2 : den (.int .i64)) (x3 : denO (.box tplanPlan)) : Option (den (.int .i64)) := loopW [1, 0, 1, 0, 0] (BF (R := den (.int .i64)) 19 0 [1, 0, 1, 0, 0]) ⟨[(1, ⟨(.ptr 0 0), ()⟩), (6, ⟨(.list tapiNode), x0⟩), (7, ⟨(.int .i64), x1⟩), (8, ⟨(.int .i64), x2⟩)], [⟨(.box tplanPlan), x3⟩]⟩ (blockK 0 (seqK false [1, 1] (BF 19 0 [1, 1]) (finF 19 (.int .i64) [] 0)))
noncomputable def inner_Drop (a0 : den (.int .i64)) (a1 : den tapiNode) (a2 : den (.int .i64)) (a3 : den tapiNode) (a4 : den tapiNode) (a5 : den .str) (a6 : den (.int .i64)) (a7 : den (.int .i64)) : Option (den (.tcons tplanPlan (.tcons (.int .i64) .tnil))) := CF 20 [⟨(.int .i64), a0⟩, ⟨tapiNode, a1⟩, ⟨(.int .i64), a2⟩, ⟨tapiNode, a3⟩, ⟨tapiNode, a4⟩, ⟨.str, a5⟩, ⟨(.int .i64), a6⟩, ⟨(.int .i64), a7⟩] [] (.tcons tplanPlan (.tcons (.int .i64) .tnil)) []
noncomputable def inner_Drop.j0 (x0 : den (.int .i64)) (x1 : den .str) (x2 : den (.int .i64)) (x3 : den (.int .i64)) (x4 : den .bool) (x5 : denO (.box tapiNode)) (x6 : denO (.box tapiNode)) (x7 : denO (.box (.pair (.own tapiNode 4) (.pair (.int .i64) (.pair (.own (.int .i64) 5) .unit))))) (x8 : denO (.box (.pair (.nil 28) (.pair (.int .i64) (.pair (.own (.int .i64) 6) .unit))))) (x9 : denO (.row 28 tapiNode false)) (x10 : denO (.row 25 (.int .i64) false)) (x11 : denO (.row 25 (.int .i64) false)) : Option (den (.tcons tplanPlan (.tcons (.int .i64) .tnil))) := jnO [1, 1, 1, 0, 1] (BF (R := den (.tcons tplanPlan (.tcons (.int .i64) .tnil))) 20 0 [1, 1, 1, 0, 1]) ⟨[(2, ⟨(.int .i64), x0⟩), (5, ⟨.str, x1⟩), (6, ⟨(.int .i64), x2⟩), (7, ⟨(.int .i64), x3⟩), (9, ⟨(.ptr 0 0), ()⟩), (12, ⟨(.ptr 1 0), ()⟩), (16, ⟨(.ptr 2 0), ()⟩), (18, ⟨(.ptr 3 0), ()⟩), (89, ⟨.bool, x4⟩)], [⟨(.box tapiNode), x5⟩, ⟨(.box tapiNode), x6⟩, ⟨(.box (.pair (.own tapiNode 4) (.pair (.int .i64) (.pair (.own (.int .i64) 5) .unit)))), x7⟩, ⟨(.box (.pair (.nil 28) (.pair (.int .i64) (.pair (.own (.int .i64) 6) .unit)))), x8⟩, ⟨(.row 28 tapiNode false), x9⟩, ⟨(.row 25 (.int .i64) false), x10⟩, ⟨(.row 25 (.int .i64) false), x11⟩]⟩ (seqK false [1, 1, 1, 1] (BF 20 0 [1, 1, 1, 1]) (finF 20 (.tcons tplanPlan (.tcons (.int .i64) .tnil)) [] 0))
noncomputable def inner_Drop.j1 (x0 : den .str) (x1 : den (.int .i64)) (x2 : den (.int .i64)) (x3 : den (.int .i64)) (x4 : den .bool) (x5 : denO (.box tapiNode)) (x6 : denO (.box tapiNode)) (x7 : denO (.box (.pair (.own tapiNode 4) (.pair (.int .i64) (.pair (.own (.int .i64) 5) .unit))))) (x8 : denO (.box (.pair (.nil 28) (.pair (.int .i64) (.pair (.own (.int .i64) 6) .unit))))) (x9 : denO (.row 28 tapiNode false)) (x10 : denO (.row 25 (.int .i64) false)) (x11 : denO (.row 25 (.int .i64) false)) : Option (den (.tcons tplanPlan (.tcons (.int .i64) .tnil))) := jnO [1, 1, 1, 1, 1, 0, 1, 1] (BF (R := den (.tcons tplanPlan (.tcons (.int .i64) .tnil))) 20 0 [1, 1, 1, 1, 1, 0, 1, 1]) ⟨[(5, ⟨.str, x0⟩), (6, ⟨(.int .i64), x1⟩), (7, ⟨(.int .i64), x2⟩), (9, ⟨(.ptr 0 0), ()⟩), (12, ⟨(.ptr 1 0), ()⟩), (16, ⟨(.ptr 2 0), ()⟩), (18, ⟨(.ptr 3 0), ()⟩), (22, ⟨(.int .i64), x3⟩), (108, ⟨.bool, x4⟩)], [⟨(.box tapiNode), x5⟩, ⟨(.box tapiNode), x6⟩, ⟨(.box (.pair (.own tapiNode 4) (.pair (.int .i64) (.pair (.own (.int .i64) 5) .unit)))), x7⟩, ⟨(.box (.pair (.nil 28) (.pair (.int .i64) (.pair (.own (.int .i64) 6) .unit)))), x8⟩, ⟨(.row 28 tapiNode false), x9⟩, ⟨(.row 25 (.int .i64) false), x10⟩, ⟨(.row 25 (.int .i64) false), x11⟩]⟩ (seqK false [1, 1, 1, 1, 1, 1] (BF 20 0 [1, 1, 1, 1, 1, 1]) (finF 20 (.tcons tplanPlan (.tcons (.int .i64) .tnil)) [] 0))
noncomputable def ref13_Binds (a0 : den tapiNode) : Option (den (.list tapiPair)) := CF 21 [⟨tapiNode, a0⟩] [] (.list tapiPair) []
noncomputable def ref07_Put (a0 : den (.list tapiPair)) (a1 : den .str) (a2 : den .str) : Option (den (.list tapiPair)) := CF 22 [⟨(.list tapiPair), a0⟩, ⟨.str, a1⟩, ⟨.str, a2⟩] [] (.list tapiPair) []
noncomputable def ref07_Drop (a0 : den (.list tapiPair)) (a1 : den .str) : Option (den (.list tapiPair)) := CF 23 [⟨(.list tapiPair), a0⟩, ⟨.str, a1⟩] [] (.list tapiPair) []
noncomputable def ref07_Drop.l0 (x0 : den .str) (x1 : den (.list tapiPair)) (x2 : den (.int .i64)) (x3 : denO (.row 52 tapiPair false)) : Option (den (.list tapiPair)) := loopW [1, 1, 0, 1, 0, 0] (BF (R := den (.list tapiPair)) 23 0 [1, 1, 0, 1, 0, 0]) ⟨[(1, ⟨.str, x0⟩), (5, ⟨(.list tapiPair), x1⟩), (6, ⟨(.own tapiPair 0), ()⟩), (7, ⟨(.int .i64), x2⟩)], [⟨(.row 52 tapiPair false), x3⟩]⟩ (blockK 0 (seqK false [1, 1, 1] (BF 23 0 [1, 1, 1]) (finF 23 (.list tapiPair) [] 0)))
noncomputable def law13_Few (a0 : den tapiNode) : Option (denR (.pair (.int .i64) (.pair .str (.pair .str (.pair (.int .u32) (.pair (.own (.int .i64) 0) (.pair (.int .i64) (.pair (.list tapiPair) (.pair (.int .i64) (.pair (.int .i64) .unit))))))))) [(.row 25 (.int .i64) false)]) := CF 24 [⟨tapiNode, a0⟩] [] (.pair (.int .i64) (.pair .str (.pair .str (.pair (.int .u32) (.pair (.own (.int .i64) 0) (.pair (.int .i64) (.pair (.list tapiPair) (.pair (.int .i64) (.pair (.int .i64) .unit))))))))) [(.row 25 (.int .i64) false)]
noncomputable def inner_two (a0 : den (.pair (.nil 28) (.pair (.int .i64) (.pair (.nil 25) .unit)))) (a1 : den (.int .i64)) (a2 : den tapiNode) (a3 : den .str) (a4 : den .str) (a5 : den (.int .i64)) (a6 : den (.int .i64)) : Option (denR (.tcons (.pair (.own tapiNode 0) (.pair (.int .i64) (.pair (.own (.int .i64) 1) .unit))) (.tcons (.int .i64) (.tcons .bool .tnil))) [(.row 28 tapiNode false), (.row 25 (.int .i64) false)]) := CF 25 [⟨(.pair (.nil 28) (.pair (.int .i64) (.pair (.nil 25) .unit))), a0⟩, ⟨(.int .i64), a1⟩, ⟨tapiNode, a2⟩, ⟨.str, a3⟩, ⟨.str, a4⟩, ⟨(.int .i64), a5⟩, ⟨(.int .i64), a6⟩] [] (.tcons (.pair (.own tapiNode 0) (.pair (.int .i64) (.pair (.own (.int .i64) 1) .unit))) (.tcons (.int .i64) (.tcons .bool .tnil))) [(.row 28 tapiNode false), (.row 25 (.int .i64) false)]
noncomputable def ref29_At (a0 : den (.int .i64)) (a1 : den (.int .i64)) : Option (den (.int .i64)) := CF 27 [⟨(.int .i64), a0⟩, ⟨(.int .i64), a1⟩] [] (.int .i64) []
noncomputable def ref29_two (a0 : den (.int .i64)) (a1 : den tapiNode) (a2 : den .str) (a3 : den .str) (a4 : den (.int .i64)) (a5 : den (.int .i64)) : Option (denR (.tcons (.own tapiNode 0) (.tcons .bool .tnil)) [(.row 28 tapiNode false)]) := CF 26 [⟨(.nil 0), ()⟩, ⟨(.int .i64), a0⟩, ⟨tapiNode, a1⟩, ⟨.str, a2⟩, ⟨.str, a3⟩, ⟨(.int .i64), a4⟩, ⟨(.int .i64), a5⟩] [] (.tcons (.own tapiNode 0) (.tcons .bool .tnil)) [(.row 28 tapiNode false)]
noncomputable def ref29_plan1 (a0 : den (.list tapiNode)) (a1 : den (.list (.int .i64))) : Option (den tplanPlan) := CF 28 [⟨(.list tapiNode), a0⟩, ⟨(.list (.int .i64)), a1⟩] [] tplanPlan []
noncomputable def law18_Back (a0 : den tplanPlan) : Option (den tplanPlan) := CF 30 [⟨tplanPlan, a0⟩] [] tplanPlan []
noncomputable def ref29_Same (a0 : den tplanPlan) (a1 : den tplanPlan) : Option (den .bool) := CF 29 [⟨tplanPlan, a0⟩, ⟨tplanPlan, a1⟩] [] .bool []
noncomputable def ref29_Same.l0 (x0 : den (.int .i64)) (x1 : denO (.box tplanPlan)) (x2 : denO (.box tplanPlan)) : Option (den .bool) := loopW [1, 1, 0, 1, 0, 0] (BF (R := den .bool) 29 0 [1, 1, 0, 1, 0, 0]) ⟨[(2, ⟨(.ptr 0 0), ()⟩), (3, ⟨(.ptr 1 0), ()⟩), (5, ⟨(.int .i64), x0⟩)], [⟨(.box tplanPlan), x1⟩, ⟨(.box tplanPlan), x2⟩]⟩ (blockK 0 (seqK false [1, 1, 1] (BF 29 0 [1, 1, 1]) (finF 29 .bool [] 0)))
noncomputable def node_Binds (a0 : den tapiNode) : Option (denR (.own tapiPair 0) [(.row 52 tapiPair false)]) := CF 34 [⟨tapiNode, a0⟩] [] (.own tapiPair 0) [(.row 52 tapiPair false)]
noncomputable def pair_Put (a0 : den (.list tapiPair)) (a1 : den .str) (a2 : den .str) : Option (den (.list tapiPair)) := CF 33 [⟨(.list tapiPair), a0⟩, ⟨.str, a1⟩, ⟨.str, a2⟩] [] (.list tapiPair) []
noncomputable def node_Bucket (a0 : den (.list tapiPair)) : Option (den tapiNode) := CF 32 [⟨(.list tapiPair), a0⟩] [] tapiNode []
noncomputable def plan_Add (a0 : den (.pair (.nil 28) (.pair (.int .i64) (.pair (.own (.int .i64) 0) .unit)))) (a1 : den tapiNode) (a2 : denO (.row 25 (.int .i64) true)) : Option (denR (.tcons (.pair (.own tapiNode 1) (.pair (.int .i64) (.pair (.own (.int .i64) 0) .unit))) (.tcons (.int .i64) .tnil)) [(.row 25 (.int .i64) false), (.row 28 tapiNode false)]) := CF 31 [⟨(.pair (.nil 28) (.pair (.int .i64) (.pair (.own (.int .i64) 0) .unit))), a0⟩, ⟨tapiNode, a1⟩] [⟨(.row 25 (.int .i64) true), a2⟩] (.tcons (.pair (.own tapiNode 1) (.pair (.int .i64) (.pair (.own (.int .i64) 0) .unit))) (.tcons (.int .i64) .tnil)) [(.row 25 (.int .i64) false), (.row 28 tapiNode false)]
noncomputable def node_Leaf (a0 : den .str) (a1 : den .str) : Option (den tapiNode) := CF 35 [⟨.str, a0⟩, ⟨.str, a1⟩] [] tapiNode []
noncomputable def inner_bare (a0 : den tapiNode) : Option (den tapiNode) := CF 39 [⟨tapiNode, a0⟩] [] tapiNode []
noncomputable def inner_chunk (a0 : den .str) (a1 : den (.int .i64)) (a2 : den (.int .i64)) : Option (den (.int .i64)) := CF 40 [⟨.str, a0⟩, ⟨(.int .i64), a1⟩, ⟨(.int .i64), a2⟩] [] (.int .i64) []
noncomputable def branch_With (a0 : den tapiNode) (a1 : den (.int .i64)) (a2 : den (.int .i64)) : Option (den tapiNode) := CF 38 [⟨tapiNode, a0⟩, ⟨(.int .i64), a1⟩, ⟨(.int .i64), a2⟩] [] tapiNode []
noncomputable def branch_With.j0 (x0 : den (.int .i64)) (x1 : den (.int .u32)) (x2 : den (.int .i64)) (x3 : den .bool) (x4 : denO (.box (.pair (.int .i64) (.pair .str (.pair .str (.pair (.int .u32) (.pair (.own (.int .i64) 2) (.pair (.int .i64) (.pair (.own tapiPair 3) (.pair (.int .i64) (.pair (.int .i64) .unit))))))))))) (x5 : denO (.box (.pair (.int .i64) (.pair .str (.pair .str (.pair (.int .u32) (.pair (.own (.int .i64) 4) (.pair (.int .i64) (.pair (.own tapiPair 5) (.pair (.int .i64) (.pair (.int .i64) .unit))))))))))) (x6 : denO (.row 25 (.int .i64) false)) (x7 : denO (.row 52 tapiPair false)) (x8 : denO (.row 25 (.int .i64) false)) (x9 : denO (.row 52 tapiPair false)) : Option (den tapiNode) := jnO [1, 1, 1, 1, 0, 0, 1] (BF (R := den tapiNode) 38 0 [1, 1, 1, 1, 0, 0, 1]) ⟨[(2, ⟨(.int .i64), x0⟩), (6, ⟨(.ptr 0 0), ()⟩), (7, ⟨(.ptr 1 0), ()⟩), (8, ⟨(.int .u32), x1⟩), (9, ⟨(.int .i64), x2⟩), (26, ⟨.bool, x3⟩)], [⟨(.box (.pair (.int .i64) (.pair .str (.pair .str (.pair (.int .u32) (.pair (.own (.int .i64) 2) (.pair (.int .i64) (.pair (.own tapiPair 3) (.pair (.int .i64) (.pair (.int .i64) .unit)))))))))), x4⟩, ⟨(.box (.pair (.int .i64) (.pair .str (.pair .str (.pair (.int .u32) (.pair (.own (.int .i64) 4) (.pair (.int .i64) (.pair (.own tapiPair 5) (.pair (.int .i64) (.pair (.int .i64) .unit)))))))))), x5⟩, ⟨(.row 25 (.int .i64) false), x6⟩, ⟨(.row 52 tapiPair false), x7⟩, ⟨(.row 25 (.int .i64) false), x8⟩, ⟨(.row 52 tapiPair false), x9⟩]⟩ (blockK 0 (seqK false [1, 1, 1, 1, 1] (BF 38 0 [1, 1, 1, 1, 1]) (finF 38 tapiNode [] 0)))
noncomputable def plan_Add_v1 (a0 : den (.pair (.own tapiNode 0) (.pair (.int .i64) (.pair (.own (.int .i64) 1) .unit)))) (a1 : den tapiNode) (a2 : denO (.row 28 tapiNode true)) (a3 : denO (.row 25 (.int .i64) true)) : Option (denR (.tcons (.pair (.own tapiNode 2) (.pair (.int .i64) (.pair (.own (.int .i64) 1) .unit))) (.tcons (.int .i64) .tnil)) [.gone, (.row 25 (.int .i64) false), (.row 28 tapiNode false)]) := CF 31 [⟨(.pair (.own tapiNode 0) (.pair (.int .i64) (.pair (.own (.int .i64) 1) .unit))), a0⟩, ⟨tapiNode, a1⟩] [⟨(.row 28 tapiNode true), a2⟩, ⟨(.row 25 (.int .i64) true), a3⟩] (.tcons (.pair (.own tapiNode 2) (.pair (.int .i64) (.pair (.own (.int .i64) 1) .unit))) (.tcons (.int .i64) .tnil)) [.gone, (.row 25 (.int .i64) false), (.row 28 tapiNode false)]
noncomputable def inner_at (a0 : den (.int .i64)) (a1 : den (.int .i64)) : Option (den (.int .i64)) := CF 36 [⟨(.int .i64), a0⟩, ⟨(.int .i64), a1⟩] [] (.int .i64) []
noncomputable def inner_two_v1 (a0 : den (.pair (.nil 28) (.pair (.int .i64) (.pair (.own (.int .i64) 0) .unit)))) (a1 : den (.int .i64)) (a2 : den tapiNode) (a3 : den .str) (a4 : den .str) (a5 : den (.int .i64)) (a6 : den (.int .i64)) (a7 : denO (.row 25 (.int .i64) true)) : Option (denR (.tcons (.pair (.own tapiNode 1) (.pair (.int .i64) (.pair (.own (.int .i64) 0) .unit))) (.tcons (.int .i64) (.tcons .bool .tnil))) [(.row 25 (.int .i64) false), (.row 28 tapiNode false)]) := CF 25 [⟨(.pair (.nil 28) (.pair (.int .i64) (.pair (.own (.int .i64) 0) .unit))), a0⟩, ⟨(.int .i64), a1⟩, ⟨tapiNode, a2⟩, ⟨.str, a3⟩, ⟨.str, a4⟩, ⟨(.int .i64), a5⟩, ⟨(.int .i64), a6⟩] [⟨(.row 25 (.int .i64) true), a7⟩] (.tcons (.pair (.own tapiNode 1) (.pair (.int .i64) (.pair (.own (.int .i64) 0) .unit))) (.tcons (.int .i64) (.tcons .bool .tnil))) [(.row 25 (.int .i64) false), (.row 28 tapiNode false)]
noncomputable def node_Inner (a0 : den (.int .i64)) : Option (den tapiNode) := CF 37 [⟨(.int .i64), a0⟩] [] tapiNode []
noncomputable def ref19_Of (a0 : den tapiNode) : Option (den tboscageref19Branch) := CF 41 [⟨tapiNode, a0⟩] [] tboscageref19Branch []
noncomputable def ref19_Of.l0 (x0 : den (.list (.int .i64))) (x1 : den (.int .i64)) (x2 : denO (.box tapiNode)) (x3 : denO (.box tboscageref19Branch)) (x4 : denO (.box tboscageref19Branch)) : Option (den tboscageref19Branch) := loopW [1, 1, 1, 1, 0, 1, 0, 0] (BF (R := den tboscageref19Branch) 41 0 [1, 1, 1, 1, 0, 1, 0, 0]) ⟨[(1, ⟨(.ptr 0 0), ()⟩), (2, ⟨(.ptr 1 0), ()⟩), (3, ⟨(.ptr 2 0), ()⟩), (4, ⟨(.list (.int .i64)), x0⟩), (5, ⟨(.int .i64), x1⟩)], [⟨(.box tapiNode), x2⟩, ⟨(.box tboscageref19Branch), x3⟩, ⟨(.box tboscageref19Branch), x4⟩]⟩ (blockK 0 (seqK false [1, 1, 1, 1, 1] (BF 41 0 [1, 1, 1, 1, 1]) (finF 41 tboscageref19Branch [] 0)))
noncomputable def ref29_chunk (a0 : den .str) (a1 : den (.int .i64)) (a2 : den (.int .i64)) : Option (den (.int .i64)) := CF 42 [⟨.str, a0⟩, ⟨(.int .i64), a1⟩, ⟨(.int .i64), a2⟩] [] (.int .i64) []
noncomputable def ref19_Branch_Put (a0 : den tboscageref19Branch) (a1 : den (.int .i64)) (a2 : den (.int .i64)) : Option (den tboscageref19Branch) := CF 44 [⟨tboscageref19Branch, a0⟩, ⟨(.int .i64), a1⟩, ⟨(.int .i64), a2⟩] [] tboscageref19Branch []
noncomputable def ref29_made (a0 : den tboscageref19Branch) : Option (den tapiNode) := CF 43 [⟨tboscageref19Branch, a0⟩] [] tapiNode []
noncomputable def node_Branch_o (a0 : den (.int .u32)) (a1 : den (.list (.int .i64))) (a2 : den (.int .i64)) : Option (denR (.pair (.int .i64) (.pair .str (.pair .str (.pair (.int .u32) (.pair (.own (.int .i64) 0) (.pair (.int .i64) (.pair (.own tapiPair 1) (.pair (.int .i64) (.pair (.int .i64) .unit))))))))) [(.row 25 (.int .i64) false), (.row 52 tapiPair false)]) := CF 45 [⟨(.int .u32), a0⟩, ⟨(.list (.int .i64)), a1⟩, ⟨(.int .i64), a2⟩] [] (.pair (.int .i64) (.pair .str (.pair .str (.pair (.int .u32) (.pair (.own (.int .i64) 0) (.pair (.int .i64) (.pair (.own tapiPair 1) (.pair (.int .i64) (.pair (.int .i64) .unit))))))))) [(.row 25 (.int .i64) false), (.row 52 tapiPair false)]
noncomputable def ref13_long (a0 : den tapiNode) : Option (den .bool) := CF 46 [⟨tapiNode, a0⟩] [] .bool []
noncomputable def ref13_long.l0 (x0 : den .bool) (x1 : den (.int .i64)) (x2 : denO (.box tapiNode)) : Option (den .bool) := loopW [1, 1, 0, 1, 0, 0] (BF (R := den .bool) 46 0 [1, 1, 0, 1, 0, 0]) ⟨[(1, ⟨(.ptr 0 0), ()⟩), (3, ⟨.bool, x0⟩), (4, ⟨(.int .i64), x1⟩)], [⟨(.box tapiNode), x2⟩]⟩ (blockK 0 (seqK false [1, 1, 1] (BF 46 0 [1, 1, 1]) (finF 46 .bool [] 0)))
noncomputable def ref13_form (a0 : den tapiNode) : Option (den .bool) := CF 47 [⟨tapiNode, a0⟩] [] .bool []
noncomputable def ref13_form.j0 (x0 : den (.int .i64)) (x1 : den .bool) (x2 : denO (.box tapiNode)) : Option (den .bool) := jnO [1, 1, 0, 1, 0, 1] (BF (R := den .bool) 47 0 [1, 1, 0, 1, 0, 1]) ⟨[(1, ⟨(.ptr 0 0), ()⟩), (8, ⟨(.int .i64), x0⟩), (9, ⟨.bool, x1⟩)], [⟨(.box tapiNode), x2⟩]⟩ (blockK 0 (seqK false [1, 1, 1] (BF 47 0 [1, 1, 1]) (finF 47 .bool [] 0)))
noncomputable def ref13_form.l1 (x0 : den (.int .i64)) (x1 : denO (.box tapiNode)) : Option (den .bool) := loopW [1, 1, 0, 1, 0, 1, 1, 1, 0, 0, 1, 0, 0] (BF (R := den .bool) 47 0 [1, 1, 0, 1, 0, 1, 1, 1, 0, 0, 1, 0, 0]) ⟨[(1, ⟨(.ptr 0 0), ()⟩), (3, ⟨(.int .i64), x0⟩)], [⟨(.box tapiNode), x1⟩]⟩ (blockK 1 (seqK false [1, 1, 0, 1, 0, 1, 1, 1, 0, 1] (BF 47 0 [1, 1, 0, 1, 0, 1, 1, 1, 0, 1]) (blockK 0 (seqK false [1, 1, 1] (BF 47 0 [1, 1, 1]) (finF 47 .bool [] 0)))))
noncomputable def ref13_Refs (a0 : den tapiNode) : Option (den (.list (.int .i64))) := CF 48 [⟨tapiNode, a0⟩] [] (.list (.int .i64)) []
noncomputable def ref13_Refs.l0 (x0 : den (.int .i64)) (x1 : denO (.box tapiNode)) (x2 : denO (.row 25 (.int .i64) false)) : Option (den (.list (.int .i64))) := loopW [1, 1, 0, 1, 0, 0] (BF (R := den (.list (.int .i64))) 48 0 [1, 1, 0, 1, 0, 0]) ⟨[(1, ⟨(.ptr 0 0), ()⟩), (3, ⟨(.own (.int .i64) 1), ()⟩), (4, ⟨(.int .i64), x0⟩)], [⟨(.box tapiNode), x1⟩, ⟨(.row 25 (.int .i64) false), x2⟩]⟩ (blockK 0 (seqK false [1, 1, 1] (BF 48 0 [1, 1, 1]) (finF 48 (.list (.int .i64)) [] 0)))
noncomputable def ref07_last (a0 : den (.list tapiPair)) (a1 : den (.int .i64)) : Option (den .bool) := CF 49 [⟨(.list tapiPair), a0⟩, ⟨(.int .i64), a1⟩] [] .bool []
noncomputable def ref07_last.l0 (x0 : den (.list tapiPair)) (x1 : den (.int .i64)) (x2 : den (.int .i64)) : Option (den .bool) := loopW [1, 0, 1, 0, 0] (BF (R := den .bool) 49 0 [1, 0, 1, 0, 0]) ⟨[(0, ⟨(.list tapiPair), x0⟩), (1, ⟨(.int .i64), x1⟩), (5, ⟨(.int .i64), x2⟩)], []⟩ (blockK 0 (seqK false [1, 1] (BF 49 0 [1, 1]) (finF 49 .bool [] 0)))
noncomputable def ref01_Less (a0 : den .str) (a1 : den .str) : Option (den .bool) := CF 50 [⟨.str, a0⟩, ⟨.str, a1⟩] [] .bool []
noncomputable def ref01_Less.l0 (x0 : den .str) (x1 : den .str) (x2 : den (.int .i64)) : Option (den .bool) := loopW [1, 0, 1, 0, 0] (BF (R := den .bool) 50 0 [1, 0, 1, 0, 0]) ⟨[(0, ⟨.str, x0⟩), (1, ⟨.str, x1⟩), (5, ⟨(.int .i64), x2⟩)], []⟩ (blockK 0 (seqK false [1, 1] (BF 50 0 [1, 1]) (finF 50 .bool [] 0)))
noncomputable def ref01_Less.j1 (x0 : den .str) (x1 : den .str) (x2 : den (.int .i64)) (x3 : den .bool) : Option (den .bool) := jnO [1, 0, 1, 0, 0, 0, 1] (BF (R := den .bool) 50 0 [1, 0, 1, 0, 0, 0, 1]) ⟨[(0, ⟨.str, x0⟩), (1, ⟨.str, x1⟩), (5, ⟨(.int .i64), x2⟩), (15, ⟨.bool, x3⟩)], []⟩ (seqK false [1, 0, 1, 0, 0, 1] (BF 50 0 [1, 0, 1, 0, 0, 1]) (againK [1, 0, 1, 0, 0] (loopW [1, 0, 1, 0, 0] (BF 50 0 [1, 0, 1, 0, 0])) (blockK 0 (seqK false [1, 1] (BF 50 0 [1, 1]) (finF 50 .bool [] 0)))))
noncomputable def node_May (a0 : den tapiNode) : Option (den (.int .i64)) := CF 51 [⟨tapiNode, a0⟩] [] (.int .i64) []
noncomputable def node_Refs (a0 : den tapiNode) : Option (den (.list (.int .i64))) := CF 53 [⟨tapiNode, a0⟩] [] (.list (.int .i64)) []
noncomputable def node_Refs.l0 (x0 : den (.int .i64)) (x1 : den (.int .i64)) (x2 : denO (.row 25 (.int .i64) false)) (x3 : denO (.row 25 (.int .i64) false)) : Option (den (.list (.int .i64))) := loopW [1, 1, 0, 1, 0, 0] (BF (R := den (.list (.int .i64))) 53 0 [1, 1, 0, 1, 0, 0]) ⟨[(3, ⟨(.own (.int .i64) 0), ()⟩), (12, ⟨(.own (.int .i64) 1), ()⟩), (13, ⟨(.int .i64), x0⟩), (14, ⟨(.int .i64), x1⟩)], [⟨(.row 25 (.int .i64) false), x2⟩, ⟨(.row 25 (.int .i64) false), x3⟩]⟩ (blockK 0 (seqK false [1, 1, 1] (BF 53 0 [1, 1, 1]) (finF 53 (.list (.int .i64)) [] 0)))
noncomputable def slices_ContainsFuncapi_Ref_api_Ref (a0 : den (.list (.int .i64))) (a1 : den (.fn 54 (.tcons (.ptr 0 0) .tnil))) (a2 : denO (.box (.int .i64))) : Option (denR .bool [(.box (.int .i64))]) := CF 52 [⟨(.list (.int .i64)), a0⟩, ⟨(.fn 54 (.tcons (.ptr 0 0) .tnil)), a1⟩] [⟨(.box (.int .i64)), a2⟩] .bool [(.box (.int .i64))]
noncomputable def plan_ahead (a0 : den (.int .i64)) (a1 : den (.int .i64)) : Option (den .bool) := CF 55 [⟨(.int .i64), a0⟩, ⟨(.int .i64), a1⟩] [] .bool []
noncomputable def slices_ContainsFuncapi_Ref_api_Ref_v1 (a0 : den (.list (.int .i64))) : Option (den .bool) := CF 52 [⟨(.list (.int .i64)), a0⟩, ⟨(.fn 56 .tnil), ()⟩] [] .bool []
noncomputable def pair_Drop (a0 : den (.list tapiPair)) (a1 : den .str) : Option (den (.list tapiPair)) := CF 57 [⟨(.list tapiPair), a0⟩, ⟨.str, a1⟩] [] (.list tapiPair) []
noncomputable def pair_Get (a0 : den (.list tapiPair)) (a1 : den .str) : Option (den (.tcons .str (.tcons .bool .tnil))) := CF 58 [⟨(.list tapiPair), a0⟩, ⟨.str, a1⟩] [] (.tcons .str (.tcons .bool .tnil)) []
noncomputable def node_Tomb (a0 : den .str) (a1 : den .str) : Option (den tapiNode) := CF 59 [⟨.str, a0⟩, ⟨.str, a1⟩] [] tapiNode []
noncomputable def inner_Beside (a0 : den tapiNode) (a1 : den .str) (a2 : den (.int .i64)) (a3 : den (.int .i64)) : Option (den (.int .i64)) := CF 60 [⟨tapiNode, a0⟩, ⟨.str, a1⟩, ⟨(.int .i64), a2⟩, ⟨(.int .i64), a3⟩] [] (.int .i64) []
noncomputable def branch_Without (a0 : den tapiNode) (a1 : den (.int .i64)) : Option (den tapiNode) := CF 61 [⟨tapiNode, a0⟩, ⟨(.int .i64), a1⟩] [] tapiNode []
noncomputable def law07_Few (a0 : den (.list tapiPair)) : Option (den (.list tapiPair)) := CF 62 [⟨(.list tapiPair), a0⟩] [] (.list tapiPair) []
noncomputable def law07_Few.l0 (x0 : den (.list tapiPair)) (x1 : den (.int .i64)) (x2 : denO (.row 52 tapiPair false)) : Option (den (.list tapiPair)) := loopW [1, 1, 0, 1, 0, 0] (BF (R := den (.list tapiPair)) 62 0 [1, 1, 0, 1, 0, 0]) ⟨[(0, ⟨(.list tapiPair), x0⟩), (3, ⟨(.own tapiPair 0), ()⟩), (4, ⟨(.int .i64), x1⟩)], [⟨(.row 52 tapiPair false), x2⟩]⟩ (blockK 0 (seqK false [1, 1, 1] (BF 62 0 [1, 1, 1]) (finF 62 (.list tapiPair) [] 0)))
noncomputable def law07_Few.j1 (x0 : den (.list tapiPair)) (x1 : den (.int .i64)) (x2 : den .bool) (x3 : denO (.row 52 tapiPair false)) : Option (den (.list tapiPair)) := jnO [1, 1, 0, 1, 0, 0, 0, 1] (BF (R := den (.list tapiPair)) 62 0 [1, 1, 0, 1, 0, 0, 0, 1]) ⟨[(0, ⟨(.list tapiPair), x0⟩), (3, ⟨(.own tapiPair 0), ()⟩), (4, ⟨(.int .i64), x1⟩), (13, ⟨.bool, x2⟩)], [⟨(.row 52 tapiPair false), x3⟩]⟩ (seqK false [1, 1, 0, 1, 0, 0, 1] (BF 62 0 [1, 1, 0, 1, 0, 0, 1]) (againK [1, 1, 0, 1, 0, 0] (loopW [1, 1, 0, 1, 0, 0] (BF 62 0 [1, 1, 0, 1, 0, 0])) (blockK 0 (seqK false [1, 1, 1] (BF 62 0 [1, 1, 1]) (finF 62 (.list tapiPair) [] 0)))))
noncomputable def inner_two_2 (a0 : den (.int .i64)) (a1 : denO (.box (.int .i64))) (a2 : denO (.box .bool)) (a3 : denO (.box (.fn 63 (.tcons (.ptr 8 0) .tnil)))) (a4 : denO (.box tapiNode)) (a5 : denO (.box .str)) (a6 : denO (.box .str)) (a7 : denO (.box (.fn 64 (.tcons (.ptr 0 0) (.tcons (.ptr 1 0) (.tcons (.ptr 2 0) (.tcons (.ptr 3 0) (.tcons (.ptr 4 0) (.tcons (.ptr 5 0) (.tcons (.ptr 6 0) (.tcons (.ptr 7 0) .tnil))))))))))) (a8 : denO (.box (.int .i64))) (a9 : denO (.box (.pair (.own tapiNode 9) (.pair (.int .i64) (.pair (.own (.int .i64) 10) .unit))))) (a10 : denO (.row 28 tapiNode true)) (a11 : denO (.row 25 (.int .i64) true)) : Option (denR (.int .i64) [(.box (.int .i64)), (.box .bool), (.box (.fn 63 (.tcons (.ptr 8 0) .tnil))), (.box tapiNode), (.box .str), (.box .str), (.box (.fn 64 (.tcons (.ptr 0 0) (.tcons (.ptr 1 0) (.tcons (.ptr 2 0) (.tcons (.ptr 3 0) (.tcons (.ptr 4 0) (.tcons (.ptr 5 0) (.tcons (.ptr 6 0) (.tcons (.ptr 7 0) .tnil)))))))))), (.box (.int .i64)), (.box (.pair (.own tapiNode 11) (.pair (.int .i64) (.pair (.own (.int .i64) 10) .unit)))), .gone, (.row 25 (.int .i64) false), (.row 28 tapiNode false)]) := CF 64 [⟨(.int .i64), a0⟩, ⟨(.ptr 0 0), ()⟩, ⟨(.ptr 1 0), ()⟩, ⟨(.ptr 2 0), ()⟩, ⟨(.ptr 3 0), ()⟩, ⟨(.ptr 4 0), ()⟩, ⟨(.ptr 5 0), ()⟩, ⟨(.ptr 6 0), ()⟩, ⟨(.ptr 7 0), ()⟩] [⟨(.box (.int .i64)), a1⟩, ⟨(.box .bool), a2⟩, ⟨(.box (.fn 63 (.tcons (.ptr 8 0) .tnil))), a3⟩, ⟨(.box tapiNode), a4⟩, ⟨(.box .str), a5⟩, ⟨(.box .str), a6⟩, ⟨(.box (.fn 64 (.tcons (.ptr 0 0) (.tcons (.ptr 1 0) (.tcons (.ptr 2 0) (.tcons (.ptr 3 0) (.tcons (.ptr 4 0) (.tcons (.ptr 5 0) (.tcons (.ptr 6 0) (.tcons (.ptr 7 0) .tnil)))))))))), a7⟩, ⟨(.box (.int .i64)), a8⟩, ⟨(.box (.pair (.own tapiNode 9) (.pair (.int .i64) (.pair (.own (.int .i64) 10) .unit)))), a9⟩, ⟨(.row 28 tapiNode true), a10⟩, ⟨(.row 25 (.int .i64) true), a11⟩] (.int .i64) [(.box (.int .i64)), (.box .bool), (.box (.fn 63 (.tcons (.ptr 8 0) .tnil))), (.box tapiNode), (.box .str), (.box .str), (.box (.fn 64 (.tcons (.ptr 0 0) (.tcons (.ptr 1 0) (.tcons (.ptr 2 0) (.tcons (.ptr 3 0) (.tcons (.ptr 4 0) (.tcons (.ptr 5 0) (.tcons (.ptr 6 0) (.tcons (.ptr 7 0) .tnil)))))))))), (.box (.int .i64)), (.box (.pair (.own tapiNode 11) (.pair (.int .i64) (.pair (.own (.int .i64) 10) .unit)))), .gone, (.row 25 (.int .i64) false), (.row 28 tapiNode false)]
noncomputable def inner_two_2.j0 (x0 : den (.int .i64)) (x1 : den (.int .i64)) (x2 : denO (.box (.int .i64))) (x3 : denO (.box .bool)) (x4 : denO (.box (.fn 63 (.tcons (.ptr 8 0) .tnil)))) (x5 : denO (.box tapiNode)) (x6 : denO (.box .str)) (x7 : denO (.box .str)) (x8 : denO (.box (.fn 64 (.tcons (.ptr 0 0) (.tcons (.ptr 1 0) (.tcons (.ptr 2 0) (.tcons (.ptr 3 0) (.tcons (.ptr 4 0) (.tcons (.ptr 5 0) (.tcons (.ptr 6 0) (.tcons (.ptr 7 0) .tnil))))))))))) (x9 : denO (.box (.int .i64))) (x10 : denO (.box (.pair (.own tapiNode 11) (.pair (.int .i64) (.pair (.own (.int .i64) 10) .unit))))) (x11 : denO (.row 25 (.int .i64) false)) (x12 : denO (.row 28 tapiNode false)) : Option (denR (.int .i64) [(.box (.int .i64)), (.box .bool), (.box (.fn 63 (.tcons (.ptr 8 0) .tnil))), (.box tapiNode), (.box .str), (.box .str), (.box (.fn 64 (.tcons (.ptr 0 0) (.tcons (.ptr 1 0) (.tcons (.ptr 2 0) (.tcons (.ptr 3 0) (.tcons (.ptr 4 0) (.tcons (.ptr 5 0) (.tcons (.ptr 6 0) (.tcons (.ptr 7 0) .tnil)))))))))), (.box (.int .i64)), (.box (.pair (.own tapiNode 11) (.pair (.int .i64) (.pair (.own (.int .i64) 10) .unit)))), .gone, (.row 25 (.int .i64) false), (.row 28 tapiNode false)]) := jnO [1, 1, 1, 0, 1, 0, 1] (BF (R := denR (.int .i64) [(.box (.int .i64)), (.box .bool), (.box (.fn 63 (.tcons (.ptr 8 0) .tnil))), (.box tapiNode), (.box .str), (.box .str), (.box (.fn 64 (.tcons (.ptr 0 0) (.tcons (.ptr 1 0) (.tcons (.ptr 2 0) (.tcons (.ptr 3 0) (.tcons (.ptr 4 0) (.tcons (.ptr 5 0) (.tcons (.ptr 6 0) (.tcons (.ptr 7 0) .tnil)))))))))), (.box (.int .i64)), (.box (.pair (.own tapiNode 11) (.pair (.int .i64) (.pair (.own (.int .i64) 10) .unit)))), .gone, (.row 25 (.int .i64) false), (.row 28 tapiNode false)]) 64 11 [1, 1, 1, 0, 1, 0, 1]) ⟨[(3, ⟨(.ptr 2 0), ()⟩), (11, ⟨(.int .i64), x0⟩), (13, ⟨(.int .i64), x1⟩)], [⟨(.box (.int .i64)), x2⟩, ⟨(.box .bool), x3⟩, ⟨(.box (.fn 63 (.tcons (.ptr 8 0) .tnil))), x4⟩, ⟨(.box tapiNode), x5⟩, ⟨(.box .str), x6⟩, ⟨(.box .str), x7⟩, ⟨(.box (.fn 64 (.tcons (.ptr 0 0) (.tcons (.ptr 1 0) (.tcons (.ptr 2 0) (.tcons (.ptr 3 0) (.tcons (.ptr 4 0) (.tcons (.ptr 5 0) (.tcons (.ptr 6 0) (.tcons (.ptr 7 0) .tnil)))))))))), x8⟩, ⟨(.box (.int .i64)), x9⟩, ⟨(.box (.pair (.own tapiNode 11) (.pair (.int .i64) (.pair (.own (.int .i64) 10) .unit)))), x10⟩, ⟨.gone, ()⟩, ⟨(.row 25 (.int .i64) false), x11⟩, ⟨(.row 28 tapiNode false), x12⟩]⟩ (seqK false [1, 1, 1, 1] (BF 64 11 [1, 1, 1, 1]) (finF 64 (.int .i64) [(.box (.int .i64)), (.box .bool), (.box (.fn 63 (.tcons (.ptr 8 0) .tnil))), (.box tapiNode), (.box .str), (.box .str), (.box (.fn 64 (.tcons (.ptr 0 0) (.tcons (.ptr 1 0) (.tcons (.ptr 2 0) (.tcons (.ptr 3 0) (.tcons (.ptr 4 0) (.tcons (.ptr 5 0) (.tcons (.ptr 6 0) (.tcons (.ptr 7 0) .tnil)))))))))), (.box (.int .i64)), (.box (.pair (.own tapiNode 11) (.pair (.int .i64) (.pair (.own (.int .i64) 10) .unit)))), .gone, (.row 25 (.int .i64) false), (.row 28 tapiNode false)] 11))
noncomputable def ref04_Levels (a0 : den (.int .i64)) : Option (den (.int .i64)) := CF 66 [⟨(.int .i64), a0⟩] [] (.int .i64) []
noncomputable def ref04_Levels.l0 (x0 : den (.int .i64)) (x1 : den (.int .i64)) : Option (den (.int .i64)) := loopW [1, 1, 0, 0, 0] (BF (R := den (.int .i64)) 66 0 [1, 1, 0, 0, 0]) ⟨[(0, ⟨(.int .i64), x0⟩), (3, ⟨(.int .i64), x1⟩)], []⟩ (blockK 0 (seqK false [1, 1, 1] (BF 66 0 [1, 1, 1]) (finF 66 (.int .i64) [] 0)))
noncomputable def ref18_SameHeap (a0 : den (.list tapiNode)) (a1 : den (.list tapiNode)) : Option (den .bool) := CF 67 [⟨(.list tapiNode), a0⟩, ⟨(.list tapiNode), a1⟩] [] .bool []
noncomputable def ref18_SameHeap.l0 (x0 : den (.list tapiNode)) (x1 : den (.list tapiNode)) (x2 : den (.int .i64)) : Option (den .bool) := loopW [1, 1, 0, 1, 0, 0] (BF (R := den .bool) 67 0 [1, 1, 0, 1, 0, 0]) ⟨[(0, ⟨(.list tapiNode), x0⟩), (1, ⟨(.list tapiNode), x1⟩), (5, ⟨(.int .i64), x2⟩)], []⟩ (blockK 0 (seqK false [1, 1, 1] (BF 67 0 [1, 1, 1]) (finF 67 .bool [] 0)))
noncomputable def slices_Cloneapi_Pair_api_Pair (a0 : den (.list tapiPair)) : Option (denR (.own tapiPair 0) [(.row 52 tapiPair false)]) := CF 74 [⟨(.list tapiPair), a0⟩] [] (.own tapiPair 0) [(.row 52 tapiPair false)]
noncomputable def pair_ordered (a0 : den (.list tapiPair)) : Option (den (.list tapiPair)) := CF 73 [⟨(.list tapiPair), a0⟩] [] (.list tapiPair) []
noncomputable def pair_put (a0 : den (.list tapiPair)) (a1 : den tapiPair) : Option (denR (.own tapiPair 0) [(.row 52 tapiPair false)]) := CF 72 [⟨(.list tapiPair), a0⟩, ⟨tapiPair, a1⟩] [] (.own tapiPair 0) [(.row 52 tapiPair false)]
noncomputable def pair_Make (a0 : den (.list tapiPair)) : Option (den (.list tapiPair)) := CF 71 [⟨(.list tapiPair), a0⟩] [] (.list tapiPair) []
noncomputable def pair_Make.l0 (x0 : den (.list tapiPair)) (x1 : den (.int .i64)) (x2 : den (.int .i64)) (x3 : denO (.row 52 tapiPair false)) : Option (den (.list tapiPair)) := loopW [1, 1, 0, 1, 0, 0] (BF (R := den (.list tapiPair)) 71 0 [1, 1, 0, 1, 0, 0]) ⟨[(3, ⟨(.own tapiPair 0), ()⟩), (6, ⟨(.list tapiPair), x0⟩), (7, ⟨(.int .i64), x1⟩), (8, ⟨(.int .i64), x2⟩)], [⟨(.row 52 tapiPair false), x3⟩]⟩ (blockK 0 (seqK false [1, 1, 1] (BF 71 0 [1, 1, 1]) (finF 71 (.list tapiPair) [] 0)))
noncomputable def slices_Cloneapi_Node_api_Node (a0 : den (.list tapiNode)) : Option (denR (.own tapiNode 0) [(.row 28 tapiNode false)]) := CF 68 [⟨(.list tapiNode), a0⟩] [] (.own tapiNode 0) [(.row 28 tapiNode false)]
noncomputable def node_Copy (a0 : den tapiNode) : Option (denR (.pair (.int .i64) (.pair .str (.pair .str (.pair (.int .u32) (.pair (.own (.int .i64) 0) (.pair (.int .i64) (.pair (.own tapiPair 1) (.pair (.int .i64) (.pair (.int .i64) .unit))))))))) [(.row 25 (.int .i64) false), (.row 52 tapiPair false)]) := CF 69 [⟨tapiNode, a0⟩] [] (.pair (.int .i64) (.pair .str (.pair .str (.pair (.int .u32) (.pair (.own (.int .i64) 0) (.pair (.int .i64) (.pair (.own tapiPair 1) (.pair (.int .i64) (.pair (.int .i64) .unit))))))))) [(.row 25 (.int .i64) false), (.row 52 tapiPair false)]
noncomputable def ref_New (a0 : den (.int .i64)) : Option (den (.int .i64)) := CF 70 [⟨(.int .i64), a0⟩] [] (.int .i64) []
noncomputable def branch_Sized (a0 : den tapiNode) (a1 : den (.int .i64)) : Option (den tapiNode) := CF 80 [⟨tapiNode, a0⟩, ⟨(.int .i64), a1⟩] [] tapiNode []
noncomputable def hash_Of (a0 : den .str) (a1 : den (.int .i64)) : Option (den (.int .u64)) := CF 82 [⟨.str, a0⟩, ⟨(.int .i64), a1⟩] [] (.int .u64) []
noncomputable def hash_Of.l0 (x0 : den .str) (x1 : den (.int .i64)) (x2 : den (.int .u64)) (x3 : den (.int .i64)) (x4 : den (.int .i64)) : Option (den (.int .u64)) := loopW [1, 1, 0, 1, 0, 0] (BF (R := den (.int .u64)) 82 0 [1, 1, 0, 1, 0, 0]) ⟨[(0, ⟨.str, x0⟩), (1, ⟨(.int .i64), x1⟩), (5, ⟨(.int .u64), x2⟩), (8, ⟨(.int .i64), x3⟩), (9, ⟨(.int .i64), x4⟩)], []⟩ (blockK 0 (seqK false [1, 1, 1] (BF 82 0 [1, 1, 1]) (finF 82 (.int .u64) [] 0)))
noncomputable def hash_Chunk (a0 : den (.int .u64)) (a1 : den (.int .i64)) (a2 : den (.int .i64)) : Option (den (.int .i64)) := CF 81 [⟨(.int .u64), a0⟩, ⟨(.int .i64), a1⟩, ⟨(.int .i64), a2⟩] [] (.int .i64) []
noncomputable def branch_branch (a0 : den tapiNode) : Option (denR (.pair (.int .i64) (.pair .str (.pair .str (.pair (.int .u32) (.pair (.own (.int .i64) 0) (.pair (.int .i64) (.pair (.own tapiPair 1) (.pair (.int .i64) (.pair (.int .i64) .unit))))))))) [(.row 25 (.int .i64) false), (.row 52 tapiPair false)]) := CF 75 [⟨tapiNode, a0⟩] [] (.pair (.int .i64) (.pair .str (.pair .str (.pair (.int .u32) (.pair (.own (.int .i64) 0) (.pair (.int .i64) (.pair (.own tapiPair 1) (.pair (.int .i64) (.pair (.int .i64) .unit))))))))) [(.row 25 (.int .i64) false), (.row 52 tapiPair false)]
noncomputable def mask_With (a0 : den (.int .u32)) (a1 : den (.int .i64)) : Option (den (.int .u32)) := CF 76 [⟨(.int .u32), a0⟩, ⟨(.int .i64), a1⟩] [] (.int .u32) []
noncomputable def mask_Place (a0 : den (.int .u32)) (a1 : den (.int .i64)) : Option (den (.int .i64)) := CF 77 [⟨(.int .u32), a0⟩, ⟨(.int .i64), a1⟩] [] (.int .i64) []
noncomputable def mask_Has (a0 : den (.int .u32)) (a1 : den (.int .i64)) : Option (den .bool) := CF 78 [⟨(.int .u32), a0⟩, ⟨(.int .i64), a1⟩] [] .bool []
noncomputable def slices_Insertapi_Ref_api_Ref (a0 : den (.int .i64)) (a1 : denO (.row 25 (.int .i64) true)) (a2 : denO (.row 25 (.int .i64) true)) : Option (denR (.own (.int .i64) 0) [(.row 25 (.int .i64) false), (.row 25 (.int .i64) true)]) := CF 79 [⟨(.own (.int .i64) 0), ()⟩, ⟨(.int .i64), a0⟩, ⟨(.own (.int .i64) 1), ()⟩] [⟨(.row 25 (.int .i64) true), a1⟩, ⟨(.row 25 (.int .i64) true), a2⟩] (.own (.int .i64) 0) [(.row 25 (.int .i64) false), (.row 25 (.int .i64) true)]
noncomputable def hash_Levels (a0 : den (.int .i64)) : Option (den (.int .i64)) := CF 65 [⟨(.int .i64), a0⟩] [] (.int .i64) []
noncomputable def ref06_All (a0 : den (.int .u32)) : Option (den (.list (.int .i64))) := CF 83 [⟨(.int .u32), a0⟩] [] (.list (.int .i64)) []
noncomputable def ref06_All.l0 (x0 : den (.int .u32)) (x1 : den (.int .i64)) (x2 : denO (.row 3 (.int .i64) false)) : Option (den (.list (.int .i64))) := loopW [1, 1, 0, 1, 0, 0] (BF (R := den (.list (.int .i64))) 83 0 [1, 1, 0, 1, 0, 0]) ⟨[(0, ⟨(.int .u32), x0⟩), (3, ⟨(.own (.int .i64) 0), ()⟩), (4, ⟨(.int .i64), x1⟩)], [⟨(.row 3 (.int .i64) false), x2⟩]⟩ (blockK 0 (seqK false [1, 1, 1] (BF 83 0 [1, 1, 1]) (finF 83 (.list (.int .i64)) [] 0)))
noncomputable def ref04_Of (a0 : den .str) (a1 : den (.int .i64)) : Option (den (.int .u64)) := CF 85 [⟨.str, a0⟩, ⟨(.int .i64), a1⟩] [] (.int .u64) []
noncomputable def ref04_Of.l0 (x0 : den .str) (x1 : den (.int .i64)) (x2 : den (.int .u64)) (x3 : den (.int .i64)) : Option (den (.int .u64)) := loopW [1, 1, 0, 1, 0, 0] (BF (R := den (.int .u64)) 85 0 [1, 1, 0, 1, 0, 0]) ⟨[(0, ⟨.str, x0⟩), (1, ⟨(.int .i64), x1⟩), (5, ⟨(.int .u64), x2⟩), (6, ⟨(.int .i64), x3⟩)], []⟩ (blockK 0 (seqK false [1, 1, 1] (BF 85 0 [1, 1, 1]) (finF 85 (.int .u64) [] 0)))
noncomputable def ref04_Of.l1 (x0 : den (.int .i64)) (x1 : den (.int .u64)) (x2 : den (.int .u64)) (x3 : den (.int .u64)) (x4 : den (.int .i64)) : Option (den (.int .u64)) := loopW [1, 1, 1, 1, 0, 1, 0, 0] (BF (R := den (.int .u64)) 85 0 [1, 1, 1, 1, 0, 1, 0, 0]) ⟨[(1, ⟨(.int .i64), x0⟩), (5, ⟨(.int .u64), x1⟩), (7, ⟨(.int .u64), x2⟩), (8, ⟨(.int .u64), x3⟩), (9, ⟨(.int .i64), x4⟩)], []⟩ (blockK 2 (seqK false [1, 1, 1, 1, 1] (BF 85 0 [1, 1, 1, 1, 1]) (finF 85 (.int .u64) [] 0)))
noncomputable def ref04_Chunk (a0 : den (.int .u64)) (a1 : den (.int .i64)) (a2 : den (.int .i64)) : Option (den (.int .i64)) := CF 84 [⟨(.int .u64), a0⟩, ⟨(.int .i64), a1⟩, ⟨(.int .i64), a2⟩] [] (.int .i64) []
noncomputable def ref04_Chunk.l0 (x0 : den (.int .u64)) (x1 : den (.int .i64)) (x2 : den (.int .i64)) (x3 : den (.int .i64)) (x4 : den (.int .i64)) (x5 : den (.int .i64)) : Option (den (.int .i64)) := loopW [1, 1, 1, 0, 1, 0, 0] (BF (R := den (.int .i64)) 84 0 [1, 1, 1, 0, 1, 0, 0]) ⟨[(0, ⟨(.int .u64), x0⟩), (1, ⟨(.int .i64), x1⟩), (2, ⟨(.int .i64), x2⟩), (7, ⟨(.int .i64), x3⟩), (8, ⟨(.int .i64), x4⟩), (9, ⟨(.int .i64), x5⟩)], []⟩ (blockK 0 (seqK false [1, 1, 1, 1] (BF 84 0 [1, 1, 1, 1]) (finF 84 (.int .i64) [] 0)))
noncomputable def ref19_Branch_Node (a0 : den tboscageref19Branch) : Option (den tapiNode) := CF 86 [⟨tboscageref19Branch, a0⟩] [] tapiNode []
noncomputable def ref19_Branch_Node.l0 (x0 : den (.int .i64)) (x1 : denO (.box tboscageref19Branch)) (x2 : denO (.box (.pair (.int .i64) (.pair .str (.pair .str (.pair (.int .u32) (.pair (.own (.int .i64) 4) (.pair (.int .i64) (.pair (.own tapiPair 5) (.pair (.int .i64) (.pair (.int .i64) .unit))))))))))) (x3 : denO (.row 3 (.int .i64) false)) (x4 : denO (.row 25 (.int .i64) false)) (x5 : denO (.row 25 (.int .i64) false)) (x6 : denO (.row 52 tapiPair false)) : Option (den tapiNode) := loopW [1, 1, 0, 1, 0, 0] (BF (R := den tapiNode) 86 0 [1, 1, 0, 1, 0, 0]) ⟨[(1, ⟨(.ptr 0 0), ()⟩), (2, ⟨(.ptr 1 0), ()⟩), (3, ⟨(.own (.int .i64) 2), ()⟩), (4, ⟨(.own (.int .i64) 3), ()⟩), (5, ⟨(.int .i64), x0⟩)], [⟨(.box tboscageref19Branch), x1⟩, ⟨(.box (.pair (.int .i64) (.pair .str (.pair .str (.pair (.int .u32) (.pair (.own (.int .i64) 4) (.pair (.int .i64) (.pair (.own tapiPair 5) (.pair (.int .i64) (.pair (.int .i64) .unit)))))))))), x2⟩, ⟨(.row 3 (.int .i64) false), x3⟩, ⟨(.row 25 (.int .i64) false), x4⟩, ⟨(.row 25 (.int .i64) false), x5⟩, ⟨(.row 52 tapiPair false), x6⟩]⟩ (blockK 0 (seqK false [1, 1, 1] (BF 86 0 [1, 1, 1]) (finF 86 tapiNode [] 0)))
noncomputable def slices_Cloneapi_Ref_api_Ref (a0 : den (.list (.int .i64))) : Option (denR (.own (.int .i64) 0) [(.row 25 (.int .i64) false)]) := CF 87 [⟨(.list (.int .i64)), a0⟩] [] (.own (.int .i64) 0) [(.row 25 (.int .i64) false)]
noncomputable def ref13_bare (a0 : den tapiNode) (a1 : den .bool) (a2 : den .bool) (a3 : den .bool) (a4 : den .bool) : Option (den .bool) := CF 88 [⟨tapiNode, a0⟩, ⟨.bool, a1⟩, ⟨.bool, a2⟩, ⟨.bool, a3⟩, ⟨.bool, a4⟩] [] .bool []
noncomputable def ref07_Is (a0 : den (.list tapiPair)) : Option (den .bool) := CF 89 [⟨(.list tapiPair), a0⟩] [] .bool []
noncomputable def ref07_Is.l0 (x0 : den (.list tapiPair)) (x1 : den (.int .i64)) : Option (den .bool) := loopW [1, 0, 1, 0, 0] (BF (R := den .bool) 89 0 [1, 0, 1, 0, 0]) ⟨[(0, ⟨(.list tapiPair), x0⟩), (3, ⟨(.int .i64), x1⟩)], []⟩ (blockK 0 (seqK false [1, 1] (BF 89 0 [1, 1]) (finF 89 .bool [] 0)))
noncomputable def node_formed (a0 : den tapiNode) : Option (den tapiNode) := CF 90 [⟨tapiNode, a0⟩] [] tapiNode []
noncomputable def node_long (a0 : den tapiNode) : Option (den .bool) := CF 91 [⟨tapiNode, a0⟩] [] .bool []
noncomputable def node_Same (a0 : den tapiNode) (a1 : den tapiNode) : Option (den .bool) := CF 92 [⟨tapiNode, a0⟩, ⟨tapiNode, a1⟩] [] .bool []
noncomputable def node_Same.j0 (x0 : den .bool) (x1 : denO (.box tapiNode)) (x2 : denO (.box tapiNode)) : Option (den .bool) := jnO [1, 1] (BF (R := den .bool) 92 0 [1, 1]) ⟨[(2, ⟨(.ptr 0 0), ()⟩), (3, ⟨(.ptr 1 0), ()⟩), (5, ⟨.bool, x0⟩)], [⟨(.box tapiNode), x1⟩, ⟨(.box tapiNode), x2⟩]⟩ (finF 92 .bool [] 0)
noncomputable def node_whole (a0 : den tapiNode) : Option (den .bool) := CF 93 [⟨tapiNode, a0⟩] [] .bool []
noncomputable def slices_IndexFuncapi_Ref_api_Ref (a0 : den (.list (.int .i64))) (a1 : den (.fn 54 (.tcons (.ptr 0 0) .tnil))) (a2 : denO (.box (.int .i64))) : Option (denR (.int .i64) [(.box (.int .i64))]) := CF 94 [⟨(.list (.int .i64)), a0⟩, ⟨(.fn 54 (.tcons (.ptr 0 0) .tnil)), a1⟩] [⟨(.box (.int .i64)), a2⟩] (.int .i64) [(.box (.int .i64))]
noncomputable def slices_IndexFuncapi_Ref_api_Ref.l0 (x0 : den (.list (.int .i64))) (x1 : den (.fn 54 (.tcons (.ptr 0 0) .tnil))) (x2 : den (.int .i64)) (x3 : den (.int .i64)) (x4 : denO (.box (.int .i64))) : Option (denR (.int .i64) [(.box (.int .i64))]) := loopW [1, 0, 1, 0, 0] (BF (R := denR (.int .i64) [(.box (.int .i64))]) 94 1 [1, 0, 1, 0, 0]) ⟨[(0, ⟨(.list (.int .i64)), x0⟩), (1, ⟨(.fn 54 (.tcons (.ptr 0 0) .tnil)), x1⟩), (7, ⟨(.int .i64), x2⟩), (8, ⟨(.int .i64), x3⟩)], [⟨(.box (.int .i64)), x4⟩]⟩ (blockK 0 (seqK false [1, 1] (BF 94 1 [1, 1]) (finF 94 (.int .i64) [(.box (.int .i64))] 1)))
noncomputable def ref_Which (a0 : den (.int .i64)) : Option (den (.tcons (.int .i64) (.tcons .bool .tnil))) := CF 95 [⟨(.int .i64), a0⟩] [] (.tcons (.int .i64) (.tcons .bool .tnil)) []
noncomputable def slices_IndexFuncapi_Ref_api_Ref_v1 (a0 : den (.list (.int .i64))) : Option (den (.int .i64)) := CF 94 [⟨(.list (.int .i64)), a0⟩, ⟨(.fn 56 .tnil), ()⟩] [] (.int .i64) []
noncomputable def slices_IndexFuncapi_Ref_api_Ref_v1.l0 (x0 : den (.list (.int .i64))) (x1 : den (.int .i64)) (x2 : den (.int .i64)) : Option (den (.int .i64)) := loopW [1, 0, 1, 0, 0] (BF (R := den (.int .i64)) 94 0 [1, 0, 1, 0, 0]) ⟨[(0, ⟨(.list (.int .i64)), x0⟩), (1, ⟨(.fn 56 .tnil), ()⟩), (7, ⟨(.int .i64), x1⟩), (8, ⟨(.int .i64), x2⟩)], []⟩ (blockK 0 (seqK false [1, 1] (BF 94 0 [1, 1]) (finF 94 (.int .i64) [] 0)))
noncomputable def pair_place (a0 : den (.list tapiPair)) (a1 : den .str) : Option (den (.tcons (.int .i64) (.tcons .bool .tnil))) := CF 96 [⟨(.list tapiPair), a0⟩, ⟨.str, a1⟩] [] (.tcons (.int .i64) (.tcons .bool .tnil)) []
noncomputable def slices_Deleteapi_Pair_api_Pair (a0 : den (.int .i64)) (a1 : den (.int .i64)) (a2 : denO (.row 52 tapiPair true)) : Option (denR (.own tapiPair 0) [(.row 52 tapiPair false)]) := CF 97 [⟨(.own tapiPair 0), ()⟩, ⟨(.int .i64), a0⟩, ⟨(.int .i64), a1⟩] [⟨(.row 52 tapiPair true), a2⟩] (.own tapiPair 0) [(.row 52 tapiPair false)]
noncomputable def branch_Only (a0 : den tapiNode) : Option (den (.tcons (.int .i64) (.tcons .bool .tnil))) := CF 98 [⟨tapiNode, a0⟩] [] (.tcons (.int .i64) (.tcons .bool .tnil)) []
noncomputable def slices_Deleteapi_Ref_api_Ref (a0 : den (.int .i64)) (a1 : den (.int .i64)) (a2 : denO (.row 25 (.int .i64) true)) : Option (denR (.own (.int .i64) 0) [(.row 25 (.int .i64) false)]) := CF 99 [⟨(.own (.int .i64) 0), ()⟩, ⟨(.int .i64), a0⟩, ⟨(.int .i64), a1⟩] [⟨(.row 25 (.int .i64) true), a2⟩] (.own (.int .i64) 0) [(.row 25 (.int .i64) false)]
noncomputable def mask_Without (a0 : den (.int .u32)) (a1 : den (.int .i64)) : Option (den (.int .u32)) := CF 100 [⟨(.int .u32), a0⟩, ⟨(.int .i64), a1⟩] [] (.int .u32) []
noncomputable def inner_two_1 (a0 : den tapiNode) (a1 : denO (.box (.pair (.own tapiNode 1) (.pair (.int .i64) (.pair (.own (.int .i64) 2) .unit))))) (a2 : denO (.row 28 tapiNode true)) (a3 : denO (.row 25 (.int .i64) true)) : Option (denR (.int .i64) [(.box (.pair (.own tapiNode 3) (.pair (.int .i64) (.pair (.own (.int .i64) 2) .unit)))), .gone, (.row 25 (.int .i64) false), (.row 28 tapiNode false)]) := CF 63 [⟨tapiNode, a0⟩, ⟨(.ptr 0 0), ()⟩] [⟨(.box (.pair (.own tapiNode 1) (.pair (.int .i64) (.pair (.own (.int .i64) 2) .unit)))), a1⟩, ⟨(.row 28 tapiNode true), a2⟩, ⟨(.row 25 (.int .i64) true), a3⟩] (.int .i64) [(.box (.pair (.own tapiNode 3) (.pair (.int .i64) (.pair (.own (.int .i64) 2) .unit)))), .gone, (.row 25 (.int .i64) false), (.row 28 tapiNode false)]
noncomputable def ref04_clamp (a0 : den (.int .i64)) : Option (den (.int .i64)) := CF 102 [⟨(.int .i64), a0⟩] [] (.int .i64) []
noncomputable def ref13_Same (a0 : den tapiNode) (a1 : den tapiNode) : Option (den .bool) := CF 103 [⟨tapiNode, a0⟩, ⟨tapiNode, a1⟩] [] .bool []
noncomputable def pair_Is (a0 : den (.list tapiPair)) : Option (den .bool) := CF 105 [⟨(.list tapiPair), a0⟩] [] .bool []
noncomputable def pair_Is.l0 (x0 : den (.list tapiPair)) (x1 : den (.int .i64)) (x2 : den (.int .i64)) : Option (den .bool) := loopW [1, 0, 1, 0, 0] (BF (R := den .bool) 105 0 [1, 0, 1, 0, 0]) ⟨[(0, ⟨(.list tapiPair), x0⟩), (5, ⟨(.int .i64), x1⟩), (6, ⟨(.int .i64), x2⟩)], []⟩ (blockK 0 (seqK false [1, 1] (BF 105 0 [1, 1]) (finF 105 .bool [] 0)))
noncomputable def slices_Insertapi_Pair_api_Pair (a0 : den (.int .i64)) (a1 : denO (.row 52 tapiPair true)) (a2 : denO (.row 52 tapiPair true)) : Option (denR (.own tapiPair 0) [(.row 52 tapiPair false), (.row 52 tapiPair true)]) := CF 104 [⟨(.own tapiPair 0), ()⟩, ⟨(.int .i64), a0⟩, ⟨(.own tapiPair 1), ()⟩] [⟨(.row 52 tapiPair true), a1⟩, ⟨(.row 52 tapiPair true), a2⟩] (.own tapiPair 0) [(.row 52 tapiPair false), (.row 52 tapiPair true)]
noncomputable def hash_cut (a0 : den (.int .u64)) (a1 : den (.int .i64)) : Option (den (.int .u64)) := CF 111 [⟨(.int .u64), a0⟩, ⟨(.int .i64), a1⟩] [] (.int .u64) []
noncomputable def mask_in (a0 : den (.int .i64)) : Option (den .bool) := CF 106 [⟨(.int .i64), a0⟩] [] .bool []
noncomputable def mask_below (a0 : den (.int .i64)) : Option (den (.int .u32)) := CF 108 [⟨(.int .i64), a0⟩] [] (.int .u32) []
noncomputable def math_bits_OnesCount32 (a0 : den (.int .u32)) : Option (den (.int .i64)) := CF 107 [⟨(.int .u32), a0⟩] [] (.int .i64) []
noncomputable def hash_within (a0 : den (.int .i64)) : Option (den (.int .i64)) := CF 101 [⟨(.int .i64), a0⟩] [] (.int .i64) []
noncomputable def ref06_Has (a0 : den (.int .u32)) (a1 : den (.int .i64)) : Option (den .bool) := CF 112 [⟨(.int .u32), a0⟩, ⟨(.int .i64), a1⟩] [] .bool []
noncomputable def ref06_Has.l0 (x0 : den (.int .u32)) (x1 : den (.int .i64)) (x2 : den (.int .i64)) : Option (den .bool) := loopW [1, 0, 1, 0, 0] (BF (R := den .bool) 112 0 [1, 0, 1, 0, 0]) ⟨[(0, ⟨(.int .u32), x0⟩), (1, ⟨(.int .i64), x1⟩), (5, ⟨(.int .i64), x2⟩)], []⟩ (blockK 0 (seqK false [1, 1] (BF 112 0 [1, 1]) (finF 112 .bool [] 0)))
noncomputable def ref04_bit (a0 : den (.int .u64)) (a1 : den (.int .i64)) : Option (den (.int .i64)) := CF 113 [⟨(.int .u64), a0⟩, ⟨(.int .i64), a1⟩] [] (.int .i64) []
noncomputable def ref04_bit.l0 (x0 : den (.int .u64)) (x1 : den (.int .i64)) (x2 : den (.int .i64)) : Option (den (.int .i64)) := loopW [1, 0, 1, 0, 0] (BF (R := den (.int .i64)) 113 0 [1, 0, 1, 0, 0]) ⟨[(0, ⟨(.int .u64), x0⟩), (1, ⟨(.int .i64), x1⟩), (5, ⟨(.int .i64), x2⟩)], []⟩ (blockK 0 (seqK false [1, 1] (BF 113 0 [1, 1]) (finF 113 (.int .i64) [] 0)))
noncomputable def ref06_Make (a0 : den (.list (.int .i64))) : Option (den (.int .u32)) := CF 114 [⟨(.list (.int .i64)), a0⟩] [] (.int .u32) []
noncomputable def ref06_Make.l0 (x0 : den (.list (.int .i64))) (x1 : den (.int .u32)) (x2 : den (.int .u32)) (x3 : den (.int .i64)) : Option (den (.int .u32)) := loopW [1, 1, 0, 1, 0, 0] (BF (R := den (.int .u32)) 114 0 [1, 1, 0, 1, 0, 0]) ⟨[(0, ⟨(.list (.int .i64)), x0⟩), (3, ⟨(.int .u32), x1⟩), (4, ⟨(.int .u32), x2⟩), (5, ⟨(.int .i64), x3⟩)], []⟩ (blockK 0 (seqK false [1, 1, 1] (BF 114 0 [1, 1, 1]) (finF 114 (.int .u32) [] 0)))
noncomputable def ref06_Make.l1 (x0 : den (.list (.int .i64))) (x1 : den (.int .u32)) (x2 : den (.int .u32)) (x3 : den (.int .i64)) (x4 : den .bool) (x5 : den (.int .i64)) : Option (den (.int .u32)) := loopW [1, 1, 0, 1, 0, 0, 1, 0, 0, 1, 0, 1, 0, 0] (BF (R := den (.int .u32)) 114 0 [1, 1, 0, 1, 0, 0, 1, 0, 0, 1, 0, 1, 0, 0]) ⟨[(0, ⟨(.list (.int .i64)), x0⟩), (3, ⟨(.int .u32), x1⟩), (4, ⟨(.int .u32), x2⟩), (5, ⟨(.int .i64), x3⟩), (6, ⟨.bool, x4⟩), (7, ⟨(.int .i64), x5⟩)], []⟩ (blockK 2 (seqK false [1, 1, 0, 1, 0, 0, 1, 0, 0, 1, 1] (BF 114 0 [1, 1, 0, 1, 0, 0, 1, 0, 0, 1, 1]) (blockK 1 (seqK false [1, 1, 0, 1, 0, 0, 1, 1] (BF 114 0 [1, 1, 0, 1, 0, 0, 1, 1]) (againK [1, 1, 0, 1, 0, 0] (loopW [1, 1, 0, 1, 0, 0] (BF 114 0 [1, 1, 0, 1, 0, 0])) (blockK 0 (seqK false [1, 1, 1] (BF 114 0 [1, 1, 1]) (finF 114 (.int .u32) [] 0))))))))
noncomputable def node_Branch (a0 : den (.int .u32)) (a1 : den (.list (.int .i64))) (a2 : den (.int .i64)) : Option (den tapiNode) := CF 45 [⟨(.int .u32), a0⟩, ⟨(.list (.int .i64)), a1⟩, ⟨(.int .i64), a2⟩] [] tapiNode []
noncomputable def node_Tree (a0 : den .str) (a1 : den .str) (a2 : den (.int .i64)) (a3 : den (.int .i64)) (a4 : den (.int .i64)) : Option (den tapiNode) := CF 115 [⟨.str, a0⟩, ⟨.str, a1⟩, ⟨(.int .i64), a2⟩, ⟨(.int .i64), a3⟩, ⟨(.int .i64), a4⟩] [] tapiNode []
noncomputable def node_long_1 (a0 : den tapiPair) : Option (den .bool) := CF 116 [⟨tapiPair, a0⟩] [] .bool []
noncomputable def slices_ContainsFuncapi_Pair_api_Pair (a0 : den (.list tapiPair)) : Option (den .bool) := CF 117 [⟨(.list tapiPair), a0⟩, ⟨(.fn 116 .tnil), ()⟩] [] .bool []
noncomputable def slices_Equalapi_Ref_api_Ref (a0 : den (.list (.int .i64))) (a1 : den (.list (.int .i64))) : Option (den .bool) := CF 118 [⟨(.list (.int .i64)), a0⟩, ⟨(.list (.int .i64)), a1⟩] [] .bool []
noncomputable def slices_Equalapi_Ref_api_Ref.l0 (x0 : den (.list (.int .i64))) (x1 : den (.list (.int .i64))) (x2 : den (.int .i64)) (x3 : den (.int .i64)) : Option (den .bool) := loopW [1, 1, 0, 1, 0, 0] (BF (R := den .bool) 118 0 [1, 1, 0, 1, 0, 0]) ⟨[(0, ⟨(.list (.int .i64)), x0⟩), (1, ⟨(.list (.int .i64)), x1⟩), (12, ⟨(.int .i64), x2⟩), (13, ⟨(.int .i64), x3⟩)], []⟩ (blockK 0 (seqK false [1, 1, 1] (BF 118 0 [1, 1, 1]) (finF 118 .bool [] 0)))
noncomputable def slices_Equalapi_Pair_api_Pair (a0 : den (.list tapiPair)) (a1 : den (.list tapiPair)) : Option (den .bool) := CF 119 [⟨(.list tapiPair), a0⟩, ⟨(.list tapiPair), a1⟩] [] .bool []
noncomputable def slices_Equalapi_Pair_api_Pair.l0 (x0 : den (.list tapiPair)) (x1 : den (.list tapiPair)) (x2 : den (.int .i64)) (x3 : den (.int .i64)) : Option (den .bool) := loopW [1, 1, 0, 1, 0, 0] (BF (R := den .bool) 119 0 [1, 1, 0, 1, 0, 0]) ⟨[(0, ⟨(.list tapiPair), x0⟩), (1, ⟨(.list tapiPair), x1⟩), (12, ⟨(.int .i64), x2⟩), (13, ⟨(.int .i64), x3⟩)], []⟩ (blockK 0 (seqK false [1, 1, 1] (BF 119 0 [1, 1, 1]) (finF 119 .bool [] 0)))
noncomputable def mask_Count (a0 : den (.int .u32)) : Option (den (.int .i64)) := CF 120 [⟨(.int .u32), a0⟩] [] (.int .i64) []
noncomputable def slices_Containsapi_Ref_api_Ref (a0 : den (.list (.int .i64))) (a1 : den (.int .i64)) : Option (den .bool) := CF 121 [⟨(.list (.int .i64)), a0⟩, ⟨(.int .i64), a1⟩] [] .bool []
noncomputable def plan_May_1 (a0 : den (.int .i64)) (a1 : denO (.box (.int .i64))) : Option (denR .bool [(.box (.int .i64))]) := CF 54 [⟨(.int .i64), a0⟩, ⟨(.ptr 0 0), ()⟩] [⟨(.box (.int .i64)), a1⟩] .bool [(.box (.int .i64))]
noncomputable def ref_Kind (a0 : den (.int .i64)) : Option (den (.int .i64)) := CF 122 [⟨(.int .i64), a0⟩] [] (.int .i64) []
noncomputable def plan_May_2 (a0 : den (.int .i64)) : Option (den .bool) := CF 56 [⟨(.int .i64), a0⟩] [] .bool []
noncomputable def slices_BinarySearchFuncapi_Pair_api_Pair_string (a0 : den (.list tapiPair)) (a1 : den .str) : Option (den (.tcons (.int .i64) (.tcons .bool .tnil))) := CF 123 [⟨(.list tapiPair), a0⟩, ⟨.str, a1⟩, ⟨(.fn 124 .tnil), ()⟩] [] (.tcons (.int .i64) (.tcons .bool .tnil)) []
noncomputable def slices_BinarySearchFuncapi_Pair_api_Pair_string.l0 (x0 : den (.list tapiPair)) (x1 : den .str) (x2 : den (.int .i64)) (x3 : den (.int .i64)) (x4 : den (.int .i64)) : Option (den (.tcons (.int .i64) (.tcons .bool .tnil))) := loopW [1, 1, 1, 0, 0, 0] (BF (R := den (.tcons (.int .i64) (.tcons .bool .tnil))) 123 0 [1, 1, 1, 0, 0, 0]) ⟨[(0, ⟨(.list tapiPair), x0⟩), (1, ⟨.str, x1⟩), (2, ⟨(.fn 124 .tnil), ()⟩), (8, ⟨(.int .i64), x2⟩), (9, ⟨(.int .i64), x3⟩), (10, ⟨(.int .i64), x4⟩)], []⟩ (blockK 0 (seqK false [1, 1, 1, 1] (BF 123 0 [1, 1, 1, 1]) (finF 123 (.tcons (.int .i64) (.tcons .bool .tnil)) [] 0)))
noncomputable def ref13_SameRefs (a0 : den (.list (.int .i64))) (a1 : den (.list (.int .i64))) : Option (den .bool) := CF 126 [⟨(.list (.int .i64)), a0⟩, ⟨(.list (.int .i64)), a1⟩] [] .bool []
noncomputable def ref13_SameRefs.l0 (x0 : den (.list (.int .i64))) (x1 : den (.list (.int .i64))) (x2 : den (.int .i64)) : Option (den .bool) := loopW [1, 1, 0, 1, 0, 0] (BF (R := den .bool) 126 0 [1, 1, 0, 1, 0, 0]) ⟨[(0, ⟨(.list (.int .i64)), x0⟩), (1, ⟨(.list (.int .i64)), x1⟩), (5, ⟨(.int .i64), x2⟩)], []⟩ (blockK 0 (seqK false [1, 1, 1] (BF 126 0 [1, 1, 1]) (finF 126 .bool [] 0)))
noncomputable def order_Compare (a0 : den .str) (a1 : den .str) : Option (den (.int .i64)) := CF 125 [⟨.str, a0⟩, ⟨.str, a1⟩] [] (.int .i64) []
noncomputable def order_Compare.j0 (x0 : den .str) (x1 : den .str) (x2 : den (.int .i64)) (x3 : den .bool) : Option (den (.int .i64)) := jnO [1, 1, 0, 0, 1] (BF (R := den (.int .i64)) 125 0 [1, 1, 0, 0, 1]) ⟨[(0, ⟨.str, x0⟩), (1, ⟨.str, x1⟩), (5, ⟨(.int .i64), x2⟩), (9, ⟨.bool, x3⟩)], []⟩ (blockK 0 (seqK false [1, 1, 1] (BF 125 0 [1, 1, 1]) (finF 125 (.int .i64) [] 0)))
noncomputable def slices_IndexFuncapi_Pair_api_Pair (a0 : den (.list tapiPair)) : Option (den (.int .i64)) := CF 130 [⟨(.list tapiPair), a0⟩, ⟨(.fn 116 .tnil), ()⟩] [] (.int .i64) []
noncomputable def slices_IndexFuncapi_Pair_api_Pair.l0 (x0 : den (.list tapiPair)) (x1 : den (.int .i64)) (x2 : den (.int .i64)) : Option (den (.int .i64)) := loopW [1, 0, 1, 0, 0] (BF (R := den (.int .i64)) 130 0 [1, 0, 1, 0, 0]) ⟨[(0, ⟨(.list tapiPair), x0⟩), (1, ⟨(.fn 116 .tnil), ()⟩), (7, ⟨(.int .i64), x1⟩), (8, ⟨(.int .i64), x2⟩)], []⟩ (blockK 0 (seqK false [1, 1] (BF 130 0 [1, 1]) (finF 130 (.int .i64) [] 0)))
noncomputable def slices_Indexapi_Ref_api_Ref (a0 : den (.list (.int .i64))) (a1 : den (.int .i64)) : Option (den (.int .i64)) := CF 131 [⟨(.list (.int .i64)), a0⟩, ⟨(.int .i64), a1⟩] [] (.int .i64) []
noncomputable def slices_Indexapi_Ref_api_Ref.l0 (x0 : den (.list (.int .i64))) (x1 : den (.int .i64)) (x2 : den (.int .i64)) (x3 : den (.int .i64)) : Option (den (.int .i64)) := loopW [1, 0, 1, 0, 0] (BF (R := den (.int .i64)) 131 0 [1, 0, 1, 0, 0]) ⟨[(0, ⟨(.list (.int .i64)), x0⟩), (1, ⟨(.int .i64), x1⟩), (7, ⟨(.int .i64), x2⟩), (8, ⟨(.int .i64), x3⟩)], []⟩ (blockK 0 (seqK false [1, 1] (BF 131 0 [1, 1]) (finF 131 (.int .i64) [] 0)))
noncomputable def ref_Make (a0 : den (.int .i64)) (a1 : den (.int .i64)) : Option (den (.tcons (.int .i64) (.tcons (.int .i64) .tnil))) := CF 132 [⟨(.int .i64), a0⟩, ⟨(.int .i64), a1⟩] [] (.tcons (.int .i64) (.tcons (.int .i64) .tnil)) []
noncomputable def pair_place_1 (a0 : den tapiPair) (a1 : den .str) : Option (den (.int .i64)) := CF 124 [⟨tapiPair, a0⟩, ⟨.str, a1⟩] [] (.int .i64) []
noncomputable def order_Common (a0 : den .str) (a1 : den .str) : Option (den (.int .i64)) := CF 133 [⟨.str, a0⟩, ⟨.str, a1⟩] [] (.int .i64) []
noncomputable def order_Common.l0 (x0 : den .str) (x1 : den .str) (x2 : den (.int .i64)) (x3 : den (.int .i64)) (x4 : den (.int .i64)) : Option (den (.int .i64)) := loopW [1, 1, 0, 1, 0, 0] (BF (R := den (.int .i64)) 133 0 [1, 1, 0, 1, 0, 0]) ⟨[(0, ⟨.str, x0⟩), (1, ⟨.str, x1⟩), (5, ⟨(.int .i64), x2⟩), (12, ⟨(.int .i64), x3⟩), (13, ⟨(.int .i64), x4⟩)], []⟩ (blockK 0 (seqK false [1, 1, 1] (BF 133 0 [1, 1, 1]) (finF 133 (.int .i64) [] 0)))
end Go.Proofs.YtimgaglpempfeaaGreat.AB
set_option maxRecDepth 100000
set_option linter.unusedVariables false
namespace Go.Proofs.YtimgaglpempfeaaGreat.AB
open Go.Abs
theorem law29_InnerPuts.eq (a0 : den tboscagelaw29Case) : law29_InnerPuts a0 =
  bnd (law29_few a0) fun r0 =>
  both
   (bnd (law29_ref1 r0.2.1) fun r1 =>
   both
    (bnd (law29_few r0) fun r2 =>
    both
     (bnd (inner_Two r1 (r2.2.2.2.2.2.2.2.2.2.2.2.2.1, (r2.2.2.2.2.2.2.2.2.2.2.2.2.2.1, (r2.2.2.2.2.2.2.2.2.2.2.2.2.2.2.1, (r2.2.2.2.2.2.2.2.2.2.2.2.2.2.2.2.1, (r2.2.2.2.2.2.2.2.2.2.2.2.2.2.2.2.2.1, (r2.2.2.2.2.2.2.2.2.2.2.2.2.2.2.2.2.2.1, (r2.2.2.2.2.2.2.2.2.2.2.2.2.2.2.2.2.2.2.1, (r2.2.2.2.2.2.2.2.2.2.2.2.2.2.2.2.2.2.2.2.1, (r2.2.2.2.2.2.2.2.2.2.2.2.2.2.2.2.2.2.2.2.2.1, ()))))))))) r0.2.2.2.2.2.2.2.2.2.2.2.2.2.2.2.2.2.2.2.2.2.2.2.2.2.2.2.2.2.2.1 r0.2.2.2.2.2.2.2.2.2.2.2.2.2.2.2.2.2.2.2.2.2.2.2.2.2.2.2.2.2.2.2.1 r0.2.2.2.2.2.2.2.2.2.2.2.2.2.2.2.2.2.2.2.2.2.2.2.2.2.2.2.2.2.2.2.2.1 r0.2.2.2.2.2.2.2.2.2.2.2.2.2.2.2.2.2.2.2.2.2.2.2.2.2.2.2.2.2.2.2.2.2.1) fun r3 =>
     law29_InnerPuts.j0 r3.2.1 r0 r3.1)
     (bnd (inner_Two r1 (r2.2.2.2.2.2.2.2.2.2.2.2.2.1, (r2.2.2.2.2.2.2.2.2.2.2.2.2.2.1, (r2.2.2.2.2.2.2.2.2.2.2.2.2.2.2.1, (r2.2.2.2.2.2.2.2.2.2.2.2.2.2.2.2.1, (r2.2.2.2.2.2.2.2.2.2.2.2.2.2.2.2.2.1, (r2.2.2.2.2.2.2.2.2.2.2.2.2.2.2.2.2.2.1, (r2.2.2.2.2.2.2.2.2.2.2.2.2.2.2.2.2.2.2.1, (r2.2.2.2.2.2.2.2.2.2.2.2.2.2.2.2.2.2.2.2.1, (r2.2.2.2.2.2.2.2.2.2.2.2.2.2.2.2.2.2.2.2.2.1, ()))))))))) r0.2.2.2.2.2.2.2.2.2.2.2.2.2.2.2.2.2.2.2.2.2.2.2.2.2.2.2.2.2.2.1 r0.2.2.2.2.2.2.2.2.2.2.2.2.2.2.2.2.2.2.2.2.2.2.2.2.2.2.2.2.2.2.2.1 r0.2.2.2.2.2.2.2.2.2.2.2.2.2.2.2.2.2.2.2.2.2.2.2.2.2.2.2.2.2.2.2.2.1 r0.2.2.2.2.2.2.2.2.2.2.2.2.2.2.2.2.2.2.2.2.2.2.2.2.2.2.2.2.2.2.2.2.2.1) fun r4 =>
     law29_InnerPuts.j0 r4.2.1 r0 r4.1))
    (bnd (law29_few r0) fun r5 =>
    bnd (inner_Two r1 (r5.2.2.2.2.2.2.2.2.2.2.2.2.1, (r5.2.2.2.2.2.2.2.2.2.2.2.2.2.1, (r5.2.2.2.2.2.2.2.2.2.2.2.2.2.2.1, (r5.2.2.2.2.2.2.2.2.2.2.2.2.2.2.2.1, (r5.2.2.2.2.2.2.2.2.2.2.2.2.2.2.2.2.1, (r5.2.2.2.2.2.2.2.2.2.2.2.2.2.2.2.2.2.1, (r5.2.2.2.2.2.2.2.2.2.2.2.2.2.2.2.2.2.2.1, (r5.2.2.2.2.2.2.2.2.2.2.2.2.2.2.2.2.2.2.2.1, (r5.2.2.2.2.2.2.2.2.2.2.2.2.2.2.2.2.2.2.2.2.1, ()))))))))) r0.2.2.2.2.2.2.2.2.2.2.2.2.2.2.2.2.2.2.2.2.2.2.2.2.2.2.2.2.2.2.1 r0.2.2.2.2.2.2.2.2.2.2.2.2.2.2.2.2.2.2.2.2.2.2.2.2.2.2.2.2.2.2.2.1 r0.2.2.2.2.2.2.2.2.2.2.2.2.2.2.2.2.2.2.2.2.2.2.2.2.2.2.2.2.2.2.2.2.1 r0.2.2.2.2.2.2.2.2.2.2.2.2.2.2.2.2.2.2.2.2.2.2.2.2.2.2.2.2.2.2.2.2.2.1) fun r6 =>
    law29_InnerPuts.j0 r6.2.1 r0 r6.1))
   (bnd (law29_ref1 r0.2.1) fun r7 =>
   bnd (law29_few r0) fun r8 =>
   bnd (inner_Two r7 (r8.2.2.2.2.2.2.2.2.2.2.2.2.1, (r8.2.2.2.2.2.2.2.2.2.2.2.2.2.1, (r8.2.2.2.2.2.2.2.2.2.2.2.2.2.2.1, (r8.2.2.2.2.2.2.2.2.2.2.2.2.2.2.2.1, (r8.2.2.2.2.2.2.2.2.2.2.2.2.2.2.2.2.1, (r8.2.2.2.2.2.2.2.2.2.2.2.2.2.2.2.2.2.1, (r8.2.2.2.2.2.2.2.2.2.2.2.2.2.2.2.2.2.2.1, (r8.2.2.2.2.2.2.2.2.2.2.2.2.2.2.2.2.2.2.2.1, (r8.2.2.2.2.2.2.2.2.2.2.2.2.2.2.2.2.2.2.2.2.1, ()))))))))) r0.2.2.2.2.2.2.2.2.2.2.2.2.2.2.2.2.2.2.2.2.2.2.2.2.2.2.2.2.2.2.1 r0.2.2.2.2.2.2.2.2.2.2.2.2.2.2.2.2.2.2.2.2.2.2.2.2.2.2.2.2.2.2.2.1 r0.2.2.2.2.2.2.2.2.2.2.2.2.2.2.2.2.2.2.2.2.2.2.2.2.2.2.2.2.2.2.2.2.1 r0.2.2.2.2.2.2.2.2.2.2.2.2.2.2.2.2.2.2.2.2.2.2.2.2.2.2.2.2.2.2.2.2.2.1) fun r9 =>
   law29_InnerPuts.j0 r9.2.1 r0 r9.1) :=
  (callW_eq (P := PP) (T := TT) (pr := RR) 3 [⟨tboscagelaw29Case, a0⟩] [] .bool []).trans (by kernel_rfl)
theorem law29_InnerPuts.j0.eq (x0 : den (.int .i64)) (x1 : denO (.box tboscagelaw29Case)) (x2 : denO (.box tplanPlan)) : law29_InnerPuts.j0 x0 x1 x2 =
  both
   (bnd (law29_ref1 x1.2.1) fun r0 =>
   both
    (bnd (ref29_Two r0 (x1.2.2.2.2.2.2.2.2.2.2.2.2.1, (x1.2.2.2.2.2.2.2.2.2.2.2.2.2.1, (x1.2.2.2.2.2.2.2.2.2.2.2.2.2.2.1, (x1.2.2.2.2.2.2.2.2.2.2.2.2.2.2.2.1, (x1.2.2.2.2.2.2.2.2.2.2.2.2.2.2.2.2.1, (x1.2.2.2.2.2.2.2.2.2.2.2.2.2.2.2.2.2.1, (x1.2.2.2.2.2.2.2.2.2.2.2.2.2.2.2.2.2.2.1, (x1.2.2.2.2.2.2.2.2.2.2.2.2.2.2.2.2.2.2.2.1, (x1.2.2.2.2.2.2.2.2.2.2.2.2.2.2.2.2.2.2.2.2.1, ()))))))))) x1.2.2.2.2.2.2.2.2.2.2.2.2.2.2.2.2.2.2.2.2.2.2.2.2.2.2.2.2.2.2.1 x1.2.2.2.2.2.2.2.2.2.2.2.2.2.2.2.2.2.2.2.2.2.2.2.2.2.2.2.2.2.2.2.1 x1.2.2.2.2.2.2.2.2.2.2.2.2.2.2.2.2.2.2.2.2.2.2.2.2.2.2.2.2.2.2.2.2.1 x1.2.2.2.2.2.2.2.2.2.2.2.2.2.2.2.2.2.2.2.2.2.2.2.2.2.2.2.2.2.2.2.2.2.1) fun r1 =>
    law29_InnerPuts.j1 x0 r1.2.1 x1 x2 r1.1)
    (bnd (ref29_Two r0 (x1.2.2.2.2.2.2.2.2.2.2.2.2.1, (x1.2.2.2.2.2.2.2.2.2.2.2.2.2.1, (x1.2.2.2.2.2.2.2.2.2.2.2.2.2.2.1, (x1.2.2.2.2.2.2.2.2.2.2.2.2.2.2.2.1, (x1.2.2.2.2.2.2.2.2.2.2.2.2.2.2.2.2.1, (x1.2.2.2.2.2.2.2.2.2.2.2.2.2.2.2.2.2.1, (x1.2.2.2.2.2.2.2.2.2.2.2.2.2.2.2.2.2.2.1, (x1.2.2.2.2.2.2.2.2.2.2.2.2.2.2.2.2.2.2.2.1, (x1.2.2.2.2.2.2.2.2.2.2.2.2.2.2.2.2.2.2.2.2.1, ()))))))))) x1.2.2.2.2.2.2.2.2.2.2.2.2.2.2.2.2.2.2.2.2.2.2.2.2.2.2.2.2.2.2.1 x1.2.2.2.2.2.2.2.2.2.2.2.2.2.2.2.2.2.2.2.2.2.2.2.2.2.2.2.2.2.2.2.1 x1.2.2.2.2.2.2.2.2.2.2.2.2.2.2.2.2.2.2.2.2.2.2.2.2.2.2.2.2.2.2.2.2.1 x1.2.2.2.2.2.2.2.2.2.2.2.2.2.2.2.2.2.2.2.2.2.2.2.2.2.2.2.2.2.2.2.2.2.1) fun r2 =>
    law29_InnerPuts.j1 x0 r2.2.1 x1 x2 r2.1))
   (bnd (law29_ref1 x1.2.1) fun r3 =>
   bnd (ref29_Two r3 (x1.2.2.2.2.2.2.2.2.2.2.2.2.1, (x1.2.2.2.2.2.2.2.2.2.2.2.2.2.1, (x1.2.2.2.2.2.2.2.2.2.2.2.2.2.2.1, (x1.2.2.2.2.2.2.2.2.2.2.2.2.2.2.2.1, (x1.2.2.2.2.2.2.2.2.2.2.2.2.2.2.2.2.1, (x1.2.2.2.2.2.2.2.2.2.2.2.2.2.2.2.2.2.1, (x1.2.2.2.2.2.2.2.2.2.2.2.2.2.2.2.2.2.2.1, (x1.2.2.2.2.2.2.2.2.2.2.2.2.2.2.2.2.2.2.2.1, (x1.2.2.2.2.2.2.2.2.2.2.2.2.2.2.2.2.2.2.2.2.1, ()))))))))) x1.2.2.2.2.2.2.2.2.2.2.2.2.2.2.2.2.2.2.2.2.2.2.2.2.2.2.2.2.2.2.1 x1.2.2.2.2.2.2.2.2.2.2.2.2.2.2.2.2.2.2.2.2.2.2.2.2.2.2.2.2.2.2.2.1 x1.2.2.2.2.2.2.2.2.2.2.2.2.2.2.2.2.2.2.2.2.2.2.2.2.2.2.2.2.2.2.2.2.1 x1.2.2.2.2.2.2.2.2.2.2.2.2.2.2.2.2.2.2.2.2.2.2.2.2.2.2.2.2.2.2.2.2.2.1) fun r4 =>
   law29_InnerPuts.j1 x0 r4.2.1 x1 x2 r4.1) :=
  (congrFun (congrFun (jnO_eq [1, 1, 1] (BF (R := den .bool) 3 0 [1, 1, 1])) ⟨[(1, ⟨(.ptr 0 0), ()⟩), (3, ⟨(.ptr 1 0), ()⟩), (4, ⟨(.int .i64), x0⟩)], [⟨(.box tboscagelaw29Case), x1⟩, ⟨(.box tplanPlan), x2⟩]⟩) (finF 3 .bool [] 0)).trans (by kernel_rfl)
theorem law29_InnerPuts.j1.eq (x0 : den (.int .i64)) (x1 : den .bool) (x2 : denO (.box tboscagelaw29Case)) (x3 : denO (.box tplanPlan)) (x4 : denO (.box tplanPlan)) : law29_InnerPuts.j1 x0 x1 x2 x3 x4 =
  bnd (law29_told x3 x0 x4 x1) fun r0 =>
  br (notB r0)
   (some false)
   (bnd (law29_ref1 x2.1) fun r1 =>
   bnd (law29_few x2) fun r2 =>
   bnd (law29_ref0 x2.2.1) fun r3 =>
   bnd (law29_few x2) fun r4 =>
   bnd (inner_Put r1 (r2.2.2.2.1, (r2.2.2.2.2.1, (r2.2.2.2.2.2.1, (r2.2.2.2.2.2.2.1, (r2.2.2.2.2.2.2.2.1, (r2.2.2.2.2.2.2.2.2.1, (r2.2.2.2.2.2.2.2.2.2.1, (r2.2.2.2.2.2.2.2.2.2.2.1, (r2.2.2.2.2.2.2.2.2.2.2.2.1, ()))))))))) r3 (r4.2.2.2.2.2.2.2.2.2.2.2.2.1, (r4.2.2.2.2.2.2.2.2.2.2.2.2.2.1, (r4.2.2.2.2.2.2.2.2.2.2.2.2.2.2.1, (r4.2.2.2.2.2.2.2.2.2.2.2.2.2.2.2.1, (r4.2.2.2.2.2.2.2.2.2.2.2.2.2.2.2.2.1, (r4.2.2.2.2.2.2.2.2.2.2.2.2.2.2.2.2.2.1, (r4.2.2.2.2.2.2.2.2.2.2.2.2.2.2.2.2.2.2.1, (r4.2.2.2.2.2.2.2.2.2.2.2.2.2.2.2.2.2.2.2.1, (r4.2.2.2.2.2.2.2.2.2.2.2.2.2.2.2.2.2.2.2.2.1, ()))))))))) x2.2.2.2.2.2.2.2.2.2.2.2.2.2.2.2.2.2.2.2.2.2.2.2.2.2.2.2.2.2.2.1 x2.2.2.2.2.2.2.2.2.2.2.2.2.2.2.2.2.2.2.2.2.2.2.2.2.2.2.2.2.2.2.2.1 x2.2.2.2.2.2.2.2.2.2.2.2.2.2.2.2.2.2.2.2.2.2.2.2.2.2.2.2.2.2.2.2.2.1 x2.2.2.2.2.2.2.2.2.2.2.2.2.2.2.2.2.2.2.2.2.2.2.2.2.2.2.2.2.2.2.2.2.2.1) fun r5 =>
   bnd (law29_ref1 x2.1) fun r6 =>
   bnd (law29_ref0 x2.2.1) fun r7 =>
   bnd (ref29_Put r6 (x2.2.2.2.1, (x2.2.2.2.2.1, (x2.2.2.2.2.2.1, (x2.2.2.2.2.2.2.1, (x2.2.2.2.2.2.2.2.1, (x2.2.2.2.2.2.2.2.2.1, (x2.2.2.2.2.2.2.2.2.2.1, (x2.2.2.2.2.2.2.2.2.2.2.1, (x2.2.2.2.2.2.2.2.2.2.2.2.1, ()))))))))) r7 (x2.2.2.2.2.2.2.2.2.2.2.2.2.1, (x2.2.2.2.2.2.2.2.2.2.2.2.2.2.1, (x2.2.2.2.2.2.2.2.2.2.2.2.2.2.2.1, (x2.2.2.2.2.2.2.2.2.2.2.2.2.2.2.2.1, (x2.2.2.2.2.2.2.2.2.2.2.2.2.2.2.2.2.1, (x2.2.2.2.2.2.2.2.2.2.2.2.2.2.2.2.2.2.1, (x2.2.2.2.2.2.2.2.2.2.2.2.2.2.2.2.2.2.2.1, (x2.2.2.2.2.2.2.2.2.2.2.2.2.2.2.2.2.2.2.2.1, (x2.2.2.2.2.2.2.2.2.2.2.2.2.2.2.2.2.2.2.2.2.1, ()))))))))) x2.2.2.2.2.2.2.2.2.2.2.2.2.2.2.2.2.2.2.2.2.2.2.2.2.2.2.2.2.2.2.1 x2.2.2.2.2.2.2.2.2.2.2.2.2.2.2.2.2.2.2.2.2.2.2.2.2.2.2.2.2.2.2.2.1 x2.2.2.2.2.2.2.2.2.2.2.2.2.2.2.2.2.2.2.2.2.2.2.2.2.2.2.2.2.2.2.2.2.1 x2.2.2.2.2.2.2.2.2.2.2.2.2.2.2.2.2.2.2.2.2.2.2.2.2.2.2.2.2.2.2.2.2.2.1) fun r8 =>
   bnd (law29_told r5.1 r5.2.1 r8.1 r8.2.1) fun r9 =>
   br r9
    (bnd (law29_works) fun r10 =>
    some r10)
    (some false)) :=
  (congrFun (congrFun (jnO_eq [1, 1, 1, 1] (BF (R := den .bool) 3 0 [1, 1, 1, 1])) ⟨[(1, ⟨(.ptr 0 0), ()⟩), (3, ⟨(.ptr 1 0), ()⟩), (4, ⟨(.int .i64), x0⟩), (5, ⟨(.ptr 2 0), ()⟩), (6, ⟨.bool, x1⟩)], [⟨(.box tboscagelaw29Case), x2⟩, ⟨(.box tplanPlan), x3⟩, ⟨(.box tplanPlan), x4⟩]⟩) (finF 3 .bool [] 0)).trans (by kernel_rfl)
theorem law29_InnerBinds.eq (a0 : den tboscagelaw29Case) : law29_InnerBinds a0 =
  bnd (law29_works) fun r0 =>
  br (notB r0)
   (some false)
   (bnd (law29_few a0) fun r1 =>
   both
    (bnd (law29_ref1 r1.2.1) fun r2 =>
    both
     (bnd (law29_few r1) fun r3 =>
     both
      (bnd (base_Cut r1.2.2.2.2.2.2.2.2.2.2.2.2.2.2.2.2.2.2.2.2.2.2.2.2.2.2.2.2.2.2.1 (16 : Int)) fun r4 =>
      both
       (bnd (base_Cut r1.2.2.2.2.2.2.2.2.2.2.2.2.2.2.2.2.2.2.2.2.2.2.2.2.2.2.2.2.2.2.2.1 (16 : Int)) fun r5 =>
       both
        (bnd (inner_Two r2 (r3.2.2.2.2.2.2.2.2.2.2.2.2.1, (r3.2.2.2.2.2.2.2.2.2.2.2.2.2.1, (r3.2.2.2.2.2.2.2.2.2.2.2.2.2.2.1, (r3.2.2.2.2.2.2.2.2.2.2.2.2.2.2.2.1, (r3.2.2.2.2.2.2.2.2.2.2.2.2.2.2.2.2.1, (r3.2.2.2.2.2.2.2.2.2.2.2.2.2.2.2.2.2.1, (r3.2.2.2.2.2.2.2.2.2.2.2.2.2.2.2.2.2.2.1, (r3.2.2.2.2.2.2.2.2.2.2.2.2.2.2.2.2.2.2.2.1, (r3.2.2.2.2.2.2.2.2.2.2.2.2.2.2.2.2.2.2.2.2.1, ()))))))))) r4 r5 r1.2.2.2.2.2.2.2.2.2.2.2.2.2.2.2.2.2.2.2.2.2.2.2.2.2.2.2.2.2.2.2.2.1 r1.2.2.2.2.2.2.2.2.2.2.2.2.2.2.2.2.2.2.2.2.2.2.2.2.2.2.2.2.2.2.2.2.2.1) fun r6 =>
        law29_InnerBinds.j0 r6.2.1 r1 r6.1)
        (bnd (inner_Two r2 (r3.2.2.2.2.2.2.2.2.2.2.2.2.1, (r3.2.2.2.2.2.2.2.2.2.2.2.2.2.1, (r3.2.2.2.2.2.2.2.2.2.2.2.2.2.2.1, (r3.2.2.2.2.2.2.2.2.2.2.2.2.2.2.2.1, (r3.2.2.2.2.2.2.2.2.2.2.2.2.2.2.2.2.1, (r3.2.2.2.2.2.2.2.2.2.2.2.2.2.2.2.2.2.1, (r3.2.2.2.2.2.2.2.2.2.2.2.2.2.2.2.2.2.2.1, (r3.2.2.2.2.2.2.2.2.2.2.2.2.2.2.2.2.2.2.2.1, (r3.2.2.2.2.2.2.2.2.2.2.2.2.2.2.2.2.2.2.2.2.1, ()))))))))) r4 r5 r1.2.2.2.2.2.2.2.2.2.2.2.2.2.2.2.2.2.2.2.2.2.2.2.2.2.2.2.2.2.2.2.2.1 r1.2.2.2.2.2.2.2.2.2.2.2.2.2.2.2.2.2.2.2.2.2.2.2.2.2.2.2.2.2.2.2.2.2.1) fun r7 =>
        law29_InnerBinds.j0 r7.2.1 r1 r7.1))
       (bnd (base_Cut r1.2.2.2.2.2.2.2.2.2.2.2.2.2.2.2.2.2.2.2.2.2.2.2.2.2.2.2.2.2.2.2.1 (16 : Int)) fun r8 =>
       bnd (inner_Two r2 (r3.2.2.2.2.2.2.2.2.2.2.2.2.1, (r3.2.2.2.2.2.2.2.2.2.2.2.2.2.1, (r3.2.2.2.2.2.2.2.2.2.2.2.2.2.2.1, (r3.2.2.2.2.2.2.2.2.2.2.2.2.2.2.2.1, (r3.2.2.2.2.2.2.2.2.2.2.2.2.2.2.2.2.1, (r3.2.2.2.2.2.2.2.2.2.2.2.2.2.2.2.2.2.1, (r3.2.2.2.2.2.2.2.2.2.2.2.2.2.2.2.2.2.2.1, (r3.2.2.2.2.2.2.2.2.2.2.2.2.2.2.2.2.2.2.2.1, (r3.2.2.2.2.2.2.2.2.2.2.2.2.2.2.2.2.2.2.2.2.1, ()))))))))) r4 r8 r1.2.2.2.2.2.2.2.2.2.2.2.2.2.2.2.2.2.2.2.2.2.2.2.2.2.2.2.2.2.2.2.2.1 r1.2.2.2.2.2.2.2.2.2.2.2.2.2.2.2.2.2.2.2.2.2.2.2.2.2.2.2.2.2.2.2.2.2.1) fun r9 =>
       law29_InnerBinds.j0 r9.2.1 r1 r9.1))
      (bnd (base_Cut r1.2.2.2.2.2.2.2.2.2.2.2.2.2.2.2.2.2.2.2.2.2.2.2.2.2.2.2.2.2.2.1 (16 : Int)) fun r10 =>
      bnd (base_Cut r1.2.2.2.2.2.2.2.2.2.2.2.2.2.2.2.2.2.2.2.2.2.2.2.2.2.2.2.2.2.2.2.1 (16 : Int)) fun r11 =>
      bnd (inner_Two r2 (r3.2.2.2.2.2.2.2.2.2.2.2.2.1, (r3.2.2.2.2.2.2.2.2.2.2.2.2.2.1, (r3.2.2.2.2.2.2.2.2.2.2.2.2.2.2.1, (r3.2.2.2.2.2.2.2.2.2.2.2.2.2.2.2.1, (r3.2.2.2.2.2.2.2.2.2.2.2.2.2.2.2.2.1, (r3.2.2.2.2.2.2.2.2.2.2.2.2.2.2.2.2.2.1, (r3.2.2.2.2.2.2.2.2.2.2.2.2.2.2.2.2.2.2.1, (r3.2.2.2.2.2.2.2.2.2.2.2.2.2.2.2.2.2.2.2.1, (r3.2.2.2.2.2.2.2.2.2.2.2.2.2.2.2.2.2.2.2.2.1, ()))))))))) r10 r11 r1.2.2.2.2.2.2.2.2.2.2.2.2.2.2.2.2.2.2.2.2.2.2.2.2.2.2.2.2.2.2.2.2.1 r1.2.2.2.2.2.2.2.2.2.2.2.2.2.2.2.2.2.2.2.2.2.2.2.2.2.2.2.2.2.2.2.2.2.1) fun r12 =>
      law29_InnerBinds.j0 r12.2.1 r1 r12.1))
     (bnd (law29_few r1) fun r13 =>
     bnd (base_Cut r1.2.2.2.2.2.2.2.2.2.2.2.2.2.2.2.2.2.2.2.2.2.2.2.2.2.2.2.2.2.2.1 (16 : Int)) fun r14 =>
     bnd (base_Cut r1.2.2.2.2.2.2.2.2.2.2.2.2.2.2.2.2.2.2.2.2.2.2.2.2.2.2.2.2.2.2.2.1 (16 : Int)) fun r15 =>
     bnd (inner_Two r2 (r13.2.2.2.2.2.2.2.2.2.2.2.2.1, (r13.2.2.2.2.2.2.2.2.2.2.2.2.2.1, (r13.2.2.2.2.2.2.2.2.2.2.2.2.2.2.1, (r13.2.2.2.2.2.2.2.2.2.2.2.2.2.2.2.1, (r13.2.2.2.2.2.2.2.2.2.2.2.2.2.2.2.2.1, (r13.2.2.2.2.2.2.2.2.2.2.2.2.2.2.2.2.2.1, (r13.2.2.2.2.2.2.2.2.2.2.2.2.2.2.2.2.2.2.1, (r13.2.2.2.2.2.2.2.2.2.2.2.2.2.2.2.2.2.2.2.1, (r13.2.2.2.2.2.2.2.2.2.2.2.2.2.2.2.2.2.2.2.2.1, ()))))))))) r14 r15 r1.2.2.2.2.2.2.2.2.2.2.2.2.2.2.2.2.2.2.2.2.2.2.2.2.2.2.2.2.2.2.2.2.1 r1.2.2.2.2.2.2.2.2.2.2.2.2.2.2.2.2.2.2.2.2.2.2.2.2.2.2.2.2.2.2.2.2.2.1) fun r16 =>
     law29_InnerBinds.j0 r16.2.1 r1 r16.1))
    (bnd (law29_ref1 r1.2.1) fun r17 =>
    bnd (law29_few r1) fun r18 =>
    bnd (base_Cut r1.2.2.2.2.2.2.2.2.2.2.2.2.2.2.2.2.2.2.2.2.2.2.2.2.2.2.2.2.2.2.1 (16 : Int)) fun r19 =>
    bnd (base_Cut r1.2.2.2.2.2.2.2.2.2.2.2.2.2.2.2.2.2.2.2.2.2.2.2.2.2.2.2.2.2.2.2.1 (16 : Int)) fun r20 =>
    bnd (inner_Two r17 (r18.2.2.2.2.2.2.2.2.2.2.2.2.1, (r18.2.2.2.2.2.2.2.2.2.2.2.2.2.1, (r18.2.2.2.2.2.2.2.2.2.2.2.2.2.2.1, (r18.2.2.2.2.2.2.2.2.2.2.2.2.2.2.2.1, (r18.2.2.2.2.2.2.2.2.2.2.2.2.2.2.2.2.1, (r18.2.2.2.2.2.2.2.2.2.2.2.2.2.2.2.2.2.1, (r18.2.2.2.2.2.2.2.2.2.2.2.2.2.2.2.2.2.2.1, (r18.2.2.2.2.2.2.2.2.2.2.2.2.2.2.2.2.2.2.2.1, (r18.2.2.2.2.2.2.2.2.2.2.2.2.2.2.2.2.2.2.2.2.1, ()))))))))) r19 r20 r1.2.2.2.2.2.2.2.2.2.2.2.2.2.2.2.2.2.2.2.2.2.2.2.2.2.2.2.2.2.2.2.2.1 r1.2.2.2.2.2.2.2.2.2.2.2.2.2.2.2.2.2.2.2.2.2.2.2.2.2.2.2.2.2.2.2.2.2.1) fun r21 =>
    law29_InnerBinds.j0 r21.2.1 r1 r21.1)) :=
  (callW_eq (P := PP) (T := TT) (pr := RR) 4 [⟨tboscagelaw29Case, a0⟩] [] .bool []).trans (by kernel_rfl)
theorem law29_InnerBinds.j0.eq (x0 : den (.int .i64)) (x1 : denO (.box tboscagelaw29Case)) (x2 : denO (.box tplanPlan)) : law29_InnerBinds.j0 x0 x1 x2 =
  br (eqI x0 (0 : Int))
   (bnd (ref13_May (x1.2.2.2.2.2.2.2.2.2.2.2.2.1, (x1.2.2.2.2.2.2.2.2.2.2.2.2.2.1, (x1.2.2.2.2.2.2.2.2.2.2.2.2.2.2.1, (x1.2.2.2.2.2.2.2.2.2.2.2.2.2.2.2.1, (x1.2.2.2.2.2.2.2.2.2.2.2.2.2.2.2.2.1, (x1.2.2.2.2.2.2.2.2.2.2.2.2.2.2.2.2.2.1, (x1.2.2.2.2.2.2.2.2.2.2.2.2.2.2.2.2.2.2.1, (x1.2.2.2.2.2.2.2.2.2.2.2.2.2.2.2.2.2.2.2.1, (x1.2.2.2.2.2.2.2.2.2.2.2.2.2.2.2.2.2.2.2.2.1, ())))))))))) fun r0 =>
   law29_InnerBinds.j1 (eqI r0 (0 : Int)) x1 x2)
   (law29_InnerBinds.j1 false x1 x2) :=
  (congrFun (congrFun (jnO_eq [1, 1, 1, 1] (BF (R := den .bool) 4 0 [1, 1, 1, 1])) ⟨[(1, ⟨(.ptr 0 0), ()⟩), (3, ⟨(.ptr 1 0), ()⟩), (4, ⟨(.int .i64), x0⟩)], [⟨(.box tboscagelaw29Case), x1⟩, ⟨(.box tplanPlan), x2⟩]⟩) (finF 4 .bool [] 0)).trans (by kernel_rfl)
theorem law29_InnerBinds.j1.eq (x0 : den .bool) (x1 : denO (.box tboscagelaw29Case)) (x2 : denO (.box tplanPlan)) : law29_InnerBinds.j1 x0 x1 x2 =
  br x0
   (bnd (law29_ref1 x1.2.1) fun r0 =>
   bnd (law29_below x2.1 x2.2.1 r0 (x1.2.2.2.2.2.2.2.2.2.2.2.2.1, (x1.2.2.2.2.2.2.2.2.2.2.2.2.2.1, (x1.2.2.2.2.2.2.2.2.2.2.2.2.2.2.1, (x1.2.2.2.2.2.2.2.2.2.2.2.2.2.2.2.1, (x1.2.2.2.2.2.2.2.2.2.2.2.2.2.2.2.2.1, (x1.2.2.2.2.2.2.2.2.2.2.2.2.2.2.2.2.2.1, (x1.2.2.2.2.2.2.2.2.2.2.2.2.2.2.2.2.2.2.1, (x1.2.2.2.2.2.2.2.2.2.2.2.2.2.2.2.2.2.2.2.1, (x1.2.2.2.2.2.2.2.2.2.2.2.2.2.2.2.2.2.2.2.2.1, ()))))))))) (60 : Int)) fun r1 =>
   bnd (base_Cut x1.2.2.2.2.2.2.2.2.2.2.2.2.2.2.2.2.2.2.2.2.2.2.2.2.2.2.2.2.2.2.1 (16 : Int)) fun r2 =>
   bnd (base_Cut x1.2.2.2.2.2.2.2.2.2.2.2.2.2.2.2.2.2.2.2.2.2.2.2.2.2.2.2.2.2.2.2.1 (16 : Int)) fun r3 =>
   bnd (ref07_Make ((x1.2.2.2.2.2.2.2.2.2.2.2.2.2.1, (x1.2.2.2.2.2.2.2.2.2.2.2.2.2.2.1, ())) :: ((r2, (r3, ())) :: []))) fun r4 =>
   br (notB (eqI (ofN (lenL tapiPair r1)) (2 : Int)))
    (law29_InnerBinds.j2 true x1)
    (bnd (ref07_Make r1) fun r5 =>
    bnd (ref07_Same r5 r4) fun r6 =>
    br (notB r6)
     (law29_InnerBinds.j2 true x1)
     (bnd (plan_May x2) fun r7 =>
     law29_InnerBinds.j2 (notB (eqI r7 (0 : Int))) x1)))
   (law29_InnerBinds.j3 (notB (eqI x1.2.2.2.1 (3 : Int))) x1) :=
  (congrFun (congrFun (jnO_eq [1, 1, 1, 1, 0, 1] (BF (R := den .bool) 4 0 [1, 1, 1, 1, 0, 1])) ⟨[(1, ⟨(.ptr 0 0), ()⟩), (3, ⟨(.ptr 1 0), ()⟩), (41, ⟨.bool, x0⟩)], [⟨(.box tboscagelaw29Case), x1⟩, ⟨(.box tplanPlan), x2⟩]⟩) (seqK false [1, 1, 1, 1, 1] (BF 4 0 [1, 1, 1, 1, 1]) (finF 4 .bool [] 0))).trans (by kernel_rfl)
theorem law29_InnerBinds.j2.eq (x0 : den .bool) (x1 : denO (.box tboscagelaw29Case)) : law29_InnerBinds.j2 x0 x1 =
  br x0
   (some false)
   (law29_InnerBinds.j3 (notB (eqI x1.2.2.2.1 (3 : Int))) x1) :=
  (congrFun (congrFun (jnO_eq [1, 1, 1, 1, 0, 1, 0, 1, 1, 1] (BF (R := den .bool) 4 0 [1, 1, 1, 1, 0, 1, 0, 1, 1, 1])) ⟨[(1, ⟨(.ptr 0 0), ()⟩), (82, ⟨.bool, x0⟩)], [⟨(.box tboscagelaw29Case), x1⟩]⟩) (seqK false [1, 1, 1, 1, 1] (BF 4 0 [1, 1, 1, 1, 1]) (finF 4 .bool [] 0))).trans (by kernel_rfl)
theorem law29_InnerBinds.j3.eq (x0 : den .bool) (x1 : denO (.box tboscagelaw29Case)) : law29_InnerBinds.j3 x0 x1 =
  br x0
   (some true)
   (both
    (bnd (law29_few x1) fun r0 =>
    both
     (bnd (inner_Put (9 : Int) (r0.2.2.2.1, (r0.2.2.2.2.1, (r0.2.2.2.2.2.1, (r0.2.2.2.2.2.2.1, (r0.2.2.2.2.2.2.2.1, (r0.2.2.2.2.2.2.2.2.1, (r0.2.2.2.2.2.2.2.2.2.1, (r0.2.2.2.2.2.2.2.2.2.2.1, (r0.2.2.2.2.2.2.2.2.2.2.2.1, ()))))))))) (0 : Int) ((0 : Int), (ByteArray.empty, (ByteArray.empty, ((0 : Int), ([], ((0 : Int), ([], ((0 : Int), ((0 : Int), ()))))))))) x1.2.2.2.2.2.2.2.2.2.2.2.2.2.2.2.2.2.2.2.2.2.2.2.2.2.2.2.2.2.2.1 x1.2.2.2.2.2.2.2.2.2.2.2.2.2.2.2.2.2.2.2.2.2.2.2.2.2.2.2.2.2.2.2.1 x1.2.2.2.2.2.2.2.2.2.2.2.2.2.2.2.2.2.2.2.2.2.2.2.2.2.2.2.2.2.2.2.2.1 x1.2.2.2.2.2.2.2.2.2.2.2.2.2.2.2.2.2.2.2.2.2.2.2.2.2.2.2.2.2.2.2.2.2.1) fun r1 =>
     law29_InnerBinds.j4 r1.2.1 x1 r1.1)
     (bnd (inner_Put (9 : Int) (r0.2.2.2.1, (r0.2.2.2.2.1, (r0.2.2.2.2.2.1, (r0.2.2.2.2.2.2.1, (r0.2.2.2.2.2.2.2.1, (r0.2.2.2.2.2.2.2.2.1, (r0.2.2.2.2.2.2.2.2.2.1, (r0.2.2.2.2.2.2.2.2.2.2.1, (r0.2.2.2.2.2.2.2.2.2.2.2.1, ()))))))))) (0 : Int) ((0 : Int), (ByteArray.empty, (ByteArray.empty, ((0 : Int), ([], ((0 : Int), ([], ((0 : Int), ((0 : Int), ()))))))))) x1.2.2.2.2.2.2.2.2.2.2.2.2.2.2.2.2.2.2.2.2.2.2.2.2.2.2.2.2.2.2.1 x1.2.2.2.2.2.2.2.2.2.2.2.2.2.2.2.2.2.2.2.2.2.2.2.2.2.2.2.2.2.2.2.1 x1.2.2.2.2.2.2.2.2.2.2.2.2.2.2.2.2.2.2.2.2.2.2.2.2.2.2.2.2.2.2.2.2.1 x1.2.2.2.2.2.2.2.2.2.2.2.2.2.2.2.2.2.2.2.2.2.2.2.2.2.2.2.2.2.2.2.2.2.1) fun r2 =>
     law29_InnerBinds.j4 r2.2.1 x1 r2.1))
    (bnd (law29_few x1) fun r3 =>
    bnd (inner_Put (9 : Int) (r3.2.2.2.1, (r3.2.2.2.2.1, (r3.2.2.2.2.2.1, (r3.2.2.2.2.2.2.1, (r3.2.2.2.2.2.2.2.1, (r3.2.2.2.2.2.2.2.2.1, (r3.2.2.2.2.2.2.2.2.2.1, (r3.2.2.2.2.2.2.2.2.2.2.1, (r3.2.2.2.2.2.2.2.2.2.2.2.1, ()))))))))) (0 : Int) ((0 : Int), (ByteArray.empty, (ByteArray.empty, ((0 : Int), ([], ((0 : Int), ([], ((0 : Int), ((0 : Int), ()))))))))) x1.2.2.2.2.2.2.2.2.2.2.2.2.2.2.2.2.2.2.2.2.2.2.2.2.2.2.2.2.2.2.1 x1.2.2.2.2.2.2.2.2.2.2.2.2.2.2.2.2.2.2.2.2.2.2.2.2.2.2.2.2.2.2.2.1 x1.2.2.2.2.2.2.2.2.2.2.2.2.2.2.2.2.2.2.2.2.2.2.2.2.2.2.2.2.2.2.2.2.1 x1.2.2.2.2.2.2.2.2.2.2.2.2.2.2.2.2.2.2.2.2.2.2.2.2.2.2.2.2.2.2.2.2.2.1) fun r4 =>
    law29_InnerBinds.j4 r4.2.1 x1 r4.1)) :=
  (congrFun (congrFun (jnO_eq [1, 1, 1, 1, 1, 0, 1] (BF (R := den .bool) 4 0 [1, 1, 1, 1, 1, 0, 1])) ⟨[(1, ⟨(.ptr 0 0), ()⟩), (86, ⟨.bool, x0⟩)], [⟨(.box tboscagelaw29Case), x1⟩]⟩) (seqK false [1, 1, 1, 1, 1, 1] (BF 4 0 [1, 1, 1, 1, 1, 1]) (finF 4 .bool [] 0))).trans (by kernel_rfl)
theorem law29_InnerBinds.j4.eq (x0 : den (.int .i64)) (x1 : denO (.box tboscagelaw29Case)) (x2 : denO (.box tplanPlan)) : law29_InnerBinds.j4 x0 x1 x2 =
  both
   (bnd (law29_few x1) fun r0 =>
   both
    (bnd (inner_Drop (9 : Int) (r0.2.2.2.1, (r0.2.2.2.2.1, (r0.2.2.2.2.2.1, (r0.2.2.2.2.2.2.1, (r0.2.2.2.2.2.2.2.1, (r0.2.2.2.2.2.2.2.2.1, (r0.2.2.2.2.2.2.2.2.2.1, (r0.2.2.2.2.2.2.2.2.2.2.1, (r0.2.2.2.2.2.2.2.2.2.2.2.1, ()))))))))) (0 : Int) ((0 : Int), (ByteArray.empty, (ByteArray.empty, ((0 : Int), ([], ((0 : Int), ([], ((0 : Int), ((0 : Int), ()))))))))) ((0 : Int), (ByteArray.empty, (ByteArray.empty, ((0 : Int), ([], ((0 : Int), ([], ((0 : Int), ((0 : Int), ()))))))))) x1.2.2.2.2.2.2.2.2.2.2.2.2.2.2.2.2.2.2.2.2.2.2.2.2.2.2.2.2.2.2.1 x1.2.2.2.2.2.2.2.2.2.2.2.2.2.2.2.2.2.2.2.2.2.2.2.2.2.2.2.2.2.2.2.2.1 x1.2.2.2.2.2.2.2.2.2.2.2.2.2.2.2.2.2.2.2.2.2.2.2.2.2.2.2.2.2.2.2.2.2.1) fun r1 =>
    law29_InnerBinds.j5 x0 r1.2.1 x1 x2 r1.1)
    (bnd (inner_Drop (9 : Int) (r0.2.2.2.1, (r0.2.2.2.2.1, (r0.2.2.2.2.2.1, (r0.2.2.2.2.2.2.1, (r0.2.2.2.2.2.2.2.1, (r0.2.2.2.2.2.2.2.2.1, (r0.2.2.2.2.2.2.2.2.2.1, (r0.2.2.2.2.2.2.2.2.2.2.1, (r0.2.2.2.2.2.2.2.2.2.2.2.1, ()))))))))) (0 : Int) ((0 : Int), (ByteArray.empty, (ByteArray.empty, ((0 : Int), ([], ((0 : Int), ([], ((0 : Int), ((0 : Int), ()))))))))) ((0 : Int), (ByteArray.empty, (ByteArray.empty, ((0 : Int), ([], ((0 : Int), ([], ((0 : Int), ((0 : Int), ()))))))))) x1.2.2.2.2.2.2.2.2.2.2.2.2.2.2.2.2.2.2.2.2.2.2.2.2.2.2.2.2.2.2.1 x1.2.2.2.2.2.2.2.2.2.2.2.2.2.2.2.2.2.2.2.2.2.2.2.2.2.2.2.2.2.2.2.2.1 x1.2.2.2.2.2.2.2.2.2.2.2.2.2.2.2.2.2.2.2.2.2.2.2.2.2.2.2.2.2.2.2.2.2.1) fun r2 =>
    law29_InnerBinds.j5 x0 r2.2.1 x1 x2 r2.1))
   (bnd (law29_few x1) fun r3 =>
   bnd (inner_Drop (9 : Int) (r3.2.2.2.1, (r3.2.2.2.2.1, (r3.2.2.2.2.2.1, (r3.2.2.2.2.2.2.1, (r3.2.2.2.2.2.2.2.1, (r3.2.2.2.2.2.2.2.2.1, (r3.2.2.2.2.2.2.2.2.2.1, (r3.2.2.2.2.2.2.2.2.2.2.1, (r3.2.2.2.2.2.2.2.2.2.2.2.1, ()))))))))) (0 : Int) ((0 : Int), (ByteArray.empty, (ByteArray.empty, ((0 : Int), ([], ((0 : Int), ([], ((0 : Int), ((0 : Int), ()))))))))) ((0 : Int), (ByteArray.empty, (ByteArray.empty, ((0 : Int), ([], ((0 : Int), ([], ((0 : Int), ((0 : Int), ()))))))))) x1.2.2.2.2.2.2.2.2.2.2.2.2.2.2.2.2.2.2.2.2.2.2.2.2.2.2.2.2.2.2.1 x1.2.2.2.2.2.2.2.2.2.2.2.2.2.2.2.2.2.2.2.2.2.2.2.2.2.2.2.2.2.2.2.2.1 x1.2.2.2.2.2.2.2.2.2.2.2.2.2.2.2.2.2.2.2.2.2.2.2.2.2.2.2.2.2.2.2.2.2.1) fun r4 =>
   law29_InnerBinds.j5 x0 r4.2.1 x1 x2 r4.1) :=
  (congrFun (congrFun (jnO_eq [1, 1, 1, 1, 1, 1, 1] (BF (R := den .bool) 4 0 [1, 1, 1, 1, 1, 1, 1])) ⟨[(1, ⟨(.ptr 0 0), ()⟩), (4, ⟨(.int .i64), x0⟩), (7, ⟨(.ptr 1 0), ()⟩)], [⟨(.box tboscagelaw29Case), x1⟩, ⟨(.box tplanPlan), x2⟩]⟩) (finF 4 .bool [] 0)).trans (by kernel_rfl)
theorem law29_InnerBinds.j5.eq (x0 : den (.int .i64)) (x1 : den (.int .i64)) (x2 : denO (.box tboscagelaw29Case)) (x3 : denO (.box tplanPlan)) (x4 : denO (.box tplanPlan)) : law29_InnerBinds.j5 x0 x1 x2 x3 x4 =
  br (notB (eqI x0 (0 : Int)))
   (law29_InnerBinds.j6 x1 true x2 x4)
   (br (notB (eqI (ofN (lenL tapiNode x3.1)) (1 : Int)))
    (law29_InnerBinds.j6 x1 true x2 x4)
    (br (andB (leI (0 : Int) (0 : Int)) (ltI (0 : Int) (ofN (lenL tapiNode x3.1)))) (bnd (ref13_Binds (ixL tapiNode x3.1 (0 : Int))) fun r0 =>
    bnd (ref07_Put x2.2.2.2.2.2.2.2.2.2.1 x2.2.2.2.2.2.2.2.2.2.2.2.2.2.2.2.2.2.2.2.2.2.2.2.2.2.2.2.2.2.2.1 x2.2.2.2.2.2.2.2.2.2.2.2.2.2.2.2.2.2.2.2.2.2.2.2.2.2.2.2.2.2.2.2.1) fun r1 =>
    bnd (ref07_Same r0 r1) fun r2 =>
    law29_InnerBinds.j6 x1 (notB r2) x2 x4) none)) :=
  (congrFun (congrFun (jnO_eq [1, 1, 1, 1, 1, 1, 1, 1] (BF (R := den .bool) 4 0 [1, 1, 1, 1, 1, 1, 1, 1])) ⟨[(1, ⟨(.ptr 0 0), ()⟩), (4, ⟨(.int .i64), x0⟩), (7, ⟨(.ptr 1 0), ()⟩), (8, ⟨(.ptr 2 0), ()⟩), (9, ⟨(.int .i64), x1⟩)], [⟨(.box tboscagelaw29Case), x2⟩, ⟨(.box tplanPlan), x3⟩, ⟨(.box tplanPlan), x4⟩]⟩) (finF 4 .bool [] 0)).trans (by kernel_rfl)
theorem law29_InnerBinds.j6.eq (x0 : den (.int .i64)) (x1 : den .bool) (x2 : denO (.box tboscagelaw29Case)) (x3 : denO (.box tplanPlan)) : law29_InnerBinds.j6 x0 x1 x2 x3 =
  br x1
   (some false)
   (br (notB (eqI x0 (0 : Int)))
    (some true)
    (br (eqI (ofN (lenL tapiNode x3.1)) (1 : Int))
     (br (andB (leI (0 : Int) (0 : Int)) (ltI (0 : Int) (ofN (lenL tapiNode x3.1)))) (bnd (ref13_Binds (ixL tapiNode x3.1 (0 : Int))) fun r0 =>
     bnd (ref07_Drop x2.2.2.2.2.2.2.2.2.2.1 x2.2.2.2.2.2.2.2.2.2.2.2.2.2.2.2.2.2.2.2.2.2.2.2.2.2.2.2.2.2.2.1) fun r1 =>
     bnd (ref07_Same r0 r1) fun r2 =>
     some r2) none)
     (some false))) :=
  (congrFun (congrFun (jnO_eq [1, 1, 1, 1, 1, 1, 1, 1, 0, 1] (BF (R := den .bool) 4 0 [1, 1, 1, 1, 1, 1, 1, 1, 0, 1])) ⟨[(1, ⟨(.ptr 0 0), ()⟩), (8, ⟨(.ptr 1 0), ()⟩), (9, ⟨(.int .i64), x0⟩), (142, ⟨.bool, x1⟩)], [⟨(.box tboscagelaw29Case), x2⟩, ⟨(.box tplanPlan), x3⟩]⟩) (seqK false [1, 1, 1, 1, 1, 1, 1, 1, 1] (BF 4 0 [1, 1, 1, 1, 1, 1, 1, 1, 1]) (finF 4 .bool [] 0))).trans (by kernel_rfl)
theorem law29_few.eq (a0 : den tboscagelaw29Case) : law29_few a0 =
  bnd (law13_Few (a0.2.2.2.1, (a0.2.2.2.2.1, (a0.2.2.2.2.2.1, (a0.2.2.2.2.2.2.1, (a0.2.2.2.2.2.2.2.1, (a0.2.2.2.2.2.2.2.2.1, (a0.2.2.2.2.2.2.2.2.2.1, (a0.2.2.2.2.2.2.2.2.2.2.1, (a0.2.2.2.2.2.2.2.2.2.2.2.1, ())))))))))) fun r0 =>
  bnd (law13_Few (a0.2.2.2.2.2.2.2.2.2.2.2.2.1, (a0.2.2.2.2.2.2.2.2.2.2.2.2.2.1, (a0.2.2.2.2.2.2.2.2.2.2.2.2.2.2.1, (a0.2.2.2.2.2.2.2.2.2.2.2.2.2.2.2.1, (a0.2.2.2.2.2.2.2.2.2.2.2.2.2.2.2.2.1, (a0.2.2.2.2.2.2.2.2.2.2.2.2.2.2.2.2.2.1, (a0.2.2.2.2.2.2.2.2.2.2.2.2.2.2.2.2.2.2.1, (a0.2.2.2.2.2.2.2.2.2.2.2.2.2.2.2.2.2.2.2.1, (a0.2.2.2.2.2.2.2.2.2.2.2.2.2.2.2.2.2.2.2.2.1, ())))))))))) fun r1 =>
  bnd (law13_Few (a0.2.2.2.2.2.2.2.2.2.2.2.2.2.2.2.2.2.2.2.2.2.1, (a0.2.2.2.2.2.2.2.2.2.2.2.2.2.2.2.2.2.2.2.2.2.2.1, (a0.2.2.2.2.2.2.2.2.2.2.2.2.2.2.2.2.2.2.2.2.2.2.2.1, (a0.2.2.2.2.2.2.2.2.2.2.2.2.2.2.2.2.2.2.2.2.2.2.2.2.1, (a0.2.2.2.2.2.2.2.2.2.2.2.2.2.2.2.2.2.2.2.2.2.2.2.2.2.1, (a0.2.2.2.2.2.2.2.2.2.2.2.2.2.2.2.2.2.2.2.2.2.2.2.2.2.2.1, (a0.2.2.2.2.2.2.2.2.2.2.2.2.2.2.2.2.2.2.2.2.2.2.2.2.2.2.2.1, (a0.2.2.2.2.2.2.2.2.2.2.2.2.2.2.2.2.2.2.2.2.2.2.2.2.2.2.2.2.1, (a0.2.2.2.2.2.2.2.2.2.2.2.2.2.2.2.2.2.2.2.2.2.2.2.2.2.2.2.2.2.1, ())))))))))) fun r2 =>
  law29_few.l0 (0 : Int) (a0.1, (a0.2.1, (a0.2.2.1, (r0.1.1, (r0.1.2.1, (r0.1.2.2.1, (r0.1.2.2.2.1, ((), (r0.1.2.2.2.2.2.1, (r0.1.2.2.2.2.2.2.1, (r0.1.2.2.2.2.2.2.2.1, (r0.1.2.2.2.2.2.2.2.2.1, (r1.1.1, (r1.1.2.1, (r1.1.2.2.1, (r1.1.2.2.2.1, ((), (r1.1.2.2.2.2.2.1, (r1.1.2.2.2.2.2.2.1, (r1.1.2.2.2.2.2.2.2.1, (r1.1.2.2.2.2.2.2.2.2.1, (r2.1.1, (r2.1.2.1, (r2.1.2.2.1, (r2.1.2.2.2.1, ((), (r2.1.2.2.2.2.2.1, (r2.1.2.2.2.2.2.2.1, (r2.1.2.2.2.2.2.2.2.1, (r2.1.2.2.2.2.2.2.2.2.1, a0.2.2.2.2.2.2.2.2.2.2.2.2.2.2.2.2.2.2.2.2.2.2.2.2.2.2.2.2.2.2)))))))))))))))))))))))))))))) ((0 : Int), ((0 : Int), ((0 : Int), ((0 : Int), (ByteArray.empty, (ByteArray.empty, ((0 : Int), ((), ((0 : Int), ((), ((0 : Int), ((0 : Int), ((0 : Int), (ByteArray.empty, (ByteArray.empty, ((0 : Int), ((), ((0 : Int), ((), ((0 : Int), ((0 : Int), ((0 : Int), (ByteArray.empty, (ByteArray.empty, ((0 : Int), ((), ((0 : Int), ((), ((0 : Int), ((0 : Int), (ByteArray.empty, (ByteArray.empty, ((0 : Int), ((0 : Int), ())))))))))))))))))))))))))))))))))) r0.2.1 r1.2.1 r2.2.1 [] [] [] [] [] [] :=
  (callW_eq (P := PP) (T := TT) (pr := RR) 5 [⟨tboscagelaw29Case, a0⟩] [] tboscagelaw29Case []).trans (by kernel_rfl)
theorem law29_few.l0.eq (x0 : den (.int .i64)) (x1 : denO (.box (.pair (.int .u16) (.pair (.int .u16) (.pair (.int .u16) (.pair (.int .i64) (.pair .str (.pair .str (.pair (.int .u32) (.pair (.own (.int .i64) 2) (.pair (.int .i64) (.pair (.list tapiPair) (.pair (.int .i64) (.pair (.int .i64) (.pair (.int .i64) (.pair .str (.pair .str (.pair (.int .u32) (.pair (.own (.int .i64) 3) (.pair (.int .i64) (.pair (.list tapiPair) (.pair (.int .i64) (.pair (.int .i64) (.pair (.int .i64) (.pair .str (.pair .str (.pair (.int .u32) (.pair (.own (.int .i64) 4) (.pair (.int .i64) (.pair (.list tapiPair) (.pair (.int .i64) (.pair (.int .i64) (.pair .str (.pair .str (.pair (.int .i64) (.pair (.int .i64) .unit)))))))))))))))))))))))))))))))))))) (x2 : denO (.box (.pair (.int .u16) (.pair (.int .u16) (.pair (.int .u16) (.pair (.int .i64) (.pair .str (.pair .str (.pair (.int .u32) (.pair (.own (.int .i64) 5) (.pair (.int .i64) (.pair (.own tapiPair 6) (.pair (.int .i64) (.pair (.int .i64) (.pair (.int .i64) (.pair .str (.pair .str (.pair (.int .u32) (.pair (.own (.int .i64) 7) (.pair (.int .i64) (.pair (.own tapiPair 8) (.pair (.int .i64) (.pair (.int .i64) (.pair (.int .i64) (.pair .str (.pair .str (.pair (.int .u32) (.pair (.own (.int .i64) 9) (.pair (.int .i64) (.pair (.own tapiPair 10) (.pair (.int .i64) (.pair (.int .i64) (.pair .str (.pair .str (.pair (.int .i64) (.pair (.int .i64) .unit)))))))))))))))))))))))))))))))))))) (x3 : denO (.row 25 (.int .i64) false)) (x4 : denO (.row 25 (.int .i64) false)) (x5 : denO (.row 25 (.int .i64) false)) (x6 : denO (.row 25 (.int .i64) false)) (x7 : denO (.row 52 tapiPair false)) (x8 : denO (.row 25 (.int .i64) false)) (x9 : denO (.row 52 tapiPair false)) (x10 : denO (.row 25 (.int .i64) false)) (x11 : denO (.row 52 tapiPair false)) : law29_few.l0 x0 x1 x2 x3 x4 x5 x6 x7 x8 x9 x10 x11 =
  br (ltI x0 (ofN (lenL (.int .i64) x3)))
   (br (andB (leI (0 : Int) x0) (ltI x0 (ofN (lenL (.int .i64) x3)))) (br (andB (leI (0 : Int) x0) (ltI x0 (ofN (lenL (.int .i64) x3)))) (law29_few.l0 (addI .i64 x0 (1 : Int)) x1 x2 (setL (.int .i64) x3 x0 (maxI (ixL (.int .i64) x3 x0) (1 : Int))) x4 x5 x6 x7 x8 x9 x10 x11) none) none)
   (bnd (base_Cut x1.2.2.2.2.2.2.2.2.2.2.2.2.2.2.2.2.2.2.2.2.2.2.2.2.2.2.2.2.2.2.1 (40 : Int)) fun r0 =>
   bnd (base_Cut x1.2.2.2.2.2.2.2.2.2.2.2.2.2.2.2.2.2.2.2.2.2.2.2.2.2.2.2.2.2.2.2.1 (40 : Int)) fun r1 =>
   some (x1.1, (x1.2.1, (x1.2.2.1, (x1.2.2.2.1, (x1.2.2.2.2.1, (x1.2.2.2.2.2.1, (x1.2.2.2.2.2.2.1, (x3, (x1.2.2.2.2.2.2.2.2.1, (x1.2.2.2.2.2.2.2.2.2.1, (x1.2.2.2.2.2.2.2.2.2.2.1, (x1.2.2.2.2.2.2.2.2.2.2.2.1, (x1.2.2.2.2.2.2.2.2.2.2.2.2.1, (x1.2.2.2.2.2.2.2.2.2.2.2.2.2.1, (x1.2.2.2.2.2.2.2.2.2.2.2.2.2.2.1, (x1.2.2.2.2.2.2.2.2.2.2.2.2.2.2.2.1, (x4, (x1.2.2.2.2.2.2.2.2.2.2.2.2.2.2.2.2.2.1, (x1.2.2.2.2.2.2.2.2.2.2.2.2.2.2.2.2.2.2.1, (x1.2.2.2.2.2.2.2.2.2.2.2.2.2.2.2.2.2.2.2.1, (x1.2.2.2.2.2.2.2.2.2.2.2.2.2.2.2.2.2.2.2.2.1, (x1.2.2.2.2.2.2.2.2.2.2.2.2.2.2.2.2.2.2.2.2.2.1, (x1.2.2.2.2.2.2.2.2.2.2.2.2.2.2.2.2.2.2.2.2.2.2.1, (x1.2.2.2.2.2.2.2.2.2.2.2.2.2.2.2.2.2.2.2.2.2.2.2.1, (x1.2.2.2.2.2.2.2.2.2.2.2.2.2.2.2.2.2.2.2.2.2.2.2.2.1, (x5, (x1.2.2.2.2.2.2.2.2.2.2.2.2.2.2.2.2.2.2.2.2.2.2.2.2.2.2.1, (x1.2.2.2.2.2.2.2.2.2.2.2.2.2.2.2.2.2.2.2.2.2.2.2.2.2.2.2.1, (x1.2.2.2.2.2.2.2.2.2.2.2.2.2.2.2.2.2.2.2.2.2.2.2.2.2.2.2.2.1, (x1.2.2.2.2.2.2.2.2.2.2.2.2.2.2.2.2.2.2.2.2.2.2.2.2.2.2.2.2.2.1, (r0, (r1, x1.2.2.2.2.2.2.2.2.2.2.2.2.2.2.2.2.2.2.2.2.2.2.2.2.2.2.2.2.2.2.2.2))))))))))))))))))))))))))))))))) :=
  (loopB_eq (P := PP) (T := TT) (C := CF) [1, 1, 0, 1, 0, 0] [1, 1, 0, 1, 0, 0] 5 0 ⟨[(1, ⟨(.ptr 0 0), ()⟩), (2, ⟨(.ptr 1 0), ()⟩), (3, ⟨(.int .i64), x0⟩)], [⟨(.box (.pair (.int .u16) (.pair (.int .u16) (.pair (.int .u16) (.pair (.int .i64) (.pair .str (.pair .str (.pair (.int .u32) (.pair (.own (.int .i64) 2) (.pair (.int .i64) (.pair (.list tapiPair) (.pair (.int .i64) (.pair (.int .i64) (.pair (.int .i64) (.pair .str (.pair .str (.pair (.int .u32) (.pair (.own (.int .i64) 3) (.pair (.int .i64) (.pair (.list tapiPair) (.pair (.int .i64) (.pair (.int .i64) (.pair (.int .i64) (.pair .str (.pair .str (.pair (.int .u32) (.pair (.own (.int .i64) 4) (.pair (.int .i64) (.pair (.list tapiPair) (.pair (.int .i64) (.pair (.int .i64) (.pair .str (.pair .str (.pair (.int .i64) (.pair (.int .i64) .unit))))))))))))))))))))))))))))))))))), x1⟩, ⟨(.box (.pair (.int .u16) (.pair (.int .u16) (.pair (.int .u16) (.pair (.int .i64) (.pair .str (.pair .str (.pair (.int .u32) (.pair (.own (.int .i64) 5) (.pair (.int .i64) (.pair (.own tapiPair 6) (.pair (.int .i64) (.pair (.int .i64) (.pair (.int .i64) (.pair .str (.pair .str (.pair (.int .u32) (.pair (.own (.int .i64) 7) (.pair (.int .i64) (.pair (.own tapiPair 8) (.pair (.int .i64) (.pair (.int .i64) (.pair (.int .i64) (.pair .str (.pair .str (.pair (.int .u32) (.pair (.own (.int .i64) 9) (.pair (.int .i64) (.pair (.own tapiPair 10) (.pair (.int .i64) (.pair (.int .i64) (.pair .str (.pair .str (.pair (.int .i64) (.pair (.int .i64) .unit))))))))))))))))))))))))))))))))))), x2⟩, ⟨(.row 25 (.int .i64) false), x3⟩, ⟨(.row 25 (.int .i64) false), x4⟩, ⟨(.row 25 (.int .i64) false), x5⟩, ⟨(.row 25 (.int .i64) false), x6⟩, ⟨(.row 52 tapiPair false), x7⟩, ⟨(.row 25 (.int .i64) false), x8⟩, ⟨(.row 52 tapiPair false), x9⟩, ⟨(.row 25 (.int .i64) false), x10⟩, ⟨(.row 52 tapiPair false), x11⟩]⟩ (blockK 0 (seqK false [1, 1, 1] (BF 5 0 [1, 1, 1]) (finF 5 tboscagelaw29Case [] 0)))).trans (by kernel_rfl)
theorem law29_ref1.eq (a0 : den (.int .u16)) : law29_ref1 a0 =
  some (addI .i64 (1 : Int) (wrapI .i64 a0)) :=
  (callW_eq (P := PP) (T := TT) (pr := RR) 7 [⟨(.int .u16), a0⟩] [] (.int .i64) []).trans (by kernel_rfl)
theorem inner_Two.eq (a0 : den (.int .i64)) (a1 : den tapiNode) (a2 : den .str) (a3 : den .str) (a4 : den (.int .i64)) (a5 : den (.int .i64)) : inner_Two a0 a1 a2 a3 a4 a5 =
  br (notB (eqI a1.1 (1 : Int)))
   (some (([], ((0 : Int), ([], ()))), ((4 : Int), ())))
   (br (eqS a1.2.1 a2)
    (some (([], ((0 : Int), ([], ()))), ((4 : Int), ())))
    (bnd (inner_two ((), ((0 : Int), ((), ()))) a0 a1 a2 a3 a4 a5) fun r0 =>
    br (notB r0.1.2.2.1)
     (some ((r0.2.1, (r0.1.2.1, ((a0 :: []), ()))), ((0 : Int), ())))
     (some ((r0.2.1, (r0.1.2.1, (r0.2.2.1, ()))), ((0 : Int), ()))))) :=
  (callW_eq (P := PP) (T := TT) (pr := RR) 6 [⟨(.int .i64), a0⟩, ⟨tapiNode, a1⟩, ⟨.str, a2⟩, ⟨.str, a3⟩, ⟨(.int .i64), a4⟩, ⟨(.int .i64), a5⟩] [] (.tcons tplanPlan (.tcons (.int .i64) .tnil)) []).trans (by kernel_rfl)
theorem ref29_Two.eq (a0 : den (.int .i64)) (a1 : den tapiNode) (a2 : den .str) (a3 : den .str) (a4 : den (.int .i64)) (a5 : den (.int .i64)) : ref29_Two a0 a1 a2 a3 a4 a5 =
  br (notB (eqI a1.1 (1 : Int)))
   (ref29_Two.j0 a0 a2 a3 a4 a5 true a1 ((), ((0 : Int), ((), ()))) [] [])
   (ref29_Two.j0 a0 a2 a3 a4 a5 (eqS a1.2.1 a2) a1 ((), ((0 : Int), ((), ()))) [] []) :=
  (callW_eq (P := PP) (T := TT) (pr := RR) 8 [⟨(.int .i64), a0⟩, ⟨tapiNode, a1⟩, ⟨.str, a2⟩, ⟨.str, a3⟩, ⟨(.int .i64), a4⟩, ⟨(.int .i64), a5⟩] [] (.tcons tplanPlan (.tcons .bool .tnil)) []).trans (by kernel_rfl)
theorem ref29_Two.j0.eq (x0 : den (.int .i64)) (x1 : den .str) (x2 : den .str) (x3 : den (.int .i64)) (x4 : den (.int .i64)) (x5 : den .bool) (x6 : denO (.box tapiNode)) (x7 : denO (.box (.pair (.own tapiNode 2) (.pair (.int .i64) (.pair (.own (.int .i64) 3) .unit))))) (x8 : denO (.row 28 tapiNode false)) (x9 : denO (.row 25 (.int .i64) false)) : ref29_Two.j0 x0 x1 x2 x3 x4 x5 x6 x7 x8 x9 =
  br x5
   (some (([], ((0 : Int), ([], ()))), (false, ())))
   (bnd (ref29_At x3 x4) fun r0 =>
   bnd (ref29_two x0 x6 x1 x2 r0 x4) fun r1 =>
   br r1.1.2.1
    (bnd (ref29_plan1 r1.2.1 (x0 :: [])) fun r2 =>
    some (r2, (true, ())))
    (bnd (ref29_plan1 r1.2.1 []) fun r3 =>
    some (r3, (true, ())))) :=
  (congrFun (congrFun (jnO_eq [1, 0, 1] (BF (R := den (.tcons tplanPlan (.tcons .bool .tnil))) 8 0 [1, 0, 1])) ⟨[(0, ⟨(.int .i64), x0⟩), (2, ⟨.str, x1⟩), (3, ⟨.str, x2⟩), (4, ⟨(.int .i64), x3⟩), (5, ⟨(.int .i64), x4⟩), (7, ⟨(.ptr 0 0), ()⟩), (12, ⟨(.ptr 1 0), ()⟩), (24, ⟨.bool, x5⟩)], [⟨(.box tapiNode), x6⟩, ⟨(.box (.pair (.own tapiNode 2) (.pair (.int .i64) (.pair (.own (.int .i64) 3) .unit)))), x7⟩, ⟨(.row 28 tapiNode false), x8⟩, ⟨(.row 25 (.int .i64) false), x9⟩]⟩) (seqK false [1, 1] (BF 8 0 [1, 1]) (finF 8 (.tcons tplanPlan (.tcons .bool .tnil)) [] 0))).trans (by kernel_rfl)
theorem law29_told.eq (a0 : den tplanPlan) (a1 : den (.int .i64)) (a2 : den tplanPlan) (a3 : den .bool) : law29_told a0 a1 a2 a3 =
  br (notB a3)
   (br (eqI a1 (4 : Int))
    (br (eqI (addI .i64 (ofN (lenL tapiNode a0.1)) (ofN (lenL (.int .i64) a0.2.2.1))) (0 : Int))
     (some (eqI a0.2.1 (0 : Int)))
     (some false))
    (some false))
   (br (eqI a1 (0 : Int))
    (bnd (law18_Back a0) fun r0 =>
    bnd (ref29_Same r0 a2) fun r1 =>
    some r1)
    (some false)) :=
  (callW_eq (P := PP) (T := TT) (pr := RR) 9 [⟨tplanPlan, a0⟩, ⟨(.int .i64), a1⟩, ⟨tplanPlan, a2⟩, ⟨.bool, a3⟩] [] .bool []).trans (by kernel_rfl)
theorem law29_ref0.eq (a0 : den (.int .u16)) : law29_ref0 a0 =
  some (wrapI .i64 a0) :=
  (callW_eq (P := PP) (T := TT) (pr := RR) 11 [⟨(.int .u16), a0⟩] [] (.int .i64) []).trans (by kernel_rfl)
theorem inner_Put.eq (a0 : den (.int .i64)) (a1 : den tapiNode) (a2 : den (.int .i64)) (a3 : den tapiNode) (a4 : den .str) (a5 : den .str) (a6 : den (.int .i64)) (a7 : den (.int .i64)) : inner_Put a0 a1 a2 a3 a4 a5 a6 a7 =
  br (eqI a1.1 (3 : Int))
   (bnd (node_Binds a1) fun r0 =>
   bnd (pair_Put r0.2.1 a4 a5) fun r1 =>
   bnd (node_Bucket r1) fun r2 =>
   bnd (plan_Add ((), ((0 : Int), ((), ()))) r2 (a0 :: [])) fun r3 =>
   some ((r3.2.2.1, (r3.1.2.1, (r3.2.1, ()))), ((0 : Int), ())))
   (br (notB (eqI a1.1 (2 : Int)))
    (inner_Put.j0 a2 a4 a5 a6 a7 true a1 a3 ((), ((0 : Int), ((), ()))) ((), ((0 : Int), ((), ()))) [] [] (a0 :: []))
    (br (notB (eqI a2 (0 : Int)))
     (inner_Put.j0 a2 a4 a5 a6 a7 (notB (eqI a3.1 (1 : Int))) a1 a3 ((), ((0 : Int), ((), ()))) ((), ((0 : Int), ((), ()))) [] [] (a0 :: []))
     (inner_Put.j0 a2 a4 a5 a6 a7 false a1 a3 ((), ((0 : Int), ((), ()))) ((), ((0 : Int), ((), ()))) [] [] (a0 :: [])))) :=
  (callW_eq (P := PP) (T := TT) (pr := RR) 10 [⟨(.int .i64), a0⟩, ⟨tapiNode, a1⟩, ⟨(.int .i64), a2⟩, ⟨tapiNode, a3⟩, ⟨.str, a4⟩, ⟨.str, a5⟩, ⟨(.int .i64), a6⟩, ⟨(.int .i64), a7⟩] [] (.tcons tplanPlan (.tcons (.int .i64) .tnil)) []).trans (by kernel_rfl)
theorem inner_Put.j0.eq (x0 : den (.int .i64)) (x1 : den .str) (x2 : den .str) (x3 : den (.int .i64)) (x4 : den (.int .i64)) (x5 : den .bool) (x6 : denO (.box tapiNode)) (x7 : denO (.box tapiNode)) (x8 : denO (.box (.pair (.own tapiNode 4) (.pair (.int .i64) (.pair (.own (.int .i64) 5) .unit))))) (x9 : denO (.box (.pair (.nil 28) (.pair (.int .i64) (.pair (.own (.int .i64) 6) .unit))))) (x10 : denO (.row 28 tapiNode false)) (x11 : denO (.row 25 (.int .i64) false)) (x12 : denO (.row 25 (.int .i64) false)) : inner_Put.j0 x0 x1 x2 x3 x4 x5 x6 x7 x8 x9 x10 x11 x12 =
  br x5
   (some (([], ((0 : Int), ([], ()))), ((4 : Int), ())))
   (br (eqI x0 (0 : Int))
    (inner_Put.j1 x0 x1 x2 x3 x4 true x6 x7 ((), (x8.2.1, ((), ()))) ((), (x9.2.1, ((), ()))) x10 x11 x12)
    (inner_Put.j1 x0 x1 x2 x3 x4 (eqS x7.2.1 x1) x6 x7 ((), (x8.2.1, ((), ()))) ((), (x9.2.1, ((), ()))) x10 x11 x12)) :=
  (congrFun (congrFun (jnO_eq [1, 1, 0, 0, 1, 1, 1] (BF (R := den (.tcons tplanPlan (.tcons (.int .i64) .tnil))) 10 0 [1, 1, 0, 0, 1, 1, 1])) ⟨[(2, ⟨(.int .i64), x0⟩), (4, ⟨.str, x1⟩), (5, ⟨.str, x2⟩), (6, ⟨(.int .i64), x3⟩), (7, ⟨(.int .i64), x4⟩), (9, ⟨(.ptr 0 0), ()⟩), (11, ⟨(.ptr 1 0), ()⟩), (16, ⟨(.ptr 2 0), ()⟩), (18, ⟨(.ptr 3 0), ()⟩), (41, ⟨.bool, x5⟩)], [⟨(.box tapiNode), x6⟩, ⟨(.box tapiNode), x7⟩, ⟨(.box (.pair (.own tapiNode 4) (.pair (.int .i64) (.pair (.own (.int .i64) 5) .unit)))), x8⟩, ⟨(.box (.pair (.nil 28) (.pair (.int .i64) (.pair (.own (.int .i64) 6) .unit)))), x9⟩, ⟨(.row 28 tapiNode false), x10⟩, ⟨(.row 25 (.int .i64) false), x11⟩, ⟨(.row 25 (.int .i64) false), x12⟩]⟩) (blockK 0 (seqK false [1, 1, 1] (BF 10 0 [1, 1, 1]) (finF 10 (.tcons tplanPlan (.tcons (.int .i64) .tnil)) [] 0)))).trans (by kernel_rfl)
theorem inner_Put.j1.eq (x0 : den (.int .i64)) (x1 : den .str) (x2 : den .str) (x3 : den (.int .i64)) (x4 : den (.int .i64)) (x5 : den .bool) (x6 : denO (.box tapiNode)) (x7 : denO (.box tapiNode)) (x8 : denO (.box (.pair (.own tapiNode 4) (.pair (.int .i64) (.pair (.own (.int .i64) 5) .unit))))) (x9 : denO (.box (.pair (.nil 28) (.pair (.int .i64) (.pair (.own (.int .i64) 6) .unit))))) (x10 : denO (.row 28 tapiNode false)) (x11 : denO (.row 25 (.int .i64) false)) (x12 : denO (.row 25 (.int .i64) false)) : inner_Put.j1 x0 x1 x2 x3 x4 x5 x6 x7 x8 x9 x10 x11 x12 =
  br x5
   (bnd (node_Leaf x1 x2) fun r0 =>
   bnd (plan_Add ((), (x9.2.1, ((), ()))) r0 x12) fun r1 =>
   br (notB (eqI x0 (0 : Int)))
    (br (fitL (.int .i64) (appL (.int .i64) r1.2.1 (x0 :: []))) (bnd (inner_bare x6) fun r2 =>
    bnd (inner_chunk x1 x3 x4) fun r3 =>
    bnd (branch_With r2 r3 r1.1.2.1) fun r4 =>
    bnd (plan_Add_v1 ((), (r1.1.1.2.1, ((), ()))) r4 r1.2.2.1 (appL (.int .i64) r1.2.1 (x0 :: []))) fun r5 =>
    some ((r5.2.2.2.1, (r5.1.2.1, (r5.2.2.1, ()))), ((0 : Int), ()))) none)
    (bnd (inner_bare x6) fun r6 =>
    bnd (inner_chunk x1 x3 x4) fun r7 =>
    bnd (branch_With r6 r7 r1.1.2.1) fun r8 =>
    bnd (plan_Add_v1 ((), (r1.1.1.2.1, ((), ()))) r8 r1.2.2.1 r1.2.1) fun r9 =>
    some ((r9.2.2.2.1, (r9.1.2.1, (r9.2.2.1, ()))), ((0 : Int), ()))))
   (bnd (inner_at x3 x4) fun r10 =>
   bnd (inner_two_v1 ((), (x9.2.1, ((), ()))) x0 x7 x1 x2 (addI .i64 r10 (1 : Int)) x4 x12) fun r11 =>
   bnd (node_Inner r11.1.2.1) fun r12 =>
   bnd (plan_Add_v1 ((), (r11.1.1.2.1, ((), ()))) r12 r11.2.2.1 r11.2.1) fun r13 =>
   br (notB r11.1.2.2.1)
    (br (fitL (.int .i64) (appL (.int .i64) r13.2.2.1 (x0 :: []))) (bnd (inner_bare x6) fun r14 =>
    bnd (inner_chunk x1 x3 x4) fun r15 =>
    bnd (branch_With r14 r15 r13.1.2.1) fun r16 =>
    bnd (plan_Add_v1 ((), (r13.1.1.2.1, ((), ()))) r16 r13.2.2.2.1 (appL (.int .i64) r13.2.2.1 (x0 :: []))) fun r17 =>
    some ((r17.2.2.2.1, (r17.1.2.1, (r17.2.2.1, ()))), ((0 : Int), ()))) none)
    (bnd (inner_bare x6) fun r18 =>
    bnd (inner_chunk x1 x3 x4) fun r19 =>
    bnd (branch_With r18 r19 r13.1.2.1) fun r20 =>
    bnd (plan_Add_v1 ((), (r13.1.1.2.1, ((), ()))) r20 r13.2.2.2.1 r13.2.2.1) fun r21 =>
    some ((r21.2.2.2.1, (r21.1.2.1, (r21.2.2.1, ()))), ((0 : Int), ())))) :=
  (congrFun (congrFun (jnO_eq [1, 1, 1, 1, 0, 1] (BF (R := den (.tcons tplanPlan (.tcons (.int .i64) .tnil))) 10 0 [1, 1, 1, 1, 0, 1])) ⟨[(2, ⟨(.int .i64), x0⟩), (4, ⟨.str, x1⟩), (5, ⟨.str, x2⟩), (6, ⟨(.int .i64), x3⟩), (7, ⟨(.int .i64), x4⟩), (9, ⟨(.ptr 0 0), ()⟩), (11, ⟨(.ptr 1 0), ()⟩), (16, ⟨(.ptr 2 0), ()⟩), (18, ⟨(.ptr 3 0), ()⟩), (62, ⟨.bool, x5⟩)], [⟨(.box tapiNode), x6⟩, ⟨(.box tapiNode), x7⟩, ⟨(.box (.pair (.own tapiNode 4) (.pair (.int .i64) (.pair (.own (.int .i64) 5) .unit)))), x8⟩, ⟨(.box (.pair (.nil 28) (.pair (.int .i64) (.pair (.own (.int .i64) 6) .unit)))), x9⟩, ⟨(.row 28 tapiNode false), x10⟩, ⟨(.row 25 (.int .i64) false), x11⟩, ⟨(.row 25 (.int .i64) false), x12⟩]⟩) (seqK false [1, 1, 1, 1, 1] (BF 10 0 [1, 1, 1, 1, 1]) (finF 10 (.tcons tplanPlan (.tcons (.int .i64) .tnil)) [] 0))).trans (by kernel_rfl)
theorem ref29_Put.eq (a0 : den (.int .i64)) (a1 : den tapiNode) (a2 : den (.int .i64)) (a3 : den tapiNode) (a4 : den .str) (a5 : den .str) (a6 : den (.int .i64)) (a7 : den (.int .i64)) : ref29_Put a0 a1 a2 a3 a4 a5 a6 a7 =
  br (eqI a1.1 (3 : Int))
   (bnd (ref07_Put a1.2.2.2.2.2.2.1 a4 a5) fun r0 =>
   bnd (ref29_plan1 (((3 : Int), (ByteArray.empty, (ByteArray.empty, ((0 : Int), ([], ((0 : Int), (r0, ((ofN (lenL tapiPair r0)), ((0 : Int), ()))))))))) :: []) (a0 :: [])) fun r1 =>
   some (r1, (true, ())))
   (br (notB (eqI a1.1 (2 : Int)))
    (ref29_Put.j0 a0 a2 a4 a5 a6 a7 true a1 a3 ((), ((0 : Int), ((), ()))) [] [])
    (br (notB (eqI a2 (0 : Int)))
     (ref29_Put.j0 a0 a2 a4 a5 a6 a7 (notB (eqI a3.1 (1 : Int))) a1 a3 ((), ((0 : Int), ((), ()))) [] [])
     (ref29_Put.j0 a0 a2 a4 a5 a6 a7 false a1 a3 ((), ((0 : Int), ((), ()))) [] []))) :=
  (callW_eq (P := PP) (T := TT) (pr := RR) 12 [⟨(.int .i64), a0⟩, ⟨tapiNode, a1⟩, ⟨(.int .i64), a2⟩, ⟨tapiNode, a3⟩, ⟨.str, a4⟩, ⟨.str, a5⟩, ⟨(.int .i64), a6⟩, ⟨(.int .i64), a7⟩] [] (.tcons tplanPlan (.tcons .bool .tnil)) []).trans (by kernel_rfl)
theorem ref29_Put.j0.eq (x0 : den (.int .i64)) (x1 : den (.int .i64)) (x2 : den .str) (x3 : den .str) (x4 : den (.int .i64)) (x5 : den (.int .i64)) (x6 : den .bool) (x7 : denO (.box tapiNode)) (x8 : denO (.box tapiNode)) (x9 : denO (.box (.pair (.own tapiNode 3) (.pair (.int .i64) (.pair (.own (.int .i64) 4) .unit))))) (x10 : denO (.row 28 tapiNode false)) (x11 : denO (.row 25 (.int .i64) false)) : ref29_Put.j0 x0 x1 x2 x3 x4 x5 x6 x7 x8 x9 x10 x11 =
  br x6
   (some (([], ((0 : Int), ([], ()))), (false, ())))
   (bnd (ref19_Of x7) fun r0 =>
   bnd (ref29_chunk x2 x4 x5) fun r1 =>
   br (eqI x1 (0 : Int))
    (ref29_Put.j1 x0 x1 x2 x3 x4 x5 r1 true x8 ((), (x9.2.1, ((), ()))) r0 x10 x11)
    (ref29_Put.j1 x0 x1 x2 x3 x4 x5 r1 (eqS x8.2.1 x2) x8 ((), (x9.2.1, ((), ()))) r0 x10 x11)) :=
  (congrFun (congrFun (jnO_eq [1, 1, 0, 1] (BF (R := den (.tcons tplanPlan (.tcons .bool .tnil))) 12 0 [1, 1, 0, 1])) ⟨[(0, ⟨(.int .i64), x0⟩), (2, ⟨(.int .i64), x1⟩), (4, ⟨.str, x2⟩), (5, ⟨.str, x3⟩), (6, ⟨(.int .i64), x4⟩), (7, ⟨(.int .i64), x5⟩), (9, ⟨(.ptr 0 0), ()⟩), (11, ⟨(.ptr 1 0), ()⟩), (16, ⟨(.ptr 2 0), ()⟩), (51, ⟨.bool, x6⟩)], [⟨(.box tapiNode), x7⟩, ⟨(.box tapiNode), x8⟩, ⟨(.box (.pair (.own tapiNode 3) (.pair (.int .i64) (.pair (.own (.int .i64) 4) .unit)))), x9⟩, ⟨(.row 28 tapiNode false), x10⟩, ⟨(.row 25 (.int .i64) false), x11⟩]⟩) (seqK false [1, 1, 1] (BF 12 0 [1, 1, 1]) (finF 12 (.tcons tplanPlan (.tcons .bool .tnil)) [] 0))).trans (by kernel_rfl)
theorem ref29_Put.j1.eq (x0 : den (.int .i64)) (x1 : den (.int .i64)) (x2 : den .str) (x3 : den .str) (x4 : den (.int .i64)) (x5 : den (.int .i64)) (x6 : den (.int .i64)) (x7 : den .bool) (x8 : denO (.box tapiNode)) (x9 : denO (.box (.pair (.own tapiNode 3) (.pair (.int .i64) (.pair (.own (.int .i64) 4) .unit))))) (x10 : denO (.box tboscageref19Branch)) (x11 : denO (.row 28 tapiNode false)) (x12 : denO (.row 25 (.int .i64) false)) : ref29_Put.j1 x0 x1 x2 x3 x4 x5 x6 x7 x8 x9 x10 x11 x12 =
  br x7
   (br (notB (eqI x1 (0 : Int)))
    (br (fitL (.int .i64) (appL (.int .i64) (x0 :: []) (x1 :: []))) (bnd (ref19_Branch_Put x10 x6 (-1 : Int)) fun r0 =>
    bnd (ref29_made r0) fun r1 =>
    bnd (ref29_plan1 (((1 : Int), (x2, (x3, ((0 : Int), ([], ((0 : Int), ([], ((1 : Int), ((0 : Int), ()))))))))) :: (r1 :: [])) (appL (.int .i64) (x0 :: []) (x1 :: []))) fun r2 =>
    some (r2, (true, ()))) none)
    (bnd (ref19_Branch_Put x10 x6 (-1 : Int)) fun r3 =>
    bnd (ref29_made r3) fun r4 =>
    bnd (ref29_plan1 (((1 : Int), (x2, (x3, ((0 : Int), ([], ((0 : Int), ([], ((1 : Int), ((0 : Int), ()))))))))) :: (r4 :: [])) (x0 :: [])) fun r5 =>
    some (r5, (true, ()))))
   (bnd (ref29_At x4 x5) fun r6 =>
   bnd (ref29_two x1 x8 x2 x3 (addI .i64 r6 (1 : Int)) x5) fun r7 =>
   br (fitL tapiNode (appL tapiNode r7.2.1 (((5 : Int), (ByteArray.empty, (ByteArray.empty, ((0 : Int), ([], ((subI .i64 (0 : Int) (ofN (lenL tapiNode r7.2.1))), ([], ((0 : Int), ((0 : Int), ()))))))))) :: []))) (bnd (ref19_Branch_Put x10 x6 (subI .i64 (0 : Int) (ofN (lenL tapiNode (appL tapiNode r7.2.1 (((5 : Int), (ByteArray.empty, (ByteArray.empty, ((0 : Int), ([], ((subI .i64 (0 : Int) (ofN (lenL tapiNode r7.2.1))), ([], ((0 : Int), ((0 : Int), ()))))))))) :: [])))))) fun r8 =>
   bnd (ref29_made r8) fun r9 =>
   br (fitL tapiNode (appL tapiNode (appL tapiNode r7.2.1 (((5 : Int), (ByteArray.empty, (ByteArray.empty, ((0 : Int), ([], ((subI .i64 (0 : Int) (ofN (lenL tapiNode r7.2.1))), ([], ((0 : Int), ((0 : Int), ()))))))))) :: [])) (r9 :: []))) (br r7.1.2.1
    (bnd (ref29_plan1 (appL tapiNode (appL tapiNode r7.2.1 (((5 : Int), (ByteArray.empty, (ByteArray.empty, ((0 : Int), ([], ((subI .i64 (0 : Int) (ofN (lenL tapiNode r7.2.1))), ([], ((0 : Int), ((0 : Int), ()))))))))) :: [])) (r9 :: [])) (x0 :: (x1 :: []))) fun r10 =>
    some (r10, (true, ())))
    (bnd (ref29_plan1 (appL tapiNode (appL tapiNode r7.2.1 (((5 : Int), (ByteArray.empty, (ByteArray.empty, ((0 : Int), ([], ((subI .i64 (0 : Int) (ofN (lenL tapiNode r7.2.1))), ([], ((0 : Int), ((0 : Int), ()))))))))) :: [])) (r9 :: [])) (x0 :: [])) fun r11 =>
    some (r11, (true, ())))) none) none) :=
  (congrFun (congrFun (jnO_eq [1, 1, 1, 1, 0, 1] (BF (R := den (.tcons tplanPlan (.tcons .bool .tnil))) 12 0 [1, 1, 1, 1, 0, 1])) ⟨[(0, ⟨(.int .i64), x0⟩), (2, ⟨(.int .i64), x1⟩), (4, ⟨.str, x2⟩), (5, ⟨.str, x3⟩), (6, ⟨(.int .i64), x4⟩), (7, ⟨(.int .i64), x5⟩), (11, ⟨(.ptr 0 0), ()⟩), (16, ⟨(.ptr 1 0), ()⟩), (19, ⟨(.ptr 2 0), ()⟩), (20, ⟨(.int .i64), x6⟩), (66, ⟨.bool, x7⟩)], [⟨(.box tapiNode), x8⟩, ⟨(.box (.pair (.own tapiNode 3) (.pair (.int .i64) (.pair (.own (.int .i64) 4) .unit)))), x9⟩, ⟨(.box tboscageref19Branch), x10⟩, ⟨(.row 28 tapiNode false), x11⟩, ⟨(.row 25 (.int .i64) false), x12⟩]⟩) (seqK false [1, 1, 1, 1, 1] (BF 12 0 [1, 1, 1, 1, 1]) (finF 12 (.tcons tplanPlan (.tcons .bool .tnil)) [] 0))).trans (by kernel_rfl)
theorem law29_works.eq  : law29_works  =
  bnd (node_Branch_o (0 : Int) [] (0 : Int)) fun r0 =>
  bnd (inner_Put (7 : Int) (r0.1.1, (r0.1.2.1, (r0.1.2.2.1, (r0.1.2.2.2.1, (r0.2.1, (r0.1.2.2.2.2.2.1, (r0.2.2.1, r0.1.2.2.2.2.2.2.2))))))) (0 : Int) ((0 : Int), (ByteArray.empty, (ByteArray.empty, ((0 : Int), ([], ((0 : Int), ([], ((0 : Int), ((0 : Int), ()))))))))) (ByteArray.mk #[97]) (ByteArray.mk #[49]) (0 : Int) (64 : Int)) fun r1 =>
  br (eqI r1.2.1 (0 : Int))
   (br (eqI (ofN (lenL tapiNode r1.1.1)) (2 : Int))
    (br (andB (leI (0 : Int) (0 : Int)) (ltI (0 : Int) (ofN (lenL tapiNode r1.1.1)))) (br (eqS (ixL tapiNode r1.1.1 (0 : Int)).2.1 (ByteArray.mk #[97]))
     (br (eqI r1.1.2.1 (-2 : Int))
      (br (eqI (ofN (lenL (.int .i64) r1.1.2.2.1)) (1 : Int))
       (br (andB (leI (0 : Int) (0 : Int)) (ltI (0 : Int) (ofN (lenL (.int .i64) r1.1.2.2.1)))) (some (eqI (ixL (.int .i64) r1.1.2.2.1 (0 : Int)) (7 : Int))) none)
       (some false))
      (some false))
     (some false)) none)
    (some false))
   (some false) :=
  (callW_eq (P := PP) (T := TT) (pr := RR) 13 [] [] .bool []).trans (by kernel_rfl)
theorem base_Cut.eq (a0 : den .str) (a1 : den (.int .i64)) : base_Cut a0 a1 =
  br (andB (leI (0 : Int) (0 : Int)) (andB (leI (0 : Int) (minI (ofN (lenS a0)) a1)) (leI (minI (ofN (lenS a0)) a1) (ofN (lenS a0))))) (some (subS a0 (toN (0 : Int)) (toN (minI (ofN (lenS a0)) a1)))) none :=
  (callW_eq (P := PP) (T := TT) (pr := RR) 14 [⟨.str, a0⟩, ⟨(.int .i64), a1⟩] [] .str []).trans (by kernel_rfl)
theorem ref13_May.eq (a0 : den tapiNode) : ref13_May a0 =
  br (ltI a0.1 (1 : Int))
   (some (11 : Int))
   (br (ltI (6 : Int) a0.1)
    (some (11 : Int))
    (bnd (ref13_long a0) fun r0 =>
    br r0
     (some (6 : Int))
     (bnd (ref13_form a0) fun r1 =>
     br (notB r1)
      (some (4 : Int))
      (some (0 : Int))))) :=
  (callW_eq (P := PP) (T := TT) (pr := RR) 15 [⟨tapiNode, a0⟩] [] (.int .i64) []).trans (by kernel_rfl)
theorem law29_below.eq (a0 : den (.list tapiNode)) (a1 : den (.int .i64)) (a2 : den (.int .i64)) (a3 : den tapiNode) (a4 : den (.int .i64)) : law29_below a0 a1 a2 a3 a4 =
  br (ltI a1 (0 : Int))
   (law29_below.j0 a0 a1 a2 a4 (leI (subI .i64 (0 : Int) a1) (ofN (lenL tapiNode a0))) a3 ((0 : Int), (ByteArray.empty, (ByteArray.empty, ((0 : Int), ((), ((0 : Int), ((), ((0 : Int), ((0 : Int), ()))))))))))
   (law29_below.j0 a0 a1 a2 a4 false a3 ((0 : Int), (ByteArray.empty, (ByteArray.empty, ((0 : Int), ((), ((0 : Int), ((), ((0 : Int), ((0 : Int), ())))))))))) :=
  (callW_eq (P := PP) (T := TT) (pr := RR) 16 [⟨(.list tapiNode), a0⟩, ⟨(.int .i64), a1⟩, ⟨(.int .i64), a2⟩, ⟨tapiNode, a3⟩, ⟨(.int .i64), a4⟩] [] (.list tapiPair) []).trans (by kernel_rfl)
theorem law29_below.j0.eq (x0 : den (.list tapiNode)) (x1 : den (.int .i64)) (x2 : den (.int .i64)) (x3 : den (.int .i64)) (x4 : den .bool) (x5 : denO (.box tapiNode)) (x6 : denO (.box (.pair (.int .i64) (.pair .str (.pair .str (.pair (.int .u32) (.pair (.nil 25) (.pair (.int .i64) (.pair (.nil 52) (.pair (.int .i64) (.pair (.int .i64) .unit))))))))))) : law29_below.j0 x0 x1 x2 x3 x4 x5 x6 =
  br x4
   (br (andB (leI (0 : Int) (subI .i64 (subI .i64 (0 : Int) x1) (1 : Int))) (ltI (subI .i64 (subI .i64 (0 : Int) x1) (1 : Int)) (ofN (lenL tapiNode x0)))) (br (eqI x1 x2)
    (bnd (ref13_Binds x5) fun r0 =>
    br (fitL tapiPair (appL tapiPair [] r0)) (bnd (ref13_Refs x5) fun r1 =>
    law29_below.l1 x0 x2 x3 r1 (0 : Int) x5 (appL tapiPair [] r0)) none)
    (bnd (ref13_Binds (ixL tapiNode x0 (subI .i64 (subI .i64 (0 : Int) x1) (1 : Int)))) fun r2 =>
    br (fitL tapiPair (appL tapiPair [] r2)) (bnd (ref13_Refs (ixL tapiNode x0 (subI .i64 (subI .i64 (0 : Int) x1) (1 : Int)))) fun r3 =>
    law29_below.l1 x0 x2 x3 r3 (0 : Int) x5 (appL tapiPair [] r2)) none)) none)
   (br (eqI x1 x2)
    (bnd (ref13_Binds x5) fun r4 =>
    br (fitL tapiPair (appL tapiPair [] r4)) (bnd (ref13_Refs x5) fun r5 =>
    law29_below.l1 x0 x2 x3 r5 (0 : Int) x5 (appL tapiPair [] r4)) none)
    (bnd (ref13_Binds (x6.1, (x6.2.1, (x6.2.2.1, (x6.2.2.2.1, ([], (x6.2.2.2.2.2.1, ([], x6.2.2.2.2.2.2.2)))))))) fun r6 =>
    br (fitL tapiPair (appL tapiPair [] r6)) (bnd (ref13_Refs (x6.1, (x6.2.1, (x6.2.2.1, (x6.2.2.2.1, ([], (x6.2.2.2.2.2.1, ([], x6.2.2.2.2.2.2.2)))))))) fun r7 =>
    law29_below.l1 x0 x2 x3 r7 (0 : Int) x5 (appL tapiPair [] r6)) none)) :=
  (congrFun (congrFun (jnO_eq [1, 1, 0, 1] (BF (R := den (.list tapiPair)) 16 0 [1, 1, 0, 1])) ⟨[(0, ⟨(.list tapiNode), x0⟩), (1, ⟨(.int .i64), x1⟩), (2, ⟨(.int .i64), x2⟩), (4, ⟨(.int .i64), x3⟩), (8, ⟨(.ptr 0 0), ()⟩), (11, ⟨(.ptr 1 0), ()⟩), (24, ⟨.bool, x4⟩)], [⟨(.box tapiNode), x5⟩, ⟨(.box (.pair (.int .i64) (.pair .str (.pair .str (.pair (.int .u32) (.pair (.nil 25) (.pair (.int .i64) (.pair (.nil 52) (.pair (.int .i64) (.pair (.int .i64) .unit)))))))))), x6⟩]⟩) (seqK false [1, 1, 1] (BF 16 0 [1, 1, 1]) (finF 16 (.list tapiPair) [] 0))).trans (by kernel_rfl)
theorem law29_below.l1.eq (x0 : den (.list tapiNode)) (x1 : den (.int .i64)) (x2 : den (.int .i64)) (x3 : den (.list (.int .i64))) (x4 : den (.int .i64)) (x5 : denO (.box tapiNode)) (x6 : denO (.row 52 tapiPair false)) : law29_below.l1 x0 x1 x2 x3 x4 x5 x6 =
  br (ltI x4 (ofN (lenL (.int .i64) x3)))
   (law29_below.j2 x0 x1 x2 x3 x4 (ltI (0 : Int) x2) x5 x6)
   (law29_below.j2 x0 x1 x2 x3 x4 false x5 x6) :=
  (loopB_eq (P := PP) (T := TT) (C := CF) [1, 1, 1, 1, 1, 1, 0, 1, 0, 0] [1, 1, 1, 1, 1, 1, 0, 1, 0, 0] 16 0 ⟨[(0, ⟨(.list tapiNode), x0⟩), (2, ⟨(.int .i64), x1⟩), (4, ⟨(.int .i64), x2⟩), (8, ⟨(.ptr 0 0), ()⟩), (12, ⟨(.own tapiPair 1), ()⟩), (13, ⟨(.list (.int .i64)), x3⟩), (14, ⟨(.int .i64), x4⟩)], [⟨(.box tapiNode), x5⟩, ⟨(.row 52 tapiPair false), x6⟩]⟩ (blockK 0 (seqK false [1, 1, 1, 1, 1, 1, 1] (BF 16 0 [1, 1, 1, 1, 1, 1, 1]) (finF 16 (.list tapiPair) [] 0)))).trans (by kernel_rfl)
theorem law29_below.j2.eq (x0 : den (.list tapiNode)) (x1 : den (.int .i64)) (x2 : den (.int .i64)) (x3 : den (.list (.int .i64))) (x4 : den (.int .i64)) (x5 : den .bool) (x6 : denO (.box tapiNode)) (x7 : denO (.row 52 tapiPair false)) : law29_below.j2 x0 x1 x2 x3 x4 x5 x6 x7 =
  br x5
   (br (andB (leI (0 : Int) x4) (ltI x4 (ofN (lenL (.int .i64) x3)))) (bnd (law29_below x0 (ixL (.int .i64) x3 x4) x1 x6 (subI .i64 x2 (1 : Int))) fun r0 =>
   br (fitL tapiPair (appL tapiPair x7 r0)) (law29_below.l1 x0 x1 x2 x3 (addI .i64 x4 (1 : Int)) x6 (appL tapiPair x7 r0)) none) none)
   (some x7) :=
  (congrFun (congrFun (jnO_eq [1, 1, 1, 1, 1, 1, 0, 1, 0, 0, 0, 1] (BF (R := den (.list tapiPair)) 16 0 [1, 1, 1, 1, 1, 1, 0, 1, 0, 0, 0, 1])) ⟨[(0, ⟨(.list tapiNode), x0⟩), (2, ⟨(.int .i64), x1⟩), (4, ⟨(.int .i64), x2⟩), (8, ⟨(.ptr 0 0), ()⟩), (12, ⟨(.own tapiPair 1), ()⟩), (13, ⟨(.list (.int .i64)), x3⟩), (14, ⟨(.int .i64), x4⟩), (48, ⟨.bool, x5⟩)], [⟨(.box tapiNode), x6⟩, ⟨(.row 52 tapiPair false), x7⟩]⟩) (seqK false [1, 1, 1, 1, 1, 1, 0, 1, 0, 0, 1] (BF 16 0 [1, 1, 1, 1, 1, 1, 0, 1, 0, 0, 1]) (againK [1, 1, 1, 1, 1, 1, 0, 1, 0, 0] (loopW [1, 1, 1, 1, 1, 1, 0, 1, 0, 0] (BF 16 0 [1, 1, 1, 1, 1, 1, 0, 1, 0, 0])) (blockK 0 (seqK false [1, 1, 1, 1, 1, 1, 1] (BF 16 0 [1, 1, 1, 1, 1, 1, 1]) (finF 16 (.list tapiPair) [] 0)))))).trans (by kernel_rfl)
theorem ref07_Make.eq (a0 : den (.list tapiPair)) : ref07_Make a0 =
  ref07_Make.l0 a0 (0 : Int) [] :=
  (callW_eq (P := PP) (T := TT) (pr := RR) 17 [⟨(.list tapiPair), a0⟩] [] (.list tapiPair) []).trans (by kernel_rfl)
theorem ref07_Make.l0.eq (x0 : den (.list tapiPair)) (x1 : den (.int .i64)) (x2 : denO (.row 52 tapiPair false)) : ref07_Make.l0 x0 x1 x2 =
  br (ltI x1 (ofN (lenL tapiPair x0)))
   (bnd (ref07_last x0 x1) fun r0 =>
   br (notB r0)
    (ref07_Make.l0 x0 (addI .i64 x1 (1 : Int)) x2)
    (ref07_Make.l1 x0 x1 (0 : Int) x2))
   (some x2) :=
  (loopB_eq (P := PP) (T := TT) (C := CF) [1, 1, 0, 1, 0, 0] [1, 1, 0, 1, 0, 0] 17 0 ⟨[(0, ⟨(.list tapiPair), x0⟩), (3, ⟨(.own tapiPair 0), ()⟩), (4, ⟨(.int .i64), x1⟩)], [⟨(.row 52 tapiPair false), x2⟩]⟩ (blockK 0 (seqK false [1, 1, 1] (BF 17 0 [1, 1, 1]) (finF 17 (.list tapiPair) [] 0)))).trans (by kernel_rfl)
theorem ref07_Make.l1.eq (x0 : den (.list tapiPair)) (x1 : den (.int .i64)) (x2 : den (.int .i64)) (x3 : denO (.row 52 tapiPair false)) : ref07_Make.l1 x0 x1 x2 x3 =
  br (ltI x2 (ofN (lenL tapiPair x3)))
   (br (andB (leI (0 : Int) x2) (ltI x2 (ofN (lenL tapiPair x3)))) (br (andB (leI (0 : Int) x1) (ltI x1 (ofN (lenL tapiPair x0)))) (bnd (ref01_Less (ixL tapiPair x3 x2).1 (ixL tapiPair x0 x1).1) fun r0 =>
   ref07_Make.j2 x0 x1 x2 r0 x3) none) none)
   (ref07_Make.j2 x0 x1 x2 false x3) :=
  (loopB_eq (P := PP) (T := TT) (C := CF) [1, 1, 0, 1, 0, 0, 1, 0, 0, 1, 1, 0, 0, 0] [1, 1, 0, 1, 0, 0, 1, 0, 0, 1, 1, 0, 0, 0] 17 0 ⟨[(0, ⟨(.list tapiPair), x0⟩), (3, ⟨(.own tapiPair 0), ()⟩), (4, ⟨(.int .i64), x1⟩), (5, ⟨(.int .i64), x2⟩)], [⟨(.row 52 tapiPair false), x3⟩]⟩ (blockK 2 (seqK false [1, 1, 0, 1, 0, 0, 1, 0, 0, 1, 1, 1] (BF 17 0 [1, 1, 0, 1, 0, 0, 1, 0, 0, 1, 1, 1]) (blockK 1 (seqK false [1, 1, 0, 1, 0, 0, 1, 1] (BF 17 0 [1, 1, 0, 1, 0, 0, 1, 1]) (againK [1, 1, 0, 1, 0, 0] (loopW [1, 1, 0, 1, 0, 0] (BF 17 0 [1, 1, 0, 1, 0, 0])) (blockK 0 (seqK false [1, 1, 1] (BF 17 0 [1, 1, 1]) (finF 17 (.list tapiPair) [] 0))))))))).trans (by kernel_rfl)
theorem ref07_Make.j2.eq (x0 : den (.list tapiPair)) (x1 : den (.int .i64)) (x2 : den (.int .i64)) (x3 : den .bool) (x4 : denO (.row 52 tapiPair false)) : ref07_Make.j2 x0 x1 x2 x3 x4 =
  br x3
   (ref07_Make.l1 x0 x1 (addI .i64 x2 (1 : Int)) x4)
   (br (andB (leI (0 : Int) x1) (ltI x1 (ofN (lenL tapiPair x0)))) (both
    (both
     (br (andB (leI (0 : Int) (0 : Int)) (andB (leI (0 : Int) x2) (leI x2 (ofN (lenL tapiPair x4))))) (br (andB (leI (0 : Int) x2) (andB (leI x2 (ofN (lenL tapiPair x4))) (leI (ofN (lenL tapiPair x4)) (ofN (lenL tapiPair x4))))) (both
      (br (fitL tapiPair (appL tapiPair [] (subL tapiPair x4 (toN (0 : Int)) (toN x2)))) (br (fitL tapiPair (appL tapiPair (appL tapiPair [] (subL tapiPair x4 (toN (0 : Int)) (toN x2))) ((ixL tapiPair x0 x1) :: []))) (br (fitL tapiPair (appL tapiPair (appL tapiPair (appL tapiPair [] (subL tapiPair x4 (toN (0 : Int)) (toN x2))) ((ixL tapiPair x0 x1) :: [])) (subL tapiPair x4 (toN x2) (toN (ofN (lenL tapiPair x4)))))) (ref07_Make.l0 x0 (addI .i64 x1 (1 : Int)) (appL tapiPair (appL tapiPair (appL tapiPair [] (subL tapiPair x4 (toN (0 : Int)) (toN x2))) ((ixL tapiPair x0 x1) :: [])) (subL tapiPair x4 (toN x2) (toN (ofN (lenL tapiPair x4)))))) none) none) none)
      (br (fitL tapiPair (appL tapiPair [] (subL tapiPair x4 (toN (0 : Int)) (toN x2)))) (br (fitL tapiPair (appL tapiPair (appL tapiPair [] (subL tapiPair x4 (toN (0 : Int)) (toN x2))) ((ixL tapiPair x0 x1) :: []))) (br (fitL tapiPair (appL tapiPair (appL tapiPair (appL tapiPair [] (subL tapiPair x4 (toN (0 : Int)) (toN x2))) ((ixL tapiPair x0 x1) :: [])) (subL tapiPair x4 (toN x2) (toN (ofN (lenL tapiPair x4)))))) (ref07_Make.l0 x0 (addI .i64 x1 (1 : Int)) (appL tapiPair (appL tapiPair (appL tapiPair [] (subL tapiPair x4 (toN (0 : Int)) (toN x2))) ((ixL tapiPair x0 x1) :: [])) (subL tapiPair x4 (toN x2) (toN (ofN (lenL tapiPair x4)))))) none) none) none)) none) none)
     (both
      (both
       (br (andB (leI (0 : Int) (0 : Int)) (andB (leI (0 : Int) x2) (leI x2 (ofN (lenL tapiPair x4))))) (br (andB (leI (0 : Int) x2) (andB (leI x2 (ofN (lenL tapiPair x4))) (leI (ofN (lenL tapiPair x4)) (ofN (lenL tapiPair x4))))) (br (fitL tapiPair (appL tapiPair [] (subL tapiPair x4 (toN (0 : Int)) (toN x2)))) (br (fitL tapiPair (appL tapiPair (appL tapiPair [] (subL tapiPair x4 (toN (0 : Int)) (toN x2))) ((ixL tapiPair x0 x1) :: []))) (br (fitL tapiPair (appL tapiPair (appL tapiPair (appL tapiPair [] (subL tapiPair x4 (toN (0 : Int)) (toN x2))) ((ixL tapiPair x0 x1) :: [])) (subL tapiPair x4 (toN x2) (toN (ofN (lenL tapiPair x4)))))) (ref07_Make.l0 x0 (addI .i64 x1 (1 : Int)) (appL tapiPair (appL tapiPair (appL tapiPair [] (subL tapiPair x4 (toN (0 : Int)) (toN x2))) ((ixL tapiPair x0 x1) :: [])) (subL tapiPair x4 (toN x2) (toN (ofN (lenL tapiPair x4)))))) none) none) none) none) none)
       (br (andB (leI (0 : Int) x2) (andB (leI x2 (ofN (lenL tapiPair x4))) (leI (ofN (lenL tapiPair x4)) (ofN (lenL tapiPair x4))))) (br (andB (leI (0 : Int) (0 : Int)) (andB (leI (0 : Int) x2) (leI x2 (ofN (lenL tapiPair x4))))) (br (fitL tapiPair (appL tapiPair [] (subL tapiPair x4 (toN (0 : Int)) (toN x2)))) (br (fitL tapiPair (appL tapiPair (appL tapiPair [] (subL tapiPair x4 (toN (0 : Int)) (toN x2))) ((ixL tapiPair x0 x1) :: []))) (br (fitL tapiPair (appL tapiPair (appL tapiPair (appL tapiPair [] (subL tapiPair x4 (toN (0 : Int)) (toN x2))) ((ixL tapiPair x0 x1) :: [])) (subL tapiPair x4 (toN x2) (toN (ofN (lenL tapiPair x4)))))) (ref07_Make.l0 x0 (addI .i64 x1 (1 : Int)) (appL tapiPair (appL tapiPair (appL tapiPair [] (subL tapiPair x4 (toN (0 : Int)) (toN x2))) ((ixL tapiPair x0 x1) :: [])) (subL tapiPair x4 (toN x2) (toN (ofN (lenL tapiPair x4)))))) none) none) none) none) none))
      (br (andB (leI (0 : Int) x2) (andB (leI x2 (ofN (lenL tapiPair x4))) (leI (ofN (lenL tapiPair x4)) (ofN (lenL tapiPair x4))))) (br (andB (leI (0 : Int) (0 : Int)) (andB (leI (0 : Int) x2) (leI x2 (ofN (lenL tapiPair x4))))) (both
       (br (fitL tapiPair (appL tapiPair [] (subL tapiPair x4 (toN (0 : Int)) (toN x2)))) (br (fitL tapiPair (appL tapiPair (appL tapiPair [] (subL tapiPair x4 (toN (0 : Int)) (toN x2))) ((ixL tapiPair x0 x1) :: []))) (br (fitL tapiPair (appL tapiPair (appL tapiPair (appL tapiPair [] (subL tapiPair x4 (toN (0 : Int)) (toN x2))) ((ixL tapiPair x0 x1) :: [])) (subL tapiPair x4 (toN x2) (toN (ofN (lenL tapiPair x4)))))) (ref07_Make.l0 x0 (addI .i64 x1 (1 : Int)) (appL tapiPair (appL tapiPair (appL tapiPair [] (subL tapiPair x4 (toN (0 : Int)) (toN x2))) ((ixL tapiPair x0 x1) :: [])) (subL tapiPair x4 (toN x2) (toN (ofN (lenL tapiPair x4)))))) none) none) none)
       (br (fitL tapiPair (appL tapiPair [] (subL tapiPair x4 (toN (0 : Int)) (toN x2)))) (br (fitL tapiPair (appL tapiPair (appL tapiPair [] (subL tapiPair x4 (toN (0 : Int)) (toN x2))) ((ixL tapiPair x0 x1) :: []))) (br (fitL tapiPair (appL tapiPair (appL tapiPair (appL tapiPair [] (subL tapiPair x4 (toN (0 : Int)) (toN x2))) ((ixL tapiPair x0 x1) :: [])) (subL tapiPair x4 (toN x2) (toN (ofN (lenL tapiPair x4)))))) (ref07_Make.l0 x0 (addI .i64 x1 (1 : Int)) (appL tapiPair (appL tapiPair (appL tapiPair [] (subL tapiPair x4 (toN (0 : Int)) (toN x2))) ((ixL tapiPair x0 x1) :: [])) (subL tapiPair x4 (toN x2) (toN (ofN (lenL tapiPair x4)))))) none) none) none)) none) none)))
    (both
     (br (andB (leI (0 : Int) (0 : Int)) (andB (leI (0 : Int) x2) (leI x2 (ofN (lenL tapiPair x4))))) (br (andB (leI (0 : Int) x2) (andB (leI x2 (ofN (lenL tapiPair x4))) (leI (ofN (lenL tapiPair x4)) (ofN (lenL tapiPair x4))))) (both
      (both
       (br (fitL tapiPair (appL tapiPair [] (subL tapiPair x4 (toN (0 : Int)) (toN x2)))) (br (fitL tapiPair (appL tapiPair (appL tapiPair [] (subL tapiPair x4 (toN (0 : Int)) (toN x2))) ((ixL tapiPair x0 x1) :: []))) (br (fitL tapiPair (appL tapiPair (appL tapiPair (appL tapiPair [] (subL tapiPair x4 (toN (0 : Int)) (toN x2))) ((ixL tapiPair x0 x1) :: [])) (subL tapiPair x4 (toN x2) (toN (ofN (lenL tapiPair x4)))))) (ref07_Make.l0 x0 (addI .i64 x1 (1 : Int)) (appL tapiPair (appL tapiPair (appL tapiPair [] (subL tapiPair x4 (toN (0 : Int)) (toN x2))) ((ixL tapiPair x0 x1) :: [])) (subL tapiPair x4 (toN x2) (toN (ofN (lenL tapiPair x4)))))) none) none) none)
       (br (fitL tapiPair (appL tapiPair [] (subL tapiPair x4 (toN (0 : Int)) (toN x2)))) (br (fitL tapiPair (appL tapiPair (appL tapiPair [] (subL tapiPair x4 (toN (0 : Int)) (toN x2))) ((ixL tapiPair x0 x1) :: []))) (br (fitL tapiPair (appL tapiPair (appL tapiPair (appL tapiPair [] (subL tapiPair x4 (toN (0 : Int)) (toN x2))) ((ixL tapiPair x0 x1) :: [])) (subL tapiPair x4 (toN x2) (toN (ofN (lenL tapiPair x4)))))) (ref07_Make.l0 x0 (addI .i64 x1 (1 : Int)) (appL tapiPair (appL tapiPair (appL tapiPair [] (subL tapiPair x4 (toN (0 : Int)) (toN x2))) ((ixL tapiPair x0 x1) :: [])) (subL tapiPair x4 (toN x2) (toN (ofN (lenL tapiPair x4)))))) none) none) none))
      (br (fitL tapiPair (appL tapiPair [] (subL tapiPair x4 (toN (0 : Int)) (toN x2)))) (br (fitL tapiPair (appL tapiPair (appL tapiPair [] (subL tapiPair x4 (toN (0 : Int)) (toN x2))) ((ixL tapiPair x0 x1) :: []))) (br (fitL tapiPair (appL tapiPair (appL tapiPair (appL tapiPair [] (subL tapiPair x4 (toN (0 : Int)) (toN x2))) ((ixL tapiPair x0 x1) :: [])) (subL tapiPair x4 (toN x2) (toN (ofN (lenL tapiPair x4)))))) (ref07_Make.l0 x0 (addI .i64 x1 (1 : Int)) (appL tapiPair (appL tapiPair (appL tapiPair [] (subL tapiPair x4 (toN (0 : Int)) (toN x2))) ((ixL tapiPair x0 x1) :: [])) (subL tapiPair x4 (toN x2) (toN (ofN (lenL tapiPair x4)))))) none) none) none)) none) none)
     (both
      (both
       (both
        (br (andB (leI (0 : Int) (0 : Int)) (andB (leI (0 : Int) x2) (leI x2 (ofN (lenL tapiPair x4))))) (br (andB (leI (0 : Int) x2) (andB (leI x2 (ofN (lenL tapiPair x4))) (leI (ofN (lenL tapiPair x4)) (ofN (lenL tapiPair x4))))) (br (fitL tapiPair (appL tapiPair [] (subL tapiPair x4 (toN (0 : Int)) (toN x2)))) (br (fitL tapiPair (appL tapiPair (appL tapiPair [] (subL tapiPair x4 (toN (0 : Int)) (toN x2))) ((ixL tapiPair x0 x1) :: []))) (br (fitL tapiPair (appL tapiPair (appL tapiPair (appL tapiPair [] (subL tapiPair x4 (toN (0 : Int)) (toN x2))) ((ixL tapiPair x0 x1) :: [])) (subL tapiPair x4 (toN x2) (toN (ofN (lenL tapiPair x4)))))) (ref07_Make.l0 x0 (addI .i64 x1 (1 : Int)) (appL tapiPair (appL tapiPair (appL tapiPair [] (subL tapiPair x4 (toN (0 : Int)) (toN x2))) ((ixL tapiPair x0 x1) :: [])) (subL tapiPair x4 (toN x2) (toN (ofN (lenL tapiPair x4)))))) none) none) none) none) none)
        (br (andB (leI (0 : Int) x2) (andB (leI x2 (ofN (lenL tapiPair x4))) (leI (ofN (lenL tapiPair x4)) (ofN (lenL tapiPair x4))))) (br (andB (leI (0 : Int) (0 : Int)) (andB (leI (0 : Int) x2) (leI x2 (ofN (lenL tapiPair x4))))) (br (fitL tapiPair (appL tapiPair [] (subL tapiPair x4 (toN (0 : Int)) (toN x2)))) (br (fitL tapiPair (appL tapiPair (appL tapiPair [] (subL tapiPair x4 (toN (0 : Int)) (toN x2))) ((ixL tapiPair x0 x1) :: []))) (br (fitL tapiPair (appL tapiPair (appL tapiPair (appL tapiPair [] (subL tapiPair x4 (toN (0 : Int)) (toN x2))) ((ixL tapiPair x0 x1) :: [])) (subL tapiPair x4 (toN x2) (toN (ofN (lenL tapiPair x4)))))) (ref07_Make.l0 x0 (addI .i64 x1 (1 : Int)) (appL tapiPair (appL tapiPair (appL tapiPair [] (subL tapiPair x4 (toN (0 : Int)) (toN x2))) ((ixL tapiPair x0 x1) :: [])) (subL tapiPair x4 (toN x2) (toN (ofN (lenL tapiPair x4)))))) none) none) none) none) none))
       (both
        (br (andB (leI (0 : Int) (0 : Int)) (andB (leI (0 : Int) x2) (leI x2 (ofN (lenL tapiPair x4))))) (br (andB (leI (0 : Int) x2) (andB (leI x2 (ofN (lenL tapiPair x4))) (leI (ofN (lenL tapiPair x4)) (ofN (lenL tapiPair x4))))) (br (fitL tapiPair (appL tapiPair [] (subL tapiPair x4 (toN (0 : Int)) (toN x2)))) (br (fitL tapiPair (appL tapiPair (appL tapiPair [] (subL tapiPair x4 (toN (0 : Int)) (toN x2))) ((ixL tapiPair x0 x1) :: []))) (br (fitL tapiPair (appL tapiPair (appL tapiPair (appL tapiPair [] (subL tapiPair x4 (toN (0 : Int)) (toN x2))) ((ixL tapiPair x0 x1) :: [])) (subL tapiPair x4 (toN x2) (toN (ofN (lenL tapiPair x4)))))) (ref07_Make.l0 x0 (addI .i64 x1 (1 : Int)) (appL tapiPair (appL tapiPair (appL tapiPair [] (subL tapiPair x4 (toN (0 : Int)) (toN x2))) ((ixL tapiPair x0 x1) :: [])) (subL tapiPair x4 (toN x2) (toN (ofN (lenL tapiPair x4)))))) none) none) none) none) none)
        (br (andB (leI (0 : Int) x2) (andB (leI x2 (ofN (lenL tapiPair x4))) (leI (ofN (lenL tapiPair x4)) (ofN (lenL tapiPair x4))))) (br (andB (leI (0 : Int) (0 : Int)) (andB (leI (0 : Int) x2) (leI x2 (ofN (lenL tapiPair x4))))) (br (fitL tapiPair (appL tapiPair [] (subL tapiPair x4 (toN (0 : Int)) (toN x2)))) (br (fitL tapiPair (appL tapiPair (appL tapiPair [] (subL tapiPair x4 (toN (0 : Int)) (toN x2))) ((ixL tapiPair x0 x1) :: []))) (br (fitL tapiPair (appL tapiPair (appL tapiPair (appL tapiPair [] (subL tapiPair x4 (toN (0 : Int)) (toN x2))) ((ixL tapiPair x0 x1) :: [])) (subL tapiPair x4 (toN x2) (toN (ofN (lenL tapiPair x4)))))) (ref07_Make.l0 x0 (addI .i64 x1 (1 : Int)) (appL tapiPair (appL tapiPair (appL tapiPair [] (subL tapiPair x4 (toN (0 : Int)) (toN x2))) ((ixL tapiPair x0 x1) :: [])) (subL tapiPair x4 (toN x2) (toN (ofN (lenL tapiPair x4)))))) none) none) none) none) none)))
      (br (andB (leI (0 : Int) x2) (andB (leI x2 (ofN (lenL tapiPair x4))) (leI (ofN (lenL tapiPair x4)) (ofN (lenL tapiPair x4))))) (br (andB (leI (0 : Int) (0 : Int)) (andB (leI (0 : Int) x2) (leI x2 (ofN (lenL tapiPair x4))))) (both
       (both
        (br (fitL tapiPair (appL tapiPair [] (subL tapiPair x4 (toN (0 : Int)) (toN x2)))) (br (fitL tapiPair (appL tapiPair (appL tapiPair [] (subL tapiPair x4 (toN (0 : Int)) (toN x2))) ((ixL tapiPair x0 x1) :: []))) (br (fitL tapiPair (appL tapiPair (appL tapiPair (appL tapiPair [] (subL tapiPair x4 (toN (0 : Int)) (toN x2))) ((ixL tapiPair x0 x1) :: [])) (subL tapiPair x4 (toN x2) (toN (ofN (lenL tapiPair x4)))))) (ref07_Make.l0 x0 (addI .i64 x1 (1 : Int)) (appL tapiPair (appL tapiPair (appL tapiPair [] (subL tapiPair x4 (toN (0 : Int)) (toN x2))) ((ixL tapiPair x0 x1) :: [])) (subL tapiPair x4 (toN x2) (toN (ofN (lenL tapiPair x4)))))) none) none) none)
        (br (fitL tapiPair (appL tapiPair [] (subL tapiPair x4 (toN (0 : Int)) (toN x2)))) (br (fitL tapiPair (appL tapiPair (appL tapiPair [] (subL tapiPair x4 (toN (0 : Int)) (toN x2))) ((ixL tapiPair x0 x1) :: []))) (br (fitL tapiPair (appL tapiPair (appL tapiPair (appL tapiPair [] (subL tapiPair x4 (toN (0 : Int)) (toN x2))) ((ixL tapiPair x0 x1) :: [])) (subL tapiPair x4 (toN x2) (toN (ofN (lenL tapiPair x4)))))) (ref07_Make.l0 x0 (addI .i64 x1 (1 : Int)) (appL tapiPair (appL tapiPair (appL tapiPair [] (subL tapiPair x4 (toN (0 : Int)) (toN x2))) ((ixL tapiPair x0 x1) :: [])) (subL tapiPair x4 (toN x2) (toN (ofN (lenL tapiPair x4)))))) none) none) none))
       (br (fitL tapiPair (appL tapiPair [] (subL tapiPair x4 (toN (0 : Int)) (toN x2)))) (br (fitL tapiPair (appL tapiPair (appL tapiPair [] (subL tapiPair x4 (toN (0 : Int)) (toN x2))) ((ixL tapiPair x0 x1) :: []))) (br (fitL tapiPair (appL tapiPair (appL tapiPair (appL tapiPair [] (subL tapiPair x4 (toN (0 : Int)) (toN x2))) ((ixL tapiPair x0 x1) :: [])) (subL tapiPair x4 (toN x2) (toN (ofN (lenL tapiPair x4)))))) (ref07_Make.l0 x0 (addI .i64 x1 (1 : Int)) (appL tapiPair (appL tapiPair (appL tapiPair [] (subL tapiPair x4 (toN (0 : Int)) (toN x2))) ((ixL tapiPair x0 x1) :: [])) (subL tapiPair x4 (toN x2) (toN (ofN (lenL tapiPair x4)))))) none) none) none)) none) none)))) none) :=
  (congrFun (congrFun (jnO_eq [1, 1, 0, 1, 0, 0, 1, 0, 0, 1, 1, 0, 0, 0, 0, 1] (BF (R := den (.list tapiPair)) 17 0 [1, 1, 0, 1, 0, 0, 1, 0, 0, 1, 1, 0, 0, 0, 0, 1])) ⟨[(0, ⟨(.list tapiPair), x0⟩), (3, ⟨(.own tapiPair 0), ()⟩), (4, ⟨(.int .i64), x1⟩), (5, ⟨(.int .i64), x2⟩), (33, ⟨.bool, x3⟩)], [⟨(.row 52 tapiPair false), x4⟩]⟩) (seqK false [1, 1, 0, 1, 0, 0, 1, 0, 0, 1, 1, 0, 0, 0, 1] (BF 17 0 [1, 1, 0, 1, 0, 0, 1, 0, 0, 1, 1, 0, 0, 0, 1]) (againK [1, 1, 0, 1, 0, 0, 1, 0, 0, 1, 1, 0, 0, 0] (loopW [1, 1, 0, 1, 0, 0, 1, 0, 0, 1, 1, 0, 0, 0] (BF 17 0 [1, 1, 0, 1, 0, 0, 1, 0, 0, 1, 1, 0, 0, 0])) (blockK 2 (seqK false [1, 1, 0, 1, 0, 0, 1, 0, 0, 1, 1, 1] (BF 17 0 [1, 1, 0, 1, 0, 0, 1, 0, 0, 1, 1, 1]) (blockK 1 (seqK false [1, 1, 0, 1, 0, 0, 1, 1] (BF 17 0 [1, 1, 0, 1, 0, 0, 1, 1]) (againK [1, 1, 0, 1, 0, 0] (loopW [1, 1, 0, 1, 0, 0] (BF 17 0 [1, 1, 0, 1, 0, 0])) (blockK 0 (seqK false [1, 1, 1] (BF 17 0 [1, 1, 1]) (finF 17 (.list tapiPair) [] 0))))))))))).trans (by kernel_rfl)
theorem ref07_Same.eq (a0 : den (.list tapiPair)) (a1 : den (.list tapiPair)) : ref07_Same a0 a1 =
  br (notB (eqI (ofN (lenL tapiPair a0)) (ofN (lenL tapiPair a1))))
   (some false)
   (ref07_Same.l0 a0 a1 (0 : Int)) :=
  (callW_eq (P := PP) (T := TT) (pr := RR) 18 [⟨(.list tapiPair), a0⟩, ⟨(.list tapiPair), a1⟩] [] .bool []).trans (by kernel_rfl)
theorem ref07_Same.l0.eq (x0 : den (.list tapiPair)) (x1 : den (.list tapiPair)) (x2 : den (.int .i64)) : ref07_Same.l0 x0 x1 x2 =
  br (ltI x2 (ofN (lenL tapiPair x0)))
   (br (andB (leI (0 : Int) x2) (ltI x2 (ofN (lenL tapiPair x0)))) (br (andB (leI (0 : Int) x2) (ltI x2 (ofN (lenL tapiPair x1)))) (br (notB (andB (eqS (ixL tapiPair x0 x2).1 (ixL tapiPair x1 x2).1) (andB (eqS (ixL tapiPair x0 x2).2.1 (ixL tapiPair x1 x2).2.1) true)))
    (some false)
    (ref07_Same.l0 x0 x1 (addI .i64 x2 (1 : Int)))) none) none)
   (some true) :=
  (loopB_eq (P := PP) (T := TT) (C := CF) [1, 1, 0, 1, 0, 0] [1, 1, 0, 1, 0, 0] 18 0 ⟨[(0, ⟨(.list tapiPair), x0⟩), (1, ⟨(.list tapiPair), x1⟩), (5, ⟨(.int .i64), x2⟩)], []⟩ (blockK 0 (seqK false [1, 1, 1] (BF 18 0 [1, 1, 1]) (finF 18 .bool [] 0)))).trans (by kernel_rfl)
theorem plan_May.eq (a0 : den tplanPlan) : plan_May a0 =
  plan_May.l0 a0.1 (ofN (lenL tapiNode a0.1)) (0 : Int) a0 :=
  (callW_eq (P := PP) (T := TT) (pr := RR) 19 [⟨tplanPlan, a0⟩] [] (.int .i64) []).trans (by kernel_rfl)
theorem plan_May.l0.eq (x0 : den (.list tapiNode)) (x1 : den (.int .i64)) (x2 : den (.int .i64)) (x3 : denO (.box tplanPlan)) : plan_May.l0 x0 x1 x2 x3 =
  br (ltI x2 x1)
   (br (andB (leI (0 : Int) x2) (ltI x2 (ofN (lenL tapiNode x0)))) (bnd (node_May (ixL tapiNode x0 x2)) fun r0 =>
   br (notB (eqI r0 (0 : Int)))
    (some (4 : Int))
    (bnd (node_Refs (ixL tapiNode x0 x2)) fun r1 =>
    bnd (slices_ContainsFuncapi_Ref_api_Ref r1 ((), ()) x2) fun r2 =>
    br r2.1
     (some (4 : Int))
     (plan_May.l0 x0 x1 (addI .i64 x2 (1 : Int)) x3))) none)
   (bnd (plan_ahead x3.2.1 (ofN (lenL tapiNode x3.1))) fun r3 =>
   br (notB r3)
    (some (4 : Int))
    (bnd (slices_ContainsFuncapi_Ref_api_Ref_v1 x3.2.2.1) fun r4 =>
    br r4
     (some (4 : Int))
     (some (0 : Int)))) :=
  (loopB_eq (P := PP) (T := TT) (C := CF) [1, 0, 1, 0, 0] [1, 0, 1, 0, 0] 19 0 ⟨[(1, ⟨(.ptr 0 0), ()⟩), (6, ⟨(.list tapiNode), x0⟩), (7, ⟨(.int .i64), x1⟩), (8, ⟨(.int .i64), x2⟩)], [⟨(.box tplanPlan), x3⟩]⟩ (blockK 0 (seqK false [1, 1] (BF 19 0 [1, 1]) (finF 19 (.int .i64) [] 0)))).trans (by kernel_rfl)
theorem inner_Drop.eq (a0 : den (.int .i64)) (a1 : den tapiNode) (a2 : den (.int .i64)) (a3 : den tapiNode) (a4 : den tapiNode) (a5 : den .str) (a6 : den (.int .i64)) (a7 : den (.int .i64)) : inner_Drop a0 a1 a2 a3 a4 a5 a6 a7 =
  br (eqI a1.1 (3 : Int))
   (bnd (node_Binds a1) fun r0 =>
   bnd (pair_Drop r0.2.1 a5) fun r1 =>
   bnd (node_Binds a1) fun r2 =>
   bnd (pair_Get r2.2.1 a5) fun r3 =>
   br (notB r3.2.1)
    (some (([], ((0 : Int), ([], ()))), ((4 : Int), ())))
    (br (eqI (ofN (lenL tapiPair r1)) (1 : Int))
     (br (andB (leI (0 : Int) (0 : Int)) (ltI (0 : Int) (ofN (lenL tapiPair r1)))) (br (andB (leI (0 : Int) (0 : Int)) (ltI (0 : Int) (ofN (lenL tapiPair r1)))) (bnd (node_Tomb (ixL tapiPair r1 (0 : Int)).1 (ixL tapiPair r1 (0 : Int)).2.1) fun r4 =>
     bnd (plan_Add ((), ((0 : Int), ((), ()))) r4 (a0 :: [])) fun r5 =>
     some ((r5.2.2.1, (r5.1.2.1, (r5.2.1, ()))), ((0 : Int), ()))) none) none)
     (bnd (node_Bucket r1) fun r6 =>
     bnd (plan_Add ((), ((0 : Int), ((), ()))) r6 (a0 :: [])) fun r7 =>
     some ((r7.2.2.1, (r7.1.2.1, (r7.2.1, ()))), ((0 : Int), ())))))
   (br (notB (eqI a1.1 (2 : Int)))
    (inner_Drop.j0 a2 a5 a6 a7 true a1 a4 ((), ((0 : Int), ((), ()))) ((), ((0 : Int), ((), ()))) [] [] (a0 :: []))
    (br (eqI a2 (0 : Int))
     (inner_Drop.j0 a2 a5 a6 a7 true a1 a4 ((), ((0 : Int), ((), ()))) ((), ((0 : Int), ((), ()))) [] [] (a0 :: []))
     (br (notB (eqI a3.1 (1 : Int)))
      (inner_Drop.j0 a2 a5 a6 a7 true a1 a4 ((), ((0 : Int), ((), ()))) ((), ((0 : Int), ((), ()))) [] [] (a0 :: []))
      (inner_Drop.j0 a2 a5 a6 a7 (notB (eqS a3.2.1 a5)) a1 a4 ((), ((0 : Int), ((), ()))) ((), ((0 : Int), ((), ()))) [] [] (a0 :: []))))) :=
  (callW_eq (P := PP) (T := TT) (pr := RR) 20 [⟨(.int .i64), a0⟩, ⟨tapiNode, a1⟩, ⟨(.int .i64), a2⟩, ⟨tapiNode, a3⟩, ⟨tapiNode, a4⟩, ⟨.str, a5⟩, ⟨(.int .i64), a6⟩, ⟨(.int .i64), a7⟩] [] (.tcons tplanPlan (.tcons (.int .i64) .tnil)) []).trans (by kernel_rfl)
theorem inner_Drop.j0.eq (x0 : den (.int .i64)) (x1 : den .str) (x2 : den (.int .i64)) (x3 : den (.int .i64)) (x4 : den .bool) (x5 : denO (.box tapiNode)) (x6 : denO (.box tapiNode)) (x7 : denO (.box (.pair (.own tapiNode 4) (.pair (.int .i64) (.pair (.own (.int .i64) 5) .unit))))) (x8 : denO (.box (.pair (.nil 28) (.pair (.int .i64) (.pair (.own (.int .i64) 6) .unit))))) (x9 : denO (.row 28 tapiNode false)) (x10 : denO (.row 25 (.int .i64) false)) (x11 : denO (.row 25 (.int .i64) false)) : inner_Drop.j0 x0 x1 x2 x3 x4 x5 x6 x7 x8 x9 x10 x11 =
  br x4
   (some (([], ((0 : Int), ([], ()))), ((4 : Int), ())))
   (br (fitL (.int .i64) (appL (.int .i64) x11 (x0 :: []))) (bnd (inner_Beside x5 x1 x2 x3) fun r0 =>
   br (notB (eqI r0 (0 : Int)))
    (inner_Drop.j1 x1 x2 x3 r0 (eqI x6.1 (1 : Int)) x5 x6 ((), (x7.2.1, ((), ()))) ((), (x8.2.1, ((), ()))) x9 x10 (appL (.int .i64) x11 (x0 :: [])))
    (inner_Drop.j1 x1 x2 x3 r0 false x5 x6 ((), (x7.2.1, ((), ()))) ((), (x8.2.1, ((), ()))) x9 x10 (appL (.int .i64) x11 (x0 :: [])))) none) :=
  (congrFun (congrFun (jnO_eq [1, 1, 1, 0, 1] (BF (R := den (.tcons tplanPlan (.tcons (.int .i64) .tnil))) 20 0 [1, 1, 1, 0, 1])) ⟨[(2, ⟨(.int .i64), x0⟩), (5, ⟨.str, x1⟩), (6, ⟨(.int .i64), x2⟩), (7, ⟨(.int .i64), x3⟩), (9, ⟨(.ptr 0 0), ()⟩), (12, ⟨(.ptr 1 0), ()⟩), (16, ⟨(.ptr 2 0), ()⟩), (18, ⟨(.ptr 3 0), ()⟩), (89, ⟨.bool, x4⟩)], [⟨(.box tapiNode), x5⟩, ⟨(.box tapiNode), x6⟩, ⟨(.box (.pair (.own tapiNode 4) (.pair (.int .i64) (.pair (.own (.int .i64) 5) .unit)))), x7⟩, ⟨(.box (.pair (.nil 28) (.pair (.int .i64) (.pair (.own (.int .i64) 6) .unit)))), x8⟩, ⟨(.row 28 tapiNode false), x9⟩, ⟨(.row 25 (.int .i64) false), x10⟩, ⟨(.row 25 (.int .i64) false), x11⟩]⟩) (seqK false [1, 1, 1, 1] (BF 20 0 [1, 1, 1, 1]) (finF 20 (.tcons tplanPlan (.tcons (.int .i64) .tnil)) [] 0))).trans (by kernel_rfl)
theorem inner_Drop.j1.eq (x0 : den .str) (x1 : den (.int .i64)) (x2 : den (.int .i64)) (x3 : den (.int .i64)) (x4 : den .bool) (x5 : denO (.box tapiNode)) (x6 : denO (.box tapiNode)) (x7 : denO (.box (.pair (.own tapiNode 4) (.pair (.int .i64) (.pair (.own (.int .i64) 5) .unit))))) (x8 : denO (.box (.pair (.nil 28) (.pair (.int .i64) (.pair (.own (.int .i64) 6) .unit))))) (x9 : denO (.row 28 tapiNode false)) (x10 : denO (.row 25 (.int .i64) false)) (x11 : denO (.row 25 (.int .i64) false)) : inner_Drop.j1 x0 x1 x2 x3 x4 x5 x6 x7 x8 x9 x10 x11 =
  br x4
   (br (fitL (.int .i64) (appL (.int .i64) x11 (x3 :: []))) (bnd (node_Tomb x6.2.1 x6.2.2.1) fun r0 =>
   bnd (plan_Add ((), (x8.2.1, ((), ()))) r0 (appL (.int .i64) x11 (x3 :: []))) fun r1 =>
   some ((r1.2.2.1, (r1.1.2.1, (r1.2.1, ()))), ((0 : Int), ()))) none)
   (bnd (inner_bare x5) fun r2 =>
   bnd (inner_chunk x0 x1 x2) fun r3 =>
   bnd (branch_Without r2 r3) fun r4 =>
   bnd (plan_Add ((), (x8.2.1, ((), ()))) r4 x11) fun r5 =>
   some ((r5.2.2.1, (r5.1.2.1, (r5.2.1, ()))), ((0 : Int), ()))) :=
  (congrFun (congrFun (jnO_eq [1, 1, 1, 1, 1, 0, 1, 1] (BF (R := den (.tcons tplanPlan (.tcons (.int .i64) .tnil))) 20 0 [1, 1, 1, 1, 1, 0, 1, 1])) ⟨[(5, ⟨.str, x0⟩), (6, ⟨(.int .i64), x1⟩), (7, ⟨(.int .i64), x2⟩), (9, ⟨(.ptr 0 0), ()⟩), (12, ⟨(.ptr 1 0), ()⟩), (16, ⟨(.ptr 2 0), ()⟩), (18, ⟨(.ptr 3 0), ()⟩), (22, ⟨(.int .i64), x3⟩), (108, ⟨.bool, x4⟩)], [⟨(.box tapiNode), x5⟩, ⟨(.box tapiNode), x6⟩, ⟨(.box (.pair (.own tapiNode 4) (.pair (.int .i64) (.pair (.own (.int .i64) 5) .unit)))), x7⟩, ⟨(.box (.pair (.nil 28) (.pair (.int .i64) (.pair (.own (.int .i64) 6) .unit)))), x8⟩, ⟨(.row 28 tapiNode false), x9⟩, ⟨(.row 25 (.int .i64) false), x10⟩, ⟨(.row 25 (.int .i64) false), x11⟩]⟩) (seqK false [1, 1, 1, 1, 1, 1] (BF 20 0 [1, 1, 1, 1, 1, 1]) (finF 20 (.tcons tplanPlan (.tcons (.int .i64) .tnil)) [] 0))).trans (by kernel_rfl)
theorem ref13_Binds.eq (a0 : den tapiNode) : ref13_Binds a0 =
  br (eqI a0.1 (1 : Int))
   (some ((a0.2.1, (a0.2.2.1, ())) :: []))
   (br (eqI a0.1 (4 : Int))
    (some ((a0.2.1, (a0.2.2.1, ())) :: []))
    (br (eqI a0.1 (6 : Int))
     (some ((a0.2.1, (a0.2.2.1, ())) :: []))
     (br (eqI a0.1 (3 : Int))
      (some a0.2.2.2.2.2.2.1)
      (some [])))) :=
  (callW_eq (P := PP) (T := TT) (pr := RR) 21 [⟨tapiNode, a0⟩] [] (.list tapiPair) []).trans (by kernel_rfl)
theorem ref07_Put.eq (a0 : den (.list tapiPair)) (a1 : den .str) (a2 : den .str) : ref07_Put a0 a1 a2 =
  br (fitL tapiPair (appL tapiPair [] a0)) (br (fitL tapiPair (appL tapiPair (appL tapiPair [] a0) ((a1, (a2, ())) :: []))) (bnd (ref07_Make (appL tapiPair (appL tapiPair [] a0) ((a1, (a2, ())) :: []))) fun r0 =>
  some r0) none) none :=
  (callW_eq (P := PP) (T := TT) (pr := RR) 22 [⟨(.list tapiPair), a0⟩, ⟨.str, a1⟩, ⟨.str, a2⟩] [] (.list tapiPair) []).trans (by kernel_rfl)
theorem ref07_Drop.eq (a0 : den (.list tapiPair)) (a1 : den .str) : ref07_Drop a0 a1 =
  bnd (ref07_Make a0) fun r0 =>
  ref07_Drop.l0 a1 r0 (0 : Int) [] :=
  (callW_eq (P := PP) (T := TT) (pr := RR) 23 [⟨(.list tapiPair), a0⟩, ⟨.str, a1⟩] [] (.list tapiPair) []).trans (by kernel_rfl)
theorem ref07_Drop.l0.eq (x0 : den .str) (x1 : den (.list tapiPair)) (x2 : den (.int .i64)) (x3 : denO (.row 52 tapiPair false)) : ref07_Drop.l0 x0 x1 x2 x3 =
  br (ltI x2 (ofN (lenL tapiPair x1)))
   (br (andB (leI (0 : Int) x2) (ltI x2 (ofN (lenL tapiPair x1)))) (br (notB (eqS (ixL tapiPair x1 x2).1 x0))
    (br (andB (leI (0 : Int) x2) (ltI x2 (ofN (lenL tapiPair x1)))) (br (fitL tapiPair (appL tapiPair x3 ((ixL tapiPair x1 x2) :: []))) (ref07_Drop.l0 x0 x1 (addI .i64 x2 (1 : Int)) (appL tapiPair x3 ((ixL tapiPair x1 x2) :: []))) none) none)
    (ref07_Drop.l0 x0 x1 (addI .i64 x2 (1 : Int)) x3)) none)
   (some x3) :=
  (loopB_eq (P := PP) (T := TT) (C := CF) [1, 1, 0, 1, 0, 0] [1, 1, 0, 1, 0, 0] 23 0 ⟨[(1, ⟨.str, x0⟩), (5, ⟨(.list tapiPair), x1⟩), (6, ⟨(.own tapiPair 0), ()⟩), (7, ⟨(.int .i64), x2⟩)], [⟨(.row 52 tapiPair false), x3⟩]⟩ (blockK 0 (seqK false [1, 1, 1] (BF 23 0 [1, 1, 1]) (finF 23 (.list tapiPair) [] 0)))).trans (by kernel_rfl)
theorem law13_Few.eq (a0 : den tapiNode) : law13_Few a0 =
  bnd (base_Cut a0.2.1 (40 : Int)) fun r0 =>
  bnd (base_Cut a0.2.2.1 (40 : Int)) fun r1 =>
  br (andB (leI (0 : Int) (0 : Int)) (andB (leI (0 : Int) (minI (ofN (lenL (.int .i64) a0.2.2.2.2.1)) (40 : Int))) (leI (minI (ofN (lenL (.int .i64) a0.2.2.2.2.1)) (40 : Int)) (ofN (lenL (.int .i64) a0.2.2.2.2.1))))) (br (fitL (.int .i64) (appL (.int .i64) [] (subL (.int .i64) a0.2.2.2.2.1 (toN (0 : Int)) (toN (minI (ofN (lenL (.int .i64) a0.2.2.2.2.1)) (40 : Int)))))) (bnd (law07_Few a0.2.2.2.2.2.2.1) fun r2 =>
  some ((a0.1, (r0, (r1, (a0.2.2.2.1, ((), (a0.2.2.2.2.2.1, (r2, a0.2.2.2.2.2.2.2))))))), ((appL (.int .i64) [] (subL (.int .i64) a0.2.2.2.2.1 (toN (0 : Int)) (toN (minI (ofN (lenL (.int .i64) a0.2.2.2.2.1)) (40 : Int))))), ()))) none) none :=
  (callW_eq (P := PP) (T := TT) (pr := RR) 24 [⟨tapiNode, a0⟩] [] (.pair (.int .i64) (.pair .str (.pair .str (.pair (.int .u32) (.pair (.own (.int .i64) 0) (.pair (.int .i64) (.pair (.list tapiPair) (.pair (.int .i64) (.pair (.int .i64) .unit))))))))) [(.row 25 (.int .i64) false)]).trans (by kernel_rfl)
theorem inner_two.eq (a0 : den (.pair (.nil 28) (.pair (.int .i64) (.pair (.nil 25) .unit)))) (a1 : den (.int .i64)) (a2 : den tapiNode) (a3 : den .str) (a4 : den .str) (a5 : den (.int .i64)) (a6 : den (.int .i64)) : inner_two a0 a1 a2 a3 a4 a5 a6 =
  bnd (inner_at a5 a6) fun r0 =>
  bnd (inner_two_2 r0 a6 true ((), ()) a2 a3 a4 ((), ((), ((), ((), ((), ((), ((), ((), ())))))))) a1 ((), (a0.2.1, ((), ()))) [] []) fun r1 =>
  both
   (some ((((), (r1.2.2.2.2.2.2.2.2.2.1.2.1, ((), ()))), (r1.1, (r1.2.2.1, ()))), (r1.2.2.2.2.2.2.2.2.2.2.2.2.1, (r1.2.2.2.2.2.2.2.2.2.2.2.1, ()))))
   (some ((((), (r1.2.2.2.2.2.2.2.2.2.1.2.1, ((), ()))), (r1.1, (r1.2.2.1, ()))), (r1.2.2.2.2.2.2.2.2.2.2.2.2.1, (r1.2.2.2.2.2.2.2.2.2.2.2.1, ())))) :=
  (callW_eq (P := PP) (T := TT) (pr := RR) 25 [⟨(.pair (.nil 28) (.pair (.int .i64) (.pair (.nil 25) .unit))), a0⟩, ⟨(.int .i64), a1⟩, ⟨tapiNode, a2⟩, ⟨.str, a3⟩, ⟨.str, a4⟩, ⟨(.int .i64), a5⟩, ⟨(.int .i64), a6⟩] [] (.tcons (.pair (.own tapiNode 0) (.pair (.int .i64) (.pair (.own (.int .i64) 1) .unit))) (.tcons (.int .i64) (.tcons .bool .tnil))) [(.row 28 tapiNode false), (.row 25 (.int .i64) false)]).trans (by kernel_rfl)
theorem ref29_At.eq (a0 : den (.int .i64)) (a1 : den (.int .i64)) : ref29_At a0 a1 =
  br (ltI a0 (0 : Int))
   (some (0 : Int))
   (bnd (ref04_Levels a1) fun r0 =>
   some (minI a0 r0)) :=
  (callW_eq (P := PP) (T := TT) (pr := RR) 27 [⟨(.int .i64), a0⟩, ⟨(.int .i64), a1⟩] [] (.int .i64) []).trans (by kernel_rfl)
theorem ref29_two.eq (a0 : den (.int .i64)) (a1 : den tapiNode) (a2 : den .str) (a3 : den .str) (a4 : den (.int .i64)) (a5 : den (.int .i64)) : ref29_two a0 a1 a2 a3 a4 a5 =
  bnd (ref04_Levels a5) fun r0 =>
  br (leI r0 a4)
   (bnd (ref07_Make ((a1.2.1, (a1.2.2.1, ())) :: ((a2, (a3, ())) :: []))) fun r1 =>
   br (fitL tapiNode (((3 : Int), (ByteArray.empty, (ByteArray.empty, ((0 : Int), ([], ((0 : Int), (r1, ((2 : Int), ((0 : Int), ()))))))))) :: [])) (some (((), (true, ())), ((((3 : Int), (ByteArray.empty, (ByteArray.empty, ((0 : Int), ([], ((0 : Int), (r1, ((2 : Int), ((0 : Int), ()))))))))) :: []), ()))) none)
   (bnd (ref29_chunk a2 a4 a5) fun r2 =>
   bnd (ref29_chunk a1.2.1 a4 a5) fun r3 =>
   br (notB (eqI r2 r3))
    (br (fitL tapiNode (((1 : Int), (a2, (a3, ((0 : Int), ([], ((0 : Int), ([], ((1 : Int), ((0 : Int), ()))))))))) :: [])) (bnd (ref19_Branch_Put ((List.replicate 32 (0 : Int)), ((0 : Int), ((0 : Int), ()))) r2 (subI .i64 (0 : Int) (ofN (lenL tapiNode (((1 : Int), (a2, (a3, ((0 : Int), ([], ((0 : Int), ([], ((1 : Int), ((0 : Int), ()))))))))) :: []))))) fun r4 =>
    bnd (ref19_Branch_Put r4 r3 a0) fun r5 =>
    bnd (ref29_made r5) fun r6 =>
    br (fitL tapiNode (appL tapiNode (((1 : Int), (a2, (a3, ((0 : Int), ([], ((0 : Int), ([], ((1 : Int), ((0 : Int), ()))))))))) :: []) (r6 :: []))) (some (((), (false, ())), ((appL tapiNode (((1 : Int), (a2, (a3, ((0 : Int), ([], ((0 : Int), ([], ((1 : Int), ((0 : Int), ()))))))))) :: []) (r6 :: [])), ()))) none) none)
    (bnd (ref29_two a0 a1 a2 a3 (addI .i64 a4 (1 : Int)) a5) fun r7 =>
    br (fitL tapiNode (appL tapiNode r7.2.1 (((5 : Int), (ByteArray.empty, (ByteArray.empty, ((0 : Int), ([], ((subI .i64 (0 : Int) (ofN (lenL tapiNode r7.2.1))), ([], ((0 : Int), ((0 : Int), ()))))))))) :: []))) (bnd (ref19_Branch_Put ((List.replicate 32 (0 : Int)), ((0 : Int), ((0 : Int), ()))) r2 (subI .i64 (0 : Int) (ofN (lenL tapiNode (appL tapiNode r7.2.1 (((5 : Int), (ByteArray.empty, (ByteArray.empty, ((0 : Int), ([], ((subI .i64 (0 : Int) (ofN (lenL tapiNode r7.2.1))), ([], ((0 : Int), ((0 : Int), ()))))))))) :: [])))))) fun r8 =>
    bnd (ref29_made r8) fun r9 =>
    br (fitL tapiNode (appL tapiNode (appL tapiNode r7.2.1 (((5 : Int), (ByteArray.empty, (ByteArray.empty, ((0 : Int), ([], ((subI .i64 (0 : Int) (ofN (lenL tapiNode r7.2.1))), ([], ((0 : Int), ((0 : Int), ()))))))))) :: [])) (r9 :: []))) (some (r7.1, ((appL tapiNode (appL tapiNode r7.2.1 (((5 : Int), (ByteArray.empty, (ByteArray.empty, ((0 : Int), ([], ((subI .i64 (0 : Int) (ofN (lenL tapiNode r7.2.1))), ([], ((0 : Int), ((0 : Int), ()))))))))) :: [])) (r9 :: [])), ()))) none) none)) :=
  (callW_eq (P := PP) (T := TT) (pr := RR) 26 [⟨(.nil 0), ()⟩, ⟨(.int .i64), a0⟩, ⟨tapiNode, a1⟩, ⟨.str, a2⟩, ⟨.str, a3⟩, ⟨(.int .i64), a4⟩, ⟨(.int .i64), a5⟩] [] (.tcons (.own tapiNode 0) (.tcons .bool .tnil)) [(.row 28 tapiNode false)]).trans (by kernel_rfl)
theorem ref29_plan1.eq (a0 : den (.list tapiNode)) (a1 : den (.list (.int .i64))) : ref29_plan1 a0 a1 =
  some (a0, ((subI .i64 (0 : Int) (ofN (lenL tapiNode a0))), (a1, ()))) :=
  (callW_eq (P := PP) (T := TT) (pr := RR) 28 [⟨(.list tapiNode), a0⟩, ⟨(.list (.int .i64)), a1⟩] [] tplanPlan []).trans (by kernel_rfl)
theorem law18_Back.eq (a0 : den tplanPlan) : law18_Back a0 =
  some a0 :=
  (callW_eq (P := PP) (T := TT) (pr := RR) 30 [⟨tplanPlan, a0⟩] [] tplanPlan []).trans (by kernel_rfl)
theorem ref29_Same.eq (a0 : den tplanPlan) (a1 : den tplanPlan) : ref29_Same a0 a1 =
  br (notB (eqI a0.2.1 a1.2.1))
   (some false)
   (br (notB (eqI (ofN (lenL (.int .i64) a0.2.2.1)) (ofN (lenL (.int .i64) a1.2.2.1))))
    (some false)
    (bnd (ref18_SameHeap a0.1 a1.1) fun r0 =>
    br (notB r0)
     (some false)
     (ref29_Same.l0 (0 : Int) a0 a1))) :=
  (callW_eq (P := PP) (T := TT) (pr := RR) 29 [⟨tplanPlan, a0⟩, ⟨tplanPlan, a1⟩] [] .bool []).trans (by kernel_rfl)
theorem ref29_Same.l0.eq (x0 : den (.int .i64)) (x1 : denO (.box tplanPlan)) (x2 : denO (.box tplanPlan)) : ref29_Same.l0 x0 x1 x2 =
  br (ltI x0 (ofN (lenL (.int .i64) x1.2.2.1)))
   (br (andB (leI (0 : Int) x0) (ltI x0 (ofN (lenL (.int .i64) x1.2.2.1)))) (br (andB (leI (0 : Int) x0) (ltI x0 (ofN (lenL (.int .i64) x2.2.2.1)))) (br (notB (eqI (ixL (.int .i64) x1.2.2.1 x0) (ixL (.int .i64) x2.2.2.1 x0)))
    (some false)
    (ref29_Same.l0 (addI .i64 x0 (1 : Int)) x1 x2)) none) none)
   (some true) :=
  (loopB_eq (P := PP) (T := TT) (C := CF) [1, 1, 0, 1, 0, 0] [1, 1, 0, 1, 0, 0] 29 0 ⟨[(2, ⟨(.ptr 0 0), ()⟩), (3, ⟨(.ptr 1 0), ()⟩), (5, ⟨(.int .i64), x0⟩)], [⟨(.box tplanPlan), x1⟩, ⟨(.box tplanPlan), x2⟩]⟩ (blockK 0 (seqK false [1, 1, 1] (BF 29 0 [1, 1, 1]) (finF 29 .bool [] 0)))).trans (by kernel_rfl)
theorem node_Binds.eq (a0 : den tapiNode) : node_Binds a0 =
  br (eqI a0.1 (1 : Int))
   (some ((), (((a0.2.1, (a0.2.2.1, ())) :: []), ())))
   (br (eqI a0.1 (6 : Int))
    (some ((), (((a0.2.1, (a0.2.2.1, ())) :: []), ())))
    (br (eqI a0.1 (4 : Int))
     (some ((), (((a0.2.1, (a0.2.2.1, ())) :: []), ())))
     (br (eqI a0.1 (3 : Int))
      (bnd (slices_Cloneapi_Pair_api_Pair a0.2.2.2.2.2.2.1) fun r0 =>
      some ((), (r0.2.1, ())))
      (some ((), ([], ())))))) :=
  (callW_eq (P := PP) (T := TT) (pr := RR) 34 [⟨tapiNode, a0⟩] [] (.own tapiPair 0) [(.row 52 tapiPair false)]).trans (by kernel_rfl)
theorem pair_Put.eq (a0 : den (.list tapiPair)) (a1 : den .str) (a2 : den .str) : pair_Put a0 a1 a2 =
  bnd (pair_ordered a0) fun r0 =>
  bnd (pair_put r0 (a1, (a2, ()))) fun r1 =>
  some r1.2.1 :=
  (callW_eq (P := PP) (T := TT) (pr := RR) 33 [⟨(.list tapiPair), a0⟩, ⟨.str, a1⟩, ⟨.str, a2⟩] [] (.list tapiPair) []).trans (by kernel_rfl)
theorem node_Bucket.eq (a0 : den (.list tapiPair)) : node_Bucket a0 =
  bnd (pair_Make a0) fun r0 =>
  some ((3 : Int), (ByteArray.empty, (ByteArray.empty, ((0 : Int), ([], ((0 : Int), (r0, ((ofN (lenL tapiPair r0)), ((0 : Int), ()))))))))) :=
  (callW_eq (P := PP) (T := TT) (pr := RR) 32 [⟨(.list tapiPair), a0⟩] [] tapiNode []).trans (by kernel_rfl)
theorem plan_Add.eq (a0 : den (.pair (.nil 28) (.pair (.int .i64) (.pair (.own (.int .i64) 0) .unit)))) (a1 : den tapiNode) (a2 : denO (.row 25 (.int .i64) true)) : plan_Add a0 a1 a2 =
  bnd (slices_Cloneapi_Node_api_Node []) fun r0 =>
  bnd (node_Copy a1) fun r1 =>
  br (fitL tapiNode (appL tapiNode r0.2.1 ((r1.1.1, (r1.1.2.1, (r1.1.2.2.1, (r1.1.2.2.2.1, (r1.2.1, (r1.1.2.2.2.2.2.1, (r1.2.2.1, r1.1.2.2.2.2.2.2.2))))))) :: []))) (bnd (ref_New (subI .i64 (ofN (lenL tapiNode (appL tapiNode r0.2.1 ((r1.1.1, (r1.1.2.1, (r1.1.2.2.1, (r1.1.2.2.2.1, (r1.2.1, (r1.1.2.2.2.2.2.1, (r1.2.2.1, r1.1.2.2.2.2.2.2.2))))))) :: [])))) (1 : Int))) fun r2 =>
  some ((((), (a0.2.1, ((), ()))), (r2, ())), (a2, ((appL tapiNode r0.2.1 ((r1.1.1, (r1.1.2.1, (r1.1.2.2.1, (r1.1.2.2.2.1, (r1.2.1, (r1.1.2.2.2.2.2.1, (r1.2.2.1, r1.1.2.2.2.2.2.2.2))))))) :: [])), ())))) none :=
  (callW_eq (P := PP) (T := TT) (pr := RR) 31 [⟨(.pair (.nil 28) (.pair (.int .i64) (.pair (.own (.int .i64) 0) .unit))), a0⟩, ⟨tapiNode, a1⟩] [⟨(.row 25 (.int .i64) true), a2⟩] (.tcons (.pair (.own tapiNode 1) (.pair (.int .i64) (.pair (.own (.int .i64) 0) .unit))) (.tcons (.int .i64) .tnil)) [(.row 25 (.int .i64) false), (.row 28 tapiNode false)]).trans (by kernel_rfl)
theorem node_Leaf.eq (a0 : den .str) (a1 : den .str) : node_Leaf a0 a1 =
  some ((1 : Int), (a0, (a1, ((0 : Int), ([], ((0 : Int), ([], ((1 : Int), ((0 : Int), ()))))))))) :=
  (callW_eq (P := PP) (T := TT) (pr := RR) 35 [⟨.str, a0⟩, ⟨.str, a1⟩] [] tapiNode []).trans (by kernel_rfl)
theorem inner_bare.eq (a0 : den tapiNode) : inner_bare a0 =
  bnd (branch_Sized a0 (0 : Int)) fun r0 =>
  some r0 :=
  (callW_eq (P := PP) (T := TT) (pr := RR) 39 [⟨tapiNode, a0⟩] [] tapiNode []).trans (by kernel_rfl)
theorem inner_chunk.eq (a0 : den .str) (a1 : den (.int .i64)) (a2 : den (.int .i64)) : inner_chunk a0 a1 a2 =
  bnd (hash_Of a0 a2) fun r0 =>
  bnd (inner_at a1 a2) fun r1 =>
  bnd (hash_Chunk r0 r1 a2) fun r2 =>
  some r2 :=
  (callW_eq (P := PP) (T := TT) (pr := RR) 40 [⟨.str, a0⟩, ⟨(.int .i64), a1⟩, ⟨(.int .i64), a2⟩] [] (.int .i64) []).trans (by kernel_rfl)
theorem branch_With.eq (a0 : den tapiNode) (a1 : den (.int .i64)) (a2 : den (.int .i64)) : branch_With a0 a1 a2 =
  bnd (branch_branch a0) fun r0 =>
  bnd (mask_With r0.1.2.2.2.1 a1) fun r1 =>
  bnd (mask_Place r1 a1) fun r2 =>
  br (eqI a2 (0 : Int))
   (branch_With.j0 a2 r1 r2 true ((0 : Int), (ByteArray.empty, (ByteArray.empty, ((0 : Int), ((), ((0 : Int), ((), ((0 : Int), ((0 : Int), ()))))))))) r0.1 [] [] r0.2.1 r0.2.2.1)
   (bnd (mask_Has r1 a1) fun r3 =>
   branch_With.j0 a2 r1 r2 (notB r3) ((0 : Int), (ByteArray.empty, (ByteArray.empty, ((0 : Int), ((), ((0 : Int), ((), ((0 : Int), ((0 : Int), ()))))))))) r0.1 [] [] r0.2.1 r0.2.2.1) :=
  (callW_eq (P := PP) (T := TT) (pr := RR) 38 [⟨tapiNode, a0⟩, ⟨(.int .i64), a1⟩, ⟨(.int .i64), a2⟩] [] tapiNode []).trans (by kernel_rfl)
theorem branch_With.j0.eq (x0 : den (.int .i64)) (x1 : den (.int .u32)) (x2 : den (.int .i64)) (x3 : den .bool) (x4 : denO (.box (.pair (.int .i64) (.pair .str (.pair .str (.pair (.int .u32) (.pair (.own (.int .i64) 2) (.pair (.int .i64) (.pair (.own tapiPair 3) (.pair (.int .i64) (.pair (.int .i64) .unit))))))))))) (x5 : denO (.box (.pair (.int .i64) (.pair .str (.pair .str (.pair (.int .u32) (.pair (.own (.int .i64) 4) (.pair (.int .i64) (.pair (.own tapiPair 5) (.pair (.int .i64) (.pair (.int .i64) .unit))))))))))) (x6 : denO (.row 25 (.int .i64) false)) (x7 : denO (.row 52 tapiPair false)) (x8 : denO (.row 25 (.int .i64) false)) (x9 : denO (.row 52 tapiPair false)) : branch_With.j0 x0 x1 x2 x3 x4 x5 x6 x7 x8 x9 =
  br x3
   (some (x5.1, (x5.2.1, (x5.2.2.1, (x5.2.2.2.1, (x8, (x5.2.2.2.2.2.1, (x9, x5.2.2.2.2.2.2.2))))))))
   (br (eqI x1 x5.2.2.2.1)
    (br (andB (leI (0 : Int) x2) (ltI x2 (ofN (lenL (.int .i64) x8)))) (some (x5.1, (x5.2.1, (x5.2.2.1, (x1, ((setL (.int .i64) x8 x2 x0), (x5.2.2.2.2.2.1, (x9, x5.2.2.2.2.2.2.2)))))))) none)
    (bnd (slices_Insertapi_Ref_api_Ref x2 x8 (x0 :: [])) fun r0 =>
    some (x5.1, (x5.2.1, (x5.2.2.1, (x1, (r0.2.1, (x5.2.2.2.2.2.1, (x9, x5.2.2.2.2.2.2.2))))))))) :=
  (congrFun (congrFun (jnO_eq [1, 1, 1, 1, 0, 0, 1] (BF (R := den tapiNode) 38 0 [1, 1, 1, 1, 0, 0, 1])) ⟨[(2, ⟨(.int .i64), x0⟩), (6, ⟨(.ptr 0 0), ()⟩), (7, ⟨(.ptr 1 0), ()⟩), (8, ⟨(.int .u32), x1⟩), (9, ⟨(.int .i64), x2⟩), (26, ⟨.bool, x3⟩)], [⟨(.box (.pair (.int .i64) (.pair .str (.pair .str (.pair (.int .u32) (.pair (.own (.int .i64) 2) (.pair (.int .i64) (.pair (.own tapiPair 3) (.pair (.int .i64) (.pair (.int .i64) .unit)))))))))), x4⟩, ⟨(.box (.pair (.int .i64) (.pair .str (.pair .str (.pair (.int .u32) (.pair (.own (.int .i64) 4) (.pair (.int .i64) (.pair (.own tapiPair 5) (.pair (.int .i64) (.pair (.int .i64) .unit)))))))))), x5⟩, ⟨(.row 25 (.int .i64) false), x6⟩, ⟨(.row 52 tapiPair false), x7⟩, ⟨(.row 25 (.int .i64) false), x8⟩, ⟨(.row 52 tapiPair false), x9⟩]⟩) (blockK 0 (seqK false [1, 1, 1, 1, 1] (BF 38 0 [1, 1, 1, 1, 1]) (finF 38 tapiNode [] 0)))).trans (by kernel_rfl)
theorem plan_Add_v1.eq (a0 : den (.pair (.own tapiNode 0) (.pair (.int .i64) (.pair (.own (.int .i64) 1) .unit)))) (a1 : den tapiNode) (a2 : denO (.row 28 tapiNode true)) (a3 : denO (.row 25 (.int .i64) true)) : plan_Add_v1 a0 a1 a2 a3 =
  bnd (slices_Cloneapi_Node_api_Node a2) fun r0 =>
  bnd (node_Copy a1) fun r1 =>
  br (fitL tapiNode (appL tapiNode r0.2.1 ((r1.1.1, (r1.1.2.1, (r1.1.2.2.1, (r1.1.2.2.2.1, (r1.2.1, (r1.1.2.2.2.2.2.1, (r1.2.2.1, r1.1.2.2.2.2.2.2.2))))))) :: []))) (bnd (ref_New (subI .i64 (ofN (lenL tapiNode (appL tapiNode r0.2.1 ((r1.1.1, (r1.1.2.1, (r1.1.2.2.1, (r1.1.2.2.2.1, (r1.2.1, (r1.1.2.2.2.2.2.1, (r1.2.2.1, r1.1.2.2.2.2.2.2.2))))))) :: [])))) (1 : Int))) fun r2 =>
  some ((((), (a0.2.1, ((), ()))), (r2, ())), ((), (a3, ((appL tapiNode r0.2.1 ((r1.1.1, (r1.1.2.1, (r1.1.2.2.1, (r1.1.2.2.2.1, (r1.2.1, (r1.1.2.2.2.2.2.1, (r1.2.2.1, r1.1.2.2.2.2.2.2.2))))))) :: [])), ()))))) none :=
  (callW_eq (P := PP) (T := TT) (pr := RR) 31 [⟨(.pair (.own tapiNode 0) (.pair (.int .i64) (.pair (.own (.int .i64) 1) .unit))), a0⟩, ⟨tapiNode, a1⟩] [⟨(.row 28 tapiNode true), a2⟩, ⟨(.row 25 (.int .i64) true), a3⟩] (.tcons (.pair (.own tapiNode 2) (.pair (.int .i64) (.pair (.own (.int .i64) 1) .unit))) (.tcons (.int .i64) .tnil)) [.gone, (.row 25 (.int .i64) false), (.row 28 tapiNode false)]).trans (by kernel_rfl)
theorem inner_at.eq (a0 : den (.int .i64)) (a1 : den (.int .i64)) : inner_at a0 a1 =
  bnd (hash_Levels a1) fun r0 =>
  some (minI (maxI a0 (0 : Int)) r0) :=
  (callW_eq (P := PP) (T := TT) (pr := RR) 36 [⟨(.int .i64), a0⟩, ⟨(.int .i64), a1⟩] [] (.int .i64) []).trans (by kernel_rfl)
theorem inner_two_v1.eq (a0 : den (.pair (.nil 28) (.pair (.int .i64) (.pair (.own (.int .i64) 0) .unit)))) (a1 : den (.int .i64)) (a2 : den tapiNode) (a3 : den .str) (a4 : den .str) (a5 : den (.int .i64)) (a6 : den (.int .i64)) (a7 : denO (.row 25 (.int .i64) true)) : inner_two_v1 a0 a1 a2 a3 a4 a5 a6 a7 =
  bnd (inner_at a5 a6) fun r0 =>
  bnd (inner_two_2 r0 a6 true ((), ()) a2 a3 a4 ((), ((), ((), ((), ((), ((), ((), ((), ())))))))) a1 ((), (a0.2.1, ((), ()))) [] a7) fun r1 =>
  both
   (some ((((), (r1.2.2.2.2.2.2.2.2.2.1.2.1, ((), ()))), (r1.1, (r1.2.2.1, ()))), (r1.2.2.2.2.2.2.2.2.2.2.2.1, (r1.2.2.2.2.2.2.2.2.2.2.2.2.1, ()))))
   (some ((((), (r1.2.2.2.2.2.2.2.2.2.1.2.1, ((), ()))), (r1.1, (r1.2.2.1, ()))), (r1.2.2.2.2.2.2.2.2.2.2.2.1, (r1.2.2.2.2.2.2.2.2.2.2.2.2.1, ())))) :=
  (callW_eq (P := PP) (T := TT) (pr := RR) 25 [⟨(.pair (.nil 28) (.pair (.int .i64) (.pair (.own (.int .i64) 0) .unit))), a0⟩, ⟨(.int .i64), a1⟩, ⟨tapiNode, a2⟩, ⟨.str, a3⟩, ⟨.str, a4⟩, ⟨(.int .i64), a5⟩, ⟨(.int .i64), a6⟩] [⟨(.row 25 (.int .i64) true), a7⟩] (.tcons (.pair (.own tapiNode 1) (.pair (.int .i64) (.pair (.own (.int .i64) 0) .unit))) (.tcons (.int .i64) (.tcons .bool .tnil))) [(.row 25 (.int .i64) false), (.row 28 tapiNode false)]).trans (by kernel_rfl)
theorem node_Inner.eq (a0 : den (.int .i64)) : node_Inner a0 =
  some ((5 : Int), (ByteArray.empty, (ByteArray.empty, ((0 : Int), ([], (a0, ([], ((0 : Int), ((0 : Int), ()))))))))) :=
  (callW_eq (P := PP) (T := TT) (pr := RR) 37 [⟨(.int .i64), a0⟩] [] tapiNode []).trans (by kernel_rfl)
theorem ref19_Of.eq (a0 : den tapiNode) : ref19_Of a0 =
  br (notB (eqI a0.1 (2 : Int)))
   (some ((List.replicate 32 (0 : Int)), ((0 : Int), ((0 : Int), ()))))
   (bnd (ref13_May a0) fun r0 =>
   br (notB (eqI r0 (0 : Int)))
    (some ((List.replicate 32 (0 : Int)), ((0 : Int), ((0 : Int), ()))))
    (bnd (ref06_All a0.2.2.2.1) fun r1 =>
    ref19_Of.l0 r1 (0 : Int) a0 ((List.replicate 32 (0 : Int)), ((0 : Int), ((0 : Int), ()))) ((List.replicate 32 (0 : Int)), ((0 : Int), ((0 : Int), ()))))) :=
  (callW_eq (P := PP) (T := TT) (pr := RR) 41 [⟨tapiNode, a0⟩] [] tboscageref19Branch []).trans (by kernel_rfl)
theorem ref19_Of.l0.eq (x0 : den (.list (.int .i64))) (x1 : den (.int .i64)) (x2 : denO (.box tapiNode)) (x3 : denO (.box tboscageref19Branch)) (x4 : denO (.box tboscageref19Branch)) : ref19_Of.l0 x0 x1 x2 x3 x4 =
  br (ltI x1 (ofN (lenL (.int .i64) x0)))
   (br (andB (leI (0 : Int) x1) (ltI x1 (ofN (lenL (.int .i64) x0)))) (br (andB (leI (0 : Int) x1) (ltI x1 (ofN (lenL (.int .i64) x2.2.2.2.2.1)))) (br (andB (leI (0 : Int) (ixL (.int .i64) x0 x1)) (ltI (ixL (.int .i64) x0 x1) (ofN 32))) (ref19_Of.l0 x0 (addI .i64 x1 (1 : Int)) x2 x3 ((setL (.int .i64) x4.1 (ixL (.int .i64) x0 x1) (ixL (.int .i64) x2.2.2.2.2.1 x1)), x4.2)) none) none) none)
   (both
    (some (x4.1, x2.2.2.2.2.2.2.2))
    (some (x4.1, x2.2.2.2.2.2.2.2))) :=
  (loopB_eq (P := PP) (T := TT) (C := CF) [1, 1, 1, 1, 0, 1, 0, 0] [1, 1, 1, 1, 0, 1, 0, 0] 41 0 ⟨[(1, ⟨(.ptr 0 0), ()⟩), (2, ⟨(.ptr 1 0), ()⟩), (3, ⟨(.ptr 2 0), ()⟩), (4, ⟨(.list (.int .i64)), x0⟩), (5, ⟨(.int .i64), x1⟩)], [⟨(.box tapiNode), x2⟩, ⟨(.box tboscageref19Branch), x3⟩, ⟨(.box tboscageref19Branch), x4⟩]⟩ (blockK 0 (seqK false [1, 1, 1, 1, 1] (BF 41 0 [1, 1, 1, 1, 1]) (finF 41 tboscageref19Branch [] 0)))).trans (by kernel_rfl)
theorem ref29_chunk.eq (a0 : den .str) (a1 : den (.int .i64)) (a2 : den (.int .i64)) : ref29_chunk a0 a1 a2 =
  bnd (ref04_Of a0 a2) fun r0 =>
  bnd (ref29_At a1 a2) fun r1 =>
  bnd (ref04_Chunk r0 r1 a2) fun r2 =>
  some r2 :=
  (callW_eq (P := PP) (T := TT) (pr := RR) 42 [⟨.str, a0⟩, ⟨(.int .i64), a1⟩, ⟨(.int .i64), a2⟩] [] (.int .i64) []).trans (by kernel_rfl)
theorem ref19_Branch_Put.eq (a0 : den tboscageref19Branch) (a1 : den (.int .i64)) (a2 : den (.int .i64)) : ref19_Branch_Put a0 a1 a2 =
  br (leI (0 : Int) a1)
   (br (ltI a1 (32 : Int))
    (br (andB (leI (0 : Int) a1) (ltI a1 (ofN 32))) (some ((setL (.int .i64) a0.1 a1 a2), a0.2)) none)
    (some a0))
   (some a0) :=
  (callW_eq (P := PP) (T := TT) (pr := RR) 44 [⟨tboscageref19Branch, a0⟩, ⟨(.int .i64), a1⟩, ⟨(.int .i64), a2⟩] [] tboscageref19Branch []).trans (by kernel_rfl)
theorem ref29_made.eq (a0 : den tboscageref19Branch) : ref29_made a0 =
  bnd (ref19_Branch_Node (a0.1, ((0 : Int), a0.2.2))) fun r0 =>
  some r0 :=
  (callW_eq (P := PP) (T := TT) (pr := RR) 43 [⟨tboscageref19Branch, a0⟩] [] tapiNode []).trans (by kernel_rfl)
theorem node_Branch_o.eq (a0 : den (.int .u32)) (a1 : den (.list (.int .i64))) (a2 : den (.int .i64)) : node_Branch_o a0 a1 a2 =
  bnd (slices_Cloneapi_Ref_api_Ref a1) fun r0 =>
  some (((2 : Int), (ByteArray.empty, (ByteArray.empty, (a0, ((), ((0 : Int), ((), (a2, ((0 : Int), ()))))))))), (r0.2.1, ([], ()))) :=
  (callW_eq (P := PP) (T := TT) (pr := RR) 45 [⟨(.int .u32), a0⟩, ⟨(.list (.int .i64)), a1⟩, ⟨(.int .i64), a2⟩] [] (.pair (.int .i64) (.pair .str (.pair .str (.pair (.int .u32) (.pair (.own (.int .i64) 0) (.pair (.int .i64) (.pair (.own tapiPair 1) (.pair (.int .i64) (.pair (.int .i64) .unit))))))))) [(.row 25 (.int .i64) false), (.row 52 tapiPair false)]).trans (by kernel_rfl)
theorem ref13_long.eq (a0 : den tapiNode) : ref13_long a0 =
  br (ltI (16 : Int) (ofN (lenS a0.2.1)))
   (ref13_long.l0 true (0 : Int) a0)
   (ref13_long.l0 (ltI (16 : Int) (ofN (lenS a0.2.2.1))) (0 : Int) a0) :=
  (callW_eq (P := PP) (T := TT) (pr := RR) 46 [⟨tapiNode, a0⟩] [] .bool []).trans (by kernel_rfl)
theorem ref13_long.l0.eq (x0 : den .bool) (x1 : den (.int .i64)) (x2 : denO (.box tapiNode)) : ref13_long.l0 x0 x1 x2 =
  br (ltI x1 (ofN (lenL tapiPair x2.2.2.2.2.2.2.1)))
   (br x0
    (ref13_long.l0 true (addI .i64 x1 (1 : Int)) x2)
    (br (andB (leI (0 : Int) x1) (ltI x1 (ofN (lenL tapiPair x2.2.2.2.2.2.2.1)))) (br (ltI (16 : Int) (ofN (lenS (ixL tapiPair x2.2.2.2.2.2.2.1 x1).1)))
     (ref13_long.l0 true (addI .i64 x1 (1 : Int)) x2)
     (br (andB (leI (0 : Int) x1) (ltI x1 (ofN (lenL tapiPair x2.2.2.2.2.2.2.1)))) (ref13_long.l0 (ltI (16 : Int) (ofN (lenS (ixL tapiPair x2.2.2.2.2.2.2.1 x1).2.1))) (addI .i64 x1 (1 : Int)) x2) none)) none))
   (some x0) :=
  (loopB_eq (P := PP) (T := TT) (C := CF) [1, 1, 0, 1, 0, 0] [1, 1, 0, 1, 0, 0] 46 0 ⟨[(1, ⟨(.ptr 0 0), ()⟩), (3, ⟨.bool, x0⟩), (4, ⟨(.int .i64), x1⟩)], [⟨(.box tapiNode), x2⟩]⟩ (blockK 0 (seqK false [1, 1, 1] (BF 46 0 [1, 1, 1]) (finF 46 .bool [] 0)))).trans (by kernel_rfl)
theorem ref13_form.eq (a0 : den tapiNode) : ref13_form a0 =
  br (ltI a0.2.2.2.2.2.2.2.2.1 (0 : Int))
   (some false)
   (br (eqI a0.1 (1 : Int))
    (ref13_form.j0 a0.1 true a0)
    (ref13_form.j0 a0.1 (eqI a0.1 (6 : Int)) a0)) :=
  (callW_eq (P := PP) (T := TT) (pr := RR) 47 [⟨tapiNode, a0⟩] [] .bool []).trans (by kernel_rfl)
theorem ref13_form.j0.eq (x0 : den (.int .i64)) (x1 : den .bool) (x2 : denO (.box tapiNode)) : ref13_form.j0 x0 x1 x2 =
  br x1
   (br (eqI x2.2.2.2.2.2.2.2.1 (1 : Int))
    (bnd (ref13_bare x2 false true true true) fun r0 =>
    some r0)
    (some false))
   (br (eqI x0 (2 : Int))
    (ref13_form.l1 (0 : Int) x2)
    (br (eqI x0 (3 : Int))
     (br (leI (2 : Int) (ofN (lenL tapiPair x2.2.2.2.2.2.2.1)))
      (bnd (ref07_Is x2.2.2.2.2.2.2.1) fun r1 =>
      br r1
       (br (eqI x2.2.2.2.2.2.2.2.1 (ofN (lenL tapiPair x2.2.2.2.2.2.2.1)))
        (bnd (ref13_bare x2 true true true false) fun r2 =>
        some r2)
        (some false))
       (some false))
      (some false))
     (br (eqI x0 (4 : Int))
      (br (eqI x2.2.2.2.1 (0 : Int))
       (br (eqI (ofN (lenL (.int .i64) x2.2.2.2.2.1)) (2 : Int))
        (br (leI (1 : Int) x2.2.2.2.2.2.2.2.1)
         (bnd (ref13_bare x2 false false true true) fun r3 =>
         some r3)
         (some false))
        (some false))
       (some false))
      (br (notB (eqI x2.2.2.2.2.2.1 (0 : Int)))
       (br (eqI x2.2.2.2.2.2.2.2.1 (0 : Int))
        (bnd (ref13_bare x2 true true false true) fun r4 =>
        some r4)
        (some false))
       (some false))))) :=
  (congrFun (congrFun (jnO_eq [1, 1, 0, 1, 0, 1] (BF (R := den .bool) 47 0 [1, 1, 0, 1, 0, 1])) ⟨[(1, ⟨(.ptr 0 0), ()⟩), (8, ⟨(.int .i64), x0⟩), (9, ⟨.bool, x1⟩)], [⟨(.box tapiNode), x2⟩]⟩) (blockK 0 (seqK false [1, 1, 1] (BF 47 0 [1, 1, 1]) (finF 47 .bool [] 0)))).trans (by kernel_rfl)
theorem ref13_form.l1.eq (x0 : den (.int .i64)) (x1 : denO (.box tapiNode)) : ref13_form.l1 x0 x1 =
  br (ltI x0 (ofN (lenL (.int .i64) x1.2.2.2.2.1)))
   (br (andB (leI (0 : Int) x0) (ltI x0 (ofN (lenL (.int .i64) x1.2.2.2.2.1)))) (br (eqI (ixL (.int .i64) x1.2.2.2.2.1 x0) (0 : Int))
    (some false)
    (ref13_form.l1 (addI .i64 x0 (1 : Int)) x1)) none)
   (bnd (ref06_All x1.2.2.2.1) fun r0 =>
   br (eqI (ofN (lenL (.int .i64) x1.2.2.2.2.1)) (ofN (lenL (.int .i64) r0)))
    (br (leI (0 : Int) x1.2.2.2.2.2.2.2.1)
     (bnd (ref13_bare x1 true false true true) fun r1 =>
     some r1)
     (some false))
    (some false)) :=
  (loopB_eq (P := PP) (T := TT) (C := CF) [1, 1, 0, 1, 0, 1, 1, 1, 0, 0, 1, 0, 0] [1, 1, 0, 1, 0, 1, 1, 1, 0, 0, 1, 0, 0] 47 0 ⟨[(1, ⟨(.ptr 0 0), ()⟩), (3, ⟨(.int .i64), x0⟩)], [⟨(.box tapiNode), x1⟩]⟩ (blockK 1 (seqK false [1, 1, 0, 1, 0, 1, 1, 1, 0, 1] (BF 47 0 [1, 1, 0, 1, 0, 1, 1, 1, 0, 1]) (blockK 0 (seqK false [1, 1, 1] (BF 47 0 [1, 1, 1]) (finF 47 .bool [] 0)))))).trans (by kernel_rfl)
theorem ref13_Refs.eq (a0 : den tapiNode) : ref13_Refs a0 =
  ref13_Refs.l0 (0 : Int) a0 [] :=
  (callW_eq (P := PP) (T := TT) (pr := RR) 48 [⟨tapiNode, a0⟩] [] (.list (.int .i64)) []).trans (by kernel_rfl)
theorem ref13_Refs.l0.eq (x0 : den (.int .i64)) (x1 : denO (.box tapiNode)) (x2 : denO (.row 25 (.int .i64) false)) : ref13_Refs.l0 x0 x1 x2 =
  br (ltI x0 (ofN (lenL (.int .i64) x1.2.2.2.2.1)))
   (br (andB (leI (0 : Int) x0) (ltI x0 (ofN (lenL (.int .i64) x1.2.2.2.2.1)))) (br (notB (eqI (ixL (.int .i64) x1.2.2.2.2.1 x0) (0 : Int)))
    (br (andB (leI (0 : Int) x0) (ltI x0 (ofN (lenL (.int .i64) x1.2.2.2.2.1)))) (br (fitL (.int .i64) (appL (.int .i64) x2 ((ixL (.int .i64) x1.2.2.2.2.1 x0) :: []))) (ref13_Refs.l0 (addI .i64 x0 (1 : Int)) x1 (appL (.int .i64) x2 ((ixL (.int .i64) x1.2.2.2.2.1 x0) :: []))) none) none)
    (ref13_Refs.l0 (addI .i64 x0 (1 : Int)) x1 x2)) none)
   (br (notB (eqI x1.2.2.2.2.2.1 (0 : Int)))
    (br (fitL (.int .i64) (appL (.int .i64) x2 (x1.2.2.2.2.2.1 :: []))) (some (appL (.int .i64) x2 (x1.2.2.2.2.2.1 :: []))) none)
    (some x2)) :=
  (loopB_eq (P := PP) (T := TT) (C := CF) [1, 1, 0, 1, 0, 0] [1, 1, 0, 1, 0, 0] 48 0 ⟨[(1, ⟨(.ptr 0 0), ()⟩), (3, ⟨(.own (.int .i64) 1), ()⟩), (4, ⟨(.int .i64), x0⟩)], [⟨(.box tapiNode), x1⟩, ⟨(.row 25 (.int .i64) false), x2⟩]⟩ (blockK 0 (seqK false [1, 1, 1] (BF 48 0 [1, 1, 1]) (finF 48 (.list (.int .i64)) [] 0)))).trans (by kernel_rfl)
theorem ref07_last.eq (a0 : den (.list tapiPair)) (a1 : den (.int .i64)) : ref07_last a0 a1 =
  ref07_last.l0 a0 a1 (addI .i64 a1 (1 : Int)) :=
  (callW_eq (P := PP) (T := TT) (pr := RR) 49 [⟨(.list tapiPair), a0⟩, ⟨(.int .i64), a1⟩] [] .bool []).trans (by kernel_rfl)
theorem ref07_last.l0.eq (x0 : den (.list tapiPair)) (x1 : den (.int .i64)) (x2 : den (.int .i64)) : ref07_last.l0 x0 x1 x2 =
  br (ltI x2 (ofN (lenL tapiPair x0)))
   (br (andB (leI (0 : Int) x2) (ltI x2 (ofN (lenL tapiPair x0)))) (br (andB (leI (0 : Int) x1) (ltI x1 (ofN (lenL tapiPair x0)))) (br (eqS (ixL tapiPair x0 x2).1 (ixL tapiPair x0 x1).1)
    (some false)
    (ref07_last.l0 x0 x1 (addI .i64 x2 (1 : Int)))) none) none)
   (some true) :=
  (loopB_eq (P := PP) (T := TT) (C := CF) [1, 0, 1, 0, 0] [1, 0, 1, 0, 0] 49 0 ⟨[(0, ⟨(.list tapiPair), x0⟩), (1, ⟨(.int .i64), x1⟩), (5, ⟨(.int .i64), x2⟩)], []⟩ (blockK 0 (seqK false [1, 1] (BF 49 0 [1, 1]) (finF 49 .bool [] 0)))).trans (by kernel_rfl)
theorem ref01_Less.eq (a0 : den .str) (a1 : den .str) : ref01_Less a0 a1 =
  ref01_Less.l0 a0 a1 (0 : Int) :=
  (callW_eq (P := PP) (T := TT) (pr := RR) 50 [⟨.str, a0⟩, ⟨.str, a1⟩] [] .bool []).trans (by kernel_rfl)
theorem ref01_Less.l0.eq (x0 : den .str) (x1 : den .str) (x2 : den (.int .i64)) : ref01_Less.l0 x0 x1 x2 =
  br (ltI x2 (ofN (lenS x0)))
   (ref01_Less.j1 x0 x1 x2 (ltI x2 (ofN (lenS x1))))
   (ref01_Less.j1 x0 x1 x2 false) :=
  (loopB_eq (P := PP) (T := TT) (C := CF) [1, 0, 1, 0, 0] [1, 0, 1, 0, 0] 50 0 ⟨[(0, ⟨.str, x0⟩), (1, ⟨.str, x1⟩), (5, ⟨(.int .i64), x2⟩)], []⟩ (blockK 0 (seqK false [1, 1] (BF 50 0 [1, 1]) (finF 50 .bool [] 0)))).trans (by kernel_rfl)
theorem ref01_Less.j1.eq (x0 : den .str) (x1 : den .str) (x2 : den (.int .i64)) (x3 : den .bool) : ref01_Less.j1 x0 x1 x2 x3 =
  br x3
   (br (andB (leI (0 : Int) x2) (ltI x2 (ofN (lenS x0)))) (br (andB (leI (0 : Int) x2) (ltI x2 (ofN (lenS x1)))) (br (notB (eqI (getS x0 (toN x2)) (getS x1 (toN x2))))
    (br (andB (leI (0 : Int) x2) (ltI x2 (ofN (lenS x0)))) (br (andB (leI (0 : Int) x2) (ltI x2 (ofN (lenS x1)))) (some (ltI (getS x0 (toN x2)) (getS x1 (toN x2)))) none) none)
    (ref01_Less.l0 x0 x1 (addI .i64 x2 (1 : Int)))) none) none)
   (some (ltI (ofN (lenS x0)) (ofN (lenS x1)))) :=
  (congrFun (congrFun (jnO_eq [1, 0, 1, 0, 0, 0, 1] (BF (R := den .bool) 50 0 [1, 0, 1, 0, 0, 0, 1])) ⟨[(0, ⟨.str, x0⟩), (1, ⟨.str, x1⟩), (5, ⟨(.int .i64), x2⟩), (15, ⟨.bool, x3⟩)], []⟩) (seqK false [1, 0, 1, 0, 0, 1] (BF 50 0 [1, 0, 1, 0, 0, 1]) (againK [1, 0, 1, 0, 0] (loopW [1, 0, 1, 0, 0] (BF 50 0 [1, 0, 1, 0, 0])) (blockK 0 (seqK false [1, 1] (BF 50 0 [1, 1]) (finF 50 .bool [] 0)))))).trans (by kernel_rfl)
theorem node_May.eq (a0 : den tapiNode) : node_May a0 =
  bnd (node_formed a0) fun r0 =>
  br (ltI a0.1 (1 : Int))
   (some (11 : Int))
   (br (ltI (6 : Int) a0.1)
    (some (11 : Int))
    (bnd (node_long a0) fun r1 =>
    br r1
     (some (6 : Int))
     (bnd (node_Same a0 (r0.1, (r0.2.1, (r0.2.2.1, (r0.2.2.2.1, (r0.2.2.2.2.1, (r0.2.2.2.2.2.1, (r0.2.2.2.2.2.2.1, (r0.2.2.2.2.2.2.2.1, ((maxI a0.2.2.2.2.2.2.2.2.1 (0 : Int)), ())))))))))) fun r2 =>
     br (notB r2)
      (some (4 : Int))
      (bnd (node_whole a0) fun r3 =>
      br (notB r3)
       (some (4 : Int))
       (some (0 : Int)))))) :=
  (callW_eq (P := PP) (T := TT) (pr := RR) 51 [⟨tapiNode, a0⟩] [] (.int .i64) []).trans (by kernel_rfl)
theorem node_Refs.eq (a0 : den tapiNode) : node_Refs a0 =
  both
   (bnd (slices_Cloneapi_Ref_api_Ref a0.2.2.2.2.1) fun r0 =>
   br (fitL (.int .i64) (appL (.int .i64) r0.2.1 (a0.2.2.2.2.2.1 :: []))) (node_Refs.l0 (ofN (lenL (.int .i64) (appL (.int .i64) r0.2.1 (a0.2.2.2.2.2.1 :: [])))) (0 : Int) [] (appL (.int .i64) r0.2.1 (a0.2.2.2.2.2.1 :: []))) none)
   (bnd (slices_Cloneapi_Ref_api_Ref a0.2.2.2.2.1) fun r1 =>
   br (fitL (.int .i64) (appL (.int .i64) r1.2.1 (a0.2.2.2.2.2.1 :: []))) (node_Refs.l0 (ofN (lenL (.int .i64) (appL (.int .i64) r1.2.1 (a0.2.2.2.2.2.1 :: [])))) (0 : Int) [] (appL (.int .i64) r1.2.1 (a0.2.2.2.2.2.1 :: []))) none) :=
  (callW_eq (P := PP) (T := TT) (pr := RR) 53 [⟨tapiNode, a0⟩] [] (.list (.int .i64)) []).trans (by kernel_rfl)
theorem node_Refs.l0.eq (x0 : den (.int .i64)) (x1 : den (.int .i64)) (x2 : denO (.row 25 (.int .i64) false)) (x3 : denO (.row 25 (.int .i64) false)) : node_Refs.l0 x0 x1 x2 x3 =
  br (ltI x1 x0)
   (br (andB (leI (0 : Int) x1) (ltI x1 (ofN (lenL (.int .i64) x3)))) (br (notB (eqI (ixL (.int .i64) x3 x1) (0 : Int)))
    (br (fitL (.int .i64) (appL (.int .i64) x2 ((ixL (.int .i64) x3 x1) :: []))) (node_Refs.l0 x0 (addI .i64 x1 (1 : Int)) (appL (.int .i64) x2 ((ixL (.int .i64) x3 x1) :: [])) x3) none)
    (node_Refs.l0 x0 (addI .i64 x1 (1 : Int)) x2 x3)) none)
   (some x2) :=
  (loopB_eq (P := PP) (T := TT) (C := CF) [1, 1, 0, 1, 0, 0] [1, 1, 0, 1, 0, 0] 53 0 ⟨[(3, ⟨(.own (.int .i64) 0), ()⟩), (12, ⟨(.own (.int .i64) 1), ()⟩), (13, ⟨(.int .i64), x0⟩), (14, ⟨(.int .i64), x1⟩)], [⟨(.row 25 (.int .i64) false), x2⟩, ⟨(.row 25 (.int .i64) false), x3⟩]⟩ (blockK 0 (seqK false [1, 1, 1] (BF 53 0 [1, 1, 1]) (finF 53 (.list (.int .i64)) [] 0)))).trans (by kernel_rfl)
theorem slices_ContainsFuncapi_Ref_api_Ref.eq (a0 : den (.list (.int .i64))) (a1 : den (.fn 54 (.tcons (.ptr 0 0) .tnil))) (a2 : denO (.box (.int .i64))) : slices_ContainsFuncapi_Ref_api_Ref a0 a1 a2 =
  bnd (slices_IndexFuncapi_Ref_api_Ref a0 ((), ()) a2) fun r0 =>
  some ((leI (0 : Int) r0.1), (r0.2.1, ())) :=
  (callW_eq (P := PP) (T := TT) (pr := RR) 52 [⟨(.list (.int .i64)), a0⟩, ⟨(.fn 54 (.tcons (.ptr 0 0) .tnil)), a1⟩] [⟨(.box (.int .i64)), a2⟩] .bool [(.box (.int .i64))]).trans (by kernel_rfl)
theorem plan_ahead.eq (a0 : den (.int .i64)) (a1 : den (.int .i64)) : plan_ahead a0 a1 =
  bnd (ref_Which a0) fun r0 =>
  br (notB r0.2.1)
   (some true)
   (some (ltI r0.1 a1)) :=
  (callW_eq (P := PP) (T := TT) (pr := RR) 55 [⟨(.int .i64), a0⟩, ⟨(.int .i64), a1⟩] [] .bool []).trans (by kernel_rfl)
theorem slices_ContainsFuncapi_Ref_api_Ref_v1.eq (a0 : den (.list (.int .i64))) : slices_ContainsFuncapi_Ref_api_Ref_v1 a0 =
  bnd (slices_IndexFuncapi_Ref_api_Ref_v1 a0) fun r0 =>
  some (leI (0 : Int) r0) :=
  (callW_eq (P := PP) (T := TT) (pr := RR) 52 [⟨(.list (.int .i64)), a0⟩, ⟨(.fn 56 .tnil), ()⟩] [] .bool []).trans (by kernel_rfl)
theorem pair_Drop.eq (a0 : den (.list tapiPair)) (a1 : den .str) : pair_Drop a0 a1 =
  bnd (pair_ordered a0) fun r0 =>
  bnd (slices_Cloneapi_Pair_api_Pair r0) fun r1 =>
  bnd (pair_place r1.2.1 a1) fun r2 =>
  br (notB r2.2.1)
   (some r1.2.1)
   (bnd (slices_Deleteapi_Pair_api_Pair r2.1 (addI .i64 r2.1 (1 : Int)) r1.2.1) fun r3 =>
   some r3.2.1) :=
  (callW_eq (P := PP) (T := TT) (pr := RR) 57 [⟨(.list tapiPair), a0⟩, ⟨.str, a1⟩] [] (.list tapiPair) []).trans (by kernel_rfl)
theorem pair_Get.eq (a0 : den (.list tapiPair)) (a1 : den .str) : pair_Get a0 a1 =
  bnd (pair_ordered a0) fun r0 =>
  bnd (pair_place r0 a1) fun r1 =>
  br (notB r1.2.1)
   (some (ByteArray.empty, (false, ())))
   (br (andB (leI (0 : Int) r1.1) (ltI r1.1 (ofN (lenL tapiPair r0)))) (some ((ixL tapiPair r0 r1.1).2.1, (true, ()))) none) :=
  (callW_eq (P := PP) (T := TT) (pr := RR) 58 [⟨(.list tapiPair), a0⟩, ⟨.str, a1⟩] [] (.tcons .str (.tcons .bool .tnil)) []).trans (by kernel_rfl)
theorem node_Tomb.eq (a0 : den .str) (a1 : den .str) : node_Tomb a0 a1 =
  some ((6 : Int), (a0, (a1, ((0 : Int), ([], ((0 : Int), ([], ((1 : Int), ((0 : Int), ()))))))))) :=
  (callW_eq (P := PP) (T := TT) (pr := RR) 59 [⟨.str, a0⟩, ⟨.str, a1⟩] [] tapiNode []).trans (by kernel_rfl)
theorem inner_Beside.eq (a0 : den tapiNode) (a1 : den .str) (a2 : den (.int .i64)) (a3 : den (.int .i64)) : inner_Beside a0 a1 a2 a3 =
  br (notB (eqI a0.1 (2 : Int)))
   (some (0 : Int))
   (br (leI a2 (0 : Int))
    (some (0 : Int))
    (bnd (inner_chunk a1 a2 a3) fun r0 =>
    bnd (branch_Without a0 r0) fun r1 =>
    bnd (branch_Only r1) fun r2 =>
    br (notB r2.2.1)
     (some (0 : Int))
     (some r2.1))) :=
  (callW_eq (P := PP) (T := TT) (pr := RR) 60 [⟨tapiNode, a0⟩, ⟨.str, a1⟩, ⟨(.int .i64), a2⟩, ⟨(.int .i64), a3⟩] [] (.int .i64) []).trans (by kernel_rfl)
theorem branch_Without.eq (a0 : den tapiNode) (a1 : den (.int .i64)) : branch_Without a0 a1 =
  bnd (branch_branch a0) fun r0 =>
  bnd (mask_Has r0.1.2.2.2.1 a1) fun r1 =>
  br (notB r1)
   (some (r0.1.1, (r0.1.2.1, (r0.1.2.2.1, (r0.1.2.2.2.1, (r0.2.1, (r0.1.2.2.2.2.2.1, (r0.2.2.1, r0.1.2.2.2.2.2.2.2))))))))
   (bnd (mask_Place r0.1.2.2.2.1 a1) fun r2 =>
   bnd (slices_Deleteapi_Ref_api_Ref r2 (addI .i64 r2 (1 : Int)) r0.2.1) fun r3 =>
   bnd (mask_Without r0.1.2.2.2.1 a1) fun r4 =>
   some (r0.1.1, (r0.1.2.1, (r0.1.2.2.1, (r4, (r3.2.1, (r0.1.2.2.2.2.2.1, (r0.2.2.1, r0.1.2.2.2.2.2.2.2)))))))) :=
  (callW_eq (P := PP) (T := TT) (pr := RR) 61 [⟨tapiNode, a0⟩, ⟨(.int .i64), a1⟩] [] tapiNode []).trans (by kernel_rfl)
theorem law07_Few.eq (a0 : den (.list tapiPair)) : law07_Few a0 =
  law07_Few.l0 a0 (0 : Int) [] :=
  (callW_eq (P := PP) (T := TT) (pr := RR) 62 [⟨(.list tapiPair), a0⟩] [] (.list tapiPair) []).trans (by kernel_rfl)
theorem law07_Few.l0.eq (x0 : den (.list tapiPair)) (x1 : den (.int .i64)) (x2 : denO (.row 52 tapiPair false)) : law07_Few.l0 x0 x1 x2 =
  br (ltI x1 (ofN (lenL tapiPair x0)))
   (law07_Few.j1 x0 x1 (ltI x1 (40 : Int)) x2)
   (law07_Few.j1 x0 x1 false x2) :=
  (loopB_eq (P := PP) (T := TT) (C := CF) [1, 1, 0, 1, 0, 0] [1, 1, 0, 1, 0, 0] 62 0 ⟨[(0, ⟨(.list tapiPair), x0⟩), (3, ⟨(.own tapiPair 0), ()⟩), (4, ⟨(.int .i64), x1⟩)], [⟨(.row 52 tapiPair false), x2⟩]⟩ (blockK 0 (seqK false [1, 1, 1] (BF 62 0 [1, 1, 1]) (finF 62 (.list tapiPair) [] 0)))).trans (by kernel_rfl)
theorem law07_Few.j1.eq (x0 : den (.list tapiPair)) (x1 : den (.int .i64)) (x2 : den .bool) (x3 : denO (.row 52 tapiPair false)) : law07_Few.j1 x0 x1 x2 x3 =
  br x2
   (br (andB (leI (0 : Int) x1) (ltI x1 (ofN (lenL tapiPair x0)))) (br (andB (leI (0 : Int) x1) (ltI x1 (ofN (lenL tapiPair x0)))) (bnd (base_Cut (ixL tapiPair x0 x1).1 (40 : Int)) fun r0 =>
   bnd (base_Cut (ixL tapiPair x0 x1).2.1 (40 : Int)) fun r1 =>
   br (fitL tapiPair (appL tapiPair x3 ((r0, (r1, ())) :: []))) (law07_Few.l0 x0 (addI .i64 x1 (1 : Int)) (appL tapiPair x3 ((r0, (r1, ())) :: []))) none) none) none)
   (some x3) :=
  (congrFun (congrFun (jnO_eq [1, 1, 0, 1, 0, 0, 0, 1] (BF (R := den (.list tapiPair)) 62 0 [1, 1, 0, 1, 0, 0, 0, 1])) ⟨[(0, ⟨(.list tapiPair), x0⟩), (3, ⟨(.own tapiPair 0), ()⟩), (4, ⟨(.int .i64), x1⟩), (13, ⟨.bool, x2⟩)], [⟨(.row 52 tapiPair false), x3⟩]⟩) (seqK false [1, 1, 0, 1, 0, 0, 1] (BF 62 0 [1, 1, 0, 1, 0, 0, 1]) (againK [1, 1, 0, 1, 0, 0] (loopW [1, 1, 0, 1, 0, 0] (BF 62 0 [1, 1, 0, 1, 0, 0])) (blockK 0 (seqK false [1, 1, 1] (BF 62 0 [1, 1, 1]) (finF 62 (.list tapiPair) [] 0)))))).trans (by kernel_rfl)
end Go.Proofs.YtimgaglpempfeaaGreat.AB
