/- Texts of one proof, laid together: how the interpreter's words stand for the program's code and what the functions do. No conditions but those that each lemma names. -/
import Derived.Test.YtjekopgcpikkiaaGreatDoorProg
import Derived.Test.YtjekopgcpikkiaaGreatDoorM2
import Derived.WalkKit
import Derived.Lib.Walk
import Derived.Lib.SliceRun
import Derived.Lib.JoinLaws
import Derived.Lib.AppendZeros
import Derived.Lib.Overlaps
import Derived.Laws.Externs
import Derived.Laws.IdiomCopy
import Derived.Laws.NewBlocks
import Derived.Shelf.Spec.SlicesInsert
import Derived.MapKept
import Derived.Maps.OwnRows
import Derived.WalkMore
import Derived.Laws.BitsLemmas
import Derived.Shelf.Spec.TrailingZeros
set_option linter.unusedSimpArgs false
set_option linter.unusedVariables false
set_option linter.unusedSimpArgs false
namespace Go.Proofs.YtjekopgcpikkiaaGreatDoor.Ins174
open Go.Abs Go.RowKit Go.Lib Go.Proofs
set_option maxHeartbeats 4000000 in
set_option maxRecDepth 100000 in
theorem shift {P : Program} {k : Nat} (hf : P.funcs[174]? = some Tryz.f174) (mixed : P.follows .mixedOrders = true) (t3 : P.underlying 3 = some (.int .i64)) (t4 : P.underlying 4 = some .bool) (tS : P.underlying 22 = some (.slice 84)) (zE : ∀ w, (Go.sizeOf 84).run P w = .ok k w)
    (hsz : (P.info? 84).map (·.size) = some k) (hov0 : ∀ (w : World) (x y : Value), (callFunc 183 #[x, y]).run P w = Result.andThen ((Extern.SlicesOverlaps.overlaps #[22, 22] #[4] #[x, y]).run P w) (fun v w' => .ok (.value v) w'))
    (b n c i vb m vc : Nat) (cs vs : List Value) (w : World) (hi : i < n) (hm : 0 < m) (hroom : n + m ≤ c) (hc63 : c ≤ 9223372036854775807) (hvb : vb ≠ b) (hk : 0 < k)
    {cur cur2 : Array Value} {e e2 : TypeId} (hb : w.heap[b]? = some (.cells cur e (0, 0))) (hb2 : w.heap[vb]? = some (.cells cur2 e2 (0, 0))) (hcur : cur.size = c * k)
    (hcl : cs.length = n * k) (hvl : vs.length = m * k)
    (hcs : At w b 0 cs) (hvs : At w vb 0 vs) (h1c : ∀ v ∈ cs, v.oneCell' = true) (h1v : ∀ v ∈ vs, v.oneCell' = true) :
    Calls P 174 #[.slice (some ⟨b, 0, none⟩) n c, .int .i64 i, .slice (some ⟨vb, 0, none⟩) m vc] w fun e w' =>
      e = .returned (.slice (some ⟨b, 0, none⟩) (n + m) c) ∧ w' = (w.drew.setCells b ((i + m) * k) (cs.drop (i * k))).setCells b (i * k) vs := by
  have u3 := run_underlying t3; have u4 := run_underlying t4; have uS := run_underlying tS
  have hz1 : ¬ ((m : Int) = 0) := by omega
  have hz2 : ¬ ((i : Int) = (n : Int)) := by omega
  have hov : ∀ lb cb, (callFunc 183 #[.slice (some ⟨vb, 0, none⟩) m vc, .slice (some ⟨b, (i + m) * k, none⟩) lb cb]).run P w = .ok (.value (.bool false)) w := fun lb cb => by
    rw [hov0, Lib.run_overlaps_apart w 22 4 84 tS k zE ⟨vb, 0, none⟩ ⟨b, (i + m) * k, none⟩ m vc lb cb hvb e2 e cur2.size cur.size (cells_shape hb2) (cells_shape hb)
      (by rw [hcur]; exact Nat.ne_of_gt (Nat.mul_pos (by omega) hk)) (cells_thawed hb2) (cells_thawed hb2)]
    rfl
  have hdl : (cs.drop (i * k)).length = (n - i) * k := by rw [List.length_drop, hcl, Nat.sub_mul]
  have hw1 : IntKind.i64.wrap ((i : Int) + (m : Int)) = (i : Int) + (m : Int) := by rw [IntKind.wrap_i64]; omega
  have hb1 : (0 : Int) ≤ (i : Int) + (m : Int) := by omega
  have hin : i ≤ n := by omega
  have htn : ((i : Int) + (m : Int)).toNat = i + m := by omega
  have hb3 : (i : Int) ≤ (n : Int) + (m : Int) := by omega
  have hb4 : ¬ (c = i) := by omega
  have hb2' : ¬ (c = i + m) := by omega
  have hle : (n + m) * k ≤ c * k := Nat.mul_le_mul_right k hroom
  have hsp : ∀ j, j < (n + m) * k → (w.cell? ⟨b, j, none⟩).isSome = true := fun j hj => cells_some hb (by omega)
  have hfz : ∀ j, w.frozen? ⟨b, j, none⟩ = false := fun j => cells_thawed hb
  have e1 : (n - i) * k + (i + m) * k = (n + m) * k := by rw [← Nat.add_mul]; congr 1; omega
  have e2 : (i * k) + m * k ≤ (n + m) * k := by rw [← Nat.add_mul]; exact Nat.mul_le_mul_right k (by omega)
  have hmin1 : ∀ x y : Nat, x = n + m - i → y = n + m - (i + m) → Nat.min x y = n - i := by intro x y h1 h2; subst h1; subst h2; simp only [Nat.min_def]; split <;> omega
  have hcp1 : ∀ ty dc sc, (Builtin.copy_ #[22, 22] ty #[.slice (some ⟨b, (i + m) * k, none⟩) (n + m - (i + m)) dc, .slice (some ⟨b, i * k, none⟩) (n + m - i) sc]).run P w.drew = .ok (goInt (n - i : Nat)) (w.drew.setCells b ((i + m) * k) (cs.drop (i * k))) := fun ty dc sc => by
    have := run_copy_k (P := P) w.drew 22 22 ty 84 k b ((i + m) * k) (n + m - (i + m)) dc ⟨b, i * k, none⟩ (n + m - i) sc (cs.drop (i * k)) tS hsz (by rw [hdl, hmin1 _ _ rfl rfl])
      (fun j v hj => by rw [Addr.add_lit]; have := hcs (i * k + j) v (by rwa [List.getElem?_drop] at hj); rw [Nat.zero_add] at this; exact this)
      (fun j hj => hsp _ (by omega)) (fun j hj => hfz _) (fun v hv => h1c v (List.mem_of_mem_drop hv))
    rw [hmin1 _ _ rfl rfl] at this
    exact this
  obtain ⟨W1, hW1⟩ : ∃ W1, W1 = w.drew.setCells b ((i + m) * k) (cs.drop (i * k)) := ⟨_, rfl⟩
  have hsp1 : ∀ j, j < (n + m) * k → (W1.cell? ⟨b, j, none⟩).isSome = true := fun j hj => by
    rw [hW1]
    exact isSome_setCells b (cs.drop (i * k)) ((i + m) * k) w.drew (fun j hj => hsp _ (by rw [hdl] at hj; omega)) _ (hsp j hj)
  have hmin2 : Nat.min m (n + m - i) = m := by simp only [Nat.min_def]; split <;> omega
  have hcp2 : ∀ (W : World), (∀ x, W.cell? x = W1.cell? x) → (∀ x, W.frozen? x = W1.frozen? x) → ∀ ty dc, (Builtin.copy_ #[22, 22] ty #[.slice (some ⟨b, i * k, none⟩) (n + m - i) dc, .slice (some ⟨vb, 0, none⟩) m vc]).run P W = .ok (goInt m) (W.setCells b (i * k) vs) := fun W hWc hWf ty dc => by
    have := run_copy_k (P := P) W 22 22 ty 84 k b (i * k) (n + m - i) dc ⟨vb, 0, none⟩ m vc vs tS hsz (by rw [hvl, hmin2])
      (fun j v hj => by
        rw [Addr.add_lit, hWc, hW1, World.cell?_setCells_out b _ _ _ _ (fun h _ => absurd h hvb)]
        exact hvs j v hj)
      (fun j hj => by rw [hWc]; exact hsp1 _ (by omega)) (fun j hj => by rw [hWf, hW1, World.frozen?_setCells]; exact hfz _) h1v
    rw [hmin2] at this
    exact this
  rw [← hW1] at hcp1
  clear hcs hvs hsp1 hsp hfz hov0
  go_enter hf, Tryz.ntmps174
  go_wp2_with (simp only [hov])
  go_region_law_o (refine step_copy_runI rfl _ _ 22 22 rfl _ _ (by simp [Act.eval, Act.put]) (by simp [Act.eval, Act.put]) (hcp1 _ _ _) ?_)
  go_wp2_with (at_builtin; refine wpList_copy_runI _ rfl _ _ 22 22 rfl _ _ rfl rfl (hcp2 _ (fun _ => rfl) (fun _ => rfl) _ _) ?_)
  go_ret
  first | exact ⟨rfl, rfl⟩ | exact ⟨rfl, by rw [hW1]⟩
set_option maxHeartbeats 4000000 in
set_option maxRecDepth 100000 in
theorem atEnd {P : Program} {k : Nat} (hf : P.funcs[174]? = some Tryz.f174) (mixed : P.follows .mixedOrders = true) (t3 : P.underlying 3 = some (.int .i64)) (t4 : P.underlying 4 = some .bool) (tS : P.underlying 22 = some (.slice 84)) (zE : ∀ w, (Go.sizeOf 84).run P w = .ok k w)
    (ad : Option Addr) (n c m vc : Nat) (va : Option Addr) (w w1 : World) (r : Value) (hm : 0 < m) (hnc : n ≤ c) (hnil : ad = none → n = 0 ∧ c = 0)
    (hr : ∀ ty, (Builtin.append_ #[22, 22] ty #[.slice ad n c, .slice va m vc]).run P w = .ok r w1) :
    Calls P 174 #[.slice ad n c, .int .i64 n, .slice va m vc] w fun e w' => e = .returned r ∧ w' = w1 := by
  have u3 := run_underlying t3; have u4 := run_underlying t4; have uS := run_underlying tS
  have hz1 : ¬ ((m : Int) = 0) := by omega
  go_enter hf, Tryz.ntmps174
  cases ad with
  | none =>
    obtain ⟨rfl, rfl⟩ := hnil rfl
    go_wp2_with (at_builtin; refine Lib.wpList_append_run _ rfl _ _ _ _ rfl _ _ rfl rfl _ _ (hr _) ?_)
    go_ret
    exact ⟨rfl, rfl⟩
  | some a =>
    obtain ⟨ab, ao, asp⟩ := a
    go_wp2_with (at_builtin; refine Lib.wpList_append_run _ rfl _ _ _ _ rfl _ _ rfl rfl _ _ (hr _) ?_)
    all_goals (go_ret; exact ⟨rfl, rfl⟩)
set_option maxHeartbeats 4000000 in
set_option maxRecDepth 100000 in
theorem grow {P : Program} {k : Nat} (hf : P.funcs[174]? = some Tryz.f174) (mixed : P.follows .mixedOrders = true) (t3 : P.underlying 3 = some (.int .i64)) (t4 : P.underlying 4 = some .bool) (tS : P.underlying 22 = some (.slice 84)) (zE : ∀ w, (Go.sizeOf 84).run P w = .ok k w)
    {i0 : TypeInfo} {z : Value} (hi0 : P.info? 84 = some i0) (hz0 : i0.zero = some z) (hzs : i0.size = k) (hzc : z.cells.size = k) (hzb : i0.bytes ≤ 131072) (hk : 0 < k)
    (b n c i vb m vc : Nat) (cs vs : List Value) (w : World) (hi : i < n) (hm : 0 < m) (hnc : n ≤ c) (hroom : c < n + m) (hbig : n + m ≤ 1073741824)
    (hcl : cs.length = n * k) (hvl : vs.length = m * k)
    (hcs : At w b 0 cs) (hvs : At w vb 0 vs) (h1c : ∀ v ∈ cs, v.oneCell' = true) (h1v : ∀ v ∈ vs, v.oneCell' = true) :
    ∃ ROW : Array Value, ∃ G : Nat, n + m ≤ G ∧ G ≤ maxLen ∧ ROW.size = G * k ∧ ROW.toList.take (i * k) = cs.take (i * k) ∧
    Calls P 174 #[.slice (some ⟨b, 0, none⟩) n c, .int .i64 i, .slice (some ⟨vb, 0, none⟩) m vc] w fun e w' =>
      e = .returned (.slice (some ⟨w.heap.size, 0, none⟩) (n + m) G) ∧
      w' = (((w.alloc (.cells ROW 84)).drew.setCells w.heap.size (i * k) vs).drew).setCells w.heap.size ((i + m) * k) (cs.drop (i * k)) := by
  have u3 := run_underlying t3; have u4 := run_underlying t4; have uS := run_underlying tS
  have hz1 : ¬ ((m : Int) = 0) := by omega
  have hz2 : ¬ ((i : Int) = (n : Int)) := by omega
  have hz3 : (c : Int) < (n : Int) + (m : Int) := by omega
  have hsz : (P.info? 84).map (·.size) = some k := by rw [hi0]; simp [hzs]
  have hnk : 0 < n * k := Nat.mul_pos (by omega) hk
  have hmk : 0 < m * k := Nat.mul_pos hm hk
  have hbw : b < w.heap.size := block_lt_of_cell (hcs 0 _ (List.getElem?_eq_getElem (by omega)))
  have hvw : vb < w.heap.size := block_lt_of_cell (hvs 0 _ (List.getElem?_eq_getElem (by omega)))
  have hkk : (n : Int) + (m : Int) - (i : Int) = ((n + m - i : Nat) : Int) := by omega
  have hik : i + (n + m - i) = n + m := by omega
  have hle1 : i * k ≤ n * k := Nat.mul_le_mul_right k (by omega)
  have hold : (Builtin.firstCells i0.size i (.slice (some ⟨b, 0, none⟩) i c)).run P w.drew = .ok (cs.take (i * k)).toArray w.drew := by
    rw [hzs]
    exact run_firstCells_some w.drew k i ⟨b, 0, none⟩ i c (cs.take (i * k)) (by rw [List.length_take]; omega) (fun j v hj => by
      rw [Addr.add_lit]
      rw [List.getElem?_take] at hj
      split at hj
      · exact hcs j v hj
      · cases hj)
  have hfit : (n + m) * i0.bytes ≤ 140737488355328 := by
    have := Nat.mul_le_mul hbig hzb
    omega
  have hfit2 : (n + m - i) * i0.bytes ≤ 281474976710656 := by
    have := Nat.mul_le_mul_right i0.bytes (show n + m - i ≤ n + m by omega)
    omega
  have hrz : ∀ ty, (Builtin.append_ #[22, 3] ty #[.slice (some ⟨b, 0, none⟩) i c, .int .i64 ((n : Int) + (m : Int) - (i : Int))]).run P w =
      .ok (.slice (some ⟨w.heap.size, 0, none⟩) (n + m) (grownCap w (n + m) c 84)) (w.drew.alloc (.cells ((cs.take (i * k)).toArray ++ Builtin.zeroCells z.cells (n + m - i) ++ Builtin.zeroCells z.cells (grownCap w (n + m) c 84 - (n + m))) 84)) := fun ty => by
    have h := Lib.run_append_grow_zeros w 22 3 ty 84 i0 z .i64 .i64 tS t3 hi0 hz0 (some ⟨b, 0, none⟩) i c (cs.take (i * k)) hold (n + m - i) (by omega) (by omega) (by omega) (by omega) hfit2 (by rw [hik]; exact growslice_fits hroom hfit)
    rw [hik] at h
    rw [hkk]
    exact h
  obtain ⟨G, hG⟩ : ∃ G, G = grownCap w (n + m) c 84 := ⟨_, rfl⟩
  obtain ⟨ROW, hROW⟩ : ∃ ROW : Array Value, ROW = (cs.take (i * k)).toArray ++ Builtin.zeroCells z.cells (n + m - i) ++ Builtin.zeroCells z.cells (G - (n + m)) := ⟨_, rfl⟩
  rw [← hG] at hrz
  rw [← hROW] at hrz
  have hGn : n + m ≤ G := by rw [hG]; exact grownCap_ge w _ _ _
  have hGm : G ≤ maxLen := by rw [hG]; exact grownCap_le_maxLen w (n + m) c 84 (by unfold maxLen; omega)
  have hl1 : (cs.take (i * k)).length = i * k := by rw [List.length_take, hcl]; exact Nat.min_eq_left hle1
  have hRs : ROW.size = G * k := by
    rw [hROW]
    simp only [Array.size_append, List.size_toArray, size_zeroCells, hzc, hl1]
    rw [← Nat.add_mul, ← Nat.add_mul]
    congr 1
    omega
  have hRt : ROW.toList.take (i * k) = cs.take (i * k) := by
    rw [hROW, Array.toList_append, Array.toList_append, List.append_assoc]
    rw [List.take_append_of_le_length (by show i * k ≤ (cs.take (i * k)).length; omega)]
    show (cs.take (i * k)).take (i * k) = cs.take (i * k)
    rw [List.take_take, Nat.min_self]
  refine ⟨ROW, G, hGn, hGm, hRs, hRt, ?_⟩
  have hle2 : (n + m) * k ≤ G * k := Nat.mul_le_mul_right k hGn
  have hRl : (n + m) * k ≤ ROW.size := by omega
  obtain ⟨W1, hW1⟩ : ∃ W1, W1 = w.drew.alloc (.cells ROW 84) := ⟨_, rfl⟩
  rw [← hW1] at hrz
  have hN : ∀ j, j < (n + m) * k → (W1.cell? ⟨w.heap.size, j, none⟩).isSome = true := fun j hj => by
    rw [hW1, World.cell?_alloc_at (w := w.drew) ROW _ w.heap.size j rfl, Array.getElem?_eq_getElem (by omega)]; rfl
  have hNf : ∀ j, W1.frozen? ⟨w.heap.size, j, none⟩ = false := fun j => by rw [hW1]; exact World.frozen?_alloc_at (w := w.drew) ROW _ w.heap.size j rfl
  have hOb : ∀ j v, w.cell? ⟨b, j, none⟩ = some v → W1.cell? ⟨b, j, none⟩ = some v := fun j v h => by rw [hW1, World.cell?_alloc_past (w := w.drew) _ b j hbw]; exact h
  have hOv : ∀ j v, w.cell? ⟨vb, j, none⟩ = some v → W1.cell? ⟨vb, j, none⟩ = some v := fun j v h => by rw [hW1, World.cell?_alloc_past (w := w.drew) _ vb j hvw]; exact h
  have e1 : (n - i) * k + (i + m) * k = (n + m) * k := by rw [← Nat.add_mul]; congr 1; omega
  have e2 : (i * k) + m * k ≤ (n + m) * k := by rw [← Nat.add_mul]; exact Nat.mul_le_mul_right k (by omega)
  have hdl : (cs.drop (i * k)).length = (n - i) * k := by rw [List.length_drop, hcl, Nat.sub_mul]
  have hmin2 : Nat.min m (n + m - i) = m := by simp only [Nat.min_def]; split <;> omega
  have hmin1 : Nat.min (n - i) (n + m - (i + m)) = n - i := by simp only [Nat.min_def]; split <;> omega
  have hcpA : ∀ (W : World), (∀ x, W.cell? x = W1.cell? x) → (∀ x, W.frozen? x = W1.frozen? x) → ∀ ty dc, (Builtin.copy_ #[22, 22] ty #[.slice (some ⟨w.heap.size, i * k, none⟩) (n + m - i) dc, .slice (some ⟨vb, 0, none⟩) m vc]).run P W = .ok (goInt m) (W.setCells w.heap.size (i * k) vs) := fun W hWc hWf ty dc => by
    have := run_copy_k (P := P) W 22 22 ty 84 k w.heap.size (i * k) (n + m - i) dc ⟨vb, 0, none⟩ m vc vs tS hsz (by rw [hvl, hmin2])
      (fun j v hj => by rw [Addr.add_lit, hWc]; exact hOv _ v (hvs j v hj))
      (fun j hj => by rw [hWc]; exact hN _ (by omega)) (fun j hj => by rw [hWf]; exact hNf _) h1v
    rw [hmin2] at this
    exact this
  have hG63 : G ≤ 9223372036854775807 := by unfold maxLen at hGm; omega
  have hGi : ¬ (G = i) := by omega
  have hGim : ¬ (G = i + m) := by omega
  have hci : ¬ (c = i) := by omega
  have hbN : b ≠ w.heap.size := by omega
  have hcpB : ∀ (W : World), (∀ x, W.cell? x = (W1.setCells w.heap.size (i * k) vs).cell? x) → (∀ x, W.frozen? x = (W1.setCells w.heap.size (i * k) vs).frozen? x) → ∀ ty dc sc, (Builtin.copy_ #[22, 22] ty #[.slice (some ⟨w.heap.size, (i + m) * k, none⟩) (n + m - (i + m)) dc, .slice (some ⟨b, i * k, none⟩) (n - i) sc]).run P W = .ok (goInt (n - i : Nat)) (W.setCells w.heap.size ((i + m) * k) (cs.drop (i * k))) := fun W hWc hWf ty dc sc => by
    have := run_copy_k (P := P) W 22 22 ty 84 k w.heap.size ((i + m) * k) (n + m - (i + m)) dc ⟨b, i * k, none⟩ (n - i) sc (cs.drop (i * k)) tS hsz (by rw [hdl, hmin1])
      (fun j v hj => by
        rw [Addr.add_lit, hWc, World.cell?_setCells_out _ _ _ _ _ (fun h _ => absurd h hbN)]
        have := hcs (i * k + j) v (by rwa [List.getElem?_drop] at hj)
        rw [Nat.zero_add] at this
        exact hOb _ v this)
      (fun j hj => by rw [hWc]; exact isSome_setCells _ vs (i * k) W1 (fun t ht => hN _ (by omega)) _ (hN _ (by omega)))
      (fun j hj => by rw [hWf, World.frozen?_setCells]; exact hNf _) (fun v hv => h1c v (List.mem_of_mem_drop hv))
    rw [hmin1] at this
    exact this
  subst hW1
  have hE1 : ∀ x, ((w.alloc (.cells ROW 84)).drew).cell? x = (w.drew.alloc (.cells ROW 84)).cell? x := fun x => rfl
  have hE2 : ∀ x, ((w.alloc (.cells ROW 84)).drew).frozen? x = (w.drew.alloc (.cells ROW 84)).frozen? x := fun x => rfl
  have hF1 : ∀ x, (((w.alloc (.cells ROW 84)).drew.setCells w.heap.size (i * k) vs).drew).cell? x = ((w.drew.alloc (.cells ROW 84)).setCells w.heap.size (i * k) vs).cell? x := fun x => rfl
  have hF2 : ∀ x, (((w.alloc (.cells ROW 84)).drew.setCells w.heap.size (i * k) vs).drew).frozen? x = ((w.drew.alloc (.cells ROW 84)).setCells w.heap.size (i * k) vs).frozen? x := fun x => rfl
  have hw1 : IntKind.i64.wrap ((i : Int) + (m : Int)) = (i : Int) + (m : Int) := by rw [IntKind.wrap_i64]; omega
  have hb1 : (0 : Int) ≤ (i : Int) + (m : Int) := by omega
  have hin : i ≤ n := by omega
  have htn : ((i : Int) + (m : Int)).toNat = i + m := by omega
  have hb3 : (i : Int) ≤ (n : Int) := by omega
  clear hkk hik hold hROW hG hRl hRs hRt hcs hvs hN hNf hOb hOv hfit hfit2
  go_enter hf, Tryz.ntmps174
  go_wp2_with (first
    | (at_builtin; refine Lib.wpList_append_run _ rfl _ _ _ _ rfl _ _ rfl rfl _ _ (hrz _) ?_)
    | (at_builtin; refine wpList_copy_runI _ rfl _ _ 22 22 rfl _ _ rfl rfl (hcpA _ hE1 hE2 _ _) ?_)
    | (at_builtin; refine wpList_copy_runI _ rfl _ _ 22 22 rfl _ _ rfl rfl (hcpB _ (fun _ => rfl) (fun _ => rfl) _ _ _) ?_))
  go_region_law_o (refine step_copy_runI rfl _ _ 22 22 rfl (.slice (some ⟨w.heap.size, (i + m) * k, none⟩) (n + m - (i + m)) (G - (i + m))) (.slice (some ⟨b, i * k, none⟩) (n - i) (c - i)) (by simp [Act.eval, Act.put]) (by simp [Act.eval, Act.put]) (hcpB _ hF1 hF2 3 (G - (i + m)) (c - i)) ?_)
  go_wp2
  go_ret
  exact ⟨rfl, rfl⟩
theorem lay2 {A : Type} (C D vs cs : List A) (ik mk nk dk : Nat) (hC : C.take nk = cs) (hD : D = cs.drop ik) (hv : vs.length = mk) (hd : D.length = dk) (hi : ik ≤ nk) (hl : ik + mk + dk ≤ C.length) (hnk : nk ≤ C.length) :
    (((C.take (ik + mk) ++ D ++ C.drop (ik + mk + D.length)).take ik ++ vs ++ (C.take (ik + mk) ++ D ++ C.drop (ik + mk + D.length)).drop (ik + vs.length))).take (ik + mk + dk) = cs.take ik ++ vs ++ cs.drop ik := by
  have h1 : (C.take (ik + mk)).length = ik + mk := by rw [List.length_take]; omega
  have e1 : (C.take (ik + mk) ++ D ++ C.drop (ik + mk + D.length)).take ik = cs.take ik := by
    rw [List.append_assoc, List.take_append_of_le_length (by omega), List.take_take, Nat.min_eq_left (by omega), ← hC, List.take_take, Nat.min_eq_left hi]
  have e2 : (C.take (ik + mk) ++ D ++ C.drop (ik + mk + D.length)).drop (ik + vs.length) = D ++ C.drop (ik + mk + D.length) := by
    rw [List.append_assoc, hv, List.drop_append_of_le_length (by omega), List.drop_eq_nil_of_le (by omega), List.nil_append]
  rw [e1, e2, ← List.append_assoc, List.take_append_of_le_length, List.take_of_length_le, hD]
  · have : (cs.take ik).length = ik := by rw [List.length_take, ← hC, List.length_take]; omega
    simp only [List.length_append, this, hv, hd]
    omega
  · have : (cs.take ik).length = ik := by rw [List.length_take, ← hC, List.length_take]; omega
    simp only [List.length_append, this, hv, hd]
    omega
theorem lay3 {A : Type} (R D vs cs : List A) (ik mk nk dk : Nat) (hR : R.take ik = cs.take ik) (hcs : cs.length = nk) (hD : D = cs.drop ik) (hv : vs.length = mk) (hd : D.length = dk) (hi : ik ≤ nk) (hl : ik + mk + dk ≤ R.length) :
    ((R.take ik ++ vs ++ R.drop (ik + vs.length)).take (ik + mk) ++ D ++ (R.take ik ++ vs ++ R.drop (ik + vs.length)).drop (ik + mk + D.length)).take (ik + mk + dk) = cs.take ik ++ vs ++ cs.drop ik := by
  have h1 : (R.take ik).length = ik := by rw [List.length_take]; omega
  have h2 : (R.take ik ++ vs).length = ik + mk := by rw [List.length_append, h1, hv]
  have e1 : (R.take ik ++ vs ++ R.drop (ik + vs.length)).take (ik + mk) = cs.take ik ++ vs := by
    rw [List.take_append_of_le_length (by omega), List.take_of_length_le (by omega), hR]
  rw [e1, List.take_append_of_le_length, List.take_of_length_le, hD]
  · have : (cs.take ik).length = ik := by rw [← hR]; exact h1
    simp only [List.length_append, this, hv, hd]
    omega
  · have : (cs.take ik).length = ik := by rw [← hR]; exact h1
    simp only [List.length_append, this, hv, hd]
    omega
theorem at_block {w : World} {b n k : Nat} {cur : Array Value} {e : TypeId} {fz : Nat × Nat} {cs : List Value} (h : w.heap[b]? = some (.cells cur e fz)) (ht : cur.toList.take n = cs) : At w b 0 cs := by
  intro j v hj
  rw [Nat.zero_add]
  rw [← ht, List.getElem?_take] at hj
  split at hj
  · simp only [World.cell?, h]
    simpa using hj
  · cases hj
theorem walk {P : Program} {k : Nat} (hf : P.funcs[174]? = some Tryz.f174) (mixed : P.follows .mixedOrders = true) (t3 : P.underlying 3 = some (.int .i64)) (t4 : P.underlying 4 = some .bool) {ti : TI} (hg : Go.Abs.Good P 84 ti) (tS : P.underlying 22 = some (.slice 84))
    (hk : ti.siz = k) (hk0 : 0 < k) (hb : ti.byt ≤ 131072) (hza : ti.zer.t.alive = true)
    (hov0 : ∀ (w : World) (x y : Value), (callFunc 183 #[x, y]).run P w = Result.andThen ((Extern.SlicesOverlaps.overlaps #[22, 22] #[4] #[x, y]).run P w) (fun v w' => .ok (.value v) w')) : InsWalk P 174 84 k := by
  intro w L0 L1 n i m cs vs h0 h1 hne hi hm hfit hcl hvl h1c h1v
  have zE : ∀ w, (Go.sizeOf 84).run P w = .ok k w := fun w => by rw [← hk]; exact hg.size w
  obtain ⟨i0, hi0, hs0, hby0, hzz⟩ := hg.info
  obtain ⟨z, hz0, hzc, _⟩ := hzz hza
  have hsz : (P.info? 84).map (·.size) = some k := by rw [hi0]; simp [hs0, hk]
  -- what is laid in
  obtain ⟨g1, c1, cur1, e1, hb1, hcur1, htk1⟩ : ∃ g c cur, L1.hdr = .slice (some ⟨g, 0, none⟩) m c ∧ w.heap[g]? = some (.cells cur 84 (0, 0)) ∧ L1.loc = g ∧ cur.toList.take (m * k) = vs := by
    rcases h1 with ⟨ad, _, h, _⟩ | ⟨hb, _, ⟨h, h'⟩ | ⟨g, cap, cur, h, _, h2, _, _, _, h3⟩⟩
    · omega
    · omega
    · rw [h] at hb
      injection hb with hb
      exact ⟨g, cap, cur, h, h2, hb.symm, h3⟩
  have hvs : At w g1 0 vs := at_block (k := k) hb1 htk1
  have hy : (L1.hdr = .slice none 0 0 ∧ m = 0) ∨ ∃ ad c, L1.hdr = .slice ad m c ∧ (m = 0 ∨ ∃ b o, ad = some ⟨b, o, none⟩ ∧ At w b o vs) := .inr ⟨_, c1, e1, .inr ⟨g1, 0, rfl, hvs⟩⟩
  have atEnd' : ∀ (ad : Option Addr) (c : Nat), L0.hdr = .slice ad n c → n ≤ c → (ad = none → n = 0 ∧ c = 0) → i = n → Calls P 174 #[L0.hdr, .int .i64 i, L1.hdr] w fun e' w' => ∃ L', e' = .returned L'.hdr ∧ RowAt w' L' 84 k (n + m) (cs.take (i * k) ++ vs ++ cs.drop (i * k)) ∧ Grow (fun b => L0.hdr.ownBlock = some L0.loc ∧ b = L0.loc) w w' ∧
    (L'.hdr.ownBlock = some L'.loc → L'.loc < w'.heap.size ∧ ((L0.hdr.ownBlock = some L0.loc ∧ L'.loc = L0.loc) ∨ w.heap.size ≤ L'.loc)) ∧ L'.hdr.oneCell' = true := by
    intro ad c hh hnc hnil hin
    subst hin
    rw [← hk] at h0 hcl hvl
    have hra := fun ty => run_append (P := P) (ty := ty) tS hg (by omega) hb hza hcl h0 hy hvl h1v hfit
    obtain ⟨L, w', hr1, hr2, hr3, hr4, hr5⟩ := hra 22
    have hr1' : ∀ ty, (Builtin.append_ #[22, 22] ty #[.slice ad i c, .slice (some ⟨g1, 0, none⟩) m c1]).run P w = .ok L.hdr w' := fun ty => by
      rw [← hh, ← e1]
      exact hr1
    rw [hh, e1]
    refine Calls.mono (atEnd (k := k) hf mixed t3 t4 tS zE ad i c m c1 _ w w' L.hdr hm hnc hnil hr1') ?_
    rintro e' w'' ⟨rfl, rfl⟩
    rw [hk] at hr2 hcl
    rw [List.take_of_length_le (by omega), List.drop_eq_nil_of_le (by omega), List.append_nil]
    rw [hh] at hr3 hr4
    exact ⟨L, rfl, hr2, hr3, hr4, hr5⟩
  have h00 := h0
  rcases h0 with ⟨ad, hh, hn0, _⟩ | ⟨hob, hlen0, ⟨hh, hn0⟩ | ⟨g, cap, cur, hh, _, hcell, hnc, hcm, hcs, htk⟩⟩
  · subst hn0
    cases ad with
    | none => exact atEnd' none 0 hh (Nat.le_refl _) (fun _ => ⟨rfl, rfl⟩) (by omega)
    | some a => exact atEnd' (some a) 0 hh (Nat.le_refl _) (fun h => by cases h) (by omega)
  · rw [hh] at hob
    cases hob
  · by_cases hin : i = n
    · exact atEnd' _ cap hh hnc (fun h => by cases h) hin
    have hlt : i < n := by omega
    have hloc : L0.loc = g := by rw [hh] at hob; injection hob with hob; exact hob.symm
    have hcsat : At w g 0 cs := at_block (k := k) hcell htk
    have hgg : g1 ≠ g := by
      intro e
      refine hne hob (by rw [e1, hcur1]; rfl) ?_
      rw [hloc, hcur1, e]
    have hcurl : cur.toList.length = cap * k := by simpa using hcs
    have hik : i * k ≤ n * k := Nat.mul_le_mul_right k hi
    have hdl : (cs.drop (i * k)).length = (n - i) * k := by rw [List.length_drop, hcl, Nat.sub_mul]
    have hsum : i * k + m * k + (n - i) * k = (n + m) * k := by rw [← Nat.add_mul, ← Nat.add_mul]; congr 1; omega
    rw [hh, e1]
    by_cases hroom : n + m ≤ cap
    · refine Calls.mono (shift hf mixed t3 t4 tS zE hsz hov0 g n cap i g1 m c1 cs vs w hlt hm hroom (by unfold maxLen at hcm; omega) hgg hk0 hcell hb1 hcs hcl hvl hcsat hvs h1c h1v) ?_
      rintro e' w' ⟨rfl, rfl⟩
      have hle : (n + m) * k ≤ cap * k := Nat.mul_le_mul_right k hroom
      have hnk : n * k ≤ cap * k := Nat.mul_le_mul_right k hnc
      obtain ⟨c', q1, q2, q3⟩ := setCells_heap (b := g) (cs.drop (i * k)) ((i + m) * k) w.drew cur hcell (by rw [hdl, Nat.add_mul]; omega)
      obtain ⟨c'', r1, r2, r3⟩ := setCells_heap (b := g) vs (i * k) (w.drew.setCells g ((i + m) * k) (cs.drop (i * k))) c' q1 (by rw [q2, hcs, hvl]; omega)
      refine ⟨⟨g, .slice (some ⟨g, 0, none⟩) (n + m) cap⟩, rfl, .inr ⟨rfl, ?_, .inr ⟨g, cap, c'', rfl, Nat.zero_le _, r1, hroom, hcm, by rw [r2, q2, hcs], ?_⟩⟩, ?_, ?_, rfl⟩
      · rw [List.length_append, List.length_append, hdl, hvl, List.length_take, hcl, Nat.min_eq_left hik]; exact hsum
      · rw [r3, q3, Nat.add_mul i m k]
        have := lay2 cur.toList (cs.drop (i * k)) vs cs (i * k) (m * k) (n * k) ((n - i) * k) htk rfl hvl hdl hik (by rw [hcurl]; omega) (by rw [hcurl]; omega)
        rw [hsum] at this
        exact this
      · have hgr : Grow (fun x => x = g) w ((w.drew.setCells g ((i + m) * k) (cs.drop (i * k))).setCells g (i * k) vs) :=
          Grow.trans (b := w.drew) (Grow.drew w) (Grow.trans (setCells_grow g _ _ _) (setCells_grow g _ _ _) (fun _ _ h => h)) (fun _ _ h => h)
        exact ⟨hgr.os, hgr.tape, hgr.output, hgr.size, fun x hx hn => hgr.block x hx (fun e => hn ⟨by rw [← hh]; exact hob, by rw [hloc]; exact e⟩)⟩
      · intro _
        refine ⟨(Array.getElem?_eq_some_iff.1 r1).1, .inl ⟨by rw [← hh]; exact hob, hloc.symm⟩⟩
    · obtain ⟨ROW, G, hG1, hG2, hG3, hG4, hc⟩ := grow hf mixed t3 t4 tS zE hi0 hz0 (by rw [hs0, hk]) (by rw [hzc, hk]) (by rw [hby0]; exact hb) hk0 g n cap i g1 m c1 cs vs w hlt hm hnc (by omega) hfit hcl hvl hcsat hvs h1c h1v
      refine Calls.mono hc ?_
      rintro e' w' ⟨rfl, rfl⟩
      have hRl : ROW.toList.length = G * k := by simpa using hG3
      have hle : (n + m) * k ≤ G * k := Nat.mul_le_mul_right k hG1
      have hnew : (w.alloc (.cells ROW 84)).drew.heap[w.heap.size]? = some (.cells ROW 84 (0, 0)) := heap_alloc_new w _
      obtain ⟨c', q1, q2, q3⟩ := setCells_heap (b := w.heap.size) vs (i * k) (w.alloc (.cells ROW 84)).drew ROW hnew (by rw [hvl]; omega)
      obtain ⟨c'', r1, r2, r3⟩ := setCells_heap (b := w.heap.size) (cs.drop (i * k)) ((i + m) * k) ((w.alloc (.cells ROW 84)).drew.setCells w.heap.size (i * k) vs).drew c' q1 (by rw [q2, hG3, hdl, Nat.add_mul]; omega)
      refine ⟨⟨w.heap.size, .slice (some ⟨w.heap.size, 0, none⟩) (n + m) G⟩, rfl, .inr ⟨rfl, ?_, .inr ⟨w.heap.size, G, c'', rfl, Nat.zero_le _, r1, hG1, hG2, by rw [r2, q2, hG3], ?_⟩⟩, ?_, ?_, rfl⟩
      · rw [List.length_append, List.length_append, hdl, hvl, List.length_take, hcl, Nat.min_eq_left hik]; exact hsum
      · rw [r3, q3, Nat.add_mul i m k]
        have := lay3 ROW.toList (cs.drop (i * k)) vs cs (i * k) (m * k) (n * k) ((n - i) * k) hG4 hcl rfl hvl hdl hik (by rw [hRl]; omega)
        rw [hsum] at this
        exact this
      · have hgr : Grow (fun x => x = w.heap.size) w (((w.alloc (.cells ROW 84)).drew.setCells w.heap.size (i * k) vs).drew.setCells w.heap.size ((i + m) * k) (cs.drop (i * k))) :=
          Grow.trans (b := (w.alloc (.cells ROW 84)).drew) ⟨rfl, rfl, rfl, by simp, fun x hx _ => alloc_kept w _ x hx⟩
            (Grow.trans (setCells_grow _ _ _ _) (Grow.trans (Grow.drew _) (setCells_grow _ _ _ _) (fun _ _ h => h)) (fun _ _ h => h)) (fun _ _ h => h)
        exact ⟨hgr.os, hgr.tape, hgr.output, hgr.size, fun x hx hn => hgr.block x hx (fun e => by have : x = w.heap.size := e; omega)⟩
      · intro _
        exact ⟨(Array.getElem?_eq_some_iff.1 r1).1, .inr (Nat.le_refl _)⟩
end Go.Proofs.YtjekopgcpikkiaaGreatDoor.Ins174
set_option autoImplicit false
set_option linter.unusedVariables false
namespace Go.Abs
theorem findNow_ix (n : Int) : ∀ (es : List MapEntry) (k : Nat), (∀ x ∈ es, ∃ i : Int, x.key = .int .i64 i) → (Instr.findNow (.int .i64) (.int .i64 n) es k = some none ∧ ∀ x ∈ es, x.key ≠ .int .i64 n) ∨
    ∃ j x, Instr.findNow (.int .i64) (.int .i64 n) es k = some (some (k + j, x.val)) ∧ es[j]? = some x ∧ x.key = .int .i64 n
  | [], k, _ => .inl ⟨rfl, fun _ h => (by cases h)⟩
  | e :: es, k, h => by
    obtain ⟨i, hi⟩ := h e List.mem_cons_self
    unfold Instr.findNow
    have hs : Instr.sameNow (.int .i64) (.int .i64 n) e.key = some (n == i) := by rw [hi]; simp [Instr.sameNow]
    rw [hs]
    by_cases q : n = i
    · subst q
      rw [show (n == n) = true by simp]
      exact .inr ⟨0, e, rfl, rfl, hi⟩
    · rw [show (n == i) = false by simpa using q]
      rcases findNow_ix n es (k + 1) fun x hx => h x (List.mem_cons_of_mem _ hx) with ⟨h1, h2⟩ | ⟨j, x, h1, h2, h3⟩
      · refine .inl ⟨h1, fun x hx => ?_⟩
        rcases List.mem_cons.1 hx with rfl | hx
        · rw [hi]; intro e3; injection e3 with _ e3; exact q e3.symm
        · exact h2 x hx
      · exact .inr ⟨j + 1, x, by rw [show k + (j + 1) = k + 1 + j by omega]; exact h1, by simpa using h2, h3⟩
theorem ownsRow_block {w : World} {lo : Nat} {e : TypeId} {k : Nat} {v : Value} {n : Nat} {cells : List Value} (h : w.ownsRow lo e k v n cells) {g : Nat} (hg : v.ownBlock = some g) : lo ≤ g ∧ ∃ cur, w.heap[g]? = some (.cells cur e (0, 0)) := by
  rcases h.2 with ⟨rfl, _⟩ | ⟨b, cap, cur, rfl, h1, h2, _⟩
  · cases hg
  · injection hg with hg
    have hg : b = g := hg
    subst hg
    exact ⟨h1, cur, h2⟩
theorem ownsRow_keep {w w' : World} {lo : Nat} {e : TypeId} {k : Nat} {v : Value} {n : Nat} {cells : List Value} (h : w.ownsRow lo e k v n cells) (hk : ∀ g, v.ownBlock = some g → w'.heap[g]? = w.heap[g]?) : w'.ownsRow lo e k v n cells := by
  refine ⟨h.1, ?_⟩
  rcases h.2 with h2 | ⟨b, cap, cur, rfl, h1, h2, h3⟩
  · exact .inl h2
  · exact .inr ⟨b, cap, cur, rfl, h1, (hk b rfl).trans h2, h3⟩
structure Grp {A : Type} (lo : Nat) (e : TypeId) (k : Nat) (f : A → List Value → Prop) (w : World) (mb : Nat) (m : Int → List A) (es : Array MapEntry) (ck : Nat) : Prop where
  blk : w.heap[mb]? = some (.map es ck)
  low : lo ≤ mb
  ent : ∀ x ∈ es.toList, ∃ (i : Int) (cells : List Value), x.key = .int .i64 i ∧ rows f (m i) cells ∧ w.ownsRow lo e k x.val (m i).length cells
  inj : ∀ (a b : Nat) (x y : MapEntry), es[a]? = some x → es[b]? = some y → (x.key = y.key ∨ ∃ g, x.val.ownBlock = some g ∧ y.val.ownBlock = some g) → a = b
  out : ∀ i : Int, (∀ x ∈ es.toList, x.key ≠ .int .i64 i) → m i = []
section
variable {A : Type} {lo : Nat} {e : TypeId} {k : Nat} {f g : A → List Value → Prop} {w w' : World} {mb : Nat} {m : Int → List A} {es : Array MapEntry} {ck : Nat} {P : Program}
theorem Grp.keep (G : Grp lo e k f w mb m es ck) (hm : w'.heap[mb]? = w.heap[mb]?) (hr : ∀ x ∈ es.toList, ∀ b, x.val.ownBlock = some b → w'.heap[b]? = w.heap[b]?) (hf : ∀ x l, f x l → g x l) : Grp lo e k g w' mb m es ck :=
  ⟨hm.trans G.blk, G.low, fun x hx => by
    obtain ⟨i, cells, h1, h2, h3⟩ := G.ent x hx
    exact ⟨i, cells, h1, rows_mono hf h2, ownsRow_keep h3 (hr x hx)⟩, G.inj, G.out⟩
theorem Grp.new (f : A → List Value → Prop) (lo : Nat) (e : TypeId) (k : Nat) {w : World} (h : w.heap[mb]? = some (.map #[] 0)) (hl : lo ≤ mb) : Grp lo e k f w mb (fun _ => []) #[] 0 :=
  ⟨h, hl, fun x hx => (by simp at hx), fun a b x y ha => (by simp at ha), fun _ _ => rfl⟩
theorem mem_ix {x : MapEntry} (h : x ∈ es.toList) : ∃ j : Nat, es[j]? = some x := by
  obtain ⟨j, hj⟩ := List.getElem?_of_mem h
  exact ⟨j, by simpa using hj⟩
theorem ix_mem {x : MapEntry} {j : Nat} (h : es[j]? = some x) : x ∈ es.toList := List.mem_of_getElem? (i := j) (by simpa using h)
theorem Grp.at (G : Grp lo e k f w mb m es ck) (n : Int) : ∃ (r : Option (Nat × Value)) (v : Value) (cells : List Value), Instr.findNow (.int .i64) (.int .i64 n) es.toList 0 = some r ∧ v = (r.map (·.2)).getD (.slice none 0 0) ∧ rows f (m n) cells ∧ w.ownsRow lo e k v (m n).length cells ∧
    ((r = none ∧ v = .slice none 0 0 ∧ ∀ x ∈ es.toList, x.key ≠ .int .i64 n) ∨ ∃ j x, r = some (j, x.val) ∧ v = x.val ∧ es[j]? = some x ∧ x.key = .int .i64 n) := by
  rcases findNow_ix n es.toList 0 (fun x hx => by obtain ⟨i, _, h, _⟩ := G.ent x hx; exact ⟨i, h⟩) with ⟨h1, h2⟩ | ⟨j, x, h1, h2, h3⟩
  · refine ⟨none, _, [], h1, rfl, ?_, ?_, .inl ⟨rfl, rfl, h2⟩⟩
    · rw [G.out n h2]; rfl
    · rw [G.out n h2]; exact World.ownsRow_nil w lo e k
  · rw [Nat.zero_add] at h1
    have hx : es[j]? = some x := by simpa using h2
    obtain ⟨i, cells, g1, g2, g3⟩ := G.ent x (ix_mem hx)
    rw [h3] at g1
    injection g1 with _ g1
    subst g1
    exact ⟨some (j, x.val), x.val, cells, h1, rfl, g2, g3, .inr ⟨j, x, rfl, rfl, hx, h3⟩⟩
theorem Grp.lookup (G : Grp lo e k f w mb m es ck) {t kt et : Nat} (ht : P.underlying t = some (.map kt et)) (hk : P.underlying kt = some (.int .i64)) (hz : ∀ w, (zeroValue et).run P w = .ok (.slice none 0 0) w) {n : Int} {r : Option (Nat × Value)} (hr : Instr.findNow (.int .i64) (.int .i64 n) es.toList 0 = some r) :
    (Instr.lookup t (.map (some mb)) (.int .i64 n) false).run P w = .ok ((r.map (·.2)).getD (.slice none 0 0)) w := by
  have hck : (Instr.checkKey es.isEmpty 10000 kt (.int .i64 n)).run P w = .ok () w := MapKept.run_checkKey hk (by rfl) _ 9999
  have hfk : (Instr.findKey kt (.int .i64 n) es.toList).run P w = .ok r w := MapKept.run_findKey hk hr
  cases r with
  | none => simp [Instr.lookup, run_underlying ht, MapKept.run_getObj_map G.blk, hck, hfk, hz, Result.andThen]
  | some p => simp [Instr.lookup, run_underlying ht, MapKept.run_getObj_map G.blk, hck, hfk, Result.andThen]
def putR (m : Int → List A) (n : Int) (p : A) : Int → List A := fun j => if j = n then m j ++ [p] else m j
abbrev setMap (w : World) (mb : Nat) (es : Array MapEntry) (ck : Nat) : World := { w with heap := w.heap.setIfInBounds mb (.map es ck) }
theorem setMap_self {o : Obj} (h : w.heap[mb]? = some o) : (setMap w mb es ck).heap[mb]? = some (.map es ck) := (MapKept.heap_set h).1
theorem setMap_ne {o : Obj} (h : w.heap[mb]? = some o) {b : Nat} (hb : b ≠ mb) : (setMap w mb es ck).heap[b]? = w.heap[b]? := (MapKept.heap_set h).2 b hb
theorem Grp.put (G : Grp lo e k f w mb m es ck) {t kt et : Nat} (ht : P.underlying t = some (.map kt et)) (hk : P.underlying kt = some (.int .i64)) {n : Int} {r : Option (Nat × Value)} {v : Value} {cells news : List Value} (hr : Instr.findNow (.int .i64) (.int .i64 n) es.toList 0 = some r)
    (hc : rows f (m n) cells) (hor : (r = none ∧ v = .slice none 0 0 ∧ ∀ x ∈ es.toList, x.key ≠ .int .i64 n) ∨ ∃ j x, r = some (j, x.val) ∧ v = x.val ∧ es[j]? = some x ∧ x.key = .int .i64 n)
    {w2 : World} {v' : Value} {p : A} (hrow : w2.ownsRow lo e k v' ((m n).length + 1) (cells ++ news)) (hg : ∀ b, b < w.heap.size → v.ownBlock ≠ some b → w2.heap[b]? = w.heap[b]?) (hb' : v'.ownBlock = v.ownBlock ∨ ∃ b, v'.ownBlock = some b ∧ w.heap.size ≤ b) :
    ∃ es' ck', (Instr.mapUpdate t (.map (some mb)) (.int .i64 n) v').run P w2 = .ok () (setMap w2 mb es' ck') ∧ (∀ x ∈ es'.toList, ∀ b, x.val.ownBlock = some b → (∃ y ∈ es.toList, y.val.ownBlock = some b) ∨ w.heap.size ≤ b) ∧
      ((∀ x l, f x l → g x l) → g p news → Grp lo e k g (setMap w2 mb es' ck') mb (putR m n p) es' ck') := by
  have hlt : ∀ {b : Nat} {o : Obj}, w.heap[b]? = some o → b < w.heap.size := fun h => (Array.getElem?_eq_some_iff.1 h).1
  have hvm : v.ownBlock ≠ some mb := by
    rcases hor with ⟨_, rfl, _⟩ | ⟨j, x, _, rfl, hx, _⟩
    · intro q; cases q
    · intro q
      obtain ⟨i, cs, _, _, h3⟩ := G.ent x (ix_mem hx)
      obtain ⟨_, cur, hcur⟩ := ownsRow_block h3 q
      rw [G.blk] at hcur; cases hcur
  have hm2 : w2.heap[mb]? = some (.map es ck) := (hg mb (hlt G.blk) hvm).trans G.blk
  -- the rows of the others
  have hoth : ∀ (j : Nat) (x : MapEntry), es[j]? = some x → x.key ≠ .int .i64 n → ∀ b, x.val.ownBlock = some b → b ≠ mb ∧ b < w.heap.size ∧ v.ownBlock ≠ some b ∧ w2.heap[b]? = w.heap[b]? := by
    intro j x hx hne b hb
    obtain ⟨i, cs, _, _, h3⟩ := G.ent x (ix_mem hx)
    obtain ⟨_, cur, hcur⟩ := ownsRow_block h3 hb
    have hv : v.ownBlock ≠ some b := by
      rcases hor with ⟨_, rfl, _⟩ | ⟨j', x', _, rfl, hx', hk'⟩
      · intro q; cases q
      · intro q
        have := G.inj j j' x x' hx hx' (.inr ⟨b, hb, q⟩)
        subst this
        rw [hx] at hx'
        injection hx' with hx'
        exact hne (hx' ▸ hk')
    exact ⟨fun q => (by rw [q, G.blk] at hcur; cases hcur), hlt hcur, hv, hg b (hlt hcur) hv⟩
  have hv'm : ∀ b, v'.ownBlock = some b → b ≠ mb := by
    intro b hb q
    obtain ⟨_, cur, hcur⟩ := ownsRow_block hrow hb
    rw [q, hm2] at hcur; cases hcur
  have hv'o : ∀ (j : Nat) (x : MapEntry), es[j]? = some x → x.key ≠ .int .i64 n → ∀ b, x.val.ownBlock = some b → v'.ownBlock ≠ some b := by
    intro j x hx hne b hb q
    obtain ⟨_, h2, h3, _⟩ := hoth j x hx hne b hb
    rcases hb' with h4 | ⟨b', h4, h5⟩
    · exact h3 (h4 ▸ q)
    · rw [q] at h4; injection h4 with h4; omega
  have hck : (Instr.checkKey false 10000 kt (.int .i64 n)).run P w2 = .ok () w2 := MapKept.run_checkKey hk (by rfl) _ 9999
  have hfk : (Instr.findKey kt (.int .i64 n) es.toList).run P w2 = .ok r w2 := MapKept.run_findKey hk hr
  -- whatever the entries are then
  have key : ∀ (es' : Array MapEntry) (ck' : Nat), (∀ x' ∈ es'.toList, (∃ (j : Nat) (x : MapEntry), es[j]? = some x ∧ x' = x ∧ x.key ≠ .int .i64 n) ∨ (x'.key = .int .i64 n ∧ x'.val = v')) →
      (∀ (a b : Nat) (x y : MapEntry), es'[a]? = some x → es'[b]? = some y → x.key = y.key → a = b) → (∀ x ∈ es.toList, x.key ≠ .int .i64 n → x ∈ es'.toList) → (∃ x ∈ es'.toList, x.key = .int .i64 n) →
      (∀ x ∈ es'.toList, ∀ b, x.val.ownBlock = some b → (∃ y ∈ es.toList, y.val.ownBlock = some b) ∨ w.heap.size ≤ b) ∧ ((∀ x l, f x l → g x l) → g p news → Grp lo e k g (setMap w2 mb es' ck') mb (putR m n p) es' ck') := by
    intro es' ck' h1 h2 h3 h4
    refine ⟨fun x hx b hb => ?_, fun hf hp => ⟨setMap_self hm2, G.low, fun x hx => ?_, fun a b x y ha hb h => ?_, fun i hi => ?_⟩⟩
    · rcases h1 x hx with ⟨j, y, hj, rfl, _⟩ | ⟨_, e2⟩
      · exact .inl ⟨x, ix_mem hj, hb⟩
      · rw [e2] at hb
        rcases hb' with h5 | ⟨b', h5, h6⟩
        · rw [h5] at hb
          rcases hor with ⟨_, rfl, _⟩ | ⟨j', x', _, rfl, hx', _⟩
          · cases hb
          · exact .inl ⟨x', ix_mem hx', hb⟩
        · rw [h5] at hb; injection hb with hb; exact .inr (by omega)
    · rcases h1 x hx with ⟨j, y, hj, rfl, hne⟩ | ⟨e1, e2⟩
      · obtain ⟨i, cs, g1, g2, g3⟩ := G.ent x (ix_mem hj)
        refine ⟨i, cs, g1, ?_, ?_⟩
        · have : putR m n p i = m i := if_neg fun q => hne (by rw [g1, q])
          rw [this]; exact rows_mono hf g2
        · have : putR m n p i = m i := if_neg fun q => hne (by rw [g1, q])
          rw [this]
          refine ownsRow_keep g3 fun b hb => ?_
          obtain ⟨q1, _, _, q4⟩ := hoth j x hj hne b hb
          exact (setMap_ne hm2 q1).trans q4
      · refine ⟨n, cells ++ news, e1, ?_, ?_⟩
        · have : putR m n p n = m n ++ [p] := if_pos rfl
          rw [this]
          exact rows_append (rows_mono hf hc) ⟨news, [], (List.append_nil _).symm, hp, rfl⟩
        · have : (putR m n p n).length = (m n).length + 1 := by rw [show putR m n p n = m n ++ [p] from if_pos rfl, List.length_append]; rfl
          rw [this, e2]
          exact ownsRow_keep hrow fun b hb => setMap_ne hm2 (hv'm b hb)
    · rcases h with h | ⟨b', hb1, hb2⟩
      · exact h2 a b x y ha hb h
      · rcases h1 x (ix_mem ha) with ⟨j, x0, hj, rfl, hne⟩ | ⟨e1, e2⟩
        · rcases h1 y (ix_mem hb) with ⟨j', y0, hj', rfl, hne'⟩ | ⟨e3, e4⟩
          · have := G.inj j j' x y hj hj' (.inr ⟨b', hb1, hb2⟩)
            subst this
            rw [hj] at hj'
            injection hj' with hj'
            exact h2 a b x y ha hb (by rw [hj'])
          · rw [e4] at hb2
            exact absurd hb2 (hv'o j x hj hne b' hb1)
        · rcases h1 y (ix_mem hb) with ⟨j', y0, hj', rfl, hne'⟩ | ⟨e3, e4⟩
          · rw [e2] at hb1
            exact absurd hb1 (hv'o j' y hj' hne' b' hb2)
          · exact h2 a b x y ha hb (by rw [e1, e3])
    · have hin : i ≠ n := fun q => by
        obtain ⟨x, hx, hxk⟩ := h4
        exact hi x hx (by rw [q]; exact hxk)
      have : putR m n p i = m i := if_neg hin
      rw [this]
      refine G.out i fun x hx hk' => ?_
      refine hi x (h3 x hx ?_) hk'
      rw [hk']
      intro q; injection q with _ q; exact hin q
  rcases hor with ⟨rfl, rfl, hnone⟩ | ⟨j, x0, rfl, rfl, hx0, hk0⟩
  · obtain ⟨k1, k2⟩ := key (es.push ⟨.int .i64 n, v', ck⟩) (ck + 1) (fun x' hx' => by
      simp only [Array.toList_push, List.mem_append, List.mem_singleton] at hx'
      rcases hx' with hx' | rfl
      · obtain ⟨j, hj⟩ := mem_ix hx'
        exact .inl ⟨j, x', hj, rfl, hnone x' hx'⟩
      · exact .inr ⟨rfl, rfl⟩) (fun a b x y ha hb h => by
      rw [Array.getElem?_push] at ha hb
      split at ha
      · rename_i qa
        injection ha with ha
        split at hb
        · rename_i qb; omega
        · subst ha
          exact absurd h.symm (hnone y (ix_mem hb))
      · split at hb
        · injection hb with hb
          subst hb
          exact absurd h (hnone x (ix_mem ha))
        · exact G.inj a b x y ha hb (.inl h)) (fun x hx _ => by simp [Array.toList_push, hx]) ⟨⟨.int .i64 n, v', ck⟩, by simp [Array.toList_push], rfl⟩
    refine ⟨_, _, ?_, k1, k2⟩
    simp [Instr.mapUpdate, run_underlying ht, MapKept.run_getObj_map hm2, hck, hfk, MapKept.run_setObj_map _ hm2, Result.andThen, setMap]
  · have hget : ∀ b : Nat, (es.modify j fun y => { y with key := .int .i64 n, val := v' })[b]? = if j = b then (es[b]?).map (fun y : MapEntry => { y with key := .int .i64 n, val := v' }) else es[b]? := fun b => Array.getElem?_modify
    obtain ⟨k1, k2⟩ := key (es.modify j fun y => { y with key := .int .i64 n, val := v' }) ck (fun x' hx' => by
      obtain ⟨b, hb⟩ := mem_ix hx'
      rw [hget] at hb
      split at hb
      · rename_i q
        subst q
        rw [hx0] at hb
        injection hb with hb
        rw [← hb]
        exact .inr ⟨rfl, rfl⟩
      · rename_i q
        refine .inl ⟨b, x', hb, rfl, fun q2 => q (G.inj j b x0 x' hx0 hb (.inl (by rw [hk0, q2])))⟩) (fun a b x y ha hb h => by
      rw [hget] at ha hb
      have fix : ∀ (c : Nat) (z : MapEntry), (if j = c then (es[c]?).map (fun y : MapEntry => { y with key := .int .i64 n, val := v' }) else es[c]?) = some z → ∃ z0, es[c]? = some z0 ∧ z0.key = z.key := by
        intro c z hz
        split at hz
        · rename_i q
          subst q
          rw [hx0] at hz
          injection hz with hz
          exact ⟨x0, hx0, by rw [hk0, ← hz]⟩
        · exact ⟨z, hz, rfl⟩
      obtain ⟨x1, hx1, e1⟩ := fix a x ha
      obtain ⟨y1, hy1, e2⟩ := fix b y hb
      exact G.inj a b x1 y1 hx1 hy1 (.inl (by rw [e1, e2, h]))) (fun x hx hne => by
      obtain ⟨c, hc⟩ := mem_ix hx
      refine ix_mem (j := c) ?_
      rw [hget, if_neg fun q => by subst q; rw [hx0] at hc; injection hc with hc; exact hne (hc ▸ hk0)]
      exact hc) ⟨{ x0 with key := .int .i64 n, val := v' }, ix_mem (j := j) (by rw [hget, if_pos rfl, hx0]; rfl), rfl⟩
    refine ⟨_, _, ?_, k1, k2⟩
    have hkt : ∀ w : World, (Instr.keyThatStays (.int .i64 n) (.int .i64 n)).run P w = .ok (.int .i64 n) w := fun w => by simp [Instr.keyThatStays, Instr.sameBits]
    have hgd : ((es[j]?).map (·.key)).getD (.int .i64 n) = .int .i64 n := by rw [hx0]; exact hk0
    simp [Instr.mapUpdate, run_underlying ht, MapKept.run_getObj_map hm2, hck, hfk, hx0, hk0, hkt, MapKept.run_setObj_map _ hm2, Result.andThen, setMap]
end
end Go.Abs
set_option autoImplicit false
set_option linter.unusedVariables false
namespace Go.Abs
section
variable {P : Program} {T : Told} {C : AbsFn} {E : Env} {w : World} {Fr : Nat → Prop} {mu : Nat → Loc} {s : St} {a : Act} {R : Type}
def idK : Kn St := ⟨[], fun e s => match e with
  | .normal => some s
  | _ => none⟩
def LP0 : List Nat → Run St → Run St := fun p b s K => loopD p b 0 s K
theorem seg (hM : P.follows .mixedOrders = true) (hT : TabOK P T.tb) (hC : Sound P C) {fn nt : Nat} (hit : T.it fn = none) {c : Code} {p : List Nat} (hc : calmC c = true) (hf : flatC c = true)
    {A : Act → Prop} (hA : AOK nt A (wr c)) {J : (Nat → Prop) → (Nat → Prop) → World → Prop} (hJ : Abides (fun Fr Z (_ : St) w => J Fr Z w)) {n : Nat} {Q : Exit → Act → World → Prop}
    (H : Rw E w Fr mu s a) (ha : A a) (hg : J Fr (Mine mu s.heap) w) {m : Nat} (hm : E.m = m) {s' : St} (h : runD T C LP0 fn nt m p c s idK = some s')
    (hK : ∀ a' w' Fr' mu', Rw E w' Fr' mu' s' a' → A a' → J Fr' (Mine mu' s'.heap) w' → Q .normal a' w') : c.wpIn (fc none) n P Q a w :=
  runD_ok (LP := LP0) hM hT hC (fun E => loopD_ok 0) c p E hm hc none n A (fun Fr Z r w => r = s' ∧ J Fr Z w) idK Q hA (fun Fr Z r w Fr' Z' w' hg S => ⟨hg.1, hJ Fr Z r w Fr' Z' w' hg.2 S⟩) (fun el he => by rw [hit] at he; cases he) (.inr hf) (fun e r s a w Fr mu hk H' hA' hg' => by
    cases e with
    | normal =>
      have hk : some s = some r := hk
      injection hk with hk
      subst hk
      obtain ⟨rfl, hg'⟩ := hg'
      exact hK a w Fr mu H' hA' hg'
    | exit _ => cases hk
    | ret => cases hk) s' s a w Fr mu H ha ⟨rfl, hg⟩ h
def opv (ops : Array Oper) (j : Nat) : Option (Op × Option Tmp × Bool) := (ops[j]?).map fun o => (o.op, o.dst, o.guard.isNone)
theorem opv_some {ops : Array Oper} {j : Nat} {op : Op} {d : Option Tmp} (h : opv ops j = some (op, d, true)) : ∃ o, ops[j]? = some o ∧ o.op = op ∧ o.dst = d ∧ o.guard = none := by
  unfold opv at h
  cases ho : ops[j]? with
  | none => rw [ho] at h; cases h
  | some o =>
    rw [ho] at h
    injection h with h
    injection h with h1 h
    injection h with h2 h3
    exact ⟨o, rfl, h1, h2, by simpa using h3⟩
theorem stepI {ops : Array Oper} {i n : Nat} {l : List Nat} {o : Oper} {Q : Exit → Act → World → Prop} (ho : ops[i]? = some o) (hg : o.guard = none) (hd : noDefer o) {v : Value} {w' : World} {x : Next} (hx : x = .value v ∨ (x = .skip ∧ v = undef)) (hrun : (execOp a.eval o).run P w = .ok x w')
    (h : wpOpsIn (fc none) n P ops Q l (a.put o.dst v) w') : wpOpsIn (fc none) n P ops Q (i :: l) a w := by
  unfold wpOpsIn
  simp only [ho]
  rw [if_pos (by simp [Region.wanted, hg])]
  refine ⟨fun f _ => fc_fn none f, ?_⟩
  rw [Oper.semAt_eq _ _ _ hd, hrun]
  rcases hx with rfl | ⟨rfl, rfl⟩ <;> exact h
theorem moveI {ops : Array Oper} {i n u : Nat} {l : List Nat} {x : Operand} {Q : Exit → Act → World → Prop} (hv : opv ops i = some (.move x, some u, true) ∨ opv ops i = some (.assign x, some u, true))
    (h : wpOpsIn (fc none) n P ops Q l (a.put (some u) (a.eval x)) w) : wpOpsIn (fc none) n P ops Q (i :: l) a w := by
  rcases hv with hv | hv
  · obtain ⟨o, h1, h2, h3, h4⟩ := opv_some hv
    exact stepI h1 h4 (fun c e => by rw [h2] at e; cases e) (.inl rfl) (by unfold execOp; simp only [h2]; rfl) (by rw [h3]; exact h)
  · obtain ⟨o, h1, h2, h3, h4⟩ := opv_some hv
    exact stepI h1 h4 (fun c e => by rw [h2] at e; cases e) (.inl rfl) (by unfold execOp; simp only [h2]; rfl) (by rw [h3]; exact h)
theorem getD_put (a : Act) (u k : Nat) (v : Value) : (a.put (some u) v).tmps.getD k undef = if u = k ∧ k < a.tmps.size then v else a.tmps.getD k undef := by
  simp only [Act.put, Array.getD_eq_getD_getElem?, Array.getElem?_setIfInBounds]
  by_cases h : u = k
  · subst h
    by_cases h2 : u < a.tmps.size
    · simp [h2]
    · simp [h2]
  · simp [h]
theorem Rep.skip (H : Rep E w Fr mu s a) {u : Nat} (hu : s.tmps.all (fun p => decide (p.1 ≠ u)) = true) (v : Value) : Rep E w Fr mu s (a.put (some u) v) := by
  refine ⟨H.si, fun k d hm => ?_, H.df, H.so⟩
  obtain ⟨h1, h2, h3⟩ := H.tm k d hm
  have hne : k ≠ u := by
    have := List.all_eq_true.1 hu (k, d) hm
    simpa using this
  refine ⟨by rw [size_put]; exact h1, ?_, h3⟩
  rw [getD_put, if_neg fun e => hne e.1.symm]
  exact h2
theorem Rw.skip (H : Rw E w Fr mu s a) {u : Nat} (hu : s.tmps.all (fun p => decide (p.1 ≠ u)) = true) (v : Value) : Rw E w Fr mu s (a.put (some u) v) := by
  have h := H.reb.skip hu v
  exact ⟨H.si, h.tm, H.df, H.so⟩
abbrev PT : Ty := .pair .str (.pair .str .unit)
def rpP (x : den PT) (l : List Value) : Prop := Rp default (fun _ => False) (fun _ => default) PT x l
structure GG (lo : Nat) (e : TypeId) (mb : Nat) (m : Int → List (den PT)) (es : Array MapEntry) (ck : Nat) (Fr Z : Nat → Prop) (w : World) : Prop where
  g : Grp lo e 2 rpP w mb m es ck
  fm : ¬ Fr mb ∧ ¬ Z mb
  fx : ∀ x ∈ es.toList, ∀ b, x.val.ownBlock = some b → ¬ Fr b ∧ ¬ Z b
theorem GG.abides {lo mb ck : Nat} {e : TypeId} {m : Int → List (den PT)} {es : Array MapEntry} : Abides (fun Fr Z (_ : R) w => GG lo e mb m es ck Fr Z w) := by
  intro Fr Z r w Fr' Z' w' G S
  have key : ∀ b o, w.heap[b]? = some o → ¬ Fr b ∧ ¬ Z b → w'.heap[b]? = w.heap[b]? ∧ ¬ Fr' b ∧ ¬ Z' b := by
    intro b o hb hn
    have hlt : b < w.heap.size := (Array.getElem?_eq_some_iff.1 hb).1
    refine ⟨S.grow.block b hlt hn.2, fun h => ?_, fun h => ?_⟩
    · rcases S.frN b h with h | h | h
      · exact hn.1 h
      · exact hn.2 h
      · omega
    · rcases S.zN b h with h | h
      · exact hn.2 h
      · omega
  have hx : ∀ x ∈ es.toList, ∀ b, x.val.ownBlock = some b → w'.heap[b]? = w.heap[b]? ∧ ¬ Fr' b ∧ ¬ Z' b := by
    intro x hx b hb
    obtain ⟨i, cells, h1, h2, h3⟩ := G.g.ent x hx
    obtain ⟨_, cur, hc⟩ := ownsRow_block h3 hb
    exact key b _ hc (G.fx x hx b hb)
  exact ⟨G.g.keep (key _ _ G.g.blk G.fm).1 (fun x h b hb => (hx x h b hb).1) (fun _ _ h => h), (key _ _ G.g.blk G.fm).2, fun x h b hb => (hx x h b hb).2⟩
theorem mapI {ops : Array Oper} {i n u t : Nat} {l : List Nat} {Q : Exit → Act → World → Prop} (hv : opv ops i = some (.makeMap t none, some u, true)) (H : Rw E w Fr mu s a) (hu : s.tmps.all (fun p => decide (p.1 ≠ u)) = true) {lo : Nat} (hlo : lo ≤ w.heap.size) (e : TypeId)
    (h : ∀ w', Rw E w' Fr mu s (a.put (some u) (.map (some w.heap.size))) → GG lo e w.heap.size (fun _ => []) #[] 0 Fr (Mine mu s.heap) w' → w.heap.size < w'.heap.size → wpOpsIn (fc none) n P ops Q l (a.put (some u) (.map (some w.heap.size))) w') : wpOpsIn (fc none) n P ops Q (i :: l) a w := by
  obtain ⟨o, h1, h2, h3, h4⟩ := opv_some hv
  refine stepI h1 h4 (fun c e => by rw [h2] at e; cases e) (.inl rfl) (v := .map (some w.heap.size)) (w' := w.alloc (.map #[] 0)) (by unfold execOp; simp only [h2]; rfl) ?_
  rw [h3]
  have hg : Grow (fun _ => False) w (w.alloc (.map #[] 0)) := ⟨rfl, rfl, rfl, by rw [World.size_alloc]; omega, fun k hk _ => alloc_kept w _ k hk⟩
  have hsi := H.si.away hg (fun b _ h => h.elim)
  refine h _ ?_ ⟨Grp.new rpP lo e 2 (heap_alloc_new w _) hlo, ⟨fun hf => ?_, fun hz => ?_⟩, fun x hx => (by simp at hx)⟩ (by rw [World.size_alloc]; omega)
  · refine Rw.skip ⟨hsi, fun k d hm => ?_, ⟨fun d hd => ?_, H.df.dis⟩, H.so⟩ hu _
    · obtain ⟨g1, g2, g3⟩ := H.tm k d hm
      exact ⟨g1, VR_away H.si.frL hg (fun b _ ho => ho.elim) g2, g3⟩
    · obtain ⟨D, k1, k2, k3, k4⟩ := H.df.all d hd
      exact ⟨D, k1, (alloc_kept w _ D (Array.getElem?_eq_some_iff.1 k2).1).trans k2, k3, k4⟩
  · exact absurd (H.si.frL _ hf) (Nat.lt_irrefl _)
  · obtain ⟨i, o, hi, ho, e⟩ := hz
    have := (H.si.own i o hi ho).2.2
    omega
structure Seven (P : Program) (ops : Array Oper) (tm te ti ts : TypeId) : Prop where
  um : P.underlying tm = some (.map ti ts)
  ui : P.underlying ti = some (.int .i64)
  o0 : opv ops 0 = some (.move (.tmp 8), some 33, true)
  o1 : opv ops 1 = some (.move (.tmp 12), some 34, true)
  o2 : opv ops 2 = some (.move (.tmp 8), some 35, true)
  o3 : opv ops 3 = some (.move (.tmp 12), some 36, true)
  o4 : opv ops 4 = some (.lookup tm (.tmp 35) (.tmp 36) false, some 37, true)
  o5 : opv ops 5 = some (.load te (.tmp 11), some 38, true)
  o6 : opv ops 6 = some (.buildSlice ts 1 #[(0, .tmp 38)], some 39, true)
  o7 : opv ops 7 = some (.call ⟨.builtin .append, #[.tmp 37, .tmp 39], #[ts, ts]⟩, some 40, true)
  o8 : opv ops 8 = some (.mapUpdate tm (.tmp 33) (.tmp 34) (.tmp 40), none, true)
  size : ops.size = 9
theorem eval_tmp (a : Act) (u : Nat) : a.eval (.tmp u) = a.tmps.getD u undef := rfl
set_option maxHeartbeats 1000000 in
theorem seven (hT : TabOK P T.tb) {ops : Array Oper} {tm te ti ts : TypeId} (S : Seven P ops tm te ti ts) {info : TI} (hrow : rowT T ts = some (te, info)) (hty : info.ty = PT) (hz0 : ∀ w, (zeroValue ts).run P w = .ok (.slice none 0 0) w) {fn nt mb ck : Nat} (hnt : 47 ≤ nt) {m : Int → List (den PT)} {es : Array MapEntry} {i : Int} {p : den PT} {n : Nat}
    {Q : Act → World → Prop} (H : Rw E w Fr mu s a) (hsz : a.tmps.size = nt) (h8 : a.tmps.getD 8 undef = .map (some mb)) (hG : GG E.w0.heap.size te mb m es ck Fr (Mine mu s.heap) w) (hlen : (m i).length ≤ 1073741823)
    (h12 : getT s.tmps 12 = ⟨.int .i64, i⟩) (hks : ∀ u ∈ [33, 34, 35, 36, 37, 40], s.tmps.all (fun p => decide (p.1 ≠ u)) = true)
    {s5 s6 : St} {j : Nat} (h5 : ∀ o : Oper, o.op = .load te (.tmp 11) → opP T fn o s = some (true, ⟨PT, p⟩, s5)) (h6 : ∀ o : Oper, o.op = .buildSlice ts 1 #[(0, .tmp 38)] → opP T fn o (s5.put (some 38) ⟨PT, p⟩) = some (true, ⟨.own PT j, ()⟩, s6))
    (hks6 : (s6.put (some 39) ⟨.own PT j, ()⟩).tmps.all (fun p => decide (p.1 ≠ 37)) = true ∧ (s6.put (some 39) ⟨.own PT j, ()⟩).tmps.all (fun p => decide (p.1 ≠ 40)) = true) (hobj : readL (s6.put (some 39) ⟨.own PT j, ()⟩) PT ⟨.own PT j, ()⟩ = some [p])
    (hQ : ∀ a' w' Fr' mu' es' ck', Rw E w' Fr' mu' (s6.put (some 39) ⟨.own PT j, ()⟩) a' → a'.tmps.size = nt → a'.tmps.getD 8 undef = .map (some mb) → a'.defers = a.defers → GG E.w0.heap.size te mb (putM PT m i p) es' ck' Fr' (Mine mu' (s6.put (some 39) ⟨.own PT j, ()⟩).heap) w' → Q a' w') :
    wpOpsIn (fc none) n P ops (normQ Q) (List.range ops.size) a w := by
  obtain ⟨hu, hgood, hzp, hwd, hb, he, hza, _⟩ := rowT_ok hT hrow
  obtain ⟨it, hit, hsiz, hby, hzz⟩ := hgood.info
  obtain ⟨zv, hz1, hz2, _⟩ := hzz hza
  have hw2 : info.siz = 2 := by rw [← hwd, hty]; rfl
  rw [S.size]
  show wpOpsIn (fc none) n P ops (normQ Q) [0, 1, 2, 3, 4, 5, 6, 7, 8] a w
  -- the slots
  have h12v : a.tmps.getD 12 undef = .int .i64 i := by
    have := (H.reb.get 12).1
    rw [h12] at this
    exact VR_int this
  obtain ⟨a1, ea1⟩ : ∃ b, b = a.put (some 33) (.map (some mb)) := ⟨_, rfl⟩
  obtain ⟨a2, ea2⟩ : ∃ b, b = a1.put (some 34) (.int .i64 i) := ⟨_, rfl⟩
  obtain ⟨a3, ea3⟩ : ∃ b, b = a2.put (some 35) (.map (some mb)) := ⟨_, rfl⟩
  obtain ⟨a4, ea4⟩ : ∃ b, b = a3.put (some 36) (.int .i64 i) := ⟨_, rfl⟩
  have z1 : a1.tmps.size = nt := by rw [ea1, size_put]; exact hsz
  have z2 : a2.tmps.size = nt := by rw [ea2, size_put]; exact z1
  have z3 : a3.tmps.size = nt := by rw [ea3, size_put]; exact z2
  have z4 : a4.tmps.size = nt := by rw [ea4, size_put]; exact z3
  have g1 : ∀ k, a1.tmps.getD k undef = if 33 = k ∧ k < a.tmps.size then .map (some mb) else a.tmps.getD k undef := fun k => by rw [ea1]; exact getD_put a 33 k _
  have g2 : ∀ k, a2.tmps.getD k undef = if 34 = k ∧ k < a1.tmps.size then .int .i64 i else a1.tmps.getD k undef := fun k => by rw [ea2]; exact getD_put a1 34 k _
  have g3 : ∀ k, a3.tmps.getD k undef = if 35 = k ∧ k < a2.tmps.size then .map (some mb) else a2.tmps.getD k undef := fun k => by rw [ea3]; exact getD_put a2 35 k _
  have g4 : ∀ k, a4.tmps.getD k undef = if 36 = k ∧ k < a3.tmps.size then .int .i64 i else a3.tmps.getD k undef := fun k => by rw [ea4]; exact getD_put a3 36 k _
  have q33 : a4.tmps.getD 33 undef = .map (some mb) := by rw [g4, if_neg (by omega), g3, if_neg (by omega), g2, if_neg (by omega), g1, if_pos (by omega)]
  have q34 : a4.tmps.getD 34 undef = .int .i64 i := by rw [g4, if_neg (by omega), g3, if_neg (by omega), g2, if_pos (by omega)]
  have q35 : a4.tmps.getD 35 undef = .map (some mb) := by rw [g4, if_neg (by omega), g3, if_pos (by omega)]
  have q36 : a4.tmps.getD 36 undef = .int .i64 i := by rw [g4, if_pos (by omega)]
  have q8 : a4.tmps.getD 8 undef = .map (some mb) := by rw [g4, if_neg (by omega), g3, if_neg (by omega), g2, if_neg (by omega), g1, if_neg (by omega)]; exact h8
  refine moveI (.inl S.o0) ?_
  rw [eval_tmp, h8, ← ea1]
  refine moveI (.inl S.o1) ?_
  rw [eval_tmp, g1, if_neg (by omega), h12v, ← ea2]
  refine moveI (.inl S.o2) ?_
  rw [eval_tmp, g2, if_neg (by omega), g1, if_neg (by omega), h8, ← ea3]
  refine moveI (.inl S.o3) ?_
  rw [eval_tmp, g3, if_neg (by omega), g2, if_neg (by omega), g1, if_neg (by omega), h12v, ← ea4]
  have H4 : Rw E w Fr mu s a4 := by
    rw [ea4, ea3, ea2, ea1]
    exact (((H.skip (hks 33 (by simp)) _).skip (hks 34 (by simp)) _).skip (hks 35 (by simp)) _).skip (hks 36 (by simp)) _
  have d4 : a4.defers = a.defers := by rw [ea4, ea3, ea2, ea1]; rfl
  -- what stands there
  obtain ⟨r, v, cells, hr, hv, hc, hown, hor⟩ := hG.g.at i
  obtain ⟨o4, k1, k2, k3, k4⟩ := opv_some S.o4
  refine stepI k1 k4 (fun c e => by rw [k2] at e; cases e) (.inl rfl) (v := v) (w' := w) ?_ ?_
  · have := hG.g.lookup (P := P) S.um S.ui hz0 hr
    unfold execOp
    simp only [k2, eval_tmp, q35, q36, Sem.run_bind, this, Result.andThen_ok, Sem.run_pure, hv]
  rw [k3]
  obtain ⟨a5, ea5⟩ : ∃ b, b = a4.put (some 37) v := ⟨_, rfl⟩
  rw [← ea5]
  have z5 : a5.tmps.size = nt := by rw [ea5, size_put]; exact z4
  have g5 : ∀ k, a5.tmps.getD k undef = if 37 = k ∧ k < a4.tmps.size then v else a4.tmps.getD k undef := fun k => by rw [ea5]; exact getD_put a4 37 k _
  have H5 : Rw E w Fr mu s a5 := by rw [ea5]; exact H4.skip (hks 37 (by simp)) _
  -- the thing, and a row of it alone
  obtain ⟨o5, m1, m2, m3, m4⟩ := opv_some S.o5
  obtain ⟨nx5, v5, w5, Fr5, mu5, e5, f5, vr5, ok5, R5, _⟩ := opP_ok hT H5.reb (h5 o5 m2)
  refine stepI m1 m4 (fun c e => by rw [m2] at e; cases e) f5 e5 ?_
  rw [m3]
  have R5' := R5.put (some 38) (fun t e => by injection e with e; subst e; exact Nat.lt_of_lt_of_le (show (38 : Nat) < 47 by decide) (by rw [z5]; exact hnt)) vr5 ok5
  obtain ⟨o6, l1, l2, l3, l4⟩ := opv_some S.o6
  obtain ⟨nx6, v6, w6, Fr6, mu6, e6, f6, vr6, ok6, R6, _⟩ := opP_ok hT R5' (h6 o6 l2)
  refine stepI l1 l4 (fun c e => by rw [l2] at e; cases e) f6 e6 ?_
  rw [l3]
  have R6' := R6.put (some 39) (fun t e => by injection e with e; subst e; exact Nat.lt_of_lt_of_le (show (39 : Nat) < 47 by decide) (by rw [size_put, z5]; exact hnt)) vr6 ok6
  obtain ⟨H6, S6⟩ := H5.back R6'
  have hG6 := GG.abides (R := Unit) _ _ () _ _ _ _ hG S6
  obtain ⟨a7, ea7⟩ : ∃ b, b = (a5.put (some 38) v5).put (some 39) v6 := ⟨_, rfl⟩
  rw [← ea7] at H6 R6' ⊢
  have z7 : a7.tmps.size = nt := by rw [ea7, size_put, size_put]; exact z5
  have d7 : a7.defers = a.defers := by rw [ea7, ea5]; exact d4
  have g7 : ∀ k, k ≠ 38 → k ≠ 39 → a7.tmps.getD k undef = a5.tmps.getD k undef := fun k n1 n2 => by rw [ea7, getD_put, if_neg (fun e => n2 e.1.symm), getD_put, if_neg (fun e => n1 e.1.symm)]
  have q37 : a7.tmps.getD 37 undef = v := by rw [g7 _ (by omega) (by omega), g5, if_pos (by omega)]
  have q39 : a7.tmps.getD 39 undef = v6 := by rw [ea7, getD_put, if_pos (by rw [size_put]; omega)]
  have q33 : a7.tmps.getD 33 undef = .map (some mb) := by rw [g7 _ (by omega) (by omega), g5, if_neg (by omega)]; exact q33
  have q34 : a7.tmps.getD 34 undef = .int .i64 i := by rw [g7 _ (by omega) (by omega), g5, if_neg (by omega)]; exact q34
  have q8 : a7.tmps.getD 8 undef = .map (some mb) := by rw [g7 _ (by omega) (by omega), g5, if_neg (by omega)]; exact q8
  -- behind it
  have vr6' : VR w6 Fr6 mu6 ⟨.own PT j, ()⟩ v6 := vr6
  obtain ⟨ad, c, news, e7, hrw, hat⟩ := readL_ok R6' hobj vr6'
  have hat : ∃ b o, ad = some ⟨b, o, none⟩ ∧ At w6 b o news := by
    rcases hat with ⟨_, h⟩ | h | h
    · cases h
    · cases h
    · exact h
  obtain ⟨b, o, rfl, hat2⟩ := hat
  have hrow6 : w6.ownsRow E.w0.heap.size te info.siz v (m i).length cells := by
    rw [hw2]
    refine ownsRow_keep hown fun g hg => ?_
    obtain ⟨_, cur, hcur⟩ := ownsRow_block hown hg
    refine S6.grow.block g (Array.getElem?_eq_some_iff.1 hcur).1 fun hz => ?_
    rcases hor with ⟨_, rfl, _⟩ | ⟨jj, x, _, rfl, hx, _⟩
    · cases hg
    · exact (hG.fx x (ix_mem hx) g hg).2 hz
  have hnl : news.length = 2 := by rw [rows_len (fun x l h => Rp_len PT x l rfl h) hrw]; rfl
  have hn1 : ∀ u ∈ news, u.oneCell' = true := rows_all (fun x l h => Rp_one H6.si.hh PT x l rfl h) hrw
  obtain ⟨o7, t1, t2, t3, t4⟩ := opv_some S.o7
  obtain ⟨v7, w7, e8, hown7, hgb, _, hblk⟩ := run_append_own_at (P := P) w6 E.w0.heap.size ts o7.type te it zv info.siz info.byt hu hit hz1 hsiz hby hz2 hzp v (m i).length cells hrow6 ⟨b, o, none⟩ 1 c news (by rw [hnl, hw2]) (fun k u hk => by rw [addr_add]; exact hat2 k u hk) hn1
    (by simp only [maxLen]; omega) (by
      have : ((m i).length + 1) * info.byt ≤ 1073741824 * 131072 := Nat.mul_le_mul (by omega) hb
      omega) H6.si.grow.size
  refine stepI t1 t4 (fun c e => by rw [t2] at e; cases e) (.inl rfl) (v := v7) (w' := w7) ?_ ?_
  · have e7' : v6 = .slice (some ⟨b, o, none⟩) 1 c := e7
    unfold execOp
    simp only [t2, resolve, invoke, builtin, Sem.run_bind, Sem.run_pure, Result.andThen_ok, List.map_toArray, List.map_cons, List.map_nil, eval_tmp, q37, q39, e7', e8]
  rw [t3]
  obtain ⟨o8, u1, u2, u3, u4⟩ := opv_some S.o8
  rw [hw2] at hown7
  -- the row's block is the map's
  have hvb : ∀ k, v.ownBlock = some k → ¬ Fr6 k ∧ ¬ Mine mu6 (s6.put (some 39) ⟨.own PT j, ()⟩).heap k ∧ E.w0.heap.size ≤ k := by
    intro k hk
    rcases hor with ⟨_, rfl, _⟩ | ⟨jj, x, _, rfl, hx, _⟩
    · cases hk
    · have h := hG6.fx x (ix_mem hx) k hk
      exact ⟨h.1, h.2, (ownsRow_block hown hk).1⟩
  obtain ⟨es', ck', e9, hblks, hput⟩ := hG6.g.put (P := P) (g := rpP) S.um S.ui hr hc hor hown7 (fun k hk hn => hgb.block k hk (fun e => hn e.symm)) (by
    rcases hblk with h | h
    · exact .inl h
    · exact .inr ⟨_, h, Nat.le_refl _⟩)
  refine stepI u1 u4 (fun c e => by rw [u2] at e; cases e) (.inr ⟨rfl, rfl⟩) (v := undef) (w' := setMap w7 mb es' ck') ?_ ?_
  · have h33 : (a7.put (some 40) v7).tmps.getD 33 undef = .map (some mb) := by rw [getD_put, if_neg (by omega)]; exact q33
    have h34 : (a7.put (some 40) v7).tmps.getD 34 undef = .int .i64 i := by rw [getD_put, if_neg (by omega)]; exact q34
    have h40 : (a7.put (some 40) v7).tmps.getD 40 undef = v7 := by rw [getD_put, if_pos (by omega)]
    unfold execOp
    simp only [u2, eval_tmp, h33, h34, h40, Sem.run_bind, e9, Result.andThen_ok, Sem.run_pure]
  rw [u3]
  have hm7 : w7.heap[mb]? = some (.map es ck) := by
    refine (hgb.block mb (Array.getElem?_eq_some_iff.1 hG6.g.blk).1 fun e => ?_).trans hG6.g.blk
    obtain ⟨_, cur, hcur⟩ := ownsRow_block hrow6 e.symm
    rw [hG6.g.blk] at hcur; cases hcur
  have hg8 : Grow (fun k => v.ownBlock = some k ∨ k = mb) w6 (setMap w7 mb es' ck') := by
    refine ⟨hgb.os, hgb.tape, hgb.output, by simp only [Array.size_setIfInBounds]; exact hgb.size, fun k hk hn => ?_⟩
    exact (setMap_ne hm7 fun e => hn (.inr e)).trans (hgb.block k hk fun e => hn (.inl e.symm))
  have hO : ∀ k, k < w6.heap.size → (v.ownBlock = some k ∨ k = mb) → ¬ Fr6 k ∧ ¬ Mine mu6 (s6.put (some 39) ⟨.own PT j, ()⟩).heap k ∧ (E.O0 k ∨ E.w0.heap.size ≤ k) := by
    rintro k _ (h | rfl)
    · exact ⟨(hvb k h).1, (hvb k h).2.1, .inr (hvb k h).2.2⟩
    · exact ⟨hG6.fm.1, hG6.fm.2, .inr hG6.g.low⟩
  have H8 : Rw E (setMap w7 mb es' ck') Fr6 mu6 (s6.put (some 39) ⟨.own PT j, ()⟩) (a7.put (some 40) v7) := by
    refine Rw.skip ⟨H6.si.away hg8 hO, fun k d hm => ?_, ⟨fun d hd => ?_, H6.df.dis⟩, H6.so⟩ hks6.2 _
    · obtain ⟨y1, y2, y3⟩ := H6.tm k d hm
      exact ⟨y1, VR_away H6.si.frL hg8 (fun k hk ho => (hO k hk ho).1) y2, y3⟩
    · obtain ⟨D, y1, y2, y3, y4⟩ := H6.df.all d hd
      refine ⟨D, y1, (hg8.block D (Array.getElem?_eq_some_iff.1 y2).1 ?_).trans y2, y3, y4⟩
      rintro (h | rfl)
      · obtain ⟨_, cur, hcur⟩ := ownsRow_block hrow6 h
        rw [y2] at hcur; cases hcur
      · rw [hG6.g.blk] at y2; cases y2
  refine ⟨rfl, hQ _ _ _ _ es' ck' H8 (by rw [show (a7.put (some 40) v7).put none undef = a7.put (some 40) v7 from rfl, size_put]; exact z7) ?_ d7 ⟨hput (fun _ _ h => h) ?_, hG6.fm, fun x hx k hk => ?_⟩⟩
  · show (a7.put (some 40) v7).tmps.getD 8 undef = _
    rw [getD_put, if_neg (by omega)]; exact q8
  · obtain ⟨x1, x2, e, hx1, hx2⟩ := hrw
    cases hx2
    rw [e, List.append_nil]
    exact hx1
  · rcases hblks x hx k hk with ⟨y, hy, hky⟩ | hge
    · exact hG6.fx y hy k hky
    · refine ⟨fun hf => absurd (H6.si.frL k hf) (by omega), ?_⟩
      rintro ⟨i', o', hi, ho, e⟩
      have := (H6.si.own i' o' hi ho).2.2
      omega
theorem GG.freeze {lo mb ck : Nat} {e : TypeId} {m : Int → List (den PT)} {es : Array MapEntry} (H : Rw E w Fr mu s a) (hlo : lo = E.w0.heap.size) (hd : a.defers = []) (G : GG lo e mb m es ck Fr (Mine mu s.heap) w) :
    ∃ Fr2, Rw E w Fr2 mu s a ∧ VR w Fr2 mu ⟨.mp PT, m⟩ (.map (some mb)) := by
  subst hlo
  have hF : ∀ b, Fr b → (Fr b ∨ b = mb ∨ ∃ x ∈ es.toList, x.val.ownBlock = some b) := fun b h => .inl h
  have hx : ∀ x ∈ es.toList, ∀ b, x.val.ownBlock = some b → b < w.heap.size ∧ E.w0.heap.size ≤ b := by
    intro x hx b hb
    obtain ⟨i, cells, h1, h2, h3⟩ := G.g.ent x hx
    obtain ⟨h4, cur, hc⟩ := ownsRow_block h3 hb
    exact ⟨(Array.getElem?_eq_some_iff.1 hc).1, h4⟩
  have hsi : SI E w (fun b => Fr b ∨ b = mb ∨ ∃ x ∈ es.toList, x.val.ownBlock = some b) mu s.heap := H.si.more hF (by
    rintro b (h | rfl | ⟨x, hx1, hb⟩)
    · exact .inl h
    · exact .inr ⟨G.fm.2, (Array.getElem?_eq_some_iff.1 G.g.blk).1, .inr (.inr G.g.low)⟩
    · exact .inr ⟨(G.fx x hx1 b hb).2, (hx x hx1 b hb).1, .inr (.inr (hx x hx1 b hb).2)⟩)
  refine ⟨_, ⟨hsi, fun u d hm => ?_, by rw [hd]; exact ⟨by simp, by simp⟩, H.so⟩, ?_⟩
  · obtain ⟨g1, g2, g3⟩ := H.tm u d hm
    exact ⟨g1, VR_keep hF (fun _ _ => rfl) (Ty.okN_all (fun _ => rfl) _) g2, g3⟩
  · refine ⟨rfl, mb, es, ck, rfl, .inr (.inl rfl), G.g.blk, fun x hx1 => ?_, ?_, G.g.out⟩
    · obtain ⟨i, cells, h1, h2, h3⟩ := G.g.ent x hx1
      refine ⟨i, h1, ?_⟩
      rcases h3.2 with ⟨e1, e2⟩ | ⟨b, cap, cur, e1, h4, h5, h6, _, h7⟩
      · have : m i = [] := List.eq_nil_of_length_eq_zero (by simpa using e2)
        exact ⟨none, 0, cells, by show x.val = Value.slice none (m i).length 0; rw [e1, this]; rfl, by show (m i).length ≤ 0; rw [this]; exact Nat.le_refl _, h2, .inl this⟩
      · refine ⟨some ⟨b, 0, none⟩, cap, cells, e1, by omega, h2, .inr ⟨b, 0, rfl, .inr (.inr ⟨x, hx1, by rw [e1]; rfl⟩), fun k v hk => ?_⟩⟩
        rw [Nat.zero_add]
        have hlt : k < cells.length := (List.getElem?_eq_some_iff.1 hk).1
        have := h3.1
        have hcur : cur[k]? = some v := by
          have h8 := h7.2
          have : (cur.toList.take ((m i).length * 2))[k]? = some v := by rw [h8]; exact hk
          rw [List.getElem?_take_of_lt (by omega)] at this
          simpa using this
        simp [World.cell?, h5, hcur]
    · rw [List.pairwise_iff_getElem]
      intro i j hi hj hij h
      have := G.g.inj i j es.toList[i] es.toList[j] (by simp at hi ⊢) (by simp at hj ⊢) (.inl h)
      omega
end
end Go.Abs
set_option maxRecDepth 100000
set_option linter.unusedVariables false
namespace Go.Proofs.YtjekopgcpikkiaaGreatDoor.AM.Part
open Go.Abs
def pK (fn i : Nat) : List Nat := if i = 3 ∨ i = 8 ∨ i = 9 then [0, 2, 9, 14, 15, 16] else if i = 10 then [6, 7] else [0, 1, 2, 9, 11, 12, 14, 15, 16, 17]
def pT : Go.Abs.Told := ⟨TB, HH, pK, fun _ => false, fun _ _ => false, fun _ _ => false, fun _ => none, fun _ _ _ => none⟩
noncomputable def pc (p : List Nat) : Code := sub p (codeOf PP 169)
def opsOf : Code → Array Oper
  | .region _ ops _ => ops
  | _ => #[]
noncomputable abbrev rg (p : List Nat) (i : Nat) (d : Bool) : Code := .region i (opsOf (pc p)) d
abbrev pB : List Nat := [1, 1, 1, 0, 1, 0, 0]
noncomputable def bodyC : Code := .seq (rg (pB ++ [0]) 4 false) (.seq (.cond (.tmp 17) .skip (.exit 0)) (.seq (.block 1 (.seq (rg (pB ++ [1, 1, 0, 0, 0]) 5 false) (.seq (rg (pB ++ [1, 1, 0, 0, 1, 0]) 6 true) (.seq (rg (pB ++ [1, 1, 0, 0, 1, 1, 0]) 7 false) (rg (pB ++ [1, 1, 0, 0, 1, 1, 1]) 8 false))))) (rg (pB ++ [1, 1, 1]) 9 false)))
noncomputable def allC : Code := .seq (rg [0] 0 false) (.seq (rg [1, 0] 1 false) (.seq (rg [1, 1, 0] 2 false) (.seq (.seq (rg [1, 1, 1, 0, 0] 3 false) (.block 0 (.loop bodyC))) (.seq (rg [1, 1, 1, 1, 0] 10 false) .ret))))
theorem skel : codeOf PP 169 = allC := by kernel_rfl
theorem seven7 : Seven PP (opsOf (pc (pB ++ [1, 1, 0, 0, 1, 1, 0]))) 184 84 3 22 :=
  ⟨by kernel_rfl, by kernel_rfl, by kernel_rfl, by kernel_rfl, by kernel_rfl, by kernel_rfl, by kernel_rfl, by kernel_rfl, by kernel_rfl, by kernel_rfl, by kernel_rfl, by kernel_rfl⟩
section
variable (C : AbsFn) (t1 : Ty) (e1 : Nat) (t2 : Ty)
abbrev BT : Ty := .pair (.int .i64) (.pair (.own t1 1) .unit)
abbrev OB (x : den (BT t1)) (ns : List (den t2)) : List AObj := [⟨.box (BT t1), x⟩, ⟨.row e1 t2 true, ns⟩]
variable (x : den (BT t1)) (ns : List (den t2)) (l : List (den PT)) (lv : Int)
def S0 : St := ⟨[(0, ⟨.ptr 0 0, ()⟩), (1, ⟨.list PT, l⟩), (2, ⟨.int .i64, lv⟩)], OB t1 e1 t2 x ns⟩
def S1 : St := ⟨[(0, ⟨.ptr 0 0, ()⟩), (1, ⟨.list PT, l⟩), (2, ⟨.int .i64, lv⟩), (9, ⟨.int .u32, (0 : Int)⟩)], OB t1 e1 t2 x ns⟩
def SL (k sN : Int) : St := ⟨[(0, ⟨.ptr 0 0, ()⟩), (2, ⟨.int .i64, lv⟩), (9, ⟨.int .u32, sN⟩), (14, ⟨.list PT, l⟩), (15, ⟨.int .i64, ofN (lenL PT l)⟩), (16, ⟨.int .i64, k⟩)], OB t1 e1 t2 x ns⟩
def SC (k sN : Int) : St := ⟨[(0, ⟨.ptr 0 0, ()⟩), (2, ⟨.int .i64, lv⟩), (9, ⟨.int .u32, sN⟩), (14, ⟨.list PT, l⟩), (15, ⟨.int .i64, ofN (lenL PT l)⟩), (16, ⟨.int .i64, k⟩), (17, ⟨.bool, ltI k (ofN (lenL PT l))⟩)], OB t1 e1 t2 x ns⟩
def S5 (k sN : Int) : St := ⟨[(0, ⟨.ptr 0 0, ()⟩), (2, ⟨.int .i64, lv⟩), (9, ⟨.int .u32, sN⟩), (11, ⟨.ptr 2 0, ()⟩), (14, ⟨.list PT, l⟩), (15, ⟨.int .i64, ofN (lenL PT l)⟩), (16, ⟨.int .i64, k⟩)], OB t1 e1 t2 x ns ++ [⟨.box PT, ixL PT l k⟩]⟩
def S6 (k sN i : Int) : St := ⟨[(0, ⟨.ptr 0 0, ()⟩), (2, ⟨.int .i64, lv⟩), (9, ⟨.int .u32, sN⟩), (11, ⟨.ptr 2 0, ()⟩), (12, ⟨.int .i64, i⟩), (14, ⟨.list PT, l⟩), (15, ⟨.int .i64, ofN (lenL PT l)⟩), (16, ⟨.int .i64, k⟩)], OB t1 e1 t2 x ns ++ [⟨.box PT, ixL PT l k⟩]⟩
def S7 (k sN i : Int) : St := ⟨[(0, ⟨.ptr 0 0, ()⟩), (2, ⟨.int .i64, lv⟩), (9, ⟨.int .u32, sN⟩), (11, ⟨.ptr 2 0, ()⟩), (12, ⟨.int .i64, i⟩), (14, ⟨.list PT, l⟩), (15, ⟨.int .i64, ofN (lenL PT l)⟩), (16, ⟨.int .i64, k⟩), (38, ⟨PT, ixL PT l k⟩)], OB t1 e1 t2 x ns ++ [⟨.box PT, ixL PT l k⟩, ⟨.row 84 PT false, [ixL PT l k]⟩]⟩
def SZ (m : Int → List (den PT)) (sN : Int) : St := ⟨[(6, ⟨.mp PT, m⟩), (7, ⟨.int .u32, sN⟩)], OB t1 e1 t2 x ns⟩
theorem run2 : runD pT C LP0 169 47 2 [1, 1, 0] (rg [1, 1, 0] 2 false) (S0 t1 e1 t2 x ns l lv) idK = some (S1 t1 e1 t2 x ns l lv) := by kernel_rfl
theorem run3 : runD pT C LP0 169 47 2 [1, 1, 1, 0, 0] (rg [1, 1, 1, 0, 0] 3 false) (S1 t1 e1 t2 x ns l lv) idK = some (SL t1 e1 t2 x ns l lv 0 0) := by kernel_rfl
theorem run4 (k sN : Int) : runD pT C LP0 169 47 2 (pB ++ [0]) (rg (pB ++ [0]) 4 false) (SL t1 e1 t2 x ns l lv k sN) idK = some (SC t1 e1 t2 x ns l lv k sN) := by kernel_rfl
theorem cut4 (k sN : Int) : cutT pT 169 (SC t1 e1 t2 x ns l lv k sN) 17 true = SL t1 e1 t2 x ns l lv k sN ∧ cutT pT 169 (SC t1 e1 t2 x ns l lv k sN) 17 false = SL t1 e1 t2 x ns l lv k sN := ⟨by kernel_rfl, by kernel_rfl⟩
theorem run5 (k sN : Int) : runD pT C LP0 169 47 2 (pB ++ [1, 1, 0, 0, 0]) (rg (pB ++ [1, 1, 0, 0, 0]) 5 false) (SL t1 e1 t2 x ns l lv k sN) idK = br (andB (leI 0 k) (ltI k (ofN (lenL PT l)))) (some (S5 t1 e1 t2 x ns l lv k sN)) none := by kernel_rfl
theorem run6 (k sN : Int) : runD pT C LP0 169 47 2 (pB ++ [1, 1, 0, 0, 1, 0]) (rg (pB ++ [1, 1, 0, 0, 1, 0]) 6 true) (S5 t1 e1 t2 x ns l lv k sN) idK =
    bnd (C 63 [⟨.str, (ixL PT l k).1⟩, ⟨.int .i64, x.1⟩] [] (.int .u64) []) fun h => bnd (C 73 [⟨.int .u64, h⟩, ⟨.int .i64, lv⟩, ⟨.int .i64, x.1⟩] [] (.int .i64) []) fun i => some (S6 t1 e1 t2 x ns l lv k sN i) := by kernel_rfl
theorem run8 (k sN i : Int) : runD pT C LP0 169 47 2 (pB ++ [1, 1, 0, 0, 1, 1, 1]) (rg (pB ++ [1, 1, 0, 0, 1, 1, 1]) 8 false) ((S7 t1 e1 t2 x ns l lv k sN i).put (some 39) ⟨.own PT 3, ()⟩) idK =
    bnd (C 111 [⟨.int .u32, sN⟩, ⟨.int .i64, i⟩] [] (.int .u32) []) fun s => some (SL t1 e1 t2 x ns l lv k s) := by kernel_rfl
theorem run9 (k sN : Int) : runD pT C LP0 169 47 2 (pB ++ [1, 1, 1]) (rg (pB ++ [1, 1, 1]) 9 false) (SL t1 e1 t2 x ns l lv k sN) idK = some (SL t1 e1 t2 x ns l lv (addI .i64 k 1) sN) := by kernel_rfl
theorem run10 (m : Int → List (den PT)) (k sN : Int) : runD pT C LP0 169 47 2 [1, 1, 1, 1, 0] (rg [1, 1, 1, 1, 0] 10 false) ⟨putT (SL t1 e1 t2 x ns l lv k sN).tmps 8 ⟨.mp PT, m⟩, OB t1 e1 t2 x ns⟩ idK = some (SZ t1 e1 t2 x ns m sN) := by kernel_rfl
theorem h5 (k sN i : Int) : ∀ o : Oper, o.op = .load 84 (.tmp 11) → opP pT 169 o (S6 t1 e1 t2 x ns l lv k sN i) = some (true, ⟨PT, ixL PT l k⟩, S6 t1 e1 t2 x ns l lv k sN i) := by
  intro o ho
  unfold opP
  rw [ho]
  kernel_rfl
theorem h6 (k sN i : Int) : ∀ o : Oper, o.op = .buildSlice 22 1 #[(0, .tmp 38)] → opP pT 169 o ((S6 t1 e1 t2 x ns l lv k sN i).put (some 38) ⟨PT, ixL PT l k⟩) = some (true, ⟨.own PT 3, ()⟩, S7 t1 e1 t2 x ns l lv k sN i) := by
  intro o ho
  unfold opP
  rw [ho]
  kernel_rfl
end
theorem tabT : TabOK PP pT.tb := tabIs_ok (by kernel_rfl)
theorem mixed : PP.follows .mixedOrders = true := by kernel_rfl
theorem row7 : ∃ info, rowT pT 22 = some (84, info) ∧ info.ty = PT := ⟨_, rfl, rfl⟩
theorem zero7 : ∀ w, (zeroValue 22).run PP w = .ok (.slice none 0 0) w := by
  intro w
  have he : ∃ e a b c d f, Abs.look pT.tb 22 = some ⟨e, a, b, c, ⟨.nil d, ()⟩, f⟩ := ⟨_, _, _, _, _, _, rfl⟩
  obtain ⟨_, _, _, _, _, _, he⟩ := he
  obtain ⟨i, hi, hsz, hby, hzz⟩ := (tabT _ _ he).info
  obtain ⟨zv, hz1, hz2, _, hz3⟩ := hzz rfl
  have hzv : zv = .slice none 0 0 := by
    have := hz3 w (fun _ => False) (fun _ => default)
    injection (show [zv] = [_] from this)
  subst hzv
  simp [zeroValue, typeInfo, hi, hz1]
abbrev AA (mb : Nat) (a : Act) : Prop := a.tmps.size = 47 ∧ a.defers = [] ∧ a.tmps.getD 8 undef = .map (some mb)
theorem aok (mb : Nat) {c : Code} (h : (wr c).all (fun u => decide (u ≠ 8)) = true) : AOK 47 (AA mb) (wr c) :=
  ⟨fun a h => h.1, fun u hu a v ha => ⟨by rw [size_put]; exact ha.1, by rw [put_defers]; exact ha.2.1, by
    have : u ≠ 8 := by simpa using List.all_eq_true.1 h u hu
    rw [getD_put, if_neg fun e => this e.1]
    exact ha.2.2⟩⟩
theorem bnd_s {A R : Type} (a : A) (K : A → Option R) : bnd (some a) K = K a := rfl
theorem some_of_bnd {A R : Type} {x : Option A} {K : A → Option R} {r : R} (h : bnd x K = some r) : ∃ y, x = some y ∧ K y = some r := by
  cases x with
  | none => cases h
  | some y => exact ⟨y, rfl, h⟩
set_option maxHeartbeats 2000000 in
theorem loop_ok {C : AbsFn} (hC : Sound PP C) (t1 : Ty) (e1 : Nat) (t2 : Ty) (x : den (BT t1)) (ns : List (den t2)) (l : List (den PT)) (lv : Int) (hfit : l.length ≤ 1073741824) {E : Env} (hE : E.m = 2) {mb : Nat} {mF : Int → List (den PT)} {sF : Int} {n : Nat} {Q : Exit → Act → World → Prop}
    (hend : ∀ a w Fr mu es ck k, Rw E w Fr mu (SL t1 e1 t2 x ns l lv k sF) a → AA mb a → GG E.w0.heap.size 84 mb mF es ck Fr (Mine mu (SL t1 e1 t2 x ns l lv k sF).heap) w → Q (.exit 0) a w) :
    ∀ (rest done : List (den PT)) (m : Int → List (den PT)) (sN : Int), l = done ++ rest → partL C 63 73 111 (.pair .str .unit) lv x.1 rest m sN = some (mF, sF) → (∀ i, (m i).length ≤ done.length) →
      ∀ (a : Act) (w : World) (Fr : Nat → Prop) (mu : Nat → Go.Abs.Loc) (es : Array MapEntry) (ck : Nat), Rw E w Fr mu (SL t1 e1 t2 x ns l lv (done.length : Nat) sN) a → AA mb a → GG E.w0.heap.size 84 mb m es ck Fr (Mine mu (SL t1 e1 t2 x ns l lv (done.length : Nat) sN).heap) w →
        Code.roundsIn (fc none) n PP bodyC Q (rest.length + 1) a w := by
  intro rest
  induction rest with
  | nil =>
    intro done m sN hl hp hm a w Fr mu es ck H ha hg
    rw [roundsIn_succ]
    unfold bodyC
    refine wpIn_seq (seg mixed tabT hC rfl (by kernel_rfl) rfl (aok mb (by kernel_rfl)) GG.abides H ha hg hE (run4 C t1 e1 t2 x ns l lv (done.length : Nat) sN) ?_)
    intro a w Fr mu H ha hg
    have hb : getT (SC t1 e1 t2 x ns l lv (done.length : Nat) sN).tmps 17 = ⟨.bool, ltI (done.length : Nat) (ofN (lenL PT l))⟩ := rfl
    have hf : ltI (done.length : Nat) (ofN (lenL PT l)) = false := by
      rw [hl]; simp [ltI, ofN, lenL]
    rw [hf] at hb
    have hv := (H.reb.get 17).1
    rw [hb] at hv
    have H2 := cut_Rw (T := pT) H 169 hb
    rw [(cut4 t1 e1 t2 x ns l lv (done.length : Nat) sN).2] at H2
    injection hp with hp
    injection hp with h1 h2
    subst h1; subst h2
    exact wpIn_seq (wpIn_cond_false (VR_bool hv) (wpIn_exit (hend a w Fr mu es ck _ H2 ha hg)))
  | cons p rest ih =>
    intro done m sN hl hp hm a w Fr mu es ck H ha hg
    have hkl : done.length < l.length := by rw [hl]; simp
    have hix : ixL PT l (done.length : Nat) = p := by rw [hl]; simp [ixL]
    unfold partL at hp
    obtain ⟨hh, c1, hp⟩ := some_of_bnd hp
    obtain ⟨ii, c2, hp⟩ := some_of_bnd hp
    obtain ⟨ss, c3, hp⟩ := some_of_bnd hp
    rw [roundsIn_succ]
    unfold bodyC
    refine wpIn_seq (seg mixed tabT hC rfl (by kernel_rfl) rfl (aok mb (by kernel_rfl)) GG.abides H ha hg hE (run4 C t1 e1 t2 x ns l lv (done.length : Nat) sN) ?_)
    intro a w Fr mu H ha hg
    have hb : getT (SC t1 e1 t2 x ns l lv (done.length : Nat) sN).tmps 17 = ⟨.bool, ltI (done.length : Nat) (ofN (lenL PT l))⟩ := rfl
    have hf : ltI (done.length : Nat) (ofN (lenL PT l)) = true := by
      simp [ltI, ofN, lenL]; exact hkl
    rw [hf] at hb
    have hv := (H.reb.get 17).1
    rw [hb] at hv
    have H2 := cut_Rw (T := pT) H 169 hb
    rw [(cut4 t1 e1 t2 x ns l lv (done.length : Nat) sN).1] at H2
    refine wpIn_seq (wpIn_cond_true (VR_bool hv) (wpIn_skip ?_))
    refine wpIn_seq (wpIn_block ?_)
    refine wpIn_seq (seg mixed tabT hC rfl (by kernel_rfl) rfl (aok mb (by kernel_rfl)) GG.abides H2 ha hg hE (s' := S5 t1 e1 t2 x ns l lv (done.length : Nat) sN) (by
      rw [run5]
      have : andB (leI 0 (done.length : Nat)) (ltI (done.length : Nat) (ofN (lenL PT l))) = true := by rw [hf]; simp [andB, leI]
      rw [this]; rfl) ?_)
    intro a w Fr mu H ha hg
    refine wpIn_seq (seg mixed tabT hC rfl (by kernel_rfl) rfl (aok mb (by kernel_rfl)) GG.abides H ha hg hE (s' := S6 t1 e1 t2 x ns l lv (done.length : Nat) sN ii) (by
      rw [run6, hix, c1, bnd_s, c2]; rfl) ?_)
    intro a w Fr mu H ha hg
    refine wpIn_seq (wpIn_mono (Q := normQ _) (wpIn_region ?_) fun e a w hh => by obtain ⟨rfl, hq⟩ := hh; exact hq)
    obtain ⟨info, hrow, hty⟩ := row7
    refine seven (T := pT) (p := p) tabT seven7 hrow hty zero7 (fn := 169) (nt := 47) (j := 3) (i := ii) (s5 := S6 t1 e1 t2 x ns l lv (done.length : Nat) sN ii) (s6 := S7 t1 e1 t2 x ns l lv (done.length : Nat) sN ii) (Nat.le_refl _) H ha.1 ha.2.2 hg (by have := hm ii; omega) rfl ?_ ?_ ?_ ⟨rfl, rfl⟩ ?_ ?_
    · intro u hu
      simp only [List.mem_cons, List.not_mem_nil, or_false] at hu
      rcases hu with rfl | rfl | rfl | rfl | rfl | rfl <;> rfl
    · rw [← hix]; exact h5 t1 e1 t2 x ns l lv (done.length : Nat) sN ii
    · rw [← hix]; exact h6 t1 e1 t2 x ns l lv (done.length : Nat) sN ii
    · rw [← hix]; rfl
    intro a' w Fr mu es ck H hsz h8 hd hg
    have ha : AA mb a' := ⟨hsz, by rw [hd]; exact ha.2.1, h8⟩
    show Code.wpIn _ _ _ _ _ _ _
    refine seg mixed tabT hC rfl (by kernel_rfl) rfl (aok mb (by kernel_rfl)) GG.abides H ha hg hE (s' := SL t1 e1 t2 x ns l lv (done.length : Nat) ss) (by
      rw [run8, c3]; rfl) ?_
    intro a w Fr mu H ha hg
    show Code.wpIn _ _ _ _ _ _ _
    refine seg mixed tabT hC rfl (by kernel_rfl) rfl (aok mb (by kernel_rfl)) GG.abides H ha hg hE (run9 C t1 e1 t2 x ns l lv (done.length : Nat) ss) ?_
    intro a w Fr mu H ha hg
    have hk : addI .i64 (done.length : Nat) 1 = ((done ++ [p]).length : Nat) := by
      unfold addI
      rw [IntKind.wrap_i64]
      simp only [List.length_append, List.length_cons, List.length_nil]
      omega
    rw [hk] at H
    refine ih (done ++ [p]) (putM PT m ii p) ss (by rw [hl]; simp) hp (fun i => ?_) a w Fr mu es ck H ha hg
    unfold putM
    have := hm i
    split <;> simp <;> omega
theorem fin10 (x : den (BT tapiNode)) (ns : List (den tapiNode)) (m : Int → List (den PT)) (sN : Int) :
    finD pT (funcOf PP 169) (.tcons (.mp PT) (.tcons (.int .u32) .tnil)) [.box (BT tapiNode), .row 58 tapiNode true] 2 (SZ tapiNode 58 tapiNode x ns m sN) = some (mkR (.tcons (.mp PT) (.tcons (.int .u32) .tnil)) (m, (sN, ())) [.box (BT tapiNode), .row 58 tapiNode true] (x, (ns, ()))) := by kernel_rfl
theorem start (x : den (BT tapiNode)) (ns : List (den tapiNode)) (l : List (den PT)) (lv : Int) (z : Unit) : (⟨numD 0 [⟨.ptr 0 0, z⟩, ⟨.list PT, l⟩, ⟨.int .i64, lv⟩], OB tapiNode 58 tapiNode x ns⟩ : St) = S0 tapiNode 58 tapiNode x ns l lv := rfl
theorem two_objs {t u : OTy} {x : denO t} {y : denO u} : ∀ {ots : List OTy} {z : denOs ots}, [⟨t, x⟩, ⟨u, y⟩] = objsOf ots z → ots = [t, u] ∧ HEq z ((x, (y, ())) : denOs [t, u])
  | [], z, h => by cases h
  | [a], z, h => by
    have h : [⟨t, x⟩, ⟨u, y⟩] = [(⟨a, z.1⟩ : AObj)] := h
    simp at h
  | [a, b], z, h => by
    have h : [⟨t, x⟩, ⟨u, y⟩] = [(⟨a, z.1⟩ : AObj), ⟨b, z.2.1⟩] := h
    injection h with h1 h2
    injection h2 with h2 _
    cases h1
    cases h2
    exact ⟨rfl, HEq.rfl⟩
  | a :: b :: c :: l, z, h => by
    have h : [⟨t, x⟩, ⟨u, y⟩] = ((⟨a, z.1⟩ : AObj) :: ⟨b, z.2.1⟩ :: objsOf (c :: l) z.2.2) := h
    injection h with _ h
    injection h with _ h
    cases h
set_option maxHeartbeats 2000000 in
theorem part_ok (C : AbsFn) (hC : Sound PP C) (args : List Dyn) (objs : List AObj) (rt : Ty) (ots : List OTy) (r : denR rt ots) (h : (Prim.part 63 73 111 (.pair .str .unit) 58 tapiNode).run C 169 args objs rt ots = some r) : Abs.Enters PP 169 ∧
    ∀ (w : World) (Fr : Nat → Prop) (mu : Nat → Go.Abs.Loc) (vs : List Value), Pre w Fr mu objs args vs → Calls PP 169 vs.toArray w fun e w' => ∃ v Fr' mu', e = .returned v ∧ Post w Fr mu objs ⟨rt, resT rt ots r⟩ (resO rt ots r) v w' Fr' mu' := by
  refine ⟨⟨Tryz.f169, Tryz.func169, by kernel_rfl, names_ok (by kernel_rfl) _ _ Tryz.func169⟩, ?_⟩
  unfold Prim.run partP at h
  dsimp only at h
  split at h
  case h_2 => cases h
  rename_i z t l lv t1 x e1 t2 ns
  split at h
  case isFalse => cases h
  rename_i hty
  obtain ⟨rfl, rfl, rfl⟩ := hty
  split at h
  case h_2 => cases h
  rename_i l' hl
  have hl := as_some hl
  injection hl with hl1 hl2
  injection hl1 with hl1
  subst hl1
  have hl2 := eq_of_heq hl2
  subst hl2
  obtain ⟨hfit, h⟩ := br_none h
  obtain ⟨q, hq, h⟩ := some_of_bnd h
  split at h
  case h_2 => cases h
  rename_i v y hv hy
  injection h with h
  subst h
  have hv := as_some hv
  cases hv
  obtain ⟨rfl, hy⟩ := two_objs (asObjs_some _ _ _ hy)
  cases hy
  have hfit : l.length ≤ 1073741824 := by unfold fitL at hfit; simpa using hfit
  obtain ⟨mF, sF⟩ := q
  intro w Fr mu vs hpre
  obtain ⟨fn, c, hf, hbody, hfo, hco⟩ := body_of (P := PP) (f := 169) (by kernel_rfl)
  have hnt : fn.ntmps = 47 := by rw [← hfo]; kernel_rfl
  obtain ⟨hsz, htm⟩ := start_tm (fn := fn) hpre (by rw [hnt]; show 3 ≤ 47; decide)
  refine callsIn_wide.1 (callsIn_of_wp_marks (n := 0) hf hbody trivial ?_)
  rw [← hco, skel]
  have hrep0 : Rw (env w Fr mu (OB tapiNode 58 tapiNode x ns)) w Fr mu (S0 tapiNode 58 tapiNode x ns l lv) { tmps := vs.toArray ++ Array.replicate (fn.ntmps - vs.toArray.size) undef, defers := [] } := by
    rw [← start x ns l lv z]
    refine ⟨⟨Grow.refl _ w, fun _ => id, fun _ => .inl, hpre.frL, hpre.so.hh, hpre.so.obj, hpre.so.nm, hpre.so.sep, ?_, fun i o _ _ => hand_start (objs := OB tapiNode 58 tapiNode x ns) i o, Nat.le_refl _, hpre.gl⟩, htm, ⟨by simp, by simp⟩, numD_sorted _ 0⟩
    intro i o hi ho
    obtain ⟨h1, h2⟩ := hpre.so.own i o hi ho
    exact ⟨.inl ⟨i, o, hi, ho, rfl⟩, h1, h2⟩
  have hsz0 : ({ tmps := vs.toArray ++ Array.replicate (fn.ntmps - vs.toArray.size) undef, defers := [] } : Act).tmps.size = 47 := hsz.trans hnt
  have hd0 : ({ tmps := vs.toArray ++ Array.replicate (fn.ntmps - vs.toArray.size) undef, defers := [] } : Act).defers = [] := rfl
  revert hrep0 hsz0 hd0
  generalize ({ tmps := vs.toArray ++ Array.replicate (fn.ntmps - vs.toArray.size) undef, defers := [] } : Act) = a
  intro H hsz hd
  change Code.wpIn (fc none) 0 PP _ _ a w
  unfold allC
  refine wpIn_seq (wpIn_mono (Q := normQ _) (wpIn_region ?_) fun e a w hh => by obtain ⟨rfl, hq⟩ := hh; exact hq)
  rw [show (opsOf (pc [0])).size = 2 by kernel_rfl]
  show wpOpsIn (fc none) 0 PP _ _ [0, 1] a w
  refine moveI (u := 6) (x := .const (.map none)) (.inr (by kernel_rfl)) ?_
  refine moveI (u := 7) (x := .const (.int .u32 0)) (.inr (by kernel_rfl)) ?_
  refine ⟨rfl, ?_⟩
  have H := (H.skip (u := 6) rfl (a.eval (.const (.map none)))).skip (u := 7) rfl ((a.put (some 6) (a.eval (.const (.map none)))).eval (.const (.int .u32 0)))
  have hsz : ((a.put (some 6) (a.eval (.const (.map none)))).put (some 7) ((a.put (some 6) (a.eval (.const (.map none)))).eval (.const (.int .u32 0)))).tmps.size = 47 := by rw [size_put, size_put]; exact hsz
  have hd : ((a.put (some 6) (a.eval (.const (.map none)))).put (some 7) ((a.put (some 6) (a.eval (.const (.map none)))).eval (.const (.int .u32 0)))).defers = [] := hd
  revert H hsz hd
  generalize (a.put (some 6) (a.eval (.const (.map none)))).put (some 7) ((a.put (some 6) (a.eval (.const (.map none)))).eval (.const (.int .u32 0))) = a
  intro H hsz hd
  show Code.wpIn _ _ _ _ _ _ _
  refine wpIn_seq (wpIn_mono (Q := normQ _) (wpIn_region ?_) fun e a w hh => by obtain ⟨rfl, hq⟩ := hh; exact hq)
  rw [show (opsOf (pc [1, 0])).size = 2 by kernel_rfl]
  show wpOpsIn (fc none) 0 PP _ _ [0, 1] a w
  refine mapI (t := 184) (u := 13) (by kernel_rfl) H rfl H.si.grow.size 84 ?_
  intro w H hg _
  refine moveI (u := 8) (x := .tmp 13) (.inr (by kernel_rfl)) ?_
  refine ⟨rfl, ?_⟩
  rw [eval_tmp, getD_put, if_pos ⟨rfl, by omega⟩]
  revert hg H
  generalize World.heap _ = hp0
  generalize hp0.size = mb
  intro H hg
  have ha : AA mb ((a.put (some 13) (.map (some mb))).put (some 8) (.map (some mb))) := ⟨by rw [size_put, size_put]; exact hsz, hd, by rw [getD_put, if_pos ⟨rfl, by rw [size_put]; omega⟩]⟩
  have H := H.skip (u := 8) rfl (.map (some mb))
  revert H ha
  generalize (a.put (some 13) (.map (some mb))).put (some 8) (.map (some mb)) = a
  intro ha H
  show Code.wpIn _ _ _ _ _ _ _
  refine wpIn_seq (seg mixed tabT hC rfl (by kernel_rfl) rfl (aok mb (by kernel_rfl)) GG.abides H ha hg rfl (run2 C tapiNode 58 tapiNode x ns l lv) ?_)
  intro a w Fr mu H ha hg
  show Code.wpIn _ _ _ _ _ _ _
  refine wpIn_seq (wpIn_seq (seg mixed tabT hC rfl (by kernel_rfl) rfl (aok mb (by kernel_rfl)) GG.abides H ha hg rfl (run3 C tapiNode 58 tapiNode x ns l lv) ?_))
  intro a w Fr mu H ha hg
  show Code.wpIn _ _ _ _ _ _ _
  refine wpIn_block (wpIn_loop_rounds (l.length + 1) (loop_ok hC tapiNode 58 tapiNode x ns l lv hfit rfl ?_ l [] _ 0 rfl hq (fun i => Nat.le_refl _) a w Fr mu _ _ H ha hg))
  intro a w Fr mu es ck k H ha hg
  obtain ⟨Fr2, H2, hv⟩ := GG.freeze H rfl ha.2.1 hg
  have H3 := (H2.back (H2.reb.slot (t := 8) (d := ⟨.mp PT, mF⟩) (by rw [ha.1]; decide) (by rw [ha.2.2]; exact hv) trivial)).1
  show Code.wpIn _ _ _ _ _ _ _
  refine wpIn_seq (seg (A := fun a => a.tmps.size = 47 ∧ a.defers = []) (J := fun _ _ _ => True) mixed tabT hC rfl (by kernel_rfl) rfl ⟨fun a h => h.1, fun u _ a v h => ⟨by rw [size_put]; exact h.1, by rw [put_defers]; exact h.2⟩⟩ (fun _ _ _ _ _ _ _ _ _ => trivial) H3 ⟨ha.1, ha.2.1⟩ trivial rfl (run10 C tapiNode 58 tapiNode x ns l lv mF k sF) ?_)
  intro a w Fr mu H ha _
  show Code.wpIn _ _ _ _ _ _ _
  refine wpIn_ret ?_
  show LeavesInM _ _ _ _ _ _ _ _ _
  rw [ha.2]
  obtain ⟨v, Fr2, mu2, g1, g2⟩ := finD_ok tabT (fn := funcOf PP 169) (rt := .tcons (.mp PT) (.tcons (.int .u32) .tnil)) ⟨H.si, H.tm, ha.2, H.so⟩ (fin10 x ns mF sF)
  rw [hfo] at g1
  exact ⟨v, g1, v, Fr2, mu2, rfl, g2⟩
end Go.Proofs.YtjekopgcpikkiaaGreatDoor.AM.Part
set_option linter.unusedVariables false
namespace Go.Proofs.YtjekopgcpikkiaaGreatDoor.Tzw187
open Go.Abs Go.RowKit Go.Lib Go.Proofs
theorem zero (w : World) : Calls Tryz.prog 187 #[.int .u32 0] w fun e w' => e = .returned (.int .i64 32) ∧ w' = w := by
  go_enter Tryz.func187, Tryz.ntmps187
  go_wp2
  go_ret
  exact ⟨rfl, rfl⟩
set_option maxHeartbeats 1000000 in
theorem core (x k idx : Nat) (w : World) (hx0 : ((x : Int) == 0) = false)
    (key : bits BinOp.and IntKind.u32 (x : Int) (-(x : Int) % 4294967296) * 125613361 % 4294967296 / 134217728 = (idx : Int))
    (hi : idx < 32) (hk : k < 32) (hcell : w.cell? ⟨0, idx, none⟩ = some (.int .u8 k)) :
    Calls Tryz.prog 187 #[.int .u32 x] w fun e w' => e = .returned (.int .i64 k) ∧ w' = w := by
  go_enter Tryz.func187, Tryz.ntmps187
  go_wp2_with (simp only [key])
  go_ret
  exact ⟨rfl, rfl⟩
theorem tab {w : World} {Fr : Nat → Prop} (h : Gl w Fr) {j : Nat} (hj : j < 32) : w.cell? ⟨0, j, none⟩ = some (.int .u8 (Lib.deBruijn32tab.getD j 0 : Nat)) := by
  obtain ⟨_, hat⟩ := h (0, Lib.deBruijn32tab.map fun z : Nat => Value.int .u8 (z : Int)) List.mem_cons_self
  have hlen : Lib.deBruijn32tab.length = 32 := by decide
  have := hat j (.int .u8 (Lib.deBruijn32tab.getD j 0 : Nat)) (by
    show (Lib.deBruijn32tab.map fun z : Nat => Value.int .u8 (z : Int))[j]? = _
    rw [List.getElem?_map, List.getElem?_eq_getElem (by omega), List.getD_eq_getElem?_getD, List.getElem?_eq_getElem (by omega)]
    rfl)
  rw [Nat.zero_add] at this
  exact this
theorem tzP_ok (hen : Abs.Enters Tryz.prog 187) (args : List Dyn) (objs : List AObj) (rt : Ty) (ots : List OTy) (r : denR rt ots) (h : tzP 187 args objs rt ots = some r) : Abs.Enters Tryz.prog 187 ∧
  ∀ (w : World) (Fr : Nat → Prop) (mu : Nat → Go.Abs.Loc) (vs : List Value), Pre w Fr mu objs args vs →
    Calls Tryz.prog 187 vs.toArray w fun e w' => ∃ v Fr' mu', e = .returned v ∧ Post w Fr mu objs ⟨rt, resT rt ots r⟩ (resO rt ots r) v w' Fr' mu' := by
  refine ⟨hen, ?_⟩
  intro w Fr mu vals hpre
  unfold tzP at h
  split at h
  case h_2 => cases h
  rename_i n
  split at h
  case h_2 => cases h
  rename_i x y hx hy
  obtain ⟨hg, h⟩ := br_none h
  injection h with h
  subst h
  unfold andB leI ltI at hg
  simp only [Bool.and_eq_true, decide_eq_true_eq] at hg
  have hx := as_some hx
  cases hx
  have hy := asObjs_some _ _ _ hy
  have hots : ots = [] := by
    cases ots with
    | nil => rfl
    | cons t l => cases hy
  subst hots
  have hlen := hpre.len
  match vals, hlen with
  | [a0], _ =>
  have v0 := (hpre.val 0 _ a0 rfl rfl).1
  injection (show [a0] = [.int .u32 n] from v0) with v0
  subst v0
  have hpost : Post w Fr mu [] ⟨.int .i64, resT (.int .i64) [] (mkR (.int .i64) (ctzI n) [] y)⟩ (resO (.int .i64) [] (mkR (.int .i64) (ctzI n) [] y)) (.int .i64 (ctzI n)) w Fr mu := by
    refine ⟨⟨Grow.refl _ w, fun _ => id, fun _ => .inl, hpre.frL, hpre.so.hh, hpre.so.obj, hpre.so.nm, hpre.so.sep, fun i o hi => (by simp [resO] at hi), fun i o _ _ => hand_start (objs := []) i o, Nat.le_refl _, hpre.gl⟩, rfl, trivial⟩
  obtain ⟨k, rfl⟩ : ∃ k : Nat, n = k := ⟨Int.toNat n, (Int.toNat_of_nonneg hg.1).symm⟩
  have hk32 : k < 4294967296 := by omega
  by_cases hx0 : k = 0
  · subst hx0
    exact (zero w).mono fun e w' ⟨he, hw⟩ => ⟨_, Fr, mu, he, by subst hw; exact hpost⟩
  · obtain ⟨hlow, hk⟩ := Lib.lowest_bit 32 k hx0 hk32
    obtain ⟨hi, htab⟩ := Lib.deBruijn32_at _ hk
    have hcell := tab hpre.gl hi
    rw [htab] at hcell
    exact (core k _ _ w (by simp; omega) (tz32_key k _ hk32 hx0 hlow) hi hk hcell).mono fun e w' ⟨he, hw⟩ => ⟨_, Fr, mu, he, by subst hw; exact hpost⟩
end Go.Proofs.YtjekopgcpikkiaaGreatDoor.Tzw187
set_option maxRecDepth 100000
namespace Go.Proofs.YtjekopgcpikkiaaGreatDoor.AM
open Go.Abs
abbrev WT (e : Nat) : Nat := match Abs.look TB e with
  | some i => i.ty.width
  | none => 0
theorem mixed : PP.follows .mixedOrders = true := by kernel_rfl
theorem tabOK : TabOK PP TB := tabIs_ok (by kernel_rfl)
theorem enters114 : Abs.Enters PP 114 := ⟨Tryz.f114, Tryz.func114, by kernel_rfl, names_ok (by kernel_rfl) _ _ Tryz.func114⟩
theorem walk114 : InsWalk PP 114 24 (WT 24) := Ins114.walk Tryz.func114 mixed Tryz.underlying3 Tryz.underlying4 (tabOK 24 _ rfl) Tryz.underlying50 rfl (by decide) (by decide) rfl fun w x y => run_callFunc_extern Tryz.func154 (by kernel_rfl) (by kernel_rfl) (by kernel_rfl) (e := Extern.SlicesOverlaps.overlaps #[50, 50] #[4]) (by kernel_rfl) #[x, y] w
theorem enters161 : Abs.Enters PP 161 := ⟨Tryz.f161, Tryz.func161, by kernel_rfl, names_ok (by kernel_rfl) _ _ Tryz.func161⟩
theorem walk161 : DelWalk PP 161 84 (WT 84) := Del161.walk Tryz.func161 mixed Tryz.underlying3 Tryz.underlying4 (tabOK 84 _ rfl) Tryz.underlying22 rfl (by decide) rfl rfl
theorem enters162 : Abs.Enters PP 162 := ⟨Tryz.f162, Tryz.func162, by kernel_rfl, names_ok (by kernel_rfl) _ _ Tryz.func162⟩
theorem walk162 : DelWalk PP 162 24 (WT 24) := Del162.walk Tryz.func162 mixed Tryz.underlying3 Tryz.underlying4 (tabOK 24 _ rfl) Tryz.underlying50 rfl (by decide) rfl rfl
theorem enters174 : Abs.Enters PP 174 := ⟨Tryz.f174, Tryz.func174, by kernel_rfl, names_ok (by kernel_rfl) _ _ Tryz.func174⟩
theorem walk174 : InsWalk PP 174 84 (WT 84) := Ins174.walk Tryz.func174 mixed Tryz.underlying3 Tryz.underlying4 (tabOK 84 _ rfl) Tryz.underlying22 rfl (by decide) (by decide) rfl fun w x y => run_callFunc_extern Tryz.func183 (by kernel_rfl) (by kernel_rfl) (by kernel_rfl) (e := Extern.SlicesOverlaps.overlaps #[22, 22] #[4]) (by kernel_rfl) #[x, y] w
theorem prims : PrimsOK PP RR := by
  intro f c hc
  unfold RR at hc
  by_cases h114 : f = 114
  · rw [if_pos h114] at hc
    injection hc with hc
    subst hc; subst h114
    exact fun C _ => insP_ok enters114 walk114
  rw [if_neg h114] at hc
  by_cases h174 : f = 174
  · rw [if_pos h174] at hc
    injection hc with hc
    subst hc; subst h174
    exact fun C _ => insP_ok enters174 walk174
  rw [if_neg h174] at hc
  by_cases h161 : f = 161
  · rw [if_pos h161] at hc
    injection hc with hc
    subst hc; subst h161
    exact fun C _ => delP_ok enters161 walk161
  rw [if_neg h161] at hc
  by_cases h162 : f = 162
  · rw [if_pos h162] at hc
    injection hc with hc
    subst hc; subst h162
    exact fun C _ => delP_ok enters162 walk162
  rw [if_neg h162] at hc
  by_cases h169 : f = 169
  · rw [if_pos h169] at hc
    injection hc with hc
    subst hc; subst h169
    exact fun C hC => Part.part_ok C hC
  rw [if_neg h169] at hc
  by_cases h187 : f = 187
  · rw [if_pos h187] at hc
    injection hc with hc
    subst hc; subst h187
    exact fun C _ => Tzw187.tzP_ok ⟨Tryz.f187, Tryz.func187, by kernel_rfl, names_ok (by kernel_rfl) _ _ Tryz.func187⟩
  rw [if_neg h187] at hc
  cases hc
theorem fits : Fits PP TT RR := ⟨mixed, tabOK, names_ok (by kernel_rfl), prims⟩
end Go.Proofs.YtjekopgcpikkiaaGreatDoor.AM
set_option maxRecDepth 100000
set_option linter.unusedVariables false
namespace Go.Proofs.YtjekopgcpikkiaaGreatDoor.AM
open Go.Abs
noncomputable section
def law24_PruneUndoes (a0 : Int) (a1 : den (.list tapiPair)) (a2 : den .str) (a3 : den .str) : Option (den .bool) := CF 10 [⟨(.int .i64), a0⟩, ⟨(.list tapiPair), a1⟩, ⟨.str, a2⟩, ⟨.str, a3⟩] [] .bool []
def law24_PruneUndoes.j0 (x0 : Int) (x1 : den .str) (x2 : den .str) (x3 : den (.list tapiNode)) (x4 : Int) (x5 : Bool) : Option (den .bool) := jnO [1, 1, 1, 1, 0, 1] (BF 10 0 [1, 1, 1, 1, 0, 1]) ⟨[(0, ⟨(.int .i64), x0⟩), (2, ⟨.str, x1⟩), (3, ⟨.str, x2⟩), (9, ⟨(.list tapiNode), x3⟩), (10, ⟨(.int .i64), x4⟩), (38, ⟨.bool, x5⟩)], []⟩ (seqK false [1, 1, 1, 1, 1] (BF 10 0 [1, 1, 1, 1, 1]) (finF 10 .bool [] 0))
def law24_works  : Option (den .bool) := CF 38 [] [] .bool []
def law24_made (a0 : Int) (a1 : den (.list tapiPair)) : Option (den (.tcons (.list tapiPair) (.tcons (.list tapiNode) (.tcons (.int .i64) (.tcons .bool .tnil))))) := CF 37 [⟨(.int .i64), a0⟩, ⟨(.list tapiPair), a1⟩] [] (.tcons (.list tapiPair) (.tcons (.list tapiNode) (.tcons (.int .i64) (.tcons .bool .tnil)))) []
def base_Cut (a0 : den .str) (a1 : Int) : Option (den .str) := CF 12 [⟨.str, a0⟩, ⟨(.int .i64), a1⟩] [] .str []
def ref24_Bound (a0 : den (.list tapiPair)) (a1 : den .str) : Option (den .bool) := CF 41 [⟨(.list tapiPair), a0⟩, ⟨.str, a1⟩] [] .bool []
def graft_Run (a0 : den (.list tapiNode)) (a1 : Int) (a2 : Int) (a3 : den .str) (a4 : den .str) (a5 : den .str) (a6 : Int) : Option (den (.tcons (.list tapiNode) (.tcons (.int .i64) (.tcons (.int .i64) .tnil)))) := CF 14 [⟨(.list tapiNode), a0⟩, ⟨(.int .i64), a1⟩, ⟨(.int .i64), a2⟩, ⟨.str, a3⟩, ⟨.str, a4⟩, ⟨.str, a5⟩, ⟨(.int .i64), a6⟩] [] (.tcons (.list tapiNode) (.tcons (.int .i64) (.tcons (.int .i64) .tnil))) []
def graft_Run.l0 (x0 : den (.list tapiNode)) (x1 : Int) (x2 : denO (.box tgraftGraftO)) (x3 : denO (.row 104 tgraftstep false)) : Option (den (.tcons (.list tapiNode) (.tcons (.int .i64) (.tcons (.int .i64) .tnil)))) := loopW [1, 1, 1, 1, 0, 0, 0] (BF 14 0 [1, 1, 1, 1, 0, 0, 0]) ⟨[(0, ⟨(.list tapiNode), x0⟩), (1, ⟨(.int .i64), x1⟩), (18, ⟨(.ptr 0 0), ()⟩)], [⟨(.box tgraftGraftO), x2⟩, ⟨(.row 104 tgraftstep false), x3⟩]⟩ (blockK 1 (seqK false [1, 1, 1, 1, 1] (BF 14 0 [1, 1, 1, 1, 1]) (finF 14 (.tcons (.list tapiNode) (.tcons (.int .i64) (.tcons (.int .i64) .tnil))) [] 0)))
def prune_Run (a0 : den (.list tapiNode)) (a1 : Int) (a2 : den .str) (a3 : Int) : Option (den (.tcons (.list tapiNode) (.tcons (.int .i64) (.tcons (.int .i64) .tnil)))) := CF 39 [⟨(.list tapiNode), a0⟩, ⟨(.int .i64), a1⟩, ⟨.str, a2⟩, ⟨(.int .i64), a3⟩] [] (.tcons (.list tapiNode) (.tcons (.int .i64) (.tcons (.int .i64) .tnil))) []
def prune_Run.l0 (x0 : den (.list tapiNode)) (x1 : Int) (x2 : denO (.box tprunePruneO)) (x3 : denO (.row 127 tgraftstep false)) : Option (den (.tcons (.list tapiNode) (.tcons (.int .i64) (.tcons (.int .i64) .tnil)))) := loopW [1, 1, 1, 0, 0, 0] (BF 39 0 [1, 1, 1, 0, 0, 0]) ⟨[(0, ⟨(.list tapiNode), x0⟩), (1, ⟨(.int .i64), x1⟩), (11, ⟨(.ptr 0 0), ()⟩)], [⟨(.box tprunePruneO), x2⟩, ⟨(.row 127 tgraftstep false), x3⟩]⟩ (blockK 0 (seqK false [1, 1, 1, 1] (BF 39 0 [1, 1, 1, 1]) (finF 39 (.tcons (.list tapiNode) (.tcons (.int .i64) (.tcons (.int .i64) .tnil))) [] 0)))
def ref17_Same (a0 : den (.list tapiNode)) (a1 : Int) (a2 : den (.list tapiNode)) (a3 : Int) : Option (den .bool) := CF 48 [⟨(.list tapiNode), a0⟩, ⟨(.int .i64), a1⟩, ⟨(.list tapiNode), a2⟩, ⟨(.int .i64), a3⟩] [] .bool []
def node_Leaf (a0 : den .str) (a1 : den .str) : Option (den tapiNode) := CF 30 [⟨.str, a0⟩, ⟨.str, a1⟩] [] tapiNode []
def prune_New (a0 : Int) (a1 : den .str) (a2 : Int) : Option (denR (.ptr 0 0) [(.box tprunePruneO), (.row 127 tgraftstep false)]) := CF 42 [⟨(.int .i64), a0⟩, ⟨.str, a1⟩, ⟨(.int .i64), a2⟩] [] (.ptr 0 0) [(.box tprunePruneO), (.row 127 tgraftstep false)]
def pP_Feed (a0 : den tapiNode) (a1 : denO (.box tprunePruneO)) (a2 : denO (.row 127 tgraftstep true)) : Option (denR .tnil [(.box tprunePruneO), (.row 127 tgraftstep false)]) := CF 46 [⟨(.ptr 0 0), ()⟩, ⟨tapiNode, a0⟩] [⟨(.box tprunePruneO), a1⟩, ⟨(.row 127 tgraftstep true), a2⟩] .tnil [(.box tprunePruneO), (.row 127 tgraftstep false)]
def pP_Feed.j0 (x0 : Int) (x1 : Bool) (x2 : denO (.box tprunePruneO)) (x3 : denO (.row 127 tgraftstep true)) (x4 : denO (.box tapiNode)) : Option (denR .tnil [(.box tprunePruneO), (.row 127 tgraftstep false)]) := jnO [1, 1, 1, 1, 0, 1, 1, 1] (BF 46 2 [1, 1, 1, 1, 0, 1, 1, 1]) ⟨[(0, ⟨(.ptr 0 0), ()⟩), (3, ⟨(.ptr 2 0), ()⟩), (4, ⟨(.int .i64), x0⟩), (56, ⟨.bool, x1⟩)], [⟨(.box tprunePruneO), x2⟩, ⟨(.row 127 tgraftstep true), x3⟩, ⟨(.box tapiNode), x4⟩]⟩ (blockK 0 (finF 46 .tnil [(.box tprunePruneO), (.row 127 tgraftstep false)] 2))
def pP_Answer (a0 : denO (.box tprunePruneO)) (a1 : denO (.row 127 tgraftstep true)) : Option (denR (.tcons .str (.tcons .bool .tnil)) [(.box tprunePruneO), (.row 127 tgraftstep true)]) := CF 44 [⟨(.ptr 0 0), ()⟩] [⟨(.box tprunePruneO), a0⟩, ⟨(.row 127 tgraftstep true), a1⟩] (.tcons .str (.tcons .bool .tnil)) [(.box tprunePruneO), (.row 127 tgraftstep true)]
def pP_Answer.j0 (x0 : Bool) (x1 : denO (.box tprunePruneO)) (x2 : denO (.row 127 tgraftstep true)) : Option (denR (.tcons .str (.tcons .bool .tnil)) [(.box tprunePruneO), (.row 127 tgraftstep true)]) := jnO [1, 0, 1] (BF 44 2 [1, 0, 1]) ⟨[(0, ⟨(.ptr 0 0), ()⟩), (28, ⟨.bool, x0⟩)], [⟨(.box tprunePruneO), x1⟩, ⟨(.row 127 tgraftstep true), x2⟩]⟩ (seqK false [1, 1] (BF 44 2 [1, 1]) (finF 44 (.tcons .str (.tcons .bool .tnil)) [(.box tprunePruneO), (.row 127 tgraftstep true)] 2))
def pP_Plan (a0 : denO (.box tprunePruneO)) (a1 : denO (.row 127 tgraftstep true)) : Option (denR (.tcons (tPl 2 3) (.tcons .bool .tnil)) [(.box tprunePrune), .gone, (.row 58 tapiNode false), (.row 24 (.int .i64) false)]) := CF 45 [⟨(.ptr 0 0), ()⟩] [⟨(.box tprunePruneO), a0⟩, ⟨(.row 127 tgraftstep true), a1⟩] (.tcons (tPl 2 3) (.tcons .bool .tnil)) [(.box tprunePrune), .gone, (.row 58 tapiNode false), (.row 24 (.int .i64) false)]
def pP_Plan.e0 (xs : List (den (.tcons (.int .i64) (.tcons tgraftstep .tnil)))) (x0 : denO (.box tprunePrune)) (x1 : denO (.box (tPl 7 8))) (x2 : denO (.box (tPl 9 10))) (x3 : denO (.box (.int .i64))) (x4 : denO (.box .bool)) (x5 : denO (.row 58 tapiNode false)) (x6 : denO (.row 24 (.int .i64) false)) (x7 : denO (.row 58 tapiNode false)) (x8 : denO (.row 24 (.int .i64) false)) : Option (denR (.tcons (tPl 2 3) (.tcons .bool .tnil)) [(.box tprunePrune), .gone, (.row 58 tapiNode false), (.row 24 (.int .i64) false)]) := rangeD (.tcons (.int .i64) (.tcons tgraftstep .tnil)) [1, 1, 1, 0, 1, 0] 2 [1, 2, 6, 7, 8] [31, 32] (BF 45 2 [1, 1, 1, 0, 1, 0, 0]) (BF 45 2 [1, 1, 1, 0, 1, 0, 1]) xs ⟨[(1, ⟨(.ptr 2 0), ()⟩), (2, ⟨(.ptr 3 0), ()⟩), (6, ⟨(.ptr 4 0), ()⟩), (7, ⟨(.ptr 5 0), ()⟩), (8, ⟨(.ptr 6 0), ()⟩)], [⟨(.box tprunePrune), x0⟩, ⟨.gone, ()⟩, ⟨(.box (.ptr 0 0)), ()⟩, ⟨(.box (tPl 7 8)), x1⟩, ⟨(.box (tPl 9 10)), x2⟩, ⟨(.box (.int .i64)), x3⟩, ⟨(.box .bool), x4⟩, ⟨(.row 58 tapiNode false), x5⟩, ⟨(.row 24 (.int .i64) false), x6⟩, ⟨(.row 58 tapiNode false), x7⟩, ⟨(.row 24 (.int .i64) false), x8⟩]⟩ (blockK 0 (seqK false [1, 1, 1, 1] (BF 45 2 [1, 1, 1, 1]) (finF 45 (.tcons (tPl 2 3) (.tcons .bool .tnil)) [(.box tprunePrune), .gone, (.row 58 tapiNode false), (.row 24 (.int .i64) false)] 2)))
def law07_Few (a0 : den (.list tapiPair)) : Option (den (.list tapiPair)) := CF 49 [⟨(.list tapiPair), a0⟩] [] (.list tapiPair) []
def law07_Few.l0 (x0 : den (.list tapiPair)) (x1 : Int) (x2 : denO (.row 84 tapiPair false)) : Option (den (.list tapiPair)) := loopW [1, 1, 0, 1, 0, 0] (BF 49 0 [1, 1, 0, 1, 0, 0]) ⟨[(0, ⟨(.list tapiPair), x0⟩), (3, ⟨(.own tapiPair 0), ()⟩), (4, ⟨(.int .i64), x1⟩)], [⟨(.row 84 tapiPair false), x2⟩]⟩ (blockK 0 (seqK false [1, 1, 1] (BF 49 0 [1, 1, 1]) (finF 49 (.list tapiPair) [] 0)))
def law07_Few.j1 (x0 : den (.list tapiPair)) (x1 : Int) (x2 : Bool) (x3 : denO (.row 84 tapiPair false)) : Option (den (.list tapiPair)) := jnO [1, 1, 0, 1, 0, 0, 0, 1] (BF 49 0 [1, 1, 0, 1, 0, 0, 0, 1]) ⟨[(0, ⟨(.list tapiPair), x0⟩), (3, ⟨(.own tapiPair 0), ()⟩), (4, ⟨(.int .i64), x1⟩), (13, ⟨.bool, x2⟩)], [⟨(.row 84 tapiPair false), x3⟩]⟩ (seqK false [1, 1, 0, 1, 0, 0, 1] (BF 49 0 [1, 1, 0, 1, 0, 0, 1]) (againK [1, 1, 0, 1, 0, 0] (loopW [1, 1, 0, 1, 0, 0] (BF 49 0 [1, 1, 0, 1, 0, 0])) (blockK 0 (seqK false [1, 1, 1] (BF 49 0 [1, 1, 1]) (finF 49 (.list tapiPair) [] 0)))))
def ref20_Long (a0 : den (.list tapiPair)) : Option (den .bool) := CF 50 [⟨(.list tapiPair), a0⟩] [] .bool []
def ref20_Long.l0 (x0 : den (.list tapiPair)) (x1 : Int) : Option (den .bool) := loopW [1, 1, 0, 1, 0, 0] (BF 50 0 [1, 1, 0, 1, 0, 0]) ⟨[(3, ⟨(.list tapiPair), x0⟩), (4, ⟨(.int .i64), x1⟩)], []⟩ (blockK 0 (seqK false [1, 1, 1] (BF 50 0 [1, 1, 1]) (finF 50 .bool [] 0)))
def ref20_Make (a0 : Int) (a1 : den (.list tapiPair)) : Option (den (.tcons (.list tapiNode) (.tcons (.int .i64) .tnil))) := CF 51 [⟨(.int .i64), a0⟩, ⟨(.list tapiPair), a1⟩] [] (.tcons (.list tapiNode) (.tcons (.int .i64) .tnil)) []
def ref07_Make (a0 : den (.list tapiPair)) : Option (den (.list tapiPair)) := CF 19 [⟨(.list tapiPair), a0⟩] [] (.list tapiPair) []
def ref07_Make.l0 (x0 : den (.list tapiPair)) (x1 : Int) (x2 : denO (.row 84 tapiPair false)) : Option (den (.list tapiPair)) := loopW [1, 1, 0, 1, 0, 0] (BF 19 0 [1, 1, 0, 1, 0, 0]) ⟨[(0, ⟨(.list tapiPair), x0⟩), (3, ⟨(.own tapiPair 0), ()⟩), (4, ⟨(.int .i64), x1⟩)], [⟨(.row 84 tapiPair false), x2⟩]⟩ (blockK 0 (seqK false [1, 1, 1] (BF 19 0 [1, 1, 1]) (finF 19 (.list tapiPair) [] 0)))
def ref07_Make.l1 (x0 : den (.list tapiPair)) (x1 : Int) (x2 : Int) (x3 : denO (.row 84 tapiPair false)) : Option (den (.list tapiPair)) := loopW [1, 1, 0, 1, 0, 0, 1, 0, 0, 1, 1, 0, 0, 0] (BF 19 0 [1, 1, 0, 1, 0, 0, 1, 0, 0, 1, 1, 0, 0, 0]) ⟨[(0, ⟨(.list tapiPair), x0⟩), (3, ⟨(.own tapiPair 0), ()⟩), (4, ⟨(.int .i64), x1⟩), (5, ⟨(.int .i64), x2⟩)], [⟨(.row 84 tapiPair false), x3⟩]⟩ (blockK 2 (seqK false [1, 1, 0, 1, 0, 0, 1, 0, 0, 1, 1, 1] (BF 19 0 [1, 1, 0, 1, 0, 0, 1, 0, 0, 1, 1, 1]) (blockK 1 (seqK false [1, 1, 0, 1, 0, 0, 1, 1] (BF 19 0 [1, 1, 0, 1, 0, 0, 1, 1]) (againK [1, 1, 0, 1, 0, 0] (loopW [1, 1, 0, 1, 0, 0] (BF 19 0 [1, 1, 0, 1, 0, 0])) (blockK 0 (seqK false [1, 1, 1] (BF 19 0 [1, 1, 1]) (finF 19 (.list tapiPair) [] 0))))))))
def ref07_Make.j2 (x0 : den (.list tapiPair)) (x1 : Int) (x2 : Int) (x3 : Bool) (x4 : denO (.row 84 tapiPair false)) : Option (den (.list tapiPair)) := jnO [1, 1, 0, 1, 0, 0, 1, 0, 0, 1, 1, 0, 0, 0, 0, 1] (BF 19 0 [1, 1, 0, 1, 0, 0, 1, 0, 0, 1, 1, 0, 0, 0, 0, 1]) ⟨[(0, ⟨(.list tapiPair), x0⟩), (3, ⟨(.own tapiPair 0), ()⟩), (4, ⟨(.int .i64), x1⟩), (5, ⟨(.int .i64), x2⟩), (33, ⟨.bool, x3⟩)], [⟨(.row 84 tapiPair false), x4⟩]⟩ (seqK false [1, 1, 0, 1, 0, 0, 1, 0, 0, 1, 1, 0, 0, 0, 1] (BF 19 0 [1, 1, 0, 1, 0, 0, 1, 0, 0, 1, 1, 0, 0, 0, 1]) (againK [1, 1, 0, 1, 0, 0, 1, 0, 0, 1, 1, 0, 0, 0] (loopW [1, 1, 0, 1, 0, 0, 1, 0, 0, 1, 1, 0, 0, 0] (BF 19 0 [1, 1, 0, 1, 0, 0, 1, 0, 0, 1, 1, 0, 0, 0])) (blockK 2 (seqK false [1, 1, 0, 1, 0, 0, 1, 0, 0, 1, 1, 1] (BF 19 0 [1, 1, 0, 1, 0, 0, 1, 0, 0, 1, 1, 1]) (blockK 1 (seqK false [1, 1, 0, 1, 0, 0, 1, 1] (BF 19 0 [1, 1, 0, 1, 0, 0, 1, 1]) (againK [1, 1, 0, 1, 0, 0] (loopW [1, 1, 0, 1, 0, 0] (BF 19 0 [1, 1, 0, 1, 0, 0])) (blockK 0 (seqK false [1, 1, 1] (BF 19 0 [1, 1, 1]) (finF 19 (.list tapiPair) [] 0))))))))))
def ref07_Get (a0 : den (.list tapiPair)) (a1 : den .str) : Option (den (.tcons .str (.tcons .bool .tnil))) := CF 27 [⟨(.list tapiPair), a0⟩, ⟨.str, a1⟩] [] (.tcons .str (.tcons .bool .tnil)) []
def ref07_Get.l0 (x0 : den (.list tapiPair)) (x1 : den .str) (x2 : Int) : Option (den (.tcons .str (.tcons .bool .tnil))) := loopW [1, 0, 1, 0, 0] (BF 27 0 [1, 0, 1, 0, 0]) ⟨[(0, ⟨(.list tapiPair), x0⟩), (1, ⟨.str, x1⟩), (6, ⟨(.int .i64), x2⟩)], []⟩ (blockK 0 (seqK false [1, 1] (BF 27 0 [1, 1]) (finF 27 (.tcons .str (.tcons .bool .tnil)) [] 0)))
def node_May (a0 : den tapiNode) : Option (den (.int .i64)) := CF 52 [⟨tapiNode, a0⟩] [] (.int .i64) []
def trie_Is (a0 : den (.list tapiNode)) (a1 : Int) (a2 : Int) : Option (den .bool) := CF 53 [⟨(.list tapiNode), a0⟩, ⟨(.int .i64), a1⟩, ⟨(.int .i64), a2⟩] [] .bool []
def graft_New (a0 : Int) (a1 : Int) (a2 : den .str) (a3 : den .str) (a4 : den .str) (a5 : Int) : Option (denR (.ptr 0 0) [(.box tgraftGraftO), (.row 104 tgraftstep false)]) := CF 23 [⟨(.int .i64), a0⟩, ⟨(.int .i64), a1⟩, ⟨.str, a2⟩, ⟨.str, a3⟩, ⟨.str, a4⟩, ⟨(.int .i64), a5⟩] [] (.ptr 0 0) [(.box tgraftGraftO), (.row 104 tgraftstep false)]
def gG_Want (a0 : denO (.box tgraftGraftO)) (a1 : denO (.row 104 tgraftstep true)) : Option (denR (.int .i64) [(.box tgraftGraftO), (.row 104 tgraftstep true)]) := CF 32 [⟨(.ptr 0 0), ()⟩] [⟨(.box tgraftGraftO), a0⟩, ⟨(.row 104 tgraftstep true), a1⟩] (.int .i64) [(.box tgraftGraftO), (.row 104 tgraftstep true)]
def gG_Feed (a0 : den tapiNode) (a1 : denO (.box tgraftGraftO)) (a2 : denO (.row 104 tgraftstep true)) : Option (denR .tnil [(.box tgraftGraftO), (.row 104 tgraftstep false)]) := CF 29 [⟨(.ptr 0 0), ()⟩, ⟨tapiNode, a0⟩] [⟨(.box tgraftGraftO), a1⟩, ⟨(.row 104 tgraftstep true), a2⟩] .tnil [(.box tgraftGraftO), (.row 104 tgraftstep false)]
def gG_Feed.j0 (x0 : Int) (x1 : Bool) (x2 : denO (.box tgraftGraftO)) (x3 : denO (.row 104 tgraftstep true)) (x4 : denO (.box tapiNode)) : Option (denR .tnil [(.box tgraftGraftO), (.row 104 tgraftstep false)]) := jnO [1, 1, 1, 1, 0, 1] (BF 29 2 [1, 1, 1, 1, 0, 1]) ⟨[(0, ⟨(.ptr 0 0), ()⟩), (3, ⟨(.ptr 2 0), ()⟩), (4, ⟨(.int .i64), x0⟩), (28, ⟨.bool, x1⟩)], [⟨(.box tgraftGraftO), x2⟩, ⟨(.row 104 tgraftstep true), x3⟩, ⟨(.box tapiNode), x4⟩]⟩ (seqK false [1, 1, 1, 1, 1] (BF 29 2 [1, 1, 1, 1, 1]) (finF 29 .tnil [(.box tgraftGraftO), (.row 104 tgraftstep false)] 2))
def gG_Plan (a0 : denO (.box tgraftGraftO)) (a1 : denO (.row 104 tgraftstep true)) : Option (denR (.tcons (tPl 2 3) (.tcons .bool .tnil)) [(.box tgraftGraft), .gone, (.row 58 tapiNode false), (.row 24 (.int .i64) false)]) := CF 28 [⟨(.ptr 0 0), ()⟩] [⟨(.box tgraftGraftO), a0⟩, ⟨(.row 104 tgraftstep true), a1⟩] (.tcons (tPl 2 3) (.tcons .bool .tnil)) [(.box tgraftGraft), .gone, (.row 58 tapiNode false), (.row 24 (.int .i64) false)]
def gG_Plan.j0 (x0 : denO (.box tgraftGraft)) (x1 : denO (.box (tPl 4 5))) (x2 : denO (.box (.int .i64))) (x3 : denO (.row 58 tapiNode false)) (x4 : denO (.row 24 (.int .i64) false)) : Option (denR (.tcons (tPl 2 3) (.tcons .bool .tnil)) [(.box tgraftGraft), .gone, (.row 58 tapiNode false), (.row 24 (.int .i64) false)]) := jnO [1, 1, 1, 1, 1] (BF 28 2 [1, 1, 1, 1, 1]) ⟨[(0, ⟨(.ptr 0 0), ()⟩), (2, ⟨(.ptr 2 0), ()⟩), (6, ⟨(.ptr 3 0), ()⟩)], [⟨(.box tgraftGraft), x0⟩, ⟨.gone, ()⟩, ⟨(.box (tPl 4 5)), x1⟩, ⟨(.box (.int .i64)), x2⟩, ⟨(.row 58 tapiNode false), x3⟩, ⟨(.row 24 (.int .i64) false), x4⟩]⟩ (finF 28 (.tcons (tPl 2 3) (.tcons .bool .tnil)) [(.box tgraftGraft), .gone, (.row 58 tapiNode false), (.row 24 (.int .i64) false)] 2)
def gG_Plan.e1 (xs : List (den (.tcons (.int .i64) (.tcons tgraftstep .tnil)))) (x0 : denO (.box tgraftGraft)) (x1 : denO (.box (tPl 6 7))) (x2 : denO (.box (.int .i64))) (x3 : denO (.box (tPl 8 9))) (x4 : denO (.box (.int .i64))) (x5 : denO (.row 58 tapiNode false)) (x6 : denO (.row 24 (.int .i64) false)) (x7 : denO (.row 58 tapiNode false)) (x8 : denO (.row 24 (.int .i64) false)) : Option (denR (.tcons (tPl 2 3) (.tcons .bool .tnil)) [(.box tgraftGraft), .gone, (.row 58 tapiNode false), (.row 24 (.int .i64) false)]) := rangeD (.tcons (.int .i64) (.tcons tgraftstep .tnil)) [1, 1, 1, 1, 1, 1, 0, 1, 0] 2 [2, 6, 7, 8] [32, 33] (BF 28 2 [1, 1, 1, 1, 1, 1, 0, 1, 0, 0]) (BF 28 2 [1, 1, 1, 1, 1, 1, 0, 1, 0, 1]) xs ⟨[(2, ⟨(.ptr 2 0), ()⟩), (6, ⟨(.ptr 3 0), ()⟩), (7, ⟨(.ptr 4 0), ()⟩), (8, ⟨(.ptr 5 0), ()⟩)], [⟨(.box tgraftGraft), x0⟩, ⟨.gone, ()⟩, ⟨(.box (tPl 6 7)), x1⟩, ⟨(.box (.int .i64)), x2⟩, ⟨(.box (tPl 8 9)), x3⟩, ⟨(.box (.int .i64)), x4⟩, ⟨(.row 58 tapiNode false), x5⟩, ⟨(.row 24 (.int .i64) false), x6⟩, ⟨(.row 58 tapiNode false), x7⟩, ⟨(.row 24 (.int .i64) false), x8⟩]⟩ (blockK 0 (seqK false [1, 1, 1, 1, 1, 1, 1] (BF 28 2 [1, 1, 1, 1, 1, 1, 1]) (finF 28 (.tcons (tPl 2 3) (.tcons .bool .tnil)) [(.box tgraftGraft), .gone, (.row 58 tapiNode false), (.row 24 (.int .i64) false)] 2)))
def plan_Do (a0 : den (.list tapiNode)) (a1 : den tplanPlan) : Option (den (.tcons (.list tapiNode) (.tcons (.int .i64) (.tcons (.int .i64) .tnil)))) := CF 54 [⟨(.list tapiNode), a0⟩, ⟨tplanPlan, a1⟩] [] (.tcons (.list tapiNode) (.tcons (.int .i64) (.tcons (.int .i64) .tnil))) []
def plan_Do.l0 (x0 : den (.list tapiNode)) (x1 : Int) (x2 : Int) (x3 : denO (.box tplanPlan)) (x4 : denO (.row 58 tapiNode false)) : Option (den (.tcons (.list tapiNode) (.tcons (.int .i64) (.tcons (.int .i64) .tnil)))) := loopW [1, 1, 1, 0, 1, 0, 0] (BF 54 0 [1, 1, 1, 0, 1, 0, 0]) ⟨[(3, ⟨(.ptr 0 0), ()⟩), (7, ⟨(.own tapiNode 1), ()⟩), (31, ⟨(.list tapiNode), x0⟩), (32, ⟨(.int .i64), x1⟩), (33, ⟨(.int .i64), x2⟩)], [⟨(.box tplanPlan), x3⟩, ⟨(.row 58 tapiNode false), x4⟩]⟩ (blockK 0 (seqK false [1, 1, 1, 1] (BF 54 0 [1, 1, 1, 1]) (finF 54 (.tcons (.list tapiNode) (.tcons (.int .i64) (.tcons (.int .i64) .tnil))) [] 0)))
def plan_Do.l1 (x0 : den (.list tapiNode)) (x1 : Int) (x2 : Int) (x3 : denO (.box tplanPlan)) (x4 : denO (.row 58 tapiNode false)) (x5 : denO (.row 24 (.int .i64) false)) : Option (den (.tcons (.list tapiNode) (.tcons (.int .i64) (.tcons (.int .i64) .tnil)))) := loopW [1, 1, 1, 1, 1, 0, 1, 0, 0] (BF 54 0 [1, 1, 1, 1, 1, 0, 1, 0, 0]) ⟨[(3, ⟨(.ptr 0 0), ()⟩), (7, ⟨(.own tapiNode 1), ()⟩), (10, ⟨(.own (.int .i64) 2), ()⟩), (44, ⟨(.list tapiNode), x0⟩), (45, ⟨(.int .i64), x1⟩), (46, ⟨(.int .i64), x2⟩)], [⟨(.box tplanPlan), x3⟩, ⟨(.row 58 tapiNode false), x4⟩, ⟨(.row 24 (.int .i64) false), x5⟩]⟩ (blockK 2 (seqK false [1, 1, 1, 1, 1, 1] (BF 54 0 [1, 1, 1, 1, 1, 1]) (finF 54 (.tcons (.list tapiNode) (.tcons (.int .i64) (.tcons (.int .i64) .tnil))) [] 0)))
def pP_Want (a0 : denO (.box tprunePruneO)) (a1 : denO (.row 127 tgraftstep true)) : Option (denR (.int .i64) [(.box tprunePruneO), (.row 127 tgraftstep true)]) := CF 47 [⟨(.ptr 0 0), ()⟩] [⟨(.box tprunePruneO), a0⟩, ⟨(.row 127 tgraftstep true), a1⟩] (.int .i64) [(.box tprunePruneO), (.row 127 tgraftstep true)]
def ref17_Fits (a0 : den (.list tapiNode)) (a1 : Int) : Option (den .bool) := CF 55 [⟨(.list tapiNode), a0⟩, ⟨(.int .i64), a1⟩] [] .bool []
def ref17_shape (a0 : den (.list tapiNode)) (a1 : Int) (a2 : den (.list tapiNode)) (a3 : Int) : Option (den .bool) := CF 87 [⟨(.list tapiNode), a0⟩, ⟨(.int .i64), a1⟩, ⟨(.list tapiNode), a2⟩, ⟨(.int .i64), a3⟩] [] .bool []
def ref17_shape.j0 (x0 : den (.list tapiNode)) (x1 : Int) (x2 : den (.list tapiNode)) (x3 : Int) (x4 : Bool) : Option (den .bool) := jnO [1, 0, 1] (BF 87 0 [1, 0, 1]) ⟨[(0, ⟨(.list tapiNode), x0⟩), (1, ⟨(.int .i64), x1⟩), (2, ⟨(.list tapiNode), x2⟩), (3, ⟨(.int .i64), x3⟩), (17, ⟨.bool, x4⟩)], []⟩ (seqK false [1, 1] (BF 87 0 [1, 1]) (finF 87 .bool [] 0))
def ref17_shape.l1 (x0 : den (.list tapiNode)) (x1 : den (.list tapiNode)) (x2 : Int) (x3 : denO (.box tapiNode)) (x4 : denO (.box tapiNode)) : Option (den .bool) := loopW [1, 1, 1, 1, 0, 1, 0, 0] (BF 87 0 [1, 1, 1, 1, 0, 1, 0, 0]) ⟨[(0, ⟨(.list tapiNode), x0⟩), (2, ⟨(.list tapiNode), x1⟩), (9, ⟨(.ptr 0 0), ()⟩), (10, ⟨(.ptr 1 0), ()⟩), (11, ⟨(.int .i64), x2⟩)], [⟨(.box tapiNode), x3⟩, ⟨(.box tapiNode), x4⟩]⟩ (blockK 0 (seqK false [1, 1, 1, 1, 1] (BF 87 0 [1, 1, 1, 1, 1]) (finF 87 .bool [] 0)))
def hash_Of (a0 : den .str) (a1 : Int) : Option (den (.int .u64)) := CF 63 [⟨.str, a0⟩, ⟨(.int .i64), a1⟩] [] (.int .u64) []
def hash_Of.l0 (x0 : den .str) (x1 : Int) (x2 : den (.int .u64)) (x3 : Int) (x4 : Int) : Option (den (.int .u64)) := loopW [1, 1, 0, 1, 0, 0] (BF 63 0 [1, 1, 0, 1, 0, 0]) ⟨[(0, ⟨.str, x0⟩), (1, ⟨(.int .i64), x1⟩), (5, ⟨(.int .u64), x2⟩), (8, ⟨(.int .i64), x3⟩), (9, ⟨(.int .i64), x4⟩)], []⟩ (blockK 0 (seqK false [1, 1, 1] (BF 63 0 [1, 1, 1]) (finF 63 (.int .u64) [] 0)))
def hash_Levels (a0 : Int) : Option (den (.int .i64)) := CF 72 [⟨(.int .i64), a0⟩] [] (.int .i64) []
def pP_lone (a0 : denO (.box tprunePruneO)) (a1 : denO (.row 127 tgraftstep true)) : Option (denR (.int .i64) [(.box tprunePruneO), (.row 127 tgraftstep true)]) := CF 86 [⟨(.ptr 0 0), ()⟩] [⟨(.box tprunePruneO), a0⟩, ⟨(.row 127 tgraftstep true), a1⟩] (.int .i64) [(.box tprunePruneO), (.row 127 tgraftstep true)]
def pP_lone.j0 (x0 : Bool) (x1 : denO (.box tprunePruneO)) (x2 : denO (.row 127 tgraftstep true)) : Option (denR (.int .i64) [(.box tprunePruneO), (.row 127 tgraftstep true)]) := jnO [1, 0, 1] (BF 86 2 [1, 0, 1]) ⟨[(0, ⟨(.ptr 0 0), ()⟩), (31, ⟨.bool, x0⟩)], [⟨(.box tprunePruneO), x1⟩, ⟨(.row 127 tgraftstep true), x2⟩]⟩ (seqK false [1, 1] (BF 86 2 [1, 1]) (finF 86 (.int .i64) [(.box tprunePruneO), (.row 127 tgraftstep true)] 2))
def pP_lone.j1 (x0 : denO (.box tprunePruneO)) (x1 : denO (.row 127 tgraftstep true)) (x2 : denO (.box tgraftstep)) : Option (denR (.int .i64) [(.box tprunePruneO), (.row 127 tgraftstep true)]) := jnO [1, 1, 1] (BF 86 2 [1, 1, 1]) ⟨[(3, ⟨(.ptr 2 0), ()⟩)], [⟨(.box tprunePruneO), x0⟩, ⟨(.row 127 tgraftstep true), x1⟩, ⟨(.box tgraftstep), x2⟩]⟩ (finF 86 (.int .i64) [(.box tprunePruneO), (.row 127 tgraftstep true)] 2)
def hash_Chunk (a0 : den (.int .u64)) (a1 : Int) (a2 : Int) : Option (den (.int .i64)) := CF 73 [⟨(.int .u64), a0⟩, ⟨(.int .i64), a1⟩, ⟨(.int .i64), a2⟩] [] (.int .i64) []
def branch_Child (a0 : den tapiNode) (a1 : Int) : Option (den (.int .i64)) := CF 74 [⟨tapiNode, a0⟩, ⟨(.int .i64), a1⟩] [] (.int .i64) []
def node_Binds (a0 : den tapiNode) : Option (denR (.own tapiPair 0) [(.row 84 tapiPair false)]) := CF 82 [⟨tapiNode, a0⟩] [] (.own tapiPair 0) [(.row 84 tapiPair false)]
def pair_Get (a0 : den (.list tapiPair)) (a1 : den .str) : Option (den (.tcons .str (.tcons .bool .tnil))) := CF 81 [⟨(.list tapiPair), a0⟩, ⟨.str, a1⟩] [] (.tcons .str (.tcons .bool .tnil)) []
def pP_Answer_o (a0 : denO (.box tprunePrune)) : Option (denR (.tcons .str (.tcons .bool .tnil)) [(.box tprunePrune)]) := CF 44 [⟨(.ptr 0 0), ()⟩] [⟨(.box tprunePrune), a0⟩] (.tcons .str (.tcons .bool .tnil)) [(.box tprunePrune)]
def pP_Answer_o.j0 (x0 : Bool) (x1 : denO (.box tprunePrune)) : Option (denR (.tcons .str (.tcons .bool .tnil)) [(.box tprunePrune)]) := jnO [1, 0, 1] (BF 44 1 [1, 0, 1]) ⟨[(0, ⟨(.ptr 0 0), ()⟩), (28, ⟨.bool, x0⟩)], [⟨(.box tprunePrune), x1⟩]⟩ (seqK false [1, 1] (BF 44 1 [1, 1]) (finF 44 (.tcons .str (.tcons .bool .tnil)) [(.box tprunePrune)] 1))
def pP_bottom (a0 : den (.pair (.nil 58) (.pair (.int .i64) (.pair (.nil 24) .unit)))) (a1 : denO (.box tprunePrune)) : Option (denR (.tcons (tPl 1 2) (.tcons (.int .i64) (.tcons .bool .tnil))) [(.box tprunePrune), (.row 58 tapiNode false), (.row 24 (.int .i64) false)]) := CF 83 [⟨(.ptr 0 0), ()⟩, ⟨(.pair (.nil 58) (.pair (.int .i64) (.pair (.nil 24) .unit))), a0⟩] [⟨(.box tprunePrune), a1⟩] (.tcons (tPl 1 2) (.tcons (.int .i64) (.tcons .bool .tnil))) [(.box tprunePrune), (.row 58 tapiNode false), (.row 24 (.int .i64) false)]
def slices_Backwardps (a0 : den (.list tgraftstep)) : Option (denR (.fn 121 (.tcons (.ptr 0 0) .tnil)) [(.box (.list tgraftstep))]) := CF 84 [⟨(.list tgraftstep), a0⟩] [] (.fn 121 (.tcons (.ptr 0 0) .tnil)) [(.box (.list tgraftstep))]
def slices_Backwardps_1 (a0 : den (.eptr (.list tgraftstep) 0)) : Option (den (.list (.tcons (.int .i64) (.tcons tgraftstep .tnil)))) := CF 121 [⟨(.own .dead 0), ()⟩, ⟨(.eptr (.list tgraftstep) 0), a0⟩] [⟨.held, ()⟩] (.list (.tcons (.int .i64) (.tcons tgraftstep .tnil))) []
def slices_Backwardps_1.l0 (x0 : den (.eptr (.list tgraftstep) 0)) (x1 : Int) : Option (den (.list (.tcons (.int .i64) (.tcons tgraftstep .tnil)))) := loopW [1, 0, 0] (BF 121 1 [1, 0, 0]) ⟨[(0, ⟨(.own .dead 0), ()⟩), (1, ⟨(.eptr (.list tgraftstep) 0), x0⟩), (3, ⟨(.int .i64), x1⟩)], [⟨.held, ()⟩]⟩ (blockK 0 (iterK (List (den (.tcons (.int .i64) (.tcons tgraftstep .tnil)))) []))
def pP_up (a0 : den (tPl 1 2)) (a1 : den tgraftstep) (a2 : Int) (a3 : Bool) (a4 : denO (.box tprunePrune)) (a5 : denO (.row 58 tapiNode true)) (a6 : denO (.row 24 (.int .i64) true)) : Option (denR (.tcons (tPl 1 2) (.tcons (.int .i64) (.tcons .bool .tnil))) [(.box tprunePrune), (.row 58 tapiNode false), (.row 24 (.int .i64) false)]) := CF 85 [⟨(.ptr 0 0), ()⟩, ⟨(tPl 1 2), a0⟩, ⟨tgraftstep, a1⟩, ⟨(.int .i64), a2⟩, ⟨.bool, a3⟩] [⟨(.box tprunePrune), a4⟩, ⟨(.row 58 tapiNode true), a5⟩, ⟨(.row 24 (.int .i64) true), a6⟩] (.tcons (tPl 1 2) (.tcons (.int .i64) (.tcons .bool .tnil))) [(.box tprunePrune), (.row 58 tapiNode false), (.row 24 (.int .i64) false)]
def pP_up.j0 (x0 : Int) (x1 : Bool) (x2 : denO (.box tprunePrune)) (x3 : denO (.row 58 tapiNode true)) (x4 : denO (.row 24 (.int .i64) false)) (x5 : denO (.box (tPl 1 2))) (x6 : denO (.box tgraftstep)) (x7 : denO (.box (tPl 7 8))) (x8 : denO (.box tapiNode)) (x9 : denO (.row 58 tapiNode false)) (x10 : denO (.row 24 (.int .i64) false)) : Option (denR (.tcons (tPl 1 2) (.tcons (.int .i64) (.tcons .bool .tnil))) [(.box tprunePrune), (.row 58 tapiNode false), (.row 24 (.int .i64) false)]) := jnO [1, 1, 1, 0, 0, 1] (BF 85 3 [1, 1, 1, 0, 0, 1]) ⟨[(0, ⟨(.ptr 0 0), ()⟩), (3, ⟨(.int .i64), x0⟩), (6, ⟨(.ptr 3 0), ()⟩), (7, ⟨(.ptr 4 0), ()⟩), (10, ⟨(.ptr 5 0), ()⟩), (13, ⟨(.ptr 6 0), ()⟩), (26, ⟨.bool, x1⟩)], [⟨(.box tprunePrune), x2⟩, ⟨(.row 58 tapiNode true), x3⟩, ⟨(.row 24 (.int .i64) false), x4⟩, ⟨(.box (tPl 1 2)), x5⟩, ⟨(.box tgraftstep), x6⟩, ⟨(.box (tPl 7 8)), x7⟩, ⟨(.box tapiNode), x8⟩, ⟨(.row 58 tapiNode false), x9⟩, ⟨(.row 24 (.int .i64) false), x10⟩]⟩ (blockK 0 (seqK false [1, 1, 1, 1] (BF 85 3 [1, 1, 1, 1]) (finF 85 (.tcons (tPl 1 2) (.tcons (.int .i64) (.tcons .bool .tnil))) [(.box tprunePrune), (.row 58 tapiNode false), (.row 24 (.int .i64) false)] 3)))
def pP_up.j1 (x0 : Int) (x1 : Bool) (x2 : denO (.box tprunePrune)) (x3 : denO (.row 58 tapiNode true)) (x4 : denO (.row 24 (.int .i64) false)) (x5 : denO (.box (tPl 1 2))) (x6 : denO (.box tgraftstep)) (x7 : denO (.box (tPl 7 8))) (x8 : denO (.box tapiNode)) (x9 : denO (.row 58 tapiNode false)) (x10 : denO (.row 24 (.int .i64) false)) : Option (denR (.tcons (tPl 1 2) (.tcons (.int .i64) (.tcons .bool .tnil))) [(.box tprunePrune), (.row 58 tapiNode false), (.row 24 (.int .i64) false)]) := jnO [1, 1, 1, 0, 0, 1, 1, 1] (BF 85 3 [1, 1, 1, 0, 0, 1, 1, 1]) ⟨[(0, ⟨(.ptr 0 0), ()⟩), (3, ⟨(.int .i64), x0⟩), (6, ⟨(.ptr 3 0), ()⟩), (7, ⟨(.ptr 4 0), ()⟩), (10, ⟨(.ptr 5 0), ()⟩), (13, ⟨(.ptr 6 0), ()⟩), (36, ⟨.bool, x1⟩)], [⟨(.box tprunePrune), x2⟩, ⟨(.row 58 tapiNode true), x3⟩, ⟨(.row 24 (.int .i64) false), x4⟩, ⟨(.box (tPl 1 2)), x5⟩, ⟨(.box tgraftstep), x6⟩, ⟨(.box (tPl 7 8)), x7⟩, ⟨(.box tapiNode), x8⟩, ⟨(.row 58 tapiNode false), x9⟩, ⟨(.row 24 (.int .i64) false), x10⟩]⟩ (blockK 0 (seqK false [1, 1, 1, 1] (BF 85 3 [1, 1, 1, 1]) (finF 85 (.tcons (tPl 1 2) (.tcons (.int .i64) (.tcons .bool .tnil))) [(.box tprunePrune), (.row 58 tapiNode false), (.row 24 (.int .i64) false)] 3)))
def ref20_make1 (a0 : Int) (a1 : den (.list tapiPair)) (a2 : Int) (a3 : denO (.row 58 tapiNode true)) : Option (denR (.tcons (.own tapiNode 0) (.tcons (.int .i64) .tnil)) [(.row 58 tapiNode false)]) := CF 88 [⟨(.own tapiNode 0), ()⟩, ⟨(.int .i64), a0⟩, ⟨(.list tapiPair), a1⟩, ⟨(.int .i64), a2⟩] [⟨(.row 58 tapiNode true), a3⟩] (.tcons (.own tapiNode 0) (.tcons (.int .i64) .tnil)) [(.row 58 tapiNode false)]
def ref20_make1.l0 (x0 : Int) (x1 : den (.list tapiPair)) (x2 : Int) (x3 : den (.int .u32)) (x4 : Int) (x5 : denO (.row 58 tapiNode true)) (x6 : denO (.box (.pair (.int .i64) (.pair .str (.pair .str (.pair (.int .u32) (.pair (.nil 24) (.pair (.int .i64) (.pair (.nil 84) (.pair (.int .i64) (.pair (.int .i64) .unit))))))))))) : Option (denR (.tcons (.own tapiNode 0) (.tcons (.int .i64) .tnil)) [(.row 58 tapiNode false)]) := loopW [1, 1, 1, 0, 1, 1, 1, 1, 1, 1, 1, 0, 0] (BF 88 1 [1, 1, 1, 0, 1, 1, 1, 1, 1, 1, 1, 0, 0]) ⟨[(0, ⟨(.own tapiNode 0), ()⟩), (1, ⟨(.int .i64), x0⟩), (2, ⟨(.list tapiPair), x1⟩), (3, ⟨(.int .i64), x2⟩), (10, ⟨(.ptr 1 0), ()⟩), (11, ⟨(.int .u32), x3⟩), (12, ⟨(.int .i64), x4⟩)], [⟨(.row 58 tapiNode true), x5⟩, ⟨(.box (.pair (.int .i64) (.pair .str (.pair .str (.pair (.int .u32) (.pair (.nil 24) (.pair (.int .i64) (.pair (.nil 84) (.pair (.int .i64) (.pair (.int .i64) .unit)))))))))), x6⟩]⟩ (blockK 0 (seqK false [1, 1, 1, 1] (BF 88 1 [1, 1, 1, 1]) (finF 88 (.tcons (.own tapiNode 0) (.tcons (.int .i64) .tnil)) [(.row 58 tapiNode false)] 1)))
def ref20_make1.l1 (x0 : Int) (x1 : den (.list tapiPair)) (x2 : Int) (x3 : den (.int .u32)) (x4 : Int) (x5 : Int) (x6 : denO (.row 58 tapiNode true)) (x7 : denO (.box (.pair (.int .i64) (.pair .str (.pair .str (.pair (.int .u32) (.pair (.nil 24) (.pair (.int .i64) (.pair (.nil 84) (.pair (.int .i64) (.pair (.int .i64) .unit))))))))))) (x8 : denO (.row 84 tapiPair false)) : Option (denR (.tcons (.own tapiNode 0) (.tcons (.int .i64) .tnil)) [(.row 58 tapiNode false)]) := loopW [1, 1, 1, 0, 1, 1, 1, 1, 1, 1, 1, 0, 0, 1, 0, 0, 1, 0, 1, 0, 0] (BF 88 1 [1, 1, 1, 0, 1, 1, 1, 1, 1, 1, 1, 0, 0, 1, 0, 0, 1, 0, 1, 0, 0]) ⟨[(0, ⟨(.own tapiNode 0), ()⟩), (1, ⟨(.int .i64), x0⟩), (2, ⟨(.list tapiPair), x1⟩), (3, ⟨(.int .i64), x2⟩), (10, ⟨(.ptr 1 0), ()⟩), (11, ⟨(.int .u32), x3⟩), (12, ⟨(.int .i64), x4⟩), (13, ⟨(.own tapiPair 2), ()⟩), (14, ⟨(.int .i64), x5⟩)], [⟨(.row 58 tapiNode true), x6⟩, ⟨(.box (.pair (.int .i64) (.pair .str (.pair .str (.pair (.int .u32) (.pair (.nil 24) (.pair (.int .i64) (.pair (.nil 84) (.pair (.int .i64) (.pair (.int .i64) .unit)))))))))), x7⟩, ⟨(.row 84 tapiPair false), x8⟩]⟩ (blockK 2 (seqK false [1, 1, 1, 0, 1, 1, 1, 1, 1, 1, 1, 0, 0, 1, 0, 0, 1, 1] (BF 88 1 [1, 1, 1, 0, 1, 1, 1, 1, 1, 1, 1, 0, 0, 1, 0, 0, 1, 1]) (blockK 1 (seqK false [1, 1, 1, 0, 1, 1, 1, 1, 1, 1, 1, 0, 0, 1, 1] (BF 88 1 [1, 1, 1, 0, 1, 1, 1, 1, 1, 1, 1, 0, 0, 1, 1]) (againK [1, 1, 1, 0, 1, 1, 1, 1, 1, 1, 1, 0, 0] (loopW [1, 1, 1, 0, 1, 1, 1, 1, 1, 1, 1, 0, 0] (BF 88 1 [1, 1, 1, 0, 1, 1, 1, 1, 1, 1, 1, 0, 0])) (blockK 0 (seqK false [1, 1, 1, 1] (BF 88 1 [1, 1, 1, 1]) (finF 88 (.tcons (.own tapiNode 0) (.tcons (.int .i64) .tnil)) [(.row 58 tapiNode false)] 1))))))))
def ref20_make1.l2 (x0 : Int) (x1 : den (.list tapiPair)) (x2 : Int) (x3 : den (.int .u32)) (x4 : Int) (x5 : denO (.row 58 tapiNode false)) (x6 : denO (.box (.pair (.int .i64) (.pair .str (.pair .str (.pair (.int .u32) (.pair (.own (.int .i64) 2) (.pair (.int .i64) (.pair (.nil 84) (.pair (.int .i64) (.pair (.int .i64) .unit))))))))))) (x7 : denO (.row 24 (.int .i64) false)) : Option (denR (.tcons (.own tapiNode 0) (.tcons (.int .i64) .tnil)) [(.row 58 tapiNode false)]) := loopW [1, 1, 1, 0, 1, 1, 1, 1, 1, 1, 1, 0, 0] (BF 88 1 [1, 1, 1, 0, 1, 1, 1, 1, 1, 1, 1, 0, 0]) ⟨[(0, ⟨(.own tapiNode 0), ()⟩), (1, ⟨(.int .i64), x0⟩), (2, ⟨(.list tapiPair), x1⟩), (3, ⟨(.int .i64), x2⟩), (10, ⟨(.ptr 1 0), ()⟩), (11, ⟨(.int .u32), x3⟩), (12, ⟨(.int .i64), x4⟩)], [⟨(.row 58 tapiNode false), x5⟩, ⟨(.box (.pair (.int .i64) (.pair .str (.pair .str (.pair (.int .u32) (.pair (.own (.int .i64) 2) (.pair (.int .i64) (.pair (.nil 84) (.pair (.int .i64) (.pair (.int .i64) .unit)))))))))), x6⟩, ⟨(.row 24 (.int .i64) false), x7⟩]⟩ (blockK 0 (seqK false [1, 1, 1, 1] (BF 88 1 [1, 1, 1, 1]) (finF 88 (.tcons (.own tapiNode 0) (.tcons (.int .i64) .tnil)) [(.row 58 tapiNode false)] 1)))
def ref20_make1.l3 (x0 : Int) (x1 : den (.list tapiPair)) (x2 : Int) (x3 : den (.int .u32)) (x4 : Int) (x5 : Int) (x6 : denO (.row 58 tapiNode false)) (x7 : denO (.box (.pair (.int .i64) (.pair .str (.pair .str (.pair (.int .u32) (.pair (.own (.int .i64) 3) (.pair (.int .i64) (.pair (.nil 84) (.pair (.int .i64) (.pair (.int .i64) .unit))))))))))) (x8 : denO (.row 84 tapiPair false)) (x9 : denO (.row 24 (.int .i64) false)) : Option (denR (.tcons (.own tapiNode 0) (.tcons (.int .i64) .tnil)) [(.row 58 tapiNode false)]) := loopW [1, 1, 1, 0, 1, 1, 1, 1, 1, 1, 1, 0, 0, 1, 0, 0, 1, 0, 1, 0, 0] (BF 88 1 [1, 1, 1, 0, 1, 1, 1, 1, 1, 1, 1, 0, 0, 1, 0, 0, 1, 0, 1, 0, 0]) ⟨[(0, ⟨(.own tapiNode 0), ()⟩), (1, ⟨(.int .i64), x0⟩), (2, ⟨(.list tapiPair), x1⟩), (3, ⟨(.int .i64), x2⟩), (10, ⟨(.ptr 1 0), ()⟩), (11, ⟨(.int .u32), x3⟩), (12, ⟨(.int .i64), x4⟩), (13, ⟨(.own tapiPair 2), ()⟩), (14, ⟨(.int .i64), x5⟩)], [⟨(.row 58 tapiNode false), x6⟩, ⟨(.box (.pair (.int .i64) (.pair .str (.pair .str (.pair (.int .u32) (.pair (.own (.int .i64) 3) (.pair (.int .i64) (.pair (.nil 84) (.pair (.int .i64) (.pair (.int .i64) .unit)))))))))), x7⟩, ⟨(.row 84 tapiPair false), x8⟩, ⟨(.row 24 (.int .i64) false), x9⟩]⟩ (blockK 2 (seqK false [1, 1, 1, 0, 1, 1, 1, 1, 1, 1, 1, 0, 0, 1, 0, 0, 1, 1] (BF 88 1 [1, 1, 1, 0, 1, 1, 1, 1, 1, 1, 1, 0, 0, 1, 0, 0, 1, 1]) (blockK 1 (seqK false [1, 1, 1, 0, 1, 1, 1, 1, 1, 1, 1, 0, 0, 1, 1] (BF 88 1 [1, 1, 1, 0, 1, 1, 1, 1, 1, 1, 1, 0, 0, 1, 1]) (againK [1, 1, 1, 0, 1, 1, 1, 1, 1, 1, 1, 0, 0] (loopW [1, 1, 1, 0, 1, 1, 1, 1, 1, 1, 1, 0, 0] (BF 88 1 [1, 1, 1, 0, 1, 1, 1, 1, 1, 1, 1, 0, 0])) (blockK 0 (seqK false [1, 1, 1, 1] (BF 88 1 [1, 1, 1, 1]) (finF 88 (.tcons (.own tapiNode 0) (.tcons (.int .i64) .tnil)) [(.row 58 tapiNode false)] 1))))))))
def ref07_last (a0 : den (.list tapiPair)) (a1 : Int) : Option (den .bool) := CF 57 [⟨(.list tapiPair), a0⟩, ⟨(.int .i64), a1⟩] [] .bool []
def ref07_last.l0 (x0 : den (.list tapiPair)) (x1 : Int) (x2 : Int) : Option (den .bool) := loopW [1, 0, 1, 0, 0] (BF 57 0 [1, 0, 1, 0, 0]) ⟨[(0, ⟨(.list tapiPair), x0⟩), (1, ⟨(.int .i64), x1⟩), (5, ⟨(.int .i64), x2⟩)], []⟩ (blockK 0 (seqK false [1, 1] (BF 57 0 [1, 1]) (finF 57 .bool [] 0)))
def ref01_Less (a0 : den .str) (a1 : den .str) : Option (den .bool) := CF 58 [⟨.str, a0⟩, ⟨.str, a1⟩] [] .bool []
def ref01_Less.l0 (x0 : den .str) (x1 : den .str) (x2 : Int) : Option (den .bool) := loopW [1, 0, 1, 0, 0] (BF 58 0 [1, 0, 1, 0, 0]) ⟨[(0, ⟨.str, x0⟩), (1, ⟨.str, x1⟩), (5, ⟨(.int .i64), x2⟩)], []⟩ (blockK 0 (seqK false [1, 1] (BF 58 0 [1, 1]) (finF 58 .bool [] 0)))
def ref01_Less.j1 (x0 : den .str) (x1 : den .str) (x2 : Int) (x3 : Bool) : Option (den .bool) := jnO [1, 0, 1, 0, 0, 0, 1] (BF 58 0 [1, 0, 1, 0, 0, 0, 1]) ⟨[(0, ⟨.str, x0⟩), (1, ⟨.str, x1⟩), (5, ⟨(.int .i64), x2⟩), (15, ⟨.bool, x3⟩)], []⟩ (seqK false [1, 0, 1, 0, 0, 1] (BF 58 0 [1, 0, 1, 0, 0, 1]) (againK [1, 0, 1, 0, 0] (loopW [1, 0, 1, 0, 0] (BF 58 0 [1, 0, 1, 0, 0])) (blockK 0 (seqK false [1, 1] (BF 58 0 [1, 1]) (finF 58 .bool [] 0)))))
def node_formed (a0 : den tapiNode) : Option (den tapiNode) := CF 89 [⟨tapiNode, a0⟩] [] tapiNode []
def node_long (a0 : den tapiNode) : Option (den .bool) := CF 90 [⟨tapiNode, a0⟩] [] .bool []
def node_Same (a0 : den tapiNode) (a1 : den tapiNode) : Option (den .bool) := CF 91 [⟨tapiNode, a0⟩, ⟨tapiNode, a1⟩] [] .bool []
def node_Same.j0 (x0 : Bool) (x1 : denO (.box tapiNode)) (x2 : denO (.box tapiNode)) : Option (den .bool) := jnO [1, 1] (BF 91 0 [1, 1]) ⟨[(2, ⟨(.ptr 0 0), ()⟩), (3, ⟨(.ptr 1 0), ()⟩), (5, ⟨.bool, x0⟩)], [⟨(.box tapiNode), x1⟩, ⟨(.box tapiNode), x2⟩]⟩ (finF 91 .bool [] 0)
def node_whole (a0 : den tapiNode) : Option (den .bool) := CF 92 [⟨tapiNode, a0⟩] [] .bool []
def heap_Binds (a0 : den (.list tapiNode)) (a1 : Int) : Option (den (.tcons (.list tapiPair) (.tcons (.int .i64) .tnil))) := CF 93 [⟨(.list tapiNode), a0⟩, ⟨(.int .i64), a1⟩] [] (.tcons (.list tapiPair) (.tcons (.int .i64) .tnil)) []
def trie_Make (a0 : Int) (a1 : den (.list tapiPair)) : Option (den (.tcons (.list tapiNode) (.tcons (.int .i64) (.tcons (.int .i64) .tnil)))) := CF 94 [⟨(.int .i64), a0⟩, ⟨(.list tapiPair), a1⟩] [] (.tcons (.list tapiNode) (.tcons (.int .i64) (.tcons (.int .i64) .tnil))) []
def trie_Make.l0 (x0 : Int) (x1 : den (.list tapiPair)) (x2 : den (.list tapiPair)) (x3 : Int) (x4 : Int) : Option (den (.tcons (.list tapiNode) (.tcons (.int .i64) (.tcons (.int .i64) .tnil)))) := loopW [1, 1, 0, 1, 0, 0] (BF 94 0 [1, 1, 0, 1, 0, 0]) ⟨[(0, ⟨(.int .i64), x0⟩), (1, ⟨(.list tapiPair), x1⟩), (14, ⟨(.list tapiPair), x2⟩), (15, ⟨(.int .i64), x3⟩), (16, ⟨(.int .i64), x4⟩)], []⟩ (blockK 0 (seqK false [1, 1, 1] (BF 94 0 [1, 1, 1]) (finF 94 (.tcons (.list tapiNode) (.tcons (.int .i64) (.tcons (.int .i64) .tnil))) [] 0)))
def heap_Same (a0 : den (.list tapiNode)) (a1 : Int) (a2 : den (.list tapiNode)) (a3 : Int) : Option (den .bool) := CF 95 [⟨(.list tapiNode), a0⟩, ⟨(.int .i64), a1⟩, ⟨(.list tapiNode), a2⟩, ⟨(.int .i64), a3⟩] [] .bool []
def gG_changes_o (a0 : denO (.box tgraftGraft)) : Option (denR .bool [(.box tgraftGraft)]) := CF 66 [⟨(.ptr 0 0), ()⟩] [⟨(.box tgraftGraft), a0⟩] .bool [(.box tgraftGraft)]
def gG_bound_o (a0 : denO (.box tgraftGraft)) : Option (denR (.tcons .str (.tcons .bool .tnil)) [(.box tgraftGraft)]) := CF 65 [⟨(.ptr 0 0), ()⟩] [⟨(.box tgraftGraft), a0⟩] (.tcons .str (.tcons .bool .tnil)) [(.box tgraftGraft)]
def gG_bottom (a0 : den (.pair (.nil 58) (.pair (.int .i64) (.pair (.nil 24) .unit)))) (a1 : denO (.box tgraftGraft)) : Option (denR (.tcons (tPl 1 2) (.tcons (.int .i64) .tnil)) [(.box tgraftGraft), (.row 58 tapiNode false), (.row 24 (.int .i64) false)]) := CF 67 [⟨(.ptr 0 0), ()⟩, ⟨(.pair (.nil 58) (.pair (.int .i64) (.pair (.nil 24) .unit))), a0⟩] [⟨(.box tgraftGraft), a1⟩] (.tcons (tPl 1 2) (.tcons (.int .i64) .tnil)) [(.box tgraftGraft), (.row 58 tapiNode false), (.row 24 (.int .i64) false)]
def gG_bottom.j0 (x0 : Bool) (x1 : Bool) (x2 : denO (.box tgraftGraft)) (x3 : denO (.box (tPl 3 4))) (x4 : denO (.box (tPl 5 6))) (x5 : denO (.row 58 tapiNode false)) (x6 : denO (.row 24 (.int .i64) false)) (x7 : denO (.row 58 tapiNode false)) (x8 : denO (.row 24 (.int .i64) false)) : Option (denR (.tcons (tPl 1 2) (.tcons (.int .i64) .tnil)) [(.box tgraftGraft), (.row 58 tapiNode false), (.row 24 (.int .i64) false)]) := jnO [1, 1, 1, 1, 0, 0, 1] (BF 67 1 [1, 1, 1, 1, 0, 0, 1]) ⟨[(0, ⟨(.ptr 0 0), ()⟩), (3, ⟨(.ptr 1 0), ()⟩), (4, ⟨(.ptr 2 0), ()⟩), (8, ⟨.bool, x0⟩), (35, ⟨.bool, x1⟩)], [⟨(.box tgraftGraft), x2⟩, ⟨(.box (tPl 3 4)), x3⟩, ⟨(.box (tPl 5 6)), x4⟩, ⟨(.row 58 tapiNode false), x5⟩, ⟨(.row 24 (.int .i64) false), x6⟩, ⟨(.row 58 tapiNode false), x7⟩, ⟨(.row 24 (.int .i64) false), x8⟩]⟩ (blockK 0 (seqK false [1, 1, 1, 1, 1] (BF 67 1 [1, 1, 1, 1, 1]) (finF 67 (.tcons (tPl 1 2) (.tcons (.int .i64) .tnil)) [(.box tgraftGraft), (.row 58 tapiNode false), (.row 24 (.int .i64) false)] 1)))
def slices_Backwardgs (a0 : den (.list tgraftstep)) : Option (denR (.fn 107 (.tcons (.ptr 0 0) .tnil)) [(.box (.list tgraftstep))]) := CF 68 [⟨(.list tgraftstep), a0⟩] [] (.fn 107 (.tcons (.ptr 0 0) .tnil)) [(.box (.list tgraftstep))]
def slices_Backwardgs_1 (a0 : den (.eptr (.list tgraftstep) 0)) : Option (den (.list (.tcons (.int .i64) (.tcons tgraftstep .tnil)))) := CF 107 [⟨(.own .dead 0), ()⟩, ⟨(.eptr (.list tgraftstep) 0), a0⟩] [⟨.held, ()⟩] (.list (.tcons (.int .i64) (.tcons tgraftstep .tnil))) []
def slices_Backwardgs_1.l0 (x0 : den (.eptr (.list tgraftstep) 0)) (x1 : Int) : Option (den (.list (.tcons (.int .i64) (.tcons tgraftstep .tnil)))) := loopW [1, 0, 0] (BF 107 1 [1, 0, 0]) ⟨[(0, ⟨(.own .dead 0), ()⟩), (1, ⟨(.eptr (.list tgraftstep) 0), x0⟩), (3, ⟨(.int .i64), x1⟩)], [⟨.held, ()⟩]⟩ (blockK 0 (iterK (List (den (.tcons (.int .i64) (.tcons tgraftstep .tnil)))) []))
def branch_With (a0 : den tapiNode) (a1 : Int) (a2 : Int) : Option (den tapiNode) := CF 71 [⟨tapiNode, a0⟩, ⟨(.int .i64), a1⟩, ⟨(.int .i64), a2⟩] [] tapiNode []
def branch_With.j0 (x0 : Int) (x1 : den (.int .u32)) (x2 : Int) (x3 : Bool) (x4 : denO (.box (tNd 2 3))) (x5 : denO (.box (tNd 4 5))) (x6 : denO (.row 24 (.int .i64) false)) (x7 : denO (.row 84 tapiPair false)) (x8 : denO (.row 24 (.int .i64) false)) (x9 : denO (.row 84 tapiPair false)) : Option (den tapiNode) := jnO [1, 1, 1, 1, 0, 0, 1] (BF 71 0 [1, 1, 1, 1, 0, 0, 1]) ⟨[(2, ⟨(.int .i64), x0⟩), (6, ⟨(.ptr 0 0), ()⟩), (7, ⟨(.ptr 1 0), ()⟩), (8, ⟨(.int .u32), x1⟩), (9, ⟨(.int .i64), x2⟩), (26, ⟨.bool, x3⟩)], [⟨(.box (tNd 2 3)), x4⟩, ⟨(.box (tNd 4 5)), x5⟩, ⟨(.row 24 (.int .i64) false), x6⟩, ⟨(.row 84 tapiPair false), x7⟩, ⟨(.row 24 (.int .i64) false), x8⟩, ⟨(.row 84 tapiPair false), x9⟩]⟩ (blockK 0 (seqK false [1, 1, 1, 1, 1] (BF 71 0 [1, 1, 1, 1, 1]) (finF 71 tapiNode [] 0)))
def branch_Sized (a0 : den tapiNode) (a1 : Int) : Option (den tapiNode) := CF 70 [⟨tapiNode, a0⟩, ⟨(.int .i64), a1⟩] [] tapiNode []
def plan_Add (a0 : den (tPl 0 1)) (a1 : den tapiNode) (a2 : denO (.row 58 tapiNode true)) (a3 : denO (.row 24 (.int .i64) true)) : Option (denR (.tcons (tPl 2 1) (.tcons (.int .i64) .tnil)) [.gone, (.row 24 (.int .i64) false), (.row 58 tapiNode false)]) := CF 69 [⟨(tPl 0 1), a0⟩, ⟨tapiNode, a1⟩] [⟨(.row 58 tapiNode true), a2⟩, ⟨(.row 24 (.int .i64) true), a3⟩] (.tcons (tPl 2 1) (.tcons (.int .i64) .tnil)) [.gone, (.row 24 (.int .i64) false), (.row 58 tapiNode false)]
def plan_May (a0 : den tplanPlan) : Option (den (.int .i64)) := CF 96 [⟨tplanPlan, a0⟩] [] (.int .i64) []
def plan_May.l0 (x0 : den (.list tapiNode)) (x1 : Int) (x2 : Int) (x3 : denO (.box tplanPlan)) : Option (den (.int .i64)) := loopW [1, 0, 1, 0, 0] (BF 96 0 [1, 0, 1, 0, 0]) ⟨[(1, ⟨(.ptr 0 0), ()⟩), (6, ⟨(.list tapiNode), x0⟩), (7, ⟨(.int .i64), x1⟩), (8, ⟨(.int .i64), x2⟩)], [⟨(.box tplanPlan), x3⟩]⟩ (blockK 0 (seqK false [1, 1] (BF 96 0 [1, 1]) (finF 96 (.int .i64) [] 0)))
def heap_May (a0 : den (.list tapiNode)) : Option (den (.int .i64)) := CF 97 [⟨(.list tapiNode), a0⟩] [] (.int .i64) []
def heap_May.l0 (x0 : den (.list tapiNode)) (x1 : Int) (x2 : Int) : Option (den (.int .i64)) := loopW [1, 0, 1, 0, 0] (BF 97 0 [1, 0, 1, 0, 0]) ⟨[(7, ⟨(.list tapiNode), x0⟩), (8, ⟨(.int .i64), x1⟩), (9, ⟨(.int .i64), x2⟩)], []⟩ (blockK 0 (seqK false [1, 1] (BF 97 0 [1, 1]) (finF 97 (.int .i64) [] 0)))
def heap_May.l1 (x0 : Int) (x1 : den (.list tapiNode)) (x2 : Int) (x3 : Int) (x4 : den (.list (.int .i64))) (x5 : Int) (x6 : Int) : Option (den (.int .i64)) := loopW [1, 0, 1, 0, 0, 1, 1, 0, 0, 1, 1, 1, 0, 0] (BF 97 0 [1, 0, 1, 0, 0, 1, 1, 0, 0, 1, 1, 1, 0, 0]) ⟨[(3, ⟨(.int .i64), x0⟩), (7, ⟨(.list tapiNode), x1⟩), (8, ⟨(.int .i64), x2⟩), (9, ⟨(.int .i64), x3⟩), (18, ⟨(.list (.int .i64)), x4⟩), (19, ⟨(.int .i64), x5⟩), (20, ⟨(.int .i64), x6⟩)], []⟩ (blockK 2 (blockK 1 (seqK false [1, 0, 1, 0, 0, 1, 1, 1] (BF 97 0 [1, 0, 1, 0, 0, 1, 1, 1]) (againK [1, 0, 1, 0, 0] (loopW [1, 0, 1, 0, 0] (BF 97 0 [1, 0, 1, 0, 0])) (blockK 0 (seqK false [1, 1] (BF 97 0 [1, 1]) (finF 97 (.int .i64) [] 0)))))))
def plan_fits (a0 : den (.list tapiNode)) (a1 : den tplanPlan) : Option (den .bool) := CF 98 [⟨(.list tapiNode), a0⟩, ⟨tplanPlan, a1⟩] [] .bool []
def plan_fits.l0 (x0 : den (.list tapiNode)) (x1 : Int) (x2 : Int) (x3 : denO (.box (.list tapiNode))) (x4 : denO (.row 24 (.int .i64) false)) : Option (den .bool) := loopW [1, 1, 0, 1, 0, 0] (BF 98 0 [1, 1, 0, 1, 0, 0]) ⟨[(2, ⟨(.ptr 0 0), ()⟩), (5, ⟨(.own (.int .i64) 1), ()⟩), (16, ⟨(.list tapiNode), x0⟩), (17, ⟨(.int .i64), x1⟩), (18, ⟨(.int .i64), x2⟩)], [⟨(.box (.list tapiNode)), x3⟩, ⟨(.row 24 (.int .i64) false), x4⟩]⟩ (blockK 0 (seqK false [1, 1, 1] (BF 98 0 [1, 1, 1]) (finF 98 .bool [] 0)))
def node_Copy (a0 : den tapiNode) : Option (denR (tNd 0 1) [(.row 24 (.int .i64) false), (.row 84 tapiPair false)]) := CF 99 [⟨tapiNode, a0⟩] [] (tNd 0 1) [(.row 24 (.int .i64) false), (.row 84 tapiPair false)]
def plan_Fill_o (a0 : den tapiNode) (a1 : denO (.row 24 (.int .i64) true)) : Option (denR (.tcons tapiNode (.tcons (.int .i64) .tnil)) [(.row 24 (.int .i64) true)]) := CF 100 [⟨tapiNode, a0⟩, ⟨(.own (.int .i64) 0), ()⟩] [⟨(.row 24 (.int .i64) true), a1⟩] (.tcons tapiNode (.tcons (.int .i64) .tnil)) [(.row 24 (.int .i64) true)]
def plan_Fill_o.l0 (x0 : Int) (x1 : Int) (x2 : Int) (x3 : denO (.row 24 (.int .i64) true)) (x4 : denO (.box (tNd 3 4))) (x5 : denO (.box (tNd 5 6))) (x6 : denO (.row 24 (.int .i64) false)) (x7 : denO (.row 84 tapiPair false)) (x8 : denO (.row 24 (.int .i64) false)) (x9 : denO (.row 84 tapiPair false)) : Option (denR (.tcons tapiNode (.tcons (.int .i64) .tnil)) [(.row 24 (.int .i64) true)]) := loopW [1, 1, 1, 1, 0, 1, 0, 0] (BF 100 1 [1, 1, 1, 1, 0, 1, 0, 0]) ⟨[(1, ⟨(.own (.int .i64) 0), ()⟩), (2, ⟨(.ptr 1 0), ()⟩), (4, ⟨(.ptr 2 0), ()⟩), (7, ⟨(.int .i64), x0⟩), (24, ⟨(.own (.int .i64) 3), ()⟩), (25, ⟨(.int .i64), x1⟩), (26, ⟨(.int .i64), x2⟩)], [⟨(.row 24 (.int .i64) true), x3⟩, ⟨(.box (tNd 3 4)), x4⟩, ⟨(.box (tNd 5 6)), x5⟩, ⟨(.row 24 (.int .i64) false), x6⟩, ⟨(.row 84 tapiPair false), x7⟩, ⟨(.row 24 (.int .i64) false), x8⟩, ⟨(.row 84 tapiPair false), x9⟩]⟩ (blockK 0 (seqK false [1, 1, 1, 1, 1] (BF 100 1 [1, 1, 1, 1, 1]) (finF 100 (.tcons tapiNode (.tcons (.int .i64) .tnil)) [(.row 24 (.int .i64) true)] 1)))
def plan_Ref (a0 : Int) (a1 : den (.list (.int .i64))) : Option (den (.tcons (.int .i64) (.tcons (.int .i64) .tnil))) := CF 101 [⟨(.int .i64), a0⟩, ⟨(.list (.int .i64)), a1⟩] [] (.tcons (.int .i64) (.tcons (.int .i64) .tnil)) []
def ref17_May (a0 : den (.list tapiNode)) : Option (den .bool) := CF 76 [⟨(.list tapiNode), a0⟩] [] .bool []
def ref17_May.l0 (x0 : den (.list tapiNode)) (x1 : Int) : Option (den .bool) := loopW [1, 0, 1, 0, 0] (BF 76 0 [1, 0, 1, 0, 0]) ⟨[(0, ⟨(.list tapiNode), x0⟩), (3, ⟨(.int .i64), x1⟩)], []⟩ (blockK 0 (seqK false [1, 1] (BF 76 0 [1, 1]) (finF 76 .bool [] 0)))
def ref17_May.l1 (x0 : den (.list tapiNode)) (x1 : Int) (x2 : den (.list (.int .i64))) (x3 : Int) : Option (den .bool) := loopW [1, 0, 1, 0, 0, 1, 0, 0, 1, 0, 1, 0, 0] (BF 76 0 [1, 0, 1, 0, 0, 1, 0, 0, 1, 0, 1, 0, 0]) ⟨[(0, ⟨(.list tapiNode), x0⟩), (3, ⟨(.int .i64), x1⟩), (4, ⟨(.list (.int .i64)), x2⟩), (5, ⟨(.int .i64), x3⟩)], []⟩ (blockK 2 (seqK false [1, 0, 1, 0, 0, 1, 0, 0, 1, 1] (BF 76 0 [1, 0, 1, 0, 0, 1, 0, 0, 1, 1]) (blockK 1 (seqK false [1, 0, 1, 0, 0, 1, 1] (BF 76 0 [1, 0, 1, 0, 0, 1, 1]) (againK [1, 0, 1, 0, 0] (loopW [1, 0, 1, 0, 0] (BF 76 0 [1, 0, 1, 0, 0])) (blockK 0 (seqK false [1, 1] (BF 76 0 [1, 1]) (finF 76 .bool [] 0))))))))
def ref13_Same (a0 : den tapiNode) (a1 : den tapiNode) : Option (den .bool) := CF 56 [⟨tapiNode, a0⟩, ⟨tapiNode, a1⟩] [] .bool []
def hash_cut (a0 : den (.int .u64)) (a1 : Int) : Option (den (.int .u64)) := CF 103 [⟨(.int .u64), a0⟩, ⟨(.int .i64), a1⟩] [] (.int .u64) []
def hash_within (a0 : Int) : Option (den (.int .i64)) := CF 115 [⟨(.int .i64), a0⟩] [] (.int .i64) []
def branch_Without (a0 : den tapiNode) (a1 : Int) : Option (den tapiNode) := CF 122 [⟨tapiNode, a0⟩, ⟨(.int .i64), a1⟩] [] tapiNode []
def branch_Only (a0 : den tapiNode) : Option (den (.tcons (.int .i64) (.tcons .bool .tnil))) := CF 123 [⟨tapiNode, a0⟩] [] (.tcons (.int .i64) (.tcons .bool .tnil)) []
def branch_branch (a0 : den tapiNode) : Option (denR (tNd 0 1) [(.row 24 (.int .i64) false), (.row 84 tapiPair false)]) := CF 110 [⟨tapiNode, a0⟩] [] (tNd 0 1) [(.row 24 (.int .i64) false), (.row 84 tapiPair false)]
def mask_Has (a0 : den (.int .u32)) (a1 : Int) : Option (den .bool) := CF 113 [⟨(.int .u32), a0⟩, ⟨(.int .i64), a1⟩] [] .bool []
def mask_Place (a0 : den (.int .u32)) (a1 : Int) : Option (den (.int .i64)) := CF 112 [⟨(.int .u32), a0⟩, ⟨(.int .i64), a1⟩] [] (.int .i64) []
def slices_CloneQQ (a0 : den (.list tapiPair)) : Option (denR (.own tapiPair 0) [(.row 84 tapiPair false)]) := CF 119 [⟨(.list tapiPair), a0⟩] [] (.own tapiPair 0) [(.row 84 tapiPair false)]
def pair_ordered (a0 : den (.list tapiPair)) : Option (den (.list tapiPair)) := CF 117 [⟨(.list tapiPair), a0⟩] [] (.list tapiPair) []
def pair_place (a0 : den (.list tapiPair)) (a1 : den .str) : Option (den (.tcons (.int .i64) (.tcons .bool .tnil))) := CF 118 [⟨(.list tapiPair), a0⟩, ⟨.str, a1⟩] [] (.tcons (.int .i64) (.tcons .bool .tnil)) []
def pair_Drop (a0 : den (.list tapiPair)) (a1 : den .str) : Option (den (.list tapiPair)) := CF 120 [⟨(.list tapiPair), a0⟩, ⟨.str, a1⟩] [] (.list tapiPair) []
def node_Bucket (a0 : den (.list tapiPair)) : Option (den tapiNode) := CF 105 [⟨(.list tapiPair), a0⟩] [] tapiNode []
def ref04_Levels (a0 : Int) : Option (den (.int .i64)) := CF 25 [⟨(.int .i64), a0⟩] [] (.int .i64) []
def ref04_Levels.l0 (x0 : Int) (x1 : Int) : Option (den (.int .i64)) := loopW [1, 1, 0, 0, 0] (BF 25 0 [1, 1, 0, 0, 0]) ⟨[(0, ⟨(.int .i64), x0⟩), (3, ⟨(.int .i64), x1⟩)], []⟩ (blockK 0 (seqK false [1, 1, 1] (BF 25 0 [1, 1, 1]) (finF 25 (.int .i64) [] 0)))
def ref20_chunk (a0 : den .str) (a1 : Int) (a2 : Int) : Option (den (.int .i64)) := CF 124 [⟨.str, a0⟩, ⟨(.int .i64), a1⟩, ⟨(.int .i64), a2⟩] [] (.int .i64) []
def node_Tomb (a0 : den .str) (a1 : den .str) : Option (den tapiNode) := CF 125 [⟨.str, a0⟩, ⟨.str, a1⟩] [] tapiNode []
def node_Branch (a0 : den (.int .u32)) (a1 : den (.list (.int .i64))) (a2 : Int) : Option (den tapiNode) := CF 126 [⟨(.int .u32), a0⟩, ⟨(.list (.int .i64)), a1⟩, ⟨(.int .i64), a2⟩] [] tapiNode []
def node_Tree (a0 : den .str) (a1 : den .str) (a2 : Int) (a3 : Int) (a4 : Int) : Option (den tapiNode) := CF 127 [⟨.str, a0⟩, ⟨.str, a1⟩, ⟨(.int .i64), a2⟩, ⟨(.int .i64), a3⟩, ⟨(.int .i64), a4⟩] [] tapiNode []
def node_Inner (a0 : Int) : Option (den tapiNode) := CF 128 [⟨(.int .i64), a0⟩] [] tapiNode []
def node_long_1 (a0 : den tapiPair) : Option (den .bool) := CF 129 [⟨tapiPair, a0⟩] [] .bool []
def slices_ContainsFuncQQ (a0 : den (.list tapiPair)) : Option (den .bool) := CF 130 [⟨(.list tapiPair), a0⟩, ⟨(.fn 129 .tnil), ()⟩] [] .bool []
def slices_EqualRR (a0 : den (.list (.int .i64))) (a1 : den (.list (.int .i64))) : Option (den .bool) := CF 131 [⟨(.list (.int .i64)), a0⟩, ⟨(.list (.int .i64)), a1⟩] [] .bool []
def slices_EqualRR.l0 (x0 : den (.list (.int .i64))) (x1 : den (.list (.int .i64))) (x2 : Int) (x3 : Int) : Option (den .bool) := loopW [1, 1, 0, 1, 0, 0] (BF 131 0 [1, 1, 0, 1, 0, 0]) ⟨[(0, ⟨(.list (.int .i64)), x0⟩), (1, ⟨(.list (.int .i64)), x1⟩), (12, ⟨(.int .i64), x2⟩), (13, ⟨(.int .i64), x3⟩)], []⟩ (blockK 0 (seqK false [1, 1, 1] (BF 131 0 [1, 1, 1]) (finF 131 .bool [] 0)))
def slices_EqualQQ (a0 : den (.list tapiPair)) (a1 : den (.list tapiPair)) : Option (den .bool) := CF 132 [⟨(.list tapiPair), a0⟩, ⟨(.list tapiPair), a1⟩] [] .bool []
def slices_EqualQQ.l0 (x0 : den (.list tapiPair)) (x1 : den (.list tapiPair)) (x2 : Int) (x3 : Int) : Option (den .bool) := loopW [1, 1, 0, 1, 0, 0] (BF 132 0 [1, 1, 0, 1, 0, 0]) ⟨[(0, ⟨(.list tapiPair), x0⟩), (1, ⟨(.list tapiPair), x1⟩), (12, ⟨(.int .i64), x2⟩), (13, ⟨(.int .i64), x3⟩)], []⟩ (blockK 0 (seqK false [1, 1, 1] (BF 132 0 [1, 1, 1]) (finF 132 .bool [] 0)))
def mask_Count (a0 : den (.int .u32)) : Option (den (.int .i64)) := CF 133 [⟨(.int .u32), a0⟩] [] (.int .i64) []
def slices_ContainsRR (a0 : den (.list (.int .i64))) (a1 : Int) : Option (den .bool) := CF 134 [⟨(.list (.int .i64)), a0⟩, ⟨(.int .i64), a1⟩] [] .bool []
def pair_Is (a0 : den (.list tapiPair)) : Option (den .bool) := CF 135 [⟨(.list tapiPair), a0⟩] [] .bool []
def pair_Is.l0 (x0 : den (.list tapiPair)) (x1 : Int) (x2 : Int) : Option (den .bool) := loopW [1, 0, 1, 0, 0] (BF 135 0 [1, 0, 1, 0, 0]) ⟨[(0, ⟨(.list tapiPair), x0⟩), (5, ⟨(.int .i64), x1⟩), (6, ⟨(.int .i64), x2⟩)], []⟩ (blockK 0 (seqK false [1, 1] (BF 135 0 [1, 1]) (finF 135 .bool [] 0)))
def heap_may (a0 : den (.list tapiNode)) (a1 : Int) : Option (den (.int .i64)) := CF 136 [⟨(.list tapiNode), a0⟩, ⟨(.int .i64), a1⟩] [] (.int .i64) []
def heap_binds (a0 : den (.list tapiNode)) (a1 : Int) : Option (denR (.own tapiPair 0) [(.row 84 tapiPair false)]) := CF 137 [⟨(.list tapiNode), a0⟩, ⟨(.int .i64), a1⟩] [] (.own tapiPair 0) [(.row 84 tapiPair false)]
def heap_binds.l0 (x0 : den (.list tapiNode)) (x1 : den (.list (.int .i64))) (x2 : Int) (x3 : Int) (x4 : denO (.row 84 tapiPair false)) : Option (denR (.own tapiPair 0) [(.row 84 tapiPair false)]) := loopW [1, 1, 1, 1, 1, 0, 1, 0, 0] (BF 137 0 [1, 1, 1, 1, 1, 0, 1, 0, 0]) ⟨[(0, ⟨(.list tapiNode), x0⟩), (6, ⟨(.own tapiPair 0), ()⟩), (38, ⟨(.list (.int .i64)), x1⟩), (39, ⟨(.int .i64), x2⟩), (40, ⟨(.int .i64), x3⟩)], [⟨(.row 84 tapiPair false), x4⟩]⟩ (blockK 0 (seqK false [1, 1, 1, 1, 1, 1] (BF 137 0 [1, 1, 1, 1, 1, 1]) (finF 137 (.own tapiPair 0) [(.row 84 tapiPair false)] 0)))
def pair_Make (a0 : den (.list tapiPair)) : Option (den (.list tapiPair)) := CF 138 [⟨(.list tapiPair), a0⟩] [] (.list tapiPair) []
def pair_Make.l0 (x0 : den (.list tapiPair)) (x1 : Int) (x2 : Int) (x3 : denO (.row 84 tapiPair false)) : Option (den (.list tapiPair)) := loopW [1, 1, 0, 1, 0, 0] (BF 138 0 [1, 1, 0, 1, 0, 0]) ⟨[(3, ⟨(.own tapiPair 0), ()⟩), (6, ⟨(.list tapiPair), x0⟩), (7, ⟨(.int .i64), x1⟩), (8, ⟨(.int .i64), x2⟩)], [⟨(.row 84 tapiPair false), x3⟩]⟩ (blockK 0 (seqK false [1, 1, 1] (BF 138 0 [1, 1, 1]) (finF 138 (.list tapiPair) [] 0)))
def tM_trie (a0 : den (.list tapiPair)) (a1 : Int) (a2 : denO (.box (.pair (.int .i64) (.pair (.own tapiNode 1) .unit)))) (a3 : denO (.row 58 tapiNode true)) : Option (denR (.int .i64) [(.box (.pair (.int .i64) (.pair (.own tapiNode 1) .unit))), (.row 58 tapiNode false)]) := CF 139 [⟨(.ptr 0 0), ()⟩, ⟨(.list tapiPair), a0⟩, ⟨(.int .i64), a1⟩] [⟨(.box (.pair (.int .i64) (.pair (.own tapiNode 1) .unit))), a2⟩, ⟨(.row 58 tapiNode true), a3⟩] (.int .i64) [(.box (.pair (.int .i64) (.pair (.own tapiNode 1) .unit))), (.row 58 tapiNode false)]
def tM_trie.l0 (x0 : den (.list tapiPair)) (x1 : Int) (x2 : den (.mp tapiPair)) (x3 : den (.int .u32)) (x4 : den (.list (.int .i64))) (x5 : Int) (x6 : Int) (x7 : denO (.box (.pair (.int .i64) (.pair (.own tapiNode 1) .unit)))) (x8 : denO (.row 58 tapiNode true)) (x9 : denO (.row 24 (.int .i64) false)) : Option (denR (.int .i64) [(.box (.pair (.int .i64) (.pair (.own tapiNode 1) .unit))), (.row 58 tapiNode false)]) := loopW [1, 1, 1, 1, 0, 1, 0, 0] (BF 139 2 [1, 1, 1, 1, 0, 1, 0, 0]) ⟨[(0, ⟨(.ptr 0 0), ()⟩), (1, ⟨(.list tapiPair), x0⟩), (2, ⟨(.int .i64), x1⟩), (7, ⟨(.mp tapiPair), x2⟩), (8, ⟨(.int .u32), x3⟩), (9, ⟨(.own (.int .i64) 2), ()⟩), (51, ⟨(.list (.int .i64)), x4⟩), (52, ⟨(.int .i64), x5⟩), (53, ⟨(.int .i64), x6⟩)], [⟨(.box (.pair (.int .i64) (.pair (.own tapiNode 1) .unit))), x7⟩, ⟨(.row 58 tapiNode true), x8⟩, ⟨(.row 24 (.int .i64) false), x9⟩]⟩ (blockK 1 (seqK false [1, 1, 1, 1, 1] (BF 139 2 [1, 1, 1, 1, 1]) (finF 139 (.int .i64) [(.box (.pair (.int .i64) (.pair (.own tapiNode 1) .unit))), (.row 58 tapiNode false)] 2)))
def tM_trie.l1 (x0 : den (.list tapiPair)) (x1 : Int) (x2 : den (.mp tapiPair)) (x3 : den (.int .u32)) (x4 : den (.list (.int .i64))) (x5 : Int) (x6 : Int) (x7 : denO (.box (.pair (.int .i64) (.pair (.own tapiNode 1) .unit)))) (x8 : denO (.row 58 tapiNode false)) (x9 : denO (.row 24 (.int .i64) false)) : Option (denR (.int .i64) [(.box (.pair (.int .i64) (.pair (.own tapiNode 1) .unit))), (.row 58 tapiNode false)]) := loopW [1, 1, 1, 1, 0, 1, 0, 0] (BF 139 2 [1, 1, 1, 1, 0, 1, 0, 0]) ⟨[(0, ⟨(.ptr 0 0), ()⟩), (1, ⟨(.list tapiPair), x0⟩), (2, ⟨(.int .i64), x1⟩), (7, ⟨(.mp tapiPair), x2⟩), (8, ⟨(.int .u32), x3⟩), (9, ⟨(.own (.int .i64) 2), ()⟩), (51, ⟨(.list (.int .i64)), x4⟩), (52, ⟨(.int .i64), x5⟩), (53, ⟨(.int .i64), x6⟩)], [⟨(.box (.pair (.int .i64) (.pair (.own tapiNode 1) .unit))), x7⟩, ⟨(.row 58 tapiNode false), x8⟩, ⟨(.row 24 (.int .i64) false), x9⟩]⟩ (blockK 1 (seqK false [1, 1, 1, 1, 1] (BF 139 2 [1, 1, 1, 1, 1]) (finF 139 (.int .i64) [(.box (.pair (.int .i64) (.pair (.own tapiNode 1) .unit))), (.row 58 tapiNode false)] 2)))
def heap_same (a0 : den (.list tapiNode)) (a1 : Int) (a2 : den (.list tapiNode)) (a3 : Int) : Option (den .bool) := CF 140 [⟨(.list tapiNode), a0⟩, ⟨(.int .i64), a1⟩, ⟨(.list tapiNode), a2⟩, ⟨(.int .i64), a3⟩] [] .bool []
def heap_same.j0 (x0 : den (.list tapiNode)) (x1 : Int) (x2 : den (.list tapiNode)) (x3 : Int) (x4 : Bool) : Option (den .bool) := jnO [1, 0, 1] (BF 140 0 [1, 0, 1]) ⟨[(0, ⟨(.list tapiNode), x0⟩), (1, ⟨(.int .i64), x1⟩), (2, ⟨(.list tapiNode), x2⟩), (3, ⟨(.int .i64), x3⟩), (19, ⟨.bool, x4⟩)], []⟩ (seqK false [1, 1] (BF 140 0 [1, 1]) (finF 140 .bool [] 0))
def heap_same.l1 (x0 : den (.list tapiNode)) (x1 : den (.list tapiNode)) (x2 : den (.list (.int .i64))) (x3 : den (.list (.int .i64))) (x4 : Int) (x5 : Int) : Option (den .bool) := loopW [1, 1, 1, 1, 1, 0, 1, 0, 0] (BF 140 0 [1, 1, 1, 1, 1, 0, 1, 0, 0]) ⟨[(0, ⟨(.list tapiNode), x0⟩), (2, ⟨(.list tapiNode), x1⟩), (11, ⟨(.list (.int .i64)), x2⟩), (12, ⟨(.list (.int .i64)), x3⟩), (44, ⟨(.int .i64), x4⟩), (45, ⟨(.int .i64), x5⟩)], []⟩ (blockK 0 (seqK false [1, 1, 1, 1, 1, 1] (BF 140 0 [1, 1, 1, 1, 1, 1]) (finF 140 .bool [] 0)))
def gG_two (a0 : den (tPl 1 2)) (a1 : Int) (a2 : denO (.box tgraftGraft)) (a3 : denO (.row 58 tapiNode true)) (a4 : denO (.row 24 (.int .i64) true)) : Option (denR (.tcons (tPl 1 2) (.tcons (.int .i64) (.tcons .bool .tnil))) [(.box tgraftGraft), (.row 58 tapiNode false), (.row 24 (.int .i64) false)]) := CF 104 [⟨(.ptr 0 0), ()⟩, ⟨(tPl 1 2), a0⟩, ⟨(.int .i64), a1⟩] [⟨(.box tgraftGraft), a2⟩, ⟨(.row 58 tapiNode true), a3⟩, ⟨(.row 24 (.int .i64) true), a4⟩] (.tcons (tPl 1 2) (.tcons (.int .i64) (.tcons .bool .tnil))) [(.box tgraftGraft), (.row 58 tapiNode false), (.row 24 (.int .i64) false)]
def pair_Put (a0 : den (.list tapiPair)) (a1 : den .str) (a2 : den .str) : Option (den (.list tapiPair)) := CF 106 [⟨(.list tapiPair), a0⟩, ⟨.str, a1⟩, ⟨.str, a2⟩] [] (.list tapiPair) []
def mask_With (a0 : den (.int .u32)) (a1 : Int) : Option (den (.int .u32)) := CF 111 [⟨(.int .u32), a0⟩, ⟨(.int .i64), a1⟩] [] (.int .u32) []
def slices_InsertRR (a0 : Int) (a1 : denO (.row 24 (.int .i64) true)) (a2 : denO (.row 24 (.int .i64) true)) : Option (denR (.own (.int .i64) 0) [(.row 24 (.int .i64) false), (.row 24 (.int .i64) true)]) := CF 114 [⟨(.own (.int .i64) 0), ()⟩, ⟨(.int .i64), a0⟩, ⟨(.own (.int .i64) 1), ()⟩] [⟨(.row 24 (.int .i64) true), a1⟩, ⟨(.row 24 (.int .i64) true), a2⟩] (.own (.int .i64) 0) [(.row 24 (.int .i64) false), (.row 24 (.int .i64) true)]
def slices_CloneNN (a0 : den (.list tapiNode)) : Option (denR (.own tapiNode 0) [(.row 58 tapiNode false)]) := CF 108 [⟨(.list tapiNode), a0⟩] [] (.own tapiNode 0) [(.row 58 tapiNode false)]
def ref_New (a0 : Int) : Option (den (.int .i64)) := CF 109 [⟨(.int .i64), a0⟩] [] (.int .i64) []
def node_Refs (a0 : den tapiNode) : Option (den (.list (.int .i64))) := CF 142 [⟨tapiNode, a0⟩] [] (.list (.int .i64)) []
def node_Refs.l0 (x0 : Int) (x1 : Int) (x2 : denO (.row 24 (.int .i64) false)) (x3 : denO (.row 24 (.int .i64) false)) : Option (den (.list (.int .i64))) := loopW [1, 1, 0, 1, 0, 0] (BF 142 0 [1, 1, 0, 1, 0, 0]) ⟨[(3, ⟨(.own (.int .i64) 0), ()⟩), (12, ⟨(.own (.int .i64) 1), ()⟩), (13, ⟨(.int .i64), x0⟩), (14, ⟨(.int .i64), x1⟩)], [⟨(.row 24 (.int .i64) false), x2⟩, ⟨(.row 24 (.int .i64) false), x3⟩]⟩ (blockK 0 (seqK false [1, 1, 1] (BF 142 0 [1, 1, 1]) (finF 142 (.list (.int .i64)) [] 0)))
def slices_ContainsFuncRR (a0 : den (.list (.int .i64))) (a1 : den (.fn 143 (.tcons (.ptr 0 0) .tnil))) (a2 : denO (.box (.int .i64))) : Option (denR .bool [(.box (.int .i64))]) := CF 141 [⟨(.list (.int .i64)), a0⟩, ⟨(.fn 143 (.tcons (.ptr 0 0) .tnil)), a1⟩] [⟨(.box (.int .i64)), a2⟩] .bool [(.box (.int .i64))]
def plan_ahead (a0 : Int) (a1 : Int) : Option (den .bool) := CF 144 [⟨(.int .i64), a0⟩, ⟨(.int .i64), a1⟩] [] .bool []
def slices_ContainsFuncRR_v1 (a0 : den (.list (.int .i64))) : Option (den .bool) := CF 141 [⟨(.list (.int .i64)), a0⟩, ⟨(.fn 145 .tnil), ()⟩] [] .bool []
def slices_CloneRR (a0 : den (.list (.int .i64))) : Option (denR (.own (.int .i64) 0) [(.row 24 (.int .i64) false)]) := CF 146 [⟨(.list (.int .i64)), a0⟩] [] (.own (.int .i64) 0) [(.row 24 (.int .i64) false)]
def slices_ContainsFuncRR_v2 (a0 : den (.list (.int .i64))) (a1 : den (.fn 147 (.tcons (.ptr 0 0) .tnil))) (a2 : denO (.box (.list tapiNode))) : Option (denR .bool [(.box (.list tapiNode))]) := CF 141 [⟨(.list (.int .i64)), a0⟩, ⟨(.fn 147 (.tcons (.ptr 0 0) .tnil)), a1⟩] [⟨(.box (.list tapiNode)), a2⟩] .bool [(.box (.list tapiNode))]
def ref_Which (a0 : Int) : Option (den (.tcons (.int .i64) (.tcons .bool .tnil))) := CF 149 [⟨(.int .i64), a0⟩] [] (.tcons (.int .i64) (.tcons .bool .tnil)) []
def ref13_Refs (a0 : den tapiNode) : Option (den (.list (.int .i64))) := CF 60 [⟨tapiNode, a0⟩] [] (.list (.int .i64)) []
def ref13_Refs.l0 (x0 : Int) (x1 : denO (.box tapiNode)) (x2 : denO (.row 24 (.int .i64) false)) : Option (den (.list (.int .i64))) := loopW [1, 1, 0, 1, 0, 0] (BF 60 0 [1, 1, 0, 1, 0, 0]) ⟨[(1, ⟨(.ptr 0 0), ()⟩), (3, ⟨(.own (.int .i64) 1), ()⟩), (4, ⟨(.int .i64), x0⟩)], [⟨(.box tapiNode), x1⟩, ⟨(.row 24 (.int .i64) false), x2⟩]⟩ (blockK 0 (seqK false [1, 1, 1] (BF 60 0 [1, 1, 1]) (finF 60 (.list (.int .i64)) [] 0)))
def ref13_May (a0 : den tapiNode) : Option (den (.int .i64)) := CF 116 [⟨tapiNode, a0⟩] [] (.int .i64) []
def ref13_SameRefs (a0 : den (.list (.int .i64))) (a1 : den (.list (.int .i64))) : Option (den .bool) := CF 102 [⟨(.list (.int .i64)), a0⟩, ⟨(.list (.int .i64)), a1⟩] [] .bool []
def ref13_SameRefs.l0 (x0 : den (.list (.int .i64))) (x1 : den (.list (.int .i64))) (x2 : Int) : Option (den .bool) := loopW [1, 1, 0, 1, 0, 0] (BF 102 0 [1, 1, 0, 1, 0, 0]) ⟨[(0, ⟨(.list (.int .i64)), x0⟩), (1, ⟨(.list (.int .i64)), x1⟩), (5, ⟨(.int .i64), x2⟩)], []⟩ (blockK 0 (seqK false [1, 1, 1] (BF 102 0 [1, 1, 1]) (finF 102 .bool [] 0)))
def ref07_Same (a0 : den (.list tapiPair)) (a1 : den (.list tapiPair)) : Option (den .bool) := CF 18 [⟨(.list tapiPair), a0⟩, ⟨(.list tapiPair), a1⟩] [] .bool []
def ref07_Same.l0 (x0 : den (.list tapiPair)) (x1 : den (.list tapiPair)) (x2 : Int) : Option (den .bool) := loopW [1, 1, 0, 1, 0, 0] (BF 18 0 [1, 1, 0, 1, 0, 0]) ⟨[(0, ⟨(.list tapiPair), x0⟩), (1, ⟨(.list tapiPair), x1⟩), (5, ⟨(.int .i64), x2⟩)], []⟩ (blockK 0 (seqK false [1, 1, 1] (BF 18 0 [1, 1, 1]) (finF 18 .bool [] 0)))
def slices_DeleteRR (a0 : Int) (a1 : Int) (a2 : denO (.row 24 (.int .i64) true)) : Option (denR (.own (.int .i64) 0) [(.row 24 (.int .i64) false)]) := CF 162 [⟨(.own (.int .i64) 0), ()⟩, ⟨(.int .i64), a0⟩, ⟨(.int .i64), a1⟩] [⟨(.row 24 (.int .i64) true), a2⟩] (.own (.int .i64) 0) [(.row 24 (.int .i64) false)]
def mask_Without (a0 : den (.int .u32)) (a1 : Int) : Option (den (.int .u32)) := CF 163 [⟨(.int .u32), a0⟩, ⟨(.int .i64), a1⟩] [] (.int .u32) []
def node_Branch_o (a0 : den (.int .u32)) (a1 : den (.list (.int .i64))) (a2 : Int) : Option (denR (tNd 0 1) [(.row 24 (.int .i64) false), (.row 84 tapiPair false)]) := CF 126 [⟨(.int .u32), a0⟩, ⟨(.list (.int .i64)), a1⟩, ⟨(.int .i64), a2⟩] [] (tNd 0 1) [(.row 24 (.int .i64) false), (.row 84 tapiPair false)]
def mask_in (a0 : Int) : Option (den .bool) := CF 151 [⟨(.int .i64), a0⟩] [] .bool []
def mask_below (a0 : Int) : Option (den (.int .u32)) := CF 153 [⟨(.int .i64), a0⟩] [] (.int .u32) []
def math_bits_OnesCount32 (a0 : den (.int .u32)) : Option (den (.int .i64)) := CF 152 [⟨(.int .u32), a0⟩] [] (.int .i64) []
def slices_BinarySearchFuncQQ_string (a0 : den (.list tapiPair)) (a1 : den .str) : Option (den (.tcons (.int .i64) (.tcons .bool .tnil))) := CF 158 [⟨(.list tapiPair), a0⟩, ⟨.str, a1⟩, ⟨(.fn 159 .tnil), ()⟩] [] (.tcons (.int .i64) (.tcons .bool .tnil)) []
def slices_BinarySearchFuncQQ_string.l0 (x0 : den (.list tapiPair)) (x1 : den .str) (x2 : Int) (x3 : Int) (x4 : Int) : Option (den (.tcons (.int .i64) (.tcons .bool .tnil))) := loopW [1, 1, 1, 0, 0, 0] (BF 158 0 [1, 1, 1, 0, 0, 0]) ⟨[(0, ⟨(.list tapiPair), x0⟩), (1, ⟨.str, x1⟩), (2, ⟨(.fn 159 .tnil), ()⟩), (8, ⟨(.int .i64), x2⟩), (9, ⟨(.int .i64), x3⟩), (10, ⟨(.int .i64), x4⟩)], []⟩ (blockK 0 (seqK false [1, 1, 1, 1] (BF 158 0 [1, 1, 1, 1]) (finF 158 (.tcons (.int .i64) (.tcons .bool .tnil)) [] 0)))
def slices_DeleteQQ (a0 : Int) (a1 : Int) (a2 : denO (.row 84 tapiPair true)) : Option (denR (.own tapiPair 0) [(.row 84 tapiPair false)]) := CF 161 [⟨(.own tapiPair 0), ()⟩, ⟨(.int .i64), a0⟩, ⟨(.int .i64), a1⟩] [⟨(.row 84 tapiPair true), a2⟩] (.own tapiPair 0) [(.row 84 tapiPair false)]
def ref04_clamp (a0 : Int) : Option (den (.int .i64)) := CF 64 [⟨(.int .i64), a0⟩] [] (.int .i64) []
def ref04_Of (a0 : den .str) (a1 : Int) : Option (den (.int .u64)) := CF 165 [⟨.str, a0⟩, ⟨(.int .i64), a1⟩] [] (.int .u64) []
def ref04_Of.l0 (x0 : den .str) (x1 : Int) (x2 : den (.int .u64)) (x3 : Int) : Option (den (.int .u64)) := loopW [1, 1, 0, 1, 0, 0] (BF 165 0 [1, 1, 0, 1, 0, 0]) ⟨[(0, ⟨.str, x0⟩), (1, ⟨(.int .i64), x1⟩), (5, ⟨(.int .u64), x2⟩), (6, ⟨(.int .i64), x3⟩)], []⟩ (blockK 0 (seqK false [1, 1, 1] (BF 165 0 [1, 1, 1]) (finF 165 (.int .u64) [] 0)))
def ref04_Of.l1 (x0 : Int) (x1 : den (.int .u64)) (x2 : den (.int .u64)) (x3 : den (.int .u64)) (x4 : Int) : Option (den (.int .u64)) := loopW [1, 1, 1, 1, 0, 1, 0, 0] (BF 165 0 [1, 1, 1, 1, 0, 1, 0, 0]) ⟨[(1, ⟨(.int .i64), x0⟩), (5, ⟨(.int .u64), x1⟩), (7, ⟨(.int .u64), x2⟩), (8, ⟨(.int .u64), x3⟩), (9, ⟨(.int .i64), x4⟩)], []⟩ (blockK 2 (seqK false [1, 1, 1, 1, 1] (BF 165 0 [1, 1, 1, 1, 1]) (finF 165 (.int .u64) [] 0)))
def ref04_Chunk (a0 : den (.int .u64)) (a1 : Int) (a2 : Int) : Option (den (.int .i64)) := CF 164 [⟨(.int .u64), a0⟩, ⟨(.int .i64), a1⟩, ⟨(.int .i64), a2⟩] [] (.int .i64) []
def ref04_Chunk.l0 (x0 : den (.int .u64)) (x1 : Int) (x2 : Int) (x3 : Int) (x4 : Int) (x5 : Int) : Option (den (.int .i64)) := loopW [1, 1, 1, 0, 1, 0, 0] (BF 164 0 [1, 1, 1, 0, 1, 0, 0]) ⟨[(0, ⟨(.int .u64), x0⟩), (1, ⟨(.int .i64), x1⟩), (2, ⟨(.int .i64), x2⟩), (7, ⟨(.int .i64), x3⟩), (8, ⟨(.int .i64), x4⟩), (9, ⟨(.int .i64), x5⟩)], []⟩ (blockK 0 (seqK false [1, 1, 1, 1] (BF 164 0 [1, 1, 1, 1]) (finF 164 (.int .i64) [] 0)))
def slices_IndexFuncQQ (a0 : den (.list tapiPair)) : Option (den (.int .i64)) := CF 166 [⟨(.list tapiPair), a0⟩, ⟨(.fn 129 .tnil), ()⟩] [] (.int .i64) []
def slices_IndexFuncQQ.l0 (x0 : den (.list tapiPair)) (x1 : Int) (x2 : Int) : Option (den (.int .i64)) := loopW [1, 0, 1, 0, 0] (BF 166 0 [1, 0, 1, 0, 0]) ⟨[(0, ⟨(.list tapiPair), x0⟩), (1, ⟨(.fn 129 .tnil), ()⟩), (7, ⟨(.int .i64), x1⟩), (8, ⟨(.int .i64), x2⟩)], []⟩ (blockK 0 (seqK false [1, 1] (BF 166 0 [1, 1]) (finF 166 (.int .i64) [] 0)))
def slices_IndexRR (a0 : den (.list (.int .i64))) (a1 : Int) : Option (den (.int .i64)) := CF 167 [⟨(.list (.int .i64)), a0⟩, ⟨(.int .i64), a1⟩] [] (.int .i64) []
def slices_IndexRR.l0 (x0 : den (.list (.int .i64))) (x1 : Int) (x2 : Int) (x3 : Int) : Option (den (.int .i64)) := loopW [1, 0, 1, 0, 0] (BF 167 0 [1, 0, 1, 0, 0]) ⟨[(0, ⟨(.list (.int .i64)), x0⟩), (1, ⟨(.int .i64), x1⟩), (7, ⟨(.int .i64), x2⟩), (8, ⟨(.int .i64), x3⟩)], []⟩ (blockK 0 (seqK false [1, 1] (BF 167 0 [1, 1]) (finF 167 (.int .i64) [] 0)))
def order_Compare (a0 : den .str) (a1 : den .str) : Option (den (.int .i64)) := CF 160 [⟨.str, a0⟩, ⟨.str, a1⟩] [] (.int .i64) []
def order_Compare.j0 (x0 : den .str) (x1 : den .str) (x2 : Int) (x3 : Bool) : Option (den (.int .i64)) := jnO [1, 1, 0, 0, 1] (BF 160 0 [1, 1, 0, 0, 1]) ⟨[(0, ⟨.str, x0⟩), (1, ⟨.str, x1⟩), (5, ⟨(.int .i64), x2⟩), (9, ⟨.bool, x3⟩)], []⟩ (blockK 0 (seqK false [1, 1, 1] (BF 160 0 [1, 1, 1]) (finF 160 (.int .i64) [] 0)))
def pair_put (a0 : den (.list tapiPair)) (a1 : den tapiPair) : Option (denR (.own tapiPair 0) [(.row 84 tapiPair false)]) := CF 150 [⟨(.list tapiPair), a0⟩, ⟨tapiPair, a1⟩] [] (.own tapiPair 0) [(.row 84 tapiPair false)]
def tM_add (a0 : den tapiNode) (a1 : denO (.box (.pair (.int .i64) (.pair (.own tapiNode 1) .unit)))) (a2 : denO (.row 58 tapiNode true)) : Option (denR (.int .i64) [(.box (.pair (.int .i64) (.pair (.own tapiNode 1) .unit))), (.row 58 tapiNode false)]) := CF 168 [⟨(.ptr 0 0), ()⟩, ⟨tapiNode, a0⟩] [⟨(.box (.pair (.int .i64) (.pair (.own tapiNode 1) .unit))), a1⟩, ⟨(.row 58 tapiNode true), a2⟩] (.int .i64) [(.box (.pair (.int .i64) (.pair (.own tapiNode 1) .unit))), (.row 58 tapiNode false)]
abbrev tM_parted.go (level bits : Int) (l : List (den tapiPair)) (m : den (.mp tapiPair)) (s : Int) : Option (den (.mp tapiPair) × Int) := partL CF 63 73 111 (.pair .str .unit) level bits l m s
def tM_parted (a0 : den (.list tapiPair)) (a1 : Int) (a2 : denO (.box (.pair (.int .i64) (.pair (.own tapiNode 1) .unit)))) (a3 : denO (.row 58 tapiNode true)) : Option (denR (.tcons (.mp tapiPair) (.tcons (.int .u32) .tnil)) [(.box (.pair (.int .i64) (.pair (.own tapiNode 1) .unit))), (.row 58 tapiNode true)]) := CF 169 [⟨(.ptr 0 0), ()⟩, ⟨(.list tapiPair), a0⟩, ⟨(.int .i64), a1⟩] [⟨(.box (.pair (.int .i64) (.pair (.own tapiNode 1) .unit))), a2⟩, ⟨(.row 58 tapiNode true), a3⟩] (.tcons (.mp tapiPair) (.tcons (.int .u32) .tnil)) [(.box (.pair (.int .i64) (.pair (.own tapiNode 1) .unit))), (.row 58 tapiNode true)]
def mask_All (a0 : den (.int .u32)) : Option (den (.list (.int .i64))) := CF 170 [⟨(.int .u32), a0⟩] [] (.list (.int .i64)) []
def mask_All.l0 (x0 : den (.int .u32)) (x1 : Int) (x2 : denO (.row 3 (.int .i64) false)) : Option (den (.list (.int .i64))) := loopW [1, 0, 1, 1, 1, 0, 0, 0] (BF 170 0 [1, 0, 1, 1, 1, 0, 0, 0]) ⟨[(0, ⟨(.int .u32), x0⟩), (3, ⟨(.own (.int .i64) 0), ()⟩), (4, ⟨(.int .i64), x1⟩)], [⟨(.row 3 (.int .i64) false), x2⟩]⟩ (blockK 0 (seqK false [1, 0, 1, 1, 1, 1] (BF 170 0 [1, 0, 1, 1, 1, 1]) (finF 170 (.list (.int .i64)) [] 0)))
def heap_bare (a0 : den tapiNode) : Option (den tapiNode) := CF 171 [⟨tapiNode, a0⟩] [] tapiNode []
def heap_bare.l0 (x0 : Int) (x1 : Int) (x2 : denO (.box (tNd 2 3))) (x3 : denO (.box (tNd 4 5))) (x4 : denO (.row 24 (.int .i64) false)) (x5 : denO (.row 84 tapiPair false)) (x6 : denO (.row 24 (.int .i64) false)) (x7 : denO (.row 84 tapiPair false)) : Option (den tapiNode) := loopW [1, 1, 0, 1, 0, 0] (BF 171 0 [1, 1, 0, 1, 0, 0]) ⟨[(1, ⟨(.ptr 0 0), ()⟩), (2, ⟨(.ptr 1 0), ()⟩), (8, ⟨(.int .i64), x0⟩), (9, ⟨(.int .i64), x1⟩)], [⟨(.box (tNd 2 3)), x2⟩, ⟨(.box (tNd 4 5)), x3⟩, ⟨(.row 24 (.int .i64) false), x4⟩, ⟨(.row 84 tapiPair false), x5⟩, ⟨(.row 24 (.int .i64) false), x6⟩, ⟨(.row 84 tapiPair false), x7⟩]⟩ (blockK 0 (seqK false [1, 1, 1] (BF 171 0 [1, 1, 1]) (finF 171 tapiNode [] 0)))
def slices_IndexFuncRR (a0 : den (.list (.int .i64))) (a1 : den (.fn 143 (.tcons (.ptr 0 0) .tnil))) (a2 : denO (.box (.int .i64))) : Option (denR (.int .i64) [(.box (.int .i64))]) := CF 172 [⟨(.list (.int .i64)), a0⟩, ⟨(.fn 143 (.tcons (.ptr 0 0) .tnil)), a1⟩] [⟨(.box (.int .i64)), a2⟩] (.int .i64) [(.box (.int .i64))]
def slices_IndexFuncRR.l0 (x0 : den (.list (.int .i64))) (x1 : den (.fn 143 (.tcons (.ptr 0 0) .tnil))) (x2 : Int) (x3 : Int) (x4 : denO (.box (.int .i64))) : Option (denR (.int .i64) [(.box (.int .i64))]) := loopW [1, 0, 1, 0, 0] (BF 172 1 [1, 0, 1, 0, 0]) ⟨[(0, ⟨(.list (.int .i64)), x0⟩), (1, ⟨(.fn 143 (.tcons (.ptr 0 0) .tnil)), x1⟩), (7, ⟨(.int .i64), x2⟩), (8, ⟨(.int .i64), x3⟩)], [⟨(.box (.int .i64)), x4⟩]⟩ (blockK 0 (seqK false [1, 1] (BF 172 1 [1, 1]) (finF 172 (.int .i64) [(.box (.int .i64))] 1)))
def slices_IndexFuncRR_v1 (a0 : den (.list (.int .i64))) : Option (den (.int .i64)) := CF 172 [⟨(.list (.int .i64)), a0⟩, ⟨(.fn 145 .tnil), ()⟩] [] (.int .i64) []
def slices_IndexFuncRR_v1.l0 (x0 : den (.list (.int .i64))) (x1 : Int) (x2 : Int) : Option (den (.int .i64)) := loopW [1, 0, 1, 0, 0] (BF 172 0 [1, 0, 1, 0, 0]) ⟨[(0, ⟨(.list (.int .i64)), x0⟩), (1, ⟨(.fn 145 .tnil), ()⟩), (7, ⟨(.int .i64), x1⟩), (8, ⟨(.int .i64), x2⟩)], []⟩ (blockK 0 (seqK false [1, 1] (BF 172 0 [1, 1]) (finF 172 (.int .i64) [] 0)))
def slices_IndexFuncRR_v2 (a0 : den (.list (.int .i64))) (a1 : den (.fn 147 (.tcons (.ptr 0 0) .tnil))) (a2 : denO (.box (.list tapiNode))) : Option (denR (.int .i64) [(.box (.list tapiNode))]) := CF 172 [⟨(.list (.int .i64)), a0⟩, ⟨(.fn 147 (.tcons (.ptr 0 0) .tnil)), a1⟩] [⟨(.box (.list tapiNode)), a2⟩] (.int .i64) [(.box (.list tapiNode))]
def slices_IndexFuncRR_v2.l0 (x0 : den (.list (.int .i64))) (x1 : den (.fn 147 (.tcons (.ptr 0 0) .tnil))) (x2 : Int) (x3 : Int) (x4 : denO (.box (.list tapiNode))) : Option (denR (.int .i64) [(.box (.list tapiNode))]) := loopW [1, 0, 1, 0, 0] (BF 172 1 [1, 0, 1, 0, 0]) ⟨[(0, ⟨(.list (.int .i64)), x0⟩), (1, ⟨(.fn 147 (.tcons (.ptr 0 0) .tnil)), x1⟩), (7, ⟨(.int .i64), x2⟩), (8, ⟨(.int .i64), x3⟩)], [⟨(.box (.list tapiNode)), x4⟩]⟩ (blockK 0 (seqK false [1, 1] (BF 172 1 [1, 1]) (finF 172 (.int .i64) [(.box (.list tapiNode))] 1)))
def ref_Kind (a0 : Int) : Option (den (.int .i64)) := CF 173 [⟨(.int .i64), a0⟩] [] (.int .i64) []
def ref13_long (a0 : den tapiNode) : Option (den .bool) := CF 156 [⟨tapiNode, a0⟩] [] .bool []
def ref13_long.l0 (x0 : Bool) (x1 : Int) (x2 : denO (.box tapiNode)) : Option (den .bool) := loopW [1, 1, 0, 1, 0, 0] (BF 156 0 [1, 1, 0, 1, 0, 0]) ⟨[(1, ⟨(.ptr 0 0), ()⟩), (3, ⟨.bool, x0⟩), (4, ⟨(.int .i64), x1⟩)], [⟨(.box tapiNode), x2⟩]⟩ (blockK 0 (seqK false [1, 1, 1] (BF 156 0 [1, 1, 1]) (finF 156 .bool [] 0)))
def ref13_form (a0 : den tapiNode) : Option (den .bool) := CF 157 [⟨tapiNode, a0⟩] [] .bool []
def ref13_form.j0 (x0 : Int) (x1 : Bool) (x2 : denO (.box tapiNode)) : Option (den .bool) := jnO [1, 1, 0, 1, 0, 1] (BF 157 0 [1, 1, 0, 1, 0, 1]) ⟨[(1, ⟨(.ptr 0 0), ()⟩), (8, ⟨(.int .i64), x0⟩), (9, ⟨.bool, x1⟩)], [⟨(.box tapiNode), x2⟩]⟩ (blockK 0 (seqK false [1, 1, 1] (BF 157 0 [1, 1, 1]) (finF 157 .bool [] 0)))
def ref13_form.l1 (x0 : Int) (x1 : denO (.box tapiNode)) : Option (den .bool) := loopW [1, 1, 0, 1, 0, 1, 1, 1, 0, 0, 1, 0, 0] (BF 157 0 [1, 1, 0, 1, 0, 1, 1, 1, 0, 0, 1, 0, 0]) ⟨[(1, ⟨(.ptr 0 0), ()⟩), (3, ⟨(.int .i64), x0⟩)], [⟨(.box tapiNode), x1⟩]⟩ (blockK 1 (seqK false [1, 1, 0, 1, 0, 1, 1, 1, 0, 1] (BF 157 0 [1, 1, 0, 1, 0, 1, 1, 1, 0, 1]) (blockK 0 (seqK false [1, 1, 1] (BF 157 0 [1, 1, 1]) (finF 157 .bool [] 0)))))
def pair_place_1 (a0 : den tapiPair) (a1 : den .str) : Option (den (.int .i64)) := CF 159 [⟨tapiPair, a0⟩, ⟨.str, a1⟩] [] (.int .i64) []
def ref04_bit (a0 : den (.int .u64)) (a1 : Int) : Option (den (.int .i64)) := CF 180 [⟨(.int .u64), a0⟩, ⟨(.int .i64), a1⟩] [] (.int .i64) []
def ref04_bit.l0 (x0 : den (.int .u64)) (x1 : Int) (x2 : Int) : Option (den (.int .i64)) := loopW [1, 0, 1, 0, 0] (BF 180 0 [1, 0, 1, 0, 0]) ⟨[(0, ⟨(.int .u64), x0⟩), (1, ⟨(.int .i64), x1⟩), (5, ⟨(.int .i64), x2⟩)], []⟩ (blockK 0 (seqK false [1, 1] (BF 180 0 [1, 1]) (finF 180 (.int .i64) [] 0)))
def order_Common (a0 : den .str) (a1 : den .str) : Option (den (.int .i64)) := CF 179 [⟨.str, a0⟩, ⟨.str, a1⟩] [] (.int .i64) []
def order_Common.l0 (x0 : den .str) (x1 : den .str) (x2 : Int) (x3 : Int) (x4 : Int) : Option (den (.int .i64)) := loopW [1, 1, 0, 1, 0, 0] (BF 179 0 [1, 1, 0, 1, 0, 0]) ⟨[(0, ⟨.str, x0⟩), (1, ⟨.str, x1⟩), (5, ⟨(.int .i64), x2⟩), (12, ⟨(.int .i64), x3⟩), (13, ⟨(.int .i64), x4⟩)], []⟩ (blockK 0 (seqK false [1, 1, 1] (BF 179 0 [1, 1, 1]) (finF 179 (.int .i64) [] 0)))
def slices_InsertQQ (a0 : Int) (a1 : denO (.row 84 tapiPair true)) (a2 : denO (.row 84 tapiPair true)) : Option (denR (.own tapiPair 0) [(.row 84 tapiPair false), (.row 84 tapiPair true)]) := CF 174 [⟨(.own tapiPair 0), ()⟩, ⟨(.int .i64), a0⟩, ⟨(.own tapiPair 1), ()⟩] [⟨(.row 84 tapiPair true), a1⟩, ⟨(.row 84 tapiPair true), a2⟩] (.own tapiPair 0) [(.row 84 tapiPair false), (.row 84 tapiPair true)]
def mask_Next (a0 : den (.int .u32)) (a1 : Int) : Option (den (.tcons (.int .i64) (.tcons .bool .tnil))) := CF 181 [⟨(.int .u32), a0⟩, ⟨(.int .i64), a1⟩] [] (.tcons (.int .i64) (.tcons .bool .tnil)) []
def plan_May_1 (a0 : Int) (a1 : denO (.box (.int .i64))) : Option (denR .bool [(.box (.int .i64))]) := CF 143 [⟨(.int .i64), a0⟩, ⟨(.ptr 0 0), ()⟩] [⟨(.box (.int .i64)), a1⟩] .bool [(.box (.int .i64))]
def plan_May_2 (a0 : Int) : Option (den .bool) := CF 145 [⟨(.int .i64), a0⟩] [] .bool []
def plan_fits_1 (a0 : Int) (a1 : denO (.box (.list tapiNode))) : Option (denR .bool [(.box (.list tapiNode))]) := CF 147 [⟨(.int .i64), a0⟩, ⟨(.ptr 0 0), ()⟩] [⟨(.box (.list tapiNode)), a1⟩] .bool [(.box (.list tapiNode))]
def ref_Make (a0 : Int) (a1 : Int) : Option (den (.tcons (.int .i64) (.tcons (.int .i64) .tnil))) := CF 182 [⟨(.int .i64), a0⟩, ⟨(.int .i64), a1⟩] [] (.tcons (.int .i64) (.tcons (.int .i64) .tnil)) []
def ref13_bare (a0 : den tapiNode) (a1 : Bool) (a2 : Bool) (a3 : Bool) (a4 : Bool) : Option (den .bool) := CF 176 [⟨tapiNode, a0⟩, ⟨.bool, a1⟩, ⟨.bool, a2⟩, ⟨.bool, a3⟩, ⟨.bool, a4⟩] [] .bool []
def ref07_Is (a0 : den (.list tapiPair)) : Option (den .bool) := CF 178 [⟨(.list tapiPair), a0⟩] [] .bool []
def ref07_Is.l0 (x0 : den (.list tapiPair)) (x1 : Int) : Option (den .bool) := loopW [1, 0, 1, 0, 0] (BF 178 0 [1, 0, 1, 0, 0]) ⟨[(0, ⟨(.list tapiPair), x0⟩), (3, ⟨(.int .i64), x1⟩)], []⟩ (blockK 0 (seqK false [1, 1] (BF 178 0 [1, 1]) (finF 178 .bool [] 0)))
def ref06_All (a0 : den (.int .u32)) : Option (den (.list (.int .i64))) := CF 177 [⟨(.int .u32), a0⟩] [] (.list (.int .i64)) []
def ref06_All.l0 (x0 : den (.int .u32)) (x1 : Int) (x2 : denO (.row 3 (.int .i64) false)) : Option (den (.list (.int .i64))) := loopW [1, 1, 0, 1, 0, 0] (BF 177 0 [1, 1, 0, 1, 0, 0]) ⟨[(0, ⟨(.int .u32), x0⟩), (3, ⟨(.own (.int .i64) 0), ()⟩), (4, ⟨(.int .i64), x1⟩)], [⟨(.row 3 (.int .i64) false), x2⟩]⟩ (blockK 0 (seqK false [1, 1, 1] (BF 177 0 [1, 1, 1]) (finF 177 (.list (.int .i64)) [] 0)))
def math_bits_TrailingZeros32 (a0 : den (.int .u32)) : Option (denR (.int .i64) []) := CF 187 [⟨(.int .u32), a0⟩] [] (.int .i64) []
def plan_has (a0 : den (.list tapiNode)) (a1 : Int) : Option (den .bool) := CF 148 [⟨(.list tapiNode), a0⟩, ⟨(.int .i64), a1⟩] [] .bool []
def ref06_Has (a0 : den (.int .u32)) (a1 : Int) : Option (den .bool) := CF 186 [⟨(.int .u32), a0⟩, ⟨(.int .i64), a1⟩] [] .bool []
def ref06_Has.l0 (x0 : den (.int .u32)) (x1 : Int) (x2 : Int) : Option (den .bool) := loopW [1, 0, 1, 0, 0] (BF 186 0 [1, 0, 1, 0, 0]) ⟨[(0, ⟨(.int .u32), x0⟩), (1, ⟨(.int .i64), x1⟩), (5, ⟨(.int .i64), x2⟩)], []⟩ (blockK 0 (seqK false [1, 1] (BF 186 0 [1, 1]) (finF 186 .bool [] 0)))
end
end Go.Proofs.YtjekopgcpikkiaaGreatDoor.AM
