/- slices.Delete, walked: the function 95 of the program, whatever it reads. No conditions. -/
import Derived.Test.YtobfcaejpcpboaaProg
import Derived.Test.YtobfcaejpcpboaaPrm
import Derived.WalkKit
import Derived.Deep.RegionLaw
import Derived.Shelf.RegionOpenPlain
import Derived.Lib.Walk
import Derived.Lib.SliceRun
import Derived.Lib.SlicesDelete
import Derived.Laws.AppendOwn
set_option linter.unusedVariables false
set_option linter.unusedSimpArgs false
namespace Go.Proofs.Ytobfcaejpcpboaa.Del95
open Go.Abs Go.RowKit Go.Lib Go.Proofs
theorem run_clear_k {P : Program} (w : World) (t e ty : TypeId) (z : Value) (k : Nat) (ht : P.underlying t = some (.slice e)) (hv : ∀ w, (zeroValue e).run P w = .ok z w) (hz : z.cells.size = k) (h1 : ∀ u ∈ z.cells.toList, u.oneCell' = true) (hk : 0 < k) (b o n c : Nat) (hn : 0 < n)
    (hc : ∀ j, j < n * k → (w.cell? ⟨b, o + j, none⟩).isSome = true) (hf : ∀ j, j < n * k → w.frozen? ⟨b, o + j, none⟩ = false) :
    (Builtin.clear_ #[t] ty #[.slice (some ⟨b, o, none⟩) n c]).run P w = .ok (.tuple #[]) (w.setCells b o (Builtin.zeroCells z.cells n).toList) := by
  have hl : (Builtin.zeroCells z.cells n).toList.length = n * k := by rw [Array.length_toList, size_zeroCells, hz]
  have h2 : ∀ u ∈ (Builtin.zeroCells z.cells n).toList, u.oneCell' = true := by
    intro u hu
    unfold Builtin.zeroCells at hu
    simp only [Array.toList_map, Array.toList_range, List.mem_map, List.mem_range] at hu
    obtain ⟨i, hi, rfl⟩ := hu
    have : i % z.cells.size < z.cells.size := Nat.mod_lt _ (by omega)
    rw [getElem!_pos z.cells _ this]
    exact h1 _ (Array.getElem_mem_toList this)
  have hst := run_storeCells_cells (P := P) b o (Builtin.zeroCells z.cells n).toList 0 w (by rw [hl]; simpa using hc) (by rw [hl]; simpa using hf) h2
  simp only [Nat.add_zero] at hst
  obtain ⟨m, rfl⟩ : ∃ m, n = m + 1 := ⟨n - 1, by omega⟩
  simp [Builtin.clear_, run_underlying ht, hv, hst]
set_option maxHeartbeats 4000000 in
set_option maxRecDepth 100000 in
/-- Nothing is taken out. -/
theorem none_ {P : Program} {k : Nat} (hf : P.funcs[95]? = some Try.f95) (mixed : P.follows .mixedOrders = true) (t3 : P.underlying 3 = some (.int .i64)) (t4 : P.underlying 4 = some .bool) (tS : P.underlying 23 = some (.slice 24)) (zE : ∀ w, (Go.sizeOf 24).run P w = .ok k w)
    (ad : Option Addr) (n c i : Nat) (w : World) (hin : i ≤ n) (hnc : n ≤ c) (hc : c ≤ 9223372036854775807) (hnil : ad = none → n = 0 ∧ c = 0) :
    Calls P 95 #[.slice ad n c, .int .i64 i, .int .i64 i] w fun e w' => e = .returned (.slice ad n c) ∧ w' = w := by
  have u3 := run_underlying t3; have u4 := run_underlying t4; have uS := run_underlying tS
  go_enter hf, Try.ntmps95
  cases ad with
  | none =>
    obtain ⟨rfl, rfl⟩ := hnil rfl
    obtain rfl : i = 0 := by omega
    go_wp2
    all_goals (go_ret; exact ⟨rfl, rfl⟩)
  | some a =>
    obtain ⟨ab, ao, asp⟩ := a
    go_wp2
    all_goals (go_ret; exact ⟨rfl, rfl⟩)
set_option maxHeartbeats 4000000 in
set_option maxRecDepth 100000 in
/-- Things are taken out of a row. -/
theorem cut {P : Program} {k : Nat} (hf : P.funcs[95]? = some Try.f95) (mixed : P.follows .mixedOrders = true) (t3 : P.underlying 3 = some (.int .i64)) (t4 : P.underlying 4 = some .bool) (tS : P.underlying 23 = some (.slice 24)) (zE : ∀ w, (Go.sizeOf 24).run P w = .ok k w)
    {i0 : TypeInfo} {z : Value} {zc : Array Value} (hzq : zc = z.cells) (hi0 : P.info? 24 = some i0) (hz0 : i0.zero = some z) (hzs : i0.size = k) (hzc : z.cells.size = k) (hz1 : ∀ u ∈ z.cells.toList, u.oneCell' = true) (hk : 0 < k)
    (b n c i j : Nat) (cs : List Value) (w : World) (hij : i < j) (hj : j ≤ n) (hnc : n ≤ c) (hc63 : c ≤ 9223372036854775807) {cur : Array Value} {e : TypeId} (hb : w.heap[b]? = some (.cells cur e (0, 0))) (hcur : cur.size = c * k)
    (hcl : cs.length = n * k) (hcs : At w b 0 cs) (h1c : ∀ v ∈ cs, v.oneCell' = true) :
    Calls P 95 #[.slice (some ⟨b, 0, none⟩) n c, .int .i64 i, .int .i64 j] w fun e w' =>
      e = .returned (.slice (some ⟨b, 0, none⟩) (i + (n - j)) c) ∧ w' = (w.drew.setCells b (i * k) (cs.drop (j * k))).setCells b ((i + (n - j)) * k) (Builtin.zeroCells zc (n - (i + (n - j)))).toList := by
  have u3 := run_underlying t3; have u4 := run_underlying t4; have uS := run_underlying tS
  have hle : n * k ≤ c * k := Nat.mul_le_mul_right k hnc
  obtain ⟨news, hnews⟩ : ∃ news, news = cs.drop (j * k) := ⟨_, rfl⟩
  have hlen : news.length = (n - j) * k := by rw [hnews, List.length_drop, hcl, Nat.sub_mul]
  obtain ⟨A, hA, hsrc⟩ : ∃ A : Addr, (if c = j then some (⟨b, 0, none⟩ : Addr) else some ⟨b, j * k, none⟩) = some A ∧ Hid (∀ t u, news[t]? = some u → w.drew.cell? (A.add t) = some u) := by
    by_cases h : c = j
    · refine ⟨⟨b, 0, none⟩, by simp [h], fun t u hu => ?_⟩
      have h0 : news.length = 0 := by rw [hlen, show n - j = 0 by omega, Nat.zero_mul]
      rw [List.length_eq_zero_iff.1 h0] at hu
      simp at hu
    · refine ⟨⟨b, j * k, none⟩, by simp [h], fun t u hu => ?_⟩
      rw [hnews, List.getElem?_drop] at hu
      rw [Addr.add_lit]
      have := hcs (j * k + t) u hu
      rw [Nat.zero_add] at this
      exact this
  have s1 : Hid (news.length = (n - j) * k) := hlen
  have s2 : Hid (∀ u ∈ news, u.oneCell' = true) := by
    intro u hu
    rw [hnews] at hu
    exact h1c u (List.mem_of_mem_drop hu)
  have hik : i * k + (n - j) * k = (i + (n - j)) * k := (Nat.add_mul _ _ _).symm
  have hin : (i + (n - j)) * k ≤ n * k := Nat.mul_le_mul_right k (by omega)
  have hall : (i + (n - j)) * k + (n - (i + (n - j))) * k = n * k := by rw [← Nat.add_mul]; congr 1; omega
  have s3 : Hid (∀ t, t < news.length → (w.drew.cell? ⟨b, 0 + i * k + t, none⟩).isSome = true ∧ w.drew.frozen? ⟨b, 0 + i * k + t, none⟩ = false) := by
    intro t ht
    rw [hlen] at ht
    exact ⟨cells_some (w := w.drew) (cur := cur) (e := e) (fz := (0, 0)) hb (by omega), cells_thawed (w := w.drew) (cur := cur) (e := e) hb⟩
  obtain ⟨W1, hW1⟩ : ∃ W1, W1 = w.drew.setCells b (0 + i * k) news := ⟨_, rfl⟩
  obtain ⟨c', q1, q2, q3⟩ := setCells_heap (b := b) news (0 + i * k) w.drew cur hb (by rw [hlen]; omega)
  rw [← hW1] at q1
  have hzv : ∀ w, (zeroValue 24).run P w = .ok z w := fun w => by simp [zeroValue, typeInfo, hi0, hz0]
  have hcl' : ∀ ty, (Builtin.clear_ #[23] ty #[.slice (some ⟨b, (i + (n - j)) * k, none⟩) (n - (i + (n - j))) (c - (i + (n - j)))]).run P W1 = .ok (.tuple #[]) (W1.setCells b ((i + (n - j)) * k) (Builtin.zeroCells zc (n - (i + (n - j)))).toList) :=
    fun ty => by
      rw [hzq]
      exact run_clear_k W1 _ _ ty z k tS hzv hzc hz1 hk b _ _ _ (by omega) (fun t ht => cells_some q1 (by rw [q2]; omega)) (fun t ht => cells_thawed q1)
  have hW : Hid (W1 = w.drew.setCells b (0 + i * k) news) := hW1
  have hX : Hid (W1 = w.drew.setCells b (i * k) (cs.drop (j * k))) := by rw [hW1, hnews, Nat.zero_add]; exact rfl
  have hic : i ≤ c := by omega
  have hjc : j ≤ c := by omega
  have hin' : i ≤ n := by omega
  clear hW1 hcs hnews hlen q1 q2 q3 hzv hzq hz1 hzc hz0 hik hin hall hle hcur hcl
  go_enter hf, Try.ntmps95
  go_wp2_with fail
  go_region_law_o (refine step_append_room rfl (.tmp 22) (.tmp 25) 23 rfl 24 i0 k tS hi0 hzs b 0 i c (by simp [Act.eval, Act.put]) A (n - j) (c - j) news (by simp [Act.eval, Act.put]) s1.out hsrc.out s2.out (by omega) s3.out ?_; rw [← hW.out])
  go_wp2
  all_goals (go_ret; exact ⟨rfl, by rw [hX.out]⟩)
theorem lay4 {A : Type} (C Z cs : List A) (ik jk nk dk : Nat) (hC : C.take nk = cs) (hnk : nk ≤ C.length) (hi : ik ≤ jk) (hj : jk ≤ nk) (hd : (cs.drop jk).length = dk) :
    (((C.take ik ++ cs.drop jk ++ C.drop (ik + (cs.drop jk).length)).take (ik + dk) ++ Z ++ (C.take ik ++ cs.drop jk ++ C.drop (ik + (cs.drop jk).length)).drop (ik + dk + Z.length))).take (ik + dk) = cs.take ik ++ cs.drop jk := by
  have hcl : cs.length = nk := by rw [← hC, List.length_take, Nat.min_eq_left hnk]
  have h1 : (C.take ik).length = ik := by rw [List.length_take]; omega
  have e0 : C.take ik = cs.take ik := by rw [← hC, List.take_take, Nat.min_eq_left (by omega)]
  have e1 : (C.take ik ++ cs.drop jk ++ C.drop (ik + (cs.drop jk).length)).take (ik + dk) = cs.take ik ++ cs.drop jk := by
    rw [List.take_append_of_le_length (by rw [List.length_append]; omega), List.take_of_length_le (by rw [List.length_append]; omega), e0]
  have h2 : (cs.take ik ++ cs.drop jk).length = ik + dk := by rw [List.length_append, ← e0, h1, hd]
  rw [e1, List.append_assoc, List.take_append_of_le_length (by omega), List.take_of_length_le (by omega)]
theorem at_block {w : World} {b n k : Nat} {cur : Array Value} {e : TypeId} {fz : Nat × Nat} {cs : List Value} (h : w.heap[b]? = some (.cells cur e fz)) (ht : cur.toList.take n = cs) : At w b 0 cs := by
  intro j v hj
  rw [Nat.zero_add]
  rw [← ht, List.getElem?_take] at hj
  split at hj
  · simp only [World.cell?, h]
    simpa using hj
  · cases hj
theorem walk {P : Program} {k : Nat} (hf : P.funcs[95]? = some Try.f95) (mixed : P.follows .mixedOrders = true) (t3 : P.underlying 3 = some (.int .i64)) (t4 : P.underlying 4 = some .bool) {ti : TI} (hg : Go.Abs.Good P 24 ti) (tS : P.underlying 23 = some (.slice 24))
    (hk : ti.siz = k) (hk0 : 0 < k) (hza : ti.zer.t.alive = true) (hzc1 : ti.zer.t.cel = true) : DelWalk P 95 24 k := by
  intro w L0 n i j cs h0 hi hj hcl h1c
  have zE : ∀ w, (Go.sizeOf 24).run P w = .ok k w := fun w => by rw [← hk]; exact hg.size w
  obtain ⟨i0, hi0, hs0, hby0, hzz⟩ := hg.info
  obtain ⟨z, hz0, hzc, hzn, hzv⟩ := hzz hza
  have hz1 : ∀ u ∈ z.cells.toList, u.oneCell' = true := (VR_cells (w := w) (Fr := fun _ => False) (mu := fun _ => nilLoc) (p := fun _ => True) (fun _ => rfl) (hzv _ _ _) hzc1 hza (hzn _)).2
  have stay : ∀ (ad : Option Addr) (c : Nat), L0.hdr = .slice ad n c → n ≤ c → c ≤ 9223372036854775807 → (ad = none → n = 0 ∧ c = 0) → i = j → Calls P 95 #[L0.hdr, .int .i64 i, .int .i64 j] w fun e' w' => ∃ L', e' = .returned L'.hdr ∧ RowAt w' L' 24 k (n - (j - i)) (cs.take (i * k) ++ cs.drop (j * k)) ∧ Grow (fun b => L0.hdr.ownBlock = some L0.loc ∧ b = L0.loc) w w' ∧
    (L'.hdr.ownBlock = some L'.loc → L'.loc < w'.heap.size ∧ ((L0.hdr.ownBlock = some L0.loc ∧ L'.loc = L0.loc) ∨ w.heap.size ≤ L'.loc)) ∧ L'.hdr.oneCell' = true := by
    intro ad c hh hnc hcm hnil hij
    subst hij
    have hcall := none_ (k := k) hf mixed t3 t4 tS zE ad n c i w hj hnc hcm hnil
    rw [← hh] at hcall
    refine Calls.mono hcall ?_
    rintro e' w' ⟨rfl, rfl⟩
    rw [Nat.sub_self, Nat.sub_zero, List.take_append_drop]
    refine ⟨L0, rfl, h0, Grow.refl _ w', fun ho => ⟨?_, .inl ⟨ho, rfl⟩⟩, by rw [hh]; rfl⟩
    rcases h0 with ⟨_, _, _, hno⟩ | ⟨_, _, ⟨h, _⟩ | ⟨g, cap, cur, h, _, hcell, _⟩⟩
    · exact absurd ho hno
    · rw [h] at ho; cases ho
    · rw [h] at ho
      injection ho with ho
      have ho : g = L0.loc := ho
      rw [← ho]
      exact (Array.getElem?_eq_some_iff.1 hcell).1
  have h00 := h0
  rcases h0 with ⟨ad, hh, hn0, _⟩ | ⟨hob, hlen0, ⟨hh, hn0⟩ | ⟨g, cap, cur, hh, _, hcell, hnc, hcm, hcs, htk⟩⟩
  · subst hn0
    cases ad with
    | none => exact stay none 0 hh (Nat.le_refl _) (by omega) (fun _ => ⟨rfl, rfl⟩) (by omega)
    | some a => exact stay (some a) 0 hh (Nat.le_refl _) (by omega) (fun h => by cases h) (by omega)
  · rw [hh] at hob
    cases hob
  · by_cases hin : i = j
    · exact stay _ cap hh hnc (by unfold maxLen at hcm; omega) (fun h => by cases h) hin
    have hlt : i < j := by omega
    have hloc : L0.loc = g := by rw [hh] at hob; injection hob with hob; exact hob.symm
    have hcsat : At w g 0 cs := at_block (k := k) hcell htk
    have hcurl : cur.toList.length = cap * k := by simpa using hcs
    have hnk : n * k ≤ cap * k := Nat.mul_le_mul_right k hnc
    have hik : i * k ≤ j * k := Nat.mul_le_mul_right k hi
    have hjk : j * k ≤ n * k := Nat.mul_le_mul_right k hj
    have hdl : (cs.drop (j * k)).length = (n - j) * k := by rw [List.length_drop, hcl, Nat.sub_mul]
    have hsum : i * k + (n - j) * k = (i + (n - j)) * k := (Nat.add_mul _ _ _).symm
    have hall : (i + (n - j)) * k + (n - (i + (n - j))) * k = n * k := by rw [← Nat.add_mul]; congr 1; omega
    rw [hh]
    refine Calls.mono (cut hf mixed t3 t4 tS zE rfl hi0 hz0 (by rw [hs0, hk]) (by rw [hzc, hk]) hz1 hk0 g n cap i j cs w hlt hj hnc (by unfold maxLen at hcm; omega) hcell hcs hcl hcsat h1c) ?_
    rintro e' w' ⟨rfl, rfl⟩
    have hZl : (Builtin.zeroCells z.cells (n - (i + (n - j)))).toList.length = (n - (i + (n - j))) * k := by rw [Array.length_toList, size_zeroCells, hzc, hk]
    obtain ⟨c', q1, q2, q3⟩ := setCells_heap (b := g) (cs.drop (j * k)) (i * k) w.drew cur hcell (by rw [hdl]; omega)
    obtain ⟨c'', r1, r2, r3⟩ := setCells_heap (b := g) (Builtin.zeroCells z.cells (n - (i + (n - j)))).toList ((i + (n - j)) * k) (w.drew.setCells g (i * k) (cs.drop (j * k))) c' q1 (by rw [q2, hcs, hZl]; omega)
    have hnn : n - (j - i) = i + (n - j) := by omega
    rw [hnn]
    refine ⟨⟨g, .slice (some ⟨g, 0, none⟩) (i + (n - j)) cap⟩, rfl, .inr ⟨rfl, ?_, .inr ⟨g, cap, c'', rfl, Nat.zero_le _, r1, by omega, hcm, by rw [r2, q2, hcs], ?_⟩⟩, ?_, ?_, rfl⟩
    · rw [List.length_append, hdl, List.length_take, hcl, Nat.min_eq_left (by omega)]; exact hsum
    · rw [r3, q3, ← hsum]
      exact lay4 cur.toList _ cs (i * k) (j * k) (n * k) ((n - j) * k) htk (by rw [hcurl]; exact hnk) hik hjk hdl
    · have hgr : Grow (fun x => x = g) w ((w.drew.setCells g (i * k) (cs.drop (j * k))).setCells g ((i + (n - j)) * k) (Builtin.zeroCells z.cells (n - (i + (n - j)))).toList) :=
        Grow.trans (b := w.drew) (Grow.drew w) (Grow.trans (setCells_grow g _ _ _) (setCells_grow g _ _ _) (fun _ _ h => h)) (fun _ _ h => h)
      exact ⟨hgr.os, hgr.tape, hgr.output, hgr.size, fun x hx hn => hgr.block x hx (fun e => hn ⟨by rw [← hh]; exact hob, by rw [hloc]; exact e⟩)⟩
    · intro _
      refine ⟨(Array.getElem?_eq_some_iff.1 r1).1, .inl ⟨by rw [← hh]; exact hob, hloc.symm⟩⟩
end Go.Proofs.Ytobfcaejpcpboaa.Del95
