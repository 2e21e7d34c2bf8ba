/- Texts of one proof, laid together: how the interpreter's words stand for the program's code and what the functions do. No conditions but those that each lemma names. -/
import Derived.Test.YtjekopgcpikkiaaGreatDoorM5
set_option linter.unusedSimpArgs false
set_option linter.unusedVariables false
set_option linter.unusedSimpArgs false
namespace Go.Proofs.YtjekopgcpikkiaaGreatDoor.AM
open Go.Abs
abbrev StepV := Int × Int × ByteArray × ByteArray × Int × List Int × Int × List PairV × Int × Int × Int × Unit
def stepV (r : Int) (n : NodeV) (i : Int) : StepV := (r, (n.1, (n.2.1, (n.2.2.1, (n.2.2.2.1, (n.2.2.2.2.1, (n.2.2.2.2.2.1, (n.2.2.2.2.2.2.1, (n.2.2.2.2.2.2.2.1, (n.2.2.2.2.2.2.2.2.1, (i, ())))))))))))
def EndOK (h : List NodeV) (bits : Int) (fe : Nat) (e : Int) (n : NodeV) (le : List PairV) : Prop :=
  (e = 0 ∧ n = zeroN ∧ le = []) ∨ (∃ p, le = [p] ∧ 1 ≤ e ∧ e ≤ h.length ∧ okN n ∧ n.1 = 1 ∧ n.2.1 = p.1 ∧ bindsS n = [p] ∧ okT p ∧ (∀ f, U h e = trieT bits f [p]) ∧ getN h e = n) ∨
    (fe = 0 ∧ 2 ≤ le.length ∧ 1 ≤ e ∧ e ≤ h.length ∧ okN n ∧ n.1 = 3 ∧ bindsS n = le ∧ Srt le ∧ (∀ p ∈ le, okT p) ∧ le.length ≤ 100000 ∧ getN h e = n)
theorem EndOK.srt {h : List NodeV} {bits : Int} {fe : Nat} {e : Int} {n : NodeV} {le : List PairV} (E : EndOK h bits fe e n le) : Srt le := by
  rcases E with ⟨_, _, rfl⟩ | ⟨p, rfl, _⟩ | ⟨_, _, _, _, _, _, _, hs, _⟩
  · exact List.Pairwise.nil
  · exact List.pairwise_singleton _ _
  · exact hs
theorem chunk_m (k : ByteArray) (level : Nat) (bits : Int) (hv : level ≤ 50000000) : hash_Chunk ((hashS k bits : Nat) : Int) (level : Int) bits = some ((ck bits level k : Nat) : Int) := by
  rw [chunk_any _ (hash_lt64 _ _) _ _ (by omega), if_neg (by omega), Int.toNat_natCast]
  rfl
end Go.Proofs.YtjekopgcpikkiaaGreatDoor.AM
set_option linter.unusedVariables false
set_option linter.unusedSimpArgs false
namespace Go.Proofs.YtjekopgcpikkiaaGreatDoor.AM
open Go.Abs
inductive WayG (h : List NodeV) (bits : Int) (key : ByteArray) : Nat → List PairV → Int → List StepV → Int → NodeV → Nat → List PairV → Prop
  | stop {f : Nat} {l : List PairV} {r : Int} {n : NodeV} (E : EndOK h bits f r n l) : WayG h bits key f l r [] r n f l
  | step {f : Nat} {l : List PairV} {r : Int} {ks : List Int} {bi : Int} {way : List StepV} {e : Int} {n : NodeV} {fe : Nat} {le : List PairV} (hf : f + 1 ≤ lev bits) (h2 : 2 ≤ l.length) (hl : l.length ≤ 100000) (hS : Srt l) (r1 : 1 ≤ r) (r2 : r ≤ h.length)
      (hB : okB (maskC bits (lev bits - (f + 1)) l) ks l.length bi) (hn : getN h r = bN (maskC bits (lev bits - (f + 1)) l) ks l.length bi)
      (hk : ∀ j : Nat, j < 32 → U h (chI (maskC bits (lev bits - (f + 1)) l) ks (j : Int)) = trieT bits f (part bits (lev bits - (f + 1)) l j) ∧ 0 ≤ chI (maskC bits (lev bits - (f + 1)) l) ks (j : Int) ∧ chI (maskC bits (lev bits - (f + 1)) l) ks (j : Int) ≤ r - 1)
      (w : WayG h bits key f (part bits (lev bits - (f + 1)) l (ck bits (lev bits - (f + 1)) key)) (chI (maskC bits (lev bits - (f + 1)) l) ks ((ck bits (lev bits - (f + 1)) key : Nat) : Int)) way e n fe le) :
      WayG h bits key (f + 1) l r (stepV r (bN (maskC bits (lev bits - (f + 1)) l) ks l.length bi) ((ck bits (lev bits - (f + 1)) key : Nat) : Int) :: way) e n fe le
theorem way_ex {h : List NodeV} (ho : okH h) (hm : mayH h = true) (bits : Int) (key : ByteArray) : ∀ (f : Nat) (l : List PairV) (r : Int), f ≤ lev bits → 0 ≤ r → r ≤ h.length → U h r = trieT bits f l → Srt l → (∀ p ∈ l, okT p) → l.length ≤ 100000 →
    ∃ way e n fe le, WayG h bits key f l r way e n fe le := by
  have leaf : ∀ (f : Nat) (p : PairV) (r : Int), 0 ≤ r → r ≤ h.length → U h r = trieT bits f [p] → okT p → EndOK h bits f r (getN h r) [p] := fun f p r h0 h1 hs hp => by
    obtain ⟨a, b, _⟩ := trie_leaf hm h0 h1 hs
    refine .inr (.inl ⟨p, rfl, a, h1, ho.node _ (getN_mem h r a h1), congrArg (·.1) b, congrArg (·.2.1) b, ?_, hp, fun g => by rw [hs, trieT_one, trieT_one], rfl⟩)
    rw [← bindsS_strip, b]
    rfl
  have nil : ∀ (f : Nat) (r : Int), 0 ≤ r → r ≤ h.length → U h r = trieT bits f [] → EndOK h bits f r zeroN [] := fun f r h0 h1 hs => by
    rw [trieT_nil] at hs
    exact .inl ⟨(U_nil hm h0 h1).1 hs, rfl, rfl⟩
  intro f
  induction f with
  | zero =>
    intro l r hf h0 h1 hs hS hT hl
    rcases len_cases l with rfl | ⟨p, rfl⟩ | h2
    · exact ⟨_, _, _, _, _, .stop (nil 0 r h0 h1 hs)⟩
    · exact ⟨_, _, _, _, _, .stop (leaf 0 p r h0 h1 hs (hT p List.mem_cons_self))⟩
    · obtain ⟨a, b, _⟩ := trie_buck hm h0 h1 h2 hs
      refine ⟨[], r, getN h r, 0, l, .stop (.inr (.inr ⟨rfl, h2, a, h1, ho.node _ (getN_mem h r a h1), congrArg (·.1) b, ?_, hS, hT, hl, rfl⟩))⟩
      rw [← bindsS_strip, b]
      rfl
  | succ f ih =>
    intro l r hf h0 h1 hs hS hT hl
    rcases len_cases l with rfl | ⟨p, rfl⟩ | h2
    · exact ⟨_, _, _, _, _, .stop (nil _ r h0 h1 hs)⟩
    · exact ⟨_, _, _, _, _, .stop (leaf _ p r h0 h1 hs (hT p List.mem_cons_self))⟩
    · obtain ⟨a, ks, bi, hB, hn, _, _, hk⟩ := trie_branch ho hm h0 h1 h2 hs
      obtain ⟨k1, k2, k3⟩ := hk _ (ck_lt bits (lev bits - (f + 1)) key)
      have hpl := part_len bits (lev bits - (f + 1)) l (ck bits (lev bits - (f + 1)) key)
      obtain ⟨way, e, n, fe, le, w⟩ := ih _ _ (by omega) k2 (by omega) k1 (part_srt hS _) (fun p hp => hT p (part_sub hp)) (by omega)
      exact ⟨_, e, n, fe, le, .step hf h2 hl hS a h1 hB hn hk w⟩
section
variable {h : List NodeV} {bits : Int} {key : ByteArray}
theorem WayG.find {f : Nat} {l : List PairV} {r : Int} {way : List StepV} {e : Int} {n : NodeV} {fe : Nat} {le : List PairV} (w : WayG h bits key f l r way e n fe le) : le.find? (fun q => decide (q.1 = key)) = l.find? (fun q => decide (q.1 = key)) := by
  induction w with
  | stop E => rfl
  | step hf h2 hl hS r1 r2 hB hn hk w ih => rw [ih, part_find]
theorem WayG.end_ok {f : Nat} {l : List PairV} {r : Int} {way : List StepV} {e : Int} {n : NodeV} {fe : Nat} {le : List PairV} (w : WayG h bits key f l r way e n fe le) : EndOK h bits fe e n le ∧ way.length + fe = f := by
  induction w with
  | stop E => exact ⟨E, by simp⟩
  | step hf h2 hl hS r1 r2 hB hn hk w ih => exact ⟨ih.1, by rw [List.length_cons]; have := ih.2; omega⟩
end
end Go.Proofs.YtjekopgcpikkiaaGreatDoor.AM
set_option linter.unusedVariables false
set_option linter.unusedSimpArgs false
namespace Go.Proofs.YtjekopgcpikkiaaGreatDoor.AM
open Go.Abs
theorem isTp_any (h : List NodeV) (ho : okH h) (r bits : Int) (hL : fitH h r = true → (bindsT (U h r)).length ≤ 40000000 ∧ (makeS (bindsT (U h r))).length ≤ 1000000) : trie_Is h r bits = some (isT h r bits) := by
  rw [trie_Is.eq, heap_Binds.eq, hmay_any h ho, bnd_some]
  unfold isT
  cases hf : fitH h r with
  | false => rfl
  | true =>
    obtain ⟨⟨a, b⟩, c⟩ := fitH_iff.1 hf
    obtain ⟨h1, h2⟩ := hL hf
    have hT : ∀ p ∈ bindsT (U h r), okT p := fun p hp => by
      obtain ⟨x, _, hx, hpx⟩ := binds_mem c r.toNat r a (by omega) b p hp
      exact may_short hx hpx
    have hg : (makeS (bindsT (U h r))).any longP = false := by
      rw [List.any_eq_false]
      exact fun p hp => Bool.eq_false_iff.1 (longP_iff.2 (hT p (makeS_mem hp)))
    obtain ⟨_, T, go⟩ := make_trie bits (bindsT (U h r)) h1 h2 (fun p hp => (hT p hp).ok) (fun p hp => hT p (makeS_mem hp))
    have hfit : fitH (trieH bits (bindsT (U h r))) (trieR bits (bindsT (U h r))) = true := fitH_iff.2 ⟨⟨T.r0, T.r1⟩, T.may⟩
    have e2 := tmake_any bits (bindsT (U h r)) h1 h2 (fun p hp => (hT p hp).ok)
    rw [hg, if_neg (by simp)] at e2
    rw [if_pos rfl, show notB (eqI (0 : Int) (0 : Int)) = false from rfl, br_f, hbinds_any ho c r.toNat r a (by omega) b (by omega), bnd_some, bnd_some]
    show bnd (trie_Make bits (bindsT (U h r))) _ = _
    rw [e2, bnd_some]
    show bnd (heap_Same h r (trieH bits (bindsT (U h r))) (trieR bits (bindsT (U h r)))) _ = _
    rw [hSame_any h _ ho go, bnd_some, hf, hfit]
    rfl
theorem trie_again {g : List NodeV} (go : okH g) {s : Int} {bits : Int} {L : List PairV} (hf : fitH g s = true) (hs : U g s = trieT bits (lev bits) L) (hS : Srt L) (hT : ∀ p ∈ L, okT p) (hL : L.length ≤ 1000000) :
    (bindsT (U g s)).Perm L ∧ trie_Is g s bits = some true ∧ True := by
  have hp : (bindsT (U g s)).Perm L := by rw [hs]; exact trieT_binds bits _ _
  have em := makeS_of_perm hS hp
  have hlen := hp.length_eq
  have hT' : ∀ p ∈ bindsT (U g s), okT p := fun p h => hT p (hp.mem_iff.1 h)
  have e1 := isTp_any g go s bits (fun _ => ⟨by omega, by rw [em]; omega⟩)
  have hi : isT g s bits = true := by
    obtain ⟨_, T, _⟩ := make_trie bits (bindsT (U g s)) (by omega) (by rw [em]; omega) (fun p h => (hT' p h).ok) (fun p h => hT' p (makeS_mem h))
    unfold isT
    rw [hf, Bool.true_and, eqSh_iff, hs, show U (trieH bits (bindsT (trieT bits (lev bits) L))) (trieR bits (bindsT (trieT bits (lev bits) L))) = trieT bits (lev bits) (makeS (bindsT (trieT bits (lev bits) L))) by
      have := T.shp
      rw [hs] at this
      exact this]
    rw [hs] at em
    rw [em]
  rw [hi] at e1
  exact ⟨hp, e1, trivial⟩
end Go.Proofs.YtjekopgcpikkiaaGreatDoor.AM
set_option linter.unusedVariables false
set_option linter.unusedSimpArgs false
namespace Go.Proofs.YtjekopgcpikkiaaGreatDoor.AM
open Go.Abs
def dropS (k : ByteArray) (l : List PairV) : List PairV := l.filter fun q => decide (q.1 ≠ k)
theorem dropS_id {k : ByteArray} {l : List PairV} (h : ∀ p ∈ l, p.1 ≠ k) : dropS k l = l := List.filter_eq_self.2 fun q hq => decide_eq_true (h q hq)
theorem dropS_srt {l : List PairV} (h : Srt l) (k : ByteArray) : Srt (dropS k l) := List.Pairwise.filter _ h
theorem dropS_mem {k : ByteArray} {l : List PairV} {q : PairV} : q ∈ dropS k l ↔ q ∈ l ∧ q.1 ≠ k := by unfold dropS; rw [List.mem_filter, decide_eq_true_iff]
theorem ordered24 {l : List PairV} (hl : l.length ≤ 40000000) (hs : ∀ p ∈ l, okP p) : pair_ordered l = some (makeS l) := by
  rw [pair_ordered.eq, is_any l (by omega) hs, bnd_some]
  cases h : isS l with
  | true => rw [br_t, makeS_srt (isS_srt h)]
  | false => rw [br_f, make_any l hl hs, bnd_some]
theorem lt_irr24 (x : ByteArray) : lt x x = false := by
  rcases tri x x with ⟨_, _, e⟩ | ⟨_, e, _⟩ | ⟨_, _, e⟩
  · exact absurd rfl e
  · exact e
  · exact absurd rfl e
theorem at_place24 {l : List PairV} {k : ByteArray} (hS : Srt l) {pos : Nat} (h3 : ∀ (a : Nat) (h : a < l.length), a < pos → lt l[a].1 k = true) (h4 : ∀ (a : Nat) (h : a < l.length), pos ≤ a → lt l[a].1 k = false) {a : Nat} (ha : a < l.length) (e : l[a].1 = k) : a = pos := by
  rcases Nat.lt_trichotomy a pos with q | q | q
  · have := h3 a ha q
    rw [e, lt_irr24] at this
    cases this
  · exact q
  · have h1 := srt_get hS ha q
    have h2 := h4 pos (by omega) (Nat.le_refl _)
    rw [e, h2] at h1
    cases h1
theorem pdrop_any {l : List PairV} (hl : l.length ≤ 40000000) (hs : ∀ p ∈ l, okP p) (k : ByteArray) : pair_Drop l k = some (dropS k (makeS l)) := by
  have hS := makeS_Srt l
  have hsl := makeS_len l
  have hso : ∀ p ∈ makeS l, okP p := fun p hp => hs p (makeS_mem hp)
  rw [pair_Drop.eq, ordered24 hl hs, bnd_some, cloneP_any _ (by omega), bnd_some]
  generalize makeS l = S at hS hsl hso ⊢
  obtain ⟨pos, h1, h2, h3, h4⟩ := place_any S k (by omega) hso hS
  show bnd (pair_place S k) _ = _
  rw [h1, bnd_some]
  by_cases hp : ∃ h : pos < S.length, S[pos].1 = k
  · rw [decide_eq_true hp, show notB true = false from rfl, br_f]
    obtain ⟨hpl, hpk⟩ := hp
    rw [add1 pos (by omega), slices_DeleteQQ.eq]
    have hg : delG tapiPair S ((pos : Nat) : Int) ((pos + 1 : Nat) : Int) = true := by
      unfold delG
      exact decide_eq_true ⟨by omega, by omega, by rw [Int.toNat_natCast]; omega⟩
    show bnd (br (delG tapiPair S ((pos : Nat) : Int) ((pos + 1 : Nat) : Int)) _ none) _ = _
    rw [hg, br_t, bnd_some]
    show some (delL tapiPair S ((pos : Nat) : Int) ((pos + 1 : Nat) : Int)) = _
    congr 1
    unfold delL
    rw [Int.toNat_natCast, Int.toNat_natCast]
    have e : S = S.take pos ++ S[pos] :: S.drop (pos + 1) := by rw [← List.drop_eq_getElem_cons hpl, List.take_append_drop]
    have t1 : ∀ p ∈ S.take pos, p.1 ≠ k := fun p hp q => by
      obtain ⟨a, ha, rfl⟩ := List.mem_iff_getElem.1 hp
      rw [List.length_take] at ha
      rw [List.getElem_take] at q
      have := at_place24 hS h3 h4 (show a < S.length by omega) q
      omega
    have t2 : ∀ p ∈ S.drop (pos + 1), p.1 ≠ k := fun p hp q => by
      obtain ⟨a, ha, rfl⟩ := List.mem_iff_getElem.1 hp
      rw [List.length_drop] at ha
      rw [List.getElem_drop] at q
      have := at_place24 hS h3 h4 (show pos + 1 + a < S.length by omega) q
      omega
    conv => rhs; rw [e]
    unfold dropS
    rw [List.filter_append, List.filter_cons_of_neg (by simpa using hpk)]
    have f1 := dropS_id t1
    have f2 := dropS_id t2
    unfold dropS at f1 f2
    rw [f1, f2]
  · rw [decide_eq_false hp, show notB false = true from rfl, br_t]
    show some S = _
    rw [dropS_id fun p hpm q => by
      obtain ⟨a, ha, rfl⟩ := List.mem_iff_getElem.1 hpm
      have := at_place24 hS h3 h4 ha q
      subst this
      exact hp ⟨ha, q⟩]
theorem dropS_length (k : ByteArray) : ∀ l : List PairV, Srt l → (l.find? (fun q => decide (q.1 = k))).isSome = true → (dropS k l).length + 1 = l.length
  | [], _, h => by cases h
  | q :: qs, hS, h => by
    obtain ⟨hq, hS'⟩ := List.pairwise_cons.1 hS
    unfold dropS
    by_cases e : q.1 = k
    · rw [List.filter_cons_of_neg (by simpa using e)]
      have := dropS_id (k := k) (l := qs) fun p hp hk => by
        have := hq p hp
        rw [e, hk, lt_irrefl] at this
        cases this
      unfold dropS at this
      rw [this, List.length_cons]
    · rw [List.filter_cons_of_pos (by simpa using e), List.length_cons, List.length_cons]
      rw [List.find?_cons, decide_eq_false e] at h
      have := dropS_length k qs hS' h
      unfold dropS at this
      omega
theorem dropS_find (k : ByteArray) (l : List PairV) (h : (l.find? (fun q => decide (q.1 = k))).isSome = false) : dropS k l = l := dropS_id fun p hp e => by
  rw [Option.isSome_eq_false_iff, Option.isNone_iff_eq_none, List.find?_eq_none] at h
  exact h p hp (by rw [decide_eq_true_eq]; exact e)
end Go.Proofs.YtjekopgcpikkiaaGreatDoor.AM
set_option linter.unusedVariables false
set_option linter.unusedSimpArgs false
namespace Go.Proofs.YtjekopgcpikkiaaGreatDoor.AM
open Go.Abs
theorem backp_loop (l : List StepV) (hl : l.length ≤ 50000000) : ∀ (n : Nat), n ≤ l.length → ∃ ys : List (Int × StepV × Unit), slices_Backwardps_1.l0 l ((n : Int) - 1) = some ys ∧ ys.map (fun y => y.2.1) = (l.take n).reverse
  | 0, _ => by
    refine ⟨[], ?_, rfl⟩
    rw [slices_Backwardps_1.l0.eq]
    rfl
  | n + 1, h => by
    obtain ⟨ys, e, m⟩ := backp_loop l hl n (by omega)
    have hi : n < l.length := by omega
    have ex : ixL tgraftstep l (((n + 1 : Nat) : Int) - 1) = l[n] := by
      rw [show ((n + 1 : Nat) : Int) - 1 = (n : Int) by omega]
      exact ixL_d tgraftstep l n hi
    have es : subI .i64 (((n + 1 : Nat) : Int) - 1) 1 = (n : Int) - 1 := by rw [subI_d (by omega) (by omega)]; omega
    refine ⟨(((n + 1 : Nat) : Int) - 1, (l[n], ())) :: ys, ?_, ?_⟩
    · rw [slices_Backwardps_1.l0.eq, yieldW_eq, ex, es, e, show notB true = false from rfl, show notB false = true from rfl, br_f, br_t]
      simp only [leI_d, ltI_d, andB_d, ofN_d, lenL_d, br_if]
      rw [if_pos (by omega), if_pos (by omega)]
      exact yieldL_iff.2 ⟨rfl, ys, rfl, rfl⟩
    · rw [List.map_cons, m, List.take_succ_eq_append_getElem hi, List.reverse_append]
      rfl
theorem backp_any (l : List StepV) (hl : l.length ≤ 50000000) : ∃ ys : List (Int × StepV × Unit), slices_Backwardps_1 l = some ys ∧ ys.map (fun y => y.2.1) = l.reverse := by
  obtain ⟨ys, e, m⟩ := backp_loop l hl l.length (Nat.le_refl _)
  rw [List.take_length] at m
  refine ⟨ys, ?_, m⟩
  rw [slices_Backwardps_1.eq, show subI .i64 (ofN (lenL tgraftstep l)) 1 = (l.length : Int) - 1 from subI_d (by show _ ≤ ((l.length : Nat) : Int) - 1; omega) (by show ((l.length : Nat) : Int) - 1 ≤ _; omega)]
  exact e
end Go.Proofs.YtjekopgcpikkiaaGreatDoor.AM
set_option linter.unusedVariables false
set_option linter.unusedSimpArgs false
namespace Go.Proofs.YtjekopgcpikkiaaGreatDoor.AM
open Go.Abs
theorem part_drop24 (bits : Int) (level : Nat) (k : ByteArray) (l : List PairV) (j : Nat) : part bits level (dropS k l) j = if ck bits level k = j then dropS k (part bits level l j) else part bits level l j := by
  unfold part dropS
  rw [List.filter_filter]
  by_cases h : ck bits level k = j
  · rw [if_pos h, List.filter_filter]
    refine List.filter_congr fun q _ => ?_
    rw [Bool.and_comm]
  · rw [if_neg h]
    refine List.filter_congr fun q _ => ?_
    by_cases hq : ck bits level q.1 = j
    · have : q.1 ≠ k := fun e => h (e ▸ hq)
      rw [decide_eq_true hq, decide_eq_true this]
      rfl
    · rw [decide_eq_false hq]
      rfl
theorem only_part {bits : Int} {level : Nat} {l : List PairV} {i : Nat} (h : ∀ j, j < 32 → j ≠ i → part bits level l j = []) : part bits level l i = l := by
  unfold part
  refine List.filter_eq_self.2 fun q hq => ?_
  rw [decide_eq_true_eq]
  by_cases e : ck bits level q.1 = i
  · exact e
  · have := h _ (ck_lt bits level q.1) e
    have hm : q ∈ part bits level l (ck bits level q.1) := List.mem_filter.2 ⟨hq, by rw [decide_eq_true_eq]⟩
    rw [this] at hm
    cases hm
theorem allL_mem {m j : Nat} : j ∈ allL m ↔ j < 32 ∧ m.testBit j = true := by unfold allL; rw [List.mem_filter, List.mem_range]
theorem allL_nodup (m : Nat) : (allL m).Nodup := List.Pairwise.filter _ List.nodup_range
theorem only_one {A : Type} {a : A} : ∀ {l : List A}, l.Nodup → a ∈ l → (∀ x ∈ l, x = a) → l = [a]
  | [], _, h, _ => by cases h
  | [x], _, _, h => by rw [h x List.mem_cons_self]
  | x :: y :: l, hn, _, h => by
    have h1 := h x List.mem_cons_self
    have h2 := h y (List.mem_cons_of_mem _ List.mem_cons_self)
    rw [List.nodup_cons] at hn
    exact absurd (by rw [h1, h2]; exact List.mem_cons_self) hn.1
theorem kids_nil {m : Nat} {ks : List Int} {sz bi : Int} (hB : okB m ks sz bi) : ks = [] ↔ ∀ j, j < 32 → chAt m ks j = 0 := by
  have hk := kids_all hB
  constructor
  · rintro rfl j hj
    unfold chAt
    split
    · rfl
    · rfl
  · intro h
    have : allL m = [] := by
      rw [List.eq_nil_iff_forall_not_mem]
      intro j hj
      obtain ⟨h1, h2⟩ := allL_mem.1 hj
      exact (hB.ch_nz h1).2 h2 (h j h1)
    rw [this] at hk
    exact hk.symm
theorem kids_one {m : Nat} {ks : List Int} {sz bi : Int} (hB : okB m ks sz bi) (h : ks.length = 1) : ∃ j0, j0 < 32 ∧ ks = [chAt m ks j0] ∧ chAt m ks j0 ≠ 0 ∧ ∀ j, j < 32 → j ≠ j0 → chAt m ks j = 0 := by
  have hk := kids_all hB
  have hl : (allL m).length = 1 := by rw [← h]; conv => rhs; rw [← hk, List.length_map]
  obtain ⟨j0, e⟩ := List.length_eq_one_iff.1 hl
  obtain ⟨h1, h2⟩ := allL_mem.1 (show j0 ∈ allL m by rw [e]; exact List.mem_cons_self)
  refine ⟨j0, h1, ?_, (hB.ch_nz h1).2 h2, fun j hj hne => ?_⟩
  · rw [e] at hk
    exact hk.symm
  · by_cases hb : m.testBit j = true
    · have : j ∈ allL m := allL_mem.2 ⟨hj, hb⟩
      rw [e, List.mem_singleton] at this
      exact absurd this hne
    · unfold chAt
      rw [if_neg hb]
theorem one_kid {m : Nat} {ks : List Int} {sz bi : Int} (hB : okB m ks sz bi) {j0 : Nat} (h0 : j0 < 32) (h1 : chAt m ks j0 ≠ 0) (h : ∀ j, j < 32 → j ≠ j0 → chAt m ks j = 0) : ks = [chAt m ks j0] := by
  have hk := kids_all hB
  have : allL m = [j0] := only_one (allL_nodup m) (allL_mem.2 ⟨h0, (hB.ch_nz h0).1 h1⟩) fun j hj => by
    obtain ⟨a, b⟩ := allL_mem.1 hj
    by_cases e : j = j0
    · exact e
    · exact absurd (h j a e) ((hB.ch_nz a).2 b)
  rw [this] at hk
  exact hk.symm
theorem part_ch {bits : Int} {level : Nat} {l : List PairV} {ks : List Int} {sz bi : Int} (hB : okB (maskC bits level l) ks sz bi) {j : Nat} (hj : j < 32) : chAt (maskC bits level l) ks j = 0 ↔ part bits level l j = [] := by
  have h1 := hB.ch_nz hj
  rw [maskC_bit, usedC_mem] at h1
  constructor
  · intro h
    by_cases q : part bits level l j = []
    · exact q
    · exact absurd h (h1.2 ⟨hj, q⟩)
  · intro h
    by_cases q : chAt (maskC bits level l) ks j = 0
    · exact q
    · exact absurd h (h1.1 q).2
theorem mask_ext {bits : Int} {level : Nat} {L : List PairV} {m : Nat} {ks : List Int} {sz bi : Int} (hB : okB m ks sz bi) (h : ∀ j, j < 32 → (chAt m ks j ≠ 0 ↔ part bits level L j ≠ [])) : m = maskC bits level L := by
  apply Nat.eq_of_testBit_eq
  intro j
  by_cases hj : j < 32
  · rw [Bool.eq_iff_iff, maskC_bit, usedC_mem, ← hB.ch_nz hj, h j hj]
    exact ⟨fun q => ⟨hj, q⟩, fun q => q.2⟩
  · rw [high_bit hB.lt hj, high_bit (maskC_lt _ _ _) hj]
abbrev PruneV := ByteArray × Int × Int × Int × List StepV × Int × Int × ByteArray × ByteArray × Int × List Int × Int × List PairV × Int × Int × Int × NodeV
noncomputable def pB (key : ByteArray) (bits want : Int) (way : List StepV) (e : Int) (n : NodeV) (b : Int) (o : NodeV) : PruneV :=
  (key, (bits, (((hashS key bits : Nat) : Int), (want, (way, (e, (n.1, (n.2.1, (n.2.2.1, (n.2.2.2.1, (n.2.2.2.2.1, (n.2.2.2.2.2.1, (n.2.2.2.2.2.2.1, (n.2.2.2.2.2.2.2.1, (n.2.2.2.2.2.2.2.2.1, (b, o))))))))))))))))
def Beside (h : List NodeV) (b : Int) (o : NodeV) (ks : List Int) : Prop := (ks.length = 1 → b = ks.getD 0 0 ∧ o = getN h b) ∧ (ks.length ≠ 1 → b = 0)
theorem without_same {m : Nat} {ks : List Int} {sz bi : Int} {i : Int} {m1 m2 : Nat} {k1 k2 : List Int} (h1 : branch_Without (bN m ks sz bi) i = some (bN m1 k1 sz bi)) (h2 : branch_Without (bN m ks sz bi) i = some (bN m2 k2 sz bi)) : k1 = k2 := by
  have := Option.some.inj (h1.symm.trans h2)
  exact congrArg (·.2.2.2.2.1) this
section
variable {h : List NodeV} {bits : Int} {key : ByteArray}
set_option maxHeartbeats 800000 in
theorem up_one (hm : mayH h = true) {f : Nat} {l : List PairV} {r : Int} {ks : List Int} {bi : Int} (hf : f + 1 ≤ lev bits) (h2 : 2 ≤ l.length) (hl : l.length ≤ 100000) (hS : Srt l) (r1 : 1 ≤ r) (r2 : r ≤ h.length)
    (hB : okB (maskC bits (lev bits - (f + 1)) l) ks l.length bi)
    (hk : ∀ j : Nat, j < 32 → U h (chI (maskC bits (lev bits - (f + 1)) l) ks (j : Int)) = trieT bits f (part bits (lev bits - (f + 1)) l j) ∧ 0 ≤ chI (maskC bits (lev bits - (f + 1)) l) ks (j : Int) ∧ chI (maskC bits (lev bits - (f + 1)) l) ks (j : Int) ≤ r - 1)
    (hbound : (l.find? (fun q => decide (q.1 = key))).isSome = true)
    (a : Int) (root : Int) (way : List StepV) (e : Int) (n : NodeV) (b : Int) (o : NodeV) {news : List NodeV} (olds : List Int) (P : PlanOK h news)
    (H : Has h news root (trieT bits f (dropS key (part bits (lev bits - (f + 1)) l (ck bits (lev bits - (f + 1)) key))))) (hn : news.length ≤ 500) (ho : olds.length ≤ 500)
    (hbes : root = 0 → ∀ m' ks', branch_Without (bN (maskC bits (lev bits - (f + 1)) l) ks l.length bi) ((ck bits (lev bits - (f + 1)) key : Nat) : Int) = some (bN m' ks' l.length bi) → Beside h b o ks') :
    ∃ (root' : Int) (news' : List NodeV), pP_up ((), (a, ((), ()))) (stepV r (bN (maskC bits (lev bits - (f + 1)) l) ks l.length bi) ((ck bits (lev bits - (f + 1)) key : Nat) : Int)) root (decide ((dropS key (part bits (lev bits - (f + 1)) l (ck bits (lev bits - (f + 1)) key))).length ≤ 1)) (pB key bits 0 way e n b o) news olds =
      some ((((), (a, ((), ()))), (root', (decide ((dropS key l).length ≤ 1), ()))), (pB key bits 0 way e n b o, (news', (olds ++ [r], ())))) ∧ PlanOK h news' ∧ Has h news' root' (trieT bits (f + 1) (dropS key l)) ∧ news'.length ≤ news.length + 1 ∧ root' ≠ 0 := by
  have hlev := lev_le bits
  have hlen := dropS_length key l hS hbound
  have hSL := dropS_srt hS key
  generalize hlv : lev bits - (f + 1) = level at *
  have hci := ck_lt bits level key
  obtain ⟨i, hi⟩ : ∃ i, i = ck bits level key := ⟨_, rfl⟩
  rw [← hi] at H hbes ⊢
  obtain ⟨m', ks', hB', hw, hch⟩ := without_spec hB (branch_self hB) ((i : Nat) : Int)
  have hpart : ∀ j, part bits level (dropS key l) j = if i = j then dropS key (part bits level l j) else part bits level l j := fun j => by rw [part_drop24, hi]
  have ech : ∀ j : Nat, j < 32 → chI (maskC bits level l) ks (j : Int) = chAt (maskC bits level l) ks j := fun j hj => by
    unfold chI
    rw [if_pos (by omega), Int.toNat_natCast]
  have Hj : ∀ j, j < 32 → Has h news (chAt (maskC bits level l) ks j) (trieT bits f (part bits level l j)) := fun j hj => by
    obtain ⟨k1, k2, k3⟩ := hk j hj
    rw [ech j hj] at k1 k2 k3
    rw [← k1]
    exact Has.heap hm k2 (by omega)
  have hLne : dropS key l ≠ [] := fun q => by rw [q] at hlen; simp at hlen; omega
  obtain ⟨Q, hQ⟩ : ∃ Q, Q = dropS key (part bits level l i) := ⟨_, rfl⟩
  rw [← hQ] at H ⊢
  have hpi : part bits level (dropS key l) i = Q := by rw [hpart, if_pos rfl, hQ]
  have hQ0 : root = 0 ↔ Q = [] := by
    constructor
    · intro q
      by_cases q2 : Q = []
      · exact q2
      · exact absurd q (H.ne (trieT_ne bits f q2))
    · intro q
      have hs := H.shp
      rw [q, trieT_nil] at hs
      have hin := fill_in H.lo H.hi
      have := (U_nil P.may hin.1 hin.2).1 hs
      exact (fillQ_zero _ _).1 this
  -- the branch without the chunk
  have hoth : ∀ j, j < 32 → j ≠ i → (chAt m' ks' j = 0 ↔ part bits level (dropS key l) j = []) := fun j hj hne => by
    rw [hch j hj, if_neg (by omega), hpart, if_neg (Ne.symm hne)]
    exact part_ch hB hj
  have hiz : chAt m' ks' i = 0 := by rw [hch i (by omega), if_pos rfl]
  have eup : pP_up ((), (a, ((), ()))) (stepV r (bN (maskC bits level l) ks l.length bi) ((i : Nat) : Int)) root (decide (Q.length ≤ 1)) (pB key bits 0 way e n b o) news olds =
      br (decide (Q.length ≤ 1)) (pP_up.j0 root (eqI ((ks'.length : Nat) : Int) 0) (pB key bits 0 way e n b o) news (olds ++ [r]) ((), (a, ((), ()))) (stepV r (bN (maskC bits level l) ks l.length bi) ((i : Nat) : Int)) ((), ((0 : Int), ((), ()))) (bN m' ks' l.length bi) [] [])
        (pP_up.j0 root false (pB key bits 0 way e n b o) news (olds ++ [r]) ((), (a, ((), ()))) (stepV r (bN (maskC bits level l) ks l.length bi) ((i : Nat) : Int)) ((), ((0 : Int), ((), ()))) (bN m' ks' l.length bi) [] []) := by
    rw [pP_up.eq, fitL_d, br_if, if_pos (by rw [appL_d, List.length_append]; simp only [List.length_cons, List.length_nil]; omega)]
    show bnd (branch_Without (bN (maskC bits level l) ks l.length bi) ((i : Nat) : Int)) _ = _
    rw [hw, bnd_some]
    rfl
  rw [eup]
  by_cases hA : Q.length ≤ 1 ∧ ks' = []
  · -- it is alone
    obtain ⟨hq1, hk0⟩ := hA
    have hz := (kids_nil hB').1 hk0
    have eq : Q = dropS key l := by rw [← hpi]; exact only_part fun j hj hne => (hoth j hj hne).1 (hz j hj)
    have hqn : Q ≠ [] := by rw [eq]; exact hLne
    obtain ⟨p, hp⟩ : ∃ p, Q = [p] := by
      rcases len_cases Q with q | q | q
      · exact absurd q hqn
      · exact q
      · omega
    refine ⟨root, news, ?_, P, ?_, by omega, fun q => hqn (hQ0.1 q)⟩
    · rw [decide_eq_true hq1, br_t, hk0, pP_up.j0.eq, show eqI ((([] : List Int).length : Nat) : Int) 0 = true from rfl, br_t, ← eq, decide_eq_true hq1]
    · rw [← eq, hp, trieT_one, ← trieT_one bits f, ← hp]
      exact H
  have c1 : br (decide (Q.length ≤ 1)) (pP_up.j0 root (eqI ((ks'.length : Nat) : Int) 0) (pB key bits 0 way e n b o) news (olds ++ [r]) ((), (a, ((), ()))) (stepV r (bN (maskC bits level l) ks l.length bi) ((i : Nat) : Int)) ((), ((0 : Int), ((), ()))) (bN m' ks' l.length bi) [] [])
        (pP_up.j0 root false (pB key bits 0 way e n b o) news (olds ++ [r]) ((), (a, ((), ()))) (stepV r (bN (maskC bits level l) ks l.length bi) ((i : Nat) : Int)) ((), ((0 : Int), ((), ()))) (bN m' ks' l.length bi) [] []) =
      br (eqI root 0) (br (notB (eqI b 0)) (pP_up.j1 root (eqI o.1 1) (pB key bits 0 way e n b o) news (olds ++ [r]) ((), (a, ((), ()))) (stepV r (bN (maskC bits level l) ks l.length bi) ((i : Nat) : Int)) ((), ((0 : Int), ((), ()))) (bN m' ks' l.length bi) [] [])
          (pP_up.j1 root false (pB key bits 0 way e n b o) news (olds ++ [r]) ((), (a, ((), ()))) (stepV r (bN (maskC bits level l) ks l.length bi) ((i : Nat) : Int)) ((), ((0 : Int), ((), ()))) (bN m' ks' l.length bi) [] []))
        (pP_up.j1 root false (pB key bits 0 way e n b o) news (olds ++ [r]) ((), (a, ((), ()))) (stepV r (bN (maskC bits level l) ks l.length bi) ((i : Nat) : Int)) ((), ((0 : Int), ((), ()))) (bN m' ks' l.length bi) [] []) := by
    by_cases hq1 : Q.length ≤ 1
    · have : ¬ ((ks'.length : Nat) : Int) = 0 := fun q => hA ⟨hq1, List.eq_nil_of_length_eq_zero (by omega)⟩
      rw [decide_eq_true hq1, br_t, eqI_d, decide_eq_false this, pP_up.j0.eq, br_f]
      rfl
    · rw [decide_eq_false hq1, br_f, pP_up.j0.eq, br_f]
      rfl
  rw [c1]
  by_cases hC : root = 0 ∧ b ≠ 0 ∧ o.1 = 1
  · -- what stands beside is alone
    obtain ⟨hr, hb, ho1⟩ := hC
    obtain ⟨s1, s2⟩ := hbes hr m' ks' hw
    have hk1 : ks'.length = 1 := by
      by_cases q : ks'.length = 1
      · exact q
      · exact absurd (s2 q) hb
    obtain ⟨eb, eo⟩ := s1 hk1
    obtain ⟨j0, h0, ek, hne0, hz⟩ := kids_one hB' hk1
    have hj0 : j0 ≠ i := fun q => hne0 (by rw [q]; exact hiz)
    have eb0 : b = chAt (maskC bits level l) ks j0 := by
      rw [eb, ek]
      show chAt m' ks' j0 = _
      rw [hch j0 h0, if_neg (by omega)]
    have hQe := hQ0.1 hr
    have eL : part bits level (dropS key l) j0 = dropS key l := only_part fun j hj hne => by
      by_cases q : j = i
      · rw [q, hpi, hQe]
      · exact (hoth j hj q).1 (hz j hj hne)
    have epj : part bits level l j0 = dropS key l := by
      rw [← eL, hpart, if_neg (Ne.symm hj0)]
    obtain ⟨u1, u2, u3⟩ := hk j0 h0
    rw [ech j0 h0, ← eb0] at u1 u2 u3
    rw [epj] at u1
    have hone : ∃ p, dropS key l = [p] := by
      rcases len_cases (dropS key l) with q | q | q
      · exact absurd q hLne
      · exact q
      · exfalso
        have hb1 : 1 ≤ b := by omega
        rw [U_node hm hb1 (by omega)] at u1
        cases f with
        | zero =>
          rw [trieT_buck bits q] at u1
          have := congrArg (·.1) (Shp.node.inj u1).1
          have : (getN h b).1 = 3 := this
          rw [← eo, ho1] at this
          cases this
        | succ f =>
          rw [trieT_br bits f q] at u1
          have := congrArg (·.1) (Shp.node.inj u1).1
          have : (getN h b).1 = 2 := this
          rw [← eo, ho1] at this
          cases this
    obtain ⟨p, hp⟩ := hone
    refine ⟨b, news, ?_, P, ?_, by omega, hb⟩
    · rw [eqI_d, decide_eq_true hr, br_t, eqI_d, decide_eq_false hb, show notB false = true from rfl, br_t, ho1, pP_up.j1.eq, show eqI (1 : Int) 1 = true from rfl, br_t, both_self, hp]
      rfl
    · rw [hp, trieT_one, ← trieT_one bits f, ← hp, ← u1]
      exact Has.heap hm u2 (by omega)
  -- a branch
  have hL2 : 2 ≤ (dropS key l).length := by
    rcases len_cases (dropS key l) with q | ⟨p, q⟩ | q
    · exact absurd q hLne
    · exfalso
      have hcp := ck_lt bits level p.1
      have hone : ∀ j, part bits level (dropS key l) j = if ck bits level p.1 = j then [p] else [] := fun j => by
        rw [q]
        unfold part
        by_cases hh : ck bits level p.1 = j
        · rw [if_pos hh, List.filter_cons, if_pos (by rw [decide_eq_true_eq]; exact hh)]; rfl
        · rw [if_neg hh, List.filter_cons, if_neg (by rw [decide_eq_true_eq]; exact hh)]; rfl
      by_cases hpi2 : ck bits level p.1 = i
      · refine hA ⟨by rw [← hpi, hone, if_pos hpi2]; simp, (kids_nil hB').2 fun j hj => ?_⟩
        by_cases hji : j = i
        · rw [hji]; exact hiz
        · exact (hoth j hj hji).2 (by rw [hone, if_neg (fun z => hji (by omega))])
      · have hQe : Q = [] := by rw [← hpi, hone, if_neg hpi2]
        have hr := hQ0.2 hQe
        have hz0 : chAt m' ks' (ck bits level p.1) ≠ 0 := fun z => by
          have := (hoth _ hcp hpi2).1 z
          rw [hone, if_pos rfl] at this
          cases this
        have ek := one_kid hB' hcp hz0 fun j hj hne => by
          by_cases hji : j = i
          · rw [hji]; exact hiz
          · exact (hoth j hj hji).2 (by rw [hone, if_neg (Ne.symm hne)])
        obtain ⟨s1, _⟩ := hbes hr m' ks' hw
        obtain ⟨eb, eo⟩ := s1 (by rw [ek]; rfl)
        have eb0 : b = chAt (maskC bits level l) ks (ck bits level p.1) := by
          rw [eb, ek]
          show chAt m' ks' (ck bits level p.1) = _
          rw [hch _ hcp, if_neg (by omega)]
        obtain ⟨u1, u2, u3⟩ := hk _ hcp
        rw [ech _ hcp, ← eb0] at u1 u2 u3
        have epj : part bits level l (ck bits level p.1) = [p] := by
          have := hone (ck bits level p.1)
          rw [hpart, if_neg (Ne.symm hpi2), if_pos rfl] at this
          exact this
        rw [epj] at u1
        obtain ⟨v1, v2, _⟩ := trie_leaf hm u2 (by omega) u1
        refine hC ⟨hr, by omega, ?_⟩
        rw [eo]
        exact congrArg (·.1) v2
    · exact q
  have hdec : decide ((dropS key l).length ≤ 1) = false := decide_eq_false (by omega)
  have hmax : maxI (subI .i64 (l.length : Int) 1) 0 = ((dropS key l).length : Int) := by
    rw [subI_d (by omega) (by omega)]
    unfold maxI
    rw [if_neg (by omega)]
    omega
  have c2 : br (eqI root 0) (br (notB (eqI b 0)) (pP_up.j1 root (eqI o.1 1) (pB key bits 0 way e n b o) news (olds ++ [r]) ((), (a, ((), ()))) (stepV r (bN (maskC bits level l) ks l.length bi) ((i : Nat) : Int)) ((), ((0 : Int), ((), ()))) (bN m' ks' l.length bi) [] [])
          (pP_up.j1 root false (pB key bits 0 way e n b o) news (olds ++ [r]) ((), (a, ((), ()))) (stepV r (bN (maskC bits level l) ks l.length bi) ((i : Nat) : Int)) ((), ((0 : Int), ((), ()))) (bN m' ks' l.length bi) [] []))
        (pP_up.j1 root false (pB key bits 0 way e n b o) news (olds ++ [r]) ((), (a, ((), ()))) (stepV r (bN (maskC bits level l) ks l.length bi) ((i : Nat) : Int)) ((), ((0 : Int), ((), ()))) (bN m' ks' l.length bi) [] []) =
      pP_up.j1 root false (pB key bits 0 way e n b o) news (olds ++ [r]) ((), (a, ((), ()))) (stepV r (bN (maskC bits level l) ks l.length bi) ((i : Nat) : Int)) ((), ((0 : Int), ((), ()))) (bN m' ks' l.length bi) [] [] := by
    by_cases hr : root = 0
    · rw [eqI_d, decide_eq_true hr, br_t]
      by_cases hb : b = 0
      · rw [eqI_d, decide_eq_true hb, show notB true = false from rfl, br_f]
      · rw [eqI_d, decide_eq_false hb, show notB false = true from rfl, br_t, eqI_d, decide_eq_false (fun q => hC ⟨hr, hb, q⟩)]
    · rw [eqI_d, decide_eq_false hr, br_f]
  rw [c2, pP_up.j1.eq, br_f, hdec]
  by_cases hr : root = 0
  · obtain ⟨hz, hB2⟩ := sized_any hB' (s := ((dropS key l).length : Int)) (by omega)
    have hQe := hQ0.1 hr
    obtain ⟨P2, H2⟩ := branch_has (bits := bits) (f := f) P hL2 (m := m') (by
      rw [hlv]
      refine mask_ext hB' fun j hj => ?_
      by_cases hji : j = i
      · rw [hji, hiz, hpi, hQe]
        exact ⟨fun q => absurd rfl q, fun q => absurd rfl q⟩
      · exact not_congr (hoth j hj hji)) hB2 (fun j hj => by
      rw [hlv]
      by_cases hji : j = i
      · have : chAt m' ks' j = 0 := by rw [hji]; exact hiz
        rw [this, hji, hpi, hQe, trieT_nil]
        exact Has.zero
      · rw [hch j hj, if_neg (by omega), hpart, if_neg (Ne.symm hji)]
        exact Hj j hj)
    refine ⟨-(news.length : Int) - 1, news ++ [bN m' ks' ((dropS key l).length : Int) bi], ?_, P2, H2, by rw [List.length_append]; simp, by omega⟩
    rw [eqI_d, decide_eq_true hr, show notB true = false from rfl, br_f]
    show bnd (branch_Sized (bN m' ks' l.length bi) (maxI (subI .i64 (l.length : Int) 1) 0)) _ = _
    rw [hmax, hz, bnd_some, plAdd a hB2.node news (by omega) _, bnd_some]
  · obtain ⟨m2, k2, B2, w2, _, ch2⟩ := with_spec hB' (branch_self hB') ((i : Nat) : Int) root
    obtain ⟨hz, hB2⟩ := sized_any B2 (s := ((dropS key l).length : Int)) (by omega)
    obtain ⟨P2, H2⟩ := branch_has (bits := bits) (f := f) P hL2 (m := m2) (by
      rw [hlv]
      refine mask_ext B2 fun j hj => ?_
      rw [ch2 j hj]
      by_cases hji : j = i
      · rw [if_pos ⟨by omega, hr⟩, hji, hpi]
        exact ⟨fun _ q => hr (hQ0.2 q), fun _ => hr⟩
      · rw [if_neg (fun q => hji (by have := q.1; omega))]
        exact not_congr (hoth j hj hji)) hB2 (fun j hj => by
      rw [hlv, ch2 j hj]
      by_cases hji : j = i
      · rw [if_pos ⟨by omega, hr⟩, hji, hpi]
        exact H
      · rw [if_neg (fun q => hji (by have := q.1; omega)), hch j hj, if_neg (by omega), hpart, if_neg (Ne.symm hji)]
        exact Hj j hj)
    refine ⟨-(news.length : Int) - 1, news ++ [bN m2 k2 ((dropS key l).length : Int) bi], ?_, P2, H2, by rw [List.length_append]; simp, by omega⟩
    rw [eqI_d, decide_eq_false hr, show notB false = true from rfl, br_t]
    show bnd (branch_With (bN m' ks' l.length bi) ((i : Nat) : Int) root) (fun r0 => bnd (branch_Sized r0 (maxI (subI .i64 (l.length : Int) 1) 0)) _) = _
    rw [w2, bnd_some, hmax, hz, bnd_some, plAdd a hB2.node news (by omega) _, bnd_some]
end
end Go.Proofs.YtjekopgcpikkiaaGreatDoor.AM
set_option linter.unusedVariables false
set_option linter.unusedSimpArgs false
namespace Go.Proofs.YtjekopgcpikkiaaGreatDoor.AM
open Go.Abs
abbrev PruneO := ByteArray × Int × Int × Int × Unit × Int × Int × ByteArray × ByteArray × Int × List Int × Int × List PairV × Int × Int × Int × NodeV
noncomputable def pO (key : ByteArray) (bits want : Int) (e : Int) (n : NodeV) (b : Int) (o : NodeV) : PruneO :=
  (key, (bits, (((hashS key bits : Nat) : Int), (want, ((), (e, (n.1, (n.2.1, (n.2.2.1, (n.2.2.2.1, (n.2.2.2.2.1, (n.2.2.2.2.2.1, (n.2.2.2.2.2.2.1, (n.2.2.2.2.2.2.2.1, (n.2.2.2.2.2.2.2.2.1, (b, o))))))))))))))))
section
variable {h : List NodeV} {bits : Int} {key : ByteArray}
theorem wantp_any (g : PruneO) (w : List StepV) : pP_Want g w = some (g.2.2.2.1, (g, (w, ()))) := pP_Want.eq g w
def LoneOK (key : ByteArray) (way : List StepV) (n : NodeV) (b : Int) : Prop :=
  ((way = [] ∨ n.1 ≠ 1 ∨ n.2.1 ≠ key) → b = 0) ∧ ∀ (w0 : List StepV) (r : Int) (m : Nat) (ks : List Int) (sz bi i : Int), way = w0 ++ [stepV r (bN m ks sz bi) i] → n.1 = 1 → n.2.1 = key → okB m ks sz bi →
    ∀ m' ks', branch_Without (bN m ks sz bi) i = some (bN m' ks' sz bi) → (ks'.length = 1 → b = ks'.getD 0 0) ∧ (ks'.length ≠ 1 → b = 0)
theorem lone_any (e : Int) (n : NodeV) (b0 : Int) (o : NodeV) (way : List StepV) (hwl : way.length ≤ 1000) (hway : way = [] ∨ ∃ w0 r m ks sz bi i, way = w0 ++ [stepV r (bN m ks sz bi) i] ∧ okB m ks sz bi) :
    ∃ b, pP_lone (pO key bits 0 e n b0 o) way = some (b, (pO key bits 0 e n b0 o, (way, ()))) ∧ LoneOK key way n b := by
  rw [pP_lone.eq]
  show ∃ b, br (eqI ((way.length : Nat) : Int) 0) (pP_lone.j0 true (pO key bits 0 e n b0 o) way) (br (notB (eqI n.1 1)) (pP_lone.j0 true (pO key bits 0 e n b0 o) way) (pP_lone.j0 (notB (eqS n.2.1 key)) (pO key bits 0 e n b0 o) way)) = _ ∧ _
  have jt : pP_lone.j0 true (pO key bits 0 e n b0 o) way = some (0, (pO key bits 0 e n b0 o, (way, ()))) := by rw [pP_lone.j0.eq, br_t]
  rcases hway with rfl | ⟨w0, r, m, ks, sz, bi, i, rfl, hB⟩
  · rw [show eqI ((([] : List StepV).length : Nat) : Int) 0 = true from rfl, br_t]
    refine ⟨0, jt, fun _ => rfl, fun w0 r m ks sz bi i q => ?_⟩
    have := congrArg List.length q
    simp at this
  have hl0 : eqI (((w0 ++ [stepV r (bN m ks sz bi) i]).length : Nat) : Int) 0 = false := by rw [eqI_d]; exact decide_eq_false (by rw [List.length_append]; simp only [List.length_cons, List.length_nil]; omega)
  rw [hl0, br_f]
  by_cases h1 : n.1 = 1
  · rw [eqI_d, decide_eq_true h1, show notB true = false from rfl, br_f]
    by_cases h2 : n.2.1 = key
    · rw [eqS_d, decide_eq_true h2, show notB true = false from rfl, pP_lone.j0.eq, br_f]
      have hlen : (w0 ++ [stepV r (bN m ks sz bi) i]).length = w0.length + 1 := by rw [List.length_append]; rfl
      have es : subI .i64 (ofN (lenL tgraftstep (w0 ++ [stepV r (bN m ks sz bi) i]))) 1 = ((w0.length : Nat) : Int) := by
        show subI .i64 (((w0 ++ [stepV r (bN m ks sz bi) i]).length : Nat) : Int) 1 = _
        rw [hlen, subI_d (by omega) (by omega)]
        omega
      have ex : ixL tgraftstep (w0 ++ [stepV r (bN m ks sz bi) i]) ((w0.length : Nat) : Int) = stepV r (bN m ks sz bi) i := by
        rw [ixL_d tgraftstep _ w0.length (by rw [hlen]; omega)]
        simp
      rw [es, ex, both_self]
      simp only [leI_d, ltI_d, andB_d, ofN_d, lenL_d, br_if]
      rw [if_pos (by rw [hlen]; omega), pP_lone.j1.eq]
      obtain ⟨m', ks', hB', hw, hch⟩ := without_spec hB (branch_self hB) i
      have hc := cnt_le 32 m'
      have hkl := hB'.len
      show ∃ b, bnd (branch_Without (bN m ks sz bi) i) _ = _ ∧ _
      rw [hw, bnd_some, branch_Only.eq, branch_self hB', bnd_some]
      have hother : ∀ b : Int, ((ks'.length = 1 → b = ks'.getD 0 0) ∧ (ks'.length ≠ 1 → b = 0)) → LoneOK key (w0 ++ [stepV r (bN m ks sz bi) i]) n b := fun b hb => by
        refine ⟨fun q => ?_, fun w1 r1 m1 k1 s1 b1 i1 q _ _ hB1 m2 k2 hw2 => ?_⟩
        · rcases q with q | q | q
          · simp at q
          · exact absurd h1 q
          · exact absurd h2 q
        · have q2 := (List.append_inj' q rfl).2
          have q3 := List.singleton_inj.1 q2
          have hn : bN m ks sz bi = bN m1 k1 s1 b1 := by
            have z := congrArg (fun s : StepV => ((s.2.1, (s.2.2.1, (s.2.2.2.1, (s.2.2.2.2.1, (s.2.2.2.2.2.1, (s.2.2.2.2.2.2.1, (s.2.2.2.2.2.2.2.1, (s.2.2.2.2.2.2.2.2.1, (s.2.2.2.2.2.2.2.2.2.1, ()))))))))) : NodeV)) q3
            exact z
          have hi : i = i1 := congrArg (fun s : StepV => s.2.2.2.2.2.2.2.2.2.2.1) q3
          rw [← hn, ← hi, hw] at hw2
          have : ks' = k2 := congrArg (fun x : NodeV => x.2.2.2.2.1) (Option.some.inj hw2)
          rw [← this]
          exact hb
      by_cases hk1 : ks'.length = 1
      · refine ⟨ks'.getD 0 0, ?_, hother _ ⟨fun _ => rfl, fun q => absurd hk1 q⟩⟩
        show bnd (br (notB (eqI ((ks'.length : Nat) : Int) 1)) _ _) _ = _
        rw [hk1, show notB (eqI ((1 : Nat) : Int) 1) = false from rfl, br_f]
        show bnd (br (andB (leI (0 : Int) 0) (ltI (0 : Int) ((ks'.length : Nat) : Int))) _ none) _ = _
        rw [hk1, show andB (leI (0 : Int) 0) (ltI (0 : Int) ((1 : Nat) : Int)) = true from rfl, br_t, bnd_some]
        rfl
      · refine ⟨0, ?_, hother _ ⟨fun q => absurd q hk1, fun _ => rfl⟩⟩
        show bnd (br (notB (eqI ((ks'.length : Nat) : Int) 1)) _ _) _ = _
        rw [eqI_d, decide_eq_false (show ¬ ((ks'.length : Nat) : Int) = 1 by omega), show notB false = true from rfl, br_t, bnd_some]
        rfl
    · rw [eqS_d, decide_eq_false h2, show notB false = true from rfl]
      exact ⟨0, jt, fun _ => rfl, fun _ _ _ _ _ _ _ _ _ q => absurd q h2⟩
  · rw [eqI_d, decide_eq_false h1, show notB false = true from rfl, br_t]
    exact ⟨0, jt, fun _ => rfl, fun _ _ _ _ _ _ _ _ q => absurd q h1⟩
theorem feedp_end {r : Int} (hr : r ≠ 0) (n0 : NodeV) (b0 : Int) (o : NodeV) {n : NodeV} (hn : n.1 ≠ 2) (w : List StepV) {b : Int} (hb : pP_lone (pO key bits 0 r n b0 o) w = some (b, (pO key bits 0 r n b0 o, (w, ())))) :
    pP_Feed n (pO key bits r 0 n0 b0 o) w = some ((), (pO key bits b r n b o, (w, ()))) := by
  rw [pP_Feed.eq, wantp_any, bnd_some]
  show br (eqI r 0) _ (br (notB (eqI (0 : Int) 0)) _ (br (notB (eqI n.1 2)) _ _)) = _
  rw [eqI_d, decide_eq_false hr, br_f, show notB (eqI (0 : Int) 0) = false from rfl, br_f, eqI_d, decide_eq_false hn, show notB false = true from rfl, br_t, pP_Feed.j0.eq, br_t, both_self]
  show bnd (pP_lone (pO key bits 0 r n b0 o) w) _ = _
  rw [hb, bnd_some]
  rfl
theorem feedp_other {r e : Int} (hr : r ≠ 0) (he : e ≠ 0) (n : NodeV) (b : Int) (o x : NodeV) (w : List StepV) : pP_Feed x (pO key bits r e n b o) w = some ((), (pO key bits 0 e n b x, (w, ()))) := by
  rw [pP_Feed.eq, wantp_any, bnd_some]
  show br (eqI r 0) _ (br (notB (eqI e 0)) _ _) = _
  rw [eqI_d, decide_eq_false hr, br_f, eqI_d, decide_eq_false he, show notB false = true from rfl, br_t]
  rfl
theorem feedp_step {r : Int} (hr : r ≠ 0) (n0 : NodeV) (b0 : Int) (o : NodeV) {m : Nat} {ks : List Int} {sz bi : Int} (hB : okB m ks sz bi) (w : List StepV) (hw : w.length < lev bits) :
    pP_Feed (bN m ks sz bi) (pO key bits r 0 n0 b0 o) w = some ((), (pO key bits (chI m ks ((ck bits w.length key : Nat) : Int)) 0 n0 b0 o, (w ++ [stepV r (bN m ks sz bi) ((ck bits w.length key : Nat) : Int)], ()))) := by
  have hlev := lev_le bits
  rw [pP_Feed.eq, wantp_any, bnd_some]
  show br (eqI r 0) _ (br (notB (eqI (0 : Int) 0)) _ (br (notB (eqI (2 : Int) 2)) _ (bnd (hash_Levels bits) _))) = _
  rw [eqI_d, decide_eq_false hr, br_f, show notB (eqI (0 : Int) 0) = false from rfl, br_f, show notB (eqI (2 : Int) 2) = false from rfl, br_f, levels_any, bnd_some, leI_d, show ofN (lenL tgraftstep w) = ((w.length : Nat) : Int) from rfl, decide_eq_false (by omega), pP_Feed.j0.eq, br_f]
  show bnd (hash_Chunk ((hashS key bits : Nat) : Int) ((w.length : Nat) : Int) bits) _ = _
  rw [chunk_m key w.length bits (by omega), bnd_some, fitL_d, br_if, if_pos (by rw [appL_d, List.length_append]; simp only [List.length_cons, List.length_nil]; omega)]
  show bnd (branch_Child (bN m ks sz bi) ((ck bits w.length key : Nat) : Int)) _ = _
  rw [child_any hB (branch_self hB), bnd_some]
  rfl
theorem runp_step (h : List NodeV) (hl : h.length ≤ 40000000) (root : Int) (g : PruneO) (w : List StepV) {g' : PruneO} {w' : List StepV} (hr1 : 1 ≤ g.2.2.2.1) (hr2 : g.2.2.2.1 ≤ h.length) (hf : pP_Feed (getN h g.2.2.2.1) g w = some ((), (g', (w', ())))) :
    prune_Run.l0 h root g w = prune_Run.l0 h root g' w' := by
  obtain ⟨i, hi⟩ : ∃ i : Nat, g.2.2.2.1 = (i : Int) + 1 := ⟨(g.2.2.2.1 - 1).toNat, by omega⟩
  have hil : i < h.length := by omega
  have es : subI .i64 g.2.2.2.1 1 = (i : Int) := by rw [subI_d (by omega) (by omega)]; omega
  have eg : getN h g.2.2.2.1 = h[i] := by rw [hi]; exact getN_ix h i hil
  rw [prune_Run.l0.eq, wantp_any, bnd_some]
  dsimp only
  rw [wantp_any, bnd_some]
  dsimp only
  rw [es, eqI_d, decide_eq_false (by omega), show notB false = true from rfl, br_t]
  simp only [leI_d, ltI_d, andB_d, ofN_d, lenL_d, br_if]
  rw [if_pos (by omega), ixL_d tapiNode h i hil, ← eg, hf, bnd_some]
def LastOK (h : List NodeV) (way : List StepV) : Prop := way = [] ∨ ∃ w0 r m ks sz bi i, way = w0 ++ [stepV r (bN m ks sz bi) i] ∧ okB m ks sz bi ∧ r ≤ h.length ∧ ∀ k ∈ ks, 1 ≤ k ∧ k ≤ r - 1
theorem runp_loop (ho : okH h) (hm : mayH h = true) {f : Nat} {l : List PairV} {r : Int} {way : List StepV} {e : Int} {n : NodeV} {fe : Nat} {le : List PairV} (w : WayG h bits key f l r way e n fe le) (root : Int) :
    ∀ w0 : List StepV, w0.length = lev bits - f → f ≤ lev bits → LastOK h w0 → ∃ (b : Int) (o : NodeV), LoneOK key (w0 ++ way) n b ∧ (b ≠ 0 → o = getN h b) ∧ prune_Run.l0 h root (pO key bits r 0 zeroN 0 zeroN) w0 = prune_Run.l0 h root (pO key bits 0 e n b o) (w0 ++ way) := by
  have hl := ho.len
  have hlev := lev_le bits
  induction w with
  | @stop f l r n E =>
    intro w0 hw0 hf hlast
    rw [List.append_nil]
    have hway : w0 = [] ∨ ∃ w1 r m ks sz bi i, w0 = w1 ++ [stepV r (bN m ks sz bi) i] ∧ okB m ks sz bi := by
      rcases hlast with q | ⟨w1, r, m, ks, sz, bi, i, q1, q2, _⟩
      · exact .inl q
      · exact .inr ⟨w1, r, m, ks, sz, bi, i, q1, q2⟩
    have end_ : 1 ≤ r → r ≤ h.length → getN h r = n → n.1 ≠ 2 → ∃ (b : Int) (o : NodeV), LoneOK key w0 n b ∧ (b ≠ 0 → o = getN h b) ∧ prune_Run.l0 h root (pO key bits r 0 zeroN 0 zeroN) w0 = prune_Run.l0 h root (pO key bits 0 r n b o) w0 := fun a b e c => by
      obtain ⟨be, q1, q2⟩ := lone_any (key := key) (bits := bits) r n 0 zeroN w0 (by omega) hway
      have s1 : prune_Run.l0 h root (pO key bits r 0 zeroN 0 zeroN) w0 = prune_Run.l0 h root (pO key bits be r n be zeroN) w0 := by
        refine runp_step h hl root (pO key bits r 0 zeroN 0 zeroN) w0 a b ?_
        show pP_Feed (getN h r) _ w0 = _
        rw [e]
        exact feedp_end (by omega) zeroN 0 zeroN c w0 q1
      by_cases hbe : be = 0
      · subst hbe
        exact ⟨0, zeroN, q2, fun q => absurd rfl q, s1⟩
      · have hin : 1 ≤ be ∧ be ≤ h.length := by
          rcases hlast with q | ⟨w1, r1, m, ks, sz, bi, i, q3, hB, hr1, hks⟩
          · exact absurd (q2.1 (.inl q)) hbe
          · by_cases z1 : n.1 = 1
            · by_cases z2 : n.2.1 = key
              · obtain ⟨m', ks', hB', hw, hch⟩ := without_spec hB (branch_self hB) i
                obtain ⟨u1, u2⟩ := q2.2 w1 r1 m ks sz bi i q3 z1 z2 hB m' ks' hw
                by_cases hk1 : ks'.length = 1
                · have eb := u1 hk1
                  obtain ⟨j0, h0, ek, hne0, _⟩ := kids_one hB' hk1
                  rw [ek] at eb
                  have eb : be = chAt m' ks' j0 := eb
                  rw [hch j0 h0] at eb
                  by_cases hji : (j0 : Int) = i
                  · rw [if_pos hji] at eb; exact absurd eb hbe
                  · rw [if_neg hji] at eb
                    have hkk := kids_all hB
                    have hmem : be ∈ ks := by
                      rw [← hkk, eb]
                      have hb : m.testBit j0 = true := (hB.ch_nz h0).1 (by rw [← eb]; exact hbe)
                      exact List.mem_map_of_mem (allL_mem.2 ⟨h0, hb⟩)
                    have h7 := hks be hmem
                    exact ⟨h7.1, Int.le_trans h7.2 (by omega)⟩
                · exact absurd (u2 hk1) hbe
              · exact absurd (q2.1 (.inr (.inr z2))) hbe
            · exact absurd (q2.1 (.inr (.inl z1))) hbe
        refine ⟨be, getN h be, q2, fun _ => rfl, s1.trans (runp_step h hl root (pO key bits be r n be zeroN) w0 hin.1 hin.2 ?_)⟩
        exact feedp_other hbe (by omega) n be zeroN (getN h be) w0
    rcases E with ⟨rfl, rfl, _⟩ | ⟨p, _, a, b, _, k, _, _, _, _, g⟩ | ⟨_, _, a, b, _, k, _, _, _, _, g⟩
    · refine ⟨0, zeroN, ⟨fun _ => rfl, fun _ _ _ _ _ _ _ _ q => ?_⟩, fun q => absurd rfl q, rfl⟩
      exact absurd q (by show ¬ (0 : Int) = 1; omega)
    · exact end_ a b g (by rw [k]; decide)
    · exact end_ a b g (by rw [k]; decide)
  | @step f l r ks bi way e n fe le hf h2 hl' hS r1 r2 hB hn hk w ih =>
    intro w0 hw0 hf0 _
    have e1 := feedp_step (key := key) (bits := bits) (show r ≠ 0 by omega) zeroN 0 zeroN hB w0 (by omega)
    rw [hw0] at e1
    have hkids : ∀ k ∈ ks, 1 ≤ k ∧ k ≤ r - 1 := fun k hkm => by
      have hmn := may_node hm r1 r2
      rw [hn] at hmn
      rcases hmn.2 k (by rw [allK_b]; exact List.mem_append_left _ hkm) with q | q
      · exact absurd q (hB.nz k hkm)
      · exact q
    obtain ⟨b, o, q1, q2, q3⟩ := ih (w0 ++ [stepV r (bN (maskC bits (lev bits - (f + 1)) l) ks (l.length : Int) bi) ((ck bits (lev bits - (f + 1)) key : Nat) : Int)]) (by rw [List.length_append]; simp only [List.length_cons, List.length_nil]; omega) (by omega)
      (.inr ⟨w0, r, _, ks, _, bi, _, rfl, hB, r2, hkids⟩)
    rw [List.append_assoc] at q1 q3
    refine ⟨b, o, q1, q2, ?_⟩
    rw [runp_step h hl root (pO key bits r 0 zeroN 0 zeroN) w0 r1 r2 (by
      show pP_Feed (getN h r) _ w0 = _
      rw [hn]
      exact e1)]
    exact q3
theorem answero_any {fe : Nat} {e : Int} {n : NodeV} {le : List PairV} (E : EndOK h bits fe e n le) (way : List StepV) (b : Int) (o : NodeV) :
    pP_Answer_o (pB key bits 0 way e n b o) = some (valF (le.find? (fun q => decide (q.1 = key))), (pB key bits 0 way e n b o, ())) := by
  rw [pP_Answer_o.eq]
  show br (notB (eqI (0 : Int) 0)) _ (br (notB (eqI n.1 1)) (pP_Answer_o.j0 (notB (eqI n.1 3)) _) (pP_Answer_o.j0 false _)) = _
  rw [show notB (eqI (0 : Int) 0) = false from rfl, br_f]
  have jf : pP_Answer_o.j0 false (pB key bits 0 way e n b o) = bnd (node_Binds n) fun r0 => bnd (pair_Get r0.2.1 key) fun r1 => some (r1, (pB key bits 0 way e n b o, ())) := by rw [pP_Answer_o.j0.eq, br_f]; rfl
  rcases E with ⟨rfl, rfl, rfl⟩ | ⟨p, rfl, _, _, on, k, _, hb, hp, _⟩ | ⟨_, _, _, _, on, k, hb, hS, hT, hl, _⟩
  · rw [show notB (eqI zeroN.1 1) = true from rfl, br_t, show notB (eqI zeroN.1 3) = true from rfl, pP_Answer_o.j0.eq, br_t]
    rfl
  · rw [k, show notB (eqI (1 : Int) 1) = false from rfl, br_f, jf, binds_any n on, bnd_some, hb]
    dsimp only
    rw [pget_any [p] key (by simp) (fun q hq => by rw [List.mem_singleton] at hq; exact hq ▸ hp.ok) rfl, bnd_some]
  · rw [k, show notB (eqI (3 : Int) 1) = true from rfl, br_t, show notB (eqI (3 : Int) 3) = false from rfl, jf, binds_any n on, bnd_some, hb]
    dsimp only
    rw [pget_any le key (by omega) (fun q hq => (hT q hq).ok) (srt_isS hS), bnd_some]
theorem bottomp_any (hm : mayH h = true) {fe : Nat} {e : Int} {n : NodeV} {le : List PairV} (E : EndOK h bits fe e n le) (hb : (le.find? (fun q => decide (q.1 = key))).isSome = true) (way : List StepV) (b : Int) (o : NodeV) :
    ∃ (root : Int) (news : List NodeV), pP_bottom ((), ((0 : Int), ((), ()))) (pB key bits 0 way e n b o) = some ((((), ((0 : Int), ((), ()))), (root, (decide ((dropS key le).length ≤ 1), ()))), (pB key bits 0 way e n b o, (news, ([e], ())))) ∧
      PlanOK h news ∧ Has h news root (trieT bits fe (dropS key le)) ∧ news.length ≤ 1 ∧ 1 ≤ e ∧ e ≤ h.length ∧ (root = 0 → n.1 = 1 ∧ n.2.1 = key) := by
  have P0 := PlanOK.nil hm
  have e0 : pP_bottom ((), ((0 : Int), ((), ()))) (pB key bits 0 way e n b o) = br (eqI n.1 1) (some ((((), ((0 : Int), ((), ()))), ((0 : Int), (true, ()))), (pB key bits 0 way e n b o, ([], ([e], ()))))) (bnd (node_Binds n) fun r0 => bnd (pair_Drop r0.2.1 key) fun r1 => br (eqI (ofN (lenL tapiPair r1)) (1 : Int))
      (br (andB (leI (0 : Int) (0 : Int)) (ltI (0 : Int) (ofN (lenL tapiPair r1)))) (br (andB (leI (0 : Int) (0 : Int)) (ltI (0 : Int) (ofN (lenL tapiPair r1)))) (bnd (node_Leaf (ixL tapiPair r1 (0 : Int)).1 (ixL tapiPair r1 (0 : Int)).2.1) fun r5 => bnd (plan_Add ((), ((0 : Int), ((), ()))) r5 [] [e]) fun r6 => some ((((), (r6.1.1.2.1, ((), ()))), (r6.1.2.1, (true, ()))), (pB key bits 0 way e n b o, (r6.2.2.2.1, (r6.2.2.1, ()))))) none) none)
      (bnd (node_Bucket r1) fun r7 => bnd (plan_Add ((), ((0 : Int), ((), ()))) r7 [] [e]) fun r8 => some ((((), (r8.1.1.2.1, ((), ()))), (r8.1.2.1, (false, ()))), (pB key bits 0 way e n b o, (r8.2.2.2.1, (r8.2.2.1, ())))))) := by
    rw [pP_bottom.eq]
    simp only [both_self]
    rfl
  rw [e0]
  rcases E with ⟨rfl, rfl, rfl⟩ | ⟨p, rfl, a, c, on, k, hk, hbs, hp, hu, _⟩ | ⟨rfl, h2, a, c, on, k, hbs, hS, hT, hl, _⟩
  · cases hb
  · have hpk : p.1 = key := by
      by_cases q : p.1 = key
      · exact q
      · rw [List.find?_cons, decide_eq_false q] at hb
        cases hb
    have hd : dropS key [p] = [] := by
      unfold dropS
      exact List.filter_cons_of_neg (by simpa using hpk)
    refine ⟨0, [], ?_, P0, by rw [hd, trieT_nil]; exact Has.zero, by simp, a, c, fun _ => ⟨k, by rw [hk, hpk]⟩⟩
    rw [k, show eqI (1 : Int) 1 = true from rfl, br_t, hd]
    rfl
  · have hlen := dropS_length key le hS hb
    have hSd := dropS_srt hS key
    have hTd : ∀ p ∈ dropS key le, okT p := fun p hp => hT p (dropS_mem.1 hp).1
    have hdr : pair_Drop le key = some (dropS key le) := by rw [pdrop_any (by omega) (fun p hp => (hT p hp).ok), makeS_srt hS]
    rw [k, show eqI (3 : Int) 1 = false from rfl, br_f, binds_any n on, bnd_some, hbs]
    dsimp only
    rw [hdr, bnd_some]
    rcases len_cases (dropS key le) with q | ⟨p, q⟩ | q
    · rw [q] at hlen; simp at hlen; omega
    · have hp : okT p := hTd p (by rw [q]; exact List.mem_cons_self)
      obtain ⟨P1, H1⟩ := leaf_has P0 hp
      rw [q]
      refine ⟨-(([] : List NodeV).length : Int) - 1, [] ++ [lfN p], ?_, P1, H1 bits 0, by simp, a, c, fun z => by simp at z⟩
      show bnd (node_Leaf p.1 p.2.1) _ = _
      have hl : node_Leaf p.1 p.2.1 = some (lfN p) := by rw [node_Leaf.eq]; rfl
      rw [hl, bnd_some, plAdd _ (lfN_ok hp.ok) [] (by simp) [e], bnd_some]
      rfl
    · obtain ⟨P1, H1⟩ := buck_has P0 q (by omega) hSd hTd
      refine ⟨-(([] : List NodeV).length : Int) - 1, [] ++ [buckN (dropS key le)], ?_, P1, H1 bits, by simp, a, c, fun z => by simp at z⟩
      rw [eqI_d, decide_eq_false (show ¬ ofN (lenL tapiPair (dropS key le)) = 1 by show ¬ (((dropS key le).length : Nat) : Int) = 1; omega), br_f, node_Bucket.eq, make_any _ (by omega) (fun p hp => (hTd p hp).ok), bnd_some, makeS_srt hSd, bnd_some]
      show bnd (plan_Add ((), ((0 : Int), ((), ()))) (buckN (dropS key le)) [] [e]) _ = _
      rw [plAdd _ (buckN_ok (by omega) fun p hp => (hTd p hp).ok) [] (by simp) [e], bnd_some, decide_eq_false (by omega)]
end
end Go.Proofs.YtjekopgcpikkiaaGreatDoor.AM
set_option linter.unusedVariables false
set_option linter.unusedSimpArgs false
namespace Go.Proofs.YtjekopgcpikkiaaGreatDoor.AM
open Go.Abs
section
variable {h : List NodeV} {bits : Int} {key : ByteArray}
theorem upp_any (hm : mayH h = true) (WAY : List StepV) (e : Int) (n : NodeV) (b : Int) (o : NodeV) (hlone : LoneOK key WAY n b) (hbo : b ≠ 0 → o = getN h b) (a c : Int) (x5 : List NodeV) (x6 : List Int) {f : Nat} {l : List PairV} {r : Int} {way : List StepV} {fe : Nat} {le : List PairV} (w : WayG h bits key f l r way e n fe le)
    (hbound : (le.find? (fun q => decide (q.1 = key))).isSome = true) :
    ∀ (w0 : List StepV) (ys rest : List (Int × StepV × Unit)) (root : Int) (news : List NodeV) (olds : List Int), WAY = w0 ++ way → ys.map (fun y => y.2.1) = way.reverse → PlanOK h news → Has h news root (trieT bits fe (dropS key le)) → (root = 0 → n.1 = 1 ∧ n.2.1 = key) → news.length + way.length ≤ 400 → olds.length + way.length ≤ 400 → (∀ r ∈ olds, 1 ≤ r ∧ r ≤ h.length) →
      ∃ (root' : Int) (news' : List NodeV) (olds' : List Int), pP_Plan.e0 (ys ++ rest) (pB key bits 0 WAY e n b o) ((), (c, ((), ()))) ((), (a, ((), ()))) root (decide ((dropS key le).length ≤ 1)) x5 x6 news olds =
          pP_Plan.e0 rest (pB key bits 0 WAY e n b o) ((), (c, ((), ()))) ((), (a, ((), ()))) root' (decide ((dropS key l).length ≤ 1)) x5 x6 news' olds' ∧
        PlanOK h news' ∧ Has h news' root' (trieT bits f (dropS key l)) ∧ news'.length ≤ news.length + way.length ∧ olds'.length = olds.length + way.length ∧ (∀ r ∈ olds', 1 ≤ r ∧ r ≤ h.length) ∧ ((way = [] ∧ root' = root) ∨ root' ≠ 0) := by
  have hlev := lev_le bits
  induction w with
  | stop E =>
    intro w0 ys rest root news olds _ hys P H _ _ _ ho
    have : ys = [] := List.map_eq_nil_iff.1 hys
    subst this
    exact ⟨root, news, olds, rfl, P, H, by omega, rfl, ho, .inl ⟨rfl, rfl⟩⟩
  | @step f l r ks bi way e n fe le hf h2 hl hS r1 r2 hB hn hk w ih =>
    intro w0 ys rest root news olds hW hys P H hr0 hn1 ho1 ho
    rw [List.reverse_cons] at hys
    obtain ⟨ys', ys2, rfl, hy1, hy2⟩ := List.map_eq_append_iff.1 hys
    obtain ⟨y, rfl, hy⟩ := List.map_eq_singleton_iff.1 hy2
    obtain ⟨ix, st, u⟩ := y
    have hy : st = _ := hy
    subst hy
    rw [List.length_cons] at hn1 ho1
    obtain ⟨root1, news1, olds1, g1, P1, H1, g2, g3, g4, g5⟩ := ih hlone hbound (w0 ++ [stepV r (bN (maskC bits (lev bits - (f + 1)) l) ks (l.length : Int) bi) ((ck bits (lev bits - (f + 1)) key : Nat) : Int)]) ys' ((ix, (_, u)) :: rest) root news olds (by rw [hW, List.append_assoc]; rfl) hy1 P H hr0 (by omega) (by omega) ho
    have hfind : l.find? (fun q => decide (q.1 = key)) = le.find? (fun q => decide (q.1 = key)) := by rw [w.find, part_find]
    obtain ⟨root2, news2, u1, P2, H2, u2, u3⟩ := up_one (key := key) hm hf h2 hl hS r1 r2 hB hk (by rw [hfind]; exact hbound) a root1 WAY e n b o olds1 P1 H1 (by omega) (by omega) (fun hz m' ks' hw => by
      rcases g5 with ⟨q1, q2⟩ | q
      · obtain ⟨z1, z2⟩ := hr0 (by rw [← q2]; exact hz)
        obtain ⟨v1, v2⟩ := hlone.2 w0 r _ ks _ bi _ (by rw [hW, q1]) z1 z2 hB m' ks' hw
        refine ⟨fun hk1 => ?_, v2⟩
        have eb := v1 hk1
        refine ⟨eb, hbo ?_⟩
        obtain ⟨m1, k1, hB1, hw1, _⟩ := without_spec hB (branch_self hB) ((ck bits (lev bits - (f + 1)) key : Nat) : Int)
        have := without_same hw hw1
        subst this
        obtain ⟨k, hk⟩ := List.length_eq_one_iff.1 hk1
        rw [eb, hk]
        exact hB1.nz k (by rw [hk]; exact List.mem_cons_self)
      · exact absurd hz q)
    refine ⟨root2, news2, olds1 ++ [r], ?_, P2, H2, by rw [List.length_cons]; omega, by rw [List.length_append, List.length_cons]; simp only [List.length_cons, List.length_nil]; omega, fun q hq => ?_, .inr u3⟩
    · rw [List.append_assoc]
      rw [show ([(ix, (stepV r (bN (maskC bits (lev bits - (f + 1)) l) ks (l.length : Int) bi) ((ck bits (lev bits - (f + 1)) key : Nat) : Int), u))] : List (Int × StepV × Unit)) ++ rest = (ix, (stepV r (bN (maskC bits (lev bits - (f + 1)) l) ks (l.length : Int) bi) ((ck bits (lev bits - (f + 1)) key : Nat) : Int), u)) :: rest from rfl, g1, pP_Plan.e0.cons]
      show bnd (pP_up ((), (a, ((), ()))) (stepV r (bN (maskC bits (lev bits - (f + 1)) l) ks l.length bi) ((ck bits (lev bits - (f + 1)) key : Nat) : Int)) root1 (decide ((dropS key (part bits (lev bits - (f + 1)) l (ck bits (lev bits - (f + 1)) key))).length ≤ 1)) (pB key bits 0 WAY e n b o) news1 olds1) _ = _
      rw [u1, bnd_some]
    · rcases List.mem_append.1 hq with hq | hq
      · exact g4 q hq
      · rw [List.mem_singleton] at hq
        subst hq
        exact ⟨r1, r2⟩
theorem planp_any (hm : mayH h = true) {l : List PairV} {r : Int} {way : List StepV} {e : Int} {n : NodeV} {fe : Nat} {le : List PairV} (w : WayG h bits key (lev bits) l r way e n fe le) (b : Int) (o : NodeV) (hlone : LoneOK key way n b) (hbo : b ≠ 0 → o = getN h b) :
    ((l.find? (fun q => decide (q.1 = key))).isSome = false → pP_Plan (pO key bits 0 e n b o) way = some ((((), ((0 : Int), ((), ()))), (false, ())), (pB key bits 0 way e n b o, ((), ([], ([], ())))))) ∧
    ((l.find? (fun q => decide (q.1 = key))).isSome = true → ∃ (root : Int) (news : List NodeV) (olds : List Int), pP_Plan (pO key bits 0 e n b o) way = some ((((), (root, ((), ()))), (true, ())), (pB key bits 0 way e n b o, ((), (news, (olds, ()))))) ∧
      PlanOK h news ∧ Has h news root (trieT bits (lev bits) (dropS key l)) ∧ news.length ≤ 200 ∧ olds.length ≤ 200 ∧ ∀ r ∈ olds, 1 ≤ r ∧ r ≤ h.length) := by
  have hlev := lev_le bits
  obtain ⟨E, hwl⟩ := w.end_ok
  have hfind := w.find
  have e0 : pP_Plan (pO key bits 0 e n b o) way = bnd (pP_Answer_o (pB key bits 0 way e n b o)) fun r0 => br (notB r0.1.2.1)
      (some ((((), ((0 : Int), ((), ()))), (false, ())), (r0.2.1, ((), ([], ([], ()))))))
      (bnd (pP_bottom ((), ((0 : Int), ((), ()))) r0.2.1) fun r1 => bnd (slices_Backwardps r1.2.1.2.2.2.2.1) fun r2 => bnd (slices_Backwardps_1 r2.2.1) fun r3 =>
        pP_Plan.e0 r3 r1.2.1 ((), ((0 : Int), ((), ()))) ((), (r1.1.1.2.1, ((), ()))) r1.1.2.1 r1.1.2.2.1 [] [] r1.2.2.1 r1.2.2.2.1) := pP_Plan.eq _ _
  rw [answero_any E, bnd_some, hfind] at e0
  constructor
  · intro hc
    rw [e0]
    cases hq : l.find? (fun q => decide (q.1 = key)) with
    | some p => rw [hq] at hc; cases hc
    | none => rfl
  · intro hc
    obtain ⟨root, news, b1, b2, b3, b4, b5, b6, b7⟩ := bottomp_any hm E (by rw [hfind]; exact hc) way b o
    obtain ⟨ys, y1, y2⟩ := backp_any way (by omega)
    obtain ⟨root', news', olds', u1, u2, u3, u4, u5, u6, _⟩ := upp_any hm way e n b o hlone hbo 0 0 [] [] w (by rw [hfind]; exact hc) [] ys [] root news [e] rfl y2 b2 b3 b7 (by omega) (by simp; omega) (fun r hr => by rw [List.mem_singleton] at hr; omega)
    refine ⟨root', news', olds', ?_, u2, u3, by omega, by rw [u5]; simp; omega, u6⟩
    rw [e0]
    cases hq : l.find? (fun q => decide (q.1 = key)) with
    | none => rw [hq] at hc; cases hc
    | some p =>
      show br (notB true) _ (bnd (pP_bottom ((), ((0 : Int), ((), ()))) (pB key bits 0 way e n b o)) _) = _
      rw [show notB true = false from rfl, br_f, b1, bnd_some]
      show bnd (slices_Backwardps way) _ = _
      rw [slices_Backwardps.eq, bnd_some]
      show bnd (slices_Backwardps_1 way) _ = _
      rw [y1, bnd_some]
      show pP_Plan.e0 ys (pB key bits 0 way e n b o) ((), ((0 : Int), ((), ()))) ((), ((0 : Int), ((), ()))) root (decide ((dropS key le).length ≤ 1)) [] [] news [e] = _
      rw [List.append_nil] at u1
      rw [u1, pP_Plan.e0.nil]
end
theorem prun_any {h : List NodeV} (ho : okH h) {root : Int} {bits : Int} {l : List PairV} (hf : fitH h root = true) (hs : U h root = trieT bits (lev bits) l) (hS : Srt l) (hT : ∀ p ∈ l, okT p) (hl : l.length ≤ 100000) (hh : h.length ≤ 30000000) {key : ByteArray} (hkey : key.size ≤ 40) :
    ∃ (news : List NodeV) (s : Int), prune_Run h root key bits = some (PS h news, (s, ((0 : Int), ()))) ∧ okH (PS h news) ∧ fitH (PS h news) s = true ∧ news.length ≤ 200 ∧ U (PS h news) s = trieT bits (lev bits) (dropS key l) ∧
      ((l.find? (fun q => decide (q.1 = key))).isSome = false → news = [] ∧ s = root) := by
  obtain ⟨⟨r0, r1⟩, hm⟩ := fitH_iff.1 hf
  obtain ⟨_, hi, _⟩ := trie_again ho hf hs hS hT (by omega)
  obtain ⟨way, e, n, fe, le, w⟩ := way_ex ho hm bits key (lev bits) l root (Nat.le_refl _) r0 r1 hs hS hT hl
  obtain ⟨b, o, q1, q2, q3⟩ := runp_loop ho hm w root [] (by simp) (Nat.le_refl _) (.inl rfl)
  rw [List.nil_append] at q1 q3
  obtain ⟨p1, p2⟩ := planp_any hm w b o q1 q2
  have hrun : prune_Run h root key bits = bnd (pP_Plan (pO key bits 0 e n b o) way) fun r3 => br (notB r3.1.2.1) (bnd (plan_Do h ([], (root, ([], ())))) fun r4 => some r4) (bnd (plan_Do h (r3.2.2.2.1, (r3.1.1.2.1, (r3.2.2.2.2.1, ())))) fun r5 => some r5) := by
    rw [prune_Run.eq, hi, bnd_some, show notB true = false from rfl, br_f, prune_New.eq, hashof_any key bits (by omega), bnd_some, bnd_some]
    show prune_Run.l0 h root (pO key bits root 0 zeroN 0 zeroN) [] = _
    rw [q3, prune_Run.l0.eq, wantp_any, bnd_some]
    rfl
  cases hc : (l.find? (fun q => decide (q.1 = key))).isSome with
  | false =>
    have P0 := PlanOK.nil hm
    have hd := do_plan ho hm P0 (by simp) (root := root) (by simp; omega) r1 (old := []) (by simp) (fun r hr => by cases hr)
    rw [fillQ_pos _ r0] at hd
    refine ⟨[], root, ?_, by rw [PS_nil]; exact ho, by rw [PS_nil]; exact hf, by simp, by rw [PS_nil, dropS_find key l hc]; exact hs, fun _ => ⟨rfl, rfl⟩⟩
    rw [hrun, p1 hc, bnd_some]
    show bnd (plan_Do h ([], (root, ([], ())))) _ = _
    rw [hd, bnd_some]
  | true =>
    obtain ⟨s, news, olds, g1, g2, g3, g4, g5, g6⟩ := p2 hc
    have hd := do_plan ho hm g2 (by omega) (root := s) g3.lo g3.hi (old := olds) (by omega) g6
    have hin := fill_in g3.lo g3.hi
    refine ⟨news, fillQ h.length s, ?_, g2.okH ho (by omega), fitH_iff.2 ⟨⟨hin.1, hin.2⟩, g2.may⟩, g4, g3.shp, fun q => by cases q⟩
    rw [hrun, g1, bnd_some]
    show bnd (plan_Do h (news, (s, (olds, ())))) _ = _
    rw [hd, bnd_some]
end Go.Proofs.YtjekopgcpikkiaaGreatDoor.AM
set_option linter.unusedVariables false
set_option linter.unusedSimpArgs false
namespace Go.Proofs.YtjekopgcpikkiaaGreatDoor.AM
open Go.Abs
end Go.Proofs.YtjekopgcpikkiaaGreatDoor.AM
set_option linter.unusedVariables false
set_option linter.unusedSimpArgs false
namespace Go.Proofs.YtjekopgcpikkiaaGreatDoor.AM
open Go.Abs
theorem answer_any {h : List NodeV} {bits : Int} {key : ByteArray} {fe : Nat} {e : Int} {n : NodeV} {le : List PairV} (E : EndOK h bits fe e n le) (way : List StepV) (b : Int) (o : NodeV) :
    pP_Answer (pO key bits 0 e n b o) way = some (valF (le.find? (fun q => decide (q.1 = key))), (pO key bits 0 e n b o, (way, ()))) := by
  rw [pP_Answer.eq]
  show br (notB (eqI (0 : Int) 0)) _ (br (notB (eqI n.1 1)) (pP_Answer.j0 (notB (eqI n.1 3)) _ _) (pP_Answer.j0 false _ _)) = _
  rw [show notB (eqI (0 : Int) 0) = false from rfl, br_f]
  have jf : pP_Answer.j0 false (pO key bits 0 e n b o) way = bnd (node_Binds n) fun r0 => bnd (pair_Get r0.2.1 key) fun r1 => some (r1, (pO key bits 0 e n b o, (way, ()))) := by rw [pP_Answer.j0.eq, br_f]; rfl
  rcases E with ⟨rfl, rfl, rfl⟩ | ⟨p, rfl, _, _, on, k, _, hb, hp, _⟩ | ⟨_, _, _, _, on, k, hb, hS, hT, hl, _⟩
  · rw [show notB (eqI zeroN.1 1) = true from rfl, br_t, show notB (eqI zeroN.1 3) = true from rfl, pP_Answer.j0.eq, br_t]
    rfl
  · rw [k, show notB (eqI (1 : Int) 1) = false from rfl, br_f, jf, binds_any n on, bnd_some, hb]
    dsimp only
    rw [pget_any [p] key (by simp) (fun q hq => by rw [List.mem_singleton] at hq; exact hq ▸ hp.ok) rfl, bnd_some]
  · rw [k, show notB (eqI (3 : Int) 1) = true from rfl, br_t, show notB (eqI (3 : Int) 3) = false from rfl, jf, binds_any n on, bnd_some, hb]
    dsimp only
    rw [pget_any le key (by omega) (fun q hq => (hT q hq).ok) (srt_isS hS), bnd_some]
abbrev k24 : ByteArray := ByteArray.mk #[97]
abbrev b24 : ByteArray := ByteArray.mk #[98]
abbrev v24 : ByteArray := ByteArray.mk #[49]
def x24 : PairV := (k24, (v24, ()))
theorem x24_ok : okT x24 := ⟨by decide +kernel, by decide +kernel⟩
theorem okH_nil24 : okH [] := ⟨by simp, fun n hn => (by cases hn), fun n hn => (by cases hn)⟩
theorem works24 : law24_works = some true := by
  have hx := x24_ok
  have P0 := PlanOK.nil (h := []) rfl
  obtain ⟨P1, H1⟩ := leaf_has P0 hx
  have ho : okH [lfN x24] := P1.okH okH_nil24 (by simp)
  have hm : mayH [lfN x24] = true := P1.may
  have hu : ∀ f, U [lfN x24] 1 = trieT 64 f [x24] := fun f => (H1 64 f).shp
  have hf : fitH [lfN x24] 1 = true := fitH_iff.2 ⟨⟨by omega, by simp⟩, hm⟩
  have hTx : ∀ p ∈ [x24], okT p := fun p hp => by rw [List.mem_singleton] at hp; exact hp ▸ hx
  have E : EndOK [lfN x24] 64 (lev 64) 1 (lfN x24) [x24] := .inr (.inl ⟨x24, rfl, by omega, by simp, lfN_ok hx.ok, rfl, rfl, rfl, hx, hu, rfl⟩)
  have w : WayG [lfN x24] 64 k24 (lev 64) [x24] 1 [] 1 (lfN x24) (lev 64) [x24] := .stop E
  have hfd : ([x24].find? (fun q => decide (q.1 = k24))) = some x24 := by rw [List.find?_cons, decide_eq_true (show x24.1 = k24 from rfl)]
  have hfn : ([x24].find? (fun q => decide (q.1 = b24))) = none := by
    rw [List.find?_cons, decide_eq_false (show ¬ x24.1 = b24 by decide +kernel)]
    rfl
  have hleaf : node_Leaf k24 v24 = some (lfN x24) := by rw [node_Leaf.eq]; rfl
  obtain ⟨ys, y1, y2⟩ := backp_any [] (by simp)
  have : ys = [] := List.map_eq_nil_iff.1 y2
  subst this
  have hbot : ∀ o, pP_bottom ((), ((0 : Int), ((), ()))) (pB k24 64 0 [] 1 (lfN x24) 0 o) = some ((((), ((0 : Int), ((), ()))), ((0 : Int), (true, ()))), (pB k24 64 0 [] 1 (lfN x24) 0 o, ([], ([(1 : Int)], ())))) := fun o => by
    rw [pP_bottom.eq]
    rfl
  have hplan : ∀ o, pP_Plan (pO k24 64 0 1 (lfN x24) 0 o) [] = some ((((), ((0 : Int), ((), ()))), (true, ())), (pB k24 64 0 [] 1 (lfN x24) 0 o, ((), ([], ([(1 : Int)], ()))))) := fun o => by
    rw [pP_Plan.eq]
    show bnd (pP_Answer_o (pB k24 64 0 [] 1 (lfN x24) 0 o)) _ = _
    rw [answero_any E, bnd_some, hfd]
    show br (notB true) _ (bnd (pP_bottom ((), ((0 : Int), ((), ()))) (pB k24 64 0 [] 1 (lfN x24) 0 o)) _) = _
    rw [show notB true = false from rfl, br_f, hbot, bnd_some]
    show bnd (slices_Backwardps []) _ = _
    rw [slices_Backwardps.eq, bnd_some]
    show bnd (slices_Backwardps_1 []) _ = _
    rw [y1, bnd_some, pP_Plan.e0.nil]
  have hlone : pP_lone (pO k24 64 0 1 (lfN x24) 0 zeroN) [] = some (0, (pO k24 64 0 1 (lfN x24) 0 zeroN, ([], ()))) := by
    obtain ⟨b, q1, q2⟩ := lone_any (key := k24) (bits := 64) 1 (lfN x24) 0 zeroN [] (by simp) (.inl rfl)
    have : b = 0 := q2.1 (.inl rfl)
    rw [this] at q1
    exact q1
  have hfeed : pP_Feed (lfN x24) (pO k24 64 1 0 zeroN 0 zeroN) [] = some ((), (pO k24 64 0 1 (lfN x24) 0 zeroN, ([], ()))) := feedp_end (by omega) zeroN 0 zeroN (show (lfN x24).1 ≠ 2 by show (1 : Int) ≠ 2; omega) [] hlone
  have hd := do_plan ho hm (PlanOK.nil hm) (by simp) (root := 0) (by simp) (by simp) (old := [1]) (by simp) (fun r hr => by rw [List.mem_singleton] at hr; subst hr; exact ⟨by omega, by simp⟩)
  rw [PS_nil, fillQ_0] at hd
  obtain ⟨_, hi, _⟩ := trie_again ho hf (hu (lev 64)) (List.pairwise_singleton _ _) hTx (by simp)
  have r1 : prune_Run [lfN x24] 1 k24 64 = some ([lfN x24], ((0 : Int), ((0 : Int), ()))) := by
    rw [prune_Run.eq, hi, bnd_some, show notB true = false from rfl, br_f, prune_New.eq, hashof_any k24 64 (by have : k24.size ≤ 16 := hx.1; omega), bnd_some, bnd_some]
    show prune_Run.l0 [lfN x24] 1 (pO k24 64 1 0 zeroN 0 zeroN) [] = _
    rw [runp_step [lfN x24] (by simp) 1 (pO k24 64 1 0 zeroN 0 zeroN) [] (show (1 : Int) ≤ 1 by omega) (by show (1 : Int) ≤ 1; omega) hfeed, prune_Run.l0.eq, wantp_any, bnd_some]
    show br (notB (eqI (0 : Int) 0)) _ (bnd (pP_Plan (pO k24 64 0 1 (lfN x24) 0 zeroN) []) _) = _
    rw [show notB (eqI (0 : Int) 0) = false from rfl, br_f, hplan, bnd_some]
    show bnd (plan_Do [lfN x24] ([], ((0 : Int), ([(1 : Int)], ())))) _ = _
    rw [hd, bnd_some]
  have r2 : prune_Run [lfN x24] 1 b24 64 = some ([lfN x24], ((1 : Int), ((0 : Int), ()))) := by
    obtain ⟨news, s, g1, _, _, _, _, g6⟩ := prun_any ho hf (hu (lev 64)) (List.pairwise_singleton _ _) hTx (by simp) (by simp) (key := b24) (by decide +kernel)
    obtain ⟨e1, e2⟩ := g6 (by rw [hfn]; rfl)
    rw [g1, e1, e2, PS_nil]
  have hans := answer_any (key := k24) E [] 0 zeroN
  rw [hfd] at hans
  rw [law24_works.eq, hleaf, bnd_some, r1, bnd_some, r2, bnd_some, prune_New.eq, hashof_any k24 64 (by have : k24.size ≤ 16 := hx.1; omega), bnd_some, bnd_some]
  show bnd (pP_Feed (lfN x24) (pO k24 64 1 0 zeroN 0 zeroN) []) _ = _
  rw [hfeed, bnd_some]
  show bnd (pP_Answer (pO k24 64 0 1 (lfN x24) 0 zeroN) []) _ = _
  rw [hans, bnd_some]
  show bnd (pP_Plan (pO k24 64 0 1 (lfN x24) 0 zeroN) []) _ = _
  rw [hplan, bnd_some]
  have hss : ∀ a : ByteArray, eqS a a = true := fun a => by rw [eqS_d]; exact decide_eq_true rfl
  show br (eqS v24 v24) (some true) (some false) = _
  rw [hss]
  rfl
theorem made24_any (a0 : Int) (a1 : List PairV) (hln : a1.length ≤ 9223372036854775807) : ∃ l : List PairV, l.length ≤ 12 ∧ (∀ p ∈ l, okP p) ∧
    law24_made a0 a1 = some (if longL l = true then ([], ([], ((0 : Int), (false, ())))) else (makeS l, (trieH a0 l, (trieR a0 l, (true, ()))))) := by
  refine ⟨fewL (a1.take (min a1.length 12)), ?_, fewL_ok _, ?_⟩
  · unfold fewL
    rw [List.length_map, List.length_take, List.length_take]
    omega
  generalize hl' : fewL (a1.take (min a1.length 12)) = l
  have hlen : l.length ≤ 12 := by
    rw [← hl']
    unfold fewL
    rw [List.length_map, List.length_take, List.length_take]
    omega
  have hs : ∀ p ∈ l, okP p := by rw [← hl']; exact fewL_ok _
  have hm := makeS_len l
  have hsub : subL tapiPair a1 (toN (0 : Int)) (toN (minI (ofN (lenL tapiPair a1)) (12 : Int))) = a1.take (min a1.length 12) := by
    show (a1.drop 0).take ((minI ((a1.length : Nat) : Int) 12).toNat - 0) = _
    have : (minI ((a1.length : Nat) : Int) 12).toNat = min a1.length 12 := by unfold minI; split <;> omega
    rw [List.drop_zero, this, Nat.sub_zero]
  rw [law24_made.eq, hsub, few_any _ (by rw [List.length_take]; omega), bnd_some, hl']
  have : andB (leI (0 : Int) (0 : Int)) (andB (leI (0 : Int) (minI (ofN (lenL tapiPair a1)) (12 : Int))) (leI (minI (ofN (lenL tapiPair a1)) (12 : Int)) (ofN (lenL tapiPair a1)))) = true := by
    show andB (leI (0 : Int) (0 : Int)) (andB (leI (0 : Int) (minI ((a1.length : Nat) : Int) (12 : Int))) (leI (minI ((a1.length : Nat) : Int) (12 : Int)) ((a1.length : Nat) : Int))) = true
    simp only [leI_d, andB_d, decide_eq_true_eq]
    unfold minI
    split <;> omega
  rw [this, br_t, rlong20_any l (by omega) (by omega) hs, bnd_some]
  cases hg : longL l with
  | true => rw [br_t, if_pos rfl]
  | false =>
    obtain ⟨e, T, ho⟩ := make_trie a0 l (by omega) (by omega) hs (longL_not hg)
    rw [br_f, e, bnd_some, refmake_any l (by omega) hs, bnd_some, if_neg (by simp)]
end Go.Proofs.YtjekopgcpikkiaaGreatDoor.AM
set_option linter.unusedVariables false
set_option linter.unusedSimpArgs false
namespace Go.Proofs.YtjekopgcpikkiaaGreatDoor.AM
open Go.Abs
abbrev GraftV := Int × ByteArray × ByteArray × ByteArray × Int × Int × Int × List StepV × Int × NodeV
noncomputable def gB (how : Int) (key val old : ByteArray) (bits want : Int) (way : List StepV) (e : Int) (n : NodeV) : GraftV := (how, (key, (val, (old, (bits, (((hashS key bits : Nat) : Int), (want, (way, (e, n)))))))))
theorem part_one (bits : Int) (level : Nat) (p : PairV) (j : Nat) : part bits level [p] j = if ck bits level p.1 = j then [p] else [] := by
  unfold part
  by_cases h : ck bits level p.1 = j
  · rw [if_pos h, List.filter_cons, if_pos (by rw [decide_eq_true_eq]; exact h)]; rfl
  · rw [if_neg h, List.filter_cons, if_neg (by rw [decide_eq_true_eq]; exact h)]; rfl
theorem two_len {p x : PairV} (hne : p.1 ≠ x.1) : (putS [p] x).length = 2 := by
  have := putS_length x [p] (List.pairwise_singleton _ _)
  rw [List.find?_cons, decide_eq_false hne] at this
  exact this
theorem maskC_two (bits : Int) (level : Nat) (p x : PairV) : maskC bits level (putS [p] x) = withM (withM 0 ((ck bits level p.1 : Nat) : Int)) ((ck bits level x.1 : Nat) : Int) := by
  have h0 : maskC bits level [] = 0 := by
    apply Nat.eq_of_testBit_eq
    intro j
    rw [Nat.zero_testBit]
    cases hb : (maskC bits level []).testBit j with
    | false => rfl
    | true => exact absurd rfl (usedC_mem.1 ((maskC_bit bits level [] j).1 hb)).2
  rw [maskC_put _ _ _ _ (List.pairwise_singleton _ _), show [p] = putS [] p from rfl, maskC_put _ _ _ _ List.Pairwise.nil, h0]
theorem chAt_0 (j : Nat) : chAt 0 [] j = 0 := by unfold chAt; rw [Nat.zero_testBit, if_neg (by simp)]
section
variable {h : List NodeV} (hm : mayH h = true) (how : Int) (key val old : ByteArray) (bits want : Int) (way : List StepV) (e : Int) (n : NodeV) (p : PairV)
  (hx : okT (key, (val, ()))) (hp : okT p) (hne : p.1 ≠ key) (on : okN n) (hk : n.2.1 = p.1) (hb : bindsS n = [p]) (e1 : 1 ≤ e) (e2 : e ≤ h.length) (hu : ∀ f, U h e = trieT bits f [p])
include hm hx hp hne on hk hb e1 e2 hu
theorem two_any (z : Int) (olds : List Int) : ∀ (f : Nat) (news : List NodeV), f ≤ lev bits → PlanOK h news → news.length + 3 * f ≤ 500 →
    ∃ (root : Int) (there : Bool) (news' : List NodeV), gG_two ((), (z, ((), ()))) ((lev bits - f : Nat) : Int) (gB how key val old bits want way e n) news olds =
      some ((((), (z, ((), ()))), (root, (there, ()))), (gB how key val old bits want way e n, (news', (olds, ())))) ∧ PlanOK h news' ∧ Has h news' root (trieT bits f (putS [p] (key, (val, ())))) ∧ news'.length ≤ news.length + 3 * f + 3 := by
  have hlev := lev_le bits
  have hS : Srt (putS [p] (key, (val, ()))) := putS_srt _ (List.pairwise_singleton _ _)
  have hT : ∀ q ∈ putS [p] (key, (val, ())), okT q := putS_okT hx fun q hq => by rw [List.mem_singleton] at hq; exact hq ▸ hp
  have h2 : (putS [p] (key, (val, ()))).length = 2 := two_len hne
  intro f
  induction f with
  | zero =>
    intro news hf P hn
    have hmk : makeS ([p] ++ [(key, (val, ()))]) = putS [p] (key, (val, ())) := rfl
    have hbk : node_Bucket ([p] ++ [(key, (val, ()))]) = some (buckN (putS [p] (key, (val, ())))) := by
      rw [node_Bucket.eq, make_any _ (by simp) (fun q hq => by
        simp only [List.cons_append, List.nil_append, List.mem_cons, List.not_mem_nil, or_false] at hq
        rcases hq with rfl | rfl
        · exact hp.ok
        · exact hx.ok), bnd_some, hmk]
      rfl
    obtain ⟨P', H⟩ := buck_has P (by omega) (by omega) hS hT
    refine ⟨-(news.length : Int) - 1, false, news ++ [buckN (putS [p] (key, (val, ())))], ?_, P', H bits, by rw [List.length_append]; simp⟩
    rw [gG_two.eq]
    simp only [both_self]
    show bnd (hash_Levels bits) _ = _
    rw [levels_any, bnd_some, leI_d, br_if, if_pos (by omega)]
    show bnd (node_Binds n) _ = _
    rw [binds_any n on, bnd_some, hb]
    dsimp only
    simp only [fitL_d, appL_d, br_if]
    rw [if_pos (by simp)]
    show bnd (node_Bucket ([p] ++ [(key, (val, ()))])) _ = _
    rw [hbk, bnd_some, plAdd _ (buckN_ok (by omega) fun q hq => (hT q hq).ok) news (by omega) olds, bnd_some]
  | succ f ih =>
    intro news hf P hn
    have hlvl : lev bits - f = (lev bits - (f + 1)) + 1 := by omega
    rw [gG_two.eq]
    simp only [both_self]
    show ∃ root there news', bnd (hash_Levels bits) _ = _ ∧ _
    rw [levels_any, bnd_some, leI_d, br_if, if_neg (by omega)]
    generalize hlv : lev bits - (f + 1) = level at hlvl ⊢
    have hv : level ≤ 50000000 := by omega
    show ∃ root there news', bnd (hash_Chunk ((hashS key bits : Nat) : Int) (level : Int) bits) (fun r28 => bnd (hash_Of n.2.1 bits) _) = _ ∧ _
    rw [chunk_m key level bits hv, bnd_some, hk, hashof_any p.1 bits (by have := hp.1; omega), bnd_some]
    show ∃ root there news', bnd (hash_Chunk ((hashS p.1 bits : Nat) : Int) (level : Int) bits) _ = _ ∧ _
    rw [chunk_m p.1 level bits hv, bnd_some, sized_zero, bnd_some, eqI_d, br_if]
    have ci := ck_lt bits level key
    have cj := ck_lt bits level p.1
    have hmask := maskC_two bits level p (key, (val, ()))
    have hpart : ∀ j, part bits level (putS [p] (key, (val, ()))) j = if ck bits level key = j then putS (if ck bits level p.1 = j then [p] else []) (key, (val, ())) else if ck bits level p.1 = j then [p] else [] := fun j => by
      rw [part_put bits level _ j _ (List.pairwise_singleton _ _), part_one]
    by_cases hij : ck bits level key = ck bits level p.1
    · rw [if_pos (by rw [hij])]
      obtain ⟨root, there, news', g1, g2, g3, g4⟩ := ih news (by omega) P (by omega)
      rw [hlvl] at g1
      rw [add1 level (by omega), g1, bnd_some]
      have hr : root ≠ 0 := g3.ne (trieT_ne bits f (putS_ne _ _))
      obtain ⟨m', ks', hB, hw, em, hch⟩ := with_spec okB_two (branch_self okB_two) ((ck bits level key : Nat) : Int) root
      rw [if_neg hr] at em
      dsimp only
      rw [hw, bnd_some]
      have hB' : okB m' ks' (((putS [p] (key, (val, ()))).length : Nat) : Int) 0 := by rw [h2]; exact hB
      have hmm : m' = maskC bits level (putS [p] (key, (val, ()))) := by rw [hmask, em, ← hij, withM_idem]
      obtain ⟨P', H'⟩ := branch_has (bits := bits) (f := f) g2 (L := putS [p] (key, (val, ()))) (by omega) (by rw [hlv]; exact hmm) hB' (fun j hj => by
        rw [hlv, hch j hj, hpart j, hij]
        by_cases hjj : ck bits level p.1 = j
        · rw [if_pos ⟨by omega, hr⟩, if_pos hjj, if_pos hjj]
          exact g3
        · rw [if_neg (fun q => by have := q.1; omega), if_neg hjj, if_neg hjj, chAt_0, trieT_nil]
          exact Has.zero)
      rw [h2] at P' H'
      refine ⟨-(news'.length : Int) - 1, there, news' ++ [bN m' ks' 2 0], ?_, P', H', by rw [List.length_append]; simp only [List.length_cons, List.length_nil]; omega⟩
      rw [plAdd _ hB.node news' (by omega) olds, bnd_some]
    · rw [if_neg (by omega)]
      show ∃ root there news', bnd (node_Leaf key val) _ = _ ∧ _
      obtain ⟨P1, H1⟩ := leaf_has P hx
      have hl : node_Leaf key val = some (lfN (key, (val, ()))) := by rw [node_Leaf.eq]; rfl
      rw [hl, bnd_some, plAdd _ (lfN_ok hx.ok) news (by omega) olds, bnd_some]
      have hr : (-(news.length : Int) - 1) ≠ 0 := by omega
      obtain ⟨m1, k1, B1, w1, em1, c1⟩ := with_spec okB_two (branch_self okB_two) ((ck bits level key : Nat) : Int) (-(news.length : Int) - 1)
      rw [if_neg hr] at em1
      dsimp only
      rw [w1, bnd_some]
      obtain ⟨m2, k2, B2, w2, em2, c2⟩ := with_spec B1 (branch_self B1) ((ck bits level p.1 : Nat) : Int) e
      rw [if_neg (show ¬ e = 0 by omega)] at em2
      show ∃ root there news', bnd (branch_With (bN m1 k1 2 0) ((ck bits level p.1 : Nat) : Int) e) _ = _ ∧ _
      rw [w2, bnd_some]
      have hB' : okB m2 k2 (((putS [p] (key, (val, ()))).length : Nat) : Int) 0 := by rw [h2]; exact B2
      have hmm : m2 = maskC bits level (putS [p] (key, (val, ()))) := by rw [hmask, em2, em1, withM_comm]
      obtain ⟨P', H'⟩ := branch_has (bits := bits) (f := f) P1 (L := putS [p] (key, (val, ()))) (by omega) (by rw [hlv]; exact hmm) hB' (fun j hj => by
        rw [hlv, c2 j hj, c1 j hj, hpart j]
        by_cases hjp : ck bits level p.1 = j
        · rw [if_pos ⟨by omega, by omega⟩, if_neg (by omega), if_pos hjp, ← hu f]
          exact Has.heap hm (by omega) e2
        · rw [if_neg (fun q => by have := q.1; omega)]
          by_cases hjk : ck bits level key = j
          · rw [if_pos ⟨by omega, hr⟩, if_pos hjk, if_neg hjp]
            exact H1 bits f
          · rw [if_neg (fun q => by have := q.1; omega), if_neg hjk, if_neg hjp, chAt_0, trieT_nil]
            exact Has.zero)
      rw [h2] at P' H'
      refine ⟨-((news ++ [lfN (key, (val, ()))]).length : Int) - 1, true, (news ++ [lfN (key, (val, ()))]) ++ [bN m2 k2 2 0], ?_, P', H', by simp only [List.length_append, List.length_cons, List.length_nil]; omega⟩
      rw [plAdd _ B2.node _ (by simp only [List.length_append, List.length_cons, List.length_nil]; omega) olds, bnd_some]
end
end Go.Proofs.YtjekopgcpikkiaaGreatDoor.AM
set_option linter.unusedVariables false
set_option linter.unusedSimpArgs false
namespace Go.Proofs.YtjekopgcpikkiaaGreatDoor.AM
open Go.Abs
theorem back_loop (l : List StepV) (hl : l.length ≤ 50000000) : ∀ (n : Nat), n ≤ l.length → ∃ ys : List (Int × StepV × Unit), slices_Backwardgs_1.l0 l ((n : Int) - 1) = some ys ∧ ys.map (fun y => y.2.1) = (l.take n).reverse
  | 0, _ => by
    refine ⟨[], ?_, rfl⟩
    rw [slices_Backwardgs_1.l0.eq]
    rfl
  | n + 1, h => by
    obtain ⟨ys, e, m⟩ := back_loop l hl n (by omega)
    have hi : n < l.length := by omega
    have ex : ixL tgraftstep l (((n + 1 : Nat) : Int) - 1) = l[n] := by
      rw [show ((n + 1 : Nat) : Int) - 1 = (n : Int) by omega]
      exact ixL_d tgraftstep l n hi
    have es : subI .i64 (((n + 1 : Nat) : Int) - 1) 1 = (n : Int) - 1 := by rw [subI_d (by omega) (by omega)]; omega
    refine ⟨(((n + 1 : Nat) : Int) - 1, (l[n], ())) :: ys, ?_, ?_⟩
    · rw [slices_Backwardgs_1.l0.eq, yieldW_eq, ex, es, e, show notB true = false from rfl, show notB false = true from rfl, br_f, br_t]
      simp only [leI_d, ltI_d, andB_d, ofN_d, lenL_d, br_if]
      rw [if_pos (by omega), if_pos (by omega)]
      exact yieldL_iff.2 ⟨rfl, ys, rfl, rfl⟩
    · rw [List.map_cons, m, List.take_succ_eq_append_getElem hi, List.reverse_append]
      rfl
theorem back_any (l : List StepV) (hl : l.length ≤ 50000000) : ∃ ys : List (Int × StepV × Unit), slices_Backwardgs_1 l = some ys ∧ ys.map (fun y => y.2.1) = l.reverse := by
  obtain ⟨ys, e, m⟩ := back_loop l hl l.length (Nat.le_refl _)
  rw [List.take_length] at m
  refine ⟨ys, ?_, m⟩
  rw [slices_Backwardgs_1.eq, show subI .i64 (ofN (lenL tgraftstep l)) 1 = (l.length : Int) - 1 from subI_d (by show _ ≤ ((l.length : Nat) : Int) - 1; omega) (by show ((l.length : Nat) : Int) - 1 ≤ _; omega)]
  exact e
section
variable {h : List NodeV} {bits : Int} {key : ByteArray}
abbrev GraftO := Int × ByteArray × ByteArray × ByteArray × Int × Int × Int × Unit × Int × NodeV
noncomputable def gO (how : Int) (key val old : ByteArray) (bits want : Int) (e : Int) (n : NodeV) : GraftO := (how, (key, (val, (old, (bits, (((hashS key bits : Nat) : Int), (want, ((), (e, n)))))))))
theorem want_any (g : GraftO) (w : List StepV) : gG_Want g w = some (g.2.2.2.2.2.2.1, (g, (w, ()))) := gG_Want.eq g w
theorem feed_end (how : Int) (val old : ByteArray) {r : Int} (hr : r ≠ 0) (n0 : NodeV) (e0 : Int) {n : NodeV} (hn : n.1 ≠ 2) (w : List StepV) : gG_Feed n (gO how key val old bits r e0 n0) w = some ((), (gO how key val old bits 0 r n, (w, ()))) := by
  rw [gG_Feed.eq, want_any, bnd_some]
  show br (eqI r 0) _ (br (notB (eqI n.1 2)) _ _) = _
  rw [eqI_d, br_if, if_neg hr, eqI_d, decide_eq_false hn, show notB false = true from rfl, br_t, gG_Feed.j0.eq, br_t, both_self]
  rfl
theorem feed_step (how : Int) (val old : ByteArray) {r : Int} (hr : r ≠ 0) (n0 : NodeV) (e0 : Int) {m : Nat} {ks : List Int} {sz bi : Int} (hB : okB m ks sz bi) (w : List StepV) (hw : w.length < lev bits) :
    gG_Feed (bN m ks sz bi) (gO how key val old bits r e0 n0) w = some ((), (gO how key val old bits (chI m ks ((ck bits w.length key : Nat) : Int)) e0 n0, (w ++ [stepV r (bN m ks sz bi) ((ck bits w.length key : Nat) : Int)], ()))) := by
  have hlev := lev_le bits
  rw [gG_Feed.eq, want_any, bnd_some]
  show br (eqI r 0) _ (br (notB (eqI (2 : Int) 2)) _ (bnd (hash_Levels bits) _)) = _
  rw [eqI_d, br_if, if_neg hr, show notB (eqI (2 : Int) 2) = false from rfl, br_f, levels_any, bnd_some, leI_d, show ofN (lenL tgraftstep w) = ((w.length : Nat) : Int) from rfl, decide_eq_false (by omega), gG_Feed.j0.eq, br_f]
  show bnd (hash_Chunk ((hashS key bits : Nat) : Int) ((w.length : Nat) : Int) bits) _ = _
  rw [chunk_m key w.length bits (by omega), bnd_some, fitL_d, br_if, if_pos (by rw [appL_d, List.length_append]; simp only [List.length_cons, List.length_nil]; omega)]
  show bnd (branch_Child (bN m ks sz bi) ((ck bits w.length key : Nat) : Int)) _ = _
  rw [child_any hB (branch_self hB), bnd_some]
  rfl
theorem run_step (h : List NodeV) (hl : h.length ≤ 40000000) (root : Int) (g : GraftO) (w : List StepV) {g' : GraftO} {w' : List StepV} (hr1 : 1 ≤ g.2.2.2.2.2.2.1) (hr2 : g.2.2.2.2.2.2.1 ≤ h.length) (hf : gG_Feed (getN h g.2.2.2.2.2.2.1) g w = some ((), (g', (w', ())))) :
    graft_Run.l0 h root g w = graft_Run.l0 h root g' w' := by
  obtain ⟨i, hi⟩ : ∃ i : Nat, g.2.2.2.2.2.2.1 = (i : Int) + 1 := ⟨(g.2.2.2.2.2.2.1 - 1).toNat, by omega⟩
  have hil : i < h.length := by omega
  have es : subI .i64 g.2.2.2.2.2.2.1 1 = (i : Int) := by rw [subI_d (by omega) (by omega)]; omega
  have eg : getN h g.2.2.2.2.2.2.1 = h[i] := by rw [hi]; exact getN_ix h i hil
  rw [graft_Run.l0.eq, want_any, bnd_some]
  dsimp only
  rw [want_any, bnd_some]
  dsimp only
  rw [es, eqI_d, decide_eq_false (by omega), show notB false = true from rfl, br_t]
  simp only [leI_d, ltI_d, andB_d, ofN_d, lenL_d, br_if]
  rw [if_pos (by omega), ixL_d tapiNode h i hil, ← eg, hf, bnd_some]
theorem run_loop {f : Nat} {l : List PairV} {r : Int} {way : List StepV} {e : Int} {n : NodeV} {fe : Nat} {le : List PairV} (w : WayG h bits key f l r way e n fe le) (hl : h.length ≤ 40000000) (root how : Int) (val old : ByteArray) :
    ∀ w0 : List StepV, w0.length = lev bits - f → f ≤ lev bits → graft_Run.l0 h root (gO how key val old bits r 0 zeroN) w0 = graft_Run.l0 h root (gO how key val old bits 0 e n) (w0 ++ way) := by
  induction w with
  | @stop f l r n E =>
    intro w0 hw0 hf
    rw [List.append_nil]
    have end_ : 1 ≤ r → r ≤ h.length → getN h r = n → n.1 ≠ 2 → graft_Run.l0 h root (gO how key val old bits r 0 zeroN) w0 = graft_Run.l0 h root (gO how key val old bits 0 r n) w0 := fun a b e c => by
      refine run_step h hl root (gO how key val old bits r 0 zeroN) w0 a b ?_
      show gG_Feed (getN h r) _ w0 = _
      rw [e]
      exact feed_end how val old (by omega) zeroN 0 c w0
    rcases E with ⟨rfl, rfl, _⟩ | ⟨p, _, a, b, _, k, _, _, _, _, g⟩ | ⟨_, _, a, b, _, k, _, _, _, _, g⟩
    · rfl
    · exact end_ a b g (by rw [k]; decide)
    · exact end_ a b g (by rw [k]; decide)
  | @step f l r ks bi way e n fe le hf h2 hl' hS r1 r2 hB hn hk w ih =>
    intro w0 hw0 hf0
    have e1 := feed_step (key := key) (bits := bits) how val old (show r ≠ 0 by omega) zeroN 0 hB w0 (by omega)
    rw [hw0] at e1
    rw [run_step h hl root (gO how key val old bits r 0 zeroN) w0 r1 r2 (by
      show gG_Feed (getN h r) _ w0 = _
      rw [hn]
      exact e1)]
    rw [ih _ (by rw [List.length_append]; simp only [List.length_cons, List.length_nil]; omega) (by omega), List.append_assoc]
    rfl
theorem boundo_any {fe : Nat} {e : Int} {n : NodeV} {le : List PairV} (E : EndOK h bits fe e n le) (how : Int) (val old : ByteArray) (way : List StepV) :
    gG_bound_o (gB how key val old bits 0 way e n) = some (valF (le.find? (fun q => decide (q.1 = key))), (gB how key val old bits 0 way e n, ())) := by
  rw [gG_bound_o.eq]
  show br (notB (eqI (0 : Int) 0)) _ (br (notB (eqI n.1 1)) (br (notB (eqI n.1 3)) _ (bnd (node_Binds n) fun r0 => bnd (pair_Get r0.2.1 key) _)) (bnd (node_Binds n) fun r2 => bnd (pair_Get r2.2.1 key) _)) = _
  rw [show notB (eqI (0 : Int) 0) = false from rfl, br_f]
  rcases E with ⟨rfl, rfl, rfl⟩ | ⟨p, rfl, _, _, on, k, _, hb, hp, _⟩ | ⟨_, _, _, _, on, k, hb, hS, hT, hl, _⟩
  · rfl
  · rw [k, show notB (eqI (1 : Int) 1) = false from rfl, br_f, binds_any n on, bnd_some, hb]
    dsimp only
    rw [pget_any [p] key (by simp) (fun q hq => by rw [List.mem_singleton] at hq; exact hq ▸ hp.ok) rfl, bnd_some]
  · rw [k, show notB (eqI (3 : Int) 1) = true from rfl, br_t, show notB (eqI (3 : Int) 3) = false from rfl, br_f, binds_any n on, bnd_some, hb]
    dsimp only
    rw [pget_any le key (by omega) (fun q hq => (hT q hq).ok) (srt_isS hS), bnd_some]
theorem bottom_any (hm : mayH h = true) {fe : Nat} {e : Int} {n : NodeV} {le : List PairV} (E : EndOK h bits fe e n le) (how : Int) {val : ByteArray} (old : ByteArray) (way : List StepV) (hway : way.length = lev bits - fe) (hfe : fe ≤ lev bits) (hx : okT (key, (val, ()))) :
    ∃ (root : Int) (news : List NodeV) (olds : List Int), gG_bottom ((), ((0 : Int), ((), ()))) (gB how key val old bits 0 way e n) = some ((((), ((0 : Int), ((), ()))), (root, ())), (gB how key val old bits 0 way e n, (news, (olds, ())))) ∧
      PlanOK h news ∧ Has h news root (trieT bits fe (putS le (key, (val, ())))) ∧ news.length ≤ 100 ∧ olds.length ≤ 1 ∧ ∀ r ∈ olds, 1 ≤ r ∧ r ≤ h.length := by
  have hlev := lev_le bits
  have P0 := PlanOK.nil hm
  have hleaf : node_Leaf key val = some (lfN (key, (val, ()))) := by rw [node_Leaf.eq]; rfl
  rw [gG_bottom.eq, boundo_any E, bnd_some]
  have E0 := E
  rcases E with ⟨rfl, rfl, rfl⟩ | ⟨p, rfl, a, b, on, k, hk, hb, hp, hu, _⟩ | ⟨rfl, h2, a, b, on, k, hb, hS, hT, hl, _⟩
  · obtain ⟨P1, H1⟩ := leaf_has P0 hx
    refine ⟨-(([] : List NodeV).length : Int) - 1, [] ++ [lfN (key, (val, ()))], [], ?_, P1, H1 bits fe, by simp, by simp, fun r hr => (by cases hr)⟩
    show br (eqI (0 : Int) 0) (gG_bottom.j0 false true _ _ _ [] [] [] []) _ = _
    rw [show eqI (0 : Int) 0 = true from rfl, br_t, gG_bottom.j0.eq, br_t]
    show bnd (node_Leaf key val) _ = _
    rw [hleaf, bnd_some, plAdd _ (lfN_ok hx.ok) [] (by simp) [], bnd_some]
    rfl
  · have ne : eqI e 0 = false := by rw [eqI_d]; exact decide_eq_false (by omega)
    by_cases hpk : p.1 = key
    · obtain ⟨P1, H1⟩ := leaf_has P0 hx
      have hput : putS [p] (key, (val, ())) = [(key, (val, ()))] := putS_eq hpk
      refine ⟨-(([] : List NodeV).length : Int) - 1, [] ++ [lfN (key, (val, ()))], [e], ?_, P1, by rw [hput]; exact H1 bits fe, by simp, by simp, fun r hr => by rw [List.mem_singleton] at hr; omega⟩
      have hf : ([p].find? (fun q => decide (q.1 = key))) = some p := by rw [List.find?_cons, decide_eq_true hpk]
      rw [hf]
      show br (eqI e 0) _ (br (eqI n.1 1) (gG_bottom.j0 false true _ _ _ [] [] [] []) _) = _
      rw [ne, br_f, k, show eqI (1 : Int) 1 = true from rfl, br_t, gG_bottom.j0.eq, br_t]
      show bnd (node_Leaf key val) _ = _
      rw [hleaf, bnd_some, plAdd _ (lfN_ok hx.ok) [] (by simp) [], bnd_some]
      show br (notB (eqI e 0)) _ _ = _
      rw [ne, show notB false = true from rfl, br_t]
      rfl
    · obtain ⟨root, there, news, g1, g2, g3, g4⟩ := two_any hm how key val old bits 0 way e n p hx hp hpk on hk hb a b hu 0 [] fe [] hfe P0 (by simp; omega)
      have hf : ([p].find? (fun q => decide (q.1 = key))) = none := by rw [List.find?_cons, decide_eq_false hpk]; rfl
      rw [hf]
      refine ⟨root, news, if there = true then [] else [e], ?_, g2, g3, by simp at g4; omega, by cases there <;> simp, fun r hr => ?_⟩
      · show br (eqI e 0) _ (br (eqI n.1 1) (gG_bottom.j0 false false _ _ _ [] [] [] []) _) = _
        rw [ne, br_f, k, show eqI (1 : Int) 1 = true from rfl, br_t, gG_bottom.j0.eq, br_f]
        show br (eqI n.1 1) (bnd (gG_two ((), ((0 : Int), ((), ()))) ((way.length : Nat) : Int) (gB how key val old bits 0 way e n) [] []) _) _ = _
        rw [k, show eqI (1 : Int) 1 = true from rfl, br_t, hway, g1, bnd_some]
        show br (notB (eqI e 0)) (br (notB there) _ _) _ = _
        rw [ne, show notB false = true from rfl, br_t]
        cases there <;> rfl
      · cases there with
        | true => cases hr
        | false =>
          rw [if_neg (by simp), List.mem_singleton] at hr
          omega
  · have ne : eqI e 0 = false := by rw [eqI_d]; exact decide_eq_false (by omega)
    have hln := putS_len (key, (val, ())) le
    have h3 : 2 ≤ (putS le (key, (val, ()))).length := by
      have := putS_length (key, (val, ())) le hS
      omega
    have hT' := putS_okT hx hT
    obtain ⟨P1, H1⟩ := buck_has P0 h3 (by omega) (putS_srt _ hS) hT'
    refine ⟨-(([] : List NodeV).length : Int) - 1, [] ++ [buckN (putS le (key, (val, ())))], [e], ?_, P1, H1 bits, by simp, by simp, fun r hr => by rw [List.mem_singleton] at hr; omega⟩
    show br (eqI e 0) _ (br (eqI n.1 1) _ (gG_bottom.j0 false false _ _ _ [] [] [] [])) = _
    rw [ne, br_f, k, show eqI (3 : Int) 1 = false from rfl, br_f, gG_bottom.j0.eq, br_f]
    show br (eqI n.1 1) _ (bnd (node_Binds n) fun r3 => bnd (pair_Put r3.2.1 key val) _) = _
    rw [k, show eqI (3 : Int) 1 = false from rfl, br_f, binds_any n on, bnd_some, hb]
    dsimp only
    rw [pair_Put.eq, pair_ordered.eq, is_any le (by omega) (fun q hq => (hT q hq).ok), bnd_some, srt_isS hS, br_t, bnd_some, put_any le _ (by omega) (fun q hq => (hT q hq).ok) hS, bnd_some, bnd_some, node_Bucket.eq, make_any _ (by omega) (fun q hq => (hT' q hq).ok), bnd_some, makeS_srt (putS_srt _ hS), bnd_some]
    show bnd (plan_Add ((), ((0 : Int), ((), ()))) (buckN (putS le (key, (val, ())))) [] []) _ = _
    rw [plAdd _ (buckN_ok (by omega) fun q hq => (hT' q hq).ok) [] (by simp) [], bnd_some]
    show br (notB (eqI e 0)) (br (notB false) _ _) _ = _
    rw [ne, show notB false = true from rfl, br_t, br_t]
    rfl
end
end Go.Proofs.YtjekopgcpikkiaaGreatDoor.AM
set_option linter.unusedVariables false
set_option linter.unusedSimpArgs false
namespace Go.Proofs.YtjekopgcpikkiaaGreatDoor.AM
open Go.Abs
def chgB (how : Int) (old : ByteArray) (v : ByteArray × Bool × Unit) : Bool := if how = 1 then true else if how = 2 then !v.2.1 else if how = 3 then v.2.1 && eqS v.1 old else false
section
variable {h : List NodeV} {bits : Int} {key : ByteArray}
theorem changeso_any {fe : Nat} {e : Int} {n : NodeV} {le : List PairV} (E : EndOK h bits fe e n le) (how : Int) (val old : ByteArray) (way : List StepV) :
    gG_changes_o (gB how key val old bits 0 way e n) = some (chgB how old (valF (le.find? (fun q => decide (q.1 = key)))), (gB how key val old bits 0 way e n, ())) := by
  rw [gG_changes_o.eq, boundo_any E, bnd_some]
  generalize valF (le.find? (fun q => decide (q.1 = key))) = v
  obtain ⟨was, has, _⟩ := v
  show br (notB (eqI (0 : Int) 0)) _ (br (eqI how 1) _ (br (eqI how 2) _ (br (eqI how 3) (br has _ _) _))) = _
  rw [show notB (eqI (0 : Int) 0) = false from rfl, br_f]
  unfold chgB
  simp only [eqI_d, br_if]
  by_cases h1 : how = 1
  · rw [if_pos h1, if_pos h1]
  · rw [if_neg h1, if_neg h1]
    by_cases h2 : how = 2
    · rw [if_pos h2, if_pos h2]; rfl
    · rw [if_neg h2, if_neg h2]
      by_cases h3 : how = 3
      · rw [if_pos h3, if_pos h3]
        cases has <;> rfl
      · rw [if_neg h3, if_neg h3]
theorem Has.range {news : List NodeV} {r : Int} {s : Shp} (H : Has h news r s) : -(news.length : Int) ≤ r ∧ r ≤ h.length := ⟨H.lo, H.hi⟩
theorem up_any (hm : mayH h = true) {val : ByteArray} (G : GraftV) (a b more : Int) (x5 : List NodeV) (x6 : List Int) {f : Nat} {l : List PairV} {r : Int} {way : List StepV} {e : Int} {n : NodeV} {fe : Nat} {le : List PairV} (w : WayG h bits key f l r way e n fe le)
    (hmore : more = if (le.find? (fun q => decide (q.1 = key))).isSome = true then 0 else 1) :
    ∀ (ys rest : List (Int × StepV × Unit)) (root : Int) (news : List NodeV) (olds : List Int), ys.map (fun y => y.2.1) = way.reverse → PlanOK h news → Has h news root (trieT bits fe (putS le (key, (val, ())))) → news.length + way.length ≤ 500 → olds.length + way.length ≤ 500 → (∀ r ∈ olds, 1 ≤ r ∧ r ≤ h.length) →
      ∃ (root' : Int) (news' : List NodeV) (olds' : List Int), gG_Plan.e1 (ys ++ rest) G ((), (a, ((), ()))) more ((), (b, ((), ()))) root x5 x6 news olds = gG_Plan.e1 rest G ((), (a, ((), ()))) more ((), (b, ((), ()))) root' x5 x6 news' olds' ∧
        PlanOK h news' ∧ Has h news' root' (trieT bits f (putS l (key, (val, ())))) ∧ news'.length = news.length + way.length ∧ olds'.length = olds.length + way.length ∧ ∀ r ∈ olds', 1 ≤ r ∧ r ≤ h.length := by
  have hlev := lev_le bits
  induction w with
  | stop E =>
    intro ys rest root news olds hys P H _ _ ho
    have : ys = [] := List.map_eq_nil_iff.1 hys
    subst this
    exact ⟨root, news, olds, rfl, P, H, rfl, rfl, ho⟩
  | @step f l r ks bi way e n fe le hf h2 hl hS r1 r2 hB hn hk w ih =>
    intro ys rest root news olds hys P H hn1 ho1 ho
    rw [List.reverse_cons] at hys
    obtain ⟨ys', ys2, rfl, hy1, hy2⟩ := List.map_eq_append_iff.1 hys
    obtain ⟨y, rfl, hy⟩ := List.map_eq_singleton_iff.1 hy2
    obtain ⟨ix, st, u⟩ := y
    have hy : st = _ := hy
    subst hy
    rw [List.length_cons] at hn1 ho1
    obtain ⟨root1, news1, olds1, g1, P1, H1, g2, g3, g4⟩ := ih hmore ys' ((ix, (_, u)) :: rest) root news olds hy1 P H (by omega) (by omega) ho
    rw [List.append_assoc]
    rw [show ([(ix, (stepV r (bN (maskC bits (lev bits - (f + 1)) l) ks (l.length : Int) bi) ((ck bits (lev bits - (f + 1)) key : Nat) : Int), u))] : List (Int × StepV × Unit)) ++ rest = (ix, (stepV r (bN (maskC bits (lev bits - (f + 1)) l) ks (l.length : Int) bi) ((ck bits (lev bits - (f + 1)) key : Nat) : Int), u)) :: rest from rfl, g1]
    have hr : root1 ≠ 0 := H1.ne (trieT_ne bits f (putS_ne _ _))
    obtain ⟨m', ks', hB', hw, em, hch⟩ := with_spec hB (branch_self hB) ((ck bits (lev bits - (f + 1)) key : Nat) : Int) root1
    rw [if_neg hr] at em
    have hci := ck_lt bits (lev bits - (f + 1)) key
    have hlen := putS_length (key, (val, ())) l hS
    rw [show l.find? (fun q => decide (q.1 = key)) = le.find? (fun q => decide (q.1 = key)) by rw [w.find, part_find]] at hlen
    have hadd : addI .i64 (l.length : Int) more = ((putS l (key, (val, ()))).length : Int) := by
      unfold addI
      rw [hlen, hmore]
      split <;> (rw [wrap_i64_id (by omega) (by omega)]; omega)
    obtain ⟨hz, hB2⟩ := sized_any hB' (s := ((putS l (key, (val, ()))).length : Int)) (by omega)
    have h3 : 2 ≤ (putS l (key, (val, ()))).length := by omega
    obtain ⟨P2, H2⟩ := branch_has (bits := bits) (f := f) P1 h3 (m := m') (by rw [em, maskC_put _ _ _ _ hS]) hB2 (fun j hj => by
      rw [hch j hj, part_put _ _ _ _ _ hS]
      by_cases hjk : ck bits (lev bits - (f + 1)) key = j
      · rw [if_pos ⟨by omega, hr⟩, if_pos hjk, ← hjk]
        exact H1
      · rw [if_neg (fun q => by have := q.1; omega), if_neg hjk]
        obtain ⟨k1, k2, k3⟩ := hk j hj
        have ec : chI (maskC bits (lev bits - (f + 1)) l) ks (j : Int) = chAt (maskC bits (lev bits - (f + 1)) l) ks j := by
          unfold chI
          rw [if_pos (by omega), Int.toNat_natCast]
        rw [ec] at k1 k2 k3
        rw [← k1]
        exact Has.heap hm k2 (by omega))
    refine ⟨-(news1.length : Int) - 1, news1 ++ [bN m' ks' ((putS l (key, (val, ()))).length : Int) bi], olds1 ++ [r], ?_, P2, H2, by simp only [List.length_append, List.length_cons, List.length_nil]; omega, by simp only [List.length_append, List.length_cons, List.length_nil]; omega, fun q hq => ?_⟩
    · rw [gG_Plan.e1.cons, fitL_d, br_if, if_pos (by rw [appL_d, List.length_append]; simp only [List.length_cons, List.length_nil]; omega)]
      show bnd (branch_With (bN (maskC bits (lev bits - (f + 1)) l) ks (l.length : Int) bi) ((ck bits (lev bits - (f + 1)) key : Nat) : Int) root1) (fun r0 => bnd (branch_Sized r0 (addI .i64 (l.length : Int) more)) _) = _
      rw [hw, bnd_some, hadd, hz, bnd_some]
      show bnd (plan_Add ((), (b, ((), ()))) (bN m' ks' ((putS l (key, (val, ()))).length : Int) bi) news1 (olds1 ++ [r])) _ = _
      rw [plAdd b hB2.node news1 (by omega) _, bnd_some]
    · rcases List.mem_append.1 hq with hq | hq
      · exact g4 q hq
      · rw [List.mem_singleton] at hq
        subst hq
        exact ⟨r1, r2⟩
theorem plan_any (hm : mayH h = true) {l : List PairV} {r : Int} {way : List StepV} {e : Int} {n : NodeV} {fe : Nat} {le : List PairV} (w : WayG h bits key (lev bits) l r way e n fe le) (how : Int) {val : ByteArray} (old : ByteArray) (hx : okT (key, (val, ()))) :
    (chgB how old (valF (l.find? (fun q => decide (q.1 = key)))) = false → gG_Plan (gO how key val old bits 0 e n) way = some ((((), ((0 : Int), ((), ()))), (false, ())), (gB how key val old bits 0 way e n, ((), ([], ([], ())))))) ∧
    (chgB how old (valF (l.find? (fun q => decide (q.1 = key)))) = true → ∃ (root : Int) (news : List NodeV) (olds : List Int), gG_Plan (gO how key val old bits 0 e n) way = some ((((), (root, ((), ()))), (true, ())), (gB how key val old bits 0 way e n, ((), (news, (olds, ()))))) ∧
      PlanOK h news ∧ Has h news root (trieT bits (lev bits) (putS l (key, (val, ())))) ∧ news.length ≤ 200 ∧ olds.length ≤ 200 ∧ ∀ r ∈ olds, 1 ≤ r ∧ r ≤ h.length) := by
  have hlev := lev_le bits
  obtain ⟨E, hwl⟩ := w.end_ok
  have hfind := w.find
  have e0 : gG_Plan (gO how key val old bits 0 e n) way = bnd (gG_changes_o (gB how key val old bits 0 way e n)) fun r0 => br (notB r0.1)
      (some ((((), ((0 : Int), ((), ()))), (false, ())), (r0.2.1, ((), ([], ([], ()))))))
      (bnd (gG_bound_o r0.2.1) fun r1 => br r1.1.2.1 (gG_Plan.j0 r1.2.1 ((), ((0 : Int), ((), ()))) (0 : Int) [] []) (gG_Plan.j0 r1.2.1 ((), ((0 : Int), ((), ()))) (1 : Int) [] [])) := gG_Plan.eq _ _
  rw [changeso_any E, bnd_some, hfind] at e0
  constructor
  · intro hc
    rw [e0]
    dsimp only
    rw [hc]
    rfl
  · intro hc
    rw [e0]
    dsimp only
    rw [hc, show notB true = false from rfl, br_f, boundo_any E, bnd_some]
    obtain ⟨root, news, olds, b1, b2, b3, b4, b5, b6⟩ := bottom_any hm E how (val := val) old way (by omega) (by omega) hx
    obtain ⟨ys, y1, y2⟩ := back_any way (by omega)
    have hj : ∀ more : Int, more = (if (le.find? (fun q => decide (q.1 = key))).isSome = true then 0 else 1) → ∃ (root : Int) (news : List NodeV) (olds : List Int), gG_Plan.j0 (gB how key val old bits 0 way e n) ((), ((0 : Int), ((), ()))) more [] [] = some ((((), (root, ((), ()))), (true, ())), (gB how key val old bits 0 way e n, ((), (news, (olds, ()))))) ∧
        PlanOK h news ∧ Has h news root (trieT bits (lev bits) (putS l (key, (val, ())))) ∧ news.length ≤ 200 ∧ olds.length ≤ 200 ∧ ∀ r ∈ olds, 1 ≤ r ∧ r ≤ h.length := by
      intro more hmore
      obtain ⟨root', news', olds', u1, u2, u3, u4, u5, u6⟩ := up_any (val := val) hm (gB how key val old bits 0 way e n) 0 0 more [] [] w hmore ys [] root news olds y2 b2 b3 (by omega) (by omega) b6
      refine ⟨root', news', olds', ?_, u2, u3, by omega, by omega, u6⟩
      rw [gG_Plan.j0.eq, b1, bnd_some]
      show bnd (slices_Backwardgs way) _ = _
      rw [slices_Backwardgs.eq, bnd_some]
      show bnd (slices_Backwardgs_1 way) _ = _
      rw [y1, bnd_some]
      show gG_Plan.e1 ys (gB how key val old bits 0 way e n) ((), ((0 : Int), ((), ()))) more ((), ((0 : Int), ((), ()))) root [] [] news olds = _
      rw [List.append_nil] at u1
      rw [u1, gG_Plan.e1.nil]
    dsimp only
    cases hf : le.find? (fun q => decide (q.1 = key)) with
    | none =>
      obtain ⟨root, news, olds, k⟩ := hj 1 (by rw [hf]; rfl)
      exact ⟨root, news, olds, by rw [show (valF none).2.1 = false from rfl, br_f]; exact k.1, k.2⟩
    | some p =>
      obtain ⟨root, news, olds, k⟩ := hj 0 (by rw [hf]; rfl)
      exact ⟨root, news, olds, by rw [show (valF (some p)).2.1 = true from rfl, br_t]; exact k.1, k.2⟩
end
theorem grun_any {h : List NodeV} (ho : okH h) {root : Int} {bits : Int} {l : List PairV} (hf : fitH h root = true) (hs : U h root = trieT bits (lev bits) l) (hS : Srt l) (hT : ∀ p ∈ l, okT p) (hl : l.length ≤ 100000) (hh : h.length ≤ 30000000) {how : Int} (h1 : 1 ≤ how) (h3 : how ≤ 3) {key val : ByteArray} (old : ByteArray) (hx : okT (key, (val, ()))) :
    ∃ (news : List NodeV) (s : Int), graft_Run h root how key val old bits = some (PS h news, (s, ((0 : Int), ()))) ∧ okH (PS h news) ∧ fitH (PS h news) s = true ∧ news.length ≤ 200 ∧
      U (PS h news) s = trieT bits (lev bits) (if chgB how old (valF (l.find? (fun q => decide (q.1 = key)))) = true then putS l (key, (val, ())) else l) := by
  obtain ⟨⟨r0, r1⟩, hm⟩ := fitH_iff.1 hf
  obtain ⟨_, hi, _⟩ := trie_again ho hf hs hS hT (by omega)
  obtain ⟨way, e, n, fe, le, w⟩ := way_ex ho hm bits key (lev bits) l root (Nat.le_refl _) r0 r1 hs hS hT hl
  obtain ⟨p1, p2⟩ := plan_any hm w how (val := val) old hx
  have hleaf : node_Leaf key val = some (lfN (key, (val, ()))) := by rw [node_Leaf.eq]; rfl
  have hrun : graft_Run h root how key val old bits = bnd (gG_Plan (gO how key val old bits 0 e n) way) fun r3 => br (notB r3.1.2.1) (bnd (plan_Do h ([], (root, ([], ())))) fun r4 => some r4) (bnd (plan_Do h (r3.2.2.2.1, (r3.1.1.2.1, (r3.2.2.2.2.1, ())))) fun r5 => some r5) := by
    rw [graft_Run.eq, hleaf, bnd_some, may_any _ (lfN_ok hx.ok), bnd_some, lfN_may hx]
    simp only [ltI_d, br_if]
    rw [if_neg (by omega), if_neg (by omega), show notB (eqI (0 : Int) 0) = false from rfl, br_f, hi, bnd_some, show notB true = false from rfl, br_f, graft_New.eq, hashof_any key bits (by have : key.size ≤ 16 := hx.1; omega), bnd_some, bnd_some]
    show graft_Run.l0 h root (gO how key val old bits root 0 zeroN) [] = _
    rw [run_loop w (by omega) root how val old [] (by simp) (Nat.le_refl _), List.nil_append, graft_Run.l0.eq, want_any, bnd_some]
    rfl
  cases hc : chgB how old (valF (l.find? (fun q => decide (q.1 = key)))) with
  | false =>
    have P0 := PlanOK.nil hm
    have hd := do_plan ho hm P0 (by simp) (root := root) (by simp; omega) r1 (old := []) (by simp) (fun r hr => by cases hr)
    rw [fillQ_pos _ r0] at hd
    refine ⟨[], root, ?_, by rw [PS_nil]; exact ho, by rw [PS_nil]; exact hf, by simp, by rw [PS_nil, if_neg (by simp)]; exact hs⟩
    rw [hrun, p1 hc, bnd_some]
    show bnd (plan_Do h ([], (root, ([], ())))) _ = _
    rw [hd, bnd_some]
  | true =>
    obtain ⟨s, news, olds, g1, g2, g3, g4, g5, g6⟩ := p2 hc
    have hd := do_plan ho hm g2 (by omega) (root := s) g3.lo g3.hi (old := olds) (by omega) g6
    have hin := fill_in g3.lo g3.hi
    refine ⟨news, fillQ h.length s, ?_, g2.okH ho (by omega), fitH_iff.2 ⟨⟨hin.1, hin.2⟩, g2.may⟩, g4, by rw [if_pos rfl]; exact g3.shp⟩
    rw [hrun, g1, bnd_some]
    show bnd (plan_Do h (news, (s, (olds, ())))) _ = _
    rw [hd, bnd_some]
end Go.Proofs.YtjekopgcpikkiaaGreatDoor.AM
set_option linter.unusedVariables false
set_option linter.unusedSimpArgs false
namespace Go.Proofs.YtjekopgcpikkiaaGreatDoor.Pure
open Go.Abs Go.Proofs.YtjekopgcpikkiaaGreatDoor.AM
theorem drop_put {key val : ByteArray} : ∀ {l : List PairV}, (∀ p ∈ l, p.1 ≠ key) → dropS key (putS l (key, (val, ()))) = l
  | [], _ => by unfold dropS putS; exact List.filter_cons_of_neg (by simp)
  | q :: qs, h => by
    have hq := h q List.mem_cons_self
    have ih := drop_put (key := key) (val := val) (l := qs) fun p hp => h p (List.mem_cons_of_mem _ hp)
    unfold dropS at ih ⊢
    rcases tri q.1 key with ⟨hlt, _, _⟩ | ⟨e, _⟩ | ⟨hgt, _, _⟩
    · rw [putS_lt hlt, List.filter_cons_of_pos (by simpa using hq), ih]
    · exact absurd e hq
    · rw [putS_gt hgt, List.filter_cons_of_neg (by simp), List.filter_cons_of_pos (by simpa using hq)]
      have : qs.filter (fun q => decide (q.1 ≠ key)) = qs := List.filter_eq_self.2 fun p hp => decide_eq_true (h p (List.mem_cons_of_mem _ hp))
      rw [this]
theorem PruneUndoes (a0 : den (.int .i64)) (a1 : den (.list tapiPair)) (a2 : den .str) (a3 : den .str) (h0 : wfD (.int .i64) a0) (h1 : wfD (.list tapiPair) a1) (h2 : wfD .str a2) (h3 : wfD .str a3) : law24_PruneUndoes a0 a1 a2 a3 = some true := by
  change Int at a0
  change List PairV at a1
  obtain ⟨l, hlen, hs, hmade⟩ := made24_any a0 a1 h1.1
  have hm := makeS_len l
  have hlev := lev_le a0
  rw [law24_PruneUndoes.eq, works24, bnd_some, show notB true = false from rfl, br_f, hmade, bnd_some, show base_Cut a2 (16 : Int) = some (cut 16 a2) from base_Cut_any a2 16, bnd_some, show base_Cut a3 (16 : Int) = some (cut 16 a3) from base_Cut_any a3 16, bnd_some]
  cases hg : longL l with
  | true =>
    show br (notB false) (law24_PruneUndoes.j0 a0 _ _ _ _ true) _ = _
    rw [show notB false = true from rfl, br_t, law24_PruneUndoes.j0.eq, br_t]
  | false =>
    rw [if_neg (by simp)]
    have ht := longL_not hg
    obtain ⟨e, T, ho⟩ := make_trie a0 l (by omega) (by omega) hs ht
    obtain ⟨new, en, ln, _⟩ := T.pre
    have hhl : (trieH a0 l).length ≤ 168 := by
      rw [show trieH a0 l = [] ++ new from en, List.nil_append]
      have : (makeS l).length * (lev a0 + 1) ≤ 12 * 14 := Nat.mul_le_mul (by omega) (by omega)
      omega
    generalize hkey : cut 16 a2 = key
    generalize hval : cut 16 a3 = val
    have hx : okT (key, (val, ())) := ⟨by show key.size ≤ 16; rw [← hkey, cut_size]; omega, by show val.size ≤ 16; rw [← hval, cut_size]; omega⟩
    have hk16 : key.size ≤ 16 := hx.1
    show br (notB true) _ (bnd (ref24_Bound (makeS l) key) fun r4 => law24_PruneUndoes.j0 a0 key val (trieH a0 l) (trieR a0 l) r4) = _
    rw [show notB true = false from rfl, br_f, ref24_Bound.eq, rget_any _ _ (by omega), makeS_srt (makeS_Srt l), bnd_some, bnd_some]
    cases hq : (makeS l).find? (fun q => decide (q.1 = key)) with
    | some p =>
      show law24_PruneUndoes.j0 a0 key val (trieH a0 l) (trieR a0 l) true = _
      rw [law24_PruneUndoes.j0.eq, br_t]
    | none =>
      show law24_PruneUndoes.j0 a0 key val (trieH a0 l) (trieR a0 l) false = _
      have hf : fitH (trieH a0 l) (trieR a0 l) = true := fitH_iff.2 ⟨⟨T.r0, T.r1⟩, T.may⟩
      obtain ⟨news, s, g1, g2, g3, g4, g5⟩ := grun_any ho hf T.shp (makeS_Srt l) ht (by omega) (by omega) (show (1 : Int) ≤ 1 by omega) (show (1 : Int) ≤ 3 by omega) ByteArray.empty hx
      rw [show chgB 1 ByteArray.empty (valF ((makeS l).find? (fun q => decide (q.1 = key)))) = true from rfl, if_pos rfl] at g5
      have hpl := putS_len (key, (val, ())) (makeS l)
      have hPL := PS_len (trieH a0 l) news
      obtain ⟨news2, t, k1, k2, k3, k4, k5, _⟩ := prun_any g2 g3 g5 (putS_srt _ (makeS_Srt l)) (putS_okT hx ht) (by omega) (by omega) (key := key) (by omega)
      have hn : ∀ p ∈ makeS l, p.1 ≠ key := fun p hp => by
        have := List.find?_eq_none.1 hq p hp
        simpa using this
      rw [drop_put hn] at k5
      have hsh : eqSh (U (PS (PS (trieH a0 l) news) news2) t) (U (trieH a0 l) (trieR a0 l)) = true := by
        rw [eqSh_iff, k5]
        exact T.shp.symm
      rw [law24_PruneUndoes.j0.eq, br_f, g1, bnd_some]
      dsimp only
      rw [k1, bnd_some]
      dsimp only
      rw [show eqI (0 : Int) 0 = true from rfl, br_t, br_t, refSame_any _ _ k2 ho, bnd_some, k3, hf, hsh]
      rfl
end Go.Proofs.YtjekopgcpikkiaaGreatDoor.Pure
