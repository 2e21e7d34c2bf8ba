/- Written by pp.py, a program of this session, out of the translation: what the functions of a statement do, each for all its arguments, and (in a Law text) the statement itself, out of its plain law, without further conditions. -/
import Derived.Test.YtgpdodmljmanoaaDoorPMskx0
import Derived.Test.YtgpdodmljmanoaaDoorPMskx1
import Derived.Test.YtgpdodmljmanoaaDoorPMskx2
namespace Go.Proofs.YtgpdodmljmanoaaDoor.PMsk
open Go.Proofs.YtgpdodmljmanoaaDoor.Tab
open Go.RowKit Go.Proofs.YtgpdodmljmanoaaDoorW.PrintWords Go.Proofs.YtgpdodmljmanoaaDoorW.PrintLast Go.Proofs.YtgpdodmljmanoaaDoorW.PrintMore
attribute [local go_sem] max2_int min2_int max_two min_two max_three min_three max_four min_four   -- for this text's walks alone
set_option linter.unusedVariables false
set_option linter.unusedSimpArgs false

/-! ### mask_Without: function 20 -/
def mask_Without.f (a0 : Int) (a1 : Int) : Option (Int) := (mask_in.f a1).bind fun t167 => (if t167 = true then (if 0 ≤ a1 then (some (Go.bits .andNot .u32 a0 (shl .u32 1 a1))) else (none)) else (some a0))
set_option maxHeartbeats 8000000 in
set_option maxRecDepth 100000 in
theorem mask_Without.calls (a0 : Int) (a1 : Int) (r : Int) (w : World) (h : mask_Without.f a0 a1 = some r) :
    Calls Tryd.prog 20 #[.int .u32 a0, .int .i64 a1] w fun e w' => e = .returned (.int .u32 r) ∧ Drawn0 w w' := by
  have H : ((mask_in.f a1).bind fun t167 => (if t167 = true then (if 0 ≤ a1 then (some (Go.bits .andNot .u32 a0 (shl .u32 1 a1))) else (none)) else (some a0))) = some r := h
  clear h
  replace H := Option.bind_eq_some_iff.mp H
  obtain ⟨t167, A30, H⟩ := H
  replace H : (if t167 = true then (if 0 ≤ a1 then (some (Go.bits .andNot .u32 a0 (shl .u32 1 a1))) else (none)) else (some a0)) = some r := H
  have A3 := Aside0.mk A30
  clear A30
  by_cases c4 : t167 = true
  · subst c4
    have H1 : (if 0 ≤ a1 then (some (Go.bits .andNot .u32 a0 (shl .u32 1 a1))) else (none)) = some r := by rw [if_pos rfl] at H; exact H
    clear H
    have H := H1
    clear H1
    by_cases c5 : 0 ≤ a1
    · rw [if_pos c5] at H
      have c5b0 := eq_true c5
      have c5b1 : decide (0 ≤ a1) = true := decide_eq_true c5
      clear c5
      obtain ⟨ji6, hji6⟩ : ∃ j_ : Int, (shl .u32 1 a1) = j_ := ⟨_, rfl⟩
      replace H : (some (Go.bits .andNot .u32 a0 (ji6))) = some r := by first | (rw [hji6] at H; exact H) | (simp only [hji6] at H ⊢; exact H)
      (try rw [hji6] at A3)
      have hji6_ : (IntKind.u32.wrap (1 * 2 ^ min a1.toNat 32)) = ji6 := hji6
      have hji6z : a1 ≤ 32 → (IntKind.u32.wrap (1 * 2 ^ a1.toNat)) = ji6 := shl_small hji6
      have hji6u : (IntKind.u32.wrap (2 ^ min a1.toNat 32)) = ji6 := by have h_ := hji6_; rw [Int.one_mul] at h_; exact h_
      have hji6v : a1 ≤ 32 → (IntKind.u32.wrap (2 ^ a1.toNat)) = ji6 := fun hle_ => by have h_ := hji6z hle_; rw [Int.one_mul] at h_; exact h_
      obtain rfl := Option.some.inj H
      go_enter Tryd.func20, Tryd.ntmps20
      go_wp2_with (first | ((with_reducible refine gate_callee (f := 25) rfl ?_); refine goesL_ (some 6) rfl rfl Tryd.func25 (by kernel_rfl) rfl #[.int .i64 a1] rfl (by (try simp only [List.map_toArray, List.map_cons, List.map_nil]); first | done | rfl | (simp only [List.length_drop, List.length_take]; rfl)) ?_; (with_reducible refine (mask_in.calls a1 true _ A3.out).mono ?_); rintro e w' ⟨rfl, ⟨nd, rfl⟩⟩; refine ⟨_, rfl, ?_⟩))
      go_ret
      exact ⟨by first | rfl | (simp; done) | (simp only [← hji6] <;> (first | rfl | simp)) | (simp [*]; done), by repeat (first | exact Drawn0.refl _ | apply Drawn0.step)⟩
    · rw [if_neg c5] at H
      exact absurd H (by simp)
  · replace c4 := Bool.eq_false_iff.mpr c4
    subst c4
    have H1 : (some a0) = some r := by rw [if_neg (show ¬ (false = true) by decide)] at H; exact H
    clear H
    have H := H1
    clear H1
    obtain rfl := Option.some.inj H
    go_enter Tryd.func20, Tryd.ntmps20
    go_wp2_with (first | ((with_reducible refine gate_callee (f := 25) rfl ?_); refine goesL_ (some 6) rfl rfl Tryd.func25 (by kernel_rfl) rfl #[.int .i64 a1] rfl (by (try simp only [List.map_toArray, List.map_cons, List.map_nil]); first | done | rfl | (simp only [List.length_drop, List.length_take]; rfl)) ?_; (with_reducible refine (mask_in.calls a1 false _ A3.out).mono ?_); rintro e w' ⟨rfl, ⟨nd, rfl⟩⟩; refine ⟨_, rfl, ?_⟩))
    go_ret
    exact ⟨by first | rfl | (simp; done) | (simp [*]; done), by repeat (first | exact Drawn0.refl _ | apply Drawn0.step)⟩

/-! ### boscageref06_Without: function 21 -/
def boscageref06_Without.l0 : Nat → Int → List Int → List Int → Int → Option (Int)
  | 0, _, _, _, _ => none
  | k + 1, x1, x5, x6, x7 => if x7 < (x5.length : Int) then (if 0 ≤ x7 then (if (rd x5 x7) = x1 then (boscageref06_Without.l0 k x1 x5 x6 (wrap64 (x7 + 1))) else (if x6.length < 17592186044416 then (boscageref06_Without.l0 k x1 x5 (x6 ++ [rd x5 x7]) (wrap64 (x7 + 1))) else (none))) else (none)) else ((boscageref06_Make.f k x6).bind fun t179 => (some t179))
def boscageref06_Without.f (k : Nat) (a0 : Int) (a1 : Int) : Option (Int) := (boscageref06_All.f k a0).bind fun t168 => (boscageref06_Without.l0 k a1 t168 (([] : List Int)) 0)
theorem boscageref06_Without.mono_l : ∀ k, (∀ y0 y1 y2 y3, LeO (boscageref06_Without.l0 k y0 y1 y2 y3) (boscageref06_Without.l0 (k + 1) y0 y1 y2 y3))
  | 0 => fun _ _ _ _ r h => by simp [boscageref06_Without.l0] at h
  | k + 1 => by
    have ih0 := boscageref06_Without.mono_l k
    · intro y0 y1 y2 y3
      unfold boscageref06_Without.l0
      repeat' first
      | (with_reducible exact ih0 _ _ _ _)
      | (with_reducible exact boscageref06_All.mono _ _)
      | (with_reducible exact boscageref06_Make.mono _ _)
      | (with_reducible exact LeO.refl _)
      | (with_reducible exact LeO.none _)
      | (with_reducible refine LeO.ite ?_ ?_)
      | (with_reducible refine LeO.bind ?_ (fun _ => ?_))
      | exact ih0 _ _ _ _
      | exact boscageref06_All.mono _ _
      | exact boscageref06_Make.mono _ _
      | exact LeO.none _
      | refine LeO.ite ?_ ?_
      | refine LeO.bind ?_ (fun _ => ?_)
theorem boscageref06_Without.mono : ∀ a0 a1 k, LeO (boscageref06_Without.f k a0 a1) (boscageref06_Without.f (k + 1) a0 a1) := by
  intro a0 a1 k
  have ih0 := boscageref06_Without.mono_l k
  unfold boscageref06_Without.f
  repeat' first
      | (with_reducible exact ih0 _ _ _ _)
      | (with_reducible exact boscageref06_All.mono _ _)
      | (with_reducible exact boscageref06_Make.mono _ _)
      | (with_reducible exact LeO.refl _)
      | (with_reducible exact LeO.none _)
      | (with_reducible refine LeO.ite ?_ ?_)
      | (with_reducible refine LeO.bind ?_ (fun _ => ?_))
      | exact ih0 _ _ _ _
      | exact boscageref06_All.mono _ _
      | exact boscageref06_Make.mono _ _
      | exact LeO.none _
      | refine LeO.ite ?_ ?_
      | refine LeO.bind ?_ (fun _ => ?_)
set_option maxHeartbeats 8000000 in
set_option maxRecDepth 100000 in
theorem boscageref06_Without.calls (k : Nat) (a0 : Int) (a1 : Int) (r : Int) (w : World) (h : boscageref06_Without.f k a0 a1 = some r) :
    Calls Tryd.prog 21 #[.int .u32 a0, .int .i64 a1] w fun e w' => e = .returned (.int .u32 r) ∧ Below w.heap.size w w' := by
  have HB := Aside0.mk (Below.refl w.heap.size w)
  have H : ((boscageref06_All.f k a0).bind fun t168 => (boscageref06_Without.l0 k a1 t168 (([] : List Int)) 0)) = some r := h
  clear h
  replace H := Option.bind_eq_some_iff.mp H
  obtain ⟨t168, A30, H⟩ := H
  replace H : (boscageref06_Without.l0 k a1 t168 (([] : List Int)) 0) = some r := H
  have A3 := Aside0.mk A30
  clear A30
  obtain ⟨y171, hy171⟩ : ∃ y_ : List Int, y_ = (([] : List Int)) := ⟨_, rfl⟩
  replace H : (boscageref06_Without.l0 k a1 t168 y171 0) = some r := by first | (rw [hy171]; with_reducible exact H) | (have H2_ := (Option.bind_some _ _).symm.trans H; rw [hy171]; with_reducible exact H2_) | (have H2_ := (Option.bind_some _ _).symm.trans H; with_reducible exact H2_) | with_reducible exact H | (rw [hy171]; exact H) | exact H
  have Ny171 := Aside0.mk hy171
  clear hy171
  have H' := Aside0.mk H
  clear H
  go_enter Tryd.func21, Tryd.ntmps21
  go_wp2_with (first | ((with_reducible refine gate_callee (f := 9) rfl ?_); refine goesL_ (some 9) rfl rfl Tryd.func9 (by kernel_rfl) rfl #[.int .u32 a0] rfl (by (try simp only [List.map_toArray, List.map_cons, List.map_nil]); first | done | rfl | (simp only [List.length_drop, List.length_take]; rfl)) ?_; (with_reducible refine (boscageref06_All.calls k a0 t168 _ A3.out).mono ?_); rintro e w4 ⟨v169, rfl, ho0, hb⟩; refine ⟨_, rfl, ?_⟩; have n0_ := Aside0.mk (Kd.R_lower ho0 (below_size (by repeat (first | (with_reducible first | exact HB.out | apply below_alloc | apply pw_below_drewN | apply below_drew1) | exact HB.out)))); have n1_ := Aside0.mk (below_step (by repeat (first | (with_reducible first | exact HB.out | apply below_alloc | apply pw_below_drewN | apply below_drew1) | exact HB.out)) hb); clear HB; have HO170 := n0_; have HB := n1_; clear n0_ n1_; (try clear hb); (try clear hb2); (try clear hk); (try clear hi); (try clear ho0)) | ((with_reducible refine gate_dst (N := 10) rfl ?_); refine Kd.R_lit (Kd.int .i64) _ 3 ?hg (N := 10) ?hd (xs := ([] : List Int)) (inner := []) (ok := fun _ => True) (okp := fun _ => True) ?hr ?hp (fun _ hk => hk) trivial (Below.refl _ _) (Nat.le_refl _) (by simp) ?_; (case hd => rfl); (case hg => rfl); (case hr => first | (go_simp; done) | (go_simp; rfl)); (case hp => exact (Reps.none _ _)); intro v172 w5 ho6 hb hg_ hnew_; clear hg_ hnew_; (first | rw [← Ny171.out] at ho6 | (simp only [Int.reduceToNat] at ho6; rw [← Ny171.out] at ho6)); have n0_ := Aside0.mk (Kd.R_elder' (by (with_reducible repeat (first | apply Kd.R_alloc | apply Kd.R_drewN | apply Kd.R_drew)); exact HO170.out) (Kd.R_base ho6) hb); have n1_ := Aside0.mk (Kd.R_lower (Kd.R_new' ho6 (Kd.R_lt (by (with_reducible repeat (first | apply Kd.R_alloc | apply Kd.R_drewN | apply Kd.R_drew)); exact HO170.out))) (below_size (by repeat (first | (with_reducible first | exact HB.out | apply below_alloc | apply pw_below_drewN | apply below_drew1) | exact HB.out)))); have n2_ := Aside0.mk (below_step (by repeat (first | (with_reducible first | exact HB.out | apply below_alloc | apply pw_below_drewN | apply below_drew1) | exact HB.out)) hb); clear HO170; clear HB; have HO170 := n0_; have HO173 := n1_; have HB := n2_; clear n0_ n1_ n2_; clear hb ho6))
  go_loopg [6, 7] k (fun kq v6 v7 w' => ∃ (x6_1 : List Int) (x7_1 : Int), v7 = .int .i64 x7_1 ∧ Aside0 (boscageref06_Without.l0 kq a1 t168 x6_1 x7_1 = some r) ∧ Aside0 (kq ≤ k) ∧ Aside0 (Kd.R (Kd.int .i64) 3 w' w.heap.size (fun k_ => some k_ ≠ (v6 : Value).ownBlock) v169 t168) ∧ Aside0 (Kd.R (Kd.int .i64) 3 w' w.heap.size (fun k_ => some k_ ≠ (v169 : Value).ownBlock) v6 x6_1) ∧ Aside0 (Below w.heap.size w w'))
  case atStart => exact ⟨(y171), (0), (by first | rfl | (simp; done) | (simp [*]; done)), H', ⟨Nat.le_refl _⟩, ⟨by (with_reducible repeat (first | apply Kd.R_alloc | apply Kd.R_drewN | apply Kd.R_drew)); exact Kd.R_mono HO170.out (fun _ hk => hk.2)⟩, ⟨by (with_reducible repeat (first | apply Kd.R_alloc | apply Kd.R_drewN | apply Kd.R_drew)); exact Kd.R_mono HO173.out (fun _ hk => hk.2)⟩, ⟨by repeat (first | (with_reducible first | exact HB.out | apply below_alloc | apply pw_below_drewN | apply below_drew1) | exact HB.out)⟩⟩
  case round =>
    clear H'
    try clear c2
    try clear p2
    obtain ⟨x6_1, x7_1, rfl, HA, HK1, HO_5, HO_6, HB⟩ := hrel
    cases gk with
    | zero => exact absurd HA.out (by simp [boscageref06_Without.l0])
    | succ k1 =>
      have H := HA.out
      clear HA
      simp only [boscageref06_Without.l0] at H
      by_cases c7 : x7_1 < (t168.length : Int)
      · rw [if_pos c7] at H
        have c7b0 : decide (x7_1 < (t168.length : Int)) = true := decide_eq_true c7
        clear c7
        by_cases c8 : 0 ≤ x7_1
        · rw [if_pos c8] at H
          have c8b0 : decide (0 ≤ x7_1) = true := decide_eq_true c8
          clear c8
          by_cases c9 : (rd t168 x7_1) = a1
          · rw [if_pos c9] at H
            have c9b0 : ((rd t168 x7_1) == a1) = true := beq_iff_eq.mpr c9
            have c9b1 : ((rd t168 x7_1) != a1) = false := bne_eq_false_iff_eq.mpr c9
            clear c9
            have H' := Aside0.mk H
            clear H
            obtain ⟨Ao10, co10, eo10⟩ := Kd.R_slice HO_5.out
            subst eo10
            have p174 : 0 ≤ (x7_1 : Int) := of_decide_eq_true (by first | (with_reducible assumption) | assumption)
            have q174 : x7_1 < (t168.length : Int) := of_decide_eq_true (by first | (with_reducible assumption) | assumption)
            obtain ⟨ad174, e174, hx174_0⟩ := Kd.at_int (Kd.R_reads' HO_5.out).2.2 x7_1 p174 q174
            cases e174
            replace p174 := eq_true p174
            replace q174 := eq_true q174
            go_wp2
            go_roundg k1
            case measure => have := HK1.out; omega
            case rel => exact ⟨(x6_1), (wrap64 (x7_1 + 1)), (by first | rfl | (simp; done) | (simp [*]; done)), H', ⟨by have := HK1.out; omega⟩, ⟨by (with_reducible repeat (first | apply Kd.R_alloc | apply Kd.R_drewN | apply Kd.R_drew)); exact HO_5.out⟩, ⟨by (with_reducible repeat (first | apply Kd.R_alloc | apply Kd.R_drewN | apply Kd.R_drew)); exact HO_6.out⟩, ⟨by repeat (first | (with_reducible first | exact HB.out | apply below_alloc | apply pw_below_drewN | apply below_drew1) | exact HB.out)⟩⟩
          · rw [if_neg c9] at H
            have c9b0 : ((rd t168 x7_1) == a1) = false := beq_eq_false_iff_ne.mpr c9
            have c9b1 : ((rd t168 x7_1) != a1) = true := bne_iff_ne.mpr c9
            by_cases c11 : x6_1.length < 17592186044416
            · rw [if_pos c11] at H
              have LMc11 := Aside0.mk c11
              clear c11
              obtain ⟨y176, hy176⟩ : ∃ y_ : List Int, y_ = (x6_1 ++ [rd t168 x7_1]) := ⟨_, rfl⟩
              replace H : (boscageref06_Without.l0 k1 a1 t168 y176 (wrap64 (x7_1 + 1))) = some r := by first | (rw [hy176]; with_reducible exact H) | (have H2_ := (Option.bind_some _ _).symm.trans H; rw [hy176]; with_reducible exact H2_) | (have H2_ := (Option.bind_some _ _).symm.trans H; with_reducible exact H2_) | with_reducible exact H | (rw [hy176]; exact H) | exact H
              have Ny176 := Aside0.mk hy176
              clear hy176
              have H' := Aside0.mk H
              clear H
              obtain ⟨Ao12, co12, eo12⟩ := Kd.R_slice HO_5.out
              subst eo12
              have p174 : 0 ≤ (x7_1 : Int) := of_decide_eq_true (by first | (with_reducible assumption) | assumption)
              have q174 : x7_1 < (t168.length : Int) := of_decide_eq_true (by first | (with_reducible assumption) | assumption)
              obtain ⟨ad174, e174, hx174_0⟩ := Kd.at_int (Kd.R_reads' HO_5.out).2.2 x7_1 p174 q174
              cases e174
              replace p174 := eq_true p174
              replace q174 := eq_true q174
              have p175 : 0 ≤ (x7_1 : Int) := of_decide_eq_true (by first | (with_reducible assumption) | assumption)
              have q175 : x7_1 < (t168.length : Int) := of_decide_eq_true (by first | (with_reducible assumption) | assumption)
              obtain ⟨ad175, e175, hx175_0⟩ := Kd.at_int (Kd.R_reads' HO_5.out).2.2 x7_1 p175 q175
              obtain rfl : ad174 = ad175 := (by injection e175)
              replace p175 := eq_true p175
              replace q175 := eq_true q175
              go_wp2_with (first | ((with_reducible refine gate_builtin (b := .append) (xs := #[.tmp 23, .tmp 28]) rfl ?_); at_builtin; refine Kd.R_append (Kd.int .i64) (w0 := w) w.heap.size rfl (.tmp 23) (.tmp 28) 26 3 (.int .i64 0) 8 rfl Tryd.underlying26 info3 rfl (by decide) (by omega) u6 x6_1 (rd t168 x7_1) [.int .i64 (rd t168 x7_1)] (fun k_ => some k_ ≠ (.slice (some ad174) t168.length co12 : Value).ownBlock) (fun _ => False) rfl rfl ?aP (fun _ hk => hk.elim) ?aF ?aO ?aB ?aS ?aL ?_; (case aP => exact rfl); (case aB => exact (by repeat (first | (with_reducible first | exact HB.out | apply below_alloc | apply pw_below_drewN | apply below_drew1) | exact HB.out))); (case aF => exact (fun k_ hk => Kd.fresh' (Kd.R_lt (by (with_reducible repeat (first | apply Kd.R_alloc | apply Kd.R_drewN | apply Kd.R_drew)); exact HO_5.out)) k_ hk)); (case aO => exact (by (with_reducible repeat (first | apply Kd.R_alloc | apply Kd.R_drewN | apply Kd.R_drew)); exact HO_6.out)); (case aS => exact (below_size (by repeat (first | (with_reducible first | exact HB.out | apply below_alloc | apply pw_below_drewN | apply below_drew1) | exact HB.out)))); (case aL => have := LMc11.out; omega); intro v177 w13 ho hb hg hat; rw [← Ny176.out] at ho; have n0_ := Aside0.mk (Kd.R_after (ok := (fun _ => True)) (by (with_reducible repeat (first | apply Kd.R_alloc | apply Kd.R_drewN | apply Kd.R_drew)); exact Kd.R_mono HO_5.out (fun _ hk => ⟨trivial, hk⟩)) hg hat); have n1_ := Aside0.mk (hb); have n2_ := Aside0.mk (ho); clear HO_5; clear HB; clear HO_6; have HO_5 := n0_; have HB := n1_; have HO178 := n2_; clear n0_ n1_ n2_; clear ho hb hg hat))
              go_roundg k1
              case measure => have := HK1.out; omega
              case rel => exact ⟨(y176), (wrap64 (x7_1 + 1)), (by first | rfl | (simp; done) | (simp [*]; done)), H', ⟨by have := HK1.out; omega⟩, ⟨by (with_reducible repeat (first | apply Kd.R_alloc | apply Kd.R_drewN | apply Kd.R_drew)); exact Kd.R_mono HO_5.out (fun _ hk => hk.2)⟩, ⟨by (with_reducible repeat (first | apply Kd.R_alloc | apply Kd.R_drewN | apply Kd.R_drew)); exact HO178.out⟩, ⟨by repeat (first | (with_reducible first | exact HB.out | apply below_alloc | apply pw_below_drewN | apply below_drew1) | exact HB.out)⟩⟩
            · rw [if_neg c11] at H
              exact absurd H (by simp)
        · rw [if_neg c8] at H
          exact absurd H (by simp)
      · rw [if_neg c7] at H
        have c7b0 : decide (x7_1 < (t168.length : Int)) = false := decide_eq_false c7
        clear c7
        replace H := Option.bind_eq_some_iff.mp H
        obtain ⟨t179, A140, H⟩ := H
        replace H : (some t179) = some r := H
        have A14 := Aside0.mk A140
        clear A140
        obtain rfl := Option.some.inj H
        obtain ⟨Ao15, co15, eo15⟩ := Kd.R_slice HO_5.out
        subst eo15
        obtain ⟨Ao16, co16, eo16⟩ := Kd.R_slice HO_6.out
        subst eo16
        go_wp2_with (first | ((with_reducible refine gate_callee (f := 26) rfl ?_); refine goesL_ (some 31) rfl rfl Tryd.func26 (by kernel_rfl) rfl #[.slice Ao16 x6_1.length co16] rfl (by (try simp only [List.map_toArray, List.map_cons, List.map_nil]); first | done | rfl | (simp only [List.length_drop, List.length_take]; rfl)) ?_; (with_reducible refine (boscageref06_Make.calls k1 _ _ x6_1 t179 _ ?side1 ?side2 A14.out).mono ?_); (case side1 => repeat (first | exact (Kd.R_reads' HO_6.out).2.2 | (with_reducible refine Kd.C_alloc ?_ _) | (with_reducible refine Kd.C_drewN ?_ _) | (with_reducible refine Kd.C_drew ?_))); (case side2 => exact (Kd.R_reads' HO_6.out).2.1); rintro e w' ⟨rfl, ⟨nd, rfl⟩⟩; refine ⟨_, rfl, ?_⟩))
        go_ret
        exact ⟨by first | rfl | (simp [errW_none, errW_some] <;> rfl) | (simp [*, errW_none, errW_some] <;> rfl), by repeat (first | (with_reducible first | exact HB.out | apply below_alloc | apply pw_below_drewN | apply below_drew1) | exact HB.out)⟩

/-! ### boscagelaw06_MaskTells: function 4 -/
def boscagelaw06_MaskTells.f (k : Nat) (a0 : Int) (a1 : Int) : Option (Bool) := (mask_Has.f a0 a1).bind fun t180 => ((boscageref06_Has.f k a0 a1).bind fun t181 => (if (t180 == t181) = true then ((mask_Place.f a0 a1).bind fun t182 => ((boscageref06_Place.f k a0 a1).bind fun t183 => (if t182 = t183 then ((mask_With.f a0 a1).bind fun t184 => ((boscageref06_With.f k a0 a1).bind fun t185 => (if t184 = t185 then ((mask_Without.f a0 a1).bind fun t186 => ((boscageref06_Without.f k a0 a1).bind fun t187 => (if t186 = t187 then ((boscagelaw06_works.f k).bind fun t188 => (some t188)) else (some false)))) else (some false)))) else (some false)))) else (some false)))
theorem boscagelaw06_MaskTells.mono : ∀ a0 a1 k, LeO (boscagelaw06_MaskTells.f k a0 a1) (boscagelaw06_MaskTells.f (k + 1) a0 a1) := by
  intro a0 a1 k
  unfold boscagelaw06_MaskTells.f
  repeat' first
      | (with_reducible exact boscagelaw06_works.mono _)
      | (with_reducible exact boscageref06_Has.mono _ _ _)
      | (with_reducible exact boscageref06_Place.mono _ _ _)
      | (with_reducible exact boscageref06_With.mono _ _ _)
      | (with_reducible exact boscageref06_Without.mono _ _ _)
      | (with_reducible exact LeO.refl _)
      | (with_reducible exact LeO.none _)
      | (with_reducible refine LeO.ite ?_ ?_)
      | (with_reducible refine LeO.bind ?_ (fun _ => ?_))
      | exact boscagelaw06_works.mono _
      | exact boscageref06_Has.mono _ _ _
      | exact boscageref06_Place.mono _ _ _
      | exact boscageref06_With.mono _ _ _
      | exact boscageref06_Without.mono _ _ _
      | exact LeO.none _
      | refine LeO.ite ?_ ?_
      | refine LeO.bind ?_ (fun _ => ?_)
set_option maxHeartbeats 8000000 in
set_option maxRecDepth 100000 in
theorem boscagelaw06_MaskTells.calls (k : Nat) (a0 : Int) (a1 : Int) (r : Bool) (w : World) (h : boscagelaw06_MaskTells.f k a0 a1 = some r) (hT : Tab w) :
    Calls Tryd.prog 4 #[.int .u32 a0, .int .i64 a1] w fun e w' => e = .returned (.bool r) ∧ Below w.heap.size w w' := by
  have HT := Aside0.mk hT
  clear hT
  have HB := Aside0.mk (Below.refl w.heap.size w)
  have H : ((mask_Has.f a0 a1).bind fun t180 => ((boscageref06_Has.f k a0 a1).bind fun t181 => (if (t180 == t181) = true then ((mask_Place.f a0 a1).bind fun t182 => ((boscageref06_Place.f k a0 a1).bind fun t183 => (if t182 = t183 then ((mask_With.f a0 a1).bind fun t184 => ((boscageref06_With.f k a0 a1).bind fun t185 => (if t184 = t185 then ((mask_Without.f a0 a1).bind fun t186 => ((boscageref06_Without.f k a0 a1).bind fun t187 => (if t186 = t187 then ((boscagelaw06_works.f k).bind fun t188 => (some t188)) else (some false)))) else (some false)))) else (some false)))) else (some false)))) = some r := h
  clear h
  replace H := Option.bind_eq_some_iff.mp H
  obtain ⟨t180, A30, H⟩ := H
  replace H : ((boscageref06_Has.f k a0 a1).bind fun t181 => (if (t180 == t181) = true then ((mask_Place.f a0 a1).bind fun t182 => ((boscageref06_Place.f k a0 a1).bind fun t183 => (if t182 = t183 then ((mask_With.f a0 a1).bind fun t184 => ((boscageref06_With.f k a0 a1).bind fun t185 => (if t184 = t185 then ((mask_Without.f a0 a1).bind fun t186 => ((boscageref06_Without.f k a0 a1).bind fun t187 => (if t186 = t187 then ((boscagelaw06_works.f k).bind fun t188 => (some t188)) else (some false)))) else (some false)))) else (some false)))) else (some false))) = some r := H
  have A3 := Aside0.mk A30
  clear A30
  replace H := Option.bind_eq_some_iff.mp H
  obtain ⟨t181, A40, H⟩ := H
  replace H : (if (t180 == t181) = true then ((mask_Place.f a0 a1).bind fun t182 => ((boscageref06_Place.f k a0 a1).bind fun t183 => (if t182 = t183 then ((mask_With.f a0 a1).bind fun t184 => ((boscageref06_With.f k a0 a1).bind fun t185 => (if t184 = t185 then ((mask_Without.f a0 a1).bind fun t186 => ((boscageref06_Without.f k a0 a1).bind fun t187 => (if t186 = t187 then ((boscagelaw06_works.f k).bind fun t188 => (some t188)) else (some false)))) else (some false)))) else (some false)))) else (some false)) = some r := H
  have A4 := Aside0.mk A40
  clear A40
  by_cases c5 : (t180 == t181) = true
  · rw [if_pos c5] at H
    have c5b0 : (t180 == t181) = true := c5
    (try (have c5b1 : decide (t180 = t181) = true := by simpa using c5))
    (try (have c5b2 : (t180 == t181) = true := by simpa using c5))
    clear c5
    replace H := Option.bind_eq_some_iff.mp H
    obtain ⟨t182, A60, H⟩ := H
    replace H : ((boscageref06_Place.f k a0 a1).bind fun t183 => (if t182 = t183 then ((mask_With.f a0 a1).bind fun t184 => ((boscageref06_With.f k a0 a1).bind fun t185 => (if t184 = t185 then ((mask_Without.f a0 a1).bind fun t186 => ((boscageref06_Without.f k a0 a1).bind fun t187 => (if t186 = t187 then ((boscagelaw06_works.f k).bind fun t188 => (some t188)) else (some false)))) else (some false)))) else (some false))) = some r := H
    have A6 := Aside0.mk A60
    clear A60
    replace H := Option.bind_eq_some_iff.mp H
    obtain ⟨t183, A70, H⟩ := H
    replace H : (if t182 = t183 then ((mask_With.f a0 a1).bind fun t184 => ((boscageref06_With.f k a0 a1).bind fun t185 => (if t184 = t185 then ((mask_Without.f a0 a1).bind fun t186 => ((boscageref06_Without.f k a0 a1).bind fun t187 => (if t186 = t187 then ((boscagelaw06_works.f k).bind fun t188 => (some t188)) else (some false)))) else (some false)))) else (some false)) = some r := H
    have A7 := Aside0.mk A70
    clear A70
    by_cases c8 : t182 = t183
    · rw [if_pos c8] at H
      have c8b0 : (t182 == t183) = true := beq_iff_eq.mpr c8
      have c8b1 : (t182 != t183) = false := bne_eq_false_iff_eq.mpr c8
      clear c8
      replace H := Option.bind_eq_some_iff.mp H
      obtain ⟨t184, A90, H⟩ := H
      replace H : ((boscageref06_With.f k a0 a1).bind fun t185 => (if t184 = t185 then ((mask_Without.f a0 a1).bind fun t186 => ((boscageref06_Without.f k a0 a1).bind fun t187 => (if t186 = t187 then ((boscagelaw06_works.f k).bind fun t188 => (some t188)) else (some false)))) else (some false))) = some r := H
      have A9 := Aside0.mk A90
      clear A90
      replace H := Option.bind_eq_some_iff.mp H
      obtain ⟨t185, A100, H⟩ := H
      replace H : (if t184 = t185 then ((mask_Without.f a0 a1).bind fun t186 => ((boscageref06_Without.f k a0 a1).bind fun t187 => (if t186 = t187 then ((boscagelaw06_works.f k).bind fun t188 => (some t188)) else (some false)))) else (some false)) = some r := H
      have A10 := Aside0.mk A100
      clear A100
      by_cases c11 : t184 = t185
      · rw [if_pos c11] at H
        have c11b0 : (t184 == t185) = true := beq_iff_eq.mpr c11
        have c11b1 : (t184 != t185) = false := bne_eq_false_iff_eq.mpr c11
        clear c11
        replace H := Option.bind_eq_some_iff.mp H
        obtain ⟨t186, A120, H⟩ := H
        replace H : ((boscageref06_Without.f k a0 a1).bind fun t187 => (if t186 = t187 then ((boscagelaw06_works.f k).bind fun t188 => (some t188)) else (some false))) = some r := H
        have A12 := Aside0.mk A120
        clear A120
        replace H := Option.bind_eq_some_iff.mp H
        obtain ⟨t187, A130, H⟩ := H
        replace H : (if t186 = t187 then ((boscagelaw06_works.f k).bind fun t188 => (some t188)) else (some false)) = some r := H
        have A13 := Aside0.mk A130
        clear A130
        by_cases c14 : t186 = t187
        · rw [if_pos c14] at H
          have c14b0 : (t186 == t187) = true := beq_iff_eq.mpr c14
          have c14b1 : (t186 != t187) = false := bne_eq_false_iff_eq.mpr c14
          clear c14
          replace H := Option.bind_eq_some_iff.mp H
          obtain ⟨t188, A150, H⟩ := H
          replace H : (some t188) = some r := H
          have A15 := Aside0.mk A150
          clear A150
          obtain rfl := Option.some.inj H
          go_enter Tryd.func4, Tryd.ntmps4
          go_wp2_with (first | ((with_reducible refine gate_callee (f := 14) rfl ?_); refine goesL_ (some 7) rfl rfl Tryd.func14 (by kernel_rfl) rfl #[.int .u32 a0, .int .i64 a1] rfl (by (try simp only [List.map_toArray, List.map_cons, List.map_nil]); first | done | rfl | (simp only [List.length_drop, List.length_take]; rfl)) ?_; (with_reducible refine (mask_Has.calls a0 a1 t180 _ A3.out).mono ?_); rintro e w' ⟨rfl, ⟨nd, rfl⟩⟩; refine ⟨_, rfl, ?_⟩) | ((with_reducible refine gate_callee (f := 15) rfl ?_); refine goesL_ (some 10) rfl rfl Tryd.func15 (by kernel_rfl) rfl #[.int .u32 a0, .int .i64 a1] rfl (by (try simp only [List.map_toArray, List.map_cons, List.map_nil]); first | done | rfl | (simp only [List.length_drop, List.length_take]; rfl)) ?_; (with_reducible refine (boscageref06_Has.calls k a0 a1 t181 _ A4.out).mono ?_); rintro e w' ⟨rfl, ⟨nd, rfl⟩⟩; refine ⟨_, rfl, ?_⟩) | (go_at_call 16; (with_reducible refine (mask_Place.calls a0 a1 t182 _ A6.out).mono ?_); rintro e w' ⟨rfl, ⟨nd, rfl⟩⟩) | (go_at_call 17; (with_reducible refine (boscageref06_Place.calls k a0 a1 t183 _ A7.out).mono ?_); rintro e w16 ⟨rfl, hb⟩; have n0_ := Aside0.mk (below_step (by repeat (first | (with_reducible first | exact HB.out | apply below_alloc | apply pw_below_drewN | apply below_drew1) | exact HB.out)) hb); clear HB; have HB := n0_; clear n0_; (try clear hb); (try clear hb2); (try clear hk); (try clear hi)) | (go_at_call 18; (with_reducible refine (mask_With.calls a0 a1 t184 _ A9.out).mono ?_); rintro e w' ⟨rfl, ⟨nd, rfl⟩⟩) | (go_at_call 19; (with_reducible refine (boscageref06_With.calls k a0 a1 t185 _ A10.out).mono ?_); rintro e w17 ⟨rfl, hb⟩; have n0_ := Aside0.mk (below_step (by repeat (first | (with_reducible first | exact HB.out | apply below_alloc | apply pw_below_drewN | apply below_drew1) | exact HB.out)) hb); clear HB; have HB := n0_; clear n0_; (try clear hb); (try clear hb2); (try clear hk); (try clear hi)) | (go_at_call 20; (with_reducible refine (mask_Without.calls a0 a1 t186 _ A12.out).mono ?_); rintro e w' ⟨rfl, ⟨nd, rfl⟩⟩) | (go_at_call 21; (with_reducible refine (boscageref06_Without.calls k a0 a1 t187 _ A13.out).mono ?_); rintro e w18 ⟨rfl, hb⟩; have n0_ := Aside0.mk (below_step (by repeat (first | (with_reducible first | exact HB.out | apply below_alloc | apply pw_below_drewN | apply below_drew1) | exact HB.out)) hb); clear HB; have HB := n0_; clear n0_; (try clear hb); (try clear hb2); (try clear hk); (try clear hi)) | (go_at_call 13; (with_reducible refine (boscagelaw06_works.calls k  t188 _ A15.out (HT.out.below (by repeat (first | (with_reducible first | exact HB.out | apply below_alloc | apply pw_below_drewN | apply below_drew1) | exact HB.out)))).mono ?_); rintro e w19 ⟨rfl, hb⟩; have n0_ := Aside0.mk (below_step (by repeat (first | (with_reducible first | exact HB.out | apply below_alloc | apply pw_below_drewN | apply below_drew1) | exact HB.out)) hb); clear HB; have HB := n0_; clear n0_; (try clear hb); (try clear hb2); (try clear hk); (try clear hi)))
          go_ret
          exact ⟨by first | rfl | (simp [errW_none, errW_some] <;> rfl) | (simp [*, errW_none, errW_some] <;> rfl), by repeat (first | (with_reducible first | exact HB.out | apply below_alloc | apply pw_below_drewN | apply below_drew1) | exact HB.out)⟩
        · rw [if_neg c14] at H
          have c14b0 : (t186 == t187) = false := beq_eq_false_iff_ne.mpr c14
          have c14b1 : (t186 != t187) = true := bne_iff_ne.mpr c14
          obtain rfl := Option.some.inj H
          go_enter Tryd.func4, Tryd.ntmps4
          go_wp2_with (first | ((with_reducible refine gate_callee (f := 14) rfl ?_); refine goesL_ (some 7) rfl rfl Tryd.func14 (by kernel_rfl) rfl #[.int .u32 a0, .int .i64 a1] rfl (by (try simp only [List.map_toArray, List.map_cons, List.map_nil]); first | done | rfl | (simp only [List.length_drop, List.length_take]; rfl)) ?_; (with_reducible refine (mask_Has.calls a0 a1 t180 _ A3.out).mono ?_); rintro e w' ⟨rfl, ⟨nd, rfl⟩⟩; refine ⟨_, rfl, ?_⟩) | ((with_reducible refine gate_callee (f := 15) rfl ?_); refine goesL_ (some 10) rfl rfl Tryd.func15 (by kernel_rfl) rfl #[.int .u32 a0, .int .i64 a1] rfl (by (try simp only [List.map_toArray, List.map_cons, List.map_nil]); first | done | rfl | (simp only [List.length_drop, List.length_take]; rfl)) ?_; (with_reducible refine (boscageref06_Has.calls k a0 a1 t181 _ A4.out).mono ?_); rintro e w' ⟨rfl, ⟨nd, rfl⟩⟩; refine ⟨_, rfl, ?_⟩) | (go_at_call 16; (with_reducible refine (mask_Place.calls a0 a1 t182 _ A6.out).mono ?_); rintro e w' ⟨rfl, ⟨nd, rfl⟩⟩) | (go_at_call 17; (with_reducible refine (boscageref06_Place.calls k a0 a1 t183 _ A7.out).mono ?_); rintro e w20 ⟨rfl, hb⟩; have n0_ := Aside0.mk (below_step (by repeat (first | (with_reducible first | exact HB.out | apply below_alloc | apply pw_below_drewN | apply below_drew1) | exact HB.out)) hb); clear HB; have HB := n0_; clear n0_; (try clear hb); (try clear hb2); (try clear hk); (try clear hi)) | (go_at_call 18; (with_reducible refine (mask_With.calls a0 a1 t184 _ A9.out).mono ?_); rintro e w' ⟨rfl, ⟨nd, rfl⟩⟩) | (go_at_call 19; (with_reducible refine (boscageref06_With.calls k a0 a1 t185 _ A10.out).mono ?_); rintro e w21 ⟨rfl, hb⟩; have n0_ := Aside0.mk (below_step (by repeat (first | (with_reducible first | exact HB.out | apply below_alloc | apply pw_below_drewN | apply below_drew1) | exact HB.out)) hb); clear HB; have HB := n0_; clear n0_; (try clear hb); (try clear hb2); (try clear hk); (try clear hi)) | (go_at_call 20; (with_reducible refine (mask_Without.calls a0 a1 t186 _ A12.out).mono ?_); rintro e w' ⟨rfl, ⟨nd, rfl⟩⟩) | (go_at_call 21; (with_reducible refine (boscageref06_Without.calls k a0 a1 t187 _ A13.out).mono ?_); rintro e w22 ⟨rfl, hb⟩; have n0_ := Aside0.mk (below_step (by repeat (first | (with_reducible first | exact HB.out | apply below_alloc | apply pw_below_drewN | apply below_drew1) | exact HB.out)) hb); clear HB; have HB := n0_; clear n0_; (try clear hb); (try clear hb2); (try clear hk); (try clear hi)))
          go_ret
          exact ⟨by first | rfl | (simp [errW_none, errW_some] <;> rfl) | (simp [*, errW_none, errW_some] <;> rfl), by repeat (first | (with_reducible first | exact HB.out | apply below_alloc | apply pw_below_drewN | apply below_drew1) | exact HB.out)⟩
      · rw [if_neg c11] at H
        have c11b0 : (t184 == t185) = false := beq_eq_false_iff_ne.mpr c11
        have c11b1 : (t184 != t185) = true := bne_iff_ne.mpr c11
        obtain rfl := Option.some.inj H
        go_enter Tryd.func4, Tryd.ntmps4
        go_wp2_with (first | ((with_reducible refine gate_callee (f := 14) rfl ?_); refine goesL_ (some 7) rfl rfl Tryd.func14 (by kernel_rfl) rfl #[.int .u32 a0, .int .i64 a1] rfl (by (try simp only [List.map_toArray, List.map_cons, List.map_nil]); first | done | rfl | (simp only [List.length_drop, List.length_take]; rfl)) ?_; (with_reducible refine (mask_Has.calls a0 a1 t180 _ A3.out).mono ?_); rintro e w' ⟨rfl, ⟨nd, rfl⟩⟩; refine ⟨_, rfl, ?_⟩) | ((with_reducible refine gate_callee (f := 15) rfl ?_); refine goesL_ (some 10) rfl rfl Tryd.func15 (by kernel_rfl) rfl #[.int .u32 a0, .int .i64 a1] rfl (by (try simp only [List.map_toArray, List.map_cons, List.map_nil]); first | done | rfl | (simp only [List.length_drop, List.length_take]; rfl)) ?_; (with_reducible refine (boscageref06_Has.calls k a0 a1 t181 _ A4.out).mono ?_); rintro e w' ⟨rfl, ⟨nd, rfl⟩⟩; refine ⟨_, rfl, ?_⟩) | (go_at_call 16; (with_reducible refine (mask_Place.calls a0 a1 t182 _ A6.out).mono ?_); rintro e w' ⟨rfl, ⟨nd, rfl⟩⟩) | (go_at_call 17; (with_reducible refine (boscageref06_Place.calls k a0 a1 t183 _ A7.out).mono ?_); rintro e w23 ⟨rfl, hb⟩; have n0_ := Aside0.mk (below_step (by repeat (first | (with_reducible first | exact HB.out | apply below_alloc | apply pw_below_drewN | apply below_drew1) | exact HB.out)) hb); clear HB; have HB := n0_; clear n0_; (try clear hb); (try clear hb2); (try clear hk); (try clear hi)) | (go_at_call 18; (with_reducible refine (mask_With.calls a0 a1 t184 _ A9.out).mono ?_); rintro e w' ⟨rfl, ⟨nd, rfl⟩⟩) | (go_at_call 19; (with_reducible refine (boscageref06_With.calls k a0 a1 t185 _ A10.out).mono ?_); rintro e w24 ⟨rfl, hb⟩; have n0_ := Aside0.mk (below_step (by repeat (first | (with_reducible first | exact HB.out | apply below_alloc | apply pw_below_drewN | apply below_drew1) | exact HB.out)) hb); clear HB; have HB := n0_; clear n0_; (try clear hb); (try clear hb2); (try clear hk); (try clear hi)))
        go_ret
        exact ⟨by first | rfl | (simp [errW_none, errW_some] <;> rfl) | (simp [*, errW_none, errW_some] <;> rfl), by repeat (first | (with_reducible first | exact HB.out | apply below_alloc | apply pw_below_drewN | apply below_drew1) | exact HB.out)⟩
    · rw [if_neg c8] at H
      have c8b0 : (t182 == t183) = false := beq_eq_false_iff_ne.mpr c8
      have c8b1 : (t182 != t183) = true := bne_iff_ne.mpr c8
      obtain rfl := Option.some.inj H
      go_enter Tryd.func4, Tryd.ntmps4
      go_wp2_with (first | ((with_reducible refine gate_callee (f := 14) rfl ?_); refine goesL_ (some 7) rfl rfl Tryd.func14 (by kernel_rfl) rfl #[.int .u32 a0, .int .i64 a1] rfl (by (try simp only [List.map_toArray, List.map_cons, List.map_nil]); first | done | rfl | (simp only [List.length_drop, List.length_take]; rfl)) ?_; (with_reducible refine (mask_Has.calls a0 a1 t180 _ A3.out).mono ?_); rintro e w' ⟨rfl, ⟨nd, rfl⟩⟩; refine ⟨_, rfl, ?_⟩) | ((with_reducible refine gate_callee (f := 15) rfl ?_); refine goesL_ (some 10) rfl rfl Tryd.func15 (by kernel_rfl) rfl #[.int .u32 a0, .int .i64 a1] rfl (by (try simp only [List.map_toArray, List.map_cons, List.map_nil]); first | done | rfl | (simp only [List.length_drop, List.length_take]; rfl)) ?_; (with_reducible refine (boscageref06_Has.calls k a0 a1 t181 _ A4.out).mono ?_); rintro e w' ⟨rfl, ⟨nd, rfl⟩⟩; refine ⟨_, rfl, ?_⟩) | (go_at_call 16; (with_reducible refine (mask_Place.calls a0 a1 t182 _ A6.out).mono ?_); rintro e w' ⟨rfl, ⟨nd, rfl⟩⟩) | (go_at_call 17; (with_reducible refine (boscageref06_Place.calls k a0 a1 t183 _ A7.out).mono ?_); rintro e w25 ⟨rfl, hb⟩; have n0_ := Aside0.mk (below_step (by repeat (first | (with_reducible first | exact HB.out | apply below_alloc | apply pw_below_drewN | apply below_drew1) | exact HB.out)) hb); clear HB; have HB := n0_; clear n0_; (try clear hb); (try clear hb2); (try clear hk); (try clear hi)))
      go_ret
      exact ⟨by first | rfl | (simp [errW_none, errW_some] <;> rfl) | (simp [*, errW_none, errW_some] <;> rfl), by repeat (first | (with_reducible first | exact HB.out | apply below_alloc | apply pw_below_drewN | apply below_drew1) | exact HB.out)⟩
  · rw [if_neg c5] at H
    have c5b0 : (t180 == t181) = false := by simpa using c5
    (try (have c5b1 : decide (t180 = t181) = false := by simpa using c5))
    (try (have c5b2 : (t180 == t181) = false := by simpa using c5))
    (try (have c5b3 : ¬ (t180 = t181) := by simpa using c5))
    clear c5
    obtain rfl := Option.some.inj H
    go_enter Tryd.func4, Tryd.ntmps4
    go_wp2_with (first | ((with_reducible refine gate_callee (f := 14) rfl ?_); refine goesL_ (some 7) rfl rfl Tryd.func14 (by kernel_rfl) rfl #[.int .u32 a0, .int .i64 a1] rfl (by (try simp only [List.map_toArray, List.map_cons, List.map_nil]); first | done | rfl | (simp only [List.length_drop, List.length_take]; rfl)) ?_; (with_reducible refine (mask_Has.calls a0 a1 t180 _ A3.out).mono ?_); rintro e w' ⟨rfl, ⟨nd, rfl⟩⟩; refine ⟨_, rfl, ?_⟩) | ((with_reducible refine gate_callee (f := 15) rfl ?_); refine goesL_ (some 10) rfl rfl Tryd.func15 (by kernel_rfl) rfl #[.int .u32 a0, .int .i64 a1] rfl (by (try simp only [List.map_toArray, List.map_cons, List.map_nil]); first | done | rfl | (simp only [List.length_drop, List.length_take]; rfl)) ?_; (with_reducible refine (boscageref06_Has.calls k a0 a1 t181 _ A4.out).mono ?_); rintro e w' ⟨rfl, ⟨nd, rfl⟩⟩; refine ⟨_, rfl, ?_⟩))
    go_ret
    exact ⟨by first | rfl | (simp [errW_none, errW_some] <;> rfl) | (simp [*, errW_none, errW_some] <;> rfl), by repeat (first | (with_reducible first | exact HB.out | apply below_alloc | apply pw_below_drewN | apply below_drew1) | exact HB.out)⟩

def boscagelaw06_MaskTells.Pure : Prop := ∀ (a0 : Int) (a1 : Int), (Lit.int .u32 a0).wf = true → (Lit.int .i64 a1).wf = true → ∃ k, boscagelaw06_MaskTells.f k a0 a1 = some true

/-! ### boscagelaw06_MaskChanges: function 5 -/
mutual
def boscagelaw06_MaskChanges.j0 : Nat → Int → Bool → Option (Bool)
  | 0, _, _ => none
  | k + 1, x0, x58 => if x58 = true then (some false) else ((mask_All.f k x0).bind fun t198 => (boscagelaw06_MaskChanges.l0 k x0 t198 0))
def boscagelaw06_MaskChanges.l0 : Nat → Int → List Int → Int → Option (Bool)
  | 0, _, _, _ => none
  | k + 1, x0, x11, x12 => if x12 < (x11.length : Int) then (if 0 ≤ x12 then ((mask_Place.f x0 (rd x11 x12)).bind fun t203 => (if t203 = x12 then ((mask_Has.f x0 (rd x11 x12)).bind fun t205 => (if t205 = true then (boscagelaw06_MaskChanges.l0 k x0 x11 (wrap64 (x12 + 1))) else (some false))) else (some false))) else (none)) else ((mask_Count.f x0).bind fun t201 => (some ((x11.length : Int) == t201)))
end
def boscagelaw06_MaskChanges.f (k : Nat) (a0 : Int) (a1 : Int) (a2 : Int) : Option (Bool) := (boscagelaw06_works.f k).bind fun t189 => (if t189 = true then ((mask_With.f a0 (wrap64 (Int.tmod a1 32))).bind fun t190 => ((mask_Without.f a0 (wrap64 (Int.tmod a1 32))).bind fun t191 => ((mask_Has.f t190 (wrap64 (Int.tmod a1 32))).bind fun t192 => (if t192 = true then ((mask_Has.f t191 (wrap64 (Int.tmod a1 32))).bind fun t193 => (if t193 = true then (boscagelaw06_MaskChanges.j0 k a0 true) else (if (wrap64 (Int.tmod a1 32)) = (wrap64 (Int.tmod a2 32)) then (boscagelaw06_MaskChanges.j0 k a0 false) else ((mask_Has.f t190 (wrap64 (Int.tmod a2 32))).bind fun t194 => ((mask_Has.f a0 (wrap64 (Int.tmod a2 32))).bind fun t195 => (if (t194 != t195) = true then (boscagelaw06_MaskChanges.j0 k a0 true) else ((mask_Has.f t191 (wrap64 (Int.tmod a2 32))).bind fun t196 => ((mask_Has.f a0 (wrap64 (Int.tmod a2 32))).bind fun t197 => (boscagelaw06_MaskChanges.j0 k a0 (t196 != t197)))))))))) else (boscagelaw06_MaskChanges.j0 k a0 true))))) else (some false))
theorem boscagelaw06_MaskChanges.mono_l : ∀ k, (∀ y0 y1, LeO (boscagelaw06_MaskChanges.j0 k y0 y1) (boscagelaw06_MaskChanges.j0 (k + 1) y0 y1)) ∧ (∀ y0 y1 y2, LeO (boscagelaw06_MaskChanges.l0 k y0 y1 y2) (boscagelaw06_MaskChanges.l0 (k + 1) y0 y1 y2))
  | 0 => ⟨fun _ _ r h => by simp [boscagelaw06_MaskChanges.j0] at h, fun _ _ _ r h => by simp [boscagelaw06_MaskChanges.l0] at h⟩
  | k + 1 => by
    obtain ⟨ih0, ih1⟩ := boscagelaw06_MaskChanges.mono_l k
    refine ⟨?_, ?_⟩
    · intro y0 y1
      unfold boscagelaw06_MaskChanges.j0
      repeat' first
      | (with_reducible exact ih0 _ _)
      | (with_reducible exact ih1 _ _ _)
      | (with_reducible exact boscagelaw06_works.mono _)
      | (with_reducible exact mask_All.mono _ _)
      | (with_reducible exact LeO.refl _)
      | (with_reducible exact LeO.none _)
      | (with_reducible refine LeO.ite ?_ ?_)
      | (with_reducible refine LeO.bind ?_ (fun _ => ?_))
      | exact ih0 _ _
      | exact ih1 _ _ _
      | exact boscagelaw06_works.mono _
      | exact mask_All.mono _ _
      | exact LeO.none _
      | refine LeO.ite ?_ ?_
      | refine LeO.bind ?_ (fun _ => ?_)
    · intro y0 y1 y2
      unfold boscagelaw06_MaskChanges.l0
      repeat' first
      | (with_reducible exact ih0 _ _)
      | (with_reducible exact ih1 _ _ _)
      | (with_reducible exact boscagelaw06_works.mono _)
      | (with_reducible exact mask_All.mono _ _)
      | (with_reducible exact LeO.refl _)
      | (with_reducible exact LeO.none _)
      | (with_reducible refine LeO.ite ?_ ?_)
      | (with_reducible refine LeO.bind ?_ (fun _ => ?_))
      | exact ih0 _ _
      | exact ih1 _ _ _
      | exact boscagelaw06_works.mono _
      | exact mask_All.mono _ _
      | exact LeO.none _
      | refine LeO.ite ?_ ?_
      | refine LeO.bind ?_ (fun _ => ?_)
theorem boscagelaw06_MaskChanges.mono : ∀ a0 a1 a2 k, LeO (boscagelaw06_MaskChanges.f k a0 a1 a2) (boscagelaw06_MaskChanges.f (k + 1) a0 a1 a2) := by
  intro a0 a1 a2 k
  obtain ⟨ih0, ih1⟩ := boscagelaw06_MaskChanges.mono_l k
  unfold boscagelaw06_MaskChanges.f
  repeat' first
      | (with_reducible exact ih0 _ _)
      | (with_reducible exact ih1 _ _ _)
      | (with_reducible exact boscagelaw06_works.mono _)
      | (with_reducible exact mask_All.mono _ _)
      | (with_reducible exact LeO.refl _)
      | (with_reducible exact LeO.none _)
      | (with_reducible refine LeO.ite ?_ ?_)
      | (with_reducible refine LeO.bind ?_ (fun _ => ?_))
      | exact ih0 _ _
      | exact ih1 _ _ _
      | exact boscagelaw06_works.mono _
      | exact mask_All.mono _ _
      | exact LeO.none _
      | refine LeO.ite ?_ ?_
      | refine LeO.bind ?_ (fun _ => ?_)
set_option maxHeartbeats 8000000 in
set_option maxRecDepth 100000 in
theorem boscagelaw06_MaskChanges.calls (k : Nat) (a0 : Int) (a1 : Int) (a2 : Int) (r : Bool) (w : World) (h : boscagelaw06_MaskChanges.f k a0 a1 a2 = some r) (hT : Tab w) :
    Calls Tryd.prog 5 #[.int .u32 a0, .int .u8 a1, .int .u8 a2] w fun e w' => e = .returned (.bool r) ∧ Below w.heap.size w w' := by
  have HT := Aside0.mk hT
  clear hT
  have HB := Aside0.mk (Below.refl w.heap.size w)
  have H : ((boscagelaw06_works.f k).bind fun t189 => (if t189 = true then ((mask_With.f a0 (wrap64 (Int.tmod a1 32))).bind fun t190 => ((mask_Without.f a0 (wrap64 (Int.tmod a1 32))).bind fun t191 => ((mask_Has.f t190 (wrap64 (Int.tmod a1 32))).bind fun t192 => (if t192 = true then ((mask_Has.f t191 (wrap64 (Int.tmod a1 32))).bind fun t193 => (if t193 = true then (boscagelaw06_MaskChanges.j0 k a0 true) else (if (wrap64 (Int.tmod a1 32)) = (wrap64 (Int.tmod a2 32)) then (boscagelaw06_MaskChanges.j0 k a0 false) else ((mask_Has.f t190 (wrap64 (Int.tmod a2 32))).bind fun t194 => ((mask_Has.f a0 (wrap64 (Int.tmod a2 32))).bind fun t195 => (if (t194 != t195) = true then (boscagelaw06_MaskChanges.j0 k a0 true) else ((mask_Has.f t191 (wrap64 (Int.tmod a2 32))).bind fun t196 => ((mask_Has.f a0 (wrap64 (Int.tmod a2 32))).bind fun t197 => (boscagelaw06_MaskChanges.j0 k a0 (t196 != t197)))))))))) else (boscagelaw06_MaskChanges.j0 k a0 true))))) else (some false))) = some r := h
  clear h
  replace H := Option.bind_eq_some_iff.mp H
  obtain ⟨t189, A40, H⟩ := H
  replace H : (if t189 = true then ((mask_With.f a0 (wrap64 (Int.tmod a1 32))).bind fun t190 => ((mask_Without.f a0 (wrap64 (Int.tmod a1 32))).bind fun t191 => ((mask_Has.f t190 (wrap64 (Int.tmod a1 32))).bind fun t192 => (if t192 = true then ((mask_Has.f t191 (wrap64 (Int.tmod a1 32))).bind fun t193 => (if t193 = true then (boscagelaw06_MaskChanges.j0 k a0 true) else (if (wrap64 (Int.tmod a1 32)) = (wrap64 (Int.tmod a2 32)) then (boscagelaw06_MaskChanges.j0 k a0 false) else ((mask_Has.f t190 (wrap64 (Int.tmod a2 32))).bind fun t194 => ((mask_Has.f a0 (wrap64 (Int.tmod a2 32))).bind fun t195 => (if (t194 != t195) = true then (boscagelaw06_MaskChanges.j0 k a0 true) else ((mask_Has.f t191 (wrap64 (Int.tmod a2 32))).bind fun t196 => ((mask_Has.f a0 (wrap64 (Int.tmod a2 32))).bind fun t197 => (boscagelaw06_MaskChanges.j0 k a0 (t196 != t197)))))))))) else (boscagelaw06_MaskChanges.j0 k a0 true))))) else (some false)) = some r := H
  have A4 := Aside0.mk A40
  clear A40
  by_cases c5 : t189 = true
  · subst c5
    have H1 : ((mask_With.f a0 (wrap64 (Int.tmod a1 32))).bind fun t190 => ((mask_Without.f a0 (wrap64 (Int.tmod a1 32))).bind fun t191 => ((mask_Has.f t190 (wrap64 (Int.tmod a1 32))).bind fun t192 => (if t192 = true then ((mask_Has.f t191 (wrap64 (Int.tmod a1 32))).bind fun t193 => (if t193 = true then (boscagelaw06_MaskChanges.j0 k a0 true) else (if (wrap64 (Int.tmod a1 32)) = (wrap64 (Int.tmod a2 32)) then (boscagelaw06_MaskChanges.j0 k a0 false) else ((mask_Has.f t190 (wrap64 (Int.tmod a2 32))).bind fun t194 => ((mask_Has.f a0 (wrap64 (Int.tmod a2 32))).bind fun t195 => (if (t194 != t195) = true then (boscagelaw06_MaskChanges.j0 k a0 true) else ((mask_Has.f t191 (wrap64 (Int.tmod a2 32))).bind fun t196 => ((mask_Has.f a0 (wrap64 (Int.tmod a2 32))).bind fun t197 => (boscagelaw06_MaskChanges.j0 k a0 (t196 != t197)))))))))) else (boscagelaw06_MaskChanges.j0 k a0 true))))) = some r := by rw [if_pos rfl] at H; exact H
    clear H
    have H := H1
    clear H1
    replace H := Option.bind_eq_some_iff.mp H
    obtain ⟨t190, A60, H⟩ := H
    replace H : ((mask_Without.f a0 (wrap64 (Int.tmod a1 32))).bind fun t191 => ((mask_Has.f t190 (wrap64 (Int.tmod a1 32))).bind fun t192 => (if t192 = true then ((mask_Has.f t191 (wrap64 (Int.tmod a1 32))).bind fun t193 => (if t193 = true then (boscagelaw06_MaskChanges.j0 k a0 true) else (if (wrap64 (Int.tmod a1 32)) = (wrap64 (Int.tmod a2 32)) then (boscagelaw06_MaskChanges.j0 k a0 false) else ((mask_Has.f t190 (wrap64 (Int.tmod a2 32))).bind fun t194 => ((mask_Has.f a0 (wrap64 (Int.tmod a2 32))).bind fun t195 => (if (t194 != t195) = true then (boscagelaw06_MaskChanges.j0 k a0 true) else ((mask_Has.f t191 (wrap64 (Int.tmod a2 32))).bind fun t196 => ((mask_Has.f a0 (wrap64 (Int.tmod a2 32))).bind fun t197 => (boscagelaw06_MaskChanges.j0 k a0 (t196 != t197)))))))))) else (boscagelaw06_MaskChanges.j0 k a0 true)))) = some r := H
    have A6 := Aside0.mk A60
    clear A60
    replace H := Option.bind_eq_some_iff.mp H
    obtain ⟨t191, A70, H⟩ := H
    replace H : ((mask_Has.f t190 (wrap64 (Int.tmod a1 32))).bind fun t192 => (if t192 = true then ((mask_Has.f t191 (wrap64 (Int.tmod a1 32))).bind fun t193 => (if t193 = true then (boscagelaw06_MaskChanges.j0 k a0 true) else (if (wrap64 (Int.tmod a1 32)) = (wrap64 (Int.tmod a2 32)) then (boscagelaw06_MaskChanges.j0 k a0 false) else ((mask_Has.f t190 (wrap64 (Int.tmod a2 32))).bind fun t194 => ((mask_Has.f a0 (wrap64 (Int.tmod a2 32))).bind fun t195 => (if (t194 != t195) = true then (boscagelaw06_MaskChanges.j0 k a0 true) else ((mask_Has.f t191 (wrap64 (Int.tmod a2 32))).bind fun t196 => ((mask_Has.f a0 (wrap64 (Int.tmod a2 32))).bind fun t197 => (boscagelaw06_MaskChanges.j0 k a0 (t196 != t197)))))))))) else (boscagelaw06_MaskChanges.j0 k a0 true))) = some r := H
    have A7 := Aside0.mk A70
    clear A70
    have HC8 := Aside0.mk H
    clear H
    go_enter Tryd.func5, Tryd.ntmps5
    go_upto_region 5 with (first | ((with_reducible refine gate_callee (f := 13) rfl ?_); refine goesL_ (some 13) rfl rfl Tryd.func13 (by kernel_rfl) rfl #[] rfl (by (try simp only [List.map_toArray, List.map_cons, List.map_nil]); first | done | rfl | (simp only [List.length_drop, List.length_take]; rfl)) ?_; (with_reducible refine (boscagelaw06_works.calls k  true _ A4.out (HT.out.below (by repeat (first | (with_reducible first | exact HB.out | apply below_alloc | apply pw_below_drewN | apply below_drew1) | exact HB.out)))).mono ?_); rintro e w9 ⟨rfl, hb⟩; refine ⟨_, rfl, ?_⟩; have n0_ := Aside0.mk (below_step (by repeat (first | (with_reducible first | exact HB.out | apply below_alloc | apply pw_below_drewN | apply below_drew1) | exact HB.out)) hb); clear HB; have HB := n0_; clear n0_; (try clear hb); (try clear hb2); (try clear hk); (try clear hi)) | ((with_reducible refine gate_callee (f := 18) rfl ?_); refine goesL_ (some 23) rfl rfl Tryd.func18 (by kernel_rfl) rfl #[.int .u32 a0, .int .i64 (wrap64 (Int.tmod a1 32))] rfl (by (try simp only [List.map_toArray, List.map_cons, List.map_nil]); first | done | rfl | (simp only [List.length_drop, List.length_take]; rfl)) ?_; (with_reducible refine (mask_With.calls a0 (wrap64 (Int.tmod a1 32)) t190 _ A6.out).mono ?_); rintro e w' ⟨rfl, ⟨nd, rfl⟩⟩; refine ⟨_, rfl, ?_⟩) | ((with_reducible refine gate_callee (f := 20) rfl ?_); refine goesL_ (some 26) rfl rfl Tryd.func20 (by kernel_rfl) rfl #[.int .u32 a0, .int .i64 (wrap64 (Int.tmod a1 32))] rfl (by (try simp only [List.map_toArray, List.map_cons, List.map_nil]); first | done | rfl | (simp only [List.length_drop, List.length_take]; rfl)) ?_; (with_reducible refine (mask_Without.calls a0 (wrap64 (Int.tmod a1 32)) t191 _ A7.out).mono ?_); rintro e w' ⟨rfl, ⟨nd, rfl⟩⟩; refine ⟨_, rfl, ?_⟩))
    (try simp only [Act.put, List.setIfInBounds_toArray, List.set_cons_zero, List.set_cons_succ])
    go_cut [58] (fun v58 wc => ∃ (kq : Nat) (x58_7 : Bool), v58 = .bool x58_7 ∧ Aside0 (boscagelaw06_MaskChanges.j0 kq a0 x58_7 = some r) ∧ Aside0 (kq ≤ k) ∧ Aside0 (Below w.heap.size w wc))
    case first =>
      have H := HC8.out
      clear HC8
      replace H := Option.bind_eq_some_iff.mp H
      obtain ⟨t192, A100, H⟩ := H
      replace H : (if t192 = true then ((mask_Has.f t191 (wrap64 (Int.tmod a1 32))).bind fun t193 => (if t193 = true then (boscagelaw06_MaskChanges.j0 k a0 true) else (if (wrap64 (Int.tmod a1 32)) = (wrap64 (Int.tmod a2 32)) then (boscagelaw06_MaskChanges.j0 k a0 false) else ((mask_Has.f t190 (wrap64 (Int.tmod a2 32))).bind fun t194 => ((mask_Has.f a0 (wrap64 (Int.tmod a2 32))).bind fun t195 => (if (t194 != t195) = true then (boscagelaw06_MaskChanges.j0 k a0 true) else ((mask_Has.f t191 (wrap64 (Int.tmod a2 32))).bind fun t196 => ((mask_Has.f a0 (wrap64 (Int.tmod a2 32))).bind fun t197 => (boscagelaw06_MaskChanges.j0 k a0 (t196 != t197)))))))))) else (boscagelaw06_MaskChanges.j0 k a0 true)) = some r := H
      have A10 := Aside0.mk A100
      clear A100
      by_cases c11 : t192 = true
      · subst c11
        have H1 : ((mask_Has.f t191 (wrap64 (Int.tmod a1 32))).bind fun t193 => (if t193 = true then (boscagelaw06_MaskChanges.j0 k a0 true) else (if (wrap64 (Int.tmod a1 32)) = (wrap64 (Int.tmod a2 32)) then (boscagelaw06_MaskChanges.j0 k a0 false) else ((mask_Has.f t190 (wrap64 (Int.tmod a2 32))).bind fun t194 => ((mask_Has.f a0 (wrap64 (Int.tmod a2 32))).bind fun t195 => (if (t194 != t195) = true then (boscagelaw06_MaskChanges.j0 k a0 true) else ((mask_Has.f t191 (wrap64 (Int.tmod a2 32))).bind fun t196 => ((mask_Has.f a0 (wrap64 (Int.tmod a2 32))).bind fun t197 => (boscagelaw06_MaskChanges.j0 k a0 (t196 != t197)))))))))) = some r := by rw [if_pos rfl] at H; exact H
        clear H
        have H := H1
        clear H1
        replace H := Option.bind_eq_some_iff.mp H
        obtain ⟨t193, A120, H⟩ := H
        replace H : (if t193 = true then (boscagelaw06_MaskChanges.j0 k a0 true) else (if (wrap64 (Int.tmod a1 32)) = (wrap64 (Int.tmod a2 32)) then (boscagelaw06_MaskChanges.j0 k a0 false) else ((mask_Has.f t190 (wrap64 (Int.tmod a2 32))).bind fun t194 => ((mask_Has.f a0 (wrap64 (Int.tmod a2 32))).bind fun t195 => (if (t194 != t195) = true then (boscagelaw06_MaskChanges.j0 k a0 true) else ((mask_Has.f t191 (wrap64 (Int.tmod a2 32))).bind fun t196 => ((mask_Has.f a0 (wrap64 (Int.tmod a2 32))).bind fun t197 => (boscagelaw06_MaskChanges.j0 k a0 (t196 != t197))))))))) = some r := H
        have A12 := Aside0.mk A120
        clear A120
        by_cases c13 : t193 = true
        · subst c13
          have H1 : (boscagelaw06_MaskChanges.j0 k a0 true) = some r := by rw [if_pos rfl] at H; exact H
          clear H
          have H := H1
          clear H1
          have H' := Aside0.mk H
          clear H
          go_wp2_with (first | ((with_reducible refine gate_callee (f := 14) rfl ?_); refine goesL_ (some 29) rfl rfl Tryd.func14 (by kernel_rfl) rfl #[.int .u32 t190, .int .i64 (wrap64 (Int.tmod a1 32))] rfl (by (try simp only [List.map_toArray, List.map_cons, List.map_nil]); first | done | rfl | (simp only [List.length_drop, List.length_take]; rfl)) ?_; (with_reducible refine (mask_Has.calls t190 (wrap64 (Int.tmod a1 32)) true _ A10.out).mono ?_); rintro e w' ⟨rfl, ⟨nd, rfl⟩⟩; refine ⟨_, rfl, ?_⟩) | (go_at_call 14; (with_reducible refine (mask_Has.calls t191 (wrap64 (Int.tmod a1 32)) true _ A12.out).mono ?_); rintro e w' ⟨rfl, ⟨nd, rfl⟩⟩))
          go_meet
          case rel => exact ⟨_, (true), (by first | rfl | (simp; done) | (simp [*]; done)), H', ⟨by first | omega | exact Nat.le_refl _⟩, ⟨by repeat (first | (with_reducible first | exact HB.out | apply below_alloc | apply pw_below_drewN | apply below_drew1) | exact HB.out)⟩⟩
        · replace c13 := Bool.eq_false_iff.mpr c13
          subst c13
          have H1 : (if (wrap64 (Int.tmod a1 32)) = (wrap64 (Int.tmod a2 32)) then (boscagelaw06_MaskChanges.j0 k a0 false) else ((mask_Has.f t190 (wrap64 (Int.tmod a2 32))).bind fun t194 => ((mask_Has.f a0 (wrap64 (Int.tmod a2 32))).bind fun t195 => (if (t194 != t195) = true then (boscagelaw06_MaskChanges.j0 k a0 true) else ((mask_Has.f t191 (wrap64 (Int.tmod a2 32))).bind fun t196 => ((mask_Has.f a0 (wrap64 (Int.tmod a2 32))).bind fun t197 => (boscagelaw06_MaskChanges.j0 k a0 (t196 != t197)))))))) = some r := by rw [if_neg (show ¬ (false = true) by decide)] at H; exact H
          clear H
          have H := H1
          clear H1
          by_cases c14 : (wrap64 (Int.tmod a1 32)) = (wrap64 (Int.tmod a2 32))
          · rw [if_pos c14] at H
            have c14b0 : ((wrap64 (Int.tmod a1 32)) == (wrap64 (Int.tmod a2 32))) = true := beq_iff_eq.mpr c14
            have c14b1 : ((wrap64 (Int.tmod a1 32)) != (wrap64 (Int.tmod a2 32))) = false := bne_eq_false_iff_eq.mpr c14
            clear c14
            (first | rw [c14b0] | (simp only [i64_w, i32_w]; rw [c14b0]) | skip)
            have H' := Aside0.mk H
            clear H
            go_wp2_with (first | ((with_reducible refine gate_callee (f := 14) rfl ?_); refine goesL_ (some 29) rfl rfl Tryd.func14 (by kernel_rfl) rfl #[.int .u32 t190, .int .i64 (wrap64 (Int.tmod a1 32))] rfl (by (try simp only [List.map_toArray, List.map_cons, List.map_nil]); first | done | rfl | (simp only [List.length_drop, List.length_take]; rfl)) ?_; (with_reducible refine (mask_Has.calls t190 (wrap64 (Int.tmod a1 32)) true _ A10.out).mono ?_); rintro e w' ⟨rfl, ⟨nd, rfl⟩⟩; refine ⟨_, rfl, ?_⟩) | (go_at_call 14; (with_reducible refine (mask_Has.calls t191 (wrap64 (Int.tmod a1 32)) false _ A12.out).mono ?_); rintro e w' ⟨rfl, ⟨nd, rfl⟩⟩))
            go_meet
            case rel => exact ⟨_, (false), (by first | rfl | (simp; done) | (simp [*]; done)), H', ⟨by first | omega | exact Nat.le_refl _⟩, ⟨by repeat (first | (with_reducible first | exact HB.out | apply below_alloc | apply pw_below_drewN | apply below_drew1) | exact HB.out)⟩⟩
          · rw [if_neg c14] at H
            have c14b0 : ((wrap64 (Int.tmod a1 32)) == (wrap64 (Int.tmod a2 32))) = false := beq_eq_false_iff_ne.mpr c14
            have c14b1 : ((wrap64 (Int.tmod a1 32)) != (wrap64 (Int.tmod a2 32))) = true := bne_iff_ne.mpr c14
            (first | rw [c14b0] | (simp only [i64_w, i32_w]; rw [c14b0]) | skip)
            replace H := Option.bind_eq_some_iff.mp H
            obtain ⟨t194, A150, H⟩ := H
            replace H : ((mask_Has.f a0 (wrap64 (Int.tmod a2 32))).bind fun t195 => (if (t194 != t195) = true then (boscagelaw06_MaskChanges.j0 k a0 true) else ((mask_Has.f t191 (wrap64 (Int.tmod a2 32))).bind fun t196 => ((mask_Has.f a0 (wrap64 (Int.tmod a2 32))).bind fun t197 => (boscagelaw06_MaskChanges.j0 k a0 (t196 != t197)))))) = some r := H
            have A15 := Aside0.mk A150
            clear A150
            replace H := Option.bind_eq_some_iff.mp H
            obtain ⟨t195, A160, H⟩ := H
            replace H : (if (t194 != t195) = true then (boscagelaw06_MaskChanges.j0 k a0 true) else ((mask_Has.f t191 (wrap64 (Int.tmod a2 32))).bind fun t196 => ((mask_Has.f a0 (wrap64 (Int.tmod a2 32))).bind fun t197 => (boscagelaw06_MaskChanges.j0 k a0 (t196 != t197))))) = some r := H
            have A16 := Aside0.mk A160
            clear A160
            by_cases c17 : (t194 != t195) = true
            · rw [if_pos c17] at H
              have c17b0 : (t194 != t195) = true := c17
              (try (have c17b1 : decide (t194 = t195) = false := by simpa using c17))
              (try (have c17b2 : (t194 == t195) = false := by simpa using c17))
              (try (have c17b3 : ¬ (t194 = t195) := by simpa using c17))
              clear c17
              have H' := Aside0.mk H
              clear H
              go_wp2_with (first | ((with_reducible refine gate_callee (f := 14) rfl ?_); refine goesL_ (some 29) rfl rfl Tryd.func14 (by kernel_rfl) rfl #[.int .u32 t190, .int .i64 (wrap64 (Int.tmod a1 32))] rfl (by (try simp only [List.map_toArray, List.map_cons, List.map_nil]); first | done | rfl | (simp only [List.length_drop, List.length_take]; rfl)) ?_; (with_reducible refine (mask_Has.calls t190 (wrap64 (Int.tmod a1 32)) true _ A10.out).mono ?_); rintro e w' ⟨rfl, ⟨nd, rfl⟩⟩; refine ⟨_, rfl, ?_⟩) | (go_at_call 14; (with_reducible refine (mask_Has.calls t191 (wrap64 (Int.tmod a1 32)) false _ A12.out).mono ?_); rintro e w' ⟨rfl, ⟨nd, rfl⟩⟩) | (go_at_call 14; (with_reducible refine (mask_Has.calls t190 (wrap64 (Int.tmod a2 32)) t194 _ A15.out).mono ?_); rintro e w' ⟨rfl, ⟨nd, rfl⟩⟩) | (go_at_call 14; (with_reducible refine (mask_Has.calls a0 (wrap64 (Int.tmod a2 32)) t195 _ A16.out).mono ?_); rintro e w' ⟨rfl, ⟨nd, rfl⟩⟩))
              go_meet
              case rel => exact ⟨_, (true), (by first | rfl | (simp; done) | (simp [*]; done)), H', ⟨by first | omega | exact Nat.le_refl _⟩, ⟨by repeat (first | (with_reducible first | exact HB.out | apply below_alloc | apply pw_below_drewN | apply below_drew1) | exact HB.out)⟩⟩
            · rw [if_neg c17] at H
              have c17b0 : (t194 != t195) = false := by simpa using c17
              (try (have c17b1 : decide (t194 = t195) = true := by simpa using c17))
              (try (have c17b2 : (t194 == t195) = true := by simpa using c17))
              clear c17
              replace H := Option.bind_eq_some_iff.mp H
              obtain ⟨t196, A180, H⟩ := H
              replace H : ((mask_Has.f a0 (wrap64 (Int.tmod a2 32))).bind fun t197 => (boscagelaw06_MaskChanges.j0 k a0 (t196 != t197))) = some r := H
              have A18 := Aside0.mk A180
              clear A180
              replace H := Option.bind_eq_some_iff.mp H
              obtain ⟨t197, A190, H⟩ := H
              replace H : (boscagelaw06_MaskChanges.j0 k a0 (t196 != t197)) = some r := H
              have A19 := Aside0.mk A190
              clear A190
              have EA19 := Aside0.mk (Option.some.inj (A16.out.symm.trans A19.out))
              have H' := Aside0.mk H
              clear H
              go_wp2_with (first | ((with_reducible refine gate_callee (f := 14) rfl ?_); refine goesL_ (some 29) rfl rfl Tryd.func14 (by kernel_rfl) rfl #[.int .u32 t190, .int .i64 (wrap64 (Int.tmod a1 32))] rfl (by (try simp only [List.map_toArray, List.map_cons, List.map_nil]); first | done | rfl | (simp only [List.length_drop, List.length_take]; rfl)) ?_; (with_reducible refine (mask_Has.calls t190 (wrap64 (Int.tmod a1 32)) true _ A10.out).mono ?_); rintro e w' ⟨rfl, ⟨nd, rfl⟩⟩; refine ⟨_, rfl, ?_⟩) | (go_at_call 14; (with_reducible refine (mask_Has.calls t191 (wrap64 (Int.tmod a1 32)) false _ A12.out).mono ?_); rintro e w' ⟨rfl, ⟨nd, rfl⟩⟩) | (go_at_call 14; (with_reducible refine (mask_Has.calls t190 (wrap64 (Int.tmod a2 32)) t194 _ A15.out).mono ?_); rintro e w' ⟨rfl, ⟨nd, rfl⟩⟩) | (go_at_call 14; (with_reducible refine (mask_Has.calls a0 (wrap64 (Int.tmod a2 32)) t195 _ A16.out).mono ?_); rintro e w' ⟨rfl, ⟨nd, rfl⟩⟩) | (go_at_call 14; (with_reducible refine (mask_Has.calls t191 (wrap64 (Int.tmod a2 32)) t196 _ A18.out).mono ?_); rintro e w' ⟨rfl, ⟨nd, rfl⟩⟩) | (go_at_call 14; (with_reducible refine (mask_Has.calls a0 (wrap64 (Int.tmod a2 32)) t197 _ A19.out).mono ?_); rintro e w' ⟨rfl, ⟨nd, rfl⟩⟩))
              go_meet
              case rel => exact ⟨_, ((t196 != t197)), (by first | rfl | (simp; done) | (simp [*]; done) | (simp only [EA19.out] <;> rfl)), H', ⟨by first | omega | exact Nat.le_refl _⟩, ⟨by repeat (first | (with_reducible first | exact HB.out | apply below_alloc | apply pw_below_drewN | apply below_drew1) | exact HB.out)⟩⟩
      · replace c11 := Bool.eq_false_iff.mpr c11
        subst c11
        have H1 : (boscagelaw06_MaskChanges.j0 k a0 true) = some r := by rw [if_neg (show ¬ (false = true) by decide)] at H; exact H
        clear H
        have H := H1
        clear H1
        have H' := Aside0.mk H
        clear H
        go_wp2_with (first | ((with_reducible refine gate_callee (f := 14) rfl ?_); refine goesL_ (some 29) rfl rfl Tryd.func14 (by kernel_rfl) rfl #[.int .u32 t190, .int .i64 (wrap64 (Int.tmod a1 32))] rfl (by (try simp only [List.map_toArray, List.map_cons, List.map_nil]); first | done | rfl | (simp only [List.length_drop, List.length_take]; rfl)) ?_; (with_reducible refine (mask_Has.calls t190 (wrap64 (Int.tmod a1 32)) false _ A10.out).mono ?_); rintro e w' ⟨rfl, ⟨nd, rfl⟩⟩; refine ⟨_, rfl, ?_⟩))
        go_meet
        case rel => exact ⟨_, (true), (by first | rfl | (simp; done) | (simp [*]; done)), H', ⟨by first | omega | exact Nat.le_refl _⟩, ⟨by repeat (first | (with_reducible first | exact HB.out | apply below_alloc | apply pw_below_drewN | apply below_drew1) | exact HB.out)⟩⟩
    case rest =>
      clear HC8
      try clear c1
      try clear c2
      try clear p2
      try clear c5
      try clear p6
      try clear c11
      try clear c13
      try clear c14
      try clear c14b0
      try clear c14b1
      try clear c17
      try clear c17b0
      try clear c17b1
      try clear c17b2
      try clear c18
      obtain ⟨kq, x58_7, rfl, HA, HJ7, HB⟩ := hcut
      cases kq with
      | zero => exact absurd HA.out (by simp [boscagelaw06_MaskChanges.j0])
      | succ kj7 =>
        have H := HA.out
        clear HA
        simp only [boscagelaw06_MaskChanges.j0] at H
        by_cases c20 : x58_7 = true
        · subst c20
          have H1 : (some false) = some r := by rw [if_pos rfl] at H; exact H
          clear H
          have H := H1
          clear H1
          obtain rfl := Option.some.inj H
          go_wp2
          go_ret
          exact ⟨by first | rfl | (simp [errW_none, errW_some] <;> rfl) | (simp [*, errW_none, errW_some] <;> rfl), by repeat (first | (with_reducible first | exact HB.out | apply below_alloc | apply pw_below_drewN | apply below_drew1) | exact HB.out)⟩
        · replace c20 := Bool.eq_false_iff.mpr c20
          subst c20
          have H1 : ((mask_All.f kj7 a0).bind fun t198 => (boscagelaw06_MaskChanges.l0 kj7 a0 t198 0)) = some r := by rw [if_neg (show ¬ (false = true) by decide)] at H; exact H
          clear H
          have H := H1
          clear H1
          replace H := Option.bind_eq_some_iff.mp H
          obtain ⟨t198, A210, H⟩ := H
          replace H : (boscagelaw06_MaskChanges.l0 kj7 a0 t198 0) = some r := H
          have A21 := Aside0.mk A210
          clear A210
          have H' := Aside0.mk H
          clear H
          go_wp2_with (first | ((with_reducible refine gate_callee (f := 12) rfl ?_); refine goesL_ (some 60) rfl rfl Tryd.func12 (by kernel_rfl) rfl #[.int .u32 a0] rfl (by (try simp only [List.map_toArray, List.map_cons, List.map_nil]); first | done | rfl | (simp only [List.length_drop, List.length_take]; rfl)) ?_; (with_reducible refine (mask_All.calls kj7 a0 t198 _ A21.out (HT.out.below (by repeat (first | (with_reducible first | exact HB.out | apply below_alloc | apply pw_below_drewN | apply below_drew1) | exact HB.out)))).mono ?_); rintro e w22 ⟨v199, rfl, ho0, hb⟩; refine ⟨_, rfl, ?_⟩; have n0_ := Aside0.mk (Kd.R_lower ho0 (below_size (by repeat (first | (with_reducible first | exact HB.out | apply below_alloc | apply pw_below_drewN | apply below_drew1) | exact HB.out)))); have n1_ := Aside0.mk (below_step (by repeat (first | (with_reducible first | exact HB.out | apply below_alloc | apply pw_below_drewN | apply below_drew1) | exact HB.out)) hb); clear HB; have HO200 := n0_; have HB := n1_; clear n0_ n1_; (try clear hb); (try clear hb2); (try clear hk); (try clear hi); (try clear ho0)))
          go_loopg [12] kj7 (fun kq v12 w' => ∃ (x12_2 : Int), v12 = .int .i64 x12_2 ∧ Aside0 (boscagelaw06_MaskChanges.l0 kq a0 t198 x12_2 = some r) ∧ Aside0 (kq ≤ kj7) ∧ Aside0 (Kd.R (Kd.int .i64) 3 w' w.heap.size (fun _ => True) v199 t198) ∧ Aside0 (Below w.heap.size w w'))
          case atStart => exact ⟨(0), (by first | rfl | (simp; done) | (simp [*]; done)), H', ⟨Nat.le_refl _⟩, ⟨by (with_reducible repeat (first | apply Kd.R_alloc | apply Kd.R_drewN | apply Kd.R_drew)); exact HO200.out⟩, ⟨by repeat (first | (with_reducible first | exact HB.out | apply below_alloc | apply pw_below_drewN | apply below_drew1) | exact HB.out)⟩⟩
          case round =>
            clear H'
            try clear c1
            try clear c2
            try clear p2
            try clear c5
            try clear p6
            try clear c11
            try clear c12
            try clear c13
            try clear c14
            try clear c14b0
            try clear c14b1
            try clear c17
            try clear c17b0
            try clear c17b1
            try clear c17b2
            try clear c18
            try clear c20
            try clear p2
            try clear p6
            obtain ⟨x12_2, rfl, HA, HK2, HO_11, HB⟩ := hrel
            cases gk with
            | zero => exact absurd HA.out (by simp [boscagelaw06_MaskChanges.l0])
            | succ k2 =>
              have H := HA.out
              clear HA
              simp only [boscagelaw06_MaskChanges.l0] at H
              by_cases c23 : x12_2 < (t198.length : Int)
              · rw [if_pos c23] at H
                have c23b0 : decide (x12_2 < (t198.length : Int)) = true := decide_eq_true c23
                clear c23
                by_cases c24 : 0 ≤ x12_2
                · rw [if_pos c24] at H
                  have c24b0 : decide (0 ≤ x12_2) = true := decide_eq_true c24
                  clear c24
                  replace H := Option.bind_eq_some_iff.mp H
                  obtain ⟨t203, A250, H⟩ := H
                  replace H : (if t203 = x12_2 then ((mask_Has.f a0 (rd t198 x12_2)).bind fun t205 => (if t205 = true then (boscagelaw06_MaskChanges.l0 k2 a0 t198 (wrap64 (x12_2 + 1))) else (some false))) else (some false)) = some r := H
                  have A25 := Aside0.mk A250
                  clear A250
                  by_cases c26 : t203 = x12_2
                  · rw [if_pos c26] at H
                    have c26b0 : (t203 == x12_2) = true := beq_iff_eq.mpr c26
                    have c26b1 : (t203 != x12_2) = false := bne_eq_false_iff_eq.mpr c26
                    clear c26
                    replace H := Option.bind_eq_some_iff.mp H
                    obtain ⟨t205, A270, H⟩ := H
                    replace H : (if t205 = true then (boscagelaw06_MaskChanges.l0 k2 a0 t198 (wrap64 (x12_2 + 1))) else (some false)) = some r := H
                    have A27 := Aside0.mk A270
                    clear A270
                    by_cases c28 : t205 = true
                    · subst c28
                      have H1 : (boscagelaw06_MaskChanges.l0 k2 a0 t198 (wrap64 (x12_2 + 1))) = some r := by rw [if_pos rfl] at H; exact H
                      clear H
                      have H := H1
                      clear H1
                      have H' := Aside0.mk H
                      clear H
                      obtain ⟨Ao29, co29, eo29⟩ := Kd.R_slice HO_11.out
                      subst eo29
                      have p202 : 0 ≤ (x12_2 : Int) := of_decide_eq_true (by first | (with_reducible assumption) | assumption)
                      have q202 : x12_2 < (t198.length : Int) := of_decide_eq_true (by first | (with_reducible assumption) | assumption)
                      obtain ⟨ad202, e202, hx202_0⟩ := Kd.at_int (Kd.R_reads' HO_11.out).2.2 x12_2 p202 q202
                      cases e202
                      replace p202 := eq_true p202
                      replace q202 := eq_true q202
                      go_wp2_with (first | ((with_reducible refine gate_callee (f := 16) rfl ?_); refine goesL_ (some 72) rfl rfl Tryd.func16 (by kernel_rfl) rfl #[.int .u32 a0, .int .i64 (rd t198 x12_2)] rfl (by (try simp only [List.map_toArray, List.map_cons, List.map_nil]); first | done | rfl | (simp only [List.length_drop, List.length_take]; rfl)) ?_; (with_reducible refine (mask_Place.calls a0 (rd t198 x12_2) t203 _ A25.out).mono ?_); rintro e w' ⟨rfl, ⟨nd, rfl⟩⟩; refine ⟨_, rfl, ?_⟩; have p204 : 0 ≤ (x12_2 : Int) := of_decide_eq_true (by first | (with_reducible assumption) | assumption); have q204 : x12_2 < (t198.length : Int) := of_decide_eq_true (by first | (with_reducible assumption) | assumption); obtain ⟨ad204, e204, hx204_0⟩ := Kd.at_int (Kd.R_reads' HO_11.out).2.2 x12_2 p204 q204; obtain rfl : ad202 = ad204 := (by injection e204); replace p204 := eq_true p204; replace q204 := eq_true q204) | (go_at_call 14; (with_reducible refine (mask_Has.calls a0 (rd t198 x12_2) true _ A27.out).mono ?_); rintro e w' ⟨rfl, ⟨nd, rfl⟩⟩))
                      go_roundg k2
                      case measure => have := HJ7.out; have := HK2.out; omega
                      case rel => exact ⟨(wrap64 (x12_2 + 1)), (by first | rfl | (simp; done) | (simp [*]; done)), H', ⟨by have := HJ7.out; have := HK2.out; omega⟩, ⟨by (with_reducible repeat (first | apply Kd.R_alloc | apply Kd.R_drewN | apply Kd.R_drew)); exact HO_11.out⟩, ⟨by repeat (first | (with_reducible first | exact HB.out | apply below_alloc | apply pw_below_drewN | apply below_drew1) | exact HB.out)⟩⟩
                    · replace c28 := Bool.eq_false_iff.mpr c28
                      subst c28
                      have H1 : (some false) = some r := by rw [if_neg (show ¬ (false = true) by decide)] at H; exact H
                      clear H
                      have H := H1
                      clear H1
                      obtain rfl := Option.some.inj H
                      obtain ⟨Ao30, co30, eo30⟩ := Kd.R_slice HO_11.out
                      subst eo30
                      have p202 : 0 ≤ (x12_2 : Int) := of_decide_eq_true (by first | (with_reducible assumption) | assumption)
                      have q202 : x12_2 < (t198.length : Int) := of_decide_eq_true (by first | (with_reducible assumption) | assumption)
                      obtain ⟨ad202, e202, hx202_0⟩ := Kd.at_int (Kd.R_reads' HO_11.out).2.2 x12_2 p202 q202
                      cases e202
                      replace p202 := eq_true p202
                      replace q202 := eq_true q202
                      go_wp2_with (first | ((with_reducible refine gate_callee (f := 16) rfl ?_); refine goesL_ (some 72) rfl rfl Tryd.func16 (by kernel_rfl) rfl #[.int .u32 a0, .int .i64 (rd t198 x12_2)] rfl (by (try simp only [List.map_toArray, List.map_cons, List.map_nil]); first | done | rfl | (simp only [List.length_drop, List.length_take]; rfl)) ?_; (with_reducible refine (mask_Place.calls a0 (rd t198 x12_2) t203 _ A25.out).mono ?_); rintro e w' ⟨rfl, ⟨nd, rfl⟩⟩; refine ⟨_, rfl, ?_⟩; have p204 : 0 ≤ (x12_2 : Int) := of_decide_eq_true (by first | (with_reducible assumption) | assumption); have q204 : x12_2 < (t198.length : Int) := of_decide_eq_true (by first | (with_reducible assumption) | assumption); obtain ⟨ad204, e204, hx204_0⟩ := Kd.at_int (Kd.R_reads' HO_11.out).2.2 x12_2 p204 q204; obtain rfl : ad202 = ad204 := (by injection e204); replace p204 := eq_true p204; replace q204 := eq_true q204) | (go_at_call 14; (with_reducible refine (mask_Has.calls a0 (rd t198 x12_2) false _ A27.out).mono ?_); rintro e w' ⟨rfl, ⟨nd, rfl⟩⟩))
                      go_ret
                      exact ⟨by first | rfl | (simp [errW_none, errW_some] <;> rfl) | (simp [*, errW_none, errW_some] <;> rfl), by repeat (first | (with_reducible first | exact HB.out | apply below_alloc | apply pw_below_drewN | apply below_drew1) | exact HB.out)⟩
                  · rw [if_neg c26] at H
                    have c26b0 : (t203 == x12_2) = false := beq_eq_false_iff_ne.mpr c26
                    have c26b1 : (t203 != x12_2) = true := bne_iff_ne.mpr c26
                    obtain rfl := Option.some.inj H
                    obtain ⟨Ao31, co31, eo31⟩ := Kd.R_slice HO_11.out
                    subst eo31
                    have p202 : 0 ≤ (x12_2 : Int) := of_decide_eq_true (by first | (with_reducible assumption) | assumption)
                    have q202 : x12_2 < (t198.length : Int) := of_decide_eq_true (by first | (with_reducible assumption) | assumption)
                    obtain ⟨ad202, e202, hx202_0⟩ := Kd.at_int (Kd.R_reads' HO_11.out).2.2 x12_2 p202 q202
                    cases e202
                    replace p202 := eq_true p202
                    replace q202 := eq_true q202
                    go_wp2_with (first | ((with_reducible refine gate_callee (f := 16) rfl ?_); refine goesL_ (some 72) rfl rfl Tryd.func16 (by kernel_rfl) rfl #[.int .u32 a0, .int .i64 (rd t198 x12_2)] rfl (by (try simp only [List.map_toArray, List.map_cons, List.map_nil]); first | done | rfl | (simp only [List.length_drop, List.length_take]; rfl)) ?_; (with_reducible refine (mask_Place.calls a0 (rd t198 x12_2) t203 _ A25.out).mono ?_); rintro e w' ⟨rfl, ⟨nd, rfl⟩⟩; refine ⟨_, rfl, ?_⟩))
                    go_ret
                    exact ⟨by first | rfl | (simp [errW_none, errW_some] <;> rfl) | (simp [*, errW_none, errW_some] <;> rfl), by repeat (first | (with_reducible first | exact HB.out | apply below_alloc | apply pw_below_drewN | apply below_drew1) | exact HB.out)⟩
                · rw [if_neg c24] at H
                  exact absurd H (by simp)
              · rw [if_neg c23] at H
                have c23b0 : decide (x12_2 < (t198.length : Int)) = false := decide_eq_false c23
                clear c23
                replace H := Option.bind_eq_some_iff.mp H
                obtain ⟨t201, A320, H⟩ := H
                replace H : (some ((t198.length : Int) == t201)) = some r := H
                have A32 := Aside0.mk A320
                clear A320
                obtain rfl := Option.some.inj H
                obtain ⟨Ao33, co33, eo33⟩ := Kd.R_slice HO_11.out
                subst eo33
                go_wp2_with (first | ((with_reducible refine gate_callee (f := 10) rfl ?_); refine goesL_ (some 87) rfl rfl Tryd.func10 (by kernel_rfl) rfl #[.int .u32 a0] rfl (by (try simp only [List.map_toArray, List.map_cons, List.map_nil]); first | done | rfl | (simp only [List.length_drop, List.length_take]; rfl)) ?_; (with_reducible refine (mask_Count.calls a0 t201 _ A32.out).mono ?_); rintro e w' ⟨rfl, ⟨nd, rfl⟩⟩; refine ⟨_, rfl, ?_⟩))
                go_ret
                exact ⟨by first | rfl | (simp [errW_none, errW_some] <;> rfl) | (simp [*, errW_none, errW_some] <;> rfl), by repeat (first | (with_reducible first | exact HB.out | apply below_alloc | apply pw_below_drewN | apply below_drew1) | exact HB.out)⟩
  · replace c5 := Bool.eq_false_iff.mpr c5
    subst c5
    have H1 : (some false) = some r := by rw [if_neg (show ¬ (false = true) by decide)] at H; exact H
    clear H
    have H := H1
    clear H1
    obtain rfl := Option.some.inj H
    go_enter Tryd.func5, Tryd.ntmps5
    go_wp2_with (first | ((with_reducible refine gate_callee (f := 13) rfl ?_); refine goesL_ (some 13) rfl rfl Tryd.func13 (by kernel_rfl) rfl #[] rfl (by (try simp only [List.map_toArray, List.map_cons, List.map_nil]); first | done | rfl | (simp only [List.length_drop, List.length_take]; rfl)) ?_; (with_reducible refine (boscagelaw06_works.calls k  false _ A4.out (HT.out.below (by repeat (first | (with_reducible first | exact HB.out | apply below_alloc | apply pw_below_drewN | apply below_drew1) | exact HB.out)))).mono ?_); rintro e w34 ⟨rfl, hb⟩; refine ⟨_, rfl, ?_⟩; have n0_ := Aside0.mk (below_step (by repeat (first | (with_reducible first | exact HB.out | apply below_alloc | apply pw_below_drewN | apply below_drew1) | exact HB.out)) hb); clear HB; have HB := n0_; clear n0_; (try clear hb); (try clear hb2); (try clear hk); (try clear hi)))
    go_ret
    exact ⟨by first | rfl | (simp [errW_none, errW_some] <;> rfl) | (simp [*, errW_none, errW_some] <;> rfl), by repeat (first | (with_reducible first | exact HB.out | apply below_alloc | apply pw_below_drewN | apply below_drew1) | exact HB.out)⟩

def boscagelaw06_MaskChanges.Pure : Prop := ∀ (a0 : Int) (a1 : Int) (a2 : Int), (Lit.int .u32 a0).wf = true → (Lit.int .u8 a1).wf = true → (Lit.int .u8 a2).wf = true → ∃ k, boscagelaw06_MaskChanges.f k a0 a1 a2 = some true

end Go.Proofs.YtgpdodmljmanoaaDoor.PMsk
